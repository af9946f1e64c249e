/- Layer 28's laws: scripts, their subscribers, and how long they are; RecordBoth walked. -/
import Derived.Test.YtgmehadpfighbaaAlive28
import Derived.Test.YtgmehadpfighbaaRref2
import Derived.Test.YtgmehadpfighbaaArgOpen
set_option linter.unusedVariables false
set_option linter.unusedSimpArgs false
namespace Go.Proofs.Ytgmehadpfighbaa
open Go Go.RowKit

/-! ### 1. Arguments -/
theorem St.oldCells {w0 w : World} {L : List Assn} (h : St w0 (World.all w0) L w) {a : Addr} : ∀ {vs : List Value} {i : Nat}, cellsAt w0 a i vs → cellsAt w a i vs
  | [], _, _ => trivial
  | v :: r, i, hv => ⟨h.oldCell hv.1, St.oldCells h hv.2⟩
structure StepV where
  d : Int
  x : SubV
def StepV.cells (x : StepV) : List Value := .int .i64 x.d :: x.x.cells
def encStep : EncT Try.prog 35 6 StepV where
  cells := StepV.cells
  zero := ⟨0, SubV.zero⟩
  len _ := rfl
  one _ := rfl
  zeroOk := by kernel_rfl
  size := by kernel_rfl
abbrev ArgS (w0 : World) (A : Option Addr) (len : Nat) (l : List StepV) : Prop := ArgRow w0 6 StepV.cells A len l
abbrev EndT (w0 : World) : Ending → World → Prop := fun e w' => e = .returned (.bool true) ∧ ∃ L, St w0 (World.all w0) L w'
theorem tail_cells {w : World} {a : Addr} {v : Value} {vs : List Value} (h : cellsAt w a 0 (v :: vs)) : cellsAt w (a.add 1) 0 vs := by
  have key : ∀ (vs : List Value) (i : Nat), cellsAt w a (i + 1) vs → cellsAt w (a.add 1) i vs := by
    intro vs
    induction vs with
    | nil => intro _ _; trivial
    | cons x r ih =>
      intro i h
      refine ⟨?_, ih (i + 1) h.2⟩
      have h1 := h.1
      have e : (a.add 1).add i = a.add (i + 1) := by
        obtain ⟨b, o, v⟩ := a
        unfold Addr.add
        by_cases hi : i = 0
        · subst hi; rfl
        · rw [if_neg hi, if_neg (show ¬ (1 = 0) by decide), if_neg (show ¬ (i + 1 = 0) by omega)]
          simp only [Addr.mk.injEq, true_and, and_true]
          omega
      rw [e]
      exact h1
  exact key vs 0 h.2
section
variable {w0 w : World} {O : Nat → Prop} {L R : List Assn} {g : Nat} {s : FS} {A : Option Addr} {len c : Nat} {l : List StepV}
theorem of_ok (ha : ArgS w0 A len l) (hl : len ≤ 200) (h : St w0 (World.all w0) L w) : Calls Try.prog 6 #[.slice A len c] w fun e w' => ∃ B n d, e = .returned (.slice B n d) ∧ St w0 (World.all w0) (subsC B n d (l.map (·.x)) :: L) w' := by
  refine F6.calls ?_
  unfold F6.main
  have loop : ∀ (k i : Nat) (B : Option Addr) (n d : Nat) (w : World), k + i = len → St w0 (World.all w0) (subsC B n d ((l.take i).map (·.x)) :: L) w →
      SK Try.prog Try.f6 (fun e w' => ∃ B n d, e = .returned (.slice B n d) ∧ St w0 (World.all w0) (subsC B n d (l.map (·.x)) :: L) w') (cfg Try.f6 3) [(0, .slice A len c), (3, .slice B n d), (4, .int .i64 (i : Int))] w := by
    intro k
    induction k with
    | zero =>
      intro i B n d w hk h
      refine F6.p3_ok ?_
      unfold F6.p3
      rw [decide_eq_false (by omega), cond_false]
      rw [List.take_of_length_le (by have := ha.1; omega)] at h
      exact ⟨B, n, d, rfl, h⟩
    | succ k ih =>
      intro i B n d w hk h
      refine F6.p3_ok ?_
      unfold F6.p3
      rw [decide_eq_true (by omega), cond_true, decide_eq_true (by omega), cond_true]
      obtain ⟨y, hy⟩ : ∃ y, l[i]? = some y := ⟨l[i]'(by have := ha.1; omega), List.getElem?_eq_getElem _⟩
      obtain ⟨a, rfl, hc⟩ := ha.2 i y hy
      have hn := (sub_len h .here).1
      rw [List.length_map, List.length_take, ha.1] at hn
      refine ⟨⟨by omega, by omega⟩, ?_⟩
      simp only [nilck, Int.toNat_natCast]
      refine ⟨y.x.name, y.x.secret, y.x.plan, y.x.addr, y.x.susp, h.oldCells (tail_cells hc), ?_⟩
      refine bslE1 encSub elemSub y.x (by decide) h (fun gb w2 h2 => ?_)
      refine appE encSub elemSub _ y.x h2 (.there .here) (h2.cells0 .here) (by omega) (by decide) (fun B' d' w3 h3 => ?_)
      rw [nat_wrap (by omega)]
      refine ih (i + 1) B' (n + 1) d' w3 (by omega) ?_
      rw [List.take_add_one, hy, List.map_append]
      exact h3.sel 2 [0]
  exact loop len 0 none 0 0 w rfl (rowS_nil encSub h)
theorem Long_ok {B : Option Addr} {n d : Nat} {m : List SubV} (h : St w0 O (subsC B n d m :: L) w) : Calls Try.prog 5 #[.slice B n d] w fun e w' => ∃ b, e = .returned (.bool b) ∧ St w0 O (subsC B n d m :: L) w' := by
  refine F5.calls ?_
  unfold F5.main
  have hlen := (sub_len h .here).1
  have fin : ∀ (z : Int) (w : World), St w0 O (subsC B n d m :: L) w → SK Try.prog Try.f5 (fun e w' => ∃ b, e = .returned (.bool b) ∧ St w0 O (subsC B n d m :: L) w') (cfg Try.f5 6) [(0, .slice B n d), (3, .int .i64 z)] w := by
    intro z w h
    refine F5.p6_ok ?_
    unfold F5.p6
    cases decide (((n : Nat) : Int) > 100) with
    | true => exact ⟨_, rfl, h⟩
    | false => exact ⟨_, rfl, h⟩
  have loop : ∀ (k i : Nat) (z : Int) (w : World), k + i = 200 → St w0 O (subsC B n d m :: L) w → SK Try.prog Try.f5 (fun e w' => ∃ b, e = .returned (.bool b) ∧ St w0 O (subsC B n d m :: L) w') (cfg Try.f5 3) [(0, .slice B n d), (3, .int .i64 z), (4, .int .i64 (i : Int))] w := by
    intro k
    induction k with
    | zero =>
      intro i z w hk h
      refine F5.p3_ok ?_
      unfold F5.p3
      rw [decide_eq_false (show ¬ (i : Int) < 200 by omega), cond_false]
      cases decide ((i : Int) < ((n : Nat) : Int)) with
      | true => exact fin z w h
      | false => exact fin z w h
    | succ k ih =>
      intro i z w hk h
      refine F5.p3_ok ?_
      unfold F5.p3
      by_cases hi : i < n
      · rw [decide_eq_true (by omega), cond_true, decide_eq_true (by omega), cond_true]
        refine F5.p5_ok ?_
        unfold F5.p5
        have h1 := h.drew
        obtain ⟨x, hx⟩ : ∃ x, m[i]? = some x := ⟨m[i], List.getElem?_eq_getElem (by omega)⟩
        obtain ⟨gr, hB, _, hc⟩ := sub_at h1 .here hx
        simp only [idxck, hB, nilck, add_eq, Int.toNat_natCast, Nat.zero_add]
        refine ⟨⟨by omega, by omega⟩, x.name, cell_of hc (i := 0) rfl, ⟨by omega, by omega⟩, ?_⟩
        refine ⟨x.secret, cell_of hc (i := 1) rfl, ⟨by omega, by omega⟩, ?_⟩
        refine ⟨x.plan, cell_of hc (i := 2) rfl, ?_⟩
        rw [nat_wrap (by omega), ← hB]
        exact ih (i + 1) _ _ (by omega) h1
      · rw [decide_eq_false (by omega), cond_false]
        exact fin z w h
  exact loop 200 0 0 w rfl h
/-! ### 2. RecordBoth -/
theorem bl_not {a b : ByteArray} (h : ltB a b = true) : (Op.bytesLess (ByteArray.toList b) (ByteArray.toList a) || (ByteArray.toList b == ByteArray.toList a)) = false := by
  rw [Bool.or_eq_false_iff]
  refine ⟨linB.asym h, ?_⟩
  rw [← beq_toListBytes, ba_beq]
  exact decide_eq_false (fun e => linB.ne h e.symm)
abbrev BothNext (w0 : World) (mo : Int) (A : Option Addr) (len c i : Nat) : Prop := ∀ (g : Nat) (s : FS) (L : List Assn) (w : World), s.most = 1 + mo → St w0 (World.all w0) (isF g s :: L) w →
  SK Try.prog Try.f3 (EndT w0) (cfg Try.f3 7) [(0, .int .u8 mo), (1, .slice A len c), (5, .pointer (some ⟨g, 0, none⟩)), (7, .int .i64 (i : Int))] w
theorem both_each {mo : Int} {i : Nat} (hi : i < 1000) (next : BothNext w0 mo A len c (i + 1)) (hm : s.most = 1 + mo) {B : Option Addr} {n d : Nat} : ∀ (k j : Nat) (L : List Assn) (w : World), k + j = n → St w0 (World.all w0) (isF g s :: subsC B n d s.subs :: L) w →
    SK Try.prog Try.f3 (EndT w0) (cfg Try.f3 27) [(0, .int .u8 mo), (1, .slice A len c), (5, .pointer (some ⟨g, 0, none⟩)), (7, .int .i64 (i : Int)), (15, .slice B n d), (16, .int .i64 (j : Int))] w := by
  intro k
  induction k with
  | zero =>
    intro j L w hk h
    refine F3.p27_ok ?_
    unfold F3.p27
    rw [decide_eq_false (by omega), cond_false, nat_wrap (by omega)]
    exact next g s _ w hm h
  | succ k ih =>
    intro j L w hk h
    have hF := isF_pure h
    have hlen := (sub_len h (.there .here)).1
    have hl256 := hF.len
    have hm2 := hF.m2
    refine F3.p27_ok ?_
    unfold F3.p27
    rw [decide_eq_true (by omega), cond_true]
    obtain ⟨x, hx⟩ : ∃ x, s.subs[j]? = some x := ⟨s.subs[j], List.getElem?_eq_getElem (by omega)⟩
    have hxm := List.mem_of_getElem? hx
    obtain ⟨gr, hB, _, hc⟩ := sub_at h (.there .here) hx
    simp only [idxck, hB, nilck, add_eq, Int.toNat_natCast, Nat.zero_add]
    refine ⟨⟨by omega, by omega⟩, x.name, cell_of hc (i := 0) rfl, ?_⟩
    refine (Of_ok h x.name).mono ?_
    rintro e w1 ⟨rfl, h1⟩
    rw [show ofS s x.name = some x from getR_mem (hF.ris.keys linB) hxm]
    refine .inl ⟨_, _, _, _, _, _, rfl, ?_⟩
    refine allocSub h1 (fun g17 w2 h2 => ?_)
    refine stSub x h2 .here (fun w3 h3 => ?_)
    obtain ⟨gr3, hB3, _, hc3⟩ := sub_at h3 (.there (.there .here)) hx
    obtain rfl : gr3 = gr := by rw [hB] at hB3; cases hB3; rfl
    refine ⟨⟨by omega, by omega⟩, x.addr, cell_of hc3 (i := 3) rfl, ?_⟩
    refine (At_ok (h3.pick (.there .here)) x.addr).mono ?_
    rintro e w4 ⟨rfl, h4⟩
    rw [show atS s x.addr = some x from getR_mem hF.addrs hxm]
    refine .inl ⟨_, _, _, _, _, _, rfl, ?_⟩
    refine allocSub h4 (fun g19 w5 h5 => ?_)
    refine stSub x h5 .here (fun w6 h6 => ?_)
    simp only [Option.isSome, Bool.not_true, cond_false]
    have h7 := h6.drew
    obtain ⟨gr7, hB7, _, hc7⟩ := sub_at h7 (.there (.there (.there .here))) hx
    obtain rfl : gr7 = gr3 := by rw [hB] at hB7; cases hB7; rfl
    refine ⟨x.name, x.secret, x.plan, x.addr, x.susp, h7.cells0 (vs := x.cells) (.there (.there .here)), ⟨by omega, by omega⟩, x.name, x.secret, x.plan, x.addr, x.susp, hc7, ?_⟩
    rw [subEq x x, decide_eq_true rfl]
    simp only [Bool.not_true, cond_false]
    refine ⟨x.name, x.secret, x.plan, x.addr, x.susp, h7.cells0 (vs := x.cells) .here, ⟨by omega, by omega⟩, x.name, x.secret, x.plan, x.addr, x.susp, hc7, ?_⟩
    rw [subEq x x, decide_eq_true rfl]
    simp only [Bool.not_true, cond_false]
    have fin2 : ∀ (K : Ending → World → Prop), (∀ w7, SK Try.prog Try.f3 (EndT w0) (cfg Try.f3 27) [(0, .int .u8 mo), (1, .slice A len c), (5, .pointer (some ⟨g, 0, none⟩)), (7, .int .i64 (i : Int)), (15, .slice B n d), (16, .int .i64 (IntKind.wrap .i64 ((j : Int) + 1)))] w7 → K (.returned (.int .i64 0)) w7) → Calls Try.prog 16 #[x.enc] (World.drew w6) K := by
      intro K hK
      refine (Check_ok h7 x).mono ?_
      rintro e w8 ⟨rfl, h8⟩
      rw [if_pos (hF.chk x hxm)]
      refine hK w8 ?_
      rw [nat_wrap (by omega)]
      exact ih (j + 1) _ w8 (by omega) (h8.sel 4 [1, 3, 0, 2])
    by_cases hj0 : j = 0
    · rw [decide_eq_false (by omega), cond_false]
      refine ⟨⟨by omega, by omega⟩, x.name, x.secret, x.plan, x.addr, x.susp, hc7, ?_⟩
      rw [← hB]
      exact fin2 _ fun w7 h => .inl ⟨_, rfl, h⟩
    · rw [decide_eq_true (by omega), cond_true]
      refine ⟨⟨by omega, by omega⟩, x.name, cell_of hc7 (i := 0) rfl, ?_⟩
      obtain ⟨y, hy⟩ : ∃ y, s.subs[j - 1]? = some y := ⟨s.subs[j - 1], List.getElem?_eq_getElem (by omega)⟩
      obtain ⟨gry, hBy, _, hcy⟩ := sub_at h7 (.there (.there (.there .here))) hy
      obtain rfl : gry = gr7 := by rw [hB] at hBy; cases hBy; rfl
      rw [show IntKind.wrap .i64 ((j : Int) - 1) = ((j - 1 : Nat) : Int) from by rw [wrap_i64 (by omega) (by omega)]; omega]
      refine ⟨⟨by omega, by omega⟩, y.name, ?_, ?_⟩
      · rw [Int.toNat_natCast]; exact cell_of hcy (i := 0) rfl
      have hlt : ltB y.name x.name = true := by
        have := List.pairwise_iff_getElem.1 hF.ris (j - 1) j (by omega) (by omega) (by omega)
        rw [List.getElem?_eq_getElem (by omega)] at hx hy
        rw [Option.some.inj hx, Option.some.inj hy] at this
        exact this
      rw [bl_not hlt, cond_false]
      refine ⟨⟨by omega, by omega⟩, x.name, x.secret, x.plan, x.addr, x.susp, hc7, ?_⟩
      rw [← hB]
      exact fin2 _ fun w7 h => .inl ⟨_, rfl, h⟩
theorem both_check {mo : Int} {i : Nat} (hi : i < 1000) (next : BothNext w0 mo A len c (i + 1)) (hm : s.most = 1 + mo) (hmo : 0 ≤ mo ∧ mo < 256) {B : Option Addr} {n d : Nat} {was : List SubV} {ec : Int} (hec : ec ≠ 0 → s.subs = was)
    (h : St w0 (World.all w0) (isF g s :: subsC B n d was :: L) w) (hn : n < 2 ^ 30) :
    SK Try.prog Try.f3 (EndT w0) (cfg Try.f3 23) [(0, .int .u8 mo), (1, .slice A len c), (5, .pointer (some ⟨g, 0, none⟩)), (7, .int .i64 (i : Int)), (9, .slice B n d), (10, .int .i64 ec)] w := by
  have hF := isF_pure h
  have hl256 := hF.len
  have hm2 := hF.m2
  refine F3.p23_ok ?_
  unfold F3.p23
  refine (List_ok h).mono ?_
  rintro e w1 ⟨D, m, c', rfl, h1⟩
  refine .inl ⟨_, _, _, rfl, ?_⟩
  have hm1 := (sub_len h1 .here).1
  rw [wrap_i64 (n := mo) (by omega) (by omega), wrap_i64 (n := 1 + mo) (by omega) (by omega)]
  have rest : ∀ w1, St w0 (World.all w0) (isF g s :: subsC D m c' s.subs :: subsC B n d was :: L) w1 → Calls Try.prog 15 #[.pointer (some ⟨g, 0, none⟩)] w1 (fun en w20 => (∃ n', en = .returned (.int .i64 n') ∧ (bif (n' != ((m : Nat) : Int)) then (EndT w0 (.returned (.bool false)) w20) else SK Try.prog Try.f3 (EndT w0) (cfg Try.f3 27) [(0, .int .u8 mo), (1, .slice A len c), (5, .pointer (some ⟨g, 0, none⟩)), (7, .int .i64 (i : Int)), (15, .slice D m c'), (16, .int .i64 0)] w20)) ∨ ∃ ch, en = .panicked ch ∧ EndT w0 (.panicked ch) w20) := by
    intro w1 h2
    refine (Len_ok h2).mono ?_
    rintro e w3 ⟨rfl, h3⟩
    refine .inl ⟨_, rfl, ?_⟩
    rw [show (((s.subs.length : Nat) : Int) != ((m : Nat) : Int)) = false from by rw [hm1]; simp, cond_false]
    exact both_each hi next hm m 0 _ w3 rfl h3
  by_cases he : ec = 0
  · rw [show (ec != 0) = false from by simpa using he, cond_false, decide_eq_false (by omega), cond_false]
    exact rest w1 (h1.pick (.there .here))
  · rw [show (ec != 0) = true from by simpa using he, cond_true]
    refine (Same_ok (h1.sel 3 [0, 2, 1]) (by omega)).mono ?_
    rintro e w2 ⟨rfl, h2⟩
    refine .inl ⟨_, rfl, ?_⟩
    rw [decide_eq_true (hec he)]
    simp only [Bool.not_true, cond_false]
    rw [decide_eq_false (by omega), cond_false]
    exact rest w2 (h2.sel 3 [2, 0, 1])
theorem both_round {mo : Int} (hmo : 0 ≤ mo ∧ mo < 256) (ha : ArgS w0 A len l) (hl : len ≤ 60) : ∀ (k i : Nat), k + i = len → BothNext w0 mo A len c i := by
  intro k
  induction k with
  | zero =>
    intro i hk g s L w hm h
    refine F3.p7_ok ?_
    unfold F3.p7
    rw [decide_eq_false (by omega), cond_false]
    refine (alive_ok h).mono ?_
    rintro e w1 ⟨rfl, h1⟩
    exact .inl ⟨_, rfl, rfl, _, h1⟩
  | succ k ih =>
    intro i hk g s L w hm h
    have next := ih (i + 1) (by omega)
    have hF := isF_pure h
    have hl256 := hF.len
    have hm2 := hF.m2
    refine F3.p7_ok ?_
    unfold F3.p7
    rw [decide_eq_true (by omega), cond_true]
    obtain ⟨y, hy⟩ : ∃ y, l[i]? = some y := ⟨l[i]'(by have := ha.1; omega), List.getElem?_eq_getElem _⟩
    obtain ⟨a, rfl, hc⟩ := ha.2 i y hy
    obtain ⟨dn, x⟩ := y
    refine ⟨⟨by omega, by omega⟩, ?_⟩
    simp only [nilck, Int.toNat_natCast]
    refine ⟨dn, x.name, x.secret, x.plan, x.addr, x.susp, h.oldCells hc, ?_⟩
    refine allocE encStep h (fun g8 w2 h2 => ?_)
    refine stE encStep (cs := StepV.cells ⟨0, SubV.zero⟩) rfl h2 .here ⟨dn, x⟩ (fun w3 h3 => ?_)
    have h3 : St w0 (World.all w0) (blk g8 (.cells (StepV.cells ⟨dn, x⟩).toArray 35) :: isF g s :: L) w3 := h3
    refine (List_ok (h3.pick (.there .here))).mono ?_
    rintro e w4 ⟨B, n, d, rfl, h4⟩
    refine .inl ⟨_, _, _, rfl, ?_⟩
    have hn := (sub_len h4 .here).1
    refine ⟨dn, h4.cell (.there (.there .here)) rfl, ?_⟩
    by_cases d0 : dn = 0
    · rw [show (dn == 0) = true from by simpa using d0, cond_true]
      refine ⟨x.name, x.secret, x.plan, x.addr, x.susp, h4.cells (vs := x.cells) (.there (.there .here)) (fun j v hj => ?_), ?_⟩
      · rw [Nat.add_comm]; simpa [StepV.cells] using hj
      refine (Put_ok (h4.pick (.there .here)) x).mono ?_
      rintro e w5 ⟨rfl, h5⟩
      refine .inl ⟨_, rfl, x.addr, h5.cell (.there (.there .here)) rfl, ?_⟩
      refine (At_ok h5 x.addr).mono ?_
      rintro e w6 ⟨rfl, h6⟩
      refine .inl ⟨_, _, _, _, _, _, rfl, ?_⟩
      have hFp := wF_put hF x
      have hpm : (putS s x).most = 1 + mo := by unfold putS; split <;> exact hm
      have hsame : putE s x ≠ 0 → (putS s x).subs = s.subs := fun he => by unfold putS; rw [if_neg he]
      generalize hat : atS (putS s x) x.addr = at_
      refine allocSub h6 (fun g11 w7 h7 => ?_)
      refine stSub (at_.getD SubV.zero) h7 .here (fun w8 h8 => ?_)
      have go : SK Try.prog Try.f3 (EndT w0) (cfg Try.f3 23) [(0, .int .u8 mo), (1, .slice (some a) len c), (5, .pointer (some ⟨g, 0, none⟩)), (7, .int .i64 (i : Int)), (9, .slice B n d), (10, .int .i64 (putE s x))] w8 :=
        both_check (by omega) next hpm hmo hsame (h8.sel 3 [1, 2]) (by omega)
      have c9 : putE s x = 9 → ∃ z, at_ = some z ∧ z.name ≠ x.name := fun he => by
        have hs : putS s x = s := by unfold putS; rw [if_neg (by rw [he]; decide)]
        rw [hs] at hat
        have ho : otherS s x = true := by
          unfold putE at he
          split at he
          · cases he
          · split at he
            · assumption
            · split at he <;> cases he
        unfold otherS at ho
        rw [hat] at ho
        cases at_ with
        | none => cases ho
        | some z => exact ⟨z, rfl, by simpa using ho⟩
      by_cases e0 : putE s x = 0
      · have hx : at_ = some x := by
          rw [← hat]
          have hs : putS s x = ⟨s.most, putR ltB SubV.name s.subs x⟩ := if_pos e0
          rw [hs] at hFp ⊢
          exact (getR_some hFp.addrs).2 ⟨(mem_put linB).2 (.inl rfl), rfl⟩
        subst hx
        rw [e0] at go ⊢
        simp only [show ((0 : Int) == 0) = true from rfl, cond_true, Option.isSome, Bool.not_true, cond_false]
        refine ⟨x.name, x.secret, x.plan, x.addr, x.susp, h8.cells0 (vs := x.cells) .here, x.name, x.secret, x.plan, x.addr, x.susp, h8.cells (vs := x.cells) (.there (.there (.there .here))) (fun j v hj => ?_), ?_⟩
        · rw [Nat.add_comm]; simpa [StepV.cells] using hj
        rw [subEq x x, decide_eq_true rfl]
        simp only [Bool.not_true, cond_false, show ((0 : Int) == 9) = false from rfl]
        exact go
      · rw [show (putE s x == 0) = false from by simpa using e0, cond_false]
        by_cases e9 : putE s x = 9
        · obtain ⟨z, rfl, hz⟩ := c9 e9
          rw [e9] at go ⊢
          simp only [show ((9 : Int) == 9) = true from rfl, cond_true, Option.isSome, Bool.not_true, cond_false]
          refine ⟨z.name, h8.cell .here rfl, x.name, h8.cell (.there (.there (.there .here))) rfl, ?_⟩
          rw [ba_beq, decide_eq_false hz, cond_false]
          exact go
        · rw [show (putE s x == 9) = false from by simpa using e9, cond_false]
          exact go
    rw [show (dn == 0) = false from by simpa using d0, cond_false]
    by_cases d1 : dn = 1
    · rw [show (dn == 1) = true from by simpa using d1, cond_true]
      refine ⟨x.name, h4.cell (.there (.there .here)) rfl, ?_⟩
      refine (Del_ok (h4.pick (.there .here)) x.name).mono ?_
      rintro e w5 ⟨rfl, h5⟩
      refine .inl ⟨_, rfl, x.name, h5.cell (.there (.there .here)) rfl, ?_⟩
      refine (Of_ok h5 x.name).mono ?_
      rintro e w6 ⟨rfl, h6⟩
      have hno : ofS (delS s x.name) x.name = none := getR_none.2 fun y hy => (mem_del.1 hy).2
      rw [hno]
      refine .inl ⟨_, _, _, _, _, _, rfl, ?_⟩
      refine allocSub h6 (fun g13 w7 h7 => ?_)
      refine stSub SubV.zero h7 .here (fun w8 h8 => ?_)
      simp only [Option.isSome, cond_false]
      refine both_check (s := delS s x.name) (by omega) next hm hmo (fun he => ?_) (h8.sel 3 [1, 2]) (by omega)
      unfold delE at he
      have : ofS s x.name = none := by
        cases ho : ofS s x.name with
        | none => rfl
        | some z => rw [ho] at he; exact absurd rfl he
      exact del_none this
    · rw [show (dn == 1) = false from by simpa using d1, cond_false]
      exact both_check (by omega) next hm hmo (fun h => absurd rfl h) (h4.sel 2 [1, 0]) (by omega)
theorem both_law {mo : Int} (hmo : (Lit.int .u8 mo).wf = true) (ha : ArgS w A len l) : Calls Try.prog 3 #[.int .u8 mo, .slice A len c] w (EndT w) := by
  have h := St.refl w
  have hm : 0 ≤ mo ∧ mo < 256 := by
    simp [Lit.wf, IntKind.min, IntKind.max, IntKind.signed, IntKind.bits] at hmo
    omega
  refine F3.calls ?_
  unfold F3.main
  by_cases c1 : len ≤ 60
  · rw [decide_eq_false (by omega), cond_false]
    refine (of_ok ha (by omega) h).mono ?_
    rintro e w1 ⟨B, n, d, rfl, h1⟩
    refine .inl ⟨_, _, _, rfl, ?_⟩
    refine (Long_ok h1).mono ?_
    rintro e w2 ⟨b, rfl, h2⟩
    refine .inl ⟨_, rfl, ?_⟩
    cases b with
    | true =>
      rw [cond_true]
      refine (alive_ok h2).mono ?_
      rintro e w3 ⟨rfl, h3⟩
      exact .inl ⟨_, rfl, rfl, _, h3⟩
    | false =>
      rw [cond_false]
      refine F3.p3_ok ?_
      unfold F3.p3
      rw [wrap_i64 (n := mo) (by omega) (by omega), wrap_i64 (n := 1 + mo) (by omega) (by omega)]
      refine (New_ok h2 (1 + mo)).mono ?_
      rintro e w3 (⟨hn, _⟩ | ⟨_, g, rfl, h3⟩)
      · exact absurd (by omega) hn
      refine .inl ⟨_, _, rfl, ?_⟩
      simp only [show ((0 : Int) != 0) = false from rfl, cond_false, Option.isNone]
      exact both_round hm ha c1 len 0 rfl g _ _ w3 rfl h3
  · rw [decide_eq_true (by omega), cond_true]
    refine (alive_ok h).mono ?_
    rintro e w1 ⟨rfl, h1⟩
    exact .inl ⟨_, rfl, rfl, _, h1⟩
end
end Go.Proofs.Ytgmehadpfighbaa
