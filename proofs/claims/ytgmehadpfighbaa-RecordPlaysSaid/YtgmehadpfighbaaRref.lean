/- The document's file: a row that rises by names. -/
import Derived.Test.YtgmehadpfighbaaRec2
import Derived.Test.YtgmehadpfighbaaRisB
set_option linter.unusedVariables false
set_option linter.unusedSimpArgs false
namespace Go.Proofs.Ytgmehadpfighbaa
open Go Go.RowKit

/-! ### 1. The state: a most, a row; at a place of a block -/
def refF (g off : Nat) (t : TypeId) (cs0 : Array Value) (most : Int) (l : List SubV) : Assn := fun h => ∃ A n c, (off + 1 < cs0.size ∧ cs0[off]? = some (.int .i64 most) ∧ l.length < 2 ^ 20) ∧ stars [blk g (.cells (cs0.setIfInBounds (off + 1) (.slice A n c)) t), subsC A n c l] h
attribute [irreducible] refF
section
variable {w0 w : World} {O : Nat → Prop} {L R : List Assn} {g off : Nat} {t : TypeId} {cs0 : Array Value} {most : Int} {l : List SubV}
theorem refF_open (h : St w0 O (refF g off t cs0 most l :: L) w) : ∃ A n c, (off + 1 < cs0.size ∧ cs0[off]? = some (.int .i64 most) ∧ l.length < 2 ^ 20) ∧ St w0 O (blk g (.cells (cs0.setIfInBounds (off + 1) (.slice A n c)) t) :: subsC A n c l :: L) w := by
  unfold refF at h
  obtain ⟨A, h⟩ := h.ex
  obtain ⟨n, h⟩ := h.ex
  obtain ⟨c, h⟩ := h.ex
  obtain ⟨hp, h⟩ := h.pure
  exact ⟨A, n, c, hp, h.flat⟩
theorem refF_shut {A : Option Addr} {n c : Nat} (h1 : off + 1 < cs0.size) (h2 : cs0[off]? = some (.int .i64 most)) (h3 : l.length < 2 ^ 20) (h : St w0 O (blk g (.cells (cs0.setIfInBounds (off + 1) (.slice A n c)) t) :: subsC A n c l :: L) w) : St w0 O (refF g off t cs0 most l :: L) w :=
  St.make (M := [blk g (.cells (cs0.setIfInBounds (off + 1) (.slice A n c)) t), subsC A n c l]) h fun k hk => by unfold refF; exact ⟨A, n, c, ⟨h1, h2, h3⟩, hk⟩
theorem sl_at {A : Option Addr} {n c : Nat} (h1 : off + 1 < cs0.size) : (cs0.setIfInBounds (off + 1) (.slice A n c))[off + 1]? = some (.slice A n c) := by simp [h1]
theorem most_at {A : Option Addr} {n c : Nat} (h2 : cs0[off]? = some (.int .i64 most)) : (cs0.setIfInBounds (off + 1) (.slice A n c))[off]? = some (.int .i64 most) := by
  rw [Array.getElem?_setIfInBounds_ne (by omega)]; exact h2
/-- Element j of a row of subscribers. -/
theorem sub_at {A : Option Addr} {n c : Nat} (h : St w0 O L w) (p : Pick (subsC A n c l) L R) {j : Nat} {x : SubV} (hx : l[j]? = some x) : ∃ gr, A = some ⟨gr, 0, none⟩ ∧ j < n ∧ cellsAt w ⟨gr, j * 5, none⟩ 0 x.cells := rowS_at encSub (by decide) h p hx
theorem sub_len {A : Option Addr} {n c : Nat} (h : St w0 O L w) (p : Pick (subsC A n c l) L R) : l.length = n ∧ n ≤ c := rowS_len encSub (by decide) (h.pick p)
theorem cell_of {vs : List Value} {gr o : Nat} (hc : cellsAt w ⟨gr, o, none⟩ 0 vs) {i : Nat} {v : Value} (hv : vs[i]? = some v) : w.cell? ⟨gr, o + i, none⟩ = some v := by
  have key : ∀ (vs : List Value) (k : Nat), cellsAt w ⟨gr, o, none⟩ k vs → ∀ i v, vs[i]? = some v → w.cell? ⟨gr, o + (k + i), none⟩ = some v := by
    intro vs
    induction vs with
    | nil => intro k _ i v h; simp at h
    | cons x r ih =>
      intro k h i v hv
      cases i with
      | zero => cases hv; have := h.1; rw [add_eq] at this; exact this
      | succ i =>
        have := ih (k + 1) h.2 i v (by simpa using hv)
        rw [show k + (i + 1) = k + 1 + i from by omega]
        exact this
  have := key vs 0 hc i v hv
  rwa [Nat.zero_add] at this
theorem nat_wrap {i : Nat} (h : i < 2 ^ 62) : IntKind.wrap .i64 ((i : Int) + 1) = ((i + 1 : Nat) : Int) := by rw [wrap_i64 (by omega) (by omega)]; rfl
/-! ### 2. Where a name stands -/
def posR (l : List SubV) (n : ByteArray) : Nat := (lowR ltB SubV.name l n).length
theorem pos_le (l : List SubV) (n : ByteArray) : posR l n ≤ l.length := List.length_filter_le _ _
theorem refAt_ok (hR : Ris ltB SubV.name l) (h : St w0 O (refF g off t cs0 most l :: L) w) (n : ByteArray) : Calls Try.prog 31 #[.pointer (some ⟨g, off, none⟩), .string n] w fun e w' =>
    e = .returned (.tuple #[.int .i64 (posR l n : Int), .bool (getR SubV.name l n).isSome]) ∧ St w0 O (refF g off t cs0 most l :: L) w' := by
  obtain ⟨A, m, c, ⟨b1, b2, b3⟩, h1⟩ := refF_open h
  refine F31.calls ?_
  unfold F31.main
  have hlen := (sub_len h1 (.there .here)).1
  have stop : ∀ w, St w0 O (blk g (.cells (cs0.setIfInBounds (off + 1) (.slice A m c)) t) :: subsC A m c l :: L) w → SK Try.prog Try.f31 (fun e w' => e = .returned (.tuple #[.int .i64 (posR l n : Int), .bool (getR SubV.name l n).isSome]) ∧ St w0 O (refF g off t cs0 most l :: L) w')
      (cfg Try.f31 4) [(0, .pointer (some ⟨g, off, none⟩)), (1, .string n), (6, .int .i64 (posR l n : Int))] w := by
    intro w h1
    refine F31.p4_ok ?_
    unfold F31.p4
    simp only [nilck, add_eq]
    have h2 := h1.drew
    refine ⟨A, m, c, h2.cell .here (sl_at b1), ?_⟩
    have hs := stop_at (k := n) linB hR
    by_cases hlt : posR l n < l.length
    · rw [decide_eq_true (by omega), cond_true]
      refine ⟨A, m, c, h2.cell .here (sl_at b1), ?_⟩
      obtain ⟨x, hx⟩ : ∃ x, l[posR l n]? = some x := ⟨l[posR l n], List.getElem?_eq_getElem hlt⟩
      obtain ⟨gr, rfl, hj, hc⟩ := sub_at h2 (.there .here) hx
      refine ⟨⟨by omega, by omega⟩, ?_⟩
      simp only [nilck, add_eq, Int.toNat_natCast, Nat.zero_add]
      refine ⟨x.name, cell_of hc (i := 0) rfl, ?_⟩
      rw [show posR l n = (lowR ltB SubV.name l n).length from rfl, hs] at hx
      have e : (x.name == n) = (getR SubV.name l n).isSome := by
        rw [ba_beq]
        cases hg : getR SubV.name l n with
        | none =>
          rw [hg] at hx
          simp only [Option.or] at hx
          have hm := List.mem_of_mem_head? hx
          exact decide_eq_false (fun e => linB.ne (mem_top.1 hm).2 e.symm)
        | some y =>
          rw [hg] at hx
          cases hx
          exact decide_eq_true (getR_some' hg).2
      rw [e]
      exact ⟨rfl, refF_shut b1 b2 b3 h2⟩
    · rw [decide_eq_false (by omega), cond_false]
      rw [show l[(lowR ltB SubV.name l n).length]? = none from List.getElem?_eq_none (by have : posR l n = (lowR ltB SubV.name l n).length := rfl; omega)] at hs
      have e : getR SubV.name l n = none := by
        cases hg : getR SubV.name l n with
        | none => rfl
        | some y => rw [hg] at hs; simp at hs
      rw [e]
      exact ⟨rfl, refF_shut b1 b2 b3 h2⟩
  have loop : ∀ (k i : Nat) (w : World), k + i = posR l n → St w0 O (blk g (.cells (cs0.setIfInBounds (off + 1) (.slice A m c)) t) :: subsC A m c l :: L) w → SK Try.prog Try.f31 (fun e w' => e = .returned (.tuple #[.int .i64 (posR l n : Int), .bool (getR SubV.name l n).isSome]) ∧ St w0 O (refF g off t cs0 most l :: L) w')
      (cfg Try.f31 2) [(0, .pointer (some ⟨g, off, none⟩)), (1, .string n), (6, .int .i64 (i : Int))] w := by
    intro k
    induction k with
    | zero =>
      intro i w hk h1
      obtain rfl : i = posR l n := by omega
      refine F31.p2_ok ?_
      unfold F31.p2
      simp only [nilck, add_eq]
      refine ⟨A, m, c, h1.cell .here (sl_at b1), ?_⟩
      by_cases hlt : posR l n < l.length
      · rw [decide_eq_true (by omega), cond_true]
        refine ⟨A, m, c, h1.cell .here (sl_at b1), ?_⟩
        obtain ⟨x, hx⟩ : ∃ x, l[posR l n]? = some x := ⟨l[posR l n], List.getElem?_eq_getElem hlt⟩
        obtain ⟨gr, rfl, hj, hc⟩ := sub_at h1 (.there .here) hx
        refine ⟨⟨by omega, by omega⟩, ?_⟩
        simp only [nilck, add_eq, Int.toNat_natCast, Nat.zero_add]
        refine ⟨x.name, cell_of hc (i := 0) rfl, ?_⟩
        have hs := stop_at (k := n) linB hR
        rw [show (lowR ltB SubV.name l n).length = posR l n from rfl, hx] at hs
        have e : ltB x.name n = false := by
          cases hg : getR SubV.name l n with
          | none =>
            rw [hg] at hs
            have hm := List.mem_of_mem_head? hs.symm
            exact linB.asym (mem_top.1 hm).2
          | some y =>
            rw [hg] at hs
            cases hs
            rw [(getR_some' hg).2]
            exact linB.irr _
        change bif ltB x.name n then _ else _
        rw [e, cond_false]
        exact stop w h1
      · rw [decide_eq_false (by omega), cond_false]
        exact stop w h1
    | succ k ih =>
      intro i w hk h1
      refine F31.p2_ok ?_
      unfold F31.p2
      simp only [nilck, add_eq]
      refine ⟨A, m, c, h1.cell .here (sl_at b1), ?_⟩
      have hp := pos_le l n
      rw [decide_eq_true (by omega), cond_true]
      refine ⟨A, m, c, h1.cell .here (sl_at b1), ?_⟩
      obtain ⟨x, hx, hlo⟩ := low_at (k := n) linB hR (i := i) (by show i < posR l n; omega)
      obtain ⟨gr, rfl, hj, hc⟩ := sub_at h1 (.there .here) hx
      refine ⟨⟨by omega, by omega⟩, ?_⟩
      simp only [nilck, add_eq, Int.toNat_natCast, Nat.zero_add]
      refine ⟨x.name, cell_of hc (i := 0) rfl, ?_⟩
      change bif ltB x.name n then _ else _
      rw [hlo, cond_true, nat_wrap (by omega)]
      exact ih (i + 1) w (by omega) h1
  exact loop (posR l n) 0 w rfl h1
/-! ### 3. Of, At -/
theorem refOf_ok (hR : Ris ltB SubV.name l) (h : St w0 O (refF g off t cs0 most l :: L) w) (n : ByteArray) : Calls Try.prog 22 #[.pointer (some ⟨g, off, none⟩), .string n] w fun e w' =>
    e = .returned (optV (getR SubV.name l n)) ∧ St w0 O (refF g off t cs0 most l :: L) w' := by
  refine F22.calls ?_
  unfold F22.main
  refine allocSub h (fun g4 w2 h2 => ?_)
  refine (refAt_ok hR (h2.pick (.there .here)) n).mono ?_
  rintro e w3 ⟨rfl, h3⟩
  refine .inl ⟨_, _, rfl, ?_⟩
  cases hg : getR SubV.name l n with
  | none =>
    simp only [Option.isSome, Bool.not_false, cond_true]
    refine stSub SubV.zero h3 (.there .here) (fun w5 h5 => ?_)
    refine ⟨eB, eB, eB, 0, false, h5.cells0 (vs := SubV.zero.cells) .here, rfl, h5.drop⟩
  | some x =>
    simp only [Option.isSome, Bool.not_true, cond_false, nilck, add_eq]
    obtain ⟨A, m, c, ⟨b1, b2, b3⟩, h4⟩ := refF_open h3
    refine ⟨A, m, c, h4.cell .here (sl_at b1), ?_⟩
    have hs := stop_at (k := n) linB hR
    rw [hg] at hs
    obtain ⟨gr, rfl, hj, hc⟩ := sub_at h4 (.there .here) hs
    have hj : posR l n < m := hj
    have hc : cellsAt w3 ⟨gr, posR l n * 5, none⟩ 0 x.cells := hc
    refine ⟨⟨by omega, by omega⟩, ?_⟩
    simp only [nilck, add_eq, Int.toNat_natCast, Nat.zero_add]
    refine ⟨x.name, x.secret, x.plan, x.addr, x.susp, hc, ?_⟩
    refine stSub x h4 (.there (.there .here)) (fun w5 h5 => ?_)
    refine ⟨x.name, x.secret, x.plan, x.addr, x.susp, h5.cells0 (vs := x.cells) .here, rfl, refF_shut b1 b2 b3 h5.drop⟩
theorem refAddr_ok (h : St w0 O (refF g off t cs0 most l :: L) w) (a : Int) : Calls Try.prog 23 #[.pointer (some ⟨g, off, none⟩), .int .u32 a] w fun e w' =>
    e = .returned (optV (getR SubV.addr l a)) ∧ St w0 O (refF g off t cs0 most l :: L) w' := by
  refine F23.calls ?_
  unfold F23.main
  refine allocSub h (fun g4 w2 h2 => ?_)
  obtain ⟨A, m, c, ⟨b1, b2, b3⟩, h3⟩ := refF_open (h2.pick (.there .here))
  have hlen := (sub_len h3 (.there .here)).1
  have loop : ∀ (k i : Nat) (w : World), k + i = l.length → getR SubV.addr l a = getR SubV.addr (l.drop i) a → St w0 O (blk g (.cells (cs0.setIfInBounds (off + 1) (.slice A m c)) t) :: subsC A m c l :: blk g4 (.cells SubV.zero.cells.toArray 33) :: L) w →
      SK Try.prog Try.f23 (fun e w' => e = .returned (optV (getR SubV.addr l a)) ∧ St w0 O (refF g off t cs0 most l :: L) w') (cfg Try.f23 2) [(0, .pointer (some ⟨g, off, none⟩)), (1, .int .u32 a), (4, .pointer (some ⟨g4, 0, none⟩)), (6, .int .i64 (i : Int))] w := by
    intro k
    induction k with
    | zero =>
      intro i w hk hg h3
      refine F23.p2_ok ?_
      unfold F23.p2
      simp only [nilck, add_eq]
      refine ⟨A, m, c, h3.cell .here (sl_at b1), ?_⟩
      rw [decide_eq_false (by omega), cond_false]
      rw [List.drop_eq_nil_of_le (by omega)] at hg
      refine stSub SubV.zero h3 (.there (.there .here)) (fun w5 h5 => ?_)
      refine ⟨eB, eB, eB, 0, false, h5.cells0 (vs := SubV.zero.cells) .here, ?_, refF_shut b1 b2 b3 h5.drop⟩
      rw [hg]
      rfl
    | succ k ih =>
      intro i w hk hg h3
      refine F23.p2_ok ?_
      unfold F23.p2
      simp only [nilck, add_eq]
      refine ⟨A, m, c, h3.cell .here (sl_at b1), ?_⟩
      rw [decide_eq_true (by omega), cond_true]
      refine ⟨A, m, c, h3.cell .here (sl_at b1), ?_⟩
      obtain ⟨x, hx⟩ : ∃ x, l[i]? = some x := ⟨l[i], List.getElem?_eq_getElem (by omega)⟩
      obtain ⟨gr, hA, hj, hc⟩ := sub_at h3 (.there .here) hx
      refine ⟨⟨by omega, by omega⟩, ?_⟩
      simp only [hA, nilck, add_eq, Int.toNat_natCast, Nat.zero_add]
      refine ⟨x.addr, cell_of hc (i := 3) rfl, ?_⟩
      have hd : l.drop i = x :: l.drop (i + 1) := by
        rw [List.drop_eq_getElem_cons (by omega)]
        congr 1
        rw [List.getElem?_eq_getElem (by omega)] at hx
        exact Option.some.inj hx
      rw [hd] at hg
      by_cases e : x.addr = a
      · rw [show (x.addr == a) = true from by simpa using e, cond_true]
        refine ⟨A, m, c, h3.cell .here (sl_at b1), ⟨by omega, by omega⟩, ?_⟩
        simp only [hA, nilck, add_eq, Int.toNat_natCast, Nat.zero_add]
        refine ⟨x.name, x.secret, x.plan, x.addr, x.susp, hc, ?_⟩
        refine stSub x h3 (.there (.there .here)) (fun w5 h5 => ?_)
        refine ⟨x.name, x.secret, x.plan, x.addr, x.susp, h5.cells0 (vs := x.cells) .here, ?_, refF_shut b1 b2 b3 h5.drop⟩
        rw [hg, show getR SubV.addr (x :: l.drop (i + 1)) a = some x from by simp only [getR, List.find?_cons, e, decide_true]]
        rfl
      · rw [show (x.addr == a) = false from by simpa using e, cond_false, nat_wrap (by omega)]
        refine ih (i + 1) w (by omega) ?_ h3
        rw [hg]
        simp only [getR, List.find?_cons, e, decide_false]
  exact loop l.length 0 w2 rfl rfl h3
end
end Go.Proofs.Ytgmehadpfighbaa
