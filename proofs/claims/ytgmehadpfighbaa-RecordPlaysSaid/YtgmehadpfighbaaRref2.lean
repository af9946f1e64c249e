/- The document's file: Check, Put, Del; rows held against one another. -/
import Derived.Test.YtgmehadpfighbaaRref
set_option linter.unusedVariables false
set_option linter.unusedSimpArgs false
namespace Go.Proofs.Ytgmehadpfighbaa
open Go Go.RowKit

section
variable {w0 w : World} {O : Nat → Prop} {L R : List Assn} {g off : Nat} {t : TypeId} {cs0 : Array Value} {most : Int} {l : List SubV} {s : FS}
theorem refCheck_ok (h : St w0 O L w) (x : SubV) : Calls Try.prog 18 #[x.enc] w fun e w' => e = .returned (.int .i64 (if chkS x then 0 else 2)) ∧ St w0 O L w' := by
  refine F18.calls ?_
  unfold F18.main
  refine boxE encSub x h (fun g w1 h1 => ?_)
  have h1 : St w0 O (blk g (.cells x.cells.toArray 33) :: L) w1 := h1
  have no : ¬ chkS x → (Ending.returned (.int .i64 2) = .returned (.int .i64 (if chkS x then 0 else 2)) ∧ St w0 O L w1) := fun hc => ⟨by rw [if_neg hc], h1.drop⟩
  refine ⟨x.name, h1.cell .here rfl, ?_⟩
  by_cases c1 : (x.name.size : Int) < 1
  · rw [decide_eq_true c1, cond_true]
    exact no (fun hc => by have := hc.1; omega)
  rw [decide_eq_false c1, cond_false]
  refine ⟨x.name, h1.cell .here rfl, ?_⟩
  by_cases c2 : (x.name.size : Int) > 32
  · rw [decide_eq_true c2, cond_true]
    exact no (fun hc => by have := hc.2.1; omega)
  rw [decide_eq_false c2, cond_false]
  refine ⟨x.plan, h1.cell .here rfl, ?_⟩
  by_cases c3 : (x.plan.size : Int) < 1
  · rw [decide_eq_true c3, cond_true]
    exact no (fun hc => by have := hc.2.2.1; omega)
  rw [decide_eq_false c3, cond_false]
  refine ⟨x.plan, h1.cell .here rfl, ?_⟩
  by_cases c4 : (x.plan.size : Int) > 32
  · rw [decide_eq_true c4, cond_true]
    exact no (fun hc => by have := hc.2.2.2.1; omega)
  rw [decide_eq_false c4, cond_false]
  refine ⟨x.secret, h1.cell .here rfl, ?_⟩
  by_cases c5 : (x.secret.size : Int) > 32
  · rw [decide_eq_true c5, cond_true]
    exact no (fun hc => by have := hc.2.2.2.2.1; omega)
  rw [decide_eq_false c5, cond_false]
  refine ⟨x.addr, h1.cell .here rfl, ?_⟩
  by_cases c6 : x.addr = 0
  · rw [show (x.addr == 0) = true from by simpa using c6, cond_true]
    exact no (fun hc => hc.2.2.2.2.2 c6)
  · rw [show (x.addr == 0) = false from by simpa using c6, cond_false]
    exact ⟨by rw [if_pos (show chkS x from ⟨by omega, by omega, by omega, by omega, by omega, c6⟩)], h1.drop⟩
/-- Whether another one has the address. -/
def oth (l : List SubV) (x : SubV) : Bool := l.any fun y => decide (y.name ≠ x.name) && decide (y.addr = x.addr)
theorem oth_eq (hF : wF s) (x : SubV) : oth s.subs x = otherS s x := by
  rw [Bool.eq_iff_iff]
  unfold oth otherS atS
  constructor
  · intro h
    obtain ⟨y, hy, hp⟩ := List.any_eq_true.1 h
    simp only [Bool.and_eq_true, decide_eq_true_eq] at hp
    rw [← hp.2, getR_mem hF.addrs hy]
    simpa using hp.1
  · intro h
    cases hg : getR SubV.addr s.subs x.addr with
    | none => rw [hg] at h; cases h
    | some y =>
      rw [hg] at h
      have h1 := getR_some' hg
      refine List.any_eq_true.2 ⟨y, h1.1, ?_⟩
      simp only [Bool.and_eq_true, decide_eq_true_eq]
      exact ⟨by simpa using h, h1.2⟩
def rputE (most : Int) (l : List SubV) (x : SubV) : Int := if ¬ chkS x then 2 else if oth l x = true then 9 else if (getR SubV.name l x.name).isSome = false ∧ most ≤ l.length then 4 else 0
def rputL (most : Int) (l : List SubV) (x : SubV) : List SubV := if rputE most l x = 0 then putR ltB SubV.name l x else l
theorem rputE_eq (hF : wF s) (x : SubV) : rputE s.most s.subs x = putE s x := by unfold rputE putE; rw [oth_eq hF]; rfl
theorem rputL_eq (hF : wF s) (x : SubV) : rputL s.most s.subs x = (putS s x).subs := by unfold rputL putS; rw [rputE_eq hF]; split <;> rfl
theorem put_at2 (cs0 : Array Value) (A A' : Option Addr) (n n' c c' : Nat) : putAt (cs0.setIfInBounds (off + 1) (.slice A n c)) (off + 1) (Value.slice A' n' c').cells.toList = cs0.setIfInBounds (off + 1) (.slice A' n' c') := by
  show putAt _ _ [_] = _
  rw [putAt_one, Array.setIfInBounds_setIfInBounds]
/-- The tail of Put: the row is built anew. -/
theorem refPut_end (hR : Ris ltB SubV.name l) {x : SubV} {g3 : Nat} (h : St w0 O (refF g off t cs0 most l :: blk g3 (.cells x.cells.toArray 33) :: L) w) (hl : l.length < 2 ^ 20 - 1) :
    SK Try.prog Try.f19 (fun e w' => e = .returned (.int .i64 0) ∧ St w0 O (refF g off t cs0 most (putR ltB SubV.name l x) :: L) w') (cfg Try.f19 11)
      [(0, .pointer (some ⟨g, off, none⟩)), (3, .pointer (some ⟨g3, 0, none⟩)), (6, .int .i64 (posR l x.name : Int)), (7, .bool (getR SubV.name l x.name).isSome)] w := by
  obtain ⟨A, m, c, ⟨b1, b2, b3⟩, h1⟩ := refF_open h
  have hlen := sub_len h1 (.there .here)
  have hp := pos_le l x.name
  have fin : ∀ (i : Nat), i ≤ l.length → l.drop i = topR ltB SubV.name l x.name → ∀ w, St w0 O (blk g (.cells (cs0.setIfInBounds (off + 1) (.slice A m c)) t) :: subsC A m c l :: blk g3 (.cells x.cells.toArray 33) :: L) w →
      SK Try.prog Try.f19 (fun e w' => e = .returned (.int .i64 0) ∧ St w0 O (refF g off t cs0 most (putR ltB SubV.name l x) :: L) w') (cfg Try.f19 14)
        [(0, .pointer (some ⟨g, off, none⟩)), (3, .pointer (some ⟨g3, 0, none⟩)), (6, .int .i64 (posR l x.name : Int)), (8, .slice (slcA A c i 5) (m - i) (c - i))] w := by
    intro i hi hd w h1
    refine F19.p14_ok ?_
    unfold F19.p14
    simp only [nilck, add_eq]
    refine ⟨A, m, c, h1.cell .here (sl_at b1), ⟨by decide, by omega, fun _ => by omega⟩, ?_⟩
    simp only [Int.toNat_natCast, Int.toNat_zero, Nat.sub_zero]
    have h2 := rowS_nil encSub h1
    have h3 := h2.sel 3 [0, 2, 1]
    refine appendSub (enc := encSub.cells) elemSub (l := []) (l2 := l) (lo := 0) (k := posR l x.name) encSub.len encSub.one _ h3 (by omega) (by omega) (by decide) (fun A1 c1 w4 h4 => ?_)
    rw [List.nil_append, List.drop_zero, show l.take (posR l x.name) = lowR ltB SubV.name l x.name from low_take linB hR, Nat.zero_add] at *
    refine ⟨x.name, x.secret, x.plan, x.addr, x.susp, h4.cells0 (vs := x.cells) (.there (.there (.there .here))), ?_⟩
    refine bslE1 encSub elemSub x (by decide) h4 (fun gb w5 h5 => ?_)
    refine appE encSub elemSub _ x h5 (.there .here) (h5.cells0 .here) (by omega) (by decide) (fun A2 c2 w6 h6 => ?_)
    refine appendSub (enc := encSub.cells) elemSub (l2 := l) (lo := i) (k := m - i) encSub.len encSub.one _ (h6.sel 3 [0, 2]) (by omega) (by omega) (by decide) (fun A3 c3 w7 h7 => ?_)
    refine st_W h7 (.there (.there .here)) _ (by kernel_rfl) rfl (by simp [Value.cells]; omega) (fun w8 h8 => ?_)
    rw [put_at2] at h8
    refine ⟨by trivial, ?_⟩
    have hres : lowR ltB SubV.name l x.name ++ [x] ++ (l.drop i).take (m - i) = putR ltB SubV.name l x := by
      rw [List.take_of_length_le (by rw [List.length_drop]; omega), hd, putR, List.append_assoc]
      rfl
    rw [hres] at h8
    refine refF_shut b1 b2 ?_ (h8.sel 4 [0, 1])
    have := len_put (x := x) linB hR
    split at this <;> omega
  refine F19.p11_ok ?_
  unfold F19.p11
  simp only [nilck, add_eq]
  refine ⟨A, m, c, h1.cell .here (sl_at b1), ⟨by omega, by omega, fun h => by cases h⟩, ?_⟩
  have hd := low_drop (k := x.name) linB hR
  cases hg : getR SubV.name l x.name with
  | none =>
    simp only [Option.isSome, cond_false, Int.toNat_natCast]
    rw [hg] at hd
    exact fin (posR l x.name) hp hd w h1
  | some y =>
    simp only [Option.isSome, cond_true, Int.toNat_natCast]
    rw [hg] at hd
    have hlt : posR l x.name < l.length := by
      have := congrArg List.length hd
      simp only [List.length_drop, Option.toList, List.length_append, List.length_cons, List.length_nil] at this
      have e : posR l x.name = (lowR ltB SubV.name l x.name).length := rfl
      omega
    rw [nat_wrap (by omega)]
    refine ⟨A, m, c, h1.cell .here (sl_at b1), ⟨by omega, by omega, fun h => by cases h⟩, ?_⟩
    simp only [Int.toNat_natCast]
    refine fin (posR l x.name + 1) (by omega) ?_ w h1
    rw [← List.drop_drop, show l.drop (posR l x.name) = _ from hd]
    rfl
theorem refPut_ok (hR : Ris ltB SubV.name l) (h : St w0 O (refF g off t cs0 most l :: L) w) (x : SubV) (hl : l.length < 2 ^ 20 - 1) : Calls Try.prog 19 #[.pointer (some ⟨g, off, none⟩), x.enc] w fun e w' =>
    e = .returned (.int .i64 (rputE most l x)) ∧ St w0 O (refF g off t cs0 most (rputL most l x) :: L) w' := by
  refine F19.calls ?_
  unfold F19.main
  refine boxE encSub x h (fun g3 w2 h2 => ?_)
  have h2 : St w0 O (blk g3 (.cells x.cells.toArray 33) :: refF g off t cs0 most l :: L) w2 := h2
  refine ⟨x.name, x.secret, x.plan, x.addr, x.susp, h2.cells0 (vs := x.cells) .here, ?_⟩
  refine (refCheck_ok h2 x).mono ?_
  rintro e w3 ⟨rfl, h3⟩
  refine .inl ⟨_, rfl, ?_⟩
  have back : ∀ {w'}, rputE most l x ≠ 0 → St w0 O (refF g off t cs0 most l :: L) w' → St w0 O (refF g off t cs0 most (rputL most l x) :: L) w' := fun hne h' => by unfold rputL; rw [if_neg hne]; exact h'
  by_cases hc : chkS x
  · rw [if_pos hc]
    simp only [show ((0 : Int) != 0) = false from rfl, cond_false]
    obtain ⟨A, m, c, ⟨b1, b2, b3⟩, h4⟩ := refF_open (h3.pick (.there .here))
    have hlen := (sub_len h4 (.there .here)).1
    have loop : ∀ (k i : Nat) (w : World), k + i = l.length → oth l x = oth (l.drop i) x → St w0 O (blk g (.cells (cs0.setIfInBounds (off + 1) (.slice A m c)) t) :: subsC A m c l :: blk g3 (.cells x.cells.toArray 33) :: L) w →
        SK Try.prog Try.f19 (fun e w' => e = .returned (.int .i64 (rputE most l x)) ∧ St w0 O (refF g off t cs0 most (rputL most l x) :: L) w') (cfg Try.f19 4) [(0, .pointer (some ⟨g, off, none⟩)), (3, .pointer (some ⟨g3, 0, none⟩)), (5, .int .i64 (i : Int))] w := by
      intro k
      induction k with
      | zero =>
        intro i w hk ho h4
        refine F19.p4_ok ?_
        unfold F19.p4
        simp only [nilck, add_eq]
        refine ⟨A, m, c, h4.cell .here (sl_at b1), ?_⟩
        rw [decide_eq_false (by omega), cond_false]
        rw [List.drop_eq_nil_of_le (by omega)] at ho
        have ho : oth l x = false := ho
        refine ⟨x.name, h4.cell (.there (.there .here)) rfl, ?_⟩
        refine (refAt_ok hR (refF_shut b1 b2 b3 h4) x.name).mono ?_
        rintro e w5 ⟨rfl, h5⟩
        refine .inl ⟨_, _, rfl, ?_⟩
        have go : rputE most l x = 0 → SK Try.prog Try.f19 (fun e w' => e = .returned (.int .i64 (rputE most l x)) ∧ St w0 O (refF g off t cs0 most (rputL most l x) :: L) w') (cfg Try.f19 11)
            [(0, .pointer (some ⟨g, off, none⟩)), (3, .pointer (some ⟨g3, 0, none⟩)), (6, .int .i64 (posR l x.name : Int)), (7, .bool (getR SubV.name l x.name).isSome)] (World.drew w5) := fun hE => by
          unfold rputL
          rw [hE, if_pos rfl]
          exact refPut_end hR h5.drew hl
        cases hi : (getR SubV.name l x.name).isSome with
        | true =>
          simp only [Bool.not_true, cond_false]
          rw [← hi]
          exact go (by unfold rputE; rw [if_neg (by simpa using hc), if_neg (by simp [ho]), if_neg (by simp [hi])])
        | false =>
          simp only [Bool.not_false, cond_true]
          obtain ⟨A', m', c', ⟨b1', b2', b3'⟩, h6⟩ := refF_open h5
          have h6 := h6.drew
          have hlen6 := (sub_len h6 (.there .here)).1
          refine ⟨A', m', c', h6.cell .here (sl_at b1'), most, h6.cell .here (most_at b2'), ?_⟩
          by_cases hfull : most ≤ l.length
          · rw [decide_eq_true (by omega), cond_true]
            have hE : rputE most l x = 4 := by unfold rputE; rw [if_neg (by simpa using hc), if_neg (by simp [ho]), if_pos ⟨hi, hfull⟩]
            exact ⟨by rw [hE], back (by rw [hE]; decide) ((h5.drew.pick (.there .here)).drop)⟩
          · rw [decide_eq_false (by omega), cond_false]
            rw [← hi]
            exact go (by unfold rputE; rw [if_neg (by simpa using hc), if_neg (by simp [ho]), if_neg (fun h => hfull h.2)])
      | succ k ih =>
        intro i w hk ho h4
        refine F19.p4_ok ?_
        unfold F19.p4
        simp only [nilck, add_eq]
        refine ⟨A, m, c, h4.cell .here (sl_at b1), ?_⟩
        rw [decide_eq_true (by omega), cond_true]
        have h5 := h4.drew
        refine ⟨A, m, c, h5.cell .here (sl_at b1), ?_⟩
        obtain ⟨y, hy⟩ : ∃ y, l[i]? = some y := ⟨l[i], List.getElem?_eq_getElem (by omega)⟩
        obtain ⟨gr, hA, hj, hcl⟩ := sub_at h5 (.there .here) hy
        refine ⟨⟨by omega, by omega⟩, ?_⟩
        simp only [hA, nilck, add_eq, Int.toNat_natCast, Nat.zero_add]
        refine ⟨y.name, cell_of hcl (i := 0) rfl, x.name, h5.cell (.there (.there .here)) rfl, ?_⟩
        have hd : l.drop i = y :: l.drop (i + 1) := by
          rw [List.drop_eq_getElem_cons (by omega)]
          congr 1
          rw [List.getElem?_eq_getElem (by omega)] at hy
          exact Option.some.inj hy
        rw [hd] at ho
        unfold oth at ho
        rw [List.any_cons] at ho
        rw [ba_beq]
        have next : (decide (y.name ≠ x.name) && decide (y.addr = x.addr)) = false → SK Try.prog Try.f19 (fun e w' => e = .returned (.int .i64 (rputE most l x)) ∧ St w0 O (refF g off t cs0 most (rputL most l x) :: L) w') (cfg Try.f19 4) [(0, .pointer (some ⟨g, off, none⟩)), (3, .pointer (some ⟨g3, 0, none⟩)), (5, .int .i64 (IntKind.wrap .i64 ((i : Int) + 1)))] (World.drew w) := fun hb => by
          rw [hb, Bool.false_or] at ho
          rw [nat_wrap (by omega)]
          exact ih (i + 1) _ (by omega) ho h5
        by_cases e1 : y.name = x.name
        · rw [decide_eq_true e1]
          simp only [Bool.not_true, cond_false]
          exact next (by simp [e1])
        · rw [decide_eq_false e1]
          simp only [Bool.not_false, cond_true]
          refine ⟨A, m, c, h5.cell .here (sl_at b1), ⟨by omega, by omega⟩, ?_⟩
          simp only [hA, nilck, add_eq, Int.toNat_natCast, Nat.zero_add]
          refine ⟨y.addr, cell_of hcl (i := 3) rfl, x.addr, h5.cell (.there (.there .here)) rfl, ?_⟩
          by_cases e2 : y.addr = x.addr
          · rw [show (y.addr == x.addr) = true from by simpa using e2, cond_true]
            have ho : oth l x = true := by unfold oth; rw [ho]; simp [e1, e2]
            have hE : rputE most l x = 9 := by unfold rputE; rw [if_neg (by simpa using hc), if_pos ho]
            exact ⟨by rw [hE], back (by rw [hE]; decide) ((refF_shut b1 b2 b3 h5).pick (.there .here)).drop⟩
          · rw [show (y.addr == x.addr) = false from by simpa using e2, cond_false]
            exact next (by simp [e2])
    exact loop l.length 0 w3 rfl rfl h4
  · rw [if_neg hc]
    simp only [show ((2 : Int) != 0) = true from rfl, cond_true]
    have hE : rputE most l x = 2 := by unfold rputE; rw [if_pos hc]
    exact ⟨by rw [hE], back (by rw [hE]; decide) h3.drop⟩
theorem refDel_ok (hR : Ris ltB SubV.name l) (h : St w0 O (refF g off t cs0 most l :: L) w) (n : ByteArray) : Calls Try.prog 20 #[.pointer (some ⟨g, off, none⟩), .string n] w fun e w' =>
    e = .returned (.int .i64 (if (getR SubV.name l n).isSome then 0 else 3)) ∧ St w0 O (refF g off t cs0 most (delR SubV.name l n) :: L) w' := by
  refine F20.calls ?_
  unfold F20.main
  refine (refAt_ok hR h n).mono ?_
  rintro e w2 ⟨rfl, h2⟩
  refine .inl ⟨_, _, rfl, ?_⟩
  cases hg : getR SubV.name l n with
  | none =>
    simp only [Option.isSome, Bool.not_false, cond_true]
    refine ⟨rfl, ?_⟩
    rw [show delR SubV.name l n = l from List.filter_eq_self.2 fun y hy => by simpa using getR_none.1 hg y hy]
    exact h2
  | some y =>
    simp only [Option.isSome, Bool.not_true, cond_false, nilck, add_eq]
    obtain ⟨A, m, c, ⟨b1, b2, b3⟩, h3⟩ := refF_open h2
    have h4 := h3.drew
    have hlen := sub_len h4 (.there .here)
    have hd := low_drop (k := n) linB hR
    rw [hg] at hd
    have e : posR l n = (lowR ltB SubV.name l n).length := rfl
    have hlt : posR l n < l.length := by
      have := congrArg List.length hd
      simp only [List.length_drop, Option.toList, List.length_append, List.length_cons, List.length_nil] at this
      omega
    rw [nat_wrap (by omega)]
    refine ⟨A, m, c, h4.cell .here (sl_at b1), ⟨by decide, by omega, fun _ => by omega⟩, A, m, c, h4.cell .here (sl_at b1), ⟨by omega, by omega, fun h => by cases h⟩, ?_⟩
    simp only [Int.toNat_natCast, Int.toNat_zero, Nat.sub_zero]
    have h5 := (rowS_nil encSub h4).sel 3 [0, 2, 1]
    refine appendSub (enc := encSub.cells) elemSub (l := []) (l2 := l) (lo := 0) (k := posR l n) encSub.len encSub.one _ h5 (by omega) (by omega) (by decide) (fun A1 c1 w6 h6 => ?_)
    rw [List.nil_append, List.drop_zero, show l.take (posR l n) = lowR ltB SubV.name l n from low_take linB hR, Nat.zero_add] at *
    refine ⟨fun _ => h6.cell (.there (.there .here)) (sl_at b1), ?_⟩
    refine appendSub (enc := encSub.cells) elemSub (l2 := l) (lo := posR l n + 1) (k := m - (posR l n + 1)) encSub.len encSub.one _ h6 (by omega) (by omega) (by decide) (fun A2 c2 w7 h7 => ?_)
    refine st_W h7 (.there (.there .here)) _ (by kernel_rfl) rfl (by simp [Value.cells]; omega) (fun w8 h8 => ?_)
    rw [put_at2] at h8
    refine ⟨rfl, ?_⟩
    have hd2 : l.drop (posR l n + 1) = topR ltB SubV.name l n := by
      rw [← List.drop_drop, show l.drop (posR l n) = _ from hd]
      rfl
    have hres : lowR ltB SubV.name l n ++ (l.drop (posR l n + 1)).take (m - (posR l n + 1)) = delR SubV.name l n := by
      rw [List.take_of_length_le (by rw [List.length_drop]; omega), hd2, hR.del_eq linB]
    rw [hres] at h8
    refine refF_shut b1 b2 ?_ (h8.sel 3 [0, 1])
    have := List.length_filter_le (fun y => !decide (SubV.name y = n)) l
    unfold delR
    omega
/-- Two rows, held against one another. -/
theorem Same_ok {A B : Option Addr} {n c m d : Nat} {l2 : List SubV} (h : St w0 O (subsC A n c l :: subsC B m d l2 :: L) w) (hn : n < 2 ^ 30) :
    Calls Try.prog 14 #[.slice A n c, .slice B m d] w fun e w' => e = .returned (.bool (decide (l = l2))) ∧ St w0 O (subsC A n c l :: subsC B m d l2 :: L) w' := by
  have e1 := (sub_len h .here).1
  have e2 := (sub_len h (.there .here)).1
  refine F14.calls ?_
  unfold F14.main
  by_cases hnm : n = m
  · subst hnm
    rw [show (((n : Nat) : Int) != ((n : Nat) : Int)) = false from by simp, cond_false]
    have loop : ∀ (k i : Nat) (w : World), k + i = n → l.take i = l2.take i → St w0 O (subsC A n c l :: subsC B n d l2 :: L) w →
        SK Try.prog Try.f14 (fun e w' => e = .returned (.bool (decide (l = l2))) ∧ St w0 O (subsC A n c l :: subsC B n d l2 :: L) w') (cfg Try.f14 4) [(0, .slice A n c), (1, .slice B n d), (5, .int .i64 (i : Int))] w := by
      intro k
      induction k with
      | zero =>
        intro i w hk ht h
        refine F14.p4_ok ?_
        unfold F14.p4
        rw [decide_eq_false (by omega), cond_false]
        rw [List.take_of_length_le (by omega), List.take_of_length_le (by omega)] at ht
        rw [decide_eq_true ht]
        exact ⟨rfl, h⟩
      | succ k ih =>
        intro i w hk ht h
        refine F14.p4_ok ?_
        unfold F14.p4
        rw [decide_eq_true (by omega), cond_true]
        have h1 := h.drew
        obtain ⟨x, hx⟩ : ∃ x, l[i]? = some x := ⟨l[i], List.getElem?_eq_getElem (by omega)⟩
        obtain ⟨y, hy⟩ : ∃ y, l2[i]? = some y := ⟨l2[i], List.getElem?_eq_getElem (by omega)⟩
        obtain ⟨g1, hA, _, hc1⟩ := sub_at h1 .here hx
        obtain ⟨g2, hB, _, hc2⟩ := sub_at h1 (.there .here) hy
        refine ⟨⟨by omega, by omega⟩, ?_⟩
        simp only [hA, nilck, add_eq, Int.toNat_natCast, Nat.zero_add]
        refine ⟨x.name, x.secret, x.plan, x.addr, x.susp, hc1, ⟨by omega, by omega⟩, ?_⟩
        simp only [hB, nilck, add_eq, Int.toNat_natCast, Nat.zero_add]
        refine ⟨y.name, y.secret, y.plan, y.addr, y.susp, hc2, ?_⟩
        rw [show ((x.name == y.name) && ((x.secret == y.secret) && ((x.plan == y.plan) && ((x.addr == y.addr) && ((x.susp == y.susp) && true))))) = decide (x = y) from by
          obtain ⟨a1, a2, a3, a4, a5⟩ := x
          obtain ⟨b1, b2, b3, b4, b5⟩ := y
          simp only [ba_beq, SubV.mk.injEq, Bool.and_true]
          rw [Bool.eq_iff_iff]
          simp]
        by_cases e : x = y
        · subst e
          rw [decide_eq_true rfl]
          simp only [Bool.not_true, cond_false]
          rw [nat_wrap (by omega), ← hA, ← hB]
          refine ih (i + 1) _ (by omega) ?_ h1
          rw [List.take_add_one, List.take_add_one, ht, hx, hy]
        · rw [decide_eq_false e]
          simp only [Bool.not_false, cond_true]
          rw [← hA, ← hB]
          refine ⟨?_, h1⟩
          rw [decide_eq_false (fun e2 => e (by rw [e2, hy] at hx; exact (Option.some.inj hx).symm))]
    exact loop n 0 w rfl rfl h
  · rw [show (((n : Nat) : Int) != ((m : Nat) : Int)) = true from by simp; omega, cond_true]
    refine ⟨?_, h⟩
    rw [decide_eq_false (fun e => hnm (by rw [← e1, ← e2, e]))]
end
end Go.Proofs.Ytgmehadpfighbaa
