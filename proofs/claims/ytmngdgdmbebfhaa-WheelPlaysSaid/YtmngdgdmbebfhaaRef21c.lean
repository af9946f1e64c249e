/- The document's answer for layer 21: Set. -/
import Derived.Test.YtmngdgdmbebfhaaRef21b
set_option linter.unusedVariables false
set_option linter.unusedSimpArgs false
namespace Go.Proofs.Ytmngdgdmbebfhaa
open Go Go.RowKit

section
variable {w0 w : World} {O : Nat → Prop} {L M : List Assn} {g : Nat} {t : Int} {l : List Al} {A : Option Addr} {n c : Nat}
def refSetE (l : List Al) (key after : Int) : Int := if after < 1 ∨ 16777216 < after then 2 else if (refClear l key).length = l.length ∧ 4096 ≤ (refClear l key).length then 4 else 0
def refIns (l : List Al) (x : Al) : List Al := (l.takeWhile fun y => decide (y.at_ ≤ x.at_)) ++ [x] ++ (l.dropWhile fun y => decide (y.at_ ≤ x.at_))
def refSetL (l : List Al) (x : Al) (after : Int) : List Al := if refSetE l x.key after = 0 then refIns (refClear l x.key) x else l
theorem refSet_ok (h : St w0 O (isR g t l :: L) w) (x : Al) (after : Int) (hx : x.at_ = t + after) (ht : 0 ≤ t) (ht2 : t ≤ 2 ^ 60) (hb : l.length < 2 ^ 19) : Calls Try.prog 17 #[.pointer (some ⟨g, 0, none⟩), .int .u64 x.key, .int .i64 after] w fun e w' =>
    e = .returned (.int .i64 (refSetE l x.key after)) ∧ St w0 O (isR g t (refSetL l x after) :: L) w' := by
  refine F17.calls ?_
  unfold F17.main
  by_cases c1 : after < 1
  · rw [decide_eq_true c1, cond_true]
    have e : refSetE l x.key after = 2 := if_pos (.inl c1)
    unfold refSetL
    rw [e]
    exact ⟨rfl, h⟩
  rw [decide_eq_false c1, cond_false]
  by_cases c2 : after > 16777216
  · rw [decide_eq_true c2, cond_true]
    have e : refSetE l x.key after = 2 := if_pos (.inr c2)
    unfold refSetL
    rw [e]
    exact ⟨rfl, h⟩
  rw [decide_eq_false c2, cond_false]
  have c12 : ¬ (after < 1 ∨ 16777216 < after) := by omega
  obtain ⟨A, n, c, h1⟩ := isR_open h
  have hl := row2_len h1.drop
  refine F17.p3_ok ?_
  unfold F17.p3
  refine ⟨A, n, c, h1.cell .here rfl, ?_⟩
  refine (without_ok (h1.pick (.there .here)) x.key (by omega)).mono ?_
  rintro e w2 ⟨A', n', c', rfl, h2⟩
  have hl' := row2_len h2
  have hfl : (refClear l x.key).length = n' := hl'.1
  have hle : (refClear l x.key).length ≤ l.length := List.length_filter_le _ _
  have h3 := h2.pick (.there (.there .here))
  refine .inl ⟨_, _, _, rfl, A, n, c, h3.cell .here rfl, ?_⟩
  change St w0 O (blk g (.cells #[.int .i64 t, .slice A n c] 51) :: row2 A' n' c' (refClear l x.key) :: row2 A n c l :: L) w2 at h3
  -- the rest, where there is room
  have rest : refSetE l x.key after = 0 → ∃ (n40 : Int), w2.cell? ⟨g, 0, none⟩ = some (.int .i64 n40) ∧ newW Try.prog (Instr.alloc 74 true (.tuple #[])) w2 fun g8 w20 =>
      stW Try.prog 74 ⟨g8, 0, none⟩ (.agg #[.int .u64 x.key, .int .i64 (IntKind.wrap .i64 (n40 + after))]) w20 fun w21 =>
      SK Try.prog Try.f17 (fun e w' => e = .returned (.int .i64 (refSetE l x.key after)) ∧ St w0 O (isR g t (refSetL l x after) :: L) w') (cfg Try.f17 8) [(0, .pointer (some ⟨g, 0, none⟩)), (7, .slice A' n' c'), (8, .pointer (some ⟨g8, 0, none⟩)), (9, .int .i64 0)] w21 := by
    intro e0
    have eL : refSetL l x after = refIns (refClear l x.key) x := if_pos e0
    rw [e0, eL]
    generalize hl2 : refClear l x.key = l2 at *
    refine ⟨t, h3.cell .here rfl, ?_⟩
    rw [wrap_i64 (by omega) (by omega), ← hx]
    refine new_alloc (z := .agg #[.int .u64 0, .int .i64 0]) h3 (by kernel_rfl) (fun g8 w4 h4 => ?_)
    refine st_W h4 .here 74 (by kernel_rfl) rfl (Nat.le_refl 2) (fun w5 h5 => ?_)
    have h5 : St w0 O (blk g8 (.cells x.cells2.toArray 74) :: blk g (.cells #[.int .i64 t, .slice A n c] 51) :: row2 A' n' c' l2 :: row2 A n c l :: L) w5 := h5
    have loop : ∀ (lf dn : List Al) (w : World), dn ++ lf = l2 → (∀ y ∈ dn, y.at_ ≤ x.at_) → St w0 O (blk g8 (.cells x.cells2.toArray 74) :: blk g (.cells #[.int .i64 t, .slice A n c] 51) :: row2 A' n' c' l2 :: row2 A n c l :: L) w →
        SK Try.prog Try.f17 (fun e w' => e = .returned (.int .i64 0) ∧ St w0 O (isR g t (refIns l2 x) :: L) w') (cfg Try.f17 8)
          [(0, .pointer (some ⟨g, 0, none⟩)), (7, .slice A' n' c'), (8, .pointer (some ⟨g8, 0, none⟩)), (9, .int .i64 (dn.length : Int))] w := by
      intro lf
      induction lf with
      | nil =>
        intro dn w hsp hd h6
        have hll : l2.length = dn.length := by rw [← hsp]; simp
        have hwd : l2.takeWhile (fun y => decide (y.at_ ≤ x.at_)) = dn ∧ l2.dropWhile (fun y => decide (y.at_ ≤ x.at_)) = [] := by
          have hs2 := hsp
          rw [List.append_nil] at hs2
          subst hs2
          exact takeWhile_all (fun y hy => decide_eq_true (hd y hy))
        refine F17.p8_ok ?_
        unfold F17.p8
        rw [decide_eq_false (by omega), cond_false]
        have h7 := rowC_nil (h6.drew.pick (.there (.there .here))) 74 2
        refine ⟨⟨by omega, by omega, fun _ => by omega⟩, ?_⟩
        simp only [Int.toNat_natCast, Int.toNat_zero, Nat.sub_zero]
        refine appendSub (l := []) (lo := 0) (k := dn.length) elem2 two one2 49 h7 (by omega) (by omega) (by decide) (fun A1 d1 w8 h8 => ?_)
        have h9 := h8.pick (.there (.there .here))
        refine ⟨x.key, x.at_, h9.cells0 (vs := x.cells2) .here, ?_⟩
        refine bsl2 h9 (fun gq w10 h10 => ?_)
        refine appendE elem2 two one2 49 x h10 (.there (.there .here)) (h10.cells0 (vs := x.cells2) .here) (by omega) (by decide) (fun A2 d2 w11 h11 => ?_)
        have h12 := (((h11.pick (.there .here)).drop.pick (.there .here)).drop)
        refine ⟨⟨by omega, by omega, fun h => by cases h⟩, ?_⟩
        refine appendSub (lo := dn.length) (k := n' - dn.length) elem2 two one2 49 h12 (by omega) (by omega) (by decide) (fun A3 d3 w13 h13 => ?_)
        have h14 := h13.pick (.there (.there .here))
        refine st_W h14 .here 49 (by kernel_rfl) rfl (Nat.le_refl 2) (fun w15 h15 => ?_)
        refine ⟨by trivial, ?_⟩
        have elist : [] ++ List.take dn.length (List.drop 0 l2) ++ [x] ++ List.take (n' - dn.length) (List.drop dn.length l2) = refIns l2 x := by
          unfold refIns
          rw [hwd.1, hwd.2, List.drop_zero, List.nil_append, ← hsp, List.take_left, List.drop_left, List.take_of_length_le (by have hlen := congrArg List.length hsp; rw [List.length_append] at hlen; omega)]
        rw [elist] at h15
        exact isR_shut ((h15.pick (.there (.there .here))).drop.pick (.there (.there .here))).drop
      | cons y lf ih =>
        intro dn w hsp hd h6
        have hll : l2.length = dn.length + (lf.length + 1) := by rw [← hsp]; simp
        have hly : l2[dn.length]? = some y := by rw [← hsp]; simp
        refine F17.p8_ok ?_
        unfold F17.p8
        rw [decide_eq_true (by omega), cond_true]
        obtain ⟨gr, hA, hjn, hc1, hc2, hc3⟩ := rowK2 (h6.drew.pick (.there (.there .here))) hly
        refine ⟨⟨by omega, by omega⟩, ?_⟩
        rw [hA]
        simp only [nilck, add_eq, Nat.zero_add, Int.toNat_natCast]
        refine ⟨y.at_, hc2, x.at_, h6.drew.cell .here rfl, ?_⟩
        rw [← hA]
        by_cases hy : y.at_ ≤ x.at_
        · rw [decide_eq_true hy, cond_true]
          rw [show IntKind.wrap .i64 ((dn.length : Int) + 1) = ((dn ++ [y]).length : Int) from by rw [wrap_i64 (by omega) (by omega)]; simp]
          refine ih (dn ++ [y]) _ (by rw [← hsp]; simp) (fun z hz => ?_) h6.drew
          rcases List.mem_append.1 hz with hz | hz
          · exact hd z hz
          · obtain rfl : z = y := by simpa using hz
            exact hy
        rw [decide_eq_false hy, cond_false]
        have hwd : l2.takeWhile (fun y => decide (y.at_ ≤ x.at_)) = dn ∧ l2.dropWhile (fun y => decide (y.at_ ≤ x.at_)) = y :: lf := takeWhile_snoc hsp (fun z hz => decide_eq_true (hd z hz)) (decide_eq_false hy)
        have h7 := rowC_nil (h6.drew.pick (.there (.there .here))) 74 2
        refine ⟨⟨by omega, by omega, fun _ => by omega⟩, ?_⟩
        simp only [Int.toNat_natCast, Int.toNat_zero, Nat.sub_zero]
        refine appendSub (l := []) (lo := 0) (k := dn.length) elem2 two one2 49 h7 (by omega) (by omega) (by decide) (fun A1 d1 w8 h8 => ?_)
        have h9 := h8.pick (.there (.there .here))
        refine ⟨x.key, x.at_, h9.cells0 (vs := x.cells2) .here, ?_⟩
        refine bsl2 h9 (fun gq w10 h10 => ?_)
        refine appendE elem2 two one2 49 x h10 (.there (.there .here)) (h10.cells0 (vs := x.cells2) .here) (by omega) (by decide) (fun A2 d2 w11 h11 => ?_)
        have h12 := (((h11.pick (.there .here)).drop.pick (.there .here)).drop)
        refine ⟨⟨by omega, by omega, fun h => by cases h⟩, ?_⟩
        refine appendSub (lo := dn.length) (k := n' - dn.length) elem2 two one2 49 h12 (by omega) (by omega) (by decide) (fun A3 d3 w13 h13 => ?_)
        have h14 := h13.pick (.there (.there .here))
        refine st_W h14 .here 49 (by kernel_rfl) rfl (Nat.le_refl 2) (fun w15 h15 => ?_)
        refine ⟨by trivial, ?_⟩
        have elist : [] ++ List.take dn.length (List.drop 0 l2) ++ [x] ++ List.take (n' - dn.length) (List.drop dn.length l2) = refIns l2 x := by
          unfold refIns
          rw [hwd.1, hwd.2, List.drop_zero, List.nil_append, ← hsp, List.take_left, List.drop_left, List.take_of_length_le (by have hlen := congrArg List.length hsp; rw [List.length_append] at hlen; omega)]
        rw [elist] at h15
        exact isR_shut ((h15.pick (.there (.there .here))).drop.pick (.there (.there .here))).drop
    exact loop l2 [] w5 rfl (fun y hy => by cases hy) h5
  by_cases e : n' = n
  · rw [show (((n' : Nat) : Int) == ((n : Nat) : Int)) = true from by simp [e], cond_true]
    by_cases c3 : 4096 ≤ n'
    · rw [decide_eq_true (by omega), cond_true]
      have e4 : refSetE l x.key after = 4 := by unfold refSetE; rw [if_neg c12, if_pos ⟨by omega, by omega⟩]
      unfold refSetL
      rw [e4]
      exact ⟨rfl, isR_shut (h3.pick (.there .here)).drop⟩
    · rw [decide_eq_false (by omega), cond_false]
      exact rest (by unfold refSetE; rw [if_neg c12, if_neg (by omega)])
  · rw [show (((n' : Nat) : Int) == ((n : Nat) : Int)) = false from by simp; omega, cond_false]
    exact rest (by unfold refSetE; rw [if_neg c12, if_neg (by omega)])
end
end Go.Proofs.Ytmngdgdmbebfhaa
