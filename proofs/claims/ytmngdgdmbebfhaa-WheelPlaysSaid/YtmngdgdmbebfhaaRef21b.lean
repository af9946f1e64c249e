/- The document's answer for layer 21: Left, Tick, Set. -/
import Derived.Test.YtmngdgdmbebfhaaRef21
set_option linter.unusedVariables false
set_option linter.unusedSimpArgs false
namespace Go.Proofs.Ytmngdgdmbebfhaa
open Go Go.RowKit

section
variable {w0 w : World} {O : Nat → Prop} {L M : List Assn} {g : Nat} {t : Int} {l : List Al} {A : Option Addr} {n c : Nat}
def refLeft (t : Int) : List Al → Int → Int × Bool
  | [], _ => (0, false)
  | x :: r, key => if x.key = key then (x.at_ - t, true) else refLeft t r key
theorem refLeft_ok (h : St w0 O (isR g t l :: L) w) (key : Int) (ht : 0 ≤ t) (ht2 : t < 2 ^ 62) (ha : ∀ x ∈ l, 0 ≤ x.at_ ∧ x.at_ < 2 ^ 62) (hb : l.length < 2 ^ 20) : Calls Try.prog 20 #[.pointer (some ⟨g, 0, none⟩), .int .u64 key] w fun e w' =>
    e = .returned (.tuple #[.int .i64 (refLeft t l key).1, .bool (refLeft t l key).2]) ∧ St w0 O (isR g t l :: L) w' := by
  obtain ⟨A, n, c, h1⟩ := isR_open h
  have hl := row2_len h1.drop
  refine F20.calls ?_
  unfold F20.main
  have loop : ∀ (lf dn : List Al) (w : World), dn ++ lf = l → refLeft t l key = refLeft t lf key → St w0 O (blk g (.cells #[.int .i64 t, .slice A n c] 51) :: row2 A n c l :: L) w →
      SK Try.prog Try.f20 (fun e w' => e = .returned (.tuple #[.int .i64 (refLeft t l key).1, .bool (refLeft t l key).2]) ∧ St w0 O (isR g t l :: L) w') (cfg Try.f20 2)
        [(0, .pointer (some ⟨g, 0, none⟩)), (1, .int .u64 key), (6, .int .i64 (dn.length : Int))] w := by
    intro lf
    induction lf with
    | nil =>
      intro dn w hsp hr h2
      rw [List.append_nil] at hsp
      refine F20.p2_ok ?_
      unfold F20.p2
      refine ⟨A, n, c, h2.cell .here rfl, ?_⟩
      rw [decide_eq_false (by rw [hsp]; omega), cond_false, hr]
      exact ⟨rfl, isR_shut h2⟩
    | cons x lf ih =>
      intro dn w hsp hr h2
      have hlx : l[dn.length]? = some x := by rw [← hsp]; simp
      have hll : l.length = dn.length + (lf.length + 1) := by rw [← hsp]; simp
      refine F20.p2_ok ?_
      unfold F20.p2
      refine ⟨A, n, c, h2.cell .here rfl, ?_⟩
      rw [decide_eq_true (by omega), cond_true]
      refine ⟨A, n, c, h2.cell .here rfl, ?_⟩
      obtain ⟨gr, hA, hjn, hc1, hc2, hc3⟩ := rowK2 (h2.pick (.there .here)) hlx
      subst hA
      refine ⟨⟨by omega, by omega⟩, ?_⟩
      simp only [nilck, add_eq, Nat.zero_add, Int.toNat_natCast]
      refine ⟨x.key, hc1, ?_⟩
      by_cases hk : x.key = key
      · rw [show (x.key == key) = true from by simpa using hk, cond_true]
        have h3 := h2.drew
        refine ⟨_, n, c, h3.cell .here rfl, ⟨by omega, by omega⟩, ?_⟩
        simp only [nilck, add_eq, Nat.zero_add, Int.toNat_natCast]
        have hax := ha x (List.mem_of_getElem? hlx)
        refine ⟨x.at_, hc2, t, h3.cell .here rfl, ?_⟩
        rw [wrap_i64 (by omega) (by omega), hr, refLeft, if_pos hk]
        exact ⟨rfl, isR_shut h3⟩
      · rw [show (x.key == key) = false from by simpa using hk, cond_false]
        rw [show IntKind.wrap .i64 ((dn.length : Int) + 1) = ((dn ++ [x]).length : Int) from by rw [wrap_i64 (by omega) (by omega)]; simp]
        exact ih (dn ++ [x]) w (by rw [← hsp]; simp) (by rw [hr, refLeft, if_neg hk]) h2
  exact loop l [] w rfl rfl h1
def refTickE (t n : Int) : Int := if n < 0 ∨ 16777216 < n ∨ 1152921504606846976 - n < t then 2 else 0
def refTickT (t n : Int) : Int := if refTickE t n = 0 then t + n else t
def refTickL (t n : Int) (l : List Al) : List Al := if refTickE t n = 0 then l.dropWhile fun x => decide (x.at_ ≤ t + n) else l
def refTickK (t n : Int) (l : List Al) : List Int := if refTickE t n = 0 then (l.takeWhile fun x => decide (x.at_ ≤ t + n)).map (·.key) else []
theorem takeWhile_snoc {p : Al → Bool} {l dn lf : List Al} {x : Al} (hsp : dn ++ x :: lf = l) (hd : ∀ y ∈ dn, p y = true) (hx : p x = false) : l.takeWhile p = dn ∧ l.dropWhile p = x :: lf := by
  subst hsp
  rw [List.takeWhile_append_of_pos hd, List.dropWhile_append_of_pos hd, List.takeWhile_cons, List.dropWhile_cons]
  simp [hx]
theorem takeWhile_all {p : Al → Bool} {l : List Al} (hd : ∀ y ∈ l, p y = true) : l.takeWhile p = l ∧ l.dropWhile p = [] := by
  have h1 := List.takeWhile_append_of_pos (l₂ := []) hd
  have h2 := List.dropWhile_append_of_pos (l₂ := []) hd
  simp at h1 h2
  exact ⟨by simpa using h1, by simpa using h2⟩
theorem refTick_ok (h : St w0 O (isR g t l :: L) w) (n : Int) (ht : 0 ≤ t) (ht2 : t ≤ 2 ^ 60) (hb : l.length < 2 ^ 20) : Calls Try.prog 19 #[.pointer (some ⟨g, 0, none⟩), .int .i64 n] w fun e w' =>
    ∃ B m d, e = .returned (.tuple #[.slice B m d, .int .i64 (refTickE t n)]) ∧
      St w0 O (keysC B m d (refTickK t n l) :: isR g (refTickT t n) (refTickL t n l) :: L) w' := by
  refine F19.calls ?_
  unfold F19.main
  have bad : refTickE t n = 2 → ∃ B m d, Ending.returned (.tuple #[.slice none 0 0, .int .i64 2]) = .returned (.tuple #[.slice B m d, .int .i64 (refTickE t n)]) ∧
      St w0 O (keysC B m d (refTickK t n l) :: isR g (refTickT t n) (refTickL t n l) :: L) w := fun e => by
    refine ⟨none, 0, 0, by rw [e], ?_⟩
    unfold refTickK refTickT refTickL
    rw [e]
    exact rowC_nil h 27 1
  by_cases c1 : n < 0
  · rw [decide_eq_true c1, cond_true]
    exact bad (if_pos (.inl c1))
  rw [decide_eq_false c1, cond_false]
  by_cases c2 : n > 16777216
  · rw [decide_eq_true c2, cond_true]
    exact bad (if_pos (.inr (.inl c2)))
  rw [decide_eq_false c2, cond_false]
  obtain ⟨A, na, c, h1⟩ := isR_open h
  have hl := row2_len h1.drop
  refine ⟨t, h1.cell .here rfl, ?_⟩
  rw [wrap_i64 (by omega) (by omega)]
  by_cases c3 : t > 1152921504606846976 - n
  · rw [decide_eq_true c3, cond_true]
    exact bad (if_pos (.inr (.inr c3)))
  rw [decide_eq_false c3, cond_false]
  have e0 : refTickE t n = 0 := if_neg (by omega)
  rw [e0, show refTickK t n l = (l.takeWhile fun x => decide (x.at_ ≤ t + n)).map (·.key) from if_pos e0, show refTickT t n = t + n from if_pos e0, show refTickL t n l = l.dropWhile fun x => decide (x.at_ ≤ t + n) from if_pos e0]
  refine ⟨t, h1.cell .here rfl, ?_⟩
  rw [wrap_i64 (by omega) (by omega)]
  refine st_W h1 .here 2 (by kernel_rfl) rfl (show 0 + 1 ≤ 2 by decide) (fun w2 h2 => ?_)
  have h2 : St w0 O (blk g (.cells #[.int .i64 (t + n), .slice A na c] 51) :: row2 A na c l :: L) w2 := h2
  have done : ∀ (dn lf : List Al) (B : Option Addr) (m d : Nat) (w : World), dn ++ lf = l → (∀ y ∈ dn, y.at_ ≤ t + n) → (∀ x r, lf = x :: r → ¬ x.at_ ≤ t + n) →
      St w0 O (keysC B m d (dn.map (·.key)) :: blk g (.cells #[.int .i64 (t + n), .slice A na c] 51) :: row2 A na c l :: L) w →
      SK Try.prog Try.f19 (fun e w' => ∃ B m d, e = .returned (.tuple #[.slice B m d, .int .i64 0]) ∧ St w0 O (keysC B m d ((l.takeWhile fun x => decide (x.at_ ≤ t + n)).map (·.key)) :: isR g (t + n) (l.dropWhile fun x => decide (x.at_ ≤ t + n)) :: L) w') (cfg Try.f19 9)
        [(0, .pointer (some ⟨g, 0, none⟩)), (6, .slice B m d), (7, .int .i64 (dn.length : Int))] w := by
    intro dn lf B m d w hsp hd hx h3
    have hll : l.length = dn.length + lf.length := by rw [← hsp]; simp
    have hw : l.takeWhile (fun x => decide (x.at_ ≤ t + n)) = dn ∧ l.dropWhile (fun x => decide (x.at_ ≤ t + n)) = lf := by
      cases lf with
      | nil =>
        rw [List.append_nil] at hsp
        subst hsp
        exact takeWhile_all (fun y hy => decide_eq_true (hd y hy))
      | cons x r => exact takeWhile_snoc hsp (fun y hy => decide_eq_true (hd y hy)) (decide_eq_false (hx x r rfl))
    refine F19.p9_ok ?_
    unfold F19.p9
    refine ⟨A, na, c, h3.cell (.there .here) rfl, ⟨by omega, by omega, fun h => by cases h⟩, ?_⟩
    simp only [Int.toNat_natCast]
    have h4 := rowC_nil (h3.pick (.there (.there .here))) 74 2
    refine appendSub (l := []) (lo := dn.length) (k := na - dn.length) elem2 two one2 49 h4 (by omega) (by omega) (by decide) (fun A' c' w4 h5 => ?_)
    have h6 := h5.pick (.there (.there (.there .here)))
    refine st_W h6 .here 49 (by kernel_rfl) rfl (Nat.le_refl 2) (fun w5 h7 => ?_)
    refine ⟨B, m, d, rfl, ?_⟩
    rw [hw.1, hw.2]
    have e : ([] : List Al) ++ (l.drop dn.length).take (na - dn.length) = lf := by
      rw [List.nil_append, ← hsp, List.drop_left, List.take_of_length_le (by omega)]
    rw [e] at h7
    have h8 := (h7.pick (.there (.there .here))).drop
    exact (isR_shut (A := A') (n := 0 + (na - dn.length)) (c := c') (h8.perm (.refl _))).perm (.refl _) |>.pick (.there .here)
  have loop : ∀ (lf dn : List Al) (B : Option Addr) (m d : Nat) (w : World), dn ++ lf = l → (∀ y ∈ dn, y.at_ ≤ t + n) →
      St w0 O (keysC B m d (dn.map (·.key)) :: blk g (.cells #[.int .i64 (t + n), .slice A na c] 51) :: row2 A na c l :: L) w →
      SK Try.prog Try.f19 (fun e w' => ∃ B m d, e = .returned (.tuple #[.slice B m d, .int .i64 0]) ∧ St w0 O (keysC B m d ((l.takeWhile fun x => decide (x.at_ ≤ t + n)).map (·.key)) :: isR g (t + n) (l.dropWhile fun x => decide (x.at_ ≤ t + n)) :: L) w') (cfg Try.f19 6)
        [(0, .pointer (some ⟨g, 0, none⟩)), (6, .slice B m d), (7, .int .i64 (dn.length : Int))] w := by
    intro lf
    induction lf with
    | nil =>
      intro dn B m d w hsp hd h3
      have hll : l.length = dn.length := by rw [← hsp]; simp
      refine F19.p6_ok ?_
      unfold F19.p6
      have h4 := h3.drew
      refine ⟨A, na, c, h4.cell (.there .here) rfl, ?_⟩
      rw [decide_eq_false (by omega), cond_false]
      exact done dn [] B m d _ hsp hd (fun x r e => by cases e) h4
    | cons x lf ih =>
      intro dn B m d w hsp hd h3
      have hlx : l[dn.length]? = some x := by rw [← hsp]; simp
      have hll : l.length = dn.length + (lf.length + 1) := by rw [← hsp]; simp
      have hkl := keys_len h3
      rw [List.length_map] at hkl
      refine F19.p6_ok ?_
      unfold F19.p6
      have h4 := h3.drew
      refine ⟨A, na, c, h4.cell (.there .here) rfl, ?_⟩
      rw [decide_eq_true (by omega), cond_true]
      obtain ⟨gr, hA, hjn, hc1, hc2, hc3⟩ := rowK2 (h4.pick (.there (.there .here))) hlx
      refine ⟨A, na, c, h4.cell (.there .here) rfl, ?_⟩
      subst hA
      refine ⟨⟨by omega, by omega⟩, ?_⟩
      simp only [nilck, add_eq, Nat.zero_add, Int.toNat_natCast]
      refine ⟨x.at_, hc2, t + n, h4.cell (.there .here) rfl, ?_⟩
      by_cases hx : x.at_ ≤ t + n
      · rw [decide_eq_true hx, cond_true]
        refine F19.p7_ok ?_
        unfold F19.p7
        refine ⟨_, na, c, h4.cell (.there .here) rfl, ⟨by omega, by omega⟩, ?_⟩
        simp only [nilck, add_eq, Nat.zero_add, Int.toNat_natCast]
        refine ⟨x.key, hc1, ?_⟩
        refine bslK h4 (fun gq w3 h5 => ?_)
        refine appendK x.key h5 (.there .here) (h5.cell .here rfl) (by omega) (fun A' c' w4 h6 => ?_)
        rw [show IntKind.wrap .i64 ((dn.length : Int) + 1) = ((dn ++ [x]).length : Int) from by rw [wrap_i64 (by omega) (by omega)]; simp]
        refine ih (dn ++ [x]) A' (m + 1) c' w4 (by rw [← hsp]; simp) (fun y hy => ?_) ?_
        · rcases List.mem_append.1 hy with hy | hy
          · exact hd y hy
          · obtain rfl : y = x := by simpa using hy
            exact hx
        · rw [List.map_append]
          exact (h6.pick (.there .here)).drop
      · rw [decide_eq_false hx, cond_false]
        exact done dn (x :: lf) B m d _ hsp hd (fun y r e => by cases e; exact hx) h4
  exact loop l [] none 0 0 w2 rfl (fun y hy => by cases hy) (rowC_nil h2 27 1)
end
end Go.Proofs.Ytmngdgdmbebfhaa
