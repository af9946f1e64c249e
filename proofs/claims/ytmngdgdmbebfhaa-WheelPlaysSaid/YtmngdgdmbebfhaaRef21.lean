/- The document's answer for layer 21: what its functions do. -/
import Derived.Test.YtmngdgdmbebfhaaRowGen
import Derived.Test.YtmngdgdmbebfhaaLaw21
set_option linter.unusedVariables false
set_option linter.unusedSimpArgs false
namespace Go.Proofs.Ytmngdgdmbebfhaa
open Go Go.RowKit

def Al.cells2 (x : Al) : List Value := [.int .u64 x.key, .int .i64 x.at_]
theorem two : ∀ x : Al, x.cells2.length = 2 := fun _ => rfl
theorem one2 : ∀ x : Al, x.cells2.all Value.oneCell' = true := fun _ => rfl
theorem elem2 : ElemT Try.prog 49 74 2 16 := elemT_of Try.underlying49 (by kernel_rfl) (by decide)
abbrev row2 (A : Option Addr) (n c : Nat) (l : List Al) : Assn := rowC 74 2 A n c (l.flatMap Al.cells2)
def isR (g : Nat) (t : Int) (l : List Al) : Assn := fun h => ∃ A n c, stars [blk g (.cells #[.int .i64 t, .slice A n c] 51), row2 A n c l] h
attribute [irreducible] isR
section
variable {w0 w : World} {O : Nat → Prop} {L M : List Assn} {g : Nat} {t : Int} {l : List Al} {A : Option Addr} {n c : Nat}
theorem isR_open (h : St w0 O (isR g t l :: L) w) : ∃ A n c, St w0 O (blk g (.cells #[.int .i64 t, .slice A n c] 51) :: row2 A n c l :: L) w := by
  unfold isR at h
  obtain ⟨A, h⟩ := h.ex
  obtain ⟨n, h⟩ := h.ex
  obtain ⟨c, h⟩ := h.ex
  exact ⟨A, n, c, h.flat⟩
theorem isR_shut (h : St w0 O (blk g (.cells #[.int .i64 t, .slice A n c] 51) :: row2 A n c l :: L) w) : St w0 O (isR g t l :: L) w :=
  St.make (M := [blk g (.cells #[.int .i64 t, .slice A n c] 51), row2 A n c l]) h fun k hk => by unfold isR; exact ⟨A, n, c, hk⟩
theorem rowK2 (h : St w0 O (row2 A n c l :: L) w) {j : Nat} {x : Al} (hx : l[j]? = some x) : ∃ gr, A = some ⟨gr, 0, none⟩ ∧ j < n ∧ w.cell? ⟨gr, j * 2, none⟩ = some (.int .u64 x.key) ∧ w.cell? ⟨gr, j * 2 + 1, none⟩ = some (.int .i64 x.at_) ∧ cellsAt w ⟨gr, j * 2, none⟩ 0 x.cells2 := by
  obtain ⟨gr, e, hj, hc⟩ := rowE two (by decide) h hx
  obtain ⟨h1, h2, _⟩ := id hc
  rw [add_eq] at h1 h2
  exact ⟨gr, e, hj, h1, h2, hc⟩
theorem bsl2 {K : Nat → World → Prop} {a b : Int} (h : St w0 O L w) (k : ∀ g w', St w0 O (blk g (.cells #[.int .u64 a, .int .i64 b] 74) :: L) w' → K g w') :
    bslW Try.prog 1 (Instr.buildSlice 49 1 #[(0, .agg #[.int .u64 a, .int .i64 b])]) w K :=
  bsl_W (e := 74) (sz := 2) (z := .agg #[.int .u64 0, .int .i64 0]) h Try.underlying49 (by kernel_rfl) (by kernel_rfl) (by decide) (by decide) (by kernel_rfl) k
theorem row2_len (h : St w0 O (row2 A n c l :: L) w) : l.length = n ∧ n ≤ c := rowE_len two (by decide) h
theorem without_ok (h : St w0 O (row2 A n c l :: L) w) (key : Int) (hn : n < 2 ^ 20) : Calls Try.prog 32 #[.slice A n c, .int .u64 key] w fun e w' => ∃ A' n' c', e = .returned (.slice A' n' c') ∧
    St w0 O (row2 A' n' c' (l.filter fun x => decide (x.key ≠ key)) :: row2 A n c l :: L) w' := by
  refine F32.calls ?_
  unfold F32.main
  have loop : ∀ (lf dn : List Al) (A5 : Option Addr) (l5 c5 : Nat) (w : World), dn ++ lf = l → St w0 O (row2 A5 l5 c5 (dn.filter fun x => decide (x.key ≠ key)) :: row2 A n c l :: L) w →
      SK Try.prog Try.f32 (fun e w' => ∃ A' n' c', e = .returned (.slice A' n' c') ∧ St w0 O (row2 A' n' c' (l.filter fun x => decide (x.key ≠ key)) :: row2 A n c l :: L) w') (cfg Try.f32 3)
        [(0, .slice A n c), (1, .int .u64 key), (5, .slice A5 l5 c5), (6, .int .i64 (dn.length : Int))] w := by
    intro lf
    induction lf with
    | nil =>
      intro dn A5 l5 c5 w hsp h1
      rw [List.append_nil] at hsp
      subst hsp
      have hl := row2_len h1.drop
      refine F32.p3_ok ?_
      unfold F32.p3
      rw [decide_eq_false (by omega), cond_false]
      exact ⟨A5, l5, c5, rfl, h1⟩
    | cons x lf ih =>
      intro dn A5 l5 c5 w hsp h1
      have hl := row2_len h1.drop
      have hl5 := row2_len h1
      have hfl := List.length_filter_le (fun x : Al => decide (x.key ≠ key)) dn
      have hlx : l[dn.length]? = some x := by rw [← hsp]; simp
      have hll : l.length = dn.length + (lf.length + 1) := by rw [← hsp]; simp
      refine F32.p3_ok ?_
      unfold F32.p3
      rw [decide_eq_true (by omega), cond_true]
      obtain ⟨gr, rfl, hjn, hc1, hc2, hc3⟩ := rowK2 h1.drop hlx
      refine ⟨⟨by omega, by omega⟩, ?_⟩
      simp only [nilck, add_eq, Nat.zero_add, Int.toNat_natCast]
      refine ⟨x.key, hc1, ?_⟩
      have hidx : IntKind.wrap .i64 ((dn.length : Int) + 1) = ((dn ++ [x]).length : Int) := by rw [wrap_i64 (by omega) (by omega)]; simp
      rw [hidx]
      by_cases hk : x.key = key
      · rw [show (x.key != key) = false from by simpa using hk, cond_false]
        refine ih (dn ++ [x]) A5 l5 c5 w (by rw [← hsp]; simp) ?_
        rw [List.filter_append, List.filter_cons, if_neg (by simpa using hk)]
        simpa using h1
      · rw [show (x.key != key) = true from by simpa using hk, cond_true]
        refine ⟨⟨by omega, by omega⟩, ?_⟩
        simp only [nilck, add_eq, Nat.zero_add, Int.toNat_natCast]
        refine ⟨x.key, x.at_, hc3, ?_⟩
        refine bsl2 h1 (fun gb w2 h2 => ?_)
        refine appendE elem2 two one2 49 x h2 (.there .here) (h2.cells0 (vs := x.cells2) .here) (by omega) (by decide) (fun A' c' w3 h3 => ?_)
        refine ih (dn ++ [x]) A' (l5 + 1) c' w3 (by rw [← hsp]; simp) ?_
        rw [List.filter_append, List.filter_cons, if_pos (by simpa using hk)]
        exact (h3.pick (.there .here)).drop
  exact loop l [] none 0 0 w rfl (rowC_nil h 74 2)
/-! ### Keys, Next, Left, Clear -/
theorem refKeys_ok (h : St w0 O (isR g t l :: L) w) (hb : l.length < 2 ^ 20) : Calls Try.prog 22 #[.pointer (some ⟨g, 0, none⟩)] w fun e w' => ∃ A n c, e = .returned (.slice A n c) ∧ St w0 O (keysC A n c (l.map (·.key)) :: isR g t l :: L) w' := by
  obtain ⟨A, n, c, h1⟩ := isR_open h
  have hl := row2_len h1.drop
  refine F22.calls ?_
  unfold F22.main
  have loop : ∀ (lf dn : List Al) (A3 : Option Addr) (l3 c3 : Nat) (w : World), dn ++ lf = l → St w0 O (keysC A3 l3 c3 (dn.map (·.key)) :: blk g (.cells #[.int .i64 t, .slice A n c] 51) :: row2 A n c l :: L) w →
      SK Try.prog Try.f22 (fun e w' => ∃ A n c, e = .returned (.slice A n c) ∧ St w0 O (keysC A n c (l.map (·.key)) :: isR g t l :: L) w') (cfg Try.f22 3)
        [(0, .pointer (some ⟨g, 0, none⟩)), (3, .slice A3 l3 c3), (4, .int .i64 (dn.length : Int))] w := by
    intro lf
    induction lf with
    | nil =>
      intro dn A3 l3 c3 w hsp h2
      rw [List.append_nil] at hsp
      subst hsp
      refine F22.p3_ok ?_
      unfold F22.p3
      refine ⟨A, n, c, h2.cell (.there .here) rfl, ?_⟩
      rw [decide_eq_false (by omega), cond_false]
      exact ⟨A3, l3, c3, rfl, (isR_shut ((h2.pick (.there (.there .here))).pick (.there (.there .here)))).pick (.there .here)⟩
    | cons x lf ih =>
      intro dn A3 l3 c3 w hsp h2
      have hlx : l[dn.length]? = some x := by rw [← hsp]; simp
      have hll : l.length = dn.length + (lf.length + 1) := by rw [← hsp]; simp
      have hkl := keys_len h2
      rw [List.length_map] at hkl
      refine F22.p3_ok ?_
      unfold F22.p3
      refine ⟨A, n, c, h2.cell (.there .here) rfl, ?_⟩
      rw [decide_eq_true (by omega), cond_true]
      refine ⟨A, n, c, h2.cell (.there .here) rfl, ?_⟩
      obtain ⟨gr, rfl, hjn, hc1, hc2, hc3⟩ := rowK2 (h2.pick (.there (.there .here))) hlx
      refine ⟨⟨by omega, by omega⟩, ?_⟩
      simp only [nilck, add_eq, Nat.zero_add, Int.toNat_natCast]
      refine ⟨x.key, hc1, ?_⟩
      refine bslK h2 (fun gq w3 h3 => ?_)
      refine appendK x.key h3 (.there .here) (h3.cell .here rfl) (by omega) (fun A' c' w4 h4 => ?_)
      rw [show IntKind.wrap .i64 ((dn.length : Int) + 1) = ((dn ++ [x]).length : Int) from by rw [wrap_i64 (by omega) (by omega)]; simp]
      refine ih (dn ++ [x]) A' (l3 + 1) c' w4 (by rw [← hsp]; simp) ?_
      rw [List.map_append]
      exact (h4.pick (.there .here)).drop
  exact loop l [] none 0 0 w rfl (rowC_nil h1 27 1)
def refNext (t : Int) : List Al → Int × Bool
  | [] => (0, false)
  | x :: _ => (x.at_ - t, true)
theorem refNext_ok (h : St w0 O (isR g t l :: L) w) (ht : 0 ≤ t) (ha : ∀ x ∈ l, 0 ≤ x.at_ ∧ x.at_ < 2 ^ 62) (ht2 : t < 2 ^ 62) : Calls Try.prog 21 #[.pointer (some ⟨g, 0, none⟩)] w fun e w' => e = .returned (.tuple #[.int .i64 (refNext t l).1, .bool (refNext t l).2]) ∧ St w0 O (isR g t l :: L) w' := by
  obtain ⟨A, n, c, h1⟩ := isR_open h
  have hl := row2_len h1.drop
  refine F21.calls ?_
  unfold F21.main
  refine ⟨A, n, c, h1.cell .here rfl, ?_⟩
  cases l with
  | nil =>
    rw [show (((n : Nat) : Int) == 0) = true from by rw [← hl.1]; rfl, cond_true]
    exact ⟨rfl, h⟩
  | cons x r =>
    rw [show (((n : Nat) : Int) == 0) = false from by rw [← hl.1]; simp; omega, cond_false]
    have h2 := h1.drew
    refine ⟨A, n, c, h2.cell .here rfl, ?_⟩
    obtain ⟨gr, rfl, hjn, hc1, hc2, hc3⟩ := rowK2 (j := 0) (h2.pick (.there .here)) rfl
    have := ha x List.mem_cons_self
    refine ⟨⟨by omega, by omega⟩, x.at_, hc2, t, h2.cell .here rfl, ?_⟩
    rw [wrap_i64 (by omega) (by omega)]
    exact ⟨rfl, h.drew⟩
def refClear (l : List Al) (key : Int) : List Al := l.filter fun x => decide (x.key ≠ key)
theorem refClear_ok (h : St w0 O (isR g t l :: L) w) (key : Int) (hb : l.length < 2 ^ 20) : Calls Try.prog 18 #[.pointer (some ⟨g, 0, none⟩), .int .u64 key] w fun e w' =>
    e = .returned (.int .i64 (if (refClear l key).length = l.length then 3 else 0)) ∧ St w0 O (isR g t (refClear l key) :: L) w' := by
  obtain ⟨A, n, c, h1⟩ := isR_open h
  have hl := row2_len h1.drop
  refine F18.calls ?_
  unfold F18.main
  refine ⟨A, n, c, h1.cell .here rfl, ?_⟩
  refine (without_ok (h1.pick (.there .here)) key (by omega)).mono ?_
  rintro e w2 ⟨A', n', c', rfl, h2⟩
  have hl' := row2_len h2
  have h3 := h2.pick (.there (.there .here))
  refine .inl ⟨_, _, _, rfl, A, n, c, h3.cell .here rfl, ?_⟩
  have hfl : (refClear l key).length = n' := hl'.1
  by_cases e : n' = n
  · rw [show (((n' : Nat) : Int) == ((n : Nat) : Int)) = true from by simp [e], cond_true, if_pos (by omega)]
    have hsame : refClear l key = l := List.filter_eq_self.2 fun x hx => by
      have := (List.length_filter_eq_length_iff.1 (show (l.filter fun x => decide (x.key ≠ key)).length = l.length by unfold refClear at hfl; omega)) x hx
      exact this
    rw [hsame]
    exact ⟨rfl, isR_shut ((h3.pick (.there .here)).drop |>.perm (.refl _))⟩
  · rw [show (((n' : Nat) : Int) == ((n : Nat) : Int)) = false from by simp; omega, cond_false, if_neg (by omega)]
    refine st_W h3 .here 49 (by kernel_rfl) rfl (Nat.le_refl 2) (fun w3 h4 => ?_)
    refine ⟨rfl, isR_shut (A := A') (n := n') (c := c') ?_⟩
    exact ((h4.pick (.there (.there .here))).drop)
end
end Go.Proofs.Ytmngdgdmbebfhaa
