/- The wheel: an alarm is put into its row. -/
import Derived.Test.YtmngdgdmbebfhaaWheel1
set_option linter.unusedVariables false
set_option linter.unusedSimpArgs false
namespace Go.Proofs.Ytmngdgdmbebfhaa
open Go Go.RowKit

theorem wrap_i64 {n : Int} (h1 : -9223372036854775808 ≤ n) (h2 : n < 9223372036854775808) : IntKind.wrap .i64 n = n := by
  simp [IntKind.wrap, IntKind.bits, IntKind.signed]; omega
theorem wrap_u64 {n : Int} (h1 : 0 ≤ n) (h2 : n < 18446744073709551616) : IntKind.wrap .u64 n = n := by
  simp [IntKind.wrap, IntKind.bits, IntKind.signed]; omega
theorem add_eq (g off i : Nat) : (⟨g, off, none⟩ : Addr).add i = ⟨g, off + i, none⟩ := by unfold Addr.add; split <;> simp_all
theorem five {k : Nat} (h : k < 5) : k = 0 ∨ k = 1 ∨ k = 2 ∨ k = 3 ∨ k = 4 := by omega
theorem wrap6 {k : Nat} (h : k < 5) : IntKind.wrap .i64 (6 * (k : Int)) = ((6 * k : Nat) : Int) := by rcases five h with rfl | rfl | rfl | rfl | rfl <;> decide
theorem min6 {k : Nat} (h : k < 5) : min (Int.toNat ((6 * k : Nat) : Int)) (IntKind.bits .i64) = 6 * k := by rcases five h with rfl | rfl | rfl | rfl | rfl <;> decide
theorem fdiv_pow (n : Int) (k : Nat) : Int.fdiv n (2 ^ k : Int) = n / 2 ^ k := Int.fdiv_eq_ediv_of_nonneg _ (Int.le_of_lt (Int.pow_pos (by decide)))
theorem shr_eq {k : Nat} (h : k < 5) (n : Int) : Int.fdiv n (2 ^ (min (Int.toNat (IntKind.wrap .i64 (6 * (k : Int)))) (IntKind.bits .i64)) : Int) = n / 2 ^ (6 * k) := by
  rw [wrap6 h, min6 h, fdiv_pow]
def far (now at_ : Int) (k : Nat) : Int := at_ / 2 ^ (6 * k) - now / 2 ^ (6 * k)
def spoke (k : Nat) (at_ : Int) : Nat := k * 64 + ((at_ / 2 ^ (6 * k)) % 64).toNat
theorem spoke_lt {k : Nat} (h : k < 5) (at_ : Int) : spoke k at_ < 320 := by
  unfold spoke
  have := Int.emod_lt_of_pos (at_ / 2 ^ (6 * k)) (show (0 : Int) < 64 by decide)
  have := Int.emod_nonneg (at_ / 2 ^ (6 * k)) (show (64 : Int) ≠ 0 by decide)
  omega
theorem shr_range {n : Int} (k : Nat) (h0 : 0 ≤ n) : 0 ≤ n / 2 ^ (6 * k) ∧ n / 2 ^ (6 * k) ≤ n := by
  have hp : (0 : Int) < 2 ^ (6 * k) := Int.pow_pos (by decide)
  exact ⟨Int.ediv_nonneg h0 (Int.le_of_lt hp), Int.ediv_le_self _ h0⟩
theorem flat_len : ∀ (l : List Al), (l.flatMap Al.cells).length = l.length * 3
  | [] => rfl
  | x :: r => by rw [List.flatMap_cons, List.length_append, flat_len r, List.length_cons]; show 3 + _ = _; omega
theorem bslAl {w0 w : World} {O : Nat → Prop} {L : List Assn} {K : Nat → World → Prop} {a b c : Int} (h : St w0 O L w) (k : ∀ g w', St w0 O (blk g (.cells #[.int .u64 a, .int .i64 b, .int .u64 c] 60) :: L) w' → K g w') :
    bslW Try.prog 1 (Instr.buildSlice 54 1 #[(0, .agg #[.int .u64 a, .int .i64 b, .int .u64 c])]) w K :=
  bsl_W (e := 60) (sz := 3) (z := .agg #[.int .u64 0, .int .i64 0, .int .u64 0]) h Try.underlying54 (by kernel_rfl) (by kernel_rfl) (by decide) (by decide) (by kernel_rfl) k
section
variable {w0 w : World} {O : Nat → Prop} {L R : List Assn} {g gm : Nat} {now seq : Int} {rows : List (List Al)}
/-- One alarm is appended to a row of alarms. -/
theorem appendAl {K : Option Addr → Nat → Nat → World → Prop} {A : Option Addr} {n c gb : Nat} {row : List Al} (x : Al) (h : St w0 O L w) (p : Pick (rowC 60 3 A n c (row.flatMap Al.cells)) L R) (hb : cellsAt w ⟨gb, 0, none⟩ 0 x.cells)
    (hn : n < 2 ^ 31) (k : ∀ A' c' w', St w0 O (rowC 60 3 A' (n + 1) c' ((row ++ [x]).flatMap Al.cells) :: R) w' → K A' (n + 1) c' w') :
    slW Try.prog (Builtin.append_ #[54, 54] 54 #[.slice A n c, .slice (some ⟨gb, 0, none⟩) 1 1]) w K := by
  refine append_W elemAl 54 h p ⟨gb, 0, none⟩ 1 1 x.cells rfl (fun j u hj => ?_) rfl (by omega) (by omega) (fun A' c' w' h' => k A' c' w' ?_)
  · rw [add_eq, Nat.zero_add]
    obtain ⟨h1, h2, h3, _⟩ := hb
    simp only [add_eq] at h1 h2 h3
    match j, hj with
    | 0, hj => cases hj; exact h1
    | 1, hj => cases hj; exact h2
    | 2, hj => cases hj; exact h3
  · rw [List.flatMap_append, show [x].flatMap Al.cells = x.cells from by simp]
    exact h'
theorem put_ok (h : St w0 O (wM g gm now seq rows :: L) w) (x : Al) (h0 : 0 ≤ now) (h1 : now ≤ x.at_) (h2 : x.at_ < 2 ^ 61) (h3 : far now x.at_ 4 < 64) (hb : ∀ r ∈ rows, r.length < 2 ^ 30) :
    Calls Try.prog 23 #[.pointer (some ⟨g, 0, none⟩), x.enc] w fun e w' => e = .returned (.tuple #[]) ∧
      ∃ k, k < 5 ∧ far now x.at_ k < 64 ∧ (∀ j, j < k → 64 ≤ far now x.at_ j) ∧ St w0 O (wM g gm now seq (rows.set (spoke k x.at_) (rows.getD (spoke k x.at_) [] ++ [x])) :: L) w' := by
  refine F23.calls ?_
  unfold F23.main
  refine new_box h (fun g3 w6 h4 => ?_)
  have loop : ∀ (n k : Nat) (w : World), n + k = 5 → (∀ j, j < k → 64 ≤ far now x.at_ j) → St w0 O (blk g3 (.cells x.cells.toArray 60) :: wM g gm now seq rows :: L) w →
      SK Try.prog Try.f23 (fun e w' => e = .returned (.tuple #[]) ∧ ∃ k, k < 5 ∧ far now x.at_ k < 64 ∧ (∀ j, j < k → 64 ≤ far now x.at_ j) ∧ St w0 O (wM g gm now seq (rows.set (spoke k x.at_) (rows.getD (spoke k x.at_) [] ++ [x])) :: L) w') (cfg Try.f23 2)
        [(0, .pointer (some ⟨g, 0, none⟩)), (3, .pointer (some ⟨g3, 0, none⟩)), (8, .int .i64 (k : Int))] w := by
    intro n
    induction n with
    | zero => intro k w hk hj _; have := hj 4 (by omega); omega
    | succ n ih =>
      intro k w hk hj h5
      have hk5 : k < 5 := by omega
      obtain ⟨Rs, ⟨hlen, rfl⟩, h6⟩ := wM_open h5.drop
      refine F23.p2_ok ?_
      unfold F23.p2
      have hxat := h5.cell (off := 1) (v := .int .i64 x.at_) .here rfl
      have hnow := h6.cell (off := 321) .here (wcells_now (gm := gm) (now := now) (seq := seq) hlen)
      have r1 := shr_range k h0
      have r2 := shr_range k (Int.le_trans h0 h1)
      simp only [nilck, shr_eq hk5, show decide ((k : Int) < 5) = true from by simp; omega, cond_true]
      refine ⟨x.at_, hxat, now, hnow, by rw [wrap6 hk5]; omega, now, hnow, by rw [wrap6 hk5]; omega, ?_⟩
      rw [if_neg (show ¬ now > x.at_ by omega), wrap_i64 (by omega) (by omega)]
      change bif decide (far now x.at_ k < 64) then _ else _
      by_cases hf : far now x.at_ k < 64
      · rw [decide_eq_true hf, cond_true]
        have hm1 : Int.tmod (x.at_ / 2 ^ (6 * k)) 64 = (x.at_ / 2 ^ (6 * k)) % 64 := Int.tmod_eq_emod_of_nonneg r2.1
        have hm2 := Int.emod_lt_of_pos (x.at_ / 2 ^ (6 * k)) (show (0 : Int) < 64 by decide)
        have hm3 := Int.emod_nonneg (x.at_ / 2 ^ (6 * k)) (show (64 : Int) ≠ 0 by decide)
        have hs := spoke_lt hk5 x.at_
        obtain ⟨r, hr⟩ : ∃ r, Rs[spoke k x.at_]? = some r := ⟨Rs[spoke k x.at_], List.getElem?_eq_getElem (by omega)⟩
        rw [hm1]
        refine ⟨by rw [wrap6 hk5]; omega, by decide, ⟨by omega, by omega⟩, ⟨by omega, by omega⟩, ?_⟩
        have hoff : ((⟨g, 0, none⟩ : Addr).add (Int.toNat (k : Int) * 64)).add (Int.toNat ((x.at_ / 2 ^ (6 * k)) % 64) * 1) = ⟨g, spoke k x.at_, none⟩ := by
          rw [add_eq, add_eq]; simp [spoke]
        simp only [nilck, hoff]
        have h7 := h6.drew.drew.drew.drew
        refine ⟨r.1.1, r.1.2.1, r.1.2.2, h7.cell .here (wcells_row hr), x.key, x.at_, x.seq, h5.drew.drew.drew.drew.cells0 (vs := x.cells) .here, ?_⟩
        refine bslAl (row_out hr h7) (fun gb w8 h8 => ?_)
        have hrl : r.2.length < 2 ^ 30 := hb _ (List.mem_map.2 ⟨r, List.mem_of_getElem? hr, rfl⟩)
        have hl8 := rowC_len (h8.pick (.there .here))
        have hfl : (r.2.flatMap Al.cells).length = r.2.length * 3 := flat_len r.2
        refine appendAl x h8 (.there .here) (h8.cells0 (vs := x.cells) .here) (by omega) (fun A' c' w9 h9 => ?_)
        refine st_W h9 (.there (.there .here)) 54 (by kernel_rfl) rfl (by rw [wcells_size]; show _ + 1 ≤ _; omega) (fun w10 h10 => ?_)
        have hlt : spoke k x.at_ < Rs.length := by omega
        have h11 : St w0 O (blk g (.cells (wcells (Rs.set (spoke k x.at_) ((A', r.1.2.1 + 1, c'), r.2 ++ [x])) gm now seq) 58) :: ((Rs.set (spoke k x.at_) ((A', r.1.2.1 + 1, c'), r.2 ++ [x])).map rC ++ L)) w10 := by
          refine row_in hlt ?_
          rw [← putAt_row hlt]
          exact (h10.pick (.there (.there .here))).drop.pick (.there .here)
        refine ⟨by trivial, k, hk5, hf, hj, wM_shut (by simpa using hlen) ?_ h11⟩
        rw [List.map_set, List.getD_eq_getElem?_getD, List.getElem?_map, hr]
        rfl
      · rw [decide_eq_false hf, cond_false]
        rw [show IntKind.wrap .i64 ((k : Int) + 1) = ((k + 1 : Nat) : Int) from by rw [wrap_i64 (by omega) (by omega)]; rfl]
        exact ih (k + 1) _ (by omega) (fun j hj' => by
          rcases Nat.lt_succ_iff_lt_or_eq.1 hj' with h | rfl
          · exact hj j h
          · omega) h5.drew.drew
  exact loop 5 0 w6 rfl (fun j hj => by omega) h4
end
end Go.Proofs.Ytmngdgdmbebfhaa
