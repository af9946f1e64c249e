/- ipcpopt.Text, and the document's. -/
import Derived.Test.YthfcnkeclcphpaaDoorGlob10
import Derived.Test.YthfcnkeclcphpaaDoorOctet
set_option linter.unusedVariables false
set_option linter.unusedSimpArgs false
namespace Go.Proofs.YthfcnkeclcphpaaDoor
open Go Go.RowKit

def bN (v : Int) (i : Nat) : Nat := (byteI v i).toNat
theorem bN_lt (v : Int) (i : Nat) : bN v i < 256 := by have := byteI_range v i; unfold bN; omega
def dotB : ByteArray := { data := #[46] }
/-- An address's text. -/
def textV (v : Int) : ByteArray := decB (bN v 0) ++ joinR dotB [decB (bN v 1), decB (bN v 2), decB (bN v 3)]
def strC (s : ByteArray) : List Value := [.string s]
theorem elemStr : ElemT Tryd.prog 56 9 1 16 := elemT_of Tryd.underlying56 (by kernel_rfl) (by decide)
theorem num32_at (v : Int) {j : Nat} (h : j < 4) : (((num32 v).data.toList.getD j 0).toNat : Int) = ((bN v j : Nat) : Int) := by
  have hb := u8_byte v
  have hr := byteI_range v
  have e : ∀ j, ((UInt8.ofNat (byteI v j).toNat).toNat : Int) = ((bN v j : Nat) : Int) := fun j => by rw [hb j]; unfold bN; have := hr j; omega
  have : j = 0 ∨ j = 1 ∨ j = 2 ∨ j = 3 := by omega
  rcases this with rfl | rfl | rfl | rfl
  · exact e 0
  · exact e 1
  · exact e 2
  · exact e 3
theorem Text_ok (v : Int) {w : World} (hG : Glob w) : Calls Tryd.prog 10 #[.int .u32 v] w fun e w' => e = .returned (.string (textV v)) ∧ Below w.heap.size w w' := by
  refine F10.calls ?_
  unfold F10.main
  refine (Put32_ok (St.refl w) v).mono ?_
  rintro e w1 ⟨rfl, h1⟩
  refine .inl ⟨_, rfl, ?_⟩
  refine toBytes_W h1 _ (fun g c w2 h2 hc hge hlt => ?_)
  have hG2 : Glob w2 := hG.old h2
  have hb2 := h2.below
  have hsz : (num32 v).size = 4 := rfl
  rw [hsz]
  have loop : ∀ (k i : Nat) (A : Option Addr) (cp : Nat) (w3 : World), k + i = 4 → St w2 (World.all w2) [rowC 9 1 A i cp (((List.range i).map fun j => decB (bN v j)).flatMap strC)] w3 →
      SK Tryd.prog Tryd.f10 (fun e w' => e = .returned (.string (textV v)) ∧ Below w.heap.size w w') (cfg Tryd.f10 3) [(3, .slice A i cp), (8, .slice (some ⟨g, 0, none⟩) 4 c), (9, .int .i64 ((4 : Nat) : Int)), (10, .int .i64 (i : Int))] w3 := by
    intro k
    induction k with
    | zero =>
      intro i A cp w3 hk h3
      obtain rfl : i = 4 := by omega
      refine F10.p3_ok ?_
      unfold F10.p3
      rw [decide_eq_false (by decide), cond_false]
      have hl := rowC_len h3
      refine (Join_ok (c := cp) (decB (bN v 0)) (decB (bN v 1)) [decB (bN v 2), decB (bN v 3)] dotB (A := A) h3 (fun j z hz => ?_) (fun z hz => ?_) (by decide) (by decide) (by show 2 < 2 ^ 10; decide) hl.2.1).mono ?_
      · have hj : j < 4 := (List.getElem?_eq_some_iff.1 hz).1
        refine rowC_cell h3 (j := j) (v := .string z) ?_
        have : j = 0 ∨ j = 1 ∨ j = 2 ∨ j = 3 := by omega
        rcases this with rfl | rfl | rfl | rfl <;> (cases hz; rfl)
      · have : ∃ n, z = decB n := by
          simp only [List.mem_cons, List.not_mem_nil, or_false] at hz
          rcases hz with rfl | rfl | rfl | rfl <;> exact ⟨_, rfl⟩
        obtain ⟨n, rfl⟩ := this
        have := (decB_size n).2
        omega
      · rintro e w4 ⟨rfl, h4⟩
        refine .inl ⟨_, rfl, rfl, ?_⟩
        exact hb2.trans (h4.below.mono hb2.size)
    | succ k ih =>
      intro i A cp w3 hk h3
      refine F10.p3_ok ?_
      unfold F10.p3
      rw [decide_eq_true (by omega), cond_true]
      refine ⟨⟨by omega, by omega⟩, ?_⟩
      simp only [nilck, add_eq, Int.toNat_natCast, Nat.mul_one, Nat.zero_add]
      refine ⟨_, h3.oldCell (hc i (by omega)), ?_⟩
      have hlt' := bN_lt v i
      rw [num32_at v (by omega), wrap_i64 (by omega) (by omega)]
      refine (Itoa_ok (hG2.old h3) (by omega)).mono ?_
      rintro e w4 ⟨rfl, hb4⟩
      refine .inl ⟨_, rfl, ?_⟩
      have h4 := h3.over hb4
      refine bsl_W (e := 9) (sz := 1) (z := .string eB) h4 Tryd.underlying56 (by kernel_rfl) (by kernel_rfl) (by decide) (by decide) (cells := #[.string (decB (bN v i))]) (by kernel_rfl) (fun g5 w5 h5 => ?_)
      refine appendE elemStr (fun x => rfl) (fun x => rfl) _ (decB (bN v i)) h5 (.there .here) (cellsAt_of fun i v hv => h5.cell .here (by rw [Nat.zero_add]; simpa [strC] using hv)) (by omega) (by decide) (fun A' c' w6 h6 => ?_)
      rw [nat_wrap' (by omega)]
      refine ih (i + 1) A' c' w6 (by omega) ?_
      rw [List.range_succ, List.map_append]
      exact h6.pick (.there .here) |>.drop
  exact loop 4 0 none 0 w2 rfl (rowC_nil (St.refl w2) 9 1)
/-! ### The document's -/
theorem shr_mod {v : Int} (h0 : 0 ≤ v) {i : Nat} (h : i < 4) : IntKind.wrap .i64 (Int.tmod (Int.fdiv v (2 ^ (min (Int.toNat (IntKind.wrap .u64 (IntKind.wrap .i64 (8 * ((3 - i : Nat) : Int))))) (IntKind.bits .u32)) : Int)) 256) = ((bN v i : Nat) : Int) := by
  have e : min (Int.toNat (IntKind.wrap .u64 (IntKind.wrap .i64 (8 * ((3 - i : Nat) : Int))))) (IntKind.bits .u32) = 24 - 8 * i := by
    have : i = 0 ∨ i = 1 ∨ i = 2 ∨ i = 3 := by omega
    rcases this with rfl | rfl | rfl | rfl <;> decide
  have hr := byteI_range v i
  rw [e, Int.fdiv_eq_ediv_of_nonneg _ (Int.le_of_lt (Int.pow_pos (by decide)))]
  rw [Int.tmod_eq_emod_of_nonneg (Int.ediv_nonneg h0 (Int.le_of_lt (Int.pow_pos (by decide))))]
  show IntKind.wrap .i64 (byteI v i) = _
  rw [wrap_i64 (by omega) (by omega)]
  unfold bN
  omega
theorem RefText_ok {v : Int} (h0 : 0 ≤ v) {w : World} (hG : Glob w) : Calls Tryd.prog 11 #[.int .u32 v] w fun e w' => e = .returned (.string (textV v)) ∧ Below w.heap.size w w' := by
  refine F11.calls ?_
  unfold F11.main
  have step : ∀ (i : Nat) (s : ByteArray) (w1 : World), i < 4 → s.size ≤ 100 → Below w.heap.size w w1 →
      (∀ w2, Below w.heap.size w w2 → SK Tryd.prog Tryd.f11 (fun e w' => e = .returned (.string (textV v)) ∧ Below w.heap.size w w') (cfg Tryd.f11 3) [(0, .int .u32 v), (3, .string (if i < 3 then s ++ decB (bN v i) ++ dotB else s ++ decB (bN v i))), (4, .int .i64 (2 - (i : Int)))] w2) →
      SK Tryd.prog Tryd.f11 (fun e w' => e = .returned (.string (textV v)) ∧ Below w.heap.size w w') (cfg Tryd.f11 3) [(0, .int .u32 v), (3, .string s), (4, .int .i64 (3 - (i : Int)))] w1 := by
    intro i s w1 hi hs hb k
    refine F11.p3_ok ?_
    unfold F11.p3
    rw [decide_eq_true (by omega), cond_true]
    have e3 : (3 - (i : Int)) = ((3 - i : Nat) : Int) := by omega
    refine ⟨?_, by decide, ?_⟩
    · rw [e3]
      have : i = 0 ∨ i = 1 ∨ i = 2 ∨ i = 3 := by omega
      rcases this with rfl | rfl | rfl | rfl <;> decide
    rw [e3, shr_mod h0 hi]
    have hlt := bN_lt v i
    refine (Itoa_ok (hG.below hb) (by omega)).mono ?_
    rintro e w2 ⟨rfl, hb2⟩
    have hb3 := hb.trans (hb2.mono hb.size)
    have hd := (decB_size (bN v i)).2
    refine .inl ⟨_, rfl, by omega, ?_⟩
    have k := k w2 hb3
    have e4 : IntKind.wrap .i64 (((3 - i : Nat) : Int) - 1) = 2 - (i : Int) := by rw [wrap_i64 (by omega) (by omega)]; omega
    by_cases h3 : i < 3
    · rw [if_pos h3] at k
      rw [decide_eq_true (by omega), cond_true, e4]
      refine ⟨?_, k⟩
      rw [ByteArray.size_append]
      show s.size + (decB (bN v i)).size + 1 ≤ _
      omega
    · rw [if_neg h3] at k
      rw [decide_eq_false (by omega), cond_false, e4]
      exact k
  have hz := fun n => decB_size n
  have d1 : dotB.size = 1 := rfl
  refine step 0 eB w (by decide) (by decide) (Below.refl _ _) (fun w1 hb1 => ?_)
  refine step 1 _ w1 (by decide) ?_ hb1 (fun w2 hb2 => ?_)
  · have h0 := hz (bN v 0)
    simp only [if_pos (show (0 : Nat) < 3 from by decide), ByteArray.size_append]
    have : eB.size = 0 := rfl
    omega
  refine step 2 _ w2 (by decide) ?_ hb2 (fun w3 hb3 => ?_)
  · have h0 := hz (bN v 0)
    have h1 := hz (bN v 1)
    simp only [if_pos (show (0 : Nat) < 3 from by decide), if_pos (show (1 : Nat) < 3 from by decide), ByteArray.size_append]
    have : eB.size = 0 := rfl
    omega
  refine step 3 _ w3 (by decide) ?_ hb3 (fun w4 hb4 => ?_)
  · have h0 := hz (bN v 0)
    have h1 := hz (bN v 1)
    have h2 := hz (bN v 2)
    simp only [if_pos (show (0 : Nat) < 3 from by decide), if_pos (show (1 : Nat) < 3 from by decide), if_pos (show (2 : Nat) < 3 from by decide), ByteArray.size_append]
    have : eB.size = 0 := rfl
    omega
  refine F11.p3_ok ?_
  unfold F11.p3
  rw [decide_eq_false (by decide), cond_false]
  refine ⟨?_, hb4⟩
  congr 2
  simp only [if_pos (show (0 : Nat) < 3 from by decide), if_pos (show (1 : Nat) < 3 from by decide), if_pos (show (2 : Nat) < 3 from by decide), if_neg (show ¬ (3 : Nat) < 3 from by decide)]
  unfold textV
  simp only [joinR, nil_app, ByteArray.append_assoc]
  simp only [app_nil]
end Go.Proofs.YthfcnkeclcphpaaDoor
