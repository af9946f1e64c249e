/- A text is read as the address that it tells: ipcpopt's reading, and the document's. -/
import Derived.Test.YthfcnkeclcphpaaDoorRead10
set_option linter.unusedVariables false
set_option linter.unusedSimpArgs false
namespace Go.Proofs.YthfcnkeclcphpaaDoor
open Go Go.RowKit

theorem orS_eq {v n : Int} (h0 : 0 ≤ v) (h1 : v < 2 ^ 24) (n0 : 0 ≤ n) (n1 : n < 256) : orS v n = v * 256 + n := by
  have := or_byte h0 h1 n0 n1
  rw [wrap_u32 (n := n) n0 (by omega)] at this
  exact this
theorem digit_nat {d : Nat} (h : d < 10) : (UInt8.ofNat (48 + d)).toNat = 48 + d := UInt8.toNat_ofNat_of_lt' (by show 48 + d < 256; omega)
/-! ### 1. The document's reading -/
theorem ref_digit {d : Nat} (h : d < 10) (r : List UInt8) (v : Int) {n : Nat} (hn : n < 1000) : refLoop (UInt8.ofNat (48 + d) :: r) v (n : Int) = refLoop r v ((n * 10 + d : Nat) : Int) := by
  rw [refLoop, if_neg (by rw [digit_nat h]; omega), digit_nat h]
  congr 1
  have e1 : IntKind.wrap .u32 ((n : Int) * 10) = ((n * 10 : Nat) : Int) := by rw [wrap_u32 (by omega) (by omega)]; omega
  have e2 : IntKind.wrap .u32 ((48 + d : Nat) : Int) = ((48 + d : Nat) : Int) := wrap_u32 (by omega) (by omega)
  have e3 : Int.tmod ((48 + d : Nat) : Int) 64 = ((48 + d : Nat) : Int) := by rw [Int.tmod_eq_emod_of_nonneg (by omega)]; omega
  rw [e1, e2, e3, wrap_u32 (n := ((n * 10 : Nat) : Int) + _) (by omega) (by omega), wrap_u32 (by omega) (by omega)]
  omega
theorem ref_dec {b : Nat} (h : b < 256) (r : List UInt8) (v : Int) : refLoop (dec3 b ++ r) v 0 = refLoop r v (b : Int) := by
  unfold dec3
  split
  · rename_i h1
    have := ref_digit h1 r v (n := 0) (by decide)
    rw [Nat.zero_mul, Nat.zero_add] at this
    exact this
  · split
    · rename_i h1 h2
      have s1 := ref_digit (d := b / 10) (by omega) (UInt8.ofNat (48 + b % 10) :: r) v (n := 0) (by decide)
      rw [Nat.zero_mul, Nat.zero_add] at s1
      have s2 := ref_digit (d := b % 10) (by omega) r v (n := b / 10) (by omega)
      rw [show b / 10 * 10 + b % 10 = b from by omega] at s2
      exact s1.trans s2
    · rename_i h1 h2
      have s1 := ref_digit (d := b / 100) (by omega) (UInt8.ofNat (48 + b / 10 % 10) :: UInt8.ofNat (48 + b % 10) :: r) v (n := 0) (by decide)
      rw [Nat.zero_mul, Nat.zero_add] at s1
      have s2 := ref_digit (d := b / 10 % 10) (by omega) (UInt8.ofNat (48 + b % 10) :: r) v (n := b / 100) (by omega)
      have s3 := ref_digit (d := b % 10) (by omega) r v (n := b / 100 * 10 + b / 10 % 10) (by omega)
      rw [show (b / 100 * 10 + b / 10 % 10) * 10 + b % 10 = b from by omega] at s3
      exact (s1.trans s2).trans s3
theorem tmod_byte {b : Nat} (h : b < 256) : Int.tmod (b : Int) 256 = (b : Int) := by rw [Int.tmod_eq_emod_of_nonneg (by omega)]; omega
theorem ref_dot (r : List UInt8) (v : Int) {b : Nat} (h : b < 256) : refLoop (46 :: r) v (b : Int) = refLoop r (orS v (b : Int)) 0 := by
  rw [refLoop, if_pos (show (46 : UInt8).toNat = 46 from rfl), tmod_byte h]
theorem ref_end (v : Int) {b : Nat} (h : b < 256) : refLoop [] v (b : Int) = orS v (b : Int) := by rw [refLoop, tmod_byte h]
theorem textV_list (v : Int) : (textV v).data.toList = dec3 (bN v 0) ++ (46 :: (dec3 (bN v 1) ++ (46 :: (dec3 (bN v 2) ++ (46 :: dec3 (bN v 3)))))) := by
  unfold textV
  simp only [joinR, ByteArray.data_append, Array.toList_append]
  simp [decB, dotB, eB]
theorem bytes_val {v : Int} (h0 : 0 ≤ v) (h1 : v < 2 ^ 32) : (((bN v 0 : Nat) : Int) * 256 + (bN v 1 : Nat)) * 256 * 256 + (bN v 2 : Nat) * 256 + (bN v 3 : Nat) = v := by
  have e : ∀ i, ((bN v i : Nat) : Int) = byteI v i := fun i => by have := byteI_range v i; unfold bN; omega
  rw [e, e, e, e]
  have f0 : byteI v 0 = v / 16777216 % 256 := rfl
  have f1 : byteI v 1 = v / 65536 % 256 := rfl
  have f2 : byteI v 2 = v / 256 % 256 := rfl
  have f3 : byteI v 3 = v / 1 % 256 := rfl
  rw [f0, f1, f2, f3]
  omega
theorem bytes_or {v : Int} (h0 : 0 ≤ v) (h1 : v < 2 ^ 32) : orS (orS (orS (orS 0 (bN v 0 : Nat)) (bN v 1 : Nat)) (bN v 2 : Nat)) (bN v 3 : Nat) = v := by
  have b0 := bN_lt v 0
  have b1 := bN_lt v 1
  have b2 := bN_lt v 2
  have b3 := bN_lt v 3
  have e := bytes_val h0 h1
  rw [orS_eq (v := 0) (by decide) (by decide) (by omega) (by omega)]
  rw [orS_eq (v := 0 * 256 + _) (by omega) (by omega) (by omega) (by omega)]
  rw [orS_eq (v := (0 * 256 + _) * 256 + _) (by omega) (by omega) (by omega) (by omega)]
  rw [orS_eq (v := ((0 * 256 + _) * 256 + _) * 256 + _) (by omega) (by omega) (by omega) (by omega)]
  omega
theorem refV_text {v : Int} (h0 : 0 ≤ v) (h1 : v < 2 ^ 32) : refV (textV v) = v := by
  unfold refV
  rw [textV_list, ref_dec (bN_lt v 0), ref_dot _ _ (bN_lt v 0), ref_dec (bN_lt v 1), ref_dot _ _ (bN_lt v 1), ref_dec (bN_lt v 2), ref_dot _ _ (bN_lt v 2)]
  have := ref_dec (bN_lt v 3) [] (orS (orS (orS 0 (bN v 0 : Nat)) (bN v 1 : Nat)) (bN v 2 : Nat))
  rw [List.append_nil] at this
  rw [this, ref_end _ (bN_lt v 3)]
  exact bytes_or h0 h1
theorem textV_size (v : Int) : (textV v).size ≤ 15 := by
  have e : (textV v).size = (textV v).data.toList.length := Array.length_toList.symm
  have l := fun i => (dec3_len (bN v i)).2
  have l0 := l 0
  have l1 := l 1
  have l2 := l 2
  have l3 := l 3
  rw [e, textV_list]
  simp only [List.length_append, List.length_cons]
  omega
/-! ### 2. The program's -/
theorem pm_digit {d : Nat} (h : d < 10) (r : List UInt8) {acc : Nat} (ha : acc * 10 + d ≤ 255) : Lib.parseUintM 255 acc (UInt8.ofNat (48 + d) :: r) = Lib.parseUintM 255 (acc * 10 + d) r := by
  rw [Lib.parseUintM, digit_nat h, if_pos (by omega), if_neg (by omega), if_neg (by omega)]
  congr 1
  omega
theorem pm_dec {b : Nat} (h : b < 256) : Lib.parseUintM 255 0 (dec3 b) = .ok b := by
  have hend : ∀ n, Lib.parseUintM 255 n [] = .ok n := fun n => by rw [Lib.parseUintM]
  unfold dec3
  split
  · rename_i h1
    rw [pm_digit h1 _ (by omega), hend, Nat.zero_mul, Nat.zero_add]
  · split
    · rename_i h1 h2
      rw [pm_digit (d := b / 10) (by omega) _ (by omega), pm_digit (d := b % 10) (by omega) _ (by omega), hend]
      congr 1
      omega
    · rename_i h1 h2
      rw [pm_digit (d := b / 100) (by omega) _ (by omega), pm_digit (d := b / 10 % 10) (by omega) _ (by omega), pm_digit (d := b % 10) (by omega) _ (by omega), hend]
      congr 1
      omega
theorem pu8_dec {b : Nat} (h : b < 256) : pu8 ⟨(dec3 b).toArray⟩ = b := by
  have hne : ¬ dec3 b = [] := fun e => by have := (dec3_len b).1; rw [e] at this; exact absurd this (by decide)
  have hp : Lib.parseUintB 8 (dec3 b) = .ok b := by
    unfold Lib.parseUintB
    rw [if_neg hne, show (2 ^ 8 - 1 : Nat) = 255 from rfl, pm_dec h]
  unfold pu8
  rw [show ((⟨(dec3 b).toArray⟩ : ByteArray).data.toList) = dec3 b from rfl, hp]
theorem nodot {b : Nat} (h : b < 256) : ∀ c ∈ dec3 b, c ≠ 46 := by
  have key : ∀ d, d < 10 → UInt8.ofNat (48 + d) ≠ 46 := fun d hd e => by
    have := congrArg UInt8.toNat e
    rw [digit_nat hd] at this
    have : (46 : UInt8).toNat = 46 := rfl
    omega
  unfold dec3
  intro c hc
  split at hc
  · rename_i h1
    simp only [List.mem_cons, List.not_mem_nil, or_false] at hc
    subst hc; exact key _ h1
  · split at hc
    · simp only [List.mem_cons, List.not_mem_nil, or_false] at hc
      rcases hc with rfl | rfl <;> exact key _ (by omega)
    · simp only [List.mem_cons, List.not_mem_nil, or_false] at hc
      rcases hc with rfl | rfl | rfl <;> exact key _ (by omega)
theorem index_dot : ∀ (x r : List UInt8), (∀ c ∈ x, c ≠ 46) → Lib.index (x ++ 46 :: r) [46] = (x.length : Int)
  | [], r, _ => by simp [Lib.index]
  | c :: x, r, h => by
    have hc := h c List.mem_cons_self
    have ih := index_dot x r (fun d hd => h d (List.mem_cons_of_mem _ hd))
    rw [List.cons_append, Lib.index]
    have e1 : ([46] : List UInt8).isPrefixOf (c :: (x ++ 46 :: r)) = false := by
      simp [List.isPrefixOf, Ne.symm hc]
    rw [e1, ih]
    have e2 : ((x.length : Int) == -1) = false := by rw [beq_eq_false_iff_ne]; omega
    simp [e2]
theorem index_none : ∀ (x : List UInt8), (∀ c ∈ x, c ≠ 46) → Lib.index x [46] = -1
  | [], _ => by simp [Lib.index]
  | c :: x, h => by
    have hc := h c List.mem_cons_self
    have ih := index_none x (fun d hd => h d (List.mem_cons_of_mem _ hd))
    rw [Lib.index]
    have e1 : ([46] : List UInt8).isPrefixOf (c :: x) = false := by
      simp [List.isPrefixOf, Ne.symm hc]
    rw [e1, ih]
    simp
theorem cut_dot {x r : List UInt8} (h : ∀ c ∈ x, c ≠ 46) : Lib.cut (x ++ 46 :: r) [46] = (x, r, true) := by
  unfold Lib.cut
  rw [index_dot x r h, if_pos (by omega), Int.toNat_natCast]
  simp
theorem cut_none {x : List UInt8} (h : ∀ c ∈ x, c ≠ 46) : Lib.cut x [46] = (x, [], false) := by
  unfold Lib.cut
  rw [index_none x h, if_neg (by decide)]
theorem cutB_dot {x r : List UInt8} (h : ∀ c ∈ x, c ≠ 46) : cutB ⟨(x ++ 46 :: r).toArray⟩ = (⟨x.toArray⟩, ⟨r.toArray⟩) := by
  unfold cutB
  show ((⟨(Lib.cut (x ++ 46 :: r) [46]).1.toArray⟩ : ByteArray), (⟨(Lib.cut (x ++ 46 :: r) [46]).2.1.toArray⟩ : ByteArray)) = _
  rw [cut_dot h]
theorem cutB_none {x : List UInt8} (h : ∀ c ∈ x, c ≠ 46) : cutB ⟨x.toArray⟩ = (⟨x.toArray⟩, eB) := by
  unfold cutB
  show ((⟨(Lib.cut x [46]).1.toArray⟩ : ByteArray), (⟨(Lib.cut x [46]).2.1.toArray⟩ : ByteArray)) = _
  rw [cut_none h]
theorem rdV_text {v : Int} (h0 : 0 ≤ v) (h1 : v < 2 ^ 32) : rdV 4 0 (textV v) = v := by
  have e : textV v = ⟨(dec3 (bN v 0) ++ (46 :: (dec3 (bN v 1) ++ (46 :: (dec3 (bN v 2) ++ (46 :: dec3 (bN v 3))))))).toArray⟩ := by
    rw [← textV_list]
  have b := fun i => bN_lt v i
  have hw : ∀ i, IntKind.wrap .u32 ((bN v i : Nat) : Int) = ((bN v i : Nat) : Int) := fun i => by have := b i; exact wrap_u32 (by omega) (by omega)
  rw [e, rdV, cutB_dot (nodot (b 0)), pu8_dec (b 0), hw]
  rw [rdV, cutB_dot (nodot (b 1)), pu8_dec (b 1), hw]
  rw [rdV, cutB_dot (nodot (b 2)), pu8_dec (b 2), hw]
  rw [rdV, cutB_none (nodot (b 3)), pu8_dec (b 3), hw]
  rw [rdV]
  exact bytes_or h0 h1
/-! ### 3. The laws -/
theorem orS_lt (v n : Int) : orS v n < 2 ^ 32 := by
  unfold orS
  simp [IntKind.wrap, IntKind.bits, IntKind.signed]; omega
theorem rdV_range (s : ByteArray) : 0 ≤ rdV 4 0 s ∧ rdV 4 0 s < 2 ^ 32 := by
  simp only [rdV]
  exact ⟨orS_nonneg _ _, orS_lt _ _⟩
theorem refLoop_range : ∀ (l : List UInt8) (v n : Int), 0 ≤ refLoop l v n ∧ refLoop l v n < 2 ^ 32
  | [], v, n => by rw [refLoop]; exact ⟨orS_nonneg _ _, orS_lt _ _⟩
  | c :: r, v, n => by
    rw [refLoop]
    split
    · exact refLoop_range r _ _
    · exact refLoop_range r _ _
theorem read_eq (s : ByteArray) : readV s = refRV s ∧ readE s = refRE s := by
  unfold readV readE refRV refRE
  have hr := rdV_range s
  have hf := refLoop_range s.data.toList 0 0
  by_cases h : textV (rdV 4 0 s) = s
  · have e1 : refV s = rdV 4 0 s := by
      have := refV_text hr.1 hr.2
      rw [h] at this
      exact this
    have e2 : s.size ≤ 15 := by rw [← h]; exact textV_size _
    rw [if_pos h, if_pos h, e1, if_pos ⟨e2, h⟩, if_pos ⟨e2, h⟩]
    exact ⟨rfl, rfl⟩
  · have h2 : ¬ (s.size ≤ 15 ∧ textV (refV s) = s) := by
      rintro ⟨_, h2⟩
      have := rdV_text (v := refV s) hf.1 hf.2
      rw [h2] at this
      exact h (by rw [this]; exact h2)
    rw [if_neg h, if_neg h, if_neg h2, if_neg h2]
    exact ⟨rfl, rfl⟩
/-- What is told as a text is read. -/
theorem read_text {v : Int} (h0 : 0 ≤ v) (h1 : v < 2 ^ 32) : readV (textV v) = v ∧ readE (textV v) = 0 := by
  unfold readV readE
  rw [rdV_text h0 h1, if_pos rfl, if_pos rfl]
  exact ⟨rfl, rfl⟩
/-- What is read is told as it stood. -/
theorem text_read {s : ByteArray} (h : readE s = 0) : textV (readV s) = s := by
  unfold readE at h
  unfold readV
  by_cases he : textV (rdV 4 0 s) = s
  · rw [if_pos he]; exact he
  · rw [if_neg he] at h; exact absurd h (by decide)
theorem text_inj {a b : Int} (a0 : 0 ≤ a) (a1 : a < 2 ^ 32) (b0 : 0 ≤ b) (b1 : b < 2 ^ 32) (h : textV a = textV b) : a = b := by
  rw [← rdV_text a0 a1, h, rdV_text b0 b1]
end Go.Proofs.YthfcnkeclcphpaaDoor
