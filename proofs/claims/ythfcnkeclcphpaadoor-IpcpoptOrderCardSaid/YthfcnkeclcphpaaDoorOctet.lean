/- octet.Put32, octet.Get32. -/
import Derived.Test.YthfcnkeclcphpaaDoorWraps
import Derived.Test.YthfcnkeclcphpaaDoorBytesMem
set_option linter.unusedVariables false
set_option linter.unusedSimpArgs false
namespace Go.Proofs.YthfcnkeclcphpaaDoor
open Go Go.RowKit

/-- Byte i of a number, the highest first. -/
def byteI (v : Int) (i : Nat) : Int := (v / 2 ^ (24 - 8 * i)) % 256
def num32 (v : Int) : ByteArray := ⟨#[UInt8.ofNat (byteI v 0).toNat, UInt8.ofNat (byteI v 1).toNat, UInt8.ofNat (byteI v 2).toNat, UInt8.ofNat (byteI v 3).toNat]⟩
theorem byteI_range (v : Int) (i : Nat) : 0 ≤ byteI v i ∧ byteI v i < 256 := ⟨Int.emod_nonneg _ (by decide), Int.emod_lt_of_pos _ (by decide)⟩
theorem shr_byte (v : Int) {i : Nat} (h : i < 4) : IntKind.wrap .u8 (Int.fdiv v (2 ^ (min (Int.toNat (IntKind.wrap .i64 (24 - (IntKind.wrap .i64 (8 * (i : Int)))))) (IntKind.bits .u32)) : Int)) = byteI v i := by
  have e : min (Int.toNat (IntKind.wrap .i64 (24 - (IntKind.wrap .i64 (8 * (i : Int)))))) (IntKind.bits .u32) = 24 - 8 * i := by
    have : i = 0 ∨ i = 1 ∨ i = 2 ∨ i = 3 := by omega
    rcases this with rfl | rfl | rfl | rfl <;> decide
  rw [e, Int.fdiv_eq_ediv_of_nonneg _ (Int.le_of_lt (Int.pow_pos (by decide)))]
  unfold byteI
  simp [IntKind.wrap, IntKind.bits, IntKind.signed]
theorem u8_byte (v : Int) (i : Nat) : ((UInt8.ofNat (byteI v i).toNat).toNat : Int) = byteI v i := by
  have := byteI_range v i
  rw [UInt8.toNat_ofNat_of_lt' (by show (byteI v i).toNat < 256; omega)]
  omega
section
variable {w0 w : World} {O : Nat → Prop} {L R : List Assn}
theorem Put32_ok (h : St w0 O L w) (v : Int) : Calls Tryd.prog 24 #[.int .u32 v] w fun e w' => e = .returned (.string (num32 v)) ∧ St w0 O L w' := by
  refine F24.calls ?_
  unfold F24.main
  refine new_alloc (z := .agg #[.int .u8 0, .int .u8 0, .int .u8 0, .int .u8 0]) h (by kernel_rfl) (fun g w1 h1 => ?_)
  have step : ∀ (i : Nat) (b0 b1 b2 b3 : Int) (w : World), i < 4 → St w0 O (blk g (.cells #[.int .u8 b0, .int .u8 b1, .int .u8 b2, .int .u8 b3] 72) :: L) w →
      (∀ w', St w0 O (blk g (.cells (#[.int .u8 b0, .int .u8 b1, .int .u8 b2, .int .u8 b3].setIfInBounds i (.int .u8 (byteI v i))) 72) :: L) w' →
        SK Tryd.prog Tryd.f24 (fun e w' => e = .returned (.string (num32 v)) ∧ St w0 O L w') (cfg Tryd.f24 3) [(0, .int .u32 v), (3, .pointer (some ⟨g, 0, none⟩)), (5, .int .i64 ((i + 1 : Nat) : Int))] w') →
      SK Tryd.prog Tryd.f24 (fun e w' => e = .returned (.string (num32 v)) ∧ St w0 O L w') (cfg Tryd.f24 3) [(0, .int .u32 v), (3, .pointer (some ⟨g, 0, none⟩)), (5, .int .i64 (i : Int))] w := by
    intro i b0 b1 b2 b3 w hi h1 k
    refine F24.p3_ok ?_
    unfold F24.p3
    rw [decide_eq_true (by omega), cond_true, shr_byte v hi]
    refine ⟨?_, ⟨by omega, by omega⟩, ?_⟩
    · have : i = 0 ∨ i = 1 ∨ i = 2 ∨ i = 3 := by omega
      rcases this with rfl | rfl | rfl | rfl <;> decide
    · simp only [nilck, add_eq, Int.toNat_natCast, Nat.zero_add, Nat.mul_one]
      refine st_W h1 .here _ (by kernel_rfl) rfl (by show i + 1 ≤ 4; omega) (fun w2 h2 => ?_)
      rw [nat_wrap' (by omega)]
      exact k w2 h2
  refine step 0 0 0 0 0 w1 (by decide) h1 (fun w2 h2 => ?_)
  refine step 1 (byteI v 0) 0 0 0 w2 (by decide) h2 (fun w3 h3 => ?_)
  refine step 2 (byteI v 0) (byteI v 1) 0 0 w3 (by decide) h3 (fun w4 h4 => ?_)
  refine step 3 (byteI v 0) (byteI v 1) (byteI v 2) 0 w4 (by decide) h4 (fun w5 h5 => ?_)
  have h5 : St w0 O (blk g (.cells #[.int .u8 (byteI v 0), .int .u8 (byteI v 1), .int .u8 (byteI v 2), .int .u8 (byteI v 3)] 72) :: L) w5 := h5
  refine F24.p3_ok ?_
  unfold F24.p3
  rw [decide_eq_false (by decide), cond_false]
  refine ⟨⟨by decide, by decide, fun h => by cases h⟩, num32 v, ?_, rfl, h5.drop⟩
  have hs : slcA (some (⟨g, 0, none⟩ : Addr)) 4 (Int.toNat (0 : Int)) 1 = some ⟨g, 0, none⟩ := rfl
  rw [hs]
  exact run_convert_bytes_back (P := Tryd.prog) w5 _ _ _ ⟨g, 0, none⟩ 4 [UInt8.ofNat (byteI v 0).toNat, UInt8.ofNat (byteI v 1).toNat, UInt8.ofNat (byteI v 2).toNat, UInt8.ofNat (byteI v 3).toNat] Tryd.underlying57 Tryd.underlying5 Tryd.underlying9 (fun j hj => by
    rw [add_eq, Nat.zero_add]
    have : j = 0 ∨ j = 1 ∨ j = 2 ∨ j = 3 := by simp at hj; omega
    rcases this with rfl | rfl | rfl | rfl
    · exact (h5.cell (v := .int .u8 (byteI v 0)) .here rfl).trans (congrArg (fun n => some (Value.int .u8 n)) (u8_byte v 0).symm)
    · exact (h5.cell (v := .int .u8 (byteI v 1)) .here rfl).trans (congrArg (fun n => some (Value.int .u8 n)) (u8_byte v 1).symm)
    · exact (h5.cell (v := .int .u8 (byteI v 2)) .here rfl).trans (congrArg (fun n => some (Value.int .u8 n)) (u8_byte v 2).symm)
    · exact (h5.cell (v := .int .u8 (byteI v 3)) .here rfl).trans (congrArg (fun n => some (Value.int .u8 n)) (u8_byte v 3).symm))
/-! ### Get32 -/
/-- The number of four bytes. -/
def val32 (s : ByteArray) : Int := ((btAt s 0 * 256 + btAt s 1) * 256 + btAt s 2) * 256 + btAt s 3
theorem btAt_range (s : ByteArray) (i : Int) : 0 ≤ btAt s i ∧ btAt s i < 256 := by
  unfold btAt
  have := (s.data.toList.getD i.toNat 0).toNat_lt
  omega
theorem or_byte {n b : Int} (h0 : 0 ≤ n) (h1 : n < 2 ^ 24) (b0 : 0 ≤ b) (b1 : b < 256) :
    IntKind.wrap .u32 ((BitVec.ofInt (IntKind.bits .u32) (IntKind.wrap .u32 (n * (2 ^ (min (Int.toNat 8) (IntKind.bits .u32)) : Int))) ||| BitVec.ofInt (IntKind.bits .u32) (IntKind.wrap .u32 b)).toNat : Int) = n * 256 + b := by
  obtain ⟨m, rfl⟩ := Int.eq_ofNat_of_zero_le h0
  obtain ⟨c, rfl⟩ := Int.eq_ofNat_of_zero_le b0
  have e8 : min (Int.toNat 8) (IntKind.bits .u32) = 8 := by decide
  have eb : IntKind.bits .u32 = 32 := rfl
  rw [e8, eb, wrap_u32 (n := (m : Int) * 2 ^ 8) (by omega) (by omega), wrap_u32 (n := (c : Int)) (by omega) (by omega)]
  have e1 : ((m : Int) * 2 ^ 8) = ((m * 256 : Nat) : Int) := by omega
  rw [e1, BitVec.toNat_or, BitVec.ofInt_natCast, BitVec.ofInt_natCast, BitVec.toNat_ofNat, BitVec.toNat_ofNat, Nat.mod_eq_of_lt (by omega), Nat.mod_eq_of_lt (by omega)]
  have e2 : m * 256 ||| c = m * 256 + c := by
    have := Nat.shiftLeft_add_eq_or_of_lt (a := m) (b := c) (i := 8) (by omega)
    rw [Nat.shiftLeft_eq] at this
    exact this.symm
  rw [e2, wrap_u32 (by omega) (by omega)]
  omega
def get32E (s : ByteArray) : Int := if (s.size : Int) < 4 then 6 else if (s.size : Int) > 4 then 7 else 0
def get32V (s : ByteArray) : Int := if s.size = 4 then val32 s else 0
theorem Get32_ok (s : ByteArray) (w : World) : Calls Tryd.prog 37 #[.string s] w fun e w' => e = .returned (.tuple #[.int .u32 (get32V s), .int .i64 (get32E s)]) ∧ w' = w := by
  refine F37.calls ?_
  unfold F37.main
  have num : Calls Tryd.prog 48 #[.string s, .int .i64 4] w fun e w' => e = .returned (.tuple #[.int .u32 (get32V s), .int .i64 (get32E s)]) ∧ w' = w := by
    refine F48.calls ?_
    unfold F48.main
    unfold get32V get32E
    by_cases c1 : (s.size : Int) < 4
    · rw [decide_eq_true c1, cond_true, if_pos c1, if_neg (by omega)]
      exact ⟨rfl, rfl⟩
    rw [decide_eq_false c1, cond_false, if_neg c1]
    by_cases c2 : (s.size : Int) > 4
    · rw [decide_eq_true c2, cond_true, if_pos c2, if_neg (by omega)]
      exact ⟨rfl, rfl⟩
    rw [decide_eq_false c2, cond_false, if_neg c2, if_pos (by omega)]
    have step : ∀ (i : Nat) (n : Int), i < 4 → 0 ≤ n → n < 2 ^ 24 →
        SK Tryd.prog Tryd.f48 (fun e w' => e = .returned (.tuple #[.int .u32 (val32 s), .int .i64 0]) ∧ w' = w) (cfg Tryd.f48 6) [(0, .string s), (4, .int .u32 (n * 256 + btAt s (i : Int))), (18, .int .i64 (s.size : Int)), (19, .int .i64 ((i + 1 : Nat) : Int))] w →
        SK Tryd.prog Tryd.f48 (fun e w' => e = .returned (.tuple #[.int .u32 (val32 s), .int .i64 0]) ∧ w' = w) (cfg Tryd.f48 6) [(0, .string s), (4, .int .u32 n), (18, .int .i64 (s.size : Int)), (19, .int .i64 (i : Int))] w := by
      intro i n hi h0 h1 k
      refine F48.p6_ok ?_
      unfold F48.p6
      rw [decide_eq_true (by omega), cond_true]
      refine ⟨by decide, ⟨by omega, by omega⟩, ?_⟩
      have hb := btAt_range s (i : Int)
      rw [or_byte h0 h1 hb.1 hb.2, nat_wrap' (by omega)]
      exact k
    have b0 := btAt_range s 0
    have b1 := btAt_range s 1
    have b2 := btAt_range s 2
    have b3 := btAt_range s 3
    refine step 0 0 (by decide) (by decide) (by decide) ?_
    refine step 1 (0 * 256 + btAt s 0) (by decide) (by omega) (by omega) ?_
    refine step 2 ((0 * 256 + btAt s 0) * 256 + btAt s 1) (by decide) (by omega) (by omega) ?_
    refine step 3 (((0 * 256 + btAt s 0) * 256 + btAt s 1) * 256 + btAt s 2) (by decide) (by omega) (by omega) ?_
    refine F48.p6_ok ?_
    unfold F48.p6
    rw [decide_eq_false (by omega), cond_false]
    refine ⟨?_, rfl⟩
    unfold val32
    rw [Int.zero_mul, Int.zero_add]
    rfl
  refine num.mono ?_
  rintro e w1 ⟨rfl, rfl⟩
  exact .inl ⟨_, _, rfl, rfl, rfl⟩
/-- What is put is got. -/
theorem val_num {v : Int} (h0 : 0 ≤ v) (h1 : v < 2 ^ 32) : val32 (num32 v) = v := by
  have e : ∀ i, i < 4 → btAt (num32 v) (i : Nat) = byteI v i := by
    intro i hi
    have : i = 0 ∨ i = 1 ∨ i = 2 ∨ i = 3 := by omega
    rcases this with rfl | rfl | rfl | rfl <;> exact u8_byte v _
  have e0 := e 0 (by decide)
  have e1 := e 1 (by decide)
  have e2 := e 2 (by decide)
  have e3 := e 3 (by decide)
  unfold val32
  rw [show btAt (num32 v) 0 = _ from e0, show btAt (num32 v) 1 = _ from e1, show btAt (num32 v) 2 = _ from e2, show btAt (num32 v) 3 = _ from e3]
  have f0 : byteI v 0 = v / 16777216 % 256 := rfl
  have f1 : byteI v 1 = v / 65536 % 256 := rfl
  have f2 : byteI v 2 = v / 256 % 256 := rfl
  have f3 : byteI v 3 = v / 1 % 256 := rfl
  rw [f0, f1, f2, f3]
  omega
end
end Go.Proofs.YthfcnkeclcphpaaDoor
