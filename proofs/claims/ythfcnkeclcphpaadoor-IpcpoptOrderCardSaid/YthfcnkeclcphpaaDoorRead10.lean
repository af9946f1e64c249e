/- ipcpopt.Read, and the document's. -/
import Derived.Test.YthfcnkeclcphpaaDoorText10
import Derived.Lib.AtoiErrMem
set_option linter.unusedVariables false
set_option linter.unusedSimpArgs false
namespace Go.Proofs.YthfcnkeclcphpaaDoor
open Go Go.RowKit

/-! ### 1. What is computed -/
def cutB (s : ByteArray) : ByteArray × ByteArray := (⟨(Lib.cut s.data.toList [46]).1.toArray⟩, ⟨(Lib.cut s.data.toList [46]).2.1.toArray⟩)
def pu8 (t : ByteArray) : Nat := match Lib.parseUintB 8 t.data.toList with
  | .ok u => u
  | .range => 255
  | _ => 0
def orS (v n : Int) : Int := IntKind.wrap .u32 ((BitVec.ofInt (IntKind.bits .u32) (IntKind.wrap .u32 (v * (2 ^ (min (Int.toNat 8) (IntKind.bits .u32)) : Int))) ||| BitVec.ofInt (IntKind.bits .u32) n).toNat : Int)
def rdV : Nat → Int → ByteArray → Int
  | 0, a, _ => a
  | k + 1, a, s => rdV k (orS a (IntKind.wrap .u32 (pu8 (cutB s).1 : Int))) (cutB s).2
def readV (s : ByteArray) : Int := if textV (rdV 4 0 s) = s then rdV 4 0 s else 0
def readE (s : ByteArray) : Int := if textV (rdV 4 0 s) = s then 0 else 7
def refLoop : List UInt8 → Int → Int → Int
  | [], v, n => orS v (Int.tmod n 256)
  | c :: r, v, n => if c.toNat = 46 then refLoop r (orS v (Int.tmod n 256)) 0 else refLoop r v (IntKind.wrap .u32 ((IntKind.wrap .u32 ((IntKind.wrap .u32 (n * 10)) + (Int.tmod (IntKind.wrap .u32 (c.toNat : Int)) 64))) - 48))
def refV (s : ByteArray) : Int := refLoop s.data.toList 0 0
def refRV (s : ByteArray) : Int := if s.size ≤ 15 ∧ textV (refV s) = s then refV s else 0
def refRE (s : ByteArray) : Int := if s.size ≤ 15 ∧ textV (refV s) = s then 0 else 7
theorem u32_nonneg (n : Int) : 0 ≤ IntKind.wrap .u32 n := by
  simp [IntKind.wrap, IntKind.bits, IntKind.signed]; omega
theorem orS_nonneg (v n : Int) : 0 ≤ orS v n := u32_nonneg _
/-! ### 2. The walks -/
theorem cutB_size (s : ByteArray) : (cutB s).1.size ≤ s.size ∧ (cutB s).2.size ≤ s.size := by
  have e1 : (cutB s).1.size = (Lib.cut s.data.toList [46]).1.length := rfl
  have e2 : (cutB s).2.size = (Lib.cut s.data.toList [46]).2.1.length := rfl
  have e3 : s.size = s.data.toList.length := Array.length_toList.symm
  rw [e1, e2, e3]
  unfold Lib.cut
  split
  · exact ⟨by simp only [List.length_take]; omega, by simp only [List.length_drop]; omega⟩
  · exact ⟨Nat.le_refl _, Nat.zero_le _⟩
theorem ParseUint_ok {w : World} (hG : Glob w) (t : ByteArray) (ht : t.size ≤ 2 ^ 30) : Calls Tryd.prog 23 #[.string t, .int .i64 10, .int .i64 8] w fun e w' => (∃ v, e = .returned (.tuple #[.int .u64 (pu8 t : Int), v])) ∧ Below w.heap.size w w' := by
  obtain ⟨e1, h2, h3⟩ := hG.esyn
  obtain ⟨e2, h4, h5⟩ := hG.erng
  by_cases h1 : ∃ u, Lib.parseUintB 8 t.data.toList = .ok u
  · obtain ⟨u, hp⟩ := h1
    have e : pu8 t = u := by unfold pu8; rw [hp]
    rw [e]
    refine (Sh.strconv_ParseUint_10_at8_ok t (by omega) u hp w).mono ?_
    rintro e w' ⟨rfl, hw⟩
    refine ⟨⟨_, rfl⟩, ?_⟩
    rcases hw with rfl | rfl
    · exact Below.refl _ _
    · exact Lib.bytesWorld_below w _ t
  have h1 : ∀ u, Lib.parseUintB 8 t.data.toList ≠ .ok u := fun u hu => h1 ⟨u, hu⟩
  by_cases hr : Lib.parseUintB 8 t.data.toList = .range
  · have e : pu8 t = 255 := by unfold pu8; rw [hr]
    rw [e]
    refine (Sh.strconv_ParseUint_10_at8_range t (by omega) hr e2 w h4 h5).mono ?_
    rintro e w' ⟨N, rfl, _, _, hb⟩
    exact ⟨⟨_, rfl⟩, hb⟩
  · have e : pu8 t = 0 := by
      unfold pu8
      cases hp : Lib.parseUintB 8 t.data.toList with
      | ok u => exact absurd hp (h1 u)
      | range => exact absurd hp hr
      | _ => rfl
    rw [e]
    refine (Sh.strconv_ParseUint_10_at8_syn t (by omega) h1 hr e1 w h2 h3).mono ?_
    rintro e w' ⟨N, rfl, _, _, hb⟩
    exact ⟨⟨_, rfl⟩, hb⟩
section
variable {w0 w : World} {O : Nat → Prop} {L R : List Assn} {g : Nat}
theorem next_ok {s : ByteArray} (hs : s.size ≤ 2 ^ 30) (hG : Glob w) (h : St w0 O (blk g (.cells #[.string s] 9) :: L) w) :
    Calls Tryd.prog 21 #[.pointer (some ⟨g, 0, none⟩)] w fun e w' => e = .returned (.string (cutB s).1) ∧ St w0 O (blk g (.cells #[.string (cutB s).2] 9) :: L) w' := by
  refine F21.calls ?_
  unfold F21.main
  refine ⟨s, h.cell .here rfl, ?_⟩
  obtain ⟨m, hm⟩ := hG.maxlen
  refine (Sh.strings_Cut s { data := #[46] } m w (by omega) hm).mono ?_
  rintro e w2 ⟨rfl, n, rfl⟩
  refine .inl ⟨_, _, _, rfl, ?_⟩
  have h2 := h.over (w1 := w.drewN n) below_drewN
  refine st_W h2 .here _ (by kernel_rfl) rfl (Nat.le_refl 1) (fun w3 h3 => ?_)
  exact ⟨rfl, h3⟩
end
theorem Read_ok {w : World} (hG : Glob w) (s : ByteArray) (hs : s.size ≤ 2 ^ 20) : Calls Tryd.prog 8 #[.string s] w fun e w' => e = .returned (.tuple #[.int .u32 (readV s), .int .i64 (readE s)]) ∧ Below w.heap.size w w' := by
  refine F8.calls ?_
  unfold F8.main
  refine new_box (St.refl w) (fun g w1 h1 => ?_)
  have h1 : St w (World.all w) [blk g (.cells #[.string s] 9)] w1 := h1
  refine ⟨s, h1.cell .here rfl, ?_⟩
  have loop : ∀ (k i : Nat) (a : Int) (r : ByteArray) (w1 : World), k + i = 4 → rdV k a r = rdV 4 0 s → r.size ≤ s.size → 0 ≤ a → St w (World.all w) [blk g (.cells #[.string r] 9)] w1 →
      SK Tryd.prog Tryd.f8 (fun e w' => e = .returned (.tuple #[.int .u32 (readV s), .int .i64 (readE s)]) ∧ Below w.heap.size w w') (cfg Tryd.f8 4) [(2, .int .u32 a), (4, .func (Go.Fn.func 21) #[] #[.pointer (some ⟨g, 0, none⟩)]), (5, .string s), (10, .int .i64 (i : Int))] w1 := by
    intro k
    induction k with
    | zero =>
      intro i a r w1 hk hj hr ha h1
      refine F8.p4_ok ?_
      unfold F8.p4
      rw [decide_eq_false (by omega), cond_false]
      have hj : a = rdV 4 0 s := hj
      refine (Text_ok a (hG.old h1)).mono ?_
      rintro e w2 ⟨rfl, hb⟩
      refine .inl ⟨_, rfl, ?_⟩
      have hb2 := (h1.over hb).below
      unfold readV readE
      rw [← hj]
      by_cases he : textV a = s
      · rw [show (textV a == s) = true from by rw [ba_beq]; exact decide_eq_true he, if_pos he, if_pos he]
        exact ⟨rfl, hb2⟩
      · rw [show (textV a == s) = false from by rw [ba_beq]; exact decide_eq_false he, if_neg he, if_neg he]
        exact ⟨rfl, hb2⟩
    | succ k ih =>
      intro i a r w1 hk hj hr ha h1
      refine F8.p4_ok ?_
      unfold F8.p4
      rw [decide_eq_true (by omega), cond_true]
      refine ⟨21, #[], #[.pointer (some ⟨g, 0, none⟩)], rfl, enters_of Tryd.func21 (by kernel_rfl) rfl, ?_⟩
      refine (show Calls Tryd.prog 21 (#[] ++ #[] ++ #[.pointer (some ⟨g, 0, none⟩)]) _ _ from next_ok (s := r) (by omega) (hG.old h1) h1).mono ?_
      rintro e w2 ⟨rfl, h2⟩
      have hc := cutB_size r
      refine .inl ⟨_, rfl, ?_⟩
      refine (ParseUint_ok (hG.old h2) (cutB r).1 (by omega)).mono ?_
      rintro e w3 ⟨⟨v, rfl⟩, hb⟩
      refine .inl ⟨_, _, rfl, by decide, ?_⟩
      rw [nat_wrap' (by omega)]
      exact ih (i + 1) _ (cutB r).2 w3 (by omega) hj (by omega) (orS_nonneg _ _) (h2.over hb)
  exact loop 4 0 0 s w1 rfl rfl (Nat.le_refl _) (by decide) h1
theorem RefRead_ok {w : World} (hG : Glob w) (s : ByteArray) : Calls Tryd.prog 9 #[.string s] w fun e w' => e = .returned (.tuple #[.int .u32 (refRV s), .int .i64 (refRE s)]) ∧ Below w.heap.size w w' := by
  refine F9.calls ?_
  unfold F9.main
  unfold refRV refRE
  by_cases hs : s.size ≤ 15
  case neg =>
    rw [decide_eq_true (by omega), cond_true, if_neg (fun h => hs h.1), if_neg (fun h => hs h.1)]
    exact ⟨rfl, Below.refl _ _⟩
  rw [decide_eq_false (by omega), cond_false]
  have hlen : s.data.toList.length = s.size := Array.length_toList
  have loop : ∀ (k i : Nat) (v n : Int), k + i = s.size → refLoop (s.data.toList.drop i) v n = refV s → 0 ≤ v →
      SK Tryd.prog Tryd.f9 (fun e w' => e = .returned (.tuple #[.int .u32 (if s.size ≤ 15 ∧ textV (refV s) = s then refV s else 0), .int .i64 (if s.size ≤ 15 ∧ textV (refV s) = s then 0 else 7)]) ∧ Below w.heap.size w w') (cfg Tryd.f9 5) [(0, .string s), (4, .int .u32 v), (5, .int .u32 n), (6, .int .i64 (i : Int))] w := by
    intro k
    induction k with
    | zero =>
      intro i v n hk hj hv
      refine F9.p5_ok ?_
      unfold F9.p5
      rw [decide_eq_false (by omega), cond_false]
      rw [List.drop_eq_nil_of_le (by omega)] at hj
      have hj : orS v (Int.tmod n 256) = refV s := hj
      unfold orS at hj
      refine ⟨by decide, by decide, ?_⟩
      rw [hj]
      have hnn : 0 ≤ refV s := by rw [← hj]; exact u32_nonneg _
      refine (RefText_ok hnn hG).mono ?_
      rintro e w2 ⟨rfl, hb⟩
      refine .inl ⟨_, rfl, ?_⟩
      by_cases he : textV (refV s) = s
      · rw [show (textV (refV s) == s) = true from by rw [ba_beq]; exact decide_eq_true he, if_pos ⟨hs, he⟩, if_pos ⟨hs, he⟩]
        exact ⟨rfl, hb⟩
      · rw [show (textV (refV s) == s) = false from by rw [ba_beq]; exact decide_eq_false he, if_neg (fun h => he h.2), if_neg (fun h => he h.2)]
        exact ⟨rfl, hb⟩
    | succ k ih =>
      intro i v n hk hj hv
      refine F9.p5_ok ?_
      unfold F9.p5
      rw [decide_eq_true (by omega), cond_true]
      have hi : i < s.data.toList.length := by omega
      have hbt : btAt s (i : Int) = ((s.data.toList[i]).toNat : Int) := by
        unfold btAt
        rw [Int.toNat_natCast, List.getD_eq_getElem?_getD, List.getElem?_eq_getElem hi]
        rfl
      rw [List.drop_eq_getElem_cons hi] at hj
      rw [hbt]
      refine ⟨⟨by omega, by omega⟩, ?_⟩
      unfold refLoop at hj
      by_cases hc : (s.data.toList[i]).toNat = 46
      · rw [if_pos hc] at hj
        rw [show ((((s.data.toList[i]).toNat : Int) == 46) = true) from by rw [beq_iff_eq]; omega, cond_true]
        refine ⟨by decide, by decide, ?_⟩
        rw [nat_wrap' (by omega)]
        exact ih (i + 1) _ 0 (by omega) hj (orS_nonneg _ _)
      · rw [if_neg hc] at hj
        rw [show ((((s.data.toList[i]).toNat : Int) == 46) = false) from by rw [beq_eq_false_iff_ne]; omega, cond_false]
        refine ⟨⟨by omega, by omega⟩, by decide, ?_⟩
        rw [nat_wrap' (by omega)]
        exact ih (i + 1) v _ (by omega) hj hv
  exact loop s.size 0 0 0 rfl rfl (by decide)
end Go.Proofs.YthfcnkeclcphpaaDoor
