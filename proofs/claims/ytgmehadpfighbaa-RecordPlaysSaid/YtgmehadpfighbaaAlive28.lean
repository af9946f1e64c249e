/- The laws' example of layer 28. -/
import Derived.Test.YtgmehadpfighbaaOctet
import Derived.Test.YtgmehadpfighbaaRec3
set_option linter.unusedVariables false
set_option linter.unusedSimpArgs false
namespace Go.Proofs.Ytgmehadpfighbaa
open Go Go.RowKit

section
variable {w0 w : World} {O : Nat → Prop} {L R : List Assn} {g : Nat} {s : FS}
/-! ### 1. Read8, Bytes -/
def read8 (s : ByteArray) : ByteArray × ByteArray × Int :=
  if (s.size : Int) ≤ btAt s 0 ∨ s.size = 0 then (eB, eB, 6) else (s.extract 1 (1 + btAt s 0).toNat, s.extract (1 + btAt s 0).toNat s.size, 0)
theorem Read8_ok (h : St w0 O L w) (s : ByteArray) : Calls Try.prog 34 #[.string s] w fun e w' =>
    e = .returned (.tuple #[.string (read8 s).1, .string (read8 s).2.1, .int .i64 (read8 s).2.2]) ∧ St w0 O L w' := by
  refine F34.calls ?_
  unfold F34.main
  rw [ba_beq]
  by_cases c0 : s = { data := #[] }
  · rw [decide_eq_true c0, cond_true]
    subst c0
    exact ⟨rfl, h⟩
  rw [decide_eq_false c0, cond_false]
  have hsz : 0 < s.size := by
    rcases Nat.eq_zero_or_pos s.size with e | e
    · exact absurd (size_zero e) c0
    · exact e
  have hb := btAt_range s 0
  refine ⟨⟨by decide, by omega⟩, ?_⟩
  rw [wrap_i64 (n := btAt s 0) (by omega) (by omega)]
  by_cases c1 : (s.size : Int) ≤ btAt s 0
  · rw [decide_eq_true c1, cond_true]
    unfold read8
    rw [if_pos (.inl c1)]
    exact ⟨rfl, h⟩
  · rw [decide_eq_false c1, cond_false]
    unfold read8
    rw [if_neg (by omega)]
    rw [wrap_i64 (n := 1 + btAt s 0) (by omega) (by omega)]
    refine ⟨⟨by decide, by omega⟩, ⟨by decide, by omega, fun _ => by omega⟩, ⟨by omega, by omega, fun h => by cases h⟩, rfl, h.drew⟩
def bytesS (x : SubV) : ByteArray := (join8 [x.name, x.secret, x.plan] ++ num32 x.addr) ++ ⟨#[if x.susp then 1 else 0]⟩
theorem Bytes_ok (h : St w0 O L w) (x : SubV) (hc : chkS x) : Calls Try.prog 24 #[x.enc] w fun e w' => e = .returned (.tuple #[.string (bytesS x), .int .i64 0]) ∧ St w0 O L w' := by
  refine F24.calls ?_
  unfold F24.main
  refine boxE encSub x h (fun g1 w2 h2 => ?_)
  have h2 : St w0 O (blk g1 (.cells x.cells.toArray 33) :: L) w2 := h2
  refine ⟨x.name, x.secret, x.plan, x.addr, x.susp, h2.cells0 (vs := x.cells) .here, ?_⟩
  refine (Check_ok h2 x).mono ?_
  rintro e w3 ⟨rfl, h3⟩
  rw [if_pos hc]
  refine .inl ⟨_, rfl, ?_⟩
  simp only [show ((0 : Int) != 0) = false from rfl, cond_false]
  refine ⟨x.name, h3.cell .here rfl, x.secret, h3.cell .here rfl, x.plan, h3.cell .here rfl, ?_⟩
  refine bsl_W (e := 9) (sz := 1) (z := .string eB) h3 Try.underlying86 (by kernel_rfl) (by kernel_rfl) (by decide) (by decide) (cells := #[.string x.name, .string x.secret, .string x.plan]) (by kernel_rfl) (fun g4 w4 h4 => ?_)
  refine (Join8_ok [x.name, x.secret, x.plan] rfl h4 (fun j y hj => ?_) (fun y hy => ?_) (by show 3 < 2 ^ 30; decide)).mono ?_
  · have hlt := (List.getElem?_eq_some_iff.1 hj).1
    refine ⟨g4, rfl, h4.cell .here ?_⟩
    match j, hj with
    | 0, hj => cases hj; rfl
    | 1, hj => cases hj; rfl
    | 2, hj => cases hj; rfl
  · obtain ⟨_, c2, _, c4, c5, _⟩ := hc
    simp only [List.mem_cons, List.mem_nil_iff, or_false] at hy
    rcases hy with rfl | rfl | rfl <;> omega
  rintro e w5 ⟨rfl, h5⟩
  refine .inl ⟨_, _, rfl, ?_⟩
  have hsz : (join8 [x.name, x.secret, x.plan]).size < 2 ^ 20 := by
    obtain ⟨_, c2, _, c4, c5, _⟩ := hc
    have e1 := text8_size x.name
    have e2 := text8_size x.secret
    have e3 := text8_size x.plan
    simp only [join8, ByteArray.size_append]
    have : (eB : ByteArray).size = 0 := rfl
    omega
  have h32 : (num32 x.addr).size = 4 := rfl
  refine ⟨x.susp, h5.cell (.there .here) rfl, ?_⟩
  have h6 := h5.drop
  cases hs : x.susp with
  | true =>
    rw [cond_true]
    refine ⟨x.addr, h6.cell .here rfl, ?_⟩
    refine (Put32_ok h6 x.addr).mono ?_
    rintro e w7 ⟨rfl, h7⟩
    refine .inl ⟨_, rfl, by omega, by rw [ByteArray.size_append]; show _ + 1 ≤ _; omega, ?_, h7.drop⟩
    unfold bytesS
    rw [hs]
    rfl
  | false =>
    rw [cond_false]
    refine ⟨x.addr, h6.cell .here rfl, ?_⟩
    refine (Put32_ok h6 x.addr).mono ?_
    rintro e w7 ⟨rfl, h7⟩
    refine .inl ⟨_, rfl, by omega, by rw [ByteArray.size_append]; show _ + 1 ≤ _; omega, ?_, h7.drop⟩
    unfold bytesS
    rw [hs]
    rfl
/-! ### 2. sub -/
def subV (n : ByteArray) (a : Int) : SubV := ⟨n, eB, { data := #[112] }, a, false⟩
theorem sub_ok (h : St w0 O L w) (n : ByteArray) (a : Int) : Calls Try.prog 21 #[.string n, .int .u32 a] w fun e w' => e = .returned (subV n a).enc ∧ St w0 O L w' := by
  refine F21.calls ?_
  unfold F21.main
  refine allocSub h (fun g w2 h2 => ?_)
  refine stSub (subV n a) h2 .here (fun w3 h3 => ?_)
  exact ⟨n, eB, { data := #[112] }, a, false, h3.cells0 (vs := (subV n a).cells) .here, rfl, h3.drop⟩
/-! ### 3. Read, at one text -/
abbrev s10 : ByteArray := { data := #[1, 117, 0, 1, 112, 0, 0, 1, 2, 0] }
abbrev uu : ByteArray := { data := #[117] }
abbrev vv : ByteArray := { data := #[118] }
theorem bytes258 : bytesS (subV uu 258) = s10 := by kernel_rfl
theorem read_a : read8 s10 = (uu, { data := #[0, 1, 112, 0, 0, 1, 2, 0] }, 0) := by kernel_rfl
theorem read_b : read8 { data := #[0, 1, 112, 0, 0, 1, 2, 0] } = (eB, { data := #[1, 112, 0, 0, 1, 2, 0] }, 0) := by kernel_rfl
theorem read_c : read8 { data := #[1, 112, 0, 0, 1, 2, 0] } = ({ data := #[112] }, { data := #[0, 0, 1, 2, 0] }, 0) := by kernel_rfl
theorem Read_ok (h : St w0 O L w) : Calls Try.prog 25 #[.string s10] w fun e w' => e = .returned (.tuple #[(subV uu 258).enc, .int .i64 0]) ∧ St w0 O L w' := by
  refine F25.calls ?_
  unfold F25.main
  refine allocSub h (fun g2 w2 h2 => ?_)
  refine bsl_W (e := 73) (sz := 1) (z := .pointer none) h2 Try.underlying74 (by kernel_rfl) (by kernel_rfl) (by decide) (by decide) (cells := #[.pointer (some ⟨g2, 0, none⟩), .pointer (some ⟨g2, 1, none⟩), .pointer (some ⟨g2, 2, none⟩)]) (by kernel_rfl) (fun g14 w3 h3 => ?_)
  have step : ∀ (i : Nat) (a b c t : ByteArray) (rest rest2 : ByteArray) (w : World), i < 3 → read8 rest = (t, rest2, 0) →
      St w0 O (blk g14 (.cells #[.pointer (some ⟨g2, 0, none⟩), .pointer (some ⟨g2, 1, none⟩), .pointer (some ⟨g2, 2, none⟩)] 73) :: blk g2 (.cells #[.string a, .string b, .string c, .int .u32 0, .bool false] 33) :: L) w →
      (∀ w', St w0 O (blk g14 (.cells #[.pointer (some ⟨g2, 0, none⟩), .pointer (some ⟨g2, 1, none⟩), .pointer (some ⟨g2, 2, none⟩)] 73) :: blk g2 (.cells (#[.string a, .string b, .string c, .int .u32 0, .bool false].setIfInBounds i (.string t)) 33) :: L) w' →
        SK Try.prog Try.f25 (fun e w' => e = .returned (.tuple #[(subV uu 258).enc, .int .i64 0]) ∧ St w0 O L w') (cfg Try.f25 3) [(2, .pointer (some ⟨g2, 0, none⟩)), (4, .string rest2), (14, .slice (some ⟨g14, 0, none⟩) 3 3), (15, .int .i64 ((3 : Nat) : Int)), (16, .int .i64 ((i + 1 : Nat) : Int))] w') →
      SK Try.prog Try.f25 (fun e w' => e = .returned (.tuple #[(subV uu 258).enc, .int .i64 0]) ∧ St w0 O L w') (cfg Try.f25 3) [(2, .pointer (some ⟨g2, 0, none⟩)), (4, .string rest), (14, .slice (some ⟨g14, 0, none⟩) 3 3), (15, .int .i64 ((3 : Nat) : Int)), (16, .int .i64 (i : Int))] w := by
    intro i a b c t rest rest2 w hi hr h3 k
    refine F25.p3_ok ?_
    unfold F25.p3
    rw [decide_eq_true (by omega), cond_true]
    refine ⟨⟨by omega, by omega⟩, ?_⟩
    simp only [nilck, add_eq, Int.toNat_natCast, Nat.zero_add, Nat.mul_one]
    refine ⟨some ⟨g2, i, none⟩, h3.cell .here ?_, ?_⟩
    · have : i = 0 ∨ i = 1 ∨ i = 2 := by omega
      rcases this with rfl | rfl | rfl <;> rfl
    refine (Read8_ok h3 rest).mono ?_
    rintro e w4 ⟨rfl, h4⟩
    refine .inl ⟨_, _, _, rfl, ?_⟩
    rw [hr]
    simp only [show ((0 : Int) != 0) = false from rfl, cond_false]
    refine st_W h4 (.there .here) _ (by kernel_rfl) rfl (by show i + 1 ≤ 5; omega) (fun w5 h5 => ?_)
    rw [nat_wrap' (by omega)]
    exact k w5 (h5.pick (.there .here))
  refine step 0 eB eB eB uu s10 _ w3 (by decide) read_a h3 (fun w4 h4 => ?_)
  refine step 1 uu eB eB eB _ _ w4 (by decide) read_b h4 (fun w5 h5 => ?_)
  refine step 2 uu eB eB { data := #[112] } _ _ w5 (by decide) read_c h5 (fun w6 h6 => ?_)
  refine F25.p3_ok ?_
  unfold F25.p3
  rw [decide_eq_false (by decide), cond_false]
  refine F25.p10_ok ?_
  unfold F25.p10
  rw [show (((ByteArray.size { data := #[0, 0, 1, 2, 0] } : Nat) : Int) != 5) = false from rfl, cond_false]
  refine ⟨⟨by decide, by decide⟩, ?_⟩
  rw [show decide (btAt { data := #[0, 0, 1, 2, 0] } 4 > 1) = false from by decide, cond_false]
  refine F25.p12_ok ?_
  unfold F25.p12
  refine ⟨⟨by decide, by decide, fun _ => by decide⟩, ?_⟩
  refine (Get32_ok _ w6).mono ?_
  rintro e w7 ⟨rfl, rfl⟩
  refine .inl ⟨_, _, rfl, ?_⟩
  rw [show get32V (ByteArray.extract { data := #[0, 0, 1, 2, 0] } (Int.toNat (0 : Int)) (Int.toNat 4)) = 258 from by kernel_rfl]
  refine st_W h6 (.there .here) _ (by kernel_rfl) rfl (by decide) (fun w8 h8 => ?_)
  refine ⟨⟨by decide, by decide⟩, ?_⟩
  rw [show (btAt { data := #[0, 0, 1, 2, 0] } 4 == 1) = false from by decide]
  refine st_W h8 .here _ (by kernel_rfl) rfl (by decide) (fun w9 h9 => ?_)
  have h9 : St w0 O (blk g2 (.cells (subV uu 258).cells.toArray 33) :: blk g14 (.cells #[.pointer (some ⟨g2, 0, none⟩), .pointer (some ⟨g2, 1, none⟩), .pointer (some ⟨g2, 2, none⟩)] 73) :: L) w9 := h9
  refine ⟨uu, eB, { data := #[112] }, 258, false, h9.cells0 (vs := (subV uu 258).cells) .here, ?_⟩
  refine (Check_ok h9 (subV uu 258)).mono ?_
  rintro e w10 ⟨rfl, h10⟩
  rw [if_pos (show chkS (subV uu 258) from by decide)]
  refine .inl ⟨_, rfl, ?_⟩
  simp only [show ((0 : Int) != 0) = false from rfl, cond_false]
  refine ⟨uu, eB, { data := #[112] }, 258, false, h10.cells0 (vs := (subV uu 258).cells) .here, ?_⟩
  refine stSub (subV uu 258) h10 .here (fun w11 h11 => ?_)
  exact ⟨uu, eB, { data := #[112] }, 258, false, h11.cells0 (vs := (subV uu 258).cells) .here, rfl, h11.drop.drop⟩
/-! ### 4. The example -/
def u5 : SubV := subV uu 5
def u6 : SubV := subV uu 6
def v5 : SubV := subV vv 5
def fa : FS := ⟨5, []⟩
def fb : FS := ⟨5, [u5]⟩
def fc : FS := ⟨5, [u6]⟩
def fd : FS := ⟨5, [u6, v5]⟩
def fe : FS := ⟨5, [v5]⟩
theorem ab : putE fa u5 = 0 ∧ putS fa u5 = fb := ⟨by kernel_rfl, by kernel_rfl⟩
theorem bb : putE fb v5 = 9 ∧ putS fb v5 = fb := ⟨by kernel_rfl, by kernel_rfl⟩
theorem bc : putE fb u6 = 0 ∧ putS fb u6 = fc := ⟨by kernel_rfl, by kernel_rfl⟩
theorem cd : putE fc v5 = 0 ∧ putS fc v5 = fd := ⟨by kernel_rfl, by kernel_rfl⟩
theorem d6 : atS fd 6 = some u6 := by kernel_rfl
theorem de : delE fd uu = 0 ∧ delS fd uu = fe := ⟨by kernel_rfl, by kernel_rfl⟩
theorem e6 : atS fe 6 = none := by kernel_rfl
theorem subEq (x y : SubV) : ((x.name == y.name) && ((x.secret == y.secret) && ((x.plan == y.plan) && ((x.addr == y.addr) && ((x.susp == y.susp) && true))))) = decide (x = y) := by
  obtain ⟨a1, a2, a3, a4, a5⟩ := x
  obtain ⟨b1, b2, b3, b4, b5⟩ := y
  simp only [ba_beq, SubV.mk.injEq, Bool.and_true]
  rw [Bool.eq_iff_iff]
  simp
theorem alive_ok (h : St w0 O L w) : Calls Try.prog 7 #[] w fun e w' => e = .returned (.bool true) ∧ St w0 O L w' := by
  refine F7.calls ?_
  unfold F7.main
  refine (New_ok h 5).mono ?_
  rintro e w1 (⟨hn, _⟩ | ⟨_, g, rfl, h1⟩)
  · exact absurd (by decide) hn
  refine .inl ⟨_, _, rfl, ?_⟩
  refine (New_ok h1 0).mono ?_
  rintro e w2 (⟨_, rfl, h2⟩ | ⟨hn, _⟩)
  rotate_left
  · exact absurd hn (by decide)
  refine .inl ⟨_, _, rfl, ?_⟩
  simp only [show ((0 : Int) != 0) = false from rfl, cond_false, Option.isNone]
  refine F7.p5_ok ?_
  unfold F7.p5
  refine (sub_ok h2 uu 5).mono ?_
  rintro e w3 ⟨rfl, h3⟩
  refine .inl ⟨_, _, _, _, _, rfl, ?_⟩
  refine (Put_ok (s := fa) h3 u5).mono ?_
  rintro e w4 ⟨rfl, h4⟩
  rw [ab.1] at *
  rw [ab.2] at h4
  refine .inl ⟨_, rfl, ?_⟩
  refine (sub_ok h4 vv 5).mono ?_
  rintro e w5 ⟨rfl, h5⟩
  refine .inl ⟨_, _, _, _, _, rfl, ?_⟩
  refine (Put_ok h5 v5).mono ?_
  rintro e w6 ⟨rfl, h6⟩
  rw [bb.1] at *
  rw [bb.2] at h6
  refine .inl ⟨_, rfl, ?_⟩
  refine (sub_ok h6 uu 6).mono ?_
  rintro e w7 ⟨rfl, h7⟩
  refine .inl ⟨_, _, _, _, _, rfl, ?_⟩
  refine (Put_ok h7 u6).mono ?_
  rintro e w8 ⟨rfl, h8⟩
  rw [bc.1] at *
  rw [bc.2] at h8
  refine .inl ⟨_, rfl, ?_⟩
  refine (sub_ok h8 vv 5).mono ?_
  rintro e w9 ⟨rfl, h9⟩
  refine .inl ⟨_, _, _, _, _, rfl, ?_⟩
  refine (Put_ok h9 v5).mono ?_
  rintro e w10 ⟨rfl, h10⟩
  rw [cd.1] at *
  rw [cd.2] at h10
  refine .inl ⟨_, rfl, ?_⟩
  refine (At_ok h10 6).mono ?_
  rintro e w11 ⟨rfl, h11⟩
  rw [d6] at *
  refine .inl ⟨_, _, _, _, _, _, rfl, ?_⟩
  refine allocSub h11 (fun g9 w12 h12 => ?_)
  refine stSub u6 h12 .here (fun w13 h13 => ?_)
  refine (Del_ok (h13.pick (.there .here)) uu).mono ?_
  rintro e w14 ⟨rfl, h14⟩
  rw [de.1] at *
  rw [de.2] at h14
  refine .inl ⟨_, rfl, ?_⟩
  refine (At_ok h14 6).mono ?_
  rintro e w15 ⟨rfl, h15⟩
  rw [e6] at *
  refine .inl ⟨_, _, _, _, _, _, rfl, ?_⟩
  refine allocSub h15 (fun g12 w16 h16 => ?_)
  refine stSub SubV.zero h16 .here (fun w17 h17 => ?_)
  refine (sub_ok h17 uu 258).mono ?_
  rintro e w18 ⟨rfl, h18⟩
  refine .inl ⟨_, _, _, _, _, rfl, ?_⟩
  refine (Bytes_ok h18 (subV uu 258) (by decide)).mono ?_
  rintro e w19 ⟨rfl, h19⟩
  rw [bytes258] at *
  refine .inl ⟨_, _, rfl, ?_⟩
  refine (Read_ok h19).mono ?_
  rintro e w20 ⟨rfl, h20⟩
  refine .inl ⟨_, _, _, _, _, _, rfl, ?_⟩
  refine allocSub h20 (fun g16 w21 h21 => ?_)
  refine stSub (subV uu 258) h21 .here (fun w22 h22 => ?_)
  simp only [show ((2 : Int) == 2) = true from rfl, show ((0 : Int) == 0) = true from rfl, show ((9 : Int) == 9) = true from rfl, cond_true, Option.isSome, Bool.not_false]
  have h23 := h22.drew
  refine ⟨u6.name, u6.secret, u6.plan, u6.addr, u6.susp, h23.cells0 (vs := u6.cells) (.there (.there (.there .here))), ?_⟩
  refine (sub_ok h23 uu 6).mono ?_
  rintro e w24 ⟨rfl, h24⟩
  refine .inl ⟨_, _, _, _, _, rfl, fun _ => h24.cells0 (vs := u6.cells) (.there (.there (.there .here))), ?_⟩
  rw [subEq u6 (subV uu 6), decide_eq_true (show u6 = subV uu 6 from rfl), cond_true]
  rw [show (s10 == { data := #[1, 117, 0, 1, 112, 0, 0, 1, 2, 0] }) = true from by decide, cond_true]
  refine ⟨uu, eB, { data := #[112] }, 258, false, h24.cells0 (vs := (subV uu 258).cells) .here, ?_⟩
  refine (sub_ok h24 uu 258).mono ?_
  rintro e w25 ⟨rfl, h25⟩
  refine .inl ⟨_, _, _, _, _, rfl, fun _ => h25.cells0 (vs := (subV uu 258).cells) .here, ?_⟩
  rw [show ((uu == (subV uu 258).name) && ((eB == (subV uu 258).secret) && (({ data := #[112] } : ByteArray) == (subV uu 258).plan && (((258 : Int) == (subV uu 258).addr) && ((false == (subV uu 258).susp) && true))))) = true from by decide, cond_true]
  refine (sub_ok h25 uu 0).mono ?_
  rintro e w26 ⟨rfl, h26⟩
  refine .inl ⟨_, _, _, _, _, rfl, ?_⟩
  refine (Check_ok h26 (subV uu 0)).mono ?_
  rintro e w27 ⟨rfl, h27⟩
  refine .inl ⟨_, rfl, ?_⟩
  rw [if_neg (show ¬ chkS (subV uu 0) from by decide)]
  exact ⟨rfl, h27.sel 4 []⟩
end
end Go.Proofs.Ytgmehadpfighbaa
