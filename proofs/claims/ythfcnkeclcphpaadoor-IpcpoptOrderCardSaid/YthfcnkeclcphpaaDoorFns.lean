/- What these functions of the program mean, told over worlds: printed by wip/tool/prn.py, an own tool; each is tied to the program by a theorem that the kernel checks. -/
import Derived.Test.YthfcnkeclcphpaaDoorRun3
import Derived.Test.YthfcnkeclcphpaaDoorProg
set_option linter.unusedVariables false
set_option maxRecDepth 100000
namespace Go.Proofs.YthfcnkeclcphpaaDoor
open Go
theorem mixed : Tryd.prog.follows .mixedOrders = true := by kernel_rfl

/-! ### 3: halyard/halyardlaw10.IpcpoptTexts -/
namespace F3
def stops : Stops := []
def main (R : Ending → World → Prop) (np0_1 : Int) (sp1_2 : ByteArray) (w : World) : Prop :=
  (bif (decide (((ByteArray.size sp1_2 : Nat) : Int) > 100)) then (Calls Tryd.prog 7 #[] w fun en w4 =>
  (∃ (b12_3 : Bool), en = .returned (.bool b12_3) ∧ R (.returned (.bool b12_3)) w4)
  ∨ ∃ ch5, en = .panicked ch5 ∧ R (.panicked ch5) w4) else (Calls Tryd.prog 8 #[.string sp1_2] w fun en w8 =>
  (∃ (n15_6 : Int) (n15_7 : Int), en = .returned (.tuple #[.int .u32 n15_6, .int .i64 n15_7]) ∧ Calls Tryd.prog 9 #[.string sp1_2] w8 fun en w12 =>
  (∃ (n20_10 : Int) (n20_11 : Int), en = .returned (.tuple #[.int .u32 n20_10, .int .i64 n20_11]) ∧ Calls Tryd.prog 10 #[.int .u32 np0_1] w12 fun en w15 =>
  (∃ (s24_14 : ByteArray), en = .returned (.string s24_14) ∧ Calls Tryd.prog 11 #[.int .u32 np0_1] w15 fun en w18 =>
  (∃ (s26_17 : ByteArray), en = .returned (.string s26_17) ∧ (bif (s24_14 == s26_17) then ((bif (n15_6 == n20_10) then ((bif (n15_7 == n20_11) then (Calls Tryd.prog 7 #[] w18 fun en w21 =>
  (∃ (b39_20 : Bool), en = .returned (.bool b39_20) ∧ R (.returned (.bool b39_20)) w21)
  ∨ ∃ ch22, en = .panicked ch22 ∧ R (.panicked ch22) w21) else (R (.returned (.bool false)) w18))) else (R (.returned (.bool false)) w18))) else (R (.returned (.bool false)) w18)))
  ∨ ∃ ch19, en = .panicked ch19 ∧ R (.panicked ch19) w18)
  ∨ ∃ ch16, en = .panicked ch16 ∧ R (.panicked ch16) w15)
  ∨ ∃ ch13, en = .panicked ch13 ∧ R (.panicked ch13) w12)
  ∨ ∃ ch9, en = .panicked ch9 ∧ R (.panicked ch9) w8))
theorem main_eq (R : Ending → World → Prop) (np0_1 : Int) (sp1_2 : ByteArray) (w : World) : main R np0_1 sp1_2 w = mainF Tryd.prog Tryd.f3 R stops 3000 [.int .u32 np0_1, .string sp1_2] w := by kernel_rfl
theorem calls {R : Ending → World → Prop} {np0_1 : Int} {sp1_2 : ByteArray} {w : World} (h : main R np0_1 sp1_2 w) : Calls Tryd.prog 3 #[.int .u32 np0_1, .string sp1_2] w R := main_sound Tryd.func3 mixed (Eq.mp (main_eq R np0_1 sp1_2 w) h)
end F3

/-! ### 4: halyard/halyardlaw10.IpcpoptBack -/
namespace F4
def stops : Stops := [(8, [1, 2, 3])]
def main (R : Ending → World → Prop) (bp0_1 : Bool) (np0_2 : Int) (bp0_3 : Bool) (np0_4 : Int) (bp0_5 : Bool) (np0_6 : Int) (np1_7 : Int) (np2_8 : Int) (sp3_9 : ByteArray) (w : World) : Prop :=
  newW Tryd.prog (Instr.box 30 (.agg #[.bool bp0_1, .int .u32 np0_2, .bool bp0_3, .int .u32 np0_4, .bool bp0_5, .int .u32 np0_6])) w fun g4_10 w11 =>
  (bif (decide (((ByteArray.size sp3_9 : Nat) : Int) > 100)) then (Calls Tryd.prog 7 #[] w11 fun en w13 =>
  (∃ (b21_12 : Bool), en = .returned (.bool b21_12) ∧ R (.returned (.bool b21_12)) w13)
  ∨ ∃ ch14, en = .panicked ch14 ∧ R (.panicked ch14) w13) else (∃ (b23_15 : Bool) (n23_16 : Int) (b23_17 : Bool) (n23_18 : Int) (b23_19 : Bool) (n23_20 : Int), cellsAt w11 ⟨g4_10, 0, none⟩ 0 [.bool b23_15, .int .u32 n23_16, .bool b23_17, .int .u32 n23_18, .bool b23_19, .int .u32 n23_20] ∧ Calls Tryd.prog 12 #[.agg #[.bool b23_15, .int .u32 n23_16, .bool b23_17, .int .u32 n23_18, .bool b23_19, .int .u32 n23_20]] w11 fun en w25 =>
  (∃ (A24_21 : Option Addr) (l24_22 : Nat) (c24_23 : Nat) (n24_24 : Int), en = .returned (.tuple #[.slice A24_21 l24_22 c24_23, .int .i64 n24_24]) ∧ (bif (n24_24 == 0) then (Calls Tryd.prog 13 #[.slice A24_21 l24_22 c24_23] w25 fun en w37 =>
  (∃ (b31_27 : Bool) (n31_28 : Int) (b31_29 : Bool) (n31_30 : Int) (b31_31 : Bool) (n31_32 : Int) (A31_33 : Option Addr) (l31_34 : Nat) (c31_35 : Nat) (n31_36 : Int), en = .returned (.tuple #[.agg #[.bool b31_27, .int .u32 n31_28, .bool b31_29, .int .u32 n31_30, .bool b31_31, .int .u32 n31_32], .slice A31_33 l31_34 c31_35, .int .i64 n31_36]) ∧ newW Tryd.prog (Instr.alloc 30 true (.tuple #[])) w37 fun g11_39 w40 =>
  stW Tryd.prog 30 ⟨g11_39, 0, none⟩ (.agg #[.bool b31_27, .int .u32 n31_28, .bool b31_29, .int .u32 n31_30, .bool b31_31, .int .u32 n31_32]) w40 fun w41 =>
  (bif (n31_36 != 0) then (R (.returned (.bool false)) w41) else (∃ (b38_42 : Bool) (n38_43 : Int) (b38_44 : Bool) (n38_45 : Int) (b38_46 : Bool) (n38_47 : Int), cellsAt w41 ⟨g11_39, 0, none⟩ 0 [.bool b38_42, .int .u32 n38_43, .bool b38_44, .int .u32 n38_45, .bool b38_46, .int .u32 n38_47] ∧ ∃ (b39_48 : Bool) (n39_49 : Int) (b39_50 : Bool) (n39_51 : Int) (b39_52 : Bool) (n39_53 : Int), cellsAt w41 ⟨g4_10, 0, none⟩ 0 [.bool b39_48, .int .u32 n39_49, .bool b39_50, .int .u32 n39_51, .bool b39_52, .int .u32 n39_53] ∧ (bif (!((b38_42 == b39_48) && ((n38_43 == n39_49) && ((b38_44 == b39_50) && ((n38_45 == n39_51) && ((b38_46 == b39_52) && ((n38_47 == n39_53) && true))))))) then (R (.returned (.bool false)) w41) else ((bif (((l31_34 : Nat) : Int) != 0) then (R (.returned (.bool false)) w41) else (SK Tryd.prog Tryd.f4 R (cfg Tryd.f4 8) [(1, .int .u32 np1_7), (2, .int .u32 np2_8), (3, .string sp3_9)] w41)))))))
  ∨ ∃ ch38, en = .panicked ch38 ∧ R (.panicked ch38) w37) else (SK Tryd.prog Tryd.f4 R (cfg Tryd.f4 8) [(1, .int .u32 np1_7), (2, .int .u32 np2_8), (3, .string sp3_9)] w25)))
  ∨ ∃ ch26, en = .panicked ch26 ∧ R (.panicked ch26) w25))
theorem main_eq (R : Ending → World → Prop) (bp0_1 : Bool) (np0_2 : Int) (bp0_3 : Bool) (np0_4 : Int) (bp0_5 : Bool) (np0_6 : Int) (np1_7 : Int) (np2_8 : Int) (sp3_9 : ByteArray) (w : World) : main R bp0_1 np0_2 bp0_3 np0_4 bp0_5 np0_6 np1_7 np2_8 sp3_9 w = mainF Tryd.prog Tryd.f4 R stops 3000 [.agg #[.bool bp0_1, .int .u32 np0_2, .bool bp0_3, .int .u32 np0_4, .bool bp0_5, .int .u32 np0_6], .int .u32 np1_7, .int .u32 np2_8, .string sp3_9] w := by kernel_rfl
theorem calls {R : Ending → World → Prop} {bp0_1 : Bool} {np0_2 : Int} {bp0_3 : Bool} {np0_4 : Int} {bp0_5 : Bool} {np0_6 : Int} {np1_7 : Int} {np2_8 : Int} {sp3_9 : ByteArray} {w : World} (h : main R bp0_1 np0_2 bp0_3 np0_4 bp0_5 np0_6 np1_7 np2_8 sp3_9 w) : Calls Tryd.prog 4 #[.agg #[.bool bp0_1, .int .u32 np0_2, .bool bp0_3, .int .u32 np0_4, .bool bp0_5, .int .u32 np0_6], .int .u32 np1_7, .int .u32 np2_8, .string sp3_9] w R := main_sound Tryd.func4 mixed (Eq.mp (main_eq R bp0_1 np0_2 bp0_3 np0_4 bp0_5 np0_6 np1_7 np2_8 sp3_9 w) h)
def p8 (R : Ending → World → Prop) (n1_1 : Int) (n2_2 : Int) (s3_3 : ByteArray) (w : World) : Prop :=
  Calls Tryd.prog 10 #[.int .u32 n1_1] w fun en w5 =>
  (∃ (s49_4 : ByteArray), en = .returned (.string s49_4) ∧ Calls Tryd.prog 8 #[.string s49_4] w5 fun en w9 =>
  (∃ (n50_7 : Int) (n50_8 : Int), en = .returned (.tuple #[.int .u32 n50_7, .int .i64 n50_8]) ∧ Calls Tryd.prog 8 #[.string s3_3] w9 fun en w13 =>
  (∃ (n55_11 : Int) (n55_12 : Int), en = .returned (.tuple #[.int .u32 n55_11, .int .i64 n55_12]) ∧ (bif (n50_8 == 0) then ((bif (n50_7 == n1_1) then ((bif (n55_12 != 0) then (Calls Tryd.prog 10 #[.int .u32 n1_1] w13 fun en w16 =>
  (∃ (s80_15 : ByteArray), en = .returned (.string s80_15) ∧ Calls Tryd.prog 10 #[.int .u32 n2_2] w16 fun en w19 =>
  (∃ (s82_18 : ByteArray), en = .returned (.string s82_18) ∧ (bif ((n1_1 == n2_2) == (s80_15 == s82_18)) then (Calls Tryd.prog 7 #[] w19 fun en w22 =>
  (∃ (b87_21 : Bool), en = .returned (.bool b87_21) ∧ R (.returned (.bool b87_21)) w22)
  ∨ ∃ ch23, en = .panicked ch23 ∧ R (.panicked ch23) w22) else (R (.returned (.bool false)) w19)))
  ∨ ∃ ch20, en = .panicked ch20 ∧ R (.panicked ch20) w19)
  ∨ ∃ ch17, en = .panicked ch17 ∧ R (.panicked ch17) w16) else (Calls Tryd.prog 10 #[.int .u32 n55_11] w13 fun en w25 =>
  (∃ (s70_24 : ByteArray), en = .returned (.string s70_24) ∧ (bif (s70_24 == s3_3) then (Calls Tryd.prog 10 #[.int .u32 n1_1] w25 fun en w28 =>
  (∃ (s80_27 : ByteArray), en = .returned (.string s80_27) ∧ Calls Tryd.prog 10 #[.int .u32 n2_2] w28 fun en w31 =>
  (∃ (s82_30 : ByteArray), en = .returned (.string s82_30) ∧ (bif ((n1_1 == n2_2) == (s80_27 == s82_30)) then (Calls Tryd.prog 7 #[] w31 fun en w34 =>
  (∃ (b87_33 : Bool), en = .returned (.bool b87_33) ∧ R (.returned (.bool b87_33)) w34)
  ∨ ∃ ch35, en = .panicked ch35 ∧ R (.panicked ch35) w34) else (R (.returned (.bool false)) w31)))
  ∨ ∃ ch32, en = .panicked ch32 ∧ R (.panicked ch32) w31)
  ∨ ∃ ch29, en = .panicked ch29 ∧ R (.panicked ch29) w28) else (R (.returned (.bool false)) w25)))
  ∨ ∃ ch26, en = .panicked ch26 ∧ R (.panicked ch26) w25))) else (R (.returned (.bool false)) w13))) else (R (.returned (.bool false)) w13)))
  ∨ ∃ ch14, en = .panicked ch14 ∧ R (.panicked ch14) w13)
  ∨ ∃ ch10, en = .panicked ch10 ∧ R (.panicked ch10) w9)
  ∨ ∃ ch6, en = .panicked ch6 ∧ R (.panicked ch6) w5
theorem p8_eq (R : Ending → World → Prop) (n1_1 : Int) (n2_2 : Int) (s3_3 : ByteArray) (w : World) : p8 R n1_1 n2_2 s3_3 w = pieceF Tryd.prog Tryd.f4 R stops 3000 (cfg Tryd.f4 8) [(1, .int .u32 n1_1), (2, .int .u32 n2_2), (3, .string s3_3)] w := by kernel_rfl
theorem p8_ok {R : Ending → World → Prop} {n1_1 : Int} {n2_2 : Int} {s3_3 : ByteArray} {w : World} (h : p8 R n1_1 n2_2 s3_3 w) : SK Tryd.prog Tryd.f4 R (cfg Tryd.f4 8) [(1, .int .u32 n1_1), (2, .int .u32 n2_2), (3, .string s3_3)] w := piece_sound mixed (Eq.mp (p8_eq R n1_1 n2_2 s3_3 w) h)
end F4

/-! ### 5: halyard/halyardlaw10.IpcpoptTells -/
namespace F5
def stops : Stops := [(3, [1, 3, 5]), (9, [3, 7, 8])]
def main (R : Ending → World → Prop) (bp0_1 : Bool) (np0_2 : Int) (bp0_3 : Bool) (np0_4 : Int) (bp0_5 : Bool) (np0_6 : Int) (Ap1_7 : Option Addr) (lp1_8 : Nat) (cp1_9 : Nat) (np2_10 : Int) (sp2_11 : ByteArray) (w : World) : Prop :=
  newW Tryd.prog (Instr.box 30 (.agg #[.bool bp0_1, .int .u32 np0_2, .bool bp0_3, .int .u32 np0_4, .bool bp0_5, .int .u32 np0_6])) w fun g3_12 w13 =>
  newW Tryd.prog (Instr.box 38 (.agg #[.int .u8 np2_10, .string sp2_11])) w13 fun g5_14 w15 =>
  Calls Tryd.prog 14 #[.slice Ap1_7 lp1_8 cp1_9] w15 fun en w17 =>
  (∃ (b17_16 : Bool), en = .returned (.bool b17_16) ∧ (bif b17_16 then (Calls Tryd.prog 7 #[] w17 fun en w20 =>
  (∃ (b24_19 : Bool), en = .returned (.bool b24_19) ∧ R (.returned (.bool b24_19)) w20)
  ∨ ∃ ch21, en = .panicked ch21 ∧ R (.panicked ch21) w20) else (∃ (s20_22 : ByteArray), w17.cell? ⟨g5_14, 1, none⟩ = some (.string s20_22) ∧ (bif (decide (((ByteArray.size s20_22 : Nat) : Int) > 1000)) then (Calls Tryd.prog 7 #[] w17 fun en w24 =>
  (∃ (b24_23 : Bool), en = .returned (.bool b24_23) ∧ R (.returned (.bool b24_23)) w24)
  ∨ ∃ ch25, en = .panicked ch25 ∧ R (.panicked ch25) w24) else (SK Tryd.prog Tryd.f5 R (cfg Tryd.f5 3) [(1, .slice Ap1_7 lp1_8 cp1_9), (3, .pointer (some ⟨g3_12, 0, none⟩)), (5, .pointer (some ⟨g5_14, 0, none⟩))] w17)))))
  ∨ ∃ ch18, en = .panicked ch18 ∧ R (.panicked ch18) w17
theorem main_eq (R : Ending → World → Prop) (bp0_1 : Bool) (np0_2 : Int) (bp0_3 : Bool) (np0_4 : Int) (bp0_5 : Bool) (np0_6 : Int) (Ap1_7 : Option Addr) (lp1_8 : Nat) (cp1_9 : Nat) (np2_10 : Int) (sp2_11 : ByteArray) (w : World) : main R bp0_1 np0_2 bp0_3 np0_4 bp0_5 np0_6 Ap1_7 lp1_8 cp1_9 np2_10 sp2_11 w = mainF Tryd.prog Tryd.f5 R stops 3000 [.agg #[.bool bp0_1, .int .u32 np0_2, .bool bp0_3, .int .u32 np0_4, .bool bp0_5, .int .u32 np0_6], .slice Ap1_7 lp1_8 cp1_9, .agg #[.int .u8 np2_10, .string sp2_11]] w := by kernel_rfl
theorem calls {R : Ending → World → Prop} {bp0_1 : Bool} {np0_2 : Int} {bp0_3 : Bool} {np0_4 : Int} {bp0_5 : Bool} {np0_6 : Int} {Ap1_7 : Option Addr} {lp1_8 : Nat} {cp1_9 : Nat} {np2_10 : Int} {sp2_11 : ByteArray} {w : World} (h : main R bp0_1 np0_2 bp0_3 np0_4 bp0_5 np0_6 Ap1_7 lp1_8 cp1_9 np2_10 sp2_11 w) : Calls Tryd.prog 5 #[.agg #[.bool bp0_1, .int .u32 np0_2, .bool bp0_3, .int .u32 np0_4, .bool bp0_5, .int .u32 np0_6], .slice Ap1_7 lp1_8 cp1_9, .agg #[.int .u8 np2_10, .string sp2_11]] w R := main_sound Tryd.func5 mixed (Eq.mp (main_eq R bp0_1 np0_2 bp0_3 np0_4 bp0_5 np0_6 Ap1_7 lp1_8 cp1_9 np2_10 sp2_11 w) h)
def p3 (R : Ending → World → Prop) (A1_3 : Option Addr) (l1_1 : Nat) (c1_2 : Nat) (g3_4 : Nat) (g5_5 : Nat) (w : World) : Prop :=
  ∃ (b26_6 : Bool) (n26_7 : Int) (b26_8 : Bool) (n26_9 : Int) (b26_10 : Bool) (n26_11 : Int), cellsAt w ⟨g3_4, 0, none⟩ 0 [.bool b26_6, .int .u32 n26_7, .bool b26_8, .int .u32 n26_9, .bool b26_10, .int .u32 n26_11] ∧ Calls Tryd.prog 12 #[.agg #[.bool b26_6, .int .u32 n26_7, .bool b26_8, .int .u32 n26_9, .bool b26_10, .int .u32 n26_11]] w fun en w16 =>
  (∃ (A27_12 : Option Addr) (l27_13 : Nat) (c27_14 : Nat) (n27_15 : Int), en = .returned (.tuple #[.slice A27_12 l27_13 c27_14, .int .i64 n27_15]) ∧ slW Tryd.prog (Builtin.append_ #[31, 31] 31 #[.slice none 0 0, .slice A1_3 l1_1 c1_2]) w16 fun A31_19 l31_20 c31_21 w18 =>
  Calls Tryd.prog 13 #[.slice A31_19 l31_20 c31_21] w18 fun en w32 =>
  (∃ (b34_22 : Bool) (n34_23 : Int) (b34_24 : Bool) (n34_25 : Int) (b34_26 : Bool) (n34_27 : Int) (A34_28 : Option Addr) (l34_29 : Nat) (c34_30 : Nat) (n34_31 : Int), en = .returned (.tuple #[.agg #[.bool b34_22, .int .u32 n34_23, .bool b34_24, .int .u32 n34_25, .bool b34_26, .int .u32 n34_27], .slice A34_28 l34_29 c34_30, .int .i64 n34_31]) ∧ newW Tryd.prog (Instr.alloc 30 true (.tuple #[])) w32 fun g10_34 w35 =>
  stW Tryd.prog 30 ⟨g10_34, 0, none⟩ (.agg #[.bool b34_22, .int .u32 n34_23, .bool b34_24, .int .u32 n34_25, .bool b34_26, .int .u32 n34_27]) w35 fun w36 =>
  Calls Tryd.prog 15 #[.slice A1_3 l1_1 c1_2] w36 fun en w47 =>
  (∃ (b40_37 : Bool) (n40_38 : Int) (b40_39 : Bool) (n40_40 : Int) (b40_41 : Bool) (n40_42 : Int) (A40_43 : Option Addr) (l40_44 : Nat) (c40_45 : Nat) (n40_46 : Int), en = .returned (.tuple #[.agg #[.bool b40_37, .int .u32 n40_38, .bool b40_39, .int .u32 n40_40, .bool b40_41, .int .u32 n40_42], .slice A40_43 l40_44 c40_45, .int .i64 n40_46]) ∧ newW Tryd.prog (Instr.alloc 30 true (.tuple #[])) w47 fun g13_49 w50 =>
  stW Tryd.prog 30 ⟨g13_49, 0, none⟩ (.agg #[.bool b40_37, .int .u32 n40_38, .bool b40_39, .int .u32 n40_40, .bool b40_41, .int .u32 n40_42]) w50 fun w51 =>
  ∃ (b44_52 : Bool) (n44_53 : Int) (b44_54 : Bool) (n44_55 : Int) (b44_56 : Bool) (n44_57 : Int), cellsAt (World.drew w51) ⟨g10_34, 0, none⟩ 0 [.bool b44_52, .int .u32 n44_53, .bool b44_54, .int .u32 n44_55, .bool b44_56, .int .u32 n44_57] ∧ ∃ (b45_58 : Bool) (n45_59 : Int) (b45_60 : Bool) (n45_61 : Int) (b45_62 : Bool) (n45_63 : Int), cellsAt (World.drew w51) ⟨g13_49, 0, none⟩ 0 [.bool b45_58, .int .u32 n45_59, .bool b45_60, .int .u32 n45_61, .bool b45_62, .int .u32 n45_63] ∧ (bif (!((b44_52 == b45_58) && ((n44_53 == n45_59) && ((b44_54 == b45_60) && ((n44_55 == n45_61) && ((b44_56 == b45_62) && ((n44_57 == n45_63) && true))))))) then (R (.returned (.bool false)) (World.drew w51)) else (Calls Tryd.prog 16 #[.slice A34_28 l34_29 c34_30, .slice A40_43 l40_44 c40_45] (World.drew w51) fun en w65 =>
  (∃ (b50_64 : Bool), en = .returned (.bool b50_64) ∧ (bif (!b50_64) then (R (.returned (.bool false)) w65) else ((bif (n34_31 != n40_46) then (R (.returned (.bool false)) w65) else (Calls Tryd.prog 16 #[.slice A31_19 l31_20 c31_21, .slice A1_3 l1_1 c1_2] w65 fun en w68 =>
  (∃ (b61_67 : Bool), en = .returned (.bool b61_67) ∧ (bif (!b61_67) then (R (.returned (.bool false)) w68) else (∃ (n65_70 : Int) (s65_71 : ByteArray), cellsAt w68 ⟨g5_5, 0, none⟩ 0 [.int .u8 n65_70, .string s65_71] ∧ ∃ (n67_72 : Int) (s67_73 : ByteArray), cellsAt w68 ⟨g5_5, 0, none⟩ 0 [.int .u8 n67_72, .string s67_73] ∧ Calls Tryd.prog 17 #[.agg #[.int .u8 n65_70, .string s65_71]] w68 fun en w75 =>
  (∃ (b66_74 : Bool), en = .returned (.bool b66_74) ∧ (cellsAt w68 ⟨g5_5, 0, none⟩ 0 [.int .u8 n67_72, .string s67_73] → cellsAt w75 ⟨g5_5, 0, none⟩ 0 [.int .u8 n67_72, .string s67_73]) ∧ Calls Tryd.prog 18 #[.agg #[.int .u8 n67_72, .string s67_73]] w75 fun en w78 =>
  (∃ (b68_77 : Bool), en = .returned (.bool b68_77) ∧ (bif (!(b66_74 == b68_77)) then (R (.returned (.bool false)) w78) else (SK Tryd.prog Tryd.f5 R (cfg Tryd.f5 9) [(3, .pointer (some ⟨g3_4, 0, none⟩)), (7, .slice A27_12 l27_13 c27_14), (8, .int .i64 n27_15)] w78)))
  ∨ ∃ ch79, en = .panicked ch79 ∧ R (.panicked ch79) w78)
  ∨ ∃ ch76, en = .panicked ch76 ∧ R (.panicked ch76) w75)))
  ∨ ∃ ch69, en = .panicked ch69 ∧ R (.panicked ch69) w68)))))
  ∨ ∃ ch66, en = .panicked ch66 ∧ R (.panicked ch66) w65)))
  ∨ ∃ ch48, en = .panicked ch48 ∧ R (.panicked ch48) w47)
  ∨ ∃ ch33, en = .panicked ch33 ∧ R (.panicked ch33) w32)
  ∨ ∃ ch17, en = .panicked ch17 ∧ R (.panicked ch17) w16
theorem p3_eq (R : Ending → World → Prop) (A1_3 : Option Addr) (l1_1 : Nat) (c1_2 : Nat) (g3_4 : Nat) (g5_5 : Nat) (w : World) : p3 R A1_3 l1_1 c1_2 g3_4 g5_5 w = pieceF Tryd.prog Tryd.f5 R stops 3000 (cfg Tryd.f5 3) [(1, .slice A1_3 l1_1 c1_2), (3, .pointer (some ⟨g3_4, 0, none⟩)), (5, .pointer (some ⟨g5_5, 0, none⟩))] w := by kernel_rfl
theorem p3_ok {R : Ending → World → Prop} {A1_3 : Option Addr} {l1_1 : Nat} {c1_2 : Nat} {g3_4 : Nat} {g5_5 : Nat} {w : World} (h : p3 R A1_3 l1_1 c1_2 g3_4 g5_5 w) : SK Tryd.prog Tryd.f5 R (cfg Tryd.f5 3) [(1, .slice A1_3 l1_1 c1_2), (3, .pointer (some ⟨g3_4, 0, none⟩)), (5, .pointer (some ⟨g5_5, 0, none⟩))] w := piece_sound mixed (Eq.mp (p3_eq R A1_3 l1_1 c1_2 g3_4 g5_5 w) h)
def p9 (R : Ending → World → Prop) (g3_1 : Nat) (A7_4 : Option Addr) (l7_2 : Nat) (c7_3 : Nat) (n8_5 : Int) (w : World) : Prop :=
  ∃ (b71_6 : Bool) (n71_7 : Int) (b71_8 : Bool) (n71_9 : Int) (b71_10 : Bool) (n71_11 : Int), cellsAt w ⟨g3_1, 0, none⟩ 0 [.bool b71_6, .int .u32 n71_7, .bool b71_8, .int .u32 n71_9, .bool b71_10, .int .u32 n71_11] ∧ Calls Tryd.prog 19 #[.agg #[.bool b71_6, .int .u32 n71_7, .bool b71_8, .int .u32 n71_9, .bool b71_10, .int .u32 n71_11]] w fun en w13 =>
  (∃ (b72_12 : Bool), en = .returned (.bool b72_12) ∧ (bif (!b72_12) then ((bif (((l7_2 : Nat) : Int) == 0) then ((bif (n8_5 == 2) then (Calls Tryd.prog 7 #[] w13 fun en w16 =>
  (∃ (b82_15 : Bool), en = .returned (.bool b82_15) ∧ R (.returned (.bool b82_15)) w16)
  ∨ ∃ ch17, en = .panicked ch17 ∧ R (.panicked ch17) w16) else (R (.returned (.bool false)) w13))) else (R (.returned (.bool false)) w13))) else (∃ (b85_18 : Bool) (n85_19 : Int) (b85_20 : Bool) (n85_21 : Int) (b85_22 : Bool) (n85_23 : Int), cellsAt w13 ⟨g3_1, 0, none⟩ 0 [.bool b85_18, .int .u32 n85_19, .bool b85_20, .int .u32 n85_21, .bool b85_22, .int .u32 n85_23] ∧ Calls Tryd.prog 20 #[.agg #[.bool b85_18, .int .u32 n85_19, .bool b85_20, .int .u32 n85_21, .bool b85_22, .int .u32 n85_23]] w13 fun en w27 =>
  (∃ (A86_24 : Option Addr) (l86_25 : Nat) (c86_26 : Nat), en = .returned (.slice A86_24 l86_25 c86_26) ∧ Calls Tryd.prog 16 #[.slice A7_4 l7_2 c7_3, .slice A86_24 l86_25 c86_26] w27 fun en w30 =>
  (∃ (b87_29 : Bool), en = .returned (.bool b87_29) ∧ (bif b87_29 then ((bif (n8_5 == 0) then (Calls Tryd.prog 7 #[] w30 fun en w33 =>
  (∃ (b93_32 : Bool), en = .returned (.bool b93_32) ∧ R (.returned (.bool b93_32)) w33)
  ∨ ∃ ch34, en = .panicked ch34 ∧ R (.panicked ch34) w33) else (R (.returned (.bool false)) w30))) else (R (.returned (.bool false)) w30)))
  ∨ ∃ ch31, en = .panicked ch31 ∧ R (.panicked ch31) w30)
  ∨ ∃ ch28, en = .panicked ch28 ∧ R (.panicked ch28) w27)))
  ∨ ∃ ch14, en = .panicked ch14 ∧ R (.panicked ch14) w13
theorem p9_eq (R : Ending → World → Prop) (g3_1 : Nat) (A7_4 : Option Addr) (l7_2 : Nat) (c7_3 : Nat) (n8_5 : Int) (w : World) : p9 R g3_1 A7_4 l7_2 c7_3 n8_5 w = pieceF Tryd.prog Tryd.f5 R stops 3000 (cfg Tryd.f5 9) [(3, .pointer (some ⟨g3_1, 0, none⟩)), (7, .slice A7_4 l7_2 c7_3), (8, .int .i64 n8_5)] w := by kernel_rfl
theorem p9_ok {R : Ending → World → Prop} {g3_1 : Nat} {A7_4 : Option Addr} {l7_2 : Nat} {c7_3 : Nat} {n8_5 : Int} {w : World} (h : p9 R g3_1 A7_4 l7_2 c7_3 n8_5 w) : SK Tryd.prog Tryd.f5 R (cfg Tryd.f5 9) [(3, .pointer (some ⟨g3_1, 0, none⟩)), (7, .slice A7_4 l7_2 c7_3), (8, .int .i64 n8_5)] w := piece_sound mixed (Eq.mp (p9_eq R g3_1 A7_4 l7_2 c7_3 n8_5 w) h)
end F5

/-! ### 6: halyard/halyardlaw10.IpcpoptOrder -/
namespace F6
def stops : Stops := [(3, [0, 1, 2, 4, 8]), (13, [0, 4, 8, 11, 12, 13])]
def main (R : Ending → World → Prop) (Ap0_1 : Option Addr) (lp0_2 : Nat) (cp0_3 : Nat) (np1_4 : Int) (np2_5 : Int) (np3_6 : Int) (sp3_7 : ByteArray) (np4_8 : Int) (w : World) : Prop :=
  newW Tryd.prog (Instr.box 38 (.agg #[.int .u8 np3_6, .string sp3_7])) w fun g8_9 w10 =>
  Calls Tryd.prog 14 #[.slice Ap0_1 lp0_2 cp0_3] w10 fun en w12 =>
  (∃ (b27_11 : Bool), en = .returned (.bool b27_11) ∧ (bif b27_11 then (Calls Tryd.prog 7 #[] w12 fun en w15 =>
  (∃ (b34_14 : Bool), en = .returned (.bool b34_14) ∧ R (.returned (.bool b34_14)) w15)
  ∨ ∃ ch16, en = .panicked ch16 ∧ R (.panicked ch16) w15) else (∃ (s30_17 : ByteArray), w12.cell? ⟨g8_9, 1, none⟩ = some (.string s30_17) ∧ (bif (decide (((ByteArray.size s30_17 : Nat) : Int) > 300)) then (Calls Tryd.prog 7 #[] w12 fun en w19 =>
  (∃ (b34_18 : Bool), en = .returned (.bool b34_18) ∧ R (.returned (.bool b34_18)) w19)
  ∨ ∃ ch20, en = .panicked ch20 ∧ R (.panicked ch20) w19) else (SK Tryd.prog Tryd.f6 R (cfg Tryd.f6 3) [(0, .slice Ap0_1 lp0_2 cp0_3), (1, .int .u8 np1_4), (2, .int .u8 np2_5), (4, .int .u8 np4_8), (8, .pointer (some ⟨g8_9, 0, none⟩))] w12)))))
  ∨ ∃ ch13, en = .panicked ch13 ∧ R (.panicked ch13) w12
theorem main_eq (R : Ending → World → Prop) (Ap0_1 : Option Addr) (lp0_2 : Nat) (cp0_3 : Nat) (np1_4 : Int) (np2_5 : Int) (np3_6 : Int) (sp3_7 : ByteArray) (np4_8 : Int) (w : World) : main R Ap0_1 lp0_2 cp0_3 np1_4 np2_5 np3_6 sp3_7 np4_8 w = mainF Tryd.prog Tryd.f6 R stops 3000 [.slice Ap0_1 lp0_2 cp0_3, .int .u8 np1_4, .int .u8 np2_5, .agg #[.int .u8 np3_6, .string sp3_7], .int .u8 np4_8] w := by kernel_rfl
theorem calls {R : Ending → World → Prop} {Ap0_1 : Option Addr} {lp0_2 : Nat} {cp0_3 : Nat} {np1_4 : Int} {np2_5 : Int} {np3_6 : Int} {sp3_7 : ByteArray} {np4_8 : Int} {w : World} (h : main R Ap0_1 lp0_2 cp0_3 np1_4 np2_5 np3_6 sp3_7 np4_8 w) : Calls Tryd.prog 6 #[.slice Ap0_1 lp0_2 cp0_3, .int .u8 np1_4, .int .u8 np2_5, .agg #[.int .u8 np3_6, .string sp3_7], .int .u8 np4_8] w R := main_sound Tryd.func6 mixed (Eq.mp (main_eq R Ap0_1 lp0_2 cp0_3 np1_4 np2_5 np3_6 sp3_7 np4_8 w) h)
def p3 (R : Ending → World → Prop) (A0_3 : Option Addr) (l0_1 : Nat) (c0_2 : Nat) (n1_4 : Int) (n2_5 : Int) (n4_6 : Int) (g8_7 : Nat) (w : World) : Prop :=
  Calls Tryd.prog 13 #[.slice A0_3 l0_1 c0_2] w fun en w18 =>
  (∃ (b37_8 : Bool) (n37_9 : Int) (b37_10 : Bool) (n37_11 : Int) (b37_12 : Bool) (n37_13 : Int) (A37_14 : Option Addr) (l37_15 : Nat) (c37_16 : Nat) (n37_17 : Int), en = .returned (.tuple #[.agg #[.bool b37_8, .int .u32 n37_9, .bool b37_10, .int .u32 n37_11, .bool b37_12, .int .u32 n37_13], .slice A37_14 l37_15 c37_16, .int .i64 n37_17]) ∧ newW Tryd.prog (Instr.alloc 30 true (.tuple #[])) w18 fun g11_20 w21 =>
  stW Tryd.prog 30 ⟨g11_20, 0, none⟩ (.agg #[.bool b37_8, .int .u32 n37_9, .bool b37_10, .int .u32 n37_11, .bool b37_12, .int .u32 n37_13]) w21 fun w22 =>
  (bif (decide (((l0_1 : Nat) : Int) > 0)) then (slW Tryd.prog (Builtin.append_ #[31, 31] 31 #[.slice none 0 0, .slice A0_3 l0_1 c0_2]) w22 fun A45_24 l45_25 c45_26 w23 =>
  ((l0_1 : Nat) : Int) ≠ (0 : Int) ∧ ((l0_1 : Nat) : Int) ≠ (0 : Int) ∧ idxck A45_24 l45_25 (Int.tmod (IntKind.wrap .i64 n1_4) ((l0_1 : Nat) : Int)) fun a27 =>
  ∃ (n59_28 : Int) (s59_29 : ByteArray), cellsAt (World.drew w23) (a27.add (Int.toNat (Int.tmod (IntKind.wrap .i64 n1_4) ((l0_1 : Nat) : Int)) * 2)) 0 [.int .u8 n59_28, .string s59_29] ∧ newW Tryd.prog (Instr.alloc 38 true (.tuple #[])) (World.drew w23) fun g17_30 w31 =>
  stW Tryd.prog 38 ⟨g17_30, 0, none⟩ (.agg #[.int .u8 n59_28, .string s59_29]) w31 fun w32 =>
  idxck A45_24 l45_25 (Int.tmod (IntKind.wrap .i64 n2_5) ((l0_1 : Nat) : Int)) fun a33 =>
  ∃ (n65_34 : Int) (s65_35 : ByteArray), cellsAt w32 (a33.add (Int.toNat (Int.tmod (IntKind.wrap .i64 n2_5) ((l0_1 : Nat) : Int)) * 2)) 0 [.int .u8 n65_34, .string s65_35] ∧ idxck A45_24 l45_25 (Int.tmod (IntKind.wrap .i64 n1_4) ((l0_1 : Nat) : Int)) fun a36 =>
  stW Tryd.prog 38 (a36.add (Int.toNat (Int.tmod (IntKind.wrap .i64 n1_4) ((l0_1 : Nat) : Int)) * 2)) (.agg #[.int .u8 n65_34, .string s65_35]) w32 fun w37 =>
  ∃ (n69_38 : Int) (s69_39 : ByteArray), cellsAt w37 ⟨g17_30, 0, none⟩ 0 [.int .u8 n69_38, .string s69_39] ∧ idxck A45_24 l45_25 (Int.tmod (IntKind.wrap .i64 n2_5) ((l0_1 : Nat) : Int)) fun a40 =>
  stW Tryd.prog 38 (a40.add (Int.toNat (Int.tmod (IntKind.wrap .i64 n2_5) ((l0_1 : Nat) : Int)) * 2)) (.agg #[.int .u8 n69_38, .string s69_39]) w37 fun w41 =>
  Calls Tryd.prog 13 #[.slice A45_24 l45_25 c45_26] w41 fun en w52 =>
  (∃ (b73_42 : Bool) (n73_43 : Int) (b73_44 : Bool) (n73_45 : Int) (b73_46 : Bool) (n73_47 : Int) (A73_48 : Option Addr) (l73_49 : Nat) (c73_50 : Nat) (n73_51 : Int), en = .returned (.tuple #[.agg #[.bool b73_42, .int .u32 n73_43, .bool b73_44, .int .u32 n73_45, .bool b73_46, .int .u32 n73_47], .slice A73_48 l73_49 c73_50, .int .i64 n73_51]) ∧ newW Tryd.prog (Instr.alloc 30 true (.tuple #[])) w52 fun g18_54 w55 =>
  stW Tryd.prog 30 ⟨g18_54, 0, none⟩ (.agg #[.bool b73_42, .int .u32 n73_43, .bool b73_44, .int .u32 n73_45, .bool b73_46, .int .u32 n73_47]) w55 fun w56 =>
  ∃ (b77_57 : Bool) (n77_58 : Int) (b77_59 : Bool) (n77_60 : Int) (b77_61 : Bool) (n77_62 : Int), cellsAt w56 ⟨g11_20, 0, none⟩ 0 [.bool b77_57, .int .u32 n77_58, .bool b77_59, .int .u32 n77_60, .bool b77_61, .int .u32 n77_62] ∧ ∃ (b78_63 : Bool) (n78_64 : Int) (b78_65 : Bool) (n78_66 : Int) (b78_67 : Bool) (n78_68 : Int), cellsAt w56 ⟨g18_54, 0, none⟩ 0 [.bool b78_63, .int .u32 n78_64, .bool b78_65, .int .u32 n78_66, .bool b78_67, .int .u32 n78_68] ∧ (bif (!((b77_57 == b78_63) && ((n77_58 == n78_64) && ((b77_59 == b78_65) && ((n77_60 == n78_66) && ((b77_61 == b78_67) && ((n77_62 == n78_68) && true))))))) then (R (.returned (.bool false)) w56) else ((bif (((l37_15 : Nat) : Int) != ((l73_49 : Nat) : Int)) then (R (.returned (.bool false)) w56) else ((bif (n37_17 != n73_51) then (R (.returned (.bool false)) w56) else (SK Tryd.prog Tryd.f6 R (cfg Tryd.f6 13) [(0, .slice A0_3 l0_1 c0_2), (4, .int .u8 n4_6), (8, .pointer (some ⟨g8_7, 0, none⟩)), (11, .pointer (some ⟨g11_20, 0, none⟩)), (12, .slice A37_14 l37_15 c37_16), (13, .int .i64 n37_17)] w56)))))))
  ∨ ∃ ch53, en = .panicked ch53 ∧ R (.panicked ch53) w52) else (SK Tryd.prog Tryd.f6 R (cfg Tryd.f6 13) [(0, .slice A0_3 l0_1 c0_2), (4, .int .u8 n4_6), (8, .pointer (some ⟨g8_7, 0, none⟩)), (11, .pointer (some ⟨g11_20, 0, none⟩)), (12, .slice A37_14 l37_15 c37_16), (13, .int .i64 n37_17)] w22)))
  ∨ ∃ ch19, en = .panicked ch19 ∧ R (.panicked ch19) w18
theorem p3_eq (R : Ending → World → Prop) (A0_3 : Option Addr) (l0_1 : Nat) (c0_2 : Nat) (n1_4 : Int) (n2_5 : Int) (n4_6 : Int) (g8_7 : Nat) (w : World) : p3 R A0_3 l0_1 c0_2 n1_4 n2_5 n4_6 g8_7 w = pieceF Tryd.prog Tryd.f6 R stops 3000 (cfg Tryd.f6 3) [(0, .slice A0_3 l0_1 c0_2), (1, .int .u8 n1_4), (2, .int .u8 n2_5), (4, .int .u8 n4_6), (8, .pointer (some ⟨g8_7, 0, none⟩))] w := by kernel_rfl
theorem p3_ok {R : Ending → World → Prop} {A0_3 : Option Addr} {l0_1 : Nat} {c0_2 : Nat} {n1_4 : Int} {n2_5 : Int} {n4_6 : Int} {g8_7 : Nat} {w : World} (h : p3 R A0_3 l0_1 c0_2 n1_4 n2_5 n4_6 g8_7 w) : SK Tryd.prog Tryd.f6 R (cfg Tryd.f6 3) [(0, .slice A0_3 l0_1 c0_2), (1, .int .u8 n1_4), (2, .int .u8 n2_5), (4, .int .u8 n4_6), (8, .pointer (some ⟨g8_7, 0, none⟩))] w := piece_sound mixed (Eq.mp (p3_eq R A0_3 l0_1 c0_2 n1_4 n2_5 n4_6 g8_7 w) h)
def p13 (R : Ending → World → Prop) (A0_3 : Option Addr) (l0_1 : Nat) (c0_2 : Nat) (n4_4 : Int) (g8_5 : Nat) (g11_6 : Nat) (A12_9 : Option Addr) (l12_7 : Nat) (c12_8 : Nat) (n13_10 : Int) (w : World) : Prop :=
  ∃ (n92_11 : Int) (s92_12 : ByteArray), cellsAt w ⟨g8_5, 0, none⟩ 0 [.int .u8 n92_11, .string s92_12] ∧ Calls Tryd.prog 17 #[.agg #[.int .u8 n92_11, .string s92_12]] w fun en w14 =>
  (∃ (b93_13 : Bool), en = .returned (.bool b93_13) ∧ (bif b93_13 then (Calls Tryd.prog 7 #[] w14 fun en w17 =>
  (∃ (b94_16 : Bool), en = .returned (.bool b94_16) ∧ R (.returned (.bool b94_16)) w17)
  ∨ ∃ ch18, en = .panicked ch18 ∧ R (.panicked ch18) w17) else ((IntKind.wrap .i64 (((l0_1 : Nat) : Int) + 1)) ≠ (0 : Int) ∧ sbck (0 : Int) (Int.tmod (IntKind.wrap .i64 n4_4) (IntKind.wrap .i64 (((l0_1 : Nat) : Int) + 1))) c0_2 true ∧ slW Tryd.prog (Builtin.append_ #[31, 31] 31 #[.slice none 0 0, .slice (slcA A0_3 c0_2 (Int.toNat (0 : Int)) 2) (Int.toNat (Int.tmod (IntKind.wrap .i64 n4_4) (IntKind.wrap .i64 (((l0_1 : Nat) : Int) + 1))) - Int.toNat (0 : Int)) (c0_2 - Int.toNat (0 : Int))]) w14 fun A104_20 l104_21 c104_22 w19 =>
  ∃ (n106_23 : Int) (s106_24 : ByteArray), cellsAt (World.drew w19) ⟨g8_5, 0, none⟩ 0 [.int .u8 n106_23, .string s106_24] ∧ sbck (Int.tmod (IntKind.wrap .i64 n4_4) (IntKind.wrap .i64 (((l0_1 : Nat) : Int) + 1))) ((l0_1 : Nat) : Int) c0_2 false ∧ bslW Tryd.prog 1 (Instr.buildSlice 31 1 #[(0, .agg #[.int .u8 n106_23, .string s106_24])]) (World.drew w19) fun g107_25 w26 =>
  slW Tryd.prog (Builtin.append_ #[31, 31] 31 #[.slice A104_20 l104_21 c104_22, .slice (some ⟨g107_25, 0, none⟩) 1 1]) w26 fun A108_28 l108_29 c108_30 w27 =>
  slW Tryd.prog (Builtin.append_ #[31, 31] 31 #[.slice A108_28 l108_29 c108_30, .slice (slcA A0_3 c0_2 (Int.toNat (Int.tmod (IntKind.wrap .i64 n4_4) (IntKind.wrap .i64 (((l0_1 : Nat) : Int) + 1)))) 2) (Int.toNat ((l0_1 : Nat) : Int) - Int.toNat (Int.tmod (IntKind.wrap .i64 n4_4) (IntKind.wrap .i64 (((l0_1 : Nat) : Int) + 1)))) (c0_2 - Int.toNat (Int.tmod (IntKind.wrap .i64 n4_4) (IntKind.wrap .i64 (((l0_1 : Nat) : Int) + 1))))]) w27 fun A112_32 l112_33 c112_34 w31 =>
  Calls Tryd.prog 13 #[.slice A112_32 l112_33 c112_34] w31 fun en w45 =>
  (∃ (b115_35 : Bool) (n115_36 : Int) (b115_37 : Bool) (n115_38 : Int) (b115_39 : Bool) (n115_40 : Int) (A115_41 : Option Addr) (l115_42 : Nat) (c115_43 : Nat) (n115_44 : Int), en = .returned (.tuple #[.agg #[.bool b115_35, .int .u32 n115_36, .bool b115_37, .int .u32 n115_38, .bool b115_39, .int .u32 n115_40], .slice A115_41 l115_42 c115_43, .int .i64 n115_44]) ∧ newW Tryd.prog (Instr.alloc 30 true (.tuple #[])) w45 fun g23_47 w48 =>
  stW Tryd.prog 30 ⟨g23_47, 0, none⟩ (.agg #[.bool b115_35, .int .u32 n115_36, .bool b115_37, .int .u32 n115_38, .bool b115_39, .int .u32 n115_40]) w48 fun w49 =>
  ∃ (b119_50 : Bool) (n119_51 : Int) (b119_52 : Bool) (n119_53 : Int) (b119_54 : Bool) (n119_55 : Int), cellsAt w49 ⟨g11_6, 0, none⟩ 0 [.bool b119_50, .int .u32 n119_51, .bool b119_52, .int .u32 n119_53, .bool b119_54, .int .u32 n119_55] ∧ ∃ (b120_56 : Bool) (n120_57 : Int) (b120_58 : Bool) (n120_59 : Int) (b120_60 : Bool) (n120_61 : Int), cellsAt w49 ⟨g23_47, 0, none⟩ 0 [.bool b120_56, .int .u32 n120_57, .bool b120_58, .int .u32 n120_59, .bool b120_60, .int .u32 n120_61] ∧ (bif ((b119_50 == b120_56) && ((n119_51 == n120_57) && ((b119_52 == b120_58) && ((n119_53 == n120_59) && ((b119_54 == b120_60) && ((n119_55 == n120_61) && true)))))) then ((bif (n13_10 == n115_44) then ((bif (n13_10 != 0) then (Calls Tryd.prog 7 #[] w49 fun en w63 =>
  (∃ (b140_62 : Bool), en = .returned (.bool b140_62) ∧ R (.returned (.bool b140_62)) w63)
  ∨ ∃ ch64, en = .panicked ch64 ∧ R (.panicked ch64) w63) else ((bif (((l115_42 : Nat) : Int) == (IntKind.wrap .i64 (((l12_7 : Nat) : Int) + 1))) then (Calls Tryd.prog 7 #[] w49 fun en w66 =>
  (∃ (b140_65 : Bool), en = .returned (.bool b140_65) ∧ R (.returned (.bool b140_65)) w66)
  ∨ ∃ ch67, en = .panicked ch67 ∧ R (.panicked ch67) w66) else (R (.returned (.bool false)) w49))))) else (R (.returned (.bool false)) w49))) else (R (.returned (.bool false)) w49)))
  ∨ ∃ ch46, en = .panicked ch46 ∧ R (.panicked ch46) w45)))
  ∨ ∃ ch15, en = .panicked ch15 ∧ R (.panicked ch15) w14
theorem p13_eq (R : Ending → World → Prop) (A0_3 : Option Addr) (l0_1 : Nat) (c0_2 : Nat) (n4_4 : Int) (g8_5 : Nat) (g11_6 : Nat) (A12_9 : Option Addr) (l12_7 : Nat) (c12_8 : Nat) (n13_10 : Int) (w : World) : p13 R A0_3 l0_1 c0_2 n4_4 g8_5 g11_6 A12_9 l12_7 c12_8 n13_10 w = pieceF Tryd.prog Tryd.f6 R stops 3000 (cfg Tryd.f6 13) [(0, .slice A0_3 l0_1 c0_2), (4, .int .u8 n4_4), (8, .pointer (some ⟨g8_5, 0, none⟩)), (11, .pointer (some ⟨g11_6, 0, none⟩)), (12, .slice A12_9 l12_7 c12_8), (13, .int .i64 n13_10)] w := by kernel_rfl
theorem p13_ok {R : Ending → World → Prop} {A0_3 : Option Addr} {l0_1 : Nat} {c0_2 : Nat} {n4_4 : Int} {g8_5 : Nat} {g11_6 : Nat} {A12_9 : Option Addr} {l12_7 : Nat} {c12_8 : Nat} {n13_10 : Int} {w : World} (h : p13 R A0_3 l0_1 c0_2 n4_4 g8_5 g11_6 A12_9 l12_7 c12_8 n13_10 w) : SK Tryd.prog Tryd.f6 R (cfg Tryd.f6 13) [(0, .slice A0_3 l0_1 c0_2), (4, .int .u8 n4_4), (8, .pointer (some ⟨g8_5, 0, none⟩)), (11, .pointer (some ⟨g11_6, 0, none⟩)), (12, .slice A12_9 l12_7 c12_8), (13, .int .i64 n13_10)] w := piece_sound mixed (Eq.mp (p13_eq R A0_3 l0_1 c0_2 n4_4 g8_5 g11_6 A12_9 l12_7 c12_8 n13_10 w) h)
end F6

/-! ### 7: halyard/halyardlaw10.alive -/
namespace F7
def stops : Stops := []
def main (R : Ending → World → Prop)  (w : World) : Prop :=
  Calls Tryd.prog 8 #[.string ({ data := #[49, 48, 46, 48, 46, 48, 46, 49] })] w fun en w3 =>
  (∃ (n12_1 : Int) (n12_2 : Int), en = .returned (.tuple #[.int .u32 n12_1, .int .i64 n12_2]) ∧ Calls Tryd.prog 8 #[.string ({ data := #[49, 48, 46, 48, 46, 48, 46, 50, 53, 54] })] w3 fun en w7 =>
  (∃ (n16_5 : Int) (n16_6 : Int), en = .returned (.tuple #[.int .u32 n16_5, .int .i64 n16_6]) ∧ Calls Tryd.prog 8 #[.string ({ data := #[49, 48, 46, 48, 46, 48, 46, 48, 49] })] w7 fun en w11 =>
  (∃ (n20_9 : Int) (n20_10 : Int), en = .returned (.tuple #[.int .u32 n20_9, .int .i64 n20_10]) ∧ Calls Tryd.prog 12 #[.agg #[.bool true, .int .u32 167772161, .bool false, .int .u32 0, .bool false, .int .u32 0]] w11 fun en w17 =>
  (∃ (A25_13 : Option Addr) (l25_14 : Nat) (c25_15 : Nat) (n25_16 : Int), en = .returned (.tuple #[.slice A25_13 l25_14 c25_15, .int .i64 n25_16]) ∧ Calls Tryd.prog 12 #[.agg #[.bool false, .int .u32 1, .bool false, .int .u32 0, .bool false, .int .u32 0]] w17 fun en w23 =>
  (∃ (A30_19 : Option Addr) (l30_20 : Nat) (c30_21 : Nat) (n30_22 : Int), en = .returned (.tuple #[.slice A30_19 l30_20 c30_21, .int .i64 n30_22]) ∧ Calls Tryd.prog 10 #[.int .u32 167772161] w23 fun en w26 =>
  (∃ (s33_25 : ByteArray), en = .returned (.string s33_25) ∧ (bif (s33_25 == { data := #[49, 48, 46, 48, 46, 48, 46, 49] }) then ((bif (n12_1 == 167772161) then ((bif (n12_2 == 0) then ((bif (n16_6 == 7) then ((bif (n20_10 == 7) then (bslW Tryd.prog 1 (Instr.buildSlice 31 1 #[(0, .agg #[.int .u8 3, .string ({ data := #[10, 0, 0, 1] })])]) w26 fun g54_28 w29 =>
  Calls Tryd.prog 16 #[.slice A25_13 l25_14 c25_15, .slice (some ⟨g54_28, 0, none⟩) 1 1] w29 fun en w31 =>
  (∃ (b55_30 : Bool), en = .returned (.bool b55_30) ∧ (bif b55_30 then ((bif (n25_16 == 0) then (R (.returned (.bool (n30_22 == 2))) w31) else (R (.returned (.bool false)) w31))) else (R (.returned (.bool false)) w31)))
  ∨ ∃ ch32, en = .panicked ch32 ∧ R (.panicked ch32) w31) else (R (.returned (.bool false)) w26))) else (R (.returned (.bool false)) w26))) else (R (.returned (.bool false)) w26))) else (R (.returned (.bool false)) w26))) else (R (.returned (.bool false)) w26)))
  ∨ ∃ ch27, en = .panicked ch27 ∧ R (.panicked ch27) w26)
  ∨ ∃ ch24, en = .panicked ch24 ∧ R (.panicked ch24) w23)
  ∨ ∃ ch18, en = .panicked ch18 ∧ R (.panicked ch18) w17)
  ∨ ∃ ch12, en = .panicked ch12 ∧ R (.panicked ch12) w11)
  ∨ ∃ ch8, en = .panicked ch8 ∧ R (.panicked ch8) w7)
  ∨ ∃ ch4, en = .panicked ch4 ∧ R (.panicked ch4) w3
theorem main_eq (R : Ending → World → Prop)  (w : World) : main R  w = mainF Tryd.prog Tryd.f7 R stops 3000 [] w := by kernel_rfl
theorem calls {R : Ending → World → Prop}  {w : World} (h : main R  w) : Calls Tryd.prog 7 #[] w R := main_sound Tryd.func7 mixed (Eq.mp (main_eq R  w) h)
end F7

/-! ### 8: halyard/ipcpopt.Read -/
namespace F8
def stops : Stops := [(4, [2, 4, 5, 10])]
def main (R : Ending → World → Prop) (sp0_1 : ByteArray) (w : World) : Prop :=
  newW Tryd.prog (Instr.box 9 (.string sp0_1)) w fun g1_2 w3 =>
  ∃ (s9_4 : ByteArray), w3.cell? ⟨g1_2, 0, none⟩ = some (.string s9_4) ∧ SK Tryd.prog Tryd.f8 R (cfg Tryd.f8 4) [(2, .int .u32 0), (4, .func (Go.Fn.func 21) #[] #[.pointer (some ⟨g1_2, 0, none⟩)]), (5, .string s9_4), (10, .int .i64 0)] w3
theorem main_eq (R : Ending → World → Prop) (sp0_1 : ByteArray) (w : World) : main R sp0_1 w = mainF Tryd.prog Tryd.f8 R stops 3000 [.string sp0_1] w := by kernel_rfl
theorem calls {R : Ending → World → Prop} {sp0_1 : ByteArray} {w : World} (h : main R sp0_1 w) : Calls Tryd.prog 8 #[.string sp0_1] w R := main_sound Tryd.func8 mixed (Eq.mp (main_eq R sp0_1 w) h)
def p4 (R : Ending → World → Prop) (n2_1 : Int) (g4_2 : Nat) (s5_3 : ByteArray) (n10_4 : Int) (w : World) : Prop :=
  (bif (decide (n10_4 < 4)) then (callV Tryd.prog (.func (Go.Fn.func 21) #[] #[.pointer (some ⟨g4_2, 0, none⟩)]) #[] fun f8 xs9 =>
  Calls Tryd.prog f8 xs9 w fun en w6 =>
  (∃ (s14_5 : ByteArray), en = .returned (.string s14_5) ∧ Calls Tryd.prog 23 #[.string s14_5, .int .i64 10, .int .i64 8] w6 fun en w12 =>
  (∃ (n15_10 : Int) (v15_11 : Value), en = .returned (.tuple #[.int .u64 n15_10, v15_11]) ∧ (0 : Int) ≤ 8 ∧ SK Tryd.prog Tryd.f8 R (cfg Tryd.f8 4) [(2, .int .u32 (IntKind.wrap .u32 ((BitVec.ofInt (IntKind.bits .u32) (IntKind.wrap .u32 (n2_1 * (2 ^ (min (Int.toNat 8) (IntKind.bits .u32)) : Int))) ||| BitVec.ofInt (IntKind.bits .u32) (IntKind.wrap .u32 n15_10)).toNat : Int))), (4, .func (Go.Fn.func 21) #[] #[.pointer (some ⟨g4_2, 0, none⟩)]), (5, .string s5_3), (10, .int .i64 (IntKind.wrap .i64 (n10_4 + 1)))] w12)
  ∨ ∃ ch13, en = .panicked ch13 ∧ R (.panicked ch13) w12)
  ∨ ∃ ch7, en = .panicked ch7 ∧ R (.panicked ch7) w6) else (Calls Tryd.prog 10 #[.int .u32 n2_1] w fun en w15 =>
  (∃ (s25_14 : ByteArray), en = .returned (.string s25_14) ∧ (bif (!(s25_14 == s5_3)) then (R (.returned (.tuple #[.int .u32 0, .int .i64 7])) w15) else (R (.returned (.tuple #[.int .u32 n2_1, .int .i64 0])) w15)))
  ∨ ∃ ch16, en = .panicked ch16 ∧ R (.panicked ch16) w15))
theorem p4_eq (R : Ending → World → Prop) (n2_1 : Int) (g4_2 : Nat) (s5_3 : ByteArray) (n10_4 : Int) (w : World) : p4 R n2_1 g4_2 s5_3 n10_4 w = pieceF Tryd.prog Tryd.f8 R stops 3000 (cfg Tryd.f8 4) [(2, .int .u32 n2_1), (4, .func (Go.Fn.func 21) #[] #[.pointer (some ⟨g4_2, 0, none⟩)]), (5, .string s5_3), (10, .int .i64 n10_4)] w := by kernel_rfl
theorem p4_ok {R : Ending → World → Prop} {n2_1 : Int} {g4_2 : Nat} {s5_3 : ByteArray} {n10_4 : Int} {w : World} (h : p4 R n2_1 g4_2 s5_3 n10_4 w) : SK Tryd.prog Tryd.f8 R (cfg Tryd.f8 4) [(2, .int .u32 n2_1), (4, .func (Go.Fn.func 21) #[] #[.pointer (some ⟨g4_2, 0, none⟩)]), (5, .string s5_3), (10, .int .i64 n10_4)] w := piece_sound mixed (Eq.mp (p4_eq R n2_1 g4_2 s5_3 n10_4 w) h)
end F8

/-! ### 9: halyard/halyardref10.Read -/
namespace F9
def stops : Stops := [(5, [0, 4, 5, 6])]
def main (R : Ending → World → Prop) (sp0_1 : ByteArray) (w : World) : Prop :=
  (bif (decide (((ByteArray.size sp0_1 : Nat) : Int) > 15)) then (R (.returned (.tuple #[.int .u32 0, .int .i64 7])) w) else (SK Tryd.prog Tryd.f9 R (cfg Tryd.f9 5) [(0, .string sp0_1), (4, .int .u32 0), (5, .int .u32 0), (6, .int .i64 0)] w))
theorem main_eq (R : Ending → World → Prop) (sp0_1 : ByteArray) (w : World) : main R sp0_1 w = mainF Tryd.prog Tryd.f9 R stops 3000 [.string sp0_1] w := by kernel_rfl
theorem calls {R : Ending → World → Prop} {sp0_1 : ByteArray} {w : World} (h : main R sp0_1 w) : Calls Tryd.prog 9 #[.string sp0_1] w R := main_sound Tryd.func9 mixed (Eq.mp (main_eq R sp0_1 w) h)
def p5 (R : Ending → World → Prop) (s0_1 : ByteArray) (n4_2 : Int) (n5_3 : Int) (n6_4 : Int) (w : World) : Prop :=
  (bif (decide (n6_4 < ((ByteArray.size s0_1 : Nat) : Int))) then (((0 : Int) ≤ n6_4 ∧ n6_4 < (ByteArray.size s0_1 : Int)) ∧ (bif ((btAt s0_1 n6_4) == 46) then ((0 : Int) ≤ 8 ∧ 256 ≠ (0 : Int) ∧ SK Tryd.prog Tryd.f9 R (cfg Tryd.f9 5) [(0, .string s0_1), (4, .int .u32 (IntKind.wrap .u32 ((BitVec.ofInt (IntKind.bits .u32) (IntKind.wrap .u32 (n4_2 * (2 ^ (min (Int.toNat 8) (IntKind.bits .u32)) : Int))) ||| BitVec.ofInt (IntKind.bits .u32) (Int.tmod n5_3 256)).toNat : Int))), (5, .int .u32 0), (6, .int .i64 (IntKind.wrap .i64 (n6_4 + 1)))] w) else (((0 : Int) ≤ n6_4 ∧ n6_4 < (ByteArray.size s0_1 : Int)) ∧ 64 ≠ (0 : Int) ∧ SK Tryd.prog Tryd.f9 R (cfg Tryd.f9 5) [(0, .string s0_1), (4, .int .u32 n4_2), (5, .int .u32 (IntKind.wrap .u32 ((IntKind.wrap .u32 ((IntKind.wrap .u32 (n5_3 * 10)) + (Int.tmod (IntKind.wrap .u32 (btAt s0_1 n6_4)) 64))) - 48))), (6, .int .i64 (IntKind.wrap .i64 (n6_4 + 1)))] w))) else ((0 : Int) ≤ 8 ∧ 256 ≠ (0 : Int) ∧ Calls Tryd.prog 11 #[.int .u32 (IntKind.wrap .u32 ((BitVec.ofInt (IntKind.bits .u32) (IntKind.wrap .u32 (n4_2 * (2 ^ (min (Int.toNat 8) (IntKind.bits .u32)) : Int))) ||| BitVec.ofInt (IntKind.bits .u32) (Int.tmod n5_3 256)).toNat : Int))] w fun en w6 =>
  (∃ (s40_5 : ByteArray), en = .returned (.string s40_5) ∧ (bif (!(s40_5 == s0_1)) then (R (.returned (.tuple #[.int .u32 0, .int .i64 7])) w6) else (R (.returned (.tuple #[.int .u32 (IntKind.wrap .u32 ((BitVec.ofInt (IntKind.bits .u32) (IntKind.wrap .u32 (n4_2 * (2 ^ (min (Int.toNat 8) (IntKind.bits .u32)) : Int))) ||| BitVec.ofInt (IntKind.bits .u32) (Int.tmod n5_3 256)).toNat : Int)), .int .i64 0])) w6)))
  ∨ ∃ ch7, en = .panicked ch7 ∧ R (.panicked ch7) w6))
theorem p5_eq (R : Ending → World → Prop) (s0_1 : ByteArray) (n4_2 : Int) (n5_3 : Int) (n6_4 : Int) (w : World) : p5 R s0_1 n4_2 n5_3 n6_4 w = pieceF Tryd.prog Tryd.f9 R stops 3000 (cfg Tryd.f9 5) [(0, .string s0_1), (4, .int .u32 n4_2), (5, .int .u32 n5_3), (6, .int .i64 n6_4)] w := by kernel_rfl
theorem p5_ok {R : Ending → World → Prop} {s0_1 : ByteArray} {n4_2 : Int} {n5_3 : Int} {n6_4 : Int} {w : World} (h : p5 R s0_1 n4_2 n5_3 n6_4 w) : SK Tryd.prog Tryd.f9 R (cfg Tryd.f9 5) [(0, .string s0_1), (4, .int .u32 n4_2), (5, .int .u32 n5_3), (6, .int .i64 n6_4)] w := piece_sound mixed (Eq.mp (p5_eq R s0_1 n4_2 n5_3 n6_4 w) h)
end F9

/-! ### 10: halyard/ipcpopt.Text -/
namespace F10
def stops : Stops := [(3, [3, 8, 9, 10])]
def main (R : Ending → World → Prop) (np0_1 : Int) (w : World) : Prop :=
  Calls Tryd.prog 24 #[.int .u32 np0_1] w fun en w3 =>
  (∃ (s7_2 : ByteArray), en = .returned (.string s7_2) ∧ mksW Tryd.prog (convert 9 57 (.string s7_2)) w3 fun g8_5 l8_6 c8_7 w8 =>
  SK Tryd.prog Tryd.f10 R (cfg Tryd.f10 3) [(3, .slice none 0 0), (8, .slice (some ⟨g8_5, 0, none⟩) l8_6 c8_7), (9, .int .i64 ((l8_6 : Nat) : Int)), (10, .int .i64 0)] w8)
  ∨ ∃ ch4, en = .panicked ch4 ∧ R (.panicked ch4) w3
theorem main_eq (R : Ending → World → Prop) (np0_1 : Int) (w : World) : main R np0_1 w = mainF Tryd.prog Tryd.f10 R stops 3000 [.int .u32 np0_1] w := by kernel_rfl
theorem calls {R : Ending → World → Prop} {np0_1 : Int} {w : World} (h : main R np0_1 w) : Calls Tryd.prog 10 #[.int .u32 np0_1] w R := main_sound Tryd.func10 mixed (Eq.mp (main_eq R np0_1 w) h)
def p3 (R : Ending → World → Prop) (A3_3 : Option Addr) (l3_1 : Nat) (c3_2 : Nat) (g8_6 : Nat) (l8_4 : Nat) (c8_5 : Nat) (n9_7 : Int) (n10_8 : Int) (w : World) : Prop :=
  (bif (decide (n10_8 < n9_7)) then (idxck (some ⟨g8_6, 0, none⟩) l8_4 n10_8 fun a9 =>
  ∃ (n13_10 : Int), w.cell? (a9.add (Int.toNat n10_8 * 1)) = some (.int .u8 n13_10) ∧ Calls Tryd.prog 25 #[.int .i64 (IntKind.wrap .i64 n13_10)] w fun en w12 =>
  (∃ (s17_11 : ByteArray), en = .returned (.string s17_11) ∧ bslW Tryd.prog 1 (Instr.buildSlice 56 1 #[(0, .string s17_11)]) w12 fun g18_14 w15 =>
  slW Tryd.prog (Builtin.append_ #[56, 56] 56 #[.slice A3_3 l3_1 c3_2, .slice (some ⟨g18_14, 0, none⟩) 1 1]) w15 fun A19_17 l19_18 c19_19 w16 =>
  SK Tryd.prog Tryd.f10 R (cfg Tryd.f10 3) [(3, .slice A19_17 l19_18 c19_19), (8, .slice (some ⟨g8_6, 0, none⟩) l8_4 c8_5), (9, .int .i64 n9_7), (10, .int .i64 (IntKind.wrap .i64 (n10_8 + 1)))] w16)
  ∨ ∃ ch13, en = .panicked ch13 ∧ R (.panicked ch13) w12) else (Calls Tryd.prog 26 #[.slice A3_3 l3_1 c3_2, .string ({ data := #[46] })] w fun en w21 =>
  (∃ (s22_20 : ByteArray), en = .returned (.string s22_20) ∧ R (.returned (.string s22_20)) w21)
  ∨ ∃ ch22, en = .panicked ch22 ∧ R (.panicked ch22) w21))
theorem p3_eq (R : Ending → World → Prop) (A3_3 : Option Addr) (l3_1 : Nat) (c3_2 : Nat) (g8_6 : Nat) (l8_4 : Nat) (c8_5 : Nat) (n9_7 : Int) (n10_8 : Int) (w : World) : p3 R A3_3 l3_1 c3_2 g8_6 l8_4 c8_5 n9_7 n10_8 w = pieceF Tryd.prog Tryd.f10 R stops 3000 (cfg Tryd.f10 3) [(3, .slice A3_3 l3_1 c3_2), (8, .slice (some ⟨g8_6, 0, none⟩) l8_4 c8_5), (9, .int .i64 n9_7), (10, .int .i64 n10_8)] w := by kernel_rfl
theorem p3_ok {R : Ending → World → Prop} {A3_3 : Option Addr} {l3_1 : Nat} {c3_2 : Nat} {g8_6 : Nat} {l8_4 : Nat} {c8_5 : Nat} {n9_7 : Int} {n10_8 : Int} {w : World} (h : p3 R A3_3 l3_1 c3_2 g8_6 l8_4 c8_5 n9_7 n10_8 w) : SK Tryd.prog Tryd.f10 R (cfg Tryd.f10 3) [(3, .slice A3_3 l3_1 c3_2), (8, .slice (some ⟨g8_6, 0, none⟩) l8_4 c8_5), (9, .int .i64 n9_7), (10, .int .i64 n10_8)] w := piece_sound mixed (Eq.mp (p3_eq R A3_3 l3_1 c3_2 g8_6 l8_4 c8_5 n9_7 n10_8 w) h)
end F10

/-! ### 11: halyard/halyardref10.Text -/
namespace F11
def stops : Stops := [(3, [0, 3, 4])]
def main (R : Ending → World → Prop) (np0_1 : Int) (w : World) : Prop :=
  SK Tryd.prog Tryd.f11 R (cfg Tryd.f11 3) [(0, .int .u32 np0_1), (3, .string ({ data := #[] })), (4, .int .i64 3)] w
theorem main_eq (R : Ending → World → Prop) (np0_1 : Int) (w : World) : main R np0_1 w = mainF Tryd.prog Tryd.f11 R stops 3000 [.int .u32 np0_1] w := by kernel_rfl
theorem calls {R : Ending → World → Prop} {np0_1 : Int} {w : World} (h : main R np0_1 w) : Calls Tryd.prog 11 #[.int .u32 np0_1] w R := main_sound Tryd.func11 mixed (Eq.mp (main_eq R np0_1 w) h)
def p3 (R : Ending → World → Prop) (n0_1 : Int) (s3_2 : ByteArray) (n4_3 : Int) (w : World) : Prop :=
  (bif (decide (n4_3 ≥ 0)) then ((0 : Int) ≤ (IntKind.wrap .u64 (IntKind.wrap .i64 (8 * n4_3))) ∧ 256 ≠ (0 : Int) ∧ Calls Tryd.prog 25 #[.int .i64 (IntKind.wrap .i64 (Int.tmod (Int.fdiv n0_1 (2 ^ (min (Int.toNat (IntKind.wrap .u64 (IntKind.wrap .i64 (8 * n4_3)))) (IntKind.bits .u32)) : Int)) 256))] w fun en w5 =>
  (∃ (s17_4 : ByteArray), en = .returned (.string s17_4) ∧ (s3_2 : ByteArray).size + (s17_4 : ByteArray).size ≤ 9223372036854775807 ∧ (bif (decide (n4_3 > 0)) then (((s3_2 ++ s17_4) : ByteArray).size + ({ data := #[46] } : ByteArray).size ≤ 9223372036854775807 ∧ SK Tryd.prog Tryd.f11 R (cfg Tryd.f11 3) [(0, .int .u32 n0_1), (3, .string ((s3_2 ++ s17_4) ++ { data := #[46] })), (4, .int .i64 (IntKind.wrap .i64 (n4_3 - 1)))] w5) else (SK Tryd.prog Tryd.f11 R (cfg Tryd.f11 3) [(0, .int .u32 n0_1), (3, .string (s3_2 ++ s17_4)), (4, .int .i64 (IntKind.wrap .i64 (n4_3 - 1)))] w5)))
  ∨ ∃ ch6, en = .panicked ch6 ∧ R (.panicked ch6) w5) else (R (.returned (.string s3_2)) w))
theorem p3_eq (R : Ending → World → Prop) (n0_1 : Int) (s3_2 : ByteArray) (n4_3 : Int) (w : World) : p3 R n0_1 s3_2 n4_3 w = pieceF Tryd.prog Tryd.f11 R stops 3000 (cfg Tryd.f11 3) [(0, .int .u32 n0_1), (3, .string s3_2), (4, .int .i64 n4_3)] w := by kernel_rfl
theorem p3_ok {R : Ending → World → Prop} {n0_1 : Int} {s3_2 : ByteArray} {n4_3 : Int} {w : World} (h : p3 R n0_1 s3_2 n4_3 w) : SK Tryd.prog Tryd.f11 R (cfg Tryd.f11 3) [(0, .int .u32 n0_1), (3, .string s3_2), (4, .int .i64 n4_3)] w := piece_sound mixed (Eq.mp (p3_eq R n0_1 s3_2 n4_3 w) h)
end F11

/-! ### 12: halyard/ipcpopt.Put -/
namespace F12
def stops : Stops := [(2, [1, 2, 8, 9])]
def main (R : Ending → World → Prop) (bp0_1 : Bool) (np0_2 : Int) (bp0_3 : Bool) (np0_4 : Int) (bp0_5 : Bool) (np0_6 : Int) (w : World) : Prop :=
  newW Tryd.prog (Instr.box 30 (.agg #[.bool bp0_1, .int .u32 np0_2, .bool bp0_3, .int .u32 np0_4, .bool bp0_5, .int .u32 np0_6])) w fun g1_7 w8 =>
  ∃ (n8_9 : Int) (v8_10 : Value) (n8_11 : Int) (v8_12 : Value) (n8_13 : Int) (v8_14 : Value), cellsAt w8 ⟨0, 0, none⟩ 0 [.int .u8 n8_9, v8_10, .int .u8 n8_11, v8_12, .int .u8 n8_13, v8_14] ∧ SK Tryd.prog Tryd.f12 R (cfg Tryd.f12 2) [(1, .pointer (some ⟨g1_7, 0, none⟩)), (2, .slice none 0 0), (8, .agg #[.int .u8 n8_9, v8_10, .int .u8 n8_11, v8_12, .int .u8 n8_13, v8_14]), (9, .int .i64 0)] w8
theorem main_eq (R : Ending → World → Prop) (bp0_1 : Bool) (np0_2 : Int) (bp0_3 : Bool) (np0_4 : Int) (bp0_5 : Bool) (np0_6 : Int) (w : World) : main R bp0_1 np0_2 bp0_3 np0_4 bp0_5 np0_6 w = mainF Tryd.prog Tryd.f12 R stops 3000 [.agg #[.bool bp0_1, .int .u32 np0_2, .bool bp0_3, .int .u32 np0_4, .bool bp0_5, .int .u32 np0_6]] w := by kernel_rfl
theorem calls {R : Ending → World → Prop} {bp0_1 : Bool} {np0_2 : Int} {bp0_3 : Bool} {np0_4 : Int} {bp0_5 : Bool} {np0_6 : Int} {w : World} (h : main R bp0_1 np0_2 bp0_3 np0_4 bp0_5 np0_6 w) : Calls Tryd.prog 12 #[.agg #[.bool bp0_1, .int .u32 np0_2, .bool bp0_3, .int .u32 np0_4, .bool bp0_5, .int .u32 np0_6]] w R := main_sound Tryd.func12 mixed (Eq.mp (main_eq R bp0_1 np0_2 bp0_3 np0_4 bp0_5 np0_6 w) h)
def p2 (R : Ending → World → Prop) (g1_1 : Nat) (A2_4 : Option Addr) (l2_2 : Nat) (c2_3 : Nat) (n8_5 : Int) (v8_6 : Value) (n8_7 : Int) (v8_8 : Value) (n8_9 : Int) (v8_10 : Value) (n9_11 : Int) (w : World) : Prop :=
  (bif (decide (n9_11 < 3)) then (∃ (n11_12 : Int) (v11_13 : Value), (Instr.index 63 (.agg #[.int .u8 n8_5, v8_6, .int .u8 n8_7, v8_8, .int .u8 n8_9, v8_10]) (.int .i64 n9_11)).run Tryd.prog w = .ok (.agg #[.int .u8 n11_12, v11_13]) w ∧ newW Tryd.prog (Instr.alloc 62 true (.tuple #[])) w fun g5_14 w15 =>
  stW Tryd.prog 62 ⟨g5_14, 0, none⟩ (.agg #[.int .u8 n11_12, v11_13]) w15 fun w16 =>
  ∃ (v14_17 : Value), w16.cell? ⟨g5_14, 1, none⟩ = some v14_17 ∧ callV Tryd.prog v14_17 #[.pointer (some ⟨g1_1, 0, none⟩)] fun f22 xs23 =>
  Calls Tryd.prog f22 xs23 w16 fun en w20 =>
  (∃ (A15_18 : Option Addr) (A15_19 : Option Addr), en = .returned (.tuple #[.pointer A15_18, .pointer A15_19]) ∧ nilck A15_18 fun a24 =>
  ∃ (b21_25 : Bool), w20.cell? a24 = some (.bool b21_25) ∧ (bif b21_25 then (∃ (n24_26 : Int), (World.drew w20).cell? ⟨g5_14, 0, none⟩ = some (.int .u8 n24_26) ∧ nilck A15_19 fun a27 =>
  ∃ (n27_28 : Int), (World.drew w20).cell? a27 = some (.int .u32 n27_28) ∧ Calls Tryd.prog 24 #[.int .u32 n27_28] (World.drew w20) fun en w30 =>
  (∃ (s28_29 : ByteArray), en = .returned (.string s28_29) ∧ ((World.drew w20).cell? ⟨g5_14, 0, none⟩ = some (.int .u8 n24_26) → w30.cell? ⟨g5_14, 0, none⟩ = some (.int .u8 n24_26)) ∧ bslW Tryd.prog 1 (Instr.buildSlice 31 1 #[(0, .agg #[.int .u8 n24_26, .string s28_29])]) w30 fun g30_32 w33 =>
  slW Tryd.prog (Builtin.append_ #[31, 31] 31 #[.slice A2_4 l2_2 c2_3, .slice (some ⟨g30_32, 0, none⟩) 1 1]) w33 fun A31_35 l31_36 c31_37 w34 =>
  SK Tryd.prog Tryd.f12 R (cfg Tryd.f12 2) [(1, .pointer (some ⟨g1_1, 0, none⟩)), (2, .slice A31_35 l31_36 c31_37), (8, .agg #[.int .u8 n8_5, v8_6, .int .u8 n8_7, v8_8, .int .u8 n8_9, v8_10]), (9, .int .i64 (IntKind.wrap .i64 (n9_11 + 1)))] w34)
  ∨ ∃ ch31, en = .panicked ch31 ∧ R (.panicked ch31) w30) else (nilck A15_19 fun a38 =>
  ∃ (n35_39 : Int), w20.cell? a38 = some (.int .u32 n35_39) ∧ (bif (n35_39 != 0) then (R (.returned (.tuple #[.slice none 0 0, .int .i64 2])) w20) else (SK Tryd.prog Tryd.f12 R (cfg Tryd.f12 2) [(1, .pointer (some ⟨g1_1, 0, none⟩)), (2, .slice A2_4 l2_2 c2_3), (8, .agg #[.int .u8 n8_5, v8_6, .int .u8 n8_7, v8_8, .int .u8 n8_9, v8_10]), (9, .int .i64 (IntKind.wrap .i64 (n9_11 + 1)))] w20)))))
  ∨ ∃ ch21, en = .panicked ch21 ∧ R (.panicked ch21) w20) else (R (.returned (.tuple #[.slice A2_4 l2_2 c2_3, .int .i64 0])) w))
theorem p2_eq (R : Ending → World → Prop) (g1_1 : Nat) (A2_4 : Option Addr) (l2_2 : Nat) (c2_3 : Nat) (n8_5 : Int) (v8_6 : Value) (n8_7 : Int) (v8_8 : Value) (n8_9 : Int) (v8_10 : Value) (n9_11 : Int) (w : World) : p2 R g1_1 A2_4 l2_2 c2_3 n8_5 v8_6 n8_7 v8_8 n8_9 v8_10 n9_11 w = pieceF Tryd.prog Tryd.f12 R stops 3000 (cfg Tryd.f12 2) [(1, .pointer (some ⟨g1_1, 0, none⟩)), (2, .slice A2_4 l2_2 c2_3), (8, .agg #[.int .u8 n8_5, v8_6, .int .u8 n8_7, v8_8, .int .u8 n8_9, v8_10]), (9, .int .i64 n9_11)] w := by kernel_rfl
theorem p2_ok {R : Ending → World → Prop} {g1_1 : Nat} {A2_4 : Option Addr} {l2_2 : Nat} {c2_3 : Nat} {n8_5 : Int} {v8_6 : Value} {n8_7 : Int} {v8_8 : Value} {n8_9 : Int} {v8_10 : Value} {n9_11 : Int} {w : World} (h : p2 R g1_1 A2_4 l2_2 c2_3 n8_5 v8_6 n8_7 v8_8 n8_9 v8_10 n9_11 w) : SK Tryd.prog Tryd.f12 R (cfg Tryd.f12 2) [(1, .pointer (some ⟨g1_1, 0, none⟩)), (2, .slice A2_4 l2_2 c2_3), (8, .agg #[.int .u8 n8_5, v8_6, .int .u8 n8_7, v8_8, .int .u8 n8_9, v8_10]), (9, .int .i64 n9_11)] w := piece_sound mixed (Eq.mp (p2_eq R g1_1 A2_4 l2_2 c2_3 n8_5 v8_6 n8_7 v8_8 n8_9 v8_10 n9_11 w) h)
end F12

/-! ### 13: halyard/ipcpopt.Get -/
namespace F13
def stops : Stops := [(2, [2, 3, 12, 13, 14])]
def main (R : Ending → World → Prop) (Ap0_1 : Option Addr) (lp0_2 : Nat) (cp0_3 : Nat) (w : World) : Prop :=
  newW Tryd.prog (Instr.alloc 30 true (.tuple #[])) w fun g2_4 w5 =>
  SK Tryd.prog Tryd.f13 R (cfg Tryd.f13 2) [(2, .pointer (some ⟨g2_4, 0, none⟩)), (3, .slice none 0 0), (12, .slice Ap0_1 lp0_2 cp0_3), (13, .int .i64 ((lp0_2 : Nat) : Int)), (14, .int .i64 0)] w5
theorem main_eq (R : Ending → World → Prop) (Ap0_1 : Option Addr) (lp0_2 : Nat) (cp0_3 : Nat) (w : World) : main R Ap0_1 lp0_2 cp0_3 w = mainF Tryd.prog Tryd.f13 R stops 3000 [.slice Ap0_1 lp0_2 cp0_3] w := by kernel_rfl
theorem calls {R : Ending → World → Prop} {Ap0_1 : Option Addr} {lp0_2 : Nat} {cp0_3 : Nat} {w : World} (h : main R Ap0_1 lp0_2 cp0_3 w) : Calls Tryd.prog 13 #[.slice Ap0_1 lp0_2 cp0_3] w R := main_sound Tryd.func13 mixed (Eq.mp (main_eq R Ap0_1 lp0_2 cp0_3 w) h)
def p2 (R : Ending → World → Prop) (g2_1 : Nat) (A3_4 : Option Addr) (l3_2 : Nat) (c3_3 : Nat) (A12_7 : Option Addr) (l12_5 : Nat) (c12_6 : Nat) (n13_8 : Int) (n14_9 : Int) (w : World) : Prop :=
  (bif (decide (n14_9 < n13_8)) then (idxck A12_7 l12_5 n14_9 fun a10 =>
  ∃ (n17_11 : Int) (s17_12 : ByteArray), cellsAt w (a10.add (Int.toNat n14_9 * 2)) 0 [.int .u8 n17_11, .string s17_12] ∧ newW Tryd.prog (Instr.alloc 38 true (.tuple #[])) w fun g6_13 w14 =>
  stW Tryd.prog 38 ⟨g6_13, 0, none⟩ (.agg #[.int .u8 n17_11, .string s17_12]) w14 fun w15 =>
  ∃ (n19_16 : Int) (s19_17 : ByteArray), cellsAt w15 ⟨g6_13, 0, none⟩ 0 [.int .u8 n19_16, .string s19_17] ∧ Calls Tryd.prog 27 #[.agg #[.int .u8 n19_16, .string s19_17]] w15 fun en w22 =>
  (∃ (n20_18 : Int) (v20_19 : Value) (n20_20 : Int) (b20_21 : Bool), en = .returned (.tuple #[.agg #[.int .u8 n20_18, v20_19], .int .u32 n20_20, .bool b20_21]) ∧ newW Tryd.prog (Instr.alloc 62 true (.tuple #[])) w22 fun g7_24 w25 =>
  stW Tryd.prog 62 ⟨g7_24, 0, none⟩ (.agg #[.int .u8 n20_18, v20_19]) w25 fun w26 =>
  (bif (!b20_21) then (∃ (n27_27 : Int) (s27_28 : ByteArray), cellsAt w26 ⟨g6_13, 0, none⟩ 0 [.int .u8 n27_27, .string s27_28] ∧ bslW Tryd.prog 1 (Instr.buildSlice 31 1 #[(0, .agg #[.int .u8 n27_27, .string s27_28])]) w26 fun g28_29 w30 =>
  slW Tryd.prog (Builtin.append_ #[31, 31] 31 #[.slice A3_4 l3_2 c3_3, .slice (some ⟨g28_29, 0, none⟩) 1 1]) w30 fun A29_32 l29_33 c29_34 w31 =>
  SK Tryd.prog Tryd.f13 R (cfg Tryd.f13 2) [(2, .pointer (some ⟨g2_1, 0, none⟩)), (3, .slice A29_32 l29_33 c29_34), (12, .slice A12_7 l12_5 c12_6), (13, .int .i64 n13_8), (14, .int .i64 (IntKind.wrap .i64 (n14_9 + 1)))] w31) else (∃ (v32_35 : Value), w26.cell? ⟨g7_24, 1, none⟩ = some v32_35 ∧ callV Tryd.prog v32_35 #[.pointer (some ⟨g2_1, 0, none⟩)] fun f40 xs41 =>
  Calls Tryd.prog f40 xs41 w26 fun en w38 =>
  (∃ (A33_36 : Option Addr) (A33_37 : Option Addr), en = .returned (.tuple #[.pointer A33_36, .pointer A33_37]) ∧ nilck A33_36 fun a42 =>
  ∃ (b38_43 : Bool), w38.cell? a42 = some (.bool b38_43) ∧ (bif b38_43 then (stW Tryd.prog 30 ⟨g2_1, 0, none⟩ (.agg #[.bool false, .int .u32 0, .bool false, .int .u32 0, .bool false, .int .u32 0]) w38 fun w44 =>
  ∃ (b2_45 : Bool) (n2_46 : Int) (b2_47 : Bool) (n2_48 : Int) (b2_49 : Bool) (n2_50 : Int), cellsAt w44 ⟨g2_1, 0, none⟩ 0 [.bool b2_45, .int .u32 n2_46, .bool b2_47, .int .u32 n2_48, .bool b2_49, .int .u32 n2_50] ∧ R (.returned (.tuple #[.agg #[.bool b2_45, .int .u32 n2_46, .bool b2_47, .int .u32 n2_48, .bool b2_49, .int .u32 n2_50], .slice none 0 0, .int .i64 9])) w44) else (nilck A33_36 fun a51 =>
  stW Tryd.prog 4 a51 (.bool true) w38 fun w52 =>
  nilck A33_37 fun a53 =>
  stW Tryd.prog 22 a53 (.int .u32 n20_20) w52 fun w54 =>
  SK Tryd.prog Tryd.f13 R (cfg Tryd.f13 2) [(2, .pointer (some ⟨g2_1, 0, none⟩)), (3, .slice A3_4 l3_2 c3_3), (12, .slice A12_7 l12_5 c12_6), (13, .int .i64 n13_8), (14, .int .i64 (IntKind.wrap .i64 (n14_9 + 1)))] w54)))
  ∨ ∃ ch39, en = .panicked ch39 ∧ R (.panicked ch39) w38)))
  ∨ ∃ ch23, en = .panicked ch23 ∧ R (.panicked ch23) w22) else (∃ (b46_55 : Bool) (n46_56 : Int) (b46_57 : Bool) (n46_58 : Int) (b46_59 : Bool) (n46_60 : Int), cellsAt w ⟨g2_1, 0, none⟩ 0 [.bool b46_55, .int .u32 n46_56, .bool b46_57, .int .u32 n46_58, .bool b46_59, .int .u32 n46_60] ∧ stW Tryd.prog 30 ⟨g2_1, 0, none⟩ (.agg #[.bool b46_55, .int .u32 n46_56, .bool b46_57, .int .u32 n46_58, .bool b46_59, .int .u32 n46_60]) w fun w61 =>
  ∃ (b2_62 : Bool) (n2_63 : Int) (b2_64 : Bool) (n2_65 : Int) (b2_66 : Bool) (n2_67 : Int), cellsAt w61 ⟨g2_1, 0, none⟩ 0 [.bool b2_62, .int .u32 n2_63, .bool b2_64, .int .u32 n2_65, .bool b2_66, .int .u32 n2_67] ∧ R (.returned (.tuple #[.agg #[.bool b2_62, .int .u32 n2_63, .bool b2_64, .int .u32 n2_65, .bool b2_66, .int .u32 n2_67], .slice A3_4 l3_2 c3_3, .int .i64 0])) w61))
theorem p2_eq (R : Ending → World → Prop) (g2_1 : Nat) (A3_4 : Option Addr) (l3_2 : Nat) (c3_3 : Nat) (A12_7 : Option Addr) (l12_5 : Nat) (c12_6 : Nat) (n13_8 : Int) (n14_9 : Int) (w : World) : p2 R g2_1 A3_4 l3_2 c3_3 A12_7 l12_5 c12_6 n13_8 n14_9 w = pieceF Tryd.prog Tryd.f13 R stops 3000 (cfg Tryd.f13 2) [(2, .pointer (some ⟨g2_1, 0, none⟩)), (3, .slice A3_4 l3_2 c3_3), (12, .slice A12_7 l12_5 c12_6), (13, .int .i64 n13_8), (14, .int .i64 n14_9)] w := by kernel_rfl
theorem p2_ok {R : Ending → World → Prop} {g2_1 : Nat} {A3_4 : Option Addr} {l3_2 : Nat} {c3_3 : Nat} {A12_7 : Option Addr} {l12_5 : Nat} {c12_6 : Nat} {n13_8 : Int} {n14_9 : Int} {w : World} (h : p2 R g2_1 A3_4 l3_2 c3_3 A12_7 l12_5 c12_6 n13_8 n14_9 w) : SK Tryd.prog Tryd.f13 R (cfg Tryd.f13 2) [(2, .pointer (some ⟨g2_1, 0, none⟩)), (3, .slice A3_4 l3_2 c3_3), (12, .slice A12_7 l12_5 c12_6), (13, .int .i64 n13_8), (14, .int .i64 n14_9)] w := piece_sound mixed (Eq.mp (p2_eq R g2_1 A3_4 l3_2 c3_3 A12_7 l12_5 c12_6 n13_8 n14_9 w) h)
end F13

/-! ### 14: halyard/halyardlaw08.Long -/
namespace F14
def stops : Stops := [(3, [0, 3, 4]), (6, [0, 3])]
def main (R : Ending → World → Prop) (Ap0_1 : Option Addr) (lp0_2 : Nat) (cp0_3 : Nat) (w : World) : Prop :=
  SK Tryd.prog Tryd.f14 R (cfg Tryd.f14 3) [(0, .slice Ap0_1 lp0_2 cp0_3), (3, .int .i64 0), (4, .int .i64 0)] w
theorem main_eq (R : Ending → World → Prop) (Ap0_1 : Option Addr) (lp0_2 : Nat) (cp0_3 : Nat) (w : World) : main R Ap0_1 lp0_2 cp0_3 w = mainF Tryd.prog Tryd.f14 R stops 3000 [.slice Ap0_1 lp0_2 cp0_3] w := by kernel_rfl
theorem calls {R : Ending → World → Prop} {Ap0_1 : Option Addr} {lp0_2 : Nat} {cp0_3 : Nat} {w : World} (h : main R Ap0_1 lp0_2 cp0_3 w) : Calls Tryd.prog 14 #[.slice Ap0_1 lp0_2 cp0_3] w R := main_sound Tryd.func14 mixed (Eq.mp (main_eq R Ap0_1 lp0_2 cp0_3 w) h)
def p3 (R : Ending → World → Prop) (A0_3 : Option Addr) (l0_1 : Nat) (c0_2 : Nat) (n3_4 : Int) (n4_5 : Int) (w : World) : Prop :=
  (bif (decide (n4_5 < ((l0_1 : Nat) : Int))) then ((bif (decide (n4_5 < 80)) then (idxck A0_3 l0_1 n4_5 fun a6 =>
  ∃ (s20_7 : ByteArray), w.cell? ((a6.add (Int.toNat n4_5 * 2)).add 1) = some (.string s20_7) ∧ SK Tryd.prog Tryd.f14 R (cfg Tryd.f14 3) [(0, .slice A0_3 l0_1 c0_2), (3, .int .i64 (IntKind.wrap .i64 (n3_4 + ((ByteArray.size s20_7 : Nat) : Int)))), (4, .int .i64 (IntKind.wrap .i64 (n4_5 + 1)))] w) else (SK Tryd.prog Tryd.f14 R (cfg Tryd.f14 6) [(0, .slice A0_3 l0_1 c0_2), (3, .int .i64 n3_4)] w))) else (SK Tryd.prog Tryd.f14 R (cfg Tryd.f14 6) [(0, .slice A0_3 l0_1 c0_2), (3, .int .i64 n3_4)] w))
theorem p3_eq (R : Ending → World → Prop) (A0_3 : Option Addr) (l0_1 : Nat) (c0_2 : Nat) (n3_4 : Int) (n4_5 : Int) (w : World) : p3 R A0_3 l0_1 c0_2 n3_4 n4_5 w = pieceF Tryd.prog Tryd.f14 R stops 3000 (cfg Tryd.f14 3) [(0, .slice A0_3 l0_1 c0_2), (3, .int .i64 n3_4), (4, .int .i64 n4_5)] w := by kernel_rfl
theorem p3_ok {R : Ending → World → Prop} {A0_3 : Option Addr} {l0_1 : Nat} {c0_2 : Nat} {n3_4 : Int} {n4_5 : Int} {w : World} (h : p3 R A0_3 l0_1 c0_2 n3_4 n4_5 w) : SK Tryd.prog Tryd.f14 R (cfg Tryd.f14 3) [(0, .slice A0_3 l0_1 c0_2), (3, .int .i64 n3_4), (4, .int .i64 n4_5)] w := piece_sound mixed (Eq.mp (p3_eq R A0_3 l0_1 c0_2 n3_4 n4_5 w) h)
def p6 (R : Ending → World → Prop) (A0_3 : Option Addr) (l0_1 : Nat) (c0_2 : Nat) (n3_4 : Int) (w : World) : Prop :=
  (bif (decide (((l0_1 : Nat) : Int) > 70)) then (R (.returned (.bool true)) w) else (R (.returned (.bool (decide (n3_4 > 4096)))) w))
theorem p6_eq (R : Ending → World → Prop) (A0_3 : Option Addr) (l0_1 : Nat) (c0_2 : Nat) (n3_4 : Int) (w : World) : p6 R A0_3 l0_1 c0_2 n3_4 w = pieceF Tryd.prog Tryd.f14 R stops 3000 (cfg Tryd.f14 6) [(0, .slice A0_3 l0_1 c0_2), (3, .int .i64 n3_4)] w := by kernel_rfl
theorem p6_ok {R : Ending → World → Prop} {A0_3 : Option Addr} {l0_1 : Nat} {c0_2 : Nat} {n3_4 : Int} {w : World} (h : p6 R A0_3 l0_1 c0_2 n3_4 w) : SK Tryd.prog Tryd.f14 R (cfg Tryd.f14 6) [(0, .slice A0_3 l0_1 c0_2), (3, .int .i64 n3_4)] w := piece_sound mixed (Eq.mp (p6_eq R A0_3 l0_1 c0_2 n3_4 w) h)
end F14

/-! ### 15: halyard/halyardref10.Get -/
namespace F15
def stops : Stops := [(4, [0, 2, 5, 6, 7]), (9, [0, 2, 5, 6, 7, 8])]
def main (R : Ending → World → Prop) (Ap0_1 : Option Addr) (lp0_2 : Nat) (cp0_3 : Nat) (w : World) : Prop :=
  newW Tryd.prog (Instr.alloc 30 true (.tuple #[])) w fun g2_4 w5 =>
  newW Tryd.prog (Instr.alloc 30 true (.tuple #[])) w5 fun g5_6 w7 =>
  stW Tryd.prog 30 ⟨g5_6, 0, none⟩ (.agg #[.bool false, .int .u32 0, .bool false, .int .u32 0, .bool false, .int .u32 0]) w7 fun w8 =>
  SK Tryd.prog Tryd.f15 R (cfg Tryd.f15 4) [(0, .slice Ap0_1 lp0_2 cp0_3), (2, .pointer (some ⟨g2_4, 0, none⟩)), (5, .pointer (some ⟨g5_6, 0, none⟩)), (6, .slice none 0 0), (7, .int .i64 0)] w8
theorem main_eq (R : Ending → World → Prop) (Ap0_1 : Option Addr) (lp0_2 : Nat) (cp0_3 : Nat) (w : World) : main R Ap0_1 lp0_2 cp0_3 w = mainF Tryd.prog Tryd.f15 R stops 3000 [.slice Ap0_1 lp0_2 cp0_3] w := by kernel_rfl
theorem calls {R : Ending → World → Prop} {Ap0_1 : Option Addr} {lp0_2 : Nat} {cp0_3 : Nat} {w : World} (h : main R Ap0_1 lp0_2 cp0_3 w) : Calls Tryd.prog 15 #[.slice Ap0_1 lp0_2 cp0_3] w R := main_sound Tryd.func15 mixed (Eq.mp (main_eq R Ap0_1 lp0_2 cp0_3 w) h)
def p4 (R : Ending → World → Prop) (A0_3 : Option Addr) (l0_1 : Nat) (c0_2 : Nat) (g2_4 : Nat) (g5_5 : Nat) (A6_8 : Option Addr) (l6_6 : Nat) (c6_7 : Nat) (n7_9 : Int) (w : World) : Prop :=
  (bif (decide (n7_9 < ((l0_1 : Nat) : Int))) then (idxck A0_3 l0_1 n7_9 fun a10 =>
  ∃ (n20_11 : Int) (s20_12 : ByteArray), cellsAt w (a10.add (Int.toNat n7_9 * 2)) 0 [.int .u8 n20_11, .string s20_12] ∧ Calls Tryd.prog 18 #[.agg #[.int .u8 n20_11, .string s20_12]] w fun en w14 =>
  (∃ (b21_13 : Bool), en = .returned (.bool b21_13) ∧ (bif (!b21_13) then (idxck A0_3 l0_1 n7_9 fun a16 =>
  ∃ (n27_17 : Int) (s27_18 : ByteArray), cellsAt w14 (a16.add (Int.toNat n7_9 * 2)) 0 [.int .u8 n27_17, .string s27_18] ∧ bslW Tryd.prog 1 (Instr.buildSlice 31 1 #[(0, .agg #[.int .u8 n27_17, .string s27_18])]) w14 fun g28_19 w20 =>
  slW Tryd.prog (Builtin.append_ #[31, 31] 31 #[.slice A6_8 l6_6 c6_7, .slice (some ⟨g28_19, 0, none⟩) 1 1]) w20 fun A29_22 l29_23 c29_24 w21 =>
  SK Tryd.prog Tryd.f15 R (cfg Tryd.f15 4) [(0, .slice A0_3 l0_1 c0_2), (2, .pointer (some ⟨g2_4, 0, none⟩)), (5, .pointer (some ⟨g5_5, 0, none⟩)), (6, .slice A29_22 l29_23 c29_24), (7, .int .i64 (IntKind.wrap .i64 (n7_9 + 1)))] w21) else (SK Tryd.prog Tryd.f15 R (cfg Tryd.f15 9) [(0, .slice A0_3 l0_1 c0_2), (2, .pointer (some ⟨g2_4, 0, none⟩)), (5, .pointer (some ⟨g5_5, 0, none⟩)), (6, .slice A6_8 l6_6 c6_7), (7, .int .i64 n7_9), (8, .int .i64 0)] w14)))
  ∨ ∃ ch15, en = .panicked ch15 ∧ R (.panicked ch15) w14) else (∃ (b78_25 : Bool) (n78_26 : Int) (b78_27 : Bool) (n78_28 : Int) (b78_29 : Bool) (n78_30 : Int), cellsAt w ⟨g5_5, 0, none⟩ 0 [.bool b78_25, .int .u32 n78_26, .bool b78_27, .int .u32 n78_28, .bool b78_29, .int .u32 n78_30] ∧ stW Tryd.prog 30 ⟨g2_4, 0, none⟩ (.agg #[.bool b78_25, .int .u32 n78_26, .bool b78_27, .int .u32 n78_28, .bool b78_29, .int .u32 n78_30]) w fun w31 =>
  ∃ (b2_32 : Bool) (n2_33 : Int) (b2_34 : Bool) (n2_35 : Int) (b2_36 : Bool) (n2_37 : Int), cellsAt w31 ⟨g2_4, 0, none⟩ 0 [.bool b2_32, .int .u32 n2_33, .bool b2_34, .int .u32 n2_35, .bool b2_36, .int .u32 n2_37] ∧ R (.returned (.tuple #[.agg #[.bool b2_32, .int .u32 n2_33, .bool b2_34, .int .u32 n2_35, .bool b2_36, .int .u32 n2_37], .slice A6_8 l6_6 c6_7, .int .i64 0])) w31))
theorem p4_eq (R : Ending → World → Prop) (A0_3 : Option Addr) (l0_1 : Nat) (c0_2 : Nat) (g2_4 : Nat) (g5_5 : Nat) (A6_8 : Option Addr) (l6_6 : Nat) (c6_7 : Nat) (n7_9 : Int) (w : World) : p4 R A0_3 l0_1 c0_2 g2_4 g5_5 A6_8 l6_6 c6_7 n7_9 w = pieceF Tryd.prog Tryd.f15 R stops 3000 (cfg Tryd.f15 4) [(0, .slice A0_3 l0_1 c0_2), (2, .pointer (some ⟨g2_4, 0, none⟩)), (5, .pointer (some ⟨g5_5, 0, none⟩)), (6, .slice A6_8 l6_6 c6_7), (7, .int .i64 n7_9)] w := by kernel_rfl
theorem p4_ok {R : Ending → World → Prop} {A0_3 : Option Addr} {l0_1 : Nat} {c0_2 : Nat} {g2_4 : Nat} {g5_5 : Nat} {A6_8 : Option Addr} {l6_6 : Nat} {c6_7 : Nat} {n7_9 : Int} {w : World} (h : p4 R A0_3 l0_1 c0_2 g2_4 g5_5 A6_8 l6_6 c6_7 n7_9 w) : SK Tryd.prog Tryd.f15 R (cfg Tryd.f15 4) [(0, .slice A0_3 l0_1 c0_2), (2, .pointer (some ⟨g2_4, 0, none⟩)), (5, .pointer (some ⟨g5_5, 0, none⟩)), (6, .slice A6_8 l6_6 c6_7), (7, .int .i64 n7_9)] w := piece_sound mixed (Eq.mp (p4_eq R A0_3 l0_1 c0_2 g2_4 g5_5 A6_8 l6_6 c6_7 n7_9 w) h)
def p9 (R : Ending → World → Prop) (A0_3 : Option Addr) (l0_1 : Nat) (c0_2 : Nat) (g2_4 : Nat) (g5_5 : Nat) (A6_8 : Option Addr) (l6_6 : Nat) (c6_7 : Nat) (n7_9 : Int) (n8_10 : Int) (w : World) : Prop :=
  (bif (decide (n8_10 < n7_9)) then (idxck A0_3 l0_1 n8_10 fun a11 =>
  ∃ (n38_12 : Int) (s38_13 : ByteArray), cellsAt (World.drew w) (a11.add (Int.toNat n8_10 * 2)) 0 [.int .u8 n38_12, .string s38_13] ∧ Calls Tryd.prog 18 #[.agg #[.int .u8 n38_12, .string s38_13]] (World.drew w) fun en w15 =>
  (∃ (b39_14 : Bool), en = .returned (.bool b39_14) ∧ (bif b39_14 then (idxck A0_3 l0_1 n8_10 fun a17 =>
  ∃ (n45_18 : Int), w15.cell? (a17.add (Int.toNat n8_10 * 2)) = some (.int .u8 n45_18) ∧ idxck A0_3 l0_1 n7_9 fun a19 =>
  ∃ (n50_20 : Int), w15.cell? (a19.add (Int.toNat n7_9 * 2)) = some (.int .u8 n50_20) ∧ (bif (n45_18 == n50_20) then (stW Tryd.prog 30 ⟨g2_4, 0, none⟩ (.agg #[.bool false, .int .u32 0, .bool false, .int .u32 0, .bool false, .int .u32 0]) w15 fun w21 =>
  ∃ (b2_22 : Bool) (n2_23 : Int) (b2_24 : Bool) (n2_25 : Int) (b2_26 : Bool) (n2_27 : Int), cellsAt w21 ⟨g2_4, 0, none⟩ 0 [.bool b2_22, .int .u32 n2_23, .bool b2_24, .int .u32 n2_25, .bool b2_26, .int .u32 n2_27] ∧ R (.returned (.tuple #[.agg #[.bool b2_22, .int .u32 n2_23, .bool b2_24, .int .u32 n2_25, .bool b2_26, .int .u32 n2_27], .slice none 0 0, .int .i64 9])) w21) else (SK Tryd.prog Tryd.f15 R (cfg Tryd.f15 9) [(0, .slice A0_3 l0_1 c0_2), (2, .pointer (some ⟨g2_4, 0, none⟩)), (5, .pointer (some ⟨g5_5, 0, none⟩)), (6, .slice A6_8 l6_6 c6_7), (7, .int .i64 n7_9), (8, .int .i64 (IntKind.wrap .i64 (n8_10 + 1)))] w15))) else (SK Tryd.prog Tryd.f15 R (cfg Tryd.f15 9) [(0, .slice A0_3 l0_1 c0_2), (2, .pointer (some ⟨g2_4, 0, none⟩)), (5, .pointer (some ⟨g5_5, 0, none⟩)), (6, .slice A6_8 l6_6 c6_7), (7, .int .i64 n7_9), (8, .int .i64 (IntKind.wrap .i64 (n8_10 + 1)))] w15)))
  ∨ ∃ ch16, en = .panicked ch16 ∧ R (.panicked ch16) w15) else (idxck A0_3 l0_1 n7_9 fun a28 =>
  ∃ (s58_29 : ByteArray), w.cell? ((a28.add (Int.toNat n7_9 * 2)).add 1) = some (.string s58_29) ∧ Calls Tryd.prog 28 #[.string s58_29] w fun en w31 =>
  (∃ (n59_30 : Int), en = .returned (.int .u32 n59_30) ∧ idxck A0_3 l0_1 n7_9 fun a33 =>
  ∃ (n64_34 : Int), w31.cell? (a33.add (Int.toNat n7_9 * 2)) = some (.int .u8 n64_34) ∧ (bif (n64_34 == 3) then (stW Tryd.prog 4 ⟨g5_5, 0, none⟩ (.bool true) w31 fun w35 =>
  stW Tryd.prog 22 ⟨g5_5, 1, none⟩ (.int .u32 n59_30) w35 fun w36 =>
  SK Tryd.prog Tryd.f15 R (cfg Tryd.f15 4) [(0, .slice A0_3 l0_1 c0_2), (2, .pointer (some ⟨g2_4, 0, none⟩)), (5, .pointer (some ⟨g5_5, 0, none⟩)), (6, .slice A6_8 l6_6 c6_7), (7, .int .i64 (IntKind.wrap .i64 (n7_9 + 1)))] w36) else ((bif (n64_34 == 129) then (stW Tryd.prog 4 ⟨g5_5, 2, none⟩ (.bool true) w31 fun w37 =>
  stW Tryd.prog 22 ⟨g5_5, 3, none⟩ (.int .u32 n59_30) w37 fun w38 =>
  SK Tryd.prog Tryd.f15 R (cfg Tryd.f15 4) [(0, .slice A0_3 l0_1 c0_2), (2, .pointer (some ⟨g2_4, 0, none⟩)), (5, .pointer (some ⟨g5_5, 0, none⟩)), (6, .slice A6_8 l6_6 c6_7), (7, .int .i64 (IntKind.wrap .i64 (n7_9 + 1)))] w38) else (stW Tryd.prog 4 ⟨g5_5, 4, none⟩ (.bool true) w31 fun w39 =>
  stW Tryd.prog 22 ⟨g5_5, 5, none⟩ (.int .u32 n59_30) w39 fun w40 =>
  SK Tryd.prog Tryd.f15 R (cfg Tryd.f15 4) [(0, .slice A0_3 l0_1 c0_2), (2, .pointer (some ⟨g2_4, 0, none⟩)), (5, .pointer (some ⟨g5_5, 0, none⟩)), (6, .slice A6_8 l6_6 c6_7), (7, .int .i64 (IntKind.wrap .i64 (n7_9 + 1)))] w40)))))
  ∨ ∃ ch32, en = .panicked ch32 ∧ R (.panicked ch32) w31))
theorem p9_eq (R : Ending → World → Prop) (A0_3 : Option Addr) (l0_1 : Nat) (c0_2 : Nat) (g2_4 : Nat) (g5_5 : Nat) (A6_8 : Option Addr) (l6_6 : Nat) (c6_7 : Nat) (n7_9 : Int) (n8_10 : Int) (w : World) : p9 R A0_3 l0_1 c0_2 g2_4 g5_5 A6_8 l6_6 c6_7 n7_9 n8_10 w = pieceF Tryd.prog Tryd.f15 R stops 3000 (cfg Tryd.f15 9) [(0, .slice A0_3 l0_1 c0_2), (2, .pointer (some ⟨g2_4, 0, none⟩)), (5, .pointer (some ⟨g5_5, 0, none⟩)), (6, .slice A6_8 l6_6 c6_7), (7, .int .i64 n7_9), (8, .int .i64 n8_10)] w := by kernel_rfl
theorem p9_ok {R : Ending → World → Prop} {A0_3 : Option Addr} {l0_1 : Nat} {c0_2 : Nat} {g2_4 : Nat} {g5_5 : Nat} {A6_8 : Option Addr} {l6_6 : Nat} {c6_7 : Nat} {n7_9 : Int} {n8_10 : Int} {w : World} (h : p9 R A0_3 l0_1 c0_2 g2_4 g5_5 A6_8 l6_6 c6_7 n7_9 n8_10 w) : SK Tryd.prog Tryd.f15 R (cfg Tryd.f15 9) [(0, .slice A0_3 l0_1 c0_2), (2, .pointer (some ⟨g2_4, 0, none⟩)), (5, .pointer (some ⟨g5_5, 0, none⟩)), (6, .slice A6_8 l6_6 c6_7), (7, .int .i64 n7_9), (8, .int .i64 n8_10)] w := piece_sound mixed (Eq.mp (p9_eq R A0_3 l0_1 c0_2 g2_4 g5_5 A6_8 l6_6 c6_7 n7_9 n8_10 w) h)
end F15

/-! ### 16: halyard/halyardref08.Same -/
namespace F16
def stops : Stops := [(4, [0, 1, 5])]
def main (R : Ending → World → Prop) (Ap0_1 : Option Addr) (lp0_2 : Nat) (cp0_3 : Nat) (Ap1_4 : Option Addr) (lp1_5 : Nat) (cp1_6 : Nat) (w : World) : Prop :=
  (bif (((lp0_2 : Nat) : Int) != ((lp1_5 : Nat) : Int)) then (R (.returned (.bool false)) w) else (SK Tryd.prog Tryd.f16 R (cfg Tryd.f16 4) [(0, .slice Ap0_1 lp0_2 cp0_3), (1, .slice Ap1_4 lp1_5 cp1_6), (5, .int .i64 0)] w))
theorem main_eq (R : Ending → World → Prop) (Ap0_1 : Option Addr) (lp0_2 : Nat) (cp0_3 : Nat) (Ap1_4 : Option Addr) (lp1_5 : Nat) (cp1_6 : Nat) (w : World) : main R Ap0_1 lp0_2 cp0_3 Ap1_4 lp1_5 cp1_6 w = mainF Tryd.prog Tryd.f16 R stops 3000 [.slice Ap0_1 lp0_2 cp0_3, .slice Ap1_4 lp1_5 cp1_6] w := by kernel_rfl
theorem calls {R : Ending → World → Prop} {Ap0_1 : Option Addr} {lp0_2 : Nat} {cp0_3 : Nat} {Ap1_4 : Option Addr} {lp1_5 : Nat} {cp1_6 : Nat} {w : World} (h : main R Ap0_1 lp0_2 cp0_3 Ap1_4 lp1_5 cp1_6 w) : Calls Tryd.prog 16 #[.slice Ap0_1 lp0_2 cp0_3, .slice Ap1_4 lp1_5 cp1_6] w R := main_sound Tryd.func16 mixed (Eq.mp (main_eq R Ap0_1 lp0_2 cp0_3 Ap1_4 lp1_5 cp1_6 w) h)
def p4 (R : Ending → World → Prop) (A0_3 : Option Addr) (l0_1 : Nat) (c0_2 : Nat) (A1_6 : Option Addr) (l1_4 : Nat) (c1_5 : Nat) (n5_7 : Int) (w : World) : Prop :=
  (bif (decide (n5_7 < ((l0_1 : Nat) : Int))) then (idxck A0_3 l0_1 n5_7 fun a8 =>
  ∃ (n20_9 : Int) (s20_10 : ByteArray), cellsAt (World.drew w) (a8.add (Int.toNat n5_7 * 2)) 0 [.int .u8 n20_9, .string s20_10] ∧ idxck A1_6 l1_4 n5_7 fun a11 =>
  ∃ (n24_12 : Int) (s24_13 : ByteArray), cellsAt (World.drew w) (a11.add (Int.toNat n5_7 * 2)) 0 [.int .u8 n24_12, .string s24_13] ∧ (bif (!((n20_9 == n24_12) && (((s20_10 : ByteArray) == s24_13) && true))) then (R (.returned (.bool false)) (World.drew w)) else (SK Tryd.prog Tryd.f16 R (cfg Tryd.f16 4) [(0, .slice A0_3 l0_1 c0_2), (1, .slice A1_6 l1_4 c1_5), (5, .int .i64 (IntKind.wrap .i64 (n5_7 + 1)))] (World.drew w)))) else (R (.returned (.bool true)) w))
theorem p4_eq (R : Ending → World → Prop) (A0_3 : Option Addr) (l0_1 : Nat) (c0_2 : Nat) (A1_6 : Option Addr) (l1_4 : Nat) (c1_5 : Nat) (n5_7 : Int) (w : World) : p4 R A0_3 l0_1 c0_2 A1_6 l1_4 c1_5 n5_7 w = pieceF Tryd.prog Tryd.f16 R stops 3000 (cfg Tryd.f16 4) [(0, .slice A0_3 l0_1 c0_2), (1, .slice A1_6 l1_4 c1_5), (5, .int .i64 n5_7)] w := by kernel_rfl
theorem p4_ok {R : Ending → World → Prop} {A0_3 : Option Addr} {l0_1 : Nat} {c0_2 : Nat} {A1_6 : Option Addr} {l1_4 : Nat} {c1_5 : Nat} {n5_7 : Int} {w : World} (h : p4 R A0_3 l0_1 c0_2 A1_6 l1_4 c1_5 n5_7 w) : SK Tryd.prog Tryd.f16 R (cfg Tryd.f16 4) [(0, .slice A0_3 l0_1 c0_2), (1, .slice A1_6 l1_4 c1_5), (5, .int .i64 n5_7)] w := piece_sound mixed (Eq.mp (p4_eq R A0_3 l0_1 c0_2 A1_6 l1_4 c1_5 n5_7 w) h)
end F16

/-! ### 17: halyard/ipcpopt.Good -/
namespace F17
def stops : Stops := []
def main (R : Ending → World → Prop) (np0_1 : Int) (sp0_2 : ByteArray) (w : World) : Prop :=
  newW Tryd.prog (Instr.box 38 (.agg #[.int .u8 np0_1, .string sp0_2])) w fun g1_3 w4 =>
  ∃ (n7_5 : Int) (s7_6 : ByteArray), cellsAt w4 ⟨g1_3, 0, none⟩ 0 [.int .u8 n7_5, .string s7_6] ∧ Calls Tryd.prog 27 #[.agg #[.int .u8 n7_5, .string s7_6]] w4 fun en w11 =>
  (∃ (n8_7 : Int) (v8_8 : Value) (n8_9 : Int) (b8_10 : Bool), en = .returned (.tuple #[.agg #[.int .u8 n8_7, v8_8], .int .u32 n8_9, .bool b8_10]) ∧ newW Tryd.prog (Instr.alloc 62 true (.tuple #[])) w11 fun g3_13 w14 =>
  stW Tryd.prog 62 ⟨g3_13, 0, none⟩ (.agg #[.int .u8 n8_7, v8_8]) w14 fun w15 =>
  R (.returned (.bool b8_10)) w15)
  ∨ ∃ ch12, en = .panicked ch12 ∧ R (.panicked ch12) w11
theorem main_eq (R : Ending → World → Prop) (np0_1 : Int) (sp0_2 : ByteArray) (w : World) : main R np0_1 sp0_2 w = mainF Tryd.prog Tryd.f17 R stops 3000 [.agg #[.int .u8 np0_1, .string sp0_2]] w := by kernel_rfl
theorem calls {R : Ending → World → Prop} {np0_1 : Int} {sp0_2 : ByteArray} {w : World} (h : main R np0_1 sp0_2 w) : Calls Tryd.prog 17 #[.agg #[.int .u8 np0_1, .string sp0_2]] w R := main_sound Tryd.func17 mixed (Eq.mp (main_eq R np0_1 sp0_2 w) h)
end F17

/-! ### 18: halyard/halyardref10.Good -/
namespace F18
def stops : Stops := []
def main (R : Ending → World → Prop) (np0_1 : Int) (sp0_2 : ByteArray) (w : World) : Prop :=
  newW Tryd.prog (Instr.box 38 (.agg #[.int .u8 np0_1, .string sp0_2])) w fun g1_3 w4 =>
  ∃ (n4_5 : Int), w4.cell? ⟨g1_3, 0, none⟩ = some (.int .u8 n4_5) ∧ (bif (n4_5 == 3) then (∃ (s18_6 : ByteArray), w4.cell? ⟨g1_3, 1, none⟩ = some (.string s18_6) ∧ R (.returned (.bool (((ByteArray.size s18_6 : Nat) : Int) == 4))) w4) else (∃ (n8_7 : Int), w4.cell? ⟨g1_3, 0, none⟩ = some (.int .u8 n8_7) ∧ (bif (n8_7 == 129) then (∃ (s18_8 : ByteArray), w4.cell? ⟨g1_3, 1, none⟩ = some (.string s18_8) ∧ R (.returned (.bool (((ByteArray.size s18_8 : Nat) : Int) == 4))) w4) else (∃ (n13_9 : Int), w4.cell? ⟨g1_3, 0, none⟩ = some (.int .u8 n13_9) ∧ (bif (n13_9 == 131) then (∃ (s18_10 : ByteArray), w4.cell? ⟨g1_3, 1, none⟩ = some (.string s18_10) ∧ R (.returned (.bool (((ByteArray.size s18_10 : Nat) : Int) == 4))) w4) else (R (.returned (.bool false)) w4))))))
theorem main_eq (R : Ending → World → Prop) (np0_1 : Int) (sp0_2 : ByteArray) (w : World) : main R np0_1 sp0_2 w = mainF Tryd.prog Tryd.f18 R stops 3000 [.agg #[.int .u8 np0_1, .string sp0_2]] w := by kernel_rfl
theorem calls {R : Ending → World → Prop} {np0_1 : Int} {sp0_2 : ByteArray} {w : World} (h : main R np0_1 sp0_2 w) : Calls Tryd.prog 18 #[.agg #[.int .u8 np0_1, .string sp0_2]] w R := main_sound Tryd.func18 mixed (Eq.mp (main_eq R np0_1 sp0_2 w) h)
end F18

/-! ### 19: halyard/halyardref10.May -/
namespace F19
def stops : Stops := []
def main (R : Ending → World → Prop) (bp0_1 : Bool) (np0_2 : Int) (bp0_3 : Bool) (np0_4 : Int) (bp0_5 : Bool) (np0_6 : Int) (w : World) : Prop :=
  newW Tryd.prog (Instr.box 30 (.agg #[.bool bp0_1, .int .u32 np0_2, .bool bp0_3, .int .u32 np0_4, .bool bp0_5, .int .u32 np0_6])) w fun g1_7 w8 =>
  ∃ (b4_9 : Bool), w8.cell? ⟨g1_7, 0, none⟩ = some (.bool b4_9) ∧ (bif b4_9 then (∃ (b12_10 : Bool), w8.cell? ⟨g1_7, 2, none⟩ = some (.bool b12_10) ∧ (bif b12_10 then (∃ (b21_11 : Bool), w8.cell? ⟨g1_7, 4, none⟩ = some (.bool b21_11) ∧ (bif b21_11 then (R (.returned (.bool true)) w8) else (∃ (n24_12 : Int), w8.cell? ⟨g1_7, 5, none⟩ = some (.int .u32 n24_12) ∧ R (.returned (.bool (n24_12 == 0))) w8))) else (∃ (n15_13 : Int), w8.cell? ⟨g1_7, 3, none⟩ = some (.int .u32 n15_13) ∧ (bif (n15_13 == 0) then (∃ (b21_14 : Bool), w8.cell? ⟨g1_7, 4, none⟩ = some (.bool b21_14) ∧ (bif b21_14 then (R (.returned (.bool true)) w8) else (∃ (n24_15 : Int), w8.cell? ⟨g1_7, 5, none⟩ = some (.int .u32 n24_15) ∧ R (.returned (.bool (n24_15 == 0))) w8))) else (R (.returned (.bool false)) w8))))) else (∃ (n7_16 : Int), w8.cell? ⟨g1_7, 1, none⟩ = some (.int .u32 n7_16) ∧ (bif (n7_16 == 0) then (∃ (b12_17 : Bool), w8.cell? ⟨g1_7, 2, none⟩ = some (.bool b12_17) ∧ (bif b12_17 then (∃ (b21_18 : Bool), w8.cell? ⟨g1_7, 4, none⟩ = some (.bool b21_18) ∧ (bif b21_18 then (R (.returned (.bool true)) w8) else (∃ (n24_19 : Int), w8.cell? ⟨g1_7, 5, none⟩ = some (.int .u32 n24_19) ∧ R (.returned (.bool (n24_19 == 0))) w8))) else (∃ (n15_20 : Int), w8.cell? ⟨g1_7, 3, none⟩ = some (.int .u32 n15_20) ∧ (bif (n15_20 == 0) then (∃ (b21_21 : Bool), w8.cell? ⟨g1_7, 4, none⟩ = some (.bool b21_21) ∧ (bif b21_21 then (R (.returned (.bool true)) w8) else (∃ (n24_22 : Int), w8.cell? ⟨g1_7, 5, none⟩ = some (.int .u32 n24_22) ∧ R (.returned (.bool (n24_22 == 0))) w8))) else (R (.returned (.bool false)) w8))))) else (R (.returned (.bool false)) w8))))
theorem main_eq (R : Ending → World → Prop) (bp0_1 : Bool) (np0_2 : Int) (bp0_3 : Bool) (np0_4 : Int) (bp0_5 : Bool) (np0_6 : Int) (w : World) : main R bp0_1 np0_2 bp0_3 np0_4 bp0_5 np0_6 w = mainF Tryd.prog Tryd.f19 R stops 3000 [.agg #[.bool bp0_1, .int .u32 np0_2, .bool bp0_3, .int .u32 np0_4, .bool bp0_5, .int .u32 np0_6]] w := by kernel_rfl
theorem calls {R : Ending → World → Prop} {bp0_1 : Bool} {np0_2 : Int} {bp0_3 : Bool} {np0_4 : Int} {bp0_5 : Bool} {np0_6 : Int} {w : World} (h : main R bp0_1 np0_2 bp0_3 np0_4 bp0_5 np0_6 w) : Calls Tryd.prog 19 #[.agg #[.bool bp0_1, .int .u32 np0_2, .bool bp0_3, .int .u32 np0_4, .bool bp0_5, .int .u32 np0_6]] w R := main_sound Tryd.func19 mixed (Eq.mp (main_eq R bp0_1 np0_2 bp0_3 np0_4 bp0_5 np0_6 w) h)
end F19

/-! ### 20: halyard/halyardref10.Put -/
namespace F20
def stops : Stops := [(4, [1, 3]), (6, [1, 3])]
def main (R : Ending → World → Prop) (bp0_1 : Bool) (np0_2 : Int) (bp0_3 : Bool) (np0_4 : Int) (bp0_5 : Bool) (np0_6 : Int) (w : World) : Prop :=
  newW Tryd.prog (Instr.box 30 (.agg #[.bool bp0_1, .int .u32 np0_2, .bool bp0_3, .int .u32 np0_4, .bool bp0_5, .int .u32 np0_6])) w fun g1_7 w8 =>
  ∃ (b5_9 : Bool), w8.cell? ⟨g1_7, 0, none⟩ = some (.bool b5_9) ∧ (bif b5_9 then (∃ (n8_10 : Int), w8.cell? ⟨g1_7, 1, none⟩ = some (.int .u32 n8_10) ∧ Calls Tryd.prog 29 #[.int .u32 n8_10] w8 fun en w12 =>
  (∃ (s9_11 : ByteArray), en = .returned (.string s9_11) ∧ bslW Tryd.prog 1 (Instr.buildSlice 31 1 #[(0, .agg #[.int .u8 3, .string s9_11])]) w12 fun g11_14 w15 =>
  slW Tryd.prog (Builtin.append_ #[31, 31] 31 #[.slice none 0 0, .slice (some ⟨g11_14, 0, none⟩) 1 1]) w15 fun A12_17 l12_18 c12_19 w16 =>
  SK Tryd.prog Tryd.f20 R (cfg Tryd.f20 4) [(1, .pointer (some ⟨g1_7, 0, none⟩)), (3, .slice A12_17 l12_18 c12_19)] w16)
  ∨ ∃ ch13, en = .panicked ch13 ∧ R (.panicked ch13) w12) else (SK Tryd.prog Tryd.f20 R (cfg Tryd.f20 4) [(1, .pointer (some ⟨g1_7, 0, none⟩)), (3, .slice none 0 0)] w8))
theorem main_eq (R : Ending → World → Prop) (bp0_1 : Bool) (np0_2 : Int) (bp0_3 : Bool) (np0_4 : Int) (bp0_5 : Bool) (np0_6 : Int) (w : World) : main R bp0_1 np0_2 bp0_3 np0_4 bp0_5 np0_6 w = mainF Tryd.prog Tryd.f20 R stops 3000 [.agg #[.bool bp0_1, .int .u32 np0_2, .bool bp0_3, .int .u32 np0_4, .bool bp0_5, .int .u32 np0_6]] w := by kernel_rfl
theorem calls {R : Ending → World → Prop} {bp0_1 : Bool} {np0_2 : Int} {bp0_3 : Bool} {np0_4 : Int} {bp0_5 : Bool} {np0_6 : Int} {w : World} (h : main R bp0_1 np0_2 bp0_3 np0_4 bp0_5 np0_6 w) : Calls Tryd.prog 20 #[.agg #[.bool bp0_1, .int .u32 np0_2, .bool bp0_3, .int .u32 np0_4, .bool bp0_5, .int .u32 np0_6]] w R := main_sound Tryd.func20 mixed (Eq.mp (main_eq R bp0_1 np0_2 bp0_3 np0_4 bp0_5 np0_6 w) h)
def p4 (R : Ending → World → Prop) (g1_1 : Nat) (A3_4 : Option Addr) (l3_2 : Nat) (c3_3 : Nat) (w : World) : Prop :=
  ∃ (b14_5 : Bool), w.cell? ⟨g1_1, 2, none⟩ = some (.bool b14_5) ∧ (bif b14_5 then (∃ (n17_6 : Int), w.cell? ⟨g1_1, 3, none⟩ = some (.int .u32 n17_6) ∧ Calls Tryd.prog 29 #[.int .u32 n17_6] w fun en w8 =>
  (∃ (s18_7 : ByteArray), en = .returned (.string s18_7) ∧ bslW Tryd.prog 1 (Instr.buildSlice 31 1 #[(0, .agg #[.int .u8 129, .string s18_7])]) w8 fun g20_10 w11 =>
  slW Tryd.prog (Builtin.append_ #[31, 31] 31 #[.slice A3_4 l3_2 c3_3, .slice (some ⟨g20_10, 0, none⟩) 1 1]) w11 fun A21_13 l21_14 c21_15 w12 =>
  SK Tryd.prog Tryd.f20 R (cfg Tryd.f20 6) [(1, .pointer (some ⟨g1_1, 0, none⟩)), (3, .slice A21_13 l21_14 c21_15)] w12)
  ∨ ∃ ch9, en = .panicked ch9 ∧ R (.panicked ch9) w8) else (SK Tryd.prog Tryd.f20 R (cfg Tryd.f20 6) [(1, .pointer (some ⟨g1_1, 0, none⟩)), (3, .slice A3_4 l3_2 c3_3)] w))
theorem p4_eq (R : Ending → World → Prop) (g1_1 : Nat) (A3_4 : Option Addr) (l3_2 : Nat) (c3_3 : Nat) (w : World) : p4 R g1_1 A3_4 l3_2 c3_3 w = pieceF Tryd.prog Tryd.f20 R stops 3000 (cfg Tryd.f20 4) [(1, .pointer (some ⟨g1_1, 0, none⟩)), (3, .slice A3_4 l3_2 c3_3)] w := by kernel_rfl
theorem p4_ok {R : Ending → World → Prop} {g1_1 : Nat} {A3_4 : Option Addr} {l3_2 : Nat} {c3_3 : Nat} {w : World} (h : p4 R g1_1 A3_4 l3_2 c3_3 w) : SK Tryd.prog Tryd.f20 R (cfg Tryd.f20 4) [(1, .pointer (some ⟨g1_1, 0, none⟩)), (3, .slice A3_4 l3_2 c3_3)] w := piece_sound mixed (Eq.mp (p4_eq R g1_1 A3_4 l3_2 c3_3 w) h)
def p6 (R : Ending → World → Prop) (g1_1 : Nat) (A3_4 : Option Addr) (l3_2 : Nat) (c3_3 : Nat) (w : World) : Prop :=
  ∃ (b23_5 : Bool), w.cell? ⟨g1_1, 4, none⟩ = some (.bool b23_5) ∧ (bif b23_5 then (∃ (n26_6 : Int), w.cell? ⟨g1_1, 5, none⟩ = some (.int .u32 n26_6) ∧ Calls Tryd.prog 29 #[.int .u32 n26_6] w fun en w8 =>
  (∃ (s27_7 : ByteArray), en = .returned (.string s27_7) ∧ bslW Tryd.prog 1 (Instr.buildSlice 31 1 #[(0, .agg #[.int .u8 131, .string s27_7])]) w8 fun g29_10 w11 =>
  slW Tryd.prog (Builtin.append_ #[31, 31] 31 #[.slice A3_4 l3_2 c3_3, .slice (some ⟨g29_10, 0, none⟩) 1 1]) w11 fun A30_13 l30_14 c30_15 w12 =>
  R (.returned (.slice A30_13 l30_14 c30_15)) w12)
  ∨ ∃ ch9, en = .panicked ch9 ∧ R (.panicked ch9) w8) else (R (.returned (.slice A3_4 l3_2 c3_3)) w))
theorem p6_eq (R : Ending → World → Prop) (g1_1 : Nat) (A3_4 : Option Addr) (l3_2 : Nat) (c3_3 : Nat) (w : World) : p6 R g1_1 A3_4 l3_2 c3_3 w = pieceF Tryd.prog Tryd.f20 R stops 3000 (cfg Tryd.f20 6) [(1, .pointer (some ⟨g1_1, 0, none⟩)), (3, .slice A3_4 l3_2 c3_3)] w := by kernel_rfl
theorem p6_ok {R : Ending → World → Prop} {g1_1 : Nat} {A3_4 : Option Addr} {l3_2 : Nat} {c3_3 : Nat} {w : World} (h : p6 R g1_1 A3_4 l3_2 c3_3 w) : SK Tryd.prog Tryd.f20 R (cfg Tryd.f20 6) [(1, .pointer (some ⟨g1_1, 0, none⟩)), (3, .slice A3_4 l3_2 c3_3)] w := piece_sound mixed (Eq.mp (p6_eq R g1_1 A3_4 l3_2 c3_3 w) h)
end F20

/-! ### 21: halyard/ipcpopt.Read$1 -/
namespace F21
def stops : Stops := []
def main (R : Ending → World → Prop) (gp0_1 : Nat) (w : World) : Prop :=
  ∃ (s6_2 : ByteArray), w.cell? ⟨gp0_1, 0, none⟩ = some (.string s6_2) ∧ Calls Tryd.prog 22 #[.string s6_2, .string ({ data := #[46] })] w fun en w6 =>
  (∃ (s7_3 : ByteArray) (s7_4 : ByteArray) (b7_5 : Bool), en = .returned (.tuple #[.string s7_3, .string s7_4, .bool b7_5]) ∧ stW Tryd.prog 9 ⟨gp0_1, 0, none⟩ (.string s7_4) w6 fun w8 =>
  R (.returned (.string s7_3)) w8)
  ∨ ∃ ch7, en = .panicked ch7 ∧ R (.panicked ch7) w6
theorem main_eq (R : Ending → World → Prop) (gp0_1 : Nat) (w : World) : main R gp0_1 w = mainF Tryd.prog Tryd.f21 R stops 3000 [.pointer (some ⟨gp0_1, 0, none⟩)] w := by kernel_rfl
theorem calls {R : Ending → World → Prop} {gp0_1 : Nat} {w : World} (h : main R gp0_1 w) : Calls Tryd.prog 21 #[.pointer (some ⟨gp0_1, 0, none⟩)] w R := main_sound Tryd.func21 mixed (Eq.mp (main_eq R gp0_1 w) h)
end F21

/-! ### 24: halyard/octet.Put32 -/
namespace F24
def stops : Stops := [(3, [0, 3, 5])]
def main (R : Ending → World → Prop) (np0_1 : Int) (w : World) : Prop :=
  newW Tryd.prog (Instr.alloc 72 true (.tuple #[])) w fun g3_2 w3 =>
  SK Tryd.prog Tryd.f24 R (cfg Tryd.f24 3) [(0, .int .u32 np0_1), (3, .pointer (some ⟨g3_2, 0, none⟩)), (5, .int .i64 0)] w3
theorem main_eq (R : Ending → World → Prop) (np0_1 : Int) (w : World) : main R np0_1 w = mainF Tryd.prog Tryd.f24 R stops 3000 [.int .u32 np0_1] w := by kernel_rfl
theorem calls {R : Ending → World → Prop} {np0_1 : Int} {w : World} (h : main R np0_1 w) : Calls Tryd.prog 24 #[.int .u32 np0_1] w R := main_sound Tryd.func24 mixed (Eq.mp (main_eq R np0_1 w) h)
def p3 (R : Ending → World → Prop) (n0_1 : Int) (g3_2 : Nat) (n5_3 : Int) (w : World) : Prop :=
  (bif (decide (n5_3 < 4)) then ((0 : Int) ≤ (IntKind.wrap .i64 (24 - (IntKind.wrap .i64 (8 * n5_3)))) ∧ idxck (some ⟨g3_2, 0, none⟩) 4 n5_3 fun a4 =>
  stW Tryd.prog 5 (a4.add (Int.toNat n5_3 * 1)) (.int .u8 (IntKind.wrap .u8 (Int.fdiv n0_1 (2 ^ (min (Int.toNat (IntKind.wrap .i64 (24 - (IntKind.wrap .i64 (8 * n5_3))))) (IntKind.bits .u32)) : Int)))) w fun w5 =>
  SK Tryd.prog Tryd.f24 R (cfg Tryd.f24 3) [(0, .int .u32 n0_1), (3, .pointer (some ⟨g3_2, 0, none⟩)), (5, .int .i64 (IntKind.wrap .i64 (n5_3 + 1)))] w5) else (sbck (0 : Int) ((4 : Nat) : Int) 4 false ∧ ∃ (s18_6 : ByteArray), (convert 57 9 (.slice (slcA (some ⟨g3_2, 0, none⟩) 4 (Int.toNat (0 : Int)) 1) (Int.toNat ((4 : Nat) : Int) - Int.toNat (0 : Int)) (4 - Int.toNat (0 : Int)))).run Tryd.prog w = .ok (.string s18_6) w ∧ R (.returned (.string s18_6)) w))
theorem p3_eq (R : Ending → World → Prop) (n0_1 : Int) (g3_2 : Nat) (n5_3 : Int) (w : World) : p3 R n0_1 g3_2 n5_3 w = pieceF Tryd.prog Tryd.f24 R stops 3000 (cfg Tryd.f24 3) [(0, .int .u32 n0_1), (3, .pointer (some ⟨g3_2, 0, none⟩)), (5, .int .i64 n5_3)] w := by kernel_rfl
theorem p3_ok {R : Ending → World → Prop} {n0_1 : Int} {g3_2 : Nat} {n5_3 : Int} {w : World} (h : p3 R n0_1 g3_2 n5_3 w) : SK Tryd.prog Tryd.f24 R (cfg Tryd.f24 3) [(0, .int .u32 n0_1), (3, .pointer (some ⟨g3_2, 0, none⟩)), (5, .int .i64 n5_3)] w := piece_sound mixed (Eq.mp (p3_eq R n0_1 g3_2 n5_3 w) h)
end F24

/-! ### 26: strings.Join -/
namespace F26
def stops : Stops := [(12, [0, 1, 5, 39, 40, 41]), (22, [1, 8, 63, 64, 65])]
def main (R : Ending → World → Prop) (Ap0_1 : Option Addr) (lp0_2 : Nat) (cp0_3 : Nat) (sp1_4 : ByteArray) (w : World) : Prop :=
  (bif (((lp0_2 : Nat) : Int) == 0) then (R (.returned (.string ({ data := #[] }))) w) else ((bif (((lp0_2 : Nat) : Int) == 1) then (idxck Ap0_1 lp0_2 0 fun a5 =>
  ∃ (s19_6 : ByteArray), w.cell? (a5.add (Int.toNat 0 * 1)) = some (.string s19_6) ∧ R (.returned (.string s19_6)) w) else ((bif (decide (((ByteArray.size sp1_4 : Nat) : Int) > 0)) then ((IntKind.wrap .i64 (((lp0_2 : Nat) : Int) - 1)) ≠ (0 : Int) ∧ (bif (decide (((ByteArray.size sp1_4 : Nat) : Int) ≥ (IntKind.wrap .i64 (Int.tdiv 9223372036854775807 (IntKind.wrap .i64 (((lp0_2 : Nat) : Int) - 1)))))) then (R (.panicked [{ v := .iface 9 (.string ({ data := #[115, 116, 114, 105, 110, 103, 115, 58, 32, 74, 111, 105, 110, 32, 111, 117, 116, 112, 117, 116, 32, 108, 101, 110, 103, 116, 104, 32, 111, 118, 101, 114, 102, 108, 111, 119] })), recovered := false }]) w) else (SK Tryd.prog Tryd.f26 R (cfg Tryd.f26 12) [(0, .slice Ap0_1 lp0_2 cp0_3), (1, .string sp1_4), (5, .int .i64 (IntKind.wrap .i64 (0 + (IntKind.wrap .i64 (((ByteArray.size sp1_4 : Nat) : Int) * (IntKind.wrap .i64 (((lp0_2 : Nat) : Int) - 1))))))), (39, .slice Ap0_1 lp0_2 cp0_3), (40, .int .i64 ((lp0_2 : Nat) : Int)), (41, .int .i64 0)] w))) else (SK Tryd.prog Tryd.f26 R (cfg Tryd.f26 12) [(0, .slice Ap0_1 lp0_2 cp0_3), (1, .string sp1_4), (5, .int .i64 0), (39, .slice Ap0_1 lp0_2 cp0_3), (40, .int .i64 ((lp0_2 : Nat) : Int)), (41, .int .i64 0)] w))))))
theorem main_eq (R : Ending → World → Prop) (Ap0_1 : Option Addr) (lp0_2 : Nat) (cp0_3 : Nat) (sp1_4 : ByteArray) (w : World) : main R Ap0_1 lp0_2 cp0_3 sp1_4 w = mainF Tryd.prog Tryd.f26 R stops 3000 [.slice Ap0_1 lp0_2 cp0_3, .string sp1_4] w := by kernel_rfl
theorem calls {R : Ending → World → Prop} {Ap0_1 : Option Addr} {lp0_2 : Nat} {cp0_3 : Nat} {sp1_4 : ByteArray} {w : World} (h : main R Ap0_1 lp0_2 cp0_3 sp1_4 w) : Calls Tryd.prog 26 #[.slice Ap0_1 lp0_2 cp0_3, .string sp1_4] w R := main_sound Tryd.func26 mixed (Eq.mp (main_eq R Ap0_1 lp0_2 cp0_3 sp1_4 w) h)
def p12 (R : Ending → World → Prop) (A0_3 : Option Addr) (l0_1 : Nat) (c0_2 : Nat) (s1_4 : ByteArray) (n5_5 : Int) (A39_8 : Option Addr) (l39_6 : Nat) (c39_7 : Nat) (n40_9 : Int) (n41_10 : Int) (w : World) : Prop :=
  (bif (decide (n41_10 < n40_9)) then (idxck A39_8 l39_6 n41_10 fun a11 =>
  ∃ (s44_12 : ByteArray), w.cell? (a11.add (Int.toNat n41_10 * 1)) = some (.string s44_12) ∧ (bif (decide (((ByteArray.size s44_12 : Nat) : Int) > (IntKind.wrap .i64 (9223372036854775807 - n5_5)))) then (R (.panicked [{ v := .iface 9 (.string ({ data := #[115, 116, 114, 105, 110, 103, 115, 58, 32, 74, 111, 105, 110, 32, 111, 117, 116, 112, 117, 116, 32, 108, 101, 110, 103, 116, 104, 32, 111, 118, 101, 114, 102, 108, 111, 119] })), recovered := false }]) w) else (SK Tryd.prog Tryd.f26 R (cfg Tryd.f26 12) [(0, .slice A0_3 l0_1 c0_2), (1, .string s1_4), (5, .int .i64 (IntKind.wrap .i64 (n5_5 + ((ByteArray.size s44_12 : Nat) : Int)))), (39, .slice A39_8 l39_6 c39_7), (40, .int .i64 n40_9), (41, .int .i64 (IntKind.wrap .i64 (n41_10 + 1)))] w))) else (newW Tryd.prog (Instr.alloc 75 true (.tuple #[])) w fun g8_13 w14 =>
  Calls Tryd.prog 34 #[.pointer (some ⟨g8_13, 0, none⟩), .int .i64 n5_5] w14 fun en w15 =>
  (en = .returned (.tuple #[]) ∧ idxck A0_3 l0_1 0 fun a17 =>
  ∃ (s60_18 : ByteArray), w15.cell? (a17.add (Int.toNat 0 * 1)) = some (.string s60_18) ∧ Calls Tryd.prog 35 #[.pointer (some ⟨g8_13, 0, none⟩), .string s60_18] w15 fun en w21 =>
  (∃ (n61_19 : Int) (v61_20 : Value), en = .returned (.tuple #[.int .i64 n61_19, v61_20]) ∧ sbck 1 ((l0_1 : Nat) : Int) c0_2 false ∧ SK Tryd.prog Tryd.f26 R (cfg Tryd.f26 22) [(1, .string s1_4), (8, .pointer (some ⟨g8_13, 0, none⟩)), (63, .slice (slcA A0_3 c0_2 (Int.toNat 1) 1) (Int.toNat ((l0_1 : Nat) : Int) - Int.toNat 1) (c0_2 - Int.toNat 1)), (64, .int .i64 (((Int.toNat ((l0_1 : Nat) : Int) - Int.toNat 1) : Nat) : Int)), (65, .int .i64 0)] w21)
  ∨ ∃ ch22, en = .panicked ch22 ∧ R (.panicked ch22) w21)
  ∨ ∃ ch16, en = .panicked ch16 ∧ R (.panicked ch16) w15))
theorem p12_eq (R : Ending → World → Prop) (A0_3 : Option Addr) (l0_1 : Nat) (c0_2 : Nat) (s1_4 : ByteArray) (n5_5 : Int) (A39_8 : Option Addr) (l39_6 : Nat) (c39_7 : Nat) (n40_9 : Int) (n41_10 : Int) (w : World) : p12 R A0_3 l0_1 c0_2 s1_4 n5_5 A39_8 l39_6 c39_7 n40_9 n41_10 w = pieceF Tryd.prog Tryd.f26 R stops 3000 (cfg Tryd.f26 12) [(0, .slice A0_3 l0_1 c0_2), (1, .string s1_4), (5, .int .i64 n5_5), (39, .slice A39_8 l39_6 c39_7), (40, .int .i64 n40_9), (41, .int .i64 n41_10)] w := by kernel_rfl
theorem p12_ok {R : Ending → World → Prop} {A0_3 : Option Addr} {l0_1 : Nat} {c0_2 : Nat} {s1_4 : ByteArray} {n5_5 : Int} {A39_8 : Option Addr} {l39_6 : Nat} {c39_7 : Nat} {n40_9 : Int} {n41_10 : Int} {w : World} (h : p12 R A0_3 l0_1 c0_2 s1_4 n5_5 A39_8 l39_6 c39_7 n40_9 n41_10 w) : SK Tryd.prog Tryd.f26 R (cfg Tryd.f26 12) [(0, .slice A0_3 l0_1 c0_2), (1, .string s1_4), (5, .int .i64 n5_5), (39, .slice A39_8 l39_6 c39_7), (40, .int .i64 n40_9), (41, .int .i64 n41_10)] w := piece_sound mixed (Eq.mp (p12_eq R A0_3 l0_1 c0_2 s1_4 n5_5 A39_8 l39_6 c39_7 n40_9 n41_10 w) h)
def p22 (R : Ending → World → Prop) (s1_1 : ByteArray) (g8_2 : Nat) (A63_5 : Option Addr) (l63_3 : Nat) (c63_4 : Nat) (n64_6 : Int) (n65_7 : Int) (w : World) : Prop :=
  (bif (decide (n65_7 < n64_6)) then (idxck A63_5 l63_3 n65_7 fun a8 =>
  ∃ (s68_9 : ByteArray), w.cell? (a8.add (Int.toNat n65_7 * 1)) = some (.string s68_9) ∧ Calls Tryd.prog 35 #[.pointer (some ⟨g8_2, 0, none⟩), .string s1_1] w fun en w12 =>
  (∃ (n70_10 : Int) (v70_11 : Value), en = .returned (.tuple #[.int .i64 n70_10, v70_11]) ∧ Calls Tryd.prog 35 #[.pointer (some ⟨g8_2, 0, none⟩), .string s68_9] w12 fun en w16 =>
  (∃ (n72_14 : Int) (v72_15 : Value), en = .returned (.tuple #[.int .i64 n72_14, v72_15]) ∧ SK Tryd.prog Tryd.f26 R (cfg Tryd.f26 22) [(1, .string s1_1), (8, .pointer (some ⟨g8_2, 0, none⟩)), (63, .slice A63_5 l63_3 c63_4), (64, .int .i64 n64_6), (65, .int .i64 (IntKind.wrap .i64 (n65_7 + 1)))] w16)
  ∨ ∃ ch17, en = .panicked ch17 ∧ R (.panicked ch17) w16)
  ∨ ∃ ch13, en = .panicked ch13 ∧ R (.panicked ch13) w12) else (Calls Tryd.prog 36 #[.pointer (some ⟨g8_2, 0, none⟩)] w fun en w19 =>
  (∃ (s74_18 : ByteArray), en = .returned (.string s74_18) ∧ R (.returned (.string s74_18)) w19)
  ∨ ∃ ch20, en = .panicked ch20 ∧ R (.panicked ch20) w19))
theorem p22_eq (R : Ending → World → Prop) (s1_1 : ByteArray) (g8_2 : Nat) (A63_5 : Option Addr) (l63_3 : Nat) (c63_4 : Nat) (n64_6 : Int) (n65_7 : Int) (w : World) : p22 R s1_1 g8_2 A63_5 l63_3 c63_4 n64_6 n65_7 w = pieceF Tryd.prog Tryd.f26 R stops 3000 (cfg Tryd.f26 22) [(1, .string s1_1), (8, .pointer (some ⟨g8_2, 0, none⟩)), (63, .slice A63_5 l63_3 c63_4), (64, .int .i64 n64_6), (65, .int .i64 n65_7)] w := by kernel_rfl
theorem p22_ok {R : Ending → World → Prop} {s1_1 : ByteArray} {g8_2 : Nat} {A63_5 : Option Addr} {l63_3 : Nat} {c63_4 : Nat} {n64_6 : Int} {n65_7 : Int} {w : World} (h : p22 R s1_1 g8_2 A63_5 l63_3 c63_4 n64_6 n65_7 w) : SK Tryd.prog Tryd.f26 R (cfg Tryd.f26 22) [(1, .string s1_1), (8, .pointer (some ⟨g8_2, 0, none⟩)), (63, .slice A63_5 l63_3 c63_4), (64, .int .i64 n64_6), (65, .int .i64 n65_7)] w := piece_sound mixed (Eq.mp (p22_eq R s1_1 g8_2 A63_5 l63_3 c63_4 n64_6 n65_7 w) h)
end F26

/-! ### 27: halyard/ipcpopt.find -/
namespace F27
def stops : Stops := [(3, [1, 2, 3, 5, 14, 15])]
def main (R : Ending → World → Prop) (np0_1 : Int) (sp0_2 : ByteArray) (w : World) : Prop :=
  newW Tryd.prog (Instr.box 38 (.agg #[.int .u8 np0_1, .string sp0_2])) w fun g1_3 w4 =>
  newW Tryd.prog (Instr.alloc 62 true (.tuple #[])) w4 fun g2_5 w6 =>
  ∃ (s10_7 : ByteArray), w6.cell? ⟨g1_3, 1, none⟩ = some (.string s10_7) ∧ Calls Tryd.prog 37 #[.string s10_7] w6 fun en w10 =>
  (∃ (n11_8 : Int) (n11_9 : Int), en = .returned (.tuple #[.int .u32 n11_8, .int .i64 n11_9]) ∧ ∃ (n14_12 : Int) (v14_13 : Value) (n14_14 : Int) (v14_15 : Value) (n14_16 : Int) (v14_17 : Value), cellsAt w10 ⟨0, 0, none⟩ 0 [.int .u8 n14_12, v14_13, .int .u8 n14_14, v14_15, .int .u8 n14_16, v14_17] ∧ SK Tryd.prog Tryd.f27 R (cfg Tryd.f27 3) [(1, .pointer (some ⟨g1_3, 0, none⟩)), (2, .pointer (some ⟨g2_5, 0, none⟩)), (3, .int .u32 n11_8), (5, .int .i64 n11_9), (14, .agg #[.int .u8 n14_12, v14_13, .int .u8 n14_14, v14_15, .int .u8 n14_16, v14_17]), (15, .int .i64 0)] w10)
  ∨ ∃ ch11, en = .panicked ch11 ∧ R (.panicked ch11) w10
theorem main_eq (R : Ending → World → Prop) (np0_1 : Int) (sp0_2 : ByteArray) (w : World) : main R np0_1 sp0_2 w = mainF Tryd.prog Tryd.f27 R stops 3000 [.agg #[.int .u8 np0_1, .string sp0_2]] w := by kernel_rfl
theorem calls {R : Ending → World → Prop} {np0_1 : Int} {sp0_2 : ByteArray} {w : World} (h : main R np0_1 sp0_2 w) : Calls Tryd.prog 27 #[.agg #[.int .u8 np0_1, .string sp0_2]] w R := main_sound Tryd.func27 mixed (Eq.mp (main_eq R np0_1 sp0_2 w) h)
def p3 (R : Ending → World → Prop) (g1_1 : Nat) (g2_2 : Nat) (n3_3 : Int) (n5_4 : Int) (n14_5 : Int) (v14_6 : Value) (n14_7 : Int) (v14_8 : Value) (n14_9 : Int) (v14_10 : Value) (n15_11 : Int) (w : World) : Prop :=
  (bif (decide (n15_11 < 3)) then (∃ (n17_12 : Int) (v17_13 : Value), (Instr.index 63 (.agg #[.int .u8 n14_5, v14_6, .int .u8 n14_7, v14_8, .int .u8 n14_9, v14_10]) (.int .i64 n15_11)).run Tryd.prog w = .ok (.agg #[.int .u8 n17_12, v17_13]) w ∧ newW Tryd.prog (Instr.alloc 62 true (.tuple #[])) w fun g7_14 w15 =>
  stW Tryd.prog 62 ⟨g7_14, 0, none⟩ (.agg #[.int .u8 n17_12, v17_13]) w15 fun w16 =>
  ∃ (n19_17 : Int), w16.cell? ⟨g7_14, 0, none⟩ = some (.int .u8 n19_17) ∧ ∃ (n21_18 : Int), w16.cell? ⟨g1_1, 0, none⟩ = some (.int .u8 n21_18) ∧ (bif (n19_17 == n21_18) then ((bif (n5_4 == 0) then (∃ (n27_19 : Int) (v27_20 : Value), cellsAt w16 ⟨g7_14, 0, none⟩ 0 [.int .u8 n27_19, v27_20] ∧ stW Tryd.prog 62 ⟨g2_2, 0, none⟩ (.agg #[.int .u8 n27_19, v27_20]) w16 fun w21 =>
  ∃ (n2_22 : Int) (v2_23 : Value), cellsAt w21 ⟨g2_2, 0, none⟩ 0 [.int .u8 n2_22, v2_23] ∧ R (.returned (.tuple #[.agg #[.int .u8 n2_22, v2_23], .int .u32 n3_3, .bool true])) w21) else (SK Tryd.prog Tryd.f27 R (cfg Tryd.f27 3) [(1, .pointer (some ⟨g1_1, 0, none⟩)), (2, .pointer (some ⟨g2_2, 0, none⟩)), (3, .int .u32 n3_3), (5, .int .i64 n5_4), (14, .agg #[.int .u8 n14_5, v14_6, .int .u8 n14_7, v14_8, .int .u8 n14_9, v14_10]), (15, .int .i64 (IntKind.wrap .i64 (n15_11 + 1)))] w16))) else (SK Tryd.prog Tryd.f27 R (cfg Tryd.f27 3) [(1, .pointer (some ⟨g1_1, 0, none⟩)), (2, .pointer (some ⟨g2_2, 0, none⟩)), (3, .int .u32 n3_3), (5, .int .i64 n5_4), (14, .agg #[.int .u8 n14_5, v14_6, .int .u8 n14_7, v14_8, .int .u8 n14_9, v14_10]), (15, .int .i64 (IntKind.wrap .i64 (n15_11 + 1)))] w16))) else (∃ (n30_24 : Int) (v30_25 : Value), cellsAt w ⟨g2_2, 0, none⟩ 0 [.int .u8 n30_24, v30_25] ∧ stW Tryd.prog 62 ⟨g2_2, 0, none⟩ (.agg #[.int .u8 n30_24, v30_25]) w fun w26 =>
  ∃ (n2_27 : Int) (v2_28 : Value), cellsAt w26 ⟨g2_2, 0, none⟩ 0 [.int .u8 n2_27, v2_28] ∧ R (.returned (.tuple #[.agg #[.int .u8 n2_27, v2_28], .int .u32 0, .bool false])) w26))
theorem p3_eq (R : Ending → World → Prop) (g1_1 : Nat) (g2_2 : Nat) (n3_3 : Int) (n5_4 : Int) (n14_5 : Int) (v14_6 : Value) (n14_7 : Int) (v14_8 : Value) (n14_9 : Int) (v14_10 : Value) (n15_11 : Int) (w : World) : p3 R g1_1 g2_2 n3_3 n5_4 n14_5 v14_6 n14_7 v14_8 n14_9 v14_10 n15_11 w = pieceF Tryd.prog Tryd.f27 R stops 3000 (cfg Tryd.f27 3) [(1, .pointer (some ⟨g1_1, 0, none⟩)), (2, .pointer (some ⟨g2_2, 0, none⟩)), (3, .int .u32 n3_3), (5, .int .i64 n5_4), (14, .agg #[.int .u8 n14_5, v14_6, .int .u8 n14_7, v14_8, .int .u8 n14_9, v14_10]), (15, .int .i64 n15_11)] w := by kernel_rfl
theorem p3_ok {R : Ending → World → Prop} {g1_1 : Nat} {g2_2 : Nat} {n3_3 : Int} {n5_4 : Int} {n14_5 : Int} {v14_6 : Value} {n14_7 : Int} {v14_8 : Value} {n14_9 : Int} {v14_10 : Value} {n15_11 : Int} {w : World} (h : p3 R g1_1 g2_2 n3_3 n5_4 n14_5 v14_6 n14_7 v14_8 n14_9 v14_10 n15_11 w) : SK Tryd.prog Tryd.f27 R (cfg Tryd.f27 3) [(1, .pointer (some ⟨g1_1, 0, none⟩)), (2, .pointer (some ⟨g2_2, 0, none⟩)), (3, .int .u32 n3_3), (5, .int .i64 n5_4), (14, .agg #[.int .u8 n14_5, v14_6, .int .u8 n14_7, v14_8, .int .u8 n14_9, v14_10]), (15, .int .i64 n15_11)] w := piece_sound mixed (Eq.mp (p3_eq R g1_1 g2_2 n3_3 n5_4 n14_5 v14_6 n14_7 v14_8 n14_9 v14_10 n15_11 w) h)
end F27

/-! ### 28: halyard/halyardref10.value -/
namespace F28
def stops : Stops := []
def main (R : Ending → World → Prop) (sp0_1 : ByteArray) (w : World) : Prop :=
  ((0 : Int) ≤ 0 ∧ 0 < (ByteArray.size sp0_1 : Int)) ∧ (0 : Int) ≤ 24 ∧ ((0 : Int) ≤ 1 ∧ 1 < (ByteArray.size sp0_1 : Int)) ∧ (0 : Int) ≤ 16 ∧ ((0 : Int) ≤ 2 ∧ 2 < (ByteArray.size sp0_1 : Int)) ∧ (0 : Int) ≤ 8 ∧ ((0 : Int) ≤ 3 ∧ 3 < (ByteArray.size sp0_1 : Int)) ∧ R (.returned (.int .u32 (IntKind.wrap .u32 ((BitVec.ofInt (IntKind.bits .u32) (IntKind.wrap .u32 ((BitVec.ofInt (IntKind.bits .u32) (IntKind.wrap .u32 ((BitVec.ofInt (IntKind.bits .u32) (IntKind.wrap .u32 ((IntKind.wrap .u32 (btAt sp0_1 0)) * (2 ^ (min (Int.toNat 24) (IntKind.bits .u32)) : Int))) ||| BitVec.ofInt (IntKind.bits .u32) (IntKind.wrap .u32 ((IntKind.wrap .u32 (btAt sp0_1 1)) * (2 ^ (min (Int.toNat 16) (IntKind.bits .u32)) : Int)))).toNat : Int)) ||| BitVec.ofInt (IntKind.bits .u32) (IntKind.wrap .u32 ((IntKind.wrap .u32 (btAt sp0_1 2)) * (2 ^ (min (Int.toNat 8) (IntKind.bits .u32)) : Int)))).toNat : Int)) ||| BitVec.ofInt (IntKind.bits .u32) (IntKind.wrap .u32 (btAt sp0_1 3))).toNat : Int)))) (World.drew w)
theorem main_eq (R : Ending → World → Prop) (sp0_1 : ByteArray) (w : World) : main R sp0_1 w = mainF Tryd.prog Tryd.f28 R stops 3000 [.string sp0_1] w := by kernel_rfl
theorem calls {R : Ending → World → Prop} {sp0_1 : ByteArray} {w : World} (h : main R sp0_1 w) : Calls Tryd.prog 28 #[.string sp0_1] w R := main_sound Tryd.func28 mixed (Eq.mp (main_eq R sp0_1 w) h)
end F28

/-! ### 29: halyard/halyardref10.num -/
namespace F29
def stops : Stops := []
def main (R : Ending → World → Prop) (np0_1 : Int) (w : World) : Prop :=
  (0 : Int) ≤ 24 ∧ (0 : Int) ≤ 16 ∧ (0 : Int) ≤ 8 ∧ bslW Tryd.prog 4 (Instr.buildSlice 57 4 #[(0, .int .u8 (IntKind.wrap .u8 (Int.fdiv np0_1 (2 ^ (min (Int.toNat 24) (IntKind.bits .u32)) : Int)))), (1, .int .u8 (IntKind.wrap .u8 (Int.fdiv np0_1 (2 ^ (min (Int.toNat 16) (IntKind.bits .u32)) : Int)))), (2, .int .u8 (IntKind.wrap .u8 (Int.fdiv np0_1 (2 ^ (min (Int.toNat 8) (IntKind.bits .u32)) : Int)))), (3, .int .u8 (IntKind.wrap .u8 np0_1))]) w fun g14_2 w3 =>
  ∃ (s15_4 : ByteArray), (convert 57 9 (.slice (some ⟨g14_2, 0, none⟩) 4 4)).run Tryd.prog w3 = .ok (.string s15_4) w3 ∧ R (.returned (.string s15_4)) w3
theorem main_eq (R : Ending → World → Prop) (np0_1 : Int) (w : World) : main R np0_1 w = mainF Tryd.prog Tryd.f29 R stops 3000 [.int .u32 np0_1] w := by kernel_rfl
theorem calls {R : Ending → World → Prop} {np0_1 : Int} {w : World} (h : main R np0_1 w) : Calls Tryd.prog 29 #[.int .u32 np0_1] w R := main_sound Tryd.func29 mixed (Eq.mp (main_eq R np0_1 w) h)
end F29

/-! ### 34: (*strings.Builder).Grow -/
namespace F34
def stops : Stops := [(3, [0, 1])]
def main (R : Ending → World → Prop) (Ap0_1 : Option Addr) (np1_2 : Int) (w : World) : Prop :=
  Calls Tryd.prog 46 #[.pointer Ap0_1] w fun en w3 =>
  (en = .returned (.tuple #[]) ∧ (bif (decide (np1_2 < 0)) then (R (.panicked [{ v := .iface 9 (.string ({ data := #[115, 116, 114, 105, 110, 103, 115, 46, 66, 117, 105, 108, 100, 101, 114, 46, 71, 114, 111, 119, 58, 32, 110, 101, 103, 97, 116, 105, 118, 101, 32, 99, 111, 117, 110, 116] })), recovered := false }]) w3) else (SK Tryd.prog Tryd.f34 R (cfg Tryd.f34 3) [(0, .pointer Ap0_1), (1, .int .i64 np1_2)] w3)))
  ∨ ∃ ch4, en = .panicked ch4 ∧ R (.panicked ch4) w3
theorem main_eq (R : Ending → World → Prop) (Ap0_1 : Option Addr) (np1_2 : Int) (w : World) : main R Ap0_1 np1_2 w = mainF Tryd.prog Tryd.f34 R stops 3000 [.pointer Ap0_1, .int .i64 np1_2] w := by kernel_rfl
theorem calls {R : Ending → World → Prop} {Ap0_1 : Option Addr} {np1_2 : Int} {w : World} (h : main R Ap0_1 np1_2 w) : Calls Tryd.prog 34 #[.pointer Ap0_1, .int .i64 np1_2] w R := main_sound Tryd.func34 mixed (Eq.mp (main_eq R Ap0_1 np1_2 w) h)
def p3 (R : Ending → World → Prop) (A0_1 : Option Addr) (n1_2 : Int) (w : World) : Prop :=
  nilck A0_1 fun a3 =>
  ∃ (A12_4 : Option Addr) (l12_5 : Nat) (c12_6 : Nat), (World.drew w).cell? (a3.add 1) = some (.slice A12_4 l12_5 c12_6) ∧ nilck A0_1 fun a7 =>
  ∃ (A17_8 : Option Addr) (l17_9 : Nat) (c17_10 : Nat), (World.drew w).cell? (a7.add 1) = some (.slice A17_8 l17_9 c17_10) ∧ (bif (decide ((IntKind.wrap .i64 (((c12_6 : Nat) : Int) - ((l17_9 : Nat) : Int))) < n1_2)) then (Calls Tryd.prog 47 #[.pointer A0_1, .int .i64 n1_2] (World.drew w) fun en w11 =>
  (en = .returned (.tuple #[]) ∧ R (.returned (.tuple #[])) w11)
  ∨ ∃ ch12, en = .panicked ch12 ∧ R (.panicked ch12) w11) else (R (.returned (.tuple #[])) (World.drew w)))
theorem p3_eq (R : Ending → World → Prop) (A0_1 : Option Addr) (n1_2 : Int) (w : World) : p3 R A0_1 n1_2 w = pieceF Tryd.prog Tryd.f34 R stops 3000 (cfg Tryd.f34 3) [(0, .pointer A0_1), (1, .int .i64 n1_2)] w := by kernel_rfl
theorem p3_ok {R : Ending → World → Prop} {A0_1 : Option Addr} {n1_2 : Int} {w : World} (h : p3 R A0_1 n1_2 w) : SK Tryd.prog Tryd.f34 R (cfg Tryd.f34 3) [(0, .pointer A0_1), (1, .int .i64 n1_2)] w := piece_sound mixed (Eq.mp (p3_eq R A0_1 n1_2 w) h)
end F34

/-! ### 35: (*strings.Builder).WriteString -/
namespace F35
def stops : Stops := []
def main (R : Ending → World → Prop) (Ap0_1 : Option Addr) (sp1_2 : ByteArray) (w : World) : Prop :=
  Calls Tryd.prog 46 #[.pointer Ap0_1] w fun en w3 =>
  (en = .returned (.tuple #[]) ∧ nilck Ap0_1 fun a5 =>
  ∃ (A12_6 : Option Addr) (l12_7 : Nat) (c12_8 : Nat), w3.cell? (a5.add 1) = some (.slice A12_6 l12_7 c12_8) ∧ slW Tryd.prog (Builtin.append_ #[57, 9] 57 #[.slice A12_6 l12_7 c12_8, .string sp1_2]) w3 fun A14_10 l14_11 c14_12 w9 =>
  nilck Ap0_1 fun a13 =>
  stW Tryd.prog 57 (a13.add 1) (.slice A14_10 l14_11 c14_12) w9 fun w14 =>
  R (.returned (.tuple #[.int .i64 ((ByteArray.size sp1_2 : Nat) : Int), .nilIface])) w14)
  ∨ ∃ ch4, en = .panicked ch4 ∧ R (.panicked ch4) w3
theorem main_eq (R : Ending → World → Prop) (Ap0_1 : Option Addr) (sp1_2 : ByteArray) (w : World) : main R Ap0_1 sp1_2 w = mainF Tryd.prog Tryd.f35 R stops 3000 [.pointer Ap0_1, .string sp1_2] w := by kernel_rfl
theorem calls {R : Ending → World → Prop} {Ap0_1 : Option Addr} {sp1_2 : ByteArray} {w : World} (h : main R Ap0_1 sp1_2 w) : Calls Tryd.prog 35 #[.pointer Ap0_1, .string sp1_2] w R := main_sound Tryd.func35 mixed (Eq.mp (main_eq R Ap0_1 sp1_2 w) h)
end F35

/-! ### 37: halyard/octet.Get32 -/
namespace F37
def stops : Stops := []
def main (R : Ending → World → Prop) (sp0_1 : ByteArray) (w : World) : Prop :=
  Calls Tryd.prog 48 #[.string sp0_1, .int .i64 4] w fun en w4 =>
  (∃ (n5_2 : Int) (n5_3 : Int), en = .returned (.tuple #[.int .u32 n5_2, .int .i64 n5_3]) ∧ R (.returned (.tuple #[.int .u32 n5_2, .int .i64 n5_3])) w4)
  ∨ ∃ ch5, en = .panicked ch5 ∧ R (.panicked ch5) w4
theorem main_eq (R : Ending → World → Prop) (sp0_1 : ByteArray) (w : World) : main R sp0_1 w = mainF Tryd.prog Tryd.f37 R stops 3000 [.string sp0_1] w := by kernel_rfl
theorem calls {R : Ending → World → Prop} {sp0_1 : ByteArray} {w : World} (h : main R sp0_1 w) : Calls Tryd.prog 37 #[.string sp0_1] w R := main_sound Tryd.func37 mixed (Eq.mp (main_eq R sp0_1 w) h)
end F37

/-! ### 48: halyard/octet.number -/
namespace F48
def stops : Stops := [(6, [0, 4, 18, 19])]
def main (R : Ending → World → Prop) (sp0_1 : ByteArray) (np1_2 : Int) (w : World) : Prop :=
  (bif (decide (((ByteArray.size sp0_1 : Nat) : Int) < np1_2)) then (R (.returned (.tuple #[.int .u32 0, .int .i64 6])) w) else ((bif (decide (((ByteArray.size sp0_1 : Nat) : Int) > np1_2)) then (R (.returned (.tuple #[.int .u32 0, .int .i64 7])) w) else (SK Tryd.prog Tryd.f48 R (cfg Tryd.f48 6) [(0, .string sp0_1), (4, .int .u32 0), (18, .int .i64 ((ByteArray.size sp0_1 : Nat) : Int)), (19, .int .i64 0)] w))))
theorem main_eq (R : Ending → World → Prop) (sp0_1 : ByteArray) (np1_2 : Int) (w : World) : main R sp0_1 np1_2 w = mainF Tryd.prog Tryd.f48 R stops 3000 [.string sp0_1, .int .i64 np1_2] w := by kernel_rfl
theorem calls {R : Ending → World → Prop} {sp0_1 : ByteArray} {np1_2 : Int} {w : World} (h : main R sp0_1 np1_2 w) : Calls Tryd.prog 48 #[.string sp0_1, .int .i64 np1_2] w R := main_sound Tryd.func48 mixed (Eq.mp (main_eq R sp0_1 np1_2 w) h)
def p6 (R : Ending → World → Prop) (s0_1 : ByteArray) (n4_2 : Int) (n18_3 : Int) (n19_4 : Int) (w : World) : Prop :=
  (bif (decide (n19_4 < n18_3)) then ((0 : Int) ≤ 8 ∧ ((0 : Int) ≤ n19_4 ∧ n19_4 < (ByteArray.size s0_1 : Int)) ∧ SK Tryd.prog Tryd.f48 R (cfg Tryd.f48 6) [(0, .string s0_1), (4, .int .u32 (IntKind.wrap .u32 ((BitVec.ofInt (IntKind.bits .u32) (IntKind.wrap .u32 (n4_2 * (2 ^ (min (Int.toNat 8) (IntKind.bits .u32)) : Int))) ||| BitVec.ofInt (IntKind.bits .u32) (IntKind.wrap .u32 (btAt s0_1 n19_4))).toNat : Int))), (18, .int .i64 n18_3), (19, .int .i64 (IntKind.wrap .i64 (n19_4 + 1)))] w) else (R (.returned (.tuple #[.int .u32 n4_2, .int .i64 0])) w))
theorem p6_eq (R : Ending → World → Prop) (s0_1 : ByteArray) (n4_2 : Int) (n18_3 : Int) (n19_4 : Int) (w : World) : p6 R s0_1 n4_2 n18_3 n19_4 w = pieceF Tryd.prog Tryd.f48 R stops 3000 (cfg Tryd.f48 6) [(0, .string s0_1), (4, .int .u32 n4_2), (18, .int .i64 n18_3), (19, .int .i64 n19_4)] w := by kernel_rfl
theorem p6_ok {R : Ending → World → Prop} {s0_1 : ByteArray} {n4_2 : Int} {n18_3 : Int} {n19_4 : Int} {w : World} (h : p6 R s0_1 n4_2 n18_3 n19_4 w) : SK Tryd.prog Tryd.f48 R (cfg Tryd.f48 6) [(0, .string s0_1), (4, .int .u32 n4_2), (18, .int .i64 n18_3), (19, .int .i64 n19_4)] w := piece_sound mixed (Eq.mp (p6_eq R s0_1 n4_2 n18_3 n19_4 w) h)
end F48

/-! ### 91: halyard/ipcpopt.kinds$1 -/
namespace F91
def stops : Stops := []
def main (R : Ending → World → Prop) (Ap0_1 : Option Addr) (w : World) : Prop :=
  nilck Ap0_1 fun a2 =>
  nilck Ap0_1 fun a3 =>
  R (.returned (.tuple #[.pointer (some a2), .pointer (some (a3.add 1))])) (World.drew w)
theorem main_eq (R : Ending → World → Prop) (Ap0_1 : Option Addr) (w : World) : main R Ap0_1 w = mainF Tryd.prog Tryd.f91 R stops 3000 [.pointer Ap0_1] w := by kernel_rfl
theorem calls {R : Ending → World → Prop} {Ap0_1 : Option Addr} {w : World} (h : main R Ap0_1 w) : Calls Tryd.prog 91 #[.pointer Ap0_1] w R := main_sound Tryd.func91 mixed (Eq.mp (main_eq R Ap0_1 w) h)
end F91

/-! ### 92: halyard/ipcpopt.kinds$2 -/
namespace F92
def stops : Stops := []
def main (R : Ending → World → Prop) (Ap0_1 : Option Addr) (w : World) : Prop :=
  nilck Ap0_1 fun a2 =>
  nilck Ap0_1 fun a3 =>
  R (.returned (.tuple #[.pointer (some (a2.add 2)), .pointer (some (a3.add 3))])) (World.drew w)
theorem main_eq (R : Ending → World → Prop) (Ap0_1 : Option Addr) (w : World) : main R Ap0_1 w = mainF Tryd.prog Tryd.f92 R stops 3000 [.pointer Ap0_1] w := by kernel_rfl
theorem calls {R : Ending → World → Prop} {Ap0_1 : Option Addr} {w : World} (h : main R Ap0_1 w) : Calls Tryd.prog 92 #[.pointer Ap0_1] w R := main_sound Tryd.func92 mixed (Eq.mp (main_eq R Ap0_1 w) h)
end F92

/-! ### 93: halyard/ipcpopt.kinds$3 -/
namespace F93
def stops : Stops := []
def main (R : Ending → World → Prop) (Ap0_1 : Option Addr) (w : World) : Prop :=
  nilck Ap0_1 fun a2 =>
  nilck Ap0_1 fun a3 =>
  R (.returned (.tuple #[.pointer (some (a2.add 4)), .pointer (some (a3.add 5))])) (World.drew w)
theorem main_eq (R : Ending → World → Prop) (Ap0_1 : Option Addr) (w : World) : main R Ap0_1 w = mainF Tryd.prog Tryd.f93 R stops 3000 [.pointer Ap0_1] w := by kernel_rfl
theorem calls {R : Ending → World → Prop} {Ap0_1 : Option Addr} {w : World} (h : main R Ap0_1 w) : Calls Tryd.prog 93 #[.pointer Ap0_1] w R := main_sound Tryd.func93 mixed (Eq.mp (main_eq R Ap0_1 w) h)
end F93
end Go.Proofs.YthfcnkeclcphpaaDoor
