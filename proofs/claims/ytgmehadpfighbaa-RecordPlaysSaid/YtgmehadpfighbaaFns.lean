/- What these functions of the program mean, told over worlds: printed by wip/tool/prn.py, an own tool; each is tied to the program by a theorem that the kernel checks. -/
import Derived.Test.YtgmehadpfighbaaRun3
import Derived.Test.YtgmehadpfighbaaProg
set_option linter.unusedVariables false
set_option maxRecDepth 100000
namespace Go.Proofs.Ytgmehadpfighbaa
open Go
theorem mixed : Try.prog.follows .mixedOrders = true := by kernel_rfl

/-! ### 3: halyard/halyardlaw28.RecordBoth -/
namespace F3
def stops : Stops := [(3, [0, 1]), (7, [0, 1, 5, 7]), (23, [0, 1, 5, 7, 9, 10]), (27, [0, 1, 5, 7, 15, 16])]
def main (R : Ending → World → Prop) (np0_1 : Int) (Ap1_2 : Option Addr) (lp1_3 : Nat) (cp1_4 : Nat) (w : World) : Prop :=
  (bif (decide (((lp1_3 : Nat) : Int) > 60)) then (Calls Try.prog 7 #[] w fun en w6 =>
  (∃ (b29_5 : Bool), en = .returned (.bool b29_5) ∧ R (.returned (.bool b29_5)) w6)
  ∨ ∃ ch7, en = .panicked ch7 ∧ R (.panicked ch7) w6) else (Calls Try.prog 6 #[.slice Ap1_2 lp1_3 cp1_4] w fun en w11 =>
  (∃ (A26_8 : Option Addr) (l26_9 : Nat) (c26_10 : Nat), en = .returned (.slice A26_8 l26_9 c26_10) ∧ Calls Try.prog 5 #[.slice A26_8 l26_9 c26_10] w11 fun en w14 =>
  (∃ (b27_13 : Bool), en = .returned (.bool b27_13) ∧ (bif b27_13 then (Calls Try.prog 7 #[] w14 fun en w17 =>
  (∃ (b29_16 : Bool), en = .returned (.bool b29_16) ∧ R (.returned (.bool b29_16)) w17)
  ∨ ∃ ch18, en = .panicked ch18 ∧ R (.panicked ch18) w17) else (SK Try.prog Try.f3 R (cfg Try.f3 3) [(0, .int .u8 np0_1), (1, .slice Ap1_2 lp1_3 cp1_4)] w14)))
  ∨ ∃ ch15, en = .panicked ch15 ∧ R (.panicked ch15) w14)
  ∨ ∃ ch12, en = .panicked ch12 ∧ R (.panicked ch12) w11))
theorem main_eq (R : Ending → World → Prop) (np0_1 : Int) (Ap1_2 : Option Addr) (lp1_3 : Nat) (cp1_4 : Nat) (w : World) : main R np0_1 Ap1_2 lp1_3 cp1_4 w = mainF Try.prog Try.f3 R stops 3000 [.int .u8 np0_1, .slice Ap1_2 lp1_3 cp1_4] w := by kernel_rfl
theorem calls {R : Ending → World → Prop} {np0_1 : Int} {Ap1_2 : Option Addr} {lp1_3 : Nat} {cp1_4 : Nat} {w : World} (h : main R np0_1 Ap1_2 lp1_3 cp1_4 w) : Calls Try.prog 3 #[.int .u8 np0_1, .slice Ap1_2 lp1_3 cp1_4] w R := main_sound Try.func3 mixed (Eq.mp (main_eq R np0_1 Ap1_2 lp1_3 cp1_4 w) h)
def p3 (R : Ending → World → Prop) (n0_1 : Int) (A1_4 : Option Addr) (l1_2 : Nat) (c1_3 : Nat) (w : World) : Prop :=
  Calls Try.prog 8 #[.int .i64 (IntKind.wrap .i64 (1 + (IntKind.wrap .i64 n0_1)))] w fun en w7 =>
  (∃ (A34_5 : Option Addr) (n34_6 : Int), en = .returned (.tuple #[.pointer A34_5, .int .i64 n34_6]) ∧ (bif (n34_6 != 0) then (R (.returned (.bool false)) w7) else ((bif (Option.isNone A34_5) then (R (.returned (.bool false)) w7) else (SK Try.prog Try.f3 R (cfg Try.f3 7) [(0, .int .u8 n0_1), (1, .slice A1_4 l1_2 c1_3), (5, .pointer A34_5), (7, .int .i64 0)] w7)))))
  ∨ ∃ ch8, en = .panicked ch8 ∧ R (.panicked ch8) w7
theorem p3_eq (R : Ending → World → Prop) (n0_1 : Int) (A1_4 : Option Addr) (l1_2 : Nat) (c1_3 : Nat) (w : World) : p3 R n0_1 A1_4 l1_2 c1_3 w = pieceF Try.prog Try.f3 R stops 3000 (cfg Try.f3 3) [(0, .int .u8 n0_1), (1, .slice A1_4 l1_2 c1_3)] w := by kernel_rfl
theorem p3_ok {R : Ending → World → Prop} {n0_1 : Int} {A1_4 : Option Addr} {l1_2 : Nat} {c1_3 : Nat} {w : World} (h : p3 R n0_1 A1_4 l1_2 c1_3 w) : SK Try.prog Try.f3 R (cfg Try.f3 3) [(0, .int .u8 n0_1), (1, .slice A1_4 l1_2 c1_3)] w := piece_sound mixed (Eq.mp (p3_eq R n0_1 A1_4 l1_2 c1_3 w) h)
def p7 (R : Ending → World → Prop) (n0_1 : Int) (A1_4 : Option Addr) (l1_2 : Nat) (c1_3 : Nat) (A5_5 : Option Addr) (n7_6 : Int) (w : World) : Prop :=
  (bif (decide (n7_6 < ((l1_2 : Nat) : Int))) then (idxck A1_4 l1_2 n7_6 fun a7 =>
  ∃ (n52_8 : Int) (s52_9 : ByteArray) (s52_10 : ByteArray) (s52_11 : ByteArray) (n52_12 : Int) (b52_13 : Bool), cellsAt w (a7.add (Int.toNat n7_6 * 6)) 0 [.int .i64 n52_8, .string s52_9, .string s52_10, .string s52_11, .int .u32 n52_12, .bool b52_13] ∧ newW Try.prog (Instr.alloc 35 true (.tuple #[])) w fun g8_14 w15 =>
  stW Try.prog 35 ⟨g8_14, 0, none⟩ (.agg #[.int .i64 n52_8, .string s52_9, .string s52_10, .string s52_11, .int .u32 n52_12, .bool b52_13]) w15 fun w16 =>
  Calls Try.prog 9 #[.pointer A5_5] w16 fun en w20 =>
  (∃ (A54_17 : Option Addr) (l54_18 : Nat) (c54_19 : Nat), en = .returned (.slice A54_17 l54_18 c54_19) ∧ ∃ (n56_22 : Int), w20.cell? ⟨g8_14, 0, none⟩ = some (.int .i64 n56_22) ∧ (bif (n56_22 == 0) then (∃ (s61_23 : ByteArray) (s61_24 : ByteArray) (s61_25 : ByteArray) (n61_26 : Int) (b61_27 : Bool), cellsAt w20 ⟨g8_14, 1, none⟩ 0 [.string s61_23, .string s61_24, .string s61_25, .int .u32 n61_26, .bool b61_27] ∧ Calls Try.prog 10 #[.pointer A5_5, .agg #[.string s61_23, .string s61_24, .string s61_25, .int .u32 n61_26, .bool b61_27]] w20 fun en w29 =>
  (∃ (n62_28 : Int), en = .returned (.int .i64 n62_28) ∧ ∃ (n67_31 : Int), w29.cell? ⟨g8_14, 4, none⟩ = some (.int .u32 n67_31) ∧ Calls Try.prog 11 #[.pointer A5_5, .int .u32 n67_31] w29 fun en w38 =>
  (∃ (s68_32 : ByteArray) (s68_33 : ByteArray) (s68_34 : ByteArray) (n68_35 : Int) (b68_36 : Bool) (b68_37 : Bool), en = .returned (.tuple #[.agg #[.string s68_32, .string s68_33, .string s68_34, .int .u32 n68_35, .bool b68_36], .bool b68_37]) ∧ newW Try.prog (Instr.alloc 33 true (.tuple #[])) w38 fun g11_40 w41 =>
  stW Try.prog 33 ⟨g11_40, 0, none⟩ (.agg #[.string s68_32, .string s68_33, .string s68_34, .int .u32 n68_35, .bool b68_36]) w41 fun w42 =>
  (bif (n62_28 == 0) then ((bif (!b68_37) then (R (.returned (.bool false)) w42) else (∃ (s77_43 : ByteArray) (s77_44 : ByteArray) (s77_45 : ByteArray) (n77_46 : Int) (b77_47 : Bool), cellsAt w42 ⟨g11_40, 0, none⟩ 0 [.string s77_43, .string s77_44, .string s77_45, .int .u32 n77_46, .bool b77_47] ∧ ∃ (s79_48 : ByteArray) (s79_49 : ByteArray) (s79_50 : ByteArray) (n79_51 : Int) (b79_52 : Bool), cellsAt w42 ⟨g8_14, 1, none⟩ 0 [.string s79_48, .string s79_49, .string s79_50, .int .u32 n79_51, .bool b79_52] ∧ (bif (!(((s77_43 : ByteArray) == s79_48) && (((s77_44 : ByteArray) == s79_49) && (((s77_45 : ByteArray) == s79_50) && ((n77_46 == n79_51) && ((b77_47 == b79_52) && true)))))) then (R (.returned (.bool false)) w42) else ((bif (n62_28 == 9) then ((bif (!b68_37) then (R (.returned (.bool false)) w42) else (∃ (s91_53 : ByteArray), w42.cell? ⟨g11_40, 0, none⟩ = some (.string s91_53) ∧ ∃ (s94_54 : ByteArray), w42.cell? ⟨g8_14, 1, none⟩ = some (.string s94_54) ∧ (bif (s91_53 == s94_54) then (R (.returned (.bool false)) w42) else (SK Try.prog Try.f3 R (cfg Try.f3 23) [(0, .int .u8 n0_1), (1, .slice A1_4 l1_2 c1_3), (5, .pointer A5_5), (7, .int .i64 n7_6), (9, .slice A54_17 l54_18 c54_19), (10, .int .i64 n62_28)] w42))))) else (SK Try.prog Try.f3 R (cfg Try.f3 23) [(0, .int .u8 n0_1), (1, .slice A1_4 l1_2 c1_3), (5, .pointer A5_5), (7, .int .i64 n7_6), (9, .slice A54_17 l54_18 c54_19), (10, .int .i64 n62_28)] w42))))))) else ((bif (n62_28 == 9) then ((bif (!b68_37) then (R (.returned (.bool false)) w42) else (∃ (s91_55 : ByteArray), w42.cell? ⟨g11_40, 0, none⟩ = some (.string s91_55) ∧ ∃ (s94_56 : ByteArray), w42.cell? ⟨g8_14, 1, none⟩ = some (.string s94_56) ∧ (bif (s91_55 == s94_56) then (R (.returned (.bool false)) w42) else (SK Try.prog Try.f3 R (cfg Try.f3 23) [(0, .int .u8 n0_1), (1, .slice A1_4 l1_2 c1_3), (5, .pointer A5_5), (7, .int .i64 n7_6), (9, .slice A54_17 l54_18 c54_19), (10, .int .i64 n62_28)] w42))))) else (SK Try.prog Try.f3 R (cfg Try.f3 23) [(0, .int .u8 n0_1), (1, .slice A1_4 l1_2 c1_3), (5, .pointer A5_5), (7, .int .i64 n7_6), (9, .slice A54_17 l54_18 c54_19), (10, .int .i64 n62_28)] w42)))))
  ∨ ∃ ch39, en = .panicked ch39 ∧ R (.panicked ch39) w38)
  ∨ ∃ ch30, en = .panicked ch30 ∧ R (.panicked ch30) w29) else ((bif (n56_22 == 1) then (∃ (s104_57 : ByteArray), w20.cell? ⟨g8_14, 1, none⟩ = some (.string s104_57) ∧ Calls Try.prog 12 #[.pointer A5_5, .string s104_57] w20 fun en w59 =>
  (∃ (n105_58 : Int), en = .returned (.int .i64 n105_58) ∧ ∃ (s110_61 : ByteArray), w59.cell? ⟨g8_14, 1, none⟩ = some (.string s110_61) ∧ Calls Try.prog 13 #[.pointer A5_5, .string s110_61] w59 fun en w68 =>
  (∃ (s111_62 : ByteArray) (s111_63 : ByteArray) (s111_64 : ByteArray) (n111_65 : Int) (b111_66 : Bool) (b111_67 : Bool), en = .returned (.tuple #[.agg #[.string s111_62, .string s111_63, .string s111_64, .int .u32 n111_65, .bool b111_66], .bool b111_67]) ∧ newW Try.prog (Instr.alloc 33 true (.tuple #[])) w68 fun g13_70 w71 =>
  stW Try.prog 33 ⟨g13_70, 0, none⟩ (.agg #[.string s111_62, .string s111_63, .string s111_64, .int .u32 n111_65, .bool b111_66]) w71 fun w72 =>
  (bif b111_67 then (R (.returned (.bool false)) w72) else (SK Try.prog Try.f3 R (cfg Try.f3 23) [(0, .int .u8 n0_1), (1, .slice A1_4 l1_2 c1_3), (5, .pointer A5_5), (7, .int .i64 n7_6), (9, .slice A54_17 l54_18 c54_19), (10, .int .i64 n105_58)] w72)))
  ∨ ∃ ch69, en = .panicked ch69 ∧ R (.panicked ch69) w68)
  ∨ ∃ ch60, en = .panicked ch60 ∧ R (.panicked ch60) w59) else (SK Try.prog Try.f3 R (cfg Try.f3 23) [(0, .int .u8 n0_1), (1, .slice A1_4 l1_2 c1_3), (5, .pointer A5_5), (7, .int .i64 n7_6), (9, .slice A54_17 l54_18 c54_19), (10, .int .i64 0)] w20)))))
  ∨ ∃ ch21, en = .panicked ch21 ∧ R (.panicked ch21) w20) else (Calls Try.prog 7 #[] w fun en w74 =>
  (∃ (b214_73 : Bool), en = .returned (.bool b214_73) ∧ R (.returned (.bool b214_73)) w74)
  ∨ ∃ ch75, en = .panicked ch75 ∧ R (.panicked ch75) w74))
theorem p7_eq (R : Ending → World → Prop) (n0_1 : Int) (A1_4 : Option Addr) (l1_2 : Nat) (c1_3 : Nat) (A5_5 : Option Addr) (n7_6 : Int) (w : World) : p7 R n0_1 A1_4 l1_2 c1_3 A5_5 n7_6 w = pieceF Try.prog Try.f3 R stops 3000 (cfg Try.f3 7) [(0, .int .u8 n0_1), (1, .slice A1_4 l1_2 c1_3), (5, .pointer A5_5), (7, .int .i64 n7_6)] w := by kernel_rfl
theorem p7_ok {R : Ending → World → Prop} {n0_1 : Int} {A1_4 : Option Addr} {l1_2 : Nat} {c1_3 : Nat} {A5_5 : Option Addr} {n7_6 : Int} {w : World} (h : p7 R n0_1 A1_4 l1_2 c1_3 A5_5 n7_6 w) : SK Try.prog Try.f3 R (cfg Try.f3 7) [(0, .int .u8 n0_1), (1, .slice A1_4 l1_2 c1_3), (5, .pointer A5_5), (7, .int .i64 n7_6)] w := piece_sound mixed (Eq.mp (p7_eq R n0_1 A1_4 l1_2 c1_3 A5_5 n7_6 w) h)
def p23 (R : Ending → World → Prop) (n0_1 : Int) (A1_4 : Option Addr) (l1_2 : Nat) (c1_3 : Nat) (A5_5 : Option Addr) (n7_6 : Int) (A9_9 : Option Addr) (l9_7 : Nat) (c9_8 : Nat) (n10_10 : Int) (w : World) : Prop :=
  Calls Try.prog 9 #[.pointer A5_5] w fun en w14 =>
  (∃ (A116_11 : Option Addr) (l116_12 : Nat) (c116_13 : Nat), en = .returned (.slice A116_11 l116_12 c116_13) ∧ (bif (n10_10 != 0) then (Calls Try.prog 14 #[.slice A116_11 l116_12 c116_13, .slice A9_9 l9_7 c9_8] w14 fun en w17 =>
  (∃ (b122_16 : Bool), en = .returned (.bool b122_16) ∧ (bif (!b122_16) then (R (.returned (.bool false)) w17) else ((bif (decide (((l116_12 : Nat) : Int) > (IntKind.wrap .i64 (1 + (IntKind.wrap .i64 n0_1))))) then (R (.returned (.bool false)) w17) else (Calls Try.prog 15 #[.pointer A5_5] w17 fun en w20 =>
  (∃ (n135_19 : Int), en = .returned (.int .i64 n135_19) ∧ (bif (n135_19 != ((l116_12 : Nat) : Int)) then (R (.returned (.bool false)) w20) else (SK Try.prog Try.f3 R (cfg Try.f3 27) [(0, .int .u8 n0_1), (1, .slice A1_4 l1_2 c1_3), (5, .pointer A5_5), (7, .int .i64 n7_6), (15, .slice A116_11 l116_12 c116_13), (16, .int .i64 0)] w20)))
  ∨ ∃ ch21, en = .panicked ch21 ∧ R (.panicked ch21) w20)))))
  ∨ ∃ ch18, en = .panicked ch18 ∧ R (.panicked ch18) w17) else ((bif (decide (((l116_12 : Nat) : Int) > (IntKind.wrap .i64 (1 + (IntKind.wrap .i64 n0_1))))) then (R (.returned (.bool false)) w14) else (Calls Try.prog 15 #[.pointer A5_5] w14 fun en w23 =>
  (∃ (n135_22 : Int), en = .returned (.int .i64 n135_22) ∧ (bif (n135_22 != ((l116_12 : Nat) : Int)) then (R (.returned (.bool false)) w23) else (SK Try.prog Try.f3 R (cfg Try.f3 27) [(0, .int .u8 n0_1), (1, .slice A1_4 l1_2 c1_3), (5, .pointer A5_5), (7, .int .i64 n7_6), (15, .slice A116_11 l116_12 c116_13), (16, .int .i64 0)] w23)))
  ∨ ∃ ch24, en = .panicked ch24 ∧ R (.panicked ch24) w23)))))
  ∨ ∃ ch15, en = .panicked ch15 ∧ R (.panicked ch15) w14
theorem p23_eq (R : Ending → World → Prop) (n0_1 : Int) (A1_4 : Option Addr) (l1_2 : Nat) (c1_3 : Nat) (A5_5 : Option Addr) (n7_6 : Int) (A9_9 : Option Addr) (l9_7 : Nat) (c9_8 : Nat) (n10_10 : Int) (w : World) : p23 R n0_1 A1_4 l1_2 c1_3 A5_5 n7_6 A9_9 l9_7 c9_8 n10_10 w = pieceF Try.prog Try.f3 R stops 3000 (cfg Try.f3 23) [(0, .int .u8 n0_1), (1, .slice A1_4 l1_2 c1_3), (5, .pointer A5_5), (7, .int .i64 n7_6), (9, .slice A9_9 l9_7 c9_8), (10, .int .i64 n10_10)] w := by kernel_rfl
theorem p23_ok {R : Ending → World → Prop} {n0_1 : Int} {A1_4 : Option Addr} {l1_2 : Nat} {c1_3 : Nat} {A5_5 : Option Addr} {n7_6 : Int} {A9_9 : Option Addr} {l9_7 : Nat} {c9_8 : Nat} {n10_10 : Int} {w : World} (h : p23 R n0_1 A1_4 l1_2 c1_3 A5_5 n7_6 A9_9 l9_7 c9_8 n10_10 w) : SK Try.prog Try.f3 R (cfg Try.f3 23) [(0, .int .u8 n0_1), (1, .slice A1_4 l1_2 c1_3), (5, .pointer A5_5), (7, .int .i64 n7_6), (9, .slice A9_9 l9_7 c9_8), (10, .int .i64 n10_10)] w := piece_sound mixed (Eq.mp (p23_eq R n0_1 A1_4 l1_2 c1_3 A5_5 n7_6 A9_9 l9_7 c9_8 n10_10 w) h)
def p27 (R : Ending → World → Prop) (n0_1 : Int) (A1_4 : Option Addr) (l1_2 : Nat) (c1_3 : Nat) (A5_5 : Option Addr) (n7_6 : Int) (A15_9 : Option Addr) (l15_7 : Nat) (c15_8 : Nat) (n16_10 : Int) (w : World) : Prop :=
  (bif (decide (n16_10 < ((l15_7 : Nat) : Int))) then (idxck A15_9 l15_7 n16_10 fun a11 =>
  ∃ (s152_12 : ByteArray), w.cell? (a11.add (Int.toNat n16_10 * 5)) = some (.string s152_12) ∧ Calls Try.prog 13 #[.pointer A5_5, .string s152_12] w fun en w19 =>
  (∃ (s153_13 : ByteArray) (s153_14 : ByteArray) (s153_15 : ByteArray) (n153_16 : Int) (b153_17 : Bool) (b153_18 : Bool), en = .returned (.tuple #[.agg #[.string s153_13, .string s153_14, .string s153_15, .int .u32 n153_16, .bool b153_17], .bool b153_18]) ∧ newW Try.prog (Instr.alloc 33 true (.tuple #[])) w19 fun g17_21 w22 =>
  stW Try.prog 33 ⟨g17_21, 0, none⟩ (.agg #[.string s153_13, .string s153_14, .string s153_15, .int .u32 n153_16, .bool b153_17]) w22 fun w23 =>
  idxck A15_9 l15_7 n16_10 fun a24 =>
  ∃ (n162_25 : Int), w23.cell? ((a24.add (Int.toNat n16_10 * 5)).add 3) = some (.int .u32 n162_25) ∧ Calls Try.prog 11 #[.pointer A5_5, .int .u32 n162_25] w23 fun en w32 =>
  (∃ (s163_26 : ByteArray) (s163_27 : ByteArray) (s163_28 : ByteArray) (n163_29 : Int) (b163_30 : Bool) (b163_31 : Bool), en = .returned (.tuple #[.agg #[.string s163_26, .string s163_27, .string s163_28, .int .u32 n163_29, .bool b163_30], .bool b163_31]) ∧ newW Try.prog (Instr.alloc 33 true (.tuple #[])) w32 fun g19_34 w35 =>
  stW Try.prog 33 ⟨g19_34, 0, none⟩ (.agg #[.string s163_26, .string s163_27, .string s163_28, .int .u32 n163_29, .bool b163_30]) w35 fun w36 =>
  (bif (!b153_18) then (R (.returned (.bool false)) (World.drew w36)) else ((bif (!b163_31) then (R (.returned (.bool false)) (World.drew w36)) else (∃ (s173_37 : ByteArray) (s173_38 : ByteArray) (s173_39 : ByteArray) (n173_40 : Int) (b173_41 : Bool), cellsAt (World.drew w36) ⟨g17_21, 0, none⟩ 0 [.string s173_37, .string s173_38, .string s173_39, .int .u32 n173_40, .bool b173_41] ∧ idxck A15_9 l15_7 n16_10 fun a42 =>
  ∃ (s177_43 : ByteArray) (s177_44 : ByteArray) (s177_45 : ByteArray) (n177_46 : Int) (b177_47 : Bool), cellsAt (World.drew w36) (a42.add (Int.toNat n16_10 * 5)) 0 [.string s177_43, .string s177_44, .string s177_45, .int .u32 n177_46, .bool b177_47] ∧ (bif (!(((s173_37 : ByteArray) == s177_43) && (((s173_38 : ByteArray) == s177_44) && (((s173_39 : ByteArray) == s177_45) && ((n173_40 == n177_46) && ((b173_41 == b177_47) && true)))))) then (R (.returned (.bool false)) (World.drew w36)) else (∃ (s181_48 : ByteArray) (s181_49 : ByteArray) (s181_50 : ByteArray) (n181_51 : Int) (b181_52 : Bool), cellsAt (World.drew w36) ⟨g19_34, 0, none⟩ 0 [.string s181_48, .string s181_49, .string s181_50, .int .u32 n181_51, .bool b181_52] ∧ idxck A15_9 l15_7 n16_10 fun a53 =>
  ∃ (s185_54 : ByteArray) (s185_55 : ByteArray) (s185_56 : ByteArray) (n185_57 : Int) (b185_58 : Bool), cellsAt (World.drew w36) (a53.add (Int.toNat n16_10 * 5)) 0 [.string s185_54, .string s185_55, .string s185_56, .int .u32 n185_57, .bool b185_58] ∧ (bif (!(((s181_48 : ByteArray) == s185_54) && (((s181_49 : ByteArray) == s185_55) && (((s181_50 : ByteArray) == s185_56) && ((n181_51 == n185_57) && ((b181_52 == b185_58) && true)))))) then (R (.returned (.bool false)) (World.drew w36)) else ((bif (decide (n16_10 > 0)) then (idxck A15_9 l15_7 n16_10 fun a59 =>
  ∃ (s196_60 : ByteArray), (World.drew w36).cell? (a59.add (Int.toNat n16_10 * 5)) = some (.string s196_60) ∧ idxck A15_9 l15_7 (IntKind.wrap .i64 (n16_10 - 1)) fun a61 =>
  ∃ (s202_62 : ByteArray), (World.drew w36).cell? (a61.add (Int.toNat (IntKind.wrap .i64 (n16_10 - 1)) * 5)) = some (.string s202_62) ∧ (bif (Op.bytesLess (ByteArray.toList s196_60) (ByteArray.toList s202_62) || (ByteArray.toList s196_60 == ByteArray.toList s202_62)) then (R (.returned (.bool false)) (World.drew w36)) else (idxck A15_9 l15_7 n16_10 fun a63 =>
  ∃ (s210_64 : ByteArray) (s210_65 : ByteArray) (s210_66 : ByteArray) (n210_67 : Int) (b210_68 : Bool), cellsAt (World.drew w36) (a63.add (Int.toNat n16_10 * 5)) 0 [.string s210_64, .string s210_65, .string s210_66, .int .u32 n210_67, .bool b210_68] ∧ Calls Try.prog 16 #[.agg #[.string s210_64, .string s210_65, .string s210_66, .int .u32 n210_67, .bool b210_68]] (World.drew w36) fun en w70 =>
  (∃ (n211_69 : Int), en = .returned (.int .i64 n211_69) ∧ (bif (n211_69 != 0) then (R (.returned (.bool false)) w70) else (SK Try.prog Try.f3 R (cfg Try.f3 27) [(0, .int .u8 n0_1), (1, .slice A1_4 l1_2 c1_3), (5, .pointer A5_5), (7, .int .i64 n7_6), (15, .slice A15_9 l15_7 c15_8), (16, .int .i64 (IntKind.wrap .i64 (n16_10 + 1)))] w70)))
  ∨ ∃ ch71, en = .panicked ch71 ∧ R (.panicked ch71) w70))) else (idxck A15_9 l15_7 n16_10 fun a72 =>
  ∃ (s210_73 : ByteArray) (s210_74 : ByteArray) (s210_75 : ByteArray) (n210_76 : Int) (b210_77 : Bool), cellsAt (World.drew w36) (a72.add (Int.toNat n16_10 * 5)) 0 [.string s210_73, .string s210_74, .string s210_75, .int .u32 n210_76, .bool b210_77] ∧ Calls Try.prog 16 #[.agg #[.string s210_73, .string s210_74, .string s210_75, .int .u32 n210_76, .bool b210_77]] (World.drew w36) fun en w79 =>
  (∃ (n211_78 : Int), en = .returned (.int .i64 n211_78) ∧ (bif (n211_78 != 0) then (R (.returned (.bool false)) w79) else (SK Try.prog Try.f3 R (cfg Try.f3 27) [(0, .int .u8 n0_1), (1, .slice A1_4 l1_2 c1_3), (5, .pointer A5_5), (7, .int .i64 n7_6), (15, .slice A15_9 l15_7 c15_8), (16, .int .i64 (IntKind.wrap .i64 (n16_10 + 1)))] w79)))
  ∨ ∃ ch80, en = .panicked ch80 ∧ R (.panicked ch80) w79)))))))))))
  ∨ ∃ ch33, en = .panicked ch33 ∧ R (.panicked ch33) w32)
  ∨ ∃ ch20, en = .panicked ch20 ∧ R (.panicked ch20) w19) else (SK Try.prog Try.f3 R (cfg Try.f3 7) [(0, .int .u8 n0_1), (1, .slice A1_4 l1_2 c1_3), (5, .pointer A5_5), (7, .int .i64 (IntKind.wrap .i64 (n7_6 + 1)))] w))
theorem p27_eq (R : Ending → World → Prop) (n0_1 : Int) (A1_4 : Option Addr) (l1_2 : Nat) (c1_3 : Nat) (A5_5 : Option Addr) (n7_6 : Int) (A15_9 : Option Addr) (l15_7 : Nat) (c15_8 : Nat) (n16_10 : Int) (w : World) : p27 R n0_1 A1_4 l1_2 c1_3 A5_5 n7_6 A15_9 l15_7 c15_8 n16_10 w = pieceF Try.prog Try.f3 R stops 3000 (cfg Try.f3 27) [(0, .int .u8 n0_1), (1, .slice A1_4 l1_2 c1_3), (5, .pointer A5_5), (7, .int .i64 n7_6), (15, .slice A15_9 l15_7 c15_8), (16, .int .i64 n16_10)] w := by kernel_rfl
theorem p27_ok {R : Ending → World → Prop} {n0_1 : Int} {A1_4 : Option Addr} {l1_2 : Nat} {c1_3 : Nat} {A5_5 : Option Addr} {n7_6 : Int} {A15_9 : Option Addr} {l15_7 : Nat} {c15_8 : Nat} {n16_10 : Int} {w : World} (h : p27 R n0_1 A1_4 l1_2 c1_3 A5_5 n7_6 A15_9 l15_7 c15_8 n16_10 w) : SK Try.prog Try.f3 R (cfg Try.f3 27) [(0, .int .u8 n0_1), (1, .slice A1_4 l1_2 c1_3), (5, .pointer A5_5), (7, .int .i64 n7_6), (15, .slice A15_9 l15_7 c15_8), (16, .int .i64 n16_10)] w := piece_sound mixed (Eq.mp (p27_eq R n0_1 A1_4 l1_2 c1_3 A5_5 n7_6 A15_9 l15_7 c15_8 n16_10 w) h)
end F3

/-! ### 4: halyard/halyardlaw28.RecordPlays -/
namespace F4
def stops : Stops := [(3, [0, 1, 2, 3]), (8, [0, 1, 2, 3]), (10, [14, 15]), (11, [0, 1, 2, 3, 14, 15]), (15, [1, 2, 3, 14, 16, 17]), (31, [1, 2, 3, 14, 16, 17, 19])]
def main (R : Ending → World → Prop) (np0_1 : Int) (Ap1_2 : Option Addr) (lp1_3 : Nat) (cp1_4 : Nat) (sp2_5 : ByteArray) (np3_6 : Int) (w : World) : Prop :=
  (bif (decide (((lp1_3 : Nat) : Int) > 100)) then (Calls Try.prog 7 #[] w fun en w8 =>
  (∃ (b42_7 : Bool), en = .returned (.bool b42_7) ∧ R (.returned (.bool b42_7)) w8)
  ∨ ∃ ch9, en = .panicked ch9 ∧ R (.panicked ch9) w8) else (Calls Try.prog 6 #[.slice Ap1_2 lp1_3 cp1_4] w fun en w13 =>
  (∃ (A34_10 : Option Addr) (l34_11 : Nat) (c34_12 : Nat), en = .returned (.slice A34_10 l34_11 c34_12) ∧ Calls Try.prog 5 #[.slice A34_10 l34_11 c34_12] w13 fun en w16 =>
  (∃ (b35_15 : Bool), en = .returned (.bool b35_15) ∧ (bif b35_15 then (Calls Try.prog 7 #[] w16 fun en w19 =>
  (∃ (b42_18 : Bool), en = .returned (.bool b42_18) ∧ R (.returned (.bool b42_18)) w19)
  ∨ ∃ ch20, en = .panicked ch20 ∧ R (.panicked ch20) w19) else ((bif (decide (((ByteArray.size sp2_5 : Nat) : Int) > 1024)) then (Calls Try.prog 7 #[] w16 fun en w22 =>
  (∃ (b42_21 : Bool), en = .returned (.bool b42_21) ∧ R (.returned (.bool b42_21)) w22)
  ∨ ∃ ch23, en = .panicked ch23 ∧ R (.panicked ch23) w22) else (SK Try.prog Try.f4 R (cfg Try.f4 3) [(0, .int .i64 np0_1), (1, .slice Ap1_2 lp1_3 cp1_4), (2, .string sp2_5), (3, .int .u32 np3_6)] w16)))))
  ∨ ∃ ch17, en = .panicked ch17 ∧ R (.panicked ch17) w16)
  ∨ ∃ ch14, en = .panicked ch14 ∧ R (.panicked ch14) w13))
theorem main_eq (R : Ending → World → Prop) (np0_1 : Int) (Ap1_2 : Option Addr) (lp1_3 : Nat) (cp1_4 : Nat) (sp2_5 : ByteArray) (np3_6 : Int) (w : World) : main R np0_1 Ap1_2 lp1_3 cp1_4 sp2_5 np3_6 w = mainF Try.prog Try.f4 R stops 3000 [.int .i64 np0_1, .slice Ap1_2 lp1_3 cp1_4, .string sp2_5, .int .u32 np3_6] w := by kernel_rfl
theorem calls {R : Ending → World → Prop} {np0_1 : Int} {Ap1_2 : Option Addr} {lp1_3 : Nat} {cp1_4 : Nat} {sp2_5 : ByteArray} {np3_6 : Int} {w : World} (h : main R np0_1 Ap1_2 lp1_3 cp1_4 sp2_5 np3_6 w) : Calls Try.prog 4 #[.int .i64 np0_1, .slice Ap1_2 lp1_3 cp1_4, .string sp2_5, .int .u32 np3_6] w R := main_sound Try.func4 mixed (Eq.mp (main_eq R np0_1 Ap1_2 lp1_3 cp1_4 sp2_5 np3_6 w) h)
def p3 (R : Ending → World → Prop) (n0_1 : Int) (A1_4 : Option Addr) (l1_2 : Nat) (c1_3 : Nat) (s2_5 : ByteArray) (n3_6 : Int) (w : World) : Prop :=
  Calls Try.prog 13 #[.pointer none, .string s2_5] w fun en w13 =>
  (∃ (s46_7 : ByteArray) (s46_8 : ByteArray) (s46_9 : ByteArray) (n46_10 : Int) (b46_11 : Bool) (b46_12 : Bool), en = .returned (.tuple #[.agg #[.string s46_7, .string s46_8, .string s46_9, .int .u32 n46_10, .bool b46_11], .bool b46_12]) ∧ newW Try.prog (Instr.alloc 33 true (.tuple #[])) w13 fun g10_15 w16 =>
  stW Try.prog 33 ⟨g10_15, 0, none⟩ (.agg #[.string s46_7, .string s46_8, .string s46_9, .int .u32 n46_10, .bool b46_11]) w16 fun w17 =>
  Calls Try.prog 11 #[.pointer none, .int .u32 n3_6] w17 fun en w24 =>
  (∃ (s52_18 : ByteArray) (s52_19 : ByteArray) (s52_20 : ByteArray) (n52_21 : Int) (b52_22 : Bool) (b52_23 : Bool), en = .returned (.tuple #[.agg #[.string s52_18, .string s52_19, .string s52_20, .int .u32 n52_21, .bool b52_22], .bool b52_23]) ∧ newW Try.prog (Instr.alloc 33 true (.tuple #[])) w24 fun g12_26 w27 =>
  stW Try.prog 33 ⟨g12_26, 0, none⟩ (.agg #[.string s52_18, .string s52_19, .string s52_20, .int .u32 n52_21, .bool b52_22]) w27 fun w28 =>
  Calls Try.prog 10 #[.pointer none, .agg #[.string ({ data := #[] }), .string ({ data := #[] }), .string ({ data := #[] }), .int .u32 0, .bool false]] w28 fun en w30 =>
  (∃ (n57_29 : Int), en = .returned (.int .i64 n57_29) ∧ (bif (n57_29 != 1) then (R (.returned (.bool false)) w30) else (Calls Try.prog 12 #[.pointer none, .string ({ data := #[97] })] w30 fun en w33 =>
  (∃ (n61_32 : Int), en = .returned (.int .i64 n61_32) ∧ (bif (n61_32 != 1) then (R (.returned (.bool false)) w33) else ((bif b46_12 then (R (.returned (.bool false)) w33) else ((bif b52_23 then (R (.returned (.bool false)) w33) else (Calls Try.prog 15 #[.pointer none] w33 fun en w36 =>
  (∃ (n72_35 : Int), en = .returned (.int .i64 n72_35) ∧ Calls Try.prog 9 #[.pointer none] w36 fun en w41 =>
  (∃ (A74_38 : Option Addr) (l74_39 : Nat) (c74_40 : Nat), en = .returned (.slice A74_38 l74_39 c74_40) ∧ (bif ((IntKind.wrap .i64 (n72_35 + ((l74_39 : Nat) : Int))) != 0) then (R (.returned (.bool false)) w41) else (Calls Try.prog 17 #[.pointer none] w41 fun en w44 =>
  (∃ (A81_43 : Option Addr), en = .returned (.pointer A81_43) ∧ (bif (!(Option.isNone A81_43)) then (R (.returned (.bool false)) w44) else (SK Try.prog Try.f4 R (cfg Try.f4 8) [(0, .int .i64 n0_1), (1, .slice A1_4 l1_2 c1_3), (2, .string s2_5), (3, .int .u32 n3_6)] w44)))
  ∨ ∃ ch45, en = .panicked ch45 ∧ R (.panicked ch45) w44)))
  ∨ ∃ ch42, en = .panicked ch42 ∧ R (.panicked ch42) w41)
  ∨ ∃ ch37, en = .panicked ch37 ∧ R (.panicked ch37) w36)))))))
  ∨ ∃ ch34, en = .panicked ch34 ∧ R (.panicked ch34) w33)))
  ∨ ∃ ch31, en = .panicked ch31 ∧ R (.panicked ch31) w30)
  ∨ ∃ ch25, en = .panicked ch25 ∧ R (.panicked ch25) w24)
  ∨ ∃ ch14, en = .panicked ch14 ∧ R (.panicked ch14) w13
theorem p3_eq (R : Ending → World → Prop) (n0_1 : Int) (A1_4 : Option Addr) (l1_2 : Nat) (c1_3 : Nat) (s2_5 : ByteArray) (n3_6 : Int) (w : World) : p3 R n0_1 A1_4 l1_2 c1_3 s2_5 n3_6 w = pieceF Try.prog Try.f4 R stops 3000 (cfg Try.f4 3) [(0, .int .i64 n0_1), (1, .slice A1_4 l1_2 c1_3), (2, .string s2_5), (3, .int .u32 n3_6)] w := by kernel_rfl
theorem p3_ok {R : Ending → World → Prop} {n0_1 : Int} {A1_4 : Option Addr} {l1_2 : Nat} {c1_3 : Nat} {s2_5 : ByteArray} {n3_6 : Int} {w : World} (h : p3 R n0_1 A1_4 l1_2 c1_3 s2_5 n3_6 w) : SK Try.prog Try.f4 R (cfg Try.f4 3) [(0, .int .i64 n0_1), (1, .slice A1_4 l1_2 c1_3), (2, .string s2_5), (3, .int .u32 n3_6)] w := piece_sound mixed (Eq.mp (p3_eq R n0_1 A1_4 l1_2 c1_3 s2_5 n3_6 w) h)
def p8 (R : Ending → World → Prop) (n0_1 : Int) (A1_4 : Option Addr) (l1_2 : Nat) (c1_3 : Nat) (s2_5 : ByteArray) (n3_6 : Int) (w : World) : Prop :=
  Calls Try.prog 8 #[.int .i64 n0_1] w fun en w9 =>
  (∃ (A86_7 : Option Addr) (n86_8 : Int), en = .returned (.tuple #[.pointer A86_7, .int .i64 n86_8]) ∧ (bif (decide (n0_1 < 1)) then (SK Try.prog Try.f4 R (cfg Try.f4 10) [(14, .pointer A86_7), (15, .int .i64 n86_8)] w9) else ((bif (decide (n0_1 > 256)) then (SK Try.prog Try.f4 R (cfg Try.f4 10) [(14, .pointer A86_7), (15, .int .i64 n86_8)] w9) else (SK Try.prog Try.f4 R (cfg Try.f4 11) [(0, .int .i64 n0_1), (1, .slice A1_4 l1_2 c1_3), (2, .string s2_5), (3, .int .u32 n3_6), (14, .pointer A86_7), (15, .int .i64 n86_8)] w9)))))
  ∨ ∃ ch10, en = .panicked ch10 ∧ R (.panicked ch10) w9
theorem p8_eq (R : Ending → World → Prop) (n0_1 : Int) (A1_4 : Option Addr) (l1_2 : Nat) (c1_3 : Nat) (s2_5 : ByteArray) (n3_6 : Int) (w : World) : p8 R n0_1 A1_4 l1_2 c1_3 s2_5 n3_6 w = pieceF Try.prog Try.f4 R stops 3000 (cfg Try.f4 8) [(0, .int .i64 n0_1), (1, .slice A1_4 l1_2 c1_3), (2, .string s2_5), (3, .int .u32 n3_6)] w := by kernel_rfl
theorem p8_ok {R : Ending → World → Prop} {n0_1 : Int} {A1_4 : Option Addr} {l1_2 : Nat} {c1_3 : Nat} {s2_5 : ByteArray} {n3_6 : Int} {w : World} (h : p8 R n0_1 A1_4 l1_2 c1_3 s2_5 n3_6 w) : SK Try.prog Try.f4 R (cfg Try.f4 8) [(0, .int .i64 n0_1), (1, .slice A1_4 l1_2 c1_3), (2, .string s2_5), (3, .int .u32 n3_6)] w := piece_sound mixed (Eq.mp (p8_eq R n0_1 A1_4 l1_2 c1_3 s2_5 n3_6 w) h)
def p10 (R : Ending → World → Prop) (A14_1 : Option Addr) (n15_2 : Int) (w : World) : Prop :=
  (bif (Option.isNone A14_1) then ((bif (n15_2 == 2) then (Calls Try.prog 7 #[] w fun en w4 =>
  (∃ (b102_3 : Bool), en = .returned (.bool b102_3) ∧ R (.returned (.bool b102_3)) w4)
  ∨ ∃ ch5, en = .panicked ch5 ∧ R (.panicked ch5) w4) else (R (.returned (.bool false)) w))) else (R (.returned (.bool false)) w))
theorem p10_eq (R : Ending → World → Prop) (A14_1 : Option Addr) (n15_2 : Int) (w : World) : p10 R A14_1 n15_2 w = pieceF Try.prog Try.f4 R stops 3000 (cfg Try.f4 10) [(14, .pointer A14_1), (15, .int .i64 n15_2)] w := by kernel_rfl
theorem p10_ok {R : Ending → World → Prop} {A14_1 : Option Addr} {n15_2 : Int} {w : World} (h : p10 R A14_1 n15_2 w) : SK Try.prog Try.f4 R (cfg Try.f4 10) [(14, .pointer A14_1), (15, .int .i64 n15_2)] w := piece_sound mixed (Eq.mp (p10_eq R A14_1 n15_2 w) h)
def p11 (R : Ending → World → Prop) (n0_1 : Int) (A1_4 : Option Addr) (l1_2 : Nat) (c1_3 : Nat) (s2_5 : ByteArray) (n3_6 : Int) (A14_7 : Option Addr) (n15_8 : Int) (w : World) : Prop :=
  (bif (Option.isNone A14_7) then (R (.returned (.bool false)) w) else ((bif (n15_8 != 0) then (R (.returned (.bool false)) w) else (newW Try.prog (Instr.box 48 (.agg #[.int .i64 n0_1, .slice none 0 0])) w fun g112_9 w10 =>
  SK Try.prog Try.f4 R (cfg Try.f4 15) [(1, .slice A1_4 l1_2 c1_3), (2, .string s2_5), (3, .int .u32 n3_6), (14, .pointer A14_7), (16, .pointer (some ⟨g112_9, 0, none⟩)), (17, .int .i64 0)] w10))))
theorem p11_eq (R : Ending → World → Prop) (n0_1 : Int) (A1_4 : Option Addr) (l1_2 : Nat) (c1_3 : Nat) (s2_5 : ByteArray) (n3_6 : Int) (A14_7 : Option Addr) (n15_8 : Int) (w : World) : p11 R n0_1 A1_4 l1_2 c1_3 s2_5 n3_6 A14_7 n15_8 w = pieceF Try.prog Try.f4 R stops 3000 (cfg Try.f4 11) [(0, .int .i64 n0_1), (1, .slice A1_4 l1_2 c1_3), (2, .string s2_5), (3, .int .u32 n3_6), (14, .pointer A14_7), (15, .int .i64 n15_8)] w := by kernel_rfl
theorem p11_ok {R : Ending → World → Prop} {n0_1 : Int} {A1_4 : Option Addr} {l1_2 : Nat} {c1_3 : Nat} {s2_5 : ByteArray} {n3_6 : Int} {A14_7 : Option Addr} {n15_8 : Int} {w : World} (h : p11 R n0_1 A1_4 l1_2 c1_3 s2_5 n3_6 A14_7 n15_8 w) : SK Try.prog Try.f4 R (cfg Try.f4 11) [(0, .int .i64 n0_1), (1, .slice A1_4 l1_2 c1_3), (2, .string s2_5), (3, .int .u32 n3_6), (14, .pointer A14_7), (15, .int .i64 n15_8)] w := piece_sound mixed (Eq.mp (p11_eq R n0_1 A1_4 l1_2 c1_3 s2_5 n3_6 A14_7 n15_8 w) h)
def p15 (R : Ending → World → Prop) (A1_3 : Option Addr) (l1_1 : Nat) (c1_2 : Nat) (s2_4 : ByteArray) (n3_5 : Int) (A14_6 : Option Addr) (g16_7 : Nat) (n17_8 : Int) (w : World) : Prop :=
  (bif (decide (n17_8 < ((l1_1 : Nat) : Int))) then (idxck A1_3 l1_1 n17_8 fun a9 =>
  ∃ (n122_10 : Int) (s122_11 : ByteArray) (s122_12 : ByteArray) (s122_13 : ByteArray) (n122_14 : Int) (b122_15 : Bool), cellsAt w (a9.add (Int.toNat n17_8 * 6)) 0 [.int .i64 n122_10, .string s122_11, .string s122_12, .string s122_13, .int .u32 n122_14, .bool b122_15] ∧ newW Try.prog (Instr.alloc 35 true (.tuple #[])) w fun g18_16 w17 =>
  stW Try.prog 35 ⟨g18_16, 0, none⟩ (.agg #[.int .i64 n122_10, .string s122_11, .string s122_12, .string s122_13, .int .u32 n122_14, .bool b122_15]) w17 fun w18 =>
  ∃ (s124_19 : ByteArray) (s124_20 : ByteArray) (s124_21 : ByteArray) (n124_22 : Int) (b124_23 : Bool), cellsAt (World.drew w18) ⟨g18_16, 1, none⟩ 0 [.string s124_19, .string s124_20, .string s124_21, .int .u32 n124_22, .bool b124_23] ∧ ∃ (s127_24 : ByteArray) (s127_25 : ByteArray) (s127_26 : ByteArray) (n127_27 : Int) (b127_28 : Bool), cellsAt (World.drew w18) ⟨g18_16, 1, none⟩ 0 [.string s127_24, .string s127_25, .string s127_26, .int .u32 n127_27, .bool b127_28] ∧ Calls Try.prog 16 #[.agg #[.string s124_19, .string s124_20, .string s124_21, .int .u32 n124_22, .bool b124_23]] (World.drew w18) fun en w30 =>
  (∃ (n125_29 : Int), en = .returned (.int .i64 n125_29) ∧ (cellsAt (World.drew w18) ⟨g18_16, 1, none⟩ 0 [.string s127_24, .string s127_25, .string s127_26, .int .u32 n127_27, .bool b127_28] → cellsAt w30 ⟨g18_16, 1, none⟩ 0 [.string s127_24, .string s127_25, .string s127_26, .int .u32 n127_27, .bool b127_28]) ∧ Calls Try.prog 18 #[.agg #[.string s127_24, .string s127_25, .string s127_26, .int .u32 n127_27, .bool b127_28]] w30 fun en w33 =>
  (∃ (n128_32 : Int), en = .returned (.int .i64 n128_32) ∧ ∃ (n131_35 : Int), w33.cell? ⟨g18_16, 0, none⟩ = some (.int .i64 n131_35) ∧ (bif (n131_35 == 0) then ((bif (n125_29 == n128_32) then (∃ (s138_36 : ByteArray) (s138_37 : ByteArray) (s138_38 : ByteArray) (n138_39 : Int) (b138_40 : Bool), cellsAt (World.drew w33) ⟨g18_16, 1, none⟩ 0 [.string s138_36, .string s138_37, .string s138_38, .int .u32 n138_39, .bool b138_40] ∧ ∃ (s142_41 : ByteArray) (s142_42 : ByteArray) (s142_43 : ByteArray) (n142_44 : Int) (b142_45 : Bool), cellsAt (World.drew w33) ⟨g18_16, 1, none⟩ 0 [.string s142_41, .string s142_42, .string s142_43, .int .u32 n142_44, .bool b142_45] ∧ Calls Try.prog 10 #[.pointer A14_6, .agg #[.string s138_36, .string s138_37, .string s138_38, .int .u32 n138_39, .bool b138_40]] (World.drew w33) fun en w47 =>
  (∃ (n139_46 : Int), en = .returned (.int .i64 n139_46) ∧ (cellsAt (World.drew w33) ⟨g18_16, 1, none⟩ 0 [.string s142_41, .string s142_42, .string s142_43, .int .u32 n142_44, .bool b142_45] → cellsAt w47 ⟨g18_16, 1, none⟩ 0 [.string s142_41, .string s142_42, .string s142_43, .int .u32 n142_44, .bool b142_45]) ∧ Calls Try.prog 19 #[.pointer (some ⟨g16_7, 0, none⟩), .agg #[.string s142_41, .string s142_42, .string s142_43, .int .u32 n142_44, .bool b142_45]] w47 fun en w50 =>
  (∃ (n143_49 : Int), en = .returned (.int .i64 n143_49) ∧ SK Try.prog Try.f4 R (cfg Try.f4 31) [(1, .slice A1_3 l1_1 c1_2), (2, .string s2_4), (3, .int .u32 n3_5), (14, .pointer A14_6), (16, .pointer (some ⟨g16_7, 0, none⟩)), (17, .int .i64 n17_8), (19, .bool (n139_46 == n143_49))] w50)
  ∨ ∃ ch51, en = .panicked ch51 ∧ R (.panicked ch51) w50)
  ∨ ∃ ch48, en = .panicked ch48 ∧ R (.panicked ch48) w47) else (SK Try.prog Try.f4 R (cfg Try.f4 31) [(1, .slice A1_3 l1_1 c1_2), (2, .string s2_4), (3, .int .u32 n3_5), (14, .pointer A14_6), (16, .pointer (some ⟨g16_7, 0, none⟩)), (17, .int .i64 n17_8), (19, .bool false)] (World.drew w33)))) else ((bif (n131_35 == 1) then ((bif (n125_29 == n128_32) then (∃ (s153_52 : ByteArray), (World.drew w33).cell? ⟨g18_16, 1, none⟩ = some (.string s153_52) ∧ ∃ (s158_53 : ByteArray), (World.drew w33).cell? ⟨g18_16, 1, none⟩ = some (.string s158_53) ∧ Calls Try.prog 12 #[.pointer A14_6, .string s153_52] (World.drew w33) fun en w55 =>
  (∃ (n154_54 : Int), en = .returned (.int .i64 n154_54) ∧ ((World.drew w33).cell? ⟨g18_16, 1, none⟩ = some (.string s158_53) → w55.cell? ⟨g18_16, 1, none⟩ = some (.string s158_53)) ∧ Calls Try.prog 20 #[.pointer (some ⟨g16_7, 0, none⟩), .string s158_53] w55 fun en w58 =>
  (∃ (n159_57 : Int), en = .returned (.int .i64 n159_57) ∧ SK Try.prog Try.f4 R (cfg Try.f4 31) [(1, .slice A1_3 l1_1 c1_2), (2, .string s2_4), (3, .int .u32 n3_5), (14, .pointer A14_6), (16, .pointer (some ⟨g16_7, 0, none⟩)), (17, .int .i64 n17_8), (19, .bool (n154_54 == n159_57))] w58)
  ∨ ∃ ch59, en = .panicked ch59 ∧ R (.panicked ch59) w58)
  ∨ ∃ ch56, en = .panicked ch56 ∧ R (.panicked ch56) w55) else (SK Try.prog Try.f4 R (cfg Try.f4 31) [(1, .slice A1_3 l1_1 c1_2), (2, .string s2_4), (3, .int .u32 n3_5), (14, .pointer A14_6), (16, .pointer (some ⟨g16_7, 0, none⟩)), (17, .int .i64 n17_8), (19, .bool false)] (World.drew w33)))) else ((bif (n131_35 == 2) then (Calls Try.prog 17 #[.pointer A14_6] w33 fun en w61 =>
  (∃ (A166_60 : Option Addr), en = .returned (.pointer A166_60) ∧ (bif (Option.isNone A166_60) then (R (.returned (.bool false)) w61) else (∃ (s172_63 : ByteArray), w61.cell? ⟨g18_16, 1, none⟩ = some (.string s172_63) ∧ Calls Try.prog 12 #[.pointer A14_6, .string s172_63] w61 fun en w65 =>
  (∃ (n173_64 : Int), en = .returned (.int .i64 n173_64) ∧ Calls Try.prog 21 #[.string ({ data := #[115, 112, 111, 105, 108, 116] }), .int .u32 77] w65 fun en w72 =>
  (∃ (s175_67 : ByteArray) (s175_68 : ByteArray) (s175_69 : ByteArray) (n175_70 : Int) (b175_71 : Bool), en = .returned (.agg #[.string s175_67, .string s175_68, .string s175_69, .int .u32 n175_70, .bool b175_71]) ∧ Calls Try.prog 10 #[.pointer A14_6, .agg #[.string s175_67, .string s175_68, .string s175_69, .int .u32 n175_70, .bool b175_71]] w72 fun en w75 =>
  (∃ (n176_74 : Int), en = .returned (.int .i64 n176_74) ∧ SK Try.prog Try.f4 R (cfg Try.f4 31) [(1, .slice A1_3 l1_1 c1_2), (2, .string s2_4), (3, .int .u32 n3_5), (14, .pointer A166_60), (16, .pointer (some ⟨g16_7, 0, none⟩)), (17, .int .i64 n17_8), (19, .bool (n125_29 == n128_32))] w75)
  ∨ ∃ ch76, en = .panicked ch76 ∧ R (.panicked ch76) w75)
  ∨ ∃ ch73, en = .panicked ch73 ∧ R (.panicked ch73) w72)
  ∨ ∃ ch66, en = .panicked ch66 ∧ R (.panicked ch66) w65)))
  ∨ ∃ ch62, en = .panicked ch62 ∧ R (.panicked ch62) w61) else (SK Try.prog Try.f4 R (cfg Try.f4 31) [(1, .slice A1_3 l1_1 c1_2), (2, .string s2_4), (3, .int .u32 n3_5), (14, .pointer A14_6), (16, .pointer (some ⟨g16_7, 0, none⟩)), (17, .int .i64 n17_8), (19, .bool (n125_29 == n128_32))] w33)))))))
  ∨ ∃ ch34, en = .panicked ch34 ∧ R (.panicked ch34) w33)
  ∨ ∃ ch31, en = .panicked ch31 ∧ R (.panicked ch31) w30) else (Calls Try.prog 7 #[] w fun en w78 =>
  (∃ (b243_77 : Bool), en = .returned (.bool b243_77) ∧ R (.returned (.bool b243_77)) w78)
  ∨ ∃ ch79, en = .panicked ch79 ∧ R (.panicked ch79) w78))
theorem p15_eq (R : Ending → World → Prop) (A1_3 : Option Addr) (l1_1 : Nat) (c1_2 : Nat) (s2_4 : ByteArray) (n3_5 : Int) (A14_6 : Option Addr) (g16_7 : Nat) (n17_8 : Int) (w : World) : p15 R A1_3 l1_1 c1_2 s2_4 n3_5 A14_6 g16_7 n17_8 w = pieceF Try.prog Try.f4 R stops 3000 (cfg Try.f4 15) [(1, .slice A1_3 l1_1 c1_2), (2, .string s2_4), (3, .int .u32 n3_5), (14, .pointer A14_6), (16, .pointer (some ⟨g16_7, 0, none⟩)), (17, .int .i64 n17_8)] w := by kernel_rfl
theorem p15_ok {R : Ending → World → Prop} {A1_3 : Option Addr} {l1_1 : Nat} {c1_2 : Nat} {s2_4 : ByteArray} {n3_5 : Int} {A14_6 : Option Addr} {g16_7 : Nat} {n17_8 : Int} {w : World} (h : p15 R A1_3 l1_1 c1_2 s2_4 n3_5 A14_6 g16_7 n17_8 w) : SK Try.prog Try.f4 R (cfg Try.f4 15) [(1, .slice A1_3 l1_1 c1_2), (2, .string s2_4), (3, .int .u32 n3_5), (14, .pointer A14_6), (16, .pointer (some ⟨g16_7, 0, none⟩)), (17, .int .i64 n17_8)] w := piece_sound mixed (Eq.mp (p15_eq R A1_3 l1_1 c1_2 s2_4 n3_5 A14_6 g16_7 n17_8 w) h)
def p31 (R : Ending → World → Prop) (A1_3 : Option Addr) (l1_1 : Nat) (c1_2 : Nat) (s2_4 : ByteArray) (n3_5 : Int) (A14_6 : Option Addr) (g16_7 : Nat) (n17_8 : Int) (b19_9 : Bool) (w : World) : Prop :=
  Calls Try.prog 13 #[.pointer A14_6, .string s2_4] w fun en w16 =>
  (∃ (s180_10 : ByteArray) (s180_11 : ByteArray) (s180_12 : ByteArray) (n180_13 : Int) (b180_14 : Bool) (b180_15 : Bool), en = .returned (.tuple #[.agg #[.string s180_10, .string s180_11, .string s180_12, .int .u32 n180_13, .bool b180_14], .bool b180_15]) ∧ newW Try.prog (Instr.alloc 33 true (.tuple #[])) w16 fun g21_18 w19 =>
  stW Try.prog 33 ⟨g21_18, 0, none⟩ (.agg #[.string s180_10, .string s180_11, .string s180_12, .int .u32 n180_13, .bool b180_14]) w19 fun w20 =>
  Calls Try.prog 22 #[.pointer (some ⟨g16_7, 0, none⟩), .string s2_4] w20 fun en w27 =>
  (∃ (s186_21 : ByteArray) (s186_22 : ByteArray) (s186_23 : ByteArray) (n186_24 : Int) (b186_25 : Bool) (b186_26 : Bool), en = .returned (.tuple #[.agg #[.string s186_21, .string s186_22, .string s186_23, .int .u32 n186_24, .bool b186_25], .bool b186_26]) ∧ newW Try.prog (Instr.alloc 33 true (.tuple #[])) w27 fun g23_29 w30 =>
  stW Try.prog 33 ⟨g23_29, 0, none⟩ (.agg #[.string s186_21, .string s186_22, .string s186_23, .int .u32 n186_24, .bool b186_25]) w30 fun w31 =>
  Calls Try.prog 11 #[.pointer A14_6, .int .u32 n3_5] w31 fun en w38 =>
  (∃ (s192_32 : ByteArray) (s192_33 : ByteArray) (s192_34 : ByteArray) (n192_35 : Int) (b192_36 : Bool) (b192_37 : Bool), en = .returned (.tuple #[.agg #[.string s192_32, .string s192_33, .string s192_34, .int .u32 n192_35, .bool b192_36], .bool b192_37]) ∧ newW Try.prog (Instr.alloc 33 true (.tuple #[])) w38 fun g25_40 w41 =>
  stW Try.prog 33 ⟨g25_40, 0, none⟩ (.agg #[.string s192_32, .string s192_33, .string s192_34, .int .u32 n192_35, .bool b192_36]) w41 fun w42 =>
  Calls Try.prog 23 #[.pointer (some ⟨g16_7, 0, none⟩), .int .u32 n3_5] w42 fun en w49 =>
  (∃ (s198_43 : ByteArray) (s198_44 : ByteArray) (s198_45 : ByteArray) (n198_46 : Int) (b198_47 : Bool) (b198_48 : Bool), en = .returned (.tuple #[.agg #[.string s198_43, .string s198_44, .string s198_45, .int .u32 n198_46, .bool b198_47], .bool b198_48]) ∧ newW Try.prog (Instr.alloc 33 true (.tuple #[])) w49 fun g27_51 w52 =>
  stW Try.prog 33 ⟨g27_51, 0, none⟩ (.agg #[.string s198_43, .string s198_44, .string s198_45, .int .u32 n198_46, .bool b198_47]) w52 fun w53 =>
  (bif (!b19_9) then (R (.returned (.bool false)) (World.drew w53)) else (∃ (s204_54 : ByteArray) (s204_55 : ByteArray) (s204_56 : ByteArray) (n204_57 : Int) (b204_58 : Bool), cellsAt (World.drew w53) ⟨g21_18, 0, none⟩ 0 [.string s204_54, .string s204_55, .string s204_56, .int .u32 n204_57, .bool b204_58] ∧ ∃ (s205_59 : ByteArray) (s205_60 : ByteArray) (s205_61 : ByteArray) (n205_62 : Int) (b205_63 : Bool), cellsAt (World.drew w53) ⟨g23_29, 0, none⟩ 0 [.string s205_59, .string s205_60, .string s205_61, .int .u32 n205_62, .bool b205_63] ∧ (bif (!(((s204_54 : ByteArray) == s205_59) && (((s204_55 : ByteArray) == s205_60) && (((s204_56 : ByteArray) == s205_61) && ((n204_57 == n205_62) && ((b204_58 == b205_63) && true)))))) then (R (.returned (.bool false)) (World.drew w53)) else ((bif (!(b180_15 == b186_26)) then (R (.returned (.bool false)) (World.drew w53)) else (∃ (s214_64 : ByteArray) (s214_65 : ByteArray) (s214_66 : ByteArray) (n214_67 : Int) (b214_68 : Bool), cellsAt (World.drew w53) ⟨g25_40, 0, none⟩ 0 [.string s214_64, .string s214_65, .string s214_66, .int .u32 n214_67, .bool b214_68] ∧ ∃ (s215_69 : ByteArray) (s215_70 : ByteArray) (s215_71 : ByteArray) (n215_72 : Int) (b215_73 : Bool), cellsAt (World.drew w53) ⟨g27_51, 0, none⟩ 0 [.string s215_69, .string s215_70, .string s215_71, .int .u32 n215_72, .bool b215_73] ∧ (bif (!(((s214_64 : ByteArray) == s215_69) && (((s214_65 : ByteArray) == s215_70) && (((s214_66 : ByteArray) == s215_71) && ((n214_67 == n215_72) && ((b214_68 == b215_73) && true)))))) then (R (.returned (.bool false)) (World.drew w53)) else ((bif (!(b192_37 == b198_48)) then (R (.returned (.bool false)) (World.drew w53)) else (∃ (A229_74 : Option Addr) (l229_75 : Nat) (c229_76 : Nat), (World.drew w53).cell? ⟨g16_7, 1, none⟩ = some (.slice A229_74 l229_75 c229_76) ∧ Calls Try.prog 15 #[.pointer A14_6] (World.drew w53) fun en w78 =>
  (∃ (n225_77 : Int), en = .returned (.int .i64 n225_77) ∧ ((World.drew w53).cell? ⟨g16_7, 1, none⟩ = some (.slice A229_74 l229_75 c229_76) → w78.cell? ⟨g16_7, 1, none⟩ = some (.slice A229_74 l229_75 c229_76)) ∧ (bif (n225_77 != ((l229_75 : Nat) : Int)) then (R (.returned (.bool false)) w78) else (∃ (A239_80 : Option Addr) (l239_81 : Nat) (c239_82 : Nat), w78.cell? ⟨g16_7, 1, none⟩ = some (.slice A239_80 l239_81 c239_82) ∧ Calls Try.prog 9 #[.pointer A14_6] w78 fun en w86 =>
  (∃ (A235_83 : Option Addr) (l235_84 : Nat) (c235_85 : Nat), en = .returned (.slice A235_83 l235_84 c235_85) ∧ (w78.cell? ⟨g16_7, 1, none⟩ = some (.slice A239_80 l239_81 c239_82) → w86.cell? ⟨g16_7, 1, none⟩ = some (.slice A239_80 l239_81 c239_82)) ∧ Calls Try.prog 14 #[.slice A235_83 l235_84 c235_85, .slice A239_80 l239_81 c239_82] w86 fun en w89 =>
  (∃ (b240_88 : Bool), en = .returned (.bool b240_88) ∧ (bif (!b240_88) then (R (.returned (.bool false)) w89) else (SK Try.prog Try.f4 R (cfg Try.f4 15) [(1, .slice A1_3 l1_1 c1_2), (2, .string s2_4), (3, .int .u32 n3_5), (14, .pointer A14_6), (16, .pointer (some ⟨g16_7, 0, none⟩)), (17, .int .i64 (IntKind.wrap .i64 (n17_8 + 1)))] w89)))
  ∨ ∃ ch90, en = .panicked ch90 ∧ R (.panicked ch90) w89)
  ∨ ∃ ch87, en = .panicked ch87 ∧ R (.panicked ch87) w86)))
  ∨ ∃ ch79, en = .panicked ch79 ∧ R (.panicked ch79) w78)))))))))))
  ∨ ∃ ch50, en = .panicked ch50 ∧ R (.panicked ch50) w49)
  ∨ ∃ ch39, en = .panicked ch39 ∧ R (.panicked ch39) w38)
  ∨ ∃ ch28, en = .panicked ch28 ∧ R (.panicked ch28) w27)
  ∨ ∃ ch17, en = .panicked ch17 ∧ R (.panicked ch17) w16
theorem p31_eq (R : Ending → World → Prop) (A1_3 : Option Addr) (l1_1 : Nat) (c1_2 : Nat) (s2_4 : ByteArray) (n3_5 : Int) (A14_6 : Option Addr) (g16_7 : Nat) (n17_8 : Int) (b19_9 : Bool) (w : World) : p31 R A1_3 l1_1 c1_2 s2_4 n3_5 A14_6 g16_7 n17_8 b19_9 w = pieceF Try.prog Try.f4 R stops 3000 (cfg Try.f4 31) [(1, .slice A1_3 l1_1 c1_2), (2, .string s2_4), (3, .int .u32 n3_5), (14, .pointer A14_6), (16, .pointer (some ⟨g16_7, 0, none⟩)), (17, .int .i64 n17_8), (19, .bool b19_9)] w := by kernel_rfl
theorem p31_ok {R : Ending → World → Prop} {A1_3 : Option Addr} {l1_1 : Nat} {c1_2 : Nat} {s2_4 : ByteArray} {n3_5 : Int} {A14_6 : Option Addr} {g16_7 : Nat} {n17_8 : Int} {b19_9 : Bool} {w : World} (h : p31 R A1_3 l1_1 c1_2 s2_4 n3_5 A14_6 g16_7 n17_8 b19_9 w) : SK Try.prog Try.f4 R (cfg Try.f4 31) [(1, .slice A1_3 l1_1 c1_2), (2, .string s2_4), (3, .int .u32 n3_5), (14, .pointer A14_6), (16, .pointer (some ⟨g16_7, 0, none⟩)), (17, .int .i64 n17_8), (19, .bool b19_9)] w := piece_sound mixed (Eq.mp (p31_eq R A1_3 l1_1 c1_2 s2_4 n3_5 A14_6 g16_7 n17_8 b19_9 w) h)
end F4

/-! ### 5: halyard/halyardlaw28.Long -/
namespace F5
def stops : Stops := [(3, [0, 3, 4]), (5, [0, 3, 4]), (6, [0, 3])]
def main (R : Ending → World → Prop) (Ap0_1 : Option Addr) (lp0_2 : Nat) (cp0_3 : Nat) (w : World) : Prop :=
  SK Try.prog Try.f5 R (cfg Try.f5 3) [(0, .slice Ap0_1 lp0_2 cp0_3), (3, .int .i64 0), (4, .int .i64 0)] w
theorem main_eq (R : Ending → World → Prop) (Ap0_1 : Option Addr) (lp0_2 : Nat) (cp0_3 : Nat) (w : World) : main R Ap0_1 lp0_2 cp0_3 w = mainF Try.prog Try.f5 R stops 3000 [.slice Ap0_1 lp0_2 cp0_3] w := by kernel_rfl
theorem calls {R : Ending → World → Prop} {Ap0_1 : Option Addr} {lp0_2 : Nat} {cp0_3 : Nat} {w : World} (h : main R Ap0_1 lp0_2 cp0_3 w) : Calls Try.prog 5 #[.slice Ap0_1 lp0_2 cp0_3] w R := main_sound Try.func5 mixed (Eq.mp (main_eq R Ap0_1 lp0_2 cp0_3 w) h)
def p3 (R : Ending → World → Prop) (A0_3 : Option Addr) (l0_1 : Nat) (c0_2 : Nat) (n3_4 : Int) (n4_5 : Int) (w : World) : Prop :=
  (bif (decide (n4_5 < ((l0_1 : Nat) : Int))) then ((bif (decide (n4_5 < 200)) then (SK Try.prog Try.f5 R (cfg Try.f5 5) [(0, .slice A0_3 l0_1 c0_2), (3, .int .i64 n3_4), (4, .int .i64 n4_5)] w) else (SK Try.prog Try.f5 R (cfg Try.f5 6) [(0, .slice A0_3 l0_1 c0_2), (3, .int .i64 n3_4)] w))) else (SK Try.prog Try.f5 R (cfg Try.f5 6) [(0, .slice A0_3 l0_1 c0_2), (3, .int .i64 n3_4)] w))
theorem p3_eq (R : Ending → World → Prop) (A0_3 : Option Addr) (l0_1 : Nat) (c0_2 : Nat) (n3_4 : Int) (n4_5 : Int) (w : World) : p3 R A0_3 l0_1 c0_2 n3_4 n4_5 w = pieceF Try.prog Try.f5 R stops 3000 (cfg Try.f5 3) [(0, .slice A0_3 l0_1 c0_2), (3, .int .i64 n3_4), (4, .int .i64 n4_5)] w := by kernel_rfl
theorem p3_ok {R : Ending → World → Prop} {A0_3 : Option Addr} {l0_1 : Nat} {c0_2 : Nat} {n3_4 : Int} {n4_5 : Int} {w : World} (h : p3 R A0_3 l0_1 c0_2 n3_4 n4_5 w) : SK Try.prog Try.f5 R (cfg Try.f5 3) [(0, .slice A0_3 l0_1 c0_2), (3, .int .i64 n3_4), (4, .int .i64 n4_5)] w := piece_sound mixed (Eq.mp (p3_eq R A0_3 l0_1 c0_2 n3_4 n4_5 w) h)
def p5 (R : Ending → World → Prop) (A0_3 : Option Addr) (l0_1 : Nat) (c0_2 : Nat) (n3_4 : Int) (n4_5 : Int) (w : World) : Prop :=
  idxck A0_3 l0_1 n4_5 fun a6 =>
  ∃ (s20_7 : ByteArray), (World.drew w).cell? (a6.add (Int.toNat n4_5 * 5)) = some (.string s20_7) ∧ idxck A0_3 l0_1 n4_5 fun a8 =>
  ∃ (s27_9 : ByteArray), (World.drew w).cell? ((a8.add (Int.toNat n4_5 * 5)).add 1) = some (.string s27_9) ∧ idxck A0_3 l0_1 n4_5 fun a10 =>
  ∃ (s34_11 : ByteArray), (World.drew w).cell? ((a10.add (Int.toNat n4_5 * 5)).add 2) = some (.string s34_11) ∧ SK Try.prog Try.f5 R (cfg Try.f5 3) [(0, .slice A0_3 l0_1 c0_2), (3, .int .i64 (IntKind.wrap .i64 ((IntKind.wrap .i64 ((IntKind.wrap .i64 (n3_4 + ((ByteArray.size s20_7 : Nat) : Int))) + ((ByteArray.size s27_9 : Nat) : Int))) + ((ByteArray.size s34_11 : Nat) : Int)))), (4, .int .i64 (IntKind.wrap .i64 (n4_5 + 1)))] (World.drew w)
theorem p5_eq (R : Ending → World → Prop) (A0_3 : Option Addr) (l0_1 : Nat) (c0_2 : Nat) (n3_4 : Int) (n4_5 : Int) (w : World) : p5 R A0_3 l0_1 c0_2 n3_4 n4_5 w = pieceF Try.prog Try.f5 R stops 3000 (cfg Try.f5 5) [(0, .slice A0_3 l0_1 c0_2), (3, .int .i64 n3_4), (4, .int .i64 n4_5)] w := by kernel_rfl
theorem p5_ok {R : Ending → World → Prop} {A0_3 : Option Addr} {l0_1 : Nat} {c0_2 : Nat} {n3_4 : Int} {n4_5 : Int} {w : World} (h : p5 R A0_3 l0_1 c0_2 n3_4 n4_5 w) : SK Try.prog Try.f5 R (cfg Try.f5 5) [(0, .slice A0_3 l0_1 c0_2), (3, .int .i64 n3_4), (4, .int .i64 n4_5)] w := piece_sound mixed (Eq.mp (p5_eq R A0_3 l0_1 c0_2 n3_4 n4_5 w) h)
def p6 (R : Ending → World → Prop) (A0_3 : Option Addr) (l0_1 : Nat) (c0_2 : Nat) (n3_4 : Int) (w : World) : Prop :=
  (bif (decide (((l0_1 : Nat) : Int) > 100)) then (R (.returned (.bool true)) w) else (R (.returned (.bool (decide (n3_4 > 8192)))) w))
theorem p6_eq (R : Ending → World → Prop) (A0_3 : Option Addr) (l0_1 : Nat) (c0_2 : Nat) (n3_4 : Int) (w : World) : p6 R A0_3 l0_1 c0_2 n3_4 w = pieceF Try.prog Try.f5 R stops 3000 (cfg Try.f5 6) [(0, .slice A0_3 l0_1 c0_2), (3, .int .i64 n3_4)] w := by kernel_rfl
theorem p6_ok {R : Ending → World → Prop} {A0_3 : Option Addr} {l0_1 : Nat} {c0_2 : Nat} {n3_4 : Int} {w : World} (h : p6 R A0_3 l0_1 c0_2 n3_4 w) : SK Try.prog Try.f5 R (cfg Try.f5 6) [(0, .slice A0_3 l0_1 c0_2), (3, .int .i64 n3_4)] w := piece_sound mixed (Eq.mp (p6_eq R A0_3 l0_1 c0_2 n3_4 w) h)
end F5

/-! ### 6: halyard/halyardlaw28.of -/
namespace F6
def stops : Stops := [(3, [0, 3, 4])]
def main (R : Ending → World → Prop) (Ap0_1 : Option Addr) (lp0_2 : Nat) (cp0_3 : Nat) (w : World) : Prop :=
  SK Try.prog Try.f6 R (cfg Try.f6 3) [(0, .slice Ap0_1 lp0_2 cp0_3), (3, .slice none 0 0), (4, .int .i64 0)] w
theorem main_eq (R : Ending → World → Prop) (Ap0_1 : Option Addr) (lp0_2 : Nat) (cp0_3 : Nat) (w : World) : main R Ap0_1 lp0_2 cp0_3 w = mainF Try.prog Try.f6 R stops 3000 [.slice Ap0_1 lp0_2 cp0_3] w := by kernel_rfl
theorem calls {R : Ending → World → Prop} {Ap0_1 : Option Addr} {lp0_2 : Nat} {cp0_3 : Nat} {w : World} (h : main R Ap0_1 lp0_2 cp0_3 w) : Calls Try.prog 6 #[.slice Ap0_1 lp0_2 cp0_3] w R := main_sound Try.func6 mixed (Eq.mp (main_eq R Ap0_1 lp0_2 cp0_3 w) h)
def p3 (R : Ending → World → Prop) (A0_3 : Option Addr) (l0_1 : Nat) (c0_2 : Nat) (A3_6 : Option Addr) (l3_4 : Nat) (c3_5 : Nat) (n4_7 : Int) (w : World) : Prop :=
  (bif (decide (n4_7 < ((l0_1 : Nat) : Int))) then ((bif (decide (n4_7 < 200)) then (idxck A0_3 l0_1 n4_7 fun a8 =>
  ∃ (s20_9 : ByteArray) (s20_10 : ByteArray) (s20_11 : ByteArray) (n20_12 : Int) (b20_13 : Bool), cellsAt w ((a8.add (Int.toNat n4_7 * 6)).add 1) 0 [.string s20_9, .string s20_10, .string s20_11, .int .u32 n20_12, .bool b20_13] ∧ bslW Try.prog 1 (Instr.buildSlice 24 1 #[(0, .agg #[.string s20_9, .string s20_10, .string s20_11, .int .u32 n20_12, .bool b20_13])]) w fun g21_14 w15 =>
  slW Try.prog (Builtin.append_ #[24, 24] 24 #[.slice A3_6 l3_4 c3_5, .slice (some ⟨g21_14, 0, none⟩) 1 1]) w15 fun A22_17 l22_18 c22_19 w16 =>
  SK Try.prog Try.f6 R (cfg Try.f6 3) [(0, .slice A0_3 l0_1 c0_2), (3, .slice A22_17 l22_18 c22_19), (4, .int .i64 (IntKind.wrap .i64 (n4_7 + 1)))] w16) else (R (.returned (.slice A3_6 l3_4 c3_5)) w))) else (R (.returned (.slice A3_6 l3_4 c3_5)) w))
theorem p3_eq (R : Ending → World → Prop) (A0_3 : Option Addr) (l0_1 : Nat) (c0_2 : Nat) (A3_6 : Option Addr) (l3_4 : Nat) (c3_5 : Nat) (n4_7 : Int) (w : World) : p3 R A0_3 l0_1 c0_2 A3_6 l3_4 c3_5 n4_7 w = pieceF Try.prog Try.f6 R stops 3000 (cfg Try.f6 3) [(0, .slice A0_3 l0_1 c0_2), (3, .slice A3_6 l3_4 c3_5), (4, .int .i64 n4_7)] w := by kernel_rfl
theorem p3_ok {R : Ending → World → Prop} {A0_3 : Option Addr} {l0_1 : Nat} {c0_2 : Nat} {A3_6 : Option Addr} {l3_4 : Nat} {c3_5 : Nat} {n4_7 : Int} {w : World} (h : p3 R A0_3 l0_1 c0_2 A3_6 l3_4 c3_5 n4_7 w) : SK Try.prog Try.f6 R (cfg Try.f6 3) [(0, .slice A0_3 l0_1 c0_2), (3, .slice A3_6 l3_4 c3_5), (4, .int .i64 n4_7)] w := piece_sound mixed (Eq.mp (p3_eq R A0_3 l0_1 c0_2 A3_6 l3_4 c3_5 n4_7 w) h)
end F6

/-! ### 7: halyard/halyardlaw28.alive -/
namespace F7
def stops : Stops := [(5, [1, 4])]
def main (R : Ending → World → Prop)  (w : World) : Prop :=
  Calls Try.prog 8 #[.int .i64 5] w fun en w3 =>
  (∃ (A19_1 : Option Addr) (n19_2 : Int), en = .returned (.tuple #[.pointer A19_1, .int .i64 n19_2]) ∧ Calls Try.prog 8 #[.int .i64 0] w3 fun en w7 =>
  (∃ (A23_5 : Option Addr) (n23_6 : Int), en = .returned (.tuple #[.pointer A23_5, .int .i64 n23_6]) ∧ (bif (n19_2 != 0) then (R (.returned (.bool false)) w7) else ((bif (Option.isNone A19_1) then (R (.returned (.bool false)) w7) else (SK Try.prog Try.f7 R (cfg Try.f7 5) [(1, .pointer A19_1), (4, .int .i64 n23_6)] w7)))))
  ∨ ∃ ch8, en = .panicked ch8 ∧ R (.panicked ch8) w7)
  ∨ ∃ ch4, en = .panicked ch4 ∧ R (.panicked ch4) w3
theorem main_eq (R : Ending → World → Prop)  (w : World) : main R  w = mainF Try.prog Try.f7 R stops 3000 [] w := by kernel_rfl
theorem calls {R : Ending → World → Prop}  {w : World} (h : main R  w) : Calls Try.prog 7 #[] w R := main_sound Try.func7 mixed (Eq.mp (main_eq R  w) h)
def p5 (R : Ending → World → Prop) (A1_1 : Option Addr) (n4_2 : Int) (w : World) : Prop :=
  Calls Try.prog 21 #[.string ({ data := #[117] }), .int .u32 5] w fun en w8 =>
  (∃ (s33_3 : ByteArray) (s33_4 : ByteArray) (s33_5 : ByteArray) (n33_6 : Int) (b33_7 : Bool), en = .returned (.agg #[.string s33_3, .string s33_4, .string s33_5, .int .u32 n33_6, .bool b33_7]) ∧ Calls Try.prog 10 #[.pointer A1_1, .agg #[.string s33_3, .string s33_4, .string s33_5, .int .u32 n33_6, .bool b33_7]] w8 fun en w11 =>
  (∃ (n34_10 : Int), en = .returned (.int .i64 n34_10) ∧ Calls Try.prog 21 #[.string ({ data := #[118] }), .int .u32 5] w11 fun en w18 =>
  (∃ (s36_13 : ByteArray) (s36_14 : ByteArray) (s36_15 : ByteArray) (n36_16 : Int) (b36_17 : Bool), en = .returned (.agg #[.string s36_13, .string s36_14, .string s36_15, .int .u32 n36_16, .bool b36_17]) ∧ Calls Try.prog 10 #[.pointer A1_1, .agg #[.string s36_13, .string s36_14, .string s36_15, .int .u32 n36_16, .bool b36_17]] w18 fun en w21 =>
  (∃ (n37_20 : Int), en = .returned (.int .i64 n37_20) ∧ Calls Try.prog 21 #[.string ({ data := #[117] }), .int .u32 6] w21 fun en w28 =>
  (∃ (s39_23 : ByteArray) (s39_24 : ByteArray) (s39_25 : ByteArray) (n39_26 : Int) (b39_27 : Bool), en = .returned (.agg #[.string s39_23, .string s39_24, .string s39_25, .int .u32 n39_26, .bool b39_27]) ∧ Calls Try.prog 10 #[.pointer A1_1, .agg #[.string s39_23, .string s39_24, .string s39_25, .int .u32 n39_26, .bool b39_27]] w28 fun en w31 =>
  (∃ (n40_30 : Int), en = .returned (.int .i64 n40_30) ∧ Calls Try.prog 21 #[.string ({ data := #[118] }), .int .u32 5] w31 fun en w38 =>
  (∃ (s42_33 : ByteArray) (s42_34 : ByteArray) (s42_35 : ByteArray) (n42_36 : Int) (b42_37 : Bool), en = .returned (.agg #[.string s42_33, .string s42_34, .string s42_35, .int .u32 n42_36, .bool b42_37]) ∧ Calls Try.prog 10 #[.pointer A1_1, .agg #[.string s42_33, .string s42_34, .string s42_35, .int .u32 n42_36, .bool b42_37]] w38 fun en w41 =>
  (∃ (n43_40 : Int), en = .returned (.int .i64 n43_40) ∧ Calls Try.prog 11 #[.pointer A1_1, .int .u32 6] w41 fun en w49 =>
  (∃ (s46_43 : ByteArray) (s46_44 : ByteArray) (s46_45 : ByteArray) (n46_46 : Int) (b46_47 : Bool) (b46_48 : Bool), en = .returned (.tuple #[.agg #[.string s46_43, .string s46_44, .string s46_45, .int .u32 n46_46, .bool b46_47], .bool b46_48]) ∧ newW Try.prog (Instr.alloc 33 true (.tuple #[])) w49 fun g9_51 w52 =>
  stW Try.prog 33 ⟨g9_51, 0, none⟩ (.agg #[.string s46_43, .string s46_44, .string s46_45, .int .u32 n46_46, .bool b46_47]) w52 fun w53 =>
  Calls Try.prog 12 #[.pointer A1_1, .string ({ data := #[117] })] w53 fun en w55 =>
  (∃ (n50_54 : Int), en = .returned (.int .i64 n50_54) ∧ Calls Try.prog 11 #[.pointer A1_1, .int .u32 6] w55 fun en w63 =>
  (∃ (s53_57 : ByteArray) (s53_58 : ByteArray) (s53_59 : ByteArray) (n53_60 : Int) (b53_61 : Bool) (b53_62 : Bool), en = .returned (.tuple #[.agg #[.string s53_57, .string s53_58, .string s53_59, .int .u32 n53_60, .bool b53_61], .bool b53_62]) ∧ newW Try.prog (Instr.alloc 33 true (.tuple #[])) w63 fun g12_65 w66 =>
  stW Try.prog 33 ⟨g12_65, 0, none⟩ (.agg #[.string s53_57, .string s53_58, .string s53_59, .int .u32 n53_60, .bool b53_61]) w66 fun w67 =>
  Calls Try.prog 21 #[.string ({ data := #[117] }), .int .u32 258] w67 fun en w73 =>
  (∃ (s57_68 : ByteArray) (s57_69 : ByteArray) (s57_70 : ByteArray) (n57_71 : Int) (b57_72 : Bool), en = .returned (.agg #[.string s57_68, .string s57_69, .string s57_70, .int .u32 n57_71, .bool b57_72]) ∧ Calls Try.prog 24 #[.agg #[.string s57_68, .string s57_69, .string s57_70, .int .u32 n57_71, .bool b57_72]] w73 fun en w77 =>
  (∃ (s58_75 : ByteArray) (n58_76 : Int), en = .returned (.tuple #[.string s58_75, .int .i64 n58_76]) ∧ Calls Try.prog 25 #[.string s58_75] w77 fun en w85 =>
  (∃ (s63_79 : ByteArray) (s63_80 : ByteArray) (s63_81 : ByteArray) (n63_82 : Int) (b63_83 : Bool) (n63_84 : Int), en = .returned (.tuple #[.agg #[.string s63_79, .string s63_80, .string s63_81, .int .u32 n63_82, .bool b63_83], .int .i64 n63_84]) ∧ newW Try.prog (Instr.alloc 33 true (.tuple #[])) w85 fun g16_87 w88 =>
  stW Try.prog 33 ⟨g16_87, 0, none⟩ (.agg #[.string s63_79, .string s63_80, .string s63_81, .int .u32 n63_82, .bool b63_83]) w88 fun w89 =>
  (bif (n4_2 == 2) then ((bif (n34_10 == 0) then ((bif (n37_20 == 9) then ((bif (n40_30 == 0) then ((bif (n43_40 == 0) then (∃ (s85_90 : ByteArray) (s85_91 : ByteArray) (s85_92 : ByteArray) (n85_93 : Int) (b85_94 : Bool), cellsAt (World.drew w89) ⟨g9_51, 0, none⟩ 0 [.string s85_90, .string s85_91, .string s85_92, .int .u32 n85_93, .bool b85_94] ∧ Calls Try.prog 21 #[.string ({ data := #[117] }), .int .u32 6] (World.drew w89) fun en w100 =>
  (∃ (s86_95 : ByteArray) (s86_96 : ByteArray) (s86_97 : ByteArray) (n86_98 : Int) (b86_99 : Bool), en = .returned (.agg #[.string s86_95, .string s86_96, .string s86_97, .int .u32 n86_98, .bool b86_99]) ∧ (cellsAt (World.drew w89) ⟨g9_51, 0, none⟩ 0 [.string s85_90, .string s85_91, .string s85_92, .int .u32 n85_93, .bool b85_94] → cellsAt w100 ⟨g9_51, 0, none⟩ 0 [.string s85_90, .string s85_91, .string s85_92, .int .u32 n85_93, .bool b85_94]) ∧ (bif (((s85_90 : ByteArray) == s86_95) && (((s85_91 : ByteArray) == s86_96) && (((s85_92 : ByteArray) == s86_97) && ((n85_93 == n86_98) && ((b85_94 == b86_99) && true))))) then ((bif b46_48 then ((bif (n50_54 == 0) then ((bif (!b53_62) then ((bif (s58_75 == { data := #[1, 117, 0, 1, 112, 0, 0, 1, 2, 0] }) then ((bif (n58_76 == 0) then (∃ (s109_102 : ByteArray) (s109_103 : ByteArray) (s109_104 : ByteArray) (n109_105 : Int) (b109_106 : Bool), cellsAt w100 ⟨g16_87, 0, none⟩ 0 [.string s109_102, .string s109_103, .string s109_104, .int .u32 n109_105, .bool b109_106] ∧ Calls Try.prog 21 #[.string ({ data := #[117] }), .int .u32 258] w100 fun en w112 =>
  (∃ (s110_107 : ByteArray) (s110_108 : ByteArray) (s110_109 : ByteArray) (n110_110 : Int) (b110_111 : Bool), en = .returned (.agg #[.string s110_107, .string s110_108, .string s110_109, .int .u32 n110_110, .bool b110_111]) ∧ (cellsAt w100 ⟨g16_87, 0, none⟩ 0 [.string s109_102, .string s109_103, .string s109_104, .int .u32 n109_105, .bool b109_106] → cellsAt w112 ⟨g16_87, 0, none⟩ 0 [.string s109_102, .string s109_103, .string s109_104, .int .u32 n109_105, .bool b109_106]) ∧ (bif (((s109_102 : ByteArray) == s110_107) && (((s109_103 : ByteArray) == s110_108) && (((s109_104 : ByteArray) == s110_109) && ((n109_105 == n110_110) && ((b109_106 == b110_111) && true))))) then ((bif (n63_84 == 0) then (Calls Try.prog 21 #[.string ({ data := #[117] }), .int .u32 0] w112 fun en w119 =>
  (∃ (s118_114 : ByteArray) (s118_115 : ByteArray) (s118_116 : ByteArray) (n118_117 : Int) (b118_118 : Bool), en = .returned (.agg #[.string s118_114, .string s118_115, .string s118_116, .int .u32 n118_117, .bool b118_118]) ∧ Calls Try.prog 16 #[.agg #[.string s118_114, .string s118_115, .string s118_116, .int .u32 n118_117, .bool b118_118]] w119 fun en w122 =>
  (∃ (n119_121 : Int), en = .returned (.int .i64 n119_121) ∧ R (.returned (.bool (n119_121 == 2))) w122)
  ∨ ∃ ch123, en = .panicked ch123 ∧ R (.panicked ch123) w122)
  ∨ ∃ ch120, en = .panicked ch120 ∧ R (.panicked ch120) w119) else (R (.returned (.bool false)) w112))) else (R (.returned (.bool false)) w112)))
  ∨ ∃ ch113, en = .panicked ch113 ∧ R (.panicked ch113) w112) else (R (.returned (.bool false)) w100))) else (R (.returned (.bool false)) w100))) else (R (.returned (.bool false)) w100))) else (R (.returned (.bool false)) w100))) else (R (.returned (.bool false)) w100))) else (R (.returned (.bool false)) w100)))
  ∨ ∃ ch101, en = .panicked ch101 ∧ R (.panicked ch101) w100) else (R (.returned (.bool false)) (World.drew w89)))) else (R (.returned (.bool false)) (World.drew w89)))) else (R (.returned (.bool false)) (World.drew w89)))) else (R (.returned (.bool false)) (World.drew w89)))) else (R (.returned (.bool false)) (World.drew w89))))
  ∨ ∃ ch86, en = .panicked ch86 ∧ R (.panicked ch86) w85)
  ∨ ∃ ch78, en = .panicked ch78 ∧ R (.panicked ch78) w77)
  ∨ ∃ ch74, en = .panicked ch74 ∧ R (.panicked ch74) w73)
  ∨ ∃ ch64, en = .panicked ch64 ∧ R (.panicked ch64) w63)
  ∨ ∃ ch56, en = .panicked ch56 ∧ R (.panicked ch56) w55)
  ∨ ∃ ch50, en = .panicked ch50 ∧ R (.panicked ch50) w49)
  ∨ ∃ ch42, en = .panicked ch42 ∧ R (.panicked ch42) w41)
  ∨ ∃ ch39, en = .panicked ch39 ∧ R (.panicked ch39) w38)
  ∨ ∃ ch32, en = .panicked ch32 ∧ R (.panicked ch32) w31)
  ∨ ∃ ch29, en = .panicked ch29 ∧ R (.panicked ch29) w28)
  ∨ ∃ ch22, en = .panicked ch22 ∧ R (.panicked ch22) w21)
  ∨ ∃ ch19, en = .panicked ch19 ∧ R (.panicked ch19) w18)
  ∨ ∃ ch12, en = .panicked ch12 ∧ R (.panicked ch12) w11)
  ∨ ∃ ch9, en = .panicked ch9 ∧ R (.panicked ch9) w8
theorem p5_eq (R : Ending → World → Prop) (A1_1 : Option Addr) (n4_2 : Int) (w : World) : p5 R A1_1 n4_2 w = pieceF Try.prog Try.f7 R stops 3000 (cfg Try.f7 5) [(1, .pointer A1_1), (4, .int .i64 n4_2)] w := by kernel_rfl
theorem p5_ok {R : Ending → World → Prop} {A1_1 : Option Addr} {n4_2 : Int} {w : World} (h : p5 R A1_1 n4_2 w) : SK Try.prog Try.f7 R (cfg Try.f7 5) [(1, .pointer A1_1), (4, .int .i64 n4_2)] w := piece_sound mixed (Eq.mp (p5_eq R A1_1 n4_2 w) h)
end F7

/-! ### 8: halyard/record.New -/
namespace F8
def stops : Stops := []
def main (R : Ending → World → Prop) (np0_1 : Int) (w : World) : Prop :=
  (bif (decide (np0_1 < 1)) then (R (.returned (.tuple #[.pointer none, .int .i64 2])) w) else ((bif (decide (np0_1 > 256)) then (R (.returned (.tuple #[.pointer none, .int .i64 2])) w) else (mkmW Try.prog (Instr.makeMap 55 none) w fun g10_2 w3 =>
  mkmW Try.prog (Instr.makeMap 56 none) w3 fun g11_4 w5 =>
  newW Try.prog (Instr.box 60 (.agg #[.map (some g10_2), .map (some g11_4), .int .i64 np0_1])) w5 fun g15_6 w7 =>
  R (.returned (.tuple #[.pointer (some ⟨g15_6, 0, none⟩), .int .i64 0])) w7))))
theorem main_eq (R : Ending → World → Prop) (np0_1 : Int) (w : World) : main R np0_1 w = mainF Try.prog Try.f8 R stops 3000 [.int .i64 np0_1] w := by kernel_rfl
theorem calls {R : Ending → World → Prop} {np0_1 : Int} {w : World} (h : main R np0_1 w) : Calls Try.prog 8 #[.int .i64 np0_1] w R := main_sound Try.func8 mixed (Eq.mp (main_eq R np0_1 w) h)
end F8

/-! ### 9: (*halyard/record.File).List -/
namespace F9
def stops : Stops := []
def main (R : Ending → World → Prop) (Ap0_1 : Option Addr) (w : World) : Prop :=
  (bif (Option.isNone Ap0_1) then (R (.returned (.slice none 0 0)) w) else (nilck Ap0_1 fun a2 =>
  ∃ (m9_3 : Option Nat), w.cell? a2 = some (.map m9_3) ∧ Calls Try.prog 26 #[.map m9_3, .func (.func 27) #[] #[]] w fun en w7 =>
  (∃ (A10_4 : Option Addr) (l10_5 : Nat) (c10_6 : Nat), en = .returned (.slice A10_4 l10_5 c10_6) ∧ R (.returned (.slice A10_4 l10_5 c10_6)) w7)
  ∨ ∃ ch8, en = .panicked ch8 ∧ R (.panicked ch8) w7))
theorem main_eq (R : Ending → World → Prop) (Ap0_1 : Option Addr) (w : World) : main R Ap0_1 w = mainF Try.prog Try.f9 R stops 3000 [.pointer Ap0_1] w := by kernel_rfl
theorem calls {R : Ending → World → Prop} {Ap0_1 : Option Addr} {w : World} (h : main R Ap0_1 w) : Calls Try.prog 9 #[.pointer Ap0_1] w R := main_sound Try.func9 mixed (Eq.mp (main_eq R Ap0_1 w) h)
end F9

/-! ### 10: (*halyard/record.File).Put -/
namespace F10
def stops : Stops := [(9, [0, 3, 5, 6]), (11, [0, 3, 5, 6]), (13, [0, 3])]
def main (R : Ending → World → Prop) (Ap0_1 : Option Addr) (sp1_2 : ByteArray) (sp1_3 : ByteArray) (sp1_4 : ByteArray) (np1_5 : Int) (bp1_6 : Bool) (w : World) : Prop :=
  newW Try.prog (Instr.box 33 (.agg #[.string sp1_2, .string sp1_3, .string sp1_4, .int .u32 np1_5, .bool bp1_6])) w fun g3_7 w8 =>
  (bif (Option.isNone Ap0_1) then (R (.returned (.int .i64 1)) w8) else (nilck Ap0_1 fun a9 =>
  ∃ (m16_10 : Option Nat), (World.drew w8).cell? a9 = some (.map m16_10) ∧ ∃ (s18_11 : ByteArray), (World.drew w8).cell? ⟨g3_7, 0, none⟩ = some (.string s18_11) ∧ ∃ (s19_12 : ByteArray) (s19_13 : ByteArray) (s19_14 : ByteArray) (n19_15 : Int) (b19_16 : Bool) (b19_17 : Bool), (Instr.lookup 55 (.map m16_10) (.string s18_11) true).run Try.prog (World.drew w8) = .ok (.tuple #[.agg #[.string s19_12, .string s19_13, .string s19_14, .int .u32 n19_15, .bool b19_16], .bool b19_17]) (World.drew w8) ∧ newW Try.prog (Instr.alloc 33 true (.tuple #[])) (World.drew w8) fun g5_18 w19 =>
  ((Instr.lookup 55 (.map m16_10) (.string s18_11) true).run Try.prog (World.drew w8) = .ok (.tuple #[.agg #[.string s19_12, .string s19_13, .string s19_14, .int .u32 n19_15, .bool b19_16], .bool b19_17]) (World.drew w8) → (Instr.lookup 55 (.map m16_10) (.string s18_11) true).run Try.prog w19 = .ok (.tuple #[.agg #[.string s19_12, .string s19_13, .string s19_14, .int .u32 n19_15, .bool b19_16], .bool b19_17]) w19) ∧ stW Try.prog 33 ⟨g5_18, 0, none⟩ (.agg #[.string s19_12, .string s19_13, .string s19_14, .int .u32 n19_15, .bool b19_16]) w19 fun w20 =>
  nilck Ap0_1 fun a21 =>
  ∃ (m27_22 : Option Nat), (World.drew w20).cell? (a21.add 1) = some (.map m27_22) ∧ ∃ (n29_23 : Int), (World.drew w20).cell? ⟨g3_7, 3, none⟩ = some (.int .u32 n29_23) ∧ ∃ (s30_24 : ByteArray) (b30_25 : Bool), (Instr.lookup 56 (.map m27_22) (.int .u32 n29_23) true).run Try.prog (World.drew w20) = .ok (.tuple #[.agg #[.string s30_24], .bool b30_25]) (World.drew w20) ∧ newW Try.prog (Instr.alloc 64 true (.tuple #[])) (World.drew w20) fun g7_26 w27 =>
  ((Instr.lookup 56 (.map m27_22) (.int .u32 n29_23) true).run Try.prog (World.drew w20) = .ok (.tuple #[.agg #[.string s30_24], .bool b30_25]) (World.drew w20) → (Instr.lookup 56 (.map m27_22) (.int .u32 n29_23) true).run Try.prog w27 = .ok (.tuple #[.agg #[.string s30_24], .bool b30_25]) w27) ∧ stW Try.prog 64 ⟨g7_26, 0, none⟩ (.agg #[.string s30_24]) w27 fun w28 =>
  ∃ (s34_29 : ByteArray) (s34_30 : ByteArray) (s34_31 : ByteArray) (n34_32 : Int) (b34_33 : Bool), cellsAt w28 ⟨g3_7, 0, none⟩ 0 [.string s34_29, .string s34_30, .string s34_31, .int .u32 n34_32, .bool b34_33] ∧ Calls Try.prog 16 #[.agg #[.string s34_29, .string s34_30, .string s34_31, .int .u32 n34_32, .bool b34_33]] w28 fun en w35 =>
  (∃ (n35_34 : Int), en = .returned (.int .i64 n35_34) ∧ (bif (n35_34 != 0) then (R (.returned (.int .i64 2)) w35) else ((bif b30_25 then (∃ (s41_37 : ByteArray), w35.cell? ⟨g7_26, 0, none⟩ = some (.string s41_37) ∧ ∃ (s43_38 : ByteArray), w35.cell? ⟨g3_7, 0, none⟩ = some (.string s43_38) ∧ (bif (!(s41_37 == s43_38)) then (R (.returned (.int .i64 9)) w35) else (SK Try.prog Try.f10 R (cfg Try.f10 9) [(0, .pointer Ap0_1), (3, .pointer (some ⟨g3_7, 0, none⟩)), (5, .pointer (some ⟨g5_18, 0, none⟩)), (6, .bool b19_17)] w35))) else (SK Try.prog Try.f10 R (cfg Try.f10 9) [(0, .pointer Ap0_1), (3, .pointer (some ⟨g3_7, 0, none⟩)), (5, .pointer (some ⟨g5_18, 0, none⟩)), (6, .bool b19_17)] w35)))))
  ∨ ∃ ch36, en = .panicked ch36 ∧ R (.panicked ch36) w35))
theorem main_eq (R : Ending → World → Prop) (Ap0_1 : Option Addr) (sp1_2 : ByteArray) (sp1_3 : ByteArray) (sp1_4 : ByteArray) (np1_5 : Int) (bp1_6 : Bool) (w : World) : main R Ap0_1 sp1_2 sp1_3 sp1_4 np1_5 bp1_6 w = mainF Try.prog Try.f10 R stops 3000 [.pointer Ap0_1, .agg #[.string sp1_2, .string sp1_3, .string sp1_4, .int .u32 np1_5, .bool bp1_6]] w := by kernel_rfl
theorem calls {R : Ending → World → Prop} {Ap0_1 : Option Addr} {sp1_2 : ByteArray} {sp1_3 : ByteArray} {sp1_4 : ByteArray} {np1_5 : Int} {bp1_6 : Bool} {w : World} (h : main R Ap0_1 sp1_2 sp1_3 sp1_4 np1_5 bp1_6 w) : Calls Try.prog 10 #[.pointer Ap0_1, .agg #[.string sp1_2, .string sp1_3, .string sp1_4, .int .u32 np1_5, .bool bp1_6]] w R := main_sound Try.func10 mixed (Eq.mp (main_eq R Ap0_1 sp1_2 sp1_3 sp1_4 np1_5 bp1_6 w) h)
def p9 (R : Ending → World → Prop) (A0_1 : Option Addr) (g3_2 : Nat) (g5_3 : Nat) (b6_4 : Bool) (w : World) : Prop :=
  (bif (!b6_4) then (nilck A0_1 fun a5 =>
  ∃ (m54_6 : Option Nat), (World.drew w).cell? a5 = some (.map m54_6) ∧ ∃ (n55_7 : Int), (Builtin.len_ #[55] 3 #[.map m54_6]).run Try.prog (World.drew w) = .ok (.int .i64 n55_7) (World.drew w) ∧ nilck A0_1 fun a8 =>
  ∃ (n59_9 : Int), (World.drew w).cell? (a8.add 2) = some (.int .i64 n59_9) ∧ (bif (decide (n55_7 ≥ n59_9)) then (R (.returned (.int .i64 4)) (World.drew w)) else (SK Try.prog Try.f10 R (cfg Try.f10 11) [(0, .pointer A0_1), (3, .pointer (some ⟨g3_2, 0, none⟩)), (5, .pointer (some ⟨g5_3, 0, none⟩)), (6, .bool b6_4)] (World.drew w)))) else (SK Try.prog Try.f10 R (cfg Try.f10 11) [(0, .pointer A0_1), (3, .pointer (some ⟨g3_2, 0, none⟩)), (5, .pointer (some ⟨g5_3, 0, none⟩)), (6, .bool b6_4)] (World.drew w)))
theorem p9_eq (R : Ending → World → Prop) (A0_1 : Option Addr) (g3_2 : Nat) (g5_3 : Nat) (b6_4 : Bool) (w : World) : p9 R A0_1 g3_2 g5_3 b6_4 w = pieceF Try.prog Try.f10 R stops 3000 (cfg Try.f10 9) [(0, .pointer A0_1), (3, .pointer (some ⟨g3_2, 0, none⟩)), (5, .pointer (some ⟨g5_3, 0, none⟩)), (6, .bool b6_4)] w := by kernel_rfl
theorem p9_ok {R : Ending → World → Prop} {A0_1 : Option Addr} {g3_2 : Nat} {g5_3 : Nat} {b6_4 : Bool} {w : World} (h : p9 R A0_1 g3_2 g5_3 b6_4 w) : SK Try.prog Try.f10 R (cfg Try.f10 9) [(0, .pointer A0_1), (3, .pointer (some ⟨g3_2, 0, none⟩)), (5, .pointer (some ⟨g5_3, 0, none⟩)), (6, .bool b6_4)] w := piece_sound mixed (Eq.mp (p9_eq R A0_1 g3_2 g5_3 b6_4 w) h)
def p11 (R : Ending → World → Prop) (A0_1 : Option Addr) (g3_2 : Nat) (g5_3 : Nat) (b6_4 : Bool) (w : World) : Prop :=
  (bif b6_4 then (nilck A0_1 fun a5 =>
  ∃ (m67_6 : Option Nat), (World.drew w).cell? (a5.add 1) = some (.map m67_6) ∧ ∃ (n69_7 : Int), (World.drew w).cell? ⟨g5_3, 3, none⟩ = some (.int .u32 n69_7) ∧ unW Try.prog (Builtin.delete_ #[56, 31] 0 #[.map m67_6, .int .u32 n69_7]) (World.drew w) fun w8 =>
  SK Try.prog Try.f10 R (cfg Try.f10 13) [(0, .pointer A0_1), (3, .pointer (some ⟨g3_2, 0, none⟩))] w8) else (SK Try.prog Try.f10 R (cfg Try.f10 13) [(0, .pointer A0_1), (3, .pointer (some ⟨g3_2, 0, none⟩))] w))
theorem p11_eq (R : Ending → World → Prop) (A0_1 : Option Addr) (g3_2 : Nat) (g5_3 : Nat) (b6_4 : Bool) (w : World) : p11 R A0_1 g3_2 g5_3 b6_4 w = pieceF Try.prog Try.f10 R stops 3000 (cfg Try.f10 11) [(0, .pointer A0_1), (3, .pointer (some ⟨g3_2, 0, none⟩)), (5, .pointer (some ⟨g5_3, 0, none⟩)), (6, .bool b6_4)] w := by kernel_rfl
theorem p11_ok {R : Ending → World → Prop} {A0_1 : Option Addr} {g3_2 : Nat} {g5_3 : Nat} {b6_4 : Bool} {w : World} (h : p11 R A0_1 g3_2 g5_3 b6_4 w) : SK Try.prog Try.f10 R (cfg Try.f10 11) [(0, .pointer A0_1), (3, .pointer (some ⟨g3_2, 0, none⟩)), (5, .pointer (some ⟨g5_3, 0, none⟩)), (6, .bool b6_4)] w := piece_sound mixed (Eq.mp (p11_eq R A0_1 g3_2 g5_3 b6_4 w) h)
def p13 (R : Ending → World → Prop) (A0_1 : Option Addr) (g3_2 : Nat) (w : World) : Prop :=
  nilck A0_1 fun a3 =>
  ∃ (m74_4 : Option Nat), (World.drew w).cell? a3 = some (.map m74_4) ∧ ∃ (s76_5 : ByteArray), (World.drew w).cell? ⟨g3_2, 0, none⟩ = some (.string s76_5) ∧ nilck A0_1 fun a6 =>
  ∃ (m81_7 : Option Nat), (World.drew w).cell? (a6.add 1) = some (.map m81_7) ∧ ∃ (n83_8 : Int), (World.drew w).cell? ⟨g3_2, 3, none⟩ = some (.int .u32 n83_8) ∧ ∃ (s84_9 : ByteArray) (s84_10 : ByteArray) (s84_11 : ByteArray) (n84_12 : Int) (b84_13 : Bool), cellsAt (World.drew w) ⟨g3_2, 0, none⟩ 0 [.string s84_9, .string s84_10, .string s84_11, .int .u32 n84_12, .bool b84_13] ∧ ∃ (s86_14 : ByteArray), (World.drew w).cell? ⟨g3_2, 0, none⟩ = some (.string s86_14) ∧ ∃ (s88_15 : ByteArray) (s88_16 : ByteArray) (s88_17 : ByteArray) (n88_18 : Int) (b88_19 : Bool) (n88_20 : Int) (w21 : World), (Instr.mapEntry 55 (.map m74_4) (.string s76_5)).run Try.prog (World.drew w) = .ok (.tuple #[.agg #[.string s88_15, .string s88_16, .string s88_17, .int .u32 n88_18, .bool b88_19], .int .i64 n88_20]) w21 ∧ ((World.drew w).cell? ⟨g3_2, 0, none⟩ = some (.string s86_14) → w21.cell? ⟨g3_2, 0, none⟩ = some (.string s86_14)) ∧ (cellsAt (World.drew w) ⟨g3_2, 0, none⟩ 0 [.string s84_9, .string s84_10, .string s84_11, .int .u32 n84_12, .bool b84_13] → cellsAt w21 ⟨g3_2, 0, none⟩ 0 [.string s84_9, .string s84_10, .string s84_11, .int .u32 n84_12, .bool b84_13]) ∧ ((World.drew w).cell? ⟨g3_2, 3, none⟩ = some (.int .u32 n83_8) → w21.cell? ⟨g3_2, 3, none⟩ = some (.int .u32 n83_8)) ∧ prU Try.prog (Instr.entryStore 55 (.map m74_4) (.int .i64 n88_20) (.agg #[.string s84_9, .string s84_10, .string s84_11, .int .u32 n84_12, .bool b84_13])) w21 fun w22 =>
  (w21.cell? ⟨g3_2, 0, none⟩ = some (.string s86_14) → w22.cell? ⟨g3_2, 0, none⟩ = some (.string s86_14)) ∧ (w21.cell? ⟨g3_2, 3, none⟩ = some (.int .u32 n83_8) → w22.cell? ⟨g3_2, 3, none⟩ = some (.int .u32 n83_8)) ∧ ∃ (s90_23 : ByteArray) (n90_24 : Int) (w25 : World), (Instr.mapEntry 56 (.map m81_7) (.int .u32 n83_8)).run Try.prog w22 = .ok (.tuple #[.agg #[.string s90_23], .int .i64 n90_24]) w25 ∧ (w22.cell? ⟨g3_2, 0, none⟩ = some (.string s86_14) → w25.cell? ⟨g3_2, 0, none⟩ = some (.string s86_14)) ∧ prU Try.prog (Instr.entryStore 56 (.map m81_7) (.int .i64 n90_24) (.agg #[.string s86_14])) w25 fun w26 =>
  R (.returned (.int .i64 0)) w26
theorem p13_eq (R : Ending → World → Prop) (A0_1 : Option Addr) (g3_2 : Nat) (w : World) : p13 R A0_1 g3_2 w = pieceF Try.prog Try.f10 R stops 3000 (cfg Try.f10 13) [(0, .pointer A0_1), (3, .pointer (some ⟨g3_2, 0, none⟩))] w := by kernel_rfl
theorem p13_ok {R : Ending → World → Prop} {A0_1 : Option Addr} {g3_2 : Nat} {w : World} (h : p13 R A0_1 g3_2 w) : SK Try.prog Try.f10 R (cfg Try.f10 13) [(0, .pointer A0_1), (3, .pointer (some ⟨g3_2, 0, none⟩))] w := piece_sound mixed (Eq.mp (p13_eq R A0_1 g3_2 w) h)
end F10

/-! ### 11: (*halyard/record.File).At -/
namespace F11
def stops : Stops := []
def main (R : Ending → World → Prop) (Ap0_1 : Option Addr) (np1_2 : Int) (w : World) : Prop :=
  newW Try.prog (Instr.alloc 33 true (.tuple #[])) w fun g4_3 w4 =>
  (bif (Option.isNone Ap0_1) then (stW Try.prog 33 ⟨g4_3, 0, none⟩ (.agg #[.string ({ data := #[] }), .string ({ data := #[] }), .string ({ data := #[] }), .int .u32 0, .bool false]) w4 fun w5 =>
  ∃ (s4_6 : ByteArray) (s4_7 : ByteArray) (s4_8 : ByteArray) (n4_9 : Int) (b4_10 : Bool), cellsAt w5 ⟨g4_3, 0, none⟩ 0 [.string s4_6, .string s4_7, .string s4_8, .int .u32 n4_9, .bool b4_10] ∧ R (.returned (.tuple #[.agg #[.string s4_6, .string s4_7, .string s4_8, .int .u32 n4_9, .bool b4_10], .bool false])) w5) else (nilck Ap0_1 fun a11 =>
  ∃ (m14_12 : Option Nat), w4.cell? (a11.add 1) = some (.map m14_12) ∧ ∃ (s16_13 : ByteArray), (Instr.lookup 56 (.map m14_12) (.int .u32 np1_2) false).run Try.prog w4 = .ok (.agg #[.string s16_13]) w4 ∧ Calls Try.prog 13 #[.pointer Ap0_1, .string s16_13] w4 fun en w20 =>
  (∃ (s18_14 : ByteArray) (s18_15 : ByteArray) (s18_16 : ByteArray) (n18_17 : Int) (b18_18 : Bool) (b18_19 : Bool), en = .returned (.tuple #[.agg #[.string s18_14, .string s18_15, .string s18_16, .int .u32 n18_17, .bool b18_18], .bool b18_19]) ∧ stW Try.prog 33 ⟨g4_3, 0, none⟩ (.agg #[.string s18_14, .string s18_15, .string s18_16, .int .u32 n18_17, .bool b18_18]) w20 fun w22 =>
  ∃ (s4_23 : ByteArray) (s4_24 : ByteArray) (s4_25 : ByteArray) (n4_26 : Int) (b4_27 : Bool), cellsAt w22 ⟨g4_3, 0, none⟩ 0 [.string s4_23, .string s4_24, .string s4_25, .int .u32 n4_26, .bool b4_27] ∧ R (.returned (.tuple #[.agg #[.string s4_23, .string s4_24, .string s4_25, .int .u32 n4_26, .bool b4_27], .bool b18_19])) w22)
  ∨ ∃ ch21, en = .panicked ch21 ∧ R (.panicked ch21) w20))
theorem main_eq (R : Ending → World → Prop) (Ap0_1 : Option Addr) (np1_2 : Int) (w : World) : main R Ap0_1 np1_2 w = mainF Try.prog Try.f11 R stops 3000 [.pointer Ap0_1, .int .u32 np1_2] w := by kernel_rfl
theorem calls {R : Ending → World → Prop} {Ap0_1 : Option Addr} {np1_2 : Int} {w : World} (h : main R Ap0_1 np1_2 w) : Calls Try.prog 11 #[.pointer Ap0_1, .int .u32 np1_2] w R := main_sound Try.func11 mixed (Eq.mp (main_eq R Ap0_1 np1_2 w) h)
end F11

/-! ### 12: (*halyard/record.File).Del -/
namespace F12
def stops : Stops := []
def main (R : Ending → World → Prop) (Ap0_1 : Option Addr) (sp1_2 : ByteArray) (w : World) : Prop :=
  (bif (Option.isNone Ap0_1) then (R (.returned (.int .i64 1)) w) else (nilck Ap0_1 fun a3 =>
  ∃ (m14_4 : Option Nat), w.cell? a3 = some (.map m14_4) ∧ ∃ (s16_5 : ByteArray) (s16_6 : ByteArray) (s16_7 : ByteArray) (n16_8 : Int) (b16_9 : Bool) (b16_10 : Bool), (Instr.lookup 55 (.map m14_4) (.string sp1_2) true).run Try.prog w = .ok (.tuple #[.agg #[.string s16_5, .string s16_6, .string s16_7, .int .u32 n16_8, .bool b16_9], .bool b16_10]) w ∧ newW Try.prog (Instr.alloc 33 true (.tuple #[])) w fun g5_11 w12 =>
  stW Try.prog 33 ⟨g5_11, 0, none⟩ (.agg #[.string s16_5, .string s16_6, .string s16_7, .int .u32 n16_8, .bool b16_9]) w12 fun w13 =>
  (bif (!b16_10) then (R (.returned (.int .i64 3)) w13) else (nilck Ap0_1 fun a14 =>
  ∃ (m25_15 : Option Nat), w13.cell? a14 = some (.map m25_15) ∧ unW Try.prog (Builtin.delete_ #[55, 9] 0 #[.map m25_15, .string sp1_2]) w13 fun w16 =>
  nilck Ap0_1 fun a17 =>
  ∃ (m31_18 : Option Nat), (World.drew w16).cell? (a17.add 1) = some (.map m31_18) ∧ ∃ (n33_19 : Int), (World.drew w16).cell? ⟨g5_11, 3, none⟩ = some (.int .u32 n33_19) ∧ unW Try.prog (Builtin.delete_ #[56, 31] 0 #[.map m31_18, .int .u32 n33_19]) (World.drew w16) fun w20 =>
  R (.returned (.int .i64 0)) w20))))
theorem main_eq (R : Ending → World → Prop) (Ap0_1 : Option Addr) (sp1_2 : ByteArray) (w : World) : main R Ap0_1 sp1_2 w = mainF Try.prog Try.f12 R stops 3000 [.pointer Ap0_1, .string sp1_2] w := by kernel_rfl
theorem calls {R : Ending → World → Prop} {Ap0_1 : Option Addr} {sp1_2 : ByteArray} {w : World} (h : main R Ap0_1 sp1_2 w) : Calls Try.prog 12 #[.pointer Ap0_1, .string sp1_2] w R := main_sound Try.func12 mixed (Eq.mp (main_eq R Ap0_1 sp1_2 w) h)
end F12

/-! ### 13: (*halyard/record.File).Of -/
namespace F13
def stops : Stops := []
def main (R : Ending → World → Prop) (Ap0_1 : Option Addr) (sp1_2 : ByteArray) (w : World) : Prop :=
  newW Try.prog (Instr.alloc 33 true (.tuple #[])) w fun g4_3 w4 =>
  (bif (Option.isNone Ap0_1) then (stW Try.prog 33 ⟨g4_3, 0, none⟩ (.agg #[.string ({ data := #[] }), .string ({ data := #[] }), .string ({ data := #[] }), .int .u32 0, .bool false]) w4 fun w5 =>
  ∃ (s4_6 : ByteArray) (s4_7 : ByteArray) (s4_8 : ByteArray) (n4_9 : Int) (b4_10 : Bool), cellsAt w5 ⟨g4_3, 0, none⟩ 0 [.string s4_6, .string s4_7, .string s4_8, .int .u32 n4_9, .bool b4_10] ∧ R (.returned (.tuple #[.agg #[.string s4_6, .string s4_7, .string s4_8, .int .u32 n4_9, .bool b4_10], .bool false])) w5) else (nilck Ap0_1 fun a11 =>
  ∃ (m16_12 : Option Nat), w4.cell? a11 = some (.map m16_12) ∧ ∃ (s18_13 : ByteArray) (s18_14 : ByteArray) (s18_15 : ByteArray) (n18_16 : Int) (b18_17 : Bool) (b18_18 : Bool), (Instr.lookup 55 (.map m16_12) (.string sp1_2) true).run Try.prog w4 = .ok (.tuple #[.agg #[.string s18_13, .string s18_14, .string s18_15, .int .u32 n18_16, .bool b18_17], .bool b18_18]) w4 ∧ newW Try.prog (Instr.alloc 33 true (.tuple #[])) w4 fun g6_19 w20 =>
  stW Try.prog 33 ⟨g6_19, 0, none⟩ (.agg #[.string s18_13, .string s18_14, .string s18_15, .int .u32 n18_16, .bool b18_17]) w20 fun w21 =>
  ∃ (s21_22 : ByteArray) (s21_23 : ByteArray) (s21_24 : ByteArray) (n21_25 : Int) (b21_26 : Bool), cellsAt w21 ⟨g6_19, 0, none⟩ 0 [.string s21_22, .string s21_23, .string s21_24, .int .u32 n21_25, .bool b21_26] ∧ stW Try.prog 33 ⟨g4_3, 0, none⟩ (.agg #[.string s21_22, .string s21_23, .string s21_24, .int .u32 n21_25, .bool b21_26]) w21 fun w27 =>
  ∃ (s4_28 : ByteArray) (s4_29 : ByteArray) (s4_30 : ByteArray) (n4_31 : Int) (b4_32 : Bool), cellsAt w27 ⟨g4_3, 0, none⟩ 0 [.string s4_28, .string s4_29, .string s4_30, .int .u32 n4_31, .bool b4_32] ∧ R (.returned (.tuple #[.agg #[.string s4_28, .string s4_29, .string s4_30, .int .u32 n4_31, .bool b4_32], .bool b18_18])) w27))
theorem main_eq (R : Ending → World → Prop) (Ap0_1 : Option Addr) (sp1_2 : ByteArray) (w : World) : main R Ap0_1 sp1_2 w = mainF Try.prog Try.f13 R stops 3000 [.pointer Ap0_1, .string sp1_2] w := by kernel_rfl
theorem calls {R : Ending → World → Prop} {Ap0_1 : Option Addr} {sp1_2 : ByteArray} {w : World} (h : main R Ap0_1 sp1_2 w) : Calls Try.prog 13 #[.pointer Ap0_1, .string sp1_2] w R := main_sound Try.func13 mixed (Eq.mp (main_eq R Ap0_1 sp1_2 w) h)
end F13

/-! ### 14: halyard/halyardref28.Same -/
namespace F14
def stops : Stops := [(4, [0, 1, 5])]
def main (R : Ending → World → Prop) (Ap0_1 : Option Addr) (lp0_2 : Nat) (cp0_3 : Nat) (Ap1_4 : Option Addr) (lp1_5 : Nat) (cp1_6 : Nat) (w : World) : Prop :=
  (bif (((lp0_2 : Nat) : Int) != ((lp1_5 : Nat) : Int)) then (R (.returned (.bool false)) w) else (SK Try.prog Try.f14 R (cfg Try.f14 4) [(0, .slice Ap0_1 lp0_2 cp0_3), (1, .slice Ap1_4 lp1_5 cp1_6), (5, .int .i64 0)] w))
theorem main_eq (R : Ending → World → Prop) (Ap0_1 : Option Addr) (lp0_2 : Nat) (cp0_3 : Nat) (Ap1_4 : Option Addr) (lp1_5 : Nat) (cp1_6 : Nat) (w : World) : main R Ap0_1 lp0_2 cp0_3 Ap1_4 lp1_5 cp1_6 w = mainF Try.prog Try.f14 R stops 3000 [.slice Ap0_1 lp0_2 cp0_3, .slice Ap1_4 lp1_5 cp1_6] w := by kernel_rfl
theorem calls {R : Ending → World → Prop} {Ap0_1 : Option Addr} {lp0_2 : Nat} {cp0_3 : Nat} {Ap1_4 : Option Addr} {lp1_5 : Nat} {cp1_6 : Nat} {w : World} (h : main R Ap0_1 lp0_2 cp0_3 Ap1_4 lp1_5 cp1_6 w) : Calls Try.prog 14 #[.slice Ap0_1 lp0_2 cp0_3, .slice Ap1_4 lp1_5 cp1_6] w R := main_sound Try.func14 mixed (Eq.mp (main_eq R Ap0_1 lp0_2 cp0_3 Ap1_4 lp1_5 cp1_6 w) h)
def p4 (R : Ending → World → Prop) (A0_3 : Option Addr) (l0_1 : Nat) (c0_2 : Nat) (A1_6 : Option Addr) (l1_4 : Nat) (c1_5 : Nat) (n5_7 : Int) (w : World) : Prop :=
  (bif (decide (n5_7 < ((l0_1 : Nat) : Int))) then (idxck A0_3 l0_1 n5_7 fun a8 =>
  ∃ (s20_9 : ByteArray) (s20_10 : ByteArray) (s20_11 : ByteArray) (n20_12 : Int) (b20_13 : Bool), cellsAt (World.drew w) (a8.add (Int.toNat n5_7 * 5)) 0 [.string s20_9, .string s20_10, .string s20_11, .int .u32 n20_12, .bool b20_13] ∧ idxck A1_6 l1_4 n5_7 fun a14 =>
  ∃ (s24_15 : ByteArray) (s24_16 : ByteArray) (s24_17 : ByteArray) (n24_18 : Int) (b24_19 : Bool), cellsAt (World.drew w) (a14.add (Int.toNat n5_7 * 5)) 0 [.string s24_15, .string s24_16, .string s24_17, .int .u32 n24_18, .bool b24_19] ∧ (bif (!(((s20_9 : ByteArray) == s24_15) && (((s20_10 : ByteArray) == s24_16) && (((s20_11 : ByteArray) == s24_17) && ((n20_12 == n24_18) && ((b20_13 == b24_19) && true)))))) then (R (.returned (.bool false)) (World.drew w)) else (SK Try.prog Try.f14 R (cfg Try.f14 4) [(0, .slice A0_3 l0_1 c0_2), (1, .slice A1_6 l1_4 c1_5), (5, .int .i64 (IntKind.wrap .i64 (n5_7 + 1)))] (World.drew w)))) else (R (.returned (.bool true)) w))
theorem p4_eq (R : Ending → World → Prop) (A0_3 : Option Addr) (l0_1 : Nat) (c0_2 : Nat) (A1_6 : Option Addr) (l1_4 : Nat) (c1_5 : Nat) (n5_7 : Int) (w : World) : p4 R A0_3 l0_1 c0_2 A1_6 l1_4 c1_5 n5_7 w = pieceF Try.prog Try.f14 R stops 3000 (cfg Try.f14 4) [(0, .slice A0_3 l0_1 c0_2), (1, .slice A1_6 l1_4 c1_5), (5, .int .i64 n5_7)] w := by kernel_rfl
theorem p4_ok {R : Ending → World → Prop} {A0_3 : Option Addr} {l0_1 : Nat} {c0_2 : Nat} {A1_6 : Option Addr} {l1_4 : Nat} {c1_5 : Nat} {n5_7 : Int} {w : World} (h : p4 R A0_3 l0_1 c0_2 A1_6 l1_4 c1_5 n5_7 w) : SK Try.prog Try.f14 R (cfg Try.f14 4) [(0, .slice A0_3 l0_1 c0_2), (1, .slice A1_6 l1_4 c1_5), (5, .int .i64 n5_7)] w := piece_sound mixed (Eq.mp (p4_eq R A0_3 l0_1 c0_2 A1_6 l1_4 c1_5 n5_7 w) h)
end F14

/-! ### 15: (*halyard/record.File).Len -/
namespace F15
def stops : Stops := []
def main (R : Ending → World → Prop) (Ap0_1 : Option Addr) (w : World) : Prop :=
  (bif (Option.isNone Ap0_1) then (R (.returned (.int .i64 0)) w) else (nilck Ap0_1 fun a2 =>
  ∃ (m9_3 : Option Nat), w.cell? a2 = some (.map m9_3) ∧ ∃ (n10_4 : Int), (Builtin.len_ #[55] 3 #[.map m9_3]).run Try.prog w = .ok (.int .i64 n10_4) w ∧ R (.returned (.int .i64 n10_4)) w))
theorem main_eq (R : Ending → World → Prop) (Ap0_1 : Option Addr) (w : World) : main R Ap0_1 w = mainF Try.prog Try.f15 R stops 3000 [.pointer Ap0_1] w := by kernel_rfl
theorem calls {R : Ending → World → Prop} {Ap0_1 : Option Addr} {w : World} (h : main R Ap0_1 w) : Calls Try.prog 15 #[.pointer Ap0_1] w R := main_sound Try.func15 mixed (Eq.mp (main_eq R Ap0_1 w) h)
end F15

/-! ### 16: halyard/record.Check -/
namespace F16
def stops : Stops := []
def main (R : Ending → World → Prop) (sp0_1 : ByteArray) (sp0_2 : ByteArray) (sp0_3 : ByteArray) (np0_4 : Int) (bp0_5 : Bool) (w : World) : Prop :=
  newW Try.prog (Instr.box 33 (.agg #[.string sp0_1, .string sp0_2, .string sp0_3, .int .u32 np0_4, .bool bp0_5])) w fun g1_6 w7 =>
  ∃ (s4_8 : ByteArray), w7.cell? ⟨g1_6, 0, none⟩ = some (.string s4_8) ∧ Calls Try.prog 28 #[.string s4_8, .int .i64 1, .int .i64 32] w7 fun en w10 =>
  (∃ (b5_9 : Bool), en = .returned (.bool b5_9) ∧ (bif (!b5_9) then (R (.returned (.int .i64 2)) w10) else (∃ (s9_12 : ByteArray), w10.cell? ⟨g1_6, 2, none⟩ = some (.string s9_12) ∧ Calls Try.prog 28 #[.string s9_12, .int .i64 1, .int .i64 32] w10 fun en w14 =>
  (∃ (b10_13 : Bool), en = .returned (.bool b10_13) ∧ (bif (!b10_13) then (R (.returned (.int .i64 2)) w14) else (∃ (s15_16 : ByteArray), w14.cell? ⟨g1_6, 1, none⟩ = some (.string s15_16) ∧ Calls Try.prog 28 #[.string s15_16, .int .i64 0, .int .i64 32] w14 fun en w18 =>
  (∃ (b16_17 : Bool), en = .returned (.bool b16_17) ∧ (bif (!b16_17) then (R (.returned (.int .i64 2)) w18) else (∃ (n21_20 : Int), w18.cell? ⟨g1_6, 3, none⟩ = some (.int .u32 n21_20) ∧ (bif (n21_20 == 0) then (R (.returned (.int .i64 2)) w18) else (R (.returned (.int .i64 0)) w18)))))
  ∨ ∃ ch19, en = .panicked ch19 ∧ R (.panicked ch19) w18)))
  ∨ ∃ ch15, en = .panicked ch15 ∧ R (.panicked ch15) w14)))
  ∨ ∃ ch11, en = .panicked ch11 ∧ R (.panicked ch11) w10
theorem main_eq (R : Ending → World → Prop) (sp0_1 : ByteArray) (sp0_2 : ByteArray) (sp0_3 : ByteArray) (np0_4 : Int) (bp0_5 : Bool) (w : World) : main R sp0_1 sp0_2 sp0_3 np0_4 bp0_5 w = mainF Try.prog Try.f16 R stops 3000 [.agg #[.string sp0_1, .string sp0_2, .string sp0_3, .int .u32 np0_4, .bool bp0_5]] w := by kernel_rfl
theorem calls {R : Ending → World → Prop} {sp0_1 : ByteArray} {sp0_2 : ByteArray} {sp0_3 : ByteArray} {np0_4 : Int} {bp0_5 : Bool} {w : World} (h : main R sp0_1 sp0_2 sp0_3 np0_4 bp0_5 w) : Calls Try.prog 16 #[.agg #[.string sp0_1, .string sp0_2, .string sp0_3, .int .u32 np0_4, .bool bp0_5]] w R := main_sound Try.func16 mixed (Eq.mp (main_eq R sp0_1 sp0_2 sp0_3 np0_4 bp0_5 w) h)
end F16

/-! ### 17: (*halyard/record.File).Copy -/
namespace F17
def stops : Stops := []
def main (R : Ending → World → Prop) (Ap0_1 : Option Addr) (w : World) : Prop :=
  (bif (Option.isNone Ap0_1) then (R (.returned (.pointer none)) w) else (nilck Ap0_1 fun a2 =>
  ∃ (m9_3 : Option Nat), (World.drew w).cell? a2 = some (.map m9_3) ∧ nilck Ap0_1 fun a4 =>
  ∃ (m15_5 : Option Nat), (World.drew w).cell? (a4.add 1) = some (.map m15_5) ∧ nilck Ap0_1 fun a6 =>
  ∃ (n21_7 : Int), (World.drew w).cell? (a6.add 2) = some (.int .i64 n21_7) ∧ Calls Try.prog 29 #[.map m9_3] (World.drew w) fun en w9 =>
  (∃ (m10_8 : Option Nat), en = .returned (.map m10_8) ∧ ((World.drew w).cell? (a6.add 2) = some (.int .i64 n21_7) → w9.cell? (a6.add 2) = some (.int .i64 n21_7)) ∧ ((World.drew w).cell? (a4.add 1) = some (.map m15_5) → w9.cell? (a4.add 1) = some (.map m15_5)) ∧ Calls Try.prog 30 #[.map m15_5] w9 fun en w12 =>
  (∃ (m16_11 : Option Nat), en = .returned (.map m16_11) ∧ (w9.cell? (a6.add 2) = some (.int .i64 n21_7) → w12.cell? (a6.add 2) = some (.int .i64 n21_7)) ∧ newW Try.prog (Instr.box 60 (.agg #[.map m10_8, .map m16_11, .int .i64 n21_7])) w12 fun g23_14 w15 =>
  R (.returned (.pointer (some ⟨g23_14, 0, none⟩))) w15)
  ∨ ∃ ch13, en = .panicked ch13 ∧ R (.panicked ch13) w12)
  ∨ ∃ ch10, en = .panicked ch10 ∧ R (.panicked ch10) w9))
theorem main_eq (R : Ending → World → Prop) (Ap0_1 : Option Addr) (w : World) : main R Ap0_1 w = mainF Try.prog Try.f17 R stops 3000 [.pointer Ap0_1] w := by kernel_rfl
theorem calls {R : Ending → World → Prop} {Ap0_1 : Option Addr} {w : World} (h : main R Ap0_1 w) : Calls Try.prog 17 #[.pointer Ap0_1] w R := main_sound Try.func17 mixed (Eq.mp (main_eq R Ap0_1 w) h)
end F17

/-! ### 18: halyard/halyardref28.Check -/
namespace F18
def stops : Stops := []
def main (R : Ending → World → Prop) (sp0_1 : ByteArray) (sp0_2 : ByteArray) (sp0_3 : ByteArray) (np0_4 : Int) (bp0_5 : Bool) (w : World) : Prop :=
  newW Try.prog (Instr.box 33 (.agg #[.string sp0_1, .string sp0_2, .string sp0_3, .int .u32 np0_4, .bool bp0_5])) w fun g1_6 w7 =>
  ∃ (s4_8 : ByteArray), w7.cell? ⟨g1_6, 0, none⟩ = some (.string s4_8) ∧ (bif (decide (((ByteArray.size s4_8 : Nat) : Int) < 1)) then (R (.returned (.int .i64 2)) w7) else (∃ (s9_9 : ByteArray), w7.cell? ⟨g1_6, 0, none⟩ = some (.string s9_9) ∧ (bif (decide (((ByteArray.size s9_9 : Nat) : Int) > 32)) then (R (.returned (.int .i64 2)) w7) else (∃ (s15_10 : ByteArray), w7.cell? ⟨g1_6, 2, none⟩ = some (.string s15_10) ∧ (bif (decide (((ByteArray.size s15_10 : Nat) : Int) < 1)) then (R (.returned (.int .i64 2)) w7) else (∃ (s21_11 : ByteArray), w7.cell? ⟨g1_6, 2, none⟩ = some (.string s21_11) ∧ (bif (decide (((ByteArray.size s21_11 : Nat) : Int) > 32)) then (R (.returned (.int .i64 2)) w7) else (∃ (s27_12 : ByteArray), w7.cell? ⟨g1_6, 1, none⟩ = some (.string s27_12) ∧ (bif (decide (((ByteArray.size s27_12 : Nat) : Int) > 32)) then (R (.returned (.int .i64 2)) w7) else (∃ (n33_13 : Int), w7.cell? ⟨g1_6, 3, none⟩ = some (.int .u32 n33_13) ∧ (bif (n33_13 == 0) then (R (.returned (.int .i64 2)) w7) else (R (.returned (.int .i64 0)) w7))))))))))))
theorem main_eq (R : Ending → World → Prop) (sp0_1 : ByteArray) (sp0_2 : ByteArray) (sp0_3 : ByteArray) (np0_4 : Int) (bp0_5 : Bool) (w : World) : main R sp0_1 sp0_2 sp0_3 np0_4 bp0_5 w = mainF Try.prog Try.f18 R stops 3000 [.agg #[.string sp0_1, .string sp0_2, .string sp0_3, .int .u32 np0_4, .bool bp0_5]] w := by kernel_rfl
theorem calls {R : Ending → World → Prop} {sp0_1 : ByteArray} {sp0_2 : ByteArray} {sp0_3 : ByteArray} {np0_4 : Int} {bp0_5 : Bool} {w : World} (h : main R sp0_1 sp0_2 sp0_3 np0_4 bp0_5 w) : Calls Try.prog 18 #[.agg #[.string sp0_1, .string sp0_2, .string sp0_3, .int .u32 np0_4, .bool bp0_5]] w R := main_sound Try.func18 mixed (Eq.mp (main_eq R sp0_1 sp0_2 sp0_3 np0_4 bp0_5 w) h)
end F18

/-! ### 19: (*halyard/halyardref28.File).Put -/
namespace F19
def stops : Stops := [(4, [0, 3, 5]), (11, [0, 3, 6, 7]), (14, [0, 3, 6, 8])]
def main (R : Ending → World → Prop) (Ap0_1 : Option Addr) (sp1_2 : ByteArray) (sp1_3 : ByteArray) (sp1_4 : ByteArray) (np1_5 : Int) (bp1_6 : Bool) (w : World) : Prop :=
  newW Try.prog (Instr.box 33 (.agg #[.string sp1_2, .string sp1_3, .string sp1_4, .int .u32 np1_5, .bool bp1_6])) w fun g3_7 w8 =>
  ∃ (s10_9 : ByteArray) (s10_10 : ByteArray) (s10_11 : ByteArray) (n10_12 : Int) (b10_13 : Bool), cellsAt w8 ⟨g3_7, 0, none⟩ 0 [.string s10_9, .string s10_10, .string s10_11, .int .u32 n10_12, .bool b10_13] ∧ Calls Try.prog 18 #[.agg #[.string s10_9, .string s10_10, .string s10_11, .int .u32 n10_12, .bool b10_13]] w8 fun en w15 =>
  (∃ (n11_14 : Int), en = .returned (.int .i64 n11_14) ∧ (bif (n11_14 != 0) then (R (.returned (.int .i64 2)) w15) else (SK Try.prog Try.f19 R (cfg Try.f19 4) [(0, .pointer Ap0_1), (3, .pointer (some ⟨g3_7, 0, none⟩)), (5, .int .i64 0)] w15)))
  ∨ ∃ ch16, en = .panicked ch16 ∧ R (.panicked ch16) w15
theorem main_eq (R : Ending → World → Prop) (Ap0_1 : Option Addr) (sp1_2 : ByteArray) (sp1_3 : ByteArray) (sp1_4 : ByteArray) (np1_5 : Int) (bp1_6 : Bool) (w : World) : main R Ap0_1 sp1_2 sp1_3 sp1_4 np1_5 bp1_6 w = mainF Try.prog Try.f19 R stops 3000 [.pointer Ap0_1, .agg #[.string sp1_2, .string sp1_3, .string sp1_4, .int .u32 np1_5, .bool bp1_6]] w := by kernel_rfl
theorem calls {R : Ending → World → Prop} {Ap0_1 : Option Addr} {sp1_2 : ByteArray} {sp1_3 : ByteArray} {sp1_4 : ByteArray} {np1_5 : Int} {bp1_6 : Bool} {w : World} (h : main R Ap0_1 sp1_2 sp1_3 sp1_4 np1_5 bp1_6 w) : Calls Try.prog 19 #[.pointer Ap0_1, .agg #[.string sp1_2, .string sp1_3, .string sp1_4, .int .u32 np1_5, .bool bp1_6]] w R := main_sound Try.func19 mixed (Eq.mp (main_eq R Ap0_1 sp1_2 sp1_3 sp1_4 np1_5 bp1_6 w) h)
def p4 (R : Ending → World → Prop) (A0_1 : Option Addr) (g3_2 : Nat) (n5_3 : Int) (w : World) : Prop :=
  nilck A0_1 fun a4 =>
  ∃ (A17_5 : Option Addr) (l17_6 : Nat) (c17_7 : Nat), w.cell? (a4.add 1) = some (.slice A17_5 l17_6 c17_7) ∧ (bif (decide (n5_3 < ((l17_6 : Nat) : Int))) then (nilck A0_1 fun a8 =>
  ∃ (A25_9 : Option Addr) (l25_10 : Nat) (c25_11 : Nat), (World.drew w).cell? (a8.add 1) = some (.slice A25_9 l25_10 c25_11) ∧ idxck A25_9 l25_10 n5_3 fun a12 =>
  ∃ (s29_13 : ByteArray), (World.drew w).cell? (a12.add (Int.toNat n5_3 * 5)) = some (.string s29_13) ∧ ∃ (s31_14 : ByteArray), (World.drew w).cell? ⟨g3_2, 0, none⟩ = some (.string s31_14) ∧ (bif (!(s29_13 == s31_14)) then (nilck A0_1 fun a15 =>
  ∃ (A37_16 : Option Addr) (l37_17 : Nat) (c37_18 : Nat), (World.drew w).cell? (a15.add 1) = some (.slice A37_16 l37_17 c37_18) ∧ idxck A37_16 l37_17 n5_3 fun a19 =>
  ∃ (n41_20 : Int), (World.drew w).cell? ((a19.add (Int.toNat n5_3 * 5)).add 3) = some (.int .u32 n41_20) ∧ ∃ (n43_21 : Int), (World.drew w).cell? ⟨g3_2, 3, none⟩ = some (.int .u32 n43_21) ∧ (bif (n41_20 == n43_21) then (R (.returned (.int .i64 9)) (World.drew w)) else (SK Try.prog Try.f19 R (cfg Try.f19 4) [(0, .pointer A0_1), (3, .pointer (some ⟨g3_2, 0, none⟩)), (5, .int .i64 (IntKind.wrap .i64 (n5_3 + 1)))] (World.drew w)))) else (SK Try.prog Try.f19 R (cfg Try.f19 4) [(0, .pointer A0_1), (3, .pointer (some ⟨g3_2, 0, none⟩)), (5, .int .i64 (IntKind.wrap .i64 (n5_3 + 1)))] (World.drew w)))) else (∃ (s49_22 : ByteArray), w.cell? ⟨g3_2, 0, none⟩ = some (.string s49_22) ∧ Calls Try.prog 31 #[.pointer A0_1, .string s49_22] w fun en w25 =>
  (∃ (n50_23 : Int) (b50_24 : Bool), en = .returned (.tuple #[.int .i64 n50_23, .bool b50_24]) ∧ (bif (!b50_24) then (nilck A0_1 fun a27 =>
  ∃ (A59_28 : Option Addr) (l59_29 : Nat) (c59_30 : Nat), (World.drew w25).cell? (a27.add 1) = some (.slice A59_28 l59_29 c59_30) ∧ nilck A0_1 fun a31 =>
  ∃ (n64_32 : Int), (World.drew w25).cell? a31 = some (.int .i64 n64_32) ∧ (bif (decide (((l59_29 : Nat) : Int) ≥ n64_32)) then (R (.returned (.int .i64 4)) (World.drew w25)) else (SK Try.prog Try.f19 R (cfg Try.f19 11) [(0, .pointer A0_1), (3, .pointer (some ⟨g3_2, 0, none⟩)), (6, .int .i64 n50_23), (7, .bool b50_24)] (World.drew w25)))) else (SK Try.prog Try.f19 R (cfg Try.f19 11) [(0, .pointer A0_1), (3, .pointer (some ⟨g3_2, 0, none⟩)), (6, .int .i64 n50_23), (7, .bool b50_24)] (World.drew w25))))
  ∨ ∃ ch26, en = .panicked ch26 ∧ R (.panicked ch26) w25))
theorem p4_eq (R : Ending → World → Prop) (A0_1 : Option Addr) (g3_2 : Nat) (n5_3 : Int) (w : World) : p4 R A0_1 g3_2 n5_3 w = pieceF Try.prog Try.f19 R stops 3000 (cfg Try.f19 4) [(0, .pointer A0_1), (3, .pointer (some ⟨g3_2, 0, none⟩)), (5, .int .i64 n5_3)] w := by kernel_rfl
theorem p4_ok {R : Ending → World → Prop} {A0_1 : Option Addr} {g3_2 : Nat} {n5_3 : Int} {w : World} (h : p4 R A0_1 g3_2 n5_3 w) : SK Try.prog Try.f19 R (cfg Try.f19 4) [(0, .pointer A0_1), (3, .pointer (some ⟨g3_2, 0, none⟩)), (5, .int .i64 n5_3)] w := piece_sound mixed (Eq.mp (p4_eq R A0_1 g3_2 n5_3 w) h)
def p11 (R : Ending → World → Prop) (A0_1 : Option Addr) (g3_2 : Nat) (n6_3 : Int) (b7_4 : Bool) (w : World) : Prop :=
  nilck A0_1 fun a5 =>
  ∃ (A70_6 : Option Addr) (l70_7 : Nat) (c70_8 : Nat), w.cell? (a5.add 1) = some (.slice A70_6 l70_7 c70_8) ∧ sbck n6_3 ((l70_7 : Nat) : Int) c70_8 false ∧ (bif b7_4 then (nilck A0_1 fun a9 =>
  ∃ (A77_10 : Option Addr) (l77_11 : Nat) (c77_12 : Nat), w.cell? (a9.add 1) = some (.slice A77_10 l77_11 c77_12) ∧ sbck (IntKind.wrap .i64 (n6_3 + 1)) ((l77_11 : Nat) : Int) c77_12 false ∧ SK Try.prog Try.f19 R (cfg Try.f19 14) [(0, .pointer A0_1), (3, .pointer (some ⟨g3_2, 0, none⟩)), (6, .int .i64 n6_3), (8, .slice (slcA A77_10 c77_12 (Int.toNat (IntKind.wrap .i64 (n6_3 + 1))) 5) (Int.toNat ((l77_11 : Nat) : Int) - Int.toNat (IntKind.wrap .i64 (n6_3 + 1))) (c77_12 - Int.toNat (IntKind.wrap .i64 (n6_3 + 1))))] w) else (SK Try.prog Try.f19 R (cfg Try.f19 14) [(0, .pointer A0_1), (3, .pointer (some ⟨g3_2, 0, none⟩)), (6, .int .i64 n6_3), (8, .slice (slcA A70_6 c70_8 (Int.toNat n6_3) 5) (Int.toNat ((l70_7 : Nat) : Int) - Int.toNat n6_3) (c70_8 - Int.toNat n6_3))] w))
theorem p11_eq (R : Ending → World → Prop) (A0_1 : Option Addr) (g3_2 : Nat) (n6_3 : Int) (b7_4 : Bool) (w : World) : p11 R A0_1 g3_2 n6_3 b7_4 w = pieceF Try.prog Try.f19 R stops 3000 (cfg Try.f19 11) [(0, .pointer A0_1), (3, .pointer (some ⟨g3_2, 0, none⟩)), (6, .int .i64 n6_3), (7, .bool b7_4)] w := by kernel_rfl
theorem p11_ok {R : Ending → World → Prop} {A0_1 : Option Addr} {g3_2 : Nat} {n6_3 : Int} {b7_4 : Bool} {w : World} (h : p11 R A0_1 g3_2 n6_3 b7_4 w) : SK Try.prog Try.f19 R (cfg Try.f19 11) [(0, .pointer A0_1), (3, .pointer (some ⟨g3_2, 0, none⟩)), (6, .int .i64 n6_3), (7, .bool b7_4)] w := piece_sound mixed (Eq.mp (p11_eq R A0_1 g3_2 n6_3 b7_4 w) h)
def p14 (R : Ending → World → Prop) (A0_1 : Option Addr) (g3_2 : Nat) (n6_3 : Int) (A8_6 : Option Addr) (l8_4 : Nat) (c8_5 : Nat) (w : World) : Prop :=
  nilck A0_1 fun a7 =>
  ∃ (A84_8 : Option Addr) (l84_9 : Nat) (c84_10 : Nat), w.cell? (a7.add 1) = some (.slice A84_8 l84_9 c84_10) ∧ sbck (0 : Int) n6_3 c84_10 true ∧ slW Try.prog (Builtin.append_ #[24, 24] 24 #[.slice none 0 0, .slice (slcA A84_8 c84_10 (Int.toNat (0 : Int)) 5) (Int.toNat n6_3 - Int.toNat (0 : Int)) (c84_10 - Int.toNat (0 : Int))]) w fun A87_12 l87_13 c87_14 w11 =>
  ∃ (s89_15 : ByteArray) (s89_16 : ByteArray) (s89_17 : ByteArray) (n89_18 : Int) (b89_19 : Bool), cellsAt w11 ⟨g3_2, 0, none⟩ 0 [.string s89_15, .string s89_16, .string s89_17, .int .u32 n89_18, .bool b89_19] ∧ bslW Try.prog 1 (Instr.buildSlice 24 1 #[(0, .agg #[.string s89_15, .string s89_16, .string s89_17, .int .u32 n89_18, .bool b89_19])]) w11 fun g90_20 w21 =>
  slW Try.prog (Builtin.append_ #[24, 24] 24 #[.slice A87_12 l87_13 c87_14, .slice (some ⟨g90_20, 0, none⟩) 1 1]) w21 fun A91_23 l91_24 c91_25 w22 =>
  slW Try.prog (Builtin.append_ #[24, 24] 24 #[.slice A91_23 l91_24 c91_25, .slice A8_6 l8_4 c8_5]) w22 fun A95_27 l95_28 c95_29 w26 =>
  nilck A0_1 fun a30 =>
  stW Try.prog 24 (a30.add 1) (.slice A95_27 l95_28 c95_29) w26 fun w31 =>
  R (.returned (.int .i64 0)) w31
theorem p14_eq (R : Ending → World → Prop) (A0_1 : Option Addr) (g3_2 : Nat) (n6_3 : Int) (A8_6 : Option Addr) (l8_4 : Nat) (c8_5 : Nat) (w : World) : p14 R A0_1 g3_2 n6_3 A8_6 l8_4 c8_5 w = pieceF Try.prog Try.f19 R stops 3000 (cfg Try.f19 14) [(0, .pointer A0_1), (3, .pointer (some ⟨g3_2, 0, none⟩)), (6, .int .i64 n6_3), (8, .slice A8_6 l8_4 c8_5)] w := by kernel_rfl
theorem p14_ok {R : Ending → World → Prop} {A0_1 : Option Addr} {g3_2 : Nat} {n6_3 : Int} {A8_6 : Option Addr} {l8_4 : Nat} {c8_5 : Nat} {w : World} (h : p14 R A0_1 g3_2 n6_3 A8_6 l8_4 c8_5 w) : SK Try.prog Try.f19 R (cfg Try.f19 14) [(0, .pointer A0_1), (3, .pointer (some ⟨g3_2, 0, none⟩)), (6, .int .i64 n6_3), (8, .slice A8_6 l8_4 c8_5)] w := piece_sound mixed (Eq.mp (p14_eq R A0_1 g3_2 n6_3 A8_6 l8_4 c8_5 w) h)
end F19

/-! ### 20: (*halyard/halyardref28.File).Del -/
namespace F20
def stops : Stops := []
def main (R : Ending → World → Prop) (Ap0_1 : Option Addr) (sp1_2 : ByteArray) (w : World) : Prop :=
  Calls Try.prog 31 #[.pointer Ap0_1, .string sp1_2] w fun en w5 =>
  (∃ (n10_3 : Int) (b10_4 : Bool), en = .returned (.tuple #[.int .i64 n10_3, .bool b10_4]) ∧ (bif (!b10_4) then (R (.returned (.int .i64 3)) w5) else (nilck Ap0_1 fun a7 =>
  ∃ (A19_8 : Option Addr) (l19_9 : Nat) (c19_10 : Nat), (World.drew w5).cell? (a7.add 1) = some (.slice A19_8 l19_9 c19_10) ∧ sbck (0 : Int) n10_3 c19_10 true ∧ nilck Ap0_1 fun a11 =>
  ∃ (A26_12 : Option Addr) (l26_13 : Nat) (c26_14 : Nat), (World.drew w5).cell? (a11.add 1) = some (.slice A26_12 l26_13 c26_14) ∧ sbck (IntKind.wrap .i64 (n10_3 + 1)) ((l26_13 : Nat) : Int) c26_14 false ∧ slW Try.prog (Builtin.append_ #[24, 24] 24 #[.slice none 0 0, .slice (slcA A19_8 c19_10 (Int.toNat (0 : Int)) 5) (Int.toNat n10_3 - Int.toNat (0 : Int)) (c19_10 - Int.toNat (0 : Int))]) (World.drew w5) fun A22_16 l22_17 c22_18 w15 =>
  ((World.drew w5).cell? (a11.add 1) = some (.slice A26_12 l26_13 c26_14) → w15.cell? (a11.add 1) = some (.slice A26_12 l26_13 c26_14)) ∧ slW Try.prog (Builtin.append_ #[24, 24] 24 #[.slice A22_16 l22_17 c22_18, .slice (slcA A26_12 c26_14 (Int.toNat (IntKind.wrap .i64 (n10_3 + 1))) 5) (Int.toNat ((l26_13 : Nat) : Int) - Int.toNat (IntKind.wrap .i64 (n10_3 + 1))) (c26_14 - Int.toNat (IntKind.wrap .i64 (n10_3 + 1)))]) w15 fun A30_20 l30_21 c30_22 w19 =>
  nilck Ap0_1 fun a23 =>
  stW Try.prog 24 (a23.add 1) (.slice A30_20 l30_21 c30_22) w19 fun w24 =>
  R (.returned (.int .i64 0)) w24)))
  ∨ ∃ ch6, en = .panicked ch6 ∧ R (.panicked ch6) w5
theorem main_eq (R : Ending → World → Prop) (Ap0_1 : Option Addr) (sp1_2 : ByteArray) (w : World) : main R Ap0_1 sp1_2 w = mainF Try.prog Try.f20 R stops 3000 [.pointer Ap0_1, .string sp1_2] w := by kernel_rfl
theorem calls {R : Ending → World → Prop} {Ap0_1 : Option Addr} {sp1_2 : ByteArray} {w : World} (h : main R Ap0_1 sp1_2 w) : Calls Try.prog 20 #[.pointer Ap0_1, .string sp1_2] w R := main_sound Try.func20 mixed (Eq.mp (main_eq R Ap0_1 sp1_2 w) h)
end F20

/-! ### 21: halyard/halyardlaw28.sub -/
namespace F21
def stops : Stops := []
def main (R : Ending → World → Prop) (sp0_1 : ByteArray) (np1_2 : Int) (w : World) : Prop :=
  newW Try.prog (Instr.alloc 33 true (.tuple #[])) w fun g4_3 w4 =>
  stW Try.prog 33 ⟨g4_3, 0, none⟩ (.agg #[.string sp0_1, .string ({ data := #[] }), .string ({ data := #[112] }), .int .u32 np1_2, .bool false]) w4 fun w5 =>
  ∃ (s4_6 : ByteArray) (s4_7 : ByteArray) (s4_8 : ByteArray) (n4_9 : Int) (b4_10 : Bool), cellsAt w5 ⟨g4_3, 0, none⟩ 0 [.string s4_6, .string s4_7, .string s4_8, .int .u32 n4_9, .bool b4_10] ∧ R (.returned (.agg #[.string s4_6, .string s4_7, .string s4_8, .int .u32 n4_9, .bool b4_10])) w5
theorem main_eq (R : Ending → World → Prop) (sp0_1 : ByteArray) (np1_2 : Int) (w : World) : main R sp0_1 np1_2 w = mainF Try.prog Try.f21 R stops 3000 [.string sp0_1, .int .u32 np1_2] w := by kernel_rfl
theorem calls {R : Ending → World → Prop} {sp0_1 : ByteArray} {np1_2 : Int} {w : World} (h : main R sp0_1 np1_2 w) : Calls Try.prog 21 #[.string sp0_1, .int .u32 np1_2] w R := main_sound Try.func21 mixed (Eq.mp (main_eq R sp0_1 np1_2 w) h)
end F21

/-! ### 22: (*halyard/halyardref28.File).Of -/
namespace F22
def stops : Stops := []
def main (R : Ending → World → Prop) (Ap0_1 : Option Addr) (sp1_2 : ByteArray) (w : World) : Prop :=
  newW Try.prog (Instr.alloc 33 true (.tuple #[])) w fun g4_3 w4 =>
  Calls Try.prog 31 #[.pointer Ap0_1, .string sp1_2] w4 fun en w7 =>
  (∃ (n11_5 : Int) (b11_6 : Bool), en = .returned (.tuple #[.int .i64 n11_5, .bool b11_6]) ∧ (bif (!b11_6) then (stW Try.prog 33 ⟨g4_3, 0, none⟩ (.agg #[.string ({ data := #[] }), .string ({ data := #[] }), .string ({ data := #[] }), .int .u32 0, .bool false]) w7 fun w9 =>
  ∃ (s4_10 : ByteArray) (s4_11 : ByteArray) (s4_12 : ByteArray) (n4_13 : Int) (b4_14 : Bool), cellsAt w9 ⟨g4_3, 0, none⟩ 0 [.string s4_10, .string s4_11, .string s4_12, .int .u32 n4_13, .bool b4_14] ∧ R (.returned (.tuple #[.agg #[.string s4_10, .string s4_11, .string s4_12, .int .u32 n4_13, .bool b4_14], .bool false])) w9) else (nilck Ap0_1 fun a15 =>
  ∃ (A20_16 : Option Addr) (l20_17 : Nat) (c20_18 : Nat), w7.cell? (a15.add 1) = some (.slice A20_16 l20_17 c20_18) ∧ idxck A20_16 l20_17 n11_5 fun a19 =>
  ∃ (s23_20 : ByteArray) (s23_21 : ByteArray) (s23_22 : ByteArray) (n23_23 : Int) (b23_24 : Bool), cellsAt w7 (a19.add (Int.toNat n11_5 * 5)) 0 [.string s23_20, .string s23_21, .string s23_22, .int .u32 n23_23, .bool b23_24] ∧ stW Try.prog 33 ⟨g4_3, 0, none⟩ (.agg #[.string s23_20, .string s23_21, .string s23_22, .int .u32 n23_23, .bool b23_24]) w7 fun w25 =>
  ∃ (s4_26 : ByteArray) (s4_27 : ByteArray) (s4_28 : ByteArray) (n4_29 : Int) (b4_30 : Bool), cellsAt w25 ⟨g4_3, 0, none⟩ 0 [.string s4_26, .string s4_27, .string s4_28, .int .u32 n4_29, .bool b4_30] ∧ R (.returned (.tuple #[.agg #[.string s4_26, .string s4_27, .string s4_28, .int .u32 n4_29, .bool b4_30], .bool true])) w25)))
  ∨ ∃ ch8, en = .panicked ch8 ∧ R (.panicked ch8) w7
theorem main_eq (R : Ending → World → Prop) (Ap0_1 : Option Addr) (sp1_2 : ByteArray) (w : World) : main R Ap0_1 sp1_2 w = mainF Try.prog Try.f22 R stops 3000 [.pointer Ap0_1, .string sp1_2] w := by kernel_rfl
theorem calls {R : Ending → World → Prop} {Ap0_1 : Option Addr} {sp1_2 : ByteArray} {w : World} (h : main R Ap0_1 sp1_2 w) : Calls Try.prog 22 #[.pointer Ap0_1, .string sp1_2] w R := main_sound Try.func22 mixed (Eq.mp (main_eq R Ap0_1 sp1_2 w) h)
end F22

/-! ### 23: (*halyard/halyardref28.File).At -/
namespace F23
def stops : Stops := [(2, [0, 1, 4, 6])]
def main (R : Ending → World → Prop) (Ap0_1 : Option Addr) (np1_2 : Int) (w : World) : Prop :=
  newW Try.prog (Instr.alloc 33 true (.tuple #[])) w fun g4_3 w4 =>
  SK Try.prog Try.f23 R (cfg Try.f23 2) [(0, .pointer Ap0_1), (1, .int .u32 np1_2), (4, .pointer (some ⟨g4_3, 0, none⟩)), (6, .int .i64 0)] w4
theorem main_eq (R : Ending → World → Prop) (Ap0_1 : Option Addr) (np1_2 : Int) (w : World) : main R Ap0_1 np1_2 w = mainF Try.prog Try.f23 R stops 3000 [.pointer Ap0_1, .int .u32 np1_2] w := by kernel_rfl
theorem calls {R : Ending → World → Prop} {Ap0_1 : Option Addr} {np1_2 : Int} {w : World} (h : main R Ap0_1 np1_2 w) : Calls Try.prog 23 #[.pointer Ap0_1, .int .u32 np1_2] w R := main_sound Try.func23 mixed (Eq.mp (main_eq R Ap0_1 np1_2 w) h)
def p2 (R : Ending → World → Prop) (A0_1 : Option Addr) (n1_2 : Int) (g4_3 : Nat) (n6_4 : Int) (w : World) : Prop :=
  nilck A0_1 fun a5 =>
  ∃ (A11_6 : Option Addr) (l11_7 : Nat) (c11_8 : Nat), w.cell? (a5.add 1) = some (.slice A11_6 l11_7 c11_8) ∧ (bif (decide (n6_4 < ((l11_7 : Nat) : Int))) then (nilck A0_1 fun a9 =>
  ∃ (A19_10 : Option Addr) (l19_11 : Nat) (c19_12 : Nat), w.cell? (a9.add 1) = some (.slice A19_10 l19_11 c19_12) ∧ idxck A19_10 l19_11 n6_4 fun a13 =>
  ∃ (n23_14 : Int), w.cell? ((a13.add (Int.toNat n6_4 * 5)).add 3) = some (.int .u32 n23_14) ∧ (bif (n23_14 == n1_2) then (nilck A0_1 fun a15 =>
  ∃ (A29_16 : Option Addr) (l29_17 : Nat) (c29_18 : Nat), w.cell? (a15.add 1) = some (.slice A29_16 l29_17 c29_18) ∧ idxck A29_16 l29_17 n6_4 fun a19 =>
  ∃ (s32_20 : ByteArray) (s32_21 : ByteArray) (s32_22 : ByteArray) (n32_23 : Int) (b32_24 : Bool), cellsAt w (a19.add (Int.toNat n6_4 * 5)) 0 [.string s32_20, .string s32_21, .string s32_22, .int .u32 n32_23, .bool b32_24] ∧ stW Try.prog 33 ⟨g4_3, 0, none⟩ (.agg #[.string s32_20, .string s32_21, .string s32_22, .int .u32 n32_23, .bool b32_24]) w fun w25 =>
  ∃ (s4_26 : ByteArray) (s4_27 : ByteArray) (s4_28 : ByteArray) (n4_29 : Int) (b4_30 : Bool), cellsAt w25 ⟨g4_3, 0, none⟩ 0 [.string s4_26, .string s4_27, .string s4_28, .int .u32 n4_29, .bool b4_30] ∧ R (.returned (.tuple #[.agg #[.string s4_26, .string s4_27, .string s4_28, .int .u32 n4_29, .bool b4_30], .bool true])) w25) else (SK Try.prog Try.f23 R (cfg Try.f23 2) [(0, .pointer A0_1), (1, .int .u32 n1_2), (4, .pointer (some ⟨g4_3, 0, none⟩)), (6, .int .i64 (IntKind.wrap .i64 (n6_4 + 1)))] w))) else (stW Try.prog 33 ⟨g4_3, 0, none⟩ (.agg #[.string ({ data := #[] }), .string ({ data := #[] }), .string ({ data := #[] }), .int .u32 0, .bool false]) w fun w31 =>
  ∃ (s4_32 : ByteArray) (s4_33 : ByteArray) (s4_34 : ByteArray) (n4_35 : Int) (b4_36 : Bool), cellsAt w31 ⟨g4_3, 0, none⟩ 0 [.string s4_32, .string s4_33, .string s4_34, .int .u32 n4_35, .bool b4_36] ∧ R (.returned (.tuple #[.agg #[.string s4_32, .string s4_33, .string s4_34, .int .u32 n4_35, .bool b4_36], .bool false])) w31))
theorem p2_eq (R : Ending → World → Prop) (A0_1 : Option Addr) (n1_2 : Int) (g4_3 : Nat) (n6_4 : Int) (w : World) : p2 R A0_1 n1_2 g4_3 n6_4 w = pieceF Try.prog Try.f23 R stops 3000 (cfg Try.f23 2) [(0, .pointer A0_1), (1, .int .u32 n1_2), (4, .pointer (some ⟨g4_3, 0, none⟩)), (6, .int .i64 n6_4)] w := by kernel_rfl
theorem p2_ok {R : Ending → World → Prop} {A0_1 : Option Addr} {n1_2 : Int} {g4_3 : Nat} {n6_4 : Int} {w : World} (h : p2 R A0_1 n1_2 g4_3 n6_4 w) : SK Try.prog Try.f23 R (cfg Try.f23 2) [(0, .pointer A0_1), (1, .int .u32 n1_2), (4, .pointer (some ⟨g4_3, 0, none⟩)), (6, .int .i64 n6_4)] w := piece_sound mixed (Eq.mp (p2_eq R A0_1 n1_2 g4_3 n6_4 w) h)
end F23

/-! ### 24: halyard/record.Bytes -/
namespace F24
def stops : Stops := []
def main (R : Ending → World → Prop) (sp0_1 : ByteArray) (sp0_2 : ByteArray) (sp0_3 : ByteArray) (np0_4 : Int) (bp0_5 : Bool) (w : World) : Prop :=
  newW Try.prog (Instr.box 33 (.agg #[.string sp0_1, .string sp0_2, .string sp0_3, .int .u32 np0_4, .bool bp0_5])) w fun g1_6 w7 =>
  ∃ (s8_8 : ByteArray) (s8_9 : ByteArray) (s8_10 : ByteArray) (n8_11 : Int) (b8_12 : Bool), cellsAt w7 ⟨g1_6, 0, none⟩ 0 [.string s8_8, .string s8_9, .string s8_10, .int .u32 n8_11, .bool b8_12] ∧ Calls Try.prog 16 #[.agg #[.string s8_8, .string s8_9, .string s8_10, .int .u32 n8_11, .bool b8_12]] w7 fun en w14 =>
  (∃ (n9_13 : Int), en = .returned (.int .i64 n9_13) ∧ (bif (n9_13 != 0) then (R (.returned (.tuple #[.string ({ data := #[] }), .int .i64 n9_13])) w14) else (∃ (s15_16 : ByteArray), w14.cell? ⟨g1_6, 0, none⟩ = some (.string s15_16) ∧ ∃ (s17_17 : ByteArray), w14.cell? ⟨g1_6, 1, none⟩ = some (.string s17_17) ∧ ∃ (s19_18 : ByteArray), w14.cell? ⟨g1_6, 2, none⟩ = some (.string s19_18) ∧ bslW Try.prog 3 (Instr.buildSlice 86 3 #[(0, .string s15_16), (1, .string s17_17), (2, .string s19_18)]) w14 fun g20_19 w20 =>
  Calls Try.prog 32 #[.slice (some ⟨g20_19, 0, none⟩) 3 3] w20 fun en w23 =>
  (∃ (s21_21 : ByteArray) (n21_22 : Int), en = .returned (.tuple #[.string s21_21, .int .i64 n21_22]) ∧ ∃ (b25_25 : Bool), w23.cell? ⟨g1_6, 4, none⟩ = some (.bool b25_25) ∧ (bif b25_25 then (∃ (n28_26 : Int), w23.cell? ⟨g1_6, 3, none⟩ = some (.int .u32 n28_26) ∧ Calls Try.prog 33 #[.int .u32 n28_26] w23 fun en w28 =>
  (∃ (s29_27 : ByteArray), en = .returned (.string s29_27) ∧ (s21_21 : ByteArray).size + (s29_27 : ByteArray).size ≤ 9223372036854775807 ∧ ((s21_21 ++ s29_27) : ByteArray).size + ({ data := #[1] } : ByteArray).size ≤ 9223372036854775807 ∧ R (.returned (.tuple #[.string ((s21_21 ++ s29_27) ++ { data := #[1] }), .int .i64 0])) w28)
  ∨ ∃ ch29, en = .panicked ch29 ∧ R (.panicked ch29) w28) else (∃ (n28_30 : Int), w23.cell? ⟨g1_6, 3, none⟩ = some (.int .u32 n28_30) ∧ Calls Try.prog 33 #[.int .u32 n28_30] w23 fun en w32 =>
  (∃ (s29_31 : ByteArray), en = .returned (.string s29_31) ∧ (s21_21 : ByteArray).size + (s29_31 : ByteArray).size ≤ 9223372036854775807 ∧ ((s21_21 ++ s29_31) : ByteArray).size + ({ data := #[0] } : ByteArray).size ≤ 9223372036854775807 ∧ R (.returned (.tuple #[.string ((s21_21 ++ s29_31) ++ { data := #[0] }), .int .i64 0])) w32)
  ∨ ∃ ch33, en = .panicked ch33 ∧ R (.panicked ch33) w32)))
  ∨ ∃ ch24, en = .panicked ch24 ∧ R (.panicked ch24) w23)))
  ∨ ∃ ch15, en = .panicked ch15 ∧ R (.panicked ch15) w14
theorem main_eq (R : Ending → World → Prop) (sp0_1 : ByteArray) (sp0_2 : ByteArray) (sp0_3 : ByteArray) (np0_4 : Int) (bp0_5 : Bool) (w : World) : main R sp0_1 sp0_2 sp0_3 np0_4 bp0_5 w = mainF Try.prog Try.f24 R stops 3000 [.agg #[.string sp0_1, .string sp0_2, .string sp0_3, .int .u32 np0_4, .bool bp0_5]] w := by kernel_rfl
theorem calls {R : Ending → World → Prop} {sp0_1 : ByteArray} {sp0_2 : ByteArray} {sp0_3 : ByteArray} {np0_4 : Int} {bp0_5 : Bool} {w : World} (h : main R sp0_1 sp0_2 sp0_3 np0_4 bp0_5 w) : Calls Try.prog 24 #[.agg #[.string sp0_1, .string sp0_2, .string sp0_3, .int .u32 np0_4, .bool bp0_5]] w R := main_sound Try.func24 mixed (Eq.mp (main_eq R sp0_1 sp0_2 sp0_3 np0_4 bp0_5 w) h)
end F24

/-! ### 25: halyard/record.Read -/
namespace F25
def stops : Stops := [(3, [2, 4, 14, 15, 16]), (7, [2]), (10, [2, 4]), (12, [2, 4])]
def main (R : Ending → World → Prop) (sp0_1 : ByteArray) (w : World) : Prop :=
  newW Try.prog (Instr.alloc 33 true (.tuple #[])) w fun g2_2 w3 =>
  bslW Try.prog 3 (Instr.buildSlice 74 3 #[(0, .pointer (some ⟨g2_2, 0, none⟩)), (1, .pointer (some ⟨g2_2, 1, none⟩)), (2, .pointer (some ⟨g2_2, 2, none⟩))]) w3 fun g14_4 w5 =>
  SK Try.prog Try.f25 R (cfg Try.f25 3) [(2, .pointer (some ⟨g2_2, 0, none⟩)), (4, .string sp0_1), (14, .slice (some ⟨g14_4, 0, none⟩) 3 3), (15, .int .i64 ((3 : Nat) : Int)), (16, .int .i64 0)] w5
theorem main_eq (R : Ending → World → Prop) (sp0_1 : ByteArray) (w : World) : main R sp0_1 w = mainF Try.prog Try.f25 R stops 3000 [.string sp0_1] w := by kernel_rfl
theorem calls {R : Ending → World → Prop} {sp0_1 : ByteArray} {w : World} (h : main R sp0_1 w) : Calls Try.prog 25 #[.string sp0_1] w R := main_sound Try.func25 mixed (Eq.mp (main_eq R sp0_1 w) h)
def p3 (R : Ending → World → Prop) (g2_1 : Nat) (s4_2 : ByteArray) (g14_5 : Nat) (l14_3 : Nat) (c14_4 : Nat) (n15_6 : Int) (n16_7 : Int) (w : World) : Prop :=
  (bif (decide (n16_7 < n15_6)) then (idxck (some ⟨g14_5, 0, none⟩) l14_3 n16_7 fun a8 =>
  ∃ (A20_9 : Option Addr), w.cell? (a8.add (Int.toNat n16_7 * 1)) = some (.pointer A20_9) ∧ Calls Try.prog 34 #[.string s4_2] w fun en w13 =>
  (∃ (s23_10 : ByteArray) (s23_11 : ByteArray) (n23_12 : Int), en = .returned (.tuple #[.string s23_10, .string s23_11, .int .i64 n23_12]) ∧ (bif (n23_12 != 0) then ((bif (decide (n16_7 < 3)) then (SK Try.prog Try.f25 R (cfg Try.f25 7) [(2, .pointer (some ⟨g2_1, 0, none⟩))] w13) else (nilck A20_9 fun a15 =>
  stW Try.prog 9 a15 (.string s23_10) w13 fun w16 =>
  SK Try.prog Try.f25 R (cfg Try.f25 3) [(2, .pointer (some ⟨g2_1, 0, none⟩)), (4, .string s23_11), (14, .slice (some ⟨g14_5, 0, none⟩) l14_3 c14_4), (15, .int .i64 n15_6), (16, .int .i64 (IntKind.wrap .i64 (n16_7 + 1)))] w16))) else (nilck A20_9 fun a17 =>
  stW Try.prog 9 a17 (.string s23_10) w13 fun w18 =>
  SK Try.prog Try.f25 R (cfg Try.f25 3) [(2, .pointer (some ⟨g2_1, 0, none⟩)), (4, .string s23_11), (14, .slice (some ⟨g14_5, 0, none⟩) l14_3 c14_4), (15, .int .i64 n15_6), (16, .int .i64 (IntKind.wrap .i64 (n16_7 + 1)))] w18)))
  ∨ ∃ ch14, en = .panicked ch14 ∧ R (.panicked ch14) w13) else (SK Try.prog Try.f25 R (cfg Try.f25 10) [(2, .pointer (some ⟨g2_1, 0, none⟩)), (4, .string s4_2)] w))
theorem p3_eq (R : Ending → World → Prop) (g2_1 : Nat) (s4_2 : ByteArray) (g14_5 : Nat) (l14_3 : Nat) (c14_4 : Nat) (n15_6 : Int) (n16_7 : Int) (w : World) : p3 R g2_1 s4_2 g14_5 l14_3 c14_4 n15_6 n16_7 w = pieceF Try.prog Try.f25 R stops 3000 (cfg Try.f25 3) [(2, .pointer (some ⟨g2_1, 0, none⟩)), (4, .string s4_2), (14, .slice (some ⟨g14_5, 0, none⟩) l14_3 c14_4), (15, .int .i64 n15_6), (16, .int .i64 n16_7)] w := by kernel_rfl
theorem p3_ok {R : Ending → World → Prop} {g2_1 : Nat} {s4_2 : ByteArray} {g14_5 : Nat} {l14_3 : Nat} {c14_4 : Nat} {n15_6 : Int} {n16_7 : Int} {w : World} (h : p3 R g2_1 s4_2 g14_5 l14_3 c14_4 n15_6 n16_7 w) : SK Try.prog Try.f25 R (cfg Try.f25 3) [(2, .pointer (some ⟨g2_1, 0, none⟩)), (4, .string s4_2), (14, .slice (some ⟨g14_5, 0, none⟩) l14_3 c14_4), (15, .int .i64 n15_6), (16, .int .i64 n16_7)] w := piece_sound mixed (Eq.mp (p3_eq R g2_1 s4_2 g14_5 l14_3 c14_4 n15_6 n16_7 w) h)
def p7 (R : Ending → World → Prop) (g2_1 : Nat) (w : World) : Prop :=
  SK Try.prog Try.f25 R (cfg Try.f25 10) [(2, .pointer (some ⟨g2_1, 0, none⟩)), (4, .string ({ data := #[] }))] w
theorem p7_eq (R : Ending → World → Prop) (g2_1 : Nat) (w : World) : p7 R g2_1 w = pieceF Try.prog Try.f25 R stops 3000 (cfg Try.f25 7) [(2, .pointer (some ⟨g2_1, 0, none⟩))] w := by kernel_rfl
theorem p7_ok {R : Ending → World → Prop} {g2_1 : Nat} {w : World} (h : p7 R g2_1 w) : SK Try.prog Try.f25 R (cfg Try.f25 7) [(2, .pointer (some ⟨g2_1, 0, none⟩))] w := piece_sound mixed (Eq.mp (p7_eq R g2_1 w) h)
def p10 (R : Ending → World → Prop) (g2_1 : Nat) (s4_2 : ByteArray) (w : World) : Prop :=
  (bif (((ByteArray.size s4_2 : Nat) : Int) != 5) then (stW Try.prog 33 ⟨g2_1, 0, none⟩ (.agg #[.string ({ data := #[] }), .string ({ data := #[] }), .string ({ data := #[] }), .int .u32 0, .bool false]) w fun w3 =>
  ∃ (s2_4 : ByteArray) (s2_5 : ByteArray) (s2_6 : ByteArray) (n2_7 : Int) (b2_8 : Bool), cellsAt w3 ⟨g2_1, 0, none⟩ 0 [.string s2_4, .string s2_5, .string s2_6, .int .u32 n2_7, .bool b2_8] ∧ R (.returned (.tuple #[.agg #[.string s2_4, .string s2_5, .string s2_6, .int .u32 n2_7, .bool b2_8], .int .i64 7])) w3) else (((0 : Int) ≤ 4 ∧ 4 < (ByteArray.size s4_2 : Int)) ∧ (bif (decide ((btAt s4_2 4) > 1)) then (stW Try.prog 33 ⟨g2_1, 0, none⟩ (.agg #[.string ({ data := #[] }), .string ({ data := #[] }), .string ({ data := #[] }), .int .u32 0, .bool false]) w fun w9 =>
  ∃ (s2_10 : ByteArray) (s2_11 : ByteArray) (s2_12 : ByteArray) (n2_13 : Int) (b2_14 : Bool), cellsAt w9 ⟨g2_1, 0, none⟩ 0 [.string s2_10, .string s2_11, .string s2_12, .int .u32 n2_13, .bool b2_14] ∧ R (.returned (.tuple #[.agg #[.string s2_10, .string s2_11, .string s2_12, .int .u32 n2_13, .bool b2_14], .int .i64 7])) w9) else (SK Try.prog Try.f25 R (cfg Try.f25 12) [(2, .pointer (some ⟨g2_1, 0, none⟩)), (4, .string s4_2)] w))))
theorem p10_eq (R : Ending → World → Prop) (g2_1 : Nat) (s4_2 : ByteArray) (w : World) : p10 R g2_1 s4_2 w = pieceF Try.prog Try.f25 R stops 3000 (cfg Try.f25 10) [(2, .pointer (some ⟨g2_1, 0, none⟩)), (4, .string s4_2)] w := by kernel_rfl
theorem p10_ok {R : Ending → World → Prop} {g2_1 : Nat} {s4_2 : ByteArray} {w : World} (h : p10 R g2_1 s4_2 w) : SK Try.prog Try.f25 R (cfg Try.f25 10) [(2, .pointer (some ⟨g2_1, 0, none⟩)), (4, .string s4_2)] w := piece_sound mixed (Eq.mp (p10_eq R g2_1 s4_2 w) h)
def p12 (R : Ending → World → Prop) (g2_1 : Nat) (s4_2 : ByteArray) (w : World) : Prop :=
  sbck (0 : Int) 4 (ByteArray.size s4_2) true ∧ Calls Try.prog 35 #[.string (ByteArray.extract s4_2 (Int.toNat (0 : Int)) (Int.toNat 4))] w fun en w5 =>
  (∃ (n50_3 : Int) (n50_4 : Int), en = .returned (.tuple #[.int .u32 n50_3, .int .i64 n50_4]) ∧ stW Try.prog 31 ⟨g2_1, 3, none⟩ (.int .u32 n50_3) w5 fun w7 =>
  ((0 : Int) ≤ 4 ∧ 4 < (ByteArray.size s4_2 : Int)) ∧ stW Try.prog 4 ⟨g2_1, 4, none⟩ (.bool ((btAt s4_2 4) == 1)) w7 fun w8 =>
  ∃ (s58_9 : ByteArray) (s58_10 : ByteArray) (s58_11 : ByteArray) (n58_12 : Int) (b58_13 : Bool), cellsAt w8 ⟨g2_1, 0, none⟩ 0 [.string s58_9, .string s58_10, .string s58_11, .int .u32 n58_12, .bool b58_13] ∧ Calls Try.prog 16 #[.agg #[.string s58_9, .string s58_10, .string s58_11, .int .u32 n58_12, .bool b58_13]] w8 fun en w15 =>
  (∃ (n59_14 : Int), en = .returned (.int .i64 n59_14) ∧ (bif (n59_14 != 0) then (stW Try.prog 33 ⟨g2_1, 0, none⟩ (.agg #[.string ({ data := #[] }), .string ({ data := #[] }), .string ({ data := #[] }), .int .u32 0, .bool false]) w15 fun w17 =>
  ∃ (s2_18 : ByteArray) (s2_19 : ByteArray) (s2_20 : ByteArray) (n2_21 : Int) (b2_22 : Bool), cellsAt w17 ⟨g2_1, 0, none⟩ 0 [.string s2_18, .string s2_19, .string s2_20, .int .u32 n2_21, .bool b2_22] ∧ R (.returned (.tuple #[.agg #[.string s2_18, .string s2_19, .string s2_20, .int .u32 n2_21, .bool b2_22], .int .i64 7])) w17) else (∃ (s62_23 : ByteArray) (s62_24 : ByteArray) (s62_25 : ByteArray) (n62_26 : Int) (b62_27 : Bool), cellsAt w15 ⟨g2_1, 0, none⟩ 0 [.string s62_23, .string s62_24, .string s62_25, .int .u32 n62_26, .bool b62_27] ∧ stW Try.prog 33 ⟨g2_1, 0, none⟩ (.agg #[.string s62_23, .string s62_24, .string s62_25, .int .u32 n62_26, .bool b62_27]) w15 fun w28 =>
  ∃ (s2_29 : ByteArray) (s2_30 : ByteArray) (s2_31 : ByteArray) (n2_32 : Int) (b2_33 : Bool), cellsAt w28 ⟨g2_1, 0, none⟩ 0 [.string s2_29, .string s2_30, .string s2_31, .int .u32 n2_32, .bool b2_33] ∧ R (.returned (.tuple #[.agg #[.string s2_29, .string s2_30, .string s2_31, .int .u32 n2_32, .bool b2_33], .int .i64 0])) w28)))
  ∨ ∃ ch16, en = .panicked ch16 ∧ R (.panicked ch16) w15)
  ∨ ∃ ch6, en = .panicked ch6 ∧ R (.panicked ch6) w5
theorem p12_eq (R : Ending → World → Prop) (g2_1 : Nat) (s4_2 : ByteArray) (w : World) : p12 R g2_1 s4_2 w = pieceF Try.prog Try.f25 R stops 3000 (cfg Try.f25 12) [(2, .pointer (some ⟨g2_1, 0, none⟩)), (4, .string s4_2)] w := by kernel_rfl
theorem p12_ok {R : Ending → World → Prop} {g2_1 : Nat} {s4_2 : ByteArray} {w : World} (h : p12 R g2_1 s4_2 w) : SK Try.prog Try.f25 R (cfg Try.f25 12) [(2, .pointer (some ⟨g2_1, 0, none⟩)), (4, .string s4_2)] w := piece_sound mixed (Eq.mp (p12_eq R g2_1 s4_2 w) h)
end F25

/-! ### 26: halyard/record.sorted[string,halyard/api.Sub] -/
namespace F26
def stops : Stops := []
def main (R : Ending → World → Prop) (mp0_1 : Option Nat) (vp1_2 : Value) (w : World) : Prop :=
  newW Try.prog (Instr.box 62 vp1_2) w fun g3_3 w4 =>
  Calls Try.prog 37 #[.map mp0_1] w4 fun en w6 =>
  (∃ (v6_5 : Value), en = .returned v6_5 ∧ Calls Try.prog 36 #[v6_5, .func (Go.Fn.func 38) #[] #[.pointer (some ⟨g3_3, 0, none⟩)]] w6 fun en w11 =>
  (∃ (A8_8 : Option Addr) (l8_9 : Nat) (c8_10 : Nat), en = .returned (.slice A8_8 l8_9 c8_10) ∧ R (.returned (.slice A8_8 l8_9 c8_10)) w11)
  ∨ ∃ ch12, en = .panicked ch12 ∧ R (.panicked ch12) w11)
  ∨ ∃ ch7, en = .panicked ch7 ∧ R (.panicked ch7) w6
theorem main_eq (R : Ending → World → Prop) (mp0_1 : Option Nat) (vp1_2 : Value) (w : World) : main R mp0_1 vp1_2 w = mainF Try.prog Try.f26 R stops 3000 [.map mp0_1, vp1_2] w := by kernel_rfl
theorem calls {R : Ending → World → Prop} {mp0_1 : Option Nat} {vp1_2 : Value} {w : World} (h : main R mp0_1 vp1_2 w) : Calls Try.prog 26 #[.map mp0_1, vp1_2] w R := main_sound Try.func26 mixed (Eq.mp (main_eq R mp0_1 vp1_2 w) h)
end F26

/-! ### 27: (*halyard/record.File).List$1 -/
namespace F27
def stops : Stops := []
def main (R : Ending → World → Prop) (sp0_1 : ByteArray) (sp0_2 : ByteArray) (sp0_3 : ByteArray) (np0_4 : Int) (bp0_5 : Bool) (w : World) : Prop :=
  newW Try.prog (Instr.box 33 (.agg #[.string sp0_1, .string sp0_2, .string sp0_3, .int .u32 np0_4, .bool bp0_5])) w fun g1_6 w7 =>
  ∃ (s4_8 : ByteArray), w7.cell? ⟨g1_6, 0, none⟩ = some (.string s4_8) ∧ R (.returned (.string s4_8)) w7
theorem main_eq (R : Ending → World → Prop) (sp0_1 : ByteArray) (sp0_2 : ByteArray) (sp0_3 : ByteArray) (np0_4 : Int) (bp0_5 : Bool) (w : World) : main R sp0_1 sp0_2 sp0_3 np0_4 bp0_5 w = mainF Try.prog Try.f27 R stops 3000 [.agg #[.string sp0_1, .string sp0_2, .string sp0_3, .int .u32 np0_4, .bool bp0_5]] w := by kernel_rfl
theorem calls {R : Ending → World → Prop} {sp0_1 : ByteArray} {sp0_2 : ByteArray} {sp0_3 : ByteArray} {np0_4 : Int} {bp0_5 : Bool} {w : World} (h : main R sp0_1 sp0_2 sp0_3 np0_4 bp0_5 w) : Calls Try.prog 27 #[.agg #[.string sp0_1, .string sp0_2, .string sp0_3, .int .u32 np0_4, .bool bp0_5]] w R := main_sound Try.func27 mixed (Eq.mp (main_eq R sp0_1 sp0_2 sp0_3 np0_4 bp0_5 w) h)
end F27

/-! ### 28: halyard/record.in -/
namespace F28
def stops : Stops := []
def main (R : Ending → World → Prop) (sp0_1 : ByteArray) (np1_2 : Int) (np2_3 : Int) (w : World) : Prop :=
  (bif (decide (((ByteArray.size sp0_1 : Nat) : Int) ≥ np1_2)) then (R (.returned (.bool (decide (((ByteArray.size sp0_1 : Nat) : Int) ≤ np2_3)))) w) else (R (.returned (.bool false)) w))
theorem main_eq (R : Ending → World → Prop) (sp0_1 : ByteArray) (np1_2 : Int) (np2_3 : Int) (w : World) : main R sp0_1 np1_2 np2_3 w = mainF Try.prog Try.f28 R stops 3000 [.string sp0_1, .int .i64 np1_2, .int .i64 np2_3] w := by kernel_rfl
theorem calls {R : Ending → World → Prop} {sp0_1 : ByteArray} {np1_2 : Int} {np2_3 : Int} {w : World} (h : main R sp0_1 np1_2 np2_3 w) : Calls Try.prog 28 #[.string sp0_1, .int .i64 np1_2, .int .i64 np2_3] w R := main_sound Try.func28 mixed (Eq.mp (main_eq R sp0_1 np1_2 np2_3 w) h)
end F28

/-! ### 31: (*halyard/halyardref28.File).at -/
namespace F31
def stops : Stops := [(2, [0, 1, 6]), (4, [0, 1, 6])]
def main (R : Ending → World → Prop) (Ap0_1 : Option Addr) (sp1_2 : ByteArray) (w : World) : Prop :=
  SK Try.prog Try.f31 R (cfg Try.f31 2) [(0, .pointer Ap0_1), (1, .string sp1_2), (6, .int .i64 0)] w
theorem main_eq (R : Ending → World → Prop) (Ap0_1 : Option Addr) (sp1_2 : ByteArray) (w : World) : main R Ap0_1 sp1_2 w = mainF Try.prog Try.f31 R stops 3000 [.pointer Ap0_1, .string sp1_2] w := by kernel_rfl
theorem calls {R : Ending → World → Prop} {Ap0_1 : Option Addr} {sp1_2 : ByteArray} {w : World} (h : main R Ap0_1 sp1_2 w) : Calls Try.prog 31 #[.pointer Ap0_1, .string sp1_2] w R := main_sound Try.func31 mixed (Eq.mp (main_eq R Ap0_1 sp1_2 w) h)
def p2 (R : Ending → World → Prop) (A0_1 : Option Addr) (s1_2 : ByteArray) (n6_3 : Int) (w : World) : Prop :=
  nilck A0_1 fun a4 =>
  ∃ (A11_5 : Option Addr) (l11_6 : Nat) (c11_7 : Nat), w.cell? (a4.add 1) = some (.slice A11_5 l11_6 c11_7) ∧ (bif (decide (n6_3 < ((l11_6 : Nat) : Int))) then (nilck A0_1 fun a8 =>
  ∃ (A18_9 : Option Addr) (l18_10 : Nat) (c18_11 : Nat), w.cell? (a8.add 1) = some (.slice A18_9 l18_10 c18_11) ∧ idxck A18_9 l18_10 n6_3 fun a12 =>
  ∃ (s22_13 : ByteArray), w.cell? (a12.add (Int.toNat n6_3 * 5)) = some (.string s22_13) ∧ (bif (Op.bytesLess (ByteArray.toList s22_13) (ByteArray.toList s1_2)) then (SK Try.prog Try.f31 R (cfg Try.f31 2) [(0, .pointer A0_1), (1, .string s1_2), (6, .int .i64 (IntKind.wrap .i64 (n6_3 + 1)))] w) else (SK Try.prog Try.f31 R (cfg Try.f31 4) [(0, .pointer A0_1), (1, .string s1_2), (6, .int .i64 n6_3)] w))) else (SK Try.prog Try.f31 R (cfg Try.f31 4) [(0, .pointer A0_1), (1, .string s1_2), (6, .int .i64 n6_3)] w))
theorem p2_eq (R : Ending → World → Prop) (A0_1 : Option Addr) (s1_2 : ByteArray) (n6_3 : Int) (w : World) : p2 R A0_1 s1_2 n6_3 w = pieceF Try.prog Try.f31 R stops 3000 (cfg Try.f31 2) [(0, .pointer A0_1), (1, .string s1_2), (6, .int .i64 n6_3)] w := by kernel_rfl
theorem p2_ok {R : Ending → World → Prop} {A0_1 : Option Addr} {s1_2 : ByteArray} {n6_3 : Int} {w : World} (h : p2 R A0_1 s1_2 n6_3 w) : SK Try.prog Try.f31 R (cfg Try.f31 2) [(0, .pointer A0_1), (1, .string s1_2), (6, .int .i64 n6_3)] w := piece_sound mixed (Eq.mp (p2_eq R A0_1 s1_2 n6_3 w) h)
def p4 (R : Ending → World → Prop) (A0_1 : Option Addr) (s1_2 : ByteArray) (n6_3 : Int) (w : World) : Prop :=
  nilck A0_1 fun a4 =>
  ∃ (A33_5 : Option Addr) (l33_6 : Nat) (c33_7 : Nat), (World.drew w).cell? (a4.add 1) = some (.slice A33_5 l33_6 c33_7) ∧ (bif (decide (n6_3 < ((l33_6 : Nat) : Int))) then (nilck A0_1 fun a8 =>
  ∃ (A40_9 : Option Addr) (l40_10 : Nat) (c40_11 : Nat), (World.drew w).cell? (a8.add 1) = some (.slice A40_9 l40_10 c40_11) ∧ idxck A40_9 l40_10 n6_3 fun a12 =>
  ∃ (s44_13 : ByteArray), (World.drew w).cell? (a12.add (Int.toNat n6_3 * 5)) = some (.string s44_13) ∧ R (.returned (.tuple #[.int .i64 n6_3, .bool (s44_13 == s1_2)])) (World.drew w)) else (R (.returned (.tuple #[.int .i64 n6_3, .bool false])) (World.drew w)))
theorem p4_eq (R : Ending → World → Prop) (A0_1 : Option Addr) (s1_2 : ByteArray) (n6_3 : Int) (w : World) : p4 R A0_1 s1_2 n6_3 w = pieceF Try.prog Try.f31 R stops 3000 (cfg Try.f31 4) [(0, .pointer A0_1), (1, .string s1_2), (6, .int .i64 n6_3)] w := by kernel_rfl
theorem p4_ok {R : Ending → World → Prop} {A0_1 : Option Addr} {s1_2 : ByteArray} {n6_3 : Int} {w : World} (h : p4 R A0_1 s1_2 n6_3 w) : SK Try.prog Try.f31 R (cfg Try.f31 4) [(0, .pointer A0_1), (1, .string s1_2), (6, .int .i64 n6_3)] w := piece_sound mixed (Eq.mp (p4_eq R A0_1 s1_2 n6_3 w) h)
end F31

/-! ### 32: halyard/octet.Join8 -/
namespace F32
def stops : Stops := [(3, [4, 9, 10, 11])]
def main (R : Ending → World → Prop) (Ap0_1 : Option Addr) (lp0_2 : Nat) (cp0_3 : Nat) (w : World) : Prop :=
  newW Try.prog (Instr.alloc 90 true (.tuple #[])) w fun g4_4 w5 =>
  SK Try.prog Try.f32 R (cfg Try.f32 3) [(4, .pointer (some ⟨g4_4, 0, none⟩)), (9, .slice Ap0_1 lp0_2 cp0_3), (10, .int .i64 ((lp0_2 : Nat) : Int)), (11, .int .i64 0)] w5
theorem main_eq (R : Ending → World → Prop) (Ap0_1 : Option Addr) (lp0_2 : Nat) (cp0_3 : Nat) (w : World) : main R Ap0_1 lp0_2 cp0_3 w = mainF Try.prog Try.f32 R stops 3000 [.slice Ap0_1 lp0_2 cp0_3] w := by kernel_rfl
theorem calls {R : Ending → World → Prop} {Ap0_1 : Option Addr} {lp0_2 : Nat} {cp0_3 : Nat} {w : World} (h : main R Ap0_1 lp0_2 cp0_3 w) : Calls Try.prog 32 #[.slice Ap0_1 lp0_2 cp0_3] w R := main_sound Try.func32 mixed (Eq.mp (main_eq R Ap0_1 lp0_2 cp0_3 w) h)
def p3 (R : Ending → World → Prop) (g4_1 : Nat) (A9_4 : Option Addr) (l9_2 : Nat) (c9_3 : Nat) (n10_5 : Int) (n11_6 : Int) (w : World) : Prop :=
  (bif (decide (n11_6 < n10_5)) then (idxck A9_4 l9_2 n11_6 fun a7 =>
  ∃ (s14_8 : ByteArray), w.cell? (a7.add (Int.toNat n11_6 * 1)) = some (.string s14_8) ∧ Calls Try.prog 41 #[.string s14_8] w fun en w11 =>
  (∃ (s17_9 : ByteArray) (n17_10 : Int), en = .returned (.tuple #[.string s17_9, .int .i64 n17_10]) ∧ (bif (n17_10 != 0) then (R (.returned (.tuple #[.string ({ data := #[] }), .int .i64 n17_10])) w11) else (Calls Try.prog 42 #[.pointer (some ⟨g4_1, 0, none⟩), .string s17_9] w11 fun en w15 =>
  (∃ (n24_13 : Int) (v24_14 : Value), en = .returned (.tuple #[.int .i64 n24_13, v24_14]) ∧ SK Try.prog Try.f32 R (cfg Try.f32 3) [(4, .pointer (some ⟨g4_1, 0, none⟩)), (9, .slice A9_4 l9_2 c9_3), (10, .int .i64 n10_5), (11, .int .i64 (IntKind.wrap .i64 (n11_6 + 1)))] w15)
  ∨ ∃ ch16, en = .panicked ch16 ∧ R (.panicked ch16) w15)))
  ∨ ∃ ch12, en = .panicked ch12 ∧ R (.panicked ch12) w11) else (Calls Try.prog 43 #[.pointer (some ⟨g4_1, 0, none⟩)] w fun en w18 =>
  (∃ (s26_17 : ByteArray), en = .returned (.string s26_17) ∧ R (.returned (.tuple #[.string s26_17, .int .i64 0])) w18)
  ∨ ∃ ch19, en = .panicked ch19 ∧ R (.panicked ch19) w18))
theorem p3_eq (R : Ending → World → Prop) (g4_1 : Nat) (A9_4 : Option Addr) (l9_2 : Nat) (c9_3 : Nat) (n10_5 : Int) (n11_6 : Int) (w : World) : p3 R g4_1 A9_4 l9_2 c9_3 n10_5 n11_6 w = pieceF Try.prog Try.f32 R stops 3000 (cfg Try.f32 3) [(4, .pointer (some ⟨g4_1, 0, none⟩)), (9, .slice A9_4 l9_2 c9_3), (10, .int .i64 n10_5), (11, .int .i64 n11_6)] w := by kernel_rfl
theorem p3_ok {R : Ending → World → Prop} {g4_1 : Nat} {A9_4 : Option Addr} {l9_2 : Nat} {c9_3 : Nat} {n10_5 : Int} {n11_6 : Int} {w : World} (h : p3 R g4_1 A9_4 l9_2 c9_3 n10_5 n11_6 w) : SK Try.prog Try.f32 R (cfg Try.f32 3) [(4, .pointer (some ⟨g4_1, 0, none⟩)), (9, .slice A9_4 l9_2 c9_3), (10, .int .i64 n10_5), (11, .int .i64 n11_6)] w := piece_sound mixed (Eq.mp (p3_eq R g4_1 A9_4 l9_2 c9_3 n10_5 n11_6 w) h)
end F32

/-! ### 33: halyard/octet.Put32 -/
namespace F33
def stops : Stops := [(3, [0, 3, 5])]
def main (R : Ending → World → Prop) (np0_1 : Int) (w : World) : Prop :=
  newW Try.prog (Instr.alloc 97 true (.tuple #[])) w fun g3_2 w3 =>
  SK Try.prog Try.f33 R (cfg Try.f33 3) [(0, .int .u32 np0_1), (3, .pointer (some ⟨g3_2, 0, none⟩)), (5, .int .i64 0)] w3
theorem main_eq (R : Ending → World → Prop) (np0_1 : Int) (w : World) : main R np0_1 w = mainF Try.prog Try.f33 R stops 3000 [.int .u32 np0_1] w := by kernel_rfl
theorem calls {R : Ending → World → Prop} {np0_1 : Int} {w : World} (h : main R np0_1 w) : Calls Try.prog 33 #[.int .u32 np0_1] w R := main_sound Try.func33 mixed (Eq.mp (main_eq R np0_1 w) h)
def p3 (R : Ending → World → Prop) (n0_1 : Int) (g3_2 : Nat) (n5_3 : Int) (w : World) : Prop :=
  (bif (decide (n5_3 < 4)) then ((0 : Int) ≤ (IntKind.wrap .i64 (24 - (IntKind.wrap .i64 (8 * n5_3)))) ∧ idxck (some ⟨g3_2, 0, none⟩) 4 n5_3 fun a4 =>
  stW Try.prog 5 (a4.add (Int.toNat n5_3 * 1)) (.int .u8 (IntKind.wrap .u8 (Int.fdiv n0_1 (2 ^ (min (Int.toNat (IntKind.wrap .i64 (24 - (IntKind.wrap .i64 (8 * n5_3))))) (IntKind.bits .u32)) : Int)))) w fun w5 =>
  SK Try.prog Try.f33 R (cfg Try.f33 3) [(0, .int .u32 n0_1), (3, .pointer (some ⟨g3_2, 0, none⟩)), (5, .int .i64 (IntKind.wrap .i64 (n5_3 + 1)))] w5) else (sbck (0 : Int) ((4 : Nat) : Int) 4 false ∧ ∃ (s18_6 : ByteArray), (convert 88 9 (.slice (slcA (some ⟨g3_2, 0, none⟩) 4 (Int.toNat (0 : Int)) 1) (Int.toNat ((4 : Nat) : Int) - Int.toNat (0 : Int)) (4 - Int.toNat (0 : Int)))).run Try.prog w = .ok (.string s18_6) w ∧ R (.returned (.string s18_6)) w))
theorem p3_eq (R : Ending → World → Prop) (n0_1 : Int) (g3_2 : Nat) (n5_3 : Int) (w : World) : p3 R n0_1 g3_2 n5_3 w = pieceF Try.prog Try.f33 R stops 3000 (cfg Try.f33 3) [(0, .int .u32 n0_1), (3, .pointer (some ⟨g3_2, 0, none⟩)), (5, .int .i64 n5_3)] w := by kernel_rfl
theorem p3_ok {R : Ending → World → Prop} {n0_1 : Int} {g3_2 : Nat} {n5_3 : Int} {w : World} (h : p3 R n0_1 g3_2 n5_3 w) : SK Try.prog Try.f33 R (cfg Try.f33 3) [(0, .int .u32 n0_1), (3, .pointer (some ⟨g3_2, 0, none⟩)), (5, .int .i64 n5_3)] w := piece_sound mixed (Eq.mp (p3_eq R n0_1 g3_2 n5_3 w) h)
end F33

/-! ### 34: halyard/octet.Read8 -/
namespace F34
def stops : Stops := []
def main (R : Ending → World → Prop) (sp0_1 : ByteArray) (w : World) : Prop :=
  (bif (sp0_1 == { data := #[] }) then (R (.returned (.tuple #[.string ({ data := #[] }), .string ({ data := #[] }), .int .i64 6])) w) else (((0 : Int) ≤ 0 ∧ 0 < (ByteArray.size sp0_1 : Int)) ∧ (bif (decide (((ByteArray.size sp0_1 : Nat) : Int) ≤ (IntKind.wrap .i64 (btAt sp0_1 0)))) then (R (.returned (.tuple #[.string ({ data := #[] }), .string ({ data := #[] }), .int .i64 6])) w) else (((0 : Int) ≤ 0 ∧ 0 < (ByteArray.size sp0_1 : Int)) ∧ sbck 1 (IntKind.wrap .i64 (1 + (IntKind.wrap .i64 (btAt sp0_1 0)))) (ByteArray.size sp0_1) true ∧ sbck (IntKind.wrap .i64 (1 + (IntKind.wrap .i64 (btAt sp0_1 0)))) ((ByteArray.size sp0_1) : Int) (ByteArray.size sp0_1) false ∧ R (.returned (.tuple #[.string (ByteArray.extract sp0_1 (Int.toNat 1) (Int.toNat (IntKind.wrap .i64 (1 + (IntKind.wrap .i64 (btAt sp0_1 0)))))), .string (ByteArray.extract sp0_1 (Int.toNat (IntKind.wrap .i64 (1 + (IntKind.wrap .i64 (btAt sp0_1 0))))) (Int.toNat ((ByteArray.size sp0_1) : Int))), .int .i64 0])) (World.drew w)))))
theorem main_eq (R : Ending → World → Prop) (sp0_1 : ByteArray) (w : World) : main R sp0_1 w = mainF Try.prog Try.f34 R stops 3000 [.string sp0_1] w := by kernel_rfl
theorem calls {R : Ending → World → Prop} {sp0_1 : ByteArray} {w : World} (h : main R sp0_1 w) : Calls Try.prog 34 #[.string sp0_1] w R := main_sound Try.func34 mixed (Eq.mp (main_eq R sp0_1 w) h)
end F34

/-! ### 35: halyard/octet.Get32 -/
namespace F35
def stops : Stops := []
def main (R : Ending → World → Prop) (sp0_1 : ByteArray) (w : World) : Prop :=
  Calls Try.prog 44 #[.string sp0_1, .int .i64 4] w fun en w4 =>
  (∃ (n5_2 : Int) (n5_3 : Int), en = .returned (.tuple #[.int .u32 n5_2, .int .i64 n5_3]) ∧ R (.returned (.tuple #[.int .u32 n5_2, .int .i64 n5_3])) w4)
  ∨ ∃ ch5, en = .panicked ch5 ∧ R (.panicked ch5) w4
theorem main_eq (R : Ending → World → Prop) (sp0_1 : ByteArray) (w : World) : main R sp0_1 w = mainF Try.prog Try.f35 R stops 3000 [.string sp0_1] w := by kernel_rfl
theorem calls {R : Ending → World → Prop} {sp0_1 : ByteArray} {w : World} (h : main R sp0_1 w) : Calls Try.prog 35 #[.string sp0_1] w R := main_sound Try.func35 mixed (Eq.mp (main_eq R sp0_1 w) h)
end F35

/-! ### 36: slices.SortedFunc[halyard/api.Sub] -/
namespace F36
def stops : Stops := []
def main (R : Ending → World → Prop) (vp0_1 : Value) (vp1_2 : Value) (w : World) : Prop :=
  Calls Try.prog 45 #[vp0_1] w fun en w6 =>
  (∃ (A7_3 : Option Addr) (l7_4 : Nat) (c7_5 : Nat), en = .returned (.slice A7_3 l7_4 c7_5) ∧ Calls Try.prog 46 #[.slice A7_3 l7_4 c7_5, vp1_2] w6 fun en w8 =>
  (en = .returned (.tuple #[]) ∧ R (.returned (.slice A7_3 l7_4 c7_5)) w8)
  ∨ ∃ ch9, en = .panicked ch9 ∧ R (.panicked ch9) w8)
  ∨ ∃ ch7, en = .panicked ch7 ∧ R (.panicked ch7) w6
theorem main_eq (R : Ending → World → Prop) (vp0_1 : Value) (vp1_2 : Value) (w : World) : main R vp0_1 vp1_2 w = mainF Try.prog Try.f36 R stops 3000 [vp0_1, vp1_2] w := by kernel_rfl
theorem calls {R : Ending → World → Prop} {vp0_1 : Value} {vp1_2 : Value} {w : World} (h : main R vp0_1 vp1_2 w) : Calls Try.prog 36 #[vp0_1, vp1_2] w R := main_sound Try.func36 mixed (Eq.mp (main_eq R vp0_1 vp1_2 w) h)
end F36

/-! ### 37: maps.Values[map[string]halyard/api.Sub,string,halyard/api.Sub] -/
namespace F37
def stops : Stops := []
def main (R : Ending → World → Prop) (mp0_1 : Option Nat) (w : World) : Prop :=
  newW Try.prog (Instr.box 55 (.map mp0_1)) w fun g1_2 w3 =>
  R (.returned (.func (Go.Fn.func 47) #[] #[.pointer (some ⟨g1_2, 0, none⟩)])) w3
theorem main_eq (R : Ending → World → Prop) (mp0_1 : Option Nat) (w : World) : main R mp0_1 w = mainF Try.prog Try.f37 R stops 3000 [.map mp0_1] w := by kernel_rfl
theorem calls {R : Ending → World → Prop} {mp0_1 : Option Nat} {w : World} (h : main R mp0_1 w) : Calls Try.prog 37 #[.map mp0_1] w R := main_sound Try.func37 mixed (Eq.mp (main_eq R mp0_1 w) h)
end F37

/-! ### 38: halyard/record.sorted[string,halyard/api.Sub]$1 -/
namespace F38
def stops : Stops := []
def main (R : Ending → World → Prop) (sp0_1 : ByteArray) (sp0_2 : ByteArray) (sp0_3 : ByteArray) (np0_4 : Int) (bp0_5 : Bool) (sp1_6 : ByteArray) (sp1_7 : ByteArray) (sp1_8 : ByteArray) (np1_9 : Int) (bp1_10 : Bool) (gp2_11 : Nat) (w : World) : Prop :=
  newW Try.prog (Instr.box 33 (.agg #[.string sp0_1, .string sp0_2, .string sp0_3, .int .u32 np0_4, .bool bp0_5])) w fun g3_12 w13 =>
  newW Try.prog (Instr.box 33 (.agg #[.string sp1_6, .string sp1_7, .string sp1_8, .int .u32 np1_9, .bool bp1_10])) w13 fun g4_14 w15 =>
  ∃ (v6_16 : Value), (World.drew w15).cell? ⟨gp2_11, 0, none⟩ = some v6_16 ∧ ∃ (s7_17 : ByteArray) (s7_18 : ByteArray) (s7_19 : ByteArray) (n7_20 : Int) (b7_21 : Bool), cellsAt (World.drew w15) ⟨g3_12, 0, none⟩ 0 [.string s7_17, .string s7_18, .string s7_19, .int .u32 n7_20, .bool b7_21] ∧ ∃ (v9_22 : Value), (World.drew w15).cell? ⟨gp2_11, 0, none⟩ = some v9_22 ∧ ∃ (s10_23 : ByteArray) (s10_24 : ByteArray) (s10_25 : ByteArray) (n10_26 : Int) (b10_27 : Bool), cellsAt (World.drew w15) ⟨g4_14, 0, none⟩ 0 [.string s10_23, .string s10_24, .string s10_25, .int .u32 n10_26, .bool b10_27] ∧ callV Try.prog v6_16 #[.agg #[.string s7_17, .string s7_18, .string s7_19, .int .u32 n7_20, .bool b7_21]] fun f31 xs32 =>
  Calls Try.prog f31 xs32 (World.drew w15) fun en w29 =>
  (∃ (s8_28 : ByteArray), en = .returned (.string s8_28) ∧ (cellsAt (World.drew w15) ⟨g4_14, 0, none⟩ 0 [.string s10_23, .string s10_24, .string s10_25, .int .u32 n10_26, .bool b10_27] → cellsAt w29 ⟨g4_14, 0, none⟩ 0 [.string s10_23, .string s10_24, .string s10_25, .int .u32 n10_26, .bool b10_27]) ∧ ((World.drew w15).cell? ⟨gp2_11, 0, none⟩ = some v9_22 → w29.cell? ⟨gp2_11, 0, none⟩ = some v9_22) ∧ callV Try.prog v9_22 #[.agg #[.string s10_23, .string s10_24, .string s10_25, .int .u32 n10_26, .bool b10_27]] fun f36 xs37 =>
  Calls Try.prog f36 xs37 w29 fun en w34 =>
  (∃ (s11_33 : ByteArray), en = .returned (.string s11_33) ∧ Calls Try.prog 39 #[.string s8_28, .string s11_33] w34 fun en w39 =>
  (∃ (n12_38 : Int), en = .returned (.int .i64 n12_38) ∧ R (.returned (.int .i64 n12_38)) w39)
  ∨ ∃ ch40, en = .panicked ch40 ∧ R (.panicked ch40) w39)
  ∨ ∃ ch35, en = .panicked ch35 ∧ R (.panicked ch35) w34)
  ∨ ∃ ch30, en = .panicked ch30 ∧ R (.panicked ch30) w29
theorem main_eq (R : Ending → World → Prop) (sp0_1 : ByteArray) (sp0_2 : ByteArray) (sp0_3 : ByteArray) (np0_4 : Int) (bp0_5 : Bool) (sp1_6 : ByteArray) (sp1_7 : ByteArray) (sp1_8 : ByteArray) (np1_9 : Int) (bp1_10 : Bool) (gp2_11 : Nat) (w : World) : main R sp0_1 sp0_2 sp0_3 np0_4 bp0_5 sp1_6 sp1_7 sp1_8 np1_9 bp1_10 gp2_11 w = mainF Try.prog Try.f38 R stops 3000 [.agg #[.string sp0_1, .string sp0_2, .string sp0_3, .int .u32 np0_4, .bool bp0_5], .agg #[.string sp1_6, .string sp1_7, .string sp1_8, .int .u32 np1_9, .bool bp1_10], .pointer (some ⟨gp2_11, 0, none⟩)] w := by kernel_rfl
theorem calls {R : Ending → World → Prop} {sp0_1 : ByteArray} {sp0_2 : ByteArray} {sp0_3 : ByteArray} {np0_4 : Int} {bp0_5 : Bool} {sp1_6 : ByteArray} {sp1_7 : ByteArray} {sp1_8 : ByteArray} {np1_9 : Int} {bp1_10 : Bool} {gp2_11 : Nat} {w : World} (h : main R sp0_1 sp0_2 sp0_3 np0_4 bp0_5 sp1_6 sp1_7 sp1_8 np1_9 bp1_10 gp2_11 w) : Calls Try.prog 38 #[.agg #[.string sp0_1, .string sp0_2, .string sp0_3, .int .u32 np0_4, .bool bp0_5], .agg #[.string sp1_6, .string sp1_7, .string sp1_8, .int .u32 np1_9, .bool bp1_10], .pointer (some ⟨gp2_11, 0, none⟩)] w R := main_sound Try.func38 mixed (Eq.mp (main_eq R sp0_1 sp0_2 sp0_3 np0_4 bp0_5 sp1_6 sp1_7 sp1_8 np1_9 bp1_10 gp2_11 w) h)
end F38

/-! ### 39: strings.Compare -/
namespace F39
def stops : Stops := []
def main (R : Ending → World → Prop) (sp0_1 : ByteArray) (sp1_2 : ByteArray) (w : World) : Prop :=
  Calls Try.prog 48 #[.string sp0_1, .string sp1_2] w fun en w4 =>
  (∃ (n7_3 : Int), en = .returned (.int .i64 n7_3) ∧ R (.returned (.int .i64 n7_3)) w4)
  ∨ ∃ ch5, en = .panicked ch5 ∧ R (.panicked ch5) w4
theorem main_eq (R : Ending → World → Prop) (sp0_1 : ByteArray) (sp1_2 : ByteArray) (w : World) : main R sp0_1 sp1_2 w = mainF Try.prog Try.f39 R stops 3000 [.string sp0_1, .string sp1_2] w := by kernel_rfl
theorem calls {R : Ending → World → Prop} {sp0_1 : ByteArray} {sp1_2 : ByteArray} {w : World} (h : main R sp0_1 sp1_2 w) : Calls Try.prog 39 #[.string sp0_1, .string sp1_2] w R := main_sound Try.func39 mixed (Eq.mp (main_eq R sp0_1 sp1_2 w) h)
end F39

/-! ### 41: halyard/octet.Text8 -/
namespace F41
def stops : Stops := []
def main (R : Ending → World → Prop) (sp0_1 : ByteArray) (w : World) : Prop :=
  (bif (decide (((ByteArray.size sp0_1 : Nat) : Int) > 255)) then (R (.returned (.tuple #[.string ({ data := #[] }), .int .i64 5])) w) else (bslW Try.prog 1 (Instr.buildSlice 88 1 #[(0, .int .u8 (IntKind.wrap .u8 ((ByteArray.size sp0_1 : Nat) : Int)))]) w fun g10_2 w3 =>
  ∃ (s11_4 : ByteArray), (convert 88 9 (.slice (some ⟨g10_2, 0, none⟩) 1 1)).run Try.prog w3 = .ok (.string s11_4) w3 ∧ (s11_4 : ByteArray).size + (sp0_1 : ByteArray).size ≤ 9223372036854775807 ∧ R (.returned (.tuple #[.string (s11_4 ++ sp0_1), .int .i64 0])) w3))
theorem main_eq (R : Ending → World → Prop) (sp0_1 : ByteArray) (w : World) : main R sp0_1 w = mainF Try.prog Try.f41 R stops 3000 [.string sp0_1] w := by kernel_rfl
theorem calls {R : Ending → World → Prop} {sp0_1 : ByteArray} {w : World} (h : main R sp0_1 w) : Calls Try.prog 41 #[.string sp0_1] w R := main_sound Try.func41 mixed (Eq.mp (main_eq R sp0_1 w) h)
end F41

/-! ### 42: (*strings.Builder).WriteString -/
namespace F42
def stops : Stops := []
def main (R : Ending → World → Prop) (Ap0_1 : Option Addr) (sp1_2 : ByteArray) (w : World) : Prop :=
  Calls Try.prog 49 #[.pointer Ap0_1] w fun en w3 =>
  (en = .returned (.tuple #[]) ∧ nilck Ap0_1 fun a5 =>
  ∃ (A12_6 : Option Addr) (l12_7 : Nat) (c12_8 : Nat), w3.cell? (a5.add 1) = some (.slice A12_6 l12_7 c12_8) ∧ slW Try.prog (Builtin.append_ #[88, 9] 88 #[.slice A12_6 l12_7 c12_8, .string sp1_2]) w3 fun A14_10 l14_11 c14_12 w9 =>
  nilck Ap0_1 fun a13 =>
  stW Try.prog 88 (a13.add 1) (.slice A14_10 l14_11 c14_12) w9 fun w14 =>
  R (.returned (.tuple #[.int .i64 ((ByteArray.size sp1_2 : Nat) : Int), .nilIface])) w14)
  ∨ ∃ ch4, en = .panicked ch4 ∧ R (.panicked ch4) w3
theorem main_eq (R : Ending → World → Prop) (Ap0_1 : Option Addr) (sp1_2 : ByteArray) (w : World) : main R Ap0_1 sp1_2 w = mainF Try.prog Try.f42 R stops 3000 [.pointer Ap0_1, .string sp1_2] w := by kernel_rfl
theorem calls {R : Ending → World → Prop} {Ap0_1 : Option Addr} {sp1_2 : ByteArray} {w : World} (h : main R Ap0_1 sp1_2 w) : Calls Try.prog 42 #[.pointer Ap0_1, .string sp1_2] w R := main_sound Try.func42 mixed (Eq.mp (main_eq R Ap0_1 sp1_2 w) h)
end F42

/-! ### 44: halyard/octet.number -/
namespace F44
def stops : Stops := [(6, [0, 4, 18, 19])]
def main (R : Ending → World → Prop) (sp0_1 : ByteArray) (np1_2 : Int) (w : World) : Prop :=
  (bif (decide (((ByteArray.size sp0_1 : Nat) : Int) < np1_2)) then (R (.returned (.tuple #[.int .u32 0, .int .i64 6])) w) else ((bif (decide (((ByteArray.size sp0_1 : Nat) : Int) > np1_2)) then (R (.returned (.tuple #[.int .u32 0, .int .i64 7])) w) else (SK Try.prog Try.f44 R (cfg Try.f44 6) [(0, .string sp0_1), (4, .int .u32 0), (18, .int .i64 ((ByteArray.size sp0_1 : Nat) : Int)), (19, .int .i64 0)] w))))
theorem main_eq (R : Ending → World → Prop) (sp0_1 : ByteArray) (np1_2 : Int) (w : World) : main R sp0_1 np1_2 w = mainF Try.prog Try.f44 R stops 3000 [.string sp0_1, .int .i64 np1_2] w := by kernel_rfl
theorem calls {R : Ending → World → Prop} {sp0_1 : ByteArray} {np1_2 : Int} {w : World} (h : main R sp0_1 np1_2 w) : Calls Try.prog 44 #[.string sp0_1, .int .i64 np1_2] w R := main_sound Try.func44 mixed (Eq.mp (main_eq R sp0_1 np1_2 w) h)
def p6 (R : Ending → World → Prop) (s0_1 : ByteArray) (n4_2 : Int) (n18_3 : Int) (n19_4 : Int) (w : World) : Prop :=
  (bif (decide (n19_4 < n18_3)) then ((0 : Int) ≤ 8 ∧ ((0 : Int) ≤ n19_4 ∧ n19_4 < (ByteArray.size s0_1 : Int)) ∧ SK Try.prog Try.f44 R (cfg Try.f44 6) [(0, .string s0_1), (4, .int .u32 (IntKind.wrap .u32 ((BitVec.ofInt (IntKind.bits .u32) (IntKind.wrap .u32 (n4_2 * (2 ^ (min (Int.toNat 8) (IntKind.bits .u32)) : Int))) ||| BitVec.ofInt (IntKind.bits .u32) (IntKind.wrap .u32 (btAt s0_1 n19_4))).toNat : Int))), (18, .int .i64 n18_3), (19, .int .i64 (IntKind.wrap .i64 (n19_4 + 1)))] w) else (R (.returned (.tuple #[.int .u32 n4_2, .int .i64 0])) w))
theorem p6_eq (R : Ending → World → Prop) (s0_1 : ByteArray) (n4_2 : Int) (n18_3 : Int) (n19_4 : Int) (w : World) : p6 R s0_1 n4_2 n18_3 n19_4 w = pieceF Try.prog Try.f44 R stops 3000 (cfg Try.f44 6) [(0, .string s0_1), (4, .int .u32 n4_2), (18, .int .i64 n18_3), (19, .int .i64 n19_4)] w := by kernel_rfl
theorem p6_ok {R : Ending → World → Prop} {s0_1 : ByteArray} {n4_2 : Int} {n18_3 : Int} {n19_4 : Int} {w : World} (h : p6 R s0_1 n4_2 n18_3 n19_4 w) : SK Try.prog Try.f44 R (cfg Try.f44 6) [(0, .string s0_1), (4, .int .u32 n4_2), (18, .int .i64 n18_3), (19, .int .i64 n19_4)] w := piece_sound mixed (Eq.mp (p6_eq R s0_1 n4_2 n18_3 n19_4 w) h)
end F44

/-! ### 45: slices.Collect[halyard/api.Sub] -/
namespace F45
def stops : Stops := []
def main (R : Ending → World → Prop) (vp0_1 : Value) (w : World) : Prop :=
  Calls Try.prog 50 #[.slice none 0 0, vp0_1] w fun en w5 =>
  (∃ (A4_2 : Option Addr) (l4_3 : Nat) (c4_4 : Nat), en = .returned (.slice A4_2 l4_3 c4_4) ∧ R (.returned (.slice A4_2 l4_3 c4_4)) w5)
  ∨ ∃ ch6, en = .panicked ch6 ∧ R (.panicked ch6) w5
theorem main_eq (R : Ending → World → Prop) (vp0_1 : Value) (w : World) : main R vp0_1 w = mainF Try.prog Try.f45 R stops 3000 [vp0_1] w := by kernel_rfl
theorem calls {R : Ending → World → Prop} {vp0_1 : Value} {w : World} (h : main R vp0_1 w) : Calls Try.prog 45 #[vp0_1] w R := main_sound Try.func45 mixed (Eq.mp (main_eq R vp0_1 w) h)
end F45

/-! ### 46: slices.SortFunc[[]halyard/api.Sub,halyard/api.Sub] -/
namespace F46
def stops : Stops := []
def main (R : Ending → World → Prop) (Ap0_1 : Option Addr) (lp0_2 : Nat) (cp0_3 : Nat) (vp1_4 : Value) (w : World) : Prop :=
  Calls Try.prog 52 #[.int .u64 (IntKind.wrap .u64 ((lp0_2 : Nat) : Int))] w fun en w6 =>
  (∃ (n11_5 : Int), en = .returned (.int .i64 n11_5) ∧ Calls Try.prog 51 #[.slice Ap0_1 lp0_2 cp0_3, .int .i64 0, .int .i64 ((lp0_2 : Nat) : Int), .int .i64 n11_5, vp1_4] w6 fun en w8 =>
  (en = .returned (.tuple #[]) ∧ R (.returned (.tuple #[])) w8)
  ∨ ∃ ch9, en = .panicked ch9 ∧ R (.panicked ch9) w8)
  ∨ ∃ ch7, en = .panicked ch7 ∧ R (.panicked ch7) w6
theorem main_eq (R : Ending → World → Prop) (Ap0_1 : Option Addr) (lp0_2 : Nat) (cp0_3 : Nat) (vp1_4 : Value) (w : World) : main R Ap0_1 lp0_2 cp0_3 vp1_4 w = mainF Try.prog Try.f46 R stops 3000 [.slice Ap0_1 lp0_2 cp0_3, vp1_4] w := by kernel_rfl
theorem calls {R : Ending → World → Prop} {Ap0_1 : Option Addr} {lp0_2 : Nat} {cp0_3 : Nat} {vp1_4 : Value} {w : World} (h : main R Ap0_1 lp0_2 cp0_3 vp1_4 w) : Calls Try.prog 46 #[.slice Ap0_1 lp0_2 cp0_3, vp1_4] w R := main_sound Try.func46 mixed (Eq.mp (main_eq R Ap0_1 lp0_2 cp0_3 vp1_4 w) h)
end F46

/-! ### 47: maps.Values[map[string]halyard/api.Sub,string,halyard/api.Sub]$1 -/
namespace F47
def stops : Stops := [(1, [0, 6])]
def main (R : Ending → World → Prop) (vp0_1 : Value) (gp1_2 : Nat) (w : World) : Prop :=
  ∃ (m5_3 : Option Nat), w.cell? ⟨gp1_2, 0, none⟩ = some (.map m5_3) ∧ newW Try.prog (Instr.range 55 (.map m5_3)) w fun g6_4 w5 =>
  SK Try.prog Try.f47 R (cfg Try.f47 1) [(0, vp0_1), (6, .pointer (some ⟨g6_4, 0, none⟩))] w5
theorem main_eq (R : Ending → World → Prop) (vp0_1 : Value) (gp1_2 : Nat) (w : World) : main R vp0_1 gp1_2 w = mainF Try.prog Try.f47 R stops 3000 [vp0_1, .pointer (some ⟨gp1_2, 0, none⟩)] w := by kernel_rfl
theorem calls {R : Ending → World → Prop} {vp0_1 : Value} {gp1_2 : Nat} {w : World} (h : main R vp0_1 gp1_2 w) : Calls Try.prog 47 #[vp0_1, .pointer (some ⟨gp1_2, 0, none⟩)] w R := main_sound Try.func47 mixed (Eq.mp (main_eq R vp0_1 gp1_2 w) h)
def p1 (R : Ending → World → Prop) (v0_1 : Value) (g6_2 : Nat) (w : World) : Prop :=
  (∃ w3 : World, (Instr.next (.pointer (some ⟨g6_2, 0, none⟩)) false 0).run Try.prog w = .ok (.tuple #[.bool false]) w3 ∧ R (.returned (.tuple #[])) w3)
  ∨ (∃ (v7_5 : Value) (v7_6 : Value) (w4 : World), (Instr.next (.pointer (some ⟨g6_2, 0, none⟩)) false 0).run Try.prog w = .ok (.tuple #[.bool true, v7_5, v7_6]) w4 ∧ ∃ (v9_7 : Value) (s9_8 : ByteArray) (s9_9 : ByteArray) (s9_10 : ByteArray) (n9_11 : Int) (b9_12 : Bool), (Instr.entry (.pointer (some ⟨g6_2, 0, none⟩))).run Try.prog w4 = .ok (.tuple #[v9_7, .agg #[.string s9_8, .string s9_9, .string s9_10, .int .u32 n9_11, .bool b9_12]]) w4 ∧ newW Try.prog (Instr.alloc 33 true (.tuple #[])) w4 fun g4_13 w14 =>
  stW Try.prog 33 ⟨g4_13, 0, none⟩ (.agg #[.string s9_8, .string s9_9, .string s9_10, .int .u32 n9_11, .bool b9_12]) w14 fun w15 =>
  ∃ (s12_16 : ByteArray) (s12_17 : ByteArray) (s12_18 : ByteArray) (n12_19 : Int) (b12_20 : Bool), cellsAt w15 ⟨g4_13, 0, none⟩ 0 [.string s12_16, .string s12_17, .string s12_18, .int .u32 n12_19, .bool b12_20] ∧ callV Try.prog v0_1 #[.agg #[.string s12_16, .string s12_17, .string s12_18, .int .u32 n12_19, .bool b12_20]] fun f24 xs25 =>
  Calls Try.prog f24 xs25 w15 fun en w22 =>
  (∃ (b13_21 : Bool), en = .returned (.bool b13_21) ∧ (bif (!b13_21) then (R (.returned (.tuple #[])) w22) else (SK Try.prog Try.f47 R (cfg Try.f47 1) [(0, v0_1), (6, .pointer (some ⟨g6_2, 0, none⟩))] w22)))
  ∨ ∃ ch23, en = .panicked ch23 ∧ R (.panicked ch23) w22)
theorem p1_eq (R : Ending → World → Prop) (v0_1 : Value) (g6_2 : Nat) (w : World) : p1 R v0_1 g6_2 w = pieceF Try.prog Try.f47 R stops 3000 (cfg Try.f47 1) [(0, v0_1), (6, .pointer (some ⟨g6_2, 0, none⟩))] w := by kernel_rfl
theorem p1_ok {R : Ending → World → Prop} {v0_1 : Value} {g6_2 : Nat} {w : World} (h : p1 R v0_1 g6_2 w) : SK Try.prog Try.f47 R (cfg Try.f47 1) [(0, v0_1), (6, .pointer (some ⟨g6_2, 0, none⟩))] w := piece_sound mixed (Eq.mp (p1_eq R v0_1 g6_2 w) h)
end F47
end Go.Proofs.Ytgmehadpfighbaa
