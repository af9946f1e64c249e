/- What these functions of the program mean, told over worlds: printed by wip/tool/prn.py, an own tool; each is tied to the program by a theorem that the kernel checks. -/
import Derived.Test.YtmngdgdmbebfhaaRun3
import Derived.Test.YtmngdgdmbebfhaaProg
set_option linter.unusedVariables false
set_option maxRecDepth 100000
namespace Go.Proofs.Ytmngdgdmbebfhaa
open Go
theorem mixed : Try.prog.follows .mixedOrders = true := by kernel_rfl

/-! ### 3: halyard/halyardlaw21.WheelOnce -/
namespace F3
def stops : Stops := [(8, [0, 3, 4, 5]), (30, [0, 3, 4, 5, 9, 10, 12, 13]), (35, [0, 3, 4, 5, 9, 10, 13, 14]), (40, [0, 3, 4, 5])]
def main (R : Ending → World → Prop) (Ap0_1 : Option Addr) (lp0_2 : Nat) (cp0_3 : Nat) (w : World) : Prop :=
  (bif (decide (((lp0_2 : Nat) : Int) > 200)) then (Calls Try.prog 6 #[] w fun en w5 =>
  (∃ (b23_4 : Bool), en = .returned (.bool b23_4) ∧ R (.returned (.bool b23_4)) w5)
  ∨ ∃ ch6, en = .panicked ch6 ∧ R (.panicked ch6) w5) else (Calls Try.prog 7 #[] w fun en w8 =>
  (∃ (A24_7 : Option Addr), en = .returned (.pointer A24_7) ∧ (bif (Option.isNone A24_7) then (R (.returned (.bool false)) w8) else (mkmW Try.prog (Instr.makeMap 26 none) w8 fun g27_10 w11 =>
  SK Try.prog Try.f3 R (cfg Try.f3 8) [(0, .slice Ap0_1 lp0_2 cp0_3), (3, .pointer A24_7), (4, .map (some g27_10)), (5, .int .i64 0)] w11)))
  ∨ ∃ ch9, en = .panicked ch9 ∧ R (.panicked ch9) w8))
theorem main_eq (R : Ending → World → Prop) (Ap0_1 : Option Addr) (lp0_2 : Nat) (cp0_3 : Nat) (w : World) : main R Ap0_1 lp0_2 cp0_3 w = mainF Try.prog Try.f3 R stops 3000 [.slice Ap0_1 lp0_2 cp0_3] w := by kernel_rfl
theorem calls {R : Ending → World → Prop} {Ap0_1 : Option Addr} {lp0_2 : Nat} {cp0_3 : Nat} {w : World} (h : main R Ap0_1 lp0_2 cp0_3 w) : Calls Try.prog 3 #[.slice Ap0_1 lp0_2 cp0_3] w R := main_sound Try.func3 mixed (Eq.mp (main_eq R Ap0_1 lp0_2 cp0_3 w) h)
def p8 (R : Ending → World → Prop) (A0_3 : Option Addr) (l0_1 : Nat) (c0_2 : Nat) (A3_4 : Option Addr) (g4_5 : Nat) (n5_6 : Int) (w : World) : Prop :=
  (bif (decide (n5_6 < ((l0_1 : Nat) : Int))) then (idxck A0_3 l0_1 n5_6 fun a7 =>
  ∃ (n37_8 : Int) (n37_9 : Int) (n37_10 : Int), cellsAt w (a7.add (Int.toNat n5_6 * 3)) 0 [.int .i64 n37_8, .int .u64 n37_9, .int .i64 n37_10] ∧ newW Try.prog (Instr.alloc 29 true (.tuple #[])) w fun g6_11 w12 =>
  stW Try.prog 29 ⟨g6_11, 0, none⟩ (.agg #[.int .i64 n37_8, .int .u64 n37_9, .int .i64 n37_10]) w12 fun w13 =>
  ∃ (n39_14 : Int), w13.cell? ⟨g6_11, 0, none⟩ = some (.int .i64 n39_14) ∧ (bif (n39_14 == 0) then (∃ (n44_15 : Int), w13.cell? ⟨g6_11, 1, none⟩ = some (.int .u64 n44_15) ∧ ∃ (n46_16 : Int), w13.cell? ⟨g6_11, 2, none⟩ = some (.int .i64 n46_16) ∧ Calls Try.prog 8 #[.pointer A3_4, .int .u64 n44_15, .int .i64 n46_16] w13 fun en w18 =>
  (∃ (n47_17 : Int), en = .returned (.int .i64 n47_17) ∧ (bif (n47_17 == 0) then (∃ (n51_20 : Int), (World.drew w18).cell? ⟨g6_11, 1, none⟩ = some (.int .u64 n51_20) ∧ ∃ (n55_21 : Int), (World.drew w18).cell? ⟨g6_11, 2, none⟩ = some (.int .i64 n55_21) ∧ Calls Try.prog 9 #[.pointer A3_4] (World.drew w18) fun en w23 =>
  (∃ (n53_22 : Int), en = .returned (.int .i64 n53_22) ∧ ((World.drew w18).cell? ⟨g6_11, 2, none⟩ = some (.int .i64 n55_21) → w23.cell? ⟨g6_11, 2, none⟩ = some (.int .i64 n55_21)) ∧ ((World.drew w18).cell? ⟨g6_11, 1, none⟩ = some (.int .u64 n51_20) → w23.cell? ⟨g6_11, 1, none⟩ = some (.int .u64 n51_20)) ∧ prU Try.prog (Instr.mapUpdate 26 (.map (some g4_5)) (.int .u64 n51_20) (.int .i64 (IntKind.wrap .i64 (n53_22 + n55_21)))) w23 fun w25 =>
  SK Try.prog Try.f3 R (cfg Try.f3 40) [(0, .slice A0_3 l0_1 c0_2), (3, .pointer A3_4), (4, .map (some g4_5)), (5, .int .i64 n5_6)] w25)
  ∨ ∃ ch24, en = .panicked ch24 ∧ R (.panicked ch24) w23) else (SK Try.prog Try.f3 R (cfg Try.f3 40) [(0, .slice A0_3 l0_1 c0_2), (3, .pointer A3_4), (4, .map (some g4_5)), (5, .int .i64 n5_6)] w18)))
  ∨ ∃ ch19, en = .panicked ch19 ∧ R (.panicked ch19) w18) else ((bif (n39_14 == 1) then (∃ (n62_26 : Int), w13.cell? ⟨g6_11, 1, none⟩ = some (.int .u64 n62_26) ∧ ∃ (n63_27 : Int) (b63_28 : Bool), (Instr.lookup 26 (.map (some g4_5)) (.int .u64 n62_26) true).run Try.prog w13 = .ok (.tuple #[.int .i64 n63_27, .bool b63_28]) w13 ∧ ∃ (n68_29 : Int), w13.cell? ⟨g6_11, 1, none⟩ = some (.int .u64 n68_29) ∧ Calls Try.prog 10 #[.pointer A3_4, .int .u64 n68_29] w13 fun en w31 =>
  (∃ (n69_30 : Int), en = .returned (.int .i64 n69_30) ∧ (bif (!((n69_30 == 0) == b63_28)) then (R (.returned (.bool false)) w31) else (∃ (n75_33 : Int), w31.cell? ⟨g6_11, 1, none⟩ = some (.int .u64 n75_33) ∧ unW Try.prog (Builtin.delete_ #[26, 27] 0 #[.map (some g4_5), .int .u64 n75_33]) w31 fun w34 =>
  SK Try.prog Try.f3 R (cfg Try.f3 40) [(0, .slice A0_3 l0_1 c0_2), (3, .pointer A3_4), (4, .map (some g4_5)), (5, .int .i64 n5_6)] w34)))
  ∨ ∃ ch32, en = .panicked ch32 ∧ R (.panicked ch32) w31) else ((bif (n39_14 == 2) then (Calls Try.prog 9 #[.pointer A3_4] w13 fun en w36 =>
  (∃ (n79_35 : Int), en = .returned (.int .i64 n79_35) ∧ ∃ (n83_38 : Int), w36.cell? ⟨g6_11, 2, none⟩ = some (.int .i64 n83_38) ∧ Calls Try.prog 11 #[.pointer A3_4, .int .i64 n83_38] w36 fun en w43 =>
  (∃ (A84_39 : Option Addr) (l84_40 : Nat) (c84_41 : Nat) (n84_42 : Int), en = .returned (.tuple #[.slice A84_39 l84_40 c84_41, .int .i64 n84_42]) ∧ (bif (n84_42 != 0) then ((bif (((l84_40 : Nat) : Int) != 0) then (R (.returned (.bool false)) w43) else (Calls Try.prog 9 #[.pointer A3_4] w43 fun en w46 =>
  (∃ (n94_45 : Int), en = .returned (.int .i64 n94_45) ∧ (bif (n94_45 != n79_35) then (R (.returned (.bool false)) w46) else (SK Try.prog Try.f3 R (cfg Try.f3 40) [(0, .slice A0_3 l0_1 c0_2), (3, .pointer A3_4), (4, .map (some g4_5)), (5, .int .i64 n5_6)] w46)))
  ∨ ∃ ch47, en = .panicked ch47 ∧ R (.panicked ch47) w46))) else (∃ (n102_48 : Int), (World.drew w43).cell? ⟨g6_11, 2, none⟩ = some (.int .i64 n102_48) ∧ Calls Try.prog 9 #[.pointer A3_4] (World.drew w43) fun en w50 =>
  (∃ (n99_49 : Int), en = .returned (.int .i64 n99_49) ∧ ((World.drew w43).cell? ⟨g6_11, 2, none⟩ = some (.int .i64 n102_48) → w50.cell? ⟨g6_11, 2, none⟩ = some (.int .i64 n102_48)) ∧ (bif (n99_49 != (IntKind.wrap .i64 (n79_35 + n102_48))) then (R (.returned (.bool false)) w50) else (SK Try.prog Try.f3 R (cfg Try.f3 30) [(0, .slice A0_3 l0_1 c0_2), (3, .pointer A3_4), (4, .map (some g4_5)), (5, .int .i64 n5_6), (9, .int .i64 n79_35), (10, .slice A84_39 l84_40 c84_41), (12, .int .i64 0), (13, .int .i64 0)] w50)))
  ∨ ∃ ch51, en = .panicked ch51 ∧ R (.panicked ch51) w50)))
  ∨ ∃ ch44, en = .panicked ch44 ∧ R (.panicked ch44) w43)
  ∨ ∃ ch37, en = .panicked ch37 ∧ R (.panicked ch37) w36) else (SK Try.prog Try.f3 R (cfg Try.f3 40) [(0, .slice A0_3 l0_1 c0_2), (3, .pointer A3_4), (4, .map (some g4_5)), (5, .int .i64 n5_6)] w13))))))) else (Calls Try.prog 6 #[] w fun en w53 =>
  (∃ (b172_52 : Bool), en = .returned (.bool b172_52) ∧ R (.returned (.bool b172_52)) w53)
  ∨ ∃ ch54, en = .panicked ch54 ∧ R (.panicked ch54) w53))
theorem p8_eq (R : Ending → World → Prop) (A0_3 : Option Addr) (l0_1 : Nat) (c0_2 : Nat) (A3_4 : Option Addr) (g4_5 : Nat) (n5_6 : Int) (w : World) : p8 R A0_3 l0_1 c0_2 A3_4 g4_5 n5_6 w = pieceF Try.prog Try.f3 R stops 3000 (cfg Try.f3 8) [(0, .slice A0_3 l0_1 c0_2), (3, .pointer A3_4), (4, .map (some g4_5)), (5, .int .i64 n5_6)] w := by kernel_rfl
theorem p8_ok {R : Ending → World → Prop} {A0_3 : Option Addr} {l0_1 : Nat} {c0_2 : Nat} {A3_4 : Option Addr} {g4_5 : Nat} {n5_6 : Int} {w : World} (h : p8 R A0_3 l0_1 c0_2 A3_4 g4_5 n5_6 w) : SK Try.prog Try.f3 R (cfg Try.f3 8) [(0, .slice A0_3 l0_1 c0_2), (3, .pointer A3_4), (4, .map (some g4_5)), (5, .int .i64 n5_6)] w := piece_sound mixed (Eq.mp (p8_eq R A0_3 l0_1 c0_2 A3_4 g4_5 n5_6 w) h)
def p30 (R : Ending → World → Prop) (A0_3 : Option Addr) (l0_1 : Nat) (c0_2 : Nat) (A3_4 : Option Addr) (g4_5 : Nat) (n5_6 : Int) (n9_7 : Int) (A10_10 : Option Addr) (l10_8 : Nat) (c10_9 : Nat) (n12_11 : Int) (n13_12 : Int) (w : World) : Prop :=
  (bif (decide (n13_12 < ((l10_8 : Nat) : Int))) then (idxck A10_10 l10_8 n13_12 fun a13 =>
  ∃ (n116_14 : Int), w.cell? (a13.add (Int.toNat n13_12 * 1)) = some (.int .u64 n116_14) ∧ ∃ (n117_15 : Int) (b117_16 : Bool), (Instr.lookup 26 (.map (some g4_5)) (.int .u64 n116_14) true).run Try.prog w = .ok (.tuple #[.int .i64 n117_15, .bool b117_16]) w ∧ (bif (!b117_16) then (R (.returned (.bool false)) w) else ((bif (decide (n117_15 ≤ n9_7)) then (R (.returned (.bool false)) w) else (Calls Try.prog 9 #[.pointer A3_4] w fun en w18 =>
  (∃ (n130_17 : Int), en = .returned (.int .i64 n130_17) ∧ (bif (decide (n117_15 > n130_17)) then (R (.returned (.bool false)) w18) else ((bif (decide (n117_15 < n12_11)) then (R (.returned (.bool false)) w18) else (SK Try.prog Try.f3 R (cfg Try.f3 35) [(0, .slice A0_3 l0_1 c0_2), (3, .pointer A3_4), (4, .map (some g4_5)), (5, .int .i64 n5_6), (9, .int .i64 n9_7), (10, .slice A10_10 l10_8 c10_9), (13, .int .i64 n13_12), (14, .int .i64 n117_15)] w18)))))
  ∨ ∃ ch19, en = .panicked ch19 ∧ R (.panicked ch19) w18))))) else (Calls Try.prog 12 #[.pointer A3_4] w fun en w22 =>
  (∃ (n146_20 : Int) (b146_21 : Bool), en = .returned (.tuple #[.int .i64 n146_20, .bool b146_21]) ∧ (bif b146_21 then ((bif (decide (n146_20 < 1)) then (R (.returned (.bool false)) w22) else (SK Try.prog Try.f3 R (cfg Try.f3 40) [(0, .slice A0_3 l0_1 c0_2), (3, .pointer A3_4), (4, .map (some g4_5)), (5, .int .i64 n5_6)] w22))) else (SK Try.prog Try.f3 R (cfg Try.f3 40) [(0, .slice A0_3 l0_1 c0_2), (3, .pointer A3_4), (4, .map (some g4_5)), (5, .int .i64 n5_6)] w22)))
  ∨ ∃ ch23, en = .panicked ch23 ∧ R (.panicked ch23) w22))
theorem p30_eq (R : Ending → World → Prop) (A0_3 : Option Addr) (l0_1 : Nat) (c0_2 : Nat) (A3_4 : Option Addr) (g4_5 : Nat) (n5_6 : Int) (n9_7 : Int) (A10_10 : Option Addr) (l10_8 : Nat) (c10_9 : Nat) (n12_11 : Int) (n13_12 : Int) (w : World) : p30 R A0_3 l0_1 c0_2 A3_4 g4_5 n5_6 n9_7 A10_10 l10_8 c10_9 n12_11 n13_12 w = pieceF Try.prog Try.f3 R stops 3000 (cfg Try.f3 30) [(0, .slice A0_3 l0_1 c0_2), (3, .pointer A3_4), (4, .map (some g4_5)), (5, .int .i64 n5_6), (9, .int .i64 n9_7), (10, .slice A10_10 l10_8 c10_9), (12, .int .i64 n12_11), (13, .int .i64 n13_12)] w := by kernel_rfl
theorem p30_ok {R : Ending → World → Prop} {A0_3 : Option Addr} {l0_1 : Nat} {c0_2 : Nat} {A3_4 : Option Addr} {g4_5 : Nat} {n5_6 : Int} {n9_7 : Int} {A10_10 : Option Addr} {l10_8 : Nat} {c10_9 : Nat} {n12_11 : Int} {n13_12 : Int} {w : World} (h : p30 R A0_3 l0_1 c0_2 A3_4 g4_5 n5_6 n9_7 A10_10 l10_8 c10_9 n12_11 n13_12 w) : SK Try.prog Try.f3 R (cfg Try.f3 30) [(0, .slice A0_3 l0_1 c0_2), (3, .pointer A3_4), (4, .map (some g4_5)), (5, .int .i64 n5_6), (9, .int .i64 n9_7), (10, .slice A10_10 l10_8 c10_9), (12, .int .i64 n12_11), (13, .int .i64 n13_12)] w := piece_sound mixed (Eq.mp (p30_eq R A0_3 l0_1 c0_2 A3_4 g4_5 n5_6 n9_7 A10_10 l10_8 c10_9 n12_11 n13_12 w) h)
def p35 (R : Ending → World → Prop) (A0_3 : Option Addr) (l0_1 : Nat) (c0_2 : Nat) (A3_4 : Option Addr) (g4_5 : Nat) (n5_6 : Int) (n9_7 : Int) (A10_10 : Option Addr) (l10_8 : Nat) (c10_9 : Nat) (n13_11 : Int) (n14_12 : Int) (w : World) : Prop :=
  idxck A10_10 l10_8 n13_11 fun a13 =>
  ∃ (n143_14 : Int), w.cell? (a13.add (Int.toNat n13_11 * 1)) = some (.int .u64 n143_14) ∧ unW Try.prog (Builtin.delete_ #[26, 27] 0 #[.map (some g4_5), .int .u64 n143_14]) w fun w15 =>
  SK Try.prog Try.f3 R (cfg Try.f3 30) [(0, .slice A0_3 l0_1 c0_2), (3, .pointer A3_4), (4, .map (some g4_5)), (5, .int .i64 n5_6), (9, .int .i64 n9_7), (10, .slice A10_10 l10_8 c10_9), (12, .int .i64 n14_12), (13, .int .i64 (IntKind.wrap .i64 (n13_11 + 1)))] w15
theorem p35_eq (R : Ending → World → Prop) (A0_3 : Option Addr) (l0_1 : Nat) (c0_2 : Nat) (A3_4 : Option Addr) (g4_5 : Nat) (n5_6 : Int) (n9_7 : Int) (A10_10 : Option Addr) (l10_8 : Nat) (c10_9 : Nat) (n13_11 : Int) (n14_12 : Int) (w : World) : p35 R A0_3 l0_1 c0_2 A3_4 g4_5 n5_6 n9_7 A10_10 l10_8 c10_9 n13_11 n14_12 w = pieceF Try.prog Try.f3 R stops 3000 (cfg Try.f3 35) [(0, .slice A0_3 l0_1 c0_2), (3, .pointer A3_4), (4, .map (some g4_5)), (5, .int .i64 n5_6), (9, .int .i64 n9_7), (10, .slice A10_10 l10_8 c10_9), (13, .int .i64 n13_11), (14, .int .i64 n14_12)] w := by kernel_rfl
theorem p35_ok {R : Ending → World → Prop} {A0_3 : Option Addr} {l0_1 : Nat} {c0_2 : Nat} {A3_4 : Option Addr} {g4_5 : Nat} {n5_6 : Int} {n9_7 : Int} {A10_10 : Option Addr} {l10_8 : Nat} {c10_9 : Nat} {n13_11 : Int} {n14_12 : Int} {w : World} (h : p35 R A0_3 l0_1 c0_2 A3_4 g4_5 n5_6 n9_7 A10_10 l10_8 c10_9 n13_11 n14_12 w) : SK Try.prog Try.f3 R (cfg Try.f3 35) [(0, .slice A0_3 l0_1 c0_2), (3, .pointer A3_4), (4, .map (some g4_5)), (5, .int .i64 n5_6), (9, .int .i64 n9_7), (10, .slice A10_10 l10_8 c10_9), (13, .int .i64 n13_11), (14, .int .i64 n14_12)] w := piece_sound mixed (Eq.mp (p35_eq R A0_3 l0_1 c0_2 A3_4 g4_5 n5_6 n9_7 A10_10 l10_8 c10_9 n13_11 n14_12 w) h)
def p40 (R : Ending → World → Prop) (A0_3 : Option Addr) (l0_1 : Nat) (c0_2 : Nat) (A3_4 : Option Addr) (g4_5 : Nat) (n5_6 : Int) (w : World) : Prop :=
  Calls Try.prog 12 #[.pointer A3_4] w fun en w9 =>
  (∃ (n156_7 : Int) (b156_8 : Bool), en = .returned (.tuple #[.int .i64 n156_7, .bool b156_8]) ∧ ∃ (n161_11 : Int), (Builtin.len_ #[26] 3 #[.map (some g4_5)]).run Try.prog w9 = .ok (.int .i64 n161_11) w9 ∧ (bif (!(b156_8 == (decide (n161_11 > 0)))) then (R (.returned (.bool false)) w9) else (Calls Try.prog 13 #[.pointer A3_4] w9 fun en w15 =>
  (∃ (A166_12 : Option Addr) (l166_13 : Nat) (c166_14 : Nat), en = .returned (.slice A166_12 l166_13 c166_14) ∧ ∃ (n169_17 : Int), (Builtin.len_ #[26] 3 #[.map (some g4_5)]).run Try.prog w15 = .ok (.int .i64 n169_17) w15 ∧ (bif (((l166_13 : Nat) : Int) != n169_17) then (R (.returned (.bool false)) w15) else (SK Try.prog Try.f3 R (cfg Try.f3 8) [(0, .slice A0_3 l0_1 c0_2), (3, .pointer A3_4), (4, .map (some g4_5)), (5, .int .i64 (IntKind.wrap .i64 (n5_6 + 1)))] w15)))
  ∨ ∃ ch16, en = .panicked ch16 ∧ R (.panicked ch16) w15)))
  ∨ ∃ ch10, en = .panicked ch10 ∧ R (.panicked ch10) w9
theorem p40_eq (R : Ending → World → Prop) (A0_3 : Option Addr) (l0_1 : Nat) (c0_2 : Nat) (A3_4 : Option Addr) (g4_5 : Nat) (n5_6 : Int) (w : World) : p40 R A0_3 l0_1 c0_2 A3_4 g4_5 n5_6 w = pieceF Try.prog Try.f3 R stops 3000 (cfg Try.f3 40) [(0, .slice A0_3 l0_1 c0_2), (3, .pointer A3_4), (4, .map (some g4_5)), (5, .int .i64 n5_6)] w := by kernel_rfl
theorem p40_ok {R : Ending → World → Prop} {A0_3 : Option Addr} {l0_1 : Nat} {c0_2 : Nat} {A3_4 : Option Addr} {g4_5 : Nat} {n5_6 : Int} {w : World} (h : p40 R A0_3 l0_1 c0_2 A3_4 g4_5 n5_6 w) : SK Try.prog Try.f3 R (cfg Try.f3 40) [(0, .slice A0_3 l0_1 c0_2), (3, .pointer A3_4), (4, .map (some g4_5)), (5, .int .i64 n5_6)] w := piece_sound mixed (Eq.mp (p40_eq R A0_3 l0_1 c0_2 A3_4 g4_5 n5_6 w) h)
end F3

/-! ### 4: halyard/halyardlaw21.WheelSteps -/
namespace F4
def stops : Stops := [(3, [0, 1]), (7, [0, 1, 5, 6, 7]), (15, [1, 5, 6, 9, 10, 11])]
def main (R : Ending → World → Prop) (Ap0_1 : Option Addr) (lp0_2 : Nat) (cp0_3 : Nat) (Ap1_4 : Option Addr) (lp1_5 : Nat) (cp1_6 : Nat) (w : World) : Prop :=
  (bif (decide (((lp0_2 : Nat) : Int) > 100)) then (Calls Try.prog 6 #[] w fun en w8 =>
  (∃ (b24_7 : Bool), en = .returned (.bool b24_7) ∧ R (.returned (.bool b24_7)) w8)
  ∨ ∃ ch9, en = .panicked ch9 ∧ R (.panicked ch9) w8) else ((bif (decide (((lp1_5 : Nat) : Int) > 100)) then (Calls Try.prog 6 #[] w fun en w11 =>
  (∃ (b24_10 : Bool), en = .returned (.bool b24_10) ∧ R (.returned (.bool b24_10)) w11)
  ∨ ∃ ch12, en = .panicked ch12 ∧ R (.panicked ch12) w11) else (SK Try.prog Try.f4 R (cfg Try.f4 3) [(0, .slice Ap0_1 lp0_2 cp0_3), (1, .slice Ap1_4 lp1_5 cp1_6)] w))))
theorem main_eq (R : Ending → World → Prop) (Ap0_1 : Option Addr) (lp0_2 : Nat) (cp0_3 : Nat) (Ap1_4 : Option Addr) (lp1_5 : Nat) (cp1_6 : Nat) (w : World) : main R Ap0_1 lp0_2 cp0_3 Ap1_4 lp1_5 cp1_6 w = mainF Try.prog Try.f4 R stops 3000 [.slice Ap0_1 lp0_2 cp0_3, .slice Ap1_4 lp1_5 cp1_6] w := by kernel_rfl
theorem calls {R : Ending → World → Prop} {Ap0_1 : Option Addr} {lp0_2 : Nat} {cp0_3 : Nat} {Ap1_4 : Option Addr} {lp1_5 : Nat} {cp1_6 : Nat} {w : World} (h : main R Ap0_1 lp0_2 cp0_3 Ap1_4 lp1_5 cp1_6 w) : Calls Try.prog 4 #[.slice Ap0_1 lp0_2 cp0_3, .slice Ap1_4 lp1_5 cp1_6] w R := main_sound Try.func4 mixed (Eq.mp (main_eq R Ap0_1 lp0_2 cp0_3 Ap1_4 lp1_5 cp1_6 w) h)
def p3 (R : Ending → World → Prop) (A0_3 : Option Addr) (l0_1 : Nat) (c0_2 : Nat) (A1_6 : Option Addr) (l1_4 : Nat) (c1_5 : Nat) (w : World) : Prop :=
  Calls Try.prog 7 #[] w fun en w8 =>
  (∃ (A25_7 : Option Addr), en = .returned (.pointer A25_7) ∧ Calls Try.prog 7 #[] w8 fun en w11 =>
  (∃ (A26_10 : Option Addr), en = .returned (.pointer A26_10) ∧ (bif (Option.isNone A25_7) then (R (.returned (.bool false)) w11) else ((bif (Option.isNone A26_10) then (R (.returned (.bool false)) w11) else (SK Try.prog Try.f4 R (cfg Try.f4 7) [(0, .slice A0_3 l0_1 c0_2), (1, .slice A1_6 l1_4 c1_5), (5, .pointer A25_7), (6, .pointer A26_10), (7, .int .i64 0)] w11)))))
  ∨ ∃ ch12, en = .panicked ch12 ∧ R (.panicked ch12) w11)
  ∨ ∃ ch9, en = .panicked ch9 ∧ R (.panicked ch9) w8
theorem p3_eq (R : Ending → World → Prop) (A0_3 : Option Addr) (l0_1 : Nat) (c0_2 : Nat) (A1_6 : Option Addr) (l1_4 : Nat) (c1_5 : Nat) (w : World) : p3 R A0_3 l0_1 c0_2 A1_6 l1_4 c1_5 w = pieceF Try.prog Try.f4 R stops 3000 (cfg Try.f4 3) [(0, .slice A0_3 l0_1 c0_2), (1, .slice A1_6 l1_4 c1_5)] w := by kernel_rfl
theorem p3_ok {R : Ending → World → Prop} {A0_3 : Option Addr} {l0_1 : Nat} {c0_2 : Nat} {A1_6 : Option Addr} {l1_4 : Nat} {c1_5 : Nat} {w : World} (h : p3 R A0_3 l0_1 c0_2 A1_6 l1_4 c1_5 w) : SK Try.prog Try.f4 R (cfg Try.f4 3) [(0, .slice A0_3 l0_1 c0_2), (1, .slice A1_6 l1_4 c1_5)] w := piece_sound mixed (Eq.mp (p3_eq R A0_3 l0_1 c0_2 A1_6 l1_4 c1_5 w) h)
def p7 (R : Ending → World → Prop) (A0_3 : Option Addr) (l0_1 : Nat) (c0_2 : Nat) (A1_6 : Option Addr) (l1_4 : Nat) (c1_5 : Nat) (A5_7 : Option Addr) (A6_8 : Option Addr) (n7_9 : Int) (w : World) : Prop :=
  (bif (decide (n7_9 < ((l0_1 : Nat) : Int))) then (idxck A0_3 l0_1 n7_9 fun a10 =>
  ∃ (n42_11 : Int), w.cell? (a10.add (Int.toNat n7_9 * 1)) = some (.int .u32 n42_11) ∧ 16777216 ≠ (0 : Int) ∧ Calls Try.prog 8 #[.pointer A5_7, .int .u64 (IntKind.wrap .u64 n7_9), .int .i64 (IntKind.wrap .i64 (1 + (Int.tmod (IntKind.wrap .i64 n42_11) 16777216)))] w fun en w13 =>
  (∃ (n50_12 : Int), en = .returned (.int .i64 n50_12) ∧ (bif (n50_12 != 0) then (R (.returned (.bool false)) w13) else (Calls Try.prog 8 #[.pointer A6_8, .int .u64 (IntKind.wrap .u64 n7_9), .int .i64 (IntKind.wrap .i64 (1 + (Int.tmod (IntKind.wrap .i64 n42_11) 16777216)))] w13 fun en w16 =>
  (∃ (n57_15 : Int), en = .returned (.int .i64 n57_15) ∧ (bif (n57_15 != 0) then (R (.returned (.bool false)) w16) else (SK Try.prog Try.f4 R (cfg Try.f4 7) [(0, .slice A0_3 l0_1 c0_2), (1, .slice A1_6 l1_4 c1_5), (5, .pointer A5_7), (6, .pointer A6_8), (7, .int .i64 (IntKind.wrap .i64 (n7_9 + 1)))] w16)))
  ∨ ∃ ch17, en = .panicked ch17 ∧ R (.panicked ch17) w16)))
  ∨ ∃ ch14, en = .panicked ch14 ∧ R (.panicked ch14) w13) else (SK Try.prog Try.f4 R (cfg Try.f4 15) [(1, .slice A1_6 l1_4 c1_5), (5, .pointer A5_7), (6, .pointer A6_8), (9, .slice none 0 0), (10, .int .i64 0), (11, .int .i64 0)] w))
theorem p7_eq (R : Ending → World → Prop) (A0_3 : Option Addr) (l0_1 : Nat) (c0_2 : Nat) (A1_6 : Option Addr) (l1_4 : Nat) (c1_5 : Nat) (A5_7 : Option Addr) (A6_8 : Option Addr) (n7_9 : Int) (w : World) : p7 R A0_3 l0_1 c0_2 A1_6 l1_4 c1_5 A5_7 A6_8 n7_9 w = pieceF Try.prog Try.f4 R stops 3000 (cfg Try.f4 7) [(0, .slice A0_3 l0_1 c0_2), (1, .slice A1_6 l1_4 c1_5), (5, .pointer A5_7), (6, .pointer A6_8), (7, .int .i64 n7_9)] w := by kernel_rfl
theorem p7_ok {R : Ending → World → Prop} {A0_3 : Option Addr} {l0_1 : Nat} {c0_2 : Nat} {A1_6 : Option Addr} {l1_4 : Nat} {c1_5 : Nat} {A5_7 : Option Addr} {A6_8 : Option Addr} {n7_9 : Int} {w : World} (h : p7 R A0_3 l0_1 c0_2 A1_6 l1_4 c1_5 A5_7 A6_8 n7_9 w) : SK Try.prog Try.f4 R (cfg Try.f4 7) [(0, .slice A0_3 l0_1 c0_2), (1, .slice A1_6 l1_4 c1_5), (5, .pointer A5_7), (6, .pointer A6_8), (7, .int .i64 n7_9)] w := piece_sound mixed (Eq.mp (p7_eq R A0_3 l0_1 c0_2 A1_6 l1_4 c1_5 A5_7 A6_8 n7_9 w) h)
def p15 (R : Ending → World → Prop) (A1_3 : Option Addr) (l1_1 : Nat) (c1_2 : Nat) (A5_4 : Option Addr) (A6_5 : Option Addr) (A9_8 : Option Addr) (l9_6 : Nat) (c9_7 : Nat) (n10_9 : Int) (n11_10 : Int) (w : World) : Prop :=
  (bif (decide (n11_10 < ((l1_1 : Nat) : Int))) then (idxck A1_3 l1_1 n11_10 fun a11 =>
  ∃ (n71_12 : Int), w.cell? (a11.add (Int.toNat n11_10 * 1)) = some (.int .u16 n71_12) ∧ Calls Try.prog 11 #[.pointer A5_4, .int .i64 (IntKind.wrap .i64 n71_12)] w fun en w17 =>
  (∃ (A73_13 : Option Addr) (l73_14 : Nat) (c73_15 : Nat) (n73_16 : Int), en = .returned (.tuple #[.slice A73_13 l73_14 c73_15, .int .i64 n73_16]) ∧ (bif (n73_16 != 0) then (R (.returned (.bool false)) w17) else (slW Try.prog (Builtin.append_ #[35, 35] 35 #[.slice A9_8 l9_6 c9_7, .slice A73_13 l73_14 c73_15]) w17 fun A80_20 l80_21 c80_22 w19 =>
  idxck A1_3 l1_1 n11_10 fun a23 =>
  ∃ (n85_24 : Int), w19.cell? (a23.add (Int.toNat n11_10 * 1)) = some (.int .u16 n85_24) ∧ SK Try.prog Try.f4 R (cfg Try.f4 15) [(1, .slice A1_3 l1_1 c1_2), (5, .pointer A5_4), (6, .pointer A6_5), (9, .slice A80_20 l80_21 c80_22), (10, .int .i64 (IntKind.wrap .i64 (n10_9 + (IntKind.wrap .i64 n85_24)))), (11, .int .i64 (IntKind.wrap .i64 (n11_10 + 1)))] w19)))
  ∨ ∃ ch18, en = .panicked ch18 ∧ R (.panicked ch18) w17) else (Calls Try.prog 11 #[.pointer A6_5, .int .i64 n10_9] w fun en w29 =>
  (∃ (A91_25 : Option Addr) (l91_26 : Nat) (c91_27 : Nat) (n91_28 : Int), en = .returned (.tuple #[.slice A91_25 l91_26 c91_27, .int .i64 n91_28]) ∧ (bif (n91_28 == 0) then (Calls Try.prog 14 #[.slice A9_8 l9_6 c9_7, .slice A91_25 l91_26 c91_27] w29 fun en w32 =>
  (∃ (b99_31 : Bool), en = .returned (.bool b99_31) ∧ (bif b99_31 then (Calls Try.prog 9 #[.pointer A5_4] w32 fun en w35 =>
  (∃ (n103_34 : Int), en = .returned (.int .i64 n103_34) ∧ (bif (n103_34 == n10_9) then (Calls Try.prog 9 #[.pointer A6_5] w35 fun en w38 =>
  (∃ (n109_37 : Int), en = .returned (.int .i64 n109_37) ∧ (bif (n109_37 == n10_9) then (Calls Try.prog 13 #[.pointer A5_4] w38 fun en w43 =>
  (∃ (A115_40 : Option Addr) (l115_41 : Nat) (c115_42 : Nat), en = .returned (.slice A115_40 l115_41 c115_42) ∧ Calls Try.prog 13 #[.pointer A6_5] w43 fun en w48 =>
  (∃ (A117_45 : Option Addr) (l117_46 : Nat) (c117_47 : Nat), en = .returned (.slice A117_45 l117_46 c117_47) ∧ Calls Try.prog 14 #[.slice A115_40 l115_41 c115_42, .slice A117_45 l117_46 c117_47] w48 fun en w51 =>
  (∃ (b118_50 : Bool), en = .returned (.bool b118_50) ∧ (bif b118_50 then (Calls Try.prog 6 #[] w51 fun en w54 =>
  (∃ (b121_53 : Bool), en = .returned (.bool b121_53) ∧ R (.returned (.bool b121_53)) w54)
  ∨ ∃ ch55, en = .panicked ch55 ∧ R (.panicked ch55) w54) else (R (.returned (.bool false)) w51)))
  ∨ ∃ ch52, en = .panicked ch52 ∧ R (.panicked ch52) w51)
  ∨ ∃ ch49, en = .panicked ch49 ∧ R (.panicked ch49) w48)
  ∨ ∃ ch44, en = .panicked ch44 ∧ R (.panicked ch44) w43) else (R (.returned (.bool false)) w38)))
  ∨ ∃ ch39, en = .panicked ch39 ∧ R (.panicked ch39) w38) else (R (.returned (.bool false)) w35)))
  ∨ ∃ ch36, en = .panicked ch36 ∧ R (.panicked ch36) w35) else (R (.returned (.bool false)) w32)))
  ∨ ∃ ch33, en = .panicked ch33 ∧ R (.panicked ch33) w32) else (R (.returned (.bool false)) w29)))
  ∨ ∃ ch30, en = .panicked ch30 ∧ R (.panicked ch30) w29))
theorem p15_eq (R : Ending → World → Prop) (A1_3 : Option Addr) (l1_1 : Nat) (c1_2 : Nat) (A5_4 : Option Addr) (A6_5 : Option Addr) (A9_8 : Option Addr) (l9_6 : Nat) (c9_7 : Nat) (n10_9 : Int) (n11_10 : Int) (w : World) : p15 R A1_3 l1_1 c1_2 A5_4 A6_5 A9_8 l9_6 c9_7 n10_9 n11_10 w = pieceF Try.prog Try.f4 R stops 3000 (cfg Try.f4 15) [(1, .slice A1_3 l1_1 c1_2), (5, .pointer A5_4), (6, .pointer A6_5), (9, .slice A9_8 l9_6 c9_7), (10, .int .i64 n10_9), (11, .int .i64 n11_10)] w := by kernel_rfl
theorem p15_ok {R : Ending → World → Prop} {A1_3 : Option Addr} {l1_1 : Nat} {c1_2 : Nat} {A5_4 : Option Addr} {A6_5 : Option Addr} {A9_8 : Option Addr} {l9_6 : Nat} {c9_7 : Nat} {n10_9 : Int} {n11_10 : Int} {w : World} (h : p15 R A1_3 l1_1 c1_2 A5_4 A6_5 A9_8 l9_6 c9_7 n10_9 n11_10 w) : SK Try.prog Try.f4 R (cfg Try.f4 15) [(1, .slice A1_3 l1_1 c1_2), (5, .pointer A5_4), (6, .pointer A6_5), (9, .slice A9_8 l9_6 c9_7), (10, .int .i64 n10_9), (11, .int .i64 n11_10)] w := piece_sound mixed (Eq.mp (p15_eq R A1_3 l1_1 c1_2 A5_4 A6_5 A9_8 l9_6 c9_7 n10_9 n11_10 w) h)
end F4

/-! ### 5: halyard/halyardlaw21.WheelPlays -/
namespace F5
def stops : Stops := [(9, [0, 1]), (14, [0, 1, 12, 13, 14]), (34, [0, 1, 12, 13, 14, 16])]
def main (R : Ending → World → Prop) (Ap0_1 : Option Addr) (lp0_2 : Nat) (cp0_3 : Nat) (np1_4 : Int) (w : World) : Prop :=
  (bif (decide (((lp0_2 : Nat) : Int) > 200)) then (Calls Try.prog 6 #[] w fun en w6 =>
  (∃ (b33_5 : Bool), en = .returned (.bool b33_5) ∧ R (.returned (.bool b33_5)) w6)
  ∨ ∃ ch7, en = .panicked ch7 ∧ R (.panicked ch7) w6) else (Calls Try.prog 11 #[.pointer none, .int .i64 1] w fun en w12 =>
  (∃ (A36_8 : Option Addr) (l36_9 : Nat) (c36_10 : Nat) (n36_11 : Int), en = .returned (.tuple #[.slice A36_8 l36_9 c36_10, .int .i64 n36_11]) ∧ Calls Try.prog 15 #[.pointer none, .int .u64 np1_4] w12 fun en w16 =>
  (∃ (n42_14 : Int) (b42_15 : Bool), en = .returned (.tuple #[.int .i64 n42_14, .bool b42_15]) ∧ Calls Try.prog 12 #[.pointer none] w16 fun en w20 =>
  (∃ (n47_18 : Int) (b47_19 : Bool), en = .returned (.tuple #[.int .i64 n47_18, .bool b47_19]) ∧ Calls Try.prog 8 #[.pointer none, .int .u64 1, .int .i64 1] w20 fun en w23 =>
  (∃ (n51_22 : Int), en = .returned (.int .i64 n51_22) ∧ (bif (n51_22 != 1) then (R (.returned (.bool false)) w23) else (Calls Try.prog 10 #[.pointer none, .int .u64 1] w23 fun en w26 =>
  (∃ (n55_25 : Int), en = .returned (.int .i64 n55_25) ∧ (bif (n55_25 != 1) then (R (.returned (.bool false)) w26) else ((bif (n36_11 != 1) then (R (.returned (.bool false)) w26) else ((bif b42_15 then (R (.returned (.bool false)) w26) else ((bif b47_19 then (R (.returned (.bool false)) w26) else (Calls Try.prog 9 #[.pointer none] w26 fun en w29 =>
  (∃ (n70_28 : Int), en = .returned (.int .i64 n70_28) ∧ (bif (n70_28 != 0) then (R (.returned (.bool false)) w29) else (Calls Try.prog 13 #[.pointer none] w29 fun en w34 =>
  (∃ (A75_31 : Option Addr) (l75_32 : Nat) (c75_33 : Nat), en = .returned (.slice A75_31 l75_32 c75_33) ∧ (bif (((l75_32 : Nat) : Int) != 0) then (R (.returned (.bool false)) w34) else (Calls Try.prog 16 #[.pointer none] w34 fun en w37 =>
  (∃ (A81_36 : Option Addr), en = .returned (.pointer A81_36) ∧ (bif (!(Option.isNone A81_36)) then (R (.returned (.bool false)) w37) else (SK Try.prog Try.f5 R (cfg Try.f5 9) [(0, .slice Ap0_1 lp0_2 cp0_3), (1, .int .u64 np1_4)] w37)))
  ∨ ∃ ch38, en = .panicked ch38 ∧ R (.panicked ch38) w37)))
  ∨ ∃ ch35, en = .panicked ch35 ∧ R (.panicked ch35) w34)))
  ∨ ∃ ch30, en = .panicked ch30 ∧ R (.panicked ch30) w29)))))))))
  ∨ ∃ ch27, en = .panicked ch27 ∧ R (.panicked ch27) w26)))
  ∨ ∃ ch24, en = .panicked ch24 ∧ R (.panicked ch24) w23)
  ∨ ∃ ch21, en = .panicked ch21 ∧ R (.panicked ch21) w20)
  ∨ ∃ ch17, en = .panicked ch17 ∧ R (.panicked ch17) w16)
  ∨ ∃ ch13, en = .panicked ch13 ∧ R (.panicked ch13) w12))
theorem main_eq (R : Ending → World → Prop) (Ap0_1 : Option Addr) (lp0_2 : Nat) (cp0_3 : Nat) (np1_4 : Int) (w : World) : main R Ap0_1 lp0_2 cp0_3 np1_4 w = mainF Try.prog Try.f5 R stops 3000 [.slice Ap0_1 lp0_2 cp0_3, .int .u64 np1_4] w := by kernel_rfl
theorem calls {R : Ending → World → Prop} {Ap0_1 : Option Addr} {lp0_2 : Nat} {cp0_3 : Nat} {np1_4 : Int} {w : World} (h : main R Ap0_1 lp0_2 cp0_3 np1_4 w) : Calls Try.prog 5 #[.slice Ap0_1 lp0_2 cp0_3, .int .u64 np1_4] w R := main_sound Try.func5 mixed (Eq.mp (main_eq R Ap0_1 lp0_2 cp0_3 np1_4 w) h)
def p9 (R : Ending → World → Prop) (A0_3 : Option Addr) (l0_1 : Nat) (c0_2 : Nat) (n1_4 : Int) (w : World) : Prop :=
  Calls Try.prog 7 #[] w fun en w6 =>
  (∃ (A84_5 : Option Addr), en = .returned (.pointer A84_5) ∧ newW Try.prog (Instr.box 51 (.agg #[.int .i64 0, .slice none 0 0])) w6 fun g86_8 w9 =>
  (bif (Option.isNone A84_5) then (R (.returned (.bool false)) w9) else (SK Try.prog Try.f5 R (cfg Try.f5 14) [(0, .slice A0_3 l0_1 c0_2), (1, .int .u64 n1_4), (12, .pointer A84_5), (13, .pointer (some ⟨g86_8, 0, none⟩)), (14, .int .i64 0)] w9)))
  ∨ ∃ ch7, en = .panicked ch7 ∧ R (.panicked ch7) w6
theorem p9_eq (R : Ending → World → Prop) (A0_3 : Option Addr) (l0_1 : Nat) (c0_2 : Nat) (n1_4 : Int) (w : World) : p9 R A0_3 l0_1 c0_2 n1_4 w = pieceF Try.prog Try.f5 R stops 3000 (cfg Try.f5 9) [(0, .slice A0_3 l0_1 c0_2), (1, .int .u64 n1_4)] w := by kernel_rfl
theorem p9_ok {R : Ending → World → Prop} {A0_3 : Option Addr} {l0_1 : Nat} {c0_2 : Nat} {n1_4 : Int} {w : World} (h : p9 R A0_3 l0_1 c0_2 n1_4 w) : SK Try.prog Try.f5 R (cfg Try.f5 9) [(0, .slice A0_3 l0_1 c0_2), (1, .int .u64 n1_4)] w := piece_sound mixed (Eq.mp (p9_eq R A0_3 l0_1 c0_2 n1_4 w) h)
def p14 (R : Ending → World → Prop) (A0_3 : Option Addr) (l0_1 : Nat) (c0_2 : Nat) (n1_4 : Int) (A12_5 : Option Addr) (g13_6 : Nat) (n14_7 : Int) (w : World) : Prop :=
  (bif (decide (n14_7 < ((l0_1 : Nat) : Int))) then (idxck A0_3 l0_1 n14_7 fun a8 =>
  ∃ (n98_9 : Int) (n98_10 : Int) (n98_11 : Int), cellsAt w (a8.add (Int.toNat n14_7 * 3)) 0 [.int .i64 n98_9, .int .u64 n98_10, .int .i64 n98_11] ∧ newW Try.prog (Instr.alloc 29 true (.tuple #[])) w fun g15_12 w13 =>
  stW Try.prog 29 ⟨g15_12, 0, none⟩ (.agg #[.int .i64 n98_9, .int .u64 n98_10, .int .i64 n98_11]) w13 fun w14 =>
  ∃ (n100_15 : Int), w14.cell? ⟨g15_12, 0, none⟩ = some (.int .i64 n100_15) ∧ (bif (n100_15 == 0) then (∃ (n105_16 : Int), (World.drew w14).cell? ⟨g15_12, 1, none⟩ = some (.int .u64 n105_16) ∧ ∃ (n107_17 : Int), (World.drew w14).cell? ⟨g15_12, 2, none⟩ = some (.int .i64 n107_17) ∧ ∃ (n111_18 : Int), (World.drew w14).cell? ⟨g15_12, 1, none⟩ = some (.int .u64 n111_18) ∧ ∃ (n113_19 : Int), (World.drew w14).cell? ⟨g15_12, 2, none⟩ = some (.int .i64 n113_19) ∧ Calls Try.prog 8 #[.pointer A12_5, .int .u64 n105_16, .int .i64 n107_17] (World.drew w14) fun en w21 =>
  (∃ (n108_20 : Int), en = .returned (.int .i64 n108_20) ∧ ((World.drew w14).cell? ⟨g15_12, 2, none⟩ = some (.int .i64 n113_19) → w21.cell? ⟨g15_12, 2, none⟩ = some (.int .i64 n113_19)) ∧ ((World.drew w14).cell? ⟨g15_12, 1, none⟩ = some (.int .u64 n111_18) → w21.cell? ⟨g15_12, 1, none⟩ = some (.int .u64 n111_18)) ∧ Calls Try.prog 17 #[.pointer (some ⟨g13_6, 0, none⟩), .int .u64 n111_18, .int .i64 n113_19] w21 fun en w24 =>
  (∃ (n114_23 : Int), en = .returned (.int .i64 n114_23) ∧ SK Try.prog Try.f5 R (cfg Try.f5 34) [(0, .slice A0_3 l0_1 c0_2), (1, .int .u64 n1_4), (12, .pointer A12_5), (13, .pointer (some ⟨g13_6, 0, none⟩)), (14, .int .i64 n14_7), (16, .bool (n108_20 == n114_23))] w24)
  ∨ ∃ ch25, en = .panicked ch25 ∧ R (.panicked ch25) w24)
  ∨ ∃ ch22, en = .panicked ch22 ∧ R (.panicked ch22) w21) else ((bif (n100_15 == 1) then (∃ (n120_26 : Int), (World.drew w14).cell? ⟨g15_12, 1, none⟩ = some (.int .u64 n120_26) ∧ ∃ (n124_27 : Int), (World.drew w14).cell? ⟨g15_12, 1, none⟩ = some (.int .u64 n124_27) ∧ Calls Try.prog 10 #[.pointer A12_5, .int .u64 n120_26] (World.drew w14) fun en w29 =>
  (∃ (n121_28 : Int), en = .returned (.int .i64 n121_28) ∧ ((World.drew w14).cell? ⟨g15_12, 1, none⟩ = some (.int .u64 n124_27) → w29.cell? ⟨g15_12, 1, none⟩ = some (.int .u64 n124_27)) ∧ Calls Try.prog 18 #[.pointer (some ⟨g13_6, 0, none⟩), .int .u64 n124_27] w29 fun en w32 =>
  (∃ (n125_31 : Int), en = .returned (.int .i64 n125_31) ∧ SK Try.prog Try.f5 R (cfg Try.f5 34) [(0, .slice A0_3 l0_1 c0_2), (1, .int .u64 n1_4), (12, .pointer A12_5), (13, .pointer (some ⟨g13_6, 0, none⟩)), (14, .int .i64 n14_7), (16, .bool (n121_28 == n125_31))] w32)
  ∨ ∃ ch33, en = .panicked ch33 ∧ R (.panicked ch33) w32)
  ∨ ∃ ch30, en = .panicked ch30 ∧ R (.panicked ch30) w29) else ((bif (n100_15 == 2) then (∃ (n132_34 : Int), w14.cell? ⟨g15_12, 2, none⟩ = some (.int .i64 n132_34) ∧ Calls Try.prog 11 #[.pointer A12_5, .int .i64 n132_34] w14 fun en w39 =>
  (∃ (A133_35 : Option Addr) (l133_36 : Nat) (c133_37 : Nat) (n133_38 : Int), en = .returned (.tuple #[.slice A133_35 l133_36 c133_37, .int .i64 n133_38]) ∧ ∃ (n139_41 : Int), w39.cell? ⟨g15_12, 2, none⟩ = some (.int .i64 n139_41) ∧ Calls Try.prog 19 #[.pointer (some ⟨g13_6, 0, none⟩), .int .i64 n139_41] w39 fun en w46 =>
  (∃ (A140_42 : Option Addr) (l140_43 : Nat) (c140_44 : Nat) (n140_45 : Int), en = .returned (.tuple #[.slice A140_42 l140_43 c140_44, .int .i64 n140_45]) ∧ Calls Try.prog 14 #[.slice A133_35 l133_36 c133_37, .slice A140_42 l140_43 c140_44] w46 fun en w49 =>
  (∃ (b145_48 : Bool), en = .returned (.bool b145_48) ∧ (bif b145_48 then (SK Try.prog Try.f5 R (cfg Try.f5 34) [(0, .slice A0_3 l0_1 c0_2), (1, .int .u64 n1_4), (12, .pointer A12_5), (13, .pointer (some ⟨g13_6, 0, none⟩)), (14, .int .i64 n14_7), (16, .bool (n133_38 == n140_45))] w49) else (SK Try.prog Try.f5 R (cfg Try.f5 34) [(0, .slice A0_3 l0_1 c0_2), (1, .int .u64 n1_4), (12, .pointer A12_5), (13, .pointer (some ⟨g13_6, 0, none⟩)), (14, .int .i64 n14_7), (16, .bool false)] w49)))
  ∨ ∃ ch50, en = .panicked ch50 ∧ R (.panicked ch50) w49)
  ∨ ∃ ch47, en = .panicked ch47 ∧ R (.panicked ch47) w46)
  ∨ ∃ ch40, en = .panicked ch40 ∧ R (.panicked ch40) w39) else ((bif (n100_15 == 3) then (Calls Try.prog 16 #[.pointer A12_5] w14 fun en w52 =>
  (∃ (A155_51 : Option Addr), en = .returned (.pointer A155_51) ∧ (bif (Option.isNone A155_51) then (R (.returned (.bool false)) w52) else (Calls Try.prog 8 #[.pointer A12_5, .int .u64 99, .int .i64 1] w52 fun en w55 =>
  (∃ (n159_54 : Int), en = .returned (.int .i64 n159_54) ∧ Calls Try.prog 11 #[.pointer A12_5, .int .i64 5] w55 fun en w61 =>
  (∃ (A161_57 : Option Addr) (l161_58 : Nat) (c161_59 : Nat) (n161_60 : Int), en = .returned (.tuple #[.slice A161_57 l161_58 c161_59, .int .i64 n161_60]) ∧ SK Try.prog Try.f5 R (cfg Try.f5 34) [(0, .slice A0_3 l0_1 c0_2), (1, .int .u64 n1_4), (12, .pointer A155_51), (13, .pointer (some ⟨g13_6, 0, none⟩)), (14, .int .i64 n14_7), (16, .bool true)] w61)
  ∨ ∃ ch62, en = .panicked ch62 ∧ R (.panicked ch62) w61)
  ∨ ∃ ch56, en = .panicked ch56 ∧ R (.panicked ch56) w55)))
  ∨ ∃ ch53, en = .panicked ch53 ∧ R (.panicked ch53) w52) else (SK Try.prog Try.f5 R (cfg Try.f5 34) [(0, .slice A0_3 l0_1 c0_2), (1, .int .u64 n1_4), (12, .pointer A12_5), (13, .pointer (some ⟨g13_6, 0, none⟩)), (14, .int .i64 n14_7), (16, .bool true)] w14))))))))) else (Calls Try.prog 6 #[] w fun en w64 =>
  (∃ (b223_63 : Bool), en = .returned (.bool b223_63) ∧ R (.returned (.bool b223_63)) w64)
  ∨ ∃ ch65, en = .panicked ch65 ∧ R (.panicked ch65) w64))
theorem p14_eq (R : Ending → World → Prop) (A0_3 : Option Addr) (l0_1 : Nat) (c0_2 : Nat) (n1_4 : Int) (A12_5 : Option Addr) (g13_6 : Nat) (n14_7 : Int) (w : World) : p14 R A0_3 l0_1 c0_2 n1_4 A12_5 g13_6 n14_7 w = pieceF Try.prog Try.f5 R stops 3000 (cfg Try.f5 14) [(0, .slice A0_3 l0_1 c0_2), (1, .int .u64 n1_4), (12, .pointer A12_5), (13, .pointer (some ⟨g13_6, 0, none⟩)), (14, .int .i64 n14_7)] w := by kernel_rfl
theorem p14_ok {R : Ending → World → Prop} {A0_3 : Option Addr} {l0_1 : Nat} {c0_2 : Nat} {n1_4 : Int} {A12_5 : Option Addr} {g13_6 : Nat} {n14_7 : Int} {w : World} (h : p14 R A0_3 l0_1 c0_2 n1_4 A12_5 g13_6 n14_7 w) : SK Try.prog Try.f5 R (cfg Try.f5 14) [(0, .slice A0_3 l0_1 c0_2), (1, .int .u64 n1_4), (12, .pointer A12_5), (13, .pointer (some ⟨g13_6, 0, none⟩)), (14, .int .i64 n14_7)] w := piece_sound mixed (Eq.mp (p14_eq R A0_3 l0_1 c0_2 n1_4 A12_5 g13_6 n14_7 w) h)
def p34 (R : Ending → World → Prop) (A0_3 : Option Addr) (l0_1 : Nat) (c0_2 : Nat) (n1_4 : Int) (A12_5 : Option Addr) (g13_6 : Nat) (n14_7 : Int) (b16_8 : Bool) (w : World) : Prop :=
  Calls Try.prog 15 #[.pointer A12_5, .int .u64 n1_4] w fun en w11 =>
  (∃ (n165_9 : Int) (b165_10 : Bool), en = .returned (.tuple #[.int .i64 n165_9, .bool b165_10]) ∧ Calls Try.prog 20 #[.pointer (some ⟨g13_6, 0, none⟩), .int .u64 n1_4] w11 fun en w15 =>
  (∃ (n171_13 : Int) (b171_14 : Bool), en = .returned (.tuple #[.int .i64 n171_13, .bool b171_14]) ∧ Calls Try.prog 12 #[.pointer A12_5] w15 fun en w19 =>
  (∃ (n176_17 : Int) (b176_18 : Bool), en = .returned (.tuple #[.int .i64 n176_17, .bool b176_18]) ∧ Calls Try.prog 21 #[.pointer (some ⟨g13_6, 0, none⟩)] w19 fun en w23 =>
  (∃ (n181_21 : Int) (b181_22 : Bool), en = .returned (.tuple #[.int .i64 n181_21, .bool b181_22]) ∧ (bif (!b16_8) then (R (.returned (.bool false)) (World.drew w23)) else (∃ (n192_25 : Int), (World.drew w23).cell? ⟨g13_6, 0, none⟩ = some (.int .i64 n192_25) ∧ Calls Try.prog 9 #[.pointer A12_5] (World.drew w23) fun en w27 =>
  (∃ (n188_26 : Int), en = .returned (.int .i64 n188_26) ∧ ((World.drew w23).cell? ⟨g13_6, 0, none⟩ = some (.int .i64 n192_25) → w27.cell? ⟨g13_6, 0, none⟩ = some (.int .i64 n192_25)) ∧ (bif (n188_26 != n192_25) then (R (.returned (.bool false)) w27) else (Calls Try.prog 13 #[.pointer A12_5] w27 fun en w32 =>
  (∃ (A197_29 : Option Addr) (l197_30 : Nat) (c197_31 : Nat), en = .returned (.slice A197_29 l197_30 c197_31) ∧ Calls Try.prog 22 #[.pointer (some ⟨g13_6, 0, none⟩)] w32 fun en w37 =>
  (∃ (A199_34 : Option Addr) (l199_35 : Nat) (c199_36 : Nat), en = .returned (.slice A199_34 l199_35 c199_36) ∧ Calls Try.prog 14 #[.slice A197_29 l197_30 c197_31, .slice A199_34 l199_35 c199_36] w37 fun en w40 =>
  (∃ (b200_39 : Bool), en = .returned (.bool b200_39) ∧ (bif (!b200_39) then (R (.returned (.bool false)) w40) else ((bif (n165_9 != n171_13) then (R (.returned (.bool false)) w40) else ((bif (!(b165_10 == b171_14)) then (R (.returned (.bool false)) w40) else ((bif (n176_17 != n181_21) then (R (.returned (.bool false)) w40) else ((bif (!(b176_18 == b181_22)) then (R (.returned (.bool false)) w40) else (SK Try.prog Try.f5 R (cfg Try.f5 14) [(0, .slice A0_3 l0_1 c0_2), (1, .int .u64 n1_4), (12, .pointer A12_5), (13, .pointer (some ⟨g13_6, 0, none⟩)), (14, .int .i64 (IntKind.wrap .i64 (n14_7 + 1)))] w40)))))))))))
  ∨ ∃ ch41, en = .panicked ch41 ∧ R (.panicked ch41) w40)
  ∨ ∃ ch38, en = .panicked ch38 ∧ R (.panicked ch38) w37)
  ∨ ∃ ch33, en = .panicked ch33 ∧ R (.panicked ch33) w32)))
  ∨ ∃ ch28, en = .panicked ch28 ∧ R (.panicked ch28) w27)))
  ∨ ∃ ch24, en = .panicked ch24 ∧ R (.panicked ch24) w23)
  ∨ ∃ ch20, en = .panicked ch20 ∧ R (.panicked ch20) w19)
  ∨ ∃ ch16, en = .panicked ch16 ∧ R (.panicked ch16) w15)
  ∨ ∃ ch12, en = .panicked ch12 ∧ R (.panicked ch12) w11
theorem p34_eq (R : Ending → World → Prop) (A0_3 : Option Addr) (l0_1 : Nat) (c0_2 : Nat) (n1_4 : Int) (A12_5 : Option Addr) (g13_6 : Nat) (n14_7 : Int) (b16_8 : Bool) (w : World) : p34 R A0_3 l0_1 c0_2 n1_4 A12_5 g13_6 n14_7 b16_8 w = pieceF Try.prog Try.f5 R stops 3000 (cfg Try.f5 34) [(0, .slice A0_3 l0_1 c0_2), (1, .int .u64 n1_4), (12, .pointer A12_5), (13, .pointer (some ⟨g13_6, 0, none⟩)), (14, .int .i64 n14_7), (16, .bool b16_8)] w := by kernel_rfl
theorem p34_ok {R : Ending → World → Prop} {A0_3 : Option Addr} {l0_1 : Nat} {c0_2 : Nat} {n1_4 : Int} {A12_5 : Option Addr} {g13_6 : Nat} {n14_7 : Int} {b16_8 : Bool} {w : World} (h : p34 R A0_3 l0_1 c0_2 n1_4 A12_5 g13_6 n14_7 b16_8 w) : SK Try.prog Try.f5 R (cfg Try.f5 34) [(0, .slice A0_3 l0_1 c0_2), (1, .int .u64 n1_4), (12, .pointer A12_5), (13, .pointer (some ⟨g13_6, 0, none⟩)), (14, .int .i64 n14_7), (16, .bool b16_8)] w := piece_sound mixed (Eq.mp (p34_eq R A0_3 l0_1 c0_2 n1_4 A12_5 g13_6 n14_7 b16_8 w) h)
end F5

/-! ### 6: halyard/halyardlaw21.alive -/
namespace F6
def stops : Stops := []
def main (R : Ending → World → Prop)  (w : World) : Prop :=
  Calls Try.prog 7 #[] w fun en w2 =>
  (∃ (A13_1 : Option Addr), en = .returned (.pointer A13_1) ∧ Calls Try.prog 8 #[.pointer A13_1, .int .u64 7, .int .i64 5] w2 fun en w5 =>
  (∃ (n15_4 : Int), en = .returned (.int .i64 n15_4) ∧ Calls Try.prog 8 #[.pointer A13_1, .int .u64 8, .int .i64 3] w5 fun en w8 =>
  (∃ (n17_7 : Int), en = .returned (.int .i64 n17_7) ∧ Calls Try.prog 8 #[.pointer A13_1, .int .u64 7, .int .i64 3] w8 fun en w11 =>
  (∃ (n19_10 : Int), en = .returned (.int .i64 n19_10) ∧ Calls Try.prog 12 #[.pointer A13_1] w11 fun en w15 =>
  (∃ (n22_13 : Int) (b22_14 : Bool), en = .returned (.tuple #[.int .i64 n22_13, .bool b22_14]) ∧ Calls Try.prog 11 #[.pointer A13_1, .int .i64 2] w15 fun en w21 =>
  (∃ (A27_17 : Option Addr) (l27_18 : Nat) (c27_19 : Nat) (n27_20 : Int), en = .returned (.tuple #[.slice A27_17 l27_18 c27_19, .int .i64 n27_20]) ∧ Calls Try.prog 11 #[.pointer A13_1, .int .i64 1] w21 fun en w27 =>
  (∃ (A32_23 : Option Addr) (l32_24 : Nat) (c32_25 : Nat) (n32_26 : Int), en = .returned (.tuple #[.slice A32_23 l32_24 c32_25, .int .i64 n32_26]) ∧ Calls Try.prog 11 #[.pointer A13_1, .int .i64 (-1)] w27 fun en w33 =>
  (∃ (A37_29 : Option Addr) (l37_30 : Nat) (c37_31 : Nat) (n37_32 : Int), en = .returned (.tuple #[.slice A37_29 l37_30 c37_31, .int .i64 n37_32]) ∧ (bif (n15_4 == 0) then ((bif (n17_7 == 0) then ((bif (n19_10 == 0) then ((bif (n22_13 == 3) then ((bif b22_14 then ((bif (((l27_18 : Nat) : Int) == 0) then ((bif (n27_20 == 0) then (bslW Try.prog 2 (Instr.buildSlice 35 2 #[(0, .int .u64 8), (1, .int .u64 7)]) w33 fun g68_35 w36 =>
  Calls Try.prog 14 #[.slice A32_23 l32_24 c32_25, .slice (some ⟨g68_35, 0, none⟩) 2 2] w36 fun en w38 =>
  (∃ (b69_37 : Bool), en = .returned (.bool b69_37) ∧ (bif b69_37 then ((bif (n32_26 == 0) then (Calls Try.prog 8 #[.pointer A13_1, .int .u64 9, .int .i64 0] w38 fun en w41 =>
  (∃ (n77_40 : Int), en = .returned (.int .i64 n77_40) ∧ (bif (n77_40 == 2) then (Calls Try.prog 9 #[.pointer A13_1] w41 fun en w44 =>
  (∃ (n82_43 : Int), en = .returned (.int .i64 n82_43) ∧ (bif (n82_43 == 3) then ((bif (n37_32 == 2) then (Calls Try.prog 10 #[.pointer A13_1, .int .u64 7] w44 fun en w47 =>
  (∃ (n91_46 : Int), en = .returned (.int .i64 n91_46) ∧ R (.returned (.bool (n91_46 == 3))) w47)
  ∨ ∃ ch48, en = .panicked ch48 ∧ R (.panicked ch48) w47) else (R (.returned (.bool false)) w44))) else (R (.returned (.bool false)) w44)))
  ∨ ∃ ch45, en = .panicked ch45 ∧ R (.panicked ch45) w44) else (R (.returned (.bool false)) w41)))
  ∨ ∃ ch42, en = .panicked ch42 ∧ R (.panicked ch42) w41) else (R (.returned (.bool false)) w38))) else (R (.returned (.bool false)) w38)))
  ∨ ∃ ch39, en = .panicked ch39 ∧ R (.panicked ch39) w38) else (R (.returned (.bool false)) w33))) else (R (.returned (.bool false)) w33))) else (R (.returned (.bool false)) w33))) else (R (.returned (.bool false)) w33))) else (R (.returned (.bool false)) w33))) else (R (.returned (.bool false)) w33))) else (R (.returned (.bool false)) w33)))
  ∨ ∃ ch34, en = .panicked ch34 ∧ R (.panicked ch34) w33)
  ∨ ∃ ch28, en = .panicked ch28 ∧ R (.panicked ch28) w27)
  ∨ ∃ ch22, en = .panicked ch22 ∧ R (.panicked ch22) w21)
  ∨ ∃ ch16, en = .panicked ch16 ∧ R (.panicked ch16) w15)
  ∨ ∃ ch12, en = .panicked ch12 ∧ R (.panicked ch12) w11)
  ∨ ∃ ch9, en = .panicked ch9 ∧ R (.panicked ch9) w8)
  ∨ ∃ ch6, en = .panicked ch6 ∧ R (.panicked ch6) w5)
  ∨ ∃ ch3, en = .panicked ch3 ∧ R (.panicked ch3) w2
theorem main_eq (R : Ending → World → Prop)  (w : World) : main R  w = mainF Try.prog Try.f6 R stops 3000 [] w := by kernel_rfl
theorem calls {R : Ending → World → Prop}  {w : World} (h : main R  w) : Calls Try.prog 6 #[] w R := main_sound Try.func6 mixed (Eq.mp (main_eq R  w) h)
end F6

/-! ### 7: halyard/wheel.New -/
namespace F7
def stops : Stops := []
def main (R : Ending → World → Prop)  (w : World) : Prop :=
  mkmW Try.prog (Instr.makeMap 53 none) w fun g1_1 w2 =>
  newW Try.prog (Instr.box 58 (.agg #[.slice none 0 0, .slice none 0 0, .slice none 0 0, .slice none 0 0, .slice none 0 0, .slice none 0 0, .slice none 0 0, .slice none 0 0, .slice none 0 0, .slice none 0 0, .slice none 0 0, .slice none 0 0, .slice none 0 0, .slice none 0 0, .slice none 0 0, .slice none 0 0, .slice none 0 0, .slice none 0 0, .slice none 0 0, .slice none 0 0, .slice none 0 0, .slice none 0 0, .slice none 0 0, .slice none 0 0, .slice none 0 0, .slice none 0 0, .slice none 0 0, .slice none 0 0, .slice none 0 0, .slice none 0 0, .slice none 0 0, .slice none 0 0, .slice none 0 0, .slice none 0 0, .slice none 0 0, .slice none 0 0, .slice none 0 0, .slice none 0 0, .slice none 0 0, .slice none 0 0, .slice none 0 0, .slice none 0 0, .slice none 0 0, .slice none 0 0, .slice none 0 0, .slice none 0 0, .slice none 0 0, .slice none 0 0, .slice none 0 0, .slice none 0 0, .slice none 0 0, .slice none 0 0, .slice none 0 0, .slice none 0 0, .slice none 0 0, .slice none 0 0, .slice none 0 0, .slice none 0 0, .slice none 0 0, .slice none 0 0, .slice none 0 0, .slice none 0 0, .slice none 0 0, .slice none 0 0, .slice none 0 0, .slice none 0 0, .slice none 0 0, .slice none 0 0, .slice none 0 0, .slice none 0 0, .slice none 0 0, .slice none 0 0, .slice none 0 0, .slice none 0 0, .slice none 0 0, .slice none 0 0, .slice none 0 0, .slice none 0 0, .slice none 0 0, .slice none 0 0, .slice none 0 0, .slice none 0 0, .slice none 0 0, .slice none 0 0, .slice none 0 0, .slice none 0 0, .slice none 0 0, .slice none 0 0, .slice none 0 0, .slice none 0 0, .slice none 0 0, .slice none 0 0, .slice none 0 0, .slice none 0 0, .slice none 0 0, .slice none 0 0, .slice none 0 0, .slice none 0 0, .slice none 0 0, .slice none 0 0, .slice none 0 0, .slice none 0 0, .slice none 0 0, .slice none 0 0, .slice none 0 0, .slice none 0 0, .slice none 0 0, .slice none 0 0, .slice none 0 0, .slice none 0 0, .slice none 0 0, .slice none 0 0, .slice none 0 0, .slice none 0 0, .slice none 0 0, .slice none 0 0, .slice none 0 0, .slice none 0 0, .slice none 0 0, .slice none 0 0, .slice none 0 0, .slice none 0 0, .slice none 0 0, .slice none 0 0, .slice none 0 0, .slice none 0 0, .slice none 0 0, .slice none 0 0, .slice none 0 0, .slice none 0 0, .slice none 0 0, .slice none 0 0, .slice none 0 0, .slice none 0 0, .slice none 0 0, .slice none 0 0, .slice none 0 0, .slice none 0 0, .slice none 0 0, .slice none 0 0, .slice none 0 0, .slice none 0 0, .slice none 0 0, .slice none 0 0, .slice none 0 0, .slice none 0 0, .slice none 0 0, .slice none 0 0, .slice none 0 0, .slice none 0 0, .slice none 0 0, .slice none 0 0, .slice none 0 0, .slice none 0 0, .slice none 0 0, .slice none 0 0, .slice none 0 0, .slice none 0 0, .slice none 0 0, .slice none 0 0, .slice none 0 0, .slice none 0 0, .slice none 0 0, .slice none 0 0, .slice none 0 0, .slice none 0 0, .slice none 0 0, .slice none 0 0, .slice none 0 0, .slice none 0 0, .slice none 0 0, .slice none 0 0, .slice none 0 0, .slice none 0 0, .slice none 0 0, .slice none 0 0, .slice none 0 0, .slice none 0 0, .slice none 0 0, .slice none 0 0, .slice none 0 0, .slice none 0 0, .slice none 0 0, .slice none 0 0, .slice none 0 0, .slice none 0 0, .slice none 0 0, .slice none 0 0, .slice none 0 0, .slice none 0 0, .slice none 0 0, .slice none 0 0, .slice none 0 0, .slice none 0 0, .slice none 0 0, .slice none 0 0, .slice none 0 0, .slice none 0 0, .slice none 0 0, .slice none 0 0, .slice none 0 0, .slice none 0 0, .slice none 0 0, .slice none 0 0, .slice none 0 0, .slice none 0 0, .slice none 0 0, .slice none 0 0, .slice none 0 0, .slice none 0 0, .slice none 0 0, .slice none 0 0, .slice none 0 0, .slice none 0 0, .slice none 0 0, .slice none 0 0, .slice none 0 0, .slice none 0 0, .slice none 0 0, .slice none 0 0, .slice none 0 0, .slice none 0 0, .slice none 0 0, .slice none 0 0, .slice none 0 0, .slice none 0 0, .slice none 0 0, .slice none 0 0, .slice none 0 0, .slice none 0 0, .slice none 0 0, .slice none 0 0, .slice none 0 0, .slice none 0 0, .slice none 0 0, .slice none 0 0, .slice none 0 0, .slice none 0 0, .slice none 0 0, .slice none 0 0, .slice none 0 0, .slice none 0 0, .slice none 0 0, .slice none 0 0, .slice none 0 0, .slice none 0 0, .slice none 0 0, .slice none 0 0, .slice none 0 0, .slice none 0 0, .slice none 0 0, .slice none 0 0, .slice none 0 0, .slice none 0 0, .slice none 0 0, .slice none 0 0, .slice none 0 0, .slice none 0 0, .slice none 0 0, .slice none 0 0, .slice none 0 0, .slice none 0 0, .slice none 0 0, .slice none 0 0, .slice none 0 0, .slice none 0 0, .slice none 0 0, .slice none 0 0, .slice none 0 0, .slice none 0 0, .slice none 0 0, .slice none 0 0, .slice none 0 0, .slice none 0 0, .slice none 0 0, .slice none 0 0, .slice none 0 0, .slice none 0 0, .slice none 0 0, .slice none 0 0, .slice none 0 0, .slice none 0 0, .slice none 0 0, .slice none 0 0, .slice none 0 0, .slice none 0 0, .slice none 0 0, .slice none 0 0, .slice none 0 0, .slice none 0 0, .slice none 0 0, .slice none 0 0, .slice none 0 0, .slice none 0 0, .slice none 0 0, .slice none 0 0, .slice none 0 0, .slice none 0 0, .slice none 0 0, .slice none 0 0, .slice none 0 0, .slice none 0 0, .slice none 0 0, .slice none 0 0, .slice none 0 0, .slice none 0 0, .slice none 0 0, .slice none 0 0, .slice none 0 0, .slice none 0 0, .slice none 0 0, .slice none 0 0, .slice none 0 0, .slice none 0 0, .slice none 0 0, .slice none 0 0, .slice none 0 0, .slice none 0 0, .slice none 0 0, .slice none 0 0, .map (some g1_1), .int .i64 0, .int .u64 0])) w2 fun g3_3 w4 =>
  R (.returned (.pointer (some ⟨g3_3, 0, none⟩))) w4
theorem main_eq (R : Ending → World → Prop)  (w : World) : main R  w = mainF Try.prog Try.f7 R stops 3000 [] w := by kernel_rfl
theorem calls {R : Ending → World → Prop}  {w : World} (h : main R  w) : Calls Try.prog 7 #[] w R := main_sound Try.func7 mixed (Eq.mp (main_eq R  w) h)
end F7

/-! ### 8: (*halyard/wheel.Wheel).Set -/
namespace F8
def stops : Stops := [(6, [0, 1, 2, 8]), (8, [0, 1, 2])]
def main (R : Ending → World → Prop) (Ap0_1 : Option Addr) (np1_2 : Int) (np2_3 : Int) (w : World) : Prop :=
  (bif (Option.isNone Ap0_1) then (R (.returned (.int .i64 1)) w) else (nilck Ap0_1 fun a4 =>
  ∃ (m16_5 : Option Nat), w.cell? (a4.add 320) = some (.map m16_5) ∧ ∃ (n18_6 : Int) (n18_7 : Int) (n18_8 : Int) (b18_9 : Bool), (Instr.lookup 53 (.map m16_5) (.int .u64 np1_2) true).run Try.prog w = .ok (.tuple #[.agg #[.int .u64 n18_6, .int .i64 n18_7, .int .u64 n18_8], .bool b18_9]) w ∧ newW Try.prog (Instr.alloc 60 true (.tuple #[])) w fun g7_10 w11 =>
  stW Try.prog 60 ⟨g7_10, 0, none⟩ (.agg #[.int .u64 n18_6, .int .i64 n18_7, .int .u64 n18_8]) w11 fun w12 =>
  (bif (decide (np2_3 < 1)) then (R (.returned (.int .i64 2)) w12) else ((bif (decide (np2_3 > 16777216)) then (R (.returned (.int .i64 2)) w12) else (SK Try.prog Try.f8 R (cfg Try.f8 6) [(0, .pointer Ap0_1), (1, .int .u64 np1_2), (2, .int .i64 np2_3), (8, .bool b18_9)] w12))))))
theorem main_eq (R : Ending → World → Prop) (Ap0_1 : Option Addr) (np1_2 : Int) (np2_3 : Int) (w : World) : main R Ap0_1 np1_2 np2_3 w = mainF Try.prog Try.f8 R stops 3000 [.pointer Ap0_1, .int .u64 np1_2, .int .i64 np2_3] w := by kernel_rfl
theorem calls {R : Ending → World → Prop} {Ap0_1 : Option Addr} {np1_2 : Int} {np2_3 : Int} {w : World} (h : main R Ap0_1 np1_2 np2_3 w) : Calls Try.prog 8 #[.pointer Ap0_1, .int .u64 np1_2, .int .i64 np2_3] w R := main_sound Try.func8 mixed (Eq.mp (main_eq R Ap0_1 np1_2 np2_3 w) h)
def p6 (R : Ending → World → Prop) (A0_1 : Option Addr) (n1_2 : Int) (n2_3 : Int) (b8_4 : Bool) (w : World) : Prop :=
  (bif (!b8_4) then (nilck A0_1 fun a5 =>
  ∃ (m35_6 : Option Nat), w.cell? (a5.add 320) = some (.map m35_6) ∧ ∃ (n36_7 : Int), (Builtin.len_ #[53] 3 #[.map m35_6]).run Try.prog w = .ok (.int .i64 n36_7) w ∧ (bif (decide (n36_7 ≥ 4096)) then (R (.returned (.int .i64 4)) w) else (SK Try.prog Try.f8 R (cfg Try.f8 8) [(0, .pointer A0_1), (1, .int .u64 n1_2), (2, .int .i64 n2_3)] w))) else (SK Try.prog Try.f8 R (cfg Try.f8 8) [(0, .pointer A0_1), (1, .int .u64 n1_2), (2, .int .i64 n2_3)] w))
theorem p6_eq (R : Ending → World → Prop) (A0_1 : Option Addr) (n1_2 : Int) (n2_3 : Int) (b8_4 : Bool) (w : World) : p6 R A0_1 n1_2 n2_3 b8_4 w = pieceF Try.prog Try.f8 R stops 3000 (cfg Try.f8 6) [(0, .pointer A0_1), (1, .int .u64 n1_2), (2, .int .i64 n2_3), (8, .bool b8_4)] w := by kernel_rfl
theorem p6_ok {R : Ending → World → Prop} {A0_1 : Option Addr} {n1_2 : Int} {n2_3 : Int} {b8_4 : Bool} {w : World} (h : p6 R A0_1 n1_2 n2_3 b8_4 w) : SK Try.prog Try.f8 R (cfg Try.f8 6) [(0, .pointer A0_1), (1, .int .u64 n1_2), (2, .int .i64 n2_3), (8, .bool b8_4)] w := piece_sound mixed (Eq.mp (p6_eq R A0_1 n1_2 n2_3 b8_4 w) h)
def p8 (R : Ending → World → Prop) (A0_1 : Option Addr) (n1_2 : Int) (n2_3 : Int) (w : World) : Prop :=
  nilck A0_1 fun a4 =>
  ∃ (n42_5 : Int), w.cell? (a4.add 322) = some (.int .u64 n42_5) ∧ nilck A0_1 fun a6 =>
  stW Try.prog 27 (a6.add 322) (.int .u64 (IntKind.wrap .u64 (n42_5 + 1))) w fun w7 =>
  nilck A0_1 fun a8 =>
  ∃ (n50_9 : Int), (World.drew w7).cell? (a8.add 321) = some (.int .i64 n50_9) ∧ nilck A0_1 fun a10 =>
  ∃ (n56_11 : Int), (World.drew w7).cell? (a10.add 322) = some (.int .u64 n56_11) ∧ newW Try.prog (Instr.alloc 60 true (.tuple #[])) (World.drew w7) fun g9_12 w13 =>
  stW Try.prog 60 ⟨g9_12, 0, none⟩ (.agg #[.int .u64 n1_2, .int .i64 (IntKind.wrap .i64 (n50_9 + n2_3)), .int .u64 n56_11]) w13 fun w14 =>
  nilck A0_1 fun a15 =>
  ∃ (m61_16 : Option Nat), (World.drew w14).cell? (a15.add 320) = some (.map m61_16) ∧ ∃ (n63_17 : Int) (n63_18 : Int) (n63_19 : Int), cellsAt (World.drew w14) ⟨g9_12, 0, none⟩ 0 [.int .u64 n63_17, .int .i64 n63_18, .int .u64 n63_19] ∧ prU Try.prog (Instr.mapUpdate 53 (.map m61_16) (.int .u64 n1_2) (.agg #[.int .u64 n63_17, .int .i64 n63_18, .int .u64 n63_19])) (World.drew w14) fun w20 =>
  ∃ (n65_21 : Int) (n65_22 : Int) (n65_23 : Int), cellsAt w20 ⟨g9_12, 0, none⟩ 0 [.int .u64 n65_21, .int .i64 n65_22, .int .u64 n65_23] ∧ Calls Try.prog 23 #[.pointer A0_1, .agg #[.int .u64 n65_21, .int .i64 n65_22, .int .u64 n65_23]] w20 fun en w24 =>
  (en = .returned (.tuple #[]) ∧ R (.returned (.int .i64 0)) w24)
  ∨ ∃ ch25, en = .panicked ch25 ∧ R (.panicked ch25) w24
theorem p8_eq (R : Ending → World → Prop) (A0_1 : Option Addr) (n1_2 : Int) (n2_3 : Int) (w : World) : p8 R A0_1 n1_2 n2_3 w = pieceF Try.prog Try.f8 R stops 3000 (cfg Try.f8 8) [(0, .pointer A0_1), (1, .int .u64 n1_2), (2, .int .i64 n2_3)] w := by kernel_rfl
theorem p8_ok {R : Ending → World → Prop} {A0_1 : Option Addr} {n1_2 : Int} {n2_3 : Int} {w : World} (h : p8 R A0_1 n1_2 n2_3 w) : SK Try.prog Try.f8 R (cfg Try.f8 8) [(0, .pointer A0_1), (1, .int .u64 n1_2), (2, .int .i64 n2_3)] w := piece_sound mixed (Eq.mp (p8_eq R A0_1 n1_2 n2_3 w) h)
end F8

/-! ### 9: (*halyard/wheel.Wheel).Now -/
namespace F9
def stops : Stops := []
def main (R : Ending → World → Prop) (Ap0_1 : Option Addr) (w : World) : Prop :=
  (bif (Option.isNone Ap0_1) then (R (.returned (.int .i64 0)) w) else (nilck Ap0_1 fun a2 =>
  ∃ (n8_3 : Int), w.cell? (a2.add 321) = some (.int .i64 n8_3) ∧ R (.returned (.int .i64 n8_3)) w))
theorem main_eq (R : Ending → World → Prop) (Ap0_1 : Option Addr) (w : World) : main R Ap0_1 w = mainF Try.prog Try.f9 R stops 3000 [.pointer Ap0_1] w := by kernel_rfl
theorem calls {R : Ending → World → Prop} {Ap0_1 : Option Addr} {w : World} (h : main R Ap0_1 w) : Calls Try.prog 9 #[.pointer Ap0_1] w R := main_sound Try.func9 mixed (Eq.mp (main_eq R Ap0_1 w) h)
end F9

/-! ### 10: (*halyard/wheel.Wheel).Clear -/
namespace F10
def stops : Stops := []
def main (R : Ending → World → Prop) (Ap0_1 : Option Addr) (np1_2 : Int) (w : World) : Prop :=
  (bif (Option.isNone Ap0_1) then (R (.returned (.int .i64 1)) w) else (nilck Ap0_1 fun a3 =>
  ∃ (m13_4 : Option Nat), w.cell? (a3.add 320) = some (.map m13_4) ∧ ∃ (n15_5 : Int) (n15_6 : Int) (n15_7 : Int) (b15_8 : Bool), (Instr.lookup 53 (.map m13_4) (.int .u64 np1_2) true).run Try.prog w = .ok (.tuple #[.agg #[.int .u64 n15_5, .int .i64 n15_6, .int .u64 n15_7], .bool b15_8]) w ∧ newW Try.prog (Instr.alloc 60 true (.tuple #[])) w fun g5_9 w10 =>
  stW Try.prog 60 ⟨g5_9, 0, none⟩ (.agg #[.int .u64 n15_5, .int .i64 n15_6, .int .u64 n15_7]) w10 fun w11 =>
  (bif (!b15_8) then (R (.returned (.int .i64 3)) w11) else (nilck Ap0_1 fun a12 =>
  ∃ (m23_13 : Option Nat), w11.cell? (a12.add 320) = some (.map m23_13) ∧ unW Try.prog (Builtin.delete_ #[53, 27] 0 #[.map m23_13, .int .u64 np1_2]) w11 fun w14 =>
  R (.returned (.int .i64 0)) w14))))
theorem main_eq (R : Ending → World → Prop) (Ap0_1 : Option Addr) (np1_2 : Int) (w : World) : main R Ap0_1 np1_2 w = mainF Try.prog Try.f10 R stops 3000 [.pointer Ap0_1, .int .u64 np1_2] w := by kernel_rfl
theorem calls {R : Ending → World → Prop} {Ap0_1 : Option Addr} {np1_2 : Int} {w : World} (h : main R Ap0_1 np1_2 w) : Calls Try.prog 10 #[.pointer Ap0_1, .int .u64 np1_2] w R := main_sound Try.func10 mixed (Eq.mp (main_eq R Ap0_1 np1_2 w) h)
end F10

/-! ### 11: (*halyard/wheel.Wheel).Tick -/
namespace F11
def stops : Stops := [(5, [0, 1, 4]), (7, [0, 4, 6, 7, 8]), (11, [0, 4, 6, 57, 58, 59])]
def main (R : Ending → World → Prop) (Ap0_1 : Option Addr) (np1_2 : Int) (w : World) : Prop :=
  (bif (Option.isNone Ap0_1) then (R (.returned (.tuple #[.slice none 0 0, .int .i64 1])) w) else ((bif (decide (np1_2 < 0)) then (R (.returned (.tuple #[.slice none 0 0, .int .i64 2])) w) else ((bif (decide (np1_2 > 16777216)) then (R (.returned (.tuple #[.slice none 0 0, .int .i64 2])) w) else (nilck Ap0_1 fun a3 =>
  ∃ (n25_4 : Int), w.cell? (a3.add 321) = some (.int .i64 n25_4) ∧ (bif (decide (n25_4 > (IntKind.wrap .i64 (1152921504606846976 - np1_2)))) then (R (.returned (.tuple #[.slice none 0 0, .int .i64 2])) w) else (SK Try.prog Try.f11 R (cfg Try.f11 5) [(0, .pointer Ap0_1), (1, .int .i64 np1_2), (4, .slice none 0 0)] w))))))))
theorem main_eq (R : Ending → World → Prop) (Ap0_1 : Option Addr) (np1_2 : Int) (w : World) : main R Ap0_1 np1_2 w = mainF Try.prog Try.f11 R stops 3000 [.pointer Ap0_1, .int .i64 np1_2] w := by kernel_rfl
theorem calls {R : Ending → World → Prop} {Ap0_1 : Option Addr} {np1_2 : Int} {w : World} (h : main R Ap0_1 np1_2 w) : Calls Try.prog 11 #[.pointer Ap0_1, .int .i64 np1_2] w R := main_sound Try.func11 mixed (Eq.mp (main_eq R Ap0_1 np1_2 w) h)
def p5 (R : Ending → World → Prop) (A0_1 : Option Addr) (n1_2 : Int) (A4_5 : Option Addr) (l4_3 : Nat) (c4_4 : Nat) (w : World) : Prop :=
  nilck A0_1 fun a6 =>
  ∃ (n33_7 : Int), w.cell? (a6.add 321) = some (.int .i64 n33_7) ∧ Calls Try.prog 24 #[.pointer A0_1] w fun en w10 =>
  (∃ (n38_8 : Int) (b38_9 : Bool), en = .returned (.tuple #[.int .i64 n38_8, .bool b38_9]) ∧ SK Try.prog Try.f11 R (cfg Try.f11 7) [(0, .pointer A0_1), (4, .slice A4_5 l4_3 c4_4), (6, .int .i64 (IntKind.wrap .i64 (n33_7 + n1_2))), (7, .int .i64 n38_8), (8, .bool b38_9)] w10)
  ∨ ∃ ch11, en = .panicked ch11 ∧ R (.panicked ch11) w10
theorem p5_eq (R : Ending → World → Prop) (A0_1 : Option Addr) (n1_2 : Int) (A4_5 : Option Addr) (l4_3 : Nat) (c4_4 : Nat) (w : World) : p5 R A0_1 n1_2 A4_5 l4_3 c4_4 w = pieceF Try.prog Try.f11 R stops 3000 (cfg Try.f11 5) [(0, .pointer A0_1), (1, .int .i64 n1_2), (4, .slice A4_5 l4_3 c4_4)] w := by kernel_rfl
theorem p5_ok {R : Ending → World → Prop} {A0_1 : Option Addr} {n1_2 : Int} {A4_5 : Option Addr} {l4_3 : Nat} {c4_4 : Nat} {w : World} (h : p5 R A0_1 n1_2 A4_5 l4_3 c4_4 w) : SK Try.prog Try.f11 R (cfg Try.f11 5) [(0, .pointer A0_1), (1, .int .i64 n1_2), (4, .slice A4_5 l4_3 c4_4)] w := piece_sound mixed (Eq.mp (p5_eq R A0_1 n1_2 A4_5 l4_3 c4_4 w) h)
def p7 (R : Ending → World → Prop) (A0_1 : Option Addr) (A4_4 : Option Addr) (l4_2 : Nat) (c4_3 : Nat) (n6_5 : Int) (n7_6 : Int) (b8_7 : Bool) (w : World) : Prop :=
  (bif b8_7 then ((bif (decide (n7_6 ≤ n6_5)) then (Calls Try.prog 25 #[.pointer A0_1, .int .i64 (IntKind.wrap .i64 (n7_6 - 1))] w fun en w8 =>
  (en = .returned (.tuple #[]) ∧ Calls Try.prog 26 #[.pointer A0_1] w8 fun en w13 =>
  (∃ (A57_10 : Option Addr) (l57_11 : Nat) (c57_12 : Nat), en = .returned (.slice A57_10 l57_11 c57_12) ∧ SK Try.prog Try.f11 R (cfg Try.f11 11) [(0, .pointer A0_1), (4, .slice A4_4 l4_2 c4_3), (6, .int .i64 n6_5), (57, .slice A57_10 l57_11 c57_12), (58, .int .i64 ((l57_11 : Nat) : Int)), (59, .int .i64 0)] w13)
  ∨ ∃ ch14, en = .panicked ch14 ∧ R (.panicked ch14) w13)
  ∨ ∃ ch9, en = .panicked ch9 ∧ R (.panicked ch9) w8) else (Calls Try.prog 25 #[.pointer A0_1, .int .i64 n6_5] w fun en w15 =>
  (en = .returned (.tuple #[]) ∧ R (.returned (.tuple #[.slice A4_4 l4_2 c4_3, .int .i64 0])) w15)
  ∨ ∃ ch16, en = .panicked ch16 ∧ R (.panicked ch16) w15))) else (Calls Try.prog 25 #[.pointer A0_1, .int .i64 n6_5] w fun en w17 =>
  (en = .returned (.tuple #[]) ∧ R (.returned (.tuple #[.slice A4_4 l4_2 c4_3, .int .i64 0])) w17)
  ∨ ∃ ch18, en = .panicked ch18 ∧ R (.panicked ch18) w17))
theorem p7_eq (R : Ending → World → Prop) (A0_1 : Option Addr) (A4_4 : Option Addr) (l4_2 : Nat) (c4_3 : Nat) (n6_5 : Int) (n7_6 : Int) (b8_7 : Bool) (w : World) : p7 R A0_1 A4_4 l4_2 c4_3 n6_5 n7_6 b8_7 w = pieceF Try.prog Try.f11 R stops 3000 (cfg Try.f11 7) [(0, .pointer A0_1), (4, .slice A4_4 l4_2 c4_3), (6, .int .i64 n6_5), (7, .int .i64 n7_6), (8, .bool b8_7)] w := by kernel_rfl
theorem p7_ok {R : Ending → World → Prop} {A0_1 : Option Addr} {A4_4 : Option Addr} {l4_2 : Nat} {c4_3 : Nat} {n6_5 : Int} {n7_6 : Int} {b8_7 : Bool} {w : World} (h : p7 R A0_1 A4_4 l4_2 c4_3 n6_5 n7_6 b8_7 w) : SK Try.prog Try.f11 R (cfg Try.f11 7) [(0, .pointer A0_1), (4, .slice A4_4 l4_2 c4_3), (6, .int .i64 n6_5), (7, .int .i64 n7_6), (8, .bool b8_7)] w := piece_sound mixed (Eq.mp (p7_eq R A0_1 A4_4 l4_2 c4_3 n6_5 n7_6 b8_7 w) h)
def p11 (R : Ending → World → Prop) (A0_1 : Option Addr) (A4_4 : Option Addr) (l4_2 : Nat) (c4_3 : Nat) (n6_5 : Int) (A57_8 : Option Addr) (l57_6 : Nat) (c57_7 : Nat) (n58_9 : Int) (n59_10 : Int) (w : World) : Prop :=
  (bif (decide (n59_10 < n58_9)) then (idxck A57_8 l57_6 n59_10 fun a11 =>
  ∃ (n62_12 : Int) (n62_13 : Int) (n62_14 : Int), cellsAt w (a11.add (Int.toNat n59_10 * 3)) 0 [.int .u64 n62_12, .int .i64 n62_13, .int .u64 n62_14] ∧ newW Try.prog (Instr.alloc 60 true (.tuple #[])) w fun g10_15 w16 =>
  stW Try.prog 60 ⟨g10_15, 0, none⟩ (.agg #[.int .u64 n62_12, .int .i64 n62_13, .int .u64 n62_14]) w16 fun w17 =>
  ∃ (n65_18 : Int), w17.cell? ⟨g10_15, 0, none⟩ = some (.int .u64 n65_18) ∧ bslW Try.prog 1 (Instr.buildSlice 35 1 #[(0, .int .u64 n65_18)]) w17 fun g66_19 w20 =>
  slW Try.prog (Builtin.append_ #[35, 35] 35 #[.slice A4_4 l4_2 c4_3, .slice (some ⟨g66_19, 0, none⟩) 1 1]) w20 fun A67_22 l67_23 c67_24 w21 =>
  SK Try.prog Try.f11 R (cfg Try.f11 11) [(0, .pointer A0_1), (4, .slice A67_22 l67_23 c67_24), (6, .int .i64 n6_5), (57, .slice A57_8 l57_6 c57_7), (58, .int .i64 n58_9), (59, .int .i64 (IntKind.wrap .i64 (n59_10 + 1)))] w21) else (Calls Try.prog 24 #[.pointer A0_1] w fun en w27 =>
  (∃ (n49_25 : Int) (b49_26 : Bool), en = .returned (.tuple #[.int .i64 n49_25, .bool b49_26]) ∧ SK Try.prog Try.f11 R (cfg Try.f11 7) [(0, .pointer A0_1), (4, .slice A4_4 l4_2 c4_3), (6, .int .i64 n6_5), (7, .int .i64 n49_25), (8, .bool b49_26)] w27)
  ∨ ∃ ch28, en = .panicked ch28 ∧ R (.panicked ch28) w27))
theorem p11_eq (R : Ending → World → Prop) (A0_1 : Option Addr) (A4_4 : Option Addr) (l4_2 : Nat) (c4_3 : Nat) (n6_5 : Int) (A57_8 : Option Addr) (l57_6 : Nat) (c57_7 : Nat) (n58_9 : Int) (n59_10 : Int) (w : World) : p11 R A0_1 A4_4 l4_2 c4_3 n6_5 A57_8 l57_6 c57_7 n58_9 n59_10 w = pieceF Try.prog Try.f11 R stops 3000 (cfg Try.f11 11) [(0, .pointer A0_1), (4, .slice A4_4 l4_2 c4_3), (6, .int .i64 n6_5), (57, .slice A57_8 l57_6 c57_7), (58, .int .i64 n58_9), (59, .int .i64 n59_10)] w := by kernel_rfl
theorem p11_ok {R : Ending → World → Prop} {A0_1 : Option Addr} {A4_4 : Option Addr} {l4_2 : Nat} {c4_3 : Nat} {n6_5 : Int} {A57_8 : Option Addr} {l57_6 : Nat} {c57_7 : Nat} {n58_9 : Int} {n59_10 : Int} {w : World} (h : p11 R A0_1 A4_4 l4_2 c4_3 n6_5 A57_8 l57_6 c57_7 n58_9 n59_10 w) : SK Try.prog Try.f11 R (cfg Try.f11 11) [(0, .pointer A0_1), (4, .slice A4_4 l4_2 c4_3), (6, .int .i64 n6_5), (57, .slice A57_8 l57_6 c57_7), (58, .int .i64 n58_9), (59, .int .i64 n59_10)] w := piece_sound mixed (Eq.mp (p11_eq R A0_1 A4_4 l4_2 c4_3 n6_5 A57_8 l57_6 c57_7 n58_9 n59_10 w) h)
end F11

/-! ### 12: (*halyard/wheel.Wheel).Next -/
namespace F12
def stops : Stops := []
def main (R : Ending → World → Prop) (Ap0_1 : Option Addr) (w : World) : Prop :=
  (bif (Option.isNone Ap0_1) then (R (.returned (.tuple #[.int .i64 0, .bool false])) w) else (Calls Try.prog 24 #[.pointer Ap0_1] w fun en w4 =>
  (∃ (n10_2 : Int) (b10_3 : Bool), en = .returned (.tuple #[.int .i64 n10_2, .bool b10_3]) ∧ (bif (!b10_3) then (R (.returned (.tuple #[.int .i64 0, .bool false])) w4) else (nilck Ap0_1 fun a6 =>
  ∃ (n19_7 : Int), w4.cell? (a6.add 321) = some (.int .i64 n19_7) ∧ R (.returned (.tuple #[.int .i64 (IntKind.wrap .i64 (n10_2 - n19_7)), .bool true])) w4)))
  ∨ ∃ ch5, en = .panicked ch5 ∧ R (.panicked ch5) w4))
theorem main_eq (R : Ending → World → Prop) (Ap0_1 : Option Addr) (w : World) : main R Ap0_1 w = mainF Try.prog Try.f12 R stops 3000 [.pointer Ap0_1] w := by kernel_rfl
theorem calls {R : Ending → World → Prop} {Ap0_1 : Option Addr} {w : World} (h : main R Ap0_1 w) : Calls Try.prog 12 #[.pointer Ap0_1] w R := main_sound Try.func12 mixed (Eq.mp (main_eq R Ap0_1 w) h)
end F12

/-! ### 13: (*halyard/wheel.Wheel).Keys -/
namespace F13
def stops : Stops := [(4, [2, 13, 14, 15])]
def main (R : Ending → World → Prop) (Ap0_1 : Option Addr) (w : World) : Prop :=
  (bif (Option.isNone Ap0_1) then (R (.returned (.slice none 0 0)) w) else (nilck Ap0_1 fun a2 =>
  ∃ (m10_3 : Option Nat), w.cell? (a2.add 320) = some (.map m10_3) ∧ Calls Try.prog 29 #[.map m10_3] w fun en w5 =>
  (∃ (v11_4 : Value), en = .returned v11_4 ∧ Calls Try.prog 28 #[v11_4] w5 fun en w10 =>
  (∃ (A12_7 : Option Addr) (l12_8 : Nat) (c12_9 : Nat), en = .returned (.slice A12_7 l12_8 c12_9) ∧ Calls Try.prog 27 #[.slice A12_7 l12_8 c12_9, .func (.func 30) #[] #[]] w10 fun en w15 =>
  (∃ (A13_12 : Option Addr) (l13_13 : Nat) (c13_14 : Nat), en = .returned (.slice A13_12 l13_13 c13_14) ∧ SK Try.prog Try.f13 R (cfg Try.f13 4) [(2, .slice none 0 0), (13, .slice A13_12 l13_13 c13_14), (14, .int .i64 ((l13_13 : Nat) : Int)), (15, .int .i64 0)] w15)
  ∨ ∃ ch16, en = .panicked ch16 ∧ R (.panicked ch16) w15)
  ∨ ∃ ch11, en = .panicked ch11 ∧ R (.panicked ch11) w10)
  ∨ ∃ ch6, en = .panicked ch6 ∧ R (.panicked ch6) w5))
theorem main_eq (R : Ending → World → Prop) (Ap0_1 : Option Addr) (w : World) : main R Ap0_1 w = mainF Try.prog Try.f13 R stops 3000 [.pointer Ap0_1] w := by kernel_rfl
theorem calls {R : Ending → World → Prop} {Ap0_1 : Option Addr} {w : World} (h : main R Ap0_1 w) : Calls Try.prog 13 #[.pointer Ap0_1] w R := main_sound Try.func13 mixed (Eq.mp (main_eq R Ap0_1 w) h)
def p4 (R : Ending → World → Prop) (A2_3 : Option Addr) (l2_1 : Nat) (c2_2 : Nat) (A13_6 : Option Addr) (l13_4 : Nat) (c13_5 : Nat) (n14_7 : Int) (n15_8 : Int) (w : World) : Prop :=
  (bif (decide (n15_8 < n14_7)) then (idxck A13_6 l13_4 n15_8 fun a9 =>
  ∃ (n18_10 : Int) (n18_11 : Int) (n18_12 : Int), cellsAt w (a9.add (Int.toNat n15_8 * 3)) 0 [.int .u64 n18_10, .int .i64 n18_11, .int .u64 n18_12] ∧ newW Try.prog (Instr.alloc 60 true (.tuple #[])) w fun g4_13 w14 =>
  stW Try.prog 60 ⟨g4_13, 0, none⟩ (.agg #[.int .u64 n18_10, .int .i64 n18_11, .int .u64 n18_12]) w14 fun w15 =>
  ∃ (n21_16 : Int), w15.cell? ⟨g4_13, 0, none⟩ = some (.int .u64 n21_16) ∧ bslW Try.prog 1 (Instr.buildSlice 35 1 #[(0, .int .u64 n21_16)]) w15 fun g22_17 w18 =>
  slW Try.prog (Builtin.append_ #[35, 35] 35 #[.slice A2_3 l2_1 c2_2, .slice (some ⟨g22_17, 0, none⟩) 1 1]) w18 fun A23_20 l23_21 c23_22 w19 =>
  SK Try.prog Try.f13 R (cfg Try.f13 4) [(2, .slice A23_20 l23_21 c23_22), (13, .slice A13_6 l13_4 c13_5), (14, .int .i64 n14_7), (15, .int .i64 (IntKind.wrap .i64 (n15_8 + 1)))] w19) else (R (.returned (.slice A2_3 l2_1 c2_2)) w))
theorem p4_eq (R : Ending → World → Prop) (A2_3 : Option Addr) (l2_1 : Nat) (c2_2 : Nat) (A13_6 : Option Addr) (l13_4 : Nat) (c13_5 : Nat) (n14_7 : Int) (n15_8 : Int) (w : World) : p4 R A2_3 l2_1 c2_2 A13_6 l13_4 c13_5 n14_7 n15_8 w = pieceF Try.prog Try.f13 R stops 3000 (cfg Try.f13 4) [(2, .slice A2_3 l2_1 c2_2), (13, .slice A13_6 l13_4 c13_5), (14, .int .i64 n14_7), (15, .int .i64 n15_8)] w := by kernel_rfl
theorem p4_ok {R : Ending → World → Prop} {A2_3 : Option Addr} {l2_1 : Nat} {c2_2 : Nat} {A13_6 : Option Addr} {l13_4 : Nat} {c13_5 : Nat} {n14_7 : Int} {n15_8 : Int} {w : World} (h : p4 R A2_3 l2_1 c2_2 A13_6 l13_4 c13_5 n14_7 n15_8 w) : SK Try.prog Try.f13 R (cfg Try.f13 4) [(2, .slice A2_3 l2_1 c2_2), (13, .slice A13_6 l13_4 c13_5), (14, .int .i64 n14_7), (15, .int .i64 n15_8)] w := piece_sound mixed (Eq.mp (p4_eq R A2_3 l2_1 c2_2 A13_6 l13_4 c13_5 n14_7 n15_8 w) h)
end F13

/-! ### 14: halyard/halyardref21.Same -/
namespace F14
def stops : Stops := [(4, [0, 1, 5])]
def main (R : Ending → World → Prop) (Ap0_1 : Option Addr) (lp0_2 : Nat) (cp0_3 : Nat) (Ap1_4 : Option Addr) (lp1_5 : Nat) (cp1_6 : Nat) (w : World) : Prop :=
  (bif (((lp0_2 : Nat) : Int) != ((lp1_5 : Nat) : Int)) then (R (.returned (.bool false)) w) else (SK Try.prog Try.f14 R (cfg Try.f14 4) [(0, .slice Ap0_1 lp0_2 cp0_3), (1, .slice Ap1_4 lp1_5 cp1_6), (5, .int .i64 0)] w))
theorem main_eq (R : Ending → World → Prop) (Ap0_1 : Option Addr) (lp0_2 : Nat) (cp0_3 : Nat) (Ap1_4 : Option Addr) (lp1_5 : Nat) (cp1_6 : Nat) (w : World) : main R Ap0_1 lp0_2 cp0_3 Ap1_4 lp1_5 cp1_6 w = mainF Try.prog Try.f14 R stops 3000 [.slice Ap0_1 lp0_2 cp0_3, .slice Ap1_4 lp1_5 cp1_6] w := by kernel_rfl
theorem calls {R : Ending → World → Prop} {Ap0_1 : Option Addr} {lp0_2 : Nat} {cp0_3 : Nat} {Ap1_4 : Option Addr} {lp1_5 : Nat} {cp1_6 : Nat} {w : World} (h : main R Ap0_1 lp0_2 cp0_3 Ap1_4 lp1_5 cp1_6 w) : Calls Try.prog 14 #[.slice Ap0_1 lp0_2 cp0_3, .slice Ap1_4 lp1_5 cp1_6] w R := main_sound Try.func14 mixed (Eq.mp (main_eq R Ap0_1 lp0_2 cp0_3 Ap1_4 lp1_5 cp1_6 w) h)
def p4 (R : Ending → World → Prop) (A0_3 : Option Addr) (l0_1 : Nat) (c0_2 : Nat) (A1_6 : Option Addr) (l1_4 : Nat) (c1_5 : Nat) (n5_7 : Int) (w : World) : Prop :=
  (bif (decide (n5_7 < ((l0_1 : Nat) : Int))) then (idxck A0_3 l0_1 n5_7 fun a8 =>
  ∃ (n20_9 : Int), (World.drew w).cell? (a8.add (Int.toNat n5_7 * 1)) = some (.int .u64 n20_9) ∧ idxck A1_6 l1_4 n5_7 fun a10 =>
  ∃ (n24_11 : Int), (World.drew w).cell? (a10.add (Int.toNat n5_7 * 1)) = some (.int .u64 n24_11) ∧ (bif (n20_9 != n24_11) then (R (.returned (.bool false)) (World.drew w)) else (SK Try.prog Try.f14 R (cfg Try.f14 4) [(0, .slice A0_3 l0_1 c0_2), (1, .slice A1_6 l1_4 c1_5), (5, .int .i64 (IntKind.wrap .i64 (n5_7 + 1)))] (World.drew w)))) else (R (.returned (.bool true)) w))
theorem p4_eq (R : Ending → World → Prop) (A0_3 : Option Addr) (l0_1 : Nat) (c0_2 : Nat) (A1_6 : Option Addr) (l1_4 : Nat) (c1_5 : Nat) (n5_7 : Int) (w : World) : p4 R A0_3 l0_1 c0_2 A1_6 l1_4 c1_5 n5_7 w = pieceF Try.prog Try.f14 R stops 3000 (cfg Try.f14 4) [(0, .slice A0_3 l0_1 c0_2), (1, .slice A1_6 l1_4 c1_5), (5, .int .i64 n5_7)] w := by kernel_rfl
theorem p4_ok {R : Ending → World → Prop} {A0_3 : Option Addr} {l0_1 : Nat} {c0_2 : Nat} {A1_6 : Option Addr} {l1_4 : Nat} {c1_5 : Nat} {n5_7 : Int} {w : World} (h : p4 R A0_3 l0_1 c0_2 A1_6 l1_4 c1_5 n5_7 w) : SK Try.prog Try.f14 R (cfg Try.f14 4) [(0, .slice A0_3 l0_1 c0_2), (1, .slice A1_6 l1_4 c1_5), (5, .int .i64 n5_7)] w := piece_sound mixed (Eq.mp (p4_eq R A0_3 l0_1 c0_2 A1_6 l1_4 c1_5 n5_7 w) h)
end F14

/-! ### 15: (*halyard/wheel.Wheel).Left -/
namespace F15
def stops : Stops := []
def main (R : Ending → World → Prop) (Ap0_1 : Option Addr) (np1_2 : Int) (w : World) : Prop :=
  (bif (Option.isNone Ap0_1) then (R (.returned (.tuple #[.int .i64 0, .bool false])) w) else (nilck Ap0_1 fun a3 =>
  ∃ (m14_4 : Option Nat), w.cell? (a3.add 320) = some (.map m14_4) ∧ ∃ (n16_5 : Int) (n16_6 : Int) (n16_7 : Int) (b16_8 : Bool), (Instr.lookup 53 (.map m14_4) (.int .u64 np1_2) true).run Try.prog w = .ok (.tuple #[.agg #[.int .u64 n16_5, .int .i64 n16_6, .int .u64 n16_7], .bool b16_8]) w ∧ newW Try.prog (Instr.alloc 60 true (.tuple #[])) w fun g6_9 w10 =>
  stW Try.prog 60 ⟨g6_9, 0, none⟩ (.agg #[.int .u64 n16_5, .int .i64 n16_6, .int .u64 n16_7]) w10 fun w11 =>
  (bif (!b16_8) then (R (.returned (.tuple #[.int .i64 0, .bool false])) w11) else (∃ (n22_12 : Int), (World.drew w11).cell? ⟨g6_9, 1, none⟩ = some (.int .i64 n22_12) ∧ nilck Ap0_1 fun a13 =>
  ∃ (n26_14 : Int), (World.drew w11).cell? (a13.add 321) = some (.int .i64 n26_14) ∧ R (.returned (.tuple #[.int .i64 (IntKind.wrap .i64 (n22_12 - n26_14)), .bool true])) (World.drew w11)))))
theorem main_eq (R : Ending → World → Prop) (Ap0_1 : Option Addr) (np1_2 : Int) (w : World) : main R Ap0_1 np1_2 w = mainF Try.prog Try.f15 R stops 3000 [.pointer Ap0_1, .int .u64 np1_2] w := by kernel_rfl
theorem calls {R : Ending → World → Prop} {Ap0_1 : Option Addr} {np1_2 : Int} {w : World} (h : main R Ap0_1 np1_2 w) : Calls Try.prog 15 #[.pointer Ap0_1, .int .u64 np1_2] w R := main_sound Try.func15 mixed (Eq.mp (main_eq R Ap0_1 np1_2 w) h)
end F15

/-! ### 16: (*halyard/wheel.Wheel).Copy -/
namespace F16
def stops : Stops := [(5, [3, 27])]
def main (R : Ending → World → Prop) (Ap0_1 : Option Addr) (w : World) : Prop :=
  (bif (Option.isNone Ap0_1) then (R (.returned (.pointer none)) w) else (nilck Ap0_1 fun a2 =>
  ∃ (m11_3 : Option Nat), (World.drew w).cell? (a2.add 320) = some (.map m11_3) ∧ nilck Ap0_1 fun a4 =>
  ∃ (n16_5 : Int), (World.drew w).cell? (a4.add 321) = some (.int .i64 n16_5) ∧ nilck Ap0_1 fun a6 =>
  ∃ (n20_7 : Int), (World.drew w).cell? (a6.add 322) = some (.int .u64 n20_7) ∧ Calls Try.prog 31 #[.map m11_3] (World.drew w) fun en w9 =>
  (∃ (m12_8 : Option Nat), en = .returned (.map m12_8) ∧ ((World.drew w).cell? (a6.add 322) = some (.int .u64 n20_7) → w9.cell? (a6.add 322) = some (.int .u64 n20_7)) ∧ ((World.drew w).cell? (a4.add 321) = some (.int .i64 n16_5) → w9.cell? (a4.add 321) = some (.int .i64 n16_5)) ∧ newW Try.prog (Instr.box 58 (.agg #[.slice none 0 0, .slice none 0 0, .slice none 0 0, .slice none 0 0, .slice none 0 0, .slice none 0 0, .slice none 0 0, .slice none 0 0, .slice none 0 0, .slice none 0 0, .slice none 0 0, .slice none 0 0, .slice none 0 0, .slice none 0 0, .slice none 0 0, .slice none 0 0, .slice none 0 0, .slice none 0 0, .slice none 0 0, .slice none 0 0, .slice none 0 0, .slice none 0 0, .slice none 0 0, .slice none 0 0, .slice none 0 0, .slice none 0 0, .slice none 0 0, .slice none 0 0, .slice none 0 0, .slice none 0 0, .slice none 0 0, .slice none 0 0, .slice none 0 0, .slice none 0 0, .slice none 0 0, .slice none 0 0, .slice none 0 0, .slice none 0 0, .slice none 0 0, .slice none 0 0, .slice none 0 0, .slice none 0 0, .slice none 0 0, .slice none 0 0, .slice none 0 0, .slice none 0 0, .slice none 0 0, .slice none 0 0, .slice none 0 0, .slice none 0 0, .slice none 0 0, .slice none 0 0, .slice none 0 0, .slice none 0 0, .slice none 0 0, .slice none 0 0, .slice none 0 0, .slice none 0 0, .slice none 0 0, .slice none 0 0, .slice none 0 0, .slice none 0 0, .slice none 0 0, .slice none 0 0, .slice none 0 0, .slice none 0 0, .slice none 0 0, .slice none 0 0, .slice none 0 0, .slice none 0 0, .slice none 0 0, .slice none 0 0, .slice none 0 0, .slice none 0 0, .slice none 0 0, .slice none 0 0, .slice none 0 0, .slice none 0 0, .slice none 0 0, .slice none 0 0, .slice none 0 0, .slice none 0 0, .slice none 0 0, .slice none 0 0, .slice none 0 0, .slice none 0 0, .slice none 0 0, .slice none 0 0, .slice none 0 0, .slice none 0 0, .slice none 0 0, .slice none 0 0, .slice none 0 0, .slice none 0 0, .slice none 0 0, .slice none 0 0, .slice none 0 0, .slice none 0 0, .slice none 0 0, .slice none 0 0, .slice none 0 0, .slice none 0 0, .slice none 0 0, .slice none 0 0, .slice none 0 0, .slice none 0 0, .slice none 0 0, .slice none 0 0, .slice none 0 0, .slice none 0 0, .slice none 0 0, .slice none 0 0, .slice none 0 0, .slice none 0 0, .slice none 0 0, .slice none 0 0, .slice none 0 0, .slice none 0 0, .slice none 0 0, .slice none 0 0, .slice none 0 0, .slice none 0 0, .slice none 0 0, .slice none 0 0, .slice none 0 0, .slice none 0 0, .slice none 0 0, .slice none 0 0, .slice none 0 0, .slice none 0 0, .slice none 0 0, .slice none 0 0, .slice none 0 0, .slice none 0 0, .slice none 0 0, .slice none 0 0, .slice none 0 0, .slice none 0 0, .slice none 0 0, .slice none 0 0, .slice none 0 0, .slice none 0 0, .slice none 0 0, .slice none 0 0, .slice none 0 0, .slice none 0 0, .slice none 0 0, .slice none 0 0, .slice none 0 0, .slice none 0 0, .slice none 0 0, .slice none 0 0, .slice none 0 0, .slice none 0 0, .slice none 0 0, .slice none 0 0, .slice none 0 0, .slice none 0 0, .slice none 0 0, .slice none 0 0, .slice none 0 0, .slice none 0 0, .slice none 0 0, .slice none 0 0, .slice none 0 0, .slice none 0 0, .slice none 0 0, .slice none 0 0, .slice none 0 0, .slice none 0 0, .slice none 0 0, .slice none 0 0, .slice none 0 0, .slice none 0 0, .slice none 0 0, .slice none 0 0, .slice none 0 0, .slice none 0 0, .slice none 0 0, .slice none 0 0, .slice none 0 0, .slice none 0 0, .slice none 0 0, .slice none 0 0, .slice none 0 0, .slice none 0 0, .slice none 0 0, .slice none 0 0, .slice none 0 0, .slice none 0 0, .slice none 0 0, .slice none 0 0, .slice none 0 0, .slice none 0 0, .slice none 0 0, .slice none 0 0, .slice none 0 0, .slice none 0 0, .slice none 0 0, .slice none 0 0, .slice none 0 0, .slice none 0 0, .slice none 0 0, .slice none 0 0, .slice none 0 0, .slice none 0 0, .slice none 0 0, .slice none 0 0, .slice none 0 0, .slice none 0 0, .slice none 0 0, .slice none 0 0, .slice none 0 0, .slice none 0 0, .slice none 0 0, .slice none 0 0, .slice none 0 0, .slice none 0 0, .slice none 0 0, .slice none 0 0, .slice none 0 0, .slice none 0 0, .slice none 0 0, .slice none 0 0, .slice none 0 0, .slice none 0 0, .slice none 0 0, .slice none 0 0, .slice none 0 0, .slice none 0 0, .slice none 0 0, .slice none 0 0, .slice none 0 0, .slice none 0 0, .slice none 0 0, .slice none 0 0, .slice none 0 0, .slice none 0 0, .slice none 0 0, .slice none 0 0, .slice none 0 0, .slice none 0 0, .slice none 0 0, .slice none 0 0, .slice none 0 0, .slice none 0 0, .slice none 0 0, .slice none 0 0, .slice none 0 0, .slice none 0 0, .slice none 0 0, .slice none 0 0, .slice none 0 0, .slice none 0 0, .slice none 0 0, .slice none 0 0, .slice none 0 0, .slice none 0 0, .slice none 0 0, .slice none 0 0, .slice none 0 0, .slice none 0 0, .slice none 0 0, .slice none 0 0, .slice none 0 0, .slice none 0 0, .slice none 0 0, .slice none 0 0, .slice none 0 0, .slice none 0 0, .slice none 0 0, .slice none 0 0, .slice none 0 0, .slice none 0 0, .slice none 0 0, .slice none 0 0, .slice none 0 0, .slice none 0 0, .slice none 0 0, .slice none 0 0, .slice none 0 0, .slice none 0 0, .slice none 0 0, .slice none 0 0, .slice none 0 0, .slice none 0 0, .slice none 0 0, .slice none 0 0, .slice none 0 0, .slice none 0 0, .slice none 0 0, .slice none 0 0, .slice none 0 0, .slice none 0 0, .slice none 0 0, .slice none 0 0, .slice none 0 0, .slice none 0 0, .slice none 0 0, .slice none 0 0, .slice none 0 0, .slice none 0 0, .slice none 0 0, .slice none 0 0, .slice none 0 0, .slice none 0 0, .slice none 0 0, .slice none 0 0, .slice none 0 0, .slice none 0 0, .slice none 0 0, .slice none 0 0, .slice none 0 0, .slice none 0 0, .slice none 0 0, .slice none 0 0, .slice none 0 0, .slice none 0 0, .slice none 0 0, .slice none 0 0, .map m12_8, .int .i64 n16_5, .int .u64 n20_7])) w9 fun g22_11 w12 =>
  ∃ (m26_13 : Option Nat), w12.cell? ⟨g22_11, 320, none⟩ = some (.map m26_13) ∧ newW Try.prog (Instr.range 53 (.map m26_13)) w12 fun g27_14 w15 =>
  SK Try.prog Try.f16 R (cfg Try.f16 5) [(3, .pointer (some ⟨g22_11, 0, none⟩)), (27, .pointer (some ⟨g27_14, 0, none⟩))] w15)
  ∨ ∃ ch10, en = .panicked ch10 ∧ R (.panicked ch10) w9))
theorem main_eq (R : Ending → World → Prop) (Ap0_1 : Option Addr) (w : World) : main R Ap0_1 w = mainF Try.prog Try.f16 R stops 3000 [.pointer Ap0_1] w := by kernel_rfl
theorem calls {R : Ending → World → Prop} {Ap0_1 : Option Addr} {w : World} (h : main R Ap0_1 w) : Calls Try.prog 16 #[.pointer Ap0_1] w R := main_sound Try.func16 mixed (Eq.mp (main_eq R Ap0_1 w) h)
def p5 (R : Ending → World → Prop) (g3_1 : Nat) (g27_2 : Nat) (w : World) : Prop :=
  (∃ w3 : World, (Instr.next (.pointer (some ⟨g27_2, 0, none⟩)) false 0).run Try.prog w = .ok (.tuple #[.bool false]) w3 ∧ R (.returned (.pointer (some ⟨g3_1, 0, none⟩))) w3)
  ∨ (∃ (v28_5 : Value) (v28_6 : Value) (w4 : World), (Instr.next (.pointer (some ⟨g27_2, 0, none⟩)) false 0).run Try.prog w = .ok (.tuple #[.bool true, v28_5, v28_6]) w4 ∧ ∃ (v30_7 : Value) (n30_8 : Int) (n30_9 : Int) (n30_10 : Int), (Instr.entry (.pointer (some ⟨g27_2, 0, none⟩))).run Try.prog w4 = .ok (.tuple #[v30_7, .agg #[.int .u64 n30_8, .int .i64 n30_9, .int .u64 n30_10]]) w4 ∧ newW Try.prog (Instr.alloc 60 true (.tuple #[])) w4 fun g5_11 w12 =>
  stW Try.prog 60 ⟨g5_11, 0, none⟩ (.agg #[.int .u64 n30_8, .int .i64 n30_9, .int .u64 n30_10]) w12 fun w13 =>
  ∃ (n33_14 : Int) (n33_15 : Int) (n33_16 : Int), cellsAt w13 ⟨g5_11, 0, none⟩ 0 [.int .u64 n33_14, .int .i64 n33_15, .int .u64 n33_16] ∧ Calls Try.prog 23 #[.pointer (some ⟨g3_1, 0, none⟩), .agg #[.int .u64 n33_14, .int .i64 n33_15, .int .u64 n33_16]] w13 fun en w17 =>
  (en = .returned (.tuple #[]) ∧ SK Try.prog Try.f16 R (cfg Try.f16 5) [(3, .pointer (some ⟨g3_1, 0, none⟩)), (27, .pointer (some ⟨g27_2, 0, none⟩))] w17)
  ∨ ∃ ch18, en = .panicked ch18 ∧ R (.panicked ch18) w17)
theorem p5_eq (R : Ending → World → Prop) (g3_1 : Nat) (g27_2 : Nat) (w : World) : p5 R g3_1 g27_2 w = pieceF Try.prog Try.f16 R stops 3000 (cfg Try.f16 5) [(3, .pointer (some ⟨g3_1, 0, none⟩)), (27, .pointer (some ⟨g27_2, 0, none⟩))] w := by kernel_rfl
theorem p5_ok {R : Ending → World → Prop} {g3_1 : Nat} {g27_2 : Nat} {w : World} (h : p5 R g3_1 g27_2 w) : SK Try.prog Try.f16 R (cfg Try.f16 5) [(3, .pointer (some ⟨g3_1, 0, none⟩)), (27, .pointer (some ⟨g27_2, 0, none⟩))] w := piece_sound mixed (Eq.mp (p5_eq R g3_1 g27_2 w) h)
end F16

/-! ### 17: (*halyard/halyardref21.Wheel).Set -/
namespace F17
def stops : Stops := [(3, [0, 1, 2]), (8, [0, 7, 8, 9])]
def main (R : Ending → World → Prop) (Ap0_1 : Option Addr) (np1_2 : Int) (np2_3 : Int) (w : World) : Prop :=
  (bif (decide (np2_3 < 1)) then (R (.returned (.int .i64 2)) w) else ((bif (decide (np2_3 > 16777216)) then (R (.returned (.int .i64 2)) w) else (SK Try.prog Try.f17 R (cfg Try.f17 3) [(0, .pointer Ap0_1), (1, .int .u64 np1_2), (2, .int .i64 np2_3)] w))))
theorem main_eq (R : Ending → World → Prop) (Ap0_1 : Option Addr) (np1_2 : Int) (np2_3 : Int) (w : World) : main R Ap0_1 np1_2 np2_3 w = mainF Try.prog Try.f17 R stops 3000 [.pointer Ap0_1, .int .u64 np1_2, .int .i64 np2_3] w := by kernel_rfl
theorem calls {R : Ending → World → Prop} {Ap0_1 : Option Addr} {np1_2 : Int} {np2_3 : Int} {w : World} (h : main R Ap0_1 np1_2 np2_3 w) : Calls Try.prog 17 #[.pointer Ap0_1, .int .u64 np1_2, .int .i64 np2_3] w R := main_sound Try.func17 mixed (Eq.mp (main_eq R Ap0_1 np1_2 np2_3 w) h)
def p3 (R : Ending → World → Prop) (A0_1 : Option Addr) (n1_2 : Int) (n2_3 : Int) (w : World) : Prop :=
  nilck A0_1 fun a4 =>
  ∃ (A20_5 : Option Addr) (l20_6 : Nat) (c20_7 : Nat), w.cell? (a4.add 1) = some (.slice A20_5 l20_6 c20_7) ∧ Calls Try.prog 32 #[.slice A20_5 l20_6 c20_7, .int .u64 n1_2] w fun en w11 =>
  (∃ (A22_8 : Option Addr) (l22_9 : Nat) (c22_10 : Nat), en = .returned (.slice A22_8 l22_9 c22_10) ∧ nilck A0_1 fun a13 =>
  ∃ (A28_14 : Option Addr) (l28_15 : Nat) (c28_16 : Nat), w11.cell? (a13.add 1) = some (.slice A28_14 l28_15 c28_16) ∧ (bif (((l22_9 : Nat) : Int) == ((l28_15 : Nat) : Int)) then ((bif (decide (((l22_9 : Nat) : Int) ≥ 4096)) then (R (.returned (.int .i64 4)) w11) else (nilck A0_1 fun a17 =>
  ∃ (n40_18 : Int), w11.cell? a17 = some (.int .i64 n40_18) ∧ newW Try.prog (Instr.alloc 74 true (.tuple #[])) w11 fun g8_19 w20 =>
  stW Try.prog 74 ⟨g8_19, 0, none⟩ (.agg #[.int .u64 n1_2, .int .i64 (IntKind.wrap .i64 (n40_18 + n2_3))]) w20 fun w21 =>
  SK Try.prog Try.f17 R (cfg Try.f17 8) [(0, .pointer A0_1), (7, .slice A22_8 l22_9 c22_10), (8, .pointer (some ⟨g8_19, 0, none⟩)), (9, .int .i64 0)] w21))) else (nilck A0_1 fun a22 =>
  ∃ (n40_23 : Int), w11.cell? a22 = some (.int .i64 n40_23) ∧ newW Try.prog (Instr.alloc 74 true (.tuple #[])) w11 fun g8_24 w25 =>
  stW Try.prog 74 ⟨g8_24, 0, none⟩ (.agg #[.int .u64 n1_2, .int .i64 (IntKind.wrap .i64 (n40_23 + n2_3))]) w25 fun w26 =>
  SK Try.prog Try.f17 R (cfg Try.f17 8) [(0, .pointer A0_1), (7, .slice A22_8 l22_9 c22_10), (8, .pointer (some ⟨g8_24, 0, none⟩)), (9, .int .i64 0)] w26)))
  ∨ ∃ ch12, en = .panicked ch12 ∧ R (.panicked ch12) w11
theorem p3_eq (R : Ending → World → Prop) (A0_1 : Option Addr) (n1_2 : Int) (n2_3 : Int) (w : World) : p3 R A0_1 n1_2 n2_3 w = pieceF Try.prog Try.f17 R stops 3000 (cfg Try.f17 3) [(0, .pointer A0_1), (1, .int .u64 n1_2), (2, .int .i64 n2_3)] w := by kernel_rfl
theorem p3_ok {R : Ending → World → Prop} {A0_1 : Option Addr} {n1_2 : Int} {n2_3 : Int} {w : World} (h : p3 R A0_1 n1_2 n2_3 w) : SK Try.prog Try.f17 R (cfg Try.f17 3) [(0, .pointer A0_1), (1, .int .u64 n1_2), (2, .int .i64 n2_3)] w := piece_sound mixed (Eq.mp (p3_eq R A0_1 n1_2 n2_3 w) h)
def p8 (R : Ending → World → Prop) (A0_1 : Option Addr) (A7_4 : Option Addr) (l7_2 : Nat) (c7_3 : Nat) (g8_5 : Nat) (n9_6 : Int) (w : World) : Prop :=
  (bif (decide (n9_6 < ((l7_2 : Nat) : Int))) then (idxck A7_4 l7_2 n9_6 fun a7 =>
  ∃ (n53_8 : Int), (World.drew w).cell? ((a7.add (Int.toNat n9_6 * 2)).add 1) = some (.int .i64 n53_8) ∧ ∃ (n55_9 : Int), (World.drew w).cell? ⟨g8_5, 1, none⟩ = some (.int .i64 n55_9) ∧ (bif (decide (n53_8 ≤ n55_9)) then (SK Try.prog Try.f17 R (cfg Try.f17 8) [(0, .pointer A0_1), (7, .slice A7_4 l7_2 c7_3), (8, .pointer (some ⟨g8_5, 0, none⟩)), (9, .int .i64 (IntKind.wrap .i64 (n9_6 + 1)))] (World.drew w)) else (sbck (0 : Int) n9_6 c7_3 true ∧ slW Try.prog (Builtin.append_ #[49, 49] 49 #[.slice none 0 0, .slice (slcA A7_4 c7_3 (Int.toNat (0 : Int)) 2) (Int.toNat n9_6 - Int.toNat (0 : Int)) (c7_3 - Int.toNat (0 : Int))]) (World.drew w) fun A63_11 l63_12 c63_13 w10 =>
  ∃ (n65_14 : Int) (n65_15 : Int), cellsAt w10 ⟨g8_5, 0, none⟩ 0 [.int .u64 n65_14, .int .i64 n65_15] ∧ bslW Try.prog 1 (Instr.buildSlice 49 1 #[(0, .agg #[.int .u64 n65_14, .int .i64 n65_15])]) w10 fun g66_16 w17 =>
  slW Try.prog (Builtin.append_ #[49, 49] 49 #[.slice A63_11 l63_12 c63_13, .slice (some ⟨g66_16, 0, none⟩) 1 1]) w17 fun A67_19 l67_20 c67_21 w18 =>
  sbck n9_6 ((l7_2 : Nat) : Int) c7_3 false ∧ slW Try.prog (Builtin.append_ #[49, 49] 49 #[.slice A67_19 l67_20 c67_21, .slice (slcA A7_4 c7_3 (Int.toNat n9_6) 2) (Int.toNat ((l7_2 : Nat) : Int) - Int.toNat n9_6) (c7_3 - Int.toNat n9_6)]) w18 fun A73_23 l73_24 c73_25 w22 =>
  nilck A0_1 fun a26 =>
  stW Try.prog 49 (a26.add 1) (.slice A73_23 l73_24 c73_25) w22 fun w27 =>
  R (.returned (.int .i64 0)) w27))) else (sbck (0 : Int) n9_6 c7_3 true ∧ slW Try.prog (Builtin.append_ #[49, 49] 49 #[.slice none 0 0, .slice (slcA A7_4 c7_3 (Int.toNat (0 : Int)) 2) (Int.toNat n9_6 - Int.toNat (0 : Int)) (c7_3 - Int.toNat (0 : Int))]) (World.drew w) fun A63_29 l63_30 c63_31 w28 =>
  ∃ (n65_32 : Int) (n65_33 : Int), cellsAt w28 ⟨g8_5, 0, none⟩ 0 [.int .u64 n65_32, .int .i64 n65_33] ∧ bslW Try.prog 1 (Instr.buildSlice 49 1 #[(0, .agg #[.int .u64 n65_32, .int .i64 n65_33])]) w28 fun g66_34 w35 =>
  slW Try.prog (Builtin.append_ #[49, 49] 49 #[.slice A63_29 l63_30 c63_31, .slice (some ⟨g66_34, 0, none⟩) 1 1]) w35 fun A67_37 l67_38 c67_39 w36 =>
  sbck n9_6 ((l7_2 : Nat) : Int) c7_3 false ∧ slW Try.prog (Builtin.append_ #[49, 49] 49 #[.slice A67_37 l67_38 c67_39, .slice (slcA A7_4 c7_3 (Int.toNat n9_6) 2) (Int.toNat ((l7_2 : Nat) : Int) - Int.toNat n9_6) (c7_3 - Int.toNat n9_6)]) w36 fun A73_41 l73_42 c73_43 w40 =>
  nilck A0_1 fun a44 =>
  stW Try.prog 49 (a44.add 1) (.slice A73_41 l73_42 c73_43) w40 fun w45 =>
  R (.returned (.int .i64 0)) w45))
theorem p8_eq (R : Ending → World → Prop) (A0_1 : Option Addr) (A7_4 : Option Addr) (l7_2 : Nat) (c7_3 : Nat) (g8_5 : Nat) (n9_6 : Int) (w : World) : p8 R A0_1 A7_4 l7_2 c7_3 g8_5 n9_6 w = pieceF Try.prog Try.f17 R stops 3000 (cfg Try.f17 8) [(0, .pointer A0_1), (7, .slice A7_4 l7_2 c7_3), (8, .pointer (some ⟨g8_5, 0, none⟩)), (9, .int .i64 n9_6)] w := by kernel_rfl
theorem p8_ok {R : Ending → World → Prop} {A0_1 : Option Addr} {A7_4 : Option Addr} {l7_2 : Nat} {c7_3 : Nat} {g8_5 : Nat} {n9_6 : Int} {w : World} (h : p8 R A0_1 A7_4 l7_2 c7_3 g8_5 n9_6 w) : SK Try.prog Try.f17 R (cfg Try.f17 8) [(0, .pointer A0_1), (7, .slice A7_4 l7_2 c7_3), (8, .pointer (some ⟨g8_5, 0, none⟩)), (9, .int .i64 n9_6)] w := piece_sound mixed (Eq.mp (p8_eq R A0_1 A7_4 l7_2 c7_3 g8_5 n9_6 w) h)
end F17

/-! ### 18: (*halyard/halyardref21.Wheel).Clear -/
namespace F18
def stops : Stops := []
def main (R : Ending → World → Prop) (Ap0_1 : Option Addr) (np1_2 : Int) (w : World) : Prop :=
  nilck Ap0_1 fun a3 =>
  ∃ (A9_4 : Option Addr) (l9_5 : Nat) (c9_6 : Nat), w.cell? (a3.add 1) = some (.slice A9_4 l9_5 c9_6) ∧ Calls Try.prog 32 #[.slice A9_4 l9_5 c9_6, .int .u64 np1_2] w fun en w10 =>
  (∃ (A11_7 : Option Addr) (l11_8 : Nat) (c11_9 : Nat), en = .returned (.slice A11_7 l11_8 c11_9) ∧ nilck Ap0_1 fun a12 =>
  ∃ (A17_13 : Option Addr) (l17_14 : Nat) (c17_15 : Nat), w10.cell? (a12.add 1) = some (.slice A17_13 l17_14 c17_15) ∧ (bif (((l11_8 : Nat) : Int) == ((l17_14 : Nat) : Int)) then (R (.returned (.int .i64 3)) w10) else (nilck Ap0_1 fun a16 =>
  stW Try.prog 49 (a16.add 1) (.slice A11_7 l11_8 c11_9) w10 fun w17 =>
  R (.returned (.int .i64 0)) w17)))
  ∨ ∃ ch11, en = .panicked ch11 ∧ R (.panicked ch11) w10
theorem main_eq (R : Ending → World → Prop) (Ap0_1 : Option Addr) (np1_2 : Int) (w : World) : main R Ap0_1 np1_2 w = mainF Try.prog Try.f18 R stops 3000 [.pointer Ap0_1, .int .u64 np1_2] w := by kernel_rfl
theorem calls {R : Ending → World → Prop} {Ap0_1 : Option Addr} {np1_2 : Int} {w : World} (h : main R Ap0_1 np1_2 w) : Calls Try.prog 18 #[.pointer Ap0_1, .int .u64 np1_2] w R := main_sound Try.func18 mixed (Eq.mp (main_eq R Ap0_1 np1_2 w) h)
end F18

/-! ### 19: (*halyard/halyardref21.Wheel).Tick -/
namespace F19
def stops : Stops := [(6, [0, 6, 7]), (7, [0, 6, 7]), (9, [0, 6, 7])]
def main (R : Ending → World → Prop) (Ap0_1 : Option Addr) (np1_2 : Int) (w : World) : Prop :=
  (bif (decide (np1_2 < 0)) then (R (.returned (.tuple #[.slice none 0 0, .int .i64 2])) w) else ((bif (decide (np1_2 > 16777216)) then (R (.returned (.tuple #[.slice none 0 0, .int .i64 2])) w) else (nilck Ap0_1 fun a3 =>
  ∃ (n18_4 : Int), w.cell? a3 = some (.int .i64 n18_4) ∧ (bif (decide (n18_4 > (IntKind.wrap .i64 (1152921504606846976 - np1_2)))) then (R (.returned (.tuple #[.slice none 0 0, .int .i64 2])) w) else (nilck Ap0_1 fun a5 =>
  ∃ (n27_6 : Int), w.cell? a5 = some (.int .i64 n27_6) ∧ nilck Ap0_1 fun a7 =>
  stW Try.prog 2 a7 (.int .i64 (IntKind.wrap .i64 (n27_6 + np1_2))) w fun w8 =>
  SK Try.prog Try.f19 R (cfg Try.f19 6) [(0, .pointer Ap0_1), (6, .slice none 0 0), (7, .int .i64 0)] w8))))))
theorem main_eq (R : Ending → World → Prop) (Ap0_1 : Option Addr) (np1_2 : Int) (w : World) : main R Ap0_1 np1_2 w = mainF Try.prog Try.f19 R stops 3000 [.pointer Ap0_1, .int .i64 np1_2] w := by kernel_rfl
theorem calls {R : Ending → World → Prop} {Ap0_1 : Option Addr} {np1_2 : Int} {w : World} (h : main R Ap0_1 np1_2 w) : Calls Try.prog 19 #[.pointer Ap0_1, .int .i64 np1_2] w R := main_sound Try.func19 mixed (Eq.mp (main_eq R Ap0_1 np1_2 w) h)
def p6 (R : Ending → World → Prop) (A0_1 : Option Addr) (A6_4 : Option Addr) (l6_2 : Nat) (c6_3 : Nat) (n7_5 : Int) (w : World) : Prop :=
  nilck A0_1 fun a6 =>
  ∃ (A36_7 : Option Addr) (l36_8 : Nat) (c36_9 : Nat), (World.drew w).cell? (a6.add 1) = some (.slice A36_7 l36_8 c36_9) ∧ (bif (decide (n7_5 < ((l36_8 : Nat) : Int))) then (nilck A0_1 fun a10 =>
  ∃ (A43_11 : Option Addr) (l43_12 : Nat) (c43_13 : Nat), (World.drew w).cell? (a10.add 1) = some (.slice A43_11 l43_12 c43_13) ∧ idxck A43_11 l43_12 n7_5 fun a14 =>
  ∃ (n47_15 : Int), (World.drew w).cell? ((a14.add (Int.toNat n7_5 * 2)).add 1) = some (.int .i64 n47_15) ∧ nilck A0_1 fun a16 =>
  ∃ (n51_17 : Int), (World.drew w).cell? a16 = some (.int .i64 n51_17) ∧ (bif (decide (n47_15 ≤ n51_17)) then (SK Try.prog Try.f19 R (cfg Try.f19 7) [(0, .pointer A0_1), (6, .slice A6_4 l6_2 c6_3), (7, .int .i64 n7_5)] (World.drew w)) else (SK Try.prog Try.f19 R (cfg Try.f19 9) [(0, .pointer A0_1), (6, .slice A6_4 l6_2 c6_3), (7, .int .i64 n7_5)] (World.drew w)))) else (SK Try.prog Try.f19 R (cfg Try.f19 9) [(0, .pointer A0_1), (6, .slice A6_4 l6_2 c6_3), (7, .int .i64 n7_5)] (World.drew w)))
theorem p6_eq (R : Ending → World → Prop) (A0_1 : Option Addr) (A6_4 : Option Addr) (l6_2 : Nat) (c6_3 : Nat) (n7_5 : Int) (w : World) : p6 R A0_1 A6_4 l6_2 c6_3 n7_5 w = pieceF Try.prog Try.f19 R stops 3000 (cfg Try.f19 6) [(0, .pointer A0_1), (6, .slice A6_4 l6_2 c6_3), (7, .int .i64 n7_5)] w := by kernel_rfl
theorem p6_ok {R : Ending → World → Prop} {A0_1 : Option Addr} {A6_4 : Option Addr} {l6_2 : Nat} {c6_3 : Nat} {n7_5 : Int} {w : World} (h : p6 R A0_1 A6_4 l6_2 c6_3 n7_5 w) : SK Try.prog Try.f19 R (cfg Try.f19 6) [(0, .pointer A0_1), (6, .slice A6_4 l6_2 c6_3), (7, .int .i64 n7_5)] w := piece_sound mixed (Eq.mp (p6_eq R A0_1 A6_4 l6_2 c6_3 n7_5 w) h)
def p7 (R : Ending → World → Prop) (A0_1 : Option Addr) (A6_4 : Option Addr) (l6_2 : Nat) (c6_3 : Nat) (n7_5 : Int) (w : World) : Prop :=
  nilck A0_1 fun a6 =>
  ∃ (A58_7 : Option Addr) (l58_8 : Nat) (c58_9 : Nat), w.cell? (a6.add 1) = some (.slice A58_7 l58_8 c58_9) ∧ idxck A58_7 l58_8 n7_5 fun a10 =>
  ∃ (n62_11 : Int), w.cell? (a10.add (Int.toNat n7_5 * 2)) = some (.int .u64 n62_11) ∧ bslW Try.prog 1 (Instr.buildSlice 35 1 #[(0, .int .u64 n62_11)]) w fun g63_12 w13 =>
  slW Try.prog (Builtin.append_ #[35, 35] 35 #[.slice A6_4 l6_2 c6_3, .slice (some ⟨g63_12, 0, none⟩) 1 1]) w13 fun A64_15 l64_16 c64_17 w14 =>
  SK Try.prog Try.f19 R (cfg Try.f19 6) [(0, .pointer A0_1), (6, .slice A64_15 l64_16 c64_17), (7, .int .i64 (IntKind.wrap .i64 (n7_5 + 1)))] w14
theorem p7_eq (R : Ending → World → Prop) (A0_1 : Option Addr) (A6_4 : Option Addr) (l6_2 : Nat) (c6_3 : Nat) (n7_5 : Int) (w : World) : p7 R A0_1 A6_4 l6_2 c6_3 n7_5 w = pieceF Try.prog Try.f19 R stops 3000 (cfg Try.f19 7) [(0, .pointer A0_1), (6, .slice A6_4 l6_2 c6_3), (7, .int .i64 n7_5)] w := by kernel_rfl
theorem p7_ok {R : Ending → World → Prop} {A0_1 : Option Addr} {A6_4 : Option Addr} {l6_2 : Nat} {c6_3 : Nat} {n7_5 : Int} {w : World} (h : p7 R A0_1 A6_4 l6_2 c6_3 n7_5 w) : SK Try.prog Try.f19 R (cfg Try.f19 7) [(0, .pointer A0_1), (6, .slice A6_4 l6_2 c6_3), (7, .int .i64 n7_5)] w := piece_sound mixed (Eq.mp (p7_eq R A0_1 A6_4 l6_2 c6_3 n7_5 w) h)
def p9 (R : Ending → World → Prop) (A0_1 : Option Addr) (A6_4 : Option Addr) (l6_2 : Nat) (c6_3 : Nat) (n7_5 : Int) (w : World) : Prop :=
  nilck A0_1 fun a6 =>
  ∃ (A71_7 : Option Addr) (l71_8 : Nat) (c71_9 : Nat), w.cell? (a6.add 1) = some (.slice A71_7 l71_8 c71_9) ∧ sbck n7_5 ((l71_8 : Nat) : Int) c71_9 false ∧ slW Try.prog (Builtin.append_ #[49, 49] 49 #[.slice none 0 0, .slice (slcA A71_7 c71_9 (Int.toNat n7_5) 2) (Int.toNat ((l71_8 : Nat) : Int) - Int.toNat n7_5) (c71_9 - Int.toNat n7_5)]) w fun A74_11 l74_12 c74_13 w10 =>
  nilck A0_1 fun a14 =>
  stW Try.prog 49 (a14.add 1) (.slice A74_11 l74_12 c74_13) w10 fun w15 =>
  R (.returned (.tuple #[.slice A6_4 l6_2 c6_3, .int .i64 0])) w15
theorem p9_eq (R : Ending → World → Prop) (A0_1 : Option Addr) (A6_4 : Option Addr) (l6_2 : Nat) (c6_3 : Nat) (n7_5 : Int) (w : World) : p9 R A0_1 A6_4 l6_2 c6_3 n7_5 w = pieceF Try.prog Try.f19 R stops 3000 (cfg Try.f19 9) [(0, .pointer A0_1), (6, .slice A6_4 l6_2 c6_3), (7, .int .i64 n7_5)] w := by kernel_rfl
theorem p9_ok {R : Ending → World → Prop} {A0_1 : Option Addr} {A6_4 : Option Addr} {l6_2 : Nat} {c6_3 : Nat} {n7_5 : Int} {w : World} (h : p9 R A0_1 A6_4 l6_2 c6_3 n7_5 w) : SK Try.prog Try.f19 R (cfg Try.f19 9) [(0, .pointer A0_1), (6, .slice A6_4 l6_2 c6_3), (7, .int .i64 n7_5)] w := piece_sound mixed (Eq.mp (p9_eq R A0_1 A6_4 l6_2 c6_3 n7_5 w) h)
end F19

/-! ### 20: (*halyard/halyardref21.Wheel).Left -/
namespace F20
def stops : Stops := [(2, [0, 1, 6])]
def main (R : Ending → World → Prop) (Ap0_1 : Option Addr) (np1_2 : Int) (w : World) : Prop :=
  SK Try.prog Try.f20 R (cfg Try.f20 2) [(0, .pointer Ap0_1), (1, .int .u64 np1_2), (6, .int .i64 0)] w
theorem main_eq (R : Ending → World → Prop) (Ap0_1 : Option Addr) (np1_2 : Int) (w : World) : main R Ap0_1 np1_2 w = mainF Try.prog Try.f20 R stops 3000 [.pointer Ap0_1, .int .u64 np1_2] w := by kernel_rfl
theorem calls {R : Ending → World → Prop} {Ap0_1 : Option Addr} {np1_2 : Int} {w : World} (h : main R Ap0_1 np1_2 w) : Calls Try.prog 20 #[.pointer Ap0_1, .int .u64 np1_2] w R := main_sound Try.func20 mixed (Eq.mp (main_eq R Ap0_1 np1_2 w) h)
def p2 (R : Ending → World → Prop) (A0_1 : Option Addr) (n1_2 : Int) (n6_3 : Int) (w : World) : Prop :=
  nilck A0_1 fun a4 =>
  ∃ (A11_5 : Option Addr) (l11_6 : Nat) (c11_7 : Nat), w.cell? (a4.add 1) = some (.slice A11_5 l11_6 c11_7) ∧ (bif (decide (n6_3 < ((l11_6 : Nat) : Int))) then (nilck A0_1 fun a8 =>
  ∃ (A19_9 : Option Addr) (l19_10 : Nat) (c19_11 : Nat), w.cell? (a8.add 1) = some (.slice A19_9 l19_10 c19_11) ∧ idxck A19_9 l19_10 n6_3 fun a12 =>
  ∃ (n23_13 : Int), w.cell? (a12.add (Int.toNat n6_3 * 2)) = some (.int .u64 n23_13) ∧ (bif (n23_13 == n1_2) then (nilck A0_1 fun a14 =>
  ∃ (A29_15 : Option Addr) (l29_16 : Nat) (c29_17 : Nat), (World.drew w).cell? (a14.add 1) = some (.slice A29_15 l29_16 c29_17) ∧ idxck A29_15 l29_16 n6_3 fun a18 =>
  ∃ (n33_19 : Int), (World.drew w).cell? ((a18.add (Int.toNat n6_3 * 2)).add 1) = some (.int .i64 n33_19) ∧ nilck A0_1 fun a20 =>
  ∃ (n37_21 : Int), (World.drew w).cell? a20 = some (.int .i64 n37_21) ∧ R (.returned (.tuple #[.int .i64 (IntKind.wrap .i64 (n33_19 - n37_21)), .bool true])) (World.drew w)) else (SK Try.prog Try.f20 R (cfg Try.f20 2) [(0, .pointer A0_1), (1, .int .u64 n1_2), (6, .int .i64 (IntKind.wrap .i64 (n6_3 + 1)))] w))) else (R (.returned (.tuple #[.int .i64 0, .bool false])) w))
theorem p2_eq (R : Ending → World → Prop) (A0_1 : Option Addr) (n1_2 : Int) (n6_3 : Int) (w : World) : p2 R A0_1 n1_2 n6_3 w = pieceF Try.prog Try.f20 R stops 3000 (cfg Try.f20 2) [(0, .pointer A0_1), (1, .int .u64 n1_2), (6, .int .i64 n6_3)] w := by kernel_rfl
theorem p2_ok {R : Ending → World → Prop} {A0_1 : Option Addr} {n1_2 : Int} {n6_3 : Int} {w : World} (h : p2 R A0_1 n1_2 n6_3 w) : SK Try.prog Try.f20 R (cfg Try.f20 2) [(0, .pointer A0_1), (1, .int .u64 n1_2), (6, .int .i64 n6_3)] w := piece_sound mixed (Eq.mp (p2_eq R A0_1 n1_2 n6_3 w) h)
end F20

/-! ### 21: (*halyard/halyardref21.Wheel).Next -/
namespace F21
def stops : Stops := []
def main (R : Ending → World → Prop) (Ap0_1 : Option Addr) (w : World) : Prop :=
  nilck Ap0_1 fun a2 =>
  ∃ (A7_3 : Option Addr) (l7_4 : Nat) (c7_5 : Nat), w.cell? (a2.add 1) = some (.slice A7_3 l7_4 c7_5) ∧ (bif (((l7_4 : Nat) : Int) == 0) then (R (.returned (.tuple #[.int .i64 0, .bool false])) w) else (nilck Ap0_1 fun a6 =>
  ∃ (A13_7 : Option Addr) (l13_8 : Nat) (c13_9 : Nat), (World.drew w).cell? (a6.add 1) = some (.slice A13_7 l13_8 c13_9) ∧ idxck A13_7 l13_8 0 fun a10 =>
  ∃ (n16_11 : Int), (World.drew w).cell? ((a10.add (Int.toNat 0 * 2)).add 1) = some (.int .i64 n16_11) ∧ nilck Ap0_1 fun a12 =>
  ∃ (n20_13 : Int), (World.drew w).cell? a12 = some (.int .i64 n20_13) ∧ R (.returned (.tuple #[.int .i64 (IntKind.wrap .i64 (n16_11 - n20_13)), .bool true])) (World.drew w)))
theorem main_eq (R : Ending → World → Prop) (Ap0_1 : Option Addr) (w : World) : main R Ap0_1 w = mainF Try.prog Try.f21 R stops 3000 [.pointer Ap0_1] w := by kernel_rfl
theorem calls {R : Ending → World → Prop} {Ap0_1 : Option Addr} {w : World} (h : main R Ap0_1 w) : Calls Try.prog 21 #[.pointer Ap0_1] w R := main_sound Try.func21 mixed (Eq.mp (main_eq R Ap0_1 w) h)
end F21

/-! ### 22: (*halyard/halyardref21.Wheel).Keys -/
namespace F22
def stops : Stops := [(3, [0, 3, 4])]
def main (R : Ending → World → Prop) (Ap0_1 : Option Addr) (w : World) : Prop :=
  SK Try.prog Try.f22 R (cfg Try.f22 3) [(0, .pointer Ap0_1), (3, .slice none 0 0), (4, .int .i64 0)] w
theorem main_eq (R : Ending → World → Prop) (Ap0_1 : Option Addr) (w : World) : main R Ap0_1 w = mainF Try.prog Try.f22 R stops 3000 [.pointer Ap0_1] w := by kernel_rfl
theorem calls {R : Ending → World → Prop} {Ap0_1 : Option Addr} {w : World} (h : main R Ap0_1 w) : Calls Try.prog 22 #[.pointer Ap0_1] w R := main_sound Try.func22 mixed (Eq.mp (main_eq R Ap0_1 w) h)
def p3 (R : Ending → World → Prop) (A0_1 : Option Addr) (A3_4 : Option Addr) (l3_2 : Nat) (c3_3 : Nat) (n4_5 : Int) (w : World) : Prop :=
  nilck A0_1 fun a6 =>
  ∃ (A9_7 : Option Addr) (l9_8 : Nat) (c9_9 : Nat), w.cell? (a6.add 1) = some (.slice A9_7 l9_8 c9_9) ∧ (bif (decide (n4_5 < ((l9_8 : Nat) : Int))) then (nilck A0_1 fun a10 =>
  ∃ (A18_11 : Option Addr) (l18_12 : Nat) (c18_13 : Nat), w.cell? (a10.add 1) = some (.slice A18_11 l18_12 c18_13) ∧ idxck A18_11 l18_12 n4_5 fun a14 =>
  ∃ (n22_15 : Int), w.cell? (a14.add (Int.toNat n4_5 * 2)) = some (.int .u64 n22_15) ∧ bslW Try.prog 1 (Instr.buildSlice 35 1 #[(0, .int .u64 n22_15)]) w fun g23_16 w17 =>
  slW Try.prog (Builtin.append_ #[35, 35] 35 #[.slice A3_4 l3_2 c3_3, .slice (some ⟨g23_16, 0, none⟩) 1 1]) w17 fun A24_19 l24_20 c24_21 w18 =>
  SK Try.prog Try.f22 R (cfg Try.f22 3) [(0, .pointer A0_1), (3, .slice A24_19 l24_20 c24_21), (4, .int .i64 (IntKind.wrap .i64 (n4_5 + 1)))] w18) else (R (.returned (.slice A3_4 l3_2 c3_3)) w))
theorem p3_eq (R : Ending → World → Prop) (A0_1 : Option Addr) (A3_4 : Option Addr) (l3_2 : Nat) (c3_3 : Nat) (n4_5 : Int) (w : World) : p3 R A0_1 A3_4 l3_2 c3_3 n4_5 w = pieceF Try.prog Try.f22 R stops 3000 (cfg Try.f22 3) [(0, .pointer A0_1), (3, .slice A3_4 l3_2 c3_3), (4, .int .i64 n4_5)] w := by kernel_rfl
theorem p3_ok {R : Ending → World → Prop} {A0_1 : Option Addr} {A3_4 : Option Addr} {l3_2 : Nat} {c3_3 : Nat} {n4_5 : Int} {w : World} (h : p3 R A0_1 A3_4 l3_2 c3_3 n4_5 w) : SK Try.prog Try.f22 R (cfg Try.f22 3) [(0, .pointer A0_1), (3, .slice A3_4 l3_2 c3_3), (4, .int .i64 n4_5)] w := piece_sound mixed (Eq.mp (p3_eq R A0_1 A3_4 l3_2 c3_3 n4_5 w) h)
end F22

/-! ### 23: (*halyard/wheel.Wheel).put -/
namespace F23
def stops : Stops := [(2, [0, 3, 8])]
def main (R : Ending → World → Prop) (Ap0_1 : Option Addr) (np1_2 : Int) (np1_3 : Int) (np1_4 : Int) (w : World) : Prop :=
  newW Try.prog (Instr.box 60 (.agg #[.int .u64 np1_2, .int .i64 np1_3, .int .u64 np1_4])) w fun g3_5 w6 =>
  SK Try.prog Try.f23 R (cfg Try.f23 2) [(0, .pointer Ap0_1), (3, .pointer (some ⟨g3_5, 0, none⟩)), (8, .int .i64 0)] w6
theorem main_eq (R : Ending → World → Prop) (Ap0_1 : Option Addr) (np1_2 : Int) (np1_3 : Int) (np1_4 : Int) (w : World) : main R Ap0_1 np1_2 np1_3 np1_4 w = mainF Try.prog Try.f23 R stops 3000 [.pointer Ap0_1, .agg #[.int .u64 np1_2, .int .i64 np1_3, .int .u64 np1_4]] w := by kernel_rfl
theorem calls {R : Ending → World → Prop} {Ap0_1 : Option Addr} {np1_2 : Int} {np1_3 : Int} {np1_4 : Int} {w : World} (h : main R Ap0_1 np1_2 np1_3 np1_4 w) : Calls Try.prog 23 #[.pointer Ap0_1, .agg #[.int .u64 np1_2, .int .i64 np1_3, .int .u64 np1_4]] w R := main_sound Try.func23 mixed (Eq.mp (main_eq R Ap0_1 np1_2 np1_3 np1_4 w) h)
def p2 (R : Ending → World → Prop) (A0_1 : Option Addr) (g3_2 : Nat) (n8_3 : Int) (w : World) : Prop :=
  (bif (decide (n8_3 < 5)) then (∃ (n12_4 : Int), (World.drew w).cell? ⟨g3_2, 1, none⟩ = some (.int .i64 n12_4) ∧ nilck A0_1 fun a5 =>
  ∃ (n16_6 : Int), (World.drew w).cell? (a5.add 321) = some (.int .i64 n16_6) ∧ (0 : Int) ≤ (IntKind.wrap .i64 (6 * n8_3)) ∧ nilck A0_1 fun a7 =>
  ∃ (n25_8 : Int), (World.drew (World.drew w)).cell? (a7.add 321) = some (.int .i64 n25_8) ∧ (0 : Int) ≤ (IntKind.wrap .i64 (6 * n8_3)) ∧ (bif (decide ((IntKind.wrap .i64 ((Int.fdiv (if n16_6 > n12_4 then n16_6 else n12_4) (2 ^ (min (Int.toNat (IntKind.wrap .i64 (6 * n8_3))) (IntKind.bits .i64)) : Int)) - (Int.fdiv n25_8 (2 ^ (min (Int.toNat (IntKind.wrap .i64 (6 * n8_3))) (IntKind.bits .i64)) : Int)))) < 64)) then ((0 : Int) ≤ (IntKind.wrap .i64 (6 * n8_3)) ∧ 64 ≠ (0 : Int) ∧ nilck A0_1 fun a9 =>
  idxck (some a9) 5 n8_3 fun a10 =>
  idxck (some (a10.add (Int.toNat n8_3 * 64))) 64 (Int.tmod (Int.fdiv (if n16_6 > n12_4 then n16_6 else n12_4) (2 ^ (min (Int.toNat (IntKind.wrap .i64 (6 * n8_3))) (IntKind.bits .i64)) : Int)) 64) fun a11 =>
  ∃ (A46_12 : Option Addr) (l46_13 : Nat) (c46_14 : Nat), (World.drew (World.drew (World.drew (World.drew w)))).cell? (a11.add (Int.toNat (Int.tmod (Int.fdiv (if n16_6 > n12_4 then n16_6 else n12_4) (2 ^ (min (Int.toNat (IntKind.wrap .i64 (6 * n8_3))) (IntKind.bits .i64)) : Int)) 64) * 1)) = some (.slice A46_12 l46_13 c46_14) ∧ ∃ (n47_15 : Int) (n47_16 : Int) (n47_17 : Int), cellsAt (World.drew (World.drew (World.drew (World.drew w)))) ⟨g3_2, 0, none⟩ 0 [.int .u64 n47_15, .int .i64 n47_16, .int .u64 n47_17] ∧ bslW Try.prog 1 (Instr.buildSlice 54 1 #[(0, .agg #[.int .u64 n47_15, .int .i64 n47_16, .int .u64 n47_17])]) (World.drew (World.drew (World.drew (World.drew w)))) fun g48_18 w19 =>
  slW Try.prog (Builtin.append_ #[54, 54] 54 #[.slice A46_12 l46_13 c46_14, .slice (some ⟨g48_18, 0, none⟩) 1 1]) w19 fun A49_21 l49_22 c49_23 w20 =>
  stW Try.prog 54 (a11.add (Int.toNat (Int.tmod (Int.fdiv (if n16_6 > n12_4 then n16_6 else n12_4) (2 ^ (min (Int.toNat (IntKind.wrap .i64 (6 * n8_3))) (IntKind.bits .i64)) : Int)) 64) * 1)) (.slice A49_21 l49_22 c49_23) w20 fun w24 =>
  R (.returned (.tuple #[])) w24) else (SK Try.prog Try.f23 R (cfg Try.f23 2) [(0, .pointer A0_1), (3, .pointer (some ⟨g3_2, 0, none⟩)), (8, .int .i64 (IntKind.wrap .i64 (n8_3 + 1)))] (World.drew (World.drew w))))) else (R (.returned (.tuple #[])) w))
theorem p2_eq (R : Ending → World → Prop) (A0_1 : Option Addr) (g3_2 : Nat) (n8_3 : Int) (w : World) : p2 R A0_1 g3_2 n8_3 w = pieceF Try.prog Try.f23 R stops 3000 (cfg Try.f23 2) [(0, .pointer A0_1), (3, .pointer (some ⟨g3_2, 0, none⟩)), (8, .int .i64 n8_3)] w := by kernel_rfl
theorem p2_ok {R : Ending → World → Prop} {A0_1 : Option Addr} {g3_2 : Nat} {n8_3 : Int} {w : World} (h : p2 R A0_1 g3_2 n8_3 w) : SK Try.prog Try.f23 R (cfg Try.f23 2) [(0, .pointer A0_1), (3, .pointer (some ⟨g3_2, 0, none⟩)), (8, .int .i64 n8_3)] w := piece_sound mixed (Eq.mp (p2_eq R A0_1 g3_2 n8_3 w) h)
end F23

/-! ### 24: (*halyard/wheel.Wheel).first -/
namespace F24
def stops : Stops := [(2, [2, 3, 10])]
def main (R : Ending → World → Prop) (Ap0_1 : Option Addr) (w : World) : Prop :=
  nilck Ap0_1 fun a2 =>
  ∃ (m9_3 : Option Nat), w.cell? (a2.add 320) = some (.map m9_3) ∧ newW Try.prog (Instr.range 53 (.map m9_3)) w fun g10_4 w5 =>
  SK Try.prog Try.f24 R (cfg Try.f24 2) [(2, .int .i64 0), (3, .bool false), (10, .pointer (some ⟨g10_4, 0, none⟩))] w5
theorem main_eq (R : Ending → World → Prop) (Ap0_1 : Option Addr) (w : World) : main R Ap0_1 w = mainF Try.prog Try.f24 R stops 3000 [.pointer Ap0_1] w := by kernel_rfl
theorem calls {R : Ending → World → Prop} {Ap0_1 : Option Addr} {w : World} (h : main R Ap0_1 w) : Calls Try.prog 24 #[.pointer Ap0_1] w R := main_sound Try.func24 mixed (Eq.mp (main_eq R Ap0_1 w) h)
def p2 (R : Ending → World → Prop) (n2_1 : Int) (b3_2 : Bool) (g10_3 : Nat) (w : World) : Prop :=
  (∃ w4 : World, (Instr.next (.pointer (some ⟨g10_3, 0, none⟩)) false 0).run Try.prog w = .ok (.tuple #[.bool false]) w4 ∧ R (.returned (.tuple #[.int .i64 n2_1, .bool b3_2])) w4)
  ∨ (∃ (v11_6 : Value) (v11_7 : Value) (w5 : World), (Instr.next (.pointer (some ⟨g10_3, 0, none⟩)) false 0).run Try.prog w = .ok (.tuple #[.bool true, v11_6, v11_7]) w5 ∧ ∃ (v13_8 : Value) (n13_9 : Int) (n13_10 : Int) (n13_11 : Int), (Instr.entry (.pointer (some ⟨g10_3, 0, none⟩))).run Try.prog w5 = .ok (.tuple #[v13_8, .agg #[.int .u64 n13_9, .int .i64 n13_10, .int .u64 n13_11]]) w5 ∧ newW Try.prog (Instr.alloc 60 true (.tuple #[])) w5 fun g5_12 w13 =>
  stW Try.prog 60 ⟨g5_12, 0, none⟩ (.agg #[.int .u64 n13_9, .int .i64 n13_10, .int .u64 n13_11]) w13 fun w14 =>
  (bif (!b3_2) then (∃ (n24_15 : Int), w14.cell? ⟨g5_12, 1, none⟩ = some (.int .i64 n24_15) ∧ SK Try.prog Try.f24 R (cfg Try.f24 2) [(2, .int .i64 n24_15), (3, .bool true), (10, .pointer (some ⟨g10_3, 0, none⟩))] w14) else (∃ (n19_16 : Int), w14.cell? ⟨g5_12, 1, none⟩ = some (.int .i64 n19_16) ∧ (bif (decide (n19_16 < n2_1)) then (∃ (n24_17 : Int), w14.cell? ⟨g5_12, 1, none⟩ = some (.int .i64 n24_17) ∧ SK Try.prog Try.f24 R (cfg Try.f24 2) [(2, .int .i64 n24_17), (3, .bool true), (10, .pointer (some ⟨g10_3, 0, none⟩))] w14) else (SK Try.prog Try.f24 R (cfg Try.f24 2) [(2, .int .i64 n2_1), (3, .bool b3_2), (10, .pointer (some ⟨g10_3, 0, none⟩))] w14)))))
theorem p2_eq (R : Ending → World → Prop) (n2_1 : Int) (b3_2 : Bool) (g10_3 : Nat) (w : World) : p2 R n2_1 b3_2 g10_3 w = pieceF Try.prog Try.f24 R stops 3000 (cfg Try.f24 2) [(2, .int .i64 n2_1), (3, .bool b3_2), (10, .pointer (some ⟨g10_3, 0, none⟩))] w := by kernel_rfl
theorem p2_ok {R : Ending → World → Prop} {n2_1 : Int} {b3_2 : Bool} {g10_3 : Nat} {w : World} (h : p2 R n2_1 b3_2 g10_3 w) : SK Try.prog Try.f24 R (cfg Try.f24 2) [(2, .int .i64 n2_1), (3, .bool b3_2), (10, .pointer (some ⟨g10_3, 0, none⟩))] w := piece_sound mixed (Eq.mp (p2_eq R n2_1 b3_2 g10_3 w) h)
end F24

/-! ### 25: (*halyard/wheel.Wheel).leap -/
namespace F25
def stops : Stops := [(4, [0, 24])]
def main (R : Ending → World → Prop) (Ap0_1 : Option Addr) (np1_2 : Int) (w : World) : Prop :=
  nilck Ap0_1 fun a3 =>
  ∃ (n10_4 : Int), w.cell? (a3.add 321) = some (.int .i64 n10_4) ∧ (bif (decide (np1_2 ≤ n10_4)) then (R (.returned (.tuple #[])) w) else (nilck Ap0_1 fun a5 =>
  stW Try.prog 2 (a5.add 321) (.int .i64 np1_2) w fun w6 =>
  nilck Ap0_1 fun a7 =>
  stW Try.prog 56 a7 (.agg #[.slice none 0 0, .slice none 0 0, .slice none 0 0, .slice none 0 0, .slice none 0 0, .slice none 0 0, .slice none 0 0, .slice none 0 0, .slice none 0 0, .slice none 0 0, .slice none 0 0, .slice none 0 0, .slice none 0 0, .slice none 0 0, .slice none 0 0, .slice none 0 0, .slice none 0 0, .slice none 0 0, .slice none 0 0, .slice none 0 0, .slice none 0 0, .slice none 0 0, .slice none 0 0, .slice none 0 0, .slice none 0 0, .slice none 0 0, .slice none 0 0, .slice none 0 0, .slice none 0 0, .slice none 0 0, .slice none 0 0, .slice none 0 0, .slice none 0 0, .slice none 0 0, .slice none 0 0, .slice none 0 0, .slice none 0 0, .slice none 0 0, .slice none 0 0, .slice none 0 0, .slice none 0 0, .slice none 0 0, .slice none 0 0, .slice none 0 0, .slice none 0 0, .slice none 0 0, .slice none 0 0, .slice none 0 0, .slice none 0 0, .slice none 0 0, .slice none 0 0, .slice none 0 0, .slice none 0 0, .slice none 0 0, .slice none 0 0, .slice none 0 0, .slice none 0 0, .slice none 0 0, .slice none 0 0, .slice none 0 0, .slice none 0 0, .slice none 0 0, .slice none 0 0, .slice none 0 0, .slice none 0 0, .slice none 0 0, .slice none 0 0, .slice none 0 0, .slice none 0 0, .slice none 0 0, .slice none 0 0, .slice none 0 0, .slice none 0 0, .slice none 0 0, .slice none 0 0, .slice none 0 0, .slice none 0 0, .slice none 0 0, .slice none 0 0, .slice none 0 0, .slice none 0 0, .slice none 0 0, .slice none 0 0, .slice none 0 0, .slice none 0 0, .slice none 0 0, .slice none 0 0, .slice none 0 0, .slice none 0 0, .slice none 0 0, .slice none 0 0, .slice none 0 0, .slice none 0 0, .slice none 0 0, .slice none 0 0, .slice none 0 0, .slice none 0 0, .slice none 0 0, .slice none 0 0, .slice none 0 0, .slice none 0 0, .slice none 0 0, .slice none 0 0, .slice none 0 0, .slice none 0 0, .slice none 0 0, .slice none 0 0, .slice none 0 0, .slice none 0 0, .slice none 0 0, .slice none 0 0, .slice none 0 0, .slice none 0 0, .slice none 0 0, .slice none 0 0, .slice none 0 0, .slice none 0 0, .slice none 0 0, .slice none 0 0, .slice none 0 0, .slice none 0 0, .slice none 0 0, .slice none 0 0, .slice none 0 0, .slice none 0 0, .slice none 0 0, .slice none 0 0, .slice none 0 0, .slice none 0 0, .slice none 0 0, .slice none 0 0, .slice none 0 0, .slice none 0 0, .slice none 0 0, .slice none 0 0, .slice none 0 0, .slice none 0 0, .slice none 0 0, .slice none 0 0, .slice none 0 0, .slice none 0 0, .slice none 0 0, .slice none 0 0, .slice none 0 0, .slice none 0 0, .slice none 0 0, .slice none 0 0, .slice none 0 0, .slice none 0 0, .slice none 0 0, .slice none 0 0, .slice none 0 0, .slice none 0 0, .slice none 0 0, .slice none 0 0, .slice none 0 0, .slice none 0 0, .slice none 0 0, .slice none 0 0, .slice none 0 0, .slice none 0 0, .slice none 0 0, .slice none 0 0, .slice none 0 0, .slice none 0 0, .slice none 0 0, .slice none 0 0, .slice none 0 0, .slice none 0 0, .slice none 0 0, .slice none 0 0, .slice none 0 0, .slice none 0 0, .slice none 0 0, .slice none 0 0, .slice none 0 0, .slice none 0 0, .slice none 0 0, .slice none 0 0, .slice none 0 0, .slice none 0 0, .slice none 0 0, .slice none 0 0, .slice none 0 0, .slice none 0 0, .slice none 0 0, .slice none 0 0, .slice none 0 0, .slice none 0 0, .slice none 0 0, .slice none 0 0, .slice none 0 0, .slice none 0 0, .slice none 0 0, .slice none 0 0, .slice none 0 0, .slice none 0 0, .slice none 0 0, .slice none 0 0, .slice none 0 0, .slice none 0 0, .slice none 0 0, .slice none 0 0, .slice none 0 0, .slice none 0 0, .slice none 0 0, .slice none 0 0, .slice none 0 0, .slice none 0 0, .slice none 0 0, .slice none 0 0, .slice none 0 0, .slice none 0 0, .slice none 0 0, .slice none 0 0, .slice none 0 0, .slice none 0 0, .slice none 0 0, .slice none 0 0, .slice none 0 0, .slice none 0 0, .slice none 0 0, .slice none 0 0, .slice none 0 0, .slice none 0 0, .slice none 0 0, .slice none 0 0, .slice none 0 0, .slice none 0 0, .slice none 0 0, .slice none 0 0, .slice none 0 0, .slice none 0 0, .slice none 0 0, .slice none 0 0, .slice none 0 0, .slice none 0 0, .slice none 0 0, .slice none 0 0, .slice none 0 0, .slice none 0 0, .slice none 0 0, .slice none 0 0, .slice none 0 0, .slice none 0 0, .slice none 0 0, .slice none 0 0, .slice none 0 0, .slice none 0 0, .slice none 0 0, .slice none 0 0, .slice none 0 0, .slice none 0 0, .slice none 0 0, .slice none 0 0, .slice none 0 0, .slice none 0 0, .slice none 0 0, .slice none 0 0, .slice none 0 0, .slice none 0 0, .slice none 0 0, .slice none 0 0, .slice none 0 0, .slice none 0 0, .slice none 0 0, .slice none 0 0, .slice none 0 0, .slice none 0 0, .slice none 0 0, .slice none 0 0, .slice none 0 0, .slice none 0 0, .slice none 0 0, .slice none 0 0, .slice none 0 0, .slice none 0 0, .slice none 0 0, .slice none 0 0, .slice none 0 0, .slice none 0 0, .slice none 0 0, .slice none 0 0, .slice none 0 0, .slice none 0 0, .slice none 0 0, .slice none 0 0, .slice none 0 0, .slice none 0 0, .slice none 0 0, .slice none 0 0, .slice none 0 0, .slice none 0 0, .slice none 0 0, .slice none 0 0, .slice none 0 0, .slice none 0 0, .slice none 0 0, .slice none 0 0, .slice none 0 0, .slice none 0 0, .slice none 0 0, .slice none 0 0, .slice none 0 0, .slice none 0 0, .slice none 0 0, .slice none 0 0, .slice none 0 0, .slice none 0 0, .slice none 0 0, .slice none 0 0, .slice none 0 0, .slice none 0 0, .slice none 0 0, .slice none 0 0, .slice none 0 0, .slice none 0 0, .slice none 0 0, .slice none 0 0, .slice none 0 0]) w6 fun w8 =>
  nilck Ap0_1 fun a9 =>
  ∃ (m23_10 : Option Nat), w8.cell? (a9.add 320) = some (.map m23_10) ∧ newW Try.prog (Instr.range 53 (.map m23_10)) w8 fun g24_11 w12 =>
  SK Try.prog Try.f25 R (cfg Try.f25 4) [(0, .pointer Ap0_1), (24, .pointer (some ⟨g24_11, 0, none⟩))] w12))
theorem main_eq (R : Ending → World → Prop) (Ap0_1 : Option Addr) (np1_2 : Int) (w : World) : main R Ap0_1 np1_2 w = mainF Try.prog Try.f25 R stops 3000 [.pointer Ap0_1, .int .i64 np1_2] w := by kernel_rfl
theorem calls {R : Ending → World → Prop} {Ap0_1 : Option Addr} {np1_2 : Int} {w : World} (h : main R Ap0_1 np1_2 w) : Calls Try.prog 25 #[.pointer Ap0_1, .int .i64 np1_2] w R := main_sound Try.func25 mixed (Eq.mp (main_eq R Ap0_1 np1_2 w) h)
def p4 (R : Ending → World → Prop) (A0_1 : Option Addr) (g24_2 : Nat) (w : World) : Prop :=
  (∃ w3 : World, (Instr.next (.pointer (some ⟨g24_2, 0, none⟩)) false 0).run Try.prog w = .ok (.tuple #[.bool false]) w3 ∧ R (.returned (.tuple #[])) w3)
  ∨ (∃ (v25_5 : Value) (v25_6 : Value) (w4 : World), (Instr.next (.pointer (some ⟨g24_2, 0, none⟩)) false 0).run Try.prog w = .ok (.tuple #[.bool true, v25_5, v25_6]) w4 ∧ ∃ (v27_7 : Value) (n27_8 : Int) (n27_9 : Int) (n27_10 : Int), (Instr.entry (.pointer (some ⟨g24_2, 0, none⟩))).run Try.prog w4 = .ok (.tuple #[v27_7, .agg #[.int .u64 n27_8, .int .i64 n27_9, .int .u64 n27_10]]) w4 ∧ newW Try.prog (Instr.alloc 60 true (.tuple #[])) w4 fun g5_11 w12 =>
  stW Try.prog 60 ⟨g5_11, 0, none⟩ (.agg #[.int .u64 n27_8, .int .i64 n27_9, .int .u64 n27_10]) w12 fun w13 =>
  ∃ (n30_14 : Int) (n30_15 : Int) (n30_16 : Int), cellsAt w13 ⟨g5_11, 0, none⟩ 0 [.int .u64 n30_14, .int .i64 n30_15, .int .u64 n30_16] ∧ Calls Try.prog 23 #[.pointer A0_1, .agg #[.int .u64 n30_14, .int .i64 n30_15, .int .u64 n30_16]] w13 fun en w17 =>
  (en = .returned (.tuple #[]) ∧ SK Try.prog Try.f25 R (cfg Try.f25 4) [(0, .pointer A0_1), (24, .pointer (some ⟨g24_2, 0, none⟩))] w17)
  ∨ ∃ ch18, en = .panicked ch18 ∧ R (.panicked ch18) w17)
theorem p4_eq (R : Ending → World → Prop) (A0_1 : Option Addr) (g24_2 : Nat) (w : World) : p4 R A0_1 g24_2 w = pieceF Try.prog Try.f25 R stops 3000 (cfg Try.f25 4) [(0, .pointer A0_1), (24, .pointer (some ⟨g24_2, 0, none⟩))] w := by kernel_rfl
theorem p4_ok {R : Ending → World → Prop} {A0_1 : Option Addr} {g24_2 : Nat} {w : World} (h : p4 R A0_1 g24_2 w) : SK Try.prog Try.f25 R (cfg Try.f25 4) [(0, .pointer A0_1), (24, .pointer (some ⟨g24_2, 0, none⟩))] w := piece_sound mixed (Eq.mp (p4_eq R A0_1 g24_2 w) h)
end F25

/-! ### 26: (*halyard/wheel.Wheel).step -/
namespace F26
def stops : Stops := [(4, [1, 2, 3, 4]), (12, [1, 2, 48, 49, 50])]
def main (R : Ending → World → Prop) (Ap0_1 : Option Addr) (w : World) : Prop :=
  newW Try.prog (Instr.box 24 (.pointer Ap0_1)) w fun g1_2 w3 =>
  ∃ (A9_4 : Option Addr), w3.cell? ⟨g1_2, 0, none⟩ = some (.pointer A9_4) ∧ nilck A9_4 fun a5 =>
  ∃ (n12_6 : Int), w3.cell? (a5.add 321) = some (.int .i64 n12_6) ∧ nilck A9_4 fun a7 =>
  stW Try.prog 2 (a7.add 321) (.int .i64 (IntKind.wrap .i64 (n12_6 + 1))) w3 fun w8 =>
  SK Try.prog Try.f26 R (cfg Try.f26 4) [(1, .pointer (some ⟨g1_2, 0, none⟩)), (2, .slice none 0 0), (3, .func (Go.Fn.func 33) #[] #[.pointer (some ⟨g1_2, 0, none⟩)]), (4, .int .i64 4)] w8
theorem main_eq (R : Ending → World → Prop) (Ap0_1 : Option Addr) (w : World) : main R Ap0_1 w = mainF Try.prog Try.f26 R stops 3000 [.pointer Ap0_1] w := by kernel_rfl
theorem calls {R : Ending → World → Prop} {Ap0_1 : Option Addr} {w : World} (h : main R Ap0_1 w) : Calls Try.prog 26 #[.pointer Ap0_1] w R := main_sound Try.func26 mixed (Eq.mp (main_eq R Ap0_1 w) h)
def p4 (R : Ending → World → Prop) (g1_1 : Nat) (A2_4 : Option Addr) (l2_2 : Nat) (c2_3 : Nat) (g3_5 : Nat) (n4_6 : Int) (w : World) : Prop :=
  (bif (decide (n4_6 > 0)) then (∃ (A21_7 : Option Addr), (World.drew w).cell? ⟨g1_1, 0, none⟩ = some (.pointer A21_7) ∧ nilck A21_7 fun a8 =>
  ∃ (n24_9 : Int), (World.drew w).cell? (a8.add 321) = some (.int .i64 n24_9) ∧ (0 : Int) ≤ (IntKind.wrap .i64 (6 * n4_6)) ∧ (IntKind.wrap .i64 (1 * (2 ^ (min (Int.toNat (IntKind.wrap .i64 (6 * n4_6))) (IntKind.bits .i64)) : Int))) ≠ (0 : Int) ∧ (bif ((Int.tmod n24_9 (IntKind.wrap .i64 (1 * (2 ^ (min (Int.toNat (IntKind.wrap .i64 (6 * n4_6))) (IntKind.bits .i64)) : Int)))) != 0) then (SK Try.prog Try.f26 R (cfg Try.f26 4) [(1, .pointer (some ⟨g1_1, 0, none⟩)), (2, .slice A2_4 l2_2 c2_3), (3, .func (Go.Fn.func 33) #[] #[.pointer (some ⟨g3_5, 0, none⟩)]), (4, .int .i64 (IntKind.wrap .i64 (n4_6 - 1)))] (World.drew w)) else (Calls Try.prog 33 #[.int .i64 n4_6, .pointer (some ⟨g3_5, 0, none⟩)] (World.drew w) fun en w10 =>
  (en = .returned (.tuple #[]) ∧ SK Try.prog Try.f26 R (cfg Try.f26 4) [(1, .pointer (some ⟨g1_1, 0, none⟩)), (2, .slice A2_4 l2_2 c2_3), (3, .func (Go.Fn.func 33) #[] #[.pointer (some ⟨g3_5, 0, none⟩)]), (4, .int .i64 (IntKind.wrap .i64 (n4_6 - 1)))] w10)
  ∨ ∃ ch11, en = .panicked ch11 ∧ R (.panicked ch11) w10))) else (∃ (A33_12 : Option Addr), (World.drew w).cell? ⟨g1_1, 0, none⟩ = some (.pointer A33_12) ∧ ∃ (A34_13 : Option Addr), (World.drew w).cell? ⟨g1_1, 0, none⟩ = some (.pointer A34_13) ∧ nilck A34_13 fun a14 =>
  ∃ (n37_15 : Int), (World.drew w).cell? (a14.add 321) = some (.int .i64 n37_15) ∧ 64 ≠ (0 : Int) ∧ nilck A33_12 fun a16 =>
  idxck (some a16) 5 0 fun a17 =>
  idxck (some (a17.add (Int.toNat 0 * 64))) 64 (Int.tmod n37_15 64) fun a18 =>
  ∃ (A45_19 : Option Addr) (l45_20 : Nat) (c45_21 : Nat), (World.drew w).cell? (a18.add (Int.toNat (Int.tmod n37_15 64) * 1)) = some (.slice A45_19 l45_20 c45_21) ∧ stW Try.prog 54 (a18.add (Int.toNat (Int.tmod n37_15 64) * 1)) (.slice none 0 0) (World.drew w) fun w22 =>
  SK Try.prog Try.f26 R (cfg Try.f26 12) [(1, .pointer (some ⟨g1_1, 0, none⟩)), (2, .slice A2_4 l2_2 c2_3), (48, .slice A45_19 l45_20 c45_21), (49, .int .i64 ((l45_20 : Nat) : Int)), (50, .int .i64 0)] w22))
theorem p4_eq (R : Ending → World → Prop) (g1_1 : Nat) (A2_4 : Option Addr) (l2_2 : Nat) (c2_3 : Nat) (g3_5 : Nat) (n4_6 : Int) (w : World) : p4 R g1_1 A2_4 l2_2 c2_3 g3_5 n4_6 w = pieceF Try.prog Try.f26 R stops 3000 (cfg Try.f26 4) [(1, .pointer (some ⟨g1_1, 0, none⟩)), (2, .slice A2_4 l2_2 c2_3), (3, .func (Go.Fn.func 33) #[] #[.pointer (some ⟨g3_5, 0, none⟩)]), (4, .int .i64 n4_6)] w := by kernel_rfl
theorem p4_ok {R : Ending → World → Prop} {g1_1 : Nat} {A2_4 : Option Addr} {l2_2 : Nat} {c2_3 : Nat} {g3_5 : Nat} {n4_6 : Int} {w : World} (h : p4 R g1_1 A2_4 l2_2 c2_3 g3_5 n4_6 w) : SK Try.prog Try.f26 R (cfg Try.f26 4) [(1, .pointer (some ⟨g1_1, 0, none⟩)), (2, .slice A2_4 l2_2 c2_3), (3, .func (Go.Fn.func 33) #[] #[.pointer (some ⟨g3_5, 0, none⟩)]), (4, .int .i64 n4_6)] w := piece_sound mixed (Eq.mp (p4_eq R g1_1 A2_4 l2_2 c2_3 g3_5 n4_6 w) h)
def p12 (R : Ending → World → Prop) (g1_1 : Nat) (A2_4 : Option Addr) (l2_2 : Nat) (c2_3 : Nat) (A48_7 : Option Addr) (l48_5 : Nat) (c48_6 : Nat) (n49_8 : Int) (n50_9 : Int) (w : World) : Prop :=
  (bif (decide (n50_9 < n49_8)) then (idxck A48_7 l48_5 n50_9 fun a10 =>
  ∃ (n53_11 : Int) (n53_12 : Int) (n53_13 : Int), cellsAt w (a10.add (Int.toNat n50_9 * 3)) 0 [.int .u64 n53_11, .int .i64 n53_12, .int .u64 n53_13] ∧ newW Try.prog (Instr.alloc 60 true (.tuple #[])) w fun g8_14 w15 =>
  stW Try.prog 60 ⟨g8_14, 0, none⟩ (.agg #[.int .u64 n53_11, .int .i64 n53_12, .int .u64 n53_13]) w15 fun w16 =>
  ∃ (A54_17 : Option Addr), (World.drew w16).cell? ⟨g1_1, 0, none⟩ = some (.pointer A54_17) ∧ nilck A54_17 fun a18 =>
  ∃ (m57_19 : Option Nat), (World.drew w16).cell? (a18.add 320) = some (.map m57_19) ∧ ∃ (n59_20 : Int), (World.drew w16).cell? ⟨g8_14, 0, none⟩ = some (.int .u64 n59_20) ∧ ∃ (n60_21 : Int) (n60_22 : Int) (n60_23 : Int), (Instr.lookup 53 (.map m57_19) (.int .u64 n59_20) false).run Try.prog (World.drew w16) = .ok (.agg #[.int .u64 n60_21, .int .i64 n60_22, .int .u64 n60_23]) (World.drew w16) ∧ ∃ (n61_24 : Int) (n61_25 : Int) (n61_26 : Int), cellsAt (World.drew w16) ⟨g8_14, 0, none⟩ 0 [.int .u64 n61_24, .int .i64 n61_25, .int .u64 n61_26] ∧ (bif ((n60_21 == n61_24) && ((n60_22 == n61_25) && ((n60_23 == n61_26) && true))) then (∃ (A63_27 : Option Addr), (World.drew (World.drew w16)).cell? ⟨g1_1, 0, none⟩ = some (.pointer A63_27) ∧ nilck A63_27 fun a28 =>
  ∃ (m66_29 : Option Nat), (World.drew (World.drew w16)).cell? (a28.add 320) = some (.map m66_29) ∧ ∃ (n68_30 : Int), (World.drew (World.drew w16)).cell? ⟨g8_14, 0, none⟩ = some (.int .u64 n68_30) ∧ unW Try.prog (Builtin.delete_ #[53, 27] 0 #[.map m66_29, .int .u64 n68_30]) (World.drew (World.drew w16)) fun w31 =>
  ∃ (n70_32 : Int) (n70_33 : Int) (n70_34 : Int), cellsAt w31 ⟨g8_14, 0, none⟩ 0 [.int .u64 n70_32, .int .i64 n70_33, .int .u64 n70_34] ∧ bslW Try.prog 1 (Instr.buildSlice 54 1 #[(0, .agg #[.int .u64 n70_32, .int .i64 n70_33, .int .u64 n70_34])]) w31 fun g71_35 w36 =>
  slW Try.prog (Builtin.append_ #[54, 54] 54 #[.slice A2_4 l2_2 c2_3, .slice (some ⟨g71_35, 0, none⟩) 1 1]) w36 fun A72_38 l72_39 c72_40 w37 =>
  SK Try.prog Try.f26 R (cfg Try.f26 12) [(1, .pointer (some ⟨g1_1, 0, none⟩)), (2, .slice A72_38 l72_39 c72_40), (48, .slice A48_7 l48_5 c48_6), (49, .int .i64 n49_8), (50, .int .i64 (IntKind.wrap .i64 (n50_9 + 1)))] w37) else (SK Try.prog Try.f26 R (cfg Try.f26 12) [(1, .pointer (some ⟨g1_1, 0, none⟩)), (2, .slice A2_4 l2_2 c2_3), (48, .slice A48_7 l48_5 c48_6), (49, .int .i64 n49_8), (50, .int .i64 (IntKind.wrap .i64 (n50_9 + 1)))] (World.drew w16)))) else (Calls Try.prog 27 #[.slice A2_4 l2_2 c2_3, .func (.func 30) #[] #[]] w fun en w44 =>
  (∃ (A75_41 : Option Addr) (l75_42 : Nat) (c75_43 : Nat), en = .returned (.slice A75_41 l75_42 c75_43) ∧ R (.returned (.slice A75_41 l75_42 c75_43)) w44)
  ∨ ∃ ch45, en = .panicked ch45 ∧ R (.panicked ch45) w44))
theorem p12_eq (R : Ending → World → Prop) (g1_1 : Nat) (A2_4 : Option Addr) (l2_2 : Nat) (c2_3 : Nat) (A48_7 : Option Addr) (l48_5 : Nat) (c48_6 : Nat) (n49_8 : Int) (n50_9 : Int) (w : World) : p12 R g1_1 A2_4 l2_2 c2_3 A48_7 l48_5 c48_6 n49_8 n50_9 w = pieceF Try.prog Try.f26 R stops 3000 (cfg Try.f26 12) [(1, .pointer (some ⟨g1_1, 0, none⟩)), (2, .slice A2_4 l2_2 c2_3), (48, .slice A48_7 l48_5 c48_6), (49, .int .i64 n49_8), (50, .int .i64 n50_9)] w := by kernel_rfl
theorem p12_ok {R : Ending → World → Prop} {g1_1 : Nat} {A2_4 : Option Addr} {l2_2 : Nat} {c2_3 : Nat} {A48_7 : Option Addr} {l48_5 : Nat} {c48_6 : Nat} {n49_8 : Int} {n50_9 : Int} {w : World} (h : p12 R g1_1 A2_4 l2_2 c2_3 A48_7 l48_5 c48_6 n49_8 n50_9 w) : SK Try.prog Try.f26 R (cfg Try.f26 12) [(1, .pointer (some ⟨g1_1, 0, none⟩)), (2, .slice A2_4 l2_2 c2_3), (48, .slice A48_7 l48_5 c48_6), (49, .int .i64 n49_8), (50, .int .i64 n50_9)] w := piece_sound mixed (Eq.mp (p12_eq R g1_1 A2_4 l2_2 c2_3 A48_7 l48_5 c48_6 n49_8 n50_9 w) h)
end F26

/-! ### 27: halyard/wheel.sorted[halyard/wheel.alarm] -/
namespace F27
def stops : Stops := []
def main (R : Ending → World → Prop) (Ap0_1 : Option Addr) (lp0_2 : Nat) (cp0_3 : Nat) (vp1_4 : Value) (w : World) : Prop :=
  Calls Try.prog 34 #[.slice Ap0_1 lp0_2 cp0_3, vp1_4] w fun en w5 =>
  (en = .returned (.tuple #[]) ∧ R (.returned (.slice Ap0_1 lp0_2 cp0_3)) w5)
  ∨ ∃ ch6, en = .panicked ch6 ∧ R (.panicked ch6) w5
theorem main_eq (R : Ending → World → Prop) (Ap0_1 : Option Addr) (lp0_2 : Nat) (cp0_3 : Nat) (vp1_4 : Value) (w : World) : main R Ap0_1 lp0_2 cp0_3 vp1_4 w = mainF Try.prog Try.f27 R stops 3000 [.slice Ap0_1 lp0_2 cp0_3, vp1_4] w := by kernel_rfl
theorem calls {R : Ending → World → Prop} {Ap0_1 : Option Addr} {lp0_2 : Nat} {cp0_3 : Nat} {vp1_4 : Value} {w : World} (h : main R Ap0_1 lp0_2 cp0_3 vp1_4 w) : Calls Try.prog 27 #[.slice Ap0_1 lp0_2 cp0_3, vp1_4] w R := main_sound Try.func27 mixed (Eq.mp (main_eq R Ap0_1 lp0_2 cp0_3 vp1_4 w) h)
end F27

/-! ### 28: slices.Collect[halyard/wheel.alarm] -/
namespace F28
def stops : Stops := []
def main (R : Ending → World → Prop) (vp0_1 : Value) (w : World) : Prop :=
  Calls Try.prog 35 #[.slice none 0 0, vp0_1] w fun en w5 =>
  (∃ (A4_2 : Option Addr) (l4_3 : Nat) (c4_4 : Nat), en = .returned (.slice A4_2 l4_3 c4_4) ∧ R (.returned (.slice A4_2 l4_3 c4_4)) w5)
  ∨ ∃ ch6, en = .panicked ch6 ∧ R (.panicked ch6) w5
theorem main_eq (R : Ending → World → Prop) (vp0_1 : Value) (w : World) : main R vp0_1 w = mainF Try.prog Try.f28 R stops 3000 [vp0_1] w := by kernel_rfl
theorem calls {R : Ending → World → Prop} {vp0_1 : Value} {w : World} (h : main R vp0_1 w) : Calls Try.prog 28 #[vp0_1] w R := main_sound Try.func28 mixed (Eq.mp (main_eq R vp0_1 w) h)
end F28

/-! ### 29: maps.Values[map[uint64]halyard/wheel.alarm,uint64,halyard/wheel.alarm] -/
namespace F29
def stops : Stops := []
def main (R : Ending → World → Prop) (mp0_1 : Option Nat) (w : World) : Prop :=
  newW Try.prog (Instr.box 53 (.map mp0_1)) w fun g1_2 w3 =>
  R (.returned (.func (Go.Fn.func 36) #[] #[.pointer (some ⟨g1_2, 0, none⟩)])) w3
theorem main_eq (R : Ending → World → Prop) (mp0_1 : Option Nat) (w : World) : main R mp0_1 w = mainF Try.prog Try.f29 R stops 3000 [.map mp0_1] w := by kernel_rfl
theorem calls {R : Ending → World → Prop} {mp0_1 : Option Nat} {w : World} (h : main R mp0_1 w) : Calls Try.prog 29 #[.map mp0_1] w R := main_sound Try.func29 mixed (Eq.mp (main_eq R mp0_1 w) h)
end F29

/-! ### 30: halyard/wheel.earlier -/
namespace F30
def stops : Stops := []
def main (R : Ending → World → Prop) (np0_1 : Int) (np0_2 : Int) (np0_3 : Int) (np1_4 : Int) (np1_5 : Int) (np1_6 : Int) (w : World) : Prop :=
  newW Try.prog (Instr.box 60 (.agg #[.int .u64 np0_1, .int .i64 np0_2, .int .u64 np0_3])) w fun g2_7 w8 =>
  newW Try.prog (Instr.box 60 (.agg #[.int .u64 np1_4, .int .i64 np1_5, .int .u64 np1_6])) w8 fun g3_9 w10 =>
  ∃ (n6_11 : Int), (World.drew w10).cell? ⟨g2_7, 1, none⟩ = some (.int .i64 n6_11) ∧ ∃ (n8_12 : Int), (World.drew w10).cell? ⟨g3_9, 1, none⟩ = some (.int .i64 n8_12) ∧ ∃ (n11_13 : Int), (World.drew w10).cell? ⟨g2_7, 2, none⟩ = some (.int .u64 n11_13) ∧ ∃ (n13_14 : Int), (World.drew w10).cell? ⟨g3_9, 2, none⟩ = some (.int .u64 n13_14) ∧ Calls Try.prog 38 #[.int .i64 n6_11, .int .i64 n8_12] (World.drew w10) fun en w16 =>
  (∃ (n9_15 : Int), en = .returned (.int .i64 n9_15) ∧ ((World.drew w10).cell? ⟨g3_9, 2, none⟩ = some (.int .u64 n13_14) → w16.cell? ⟨g3_9, 2, none⟩ = some (.int .u64 n13_14)) ∧ ((World.drew w10).cell? ⟨g2_7, 2, none⟩ = some (.int .u64 n11_13) → w16.cell? ⟨g2_7, 2, none⟩ = some (.int .u64 n11_13)) ∧ Calls Try.prog 39 #[.int .u64 n11_13, .int .u64 n13_14] w16 fun en w19 =>
  (∃ (n14_18 : Int), en = .returned (.int .i64 n14_18) ∧ bslW Try.prog 2 (Instr.buildSlice 87 2 #[(0, .int .i64 n9_15), (1, .int .i64 n14_18)]) w19 fun g15_21 w22 =>
  Calls Try.prog 37 #[.slice (some ⟨g15_21, 0, none⟩) 2 2] w22 fun en w24 =>
  (∃ (n16_23 : Int), en = .returned (.int .i64 n16_23) ∧ R (.returned (.int .i64 n16_23)) w24)
  ∨ ∃ ch25, en = .panicked ch25 ∧ R (.panicked ch25) w24)
  ∨ ∃ ch20, en = .panicked ch20 ∧ R (.panicked ch20) w19)
  ∨ ∃ ch17, en = .panicked ch17 ∧ R (.panicked ch17) w16
theorem main_eq (R : Ending → World → Prop) (np0_1 : Int) (np0_2 : Int) (np0_3 : Int) (np1_4 : Int) (np1_5 : Int) (np1_6 : Int) (w : World) : main R np0_1 np0_2 np0_3 np1_4 np1_5 np1_6 w = mainF Try.prog Try.f30 R stops 3000 [.agg #[.int .u64 np0_1, .int .i64 np0_2, .int .u64 np0_3], .agg #[.int .u64 np1_4, .int .i64 np1_5, .int .u64 np1_6]] w := by kernel_rfl
theorem calls {R : Ending → World → Prop} {np0_1 : Int} {np0_2 : Int} {np0_3 : Int} {np1_4 : Int} {np1_5 : Int} {np1_6 : Int} {w : World} (h : main R np0_1 np0_2 np0_3 np1_4 np1_5 np1_6 w) : Calls Try.prog 30 #[.agg #[.int .u64 np0_1, .int .i64 np0_2, .int .u64 np0_3], .agg #[.int .u64 np1_4, .int .i64 np1_5, .int .u64 np1_6]] w R := main_sound Try.func30 mixed (Eq.mp (main_eq R np0_1 np0_2 np0_3 np1_4 np1_5 np1_6 w) h)
end F30

/-! ### 32: halyard/halyardref21.without -/
namespace F32
def stops : Stops := [(3, [0, 1, 5, 6])]
def main (R : Ending → World → Prop) (Ap0_1 : Option Addr) (lp0_2 : Nat) (cp0_3 : Nat) (np1_4 : Int) (w : World) : Prop :=
  SK Try.prog Try.f32 R (cfg Try.f32 3) [(0, .slice Ap0_1 lp0_2 cp0_3), (1, .int .u64 np1_4), (5, .slice none 0 0), (6, .int .i64 0)] w
theorem main_eq (R : Ending → World → Prop) (Ap0_1 : Option Addr) (lp0_2 : Nat) (cp0_3 : Nat) (np1_4 : Int) (w : World) : main R Ap0_1 lp0_2 cp0_3 np1_4 w = mainF Try.prog Try.f32 R stops 3000 [.slice Ap0_1 lp0_2 cp0_3, .int .u64 np1_4] w := by kernel_rfl
theorem calls {R : Ending → World → Prop} {Ap0_1 : Option Addr} {lp0_2 : Nat} {cp0_3 : Nat} {np1_4 : Int} {w : World} (h : main R Ap0_1 lp0_2 cp0_3 np1_4 w) : Calls Try.prog 32 #[.slice Ap0_1 lp0_2 cp0_3, .int .u64 np1_4] w R := main_sound Try.func32 mixed (Eq.mp (main_eq R Ap0_1 lp0_2 cp0_3 np1_4 w) h)
def p3 (R : Ending → World → Prop) (A0_3 : Option Addr) (l0_1 : Nat) (c0_2 : Nat) (n1_4 : Int) (A5_7 : Option Addr) (l5_5 : Nat) (c5_6 : Nat) (n6_8 : Int) (w : World) : Prop :=
  (bif (decide (n6_8 < ((l0_1 : Nat) : Int))) then (idxck A0_3 l0_1 n6_8 fun a9 =>
  ∃ (n17_10 : Int), w.cell? (a9.add (Int.toNat n6_8 * 2)) = some (.int .u64 n17_10) ∧ (bif (n17_10 != n1_4) then (idxck A0_3 l0_1 n6_8 fun a11 =>
  ∃ (n24_12 : Int) (n24_13 : Int), cellsAt w (a11.add (Int.toNat n6_8 * 2)) 0 [.int .u64 n24_12, .int .i64 n24_13] ∧ bslW Try.prog 1 (Instr.buildSlice 49 1 #[(0, .agg #[.int .u64 n24_12, .int .i64 n24_13])]) w fun g25_14 w15 =>
  slW Try.prog (Builtin.append_ #[49, 49] 49 #[.slice A5_7 l5_5 c5_6, .slice (some ⟨g25_14, 0, none⟩) 1 1]) w15 fun A26_17 l26_18 c26_19 w16 =>
  SK Try.prog Try.f32 R (cfg Try.f32 3) [(0, .slice A0_3 l0_1 c0_2), (1, .int .u64 n1_4), (5, .slice A26_17 l26_18 c26_19), (6, .int .i64 (IntKind.wrap .i64 (n6_8 + 1)))] w16) else (SK Try.prog Try.f32 R (cfg Try.f32 3) [(0, .slice A0_3 l0_1 c0_2), (1, .int .u64 n1_4), (5, .slice A5_7 l5_5 c5_6), (6, .int .i64 (IntKind.wrap .i64 (n6_8 + 1)))] w))) else (R (.returned (.slice A5_7 l5_5 c5_6)) w))
theorem p3_eq (R : Ending → World → Prop) (A0_3 : Option Addr) (l0_1 : Nat) (c0_2 : Nat) (n1_4 : Int) (A5_7 : Option Addr) (l5_5 : Nat) (c5_6 : Nat) (n6_8 : Int) (w : World) : p3 R A0_3 l0_1 c0_2 n1_4 A5_7 l5_5 c5_6 n6_8 w = pieceF Try.prog Try.f32 R stops 3000 (cfg Try.f32 3) [(0, .slice A0_3 l0_1 c0_2), (1, .int .u64 n1_4), (5, .slice A5_7 l5_5 c5_6), (6, .int .i64 n6_8)] w := by kernel_rfl
theorem p3_ok {R : Ending → World → Prop} {A0_3 : Option Addr} {l0_1 : Nat} {c0_2 : Nat} {n1_4 : Int} {A5_7 : Option Addr} {l5_5 : Nat} {c5_6 : Nat} {n6_8 : Int} {w : World} (h : p3 R A0_3 l0_1 c0_2 n1_4 A5_7 l5_5 c5_6 n6_8 w) : SK Try.prog Try.f32 R (cfg Try.f32 3) [(0, .slice A0_3 l0_1 c0_2), (1, .int .u64 n1_4), (5, .slice A5_7 l5_5 c5_6), (6, .int .i64 n6_8)] w := piece_sound mixed (Eq.mp (p3_eq R A0_3 l0_1 c0_2 n1_4 A5_7 l5_5 c5_6 n6_8 w) h)
end F32

/-! ### 33: (*halyard/wheel.Wheel).step$1 -/
namespace F33
def stops : Stops := [(4, [1, 26, 27, 28])]
def main (R : Ending → World → Prop) (np0_1 : Int) (gp1_2 : Nat) (w : World) : Prop :=
  ∃ (A7_3 : Option Addr), (World.drew w).cell? ⟨gp1_2, 0, none⟩ = some (.pointer A7_3) ∧ ∃ (A9_4 : Option Addr), (World.drew w).cell? ⟨gp1_2, 0, none⟩ = some (.pointer A9_4) ∧ nilck A9_4 fun a5 =>
  ∃ (n12_6 : Int), (World.drew w).cell? (a5.add 321) = some (.int .i64 n12_6) ∧ (0 : Int) ≤ (IntKind.wrap .i64 (6 * np0_1)) ∧ 64 ≠ (0 : Int) ∧ nilck A7_3 fun a7 =>
  idxck (some a7) 5 np0_1 fun a8 =>
  idxck (some (a8.add (Int.toNat np0_1 * 64))) 64 (Int.tmod (Int.fdiv n12_6 (2 ^ (min (Int.toNat (IntKind.wrap .i64 (6 * np0_1))) (IntKind.bits .i64)) : Int)) 64) fun a9 =>
  ∃ (A23_10 : Option Addr) (l23_11 : Nat) (c23_12 : Nat), (World.drew w).cell? (a9.add (Int.toNat (Int.tmod (Int.fdiv n12_6 (2 ^ (min (Int.toNat (IntKind.wrap .i64 (6 * np0_1))) (IntKind.bits .i64)) : Int)) 64) * 1)) = some (.slice A23_10 l23_11 c23_12) ∧ stW Try.prog 54 (a9.add (Int.toNat (Int.tmod (Int.fdiv n12_6 (2 ^ (min (Int.toNat (IntKind.wrap .i64 (6 * np0_1))) (IntKind.bits .i64)) : Int)) 64) * 1)) (.slice none 0 0) (World.drew w) fun w13 =>
  SK Try.prog Try.f33 R (cfg Try.f33 4) [(1, .pointer (some ⟨gp1_2, 0, none⟩)), (26, .slice A23_10 l23_11 c23_12), (27, .int .i64 ((l23_11 : Nat) : Int)), (28, .int .i64 0)] w13
theorem main_eq (R : Ending → World → Prop) (np0_1 : Int) (gp1_2 : Nat) (w : World) : main R np0_1 gp1_2 w = mainF Try.prog Try.f33 R stops 3000 [.int .i64 np0_1, .pointer (some ⟨gp1_2, 0, none⟩)] w := by kernel_rfl
theorem calls {R : Ending → World → Prop} {np0_1 : Int} {gp1_2 : Nat} {w : World} (h : main R np0_1 gp1_2 w) : Calls Try.prog 33 #[.int .i64 np0_1, .pointer (some ⟨gp1_2, 0, none⟩)] w R := main_sound Try.func33 mixed (Eq.mp (main_eq R np0_1 gp1_2 w) h)
def p4 (R : Ending → World → Prop) (g1_1 : Nat) (A26_4 : Option Addr) (l26_2 : Nat) (c26_3 : Nat) (n27_5 : Int) (n28_6 : Int) (w : World) : Prop :=
  (bif (decide (n28_6 < n27_5)) then (idxck A26_4 l26_2 n28_6 fun a7 =>
  ∃ (n31_8 : Int) (n31_9 : Int) (n31_10 : Int), cellsAt w (a7.add (Int.toNat n28_6 * 3)) 0 [.int .u64 n31_8, .int .i64 n31_9, .int .u64 n31_10] ∧ newW Try.prog (Instr.alloc 60 true (.tuple #[])) w fun g6_11 w12 =>
  stW Try.prog 60 ⟨g6_11, 0, none⟩ (.agg #[.int .u64 n31_8, .int .i64 n31_9, .int .u64 n31_10]) w12 fun w13 =>
  ∃ (A32_14 : Option Addr), (World.drew w13).cell? ⟨g1_1, 0, none⟩ = some (.pointer A32_14) ∧ nilck A32_14 fun a15 =>
  ∃ (m35_16 : Option Nat), (World.drew w13).cell? (a15.add 320) = some (.map m35_16) ∧ ∃ (n37_17 : Int), (World.drew w13).cell? ⟨g6_11, 0, none⟩ = some (.int .u64 n37_17) ∧ ∃ (n38_18 : Int) (n38_19 : Int) (n38_20 : Int), (Instr.lookup 53 (.map m35_16) (.int .u64 n37_17) false).run Try.prog (World.drew w13) = .ok (.agg #[.int .u64 n38_18, .int .i64 n38_19, .int .u64 n38_20]) (World.drew w13) ∧ ∃ (n39_21 : Int) (n39_22 : Int) (n39_23 : Int), cellsAt (World.drew w13) ⟨g6_11, 0, none⟩ 0 [.int .u64 n39_21, .int .i64 n39_22, .int .u64 n39_23] ∧ (bif ((n38_18 == n39_21) && ((n38_19 == n39_22) && ((n38_20 == n39_23) && true))) then (∃ (A41_24 : Option Addr), (World.drew w13).cell? ⟨g1_1, 0, none⟩ = some (.pointer A41_24) ∧ ∃ (n42_25 : Int) (n42_26 : Int) (n42_27 : Int), cellsAt (World.drew w13) ⟨g6_11, 0, none⟩ 0 [.int .u64 n42_25, .int .i64 n42_26, .int .u64 n42_27] ∧ Calls Try.prog 23 #[.pointer A41_24, .agg #[.int .u64 n42_25, .int .i64 n42_26, .int .u64 n42_27]] (World.drew w13) fun en w28 =>
  (en = .returned (.tuple #[]) ∧ SK Try.prog Try.f33 R (cfg Try.f33 4) [(1, .pointer (some ⟨g1_1, 0, none⟩)), (26, .slice A26_4 l26_2 c26_3), (27, .int .i64 n27_5), (28, .int .i64 (IntKind.wrap .i64 (n28_6 + 1)))] w28)
  ∨ ∃ ch29, en = .panicked ch29 ∧ R (.panicked ch29) w28) else (SK Try.prog Try.f33 R (cfg Try.f33 4) [(1, .pointer (some ⟨g1_1, 0, none⟩)), (26, .slice A26_4 l26_2 c26_3), (27, .int .i64 n27_5), (28, .int .i64 (IntKind.wrap .i64 (n28_6 + 1)))] (World.drew w13)))) else (R (.returned (.tuple #[])) w))
theorem p4_eq (R : Ending → World → Prop) (g1_1 : Nat) (A26_4 : Option Addr) (l26_2 : Nat) (c26_3 : Nat) (n27_5 : Int) (n28_6 : Int) (w : World) : p4 R g1_1 A26_4 l26_2 c26_3 n27_5 n28_6 w = pieceF Try.prog Try.f33 R stops 3000 (cfg Try.f33 4) [(1, .pointer (some ⟨g1_1, 0, none⟩)), (26, .slice A26_4 l26_2 c26_3), (27, .int .i64 n27_5), (28, .int .i64 n28_6)] w := by kernel_rfl
theorem p4_ok {R : Ending → World → Prop} {g1_1 : Nat} {A26_4 : Option Addr} {l26_2 : Nat} {c26_3 : Nat} {n27_5 : Int} {n28_6 : Int} {w : World} (h : p4 R g1_1 A26_4 l26_2 c26_3 n27_5 n28_6 w) : SK Try.prog Try.f33 R (cfg Try.f33 4) [(1, .pointer (some ⟨g1_1, 0, none⟩)), (26, .slice A26_4 l26_2 c26_3), (27, .int .i64 n27_5), (28, .int .i64 n28_6)] w := piece_sound mixed (Eq.mp (p4_eq R g1_1 A26_4 l26_2 c26_3 n27_5 n28_6 w) h)
end F33

/-! ### 34: slices.SortFunc[[]halyard/wheel.alarm,halyard/wheel.alarm] -/
namespace F34
def stops : Stops := []
def main (R : Ending → World → Prop) (Ap0_1 : Option Addr) (lp0_2 : Nat) (cp0_3 : Nat) (vp1_4 : Value) (w : World) : Prop :=
  Calls Try.prog 42 #[.int .u64 (IntKind.wrap .u64 ((lp0_2 : Nat) : Int))] w fun en w6 =>
  (∃ (n11_5 : Int), en = .returned (.int .i64 n11_5) ∧ Calls Try.prog 41 #[.slice Ap0_1 lp0_2 cp0_3, .int .i64 0, .int .i64 ((lp0_2 : Nat) : Int), .int .i64 n11_5, vp1_4] w6 fun en w8 =>
  (en = .returned (.tuple #[]) ∧ R (.returned (.tuple #[])) w8)
  ∨ ∃ ch9, en = .panicked ch9 ∧ R (.panicked ch9) w8)
  ∨ ∃ ch7, en = .panicked ch7 ∧ R (.panicked ch7) w6
theorem main_eq (R : Ending → World → Prop) (Ap0_1 : Option Addr) (lp0_2 : Nat) (cp0_3 : Nat) (vp1_4 : Value) (w : World) : main R Ap0_1 lp0_2 cp0_3 vp1_4 w = mainF Try.prog Try.f34 R stops 3000 [.slice Ap0_1 lp0_2 cp0_3, vp1_4] w := by kernel_rfl
theorem calls {R : Ending → World → Prop} {Ap0_1 : Option Addr} {lp0_2 : Nat} {cp0_3 : Nat} {vp1_4 : Value} {w : World} (h : main R Ap0_1 lp0_2 cp0_3 vp1_4 w) : Calls Try.prog 34 #[.slice Ap0_1 lp0_2 cp0_3, vp1_4] w R := main_sound Try.func34 mixed (Eq.mp (main_eq R Ap0_1 lp0_2 cp0_3 vp1_4 w) h)
end F34

/-! ### 37: cmp.Or[int] -/
namespace F37
def stops : Stops := [(3, [3, 6, 7, 8])]
def main (R : Ending → World → Prop) (Ap0_1 : Option Addr) (lp0_2 : Nat) (cp0_3 : Nat) (w : World) : Prop :=
  SK Try.prog Try.f37 R (cfg Try.f37 3) [(3, .int .i64 0), (6, .slice Ap0_1 lp0_2 cp0_3), (7, .int .i64 ((lp0_2 : Nat) : Int)), (8, .int .i64 0)] w
theorem main_eq (R : Ending → World → Prop) (Ap0_1 : Option Addr) (lp0_2 : Nat) (cp0_3 : Nat) (w : World) : main R Ap0_1 lp0_2 cp0_3 w = mainF Try.prog Try.f37 R stops 3000 [.slice Ap0_1 lp0_2 cp0_3] w := by kernel_rfl
theorem calls {R : Ending → World → Prop} {Ap0_1 : Option Addr} {lp0_2 : Nat} {cp0_3 : Nat} {w : World} (h : main R Ap0_1 lp0_2 cp0_3 w) : Calls Try.prog 37 #[.slice Ap0_1 lp0_2 cp0_3] w R := main_sound Try.func37 mixed (Eq.mp (main_eq R Ap0_1 lp0_2 cp0_3 w) h)
def p3 (R : Ending → World → Prop) (n3_1 : Int) (A6_4 : Option Addr) (l6_2 : Nat) (c6_3 : Nat) (n7_5 : Int) (n8_6 : Int) (w : World) : Prop :=
  (bif (decide (n8_6 < n7_5)) then (idxck A6_4 l6_2 n8_6 fun a7 =>
  ∃ (n11_8 : Int), w.cell? (a7.add (Int.toNat n8_6 * 1)) = some (.int .i64 n11_8) ∧ (bif (n11_8 != n3_1) then (R (.returned (.int .i64 n11_8)) w) else (SK Try.prog Try.f37 R (cfg Try.f37 3) [(3, .int .i64 n3_1), (6, .slice A6_4 l6_2 c6_3), (7, .int .i64 n7_5), (8, .int .i64 (IntKind.wrap .i64 (n8_6 + 1)))] w))) else (R (.returned (.int .i64 n3_1)) w))
theorem p3_eq (R : Ending → World → Prop) (n3_1 : Int) (A6_4 : Option Addr) (l6_2 : Nat) (c6_3 : Nat) (n7_5 : Int) (n8_6 : Int) (w : World) : p3 R n3_1 A6_4 l6_2 c6_3 n7_5 n8_6 w = pieceF Try.prog Try.f37 R stops 3000 (cfg Try.f37 3) [(3, .int .i64 n3_1), (6, .slice A6_4 l6_2 c6_3), (7, .int .i64 n7_5), (8, .int .i64 n8_6)] w := by kernel_rfl
theorem p3_ok {R : Ending → World → Prop} {n3_1 : Int} {A6_4 : Option Addr} {l6_2 : Nat} {c6_3 : Nat} {n7_5 : Int} {n8_6 : Int} {w : World} (h : p3 R n3_1 A6_4 l6_2 c6_3 n7_5 n8_6 w) : SK Try.prog Try.f37 R (cfg Try.f37 3) [(3, .int .i64 n3_1), (6, .slice A6_4 l6_2 c6_3), (7, .int .i64 n7_5), (8, .int .i64 n8_6)] w := piece_sound mixed (Eq.mp (p3_eq R n3_1 A6_4 l6_2 c6_3 n7_5 n8_6 w) h)
end F37

/-! ### 38: cmp.Compare[int64] -/
namespace F38
def stops : Stops := []
def main (R : Ending → World → Prop) (np0_1 : Int) (np1_2 : Int) (w : World) : Prop :=
  Calls Try.prog 43 #[.int .i64 np0_1] w fun en w4 =>
  (∃ (b8_3 : Bool), en = .returned (.bool b8_3) ∧ Calls Try.prog 43 #[.int .i64 np1_2] w4 fun en w7 =>
  (∃ (b10_6 : Bool), en = .returned (.bool b10_6) ∧ (bif b8_3 then ((bif b10_6 then (R (.returned (.int .i64 0)) w7) else (R (.returned (.int .i64 (-1))) w7))) else ((bif b10_6 then (R (.returned (.int .i64 1)) w7) else ((bif (decide (np0_1 < np1_2)) then (R (.returned (.int .i64 (-1))) w7) else ((bif (decide (np0_1 > np1_2)) then (R (.returned (.int .i64 1)) w7) else (R (.returned (.int .i64 0)) w7)))))))))
  ∨ ∃ ch8, en = .panicked ch8 ∧ R (.panicked ch8) w7)
  ∨ ∃ ch5, en = .panicked ch5 ∧ R (.panicked ch5) w4
theorem main_eq (R : Ending → World → Prop) (np0_1 : Int) (np1_2 : Int) (w : World) : main R np0_1 np1_2 w = mainF Try.prog Try.f38 R stops 3000 [.int .i64 np0_1, .int .i64 np1_2] w := by kernel_rfl
theorem calls {R : Ending → World → Prop} {np0_1 : Int} {np1_2 : Int} {w : World} (h : main R np0_1 np1_2 w) : Calls Try.prog 38 #[.int .i64 np0_1, .int .i64 np1_2] w R := main_sound Try.func38 mixed (Eq.mp (main_eq R np0_1 np1_2 w) h)
end F38

/-! ### 39: cmp.Compare[uint64] -/
namespace F39
def stops : Stops := []
def main (R : Ending → World → Prop) (np0_1 : Int) (np1_2 : Int) (w : World) : Prop :=
  Calls Try.prog 44 #[.int .u64 np0_1] w fun en w4 =>
  (∃ (b8_3 : Bool), en = .returned (.bool b8_3) ∧ Calls Try.prog 44 #[.int .u64 np1_2] w4 fun en w7 =>
  (∃ (b10_6 : Bool), en = .returned (.bool b10_6) ∧ (bif b8_3 then ((bif b10_6 then (R (.returned (.int .i64 0)) w7) else (R (.returned (.int .i64 (-1))) w7))) else ((bif b10_6 then (R (.returned (.int .i64 1)) w7) else ((bif (decide (np0_1 < np1_2)) then (R (.returned (.int .i64 (-1))) w7) else ((bif (decide (np0_1 > np1_2)) then (R (.returned (.int .i64 1)) w7) else (R (.returned (.int .i64 0)) w7)))))))))
  ∨ ∃ ch8, en = .panicked ch8 ∧ R (.panicked ch8) w7)
  ∨ ∃ ch5, en = .panicked ch5 ∧ R (.panicked ch5) w4
theorem main_eq (R : Ending → World → Prop) (np0_1 : Int) (np1_2 : Int) (w : World) : main R np0_1 np1_2 w = mainF Try.prog Try.f39 R stops 3000 [.int .u64 np0_1, .int .u64 np1_2] w := by kernel_rfl
theorem calls {R : Ending → World → Prop} {np0_1 : Int} {np1_2 : Int} {w : World} (h : main R np0_1 np1_2 w) : Calls Try.prog 39 #[.int .u64 np0_1, .int .u64 np1_2] w R := main_sound Try.func39 mixed (Eq.mp (main_eq R np0_1 np1_2 w) h)
end F39

/-! ### 42: math/bits.Len -/
namespace F42
def stops : Stops := []
def main (R : Ending → World → Prop) (np0_1 : Int) (w : World) : Prop :=
  Calls Try.prog 54 #[.int .u64 np0_1] w fun en w3 =>
  (∃ (n7_2 : Int), en = .returned (.int .i64 n7_2) ∧ R (.returned (.int .i64 n7_2)) w3)
  ∨ ∃ ch4, en = .panicked ch4 ∧ R (.panicked ch4) w3
theorem main_eq (R : Ending → World → Prop) (np0_1 : Int) (w : World) : main R np0_1 w = mainF Try.prog Try.f42 R stops 3000 [.int .u64 np0_1] w := by kernel_rfl
theorem calls {R : Ending → World → Prop} {np0_1 : Int} {w : World} (h : main R np0_1 w) : Calls Try.prog 42 #[.int .u64 np0_1] w R := main_sound Try.func42 mixed (Eq.mp (main_eq R np0_1 w) h)
end F42

/-! ### 43: cmp.isNaN[int64] -/
namespace F43
def stops : Stops := []
def main (R : Ending → World → Prop) (np0_1 : Int) (w : World) : Prop :=
  R (.returned (.bool (np0_1 != np0_1))) w
theorem main_eq (R : Ending → World → Prop) (np0_1 : Int) (w : World) : main R np0_1 w = mainF Try.prog Try.f43 R stops 3000 [.int .i64 np0_1] w := by kernel_rfl
theorem calls {R : Ending → World → Prop} {np0_1 : Int} {w : World} (h : main R np0_1 w) : Calls Try.prog 43 #[.int .i64 np0_1] w R := main_sound Try.func43 mixed (Eq.mp (main_eq R np0_1 w) h)
end F43

/-! ### 44: cmp.isNaN[uint64] -/
namespace F44
def stops : Stops := []
def main (R : Ending → World → Prop) (np0_1 : Int) (w : World) : Prop :=
  R (.returned (.bool (np0_1 != np0_1))) w
theorem main_eq (R : Ending → World → Prop) (np0_1 : Int) (w : World) : main R np0_1 w = mainF Try.prog Try.f44 R stops 3000 [.int .u64 np0_1] w := by kernel_rfl
theorem calls {R : Ending → World → Prop} {np0_1 : Int} {w : World} (h : main R np0_1 w) : Calls Try.prog 44 #[.int .u64 np0_1] w R := main_sound Try.func44 mixed (Eq.mp (main_eq R np0_1 w) h)
end F44
end Go.Proofs.Ytmngdgdmbebfhaa
