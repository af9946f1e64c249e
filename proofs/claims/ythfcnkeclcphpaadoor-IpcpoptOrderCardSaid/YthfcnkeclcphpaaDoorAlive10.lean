/- The document's Put and May; the chapter's examples; how long rows are. -/
import Derived.Test.YthfcnkeclcphpaaDoorRef10
set_option linter.unusedVariables false
set_option linter.unusedSimpArgs false
namespace Go.Proofs.YthfcnkeclcphpaaDoor
open Go Go.RowKit

/-! ### 1. Put, May -/
def may (x : Ip) : Bool := (x.h0 || x.v0 == 0) && (x.h1 || x.v1 == 0) && (x.h2 || x.v2 == 0)
def optN (b : Bool) (t v : Int) : List Op := if b = true then [⟨t, num32 v⟩] else []
def putRf (x : Ip) : List Op := (optN x.h0 3 x.v0 ++ optN x.h1 129 x.v1) ++ optN x.h2 131 x.v2
theorem put_may (x : Ip) : putO x = if may x = true then some (putRf x) else none := by
  obtain ⟨h0, v0, h1, v1, h2, v2⟩ := x
  unfold putO may putRf optN
  simp only [putGo, Ip.has, Ip.val]
  by_cases e0 : v0 = 0 <;> by_cases e1 : v1 = 0 <;> by_cases e2 : v2 = 0 <;> cases h0 <;> cases h1 <;> cases h2 <;> simp [e0, e1, e2, kt]
section
variable {w0 w : World} {O : Nat → Prop} {L R : List Assn} {g : Nat}
theorem May_ok {w : World} (x : Ip) : Calls Tryd.prog 19 #[x.enc] w fun e w' => e = .returned (.bool (may x)) ∧ Below w.heap.size w w' := by
  refine F19.calls ?_
  unfold F19.main
  refine boxE encIp x (St.refl w) (fun g1 w1 h1 => ?_)
  have c0 : w1.cell? ⟨g1, 0, none⟩ = some (.bool x.h0) := h1.cell .here rfl
  have c1 : w1.cell? ⟨g1, 1, none⟩ = some (.int .u32 x.v0) := h1.cell .here rfl
  have c2 : w1.cell? ⟨g1, 2, none⟩ = some (.bool x.h1) := h1.cell .here rfl
  have c3 : w1.cell? ⟨g1, 3, none⟩ = some (.int .u32 x.v1) := h1.cell .here rfl
  have c4 : w1.cell? ⟨g1, 4, none⟩ = some (.bool x.h2) := h1.cell .here rfl
  have c5 : w1.cell? ⟨g1, 5, none⟩ = some (.int .u32 x.v2) := h1.cell .here rfl
  have hb := h1.below
  unfold may
  refine ⟨x.h0, c0, ?_⟩
  have last : ∀ {R : Ending → World → Prop}, R (.returned (.bool (x.h2 || x.v2 == 0))) w1 → ∃ (b21_11 : Bool), w1.cell? ⟨g1, 4, none⟩ = some (.bool b21_11) ∧ (bif b21_11 then (R (.returned (.bool true)) w1) else (∃ (n24_12 : Int), w1.cell? ⟨g1, 5, none⟩ = some (.int .u32 n24_12) ∧ R (.returned (.bool (n24_12 == 0))) w1)) := by
    intro R hR
    refine ⟨x.h2, c4, ?_⟩
    cases h2 : x.h2 with
    | true => rw [h2] at hR; exact hR
    | false => rw [h2] at hR; exact ⟨x.v2, c5, hR⟩
  have mid : ∀ {R : Ending → World → Prop}, R (.returned (.bool ((x.h1 || x.v1 == 0) && (x.h2 || x.v2 == 0)))) w1 → ∃ (b12_10 : Bool), w1.cell? ⟨g1, 2, none⟩ = some (.bool b12_10) ∧ (bif b12_10 then (∃ (b21_11 : Bool), w1.cell? ⟨g1, 4, none⟩ = some (.bool b21_11) ∧ (bif b21_11 then (R (.returned (.bool true)) w1) else (∃ (n24_12 : Int), w1.cell? ⟨g1, 5, none⟩ = some (.int .u32 n24_12) ∧ R (.returned (.bool (n24_12 == 0))) w1))) else (∃ (n15_13 : Int), w1.cell? ⟨g1, 3, none⟩ = some (.int .u32 n15_13) ∧ (bif (n15_13 == 0) then (∃ (b21_14 : Bool), w1.cell? ⟨g1, 4, none⟩ = some (.bool b21_14) ∧ (bif b21_14 then (R (.returned (.bool true)) w1) else (∃ (n24_15 : Int), w1.cell? ⟨g1, 5, none⟩ = some (.int .u32 n24_15) ∧ R (.returned (.bool (n24_15 == 0))) w1))) else (R (.returned (.bool false)) w1)))) := by
    intro R hR
    refine ⟨x.h1, c2, ?_⟩
    cases h1 : x.h1 with
    | true => rw [h1] at hR; exact last hR
    | false =>
      rw [h1] at hR
      refine ⟨x.v1, c3, ?_⟩
      cases h3 : x.v1 == 0 with
      | true => rw [h3] at hR; exact last hR
      | false => rw [h3] at hR; exact hR
  cases h0 : x.h0 with
  | true =>
    rw [cond_true]
    refine mid (R := fun e w' => e = .returned (.bool ((true || x.v0 == 0) && (x.h1 || x.v1 == 0) && (x.h2 || x.v2 == 0))) ∧ Below w.heap.size w w') ⟨?_, hb⟩
    simp
  | false =>
    rw [cond_false]
    refine ⟨x.v0, c1, ?_⟩
    cases h3 : x.v0 == 0 with
    | true =>
      rw [cond_true]
      refine mid (R := fun e w' => e = .returned (.bool ((false || true) && (x.h1 || x.v1 == 0) && (x.h2 || x.v2 == 0))) ∧ Below w.heap.size w w') ⟨?_, hb⟩
      simp
    | false => exact ⟨by simp, hb⟩
theorem RefPut_ok {w : World} (x : Ip) : Calls Tryd.prog 20 #[x.enc] w fun e w' => ∃ A n c, e = .returned (.slice A n c) ∧ St w (World.all w) [opsC A n c (putRf x)] w' := by
  refine F20.calls ?_
  unfold F20.main
  refine boxE encIp x (St.refl w) (fun g1 w1 h1 => ?_)
  refine ⟨x.h0, h1.cell .here rfl, ?_⟩
  have k6 : ∀ (A : Option Addr) (n c : Nat) (w : World) (l : List Op) (w1 : World), n ≤ 2 → St w (World.all w) [opsC A n c l, blk g1 (.cells x.cells.toArray 30)] w1 →
      SK Tryd.prog Tryd.f20 (fun e w' => ∃ A n c, e = .returned (.slice A n c) ∧ St w (World.all w) [opsC A n c (l ++ optN x.h2 131 x.v2)] w') (cfg Tryd.f20 6) [(1, .pointer (some ⟨g1, 0, none⟩)), (3, .slice A n c)] w1 := by
    intro A n c w l w1 hn h1
    refine F20.p6_ok ?_
    unfold F20.p6
    refine ⟨x.h2, h1.cell (.there .here) rfl, ?_⟩
    cases hh : x.h2 with
    | true =>
      rw [cond_true]
      refine ⟨x.v2, h1.cell (.there .here) rfl, ?_⟩
      refine (num_ok h1 x.v2).mono ?_
      rintro e w2 ⟨rfl, h2⟩
      refine .inl ⟨_, rfl, ?_⟩
      refine bslE1 encOp elemOp ⟨131, num32 x.v2⟩ (by decide) h2 (fun g30 w3 h3 => ?_)
      refine appE encOp elemOp _ ⟨131, num32 x.v2⟩ h3 (.there .here) (h3.cells0 .here) (by omega) (by decide) (fun A' c' w4 h4 => ?_)
      exact ⟨A', n + 1, c', rfl, h4.sel 3 [0]⟩
    | false =>
      rw [cond_false]
      refine ⟨A, n, c, rfl, ?_⟩
      unfold optN
      rw [if_neg (by decide), List.append_nil]
      exact h1.sel 2 [0]
  have k4 : ∀ (A : Option Addr) (n c : Nat) (w : World) (l : List Op) (w1 : World), n ≤ 1 → St w (World.all w) [opsC A n c l, blk g1 (.cells x.cells.toArray 30)] w1 →
      SK Tryd.prog Tryd.f20 (fun e w' => ∃ A n c, e = .returned (.slice A n c) ∧ St w (World.all w) [opsC A n c ((l ++ optN x.h1 129 x.v1) ++ optN x.h2 131 x.v2)] w') (cfg Tryd.f20 4) [(1, .pointer (some ⟨g1, 0, none⟩)), (3, .slice A n c)] w1 := by
    intro A n c w l w1 hn h1
    refine F20.p4_ok ?_
    unfold F20.p4
    refine ⟨x.h1, h1.cell (.there .here) rfl, ?_⟩
    cases hh : x.h1 with
    | true =>
      rw [cond_true]
      refine ⟨x.v1, h1.cell (.there .here) rfl, ?_⟩
      refine (num_ok h1 x.v1).mono ?_
      rintro e w2 ⟨rfl, h2⟩
      refine .inl ⟨_, rfl, ?_⟩
      refine bslE1 encOp elemOp ⟨129, num32 x.v1⟩ (by decide) h2 (fun g30 w3 h3 => ?_)
      refine appE encOp elemOp _ ⟨129, num32 x.v1⟩ h3 (.there .here) (h3.cells0 .here) (by omega) (by decide) (fun A' c' w4 h4 => ?_)
      exact k6 A' (n + 1) c' w _ w4 (by omega) (h4.sel 3 [0, 2])
    | false =>
      rw [cond_false]
      have e : l ++ optN false 129 x.v1 = l := by unfold optN; rw [if_neg (by decide), List.append_nil]
      rw [e]
      exact k6 A n c w l w1 (by omega) h1
  unfold putRf
  cases hh : x.h0 with
  | true =>
    rw [cond_true]
    refine ⟨x.v0, h1.cell .here rfl, ?_⟩
    refine (num_ok h1 x.v0).mono ?_
    rintro e w2 ⟨rfl, h2⟩
    refine .inl ⟨_, rfl, ?_⟩
    refine bslE1 encOp elemOp ⟨3, num32 x.v0⟩ (by decide) h2 (fun g30 w3 h3 => ?_)
    have h4 := rowS_nil encOp h3
    refine appE encOp elemOp _ ⟨3, num32 x.v0⟩ h4 .here (h4.cells0 (.there .here)) (by decide) (by decide) (fun A' c' w5 h5 => ?_)
    exact k4 A' (0 + 1) c' w [⟨3, num32 x.v0⟩] w5 (by decide) (h5.sel 3 [0, 2])
  | false =>
    rw [cond_false]
    exact k4 none 0 0 w [] w1 (by decide) (rowS_nil encOp h1)
end
/-! ### 2. The examples -/
def tA : ByteArray := { data := #[49, 48, 46, 48, 46, 48, 46, 49] }
def tB : ByteArray := { data := #[49, 48, 46, 48, 46, 48, 46, 50, 53, 54] }
def tC : ByteArray := { data := #[49, 48, 46, 48, 46, 48, 46, 48, 49] }
theorem text_tA : textV 167772161 = tA := by
  have h : decide (textV 167772161 = tA) = true := by kernel_rfl
  exact of_decide_eq_true h
theorem read_tB : readE tB = 7 := by kernel_rfl
theorem read_tC : readE tC = 7 := by kernel_rfl
theorem alive_ok {w : World} (hG : Glob w) : Calls Tryd.prog 7 #[] w fun e w' => e = .returned (.bool true) ∧ Below w.heap.size w w' := by
  have hrA := read_text (v := 167772161) (by decide) (by decide)
  rw [text_tA] at hrA
  refine F7.calls ?_
  unfold F7.main
  refine (Read_ok hG tA (by decide)).mono ?_
  rintro e w1 ⟨rfl, b1⟩
  refine .inl ⟨_, _, rfl, ?_⟩
  rw [hrA.1, hrA.2]
  have G1 := hG.below b1
  refine (Read_ok G1 tB (by decide)).mono ?_
  rintro e w2 ⟨rfl, b2⟩
  refine .inl ⟨_, _, rfl, ?_⟩
  rw [read_tB]
  have G2 := G1.below b2
  refine (Read_ok G2 tC (by decide)).mono ?_
  rintro e w3 ⟨rfl, b3⟩
  refine .inl ⟨_, _, rfl, ?_⟩
  rw [read_tC]
  have G3 := G2.below b3
  refine (show Calls Tryd.prog 12 #[.agg #[.bool true, .int .u32 167772161, .bool false, .int .u32 0, .bool false, .int .u32 0]] w3 _ from Put_ok G3 ⟨true, 167772161, false, 0, false, 0⟩).mono ?_
  rintro e w4 ⟨A, n, c, rfl, h4⟩
  refine .inl ⟨_, _, _, _, rfl, ?_⟩
  have G4 := G3.old h4
  refine (show Calls Tryd.prog 12 #[.agg #[.bool false, .int .u32 1, .bool false, .int .u32 0, .bool false, .int .u32 0]] w4 _ from Put_ok G4 ⟨false, 1, false, 0, false, 0⟩).mono ?_
  rintro e w5 ⟨A5, n5, c5, rfl, h5⟩
  refine .inl ⟨_, _, _, _, rfl, ?_⟩
  have G5 := G4.old h5
  have h45 := h4.over h5.below
  refine (Text_ok 167772161 G5).mono ?_
  rintro e w6 ⟨rfl, b6⟩
  refine .inl ⟨_, rfl, ?_⟩
  have h6 := h45.over b6
  rw [text_tA, show (tA == { data := #[49, 48, 46, 48, 46, 48, 46, 49] }) = true from by rw [ba_beq]; exact decide_eq_true rfl, cond_true]
  rw [show ((167772161 : Int) == 167772161) = true from rfl, cond_true, show ((0 : Int) == 0) = true from rfl, cond_true, show ((7 : Int) == 7) = true from rfl, cond_true, cond_true]
  refine bslE1 encOp elemOp ⟨3, { data := #[10, 0, 0, 1] }⟩ (by decide) h6 (fun g54 w7 h7 => ?_)
  have h8 := rowS_of encOp (xs := [⟨3, { data := #[10, 0, 0, 1] }⟩]) (k := 1) rfl (by decide) h7 .here
  have e1 : putL ⟨true, 167772161, false, 0, false, 0⟩ = [⟨3, { data := #[10, 0, 0, 1] }⟩] := by
    have h : decide (putL ⟨true, 167772161, false, 0, false, 0⟩ = [⟨3, { data := #[10, 0, 0, 1] }⟩]) = true := by kernel_rfl
    exact of_decide_eq_true h
  have e2 : putE ⟨true, 167772161, false, 0, false, 0⟩ = 0 := rfl
  have e3 : putE ⟨false, 1, false, 0, false, 0⟩ = 2 := rfl
  rw [e1] at h8
  have a1 := argOwn (h8.pick (.there .here))
  have a2 := argOwn h8
  obtain rfl : n = 1 := by have := a1.1; simpa using this.symm
  refine (Same_ok a1 a2 (by decide)).mono ?_
  rintro e w9 ⟨rfl, b9⟩
  refine .inl ⟨_, rfl, ?_⟩
  rw [e2, e3, cond_true, show ((0 : Int) == 0) = true from rfl, cond_true]
  refine ⟨rfl, ?_⟩
  have hb8 := (h8.over b9).below
  exact b1.trans ((b2.trans ((b3.trans (hb8.mono b3.size)).mono b2.size)).mono b1.size)
/-! ### 3. How long rows are -/
theorem Long_ok {w : World} {A : Option Addr} {len c : Nat} {l : List Op} (ha : ArgO w A len l) : Calls Tryd.prog 14 #[.slice A len c] w fun e w' => (∃ b, e = .returned (.bool b) ∧ (b = false → len ≤ 70)) ∧ w' = w := by
  refine F14.calls ?_
  unfold F14.main
  have fin : ∀ (n : Int), SK Tryd.prog Tryd.f14 (fun e w' => (∃ b, e = .returned (.bool b) ∧ (b = false → len ≤ 70)) ∧ w' = w) (cfg Tryd.f14 6) [(0, .slice A len c), (3, .int .i64 n)] w := by
    intro n
    refine F14.p6_ok ?_
    unfold F14.p6
    by_cases h70 : len > 70
    · rw [decide_eq_true (show ((len : Nat) : Int) > 70 by omega), cond_true]
      exact ⟨⟨_, rfl, fun h => by cases h⟩, rfl⟩
    · rw [decide_eq_false (show ¬ ((len : Nat) : Int) > 70 by omega), cond_false]
      exact ⟨⟨_, rfl, fun _ => by omega⟩, rfl⟩
  have loop : ∀ (k i : Nat) (n : Int), k + i = 80 → SK Tryd.prog Tryd.f14 (fun e w' => (∃ b, e = .returned (.bool b) ∧ (b = false → len ≤ 70)) ∧ w' = w) (cfg Tryd.f14 3) [(0, .slice A len c), (3, .int .i64 n), (4, .int .i64 (i : Int))] w := by
    intro k
    induction k with
    | zero =>
      intro i n hk
      obtain rfl : i = 80 := by omega
      refine F14.p3_ok ?_
      unfold F14.p3
      by_cases hlt : 80 < len
      · rw [decide_eq_true (by omega), cond_true, decide_eq_false (by decide), cond_false]
        exact fin n
      · rw [decide_eq_false (by omega), cond_false]
        exact fin n
    | succ k ih =>
      intro i n hk
      refine F14.p3_ok ?_
      unfold F14.p3
      by_cases hlt : i < len
      · rw [decide_eq_true (by omega), cond_true, decide_eq_true (by omega), cond_true]
        have hil : i < l.length := by have := ha.1; omega
        obtain ⟨o, ho⟩ : ∃ o, l[i]? = some o := ⟨l[i], List.getElem?_eq_getElem hil⟩
        obtain ⟨a, hA, hc⟩ := ha.2 i o ho
        simp only [idxck, hA, nilck, Int.toNat_natCast]
        refine ⟨⟨by omega, by omega⟩, o.d, hc.2.1, ?_⟩
        rw [nat_wrap' (by omega), ← hA]
        exact ih (i + 1) _ (by omega)
      · rw [decide_eq_false (by omega), cond_false]
        exact fin n
  exact loop 80 0 0 rfl
end Go.Proofs.YthfcnkeclcphpaaDoor
