/- The law WheelPlays, walked: the wheel answers as the document does. -/
import Derived.Test.YtmngdgdmbebfhaaLawPlaysP
import Derived.Test.YtmngdgdmbebfhaaSteps21
set_option linter.unusedVariables false
set_option linter.unusedSimpArgs false
namespace Go.Proofs.Ytmngdgdmbebfhaa
open Go Go.RowKit

section
variable {w0 w : World} {O : Nat → Prop} {L : List Assn} {g gr : Nat} {s : WS} {t : Int} {l : List Al}
theorem isR_now (h : St w0 O (isR g t l :: L) w) : w.cell? ⟨g, 0, none⟩ = some (.int .i64 t) := by
  obtain ⟨A, n, c, h1⟩ := isR_open h
  exact h1.cell .here rfl
theorem row_bounds (hS : wS s) : ∀ x ∈ rowO s, 0 ≤ x.at_ ∧ x.at_ < 2 ^ 62 := fun x hx => by
  have h1 := hS.of_cur ((rowO_mem hS).1 hx)
  have := hS.n0
  have := hS.n1
  omega
abbrev PlayR (w0 : World) : Ending → World → Prop := fun e w' => e = .returned (.bool true) ∧ ∃ L, St w0 (World.all w0) L w'
abbrev PlayNext (w0 : World) (A : Option Addr) (l c : Nat) (key : Int) (gr i : Nat) : Prop := ∀ (g : Nat) (s : WS) (L : List Assn) (w : World), wS s → s.seq ≤ (i : Int) → St w0 (World.all w0) (isW g s :: isR gr s.now (rowO s) :: L) w →
  SK Try.prog Try.f5 (PlayR w0) (cfg Try.f5 14) [(0, .slice A l c), (1, .int .u64 key), (12, .pointer (some ⟨g, 0, none⟩)), (13, .pointer (some ⟨gr, 0, none⟩)), (14, .int .i64 (i : Int))] w
theorem plays_end {A : Option Addr} {l c gr i : Nat} {key : Int} (hi : i < 1000) (next : PlayNext w0 A l c key gr (i + 1)) (hS : wS s) (hq : s.seq ≤ ((i + 1 : Nat) : Int)) (h : St w0 (World.all w0) (isW g s :: isR gr s.now (rowO s) :: L) w) :
    SK Try.prog Try.f5 (PlayR w0) (cfg Try.f5 34) [(0, .slice A l c), (1, .int .u64 key), (12, .pointer (some ⟨g, 0, none⟩)), (13, .pointer (some ⟨gr, 0, none⟩)), (14, .int .i64 (i : Int)), (16, .bool true)] w := by
  have hn0 := hS.n0
  have hn1 := hS.n1
  have hlen := hS.len
  have hrl : (rowO s).length = s.by_.length := rowO_len
  refine F5.p34_ok ?_
  unfold F5.p34
  refine (Left_ok h key).mono ?_
  rintro e w1 ⟨rfl, h1⟩
  refine .inl ⟨_, _, rfl, ?_⟩
  refine (refLeft_ok (h1.pick (.there .here)) key hn0 (by omega) (row_bounds hS) (by omega)).mono ?_
  rintro e w2 ⟨rfl, h2⟩
  refine .inl ⟨_, _, rfl, ?_⟩
  refine (Next_ok (h2.pick (.there .here))).mono ?_
  rintro e w3 ⟨rfl, h3⟩
  refine .inl ⟨_, _, rfl, ?_⟩
  refine (refNext_ok (h3.pick (.there .here)) hn0 (row_bounds hS) (by omega)).mono ?_
  rintro e w4 ⟨rfl, h4⟩
  refine .inl ⟨_, _, rfl, ?_⟩
  simp only [Bool.not_true, cond_false]
  have h5 := h4.drew
  refine ⟨s.now, isR_now h5, ?_⟩
  refine (Now_ok (h5.pick (.there .here))).mono ?_
  rintro e w6 ⟨rfl, h6⟩
  refine .inl ⟨_, rfl, fun _ => isR_now (h6.pick (.there .here)), ?_⟩
  rw [show (s.now != s.now) = false from by simp, cond_false]
  refine (Keys_ok h6 (by omega)).mono ?_
  rintro e w7 ⟨B, n, d, rfl, h7⟩
  refine .inl ⟨_, _, _, rfl, ?_⟩
  refine (refKeys_ok (h7.pick (.there (.there .here))) (by omega)).mono ?_
  rintro e w8 ⟨B', n', d', rfl, h8⟩
  refine .inl ⟨_, _, _, rfl, ?_⟩
  have h9 := h8.pick (.there (.there .here))
  have hk := keys_len h9
  unfold keysO at hk
  rw [List.length_map] at hk
  change n = (rowO s).length at hk
  refine (Same_ok h9 (by omega)).mono ?_
  rintro e w10 ⟨rfl, h10⟩
  refine .inl ⟨_, rfl, ?_⟩
  rw [show decide (keysO s = (rowO s).map (·.key)) = true from decide_eq_true rfl]
  simp only [Bool.not_true, cond_false]
  rw [left_eq hS, next_eq hS]
  simp only [bne_self_eq_false, beq_self_eq_true, Bool.not_true, cond_false]
  rw [show IntKind.wrap .i64 ((i : Int) + 1) = ((i + 1 : Nat) : Int) from by rw [wrap_i64 (by omega) (by omega)]; rfl]
  exact next g s L w10 hS hq (h10.drop.drop.pick (.there .here))
theorem plays_round {A : Option Addr} {l c gr : Nat} {key : Int} (ha : ArgS w0 A l) (hl : l ≤ 200) : ∀ (k i : Nat), k + i = l → PlayNext w0 A l c key gr i := by
  intro k
  induction k with
  | zero =>
    intro i hk g s L w hS hq h
    refine F5.p14_ok ?_
    unfold F5.p14
    rw [decide_eq_false (by omega), cond_false]
    refine (alive_ok h).mono ?_
    rintro e w1 ⟨rfl, h1⟩
    exact .inl ⟨_, rfl, rfl, _, h1⟩
  | succ k ih =>
    intro i hk g s L w hS hq h
    have next := ih (i + 1) (by omega)
    have hi : i < 1000 := by omega
    have hn0 := hS.n0
    have hn1 := hS.n1
    have hq0 := hS.q0
    have hlen := hS.len
    have hrl : (rowO s).length = s.by_.length := rowO_len
    refine F5.p14_ok ?_
    unfold F5.p14
    rw [decide_eq_true (by omega), cond_true]
    obtain ⟨a, rfl, d, ky, n, hc⟩ := ha i (by omega)
    refine ⟨⟨by omega, by omega⟩, ?_⟩
    simp only [nilck, Int.toNat_natCast]
    refine ⟨d, ky, n, h.oldCells hc, ?_⟩
    refine new_alloc (z := .agg #[.int .i64 0, .int .u64 0, .int .i64 0]) h (by kernel_rfl) (fun g6 w2 h2 => ?_)
    refine st_W h2 .here 29 (by kernel_rfl) rfl (Nat.le_refl 3) (fun w3 h3 => ?_)
    have h3 : St w0 (World.all w0) (blk g6 (.cells #[.int .i64 d, .int .u64 ky, .int .i64 n] 29) :: isW g s :: isR gr s.now (rowO s) :: L) w3 := h3
    refine ⟨d, h3.cell .here rfl, ?_⟩
    by_cases d0 : d = 0
    · subst d0
      rw [show ((0 : Int) == 0) = true from rfl, cond_true]
      have h4 := h3.drew
      refine ⟨ky, h4.cell .here rfl, n, h4.cell .here rfl, ky, h4.cell .here rfl, n, h4.cell .here rfl, ?_⟩
      refine (Set_ok (h4.pick (.there .here)) (by omega) ky n).mono ?_
      rintro e w5 ⟨rfl, h5⟩
      refine .inl ⟨_, rfl, fun _ => h5.cell (.there .here) rfl, fun _ => h5.cell (.there .here) rfl, ?_⟩
      refine (refSet_ok (h5.pick (.there (.there .here))) ⟨ky, s.now + n, s.seq + 1⟩ n rfl hn0 hn1 (by omega)).mono ?_
      rintro e w6 ⟨rfl, h6⟩
      refine .inl ⟨_, rfl, ?_⟩
      rw [show refSetE (rowO s) (Al.key ⟨ky, s.now + n, s.seq + 1⟩) n = setE s ky n from setE_eq hS ky n, show (setE s ky n == setE s ky n) = true from by simp, ← rowO_set hS (by omega)] at *
      have hnow : (setS s ky n).now = s.now := by unfold setS; split <;> rfl
      have hseq : (setS s ky n).seq ≤ s.seq + 1 := by unfold setS; split <;> (try simp only []) <;> omega
      refine plays_end (L := blk g6 (.cells #[.int .i64 0, .int .u64 ky, .int .i64 n] 29) :: L) hi next (setS_ok hS (by omega) ky n) (by omega) ?_
      rw [hnow]
      exact h6.pick (.there .here)
    rw [show (d == 0) = false from by simpa using d0, cond_false]
    by_cases d1 : d = 1
    · subst d1
      rw [show ((1 : Int) == 1) = true from rfl, cond_true]
      have h4 := h3.drew
      refine ⟨ky, h4.cell .here rfl, ky, h4.cell .here rfl, ?_⟩
      refine (Clear_ok (h4.pick (.there .here)) ky).mono ?_
      rintro e w5 ⟨rfl, h5⟩
      refine .inl ⟨_, rfl, fun _ => h5.cell (.there .here) rfl, ?_⟩
      refine (refClear_ok (h5.pick (.there (.there .here))) ky (by omega)).mono ?_
      rintro e w6 ⟨rfl, h6⟩
      refine .inl ⟨_, rfl, ?_⟩
      have hcn := clear_none hS ky
      rw [show ((if (mget s.by_ ky).isSome then (0 : Int) else 3) == (if (refClear (rowO s) ky).length = (rowO s).length then 3 else 0)) = true from by
        cases hm : mget s.by_ ky with
        | none => rw [if_pos (hcn.2 hm)]; rfl
        | some v => rw [if_neg (show ¬ (refClear (rowO s) ky).length = (rowO s).length from fun h => by rw [hcn.1 h] at hm; cases hm)]; rfl]
      rw [← rowO_clear hS] at h6
      exact plays_end (s := clearS s ky) (L := blk g6 (.cells #[.int .i64 1, .int .u64 ky, .int .i64 n] 29) :: L) hi next (wS_clear hS ky) (by show s.seq ≤ _; omega) (h6.pick (.there .here))
    rw [show (d == 1) = false from by simpa using d1, cond_false]
    by_cases d2 : d = 2
    · subst d2
      rw [show ((2 : Int) == 2) = true from rfl, cond_true]
      refine ⟨n, h3.cell .here rfl, ?_⟩
      refine (Tick_ok (h3.pick (.there .here)) (by omega) n).mono ?_
      rintro e w5 ⟨B, m, e', rfl, h5⟩
      refine .inl ⟨_, _, _, _, rfl, n, h5.cell (.there (.there .here)) rfl, ?_⟩
      refine (refTick_ok (h5.pick (.there (.there (.there .here)))) n hn0 hn1 (by omega)).mono ?_
      rintro e w6 ⟨B', m', e'', rfl, h6⟩
      refine .inl ⟨_, _, _, _, rfl, ?_⟩
      have hE : refTickE s.now n = tickE s n := rfl
      have hdue := due_row hS (s.now + n)
      have hK : refTickK s.now n (rowO s) = tickO s n := by
        unfold refTickK tickO
        rw [hE, hdue.1]
      have hL : refTickL s.now n (rowO s) = rowO (tickS s n) := by
        unfold refTickL tickS
        rw [hE, hdue.2]
        split <;> rfl
      have hT : refTickT s.now n = (tickS s n).now := by
        unfold refTickT tickS
        rw [hE]
        split <;> rfl
      have hseq : (tickS s n).seq = s.seq := by unfold tickS; split <;> rfl
      rw [hK, hL, hT] at h6
      have h7 := h6.pick (.there (.there .here))
      have hk := keys_len h7
      have hko : (tickO s n).length ≤ s.by_.length := by
        unfold tickO Dl
        split
        · rw [List.length_map, (ord_perm _).length_eq, List.length_map]
          exact List.length_filter_le _ _
        · exact Nat.zero_le _
      refine (Same_ok h7 (by omega)).mono ?_
      rintro e w8 ⟨rfl, h8⟩
      refine .inl ⟨_, rfl, ?_⟩
      rw [decide_eq_true rfl, cond_true, hE, show (tickE s n == tickE s n) = true from by simp]
      exact plays_end (s := tickS s n) (L := blk g6 (.cells #[.int .i64 2, .int .u64 ky, .int .i64 n] 29) :: L) hi next (wS_tick hS n) (by rw [hseq]; omega) (h8.drop.drop.pick (.there .here))
    rw [show (d == 2) = false from by simpa using d2, cond_false]
    by_cases d3 : d = 3
    · subst d3
      rw [show ((3 : Int) == 3) = true from rfl, cond_true]
      refine (Copy_ok (h3.pick (.there .here)) (by omega)).mono ?_
      rintro e w5 ⟨g', rfl, h5⟩
      refine .inl ⟨_, rfl, ?_⟩
      simp only [Option.isNone, cond_false]
      refine (Set_ok (h5.pick (.there .here)) (by omega) 99 1).mono ?_
      rintro e w6 ⟨rfl, h6⟩
      refine .inl ⟨_, rfl, ?_⟩
      have hseq : (setS s 99 1).seq ≤ s.seq + 1 := by unfold setS; split <;> (try simp only []) <;> omega
      refine (Tick_ok h6 (by omega) 5).mono ?_
      rintro e w7 ⟨B, m, e', rfl, h7⟩
      refine .inl ⟨_, _, _, _, rfl, ?_⟩
      have h8 := h7.drop.drop
      exact plays_end (L := blk g6 (.cells #[.int .i64 3, .int .u64 ky, .int .i64 n] 29) :: L) hi next hS (by omega) ((h8.pick (.there (.there .here))).pick (.there .here))
    rw [show (d == 3) = false from by simpa using d3, cond_false]
    exact plays_end (L := blk g6 (.cells #[.int .i64 d, .int .u64 ky, .int .i64 n] 29) :: L) hi next hS (by omega) ((h3.pick (.there (.there .here))).pick (.there (.there .here)))
theorem plays_law {A : Option Addr} {l c : Nat} {key : Int} (ha : ArgS w A l) (hkey : (Lit.int .u64 key).wf = true) : Calls Try.prog 5 #[.slice A l c, .int .u64 key] w fun e w' => e = .returned (.bool true) ∧ ∃ L, St w (World.all w) L w' := by
  have h := St.refl w
  refine F5.calls ?_
  unfold F5.main
  by_cases c1 : l ≤ 200
  · rw [decide_eq_false (by omega), cond_false]
    refine (show Calls Try.prog 11 #[.pointer none, .int .i64 1] w (fun e w' => e = .returned (.tuple #[.slice none 0 0, .int .i64 1]) ∧ w' = w) from F11.calls ⟨rfl, rfl⟩).mono ?_
    rintro e w1 ⟨rfl, rfl⟩
    refine .inl ⟨_, _, _, _, rfl, ?_⟩
    refine (show Calls Try.prog 15 #[.pointer none, .int .u64 key] w1 (fun e w' => e = .returned (.tuple #[.int .i64 0, .bool false]) ∧ w' = w1) from F15.calls ⟨rfl, rfl⟩).mono ?_
    rintro e w2 ⟨rfl, rfl⟩
    refine .inl ⟨_, _, rfl, ?_⟩
    refine (show Calls Try.prog 12 #[.pointer none] w2 (fun e w' => e = .returned (.tuple #[.int .i64 0, .bool false]) ∧ w' = w2) from F12.calls ⟨rfl, rfl⟩).mono ?_
    rintro e w3 ⟨rfl, rfl⟩
    refine .inl ⟨_, _, rfl, ?_⟩
    refine (show Calls Try.prog 8 #[.pointer none, .int .u64 1, .int .i64 1] w3 (fun e w' => e = .returned (.int .i64 1) ∧ w' = w3) from F8.calls ⟨rfl, rfl⟩).mono ?_
    rintro e w4 ⟨rfl, rfl⟩
    refine .inl ⟨_, rfl, ?_⟩
    rw [show ((1 : Int) != 1) = false from rfl, cond_false]
    refine (show Calls Try.prog 10 #[.pointer none, .int .u64 1] w4 (fun e w' => e = .returned (.int .i64 1) ∧ w' = w4) from F10.calls ⟨rfl, rfl⟩).mono ?_
    rintro e w5 ⟨rfl, rfl⟩
    refine .inl ⟨_, rfl, ?_⟩
    rw [show ((1 : Int) != 1) = false from rfl]
    simp only [cond_false]
    refine (show Calls Try.prog 9 #[.pointer none] w5 (fun e w' => e = .returned (.int .i64 0) ∧ w' = w5) from F9.calls ⟨rfl, rfl⟩).mono ?_
    rintro e w6 ⟨rfl, rfl⟩
    refine .inl ⟨_, rfl, ?_⟩
    rw [show ((0 : Int) != 0) = false from rfl, cond_false]
    refine (show Calls Try.prog 13 #[.pointer none] w6 (fun e w' => e = .returned (.slice none 0 0) ∧ w' = w6) from F13.calls ⟨rfl, rfl⟩).mono ?_
    rintro e w7 ⟨rfl, rfl⟩
    refine .inl ⟨_, _, _, rfl, ?_⟩
    rw [show (((0 : Nat) : Int) != 0) = false from rfl, cond_false]
    refine (show Calls Try.prog 16 #[.pointer none] w7 (fun e w' => e = .returned (.pointer none) ∧ w' = w7) from F16.calls ⟨rfl, rfl⟩).mono ?_
    rintro e w8 ⟨rfl, rfl⟩
    refine .inl ⟨_, rfl, ?_⟩
    simp only [Option.isNone, Bool.not_true, cond_false]
    refine F5.p9_ok ?_
    unfold F5.p9
    refine (New_ok h).mono ?_
    rintro e w9 ⟨g, rfl, h1⟩
    refine .inl ⟨_, rfl, ?_⟩
    refine new_box h1 (fun gr w10 h2 => ?_)
    simp only [Option.isNone, cond_false]
    have h3 := rowC_nil h2 74 2
    have h4 : St w8 (World.all w8) (isR gr 0 [] :: isW g WS.zero :: []) w10 := isR_shut (A := none) (n := 0) (c := 0) (h3.pick (.there .here))
    exact plays_round ha c1 l 0 rfl g WS.zero [] w10 wS_zero (Int.le_refl _) (h4.pick (.there .here))
  · rw [decide_eq_true (by omega), cond_true]
    refine (alive_ok h).mono ?_
    rintro e w1 ⟨rfl, h1⟩
    exact .inl ⟨_, rfl, rfl, _, h1⟩
end
end Go.Proofs.Ytmngdgdmbebfhaa
