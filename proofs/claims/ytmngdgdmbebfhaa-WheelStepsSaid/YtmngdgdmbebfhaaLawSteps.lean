/- The law WheelSteps: in however many steps the time goes, the same alarms are due, in the same order. -/
import Derived.Test.YtmngdgdmbebfhaaLaw21
set_option linter.unusedVariables false
set_option linter.unusedSimpArgs false
namespace Go.Proofs.Ytmngdgdmbebfhaa
open Go Go.RowKit

theorem wf_u32 {n : Int} (h : (Lit.int .u32 n).wf = true) : 0 ≤ n ∧ n < 4294967296 := by
  simp [Lit.wf, IntKind.min, IntKind.max, IntKind.signed, IntKind.bits] at h
  omega
theorem wf_u16 {n : Int} (h : (Lit.int .u16 n).wf = true) : 0 ≤ n ∧ n < 65536 := by
  simp [Lit.wf, IntKind.min, IntKind.max, IntKind.signed, IntKind.bits] at h
  omega
theorem argOf {k : IntKind} {w : World} {a : Addr} {l c : Nat} {zs : List Int} (hl : l ≤ c) (hz : zs.length = c) (hc : ∀ i, i < zs.length → w.cell? (a.add i) = some (.int k (zs.getD i 0))) (hw : ∀ n ∈ zs, (Lit.int k n).wf = true) :
    Arg k w (some a) l zs := fun j hj => ⟨a, rfl, hc j (by omega), hw _ (by rw [List.getD_eq_getElem?_getD, List.getElem?_eq_getElem (by omega)]; exact List.getElem_mem _)⟩
section
variable {w0 w : World} {L : List Assn}
theorem steps_tail {ga gb : Nat} {s : WS} {A1 : Option Addr} {l1 c1 : Nat} {ys : List Int} (a1 : Arg .u16 w0 A1 l1 ys) (hl1 : l1 ≤ 100) (hS : wS s) (hq : s.seq < 2 ^ 20) (h0 : s.now = 0) : ∀ (k i : Nat) (m : Int) (A : Option Addr) (l c : Nat) (w : World), k + i = l1 →
    0 ≤ m → m ≤ 65536 * (i : Int) → St w0 (World.all w0) [isW ga (T s m), isW gb s, keysC A l c ((ord (Dl s m)).map (·.key))] w →
    SK Try.prog Try.f4 (fun e w' => e = .returned (.bool true) ∧ ∃ L, St w0 (World.all w0) L w') (cfg Try.f4 15)
      [(1, .slice A1 l1 c1), (5, .pointer (some ⟨ga, 0, none⟩)), (6, .pointer (some ⟨gb, 0, none⟩)), (9, .slice A l c), (10, .int .i64 m), (11, .int .i64 (i : Int))] w := by
  intro k
  induction k with
  | zero =>
    intro i m A l c w hk hm0 hm1 h
    refine F4.p15_ok ?_
    unfold F4.p15
    rw [decide_eq_false (by omega), cond_false]
    have e0 : tickE s m = 0 := if_neg (by omega)
    have eS : tickS s m = T s m := by unfold tickS; rw [if_pos e0, h0, Int.zero_add]
    have eO : tickO s m = (ord (Dl s m)).map (·.key) := by unfold tickO; rw [if_pos e0, h0, Int.zero_add]
    refine (Tick_ok (h.pick (.there .here)) (by omega) m).mono ?_
    rintro e w1 ⟨B, l2, c2, rfl, h1⟩
    rw [e0, eS, eO] at *
    refine .inl ⟨_, _, _, _, rfl, ?_⟩
    simp only [show ((0 : Int) == 0) = true from rfl, cond_true]
    have h2 := h1.pick (.there (.there (.there .here)))
    have hkl := keys_len h2
    have hDl : (ord (Dl s m)).length < 2 ^ 30 := by
      rw [(ord_perm _).length_eq]
      unfold Dl
      have h1 := List.length_filter_le (fun p : Int × Al => decide (p.2.at_ ≤ m)) s.by_
      have := hS.len
      rw [List.length_map]
      omega
    rw [List.length_map] at hkl
    refine (Same_ok h2 (by omega)).mono ?_
    rintro e w3 ⟨rfl, h3⟩
    rw [decide_eq_true rfl]
    refine .inl ⟨_, rfl, ?_⟩
    simp only [cond_true]
    have h4 := h3.drop.drop
    refine (Now_ok (h4.pick (.there .here))).mono ?_
    rintro e w4 ⟨rfl, h5⟩
    refine .inl ⟨_, rfl, ?_⟩
    rw [show ((T s m).now == m) = true from by simp [T]]
    simp only [cond_true]
    refine (Now_ok (h5.pick (.there .here))).mono ?_
    rintro e w5 ⟨rfl, h6⟩
    refine .inl ⟨_, rfl, ?_⟩
    rw [show ((T s m).now == m) = true from by simp [T]]
    simp only [cond_true]
    have hq' : (T s m).seq < 2 ^ 30 := by show s.seq < 2 ^ 30; omega
    refine (Keys_ok (h6.pick (.there .here)) hq').mono ?_
    rintro e w6 ⟨C, l3, c3, rfl, h7⟩
    refine .inl ⟨_, _, _, rfl, ?_⟩
    refine (Keys_ok (h7.pick (.there (.there .here))) hq').mono ?_
    rintro e w7 ⟨D, l4, c4, rfl, h8⟩
    refine .inl ⟨_, _, _, rfl, ?_⟩
    have h9 := h8.pick (.there (.there .here))
    have hkl2 := keys_len h9
    have hk2 : (keysO (T s m)).length < 2 ^ 30 := by
      unfold keysO
      rw [List.length_map, (ord_perm _).length_eq, List.length_map]
      have h1 := List.length_filter_le (fun p : Int × Al => decide (m < p.2.at_)) s.by_
      have := hS.len
      show (s.by_.filter _).length < _
      omega
    refine (Same_ok h9 (by omega)).mono ?_
    rintro e w8 ⟨rfl, h10⟩
    rw [decide_eq_true rfl]
    refine .inl ⟨_, rfl, ?_⟩
    simp only [cond_true]
    refine (alive_ok h10).mono ?_
    rintro e w9 ⟨rfl, h11⟩
    exact .inl ⟨_, rfl, rfl, _, h11⟩
  | succ k ih =>
    intro i m A l c w hk hm0 hm1 h
    refine F4.p15_ok ?_
    unfold F4.p15
    rw [decide_eq_true (by omega), cond_true]
    obtain ⟨a, rfl, hc, hwf⟩ := a1 i (by omega)
    generalize ys.getD i 0 = y at *
    have hy := wf_u16 hwf
    refine ⟨⟨by omega, by omega⟩, ?_⟩
    simp only [nilck, Int.toNat_natCast, Nat.mul_one]
    refine ⟨y, h.oldCell hc, ?_⟩
    rw [wrap_i64 (n := y) (by omega) (by omega)]
    have e0 : tickE (T s m) y = 0 := if_neg (by show ¬ (_ ∨ _ ∨ _ < m); omega)
    have eS : tickS (T s m) y = T s (m + y) := by unfold tickS; rw [if_pos e0]; exact T_T (by show m ≤ m + y; omega)
    have eO : tickO (T s m) y = (ord (Dl (T s m) (m + y))).map (·.key) := by unfold tickO; rw [if_pos e0]; rfl
    refine (Tick_ok h (by show s.seq < 2 ^ 30; omega) y).mono ?_
    rintro e w1 ⟨B, l2, c2, rfl, h1⟩
    rw [e0, eS, eO] at *
    refine .inl ⟨_, _, _, _, rfl, ?_⟩
    simp only [show ((0 : Int) != 0) = false from rfl, cond_false]
    have hcat := ord_Dl hS (show m ≤ m + y by omega)
    have h2 := h1.pick (.there (.there (.there .here)))
    have hk1 := keys_len h2
    have hk2 := keys_len h2.drop
    rw [List.length_map] at hk1 hk2
    have hDl : (ord (Dl s (m + y))).length < 2 ^ 30 := by
      rw [(ord_perm _).length_eq]
      unfold Dl
      have h1 := List.length_filter_le (fun p : Int × Al => decide (p.2.at_ ≤ m + y)) s.by_
      have := hS.len
      rw [List.length_map]
      omega
    have hlc := congrArg List.length hcat
    rw [List.length_append] at hlc
    refine appendKs h2 (by omega) (fun A' c' w2 h3 => ?_)
    refine ⟨⟨by omega, by omega⟩, ?_⟩
    simp only [nilck, Int.toNat_natCast, Nat.mul_one]
    refine ⟨y, h3.oldCell hc, ?_⟩
    rw [wrap_i64 (n := y) (by omega) (by omega), wrap_i64 (n := m + y) (by omega) (by omega), show IntKind.wrap .i64 ((i : Int) + 1) = ((i + 1 : Nat) : Int) from by rw [wrap_i64 (by omega) (by omega)]; rfl]
    refine ih (i + 1) (m + y) A' (l + l2) c' w2 (by omega) (by omega) (by omega) ?_
    rw [← hcat, List.map_append]
    exact ((h3.pick (.there .here)).drop.pick (.there (.there .here))).pick (.there (.there .here))
theorem steps_sets {ga gb : Nat} {A0 A1 : Option Addr} {l0 c0 l1 c1 : Nat} {xs ys : List Int} (a0 : Arg .u32 w0 A0 l0 xs) (a1 : Arg .u16 w0 A1 l1 ys) (hl0 : l0 ≤ 100) (hl1 : l1 ≤ 100) : ∀ (k i : Nat) (s : WS) (w : World), k + i = l0 →
    wS s → s.seq = (i : Int) → s.now = 0 → St w0 (World.all w0) [isW ga s, isW gb s] w →
    SK Try.prog Try.f4 (fun e w' => e = .returned (.bool true) ∧ ∃ L, St w0 (World.all w0) L w') (cfg Try.f4 7)
      [(0, .slice A0 l0 c0), (1, .slice A1 l1 c1), (5, .pointer (some ⟨ga, 0, none⟩)), (6, .pointer (some ⟨gb, 0, none⟩)), (7, .int .i64 (i : Int))] w := by
  intro k
  induction k with
  | zero =>
    intro i s w hk hS hq h0 h
    refine F4.p7_ok ?_
    unfold F4.p7
    rw [decide_eq_false (by omega), cond_false]
    refine steps_tail a1 hl1 hS (by omega) h0 l1 0 0 none 0 0 w rfl (by omega) (by omega) ?_
    rw [← h0, T_now hS, Dl_now hS]
    exact (rowC_nil h 27 1).pick (.there .here) |>.pick (.there (.there .here)) |>.pick (.there .here)
  | succ k ih =>
    intro i s w hk hS hq h0 h
    refine F4.p7_ok ?_
    unfold F4.p7
    rw [decide_eq_true (by omega), cond_true]
    obtain ⟨a, rfl, hc, hwf⟩ := a0 i (by omega)
    generalize xs.getD i 0 = x at *
    have hx := wf_u32 hwf
    refine ⟨⟨by omega, by omega⟩, ?_⟩
    simp only [nilck, Int.toNat_natCast, Nat.mul_one]
    refine ⟨x, h.oldCell hc, by decide, ?_⟩
    rw [wrap_i64 (n := x) (by omega) (by omega), Int.tmod_eq_emod_of_nonneg hx.1]
    have hm1 := Int.emod_lt_of_pos x (show (0 : Int) < 16777216 by decide)
    have hm2 := Int.emod_nonneg x (show (16777216 : Int) ≠ 0 by decide)
    rw [wrap_i64 (n := 1 + x % 16777216) (by omega) (by omega), wrap_u64 (n := (i : Int)) (by omega) (by omega)]
    have hlen := hS.len
    have e0 : setE s (i : Int) (1 + x % 16777216) = 0 := by
      unfold setE
      rw [if_neg (by omega), if_neg (by omega)]
    have hS' := setS_ok hS (by omega) (i : Int) (1 + x % 16777216)
    refine (Set_ok h (by omega) (i : Int) (1 + x % 16777216)).mono ?_
    rintro e w1 ⟨rfl, h1⟩
    rw [e0]
    refine .inl ⟨_, rfl, ?_⟩
    simp only [show ((0 : Int) != 0) = false from rfl, cond_false]
    refine (Set_ok (h1.pick (.there .here)) (by omega) (i : Int) (1 + x % 16777216)).mono ?_
    rintro e w2 ⟨rfl, h2⟩
    rw [e0]
    refine .inl ⟨_, rfl, ?_⟩
    simp only [show ((0 : Int) != 0) = false from rfl, cond_false]
    rw [show IntKind.wrap .i64 ((i : Int) + 1) = ((i + 1 : Nat) : Int) from by rw [wrap_i64 (by omega) (by omega)]; rfl]
    refine ih (i + 1) (setS s (i : Int) (1 + x % 16777216)) w2 (by omega) hS' ?_ ?_ (h2.pick (.there .here))
    · unfold setS; rw [if_pos e0]; show s.seq + 1 = _; omega
    · unfold setS; rw [if_pos e0]; exact h0
/-- The law. -/
theorem steps_law {A0 A1 : Option Addr} {l0 c0 l1 c1 : Nat} {xs ys : List Int} (a0 : Arg .u32 w A0 l0 xs) (a1 : Arg .u16 w A1 l1 ys) :
    Calls Try.prog 4 #[.slice A0 l0 c0, .slice A1 l1 c1] w fun e w' => e = .returned (.bool true) ∧ ∃ L, St w (World.all w) L w' := by
  have h := St.refl w
  refine F4.calls ?_
  unfold F4.main
  by_cases c1 : l0 ≤ 100
  · rw [decide_eq_false (by omega), cond_false]
    by_cases c2 : l1 ≤ 100
    · rw [decide_eq_false (by omega), cond_false]
      refine F4.p3_ok ?_
      unfold F4.p3
      refine (New_ok h).mono ?_
      rintro e w1 ⟨ga, rfl, h1⟩
      refine .inl ⟨_, rfl, ?_⟩
      refine (New_ok h1).mono ?_
      rintro e w2 ⟨gb, rfl, h2⟩
      refine .inl ⟨_, rfl, ?_⟩
      simp only [Option.isNone, cond_false]
      exact steps_sets a0 a1 c1 c2 l0 0 WS.zero w2 rfl wS_zero rfl rfl (h2.pick (.there .here))
    · rw [decide_eq_true (by omega), cond_true]
      refine (alive_ok h).mono ?_
      rintro e w1 ⟨rfl, h1⟩
      exact .inl ⟨_, rfl, rfl, _, h1⟩
  · rw [decide_eq_true (by omega), cond_true]
    refine (alive_ok h).mono ?_
    rintro e w1 ⟨rfl, h1⟩
    exact .inl ⟨_, rfl, rfl, _, h1⟩
end
end Go.Proofs.Ytmngdgdmbebfhaa
