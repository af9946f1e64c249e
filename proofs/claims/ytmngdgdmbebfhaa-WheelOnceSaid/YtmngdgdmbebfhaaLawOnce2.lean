/- The law WheelOnce, walked. -/
import Derived.Test.YtmngdgdmbebfhaaLawOnce
set_option linter.unusedVariables false
set_option linter.unusedSimpArgs false
namespace Go.Proofs.Ytmngdgdmbebfhaa
open Go Go.RowKit

section
variable {w0 w : World} {L : List Assn}
theorem once_round {A : Option Addr} {l c g gd : Nat} (ha : ArgS w0 A l) (hl : l ≤ 200) : ∀ (k i : Nat), k + i = l → OnceNext w0 A l c g gd i := by
  intro k
  induction k with
  | zero =>
    intro i hk s D w hS hq hD h
    refine F3.p8_ok ?_
    unfold F3.p8
    rw [decide_eq_false (by omega), cond_false]
    refine (alive_ok h).mono ?_
    rintro e w1 ⟨rfl, h1⟩
    exact .inl ⟨_, rfl, rfl, _, h1⟩
  | succ k ih =>
    intro i hk s D w hS hq hD h
    have next := ih (i + 1) (by omega)
    have hi : i < 1000 := by omega
    have hn0 := hS.n0
    have hn1 := hS.n1
    have hq0 := hS.q0
    refine F3.p8_ok ?_
    unfold F3.p8
    rw [decide_eq_true (by omega), cond_true]
    obtain ⟨a, rfl, d, key, n, hc⟩ := ha i (by omega)
    refine ⟨⟨by omega, by omega⟩, ?_⟩
    simp only [nilck, Int.toNat_natCast]
    refine ⟨d, key, n, h.oldCells hc, ?_⟩
    refine new_alloc (z := .agg #[.int .i64 0, .int .u64 0, .int .i64 0]) h (by kernel_rfl) (fun g6 w2 h2 => ?_)
    refine st_W h2 .here 29 (by kernel_rfl) rfl (Nat.le_refl 3) (fun w3 h3 => ?_)
    have h3 : St w0 (World.all w0) (blk g6 (.cells #[.int .i64 d, .int .u64 key, .int .i64 n] 29) :: isW g s :: dueC gd D :: []) w3 := h3
    refine ⟨d, h3.cell .here rfl, ?_⟩
    by_cases d0 : d = 0
    · subst d0
      rw [show ((0 : Int) == 0) = true from rfl, cond_true]
      refine ⟨key, h3.cell .here rfl, n, h3.cell .here rfl, ?_⟩
      refine (Set_ok (h3.pick (.there .here)) (by omega) key n).mono ?_
      rintro e w4 ⟨rfl, h4⟩
      refine .inl ⟨_, rfl, ?_⟩
      have hS' := setS_ok hS (by omega) key n
      by_cases e0 : setE s key n = 0
      · rw [e0, show ((0 : Int) == 0) = true from rfl, cond_true]
        have hin : 1 ≤ n ∧ n ≤ 16777216 := by
          unfold setE at e0
          split at e0
          · cases e0
          · omega
        have h5 := h4.drew
        have hst : setS s key n = ⟨s.now, s.seq + 1, mset s.by_ key ⟨key, s.now + n, s.seq + 1⟩⟩ := if_pos e0
        refine ⟨key, h5.cell (.there .here) rfl, n, h5.cell (.there .here) rfl, ?_⟩
        refine (Now_ok h5).mono ?_
        rintro e w5 ⟨rfl, h6⟩
        refine .inl ⟨_, rfl, fun _ => h6.cell (.there .here) rfl, fun _ => h6.cell (.there .here) rfl, ?_⟩
        have hnow : (setS s key n).now = s.now := by rw [hst]
        rw [hnow, wrap_i64 (by omega) (by omega)]
        refine mapSet_W (enc := u64V) (encv := i64V) h6 (.there (.there .here)) Try.underlying26 keyU64 key (s.now + n) (fun w6 h7 => ?_)
        exact once_end hi next hS' (by rw [hst]; show s.seq + 1 ≤ _; omega) (hD.set key n e0) (h7.pick (.there .here))
      · rw [show (setE s key n == 0) = false from by simpa using e0, cond_false]
        have hst : setS s key n = s := if_neg e0
        rw [hst] at h4 hS'
        exact once_end hi next hS (by omega) hD ((h4.pick (.there (.there .here))).pick (.there .here))
    rw [show (d == 0) = false from by simpa using d0, cond_false]
    by_cases d1 : d = 1
    · subst d1
      rw [show ((1 : Int) == 1) = true from rfl, cond_true]
      refine ⟨key, h3.cell .here rfl, _, _, lookD (h3.pick (.there (.there .here))) key, key, h3.cell .here rfl, ?_⟩
      refine (Clear_ok (h3.pick (.there .here)) key).mono ?_
      rintro e w4 ⟨rfl, h4⟩
      refine .inl ⟨_, rfl, ?_⟩
      have hg := hD.get key
      rw [show (!((if (mget s.by_ key).isSome then (0 : Int) else 3) == 0) == (mget D key).isSome) = false from by
        rw [hg]; cases mget s.by_ key <;> rfl, cond_false]
      refine ⟨key, h4.cell (.there .here) rfl, ?_⟩
      refine mapDel_W (enc := u64V) (encv := i64V) h4 (.there (.there .here)) Try.underlying26 keyU64 0 key (fun w5 h5 => ?_)
      exact once_end hi next (wS_clear hS key) (by show s.seq ≤ _; omega) (hD.clear hS key) (h5.pick (.there .here))
    rw [show (d == 1) = false from by simpa using d1, cond_false]
    by_cases d2 : d = 2
    · subst d2
      rw [show ((2 : Int) == 2) = true from rfl, cond_true]
      refine (Now_ok (h3.pick (.there .here))).mono ?_
      rintro e w4 ⟨rfl, h4⟩
      refine .inl ⟨_, rfl, n, h4.cell (.there .here) rfl, ?_⟩
      refine (Tick_ok h4 (by omega) n).mono ?_
      rintro e w5 ⟨B, n2, c2, rfl, h5⟩
      have hk := keys_len h5
      refine .inl ⟨_, _, _, _, rfl, ?_⟩
      by_cases e0 : tickE s n = 0
      · have eS : tickS s n = T s (s.now + n) := if_pos e0
        have eO : tickO s n = (ord (Dl s (s.now + n))).map (·.key) := if_pos e0
        have hin : 0 ≤ n ∧ n ≤ 16777216 ∧ s.now ≤ 1152921504606846976 - n := by
          unfold tickE at e0
          split at e0
          · cases e0
          · omega
        rw [e0, show ((0 : Int) != 0) = false from rfl, cond_false]
        rw [eS, eO] at h5
        have h6 := h5.drew
        refine ⟨n, h6.cell (.there (.there .here)) rfl, ?_⟩
        refine (Now_ok (h6.pick (.there .here))).mono ?_
        rintro e w6 ⟨rfl, h7⟩
        refine .inl ⟨_, rfl, fun _ => h7.cell (.there (.there .here)) rfl, ?_⟩
        rw [wrap_i64 (n := s.now + n) (by omega) (by omega), show ((T s (s.now + n)).now != s.now + n) = false from by simp [T], cond_false]
        refine once_told (L := [blk g6 (.cells #[.int .i64 2, .int .u64 key, .int .i64 n] 29)]) hi next hS (by omega) (by omega) (by omega) (ord (Dl s (s.now + n))) [] D 0 w6 rfl (DP.start hD) (fun x hx => ?_) ?_
        · have := due_mem hS hx; omega
        · exact (((h7.pick (.there (.there .here))).pick (.there (.there .here))).pick (.there (.there (.there .here)))).pick (.there (.there (.there .here)))
      · have e2 : tickE s n = 2 := by
          unfold tickE at e0 ⊢
          split at e0
          · rename_i hcond; rw [if_pos hcond]
          · exact absurd rfl e0
        have eS : tickS s n = s := if_neg e0
        have eO : tickO s n = [] := if_neg e0
        rw [e2, show ((2 : Int) != 0) = true from rfl, cond_true]
        rw [eO] at hk
        rw [hk, show (((([] : List Int).length : Nat) : Int) != 0) = false from rfl, cond_false]
        rw [eS] at h5
        refine (Now_ok (h5.pick (.there .here))).mono ?_
        rintro e w6 ⟨rfl, h7⟩
        refine .inl ⟨_, rfl, ?_⟩
        rw [show (s.now != s.now) = false from by simp, cond_false]
        exact once_end hi next hS (by omega) hD ((h7.pick (.there (.there (.there .here)))).pick (.there .here))
    rw [show (d == 2) = false from by simpa using d2, cond_false]
    exact once_end hi next hS (by omega) hD ((h3.pick (.there (.there .here))).pick (.there (.there .here)))
theorem once_law {A : Option Addr} {l c : Nat} (ha : ArgS w A l) : Calls Try.prog 3 #[.slice A l c] w fun e w' => e = .returned (.bool true) ∧ ∃ L, St w (World.all w) L w' := by
  have h := St.refl w
  refine F3.calls ?_
  unfold F3.main
  by_cases c1 : l ≤ 200
  · rw [decide_eq_false (by omega), cond_false]
    refine (New_ok h).mono ?_
    rintro e w1 ⟨g, rfl, h1⟩
    refine .inl ⟨_, rfl, ?_⟩
    simp only [Option.isNone, cond_false]
    refine new_map h1 (fun gd w2 h2 => ?_)
    have h3 := mapC_shut (enc := u64V) (encv := i64V) MapIs.empty h2
    exact once_round ha c1 l 0 rfl WS.zero [] w2 wS_zero (Int.le_refl _) ⟨List.nodup_nil, fun k => rfl⟩ (h3.pick (.there .here))
  · rw [decide_eq_true (by omega), cond_true]
    refine (alive_ok h).mono ?_
    rintro e w1 ⟨rfl, h1⟩
    exact .inl ⟨_, rfl, rfl, _, h1⟩
end
end Go.Proofs.Ytmngdgdmbebfhaa
