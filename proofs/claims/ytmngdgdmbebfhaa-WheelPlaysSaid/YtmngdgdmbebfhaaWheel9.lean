/- The wheel: Keys; two rows of keys compared. -/
import Derived.Test.YtmngdgdmbebfhaaWIter
set_option linter.unusedVariables false
set_option linter.unusedSimpArgs false
namespace Go.Proofs.Ytmngdgdmbebfhaa
open Go Go.RowKit

section
variable {w0 w : World} {O : Nat → Prop} {L M : List Assn} {g gm gB l : Nat} {s : WS}
theorem values29 (h : St w0 O L w) : Calls Try.prog 29 #[.map (some gm)] w fun e w' => ∃ gB, e = .returned (.func (.func 36) #[] #[.pointer (some ⟨gB, 0, none⟩)]) ∧ St w0 O (mapBox gB gm :: L) w' := by
  refine F29.calls ?_
  unfold F29.main
  refine new_box h (fun gB w1 h1 => ?_)
  exact ⟨gB, rfl, h1⟩
/-- The keys in order. -/
def keysO (s : WS) : List Int := (ord (s.by_.map (·.2))).map (·.key)
theorem Keys_ok (h : St w0 O (isW g s :: L) w) (hq : s.seq < 2 ^ 30) : Calls Try.prog 13 #[.pointer (some ⟨g, 0, none⟩)] w fun e w' =>
    ∃ A n c, e = .returned (.slice A n c) ∧ St w0 O (keysC A n c (keysO s) :: isW g s :: L) w' := by
  obtain ⟨gm, rows, ⟨hS, hR⟩, h1⟩ := isW_open h
  have hln : s.by_.length < 2 ^ 30 := by have := hS.len; omega
  refine F13.calls ?_
  unfold F13.main
  simp only [Option.isNone, cond_false, nilck]
  refine ⟨some gm, wM_by h1, ?_⟩
  refine (values29 h1).mono ?_
  rintro e w2 ⟨gB, rfl, h2⟩
  refine .inl ⟨_, rfl, ?_⟩
  refine (collect28 ((h2.pick (.there (.there .here))) |>.perm (.cons _ (.refl _))) (by omega)).mono ?_
  rintro e w3 ⟨A, n, c, dn, rfl, hp, h3⟩
  refine .inl ⟨A, n, c, rfl, ?_⟩
  have hnd : ((dn.map (·.2)).map (·.seq)).Nodup := by
    rw [List.map_map]
    exact ((hp.map _).nodup_iff).1 hS.seqs
  have hn : n = dn.length := by
    have := (rowC_len h3).1
    rw [flat_len, List.length_map] at this
    omega
  have hnl : dn.length = s.by_.length := hp.length_eq.symm
  refine (sort_ok h3 (by omega) hnd).mono ?_
  rintro e w4 ⟨rfl, h4⟩
  refine .inl ⟨A, n, c, rfl, ?_⟩
  have hord : ord (dn.map (·.2)) = ord (s.by_.map (·.2)) := ord_of_perm (hp.symm.map _) (by rw [List.map_map]; exact hS.seqs)
  rw [hord] at h4
  have h5 := (h4.pick (.there (.there .here))).drop
  have h6 : St w0 O (rowC 60 3 A n c ((ord (s.by_.map (·.2))).flatMap Al.cells) :: isW g s :: L) w4 :=
    (isW_shut hS hR ((h5.pick (.there .here)).pick (.there (.there .here)) |>.perm (.refl _))).pick (.there .here)
  have hol : (ord (s.by_.map (·.2))).length = n := by rw [(ord_perm _).length_eq, List.length_map]; omega
  unfold keysO
  generalize ord (s.by_.map (·.2)) = out at *
  have inner : ∀ (lf dn : List Al) (A2 : Option Addr) (l2 c2 : Nat) (w : World), dn ++ lf = out →
      St w0 O (rowC 60 3 A n c (out.flatMap Al.cells) :: keysC A2 l2 c2 (dn.map (·.key)) :: isW g s :: L) w →
      SK Try.prog Try.f13 (fun e w' => ∃ A n c, e = .returned (.slice A n c) ∧ St w0 O (keysC A n c (out.map (·.key)) :: isW g s :: L) w') (cfg Try.f13 4)
        [(2, .slice A2 l2 c2), (13, .slice A n c), (14, .int .i64 ((n : Nat) : Int)), (15, .int .i64 (dn.length : Int))] w := by
    intro lf
    induction lf with
    | nil =>
      intro dn A2 l2 c2 w hsp h7
      rw [List.append_nil] at hsp
      subst hsp
      refine F13.p4_ok ?_
      unfold F13.p4
      rw [decide_eq_false (by omega), cond_false]
      exact ⟨A2, l2, c2, rfl, h7.drop⟩
    | cons x lf ih2 =>
      intro dn A2 l2 c2 w hsp h7
      have hlx : out[dn.length]? = some x := by rw [← hsp]; simp
      have hll : out.length = dn.length + (lf.length + 1) := by rw [← hsp]; simp
      have hkl := keys_len h7.drop
      rw [List.length_map] at hkl
      refine F13.p4_ok ?_
      unfold F13.p4
      rw [decide_eq_true (by omega), cond_true]
      obtain ⟨gr, rfl, hjn, hcs⟩ := rowAl h7 hlx
      refine ⟨⟨by omega, by omega⟩, ?_⟩
      simp only [nilck, add_eq, Nat.zero_add, Int.toNat_natCast]
      refine ⟨x.key, x.at_, x.seq, hcs, ?_⟩
      refine alloc60 h7 (fun g8 w8 h8 => ?_)
      refine st60 h8 _ _ _ (fun w9 h9 => ?_)
      refine ⟨x.key, h9.cell .here rfl, ?_⟩
      refine bslK h9 (fun gq w10 h10 => ?_)
      refine appendK x.key h10 (.there (.there (.there .here))) (h10.cell .here rfl) (by omega) (fun A' c' w11 h11 => ?_)
      have h12 := ((((h11.pick (.there .here)).drop).pick (.there .here)).drop).pick (.there .here)
      rw [show IntKind.wrap .i64 ((dn.length : Int) + 1) = ((dn ++ [x]).length : Int) from by rw [wrap_i64 (by omega) (by omega)]; simp]
      refine ih2 (dn ++ [x]) A' (l2 + 1) c' w11 (by rw [← hsp]; simp) ?_
      rw [List.map_append]
      exact h12
  exact inner out [] none 0 0 w4 rfl ((rowC_nil h6 27 1).pick (.there .here))
theorem keyAt {A : Option Addr} {n c : Nat} {ks : List Int} (h : St w0 O (keysC A n c ks :: L) w) {j : Nat} {k : Int} (hk : ks[j]? = some k) : ∃ gr, A = some ⟨gr, 0, none⟩ ∧ j < n ∧ w.cell? ⟨gr, j, none⟩ = some (.int .u64 k) := by
  have hn := keys_len h
  obtain ⟨gr, e, h1⟩ := rowC_cell h (j := j) (v := u64V k) (by rw [List.getElem?_map, hk]; rfl)
  exact ⟨gr, e, by have := (List.getElem?_eq_some_iff.1 hk).1; omega, h1⟩
theorem Same_ok {A B : Option Addr} {n c m d : Nat} {ks ks' : List Int} (h : St w0 O (keysC A n c ks :: keysC B m d ks' :: L) w) (hb : n < 2 ^ 62) : Calls Try.prog 14 #[.slice A n c, .slice B m d] w fun e w' =>
    e = .returned (.bool (decide (ks = ks'))) ∧ St w0 O (keysC A n c ks :: keysC B m d ks' :: L) w' := by
  have hn := keys_len h
  have hm := keys_len h.drop
  refine F14.calls ?_
  unfold F14.main
  by_cases hnm : n = m
  · rw [show (((n : Nat) : Int) != ((m : Nat) : Int)) = false from by simp [hnm], cond_false]
    have loop : ∀ (k j : Nat) (w : World), k + j = n → ks.take j = ks'.take j → St w0 O (keysC A n c ks :: keysC B m d ks' :: L) w →
        SK Try.prog Try.f14 (fun e w' => e = .returned (.bool (decide (ks = ks'))) ∧ St w0 O (keysC A n c ks :: keysC B m d ks' :: L) w') (cfg Try.f14 4)
          [(0, .slice A n c), (1, .slice B m d), (5, .int .i64 (j : Int))] w := by
      intro k
      induction k with
      | zero =>
        intro j w hk ht h1
        refine F14.p4_ok ?_
        unfold F14.p4
        rw [decide_eq_false (by omega), cond_false]
        have e : ks = ks' := by rw [List.take_of_length_le (by omega), List.take_of_length_le (by omega)] at ht; exact ht
        exact ⟨by rw [decide_eq_true e], h1⟩
      | succ k ih =>
        intro j w hk ht h1
        have hj1 : j < ks.length := by omega
        have hj2 : j < ks'.length := by omega
        refine F14.p4_ok ?_
        unfold F14.p4
        rw [decide_eq_true (by omega), cond_true]
        obtain ⟨g1, e1, _, c1⟩ := keyAt h1.drew (List.getElem?_eq_getElem hj1)
        obtain ⟨g2, e2, _, c2⟩ := keyAt h1.drew.drop (List.getElem?_eq_getElem hj2)
        rw [e1, e2]
        refine ⟨⟨by omega, by omega⟩, ?_⟩
        simp only [nilck, add_eq, Nat.zero_add, Int.toNat_natCast, Nat.mul_one]
        refine ⟨ks[j], c1, ⟨by omega, by omega⟩, ?_⟩
        simp only [nilck, add_eq, Nat.zero_add, Int.toNat_natCast, Nat.mul_one]
        refine ⟨ks'[j], c2, ?_⟩
        by_cases he : ks[j] = ks'[j]
        · rw [show (ks[j] != ks'[j]) = false from by simp [he], cond_false]
          rw [wrap_i64 (by omega) (by omega)]
          have := ih (j + 1) w.drew (by omega) (by rw [List.take_add_one, List.take_add_one, List.getElem?_eq_getElem hj1, List.getElem?_eq_getElem hj2, ht, he]) h1.drew
          rw [e1, e2] at this
          exact this
        · rw [show (ks[j] != ks'[j]) = true from by simpa using he, cond_true]
          have hne : ks ≠ ks' := fun e => he (by subst e; rfl)
          rw [e1, e2] at h1
          exact ⟨by rw [decide_eq_false hne], h1.drew⟩
    exact loop n 0 w rfl rfl h
  · rw [show (((n : Nat) : Int) != ((m : Nat) : Int)) = true from by simpa using (fun e => hnm (by omega)), cond_true]
    exact ⟨by rw [decide_eq_false (fun e => hnm (by rw [hn, hm, e]))], h⟩
end
end Go.Proofs.Ytmngdgdmbebfhaa
