/- The wheel: Tick. -/
import Derived.Test.YtmngdgdmbebfhaaWheel7
set_option linter.unusedVariables false
set_option linter.unusedSimpArgs false
namespace Go.Proofs.Ytmngdgdmbebfhaa
open Go Go.RowKit

/-! ### 1. Rows of keys -/
theorem elemK : ElemT Try.prog 35 27 1 8 := elemT_of Try.underlying35 (by kernel_rfl) (by decide)
/-- '.slice A n c' holds these numbers. -/
abbrev keysC (A : Option Addr) (n c : Nat) (ks : List Int) : Assn := rowC 27 1 A n c (ks.map u64V)
section
variable {w0 w : World} {O : Nat → Prop} {L R : List Assn} {A : Option Addr} {n c : Nat} {ks : List Int}
theorem bslK {K : Nat → World → Prop} {a : Int} (h : St w0 O L w) (k : ∀ g w', St w0 O (blk g (.cells #[.int .u64 a] 27) :: L) w' → K g w') :
    bslW Try.prog 1 (Instr.buildSlice 35 1 #[(0, .int .u64 a)]) w K :=
  bsl_W (e := 27) (sz := 1) (z := .int .u64 0) h Try.underlying35 (by kernel_rfl) (by kernel_rfl) (by decide) (by decide) (by kernel_rfl) k
theorem appendK {K : Option Addr → Nat → Nat → World → Prop} {gb : Nat} (x : Int) (h : St w0 O L w) (p : Pick (keysC A n c ks) L R) (hb : w.cell? ⟨gb, 0, none⟩ = some (.int .u64 x))
    (hn : n < 2 ^ 31) (k : ∀ A' c' w', St w0 O (keysC A' (n + 1) c' (ks ++ [x]) :: R) w' → K A' (n + 1) c' w') :
    slW Try.prog (Builtin.append_ #[35, 35] 35 #[.slice A n c, .slice (some ⟨gb, 0, none⟩) 1 1]) w K := by
  refine append_W elemK 35 h p ⟨gb, 0, none⟩ 1 1 [u64V x] rfl (fun j u hj => ?_) rfl (by omega) (by omega) (fun A' c' w' h' => k A' c' w' ?_)
  · match j, hj with
    | 0, hj => cases hj; rw [add_eq]; exact hb
  · rw [keysC, List.map_append]
    exact h'
theorem keys_len (h : St w0 O (keysC A n c ks :: L) w) : n = ks.length := by
  have := (rowC_len h).1
  simp at this
  omega
end

/-! ### 2. Plain laws -/
def T (s : WS) (m : Int) : WS := ⟨m, s.seq, s.by_.filter fun p => decide (m < p.2.at_)⟩
def Dl (s : WS) (m : Int) : List Al := (s.by_.filter fun p => decide (p.2.at_ ≤ m)).map (·.2)
section
variable {s : WS}
theorem T_now (hS : wS s) : T s s.now = s := by
  unfold T
  rw [List.filter_eq_self.2 (fun p hp => decide_eq_true (hS.cur p hp).2.1)]
theorem Dl_now (hS : wS s) : Dl s s.now = [] := by
  unfold Dl
  rw [List.filter_eq_nil_iff.2 (fun p hp => by have := (hS.cur p hp).2.1; simp; omega)]
  rfl
theorem wS_T (hS : wS s) {m : Int} (h1 : s.now ≤ m) (h2 : m ≤ 2 ^ 60) : wS (T s m) := by
  have h := wS_filter hS fun p => decide (m < p.2.at_)
  have := hS.n0
  refine ⟨by show 0 ≤ m; omega, h2, h.q0, h.len, fun p hp => ?_, h.seqs, h.keys⟩
  have h3 := h.cur p hp
  have h4 : m < p.2.at_ := of_decide_eq_true (List.mem_filter.1 hp).2
  simp only [] at h3
  exact ⟨h3.1, h4, by show _ ≤ m + 2 ^ 24; omega, h3.2.2.2⟩
theorem Dl_seqs (hS : wS s) (m : Int) : ((Dl s m).map (·.seq)).Nodup := by
  unfold Dl
  rw [List.map_map]
  exact ((List.filter_sublist (p := fun p => decide (p.2.at_ ≤ m)) (l := s.by_)).map _).nodup hS.seqs
/-- Nothing is due up to 'to'. -/
theorem T_leap {m to : Int} (hm : m ≤ to) (hd : ∀ p ∈ (T s m).by_, to < p.2.at_) : leapS (T s m) to = T s to ∧ Dl s m = Dl s to := by
  have hd' : ∀ p ∈ s.by_, m < p.2.at_ → to < p.2.at_ := fun p hp h => hd p (List.mem_filter.2 ⟨hp, decide_eq_true h⟩)
  constructor
  · unfold leapS T
    congr 1
    · show (if to ≤ m then m else to) = to
      split <;> omega
    · refine List.filter_congr fun p hp => ?_
      rw [decide_eq_decide]
      have := hd' p hp
      omega
  · unfold Dl
    rw [List.filter_congr]
    intro p hp
    rw [decide_eq_decide]
    have := hd' p hp
    omega
theorem T_step {m m1 : Int} (hS : wS s) (hm : m < m1) (hd : ∀ p ∈ (T s m).by_, m1 ≤ p.2.at_) : stepS (leapS (T s m) (m1 - 1)) = T s m1 ∧ ord (Dl s m) ++ stepO (leapS (T s m) (m1 - 1)) = ord (Dl s m1) := by
  have hd' : ∀ p ∈ s.by_, m < p.2.at_ → m1 ≤ p.2.at_ := fun p hp h => hd p (List.mem_filter.2 ⟨hp, decide_eq_true h⟩)
  have hl : leapS (T s m) (m1 - 1) = ⟨m1 - 1, s.seq, (T s m).by_⟩ := by
    unfold leapS
    congr 1
    show (if m1 - 1 ≤ m then m else m1 - 1) = m1 - 1
    split <;> omega
  rw [hl]
  constructor
  · unfold stepS T
    simp only [List.filter_filter]
    congr 1
    · show m1 - 1 + 1 = m1; omega
    · refine List.filter_congr fun p hp => ?_
      have := hd' p hp
      rw [Bool.eq_iff_iff]
      simp
      omega
  · unfold stepO
    refine ord_append ?_ ?_ (Dl_seqs hS m1)
    · unfold Dl T
      simp only [List.filter_filter, ← List.map_append]
      refine List.Perm.map _ ?_
      have hp := List.filter_append_perm (fun p : Int × Al => decide (p.2.at_ ≤ m)) (s.by_.filter fun p => decide (p.2.at_ ≤ m1))
      rw [List.filter_filter, List.filter_filter] at hp
      refine List.Perm.trans (List.Perm.of_eq ?_) hp
      congr 1
      · refine List.filter_congr fun p hp => ?_
        rw [Bool.eq_iff_iff]
        simp
        omega
      · refine List.filter_congr fun p hp => ?_
        have := hd' p hp
        rw [Bool.eq_iff_iff]
        simp
        omega
    · intro x hx y hy
      obtain ⟨p, hp, rfl⟩ := List.mem_map.1 hx
      obtain ⟨q, hq, rfl⟩ := List.mem_map.1 hy
      have h1 := of_decide_eq_true (List.mem_filter.1 hp).2
      have h2 : q.2.at_ = m1 - 1 + 1 := of_decide_eq_true (List.mem_filter.1 hq).2
      show p.2.at_ < q.2.at_
      omega
def tickE (s : WS) (n : Int) : Int := if n < 0 ∨ 16777216 < n ∨ 1152921504606846976 - n < s.now then 2 else 0
def tickS (s : WS) (n : Int) : WS := if tickE s n = 0 then T s (s.now + n) else s
def tickO (s : WS) (n : Int) : List Int := if tickE s n = 0 then (ord (Dl s (s.now + n))).map (·.key) else []
theorem wS_tick (hS : wS s) (n : Int) : wS (tickS s n) := by
  unfold tickS
  split
  · rename_i h
    unfold tickE at h
    split at h
    · cases h
    · exact wS_T hS (by omega) (by omega)
  · exact hS
end

/-! ### 3. The walk -/
section
variable {w0 w : World} {O : Nat → Prop} {L M : List Assn} {g gm : Nat} {s : WS}
theorem Tick_ok (h : St w0 O (isW g s :: L) w) (hq : s.seq < 2 ^ 30) (n : Int) : Calls Try.prog 11 #[.pointer (some ⟨g, 0, none⟩), .int .i64 n] w fun e w' =>
    ∃ A l c, e = .returned (.tuple #[.slice A l c, .int .i64 (tickE s n)]) ∧ St w0 O (keysC A l c (tickO s n) :: isW g (tickS s n) :: L) w' := by
  have hS := isW_pure h
  have hn0 := hS.n0
  have hn1 := hS.n1
  refine F11.calls ?_
  unfold F11.main
  simp only [Option.isNone, cond_false, nilck]
  have bad : tickE s n = 2 → ∃ A l c, Ending.returned (.tuple #[.slice none 0 0, .int .i64 2]) = .returned (.tuple #[.slice A l c, .int .i64 (tickE s n)]) ∧ St w0 O (keysC A l c (tickO s n) :: isW g (tickS s n) :: L) w := fun e => by
    refine ⟨none, 0, 0, by rw [e], ?_⟩
    unfold tickO tickS
    rw [e]
    exact rowC_nil h 27 1
  by_cases c1 : n < 0
  · rw [decide_eq_true c1, cond_true]
    exact bad (if_pos (.inl c1))
  rw [decide_eq_false c1, cond_false]
  by_cases c2 : n > 16777216
  · rw [decide_eq_true c2, cond_true]
    exact bad (if_pos (.inr (.inl c2)))
  rw [decide_eq_false c2, cond_false]
  obtain ⟨gm, rows, hp, h1⟩ := isW_open h
  refine ⟨s.now, wM_now h1, ?_⟩
  rw [wrap_i64 (by omega) (by omega)]
  by_cases c3 : s.now > 1152921504606846976 - n
  · rw [decide_eq_true c3, cond_true]
    exact bad (if_pos (.inr (.inr c3)))
  rw [decide_eq_false c3, cond_false]
  have e0 : tickE s n = 0 := if_neg (by omega)
  have eS : tickS s n = T s (s.now + n) := if_pos e0
  have eO : tickO s n = (ord (Dl s (s.now + n))).map (·.key) := if_pos e0
  rw [e0, eS, eO]
  clear h1 hp rows gm bad
  have hto : s.now + n ≤ 2 ^ 60 := by omega
  have hDl : ∀ m, (Dl s m).length < 2 ^ 30 := fun m => by
    unfold Dl
    have h1 := List.length_filter_le (fun p : Int × Al => decide (p.2.at_ ≤ m)) s.by_
    have := hS.len
    rw [List.length_map]
    omega
  have loop : ∀ (k : Nat) (m : Int) (A : Option Addr) (l c : Nat) (w : World), (T s m).by_.length = k → s.now ≤ m → m ≤ s.now + n →
      St w0 O (keysC A l c ((ord (Dl s m)).map (·.key)) :: isW g (T s m) :: L) w →
      SK Try.prog Try.f11 (fun e w' => ∃ A l c, e = .returned (.tuple #[.slice A l c, .int .i64 0]) ∧ St w0 O (keysC A l c ((ord (Dl s (s.now + n))).map (·.key)) :: isW g (T s (s.now + n)) :: L) w') (cfg Try.f11 7)
        [(0, .pointer (some ⟨g, 0, none⟩)), (4, .slice A l c), (6, .int .i64 (s.now + n)), (7, .int .i64 ((minAt (T s m).by_).getD 0)), (8, .bool (minAt (T s m).by_).isSome)] w := by
    intro k
    induction k using Nat.strongRecOn with
    | _ k ih =>
      intro m A l c w hk hm1 hm2 h4
      have hST := wS_T hS hm1 (by omega)
      have fin : (∀ p ∈ (T s m).by_, s.now + n < p.2.at_) → Calls Try.prog 25 #[.pointer (some ⟨g, 0, none⟩), .int .i64 (s.now + n)] w fun en w15 =>
          (en = .returned (.tuple #[]) ∧ ∃ A' l' c', Ending.returned (.tuple #[.slice A l c, .int .i64 0]) = .returned (.tuple #[.slice A' l' c', .int .i64 0]) ∧ St w0 O (keysC A' l' c' ((ord (Dl s (s.now + n))).map (·.key)) :: isW g (T s (s.now + n)) :: L) w15)
          ∨ ∃ ch16, en = .panicked ch16 ∧ ∃ A' l' c', Ending.panicked ch16 = .returned (.tuple #[.slice A' l' c', .int .i64 0]) ∧ St w0 O (keysC A' l' c' ((ord (Dl s (s.now + n))).map (·.key)) :: isW g (T s (s.now + n)) :: L) w15 := fun hd => by
        obtain ⟨e1, e2⟩ := T_leap hm2 hd
        refine (leap_ok (h4.pick (.there .here)) (s.now + n) hto hd hq).mono ?_
        rintro e w5 ⟨rfl, _, h5⟩
        refine .inl ⟨rfl, A, l, c, rfl, ?_⟩
        rw [e1] at h5
        rw [e2] at h5
        exact h5.pick (.there .here)
      refine F11.p7_ok ?_
      unfold F11.p7
      cases hmin : minAt (T s m).by_ with
      | none =>
        simp only [Option.isSome, cond_false]
        refine fin fun p hp => ?_
        rw [minAt_none.1 hmin] at hp
        cases hp
      | some m1 =>
        obtain ⟨⟨q, hq1, hq2⟩, hall⟩ := minAt_spec hmin
        have hmm : m < m1 := by have := hST.cur q hq1; rw [hq2] at this; exact this.2.1
        simp only [Option.isSome, cond_true, Option.getD_some]
        by_cases c4 : m1 ≤ s.now + n
        · rw [decide_eq_true c4, cond_true, wrap_i64 (by omega) (by omega)]
          obtain ⟨e1, e2⟩ := T_step hS hmm hall
          refine (leap_ok (h4.pick (.there .here)) (m1 - 1) (by omega) (fun p hp => by have := hall p hp; omega) hq).mono ?_
          rintro e w5 ⟨rfl, _, h5⟩
          refine .inl ⟨rfl, ?_⟩
          refine (step_ok h5 hq (by
            have : (leapS (T s m) (m1 - 1)).now = m1 - 1 := by unfold leapS; show (if m1 - 1 ≤ m then m else m1 - 1) = m1 - 1; split <;> omega
            rw [this]; omega)).mono ?_
          rintro e w6 ⟨A1, l1, c1, rfl, h6⟩
          refine .inl ⟨A1, l1, c1, rfl, ?_⟩
          rw [e1] at h6
          have hsl : (T s m1).by_.length < k := by
            have hs1 : (T s m1).by_.Sublist (T s m).by_ := by
              have e : (T s m1).by_ = (T s m).by_.filter fun p => decide (m1 < p.2.at_) := by
                unfold T
                simp only [List.filter_filter]
                refine List.filter_congr fun p hp => ?_
                rw [Bool.eq_iff_iff]
                simp
                omega
              rw [e]
              exact List.filter_sublist
            have h7 := hs1.length_le
            rcases Nat.lt_or_eq_of_le h7 with h8 | h8
            · omega
            · have h9 := hs1.eq_of_length h8
              rw [← h9] at hq1
              have := of_decide_eq_true (List.mem_filter.1 hq1).2
              omega
          have hlen1 := (rowC_len h6).1
          rw [flat_len] at hlen1
          generalize hout : stepO (leapS (T s m) (m1 - 1)) = out at *
          have hol : (ord (Dl s m)).length + out.length < 2 ^ 30 := by
            have h7 := congrArg List.length e2
            rw [List.length_append, (ord_perm (Dl s m1)).length_eq] at h7
            have := hDl m1
            omega
          have inner : ∀ (lf dn : List Al) (A : Option Addr) (l c : Nat) (w : World), dn ++ lf = out →
              St w0 O (rowC 60 3 A1 l1 c1 (out.flatMap Al.cells) :: keysC A l c ((ord (Dl s m) ++ dn).map (·.key)) :: isW g (T s m1) :: L) w →
              SK Try.prog Try.f11 (fun e w' => ∃ A l c, e = .returned (.tuple #[.slice A l c, .int .i64 0]) ∧ St w0 O (keysC A l c ((ord (Dl s (s.now + n))).map (·.key)) :: isW g (T s (s.now + n)) :: L) w') (cfg Try.f11 11)
                [(0, .pointer (some ⟨g, 0, none⟩)), (4, .slice A l c), (6, .int .i64 (s.now + n)), (57, .slice A1 l1 c1), (58, .int .i64 ((l1 : Nat) : Int)), (59, .int .i64 (dn.length : Int))] w := by
            intro lf
            induction lf with
            | nil =>
              intro dn A l c w hsp h7
              rw [List.append_nil] at hsp
              subst hsp
              refine F11.p11_ok ?_
              unfold F11.p11
              rw [decide_eq_false (by omega), cond_false]
              rw [e2] at h7
              refine (first_ok (h7.drop.pick (.there .here))).mono ?_
              rintro e w8 ⟨rfl, h8⟩
              exact .inl ⟨_, _, rfl, ih _ hsl m1 A l c w8 rfl (by omega) c4 (h8.pick (.there .here))⟩
            | cons x lf ih2 =>
              intro dn A l c w hsp h7
              have hlx : out[dn.length]? = some x := by rw [← hsp]; simp
              have hll : out.length = dn.length + (lf.length + 1) := by rw [← hsp]; simp
              have hkl := keys_len h7.drop
              rw [List.length_map, List.length_append] at hkl
              refine F11.p11_ok ?_
              unfold F11.p11
              rw [decide_eq_true (by omega), cond_true]
              obtain ⟨gr, rfl, hjn, hcs⟩ := rowAl h7 hlx
              refine ⟨⟨by omega, by omega⟩, ?_⟩
              simp only [nilck, add_eq, Nat.zero_add, Int.toNat_natCast]
              refine ⟨x.key, x.at_, x.seq, hcs, ?_⟩
              refine alloc60 h7 (fun g8 w8 h8 => ?_)
              refine st60 h8 _ _ _ (fun w9 h9 => ?_)
              refine ⟨x.key, h9.cell .here rfl, ?_⟩
              refine bslK h9 (fun gq w10 h10 => ?_)
              refine appendK x.key h10 (.there (.there (.there .here))) (h10.cell .here rfl) (by omega) (fun A' c' w11 h11 => ?_)
              have h12 := ((((h11.pick (.there .here)).drop).pick (.there .here)).drop).pick (.there .here)
              rw [show IntKind.wrap .i64 ((dn.length : Int) + 1) = ((dn ++ [x]).length : Int) from by rw [wrap_i64 (by omega) (by omega)]; simp]
              refine ih2 (dn ++ [x]) A' (l + 1) c' w11 (by rw [← hsp]; simp) ?_
              rw [← List.append_assoc, List.map_append]
              exact h12
          have h13 := inner out [] A l c w6 rfl (by rw [List.append_nil]; exact (h6.pick (.there (.there .here))).pick (.there .here))
          exact h13
        · rw [decide_eq_false c4, cond_false]
          exact fin fun p hp => by have := hall p hp; omega
  refine F11.p5_ok ?_
  unfold F11.p5
  obtain ⟨gm, rows, hp, h1⟩ := isW_open h
  refine ⟨s.now, wM_now h1, ?_⟩
  refine (first_ok h).mono ?_
  rintro e w2 ⟨rfl, h2⟩
  refine .inl ⟨_, _, rfl, ?_⟩
  rw [wrap_i64 (by omega) (by omega)]
  have := loop _ s.now none 0 0 w2 rfl (Int.le_refl _) (by omega) (by rw [T_now hS, Dl_now hS]; exact rowC_nil h2 27 1)
  rw [T_now hS] at this
  exact this
end
end Go.Proofs.Ytmngdgdmbebfhaa
