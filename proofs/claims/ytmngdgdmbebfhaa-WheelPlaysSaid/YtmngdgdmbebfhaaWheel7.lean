/- The wheel: step. -/
import Derived.Test.YtmngdgdmbebfhaaWheel6
import Derived.Test.YtmngdgdmbebfhaaWSort2
set_option linter.unusedVariables false
set_option linter.unusedSimpArgs false
namespace Go.Proofs.Ytmngdgdmbebfhaa
open Go Go.RowKit

/-! ### 1. Plain laws -/
/-- What holds of the rows while a step goes on: levels up to K aren't looked at yet. -/
structure InvS (now seq : Int) (b : List (Int × Al)) (K : Nat) (rows : List (List Al)) : Prop where
  len : rows.length = 320
  tot : (tot rows : Int) ≤ seq
  ent : ∀ i x, x ∈ rowAt rows i → 0 < x.seq ∧ x.seq ≤ seq
  ra : RA (plS now K) (Cur b) rows
  rb : RB (Cur b) rows
theorem InvS.start {s : WS} {rows : List (List Al)} (hS : wS s) (hR : wR s rows) (hl : rows.length = 320) : InvS (s.now + 1) s.seq s.by_ 4 rows :=
  ⟨hl, hR.tot, hR.ent, fun i x hx hC => by
    obtain ⟨k, hk, h1, h2⟩ := hR.ra i x hx hC
    have := hS.of_cur hC
    exact ⟨k, hk, h1, plT_plS hk h2 (by omega)⟩, hR.rb⟩
section
variable {now seq : Int} {b : List (Int × Al)} {K : Nat} {rows rows' : List (List Al)}
theorem InvS.stay (h : InvS now seq b (K + 1) rows) (hm : now % 2 ^ (6 * (K + 1)) ≠ 0) : InvS now seq b K rows :=
  ⟨h.len, h.tot, h.ent, fun i x hx hC => by
    obtain ⟨k, hk, h1, h2⟩ := h.ra i x hx hC
    exact ⟨k, hk, h1, plS_stay hm h2⟩, h.rb⟩
theorem InvS.down (h : InvS now seq b (K + 1) rows) (hK : K + 1 < 5) (hc : ∀ x, Cur b x → now ≤ x.at_) (hP : Puts now (rows.set (spoke (K + 1) now) []) ((rowAt rows (spoke (K + 1) now)).filter fun x => decide (Cur b x)) rows') : InvS now seq b K rows' := by
  have hl := h.len
  have hs := spoke_lt hK now
  have hl0 : (rows.set (spoke (K + 1) now) []).length = 320 := by simpa using hl
  obtain ⟨h1, h2, h3, h4, h5⟩ := hP.spec hl0
  have ht := tot_set (rows := rows) (i := spoke (K + 1) now) (by omega) []
  have hfl := List.length_filter_le (fun x => decide (Cur b x)) (rowAt rows (spoke (K + 1) now))
  have hsub : ∀ i y, y ∈ rowAt (rows.set (spoke (K + 1) now) []) i → y ∈ rowAt rows i ∧ i ≠ spoke (K + 1) now := fun i y hy => by
    rw [rowAt_set (by omega)] at hy
    split at hy
    · cases hy
    · rename_i hne; exact ⟨hy, hne⟩
  refine ⟨h1, ?_, fun i x hx => ?_, ?_, fun x hx => ?_⟩
  · have := h.tot
    simp only [List.length_nil] at ht
    omega
  · rcases h3 i x hx with h6 | h6
    · exact h.ent i x (hsub i x h6).1
    · exact h.ent _ x (List.mem_filter.1 h6).1
  · refine hP.RA hl0 (fun x hx k hk h6 h7 => put_plS (hc x (of_decide_eq_true (List.mem_filter.1 hx).2)) k h6 h7) (fun i x hx hC => ?_)
    obtain ⟨h6, h7⟩ := hsub i x hx
    obtain ⟨k, hk, e, h8⟩ := h.ra i x h6 hC
    exact ⟨k, hk, e, plS_down h8 (e ▸ h7)⟩
  · obtain ⟨i, hi⟩ := h.rb x hx
    by_cases e : i = spoke (K + 1) now
    · subst e
      exact h5 x (List.mem_filter.2 ⟨hi, decide_eq_true hx⟩)
    · refine ⟨i, h4 i x ?_⟩
      rw [rowAt_set (by omega), if_neg e]
      exact hi
end
/-- The alarms of a row that are current are taken, one after another. -/
def fire (b : List (Int × Al)) : List Al → List Al × List (Int × Al)
  | [] => ([], b)
  | x :: r => if Cur b x then (x :: (fire (mdel b x.key) r).1, (fire (mdel b x.key) r).2) else fire b r
theorem perm_mdel {α β : Type} [DecidableEq α] {l : List (α × β)} {k : α} {v : β} (h : mget l k = some v) : l.Perm ((k, v) :: mdel l k) := by
  induction l with
  | nil => simp [mget] at h
  | cons p r ih =>
    obtain ⟨a, b⟩ := p
    simp only [mget] at h
    simp only [mdel]
    split at h
    · rename_i e
      subst e
      cases h
      rw [if_pos rfl]
    · rename_i e
      rw [if_neg e]
      exact ((ih h).cons _).trans (.swap _ _ _)
theorem fire_spec : ∀ (l : List Al) (b : List (Int × Al)), (b.map (·.1)).Nodup → (∀ p ∈ b, p.1 = p.2.key) →
    (fire b l).1.Perm ((b.filter fun p => decide (p.2 ∈ l)).map (·.2)) ∧ (fire b l).2 = b.filter fun p => decide (p.2 ∉ l)
  | [], b, _, _ => by
    constructor
    · simp [fire]
    · simp only [fire]
      exact (List.filter_eq_self.2 (by simp)).symm
  | x :: r, b, hn, hk => by
    unfold fire
    split
    · rename_i hC
      have hn' := nodup_mdel (k := x.key) hn
      have hk' : ∀ p ∈ mdel b x.key, p.1 = p.2.key := fun p hp => hk p ((mem_mdel hn).1 hp).1
      obtain ⟨h1, h2⟩ := fire_spec r (mdel b x.key) hn' hk'
      have hxb : (x.key, x) ∈ b := mget_mem hC
      have hx : ∀ p ∈ b, p.2 = x ↔ p.1 = x.key := fun p hp => by
        constructor
        · intro e; rw [hk p hp, e]
        · intro e
          have h3 := mget_of_mem hn (show (p.1, p.2) ∈ b from hp)
          rw [e] at h3
          exact Option.some.inj (h3.symm.trans hC)
      constructor
      · have hp := ((perm_mdel hC).filter (fun p => decide (p.2 ∈ x :: r))).map (·.2)
        refine List.Perm.trans ?_ hp.symm
        rw [List.filter_cons, if_pos (by simp), List.map_cons]
        refine (h1.cons x).trans ?_
        rw [List.filter_congr (q := fun p => decide (p.2 ∈ x :: r))]
        intro p hp
        have h3 := (mem_mdel hn).1 hp
        have h4 : p.2 ≠ x := fun e => h3.2 ((hx p h3.1).1 e)
        simp [h4]
      · rw [h2, mdel_filter hn, List.filter_filter]
        refine List.filter_congr fun p hp => ?_
        rw [Bool.eq_iff_iff]
        simp only [Bool.and_eq_true, decide_eq_true_eq, List.mem_cons, not_or, ne_eq, hx p hp]
        exact And.comm
    · rename_i hC
      obtain ⟨h1, h2⟩ := fire_spec r b hn hk
      have hx : ∀ p ∈ b, p.2 ≠ x := fun p hp e => hC (by
        have h3 := mget_of_mem hn (show (p.1, p.2) ∈ b from hp)
        rw [hk p hp, e] at h3
        exact h3)
      constructor
      · refine h1.trans ?_
        rw [List.filter_congr (q := fun p => decide (p.2 ∈ x :: r))]
        intro p hp
        simp [hx p hp]
      · rw [h2]
        refine List.filter_congr fun p hp => ?_
        simp [hx p hp]
def stepS (s : WS) : WS := ⟨s.now + 1, s.seq, s.by_.filter fun p => decide (p.2.at_ ≠ s.now + 1)⟩
def stepO (s : WS) : List Al := ord ((s.by_.filter fun p => decide (p.2.at_ = s.now + 1)).map (·.2))
theorem wS_filter {s : WS} (hS : wS s) (f : Int × Al → Bool) : wS ⟨s.now, s.seq, s.by_.filter f⟩ := by
  have h1 : (s.by_.filter f).Sublist s.by_ := List.filter_sublist
  have := hS.len
  have := h1.length_le
  exact ⟨hS.n0, hS.n1, hS.q0, by show ((s.by_.filter f).length : Int) ≤ s.seq; omega, fun p hp => hS.cur p (List.mem_filter.1 hp).1, (h1.map _).nodup hS.seqs, (h1.map _).nodup hS.keys⟩
theorem wS_step {s : WS} (hS : wS s) (hn : s.now + 1 ≤ 2 ^ 60) : wS (stepS s) := by
  have h := wS_filter hS fun p => decide (p.2.at_ ≠ s.now + 1)
  have := hS.n0
  refine ⟨by show 0 ≤ s.now + 1; omega, hn, h.q0, h.len, fun p hp => ?_, h.seqs, h.keys⟩
  have h1 := h.cur p hp
  have h2 : p.2.at_ ≠ s.now + 1 := of_decide_eq_true (List.mem_filter.1 hp).2
  simp only [] at h1
  exact ⟨h1.1, by show s.now + 1 < _; omega, by show _ ≤ s.now + 1 + 2 ^ 24; omega, h1.2.2.2⟩
/-- The alarms of the spoke that is reached are those that are due. -/
theorem InvS.due {s : WS} {rows : List (List Al)} (hS : wS s) (h : InvS (s.now + 1) s.seq s.by_ 0 rows) : ∀ p ∈ s.by_, p.2 ∈ rowAt rows (spoke 0 (s.now + 1)) ↔ p.2.at_ = s.now + 1 := by
  intro p hp
  have hC := hS.cur_of hp
  constructor
  · intro hm
    obtain ⟨k, hk, e, h1⟩ := h.ra _ _ hm hC
    exact plS_fire h1 e
  · intro e
    obtain ⟨i, hi⟩ := h.rb _ hC
    obtain ⟨k, hk, e2, h1⟩ := h.ra _ _ hi hC
    obtain rfl := plS_level h1 e
    rw [← e, ← e2]
    exact hi
theorem InvS.done {s : WS} {rows : List (List Al)} (hS : wS s) (h : InvS (s.now + 1) s.seq s.by_ 0 rows) : wR (stepS s) (rows.set (spoke 0 (s.now + 1)) []) := by
  have hs := spoke_lt (show 0 < 5 by decide) (s.now + 1)
  have hl := h.len
  have ht := tot_set (rows := rows) (i := spoke 0 (s.now + 1)) (by omega) []
  have htt := h.tot
  have hcur : ∀ x, Cur (stepS s).by_ x → Cur s.by_ x ∧ x.at_ ≠ s.now + 1 := fun x hx => by
    have h1 := Cur.mem hx
    obtain ⟨h2, h3⟩ := List.mem_filter.1 h1
    exact ⟨mget_of_mem hS.keys h2, of_decide_eq_true h3⟩
  have hsub : ∀ i y, y ∈ rowAt (rows.set (spoke 0 (s.now + 1)) []) i → y ∈ rowAt rows i ∧ i ≠ spoke 0 (s.now + 1) := fun i y hy => by
    rw [rowAt_set (by omega)] at hy
    split at hy
    · cases hy
    · rename_i hne; exact ⟨hy, hne⟩
  simp only [List.length_nil] at ht
  refine ⟨by show _ ≤ s.seq; omega, fun i x hx => h.ent i x (hsub i x hx).1, fun i x hx hC => ?_, fun x hx => ?_⟩
  · obtain ⟨h1, h2⟩ := hsub i x hx
    obtain ⟨k, hk, e, h3⟩ := h.ra i x h1 (hcur x hC).1
    exact ⟨k, hk, e, plS_done h3 (e ▸ h2)⟩
  · obtain ⟨h1, h2⟩ := hcur x hx
    obtain ⟨i, hi⟩ := h.rb x h1
    refine ⟨i, ?_⟩
    rw [rowAt_set (by omega), if_neg]
    · exact hi
    · intro e
      subst e
      exact h2 ((h.due hS (x.key, x) h1.mem).1 hi)
theorem shl_eq {k : Nat} (h : k < 5) : IntKind.wrap .i64 (1 * (2 ^ (min (Int.toNat (IntKind.wrap .i64 (6 * (k : Int)))) (IntKind.bits .i64)) : Int)) = 2 ^ (6 * k) := by
  rcases five h with rfl | rfl | rfl | rfl | rfl <;> decide
/-! ### 2. The walk -/
section
variable {w0 w : World} {O : Nat → Prop} {L M : List Assn} {g gm : Nat} {now seq : Int} {rows : List (List Al)} {s : WS}
theorem step_ok (h : St w0 O (isW g s :: L) w) (hq : s.seq < 2 ^ 30) (hn : s.now + 1 ≤ 2 ^ 60) : Calls Try.prog 26 #[.pointer (some ⟨g, 0, none⟩)] w fun e w' =>
    ∃ A n c, e = .returned (.slice A n c) ∧ St w0 O (rowC 60 3 A n c ((stepO s).flatMap Al.cells) :: isW g (stepS s) :: L) w' := by
  obtain ⟨gm, rows, ⟨hS, hR⟩, h1⟩ := isW_open h
  have hn0 := hS.n0
  have hcc : ∀ x, Cur s.by_ x → s.now + 1 ≤ x.at_ ∧ x.at_ ≤ s.now + 1 + 2 ^ 24 := fun x hx => by have := hS.of_cur hx; omega
  refine F26.calls ?_
  unfold F26.main
  refine new_box h1 (fun g1 w2 h2 => ?_)
  refine ⟨_, h2.cell .here rfl, ?_⟩
  have h2' := h2.pick (.there .here)
  refine ⟨s.now, wM_now h2', ?_⟩
  rw [wrap_i64 (by omega) (by omega)]
  refine wM_now_W h2' (s.now + 1) (fun w3 h3 => ?_)
  have hbase : St w0 O (wM g gm (s.now + 1) s.seq rows :: mapC gm u64V Al.enc s.by_ :: blk g1 (.cells #[.pointer (some ⟨g, 0, none⟩)] 24) :: L) w3 := (h3.pick (.there (.there .here))).pick (.there .here)
  clear h3 h2' h2 h1
  -- the last loop
  have last : ∀ (lf dn : List Al) (l : List Al) (A A2 : Option Addr) (n c l2 c2 : Nat) (b : List (Int × Al)) (out : List Al) (rt : List (List Al)) (w : World), dn ++ lf = l → l.length < 2 ^ 30 → out.length + lf.length < 2 ^ 30 → (b.map (·.1)).Nodup →
      (∀ x ∈ l, 0 < x.seq) → ((out ++ (fire b lf).1).map (·.seq)).Nodup →
      St w0 O (rowC 60 3 A n c (l.flatMap Al.cells) :: rowC 60 3 A2 l2 c2 (out.flatMap Al.cells) :: wM g gm (s.now + 1) s.seq rt :: mapC gm u64V Al.enc b :: blk g1 (.cells #[.pointer (some ⟨g, 0, none⟩)] 24) :: L) w →
      SK Try.prog Try.f26 (fun e w' => ∃ A n c, e = .returned (.slice A n c) ∧ St w0 O (rowC 60 3 A n c ((ord (out ++ (fire b lf).1)).flatMap Al.cells) :: wM g gm (s.now + 1) s.seq rt :: mapC gm u64V Al.enc (fire b lf).2 :: L) w') (cfg Try.f26 12)
        [(1, .pointer (some ⟨g1, 0, none⟩)), (2, .slice A2 l2 c2), (48, .slice A n c), (49, .int .i64 ((n : Nat) : Int)), (50, .int .i64 (dn.length : Int))] w := by
    intro lf
    induction lf with
    | nil =>
      intro dn l A A2 n c l2 c2 b out rt w hsp hll hol hnb hz hnd h4
      have hlen := (rowC_len h4).1
      rw [flat_len] at hlen
      rw [List.append_nil] at hsp
      refine F26.p12_ok ?_
      unfold F26.p12
      rw [decide_eq_false (by rw [hsp]; omega), cond_false]
      have hl2 := (rowC_len h4.drop).1
      rw [flat_len] at hl2
      simp only [fire, List.append_nil] at hnd
      refine (sort_ok h4.drop (by omega) hnd).mono ?_
      rintro e w5 ⟨rfl, h5⟩
      refine .inl ⟨_, _, _, rfl, _, _, _, rfl, ?_⟩
      simp only [fire, List.append_nil]
      exact ((h5.pick (.there (.there (.there .here)))).drop)
    | cons x lf ih =>
      intro dn l A A2 n c l2 c2 b out rt w hsp hll hol hnb hz hnd h4
      have hlen := (rowC_len h4).1
      rw [flat_len] at hlen
      have hl2 := (rowC_len h4.drop).1
      rw [flat_len] at hl2
      have hlx : l[dn.length]? = some x := by rw [← hsp]; simp
      have hll2 : l.length = dn.length + (lf.length + 1) := by rw [← hsp]; simp
      have hxz : 0 < x.seq := hz x (List.mem_of_getElem? hlx)
      rw [List.length_cons] at hol
      refine F26.p12_ok ?_
      unfold F26.p12
      rw [decide_eq_true (by omega), cond_true]
      obtain ⟨gr, rfl, hjn, hcs⟩ := rowAl h4 hlx
      refine ⟨⟨by omega, by omega⟩, ?_⟩
      simp only [nilck, add_eq, Nat.zero_add, Int.toNat_natCast]
      refine ⟨x.key, x.at_, x.seq, hcs, ?_⟩
      refine alloc60 h4 (fun g8 w5 h5 => ?_)
      refine st60 h5 _ _ _ (fun w6 h6 => ?_)
      have h7 := h6.drew
      have hgb : ∀ {w}, St w0 O (blk g8 (.cells x.cells.toArray 60) :: rowC 60 3 (some ⟨gr, 0, none⟩) n c (l.flatMap Al.cells) :: rowC 60 3 A2 l2 c2 (out.flatMap Al.cells) :: wM g gm (s.now + 1) s.seq rt :: mapC gm u64V Al.enc b :: blk g1 (.cells #[.pointer (some ⟨g, 0, none⟩)] 24) :: L) w →
          w.cell? ⟨g1, 0, none⟩ = some (.pointer (some ⟨g, 0, none⟩)) := fun h => h.cell (.there (.there (.there (.there (.there .here))))) rfl
      refine ⟨_, hgb h7, ?_⟩
      simp only [nilck]
      refine ⟨some gm, wM_by (h7.pick (.there (.there (.there .here)))), x.key, h7.cell .here rfl, _, _, _, look1_ok h7 (.there (.there (.there (.there .here)))) x.key, x.key, x.at_, x.seq, h7.cells0 .here, ?_⟩
      rw [tst, atKey_cur hxz]
      have hidx : IntKind.wrap .i64 ((dn.length : Int) + 1) = ((dn ++ [x]).length : Int) := by
        rw [wrap_i64 (by omega) (by omega)]; simp
      rw [hidx]
      have hsp' : dn ++ [x] ++ lf = l := by rw [← hsp]; simp
      by_cases hcx : Cur b x
      · rw [decide_eq_true hcx, cond_true]
        have h8 := h7.drew
        have hfire : fire b (x :: lf) = (x :: (fire (mdel b x.key) lf).1, (fire (mdel b x.key) lf).2) := by rw [fire, if_pos hcx]
        refine ⟨_, hgb h8, ?_⟩
        simp only [nilck]
        refine ⟨some gm, wM_by (h8.pick (.there (.there (.there .here)))), x.key, h8.cell .here rfl, ?_⟩
        refine mapDel_W (enc := u64V) (encv := Al.enc) h8 (.there (.there (.there (.there .here)))) Try.underlying53 keyU64 0 x.key (fun w9 h9 => ?_)
        refine ⟨x.key, x.at_, x.seq, h9.cells0 (.there .here), ?_⟩
        refine bslAl h9 (fun gq w10 h10 => ?_)
        refine appendAl x h10 (.there (.there (.there (.there .here)))) (h10.cells0 (vs := x.cells) .here) (by omega) (fun A' c' w11 h11 => ?_)
        have h12 : St w0 O (rowC 60 3 (some ⟨gr, 0, none⟩) n c (l.flatMap Al.cells) :: rowC 60 3 A' (l2 + 1) c' ((out ++ [x]).flatMap Al.cells) :: wM g gm (s.now + 1) s.seq rt :: mapC gm u64V Al.enc (mdel b x.key) :: blk g1 (.cells #[.pointer (some ⟨g, 0, none⟩)] 24) :: L) w11 := by
          have a1 := (h11.pick (.there .here)).drop
          have a2 := (a1.pick (.there (.there .here))).drop
          exact (((a2.pick (.there .here)).pick (.there (.there (.there .here)))).pick (.there (.there .here))).pick (.there (.there (.there .here)))
        have := ih (dn ++ [x]) l (some ⟨gr, 0, none⟩) A' n c (l2 + 1) c' (mdel b x.key) (out ++ [x]) rt w11 hsp' hll (by simp; omega) (nodup_mdel hnb) hz (by rw [hfire] at hnd; simpa using hnd) h12
        rw [hfire]
        simpa using this
      · rw [decide_eq_false hcx, cond_false]
        have hfire : fire b (x :: lf) = fire b lf := by rw [fire, if_neg hcx]
        rw [hfire] at hnd ⊢
        exact ih (dn ++ [x]) l (some ⟨gr, 0, none⟩) A2 n c l2 c2 b out rt _ hsp' hll (by omega) hnb hz hnd h7.drop
  have loop : ∀ (K : Nat) (rt : List (List Al)) (w : World), K < 5 → InvS (s.now + 1) s.seq s.by_ K rt →
      St w0 O (wM g gm (s.now + 1) s.seq rt :: mapC gm u64V Al.enc s.by_ :: blk g1 (.cells #[.pointer (some ⟨g, 0, none⟩)] 24) :: L) w →
      SK Try.prog Try.f26 (fun e w' => ∃ A n c, e = .returned (.slice A n c) ∧ St w0 O (rowC 60 3 A n c ((stepO s).flatMap Al.cells) :: isW g (stepS s) :: L) w') (cfg Try.f26 4)
        [(1, .pointer (some ⟨g1, 0, none⟩)), (2, .slice none 0 0), (3, .func (Go.Fn.func 33) #[] #[.pointer (some ⟨g1, 0, none⟩)]), (4, .int .i64 (K : Int))] w := by
    intro K
    induction K with
    | zero =>
      intro rt w hK hI h4
      have hl := hI.len
      refine F26.p4_ok ?_
      unfold F26.p4
      rw [decide_eq_false (by omega), cond_false]
      have h5 := h4.drew
      have hgb : w.drew.cell? ⟨g1, 0, none⟩ = some (.pointer (some ⟨g, 0, none⟩)) := h5.cell (.there (.there .here)) rfl
      refine ⟨_, hgb, _, hgb, ?_⟩
      simp only [nilck]
      refine ⟨s.now + 1, wM_now h5, by decide, ?_⟩
      have hm1 : Int.tmod (s.now + 1) 64 = (s.now + 1) % 64 := Int.tmod_eq_emod_of_nonneg (by omega)
      have hm2 := Int.emod_lt_of_pos (s.now + 1) (show (0 : Int) < 64 by decide)
      have hm3 := Int.emod_nonneg (s.now + 1) (show (64 : Int) ≠ 0 by decide)
      have hoff : ((⟨g, 0, none⟩ : Addr).add (Int.toNat 0 * 64)).add (Int.toNat ((s.now + 1) % 64) * 1) = ⟨g, spoke 0 (s.now + 1), none⟩ := by
        rw [add_eq, add_eq]; simp [spoke]
      rw [hm1]
      refine ⟨⟨by omega, by omega⟩, ⟨by omega, by omega⟩, ?_⟩
      simp only [nilck, hoff]
      have hs := spoke_lt (show 0 < 5 by decide) (s.now + 1)
      obtain ⟨v, hv, hst⟩ := takeRow h5 hs
      refine ⟨v.1, v.2.1, v.2.2, hv, ?_⟩
      refine hst _ (fun w6 h6 => ?_)
      have h7 := (rowC_nil h6 60 3).pick (.there .here)
      have hfs := fire_spec (rowAt rt (spoke 0 (s.now + 1))) s.by_ hS.keys (fun p hp => (hS.cur p hp).1)
      have hdue := hI.due hS
      have hlt : (rowAt rt (spoke 0 (s.now + 1))).length < 2 ^ 30 := by
        have := tot_set (rows := rt) (i := spoke 0 (s.now + 1)) (by omega) []
        have := hI.tot
        simp only [List.length_nil] at *
        omega
      have e1 : s.by_.filter (fun p => decide (p.2 ∈ rowAt rt (spoke 0 (s.now + 1)))) = s.by_.filter (fun p => decide (p.2.at_ = s.now + 1)) := List.filter_congr fun p hp => by rw [decide_eq_decide]; exact hdue p hp
      have e2 : s.by_.filter (fun p => decide (p.2 ∉ rowAt rt (spoke 0 (s.now + 1)))) = s.by_.filter (fun p => decide (p.2.at_ ≠ s.now + 1)) := List.filter_congr fun p hp => by rw [decide_eq_decide, hdue p hp]
      rw [e1, e2] at hfs
      have hnd : ((s.by_.filter (fun p => decide (p.2.at_ = s.now + 1))).map (·.2)).map (·.seq) |>.Nodup := by
        rw [List.map_map]
        exact ((List.filter_sublist (p := fun p => decide (p.2.at_ = s.now + 1)) (l := s.by_)).map _).nodup hS.seqs
      have := last (rowAt rt (spoke 0 (s.now + 1))) [] (rowAt rt (spoke 0 (s.now + 1))) v.1 none v.2.1 v.2.2 0 0 s.by_ [] (rt.set (spoke 0 (s.now + 1)) []) w6 rfl hlt (by simpa using hlt) hS.keys
        (fun x hx => (hI.ent _ x hx).1) (by rw [List.nil_append]; exact ((hfs.1.map (·.seq)).nodup_iff).2 hnd) h7
      refine this.mono ?_
      rintro e w8 ⟨A, n, c, rfl, h8⟩
      refine ⟨A, n, c, rfl, ?_⟩
      rw [List.nil_append, hfs.2, ord_of_perm hfs.1 hnd] at h8
      have h9 := h8.pick (c := wM g gm (s.now + 1) s.seq (rt.set (spoke 0 (s.now + 1)) [])) (.there .here)
      have h10 := h9.pick (.there (.there .here))
      have h11 := h10.pick (.there .here)
      exact (isW_shut (s := stepS s) (wS_step hS hn) (hI.done hS) h11).pick (.there .here)
    | succ K ih =>
      intro rt w hK hI h4
      refine F26.p4_ok ?_
      unfold F26.p4
      rw [decide_eq_true (by omega), cond_true]
      have h5 := h4.drew
      have hgb : w.drew.cell? ⟨g1, 0, none⟩ = some (.pointer (some ⟨g, 0, none⟩)) := h5.cell (.there (.there .here)) rfl
      refine ⟨_, hgb, ?_⟩
      simp only [nilck, shl_eq hK]
      have hp : (0 : Int) < 2 ^ (6 * (K + 1)) := Int.pow_pos (by decide)
      refine ⟨s.now + 1, wM_now h5, by rw [wrap6 hK]; omega, by omega, ?_⟩
      rw [show Int.tmod (s.now + 1) (2 ^ (6 * (K + 1))) = (s.now + 1) % 2 ^ (6 * (K + 1)) from Int.tmod_eq_emod_of_nonneg (by omega)]
      rw [show IntKind.wrap .i64 (((K + 1 : Nat) : Int) - 1) = (K : Int) from by rw [wrap_i64 (by omega) (by omega)]; omega]
      by_cases hm : (s.now + 1) % 2 ^ (6 * (K + 1)) = 0
      · rw [show ((s.now + 1) % 2 ^ (6 * (K + 1)) != 0) = false from by simpa using hm, cond_false]
        have htt := hI.tot
        refine (down_ok (K + 1) hK h5 (by omega) hn hcc (fun i x hx => (hI.ent i x hx).1) (by omega)).mono ?_
        rintro e w6 ⟨rfl, rows', hP, h6⟩
        exact .inl ⟨rfl, ih rows' w6 (by omega) (hI.down hK (fun x hx => (hcc x hx).1) hP) h6⟩
      · rw [show ((s.now + 1) % 2 ^ (6 * (K + 1)) != 0) = true from by simpa using hm, cond_true]
        exact ih rt _ (by omega) (hI.stay hm) h5
  exact loop 4 rows w3 (by decide) (InvS.start hS hR (wM_len hbase)) hbase
end
end Go.Proofs.Ytmngdgdmbebfhaa
