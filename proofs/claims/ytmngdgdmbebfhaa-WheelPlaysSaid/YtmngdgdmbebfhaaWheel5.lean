/- The wheel: leap. -/
import Derived.Test.YtmngdgdmbebfhaaWheel4
set_option linter.unusedVariables false
set_option linter.unusedSimpArgs false
namespace Go.Proofs.Ytmngdgdmbebfhaa
open Go Go.RowKit

theorem Puts.snoc {now : Int} {x : Al} {r' : List (List Al)} : ∀ {xs : List Al} {rows r : List (List Al)}, Puts now rows xs r → Put now r x r' → Puts now rows (xs ++ [x]) r'
  | [], rows, _, rfl, h => ⟨r', h, rfl⟩
  | y :: xs, rows, r, ⟨r1, h1, h2⟩, h => ⟨r1, h1, h2.snoc h⟩
theorem nilRows_len : nilRows.length = 320 := List.length_replicate
section
variable {w0 w : World} {O : Nat → Prop} {L M : List Assn} {g gm : Nat} {now seq : Int} {rows : List (List Al)} {s : WS} {by_ : List (Int × Al)}
/-- All alarms are put anew. -/
theorem wR_anew {to : Int} {dn : List (Int × Al)} (hS : wS s) (hn : s.now ≤ to) (hd : ∀ p ∈ s.by_, to < p.2.at_) (hp : s.by_.Perm dn) (h : Puts to nilRows (dn.map (·.2)) rows) : wR ⟨to, s.seq, s.by_⟩ rows := by
  obtain ⟨h1, h2, h3, h4, h5⟩ := h.spec nilRows_len
  have hmem : ∀ x, x ∈ dn.map (·.2) → ∃ p ∈ s.by_, p.2 = x := fun x hx => by
    obtain ⟨p, hp1, rfl⟩ := List.mem_map.1 hx
    exact ⟨p, hp.mem_iff.2 hp1, rfl⟩
  refine ⟨?_, fun i x hx => ?_, ?_, fun x hx => ?_⟩
  · rw [h2, tot_nil, List.length_map, ← hp.length_eq]
    have := hS.len
    show _ ≤ s.seq
    omega
  · rcases h3 i x hx with h6 | h6
    · rw [rowAt_nil] at h6; cases h6
    · obtain ⟨p, hp1, rfl⟩ := hmem x h6
      exact (hS.cur p hp1).2.2.2
  · refine h.RA nilRows_len (fun x hx k hk h6 h7 => ?_) (fun i x hx => by rw [rowAt_nil] at hx; cases hx)
    obtain ⟨p, hp1, rfl⟩ := hmem x hx
    exact put_plT (hd p hp1) k h6 h7
  · exact h5 x (List.mem_map.2 ⟨(x.key, x), hp.mem_iff.1 (Cur.mem hx), rfl⟩)
def leapS (s : WS) (to : Int) : WS := ⟨if to ≤ s.now then s.now else to, s.seq, s.by_⟩
theorem leap_ok (h : St w0 O (isW g s :: L) w) (to : Int) (h1 : to ≤ 2 ^ 60) (hd : ∀ p ∈ s.by_, to < p.2.at_) (hq : s.seq < 2 ^ 30) :
    Calls Try.prog 25 #[.pointer (some ⟨g, 0, none⟩), .int .i64 to] w fun e w' => e = .returned (.tuple #[]) ∧ wS (leapS s to) ∧ St w0 O (isW g (leapS s to) :: L) w' := by
  obtain ⟨gm, rows, ⟨hS, hR⟩, h2⟩ := isW_open h
  refine F25.calls ?_
  unfold F25.main
  refine ⟨s.now, wM_now h2, ?_⟩
  by_cases c : to ≤ s.now
  · rw [decide_eq_true c, cond_true]
    have e : leapS s to = s := by unfold leapS; rw [if_pos c]
    rw [e]
    exact ⟨rfl, hS, isW_shut hS hR h2⟩
  rw [decide_eq_false c, cond_false]
  have e : leapS s to = ⟨to, s.seq, s.by_⟩ := by unfold leapS; rw [if_neg c]
  rw [e]
  have hn0 := hS.n0
  have hS' : wS ⟨to, s.seq, s.by_⟩ := ⟨by show 0 ≤ to; omega, h1, hS.q0, hS.len, fun p hp => by
    have := hS.cur p hp
    exact ⟨this.1, hd p hp, by show _ ≤ to + 2 ^ 24; omega, this.2.2.2⟩, hS.seqs, hS.keys⟩
  refine wM_now_W h2 to (fun w3 h3 => ?_)
  refine wM_nil_W h3 (by kernel_rfl) (by kernel_rfl) (by kernel_rfl) (by kernel_rfl) (fun w4 h4 => ?_)
  refine ⟨some gm, wM_by h4, ?_⟩
  refine range_W h4 (.there .here) Try.underlying53 (fun it w5 h5 => ?_)
  have loop : ∀ (n : Nat) (dn lf : List (Int × Al)) (rows : List (List Al)) (w : World), lf.length = n → Puts to nilRows (dn.map (·.2)) rows → St w0 O (iterC it gm u64V Al.enc s.by_ dn lf :: wM g gm to s.seq rows :: L) w →
      SK Try.prog Try.f25 (fun e w' => e = .returned (.tuple #[]) ∧ wS ⟨to, s.seq, s.by_⟩ ∧ St w0 O (isW g ⟨to, s.seq, s.by_⟩ :: L) w') (cfg Try.f25 4)
        [(0, .pointer (some ⟨g, 0, none⟩)), (24, .pointer (some ⟨it, 0, none⟩))] w := by
    intro n
    induction n using Nat.strongRecOn with
    | _ n ih =>
      intro dn lf rows w hn hP h6
      refine F25.p4_ok ?_
      unfold F25.p4
      refine next_W h6 .here 0 (fun hl w7 h7 => ?_) (fun x lf' hpm w7 h7 => ?_)
      · have hperm := iterC_perm h7
        rw [List.append_nil] at hperm
        exact ⟨rfl, hS', isW_shut hS' (wR_anew hS (by omega) hd hperm hP) ((iterC_map h7).pick (.there .here))⟩
      · have hxm : x ∈ s.by_ := (iterC_perm h7).mem_iff.2 (by simp)
        have hx := hS.cur x hxm
        have hlen : lf'.length < n := by have := hpm.length_eq; simp at this; omega
        refine ⟨u64V x.1, x.2.key, x.2.at_, x.2.seq, entry_of h7 .here, ?_⟩
        refine alloc60 h7 (fun g5 w8 h8 => ?_)
        refine st60 h8 _ _ _ (fun w9 h9 => ?_)
        refine ⟨x.2.key, x.2.at_, x.2.seq, h9.cells0 (vs := x.2.cells) .here, ?_⟩
        have h10 := h9.drop.pick (.there .here)
        have hdl : dn.length ≤ s.by_.length := by have := (iterC_perm h7).length_eq; simp at this; omega
        have hsl := hS.len
        have htot : tot rows = dn.length := by have := (hP.spec nilRows_len).2.1; rw [this, tot_nil, List.length_map, Nat.zero_add]
        have hd' := hd x hxm
        refine (put_ok h10 x.2 (by omega) (by omega) (by omega) (far_top (by omega)) (fun r hr => by have := len_le_tot hr; omega)).mono ?_
        rintro e' w11 ⟨rfl, k, hk, hk1, hk2, h11⟩
        refine .inl ⟨rfl, ?_⟩
        refine ih _ hlen (dn ++ [x]) lf' _ w11 rfl ?_ (h11.pick (.there .here))
        rw [List.map_append]
        exact hP.snoc ⟨k, hk, hk1, hk2, rfl⟩
  exact loop _ [] s.by_ nilRows w5 rfl rfl h5
end
end Go.Proofs.Ytmngdgdmbebfhaa
