/- The wheel against the document's answer: plain laws. -/
import Derived.Test.YtmngdgdmbebfhaaRef21c
import Derived.Test.YtmngdgdmbebfhaaWCopy
set_option linter.unusedVariables false
set_option linter.unusedSimpArgs false
namespace Go.Proofs.Ytmngdgdmbebfhaa
open Go Go.RowKit

def vals (s : WS) : List Al := s.by_.map (·.2)
/-- The alarms in order. -/
def rowO (s : WS) : List Al := ord (vals s)
section
variable {s : WS}
theorem vals_seqs (hS : wS s) : ((vals s).map (·.seq)).Nodup := by
  unfold vals
  rw [List.map_map]
  exact hS.seqs
theorem rowO_mem (hS : wS s) {x : Al} : x ∈ rowO s ↔ Cur s.by_ x := by
  unfold rowO
  rw [(ord_perm _).mem_iff]
  unfold vals
  constructor
  · intro h
    obtain ⟨p, hp, rfl⟩ := List.mem_map.1 h
    exact hS.cur_of hp
  · intro h
    exact List.mem_map.2 ⟨_, h.mem, rfl⟩
theorem rowO_len : (rowO s).length = s.by_.length := by
  unfold rowO vals
  rw [(ord_perm _).length_eq, List.length_map]
theorem vals_clear (hS : wS s) (key : Int) : vals (clearS s key) = (vals s).filter fun x => decide (x.key ≠ key) := by
  unfold vals
  show (mdel s.by_ key).map (·.2) = _
  rw [mdel_filter hS.keys, List.filter_map]
  congr 1
  refine List.filter_congr fun p hp => ?_
  have := (hS.cur p hp).1
  simp [this]
theorem rowO_clear (hS : wS s) (key : Int) : rowO (clearS s key) = refClear (rowO s) key := by
  unfold refClear
  symm
  refine ord_of ?_ ((ord_srt _).filter _) (vals_seqs (wS_clear hS key))
  rw [vals_clear hS]
  exact (ord_perm _).filter _
theorem clear_none (hS : wS s) (key : Int) : ((refClear (rowO s) key).length = (rowO s).length) ↔ mget s.by_ key = none := by
  rw [← rowO_clear hS, rowO_len, rowO_len]
  show (mdel s.by_ key).length = s.by_.length ↔ _
  constructor
  · intro h
    cases hm : mget s.by_ key with
    | none => rfl
    | some v =>
      have := (perm_mdel hm).length_eq
      simp at this
      omega
  · intro h
    rw [mdel_filter hS.keys, List.filter_eq_self.2]
    intro p hp
    have : p.1 ≠ key := fun e => mget_none.1 h (List.mem_map.2 ⟨p, hp, e⟩)
    simpa using this
theorem setE_eq (hS : wS s) (key after : Int) : refSetE (rowO s) key after = setE s key after := by
  unfold refSetE setE
  split
  · rfl
  · have h1 := clear_none hS key
    have h2 : (rowO s).length = s.by_.length := rowO_len
    by_cases h : mget s.by_ key = none
    · have h3 := h1.2 h
      by_cases h4 : 4096 ≤ s.by_.length
      · rw [if_pos ⟨h3, by omega⟩, if_pos ⟨h, h4⟩]
      · rw [if_neg (by omega), if_neg (fun h => h4 h.2)]
    · rw [if_neg (fun h5 => h (h1.1 h5.1)), if_neg (fun h5 => h h5.1)]
theorem perm_mset {α β : Type} [DecidableEq α] {l : List (α × β)} (hn : (l.map (·.1)).Nodup) (k : α) (v : β) : (mset l k v).Perm ((k, v) :: mdel l k) := by
  have h1 : mget (mset l k v) k = some v := by rw [mget_mset, if_pos rfl]
  have h2 := perm_mdel h1
  have h3 : mdel (mset l k v) k = mdel l k := by
    clear h1 h2 hn
    induction l with
    | nil => simp [mset, mdel]
    | cons p r ih =>
      obtain ⟨a, b⟩ := p
      simp only [mset, mdel]
      split
      · rename_i e
        simp [mdel]
      · rename_i e
        simp only [mdel, if_neg e, ih]
  rw [h3] at h2
  exact h2
theorem refIns_perm (l : List Al) (x : Al) : (refIns l x).Perm (x :: l) := by
  unfold refIns
  have h := List.takeWhile_append_dropWhile (p := fun y : Al => decide (y.at_ ≤ x.at_)) (l := l)
  rw [List.append_assoc]
  refine List.perm_middle.trans (.cons _ ?_)
  exact List.Perm.of_eq h
theorem refIns_srt {l : List Al} {x : Al} (h : Srt l) (hx : ∀ y ∈ l, y.seq < x.seq) : Srt (refIns l x) := by
  induction l with
  | nil => simp [refIns, Srt]
  | cons y r ih =>
    obtain ⟨h1, h2⟩ := List.pairwise_cons.1 h
    have ih := ih h2 (fun z hz => hx z (List.mem_cons_of_mem _ hz))
    have hy := hx y List.mem_cons_self
    unfold refIns at ih ⊢
    by_cases c : y.at_ ≤ x.at_
    · rw [List.takeWhile_cons, if_pos (by simpa using c), List.dropWhile_cons, if_pos (by simpa using c)]
      refine List.pairwise_cons.2 ⟨fun z hz => ?_, ih⟩
      rcases List.mem_cons.1 ((refIns_perm r x).mem_iff.1 (show z ∈ refIns r x from hz)) with rfl | hz
      · unfold ltA; omega
      · exact h1 z hz
    · rw [List.takeWhile_cons, if_neg (by simpa using c), List.dropWhile_cons, if_neg (by simpa using c)]
      refine List.pairwise_cons.2 ⟨fun z hz => ?_, h⟩
      rcases List.mem_cons.1 hz with rfl | hz
      · unfold ltA; omega
      · have := h1 z hz
        have := hx z (List.mem_cons_of_mem _ hz)
        unfold ltA at *
        omega
theorem rowO_set (hS : wS s) (hq : s.seq < 2 ^ 30) (key after : Int) : rowO (setS s key after) = refSetL (rowO s) ⟨key, s.now + after, s.seq + 1⟩ after := by
  have hS' := setS_ok hS hq key after
  unfold refSetL
  rw [setE_eq hS]
  by_cases e0 : setE s key after = 0
  · have est : setS s key after = ⟨s.now, s.seq + 1, mset s.by_ key ⟨key, s.now + after, s.seq + 1⟩⟩ := if_pos e0
    rw [if_pos e0, ← rowO_clear hS]
    symm
    refine ord_of ?_ (refIns_srt (ord_srt _) (fun y hy => ?_)) (vals_seqs hS')
    · refine (refIns_perm _ _).trans ?_
      rw [est]
      unfold vals
      have h1 := (perm_mset hS.keys key ⟨key, s.now + after, s.seq + 1⟩).map (·.2)
      refine List.Perm.trans ?_ h1.symm
      exact (ord_perm _).cons _
    · have h2 := (rowO_mem (wS_clear hS key)).1 hy
      exact Int.lt_add_one_of_le ((wS_clear hS key).of_cur h2).2.2.2
  · rw [if_neg e0, show setS s key after = s from if_neg e0]
theorem rowO_T (hS : wS s) (m : Int) : ord (Dl s m) ++ rowO (T s m) = rowO s := by
  refine ord_append ?_ ?_ (vals_seqs hS)
  · unfold Dl T vals
    simp only [← List.map_append]
    refine List.Perm.map _ ?_
    have hp := List.filter_append_perm (fun p : Int × Al => decide (p.2.at_ ≤ m)) s.by_
    refine List.Perm.trans (List.Perm.of_eq ?_) hp
    congr 1
    refine List.filter_congr fun p hp => ?_
    rw [Bool.eq_iff_iff]
    simp
  · intro x hx y hy
    obtain ⟨p, hp, rfl⟩ := List.mem_map.1 hx
    obtain ⟨q, hq, rfl⟩ := List.mem_map.1 hy
    have h1 := of_decide_eq_true (List.mem_filter.1 hp).2
    have h2 : m < q.2.at_ := of_decide_eq_true (List.mem_filter.1 hq).2
    show p.2.at_ < q.2.at_
    omega
theorem due_row (hS : wS s) (m : Int) : (rowO s).takeWhile (fun x => decide (x.at_ ≤ m)) = ord (Dl s m) ∧ (rowO s).dropWhile (fun x => decide (x.at_ ≤ m)) = rowO (T s m) := by
  have h1 := rowO_T hS m
  have hd : ∀ y ∈ ord (Dl s m), decide (y.at_ ≤ m) = true := fun y hy => by
    obtain ⟨p, hp, rfl⟩ := List.mem_map.1 ((ord_perm _).mem_iff.1 hy)
    exact (List.mem_filter.1 hp).2
  cases hr : rowO (T s m) with
  | nil =>
    rw [hr, List.append_nil] at h1
    rw [← h1]
    exact takeWhile_all hd
  | cons x r =>
    rw [hr] at h1
    refine takeWhile_snoc h1 hd ?_
    have hx : x ∈ rowO (T s m) := by rw [hr]; exact List.mem_cons_self
    obtain ⟨q, hq, rfl⟩ := List.mem_map.1 ((ord_perm _).mem_iff.1 hx)
    have h2 : m < q.2.at_ := of_decide_eq_true (List.mem_filter.1 hq).2
    exact decide_eq_false (by omega)
theorem left_eq (hS : wS s) (key : Int) : refLeft s.now (rowO s) key = leftE s key := by
  have hall : ∀ (l : List Al), (∀ x ∈ l, Cur s.by_ x) → ((∃ x ∈ l, x.key = key) ∨ mget s.by_ key = none) → refLeft s.now l key = leftE s key := by
    intro l
    induction l with
    | nil =>
      intro _ h
      unfold leftE
      rw [h.resolve_left (fun ⟨x, hx, _⟩ => by cases hx)]
      rfl
    | cons x r ih =>
      intro hc h
      have hx := hc x List.mem_cons_self
      rw [refLeft]
      split
      · rename_i e
        unfold leftE
        unfold Cur at hx
        rw [e] at hx
        rw [hx]
      · rename_i e
        refine ih (fun y hy => hc y (List.mem_cons_of_mem _ hy)) ?_
        rcases h with ⟨y, hy, hk⟩ | h
        · rcases List.mem_cons.1 hy with rfl | hy
          · exact absurd hk e
          · exact .inl ⟨y, hy, hk⟩
        · exact .inr h
  refine hall _ (fun x hx => (rowO_mem hS).1 hx) ?_
  cases hm : mget s.by_ key with
  | none => exact .inr rfl
  | some x =>
    have hin := mget_mem hm
    have hk := (hS.cur _ hin).1
    have hC : Cur s.by_ x := hS.cur_of hin
    exact .inl ⟨x, (rowO_mem hS).2 hC, hk.symm⟩
theorem next_eq (hS : wS s) : refNext s.now (rowO s) = nextE s := by
  unfold nextE
  cases hm : minAt s.by_ with
  | none =>
    have : rowO s = [] := List.eq_nil_of_length_eq_zero (by rw [rowO_len, minAt_none.1 hm]; rfl)
    rw [this]
    rfl
  | some m =>
    obtain ⟨⟨p, hp, hpm⟩, hall⟩ := minAt_spec hm
    cases hr : rowO s with
    | nil =>
      have := rowO_len (s := s)
      rw [hr] at this
      have h2 := List.length_pos_of_mem hp
      simp at this
      omega
    | cons x r =>
      have hx : x ∈ rowO s := by rw [hr]; exact List.mem_cons_self
      have h1 := hall _ ((rowO_mem hS).1 hx).mem
      have hpo : p.2 ∈ rowO s := (rowO_mem hS).2 (hS.cur_of hp)
      have h2 : x.at_ ≤ p.2.at_ := by
        rw [hr] at hpo
        rcases List.mem_cons.1 hpo with e | hpr
        · rw [e]; exact Int.le_refl _
        · have hs := ord_srt (vals s)
          change Srt (rowO s) at hs
          rw [hr] at hs
          have := (List.pairwise_cons.1 hs).1 _ hpr
          unfold ltA at this
          omega
      show (x.at_ - s.now, true) = (m - s.now, true)
      have h1 : m ≤ x.at_ := h1
      have : x.at_ = m := by omega
      rw [this]
end
end Go.Proofs.Ytmngdgdmbebfhaa
