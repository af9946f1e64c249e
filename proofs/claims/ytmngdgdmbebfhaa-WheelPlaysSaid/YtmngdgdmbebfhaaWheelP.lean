/- The wheel's plain laws: alarms in order, and where alarms lie. -/
import Derived.Test.YtmngdgdmbebfhaaWheel2
set_option linter.unusedVariables false
set_option linter.unusedSimpArgs false
namespace Go.Proofs.Ytmngdgdmbebfhaa
open Go Go.RowKit

/-! ### 1. Order -/
def ltA (a b : Al) : Prop := a.at_ < b.at_ ∨ (a.at_ = b.at_ ∧ a.seq < b.seq)
instance (a b : Al) : Decidable (ltA a b) := inferInstanceAs (Decidable (_ ∨ _))
def insA (x : Al) : List Al → List Al
  | [] => [x]
  | y :: r => if ltA x y then x :: y :: r else y :: insA x r
def ord (l : List Al) : List Al := l.foldr insA []
theorem insA_perm (x : Al) : ∀ l : List Al, (insA x l).Perm (x :: l)
  | [] => .refl _
  | y :: r => by
    unfold insA
    split
    · exact .refl _
    · exact ((insA_perm x r).cons y).trans (.swap _ _ _)
theorem ord_perm : ∀ l : List Al, (ord l).Perm l
  | [] => .refl _
  | x :: r => (insA_perm x (ord r)).trans ((ord_perm r).cons x)
abbrev Srt (l : List Al) : Prop := l.Pairwise fun a b => ¬ ltA b a
theorem insA_srt (x : Al) : ∀ l : List Al, Srt l → Srt (insA x l)
  | [], _ => by simp [insA, Srt]
  | y :: r, h => by
    unfold insA
    obtain ⟨h1, h2⟩ := List.pairwise_cons.1 h
    split
    · rename_i hlt
      refine List.pairwise_cons.2 ⟨fun z hz => ?_, h⟩
      rcases List.mem_cons.1 hz with rfl | hz
      · unfold ltA at *; omega
      · have := h1 z hz
        unfold ltA at *; omega
    · rename_i hlt
      refine List.pairwise_cons.2 ⟨fun z hz => ?_, insA_srt x r h2⟩
      rcases List.mem_cons.1 ((insA_perm x r).mem_iff.1 hz) with rfl | hz
      · exact hlt
      · exact h1 z hz
theorem ord_srt : ∀ l : List Al, Srt (ord l)
  | [] => List.Pairwise.nil
  | x :: r => insA_srt x _ (ord_srt r)
theorem nodup_seq_inj {l : List Al} (h : (l.map (·.seq)).Nodup) {a b : Al} (ha : a ∈ l) (hb : b ∈ l) (e : a.seq = b.seq) : a = b := by
  obtain ⟨i, hi, rfl⟩ := List.getElem_of_mem ha
  obtain ⟨j, hj, rfl⟩ := List.getElem_of_mem hb
  have : i = j := (List.getElem_inj (h₀ := by simpa using hi) (h₁ := by simpa using hj) h).1 (by simpa using e)
  subst this
  rfl
/-- Two rows in order that hold the same are one. -/
theorem srt_uniq {l l' : List Al} (p : l.Perm l') (h : Srt l) (h' : Srt l') (hn : (l.map (·.seq)).Nodup) : l = l' :=
  List.Perm.eq_of_pairwise (fun a b ha hb h1 h2 => nodup_seq_inj hn ha (p.mem_iff.2 hb) (by unfold ltA at *; omega)) h h' p
theorem ord_of {l l' : List Al} (p : l'.Perm l) (h' : Srt l') (hn : (l.map (·.seq)).Nodup) : l' = ord l :=
  srt_uniq (p.trans (ord_perm l).symm) h' (ord_srt l) ((p.map (·.seq)).nodup_iff.2 hn)
theorem ord_of_perm {l l' : List Al} (p : l'.Perm l) (hn : (l.map (·.seq)).Nodup) : ord l' = ord l := ord_of ((ord_perm l').trans p) (ord_srt l') hn
/-- All of the first come ahead of all of the second. -/
theorem ord_append {a b l : List Al} (p : (a ++ b).Perm l) (hab : ∀ x ∈ a, ∀ y ∈ b, x.at_ < y.at_) (hn : (l.map (·.seq)).Nodup) : ord a ++ ord b = ord l := by
  refine ord_of (((ord_perm a).append (ord_perm b)).trans p) ?_ hn
  refine List.pairwise_append.2 ⟨ord_srt a, ord_srt b, fun x hx y hy => ?_⟩
  have := hab x ((ord_perm a).mem_iff.1 hx) y ((ord_perm b).mem_iff.1 hy)
  unfold ltA
  omega

/-! ### 2. Rows -/
def rowAt (rows : List (List Al)) (i : Nat) : List Al := rows.getD i []
def tot (rows : List (List Al)) : Nat := (rows.map List.length).sum
theorem rowAt_set {rows : List (List Al)} {i : Nat} (hi : i < rows.length) (r : List Al) (j : Nat) : rowAt (rows.set i r) j = if j = i then r else rowAt rows j := by
  unfold rowAt
  rw [List.getD_eq_getElem?_getD, List.getD_eq_getElem?_getD, List.getElem?_set]
  by_cases h : j = i
  · subst h; simp [hi]
  · rw [if_neg (Ne.symm h), if_neg h]
theorem tot_set : ∀ {rows : List (List Al)} {i : Nat} (hi : i < rows.length) (r : List Al), tot (rows.set i r) + (rowAt rows i).length = tot rows + r.length
  | x :: rs, 0, _, r => by simp [tot, rowAt]; omega
  | x :: rs, i + 1, hi, r => by
    have := tot_set (rows := rs) (i := i) (by simpa using hi) r
    simp only [tot, rowAt, List.set_cons_succ, List.map_cons, List.sum_cons, List.getD_cons_succ] at *
    omega
theorem len_le_tot : ∀ {rows : List (List Al)} {r : List Al}, r ∈ rows → r.length ≤ tot rows
  | x :: rs, r, h => by
    rcases List.mem_cons.1 h with rfl | h
    · simp [tot]
    · have := len_le_tot h
      simp only [tot, List.map_cons, List.sum_cons] at *
      omega
/-- What lies where: each alarm of C that lies in some row lies where pl lets it. -/
def RA (pl : Nat → Al → Prop) (C : Al → Prop) (rows : List (List Al)) : Prop := ∀ i x, x ∈ rowAt rows i → C x → ∃ k, k < 5 ∧ i = spoke k x.at_ ∧ pl k x
/-- Each alarm of C lies in some row. -/
def RB (C : Al → Prop) (rows : List (List Al)) : Prop := ∀ x, C x → ∃ i, x ∈ rowAt rows i
/-- What a put does. -/
def Put (now : Int) (rows : List (List Al)) (x : Al) (rows' : List (List Al)) : Prop := ∃ k, k < 5 ∧ far now x.at_ k < 64 ∧ (∀ j, j < k → 64 ≤ far now x.at_ j) ∧ rows' = rows.set (spoke k x.at_) (rowAt rows (spoke k x.at_) ++ [x])
section
variable {now : Int} {rows rows' : List (List Al)} {x : Al} {pl : Nat → Al → Prop} {C : Al → Prop}
theorem Put.len (h : Put now rows x rows') : rows'.length = rows.length := by obtain ⟨k, _, _, _, rfl⟩ := h; simp
theorem Put.tot (h : Put now rows x rows') (hl : rows.length = 320) : tot rows' = tot rows + 1 := by
  obtain ⟨k, hk, _, _, rfl⟩ := h
  have := tot_set (rows := rows) (i := spoke k x.at_) (by rw [hl]; exact spoke_lt hk _) (rowAt rows (spoke k x.at_) ++ [x])
  simp at this
  omega
theorem Put.mem (h : Put now rows x rows') (hl : rows.length = 320) {i : Nat} {y : Al} : y ∈ rowAt rows' i → y ∈ rowAt rows i ∨ y = x := by
  obtain ⟨k, hk, _, _, rfl⟩ := h
  rw [rowAt_set (by rw [hl]; exact spoke_lt hk _)]
  split
  · rename_i e; subst e; intro h; rcases List.mem_append.1 h with h | h
    · exact .inl h
    · exact .inr (by simpa using h)
  · exact .inl
theorem Put.keeps (h : Put now rows x rows') (hl : rows.length = 320) {i : Nat} {y : Al} (hy : y ∈ rowAt rows i) : y ∈ rowAt rows' i := by
  obtain ⟨k, hk, _, _, rfl⟩ := h
  rw [rowAt_set (by rw [hl]; exact spoke_lt hk _)]
  split
  · rename_i e; subst e; exact List.mem_append_left _ hy
  · exact hy
theorem Put.there (h : Put now rows x rows') (hl : rows.length = 320) : ∃ i, x ∈ rowAt rows' i := by
  obtain ⟨k, hk, _, _, rfl⟩ := h
  refine ⟨spoke k x.at_, ?_⟩
  rw [rowAt_set (by rw [hl]; exact spoke_lt hk _), if_pos rfl]
  simp
theorem Put.RA (h : Put now rows x rows') (hl : rows.length = 320) (hp : ∀ k, k < 5 → far now x.at_ k < 64 → (∀ j, j < k → 64 ≤ far now x.at_ j) → pl k x) (hA : RA pl C rows) : RA pl C rows' := by
  obtain ⟨k, hk, h1, h2, rfl⟩ := h
  intro i y hy hC
  rw [rowAt_set (by rw [hl]; exact spoke_lt hk _)] at hy
  split at hy
  · rename_i e
    rcases List.mem_append.1 hy with hy | hy
    · exact hA i y (e ▸ hy) hC
    · obtain rfl : y = x := by simpa using hy
      exact ⟨k, hk, e, hp k hk h1 h2⟩
  · exact hA i y hy hC
end
/-- In order, strictly: the spoke isn't reached yet. -/
def plT (now : Int) (k : Nat) (x : Al) : Prop := now / 2 ^ (6 * k) < x.at_ / 2 ^ (6 * k) ∧ far now x.at_ k < 64
/-- While a step goes on: the levels up to K aren't looked at yet. -/
def plS (now : Int) (K k : Nat) (x : Al) : Prop := far now x.at_ k < 64 ∧ (now ≤ x.at_) ∧ (0 < k → (K < k ∨ now % 2 ^ (6 * k) ≠ 0) → now / 2 ^ (6 * k) < x.at_ / 2 ^ (6 * k))
theorem div_step (n : Int) (k : Nat) : n / 2 ^ (6 * (k + 1)) = n / 2 ^ (6 * k) / 64 := by
  rw [show (2 : Int) ^ (6 * (k + 1)) = 2 ^ (6 * k) * 64 from by rw [show 6 * (k + 1) = 6 * k + 6 from by omega, Int.pow_add]; rfl]
  rw [Int.ediv_ediv_of_nonneg (Int.le_of_lt (Int.pow_pos (by decide)))]
theorem put_strict {now at_ : Int} {k : Nat} (h : ∀ j, j < k → 64 ≤ far now at_ j) (hk : 0 < k) : now / 2 ^ (6 * k) < at_ / 2 ^ (6 * k) := by
  obtain ⟨j, rfl⟩ : ∃ j, k = j + 1 := ⟨k - 1, by omega⟩
  have := h j (by omega)
  unfold far at this
  rw [div_step, div_step]
  omega
theorem put_plT {now : Int} {x : Al} (h : now < x.at_) (k : Nat) (h1 : far now x.at_ k < 64) (h2 : ∀ j, j < k → 64 ≤ far now x.at_ j) : plT now k x := by
  refine ⟨?_, h1⟩
  cases k with
  | zero => simpa using h
  | succ k => exact put_strict h2 (by omega)
theorem put_plS {now : Int} {x : Al} {K : Nat} (h : now ≤ x.at_) (k : Nat) (h1 : far now x.at_ k < 64) (h2 : ∀ j, j < k → 64 ≤ far now x.at_ j) : plS now K k x :=
  ⟨h1, h, fun hk _ => put_strict h2 hk⟩
theorem far_top {now at_ : Int} (h : at_ ≤ now + 2 ^ 24) : far now at_ 4 < 64 := by
  unfold far
  simp only [show 6 * 4 = 24 from rfl]
  omega

/-! ### 3. A step's levels -/
theorem spoke_inj {k k' : Nat} {a b : Int} (h : spoke k a = spoke k' b) : k = k' ∧ (a / 2 ^ (6 * k)) % 64 = (b / 2 ^ (6 * k')) % 64 := by
  unfold spoke at h
  have := Int.emod_lt_of_pos (a / 2 ^ (6 * k)) (show (0 : Int) < 64 by decide)
  have := Int.emod_nonneg (a / 2 ^ (6 * k)) (show (64 : Int) ≠ 0 by decide)
  have := Int.emod_lt_of_pos (b / 2 ^ (6 * k')) (show (0 : Int) < 64 by decide)
  have := Int.emod_nonneg (b / 2 ^ (6 * k')) (show (64 : Int) ≠ 0 by decide)
  have e : k = k' := by omega
  refine ⟨e, ?_⟩
  omega
theorem plT_plS {now : Int} {k : Nat} {x : Al} (hk : k < 5) (h : plT now k x) (ha : now + 1 ≤ x.at_) : plS (now + 1) 4 k x := by
  obtain ⟨h1, h2⟩ := h
  unfold plS
  unfold far at *
  rcases five hk with rfl | rfl | rfl | rfl | rfl <;>
    simp only [show 6 * 0 = 0 from rfl, show 6 * 1 = 6 from rfl, show 6 * 2 = 12 from rfl, show 6 * 3 = 18 from rfl, show 6 * 4 = 24 from rfl] at * <;>
    refine ⟨by omega, ha, fun h0 h3 => ?_⟩ <;> omega
theorem plS_stay {now : Int} {K k : Nat} {x : Al} (hm : now % 2 ^ (6 * (K + 1)) ≠ 0) (h : plS now (K + 1) k x) : plS now K k x := by
  obtain ⟨h1, h2, h3⟩ := h
  refine ⟨h1, h2, fun h0 h4 => h3 h0 ?_⟩
  rcases h4 with h4 | h4
  · by_cases e : k = K + 1
    · subst e; exact .inr hm
    · exact .inl (by omega)
  · exact .inr h4
theorem div_mono {a b : Int} (k : Nat) (h : a ≤ b) : a / 2 ^ (6 * k) ≤ b / 2 ^ (6 * k) := Int.ediv_le_ediv (Int.pow_pos (by decide)) h
theorem plS_down {now : Int} {K k : Nat} {x : Al} (h : plS now (K + 1) k x) (hn : spoke k x.at_ ≠ spoke (K + 1) now) : plS now K k x := by
  obtain ⟨h1, h2, h3⟩ := h
  refine ⟨h1, h2, fun h0 h4 => ?_⟩
  by_cases e : k = K + 1
  · subst e
    have h5 := div_mono (K + 1) h2
    have h6 : (x.at_ / 2 ^ (6 * (K + 1))) % 64 ≠ (now / 2 ^ (6 * (K + 1))) % 64 := fun e => hn (by unfold spoke; rw [e])
    unfold far at h1
    omega
  · refine h3 h0 ?_
    rcases h4 with h4 | h4
    · exact .inl (by omega)
    · exact .inr h4
theorem plS_done {now : Int} {k : Nat} {x : Al} (h : plS now 0 k x) (hn : spoke k x.at_ ≠ spoke 0 now) : plT now k x := by
  obtain ⟨h1, h2, h3⟩ := h
  refine ⟨?_, h1⟩
  cases k with
  | zero =>
    have h6 : (x.at_ / 2 ^ (6 * 0)) % 64 ≠ (now / 2 ^ (6 * 0)) % 64 := fun e => hn (by unfold spoke; rw [e])
    unfold far at h1
    simp only [show 6 * 0 = 0 from rfl] at *
    omega
  | succ k => exact h3 (by omega) (.inl (by omega))
theorem plS_fire {now : Int} {k : Nat} {x : Al} (h : plS now 0 k x) (hn : spoke 0 now = spoke k x.at_) : x.at_ = now := by
  obtain ⟨h1, h2, h3⟩ := h
  obtain ⟨rfl, h4⟩ := spoke_inj hn
  unfold far at h1
  simp only [show 6 * 0 = 0 from rfl] at *
  omega
theorem plS_level {now : Int} {k : Nat} {x : Al} (h : plS now 0 k x) (he : x.at_ = now) : k = 0 := by
  obtain ⟨h1, h2, h3⟩ := h
  cases k with
  | zero => rfl
  | succ k => have := h3 (by omega) (.inl (by omega)); rw [he] at this; omega

/-! ### 4. Many puts -/
def Puts (now : Int) : List (List Al) → List Al → List (List Al) → Prop
  | rows, [], rows' => rows' = rows
  | rows, x :: xs, rows' => ∃ r1, Put now rows x r1 ∧ Puts now r1 xs rows'
theorem Puts.spec {now : Int} : ∀ {xs : List Al} {rows rows' : List (List Al)}, Puts now rows xs rows' → rows.length = 320 →
    rows'.length = 320 ∧ tot rows' = tot rows + xs.length ∧ (∀ i y, y ∈ rowAt rows' i → y ∈ rowAt rows i ∨ y ∈ xs) ∧ (∀ i y, y ∈ rowAt rows i → y ∈ rowAt rows' i) ∧ (∀ x ∈ xs, ∃ i, x ∈ rowAt rows' i)
  | [], rows, _, rfl, hl => ⟨hl, rfl, fun _ _ h => .inl h, fun _ _ h => h, fun x hx => by cases hx⟩
  | x :: xs, rows, rows', ⟨r1, h, hs⟩, hl => by
    have hl1 : r1.length = 320 := by rw [h.len, hl]
    obtain ⟨h1, h2, h3, h4, h5⟩ := Puts.spec hs hl1
    refine ⟨h1, by rw [h2, h.tot hl, List.length_cons]; omega, fun i y hy => ?_, fun i y hy => h4 i y (h.keeps hl hy), fun y hy => ?_⟩
    · rcases h3 i y hy with h6 | h6
      · rcases h.mem hl h6 with h7 | rfl
        · exact .inl h7
        · exact .inr List.mem_cons_self
      · exact .inr (List.mem_cons_of_mem _ h6)
    · rcases List.mem_cons.1 hy with rfl | hy
      · obtain ⟨i, hi⟩ := h.there hl
        exact ⟨i, h4 i _ hi⟩
      · exact h5 y hy
theorem Puts.RA {now : Int} {pl : Nat → Al → Prop} {C : Al → Prop} : ∀ {xs : List Al} {rows rows' : List (List Al)}, Puts now rows xs rows' → rows.length = 320 →
    (∀ x ∈ xs, ∀ k, k < 5 → far now x.at_ k < 64 → (∀ j, j < k → 64 ≤ far now x.at_ j) → pl k x) → RA pl C rows → RA pl C rows'
  | [], rows, _, rfl, hl, _, hA => hA
  | x :: xs, rows, rows', ⟨r1, h, hs⟩, hl, hp, hA =>
    Puts.RA hs (by rw [h.len, hl]) (fun y hy => hp y (List.mem_cons_of_mem _ hy)) (h.RA hl (hp x List.mem_cons_self) hA)

/-! ### 5. The map -/
section
variable {α β : Type} [DecidableEq α]
theorem mget_mset (l : List (α × β)) (k : α) (v : β) (k' : α) : mget (mset l k v) k' = if k' = k then some v else mget l k' := by
  induction l with
  | nil =>
    simp only [mset, mget]
    by_cases h : k = k'
    · simp [h]
    · simp [h, Ne.symm h]
  | cons p r ih =>
    obtain ⟨a, b⟩ := p
    simp only [mset]
    by_cases h : a = k
    · subst h
      simp only [if_true, mget]
      by_cases h2 : a = k'
      · subst h2; simp
      · simp [h2, Ne.symm h2]
    · simp only [if_neg h, mget, ih]
      by_cases h2 : a = k'
      · subst h2; simp [h]
      · simp [h2]
theorem mget_none {l : List (α × β)} {k : α} : mget l k = none ↔ k ∉ l.map (·.1) := by
  rw [mget_midx]
  cases h : midx (l.map (·.1)) k with
  | none => simpa using midx_none.1 h
  | some i =>
    have h1 := (midx_lt h).2
    have h2 := (midx_lt h).1
    simp only [Option.bind_some]
    constructor
    · intro h3
      rw [List.getElem?_eq_none_iff] at h3
      simp at h2 h3
      omega
    · intro h3
      exact absurd (List.mem_of_getElem? h1) h3
theorem mget_mem {l : List (α × β)} {k : α} {v : β} (h : mget l k = some v) : (k, v) ∈ l := by
  induction l with
  | nil => simp [mget] at h
  | cons p r ih =>
    obtain ⟨a, b⟩ := p
    simp only [mget] at h
    split at h
    · rename_i e; subst e; cases h; exact List.mem_cons_self
    · exact List.mem_cons_of_mem _ (ih h)
theorem mget_of_mem {l : List (α × β)} (hn : (l.map (·.1)).Nodup) {k : α} {v : β} (h : (k, v) ∈ l) : mget l k = some v := by
  induction l with
  | nil => cases h
  | cons p r ih =>
    obtain ⟨a, b⟩ := p
    simp only [List.map_cons, List.nodup_cons] at hn
    simp only [mget]
    rcases List.mem_cons.1 h with e | h
    · cases e; simp
    · rw [if_neg, ih hn.2 h]
      rintro rfl
      exact hn.1 (List.mem_map.2 ⟨_, h, rfl⟩)
theorem mdel_filter {l : List (α × β)} (hn : (l.map (·.1)).Nodup) (k : α) : mdel l k = l.filter fun p => decide (p.1 ≠ k) := by
  induction l with
  | nil => rfl
  | cons p r ih =>
    obtain ⟨a, b⟩ := p
    simp only [List.map_cons, List.nodup_cons] at hn
    simp only [mdel]
    split
    · rename_i e
      subst e
      rw [List.filter_cons, if_neg (by simp)]
      rw [List.filter_eq_self.2]
      intro q hq
      have : q.1 ≠ a := fun e => hn.1 (List.mem_map.2 ⟨q, hq, e⟩)
      simpa using this
    · rename_i e
      rw [List.filter_cons, if_pos (by simpa using e), ih hn.2]
end
end Go.Proofs.Ytmngdgdmbebfhaa
