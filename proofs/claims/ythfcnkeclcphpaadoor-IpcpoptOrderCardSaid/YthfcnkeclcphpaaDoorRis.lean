/- Rows that rise by a key; the order of texts; association lists against rows. -/
import Derived.Test.YthfcnkeclcphpaaDoorMapEnt
set_option linter.unusedVariables false
set_option linter.unusedSimpArgs false
namespace Go.Proofs.YthfcnkeclcphpaaDoor
open Go Go.RowKit

/-! ### 1. Orders -/
structure Lin {κ : Type} (lt : κ → κ → Bool) : Prop where
  irr : ∀ a, lt a a = false
  tr : ∀ a b c, lt a b = true → lt b c = true → lt a c = true
  tri : ∀ a b, lt a b = true ∨ a = b ∨ lt b a = true
section
variable {κ : Type} {lt : κ → κ → Bool}
theorem Lin.asym (H : Lin lt) {a b : κ} (h : lt a b = true) : lt b a = false := by
  cases h2 : lt b a with
  | false => rfl
  | true => have := H.tr a b a h h2; rw [H.irr] at this; cases this
theorem Lin.ne (H : Lin lt) {a b : κ} (h : lt a b = true) : a ≠ b := by rintro rfl; rw [H.irr] at h; cases h
end
theorem bl_irr : ∀ l : List UInt8, Op.bytesLess l l = false
  | [] => rfl
  | a :: r => by simp [Op.bytesLess, bl_irr r]
theorem bl_tr : ∀ a b c : List UInt8, Op.bytesLess a b = true → Op.bytesLess b c = true → Op.bytesLess a c = true
  | _, [], _, h, _ => by simp [Op.bytesLess] at h
  | _, _ :: _, [], _, h => by simp [Op.bytesLess] at h
  | [], _ :: _, _ :: _, _, _ => by simp [Op.bytesLess]
  | a :: x, b :: y, c :: z, h1, h2 => by
    simp only [Op.bytesLess, Bool.or_eq_true, Bool.and_eq_true, decide_eq_true_eq, beq_iff_eq] at h1 h2 ⊢
    rcases h1 with h1 | ⟨rfl, h1⟩
    · rcases h2 with h2 | ⟨rfl, h2⟩
      · exact .inl (UInt8.lt_trans h1 h2)
      · exact .inl h1
    · rcases h2 with h2 | ⟨rfl, h2⟩
      · exact .inl h2
      · exact .inr ⟨rfl, bl_tr x y z h1 h2⟩
theorem bl_tri : ∀ a b : List UInt8, Op.bytesLess a b = true ∨ a = b ∨ Op.bytesLess b a = true
  | [], [] => .inr (.inl rfl)
  | [], _ :: _ => .inl (by simp [Op.bytesLess])
  | _ :: _, [] => .inr (.inr (by simp [Op.bytesLess]))
  | a :: x, b :: y => by
    simp only [Op.bytesLess, Bool.or_eq_true, Bool.and_eq_true, decide_eq_true_eq, beq_iff_eq, List.cons.injEq]
    rcases (show a < b ∨ a = b ∨ b < a from by
      rcases Nat.lt_trichotomy a.toNat b.toNat with h | h | h
      · exact .inl (UInt8.lt_iff_toNat_lt.2 h)
      · exact .inr (.inl (UInt8.toNat_inj.1 h))
      · exact .inr (.inr (UInt8.lt_iff_toNat_lt.2 h))) with h | rfl | h
    · exact .inl (.inl h)
    · rcases bl_tri x y with h | rfl | h
      · exact .inl (.inr ⟨rfl, h⟩)
      · exact .inr (.inl ⟨rfl, rfl⟩)
      · exact .inr (.inr (.inr ⟨rfl, h⟩))
    · exact .inr (.inr (.inl h))
theorem bytes_inj' {a b : ByteArray} (h : a.toList = b.toList) : a = b := by
  have := beq_toListBytes a b
  rw [h, beq_self_eq_true, ba_beq] at this
  exact of_decide_eq_true this
/-- Go's '<' on texts. -/
def ltB (a b : ByteArray) : Bool := Op.bytesLess a.toList b.toList
theorem linB : Lin ltB where
  irr a := bl_irr _
  tr a b c := bl_tr _ _ _
  tri a b := by
    rcases bl_tri a.toList b.toList with h | h | h
    · exact .inl h
    · exact .inr (.inl (bytes_inj' h))
    · exact .inr (.inr h)
def ltI (a b : Int) : Bool := decide (a < b)
theorem linI : Lin ltI where
  irr a := by simp [ltI]
  tr a b c h1 h2 := by simp [ltI] at *; omega
  tri a b := by simp [ltI]; omega

/-! ### 2. Rows -/
section
variable {κ β : Type} {lt : κ → κ → Bool} {key : β → κ} {l a b : List β} {k : κ} {x y : β}
/-- The row rises, strictly. -/
def Ris (lt : κ → κ → Bool) (key : β → κ) (l : List β) : Prop := l.Pairwise fun x y => lt (key x) (key y) = true
def lowR (lt : κ → κ → Bool) (key : β → κ) (l : List β) (k : κ) : List β := l.filter fun y => lt (key y) k
def topR (lt : κ → κ → Bool) (key : β → κ) (l : List β) (k : κ) : List β := l.filter fun y => lt k (key y)
def putR (lt : κ → κ → Bool) (key : β → κ) (l : List β) (x : β) : List β := lowR lt key l (key x) ++ x :: topR lt key l (key x)
theorem ris_nil : Ris lt key ([] : List β) := List.Pairwise.nil
theorem Ris.keys (H : Lin lt) (h : Ris lt key l) : (l.map key).Nodup := List.pairwise_map.2 (List.Pairwise.imp (fun h => H.ne h) h)
theorem Ris.filter (h : Ris lt key l) (p : β → Bool) : Ris lt key (l.filter p) := List.Pairwise.filter p h
theorem mem_low : y ∈ lowR lt key l k ↔ y ∈ l ∧ lt (key y) k = true := by simp [lowR]
theorem mem_top : y ∈ topR lt key l k ↔ y ∈ l ∧ lt k (key y) = true := by simp [topR]
/-- Rising rows of the same things are the same. -/
theorem Ris.uniq (H : Lin lt) : ∀ {a b : List β}, Ris lt key a → Ris lt key b → a.Perm b → a = b
  | [], b, _, _, hp => (List.nil_perm.1 hp).symm
  | x :: r, [], _, _, hp => by simpa using hp.length_eq
  | x :: r, y :: s, ha, hb, hp => by
    have h1 := List.pairwise_cons.1 ha
    have h2 := List.pairwise_cons.1 hb
    have hxy : x = y := by
      have hx : x ∈ y :: s := hp.subset List.mem_cons_self
      have hy : y ∈ x :: r := hp.symm.subset List.mem_cons_self
      rcases List.mem_cons.1 hx with h | hx
      · exact h
      · rcases List.mem_cons.1 hy with h | hy
        · exact h.symm
        · have := H.asym (h1.1 y hy)
          rw [h2.1 x hx] at this
          cases this
    subst hxy
    rw [Ris.uniq H h1.2 h2.2 (List.Perm.cons_inv hp)]
theorem mem_put (H : Lin lt) : y ∈ putR lt key l x ↔ y = x ∨ (y ∈ l ∧ key y ≠ key x) := by
  simp only [putR, List.mem_append, List.mem_cons, mem_low, mem_top]
  constructor
  · rintro (⟨h1, h2⟩ | rfl | ⟨h1, h2⟩)
    · exact .inr ⟨h1, H.ne h2⟩
    · exact .inl rfl
    · exact .inr ⟨h1, (H.ne h2).symm⟩
  · rintro (rfl | ⟨h1, h2⟩)
    · exact .inr (.inl rfl)
    · rcases H.tri (key y) (key x) with h | h | h
      · exact .inl ⟨h1, h⟩
      · exact absurd h h2
      · exact .inr (.inr ⟨h1, h⟩)
theorem Ris.put (H : Lin lt) (h : Ris lt key l) (x : β) : Ris lt key (putR lt key l x) := by
  refine List.pairwise_append.2 ⟨h.filter _, List.pairwise_cons.2 ⟨fun y hy => (mem_top.1 hy).2, h.filter _⟩, fun y hy z hz => ?_⟩
  have h1 := (mem_low.1 hy).2
  rcases List.mem_cons.1 hz with rfl | hz
  · exact h1
  · exact H.tr _ _ _ h1 (mem_top.1 hz).2
/-- An association list of things by their keys, and a row of them. -/
structure IsMap (key : β → κ) (kvs : List (κ × β)) (l : List β) : Prop where
  ks : ∀ p ∈ kvs, p.1 = key p.2
  perm : (kvs.map (·.2)).Perm l
  nodup : (l.map key).Nodup
variable {kvs : List (κ × β)}
theorem IsMap.nil : IsMap key ([] : List (κ × β)) [] := ⟨by simp, .refl _, by simp⟩
theorem IsMap.keys (h : IsMap key kvs l) : kvs.map (·.1) = (kvs.map (·.2)).map key := by
  rw [List.map_map]
  exact List.map_congr_left fun p hp => h.ks p hp
theorem IsMap.nodup' (h : IsMap key kvs l) : (kvs.map (·.1)).Nodup := by rw [h.keys]; exact (h.perm.map key).nodup_iff.2 h.nodup
theorem IsMap.len (h : IsMap key kvs l) : kvs.length = l.length := by rw [← h.perm.length_eq, List.length_map]
theorem IsMap.to {m : List β} (h : IsMap key kvs l) (hp : l.Perm m) : IsMap key kvs m := ⟨h.ks, h.perm.trans hp, (hp.map key).nodup_iff.1 h.nodup⟩
variable [DecidableEq κ]
def getR (key : β → κ) (l : List β) (k : κ) : Option β := l.find? fun y => decide (key y = k)
def delR (key : β → κ) (l : List β) (k : κ) : List β := l.filter fun y => !decide (key y = k)
theorem Ris.del (h : Ris lt key l) (k : κ) : Ris lt key (delR key l k) := h.filter _
theorem mem_del : y ∈ delR key l k ↔ y ∈ l ∧ key y ≠ k := by simp [delR]
theorem perm_lowtop (H : Lin lt) (l : List β) (k : κ) : (lowR lt key l k ++ topR lt key l k).Perm (delR key l k) := by
  induction l with
  | nil => exact .refl _
  | cons y r ih =>
    simp only [lowR, topR, delR, List.filter_cons] at *
    rcases H.tri (key y) k with h | h | h
    · simp only [h, H.asym h, H.ne h, if_true, if_false, decide_false, Bool.not_false, Bool.false_eq_true, List.cons_append]
      exact ih.cons y
    · subst h
      simp only [H.irr, decide_true, Bool.not_true, Bool.false_eq_true, if_false]
      exact ih
    · simp only [h, H.asym h, (H.ne h).symm, if_true, if_false, decide_false, Bool.not_false, Bool.false_eq_true]
      exact List.perm_middle.trans (ih.cons y)
theorem perm_put (H : Lin lt) (l : List β) (x : β) : (putR lt key l x).Perm (x :: delR key l (key x)) :=
  List.perm_middle.trans ((perm_lowtop H l (key x)).cons x)
theorem getR_some' (h : getR key l k = some x) : x ∈ l ∧ key x = k :=
  ⟨List.mem_of_find?_eq_some h, by simpa using List.find?_some h⟩
theorem getR_none : getR key l k = none ↔ ∀ y ∈ l, key y ≠ k := by simp [getR, List.find?_eq_none]
theorem getR_mem : ∀ {l : List β}, (l.map key).Nodup → x ∈ l → getR key l (key x) = some x
  | [], _, h => by cases h
  | y :: r, hn, h => by
    simp only [List.map_cons, List.nodup_cons] at hn
    simp only [getR, List.find?_cons]
    by_cases e : key y = key x
    · rcases List.mem_cons.1 h with rfl | h
      · simp
      · exact absurd (List.mem_map.2 ⟨x, h, e.symm⟩) hn.1
    · have hx : x ∈ r := by
        rcases List.mem_cons.1 h with rfl | h
        · exact absurd rfl e
        · exact h
      simp only [e, decide_false]
      exact getR_mem hn.2 hx
theorem getR_some (hn : (l.map key).Nodup) : getR key l k = some x ↔ x ∈ l ∧ key x = k :=
  ⟨getR_some', fun ⟨h1, h2⟩ => h2 ▸ getR_mem hn h1⟩
theorem getR_perm (hn : (a.map key).Nodup) (hp : a.Perm b) : getR key a k = getR key b k := by
  have hnb : (b.map key).Nodup := (hp.map key).nodup_iff.1 hn
  cases h : getR key a k with
  | none => exact (getR_none.2 fun y hy => getR_none.1 h y (hp.mem_iff.2 hy)).symm
  | some x =>
    have h1 := getR_some' h
    exact ((getR_some hnb).2 ⟨hp.mem_iff.1 h1.1, h1.2⟩).symm
theorem getR_put (H : Lin lt) (h : Ris lt key l) : getR key (putR lt key l x) k = if key x = k then some x else getR key l k := by
  have hn := (h.put H x).keys H
  split
  · rename_i e; exact (getR_some hn).2 ⟨(mem_put H).2 (.inl rfl), e⟩
  · rename_i e
    cases hg : getR key l k with
    | none =>
      refine getR_none.2 fun y hy => ?_
      rcases (mem_put H).1 hy with rfl | ⟨h1, _⟩
      · exact e
      · exact getR_none.1 hg y h1
    | some y =>
      have h1 := getR_some' hg
      exact (getR_some hn).2 ⟨(mem_put H).2 (.inr ⟨h1.1, fun h2 => e (by rw [← h2, h1.2])⟩), h1.2⟩
theorem getR_del {j : κ} : getR key (delR key l j) k = if j = k then none else getR key l k := by
  split
  · rename_i e; subst e
    exact getR_none.2 fun y hy => (mem_del.1 hy).2
  · rename_i e
    unfold getR delR
    rw [List.find?_filter]
    congr 1
    funext y
    by_cases h : key y = k
    · simp [h, Ne.symm e]
    · simp [h]
theorem len_delR (hn : (l.map key).Nodup) : (delR key l k).length + (getR key l k).isSome.toNat = l.length := by
  induction l with
  | nil => rfl
  | cons y r ih =>
    simp only [List.map_cons, List.nodup_cons] at hn
    have ih := ih hn.2
    simp only [delR, getR, List.filter_cons, List.find?_cons] at ih ⊢
    by_cases e : key y = k
    · subst e
      have hno : r.filter (fun z => !decide (key z = key y)) = r := by
        refine List.filter_eq_self.2 fun z hz => ?_
        have : key z ≠ key y := fun h => hn.1 (List.mem_map.2 ⟨z, hz, h⟩)
        simp [this]
      simp [hno]
    · simp only [e, decide_false, Bool.not_false, if_true, List.length_cons, Bool.false_eq_true] at ih ⊢
      omega
theorem len_put (H : Lin lt) (h : Ris lt key l) : (putR lt key l x).length = if (getR key l (key x)).isSome then l.length else l.length + 1 := by
  rw [(perm_put H l x).length_eq, List.length_cons]
  have := len_delR (k := key x) (h.keys H)
  cases hb : (getR key l (key x)).isSome with
  | true => rw [hb] at this; rw [if_pos rfl]; exact this
  | false => rw [hb] at this; rw [if_neg (by simp)]; simp at this; omega
theorem len_get (h : (getR key l k).isSome) : 0 < l.length := by
  cases l with
  | nil => simp [getR] at h
  | cons _ _ => simp
/-! ### 3. Association lists -/
theorem mget_mset' {γ : Type} {l : List (κ × γ)} {j k : κ} {v : γ} : mget (mset l j v) k = if j = k then some v else mget l k := by
  induction l with
  | nil => simp [mset, mget]
  | cons p r ih =>
    obtain ⟨a, b⟩ := p
    by_cases e : a = j
    · subst e
      by_cases e2 : a = k <;> simp [mset, mget, e2]
    · by_cases e2 : a = k
      · subst e2
        simp [mset, mget, e, Ne.symm e]
      · simp [mset, mget, e, e2, ih]
theorem mget_none' {γ : Type} {l : List (κ × γ)} {k : κ} : mget l k = none ↔ ∀ p ∈ l, p.1 ≠ k := by
  induction l with
  | nil => simp [mget]
  | cons p r ih =>
    obtain ⟨a, b⟩ := p
    by_cases e : a = k <;> simp [mget, e, ih]
theorem mget_mdel' {γ : Type} {l : List (κ × γ)} (hn : (l.map (·.1)).Nodup) {j k : κ} : mget (mdel l j) k = if j = k then none else mget l k := by
  induction l with
  | nil => simp [mdel, mget]
  | cons p r ih =>
    obtain ⟨a, b⟩ := p
    simp only [List.map_cons, List.nodup_cons] at hn
    by_cases e : a = j
    · subst e
      by_cases e2 : a = k
      · subst e2
        simp only [mdel, mget, if_true]
        exact mget_none'.2 fun p hp h => hn.1 (List.mem_map.2 ⟨p, hp, h⟩)
      · simp [mdel, mget, e2]
    · by_cases e2 : a = k
      · subst e2
        simp [mdel, mget, e, Ne.symm e]
      · simp [mdel, mget, e, e2, ih hn.2]
theorem mget_getR : ∀ {kvs : List (κ × β)}, (∀ p ∈ kvs, p.1 = key p.2) → mget kvs k = getR key (kvs.map (·.2)) k
  | [], _ => rfl
  | (a, b) :: r, h => by
    have h1 : a = key b := h _ List.mem_cons_self
    have ih := mget_getR (kvs := r) fun p hp => h p (List.mem_cons_of_mem _ hp)
    simp only [mget, List.map_cons, getR, List.find?_cons] at ih ⊢
    subst h1
    by_cases e : key b = k
    · simp [e]
    · simp [e, ih]
theorem IsMap.get (h : IsMap key kvs l) (k : κ) : mget kvs k = getR key l k := by
  rw [mget_getR h.ks]
  exact getR_perm ((h.perm.map key).nodup_iff.2 h.nodup) h.perm
theorem mset_perm (x : β) : ∀ {kvs : List (κ × β)}, (∀ p ∈ kvs, p.1 = key p.2) → (kvs.map (·.1)).Nodup → ((mset kvs (key x) x).map (·.2)).Perm (x :: delR key (kvs.map (·.2)) (key x))
  | [], _, _ => .refl _
  | (a, b) :: r, h, hn => by
    have h1 : a = key b := h _ List.mem_cons_self
    simp only [List.map_cons, List.nodup_cons] at hn
    have ih := mset_perm x (kvs := r) (fun p hp => h p (List.mem_cons_of_mem _ hp)) hn.2
    subst h1
    simp only [mset, List.map_cons, delR, List.filter_cons] at ih ⊢
    by_cases e : key b = key x
    · have hno : (r.map (·.2)).filter (fun z => !decide (key z = key x)) = r.map (·.2) := by
        refine List.filter_eq_self.2 fun z hz => ?_
        obtain ⟨p, hp, rfl⟩ := List.mem_map.1 hz
        have : key p.2 ≠ key x := fun h2 => hn.1 (List.mem_map.2 ⟨p, hp, by rw [h p (List.mem_cons_of_mem _ hp), h2, e]⟩)
        simp [this]
      simp [e, hno]
    · simp only [e, if_false, decide_false, Bool.not_false, if_true, List.map_cons]
      exact (ih.cons b).trans (.swap _ _ _)
theorem mdel_perm (k : κ) : ∀ {kvs : List (κ × β)}, (∀ p ∈ kvs, p.1 = key p.2) → (kvs.map (·.1)).Nodup → ((mdel kvs k).map (·.2)) = delR key (kvs.map (·.2)) k
  | [], _, _ => rfl
  | (a, b) :: r, h, hn => by
    have h1 : a = key b := h _ List.mem_cons_self
    simp only [List.map_cons, List.nodup_cons] at hn
    have ih := mdel_perm k (kvs := r) (fun p hp => h p (List.mem_cons_of_mem _ hp)) hn.2
    subst h1
    simp only [mdel, List.map_cons, delR, List.filter_cons] at ih ⊢
    by_cases e : key b = k
    · have hno : (r.map (·.2)).filter (fun z => !decide (key z = k)) = r.map (·.2) := by
        refine List.filter_eq_self.2 fun z hz => ?_
        obtain ⟨p, hp, rfl⟩ := List.mem_map.1 hz
        have : key p.2 ≠ k := fun h2 => hn.1 (List.mem_map.2 ⟨p, hp, by rw [h p (List.mem_cons_of_mem _ hp), h2, e]⟩)
        simp [this]
      simp [e, hno]
    · simp [e, ih]
theorem mset_mem' {γ : Type} {l : List (κ × γ)} {k : κ} {v : γ} {p : κ × γ} (h : p ∈ mset l k v) : p = (k, v) ∨ p ∈ l := by
  induction l with
  | nil => simp [mset] at h; exact .inl h
  | cons q r ih =>
    obtain ⟨a, b⟩ := q
    simp only [mset] at h
    split at h
    · rcases List.mem_cons.1 h with h | h
      · exact .inl h
      · exact .inr (List.mem_cons_of_mem _ h)
    · rcases List.mem_cons.1 h with h | h
      · exact .inr (h ▸ List.mem_cons_self)
      · rcases ih h with h | h
        · exact .inl h
        · exact .inr (List.mem_cons_of_mem _ h)
theorem nodup_put (hn : (l.map key).Nodup) (x : β) : ((x :: delR key l (key x)).map key).Nodup := by
  rw [List.map_cons, List.nodup_cons]
  refine ⟨fun h => ?_, ?_⟩
  · obtain ⟨y, hy, e⟩ := List.mem_map.1 h
    exact (mem_del.1 hy).2 e
  · exact (List.filter_sublist.map key).nodup hn
theorem IsMap.set (h : IsMap key kvs l) (x : β) : IsMap key (mset kvs (key x) x) (x :: delR key l (key x)) := by
  refine ⟨fun p hp => ?_, (mset_perm x h.ks h.nodup').trans ((h.perm.filter _).cons x), nodup_put h.nodup x⟩
  rcases mset_mem' hp with rfl | hp
  · rfl
  · exact h.ks p hp
theorem IsMap.del (h : IsMap key kvs l) (k : κ) : IsMap key (mdel kvs k) (delR key l k) := by
  refine ⟨fun p hp => h.ks p (mdel_sub.subset hp), ?_, (List.filter_sublist.map key).nodup h.nodup⟩
  rw [mdel_perm k h.ks h.nodup']
  exact h.perm.filter _
theorem IsMap.put (H : Lin lt) (h : IsMap key kvs l) (x : β) : IsMap key (mset kvs (key x) x) (putR lt key l x) := (h.set x).to (perm_put H l x).symm
end
end Go.Proofs.YthfcnkeclcphpaaDoor
