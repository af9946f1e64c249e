/- Worlds told by the blocks that a call owns: a list of parts, apart from one another, and what stays as it was. -/
import Derived.Test.YthfcnkeclcphpaaDoorRun3
import Derived.Below
import Derived.Maps.AppendAt
set_option linter.unusedVariables false
set_option linter.unusedSimpArgs false
namespace Go.Proofs.YthfcnkeclcphpaaDoor
open Go Go.RowKit

/-! ### 1. Parts of a heap -/
abbrev Hp := Nat → Option Obj
def Hp.disj (h k : Hp) : Prop := ∀ b, h b = none ∨ k b = none
def Hp.join (h k : Hp) : Hp := fun b => match h b with
  | some o => some o
  | none => k b
abbrev Assn := Hp → Prop
def stars : List Assn → Assn
  | [] => fun h => ∀ b, h b = none
  | c :: r => fun h => ∃ h1 h2, Hp.disj h1 h2 ∧ h = Hp.join h1 h2 ∧ c h1 ∧ stars r h2
/-- Block g holds o. -/
@[irreducible] def blk (g : Nat) (o : Obj) : Assn := fun h => h = fun b => if b = g then some o else none
theorem blk_def (g : Nat) (o : Obj) (h : Hp) : blk g o h ↔ h = fun b => if b = g then some o else none := by unfold blk; exact Iff.rfl

theorem Hp.disj.symm {h k : Hp} (d : Hp.disj h k) : Hp.disj k h := fun b => (d b).symm
theorem Hp.join_comm {h k : Hp} (d : Hp.disj h k) : Hp.join h k = Hp.join k h := by
  funext b
  unfold Hp.join
  rcases d b with e | e <;> rw [e] <;> cases h b <;> cases k b <;> simp_all
theorem Hp.join_assoc (h k l : Hp) : Hp.join (Hp.join h k) l = Hp.join h (Hp.join k l) := by
  funext b
  unfold Hp.join
  cases h b <;> rfl
theorem Hp.disj_join {h k l : Hp} : Hp.disj (Hp.join h k) l ↔ Hp.disj h l ∧ Hp.disj k l ∨ False := by
  constructor
  · intro d
    refine .inl ⟨fun b => ?_, fun b => ?_⟩
    · have := d b
      unfold Hp.join at this
      cases hb : h b with
      | none => exact .inl rfl
      | some o => rw [hb] at this; exact .inr (this.resolve_left (by simp))
    · have := d b
      unfold Hp.join at this
      cases hb : h b with
      | none => rw [hb] at this; exact this
      | some o => rw [hb] at this; exact .inr (this.resolve_left (by simp))
  · rintro (⟨d1, d2⟩ | h)
    · intro b
      unfold Hp.join
      cases hb : h b with
      | none => exact d2 b
      | some o => have := d1 b; rw [hb] at this; exact this
    · exact h.elim
theorem Hp.disj_of_join {h k l : Hp} (d : Hp.disj (Hp.join h k) l) : Hp.disj h l ∧ Hp.disj k l := (Hp.disj_join.1 d).resolve_right id
theorem Hp.join_disj {h k l : Hp} (d1 : Hp.disj h l) (d2 : Hp.disj k l) : Hp.disj (Hp.join h k) l := Hp.disj_join.2 (.inl ⟨d1, d2⟩)
theorem Hp.join_left {h k : Hp} {b : Nat} {o : Obj} (e : h b = some o) : Hp.join h k b = some o := by unfold Hp.join; rw [e]
theorem Hp.join_right {h k : Hp} {b : Nat} {o : Obj} (d : Hp.disj h k) (e : k b = some o) : Hp.join h k b = some o := by
  rw [Hp.join_comm d]; exact Hp.join_left e

theorem stars_append {M L : List Assn} {h : Hp} : stars (M ++ L) h ↔ ∃ h1 h2, Hp.disj h1 h2 ∧ h = Hp.join h1 h2 ∧ stars M h1 ∧ stars L h2 := by
  induction M generalizing h with
  | nil =>
    constructor
    · intro hs
      exact ⟨fun _ => none, h, fun b => .inl rfl, by funext b; rfl, fun _ => rfl, hs⟩
    · rintro ⟨h1, h2, d, rfl, e, hs⟩
      have : Hp.join h1 h2 = h2 := by funext b; unfold Hp.join; rw [e b]
      rw [this]; exact hs
  | cons c r ih =>
    constructor
    · rintro ⟨h1, h2, d, rfl, hc, hs⟩
      obtain ⟨h3, h4, d2, rfl, hr, hl⟩ := ih.1 hs
      obtain ⟨d3, d4⟩ := Hp.disj_of_join d.symm
      exact ⟨Hp.join h1 h3, h4, Hp.join_disj d4.symm d2, (Hp.join_assoc _ _ _).symm, ⟨h1, h3, d3.symm, rfl, hc, hr⟩, hl⟩
    · rintro ⟨h1, h2, d, rfl, ⟨h3, h4, d2, rfl, hc, hr⟩, hl⟩
      obtain ⟨d3, d4⟩ := Hp.disj_of_join d
      exact ⟨h3, Hp.join h4 h2, (Hp.join_disj d2.symm d3.symm).symm, Hp.join_assoc _ _ _, hc, ih.2 ⟨h4, h2, d4, rfl, hr, hl⟩⟩
theorem stars_swap {a b : Assn} {L : List Assn} {h : Hp} (hs : stars (a :: b :: L) h) : stars (b :: a :: L) h := by
  obtain ⟨h1, h2, d, rfl, ha, h3, h4, d2, rfl, hb, hl⟩ := hs
  obtain ⟨d3, d4⟩ := Hp.disj_of_join d.symm
  refine ⟨h3, Hp.join h1 h4, (Hp.join_disj d3.symm d2.symm).symm, ?_, hb, h1, h4, d4.symm, rfl, ha, hl⟩
  rw [← Hp.join_assoc, Hp.join_comm d3.symm, Hp.join_assoc]
theorem stars_perm {L L' : List Assn} (p : L.Perm L') : ∀ {h : Hp}, stars L h → stars L' h := by
  induction p with
  | nil => exact id
  | cons c _ ih => rintro h ⟨h1, h2, d, rfl, hc, hs⟩; exact ⟨h1, h2, d, rfl, hc, ih hs⟩
  | swap a b l => exact fun hs => stars_swap hs
  | trans _ _ ih1 ih2 => exact fun hs => ih2 (ih1 hs)

/-! ### 2. Taking one part out of a list -/
inductive Pick (c : Assn) : List Assn → List Assn → Prop where
  | here {r : List Assn} : Pick c (c :: r) r
  | there {d : Assn} {r r' : List Assn} : Pick c r r' → Pick c (d :: r) (d :: r')
theorem Pick.perm {c : Assn} {L R : List Assn} (p : Pick c L R) : L.Perm (c :: R) := by
  induction p with
  | here => exact .refl _
  | there _ ih => exact (List.Perm.cons _ ih).trans (List.Perm.swap _ _ _)

/-! ### 3. The state -/
/-- World w, behind w0: what lies in O stands as in w0; the parts L are there, apart from one another and from O. -/
structure St (w0 : World) (O : Nat → Prop) (L : List Assn) (w : World) : Prop where
  os : w.os = w0.os
  tape : w.tape = w0.tape
  output : w.output = w0.output
  size : w0.heap.size ≤ w.heap.size
  old : ∀ b, O b → b < w0.heap.size ∧ w.heap[b]? = w0.heap[b]?
  parts : ∃ h, stars L h ∧ ∀ b o, h b = some o → ¬ O b ∧ w.heap[b]? = some o
/-- All that there is in a world. -/
def World.all (w : World) : Nat → Prop := fun b => b < w.heap.size
section
variable {w0 w : World} {O : Nat → Prop} {L L' R : List Assn} {c d : Assn} {g : Nat} {o : Obj}
theorem St.refl (w : World) : St w (World.all w) [] w := ⟨rfl, rfl, rfl, Nat.le_refl _, fun b hb => ⟨hb, rfl⟩, fun _ => none, fun _ => rfl, fun b o h => by cases h⟩
theorem St.perm (h : St w0 O L w) (p : L.Perm L') : St w0 O L' w := ⟨h.os, h.tape, h.output, h.size, h.old, let ⟨k, hs, hk⟩ := h.parts; ⟨k, stars_perm p hs, hk⟩⟩
theorem St.pick (h : St w0 O L w) (p : Pick c L R) : St w0 O (c :: R) w := h.perm p.perm
theorem St.imp (h : St w0 O (c :: L) w) (hc : ∀ k, c k → d k) : St w0 O (d :: L) w := ⟨h.os, h.tape, h.output, h.size, h.old, let ⟨k, ⟨k1, k2, dj, e, hc1, hl⟩, hk⟩ := h.parts; ⟨k, ⟨k1, k2, dj, e, hc k1 hc1, hl⟩, hk⟩⟩
theorem St.drop (h : St w0 O (c :: L) w) : St w0 O L w := ⟨h.os, h.tape, h.output, h.size, h.old, by
  obtain ⟨k, ⟨k1, k2, dj, rfl, hc, hl⟩, hk⟩ := h.parts
  exact ⟨k2, hl, fun b o hb => hk b o (Hp.join_right dj hb)⟩⟩
theorem St.ex {α : Type} {q : α → Assn} (h : St w0 O ((fun k => ∃ x, q x k) :: L) w) : ∃ x, St w0 O (q x :: L) w := by
  obtain ⟨k, ⟨k1, k2, dj, e, ⟨x, hx⟩, hl⟩, hk⟩ := h.parts
  exact ⟨x, h.os, h.tape, h.output, h.size, h.old, k, ⟨k1, k2, dj, e, hx, hl⟩, hk⟩
theorem St.pure {p : Prop} (h : St w0 O ((fun k => p ∧ c k) :: L) w) : p ∧ St w0 O (c :: L) w := by
  obtain ⟨k, ⟨k1, k2, dj, e, ⟨hp, hx⟩, hl⟩, hk⟩ := h.parts
  exact ⟨hp, h.os, h.tape, h.output, h.size, h.old, k, ⟨k1, k2, dj, e, hx, hl⟩, hk⟩
/-- A part that is a list of parts. -/
theorem St.flat {M : List Assn} (h : St w0 O (stars M :: L) w) : St w0 O (M ++ L) w := by
  obtain ⟨k, ⟨k1, k2, dj, e, hm, hl⟩, hk⟩ := h.parts
  exact ⟨h.os, h.tape, h.output, h.size, h.old, k, stars_append.2 ⟨k1, k2, dj, e, hm, hl⟩, hk⟩
theorem St.fold {M : List Assn} (h : St w0 O (M ++ L) w) : St w0 O (stars M :: L) w := by
  obtain ⟨k, hs, hk⟩ := h.parts
  obtain ⟨k1, k2, dj, e, hm, hl⟩ := stars_append.1 hs
  exact ⟨h.os, h.tape, h.output, h.size, h.old, k, ⟨k1, k2, dj, e, hm, hl⟩, hk⟩
theorem St.make {M : List Assn} (h : St w0 O (M ++ L) w) (hc : ∀ k, stars M k → c k) : St w0 O (c :: L) w := h.fold.imp hc
theorem St.get (h : St w0 O (blk g o :: L) w) : w.heap[g]? = some o ∧ ¬ O g := by
  obtain ⟨k, ⟨k1, k2, dj, rfl, hc, hl⟩, hk⟩ := h.parts
  rw [blk_def] at hc
  have := hk g o (Hp.join_left (by rw [hc]; simp))
  exact ⟨this.2, this.1⟩
theorem St.lt (h : St w0 O (blk g o :: L) w) : g < w.heap.size := (Array.getElem?_eq_some_iff.1 h.get.1).1
/-- Two parts are two blocks. -/
theorem St.ne {g' : Nat} {o' : Obj} (h : St w0 O (blk g o :: blk g' o' :: L) w) : g ≠ g' := by
  obtain ⟨k, ⟨k1, k2, dj, rfl, hc, k3, k4, dj2, rfl, hc2, hl⟩, hk⟩ := h.parts
  rw [blk_def] at hc hc2
  rintro rfl
  rcases dj g with e | e
  · rw [hc] at e; simp at e
  · rw [Hp.join_left (show k3 g = some o' by rw [hc2]; simp)] at e; cases e
/-- Block g is written. -/
theorem St.write {o' : Obj} {w' : World} (h : St w0 O (blk g o :: L) w) (hos : w'.os = w.os) (ht : w'.tape = w.tape) (hou : w'.output = w.output) (hs : w'.heap.size = w.heap.size)
    (hg : w'.heap[g]? = some o') (hne : ∀ b, b ≠ g → w'.heap[b]? = w.heap[b]?) : St w0 O (blk g o' :: L) w' := by
  have hO := h.get.2
  refine ⟨hos.trans h.os, ht.trans h.tape, hou.trans h.output, by rw [hs]; exact h.size, fun b hb => ?_, ?_⟩
  · have hbg : b ≠ g := fun e => hO (e ▸ hb)
    exact ⟨(h.old b hb).1, (hne b hbg).trans (h.old b hb).2⟩
  · obtain ⟨k, ⟨k1, k2, dj, rfl, hc, hl⟩, hk⟩ := h.parts
    rw [blk_def] at hc
    have dj' : Hp.disj (fun b => if b = g then some o' else none) k2 := fun b => by
      by_cases e : b = g
      · subst e
        have := dj b
        rw [hc] at this
        simp at this
        exact .inr this
      · exact .inl (by simp [e])
    refine ⟨_, ⟨_, k2, dj', rfl, (blk_def _ _ _).2 rfl, hl⟩, fun b o2 hb => ?_⟩
    by_cases e : b = g
    · subst e
      unfold Hp.join at hb
      simp at hb
      subst hb
      exact ⟨hO, hg⟩
    · have hb2 : k2 b = some o2 := by unfold Hp.join at hb; simpa [e] using hb
      have := hk b o2 (Hp.join_right dj hb2)
      exact ⟨this.1, (hne b e).trans this.2⟩
/-- A new block. -/
theorem St.alloc (h : St w0 O L w) (o : Obj) : St w0 O (blk w.heap.size o :: L) (w.alloc o) := by
  refine ⟨h.os, h.tape, h.output, by rw [World.size_alloc]; exact Nat.le_succ_of_le h.size, fun b hb => ?_, ?_⟩
  · have h1 := (h.old b hb).1
    exact ⟨h1, (Below.heap_alloc w o b (Nat.lt_of_lt_of_le h1 h.size)).trans (h.old b hb).2⟩
  · obtain ⟨k, hl, hk⟩ := h.parts
    have hlt : ∀ b o', k b = some o' → b < w.heap.size := fun b o' hb => (Array.getElem?_eq_some_iff.1 (hk b o' hb).2).1
    have dj : Hp.disj (fun b => if b = w.heap.size then some o else none) k := fun b => by
      by_cases e : b = w.heap.size
      · refine .inr ?_
        cases hb : k b with
        | none => rfl
        | some o' => have := hlt b o' hb; omega
      · exact .inl (by simp [e])
    refine ⟨_, ⟨_, k, dj, rfl, (blk_def _ _ _).2 rfl, hl⟩, fun b o2 hb => ?_⟩
    by_cases e : b = w.heap.size
    · subst e
      unfold Hp.join at hb
      simp at hb
      subst hb
      refine ⟨fun hO => ?_, ?_⟩
      · have := (h.old _ hO).1
        have := h.size
        omega
      · show (w.heap.push o)[w.heap.size]? = some o
        simp
    · have hb2 : k b = some o2 := by unfold Hp.join at hb; simpa [e] using hb
      have := hk b o2 hb2
      exact ⟨this.1, (Below.heap_alloc w o b (hlt b o2 hb2)).trans this.2⟩
theorem St.drew (h : St w0 O L w) : St w0 O L w.drew := ⟨h.os, h.tape, h.output, h.size, h.old, h.parts⟩
/-- What lay there when a call began lies there yet behind it; what the call laid comes beside it. -/
theorem St.comp {w1 : World} {M : List Assn} (h : St w0 O L w) (h1 : St w (World.all w) M w1) : St w0 O (M ++ L) w1 := by
  refine ⟨h1.os.trans h.os, h1.tape.trans h.tape, h1.output.trans h.output, Nat.le_trans h.size h1.size, fun b hb => ?_, ?_⟩
  · have h2 := (h.old b hb).1
    exact ⟨h2, (h1.old b (Nat.lt_of_lt_of_le h2 h.size)).2.trans (h.old b hb).2⟩
  · obtain ⟨k, hl, hk⟩ := h.parts
    obtain ⟨k1, hm, hk1⟩ := h1.parts
    have hlt : ∀ b o', k b = some o' → b < w.heap.size := fun b o' hb => (Array.getElem?_eq_some_iff.1 (hk b o' hb).2).1
    have dj : Hp.disj k1 k := fun b => by
      cases hb : k b with
      | none => exact .inr rfl
      | some o' =>
        refine .inl ?_
        cases hb1 : k1 b with
        | none => rfl
        | some o2 => exact absurd (hlt b o' hb) (hk1 b o2 hb1).1
    refine ⟨Hp.join k1 k, stars_append.2 ⟨k1, k, dj, rfl, hm, hl⟩, fun b o2 hb => ?_⟩
    unfold Hp.join at hb
    cases hb1 : k1 b with
    | some o3 =>
      rw [hb1] at hb
      obtain rfl := Option.some.inj hb
      refine ⟨fun hO => ?_, (hk1 b o3 hb1).2⟩
      exact (hk1 b o3 hb1).1 (Nat.lt_of_lt_of_le (h.old b hO).1 h.size)
    | none =>
      rw [hb1] at hb
      have := hk b o2 hb
      exact ⟨this.1, (h1.old b (hlt b o2 hb)).2.trans this.2⟩
/-- The whole world as it was below. -/
theorem St.below (h : St w (World.all w) L w0) : Below w.heap.size w w0 := ⟨h.os, h.tape, h.output, h.size, fun k hk => (h.old k hk).2⟩
/-- A part is lent: for as long as it isn't asked for it stands as it does. -/
theorem St.lend (h : St w0 O (c :: L) w) : ∃ h1, c h1 ∧ (∀ b o, h1 b = some o → w.heap[b]? = some o) ∧ St w (fun b => O b ∨ h1 b ≠ none) L w ∧
    ∀ {L' : List Assn} {w' : World}, St w (fun b => O b ∨ h1 b ≠ none) L' w' → St w0 O (c :: L') w' := by
  obtain ⟨k, ⟨k1, k2, dj, rfl, hc, hl⟩, hk⟩ := h.parts
  have hk1 : ∀ b o, k1 b = some o → ¬ O b ∧ w.heap[b]? = some o := fun b o hb => hk b o (Hp.join_left hb)
  refine ⟨k1, hc, fun b o hb => (hk1 b o hb).2, ⟨rfl, rfl, rfl, Nat.le_refl _, fun b hb => ?_, k2, hl, fun b o hb => ?_⟩, fun {L' w'} h' => ?_⟩
  · refine ⟨?_, rfl⟩
    rcases hb with hb | hb
    · exact Nat.lt_of_lt_of_le (h.old b hb).1 h.size
    · obtain ⟨o, ho⟩ := Option.ne_none_iff_exists'.1 hb
      exact (Array.getElem?_eq_some_iff.1 (hk1 b o ho).2).1
  · have := hk b o (Hp.join_right dj hb)
    refine ⟨fun hO => ?_, this.2⟩
    rcases hO with hO | hO
    · exact this.1 hO
    · rcases dj b with e | e
      · exact hO e
      · rw [e] at hb; cases hb
  · refine ⟨h'.os.trans h.os, h'.tape.trans h.tape, h'.output.trans h.output, Nat.le_trans h.size h'.size, fun b hb => ?_, ?_⟩
    · exact ⟨(h.old b hb).1, (h'.old b (.inl hb)).2.trans (h.old b hb).2⟩
    · obtain ⟨k3, hl3, hk3⟩ := h'.parts
      have dj3 : Hp.disj k1 k3 := fun b => by
        cases hb : k3 b with
        | none => exact .inr rfl
        | some o =>
          refine .inl ?_
          cases hb1 : k1 b with
          | none => rfl
          | some o2 => exact absurd (.inr (by rw [hb1]; simp)) (hk3 b o hb).1
      refine ⟨Hp.join k1 k3, ⟨k1, k3, dj3, rfl, hc, hl3⟩, fun b o hb => ?_⟩
      unfold Hp.join at hb
      cases hb1 : k1 b with
      | some o3 =>
        rw [hb1] at hb
        obtain rfl := Option.some.inj hb
        have h4 := hk1 b o3 hb1
        exact ⟨h4.1, (h'.old b (.inr (by rw [hb1]; simp))).2.trans h4.2⟩
      | none =>
        rw [hb1] at hb
        have h4 := hk3 b o hb
        exact ⟨fun hO => h4.1 (.inl hO), h4.2⟩
end
end Go.Proofs.YthfcnkeclcphpaaDoor
