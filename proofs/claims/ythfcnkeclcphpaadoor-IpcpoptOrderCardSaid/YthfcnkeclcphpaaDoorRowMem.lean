/- Steps of rows: slices in blocks of their own, read, appended to. -/
import Derived.Test.YthfcnkeclcphpaaDoorMapMem
set_option linter.unusedVariables false
set_option linter.unusedSimpArgs false
namespace Go.Proofs.YthfcnkeclcphpaaDoor
open Go Go.RowKit

/-! ### 1. A slice and its row -/
/-- '.slice A n c', whose n elements of sz cells each are these cells, in a block of its own (nil: none). -/
def rowC (t : TypeId) (sz : Nat) (A : Option Addr) (n c : Nat) (cells : List Value) : Assn := fun h =>
  ((A = none ∧ n = 0 ∧ c = 0 ∧ cells = []) ∧ stars [] h) ∨
  ∃ g cur, (A = some ⟨g, 0, none⟩ ∧ n ≤ c ∧ c ≤ maxLen ∧ cur.size = c * sz ∧ cur.toList.take (n * sz) = cells ∧ cells.length = n * sz) ∧ blk g (.cells cur t (0, 0)) h
attribute [irreducible] rowC
section
variable {P : Program} {w0 w w' : World} {O : Nat → Prop} {L R : List Assn} {g sz n c : Nat} {t : TypeId} {A : Option Addr} {cells : List Value}
theorem St.or {a b : Assn} (h : St w0 O ((fun k => a k ∨ b k) :: L) w) : St w0 O (a :: L) w ∨ St w0 O (b :: L) w := by
  obtain ⟨k, ⟨k1, k2, dj, e, ho, hl⟩, hk⟩ := h.parts
  rcases ho with ho | ho
  · exact .inl ⟨h.os, h.tape, h.output, h.size, h.old, k, ⟨k1, k2, dj, e, ho, hl⟩, hk⟩
  · exact .inr ⟨h.os, h.tape, h.output, h.size, h.old, k, ⟨k1, k2, dj, e, ho, hl⟩, hk⟩
theorem St.emp (h : St w0 O (stars [] :: L) w) : St w0 O L w := h.drop
theorem St.addEmp (h : St w0 O L w) : St w0 O (stars [] :: L) w := h.fold (M := [])
theorem rowC_open (h : St w0 O (rowC t sz A n c cells :: L) w) :
    ((A = none ∧ n = 0 ∧ c = 0 ∧ cells = []) ∧ St w0 O L w) ∨ ∃ g cur, (A = some ⟨g, 0, none⟩ ∧ n ≤ c ∧ c ≤ maxLen ∧ cur.size = c * sz ∧ cur.toList.take (n * sz) = cells ∧ cells.length = n * sz) ∧ St w0 O (blk g (.cells cur t (0, 0)) :: L) w := by
  unfold rowC at h
  rcases h.or with h | h
  · obtain ⟨h1, h2⟩ := h.pure
    exact .inl ⟨h1, h2.emp⟩
  · obtain ⟨g, h⟩ := h.ex
    obtain ⟨cur, h⟩ := h.ex
    obtain ⟨h1, h2⟩ := h.pure
    exact .inr ⟨g, cur, h1, h2⟩
theorem rowC_nil (h : St w0 O L w) (t : TypeId) (sz : Nat) : St w0 O (rowC t sz none 0 0 [] :: L) w :=
  h.addEmp.imp fun k hk => by unfold rowC; exact .inl ⟨⟨rfl, rfl, rfl, rfl⟩, hk⟩
theorem rowC_shut {cur : Array Value} (hA : A = some ⟨g, 0, none⟩) (h1 : n ≤ c) (h2 : c ≤ maxLen) (h3 : cur.size = c * sz) (h4 : cur.toList.take (n * sz) = cells) (h5 : cells.length = n * sz)
    (h : St w0 O (blk g (.cells cur t (0, 0)) :: L) w) : St w0 O (rowC t sz A n c cells :: L) w :=
  h.imp fun k hk => by unfold rowC; exact .inr ⟨g, cur, ⟨hA, h1, h2, h3, h4, h5⟩, hk⟩
theorem rowC_len (h : St w0 O (rowC t sz A n c cells :: L) w) : cells.length = n * sz ∧ n ≤ c ∧ c ≤ maxLen := by
  rcases rowC_open h with ⟨⟨rfl, rfl, rfl, rfl⟩, _⟩ | ⟨g, cur, ⟨_, h1, h2, _, _, h3⟩, _⟩
  · exact ⟨by simp, Nat.le_refl _, Nat.zero_le _⟩
  · exact ⟨h3, h1, h2⟩
theorem rowC_own (h : St w0 O (rowC t sz A n c cells :: L) w) : w.ownsRow 0 t sz (.slice A n c) n cells := by
  rcases rowC_open h with ⟨⟨rfl, rfl, rfl, rfl⟩, _⟩ | ⟨g, cur, ⟨rfl, h1, h2, h3, h4, h5⟩, hb⟩
  · exact ⟨by simp, .inl ⟨rfl, rfl⟩⟩
  · exact ⟨h5, .inr ⟨g, c, cur, rfl, Nat.zero_le _, hb.get.1, h1, h2, h3, h4⟩⟩
/-- Cell j of the row. -/
theorem rowC_cell (h : St w0 O (rowC t sz A n c cells :: L) w) {j : Nat} {v : Value} (hv : cells[j]? = some v) : ∃ g, A = some ⟨g, 0, none⟩ ∧ w.cell? ⟨g, j, none⟩ = some v := by
  rcases rowC_open h with ⟨⟨rfl, rfl, rfl, rfl⟩, _⟩ | ⟨g, cur, ⟨rfl, h1, h2, h3, h4, h5⟩, hb⟩
  · simp at hv
  · refine ⟨g, rfl, ?_⟩
    unfold World.cell?
    rw [hb.get.1]
    have hlt := (List.getElem?_eq_some_iff.1 hv).1
    rw [← h4, List.getElem?_take] at hv
    split at hv
    · simpa using hv
    · cases hv
/-- What an append leaves of the state: the one row was written, or a new block laid. -/
theorem St.regrow {cur cur' : Array Value} {g' : Nat} (h : St w0 O (blk g (.cells cur t (0, 0)) :: L) w) (hg : w.grownBy w' (some g)) (hn : w'.heap[g']? = some (.cells cur' t (0, 0))) (hat : g' = g ∨ w.heap.size ≤ g') :
    St w0 O (blk g' (.cells cur' t (0, 0)) :: L) w' := by
  obtain ⟨hg0, hO⟩ := h.get
  have hlt := h.lt
  obtain ⟨k, ⟨k1, k2, dj, rfl, hc, hl⟩, hk⟩ := h.parts
  rw [blk_def] at hc
  have hk2 : ∀ b o, k2 b = some o → ¬ O b ∧ b ≠ g ∧ b < w.heap.size ∧ w'.heap[b]? = some o := fun b o hb => by
    have h1 := hk b o (Hp.join_right dj hb)
    have h2 := (Array.getElem?_eq_some_iff.1 h1.2).1
    have h3 : b ≠ g := fun e => by
      subst e
      rcases dj b with e | e
      · rw [hc] at e; simp at e
      · rw [e] at hb; cases hb
    exact ⟨h1.1, h3, h2, (hg.block b h2 (fun e => h3 (by simpa using e))).trans h1.2⟩
  have hOg' : ¬ O g' := by
    rcases hat with rfl | hat
    · exact hO
    · intro ho
      have := (h.old g' ho).1
      have := h.size
      omega
  refine ⟨hg.os.trans h.os, hg.tape.trans h.tape, hg.output.trans h.output, Nat.le_trans h.size hg.size, fun b hb => ?_, ?_⟩
  · have h1 := h.old b hb
    exact ⟨h1.1, (hg.block b (Nat.lt_of_lt_of_le h1.1 h.size) (fun e => hO (by simp at e; exact e ▸ hb))).trans h1.2⟩
  · have dj' : Hp.disj (fun b => if b = g' then some (.cells cur' t (0, 0)) else none) k2 := fun b => by
      by_cases e : b = g'
      · subst e
        refine .inr ?_
        cases hb : k2 b with
        | none => rfl
        | some o =>
          obtain ⟨_, h3, h4, _⟩ := hk2 b o hb
          rcases hat with e | e
          · exact absurd e h3
          · omega
      · exact .inl (by simp [e])
    refine ⟨_, ⟨_, k2, dj', rfl, (blk_def _ _ _).2 rfl, hl⟩, fun b o hb => ?_⟩
    by_cases e : b = g'
    · subst e
      unfold Hp.join at hb
      simp at hb
      subst hb
      exact ⟨hOg', hn⟩
    · have hb2 : k2 b = some o := by unfold Hp.join at hb; simpa [e] using hb
      obtain ⟨h1, _, _, h4⟩ := hk2 b o hb2
      exact ⟨h1, h4⟩
theorem St.grown (h : St w0 O L w) (hg : w.grownBy w' none) {o : Obj} {g' : Nat} (hn : w'.heap[g']? = some o) (hat : w.heap.size ≤ g') : St w0 O (blk g' o :: L) w' := by
  obtain ⟨k2, hl, hk⟩ := h.parts
  have hk2 : ∀ b o, k2 b = some o → ¬ O b ∧ b < w.heap.size ∧ w'.heap[b]? = some o := fun b o hb => by
    have h1 := hk b o hb
    have h2 := (Array.getElem?_eq_some_iff.1 h1.2).1
    exact ⟨h1.1, h2, (hg.block b h2 (by simp)).trans h1.2⟩
  refine ⟨hg.os.trans h.os, hg.tape.trans h.tape, hg.output.trans h.output, Nat.le_trans h.size hg.size, fun b hb => ?_, ?_⟩
  · have h1 := h.old b hb
    exact ⟨h1.1, (hg.block b (Nat.lt_of_lt_of_le h1.1 h.size) (by simp)).trans h1.2⟩
  · have dj' : Hp.disj (fun b => if b = g' then some o else none) k2 := fun b => by
      by_cases e : b = g'
      · subst e
        refine .inr ?_
        cases hb : k2 b with
        | none => rfl
        | some o => obtain ⟨_, h4, _⟩ := hk2 b o hb; omega
      · exact .inl (by simp [e])
    refine ⟨_, ⟨_, k2, dj', rfl, (blk_def _ _ _).2 rfl, hl⟩, fun b o2 hb => ?_⟩
    by_cases e : b = g'
    · subst e
      unfold Hp.join at hb
      simp at hb
      subst hb
      refine ⟨fun ho => ?_, hn⟩
      have := (h.old b ho).1
      have := h.size
      omega
    · have hb2 : k2 b = some o2 := by unfold Hp.join at hb; simpa [e] using hb
      obtain ⟨h1, _, h4⟩ := hk2 b o2 hb2
      exact ⟨h1, h4⟩
/-- What is known of a type that rows are made of. -/
structure ElemT (P : Program) (ts t : TypeId) (sz bytes : Nat) : Prop where
  slice : P.underlying ts = some (.slice t)
  info : ∃ i z, P.info? t = some i ∧ i.zero = some z ∧ i.size = sz ∧ i.bytes = bytes ∧ z.cells.size = sz
  pos : 0 < sz
def elemB (P : Program) (t : TypeId) (sz bytes : Nat) : Bool := match P.info? t with
  | some i => match i.zero with
    | some z => Nat.beq i.size sz && (Nat.beq i.bytes bytes && Nat.beq z.cells.size sz)
    | none => false
  | none => false
theorem elemT_of {ts : TypeId} {bytes : Nat} (hu : P.underlying ts = some (.slice t)) (hb : elemB P t sz bytes = true) (hp : 0 < sz) : ElemT P ts t sz bytes := by
  refine ⟨hu, ?_, hp⟩
  unfold elemB at hb
  split at hb
  · rename_i i hi
    split at hb
    · rename_i z hz
      simp only [Bool.and_eq_true, Nat.beq_eq] at hb
      exact ⟨i, z, hi, hz, hb.1, hb.2.1, hb.2.2⟩
    · cases hb
  · cases hb
/-- append(s, x...): x's cells as they lie in memory. -/
theorem append_W {K : Option Addr → Nat → Nat → World → Prop} {ts : TypeId} {bytes : Nat} (E : ElemT P ts t sz bytes) (u : TypeId) (h : St w0 O L w) (p : Pick (rowC t sz A n c cells) L R)
    (a : Addr) (m c2 : Nat) (news : List Value) (hl : news.length = m * sz) (hnews : ∀ j u, news[j]? = some u → w.cell? (a.add j) = some u) (h1 : news.all Value.oneCell' = true)
    (h63 : n + m ≤ 9223372036854775807) (hbytes : (n + m) * bytes ≤ 140737488355328)
    (k : ∀ A' c' w', St w0 O (rowC t sz A' (n + m) c' (cells ++ news) :: R) w' → K A' (n + m) c' w') :
    slW P (Builtin.append_ #[ts, ts] u #[.slice A n c, .slice (some a) m c2]) w K := by
  have h := h.pick p
  obtain ⟨i, z, hi, hz, hs, hb, hzs⟩ := E.info
  obtain ⟨v', w', hr, hown, hgrow, _, hat⟩ := run_append_own_at (P := P) w 0 ts u t i z sz bytes E.slice hi hz hs hb hzs E.pos (.slice A n c) n cells (rowC_own h) a m c2 news hl hnews
    (fun x hx => List.all_eq_true.1 h1 x hx) (by simpa [maxLen] using h63) hbytes (Nat.zero_le _)
  obtain ⟨hlen, hv⟩ := hown
  rcases hv with ⟨rfl, h0⟩ | ⟨g', cap, cur, rfl, _, hg', h2, h3, h4, h5⟩
  · have e1 : n = 0 := by omega
    have e2 : m = 0 := by omega
    subst e1 e2
    refine ⟨none, 0, 0, w', hr, k none 0 w' ?_⟩
    have hnil : cells ++ news = [] := List.eq_nil_of_length_eq_zero (by simpa using hlen)
    rw [hnil]
    rcases rowC_open h with ⟨⟨rfl, _, _, _⟩, hL⟩ | ⟨g, cur, ⟨rfl, _⟩, hL⟩
    · refine rowC_nil ?_ t sz
      refine ⟨hgrow.os.trans hL.os, hgrow.tape.trans hL.tape, hgrow.output.trans hL.output, Nat.le_trans hL.size hgrow.size, fun b hb => ?_, ?_⟩
      · have h1 := hL.old b hb
        exact ⟨h1.1, (hgrow.block b (Nat.lt_of_lt_of_le h1.1 hL.size) (by simp [Value.ownBlock])).trans h1.2⟩
      · obtain ⟨k, hl, hk⟩ := hL.parts
        exact ⟨k, hl, fun b o hb => ⟨(hk b o hb).1, (hgrow.block b (Array.getElem?_eq_some_iff.1 (hk b o hb).2).1 (by simp [Value.ownBlock])).trans (hk b o hb).2⟩⟩
    · exfalso
      rcases hat with hat | hat <;> simp [Value.ownBlock] at hat
  · refine ⟨some ⟨g', 0, none⟩, n + m, cap, w', hr, k _ _ w' ?_⟩
    have hat' : some g' = (Value.slice A n c).ownBlock ∨ g' = w.heap.size := by
      rcases hat with hat | hat
      · exact .inl (by simpa [Value.ownBlock] using hat)
      · exact .inr (by simpa [Value.ownBlock] using hat)
    rcases rowC_open h with ⟨⟨rfl, rfl, rfl, rfl⟩, hL⟩ | ⟨g, cur0, ⟨rfl, _⟩, hL⟩
    · have hge : w.heap.size ≤ g' := by
        rcases hat' with e | e
        · simp [Value.ownBlock] at e
        · omega
      exact rowC_shut rfl h2 h3 h4 h5 hlen (hL.grown (by simpa [Value.ownBlock] using hgrow) hg' hge)
    · have hge : g' = g ∨ w.heap.size ≤ g' := by
        rcases hat' with e | e
        · simp [Value.ownBlock] at e; exact .inl e
        · exact .inr (by omega)
      exact rowC_shut rfl h2 h3 h4 h5 hlen (hL.regrow (by simpa [Value.ownBlock] using hgrow) hg' hge)
end
end Go.Proofs.YthfcnkeclcphpaaDoor
