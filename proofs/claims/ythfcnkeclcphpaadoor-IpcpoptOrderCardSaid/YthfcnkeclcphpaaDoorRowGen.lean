/- Rows of structs, in one form for all. -/
import Derived.Test.YthfcnkeclcphpaaDoorIterMem
set_option linter.unusedVariables false
set_option linter.unusedSimpArgs false
namespace Go.Proofs.YthfcnkeclcphpaaDoor
open Go Go.RowKit

theorem addr_eq (g off i : Nat) : (⟨g, off, none⟩ : Addr).add i = ⟨g, off + i, none⟩ := by unfold Addr.add; split <;> simp_all
section
variable {α : Type} {enc : α → List Value} {sz : Nat}
theorem flatE_len (hsz : ∀ x, (enc x).length = sz) : ∀ (l : List α), (l.flatMap enc).length = l.length * sz
  | [] => by simp
  | x :: r => by rw [List.flatMap_cons, List.length_append, flatE_len hsz r, hsz, List.length_cons, Nat.add_mul]; omega
theorem flatE_get (hsz : ∀ x, (enc x).length = sz) : ∀ (l : List α) (j : Nat) (x : α), l[j]? = some x → ∀ i v, (enc x)[i]? = some v → (l.flatMap enc)[j * sz + i]? = some v
  | [], j, x, h, _, _, _ => by simp at h
  | y :: r, 0, x, h, i, v, hv => by
    cases h
    have hi : i < sz := by rw [← hsz y]; exact (List.getElem?_eq_some_iff.1 hv).1
    rw [List.flatMap_cons, List.getElem?_append_left (by rw [hsz]; omega)]
    simpa using hv
  | y :: r, j + 1, x, h, i, v, hv => by
    rw [List.flatMap_cons, List.getElem?_append_right (by rw [hsz, Nat.add_mul]; omega), hsz, show (j + 1) * sz + i - sz = j * sz + i from by rw [Nat.add_mul]; omega]
    exact flatE_get hsz r j x (by simpa using h) i v hv
end
section
variable {α : Type} {enc : α → List Value} {sz : Nat} {P : Program} {w0 w : World} {O : Nat → Prop} {L R : List Assn} {A B : Option Addr} {n c m d : Nat} {l l2 : List α} {t ts : TypeId}
theorem rowE_len (hsz : ∀ x, (enc x).length = sz) (hp : 0 < sz) (h : St w0 O (rowC t sz A n c (l.flatMap enc) :: L) w) : l.length = n ∧ n ≤ c := by
  obtain ⟨h1, h2, _⟩ := rowC_len h
  rw [flatE_len hsz] at h1
  exact ⟨Nat.eq_of_mul_eq_mul_right hp h1, h2⟩
/-- An element of a row is read. -/
theorem rowE (hsz : ∀ x, (enc x).length = sz) (hp : 0 < sz) (h : St w0 O (rowC t sz A n c (l.flatMap enc) :: L) w) {j : Nat} {x : α} (hx : l[j]? = some x) : ∃ gr, A = some ⟨gr, 0, none⟩ ∧ j < n ∧ cellsAt w ⟨gr, j * sz, none⟩ 0 (enc x) := by
  have hl := (rowE_len hsz hp h).1
  have hj := (List.getElem?_eq_some_iff.1 hx).1
  have hc := flatE_get hsz l j x hx
  have h0 : ∃ v, (enc x)[0]? = some v := ⟨(enc x)[0]'(by rw [hsz]; exact hp), List.getElem?_eq_getElem _⟩
  obtain ⟨v0, h0⟩ := h0
  obtain ⟨gr, rfl, _⟩ := rowC_cell h (hc 0 v0 h0)
  refine ⟨gr, rfl, by omega, cellsAt_of fun i v hv => ?_⟩
  obtain ⟨g2, e, h2⟩ := rowC_cell h (hc i v hv)
  cases e
  rw [Nat.zero_add]
  exact h2
/-- An element in cells of its own is appended. -/
theorem appendE {K : Option Addr → Nat → Nat → World → Prop} {bytes gb : Nat} (E : ElemT P ts t sz bytes) (hsz : ∀ x, (enc x).length = sz) (h1 : ∀ x, (enc x).all Value.oneCell' = true) (u : TypeId) (x : α) (h : St w0 O L w) (p : Pick (rowC t sz A n c (l.flatMap enc)) L R)
    (hb : cellsAt w ⟨gb, 0, none⟩ 0 (enc x)) (hn : n < 2 ^ 30) (hby : bytes ≤ 65536) (k : ∀ A' c' w', St w0 O (rowC t sz A' (n + 1) c' ((l ++ [x]).flatMap enc) :: R) w' → K A' (n + 1) c' w') :
    slW P (Builtin.append_ #[ts, ts] u #[.slice A n c, .slice (some ⟨gb, 0, none⟩) 1 1]) w K := by
  refine append_W E u h p ⟨gb, 0, none⟩ 1 1 (enc x) (by rw [hsz, Nat.one_mul]) (fun j v hj => ?_) (h1 x) (by omega) ?_ (fun A' c' w' h' => k A' c' w' ?_)
  · have key : ∀ (vs : List Value) (i : Nat), cellsAt w ⟨gb, 0, none⟩ i vs → ∀ j v, vs[j]? = some v → w.cell? ((⟨gb, 0, none⟩ : Addr).add (i + j)) = some v := by
      intro vs
      induction vs with
      | nil => intro i _ j v hj; simp at hj
      | cons y r ih =>
        intro i hc j v hj
        cases j with
        | zero => cases hj; exact hc.1
        | succ j =>
          have := ih (i + 1) hc.2 j v (by simpa using hj)
          rw [show i + 1 + j = i + (j + 1) from by omega] at this
          exact this
    have := key _ 0 hb j v hj
    rw [Nat.zero_add] at this
    exact this
  · calc (n + 1) * bytes ≤ 2 ^ 30 * 65536 := Nat.mul_le_mul (by omega) hby
      _ ≤ 140737488355328 := by decide
  · rw [List.flatMap_append, show [x].flatMap enc = enc x from by simp]
    exact h'
theorem append_nil_W {K : Option Addr → Nat → Nat → World → Prop} {ts t : TypeId} {sz bytes n c : Nat} {A : Option Addr} (E : ElemT P ts t sz bytes) (u : TypeId) (hc : n ≤ c) (k : K A n c w) :
    slW P (Builtin.append_ #[ts, ts] u #[.slice A n c, .slice none 0 0]) w K := by
  obtain ⟨i, z, hi, hz, hs, hb, hzs⟩ := E.info
  refine ⟨A, n, c, w, ?_, k⟩
  have hsz : sizeIs P t sz = true := by unfold sizeIs; rw [hi]; simp [hs]
  unfold Builtin.append_
  simp only [List.getElem?_toArray, List.getElem?_cons_zero, List.getElem?_cons_succ, Sem.run_bind, run_underlying E.slice, Result.andThen_ok, run_sizeOf_is hsz, Sem.run_pure, Bool.false_eq_true, if_false, Bool.not_false, if_true, Builtin.lenOf, Nat.add_zero, hc, Builtin.firstCells]
  cases A <;> simp [storeCells]
/-- A part of one row is appended to another. -/
theorem appendSub {K : Option Addr → Nat → Nat → World → Prop} {bytes lo k : Nat} (E : ElemT P ts t sz bytes) (hsz : ∀ x, (enc x).length = sz) (h1 : ∀ x, (enc x).all Value.oneCell' = true) (u : TypeId) (h : St w0 O (rowC t sz A n c (l.flatMap enc) :: rowC t sz B m d (l2.flatMap enc) :: L) w)
    (hlo : lo + k ≤ m) (hn : n + k < 2 ^ 30) (hby : bytes ≤ 65536) (kk : ∀ A' c' w', St w0 O (rowC t sz A' (n + k) c' ((l ++ (l2.drop lo).take k).flatMap enc) :: rowC t sz B m d (l2.flatMap enc) :: L) w' → K A' (n + k) c' w') :
    slW P (Builtin.append_ #[ts, ts] u #[.slice A n c, .slice (slcA B d lo sz) k (d - lo)]) w K := by
  have hl := rowE_len hsz E.pos h
  have hl2 := rowE_len hsz E.pos h.drop
  rcases rowC_open (h.pick (.there .here)) with ⟨⟨rfl, rfl, rfl, hnil⟩, h2⟩ | ⟨g, cur, ⟨rfl, h3⟩, h2⟩
  · have e1 : lo = 0 := by omega
    have e2 : k = 0 := by omega
    subst e1 e2
    have hl0 : l2 = [] := List.eq_nil_of_length_eq_zero hl2.1
    refine append_nil_W E u hl.2 (kk A c w ?_)
    subst hl0
    simpa using h
  · have hnews : ∀ a : Addr, (∀ j, a.add j = ⟨g, lo * sz + j, none⟩ ∨ k = 0) → slW P (Builtin.append_ #[ts, ts] u #[.slice A n c, .slice (some a) k (d - lo)]) w K := fun a ha => by
      refine append_W E u h .here a k (d - lo) (((l2.drop lo).take k).flatMap enc) (by rw [flatE_len hsz, List.length_take, List.length_drop]; congr 1; omega) (fun j v hj => ?_) ?_ (by omega) ?_ (fun A' c' w' h' => kk A' c' w' ?_)
      · have hjl := (List.getElem?_eq_some_iff.1 hj).1
        rw [flatE_len hsz, List.length_take, List.length_drop] at hjl
        have hk0 : k ≠ 0 := by rintro rfl; simp at hjl
        rw [(ha j).resolve_right hk0]
        have hp := E.pos
        have hq : j / sz < min k (l2.length - lo) := (Nat.div_lt_iff_lt_mul hp).2 hjl
        obtain ⟨x0, hx⟩ : ∃ x0, l2[lo + j / sz]? = some x0 := ⟨l2[lo + j / sz]'(by omega), List.getElem?_eq_getElem _⟩
        have hx2 : ((l2.drop lo).take k)[j / sz]? = some x0 := by
          rw [List.getElem?_take, if_pos (by omega), List.getElem?_drop, hx]
        have hr : j % sz < sz := Nat.mod_lt _ hp
        obtain ⟨v', hv'⟩ : ∃ v', (enc x0)[j % sz]? = some v' := ⟨(enc x0)[j % sz]'(by rw [hsz]; exact hr), List.getElem?_eq_getElem _⟩
        have g1 := flatE_get hsz _ _ _ hx2 _ _ hv'
        have e : j / sz * sz + j % sz = j := by rw [Nat.mul_comm]; exact Nat.div_add_mod j sz
        rw [e, hj] at g1
        cases g1
        obtain ⟨g3, e3, hc3⟩ := rowC_cell h.drop (flatE_get hsz l2 _ _ hx _ _ hv')
        cases e3
        rw [show (lo + j / sz) * sz + j % sz = lo * sz + j from by rw [Nat.add_mul]; omega] at hc3
        exact hc3
      · refine List.all_eq_true.2 fun v hv => ?_
        obtain ⟨x, _, hxv⟩ := List.mem_flatMap.1 hv
        exact List.all_eq_true.1 (h1 x) v hxv
      · calc (n + k) * bytes ≤ 2 ^ 30 * 65536 := Nat.mul_le_mul (by omega) hby
          _ ≤ 140737488355328 := by decide
      · rw [List.flatMap_append]
        exact h'
    unfold slcA
    split
    · rename_i e
      refine hnews ⟨g, 0, none⟩ (fun j => .inr (by omega))
    · refine hnews _ (fun j => .inl ?_)
      show ((⟨g, 0, none⟩ : Addr).add (lo * sz)).add j = _
      rw [addr_eq, addr_eq]
      simp
end
end Go.Proofs.YthfcnkeclcphpaaDoor
