/- Rows of structs: an element stored; a part of an argument appended. -/
import Derived.Test.YthfcnkeclcphpaaDoorAlive10
set_option linter.unusedVariables false
set_option linter.unusedSimpArgs false
namespace Go.Proofs.YthfcnkeclcphpaaDoor
open Go Go.RowKit

section
variable {P : Program} {w0 w : World} {O : Nat → Prop} {L R : List Assn} {A B : Option Addr} {n c m d sz : Nat} {t ts : TypeId} {α : Type}
theorem flat_set (E : EncT P t sz α) : ∀ (l : List α) (j : Nat) (x : α), j < l.length → (l.set j x).flatMap E.cells = (l.flatMap E.cells).take (j * sz) ++ E.cells x ++ (l.flatMap E.cells).drop (j * sz + sz)
  | [], j, x, h => absurd h (Nat.not_lt_zero _)
  | y :: r, 0, x, _ => by
    rw [List.set_cons_zero, List.flatMap_cons, List.flatMap_cons, Nat.zero_mul, List.take_zero, List.nil_append, Nat.zero_add, List.drop_append_of_le_length (by rw [E.len]; exact Nat.le_refl _), List.drop_of_length_le (by rw [E.len]; exact Nat.le_refl _), List.nil_append]
  | y :: r, j + 1, x, h => by
    have ih := flat_set E r j x (by simpa using h)
    have e : (j + 1) * sz = sz + j * sz := by rw [Nat.add_mul, Nat.one_mul, Nat.add_comm]
    rw [List.set_cons_succ, List.flatMap_cons, List.flatMap_cons, ih, e]
    rw [List.take_append, List.drop_append, E.len, List.take_of_length_le (l := E.cells y) (by rw [E.len]; omega), List.drop_of_length_le (l := E.cells y) (by rw [E.len]; omega), show sz + j * sz - sz = j * sz from by omega, show sz + j * sz + sz - sz = j * sz + sz from by omega]
    simp only [List.append_assoc, List.nil_append]
/-- Element j is stored. -/
theorem stRow {K : World → Prop} (E : EncT P t sz α) (hp : 0 < sz) {l : List α} (h : St w0 O (rowS E A n c l :: L) w) {j : Nat} (hj : j < l.length) (x : α) (k : ∀ w', St w0 O (rowS E A n c (l.set j x) :: L) w' → K w') :
    ∃ g, A = some ⟨g, 0, none⟩ ∧ stW P t ⟨g, j * sz, none⟩ (.agg (E.cells x).toArray) w K := by
  have hl := rowS_len E hp h
  rcases rowC_open h with ⟨⟨rfl, rfl, rfl, hnil⟩, h2⟩ | ⟨g, cur, ⟨rfl, c1, c2, c3, c4, c5⟩, h2⟩
  · omega
  · refine ⟨g, rfl, ?_⟩
    have hjs : j * sz + sz ≤ n * sz := by
      have := Nat.mul_le_mul_right sz (show j + 1 ≤ n by omega)
      rw [Nat.add_mul, Nat.one_mul] at this
      exact this
    have hnc : n * sz ≤ c * sz := Nat.mul_le_mul_right sz c1
    refine st_W h2 .here t ?_ (by simpa [Value.cells] using E.one x) (by show j * sz + (E.cells x).toArray.size ≤ _; rw [List.size_toArray, E.len, c3]; omega) (fun w' h' => k w' ?_)
    · simpa [Value.cells, E.len] using E.size
    · have e : (Value.agg (E.cells x).toArray).cells.toList = E.cells x := rfl
      rw [e] at h'
      have hcl : cur.toList.length = c * sz := by rw [Array.length_toList, c3]
      have h3 := putAt_splice (off := j * sz) (cur.toList.take (j * sz)) ((cur.toList.drop (j * sz)).take sz) (cur.toList.drop (j * sz + sz)) (E.cells x) (by rw [E.len, List.length_take, List.length_drop]; omega) (by rw [List.length_take]; omega)
      have h4 : cur.toList.take (j * sz) ++ (cur.toList.drop (j * sz)).take sz ++ cur.toList.drop (j * sz + sz) = cur.toList := by
        rw [List.append_assoc, ← List.drop_drop, List.take_append_drop, List.take_append_drop]
      rw [h4, Array.toArray_toList] at h3
      rw [h3] at h'
      refine rowC_shut rfl c1 c2 ?_ ?_ ?_ h'
      · simp only [List.size_toArray, List.length_append, List.length_take, List.length_drop, E.len, hcl]
        omega
      · rw [flat_set E l j x hj, ← c4]
        rw [List.toList_toArray, List.take_append, List.take_append, List.length_append, List.length_take, E.len, hcl]
        rw [List.take_take, List.drop_take, List.take_take]
        rw [List.take_of_length_le (i := n * sz - _) (by rw [E.len]; omega)]
        congr 2
        · congr 1; omega
        · congr 1; omega
      · rw [flatE_len E.len, List.length_set, ← c5, flatE_len E.len]
theorem addr_add_add (a : Addr) (i j : Nat) : (a.add i).add j = a.add (i + j) := by
  obtain ⟨b, o, v⟩ := a
  by_cases h0 : i = 0
  · subst h0
    rw [Nat.zero_add]; rfl
  · by_cases h1 : j = 0
    · subst h1; rfl
    · have e1 : (⟨b, o, v⟩ : Addr).add i = ⟨b, o + i, none⟩ := by unfold Addr.add; rw [if_neg h0]
      have e2 : (⟨b, o + i, none⟩ : Addr).add j = ⟨b, o + i + j, none⟩ := by unfold Addr.add; rw [if_neg h1]
      have e3 : (⟨b, o, v⟩ : Addr).add (i + j) = ⟨b, o + (i + j), none⟩ := by unfold Addr.add; rw [if_neg (by omega)]
      rw [e1, e2, e3, Nat.add_assoc]
theorem append_none_W {K : Option Addr → Nat → Nat → World → Prop} {bytes c2 : Nat} (E : ElemT P ts t sz bytes) (u : TypeId) (hc : n ≤ c) (k : K A n c w) :
    slW P (Builtin.append_ #[ts, ts] u #[.slice A n c, .slice none 0 c2]) w K := by
  obtain ⟨i, z, hi, hz, hs, hb, hzs⟩ := E.info
  refine ⟨A, n, c, w, ?_, k⟩
  have hsz : sizeIs P t sz = true := by unfold sizeIs; rw [hi]; simp [hs]
  unfold Builtin.append_
  simp only [List.getElem?_toArray, List.getElem?_cons_zero, List.getElem?_cons_succ, Sem.run_bind, run_underlying E.slice, Result.andThen_ok, run_sizeOf_is hsz, Sem.run_pure, Bool.false_eq_true, if_false, Bool.not_false, if_true, Builtin.lenOf, Nat.add_zero, hc, Builtin.firstCells]
  cases A <;> simp [storeCells]
/-- A part of an argument is appended. -/
theorem appArg {K : Option Addr → Nat → Nat → World → Prop} {bytes lo k : Nat} {enc : α → List Value} (E : ElemT P ts t sz bytes) (hsz : ∀ x, (enc x).length = sz) (h1 : ∀ x, (enc x).all Value.oneCell' = true) (u : TypeId) {l l2 : List α} (ha : ArgRow w sz enc B m l2)
    (h : St w0 O L w) (p : Pick (rowC t sz A n c (l.flatMap enc)) L R) (hlo : lo + k ≤ m) (hmd : m ≤ d) (hn : n + k < 2 ^ 30) (hby : bytes ≤ 65536)
    (kk : ∀ A' c' w', St w0 O (rowC t sz A' (n + k) c' ((l ++ (l2.drop lo).take k).flatMap enc) :: R) w' → K A' (n + k) c' w') :
    slW P (Builtin.append_ #[ts, ts] u #[.slice A n c, .slice (slcA B d lo sz) k (d - lo)]) w K := by
  have hl := rowE_len hsz E.pos (h.pick p)
  have hm := ha.1
  cases hB : B with
  | none =>
    have hm0 : l2 = [] := by
      cases l2 with
      | nil => rfl
      | cons y r =>
        obtain ⟨a, hA, _⟩ := ha.2 0 y rfl
        rw [hB] at hA; cases hA
    subst hm0
    have e1 : lo = 0 := by simp at hm; omega
    have e2 : k = 0 := by simp at hm; omega
    subst e1 e2
    have e3 : slcA (none : Option Addr) d 0 sz = none := by unfold slcA; split <;> rfl
    rw [e3]
    refine append_none_W E u hl.2 (kk A c w ?_)
    simpa using h.pick p
  | some b =>
    have hnews : ∀ a : Addr, (∀ j, a.add j = b.add (lo * sz + j) ∨ k = 0) → slW P (Builtin.append_ #[ts, ts] u #[.slice A n c, .slice (some a) k (d - lo)]) w K := fun a haa => by
      refine append_W E u h p a k (d - lo) (((l2.drop lo).take k).flatMap enc) (by rw [flatE_len hsz, List.length_take, List.length_drop]; congr 1; omega) (fun j v hj => ?_) ?_ (by omega) ?_ (fun A' c' w' h' => kk A' c' w' ?_)
      · have hjl := (List.getElem?_eq_some_iff.1 hj).1
        rw [flatE_len hsz, List.length_take, List.length_drop] at hjl
        have hk0 : k ≠ 0 := by rintro rfl; simp at hjl
        rw [(haa j).resolve_right hk0]
        have hp := E.pos
        have hq : j / sz < min k (l2.length - lo) := (Nat.div_lt_iff_lt_mul hp).2 hjl
        obtain ⟨x0, hx⟩ : ∃ x0, l2[lo + j / sz]? = some x0 := ⟨l2[lo + j / sz]'(by omega), List.getElem?_eq_getElem _⟩
        have hx2 : ((l2.drop lo).take k)[j / sz]? = some x0 := by
          rw [List.getElem?_take, if_pos (by omega), List.getElem?_drop, hx]
        have hr : j % sz < sz := Nat.mod_lt _ hp
        obtain ⟨v', hv'⟩ : ∃ v', (enc x0)[j % sz]? = some v' := ⟨(enc x0)[j % sz]'(by rw [hsz]; exact hr), List.getElem?_eq_getElem _⟩
        have g1 := flatE_get hsz _ _ _ hx2 _ _ hv'
        have e : j / sz * sz + j % sz = j := by rw [Nat.mul_comm]; exact Nat.div_add_mod j sz
        rw [e, hj] at g1
        cases g1
        obtain ⟨b', hb', hc⟩ := ha.2 _ _ hx
        obtain rfl : b = b' := Option.some.inj (hB.symm.trans hb')
        have key : ∀ (vs : List Value) (a : Addr) (i : Nat), cellsAt w a i vs → ∀ j v, vs[j]? = some v → w.cell? (a.add (i + j)) = some v := by
          intro vs
          induction vs with
          | nil => intro a i _ j v hj; simp at hj
          | cons y r ih =>
            intro a i hc j v hj
            cases j with
            | zero => cases hj; exact hc.1
            | succ j =>
              have := ih a (i + 1) hc.2 j v (by simpa using hj)
              rw [show i + 1 + j = i + (j + 1) from by omega] at this
              exact this
        have hc2 := key _ _ 0 hc _ _ hv'
        rw [Nat.zero_add] at hc2
        have e4 : (b.add ((lo + j / sz) * sz)).add (j % sz) = b.add (lo * sz + j) := by
          rw [addr_add_add]
          congr 1
          rw [Nat.add_mul]; omega
        rw [e4] at hc2
        exact hc2
      · refine List.all_eq_true.2 fun v hv => ?_
        obtain ⟨x, _, hxv⟩ := List.mem_flatMap.1 hv
        exact List.all_eq_true.1 (h1 x) v hxv
      · calc (n + k) * bytes ≤ 2 ^ 30 * 65536 := Nat.mul_le_mul (by omega) hby
          _ ≤ 140737488355328 := by decide
      · rw [List.flatMap_append]
        exact h'
    unfold slcA
    split
    · rename_i e
      by_cases hk : k = 0
      · exact hnews b (fun j => .inr hk)
      · exact absurd e (by omega)
    · exact hnews _ (fun j => .inl (addr_add_add _ _ _))
end
end Go.Proofs.YthfcnkeclcphpaaDoor
