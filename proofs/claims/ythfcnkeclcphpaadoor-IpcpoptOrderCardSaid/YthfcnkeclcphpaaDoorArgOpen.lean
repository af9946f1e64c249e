/- Arguments that are rows of structs, opened. -/
import Derived.Test.YthfcnkeclcphpaaDoorRe
import Derived.ChangeShapes
import Derived.ChangeSlices
set_option linter.unusedVariables false
set_option linter.unusedSimpArgs false
namespace Go.Proofs.YthfcnkeclcphpaaDoor
open Go Go.RowKit

/-- An argument: a row of structs in memory. -/
def ArgRow {α : Type} (w0 : World) (sz : Nat) (cells : α → List Value) (A : Option Addr) (len : Nat) (l : List α) : Prop := l.length = len ∧ ∀ (j : Nat) x, l[j]? = some x → ∃ a, A = some a ∧ cellsAt w0 (a.add (j * sz)) 0 (cells x)
theorem list_of {α : Type} {R : Nat → α → Prop} : ∀ (n : Nat), (∀ j, j < n → ∃ x, R j x) → ∃ l : List α, l.length = n ∧ ∀ j x, l[j]? = some x → R j x
  | 0, _ => ⟨[], rfl, fun j x h => by simp at h⟩
  | n + 1, h => by
    obtain ⟨l, hl, hr⟩ := list_of n fun j hj => h j (by omega)
    obtain ⟨x, hx⟩ := h n (by omega)
    refine ⟨l ++ [x], by simp [hl], fun j y hy => ?_⟩
    by_cases hj : j < l.length
    · rw [List.getElem?_append_left hj] at hy
      exact hr j y hy
    · rw [List.getElem?_append_right (by omega)] at hy
      have h0 : j - l.length = 0 := by
        have := (List.getElem?_eq_some_iff.1 hy).1
        simp at this
        omega
      rw [h0] at hy
      cases hy
      rw [show j = n from by omega]
      exact hx
theorem cellsAt_all {w : World} {a : Addr} : ∀ {vs : List Value} {i : Nat}, (∀ j v, vs[j]? = some v → w.cell? (a.add (i + j)) = some v) → cellsAt w a i vs
  | [], _, _ => trivial
  | v :: r, i, h => ⟨h 0 v rfl, cellsAt_all fun j u hj => by
      have := h (j + 1) u (by simpa using hj)
      rwa [show i + 1 + j = i + (j + 1) from by omega]⟩
section
variable {P : Program} {H : Type} {enc : TypeId × Value → H} {W : World} {A : Option Addr} {len cap sz : Nat} {d : DataW H} {ps : List MemPlace} {t e : TypeId} {α : Type} {cells : α → List Value} {Q : α → Prop}
theorem cells?_at {a : Addr} {n : Nat} {cs : List Value} (hc : W.cells? 0 a n = some cs) : cs.length = n ∧ cellsAt W a 0 cs := by
  unfold World.cells? at hc
  rw [if_pos (Nat.zero_le _)] at hc
  have hlen : cs.length = n := by
    have := mapM_some_length hc
    simpa using this
  refine ⟨hlen, cellsAt_all fun j v hj => ?_⟩
  have hjn : j < n := by rw [← hlen]; exact (List.getElem?_eq_some_iff.1 hj).1
  rw [Nat.zero_add]
  have := mapM_some_get hc j j (by simp [List.getElem?_range, hjn])
  rw [this, hj]
theorem open_row (hU : P.underlying t = some (.slice e)) (hce : P.cellsOf e = sz) (parse : ∀ m cs x, DataW.trod enc P W 0 (fun _ => true) true m e cs = some x → ∃ y, cs = cells y ∧ Q y)
    (h : DataW.Trod enc P W 0 (fun _ => true) true t (.slice A len cap) d ps) : ∃ l, ArgRow W sz cells A len l ∧ ∀ x ∈ l, Q x := by
  obtain ⟨fuel, hf⟩ := h
  rcases DataW.trod_slice hU hf with ⟨hcs, _⟩ | ⟨x, l, c, elems, rest, n, _, hcs, _, _, _, _, hl, hel, _, _⟩
  · simp [Value.cells] at hcs
    obtain ⟨rfl, rfl, rfl⟩ := hcs
    exact ⟨[], ⟨rfl, fun j y hy => by simp at hy⟩, fun y hy => by cases hy⟩
  · simp [Value.cells] at hcs
    obtain ⟨rfl, rfl, rfl⟩ := hcs
    obtain ⟨ys, h1, h2⟩ := list_of (R := fun j y => cellsAt W (x.add (j * sz)) 0 (cells y) ∧ Q y) len fun j hj => by
      have h1 := hel j hj
      rw [List.getElem?_eq_getElem (by omega), Option.bind_eq_some_iff] at h1
      obtain ⟨cs, hc, ht⟩ := h1
      rw [hce] at hc
      obtain ⟨y, rfl, hq⟩ := parse _ _ _ ht
      exact ⟨y, (cells?_at hc).2, hq⟩
    refine ⟨ys, ⟨h1, fun j y hy => ⟨x, rfl, (h2 j y hy).1⟩⟩, fun y hy => ?_⟩
    obtain ⟨j, hj⟩ := List.mem_iff_getElem?.1 hy
    exact (h2 j y hj).2
end
end Go.Proofs.YthfcnkeclcphpaaDoor
