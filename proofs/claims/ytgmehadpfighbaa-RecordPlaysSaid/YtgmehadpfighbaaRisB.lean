/- Rising rows: where a key stands. -/
import Derived.Test.YtgmehadpfighbaaRis
set_option linter.unusedVariables false
set_option linter.unusedSimpArgs false
namespace Go.Proofs.Ytgmehadpfighbaa
open Go Go.RowKit

section
variable {κ β : Type} [DecidableEq κ] {lt : κ → κ → Bool} {key : β → κ} {l : List β} {k : κ} {x : β}
theorem perm_get_del (k : κ) : ∀ {l : List β}, (l.map key).Nodup → l.Perm ((getR key l k).toList ++ delR key l k)
  | [], _ => .refl _
  | y :: r, hn => by
    simp only [List.map_cons, List.nodup_cons] at hn
    have ih := perm_get_del k hn.2
    simp only [getR, delR, List.find?_cons, List.filter_cons] at ih ⊢
    by_cases e : key y = k
    · have hno : r.filter (fun z => !decide (key z = k)) = r := by
        refine List.filter_eq_self.2 fun z hz => ?_
        have : key z ≠ k := fun h => hn.1 (List.mem_map.2 ⟨z, hz, by rw [h, e]⟩)
        simp [this]
      simp [e, hno]
    · simp only [e, decide_false, Bool.not_false, if_true]
      exact (ih.cons y).trans List.perm_middle.symm
/-- A rising row, parted at a key. -/
theorem Ris.split (H : Lin lt) (h : Ris lt key l) (k : κ) : l = lowR lt key l k ++ ((getR key l k).toList ++ topR lt key l k) := by
  refine Ris.uniq H h ?_ ?_
  · refine List.pairwise_append.2 ⟨h.filter _, List.pairwise_append.2 ⟨?_, h.filter _, fun y hy z hz => ?_⟩, fun y hy z hz => ?_⟩
    · cases getR key l k <;> simp
    · obtain ⟨_, e⟩ := getR_some' (Option.mem_toList.1 hy)
      rw [e]
      exact (mem_top.1 hz).2
    · have h1 := (mem_low.1 hy).2
      rcases List.mem_append.1 hz with hz | hz
      · obtain ⟨_, e⟩ := getR_some' (Option.mem_toList.1 hz)
        rw [e]
        exact h1
      · exact H.tr _ _ _ h1 (mem_top.1 hz).2
  · refine (perm_get_del k (h.keys H)).trans ?_
    refine ((perm_lowtop H l k).symm.append_left _).trans ?_
    rw [← List.append_assoc, ← List.append_assoc]
    exact List.perm_append_comm.append_right _
theorem low_at (H : Lin lt) (h : Ris lt key l) {i : Nat} (hi : i < (lowR lt key l k).length) : ∃ y, l[i]? = some y ∧ lt (key y) k = true := by
  refine ⟨(lowR lt key l k)[i], ?_, (mem_low.1 (List.getElem_mem hi)).2⟩
  have e := h.split H k
  rw [show l[i]? = (lowR lt key l k ++ ((getR key l k).toList ++ topR lt key l k))[i]? from by rw [← e], List.getElem?_append_left hi, List.getElem?_eq_getElem hi]
theorem stop_at (H : Lin lt) (h : Ris lt key l) : l[(lowR lt key l k).length]? = (getR key l k).or (topR lt key l k).head? := by
  have e := h.split H k
  rw [show l[(lowR lt key l k).length]? = (lowR lt key l k ++ ((getR key l k).toList ++ topR lt key l k))[(lowR lt key l k).length]? from by rw [← e], List.getElem?_append_right (Nat.le_refl _), Nat.sub_self]
  cases getR key l k with
  | none =>
    simp only [Option.toList, List.nil_append, Option.or]
    cases topR lt key l k <;> rfl
  | some y => rfl
theorem low_take (H : Lin lt) (h : Ris lt key l) : l.take (lowR lt key l k).length = lowR lt key l k := by
  have e := h.split H k
  rw [show l.take (lowR lt key l k).length = (lowR lt key l k ++ ((getR key l k).toList ++ topR lt key l k)).take (lowR lt key l k).length from by rw [← e], List.take_left]
theorem low_drop (H : Lin lt) (h : Ris lt key l) : l.drop (lowR lt key l k).length = (getR key l k).toList ++ topR lt key l k := by
  have e := h.split H k
  rw [show l.drop (lowR lt key l k).length = (lowR lt key l k ++ ((getR key l k).toList ++ topR lt key l k)).drop (lowR lt key l k).length from by rw [← e], List.drop_left]
/-- Without a key: what is below it, and above. -/
theorem Ris.del_eq (H : Lin lt) (h : Ris lt key l) (k : κ) : delR key l k = lowR lt key l k ++ topR lt key l k := by
  refine Ris.uniq H (h.del k) ?_ (perm_lowtop H l k).symm
  exact List.pairwise_append.2 ⟨h.filter _, h.filter _, fun y hy z hz => H.tr _ _ _ (mem_low.1 hy).2 (mem_top.1 hz).2⟩
end
end Go.Proofs.Ytgmehadpfighbaa
