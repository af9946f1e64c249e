/- Parts of a state, in whatever order, some of them dropped. -/
import Derived.Test.YthfcnkeclcphpaaDoorEnc
set_option linter.unusedVariables false
set_option linter.unusedSimpArgs false
namespace Go.Proofs.YthfcnkeclcphpaaDoor
open Go Go.RowKit

def selOk (n : Nat) (is : List Nat) : Bool := is.all (fun i => decide (i < n)) && decide is.Nodup
theorem range_map_getD {α : Type} (d : α) : ∀ (L : List α) (n : Nat), n ≤ L.length → (List.range n).map (fun i => L.getD i d) = L.take n := fun L n h => by
  apply List.ext_getElem?
  intro i
  rw [List.getElem?_map, List.getElem?_take]
  by_cases hi : i < n
  · rw [List.getElem?_range hi, if_pos hi]
    show some (L.getD i d) = _
    rw [List.getD_eq_getElem?_getD, List.getElem?_eq_getElem (by omega)]
    rfl
  · rw [List.getElem?_eq_none (by simpa using hi), if_neg hi]
    rfl
theorem sel_perm {α : Type} (d : α) (L : List α) (n : Nat) (is : List Nat) (hn : n ≤ L.length) (hs : selOk n is = true) :
    ∃ rest, L.Perm (rest ++ (is.map (fun i => L.getD i d) ++ L.drop n)) := by
  simp only [selOk, Bool.and_eq_true, List.all_eq_true, decide_eq_true_eq] at hs
  have hp : (List.range n).Perm ((List.range n).filter (fun i => decide (i ∉ is)) ++ is) := by
    have h1 := (List.filter_append_perm (fun i => decide (i ∉ is)) (List.range n)).symm
    refine h1.trans (List.Perm.append_left _ ?_)
    have hnd : ((List.range n).filter fun i => !decide (i ∉ is)).Nodup := (List.filter_sublist).nodup List.nodup_range
    rw [List.perm_ext_iff_of_nodup hnd hs.2]
    intro a
    simp only [List.mem_filter, List.mem_range, Bool.not_eq_true', decide_eq_false_iff_not, Decidable.not_not]
    exact ⟨fun h => h.2, fun h => ⟨hs.1 a h, h⟩⟩
  refine ⟨((List.range n).filter (fun i => decide (i ∉ is))).map (fun i => L.getD i d), ?_⟩
  have h2 := hp.map (fun i => L.getD i d)
  rw [range_map_getD d L n hn, List.map_append] at h2
  have h3 := h2.append_right (L.drop n)
  rw [List.take_append_drop, List.append_assoc] at h3
  exact h3
section
variable {w0 w : World} {O : Nat → Prop} {L : List Assn}
theorem St.dropL : ∀ {M : List Assn}, St w0 O (M ++ L) w → St w0 O L w
  | [], h => h
  | _ :: _, h => St.dropL (St.drop h)
/-- Of the first n parts those of these numbers, in this order; then the rest. -/
theorem St.sel (h : St w0 O L w) (n : Nat) (is : List Nat) (hs : selOk n is = true := by decide) (hn : Nat.ble n L.length = true := by rfl) : St w0 O (is.map (fun i => L.getD i (stars [])) ++ L.drop n) w := by
  obtain ⟨rest, hp⟩ := sel_perm (stars []) L n is (Nat.le_of_ble_eq_true hn) hs
  exact St.dropL (h.perm hp)
end
end Go.Proofs.YthfcnkeclcphpaaDoor
