/- Arguments' cells, as they lie while the call runs. -/
import Derived.Test.YthfcnkeclcphpaaDoorArgOpen
import Derived.Test.YthfcnkeclcphpaaDoorBytesMem
set_option linter.unusedVariables false
set_option linter.unusedSimpArgs false
namespace Go.Proofs.YthfcnkeclcphpaaDoor
open Go Go.RowKit

theorem St.oldCells {w0 w : World} {L : List Assn} (h : St w0 (World.all w0) L w) {a : Addr} : ∀ {vs : List Value} {i : Nat}, cellsAt w0 a i vs → cellsAt w a i vs
  | [], _, _ => trivial
  | v :: r, i, hv => ⟨h.oldCell hv.1, St.oldCells h hv.2⟩
theorem tail_cells {w : World} {a : Addr} {v : Value} {vs : List Value} (h : cellsAt w a 0 (v :: vs)) : cellsAt w (a.add 1) 0 vs := by
  have key : ∀ (vs : List Value) (i : Nat), cellsAt w a (i + 1) vs → cellsAt w (a.add 1) i vs := by
    intro vs
    induction vs with
    | nil => intro _ _; trivial
    | cons x r ih =>
      intro i h
      refine ⟨?_, ih (i + 1) h.2⟩
      have h1 := h.1
      have e : (a.add 1).add i = a.add (i + 1) := by
        obtain ⟨b, o, v⟩ := a
        unfold Addr.add
        by_cases hi : i = 0
        · subst hi; rfl
        · rw [if_neg hi, if_neg (show ¬ (1 = 0) by decide), if_neg (show ¬ (i + 1 = 0) by omega)]
          simp only [Addr.mk.injEq, true_and, and_true]
          omega
      rw [e]
      exact h1
  exact key vs 0 h.2
end Go.Proofs.YthfcnkeclcphpaaDoor
