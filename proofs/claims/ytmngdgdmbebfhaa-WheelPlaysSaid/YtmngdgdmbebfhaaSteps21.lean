/- The steps of a script, as the laws of layer 21 take them. -/
import Derived.Test.YtmngdgdmbebfhaaLaw21
import Derived.ChangeShapes
import Derived.ChangeSlices
set_option linter.unusedVariables false
set_option linter.unusedSimpArgs false
namespace Go.Proofs.Ytmngdgdmbebfhaa
open Go Go.RowKit

/-- A script: in each place a step's three numbers. -/
def ArgS (w0 : World) (A : Option Addr) (len : Nat) : Prop := ∀ j, j < len → ∃ a, A = some a ∧ ∃ d k n, cellsAt w0 (a.add (j * 3)) 0 [.int .i64 d, .int .u64 k, .int .i64 n]
theorem St.oldCells {w0 w : World} {L : List Assn} (h : St w0 (World.all w0) L w) {a : Addr} : ∀ {vs : List Value} {i : Nat}, cellsAt w0 a i vs → cellsAt w a i vs
  | [], _, _ => trivial
  | v :: r, i, hv => ⟨h.oldCell hv.1, St.oldCells h hv.2⟩
theorem three_of {α : Type} {l : List α} (h : l.length = 3) : ∃ x y z, l = [x, y, z] := by
  match l, h with
  | [x, y, z], _ => exact ⟨x, y, z, rfl⟩
theorem open_steps {H : Type} {enc : TypeId × Value → H} {W : World} {A : Option Addr} {len cap : Nat} {d : DataW H} {ps : List MemPlace}
    (h : DataW.Trod enc Try.prog W 0 (fun _ => true) true 22 (.slice A len cap) d ps) : ArgS W A len := by
  obtain ⟨fuel, hf⟩ := h
  rcases DataW.trod_slice Try.underlying22 hf with ⟨hcs, _⟩ | ⟨x, l, c, elems, rest, n, _, hcs, _, _, _, _, hl, hel, _, _⟩
  · simp [Value.cells] at hcs
    obtain ⟨rfl, rfl, rfl⟩ := hcs
    exact fun j hj => absurd hj (Nat.not_lt_zero j)
  · simp [Value.cells] at hcs
    obtain ⟨rfl, rfl, rfl⟩ := hcs
    intro j hj
    have h1 := hel j hj
    rw [List.getElem?_eq_getElem (by omega), Option.bind_eq_some_iff] at h1
    obtain ⟨cs, hc, ht⟩ := h1
    rw [show Try.prog.cellsOf 29 = 3 from by kernel_rfl] at hc
    obtain ⟨xs, m, rfl, _, hlen, hxl, hfs⟩ := DataW.trod_struct Try.underlying29 ht
    rw [show Try.prog.cellsOf 29 = 3 from by kernel_rfl] at hlen
    obtain ⟨u, v, z, rfl⟩ := three_of hlen
    have hxl : xs.length = 3 := hxl
    have f0 : DataW.trod enc Try.prog W 0 (fun _ => true) true m 3 ([u, v, z].take (Try.prog.cellsOf 3)) = xs[0]? := hfs 0 _ rfl
    have f1 : DataW.trod enc Try.prog W 0 (fun _ => true) true m 27 ([v, z].take (Try.prog.cellsOf 27)) = xs[1]? := hfs 1 _ rfl
    have f2 : DataW.trod enc Try.prog W 0 (fun _ => true) true m 2 ([z].take (Try.prog.cellsOf 2)) = xs[2]? := hfs 2 _ rfl
    rw [show Try.prog.cellsOf 3 = 1 from by kernel_rfl] at f0
    rw [show Try.prog.cellsOf 27 = 1 from by kernel_rfl] at f1
    rw [show Try.prog.cellsOf 2 = 1 from by kernel_rfl] at f2
    rw [List.getElem?_eq_getElem (by omega)] at f0 f1 f2
    obtain ⟨n0, e0, _⟩ := DataW.trod_int Try.underlying3 f0
    obtain ⟨n1, e1, _⟩ := DataW.trod_int Try.underlying27 f1
    obtain ⟨n2, e2, _⟩ := DataW.trod_int Try.underlying2 f2
    cases e0
    cases e1
    cases e2
    refine ⟨x, rfl, n0, n1, n2, ?_⟩
    unfold World.cells? at hc
    rw [if_pos (Nat.zero_le _)] at hc
    have g := fun i (hi : i < 3) => mapM_some_get hc i i (by simp [List.getElem?_range, hi])
    exact ⟨g 0 (by decide), g 1 (by decide), g 2 (by decide), trivial⟩
end Go.Proofs.Ytmngdgdmbebfhaa
