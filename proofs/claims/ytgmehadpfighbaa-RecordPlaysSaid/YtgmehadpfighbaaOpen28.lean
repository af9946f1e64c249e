/- Scripts of layer 28, as arguments; the laws over them. -/
import Derived.Test.YtgmehadpfighbaaPlays28
set_option linter.unusedVariables false
set_option linter.unusedSimpArgs false
namespace Go.Proofs.Ytgmehadpfighbaa
open Go Go.RowKit

section
variable {H : Type} {enc : TypeId × Value → H} {W : World} {A : Option Addr} {len cap : Nat} {d : DataW H} {ps : List MemPlace}
theorem five_of {α : Type} {l : List α} (h : l.length = 5) : ∃ a b c d e, l = [a, b, c, d, e] := by
  match l, h with
  | [a, b, c, d, e], _ => exact ⟨a, b, c, d, e, rfl⟩
theorem six_of {α : Type} {l : List α} (h : l.length = 6) : ∃ a b c d e f, l = [a, b, c, d, e, f] := by
  match l, h with
  | [a, b, c, d, e, f], _ => exact ⟨a, b, c, d, e, f, rfl⟩
theorem parse_sub (m : Nat) (cs : List Value) (x : DataW H × List MemPlace) (h : DataW.trod enc Try.prog W 0 (fun _ => true) true m 33 cs = some x) : ∃ y : SubV, cs = y.cells := by
  obtain ⟨xs, m, rfl, _, hlen, hxl, hfs⟩ := DataW.trod_struct Try.underlying33 h
  rw [show Try.prog.cellsOf 33 = 5 from by kernel_rfl] at hlen
  obtain ⟨a, b, c, d, e, rfl⟩ := five_of hlen
  have hxl : xs.length = 5 := hxl
  have f0 : DataW.trod enc Try.prog W 0 (fun _ => true) true m 9 ([a, b, c, d, e].take (Try.prog.cellsOf 9)) = xs[0]? := hfs 0 _ rfl
  have f1 : DataW.trod enc Try.prog W 0 (fun _ => true) true m 9 ([b, c, d, e].take (Try.prog.cellsOf 9)) = xs[1]? := hfs 1 _ rfl
  have f2 : DataW.trod enc Try.prog W 0 (fun _ => true) true m 9 ([c, d, e].take (Try.prog.cellsOf 9)) = xs[2]? := hfs 2 _ rfl
  have f3 : DataW.trod enc Try.prog W 0 (fun _ => true) true m 31 ([d, e].take (Try.prog.cellsOf 31)) = xs[3]? := hfs 3 _ rfl
  have f4 : DataW.trod enc Try.prog W 0 (fun _ => true) true m 4 ([e].take (Try.prog.cellsOf 4)) = xs[4]? := hfs 4 _ rfl
  rw [show Try.prog.cellsOf 9 = 1 from by kernel_rfl] at f0 f1 f2
  rw [show Try.prog.cellsOf 31 = 1 from by kernel_rfl] at f3
  rw [show Try.prog.cellsOf 4 = 1 from by kernel_rfl] at f4
  rw [List.getElem?_eq_getElem (by omega)] at f0 f1 f2 f3 f4
  obtain ⟨s0, e0, _⟩ := DataW.trod_string Try.underlying9 f0
  obtain ⟨s1, e1, _⟩ := DataW.trod_string Try.underlying9 f1
  obtain ⟨s2, e2, _⟩ := DataW.trod_string Try.underlying9 f2
  obtain ⟨n3, e3, _⟩ := DataW.trod_int Try.underlying31 f3
  obtain ⟨b4, e4, _⟩ := DataW.trod_bool Try.underlying4 f4
  cases e0
  cases e1
  cases e2
  cases e3
  cases e4
  exact ⟨⟨s0, s1, s2, n3, b4⟩, rfl⟩
theorem parse_step (m : Nat) (cs : List Value) (x : DataW H × List MemPlace) (h : DataW.trod enc Try.prog W 0 (fun _ => true) true m 35 cs = some x) : ∃ y : StepV, cs = y.cells ∧ True := by
  obtain ⟨xs, m, rfl, _, hlen, hxl, hfs⟩ := DataW.trod_struct Try.underlying35 h
  rw [show Try.prog.cellsOf 35 = 6 from by kernel_rfl] at hlen
  obtain ⟨z, a, b, c, d, e, rfl⟩ := six_of hlen
  have hxl : xs.length = 2 := hxl
  have f0 : DataW.trod enc Try.prog W 0 (fun _ => true) true m 3 ([z, a, b, c, d, e].take (Try.prog.cellsOf 3)) = xs[0]? := hfs 0 _ rfl
  have f1 : DataW.trod enc Try.prog W 0 (fun _ => true) true m 33 ([a, b, c, d, e].take (Try.prog.cellsOf 33)) = xs[1]? := hfs 1 _ rfl
  rw [show Try.prog.cellsOf 3 = 1 from by kernel_rfl] at f0
  rw [show Try.prog.cellsOf 33 = 5 from by kernel_rfl] at f1
  rw [List.getElem?_eq_getElem (by omega)] at f0 f1
  obtain ⟨n0, e0, _⟩ := DataW.trod_int Try.underlying3 f0
  obtain ⟨y, e1⟩ := parse_sub _ _ _ f1
  cases e0
  have e1 : [a, b, c, d, e] = y.cells := e1
  cases e1
  exact ⟨⟨n0, y⟩, rfl, trivial⟩
theorem open_steps (h : DataW.Trod enc Try.prog W 0 (fun _ => true) true 22 (.slice A len cap) d ps) : ∃ l, ArgS W A len l := by
  obtain ⟨l, h1, _⟩ := open_row (Q := fun _ => True) Try.underlying22 (by kernel_rfl) parse_step h
  exact ⟨l, h1⟩
end
theorem both_row {W : World} {A : Option Addr} {len c : Nat} {mo : Int} (hmo : (Lit.int .u8 mo).wf = true) (ha : ∃ l, ArgS W A len l) : Calls Try.prog 3 #[.int .u8 mo, .slice A len c] W (EndT W) :=
  let ⟨_, h⟩ := ha; both_law hmo h
theorem plays_row {W : World} {A : Option Addr} {len c : Nat} {most addr : Int} {name : ByteArray} (_ : (Lit.int .i64 most).wf = true) (ha : ∃ l, ArgS W A len l) (_ : name.size ≤ 140737488351232) (_ : (Lit.int .u32 addr).wf = true) :
    Calls Try.prog 4 #[.int .i64 most, .slice A len c, .string name, .int .u32 addr] W (EndT W) :=
  let ⟨_, h⟩ := ha; plays_law h
end Go.Proofs.Ytgmehadpfighbaa
