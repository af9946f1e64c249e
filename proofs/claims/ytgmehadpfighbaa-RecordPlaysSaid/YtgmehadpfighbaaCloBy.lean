/- The shelf's contract of maps.Clone, laid at this program (printed by the kit's lay-plain; names turned). -/
import Derived.Shelf.SlGeneric
import Derived.Shelf.SlMaps.Clone
import Derived.Ground.SlmcProg
import Derived.Test.YtgmehadpfighbaaProg
import Derived.Test.YtgmehadpfighbaaRe
namespace Go.Proofs.Ytgmehadpfighbaa
open Go Go.Shelf
def cloneBy_ren : Go.Shelf.Ren := ⟨fun | 5 => 29 | 7 => 40 | n => n, fun | 23 => 55 | 25 => 9 | 3 => 33 | 4 => 4 | 20 => 20 | n => n, fun | n => n⟩
theorem cloneBy : Go.Proofs.SlLaysW.n5 Try.prog cloneBy_ren := {
  mixed := by kernel_rfl
  f5 := ⟨Try.f29.name, by decide, Try.func29.trans (congrArg some (by kernel_rfl))⟩
  f7 := Try.func40.trans (congrArg some (by kernel_rfl))
  t4 := Try.underlying4
  a4 := Try.isAgg4
  z4 := Try.sizeOf4
  v4 := Try.zeroValue4
  t20 := Try.underlying20
  a20 := Try.isAgg20
  z20 := Try.sizeOf20
  v20 := Try.zeroValue20
  t23 := Try.underlying55
  a23 := Try.isAgg55
  z23 := Try.sizeOf55
  v23 := Try.zeroValue55 }
theorem cloneBy_ok {α β : Type} [DecidableEq α] {enc : α → Value} {encv : β → Value} {kvs : List (α × β)} {w0 w : World} {O : Nat → Prop} {L : List Assn} {gm : Nat} (h : St w0 O (mapC gm enc encv kvs :: L) w) :
    Calls Try.prog 29 #[.map (some gm)] w fun e w' => ∃ g2, e = .returned (.map (some g2)) ∧ St w0 O (mapC g2 enc encv kvs :: mapC gm enc encv kvs :: L) w' := by
  obtain ⟨es, clk, hm, h1⟩ := mapC_open h
  refine Calls.mono (show Calls Try.prog 29 _ _ _ from AnyW.maps_Clone cloneBy gm es clk w h1.get.1) ?_
  rintro e w1 ⟨rfl, rfl⟩
  have h2 := h1.alloc (.map es clk)
  exact ⟨w.heap.size, rfl, mapC_shut hm ((mapC_shut hm (h2.pick (.there .here))).pick (.there .here))⟩
end Go.Proofs.Ytgmehadpfighbaa
