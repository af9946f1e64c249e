/- The shelf's contract of maps.Clone, laid at this program (printed by the kit's lay-plain). -/
import Derived.Shelf.SlGeneric
import Derived.Shelf.SlMaps.Clone
import Derived.Ground.SlmcProg
import Derived.Test.YtmngdgdmbebfhaaProg
namespace Go.Proofs.Ytmngdgdmbebfhaa
open Go.Shelf
def cloneA_ren : Go.Shelf.Ren := ⟨fun | 5 => 31 | 7 => 40 | n => n, fun | 23 => 53 | 25 => 27 | 3 => 60 | 4 => 4 | 20 => 20 | n => n, fun | n => n⟩
theorem cloneA : Go.Proofs.SlLaysW.n5 Try.prog cloneA_ren := {
  mixed := by kernel_rfl
  f5 := ⟨Try.f31.name, by decide, Try.func31.trans (congrArg some (by kernel_rfl))⟩
  f7 := Try.func40.trans (congrArg some (by kernel_rfl))
  t4 := Try.underlying4
  a4 := Try.isAgg4
  z4 := Try.sizeOf4
  v4 := Try.zeroValue4
  t20 := Try.underlying20
  a20 := Try.isAgg20
  z20 := Try.sizeOf20
  v20 := Try.zeroValue20
  t23 := Try.underlying53
  a23 := Try.isAgg53
  z23 := Try.sizeOf53
  v23 := Try.zeroValue53 }
end Go.Proofs.Ytmngdgdmbebfhaa
