/- Layings of the shelf's contracts at this seat, in plain words (the kit's tool lay-plain.mjs wrote them; wip/layp.py). -/
import Derived.Test.YtnddaildicmneaaProg
import Derived.Shelf.SlMaps.Clone
import Derived.Ground.SlmcProg
namespace Go.Proofs.Ytnddaildicmneaa
open Go.Shelf Go.Proofs
def cloneP_ren : Go.Shelf.Ren := ⟨fun | 5 => 62 | 7 => 81 | n => n, fun | 23 => 94 | 25 => 104 | 3 => 41 | 4 => 4 | 20 => 20 | n => n, fun | n => n⟩
theorem cloneP : Go.Proofs.SlLaysW.n5 Try.prog cloneP_ren := {
  mixed := by kernel_rfl
  f5 := ⟨Try.f62.name, by decide, Try.func62.trans (congrArg some (by kernel_rfl))⟩
  f7 := Try.func81.trans (congrArg some (by kernel_rfl))
  t4 := Try.underlying4
  a4 := Try.isAgg4
  z4 := Try.sizeOf4
  v4 := Try.zeroValue4
  t20 := Try.underlying20
  a20 := Try.isAgg20
  z20 := Try.sizeOf20
  v20 := Try.zeroValue20
  t23 := Try.underlying94
  a23 := Try.isAgg94
  z23 := Try.sizeOf94
  v23 := Try.zeroValue94 }
end Go.Proofs.Ytnddaildicmneaa
