/- slices.Sort at []uint32: cmp.Less and math/bits.Len. The lines are those of the walk at []int (toys/so), turned by wip/gen_srt.py. -/
import Derived.Test.YtnddaildicmneaaChecked
import Derived.Test.YtnddaildicmneaaBase
import Derived.Sort.Walk0
import Derived.Sort.Row
import Derived.Test.YtnddaildicmneaaSrt9
namespace Go.Proofs.Ytnddaildicmneaa
open Go.Proofs Go.RowKit Go.Sort

abbrev encSrt : Int → Value := fun x => Value.int .u32 x

set_option maxHeartbeats 1000000 in
theorem Srt.cmp_isNaN_int (x : Int) (w : World) : Calls Try.prog 126 #[.int .u32 x] w fun e w' => e = .returned (.bool false) ∧ w' = w := by
  go_enter Try.func126, Try.ntmps126
  go_wp2
  go_ret
  exact ⟨by simp, rfl⟩

set_option maxHeartbeats 1000000 in
theorem Srt.cmp_Less_int (x y : Int) (w : World) : Calls Try.prog 110 #[.int .u32 x, .int .u32 y] w fun e w' => e = .returned (.bool (Sort.ltInt x y)) ∧ w' = w := by
  go_enter Try.func110, Try.ntmps110
  go_wp2_with (go_at_call 126; refine (Srt.cmp_isNaN_int _ _).mono ?_; rintro e w' ⟨rfl, rfl⟩)
  go_ret
  exact ⟨rfl, rfl⟩

end Go.Proofs.Ytnddaildicmneaa
