/- The assignment and the body of a function's one range over a function, taken out of its code. No program in sight. -/
import GoSem.Core.Code
namespace Go.Proofs.Ytnddaildicmneaa
def rangeOf : Code → Option (Code × Code)
  | .rangeFunc _ _ a b => some (a, b)
  | .seq a b => match rangeOf a with | some r => some r | none => rangeOf b
  | .block _ b => rangeOf b
  | .scope b => rangeOf b
  | .loop b => rangeOf b
  | .cond _ a b => match rangeOf a with | some r => some r | none => rangeOf b
  | _ => none
end Go.Proofs.Ytnddaildicmneaa
