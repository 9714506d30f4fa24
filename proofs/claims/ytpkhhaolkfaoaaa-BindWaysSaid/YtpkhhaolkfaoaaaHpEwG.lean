/-
  THE EVALUATOR, PART 33: shapes of results, by the objects that are handed on.
-/
import Derived.Test.YtpkhhaolkfaoaaaHpEvB
namespace Go.Ev
def shapeC : AVal → LSh
  | .int k _ => .v (.int k)
  | .bool _ => .v .bool
  | .str _ => .v .str
  | .sl t _ _ => .v (.sl t)
  | .own i => .c (.own i)
  | .ptr i o => .c (.ptr i o)
  | .nilp => .c .nilp
  | .nils => .c .nils
  | .map i => .c (.map i)
  | .nilm => .c .nilm
  | .nilf => .c .nilf
  | .yld i => .c (.yld i)
  | .clo f cs => .c (.clo f (cs.filterMap capOf))
  | _ => .c .undef
def shapeO : AObj → OSh
  | .box cs => .box (cs.map shapeC)
  | .arr t sh _ => .arr t sh
  | .frm _ _ _ j => .frm j
  | .mp kt vt _ _ => .mp kt vt
  | _ => .dead
def shapes (res : List VSh) (f : Nat) (objs : List AObj) : List FSh := [⟨objs.map shapeO, (res[f]?).getD (.one (.v .bool))⟩]
end Go.Ev
