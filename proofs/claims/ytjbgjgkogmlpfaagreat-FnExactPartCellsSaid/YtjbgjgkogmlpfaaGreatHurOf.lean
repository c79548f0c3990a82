/- All hurdles that stand: the spec and the program. -/
import Derived.Test.YtjbgjgkogmlpfaaGreatHur
namespace Go.Proofs.YtjbgjgkogmlpfaaGreat
open Go Go.Eng
set_option linter.unusedSimpArgs false
set_option linter.unusedVariables false
set_option maxRecDepth 100000
set_option maxHeartbeats 4000000

def hurdlesS : Fun
  | [.ag .pas p], [] => some (.ow 0 (hurRows p).length .hur 62, [.l .hur (hurRows p)], [okD p])
  | _, _ => .none

def hurOfS : Fun
  | [.ag .pas p], [] => some (.t2 (.fs .hur (if okP p then hurRows p else [])) (.i .i64 (if okP p then 0 else 1)), [], [])
  | _, _ => .none
def hurOkS : Fun
  | [.ag .pas p], [] => some (.t2 (.ow 0 (hurRows p).length .hur 62) (.i .i64 0), [.l .hur (hurRows p)], [okP p])
  | _, _ => .none
def hurErrS : Fun
  | [.ag .pas p], [] => some (.t2 .nsl (.i .i64 1), [], [¬ okP p])
  | _, _ => .none
end Go.Proofs.YtjbgjgkogmlpfaaGreat
