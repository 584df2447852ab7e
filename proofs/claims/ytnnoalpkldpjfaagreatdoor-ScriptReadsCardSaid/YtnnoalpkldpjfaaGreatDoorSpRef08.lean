/-
  What is wrong with a command: the document's answer.
-/
import Derived.Test.YtnnoalpkldpjfaaGreatDoorSpCmdC
set_option maxRecDepth 20000
set_option linter.unusedVariables false
namespace Go.Chg
open Go.Vc
variable {w : World}
end Go.Chg
