/-
  cmp.Compare of numbers.
-/
import Derived.Test.YtnnoalpkldpjfaaKeys
import Derived.Test.YtnnoalpkldpjfaaFns
import Derived.Test.YtnnoalpkldpjfaaTyr
set_option linter.unusedVariables false
namespace Go.Chg
open Go.Vc
theorem cmp_isNaN_int_spec {x : Int} {K : Bool → World → Prop} {w : World} (hK : K false w) : cmp_isNaN_int x K w := by
  unfold cmp_isNaN_int
  rwa [show (x != x) = false from by simp]
theorem cmp_Compare_int_spec {x y : Int} {K : Int → World → Prop} {w : World} (hK : K (cmpI x y) w) : cmp_Compare_int x y K w := by
  unfold cmp_Compare_int
  refine cmp_isNaN_int_calls (cmp_isNaN_int_spec (cmp_isNaN_int_calls (cmp_isNaN_int_spec (ifB_f rfl (ifB_f rfl ?_)))))
  unfold cmpI at hK
  refine ifD (fun h => by rwa [if_pos h] at hK) (fun h => ?_)
  rw [if_neg h] at hK
  exact ifD (fun h => by rwa [if_pos (by omega)] at hK) (fun h => by rwa [if_neg (by omega)] at hK)
end Go.Chg
