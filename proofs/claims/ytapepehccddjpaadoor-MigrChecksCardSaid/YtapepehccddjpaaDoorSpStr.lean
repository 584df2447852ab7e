/-
  strings.Compare.
-/
import Derived.Lib.Bytealg
import Derived.Test.YtapepehccddjpaaDoorKeys
import Derived.Test.YtapepehccddjpaaDoorFns
import Derived.Test.YtapepehccddjpaaDoorTyr
set_option linter.unusedVariables false
namespace Go.Chg
open Go.Vc
theorem compare_cmp : ∀ (a b : List UInt8), Lib.compareBytes a b = cmpS a b
  | [], [] => by decide
  | [], b :: ys => by
    have : ([] : List UInt8) < b :: ys := by simp
    unfold cmpS; rw [if_pos this]; rfl
  | a :: xs, [] => by
    have h1 : ¬ (a :: xs) < ([] : List UInt8) := by simp
    have h2 : ¬ (a :: xs) = ([] : List UInt8) := by simp
    unfold cmpS; rw [if_neg h1, if_neg h2]; rfl
  | a :: xs, b :: ys => by
    have ih := compare_cmp xs ys
    unfold Lib.compareBytes
    by_cases h1 : a < b
    · rw [if_pos h1]
      have : (a :: xs) < (b :: ys) := List.cons_lt_cons_iff.2 (.inl h1)
      unfold cmpS; rw [if_pos this]
    · by_cases h2 : b < a
      · rw [if_neg h1, if_pos h2]
        have h3 : (b :: ys) < (a :: xs) := List.cons_lt_cons_iff.2 (.inl h2)
        have h4 : ¬ (a :: xs) < (b :: ys) := str_lt_asymm h3
        have h5 : ¬ (a :: xs) = (b :: ys) := fun e => by rw [e] at h3; exact str_lt_irrefl _ h3
        unfold cmpS; rw [if_neg h4, if_neg h5]
      · rw [if_neg h1, if_neg h2, ih]
        have he : a = b := UInt8.le_antisymm (UInt8.not_lt.1 h2) (UInt8.not_lt.1 h1)
        subst he
        unfold cmpS
        by_cases h6 : xs < ys
        · rw [if_pos h6, if_pos (List.cons_lt_cons_iff.2 (.inr ⟨rfl, h6⟩))]
        · have h8 : ¬ (a :: xs) < (a :: ys) := fun h => by
            rcases List.cons_lt_cons_iff.1 h with h | ⟨_, h⟩
            · exact h1 h
            · exact h6 h
          by_cases h7 : xs = ys
          · rw [if_neg h6, if_pos h7, if_neg h8, if_pos (by rw [h7])]
          · rw [if_neg h6, if_neg h7, if_neg h8, if_neg (fun h => h7 (List.cons.inj h).2)]
theorem strings_Compare_spec {a b : List UInt8} {K : Int → World → Prop} {w : World} (hK : K (cmpS a b) w) : strings_Compare a b K w := by
  unfold strings_Compare
  refine internal_bytealg_CompareString_calls ?_
  unfold internal_bytealg_CompareString
  refine ⟨cmpS a b, w, ?_, hK⟩
  rw [run_callFunc_extern ext_internal_bytealg_abigen_runtime_cmpstring (by kernel_rfl) (by kernel_rfl) (by kernel_rfl) (e := Extern.BytealgCompare.compare) (by kernel_rfl)]
  show ((Extern.BytealgCompare.compare #[.string ⟨⟨a⟩⟩, .string ⟨⟨b⟩⟩]).run Pr w).andThen _ = _
  rw [Lib.run_compareString, compare_cmp]
  rfl
end Go.Chg
