/-
  Lists whose keys rise, and a search in halves. Plain Lean over the words of 'Prim'.
-/
import Derived.Test.YtnnoalpkldpjfaaSub
namespace Go.Vc

/-- Each key is below the next one. -/
def Rises {α : Type} (key : α → Int) (l : List α) : Prop := ∀ (i : Nat) (x y : α), l[i]? = some x → l[i + 1]? = some y → key x < key y
theorem Rises.lt {α : Type} {key : α → Int} {l : List α} (h : Rises key l) : ∀ (d i : Nat) (x y : α), l[i]? = some x → l[i + d + 1]? = some y → key x < key y
  | 0, i, x, y, hx, hy => h i x y hx hy
  | d + 1, i, x, y, hx, hy => by
    have hlt : i + d + 1 < l.length := by
      have := (List.getElem?_eq_some_iff.1 hy).1
      omega
    have hz := List.getElem?_eq_getElem hlt
    have h1 := h.lt d i x _ hx hz
    have h2 := h (i + d + 1) _ y hz (by rw [show i + d + 1 + 1 = i + (d + 1) + 1 from by omega]; exact hy)
    omega
theorem Rises.ij {α : Type} {key : α → Int} {l : List α} (h : Rises key l) {i j : Nat} (hij : i < j) (hj : j < l.length) : key (l[i]'(by omega)) < key l[j] := by
  obtain ⟨d, rfl⟩ : ∃ d, j = i + d + 1 := ⟨j - i - 1, by omega⟩
  exact h.lt d i _ _ (List.getElem?_eq_getElem (by omega)) (List.getElem?_eq_getElem hj)

/-- Where a key is, or would stand. -/
structure AtPlace {α : Type} (key : α → Int) (l : List α) (n : Int) (i : Nat) : Prop where
  le : i ≤ l.length
  below : ∀ (j : Nat) (x : α), l[j]? = some x → j < i → key x < n
  above : ∀ (j : Nat) (x : α), l[j]? = some x → i ≤ j → n ≤ key x

/-- (i + j) / 2, as it is reckoned. -/
theorem half {i j : Int} (h0 : 0 ≤ i) (hj : 0 ≤ j) (h : i + j ≤ 9223372036854775807) : IntKind.i64.wrap (shR .u64 (IntKind.u64.wrap (i64 (i + j))) 1) = (i + j) / 2 := by
  rw [i64_id (by omega) h]
  have e1 : IntKind.u64.wrap (i + j) = i + j := by
    have : IntKind.u64.wrap (i + j) = (i + j) % 18446744073709551616 := rfl
    omega
  have e2 : shR .u64 (i + j) 1 = (i + j).fdiv 2 := rfl
  rw [e1, e2, Int.fdiv_eq_ediv_of_nonneg _ (by omega)]
  exact i64_id (n := (i + j) / 2) (by omega) (by omega)
end Go.Vc
