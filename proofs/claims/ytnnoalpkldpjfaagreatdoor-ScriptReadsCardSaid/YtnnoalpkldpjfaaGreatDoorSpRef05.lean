/-
  What package 'changeoverref05' says of keys and values.
-/
import Derived.Test.YtnnoalpkldpjfaaGreatDoorMY
import Derived.Test.YtnnoalpkldpjfaaGreatDoorMY
import Derived.Test.YtnnoalpkldpjfaaGreatDoorFns
import Derived.Test.YtnnoalpkldpjfaaGreatDoorTyr
set_option maxRecDepth 20000
set_option linter.unusedVariables false
namespace Go.Chg
open Go.Vc
theorem i64_at {i n : Nat} (h : i + n ≤ 9223372036854775807) : i64 ((i : Int) + (n : Int)) = ((i + n : Nat) : Int) := by rw [i64_id] <;> omega
def letters : List UInt8 := [97, 98, 99, 100, 101, 102, 103, 104, 105, 106, 107, 108, 109, 110, 111, 112, 113, 114, 115, 116, 117, 118, 119, 120, 121, 122, 65, 66, 67, 68, 69, 70, 71, 72, 73, 74, 75, 76, 77, 78, 79, 80, 81, 82, 83, 84, 85, 86, 87, 88, 89, 90, 48, 49, 50, 51, 52, 53, 54, 55, 56, 57, 45, 95, 46, 58]
def plainI (r : Int) : Bool := decide (97 ≤ r ∧ r ≤ 122) || decide (65 ≤ r ∧ r ≤ 90) || decide (48 ≤ r ∧ r ≤ 57) || decide (r = 45 ∨ r = 95 ∨ r = 46 ∨ r = 58) || decide (161 ≤ r ∧ r ≠ 65533)
theorem plain_letters (r : Int) : (∃ b ∈ letters, (b.toNat : Int) = r) ↔ (97 ≤ r ∧ r ≤ 122 ∨ 65 ≤ r ∧ r ≤ 90 ∨ 48 ≤ r ∧ r ≤ 57 ∨ r = 45 ∨ r = 95 ∨ r = 46 ∨ r = 58) := by
  constructor
  · rintro ⟨b, hb, rfl⟩
    have key : ∀ b ∈ letters, (97 ≤ b.toNat ∧ b.toNat ≤ 122 ∨ 65 ≤ b.toNat ∧ b.toNat ≤ 90 ∨ 48 ≤ b.toNat ∧ b.toNat ≤ 57 ∨ b.toNat = 45 ∨ b.toNat = 95 ∨ b.toNat = 46 ∨ b.toNat = 58) := by decide +kernel
    have := key b hb
    omega
  · intro h
    have key : ∀ n : Fin 128, (97 ≤ n.val ∧ n.val ≤ 122 ∨ 65 ≤ n.val ∧ n.val ≤ 90 ∨ 48 ≤ n.val ∧ n.val ≤ 57 ∨ n.val = 45 ∨ n.val = 95 ∨ n.val = 46 ∨ n.val = 58) → ∃ b ∈ letters, b.toNat = n.val := by decide +kernel
    obtain ⟨n, hn⟩ : ∃ n : Nat, r = n := ⟨r.toNat, by omega⟩
    subst hn
    obtain ⟨b, hb, e⟩ := key ⟨n, by omega⟩ (by simp only; omega)
    exact ⟨b, hb, by simp only at e; omega⟩
def plainN (n : Nat) : Bool := plainI (n : Int)
def printN (n : Nat) : Bool := decide (32 ≤ n) && decide (n ≠ 127)
/-- Which texts may be keys, and values. -/
def keyOk (s : List UInt8) : Bool := decide (1 ≤ s.length) && decide (s.length ≤ 24) && keyFrom plainN s 0
def valOk (s : List UInt8) : Bool := decide (s.length ≤ 48) && keyFrom printN s 0
end Go.Chg
