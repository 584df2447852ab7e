/-
  Words of which texts are made: numbers' digits, texts in quotes; the words of a line, in one piece.
-/
import Derived.Test.YtnnoalpkldpjfaaGreatDoorSpAtoi
import Derived.Test.YtnnoalpkldpjfaaGreatDoorSpLaw06
set_option maxRecDepth 20000
set_option linter.unusedVariables false
namespace Go.Chg
open Go.Vc
variable {w : World} {s l : List UInt8} {ws : List (List UInt8)}
theorem plain_word {x : List UInt8} (h0 : x ≠ []) (h : ∀ c ∈ x, 33 ≤ c.toNat ∧ c.toNat ≠ 34) : wordOk x = true := by
  unfold wordOk
  rw [if_neg h0, if_neg (fun e => ?_), List.all_eq_true]
  · exact fun c hc => decide_eq_true (by have := (h c hc).1; omega)
  · cases x with
    | nil => cases e
    | cons c r =>
      have : c = 34 := Option.some.inj e
      subst this
      exact (h 34 (by simp)).2 rfl
theorem digits_word (n : Nat) : wordOk (digits 10 n) = true := by
  refine plain_word (fun e => ?_) fun c hc => by have := (digits_val n).2 c hc; omega
  by_cases h : n < 10
  · rw [digits_small h] at e; cases e
  · rw [digits_big (by decide) h] at e; simp at e
theorem quote_word_ok (x : List UInt8) : wordOk (quote x) = true := by
  unfold wordOk
  rw [if_neg (by unfold quote; simp), if_pos (by unfold quote; rfl), unquote_quote]
  rfl
theorem dig_inj {m n : Int} (hm : 0 ≤ m) (hn : 0 ≤ n) (h : digits 10 m.toNat = digits 10 n.toNat) : m = n := by
  have h1 := (digits_val m.toNat).1
  have h2 := (digits_val n.toNat).1
  rw [h, h2] at h1
  omega
theorem joinL_mem : ∀ (ws : List (List UInt8)) (x : List UInt8), x ∈ ws → x.length ≤ (joinL [32] ws).length
  | [], x, h => by cases h
  | [y], x, h => by
    rw [List.mem_singleton] at h
    subst h
    simp [joinL]
  | y :: z :: r, x, h => by
    rw [joinL_cons]
    rcases List.mem_cons.1 h with rfl | h
    · simp
    · have := joinL_mem (z :: r) x h
      rw [List.length_append, List.length_cons]
      omega
theorem Words_or {line : List UInt8} {K : Sl × Int → World → Prop} (ht : Utf8T w) (hl : line.length ≤ 100000) (hK : ∀ r w', ((∃ ws, wordsL line = some ws ∧ r.2 = 0 ∧ OwnSl eS w' w.heap.size r.1 ws) ∨ (wordsL line = none ∧ r = (Sl.nil, 3))) → Ext w w' → K r w') : quote_Words line K w :=
  Words_spec ht hl (fun ws h s w' ho hx => hK _ _ (.inl ⟨ws, h, rfl, ho⟩) hx) (fun h w' hx => hK _ _ (.inr ⟨h, rfl⟩) hx)
end Go.Chg
