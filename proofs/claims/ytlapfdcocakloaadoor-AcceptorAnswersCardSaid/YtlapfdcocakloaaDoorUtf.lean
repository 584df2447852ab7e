/-
  Runes in bytes: what 'changeoverref05' says, what going through a text does, what package utf8 does. Plain Lean over the words of 'Prim'.
-/
import Derived.Test.YtlapfdcocakloaaDoorStr
set_option maxRecDepth 20000
namespace Go.Vc

def cont (b : UInt8) : Bool := decide (128 ≤ b.toNat) && decide (b.toNat ≤ 191)
theorem cont_iff {b : UInt8} : cont b = true ↔ b.toNat / 64 = 2 := by
  have := b.toNat_lt
  simp [cont]; omega
theorem cont_not {b : UInt8} : cont b = false ↔ ¬ b.toNat / 64 = 2 := by
  rw [← cont_iff]; simp
def v2 (a b : UInt8) : Nat := 64 * (a.toNat - 192) + (b.toNat - 128)
def v3 (a b c : UInt8) : Nat := 64 * (64 * (a.toNat - 224) + (b.toNat - 128)) + (c.toNat - 128)
def v4 (a b c d : UInt8) : Nat := 64 * (64 * (64 * (a.toNat - 240) + (b.toNat - 128)) + (c.toNat - 128)) + (d.toNat - 128)
/-- How many bytes the first rune has (0: there is none), and the rune. -/
def dec : List UInt8 → Nat × Nat
  | [] => (0, 0)
  | a :: r =>
    if a.toNat < 128 then (1, a.toNat)
    else if a.toNat < 194 then (0, 0)
    else if a.toNat < 224 then
      match r with
      | b :: _ => if cont b = true then (2, v2 a b) else (0, 0)
      | [] => (0, 0)
    else if a.toNat < 240 then
      match r with
      | b :: c :: _ => if cont b = true ∧ cont c = true ∧ 2048 ≤ v3 a b c ∧ (v3 a b c < 55296 ∨ 57343 < v3 a b c) then (3, v3 a b c) else (0, 0)
      | _ => (0, 0)
    else if a.toNat < 245 then
      match r with
      | b :: c :: d :: _ => if cont b = true ∧ cont c = true ∧ cont d = true ∧ 65536 ≤ v4 a b c d ∧ v4 a b c d ≤ 1114111 then (4, v4 a b c d) else (0, 0)
      | _ => (0, 0)
    else (0, 0)

theorem dec_le (l : List UInt8) : (dec l).1 ≤ l.length := by
  match l with
  | [] => simp [dec]
  | a :: r =>
    simp only [dec]
    split
    · simp
    · split
      · simp
      · split
        · split
          · split <;> simp
          · simp
        · split
          · split
            · split <;> simp
            · simp
          · split
            · split
              · split <;> simp
              · simp
            · simp
theorem dec_rune (l : List UInt8) : (dec l).2 ≤ 1114111 := by
  match l with
  | [] => simp [dec]
  | a :: r =>
    have ha := a.toNat_lt
    simp only [dec]
    split
    · dsimp only; omega
    · split
      · simp
      · split
        · split
          · rename_i b _
            have hb := b.toNat_lt
            split
            · dsimp only [v2]; omega
            · simp
          · simp
        · split
          · split
            · rename_i b c _
              have hb := b.toNat_lt
              have hc := c.toNat_lt
              split
              · dsimp only [v3]; omega
              · simp
            · simp
          · split
            · split
              · split
                · dsimp only; omega
                · simp
              · simp
            · simp

/-- The same, with a byte that is no rune's as one rune. -/
def uStep (l : List UInt8) : Nat × Nat := if (dec l).1 = 0 then (65533, 1) else ((dec l).2, (dec l).1)

theorem get_drop (s : List UInt8) (i k : Nat) : (⟨⟨s⟩⟩ : ByteArray).get! (i + k) = ((s.drop i)[k]?).getD default := by
  show (⟨s⟩ : Array UInt8)[i + k]! = _
  rw [List.getElem?_drop]
  simp [getElem!_def]
  cases s[i + k]? <;> rfl
theorem valid_nat (c : Nat) : Utf8.valid (c : Int) = decide (c < 55296 ∨ (57344 ≤ c ∧ c ≤ 1114111)) := by
  unfold Utf8.valid
  by_cases h1 : c < 55296
  · simp [h1]; omega
  · by_cases h2 : 57344 ≤ c ∧ c ≤ 1114111
    · simp [h1, h2]; omega
    · simp [h1, h2]; omega

theorem big_not {v : Nat} (h : 1114111 < v) : ¬ (65536 ≤ v ∧ (v < 55296 ∨ (57344 ≤ v ∧ v ≤ 1114111))) := by omega
/-- What the model's own decoding comes to. -/
theorem decAt_eq {s : List UInt8} {pos : Nat} (h : pos < s.length) : decAt s pos = uStep (s.drop pos) := by
  have key : ∀ k, (pos + k < (⟨⟨s⟩⟩ : ByteArray).size) = (k < (s.drop pos).length) := fun k => by
    rw [ba_size, List.length_drop]
    apply propext
    omega
  have hne : s.drop pos ≠ [] := by intro e; have := congrArg List.length e; simp at this; omega
  unfold decAt Utf8.decode
  simp only [get_drop, key]
  generalize s.drop pos = l at hne
  match l, hne with
  | a :: r, _ =>
    have ha := a.toNat_lt
    simp only [List.getElem?_cons_zero, Option.getD_some, Utf8.runeError, uStep, valid_nat]
    by_cases h1 : a.toNat < 128
    · simp [h1, dec]
    rw [if_neg h1]
    by_cases h2 : a.toNat < 194
    · have e1 : dec (a :: r) = (0, 0) := by simp [dec, h1, h2]
      rw [e1]
      by_cases h3 : a.toNat / 32 = 6
      · match r with
        | [] => simp [h3]
        | b :: t =>
          have hb := b.toNat_lt
          have h4 : ¬ a.toNat / 16 = 14 := by omega
          have h5 : ¬ a.toNat / 8 = 30 := by omega
          simp only [List.getElem?_cons_succ, List.getElem?_cons_zero, Option.getD_some, List.length_cons]
          by_cases h6 : b.toNat / 64 = 2
          · have h7 : ¬ 128 ≤ a.toNat % 32 * 64 + b.toNat % 64 := by omega
            simp [h3, h6, h7]
          · simp [h4, h5, h6]
      · have h4 : ¬ a.toNat / 16 = 14 := by omega
        have h5 : ¬ a.toNat / 8 = 30 := by omega
        simp [h3, h4, h5]
    by_cases h3 : a.toNat < 224
    · have h4 : a.toNat / 32 = 6 := by omega
      have h5 : ¬ a.toNat / 16 = 14 := by omega
      have h6 : ¬ a.toNat / 8 = 30 := by omega
      match r with
      | [] => simp [dec, h1, h2, h3]
      | b :: t =>
        have hb := b.toNat_lt
        simp only [List.getElem?_cons_succ, List.getElem?_cons_zero, Option.getD_some, List.length_cons, dec, h1, h2, h3, if_false, if_true]
        by_cases h7 : b.toNat / 64 = 2
        · have h8 : cont b = true := cont_iff.2 h7
          have h9 : a.toNat % 32 * 64 + b.toNat % 64 = v2 a b := by unfold v2; omega
          have h10 : 128 ≤ v2 a b := by unfold v2; omega
          simp [h4, h7, h8, h9, h10]
        · have h8 : cont b = false := cont_not.2 h7
          simp [h5, h6, h7, h8]
    by_cases h4 : a.toNat < 240
    · have h5 : a.toNat / 16 = 14 := by omega
      have h6 : ¬ a.toNat / 32 = 6 := by omega
      have h7 : ¬ a.toNat / 8 = 30 := by omega
      match r with
      | [] => simp [dec, h1, h2, h3, h4]
      | [b] => simp [dec, h1, h2, h3, h4, h6]
      | b :: c :: t =>
        have hb := b.toNat_lt
        have hc := c.toNat_lt
        simp only [List.getElem?_cons_succ, List.getElem?_cons_zero, Option.getD_some, List.length_cons, dec, h1, h2, h3, h4, if_false, if_true]
        by_cases h8 : b.toNat / 64 = 2
        · have h8' : cont b = true := cont_iff.2 h8
          by_cases h9 : c.toNat / 64 = 2
          · have h9' : cont c = true := cont_iff.2 h9
            have h10 : a.toNat % 16 * 4096 + b.toNat % 64 * 64 + c.toNat % 64 = v3 a b c := by unfold v3; omega
            have h11 : v3 a b c < 65536 := by unfold v3; omega
            simp only [h5, h8, h9, h8', h9', h10]
            by_cases h12 : 2048 ≤ v3 a b c ∧ (v3 a b c < 55296 ∨ 57343 < v3 a b c)
            · have h13 : v3 a b c < 55296 ∨ (57344 ≤ v3 a b c ∧ v3 a b c ≤ 1114111) := by omega
              simp [h6, h12, h13]
            · have h13 : ¬ (2048 ≤ v3 a b c ∧ (v3 a b c < 55296 ∨ (57344 ≤ v3 a b c ∧ v3 a b c ≤ 1114111))) := by omega
              simp [h6, h12, h13]
          · have h9' : cont c = false := cont_not.2 h9
            simp [h6, h7, h9, h9']
        · have h8' : cont b = false := cont_not.2 h8
          simp [h6, h7, h8, h8']
    · have h5 : ¬ a.toNat / 16 = 14 := by omega
      have h6 : ¬ a.toNat / 32 = 6 := by omega
      by_cases h7 : a.toNat < 245
      · have h8 : a.toNat / 8 = 30 := by omega
        match r with
        | [] => simp [dec, h1, h2, h3, h4, h7]
        | [b] => simp [dec, h1, h2, h3, h4, h6, h7]
        | [b, c] => simp [dec, h1, h2, h3, h4, h5, h6, h7]
        | b :: c :: d :: t =>
          have hb := b.toNat_lt
          have hc := c.toNat_lt
          have hd := d.toNat_lt
          simp only [List.getElem?_cons_succ, List.getElem?_cons_zero, Option.getD_some, List.length_cons, dec, h1, h2, h3, h4, h7, if_false, if_true]
          by_cases h9 : b.toNat / 64 = 2
          · have h9' : cont b = true := cont_iff.2 h9
            by_cases h10 : c.toNat / 64 = 2
            · have h10' : cont c = true := cont_iff.2 h10
              by_cases h11 : d.toNat / 64 = 2
              · have h11' : cont d = true := cont_iff.2 h11
                have h12 : a.toNat % 8 * 262144 + b.toNat % 64 * 4096 + c.toNat % 64 * 64 + d.toNat % 64 = v4 a b c d := by unfold v4; omega
                simp only [h8, h9, h10, h11, h9', h10', h11', h12]
                by_cases h13 : 65536 ≤ v4 a b c d ∧ v4 a b c d ≤ 1114111
                · have h14 : v4 a b c d < 55296 ∨ (57344 ≤ v4 a b c d ∧ v4 a b c d ≤ 1114111) := by omega
                  simp [h5, h6, h13]
                  omega
                · have h14 : ¬ (65536 ≤ v4 a b c d ∧ (v4 a b c d < 55296 ∨ (57344 ≤ v4 a b c d ∧ v4 a b c d ≤ 1114111))) := by omega
                  simp [h5, h6, h13, h14]
              · have h11' : cont d = false := cont_not.2 h11
                simp [h5, h6, h11, h11']
            · have h10' : cont c = false := cont_not.2 h10
              simp [h5, h6, h10, h10']
          · have h9' : cont b = false := cont_not.2 h9
            simp [h5, h6, h9, h9']
      · have e1 : dec (a :: r) = (0, 0) := by simp [dec, h1, h2, h3, h4, h7]
        rw [e1]
        by_cases h8 : a.toNat / 8 = 30
        · match r with
          | [] => simp
          | [b] => simp [h6]
          | [b, c] => simp [h5, h6]
          | b :: c :: d :: t =>
            have hb := b.toNat_lt
            have hc := c.toNat_lt
            have hd := d.toNat_lt
            simp only [List.getElem?_cons_succ, List.getElem?_cons_zero, Option.getD_some, List.length_cons]
            have h12 : 1114111 < a.toNat % 8 * 262144 + b.toNat % 64 * 4096 + c.toNat % 64 * 64 + d.toNat % 64 := by
              have h13 : 5 ≤ a.toNat % 8 := by omega
              have h14 : 1310720 ≤ a.toNat % 8 * 262144 := by omega
              omega
            have h15 := big_not h12
            simp [h5, h6, h15]
        · simp [h5, h6, h8]
theorem uStep_pos (l : List UInt8) : 0 < (uStep l).2 := by
  unfold uStep
  split
  · simp
  · simp; omega
theorem uStep_le {l : List UInt8} (h : l ≠ []) : (uStep l).2 ≤ l.length := by
  unfold uStep
  split
  · have := List.length_pos_iff.2 h
    simp; omega
  · exact dec_le l
theorem uStep_rune (l : List UInt8) : (uStep l).1 ≤ 1114111 := by
  unfold uStep
  split
  · simp
  · exact dec_rune l
end Go.Vc
