/-
  Texts rune by rune: the first bad place, whether all runes are so, how many there are, the first ones, small letters. Plain Lean.
-/
import Derived.Test.YtlapfdcocakloaaDoorUtf
set_option maxRecDepth 20000
set_option linter.unusedVariables false
namespace Go.Vc

def badFrom (s : List UInt8) (i : Nat) : Int :=
  if h : i < s.length then (if h0 : (dec (s.drop i)).1 = 0 then (i : Int) else badFrom s (i + (dec (s.drop i)).1)) else -1
termination_by s.length - i
decreasing_by omega
def allFrom (p : Nat → Bool) (s : List UInt8) (i : Nat) : Bool :=
  if h : i < s.length then p (uStep (s.drop i)).1 && allFrom p s (i + (uStep (s.drop i)).2) else true
termination_by s.length - i
decreasing_by have := uStep_pos (s.drop i); omega
def countFrom (s : List UInt8) (i : Nat) : Nat :=
  if h : i < s.length then 1 + countFrom s (i + (uStep (s.drop i)).2) else 0
termination_by s.length - i
decreasing_by have := uStep_pos (s.drop i); omega
def cutFrom (s : List UInt8) (n : Int) (i : Nat) : Nat :=
  if h : i < s.length ∧ 0 < n then cutFrom s (n - 1) (i + (uStep (s.drop i)).2) else i
termination_by s.length - i
decreasing_by have := uStep_pos (s.drop i); omega

theorem badFrom_end {s : List UInt8} {i : Nat} (h : ¬ i < s.length) : badFrom s i = -1 := by rw [badFrom, dif_neg h]
theorem badFrom_bad {s : List UInt8} {i : Nat} (h : i < s.length) (h0 : (dec (s.drop i)).1 = 0) : badFrom s i = i := by rw [badFrom, dif_pos h, dif_pos h0]
theorem badFrom_on {s : List UInt8} {i : Nat} (h : i < s.length) (h0 : (dec (s.drop i)).1 ≠ 0) : badFrom s i = badFrom s (i + (dec (s.drop i)).1) := by
  conv => lhs; rw [badFrom, dif_pos h, dif_neg h0]
theorem allFrom_end {p : Nat → Bool} {s : List UInt8} {i : Nat} (h : ¬ i < s.length) : allFrom p s i = true := by rw [allFrom, dif_neg h]
theorem allFrom_on {p : Nat → Bool} {s : List UInt8} {i : Nat} (h : i < s.length) : allFrom p s i = (p (uStep (s.drop i)).1 && allFrom p s (i + (uStep (s.drop i)).2)) := by
  conv => lhs; rw [allFrom, dif_pos h]
theorem countFrom_end {s : List UInt8} {i : Nat} (h : ¬ i < s.length) : countFrom s i = 0 := by rw [countFrom, dif_neg h]
theorem countFrom_on {s : List UInt8} {i : Nat} (h : i < s.length) : countFrom s i = 1 + countFrom s (i + (uStep (s.drop i)).2) := by
  conv => lhs; rw [countFrom, dif_pos h]
theorem cutFrom_end {s : List UInt8} {n : Int} {i : Nat} (h : ¬ (i < s.length ∧ 0 < n)) : cutFrom s n i = i := by rw [cutFrom, dif_neg h]
theorem cutFrom_on {s : List UInt8} {n : Int} {i : Nat} (h : i < s.length ∧ 0 < n) : cutFrom s n i = cutFrom s (n - 1) (i + (uStep (s.drop i)).2) := by
  conv => lhs; rw [cutFrom, dif_pos h]
theorem drop_ne {s : List UInt8} {i : Nat} (h : i < s.length) : s.drop i ≠ [] := by intro e; have := congrArg List.length e; simp at this; omega
theorem step_on {s : List UInt8} {i : Nat} (h : i < s.length) : i + (uStep (s.drop i)).2 ≤ s.length := by
  have := uStep_le (drop_ne h)
  rw [List.length_drop] at this
  omega
theorem uStep_good {l : List UInt8} (h : (dec l).1 ≠ 0) : uStep l = ((dec l).2, (dec l).1) := by unfold uStep; rw [if_neg h]
theorem uStep_bad {l : List UInt8} (h : (dec l).1 = 0) : uStep l = (65533, 1) := by unfold uStep; rw [if_pos h]

/-- The head of a text: a small byte is a rune of its own; a longer rune has great bytes alone. -/
theorem dec_small {a : UInt8} {r : List UInt8} (h : a.toNat < 128) : dec (a :: r) = (1, a.toNat) := by simp [dec, h]
theorem dec_one {l : List UInt8} (h : (dec l).1 = 1) : ∃ a r, l = a :: r ∧ a.toNat < 128 ∧ (dec l).2 = a.toNat := by
  match l with
  | [] => simp [dec] at h
  | a :: r =>
    by_cases h1 : a.toNat < 128
    · exact ⟨a, r, rfl, h1, by rw [dec_small h1]⟩
    · exfalso
      simp only [dec, h1, if_false] at h
      split at h
      · simp at h
      · split at h
        · split at h
          · split at h <;> simp at h
          · simp at h
        · split at h
          · split at h
            · split at h <;> simp at h
            · simp at h
          · split at h
            · split at h
              · split at h <;> simp at h
              · simp at h
            · simp at h
theorem dec_great {l : List UInt8} (h : 2 ≤ (dec l).1) : (∀ b ∈ l.take (dec l).1, 128 ≤ b.toNat) ∧ 128 ≤ (dec l).2 := by
  match l with
  | [] => simp [dec] at h
  | a :: r =>
    by_cases h1 : a.toNat < 128
    · rw [dec_small h1] at h; simp at h
    · by_cases h2 : a.toNat < 194
      · simp [dec, h1, h2] at h
      · by_cases h3 : a.toNat < 224
        · match r with
          | [] => simp [dec, h1, h2, h3] at h
          | b :: t =>
            simp only [dec, h1, h2, h3, if_false, if_true] at h ⊢
            split at h
            · rename_i hc
              rw [if_pos hc]
              simp only [cont, Bool.and_eq_true, decide_eq_true_eq] at hc
              refine ⟨?_, by dsimp only [v2]; omega⟩
              intro x hx
              simp at hx
              rcases hx with rfl | rfl <;> omega
            · simp at h
        · by_cases h4 : a.toNat < 240
          · match r with
            | [] => simp [dec, h1, h2, h3, h4] at h
            | [_] => simp [dec, h1, h2, h3, h4] at h
            | b :: c :: t =>
              simp only [dec, h1, h2, h3, h4, if_false, if_true] at h ⊢
              split at h
              · rename_i hc
                rw [if_pos hc]
                obtain ⟨g1, g2, g3, _⟩ := hc
                simp only [cont, Bool.and_eq_true, decide_eq_true_eq] at g1 g2
                refine ⟨?_, by dsimp only; omega⟩
                intro x hx
                simp at hx
                rcases hx with rfl | rfl | rfl <;> omega
              · simp at h
          · by_cases h5 : a.toNat < 245
            · match r with
              | [] => simp [dec, h1, h2, h3, h4, h5] at h
              | [_] => simp [dec, h1, h2, h3, h4, h5] at h
              | [_, _] => simp [dec, h1, h2, h3, h4, h5] at h
              | b :: c :: d :: t =>
                simp only [dec, h1, h2, h3, h4, h5, if_false, if_true] at h ⊢
                split at h
                · rename_i hc
                  rw [if_pos hc]
                  obtain ⟨g1, g2, g3, g4, _⟩ := hc
                  simp only [cont, Bool.and_eq_true, decide_eq_true_eq] at g1 g2 g3
                  refine ⟨?_, by dsimp only; omega⟩
                  intro x hx
                  simp at hx
                  rcases hx with rfl | rfl | rfl | rfl <;> omega
                · simp at h
            · simp [dec, h1, h2, h3, h4, h5] at h
theorem dec_none {a : UInt8} {r : List UInt8} (h : (dec (a :: r)).1 = 0) : 128 ≤ a.toNat := by
  by_cases h1 : a.toNat < 128
  · rw [dec_small h1] at h; simp at h
  · omega

/-- What a step goes over: one small byte that is the rune, or great bytes alone, the rune being great. -/
theorem step_parts {s : List UInt8} {i : Nat} (h : i < s.length) : ((uStep (s.drop i)).2 = 1 ∧ s[i].toNat < 128 ∧ (uStep (s.drop i)).1 = s[i].toNat) ∨
    ((∀ b ∈ (s.drop i).take (uStep (s.drop i)).2, 128 ≤ b.toNat) ∧ 128 ≤ (uStep (s.drop i)).1) := by
  have hd : s.drop i = s[i] :: s.drop (i + 1) := List.drop_eq_getElem_cons h
  by_cases h0 : (dec (s.drop i)).1 = 0
  · refine .inr ?_
    rw [uStep_bad h0]
    refine ⟨fun b hb => ?_, by decide⟩
    rw [hd] at h0
    have hb' : b ∈ (s[i] :: s.drop (i + 1)).take 1 := by rw [← hd]; exact hb
    have : b = s[i] := by
      rw [List.take_succ_cons, List.take_zero] at hb'
      exact List.mem_singleton.1 hb'
    rw [this]
    exact dec_none h0
  · rw [uStep_good h0]
    by_cases h1 : (dec (s.drop i)).1 = 1
    · obtain ⟨a, r, e1, e2, e3⟩ := dec_one h1
      have : s[i] = a := by rw [hd] at e1; cases e1; rfl
      exact .inl ⟨h1, by rw [this]; exact e2, by rw [this]; exact e3⟩
    · exact .inr (dec_great (by omega))

/-! ### Whole texts -/
/-- A text of which each rune is so, and that is whole. -/
def keyFrom (p : Nat → Bool) (s : List UInt8) (i : Nat) : Bool := decide (badFrom s i < 0) && allFrom p s i
theorem keyFrom_end {p : Nat → Bool} {s : List UInt8} {i : Nat} (h : ¬ i < s.length) : keyFrom p s i = true := by
  unfold keyFrom; rw [badFrom_end h, allFrom_end h]; rfl
theorem keyFrom_bad {p : Nat → Bool} {s : List UInt8} {i : Nat} (h : i < s.length) (h0 : (dec (s.drop i)).1 = 0) : keyFrom p s i = false := by
  unfold keyFrom; rw [badFrom_bad h h0]; simp; omega
theorem keyFrom_on {p : Nat → Bool} {s : List UInt8} {i : Nat} (h : i < s.length) (h0 : (dec (s.drop i)).1 ≠ 0) : keyFrom p s i = (p (dec (s.drop i)).2 && keyFrom p s (i + (dec (s.drop i)).1)) := by
  unfold keyFrom; rw [badFrom_on h h0, allFrom_on h, uStep_good h0]
  cases p (dec (s.drop i)).2 <;> cases decide (badFrom s (i + (dec (s.drop i)).1) < 0) <;> simp

theorem badFrom_ge (s : List UInt8) (i : Nat) : badFrom s i = -1 ∨ (i : Int) ≤ badFrom s i := by
  fun_induction badFrom s i with
  | case1 => right; omega
  | case2 i h h0 ih => rcases ih with e | e <;> omega
  | case3 => left; rfl

/-- Of a whole text: each byte is so just if each rune is so, for what says nothing of great ones. -/
theorem bytes_runes {p : Nat → Bool} (hp : ∀ n, 128 ≤ n → p n = true) (s : List UInt8) (i : Nat) : (∀ b ∈ s.drop i, p b.toNat = true) ↔ allFrom p s i = true := by
  fun_induction allFrom p s i with
  | case1 i h ih =>
    have hle := step_on h
    have hsplit : s.drop i = (s.drop i).take (uStep (s.drop i)).2 ++ s.drop (i + (uStep (s.drop i)).2) := by rw [← List.drop_drop, List.take_append_drop]
    have e1 : (∀ b ∈ s.drop i, p b.toNat = true) ↔ (∀ b ∈ (s.drop i).take (uStep (s.drop i)).2, p b.toNat = true) ∧ ∀ b ∈ s.drop (i + (uStep (s.drop i)).2), p b.toNat = true := by
      conv => lhs; rw [hsplit]
      simp only [List.mem_append]
      constructor
      · exact fun hb => ⟨fun b h1 => hb b (.inl h1), fun b h1 => hb b (.inr h1)⟩
      · rintro ⟨h1, h2⟩ b (hb | hb)
        · exact h1 b hb
        · exact h2 b hb
    rw [e1, ih, Bool.and_eq_true]
    refine and_congr_left fun _ => ?_
    rcases step_parts h with ⟨h1, h2, h3⟩ | ⟨h1, h2⟩
    · rw [h1, h3]
      have : (s.drop i).take 1 = [s[i]] := by rw [List.drop_eq_getElem_cons h]; rfl
      rw [this]
      simp
    · constructor
      · exact fun _ => hp _ h2
      · exact fun _ b hb => hp _ (h1 b hb)
  | case2 i h =>
    simp only [iff_true]
    intro b hb
    rw [List.drop_of_length_le (by omega)] at hb
    cases hb

/-! ### Small letters -/
def lowB (b : UInt8) : UInt8 := if 65 ≤ b.toNat ∧ b.toNat ≤ 90 then b8 (b.toNat + 32) else b
theorem lowB_nat (b : UInt8) : (lowB b).toNat = if 65 ≤ b.toNat ∧ b.toNat ≤ 90 then b.toNat + 32 else b.toNat := by
  unfold lowB
  split
  · rw [b8_toNat (by omega)]
  · rfl
theorem lowB_low (b : UInt8) : lowB (lowB b) = lowB b := by
  apply UInt8.toNat_inj.1
  have h := lowB_nat b
  rw [lowB_nat (lowB b), h]
  split
  · rw [if_neg (by omega)]
  · rfl
theorem lowB_great {b : UInt8} (h : 128 ≤ b.toNat) : lowB b = b := by
  unfold lowB; rw [if_neg (by omega)]
theorem lowB_lt {b : UInt8} (h : b.toNat < 128) : (lowB b).toNat < 128 := by
  rw [lowB_nat]; split <;> omega
theorem lowB_cont (b : UInt8) : cont (lowB b) = cont b := by
  by_cases h : 128 ≤ b.toNat
  · rw [lowB_great h]
  · have := lowB_lt (b := b) (by omega)
    have e1 : cont (lowB b) = false := by simp [cont]; omega
    have e2 : cont b = false := by simp [cont]; omega
    rw [e1, e2]
theorem cont_great {b : UInt8} (h : cont b = true) : lowB b = b := by
  simp only [cont, Bool.and_eq_true, decide_eq_true_eq] at h
  exact lowB_great h.1
theorem dec_low (l : List UInt8) : (dec (l.map lowB)).1 = (dec l).1 := by
  match l with
  | [] => rfl
  | a :: r =>
    by_cases h1 : a.toNat < 128
    · rw [List.map_cons, dec_small h1, dec_small (lowB_lt h1)]
    · rw [List.map_cons, lowB_great (by omega)]
      simp only [dec, h1, if_false]
      split
      · rfl
      · split
        · match r with
          | [] => rfl
          | b :: t =>
            simp only [List.map_cons, lowB_cont]
            by_cases hb : cont b = true
            · simp [hb]
            · simp [hb]
        · split
          · match r with
            | [] => rfl
            | [b] => rfl
            | b :: c :: t =>
              simp only [List.map_cons, lowB_cont]
              by_cases hb : cont b = true
              · by_cases hc : cont c = true
                · rw [cont_great hb, cont_great hc]
                · simp [hc]
              · simp [hb]
          · split
            · match r with
              | [] => rfl
              | [b] => rfl
              | [b, c] => rfl
              | b :: c :: d :: t =>
                simp only [List.map_cons, lowB_cont]
                by_cases hb : cont b = true
                · by_cases hc : cont c = true
                  · by_cases hd : cont d = true
                    · rw [cont_great hb, cont_great hc, cont_great hd]
                    · simp [hd]
                  · simp [hc]
                · simp [hb]
            · rfl
theorem badFrom_low (s : List UInt8) (i : Nat) : badFrom (s.map lowB) i = badFrom s i := by
  fun_induction badFrom s i with
  | case1 i h h0 => exact badFrom_bad (by simpa using h) (by rw [← List.map_drop, dec_low]; exact h0)
  | case2 i h h0 ih =>
    rw [badFrom_on (by simpa using h) (by rw [← List.map_drop, dec_low]; exact h0), ← List.map_drop, dec_low]
    exact ih
  | case3 i h => exact badFrom_end (by simpa using h)
theorem cutFrom_all {s : List UInt8} {n : Int} {i : Nat} (hi : i ≤ s.length) (h : ((s.length - i : Nat) : Int) ≤ n) : cutFrom s n i = s.length := by
  fun_induction cutFrom s n i with
  | case1 n i hc ih =>
    have := step_on hc.1
    have := uStep_pos (s.drop i)
    exact ih (by omega) (by omega)
  | case2 n i hc => omega
theorem cutFrom_le {s : List UInt8} {n : Int} {i : Nat} (hi : i ≤ s.length) : cutFrom s n i ≤ s.length := by
  fun_induction cutFrom s n i with
  | case1 n i hc ih => exact ih (step_on hc.1)
  | case2 n i hc => exact hi

/-! ### A rune's bytes, one by one -/
def Row (a n low v0 : Nat) : Prop := (194 ≤ a ∧ a < 224 ∧ n = 2 ∧ low = 128 ∧ v0 = a - 192) ∨ (224 ≤ a ∧ a < 240 ∧ n = 3 ∧ low = 2048 ∧ v0 = a - 224) ∨ (240 ≤ a ∧ a < 245 ∧ n = 4 ∧ low = 65536 ∧ v0 = a - 240)
def pv1 (v : Nat) (b : UInt8) : Nat := 64 * v + (b.toNat - 128)
def pv (v : Nat) (l : List UInt8) : Nat := l.foldl pv1 v
theorem pv_snoc (l : List UInt8) (v : Nat) (b : UInt8) : pv v (l ++ [b]) = 64 * pv v l + (b.toNat - 128) := by
  unfold pv
  rw [List.foldl_append]
  rfl
theorem dec_short {a : UInt8} {r : List UInt8} {n low v0 : Nat} (h : Row a.toNat n low v0) (hr : r.length + 1 < n) : dec (a :: r) = (0, 0) := by
  rcases h with ⟨h1, h2, rfl, rfl, rfl⟩ | ⟨h1, h2, rfl, rfl, rfl⟩ | ⟨h1, h2, rfl, rfl, rfl⟩
  · match r, hr with
    | [], _ => simp [dec, show ¬ a.toNat < 128 by omega, show ¬ a.toNat < 194 by omega, h2]
    | _ :: _, hr => simp at hr; omega
  · match r, hr with
    | [], _ => simp [dec, show ¬ a.toNat < 128 by omega, show ¬ a.toNat < 194 by omega, show ¬ a.toNat < 224 by omega, h2]
    | [_], _ => simp [dec, show ¬ a.toNat < 128 by omega, show ¬ a.toNat < 194 by omega, show ¬ a.toNat < 224 by omega, h2]
    | _ :: _ :: _, hr => simp at hr; omega
  · match r, hr with
    | [], _ => simp [dec, show ¬ a.toNat < 128 by omega, show ¬ a.toNat < 194 by omega, show ¬ a.toNat < 224 by omega, show ¬ a.toNat < 240 by omega, h2]
    | [_], _ => simp [dec, show ¬ a.toNat < 128 by omega, show ¬ a.toNat < 194 by omega, show ¬ a.toNat < 224 by omega, show ¬ a.toNat < 240 by omega, h2]
    | [_, _], _ => simp [dec, show ¬ a.toNat < 128 by omega, show ¬ a.toNat < 194 by omega, show ¬ a.toNat < 224 by omega, show ¬ a.toNat < 240 by omega, h2]
    | _ :: _ :: _ :: _, hr => simp at hr; omega
theorem dec_row {a : UInt8} {r : List UInt8} {n low v0 : Nat} (h : Row a.toNat n low v0) (hr : n ≤ r.length + 1) :
    dec (a :: r) = if (∀ b ∈ r.take (n - 1), cont b = true) ∧ low ≤ pv v0 (r.take (n - 1)) ∧ pv v0 (r.take (n - 1)) ≤ 1114111 ∧ (pv v0 (r.take (n - 1)) < 55296 ∨ 57343 < pv v0 (r.take (n - 1))) then (n, pv v0 (r.take (n - 1))) else (0, 0) := by
  have ha := a.toNat_lt
  rcases h with ⟨h1, h2, rfl, rfl, rfl⟩ | ⟨h1, h2, rfl, rfl, rfl⟩ | ⟨h1, h2, rfl, rfl, rfl⟩
  · match r, hr with
    | b :: t, _ =>
      have hb := b.toNat_lt
      simp only [dec, show ¬ a.toNat < 128 by omega, show ¬ a.toNat < 194 by omega, h2, if_false, if_true]
      have e : (b :: t).take (2 - 1) = [b] := rfl
      rw [e]
      have e2 : pv (a.toNat - 192) [b] = v2 a b := rfl
      rw [e2]
      simp only [List.mem_singleton, forall_eq]
      by_cases hc : cont b = true
      · have hc' := hc
        simp only [cont, Bool.and_eq_true, decide_eq_true_eq] at hc'
        rw [if_pos hc, if_pos ⟨hc, by unfold v2; omega, by unfold v2; omega, by unfold v2; omega⟩]
      · rw [if_neg hc, if_neg (fun h => hc h.1)]
  · match r, hr with
    | b :: c :: t, _ =>
      have hb := b.toNat_lt
      have hcc := c.toNat_lt
      simp only [dec, show ¬ a.toNat < 128 by omega, show ¬ a.toNat < 194 by omega, show ¬ a.toNat < 224 by omega, h2, if_false, if_true]
      have e : (b :: c :: t).take (3 - 1) = [b, c] := rfl
      rw [e]
      have e2 : pv (a.toNat - 224) [b, c] = v3 a b c := rfl
      rw [e2]
      have e3 : (∀ x ∈ [b, c], cont x = true) ↔ cont b = true ∧ cont c = true := by simp
      have hv : v3 a b c ≤ 1114111 := by unfold v3; omega
      by_cases hx : cont b = true ∧ cont c = true ∧ 2048 ≤ v3 a b c ∧ (v3 a b c < 55296 ∨ 57343 < v3 a b c)
      · rw [if_pos hx, if_pos ⟨e3.2 ⟨hx.1, hx.2.1⟩, hx.2.2.1, hv, hx.2.2.2⟩]
      · rw [if_neg hx, if_neg (fun h => hx ⟨(e3.1 h.1).1, (e3.1 h.1).2, h.2.1, h.2.2.2⟩)]
  · match r, hr with
    | b :: c :: d :: t, _ =>
      have hb := b.toNat_lt
      simp only [dec, show ¬ a.toNat < 128 by omega, show ¬ a.toNat < 194 by omega, show ¬ a.toNat < 224 by omega, show ¬ a.toNat < 240 by omega, h2, if_false, if_true]
      have e : (b :: c :: d :: t).take (4 - 1) = [b, c, d] := rfl
      rw [e]
      have e2 : pv (a.toNat - 240) [b, c, d] = v4 a b c d := rfl
      rw [e2]
      have e3 : (∀ x ∈ [b, c, d], cont x = true) ↔ cont b = true ∧ cont c = true ∧ cont d = true := by simp
      by_cases hx : cont b = true ∧ cont c = true ∧ cont d = true ∧ 65536 ≤ v4 a b c d ∧ v4 a b c d ≤ 1114111
      · rw [if_pos hx, if_pos ⟨e3.2 ⟨hx.1, hx.2.1, hx.2.2.1⟩, hx.2.2.2.1, hx.2.2.2.2, by omega⟩]
      · rw [if_neg hx, if_neg (fun h => hx ⟨(e3.1 h.1).1, (e3.1 h.1).2.1, (e3.1 h.1).2.2, h.2.1, h.2.2.1⟩)]
theorem dec_else {a : UInt8} {r : List UInt8} (h : ¬ a.toNat < 128) (h1 : a.toNat < 194 ∨ 245 ≤ a.toNat) : dec (a :: r) = (0, 0) := by
  simp only [dec, h, if_false]
  rcases h1 with h1 | h1
  · rw [if_pos h1]
  · rw [if_neg (by omega), if_neg (by omega), if_neg (by omega), if_neg (by omega)]
theorem pv_le {a n low v0 : Nat} (h : Row a n low v0) (l : List UInt8) (hl : l.length ≤ 3) : pv v0 l ≤ 33554432 := by
  have h0 : v0 ≤ 31 := by rcases h with ⟨_, _, _, _, _⟩ | ⟨_, _, _, _, _⟩ | ⟨_, _, _, _, _⟩ <;> omega
  match l, hl with
  | [], _ => simp only [pv, List.foldl]; omega
  | [b], _ => have := b.toNat_lt; simp only [pv, pv1, List.foldl]; omega
  | [b, c], _ => have := b.toNat_lt; have := c.toNat_lt; simp only [pv, pv1, List.foldl]; omega
  | [b, c, d], _ => have := b.toNat_lt; have := c.toNat_lt; have := d.toNat_lt; simp only [pv, pv1, List.foldl]; omega

/-! ### Going through a text -/
variable {α β : Type} {P : Program} {w : World}
def itPos (w : World) (a : Addr) : Nat := match w.heap[a.block]? with | some (.stringIter _ p) => p | _ => 0
theorem ItAt.pos {a : Addr} {s : List UInt8} {pos : Nat} (h : ItAt w a s pos) : itPos w a = pos := by unfold itPos; rw [h.2]
theorem runes0 {a : Addr} {s : List UInt8} {body : (World → Prop) → World → Prop} (J : Nat → World → Prop) (h0 : J 0 w) (hit : ItAt w a s 0)
    (hstep : ∀ (pos : Nat) (w' : World) (C : World → Prop), pos ≤ s.length → J pos w' → ItAt w' a s pos → (∀ (pos' : Nat) w'', pos < pos' → pos' ≤ s.length → J pos' w'' → ItAt w'' a s pos' → C w'') → body C w') : loop0 body w := by
  refine ⟨fun w' => ∃ pos, pos ≤ s.length ∧ J pos w' ∧ ItAt w' a s pos, fun w' => s.length - itPos w' a, ⟨0, by omega, h0, hit⟩, ?_⟩
  rintro w' ⟨pos, hp, hJ, hi⟩
  refine hstep pos w' _ hp hJ hi fun pos' w'' h1 h2 h3 h4 => ⟨⟨pos', h2, h3, h4⟩, ?_⟩
  dsimp only
  rw [hi.pos, h4.pos]; omega
theorem runes1 {b : β} {a : Addr} {s : List UInt8} {body : β → (β → World → Prop) → World → Prop} (J : Nat → β → World → Prop) (h0 : J 0 b w) (hit : ItAt w a s 0)
    (hstep : ∀ (pos : Nat) (b' : β) (w' : World) (C : β → World → Prop), pos ≤ s.length → J pos b' w' → ItAt w' a s pos → (∀ (pos' : Nat) b'' w'', pos < pos' → pos' ≤ s.length → J pos' b'' w'' → ItAt w'' a s pos' → C b'' w'') → body b' C w') : loop1 b body w := by
  refine ⟨fun b' w' => ∃ pos, pos ≤ s.length ∧ J pos b' w' ∧ ItAt w' a s pos, fun _ w' => s.length - itPos w' a, ⟨0, by omega, h0, hit⟩, ?_⟩
  rintro b' w' ⟨pos, hp, hJ, hi⟩
  refine hstep pos b' w' _ hp hJ hi fun pos' b'' w'' h1 h2 h3 h4 => ⟨⟨pos', h2, h3, h4⟩, ?_⟩
  dsimp only
  rw [hi.pos, h4.pos]; omega
/-- The next rune, by 'uStep'. -/
theorem next_st {a : Addr} {s : List UInt8} {pos : Nat} {K1 : Int × Int → World → Prop} {K2 : Unit → World → Prop} (h : ItAt w a s pos)
    (h1 : pos < s.length → ∀ w', Wr a.block w w' → ItAt w' a s (pos + (uStep (s.drop pos)).2) → K1 ((pos : Int), ((uStep (s.drop pos)).1 : Int)) w') (h2 : ¬ pos < s.length → K2 () w) :
    opAl P (Instr.next (.pointer (some a)) true 0) (nxval (Value.int .i64) (Value.int .i32)) endval K1 K2 w :=
  next_al h (fun hp w' hw hi => by
    have := h1 hp w' hw
    rw [← decAt_eq hp] at this
    exact this hi) h2

/-! ### Texts of small bytes -/
theorem ascii_dec {s : List UInt8} (h : ∀ b ∈ s, b.toNat < 128) {i : Nat} (hi : i < s.length) : dec (s.drop i) = (1, s[i].toNat) := by
  rw [List.drop_eq_getElem_cons hi, dec_small (h _ (List.getElem_mem hi))]
theorem ascii_bad {s : List UInt8} (h : ∀ b ∈ s, b.toNat < 128) (i : Nat) : badFrom s i = -1 := by
  fun_induction badFrom s i with
  | case1 i hi h0 => rw [ascii_dec h hi] at h0; cases h0
  | case2 i hi h0 ih => exact ih
  | case3 i hi => rfl
theorem ascii_all {p : Nat → Bool} {s : List UInt8} (h : ∀ b ∈ s, b.toNat < 128) (i : Nat) : allFrom p s i = (s.drop i).all fun b => p b.toNat := by
  fun_induction allFrom p s i with
  | case1 i hi ih =>
    have e := ascii_dec h hi
    have e2 : uStep (s.drop i) = (s[i].toNat, 1) := by rw [uStep_good (by rw [e]; simp), e]
    rw [e2] at ih ⊢
    rw [ih, List.drop_eq_getElem_cons hi, List.all_cons]
  | case2 i hi => rw [List.drop_of_length_le (by omega)]; rfl
theorem ascii_count {s : List UInt8} (h : ∀ b ∈ s, b.toNat < 128) (i : Nat) : countFrom s i = s.length - i := by
  fun_induction countFrom s i with
  | case1 i hi ih =>
    have e := ascii_dec h hi
    have e2 : uStep (s.drop i) = (s[i].toNat, 1) := by rw [uStep_good (by rw [e]; simp), e]
    rw [e2] at ih ⊢
    rw [ih]
    dsimp only
    omega
  | case2 i hi => omega
theorem ascii_key {p : Nat → Bool} {s : List UInt8} (h : ∀ b ∈ s, b.toNat < 128) : keyFrom p s 0 = s.all fun b => p b.toNat := by
  unfold keyFrom
  rw [ascii_bad h, ascii_all h]
  simp
theorem low_step {s : List UInt8} {i : Nat} (h : i < s.length) : (s.take (i + (uStep (s.drop i)).2)).map lowB ++ s.drop (i + (uStep (s.drop i)).2) =
    if 65 ≤ (uStep (s.drop i)).1 ∧ (uStep (s.drop i)).1 ≤ 90 then ((s.take i).map lowB ++ s.drop i).set i (b8 ((uStep (s.drop i)).1 + 32)) else (s.take i).map lowB ++ s.drop i := by
  have hon := step_on h
  have e1 : s.take (i + (uStep (s.drop i)).2) = s.take i ++ (s.drop i).take (uStep (s.drop i)).2 := List.take_add
  have hlen : ((s.take i).map lowB).length = i := by simp; omega
  rcases step_parts h with ⟨h1, h2, h3⟩ | ⟨h1, h2⟩
  · rw [e1, h1, h3]
    have hd : s.drop i = s[i] :: s.drop (i + 1) := List.drop_eq_getElem_cons h
    have ht : (s.drop i).take 1 = [s[i]] := by rw [hd]; rfl
    rw [ht, List.map_append]
    split
    · rename_i hc
      rw [List.set_append_right _ _ (by omega), hlen, Nat.sub_self]
      have : lowB s[i] = b8 (s[i].toNat + 32) := by unfold lowB; rw [if_pos hc]
      have e5 : (s.drop i).set 0 (b8 (s[i].toNat + 32)) = b8 (s[i].toNat + 32) :: s.drop (i + 1) := by rw [hd]; rfl
      rw [e5]
      simp [this]
    · rename_i hc
      conv => rhs; rw [hd]
      have : lowB s[i] = s[i] := by unfold lowB; rw [if_neg hc]
      simp [this]
  · rw [if_neg (by omega), e1, List.map_append]
    have : ((s.drop i).take (uStep (s.drop i)).2).map lowB = (s.drop i).take (uStep (s.drop i)).2 := by
      conv => rhs; rw [← List.map_id ((s.drop i).take _)]
      exact List.map_congr_left fun b hb => lowB_great (h1 b hb)
    rw [this, List.append_assoc]
    congr 1
    rw [← List.drop_drop, List.take_append_drop]
end Go.Vc
