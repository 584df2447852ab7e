/-
  Lines and their words: the plain law, and the laws of chapter 6.
-/
import Derived.Test.YtnnoalpkldpjfaaGreatDoorSpQuo4
set_option maxRecDepth 20000
set_option linter.unusedVariables false
namespace Go.Chg
open Go.Vc
variable {w : World} {l : List UInt8}
def wordOk (s : List UInt8) : Bool :=
  if s = [] then false else if s.head? = some 34 then (unquote s).isSome else s.all fun c => decide (32 < c.toNat)
theorem wordOk_ne {s : List UInt8} (h : wordOk s = true) : s ≠ [] := fun e => by
  unfold wordOk at h
  rw [if_pos e] at h
  cases h
theorem upTo_app : ∀ {x r : List UInt8}, (∀ c ∈ x, c ≠ 32) → (r = [] ∨ r.head? = some 32) → upTo 32 (x ++ r) = x
  | [], r, _, hr => by
    rcases hr with rfl | hr
    · rfl
    · cases r with
      | nil => cases hr
      | cons c t =>
        have : c = 32 := Option.some.inj hr
        subst this
        rfl
  | c :: x, r, h, hr => by
    show upTo 32 (c :: (x ++ r)) = _
    unfold upTo
    rw [if_neg (h c (by simp)), upTo_app (fun d hd => h d (by simp [hd])) hr]
theorem upTo_no : ∀ (s : List UInt8), ∀ c ∈ upTo 32 s, c ≠ 32
  | [], c, h => by simp [upTo] at h
  | x :: r, c, h => by
    unfold upTo at h
    split at h
    · cases h
    · rename_i hx
      rcases List.mem_cons.1 h with rfl | h
      · exact hx
      · exact upTo_no r c h
theorem unqR_ok {s o : List UInt8} (h : unquote s = some o) : unqR s = (o, 0) := by unfold unqR; rw [h]
theorem unqR_no {s : List UInt8} (h : unquote s = none) : unqR s = ([], 3) := by unfold unqR; rw [h]
/-- A word at the front of a line is what is found there. -/
theorem wordP_join {x r : List UInt8} (hx : wordOk x = true) (hr : r = [] ∨ r.head? = some 32) : wordP (x ++ r) = (x, true) := by
  have hne := wordOk_ne hx
  unfold wordOk at hx
  rw [if_neg hne] at hx
  have hh : (x ++ r).head? = x.head? := by
    cases x with
    | nil => exact absurd rfl hne
    | cons c t => rfl
  unfold wordP
  rw [hh]
  by_cases h34 : x.head? = some 34
  · rw [if_pos h34] at hx ⊢
    obtain ⟨o, ho⟩ := Option.isSome_iff_exists.1 hx
    have hq := unquote_some ho
    have hn : quotedN (x ++ r) = x.length := by
      have e : (x ++ r).drop 1 = quoteL o ++ (34 :: r) := by
        rw [← hq]
        unfold quote
        simp
      unfold quotedN
      rw [e, quotedL_quoteL, quotedL_34]
      show 1 + (quoteL o).length + 1 = x.length
      rw [← hq, quote_len]
      omega
    have ht : (x ++ r).take x.length = x := List.take_left
    rw [hn, ht, unqR_ok ho]
    rfl
  · rw [if_neg h34] at hx ⊢
    rw [List.all_eq_true] at hx
    have h32 : ∀ c ∈ x, 32 < c.toNat := fun c hc => of_decide_eq_true (hx c hc)
    have hu : upTo 32 (x ++ r) = x := upTo_app (fun c hc e => by have := h32 c hc; rw [e] at this; exact absurd this (by decide)) hr
    rw [hu, if_pos (by rw [List.all_eq_true]; exact fun c hc => decide_eq_true (Nat.le_of_lt (h32 c hc))), decide_eq_true hne]
theorem joinL_cons (x y : List UInt8) (r : List (List UInt8)) : joinL [32] (x :: y :: r) = x ++ 32 :: joinL [32] (y :: r) := by
  simp [joinL]
theorem wordsF_join : ∀ (ws : List (List UInt8)) (n : Nat), ws ≠ [] → (∀ x ∈ ws, wordOk x = true) → (joinL [32] ws).length < n → wordsF n (joinL [32] ws) = some ws
  | [], _, h, _, _ => absurd rfl h
  | [x], n, _, h, hn => by
    obtain ⟨m, rfl⟩ : ∃ m, n = m + 1 := ⟨n - 1, by omega⟩
    have e : joinL [32] [x] = x ++ [] := by simp [joinL]
    have hp := wordP_join (x := x) (r := []) (h x (by simp)) (.inl rfl)
    rw [e, wordsF, hp, if_neg (show ¬ true = false by decide), List.drop_left]
  | x :: y :: r, n, _, h, hn => by
    obtain ⟨m, rfl⟩ : ∃ m, n = m + 1 := ⟨n - 1, by omega⟩
    have hp := wordP_join (x := x) (r := 32 :: joinL [32] (y :: r)) (h x (by simp)) (.inr rfl)
    rw [joinL_cons] at hn ⊢
    rw [List.length_append, List.length_cons] at hn
    have ih := wordsF_join (y :: r) m (by simp) (fun z hz => h z (by simp only [List.mem_cons] at hz ⊢; exact .inr hz)) (by omega)
    rw [wordsF, hp, if_neg (show ¬ true = false by decide), List.drop_left]
    dsimp only
    rw [if_pos rfl, ih]
    rfl
theorem wordsL_join {ws : List (List UInt8)} (h : ∀ x ∈ ws, wordOk x = true) : wordsL (joinL [32] ws) = some ws := by
  by_cases h0 : ws = []
  · subst h0
    rfl
  · have hne : joinL [32] ws ≠ [] := by
      cases ws with
      | nil => exact absurd rfl h0
      | cons x r =>
        have := wordOk_ne (h x (by simp))
        intro e
        have := List.append_eq_nil_iff.1 (show x ++ r.flatMap ([32] ++ ·) = [] from e)
        exact absurd this.1 (by assumption)
    unfold wordsL
    rw [if_neg hne]
    exact wordsF_join ws _ h0 h (Nat.lt_succ_self _)
theorem wordP_ok {line : List UInt8} (h : (wordP line).2 = true) : wordOk (wordP line).1 = true := by
  obtain ⟨_, h2⟩ := wordP_len line
  obtain ⟨hne, htk⟩ := h2 h
  have hhead : (wordP line).1.head? = line.head? := by
    rw [htk]
    cases line with
    | nil => rw [List.take_nil]
    | cons c t =>
      have : 0 < (wordP (c :: t)).1.length := List.length_pos_iff.2 hne
      obtain ⟨m, hm⟩ : ∃ m, (wordP (c :: t)).1.length = m + 1 := ⟨_, (Nat.succ_pred_eq_of_pos this).symm⟩
      rw [hm]
      rfl
  unfold wordOk
  rw [if_neg hne, hhead]
  by_cases h34 : line.head? = some 34
  · rw [if_pos h34]
    unfold wordP at h ⊢
    rw [if_pos h34] at h ⊢
    dsimp only at h ⊢
    cases hu : unquote (line.take (quotedN line)) with
    | none => rw [unqR_no hu] at h; cases h
    | some o => rfl
  · rw [if_neg h34]
    unfold wordP at h ⊢
    rw [if_neg h34] at h ⊢
    split at h
    · rename_i hall
      rw [if_pos hall]
      rw [List.all_eq_true] at hall ⊢
      intro c hc
      have h1 := of_decide_eq_true (hall c hc)
      have h2 := upTo_no line c hc
      refine decide_eq_true ?_
      rcases Nat.lt_or_ge 32 c.toNat with h | h
      · exact h
      · exact absurd (UInt8.toNat_inj.1 (show c.toNat = (32 : UInt8).toNat by show c.toNat = 32; omega)) h2
    · cases h
theorem wordsF_inv : ∀ (n : Nat) (line : List UInt8) (ws : List (List UInt8)), wordsF n line = some ws → ws ≠ [] ∧ line = joinL [32] ws ∧ ∀ x ∈ ws, wordOk x = true
  | 0, _, _, h => by simp [wordsF] at h
  | n + 1, line, ws, h => by
    rw [wordsF] at h
    split at h
    · cases h
    · rename_i hv
      have hv : (wordP line).2 = true := by cases hb : (wordP line).2 with | true => rfl | false => exact absurd hb hv
      have hok := wordP_ok hv
      obtain ⟨hne, htk⟩ := (wordP_len line).2 hv
      have happ : line = (wordP line).1 ++ line.drop (wordP line).1.length := by
        conv => lhs; rw [← List.take_append_drop (wordP line).1.length line]
        rw [← htk]
      split at h
      · rename_i hd
        cases h
        refine ⟨by simp, ?_, fun x hx => by rw [List.mem_singleton.1 hx]; exact hok⟩
        rw [hd, List.append_nil] at happ
        simp [joinL, ← happ]
      · rename_i c r hd
        split at h
        · rename_i hc
          obtain ⟨ws', h1, rfl⟩ := Option.map_eq_some_iff.1 h
          obtain ⟨i1, i2, i3⟩ := wordsF_inv n r ws' h1
          refine ⟨by simp, ?_, fun x hx => ?_⟩
          · match ws', i1, i2 with
            | y :: t, _, i2 =>
              rw [joinL_cons, ← i2, ← hc, ← hd]
              exact happ
          · rcases List.mem_cons.1 hx with rfl | hx
            · exact hok
            · exact i3 x hx
        · cases h
theorem wordsL_inv {line : List UInt8} {ws : List (List UInt8)} (h : wordsL line = some ws) : line = joinL [32] ws ∧ ∀ x ∈ ws, wordOk x = true := by
  unfold wordsL at h
  split at h
  · rename_i h0
    cases h
    exact ⟨h0, by simp⟩
  · exact (wordsF_inv _ _ _ h).2

/-! ### The laws -/
theorem quoteL_plain {c : UInt8} {r : List UInt8} (h1 : 32 ≤ c.toNat) (h2 : c.toNat < 127) (h3 : c.toNat ≠ 34) (h4 : c.toNat ≠ 92) : quoteL (c :: r) = c :: quoteL r := by
  have hd : dec (c :: r) = (1, c.toNat) := dec_small (by omega)
  have hu : uStep (c :: r) = (c.toNat, 1) := by rw [uStep_good (by rw [hd]; simp), hd]
  rw [quoteL_on (by simp), hu]
  unfold qItem
  rw [hd]
  dsimp only
  rw [if_neg (by omega), if_neg (by omega)]
  rfl
theorem quote_bc : quote [98, 32, 99] = [34, 98, 32, 99, 34] := by
  unfold quote
  rw [quoteL_plain (by decide) (by decide) (by decide) (by decide), quoteL_plain (by decide) (by decide) (by decide) (by decide), quoteL_plain (by decide) (by decide) (by decide) (by decide), quoteL_nil]
  rfl
end Go.Chg
