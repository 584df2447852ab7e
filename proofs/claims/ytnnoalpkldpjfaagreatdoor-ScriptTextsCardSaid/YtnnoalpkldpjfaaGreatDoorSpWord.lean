/-
  Words of a line.
-/
import Derived.Test.YtnnoalpkldpjfaaGreatDoorSpQuo2
import Derived.Test.YtnnoalpkldpjfaaGreatDoorME
set_option maxRecDepth 20000
set_option linter.unusedVariables false
namespace Go.Vc
variable {w : World} {β : Type}
theorem jump1 {a : Int} {body : Int → (Int → World → Prop) → World → Prop} (J : Nat → World → Prop) (s n : Nat) (ha : a = (s : Int)) (hs : s ≤ n) (h0 : J s w)
    (step : ∀ (k : Nat) (w' : World) (C : Int → World → Prop), s ≤ k → k ≤ n → J k w' → (∀ (k' : Nat) (y : Int) w'', y = (k' : Int) → k < k' → k' ≤ n → J k' w'' → C y w'') → body (k : Int) C w') : loop1 a body w := by
  refine ⟨fun x w' => ∃ k : Nat, x = k ∧ s ≤ k ∧ k ≤ n ∧ J k w', fun x _ => (n - x).toNat, ⟨s, ha, Nat.le_refl _, hs, h0⟩, ?_⟩
  rintro x w' ⟨k, rfl, h1, h2, h3⟩
  refine step k w' _ h1 h2 h3 fun k' y w'' hy hlt hle hJ => ?_
  subst hy
  exact ⟨⟨k', rfl, by omega, hle, hJ⟩, by dsimp only; omega⟩
theorem quotedL_none : quotedL [] = none := by rw [quotedL.eq_def]
/-- Up to the first such sign. -/
def upTo (c : UInt8) : List UInt8 → List UInt8
  | [] => []
  | x :: r => if x = c then [] else x :: upTo c r
theorem upTo_index (c : UInt8) : ∀ (s : List UInt8), (Go.Lib.indexByte s c < 0 ∧ upTo c s = s) ∨ (Go.Lib.indexByte s c = ((upTo c s).length : Int) ∧ upTo c s = s.take (upTo c s).length ∧ (upTo c s).length < s.length)
  | [] => .inl ⟨by show (-1 : Int) < 0; decide, rfl⟩
  | x :: r => by
    unfold upTo Go.Lib.indexByte
    by_cases h : x = c
    · subst h
      right
      simp
    · have hb : (x == c) = false := beq_eq_false_iff_ne.2 h
      rw [if_neg h, if_neg (by rw [hb]; decide)]
      rcases upTo_index c r with ⟨h1, h2⟩ | ⟨h1, h2, h3⟩
      · left
        have hm : Go.Lib.indexByte r c = -1 := by
          have := Go.Lib.indexByte_ge r c
          omega
        rw [hm, h2]
        exact ⟨by decide, rfl⟩
      · right
        have hne : ¬ ((Go.Lib.indexByte r c == -1) = true) := by rw [beq_iff_eq]; omega
        rw [if_neg hne, h1]
        refine ⟨by simp, ?_, by simp; omega⟩
        simp only [List.length_cons, List.take_succ_cons]
        rw [← h2]
end Go.Vc
namespace Go.Chg
open Go.Vc
variable {w : World} {l : List UInt8}
theorem Index_spec {s : List UInt8} {c : UInt8} {K : Int → World → Prop} (hK : ∀ i, (i < 0 ∧ upTo c s = s ∨ i = ((upTo c s).length : Int) ∧ upTo c s = s.take (upTo c s).length ∧ (upTo c s).length < s.length) → K i w) : internal_stringslite_Index s [c] K w := by
  unfold internal_stringslite_Index
  refine ⟨fun _ => False, ?_, fun _ h => h.elim⟩
  refine ifEq (fun h => absurd h (by show ((1 : Nat) : Int) ≠ 0; decide)) (fun _ => ?_)
  refine ifB_of (fun h => hK 0 ?_) (fun _ => ?_)
  · rw [strEq_eq, decide_eq_true_eq] at h
    subst h
    right
    simp [upTo]
  refine ifEq (fun _ => ?_) (fun h => absurd (show ((1 : Nat) : Int) = 1 by decide) h)
  refine idx_str 0 (by kernel_rfl) rfl (by simp) ?_
  refine internal_stringslite_IndexByte_calls (stringslite_IndexByte_spec (c := c) rfl (hK _ (upTo_index c s)))
theorem Cut_spec {s : List UInt8} {c : UInt8} {K : List UInt8 × List UInt8 × Bool → World → Prop} (hl : s.length ≤ 1000000) (hK : ∀ a b w', Ext w w' → K (upTo c s, a, b) w') : strings_Cut s [c] K w := by
  unfold strings_Cut
  refine internal_stringslite_Cut_calls ?_
  unfold internal_stringslite_Cut
  refine internal_stringslite_Index_calls (Index_spec fun i hi => ?_)
  refine ifD (fun h0 => ?_) (fun h0 => ?_)
  · rcases hi with ⟨h, _⟩ | ⟨h1, h2, h3⟩
    · exact absurd h0 (by omega)
    · refine drew_of fun w3 hx3 => ?_
      refine sub_str_h (n := (upTo c s).length) (by kernel_rfl) h1 (by omega) ?_
      refine sub_str_l (m := (upTo c s).length + 1) (by kernel_rfl) (by rw [h1, i64_id (by simp; omega) (by simp; omega)]; simp) (by omega) ?_
      rw [← h2]
      exact hK _ _ _ hx3
  · rcases hi with ⟨_, h⟩ | ⟨h1, _⟩
    · have := hK [] false w (Ext.rfl' _)
      rwa [h] at this
    · exact absurd (by omega) h0
/-- How long the text in quotes is with which a line begins. -/
def quotedN (line : List UInt8) : Nat := match quotedL (line.drop 1) with | some n => n + 1 | none => 0
theorem quoted_spec {line : List UInt8} {K : Int → World → Prop} (h0 : line ≠ []) (hl : line.length ≤ 1000000) (hK : K (quotedN line : Int) w) : quote_quoted line K w := by
  unfold quote_quoted
  have hpos := List.length_pos_iff.2 h0
  refine jump1 (fun k w' => w = w' ∧ quotedL (line.drop 1) = (quotedL (line.drop k)).map (· + (k - 1))) 1 (line.length + 1) rfl (by omega) ⟨rfl, by simp⟩ ?_
  rintro k w3 C h1k hk ⟨rfl, hq⟩ hC
  refine ifD (fun hlt => ?_) (fun hge => ?_)
  · have hk1 : k < line.length := by omega
    have hd := List.drop_eq_getElem_cons hk1
    refine idx_str k (by kernel_rfl) rfl hk1 ?_
    refine ifEq (fun h92 => ?_) (fun h92 => ?_)
    · have hc : line[k] = 92 := UInt8.toNat_inj.1 (by show line[k].toNat = 92; omega)
      rw [hd, hc] at hq
      by_cases hk2 : k + 1 < line.length
      · rw [List.drop_eq_getElem_cons hk2, quotedL_92, Option.map_map] at hq
        refine hC (k + 2) _ _ (by rw [i64_id (n := (k : Int) + 1) (by omega) (by omega), i64_id] <;> omega) (by omega) (by omega) ⟨rfl, ?_⟩
        rw [hq]
        congr 1
        funext x
        show x + 2 + (k - 1) = x + (k + 2 - 1)
        omega
      · have e1 : line.drop (k + 1) = [] := List.drop_of_length_le (by omega)
        have e2 : line.drop (k + 2) = [] := List.drop_of_length_le (by omega)
        have e : quotedL [92] = none := by rw [quotedL.eq_def]; rfl
        rw [e1, e] at hq
        refine hC (k + 2) _ _ (by rw [i64_id (n := (k : Int) + 1) (by omega) (by omega), i64_id] <;> omega) (by omega) (by omega) ⟨rfl, ?_⟩
        rw [hq, e2, quotedL_none]
        rfl
    refine ifEq (fun h34 => ?_) (fun h34 => ?_)
    · have hc : line[k] = 34 := UInt8.toNat_inj.1 (by show line[k].toNat = 34; omega)
      rw [hd, hc, quotedL_34] at hq
      have e : (quotedN line : Int) = i64 ((k : Int) + 1) := by
        unfold quotedN
        rw [hq, i64_id (by omega) (by omega)]
        show ((1 + (k - 1) + 1 : Nat) : Int) = _
        omega
      rw [e] at hK
      exact hK
    · have n92 : line[k] ≠ 92 := fun h => h92 (by rw [h]; rfl)
      have n34 : line[k] ≠ 34 := fun h => h34 (by rw [h]; rfl)
      rw [hd, quotedL_x n92 n34, Option.map_map] at hq
      refine hC (k + 1) _ _ (by rw [i64_id] <;> omega) (by omega) (by omega) ⟨rfl, ?_⟩
      rw [hq]
      congr 1
      funext x
      show x + 1 + (k - 1) = x + (k + 1 - 1)
      omega
  · have e1 : line.drop k = [] := List.drop_of_length_le (by omega)
    rw [e1, quotedL_none] at hq
    have e : quotedN line = 0 := by
      unfold quotedN
      rw [hq]
      rfl
    rw [e] at hK
    exact hK
theorem quotedN_le (line : List UInt8) : quotedN line ≤ line.length := by
  unfold quotedN
  split
  · rename_i n h
    have := (quotedL_le h).1
    rw [List.length_drop] at this
    have := (quotedL_le h).2
    omega
  · exact Nat.zero_le _
/-- The word with which a line begins. -/
def wordP (line : List UInt8) : List UInt8 × Bool :=
  if line.head? = some 34 then (line.take (quotedN line), (unqR (line.take (quotedN line))).2 == 0)
  else if (upTo 32 line).all (fun c => decide (32 ≤ c.toNat)) then (upTo 32 line, decide (upTo 32 line ≠ [])) else ([], false)
theorem word_spec {line : List UInt8} {K : List UInt8 × Bool → World → Prop} (ht : Utf8T w) (hl : line.length ≤ 1000000) (hK : ∀ w', Ext w w' → K (wordP line) w') : quote_word line K w := by
  unfold quote_word
  have hup : (upTo 32 line).length ≤ line.length := by
    rcases upTo_index 32 line with ⟨_, h⟩ | ⟨_, _, h⟩
    · rw [h]; exact Nat.le_refl _
    · omega
  refine ⟨fun w' => w = w' ∧ ¬ line.head? = some 34, ?_, ?_⟩
  · match line, hl, hK with
    | [], _, _ => exact ifNot (ifB_t (by rw [strEq_eq]; simp) ⟨rfl, by simp⟩)
    | c :: r, hl, hK =>
      refine ifNot (ifB_f (by rw [strEq_eq]; simp) ?_)
      refine idx_str 0 (by kernel_rfl) rfl (by simp) ?_
      refine ifEq (fun h34 => ?_) (fun h34 => ⟨rfl, fun h => h34 (by rw [show c = 34 from Option.some.inj h]; rfl)⟩)
      have hc : c = 34 := UInt8.toNat_inj.1 (by have : (c.toNat : Int) = 34 := h34; show c.toNat = 34; omega)
      have hq := quotedN_le (c :: r)
      refine quote_quoted_calls (quoted_spec (by simp) hl ?_)
      refine sub_str_h (n := quotedN (c :: r)) (by kernel_rfl) rfl hq ?_
      refine quote_Unquote_calls (Unquote_spec ht (by rw [List.length_take]; omega) fun w7 hx7 => ?_)
      refine sub_str_h (n := quotedN (c :: r)) (by kernel_rfl) rfl hq ?_
      have := hK _ hx7
      unfold wordP at this
      rw [if_pos (by rw [hc]; rfl)] at this
      exact this
  rintro _ ⟨rfl, hno⟩
  refine strings_Cut_calls (Cut_spec hl fun a b w11 hx11 => ?_)
  dsimp only
  refine str2b_ty (by kernel_rfl) (by kernel_rfl) (by omega) fun s12 w13 h12 hx13 => ?_
  have hx := hx11.trans' hx13
  have hsl := h12.len
  unfold wordP at hK
  rw [if_neg hno] at hK
  refine up1 (fun k w' => w13 = w' ∧ ∀ c ∈ (upTo 32 line).take k, 32 ≤ c.toNat) 0 (upTo 32 line).length rfl (by omega) (by omega) ⟨rfl, by simp⟩ ?_
  rintro k _ C _ hk ⟨rfl, hall⟩ hC
  refine ifD (fun hlt => ?_) (fun hge => ?_)
  · have hk1 : k < (upTo 32 line).length := by omega
    refine el_rd (E := eB) (y := ((upTo 32 line)[k].toNat : Int)) (by kernel_rfl) (by kernel_rfl) h12.is rfl hk1 rfl fun _ => ?_
    refine ifD (fun h32 => ?_) (fun h32 => hC hk1 _ _ rfl ⟨rfl, fun c hc => ?_⟩)
    · rw [if_neg (fun h => by
        rw [List.all_eq_true] at h
        have := h _ (List.getElem_mem hk1)
        rw [decide_eq_true_eq] at this
        omega)] at hK
      exact hK _ hx
    · rw [List.take_succ_eq_append_getElem hk1] at hc
      rcases List.mem_append.1 hc with hc | hc
      · exact hall c hc
      · rw [List.mem_singleton.1 hc]; omega
  · rw [List.take_of_length_le (by omega)] at hall
    rw [if_pos (by rw [List.all_eq_true]; exact fun c hc => decide_eq_true (hall c hc))] at hK
    have := hK _ hx
    have e : (!(strEq (upTo 32 line) [])) = decide (upTo 32 line ≠ []) := by
      rw [strEq_eq]
      by_cases h : upTo 32 line = [] <;> simp [h]
    rw [← e] at this
    exact this
theorem wordP_len (line : List UInt8) : (wordP line).1.length ≤ line.length ∧ ((wordP line).2 = true → (wordP line).1 ≠ [] ∧ (wordP line).1 = line.take (wordP line).1.length) := by
  have hq := quotedN_le line
  unfold wordP
  split
  · rename_i h
    refine ⟨by rw [List.length_take]; omega, fun hv => ⟨fun h0 => ?_, ?_⟩⟩
    · dsimp only at h0 hv
      rw [h0] at hv
      cases hv
    · dsimp only
      rw [List.length_take, Nat.min_eq_left hq]
  · split
    · refine ⟨?_, fun hv => ⟨of_decide_eq_true hv, ?_⟩⟩
      · rcases upTo_index 32 line with ⟨_, h⟩ | ⟨_, _, h⟩
        · show (upTo 32 line).length ≤ _
          rw [h]; exact Nat.le_refl _
        · exact Nat.le_of_lt h
      · rcases upTo_index 32 line with ⟨_, h⟩ | ⟨_, h, _⟩
        · show upTo 32 line = _
          rw [h, List.take_length]
        · exact h
    · exact ⟨Nat.zero_le _, fun h => by cases h⟩
/-- The words of a line. -/
def wordsF : Nat → List UInt8 → Option (List (List UInt8))
  | 0, _ => none
  | n + 1, line =>
    if (wordP line).2 = false then none
    else match line.drop (wordP line).1.length with
      | [] => some [(wordP line).1]
      | c :: r => if c = 32 then (wordsF n r).map ((wordP line).1 :: ·) else none
def wordsL (line : List UInt8) : Option (List (List UInt8)) := if line = [] then some [] else wordsF (line.length + 1) line
theorem Words_spec {line : List UInt8} {K : Sl × Int → World → Prop} (ht : Utf8T w) (hl : line.length ≤ 100000) (h1 : ∀ ws, wordsL line = some ws → ∀ s w', OwnSl eS w' w.heap.size s ws → Ext w w' → K (s, 0) w') (h2 : wordsL line = none → ∀ w', Ext w w' → K (Sl.nil, 3) w') : quote_Words line K w := by
  unfold quote_Words
  refine ifB_of (fun h => ?_) (fun h => ?_)
  · rw [strEq_eq, decide_eq_true_eq] at h
    exact h1 [] (by unfold wordsL; rw [if_pos h]) _ _ (.nil _ _ _) (Ext.rfl' _)
  rw [strEq_eq, decide_eq_false_iff_not] at h
  have e0 : wordsL line = wordsF (line.length + 1) line := if_neg h
  refine ⟨fun l out w' => Ext w w' ∧ l.length ≤ line.length ∧ ∃ ws n, l.length < n ∧ ws.length + l.length ≤ line.length ∧ OwnSl eS w' w.heap.size out ws ∧ wordsL line = (wordsF n l).map (ws ++ ·), fun l _ _ => l.length, ⟨Ext.rfl' _, Nat.le_refl _, [], line.length + 1, Nat.lt_succ_self _, by simp, .nil _ _ _, by rw [e0]; simp⟩, ?_⟩
  rintro l out w4 ⟨hx, hle, ws, n, hn, hws, ho, hq⟩
  obtain ⟨n, rfl⟩ : ∃ m, n = m + 1 := ⟨n - 1, by omega⟩
  obtain ⟨hw1, hw2⟩ := wordP_len l
  rw [wordsF] at hq
  refine quote_word_calls (word_spec (ht.ext hx) (by omega) fun w6 hx6 => ?_)
  have hx := hx.trans' hx6
  have ho := ho.ext hx6
  have z6 := hx.size
  refine ifNot (ifB_of (fun hv => ?_) (fun hv => ?_))
  rotate_left
  · rw [if_pos hv] at hq
    exact h2 hq _ hx
  obtain ⟨hne, htk⟩ := hw2 hv
  rw [if_neg (by rw [hv]; decide)] at hq
  have hpos := List.length_pos_iff.2 hne
  refine lit1_ty (E := eS) 16 (x := (wordP l).1) w6.heap.size (by kernel_rfl) (by decide) (fun w => by kernel_rfl) (Nat.le_refl _) fun s7 w8 _ h7 hx8 => ?_
  have ho := ho.ext hx8
  have z8 := hx8.size
  refine app_ty 16 (by kernel_rfl) (by kernel_rfl) ho h7.is (by simp only [List.length_singleton]; omega) (by omega) (by decide) fun s9 w10 h9 hg => ?_
  have hx := Ext.own (hx.trans' hx8) ho (Nat.le_refl _) hg
  refine sub_str_l (m := (wordP l).1.length) (by kernel_rfl) rfl hw1 ?_
  generalize hr : l.drop (wordP l).1.length = rest at hq
  have hrl : rest.length = l.length - (wordP l).1.length := by rw [← hr, List.length_drop]
  match rest, hrl, hq with
  | [], _, hq =>
    refine ifB_t (by rw [strEq_eq]; simp) ?_
    exact h1 _ hq _ _ h9 hx
  | c :: r, hrl, hq =>
    refine ifB_f (by rw [strEq_eq]; simp) ?_
    refine idx_str 0 (by kernel_rfl) rfl (by simp) ?_
    dsimp only at hq
    simp only [List.length_cons] at hrl
    refine ifNe (fun hc => ?_) (fun hc => ?_)
    · rw [if_neg (fun h => hc (by rw [show (c :: r)[0] = c from rfl, h]; rfl))] at hq
      exact h2 hq _ hx
    · have hc' : c = 32 := UInt8.toNat_inj.1 (by have : (c.toNat : Int) = 32 := hc; show c.toNat = 32; omega)
      rw [if_pos hc'] at hq
      refine sub_str_l (m := 1) (by kernel_rfl) rfl (by simp) ?_
      refine ⟨⟨hx, by show r.length ≤ _; omega, ws ++ [(wordP l).1], n, by show r.length < n; omega, by rw [List.length_append]; show _ + _ + r.length ≤ _; simp; omega, h9, ?_⟩, by show r.length < l.length; omega⟩
      rw [hq, Option.map_map]
      show _ = Option.map _ (wordsF n r)
      cases wordsF n r <;> simp
end Go.Chg
