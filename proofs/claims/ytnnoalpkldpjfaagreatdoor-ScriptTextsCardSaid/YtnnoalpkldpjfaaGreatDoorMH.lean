import Derived.Test.YtnnoalpkldpjfaaGreatDoorSpScr4
import Derived.Test.YtnnoalpkldpjfaaGreatDoorRng
/-
  The lines of a text: 'strings.Lines', a loop over it, and one line's end.
-/
set_option maxRecDepth 20000
set_option linter.unusedVariables false
namespace Go.Chg
open Go.Vc
open Go.RowKit (Below)
variable {w : World} {s x : List UInt8} {q : Addr}
/-! ### Lines -/
theorem upTo_le (c : UInt8) : ∀ s : List UInt8, (upTo c s).length ≤ s.length
  | [] => Nat.le_refl _
  | x :: r => by
    unfold upTo
    split
    · exact Nat.zero_le _
    · simp only [List.length_cons]
      have := upTo_le c r
      omega
theorem upTo_take (c : UInt8) : ∀ s : List UInt8, s.take (upTo c s).length = upTo c s
  | [] => rfl
  | x :: r => by
    unfold upTo
    split
    · rfl
    · rw [List.length_cons, List.take_succ_cons, upTo_take c r]
theorem upTo_not (c : UInt8) : ∀ s : List UInt8, ∀ y ∈ upTo c s, y ≠ c
  | [], y, h => by simp [upTo] at h
  | x :: r, y, h => by
    unfold upTo at h
    split at h
    · cases h
    · rename_i hx
      rcases List.mem_cons.1 h with rfl | h
      · exact hx
      · exact upTo_not c r y h
/-- Where it ends ahead of the text's end, the sign itself comes. -/
theorem upTo_at (c : UInt8) : ∀ s : List UInt8, (upTo c s).length < s.length → s[(upTo c s).length]? = some c
  | [], h => by simp at h
  | x :: r, h => by
    unfold upTo at h ⊢
    split
    · rename_i hx
      simp [hx]
    · rename_i hx
      rw [if_neg hx] at h
      simp only [List.length_cons] at h ⊢
      rw [List.getElem?_cons_succ]
      exact upTo_at c r (by omega)
theorem upTo_clean (c : UInt8) : ∀ {s r : List UInt8}, (∀ y ∈ s, y ≠ c) → (r = [] ∨ ∃ t, r = c :: t) → upTo c (s ++ r) = s
  | [], r, _, hr => by
    rcases hr with rfl | ⟨t, rfl⟩
    · rfl
    · simp [upTo]
  | x :: s, r, h, hr => by
    show upTo c (x :: (s ++ r)) = _
    unfold upTo
    rw [if_neg (h x (by simp)), upTo_clean c (fun y hy => h y (by simp [hy])) hr]
/-- How far the first line goes. -/
def lineN (s : List UInt8) : Nat := if (upTo 10 s).length < s.length then (upTo 10 s).length + 1 else s.length
theorem lineN_le (s : List UInt8) : lineN s ≤ s.length := by
  unfold lineN
  split <;> omega
theorem lineN_pos (h : s ≠ []) : 1 ≤ lineN s := by
  have : 0 < s.length := List.length_pos_iff.2 h
  unfold lineN
  split <;> omega
def linesF : Nat → List UInt8 → List (List UInt8)
  | 0, _ => []
  | n + 1, s => if s = [] then [] else s.take (lineN s) :: linesF n (s.drop (lineN s))
def linesL (s : List UInt8) : List (List UInt8) := linesF s.length s
theorem linesF_eq : ∀ (n m : Nat) (s : List UInt8), s.length ≤ n → s.length ≤ m → linesF n s = linesF m s
  | 0, m, s, hn, _ => by
    have : s = [] := List.length_eq_zero_iff.1 (by omega)
    subst this
    cases m <;> simp [linesF]
  | n + 1, 0, s, _, hm => by
    have : s = [] := List.length_eq_zero_iff.1 (by omega)
    subst this
    simp [linesF]
  | n + 1, m + 1, s, hn, hm => by
    simp only [linesF]
    split
    · rfl
    · rename_i h
      have h1 := lineN_pos h
      have h2 := lineN_le s
      rw [linesF_eq n m _ (by rw [List.length_drop]; omega) (by rw [List.length_drop]; omega)]
theorem linesL_nil : linesL [] = [] := rfl
theorem linesL_cons (h : s ≠ []) : linesL s = s.take (lineN s) :: linesL (s.drop (lineN s)) := by
  unfold linesL
  have h1 := lineN_pos h
  have h2 := lineN_le s
  obtain ⟨n, hn⟩ : ∃ n, s.length = n + 1 := ⟨s.length - 1, by omega⟩
  rw [hn, linesF, if_neg h, linesF_eq n (s.drop (lineN s)).length _ (by rw [List.length_drop]; omega) (Nat.le_refl _)]
/-- What a line is. -/
theorem line_shape (h : s ≠ []) : upTo 10 (s.take (lineN s)) = upTo 10 s ∧ ((upTo 10 s).length < s.length ∧ s.take (lineN s) = upTo 10 s ++ [10] ∨ ¬ (upTo 10 s).length < s.length ∧ s.take (lineN s) = s ∧ upTo 10 s = s) := by
  have hle := upTo_le 10 s
  have ht := upTo_take 10 s
  by_cases hlt : (upTo 10 s).length < s.length
  · have e : s.take (lineN s) = upTo 10 s ++ [10] := by
      unfold lineN
      rw [if_pos hlt, List.take_add_one, ht, upTo_at 10 s hlt]
      rfl
    refine ⟨?_, .inl ⟨hlt, e⟩⟩
    rw [e]
    exact upTo_clean 10 (upTo_not 10 s) (.inr ⟨[], rfl⟩)
  · have e : s.take (lineN s) = s := by
      unfold lineN
      rw [if_neg hlt, List.take_length]
    have e2 : upTo 10 s = s := by
      rw [← ht, List.take_of_length_le (by omega)]
    rw [e]
    exact ⟨rfl, .inr ⟨hlt, rfl, e2⟩⟩
theorem linesF_mem : ∀ (n : Nat) (s x : List UInt8), x ∈ linesF n s → (x = upTo 10 x ++ [10] ∨ x = upTo 10 x) ∧ x ≠ [] ∧ x.length ≤ s.length
  | 0, s, x, h => by cases h
  | n + 1, s, x, h => by
    simp only [linesF] at h
    split at h
    · cases h
    · rename_i hne
      have h2 := lineN_le s
      rcases List.mem_cons.1 h with rfl | h
      · obtain ⟨e1, e2⟩ := line_shape hne
        have h1 := lineN_pos hne
        refine ⟨?_, fun e => ?_, by rw [List.length_take]; omega⟩
        · rcases e2 with ⟨_, e2⟩ | ⟨_, e2, e3⟩
          · left; rw [e1]; exact e2
          · right; rw [e1, e2]; exact e3.symm
        · have := congrArg List.length e
          rw [List.length_take, List.length_nil] at this
          have : 0 < s.length := List.length_pos_iff.2 hne
          omega
      · obtain ⟨a, b, c⟩ := linesF_mem n _ x h
        exact ⟨a, b, by rw [List.length_drop] at c; omega⟩
theorem linesL_mem (h : x ∈ linesL s) : (x = upTo 10 x ++ [10] ∨ x = upTo 10 x) ∧ x ≠ [] ∧ x.length ≤ s.length := linesF_mem _ _ _ h
theorem linesF_len : ∀ (n : Nat) (s : List UInt8), (linesF n s).length ≤ n
  | 0, s => Nat.le_refl _
  | n + 1, s => by
    simp only [linesF]
    split
    · exact Nat.zero_le _
    · simp only [List.length_cons]
      have := linesF_len n (s.drop (lineN s))
      omega
theorem linesL_len (s : List UInt8) : (linesL s).length ≤ s.length := linesF_len _ _
/-! ### Package 'strings' -/
theorem strings_Lines_spec {K : Value → World → Prop} (hK : ∀ a w', a.block = w.heap.size → Ext w w' → Vc.Obj w' a [sval s] → K (.func (.func fid_strings_Lines_1) #[] #[.pointer (some a)]) w') : strings_Lines s K w := by
  unfold strings_Lines
  exact box_ty fun a w' ha hx ho => hK a w' ha hx ho
theorem CutSuffix_spec {K : List UInt8 × Bool → World → Prop} (hl : s.length ≤ 1000000) (h : s = upTo 10 s ++ [10] ∨ s = upTo 10 s) (hK : K (upTo 10 s, decide ((upTo 10 s).length < s.length)) w) : strings_CutSuffix s [10] K w := by
  unfold strings_CutSuffix
  refine internal_stringslite_CutSuffix_calls ?_
  unfold internal_stringslite_CutSuffix
  refine internal_stringslite_HasSuffix_calls ?_
  unfold internal_stringslite_HasSuffix
  have hnot := upTo_not 10 s
  have one : (([10] : List UInt8).length : Int) = 1 := rfl
  rw [one]
  rcases h with h | h
  · have hlen : s.length = (upTo 10 s).length + 1 := by
      conv => lhs; rw [h]
      simp
    refine ifD (fun _ => ?_) (fun hge => absurd (show (s.length : Int) ≥ 1 by omega) hge)
    refine sub_str_l (m := (upTo 10 s).length) (by kernel_rfl) (by rw [i64_id] <;> omega) (by omega) ?_
    have hd : s.drop (upTo 10 s).length = [10] := by
      conv => lhs; arg 2; rw [h]
      rw [List.drop_left]
    rw [hd, strEq_eq]
    refine ifB_f rfl ?_
    refine sub_str_h (n := (upTo 10 s).length) (by kernel_rfl) (by rw [i64_id] <;> omega) (by omega) ?_
    rw [upTo_take]
    rw [decide_eq_true (by omega)] at hK
    exact hK
  · have no : ¬ (upTo 10 s).length < s.length := by rw [← h]; omega
    rw [decide_eq_false no, ← h] at hK
    refine ifD (fun hge => ?_) (fun _ => hK)
    have hpos : 1 ≤ s.length := by omega
    refine sub_str_l (m := s.length - 1) (by kernel_rfl) (by rw [i64_id] <;> omega) (by omega) ?_
    have : strEq (s.drop (s.length - 1)) [10] = false := by
      rw [strEq_eq, decide_eq_false_iff_not]
      intro e
      have hm : (10 : UInt8) ∈ s.drop (s.length - 1) := by rw [e]; simp
      have := hnot 10 (by rw [← h]; exact List.mem_of_mem_drop hm)
      exact this rfl
    rw [this]
    exact hK
theorem strings_IndexByte_ty {c : UInt8} {K : Int → World → Prop} (hK : K (Go.Lib.indexByte s c) w) : callV Pr (Value.int .i64) fid_strings_IndexByte #[sval s, .int .u8 (c.toNat : Int)] w K := by
  refine strings_IndexByte_calls ?_
  unfold strings_IndexByte
  exact internal_stringslite_IndexByte_calls (stringslite_IndexByte_spec rfl hK)
/-- The loop over a text's lines, whatever is done with each of them. -/
theorem Lines_1_spec {Y : Value} {Inv : List (List UInt8) → World → Prop} {InvX : World → Prop} {G : List (List UInt8) → List UInt8 → Prop} {Rk : World → World → Prop} {K : Unit → World → Prop}
    (ho : Vc.Obj w q [sval s]) (hl : s.length ≤ 1000000) (h0 : Inv [] w) (hSp : ∀ pre W W', Inv pre W → W.grownBy W' (some q.block) → Inv pre W') (hRk : ∀ W W', Rk W W' → W'.heap[q.block]? = W.heap[q.block]?)
    (hY : ∀ pre x W (K : Bool → World → Prop), G pre x → Inv pre W → (∀ W', Rk W W' → Inv (pre ++ [x]) W' → K true W') → (∀ W', Rk W W' → InvX W' → K false W') → callF Pr Value.bool Y #[sval x] W K)
    (hG : ∀ pre x post, linesL s = pre ++ x :: post → G pre x) (hK : ∀ w', Inv (linesL s) w' ∨ InvX w' → K () w') : strings_Lines_1 Y q K w := by
  unfold strings_Lines_1
  refine ⟨fun W => ∃ pre rest, linesL s = pre ++ linesL rest ∧ rest.length ≤ s.length ∧ Inv pre W ∧ Vc.Obj W q [sval rest], fun W => match W.cell? q with | some (.string b) => b.size | _ => 0, ⟨[], s, rfl, Nat.le_refl _, h0, ho⟩, ?_⟩
  rintro W ⟨pre, rest, hsp, hle, hi, hob⟩
  have cell : ∀ {W : World} {r : List UInt8}, Vc.Obj W q [sval r] → (match W.cell? q with | some (.string b) => b.size | _ => 0) = r.length := fun {W r} h => by
    have := h.cell (off := 0) (v := sval r) rfl
    rw [show q.add 0 = q from by simp [Addr.add]] at this
    rw [this]
    rfl
  refine ld_obj0 (val := sval) (y := rest) (by kernel_rfl) hob rfl ?_
  refine ifD (fun hpos => ?_) (fun hz => ?_)
  rotate_left
  · have : rest = [] := List.length_eq_zero_iff.1 (by omega)
    subst this
    rw [linesL_nil, List.append_nil] at hsp
    exact hK W (.inl (hsp ▸ hi))
  have hne : rest ≠ [] := by
    rintro rfl
    simp at hpos
  have hN1 := lineN_pos hne
  have hN2 := lineN_le rest
  have hnext : linesL s = pre ++ rest.take (lineN rest) :: linesL (rest.drop (lineN rest)) := by rw [hsp, linesL_cons hne]
  -- a round
  have round : ∀ {W6 W13 : World}, Ext W W6 → Wr q.block W6 W13 → Vc.Obj W13 q [sval (rest.drop (lineN rest))] →
      callF Pr Value.bool Y #[sval (rest.take (lineN rest))] W13 (fun t14 w15 => ifB (!t14) (K () w15) ((∃ pre rest, linesL s = pre ++ linesL rest ∧ rest.length ≤ s.length ∧ Inv pre w15 ∧ Vc.Obj w15 q [sval rest]) ∧
        (match w15.cell? q with | some (.string b) => b.size | _ => 0) < (match W.cell? q with | some (.string b) => b.size | _ => 0))) := fun {W6 W13} hx hw ho13 => by
    have hg : W.grownBy W13 (some q.block) := grown_trans (grown_ext hx _) (grown_wr hw)
    refine hY pre _ W13 _ (hG _ _ _ hnext) (hSp _ _ _ hi hg) (fun W' hr hi' => ?_) (fun W' hr hx' => hK W' (.inr hx'))
    have ho' := ho13.keep (hRk _ _ hr)
    refine ifNot (ifB_t rfl ⟨⟨pre ++ [rest.take (lineN rest)], rest.drop (lineN rest), by rw [hnext]; simp, by rw [List.length_drop]; omega, hi', ho'⟩, ?_⟩)
    rw [cell ho', cell hob, List.length_drop]
    omega
  refine ld_obj0 (val := sval) (y := rest) (by kernel_rfl) hob rfl ?_
  refine strings_IndexByte_ty (c := 10) ?_
  rcases upTo_index 10 rest with ⟨h1, h2⟩ | ⟨h1, h2, h3⟩
  · -- no more line ends
    have hN : lineN rest = rest.length := by
      unfold lineN
      rw [if_neg (by rw [h2]; omega)]
    refine ifD (fun h => absurd h (by omega)) (fun _ => ?_)
    refine ld_obj0 (val := sval) (y := rest) (by kernel_rfl) hob rfl ?_
    refine st_obj0 (by kernel_rfl) hob rfl (by simp) fun w24 hw24 ho24 => ?_
    have := round (Ext.rfl' W) hw24 (by rw [hN, List.drop_length]; exact ho24)
    rw [hN, List.take_length] at this
    exact this
  · have hN : lineN rest = (upTo 10 rest).length + 1 := by
      unfold lineN
      rw [if_pos h3]
    have hi1 : i64 (Go.Lib.indexByte rest 10 + 1) = ((lineN rest : Nat) : Int) := by
      rw [h1, i64_id] <;> omega
    refine ifD (fun _ => ?_) (fun h => absurd (show Go.Lib.indexByte rest 10 ≥ 0 by omega) h)
    refine held_x fun w7 hx7 => ?_
    have ho7 := hob.ext hx7
    rw [hi1]
    refine ⟨?_, ?_⟩
    · refine ld_obj0 (val := sval) (y := rest) (by kernel_rfl) ho7 rfl ⟨trivial, ?_⟩
      refine opH_of _ (fun v _ => sub_str_h (n := lineN rest) (by kernel_rfl) rfl hN2 rfl) ?_
      refine ld_obj0 (val := sval) (y := rest) (by kernel_rfl) ho7 rfl ⟨trivial, ?_⟩
      refine opH_of _ (fun v _ => sub_str_l (m := lineN rest) (by kernel_rfl) rfl hN2 rfl) ?_
      exact st_obj0 (by kernel_rfl) ho7 rfl (by simp) fun w13 hw13 ho13 => ⟨trivial, round hx7 hw13 ho13⟩
    · refine ld_obj0 (val := sval) (y := rest) (by kernel_rfl) ho7 rfl ⟨trivial, ?_⟩
      refine opH_of _ (fun v _ => sub_str_l (m := lineN rest) (by kernel_rfl) rfl hN2 rfl) ?_
      refine ld_obj0 (val := sval) (y := rest) (by kernel_rfl) ho7 rfl ⟨trivial, ?_⟩
      refine opH_of _ (fun v _ => sub_str_h (n := lineN rest) (by kernel_rfl) rfl hN2 rfl) ?_
      exact st_obj0 (by kernel_rfl) ho7 rfl (by simp) fun w13 hw13 ho13 => ⟨trivial, round hx7 hw13 ho13⟩
end Go.Chg
/-
  A text of events, read line by line.
-/
set_option maxRecDepth 20000
set_option linter.unusedVariables false
namespace Go.Chg
open Go.Vc
open Go.RowKit (Below)
variable {w : World} {s x y : List UInt8} {e : ApiEvent}
/-! ### What a line tells -/
open Classical in
/-- The event of a line, if there is one. -/
noncomputable def parseE (x : List UInt8) : Option ApiEvent := if h : ∃ e, EvOk e ∧ lineE e = x then some h.choose else none
def skipL (x : List UInt8) : Bool := decide ((upTo 10 x).length < x.length) && (decide (upTo 10 x = []) || decide ((upTo 10 x).head? = some 35))
/-- No line; a line that tells nothing; an event's. -/
noncomputable def cls (x : List UInt8) : Option (Option ApiEvent) := if skipL x = true then some none else if (upTo 10 x).length < x.length then (parseE (upTo 10 x)).map some else none
def fine (l : List (List UInt8)) : Prop := ∀ y ∈ l, cls y ≠ none
noncomputable def evsOf (l : List (List UInt8)) : List ApiEvent := l.filterMap fun y => (cls y).join
def UQs (l : List (List UInt8)) : Prop := ∀ y ∈ l, ∀ e, cls y = some (some e) → ∀ e', EvOk e' → lineE e' = upTo 10 y → e' = e
noncomputable def badAt : List (List UInt8) → Nat → Option Nat
  | [], _ => none
  | y :: r, n => match cls y with
    | none => some n
    | some _ => badAt r (n + 1)
theorem badAt_on {r : List (List UInt8)} {n : Nat} (h : cls y ≠ none) : badAt (y :: r) n = badAt r (n + 1) := by
  cases hc : cls y with
  | none => exact absurd hc h
  | some v => rw [badAt, hc]
theorem badAt_fine : ∀ {l : List (List UInt8)} {r : List (List UInt8)} {n : Nat}, fine l → badAt (l ++ r) n = badAt r (n + l.length)
  | [], r, n, _ => rfl
  | y :: l, r, n, h => by
    show badAt (y :: (l ++ r)) n = _
    rw [badAt_on (h y (by simp)), badAt_fine fun z hz => h z (by simp [hz]), List.length_cons, show n + 1 + l.length = n + (l.length + 1) from by omega]
theorem badAt_bad {r : List (List UInt8)} {n : Nat} (h : cls y = none) : badAt (y :: r) n = some n := by
  unfold badAt
  rw [h]
theorem evsOf_app (l m : List (List UInt8)) : evsOf (l ++ m) = evsOf l ++ evsOf m := List.filterMap_append
theorem evsOf_len (l : List (List UInt8)) : (evsOf l).length ≤ l.length := List.length_filterMap_le _ _
theorem evsOf_skip {l : List (List UInt8)} (h : cls y = some none) : evsOf (l ++ [y]) = evsOf l := by
  rw [evsOf_app]
  simp [evsOf, h]
theorem evsOf_ev {l : List (List UInt8)} (h : cls y = some (some e)) : evsOf (l ++ [y]) = evsOf l ++ [e] := by
  rw [evsOf_app]
  simp [evsOf, h]
theorem fine_app {l : List (List UInt8)} (h : fine l) (hy : cls y ≠ none) : fine (l ++ [y]) := fun z hz => by
  rcases List.mem_append.1 hz with hz | hz
  · exact h z hz
  · rw [List.mem_singleton] at hz; subst hz; exact hy
theorem UQs_app {l : List (List UInt8)} (h : UQs l) (hy : ∀ e, cls y = some (some e) → ∀ e', EvOk e' → lineE e' = upTo 10 y → e' = e) : UQs (l ++ [y]) := fun z hz => by
  rcases List.mem_append.1 hz with hz | hz
  · exact h z hz
  · rw [List.mem_singleton] at hz; subst hz; exact hy
theorem cls_skip (h : skipL y = true) : cls y = some none := if_pos h
theorem cls_cut (hs : skipL y = false) (h : ¬ (upTo 10 y).length < y.length) : cls y = none := by
  unfold cls
  rw [if_neg (by rw [hs]; decide), if_neg h]
theorem parE_fail {r : ApiEvent × Int} (h : ParE x r) (h0 : r.2 ≠ 0) : parseE x = none := by
  rcases h with ⟨_, _, h⟩ | ⟨h, _⟩
  · unfold parseE
    rw [dif_neg]
    rintro ⟨e, he, hl⟩
    exact h e he hl
  · exact absurd h h0
theorem parE_ok {r : ApiEvent × Int} (h : ParE x r) (h0 : r.2 = 0) : parseE x = some r.1 ∧ EvOk r.1 ∧ lineE r.1 = x ∧ ∀ e', EvOk e' → lineE e' = x → e' = r.1 := by
  rcases h with ⟨h, _⟩ | ⟨_, h1, h2, h3⟩
  · omega
  · have hex : ∃ e, EvOk e ∧ lineE e = x := ⟨_, h1, h2⟩
    unfold parseE
    rw [dif_pos hex]
    exact ⟨by rw [h3 _ hex.choose_spec.1 hex.choose_spec.2], h1, h2, fun e' a b => (h3 e' a b).symm⟩
theorem cls_fail {r : ApiEvent × Int} (hs : skipL y = false) (h : ParE (upTo 10 y) r) (h0 : r.2 ≠ 0) : cls y = none := by
  unfold cls
  rw [if_neg (by rw [hs]; decide), parE_fail h h0]
  split <;> rfl
theorem cls_ok {r : ApiEvent × Int} (hs : skipL y = false) (hlt : (upTo 10 y).length < y.length) (h : ParE (upTo 10 y) r) (h0 : r.2 = 0) : cls y = some (some r.1) ∧ ∀ e, cls y = some (some e) → ∀ e', EvOk e' → lineE e' = upTo 10 y → e' = e := by
  obtain ⟨h1, _, _, h4⟩ := parE_ok h h0
  have e1 : cls y = some (some r.1) := by
    unfold cls
    rw [if_neg (by rw [hs]; decide), if_pos hlt, h1]
    rfl
  refine ⟨e1, fun e he e' a b => ?_⟩
  rw [e1] at he
  rw [← Option.some.inj (Option.some.inj he)]
  exact h4 e' a b
/-! ### What a text is read as -/
def ReadR (s : List UInt8) (r : Sl × Int × Int) (w : World) : Prop :=
  match badAt (linesL s) 0 with
  | none => r.2 = (0, 0) ∧ IsSl eApiEvent w r.1 (evsOf (linesL s)) ∧ fine (linesL s) ∧ UQs (linesL s)
  | some k => r = (Sl.nil, ((k + 1 : Nat) : Int), 3)
theorem kp_of {b : Nat} {w w' : World} {X : Prop} (h : w'.heap[b]? = w.heap[b]?) (x : X) : kp b w w' X := ⟨fun _ => h, x⟩
theorem body_of {g : Nat} (h : bodyOk Pr g = true) : ∃ fn, Pr.funcs[g]? = some fn ∧ fn.body.isSome = true := by
  unfold bodyOk at h
  split at h
  · rename_i fn hg
    exact ⟨fn, hg, h⟩
  · cases h
theorem script_Read_spec {K : Sl × Int × Int → World → Prop} (hU : Utf8T w) (hC : ConvT w) (hE : ErrT w) (hl : s.length ≤ 1000000) (hll : ∀ x ∈ linesL s, x.length ≤ 20000) (hK : ∀ r w', ReadR s r w' → Ext w w' → K r w') : script_Read s K w := by
  unfold script_Read
  refine new_x (Ext.rfl' w) fun b1 w2 g1 l1 hx n1 => new_x hx fun b3 w4 g3 l3 hx n3 => new_x hx fun b5 w6 g5 l5 hx n5 => new_x hx fun b7 w8 g7 l7 hx n7 => new_x hx fun b9 w10 g9 l9 hx n9 => wr_x hx g9 fun w11 hx hw11 => ?_
  have d3 : w2.heap.size ≤ b3 := by have := n3.1; omega
  have d5 : w4.heap.size ≤ b5 := by have := n5.1; omega
  have d7 : w6.heap.size ≤ b7 := by have := n7.1; omega
  have d9 : w8.heap.size ≤ b9 := by have := n9.1; omega
  have s11 := hw11.size
  refine strings_Lines_calls (strings_Lines_spec fun a w13 ha hxa hoa => kp_ext hxa (kp_ext hxa (kp_ext hxa (kp_ext hxa (kp_ext hxa ?_)))))
  have la := hoa.lt
  have hx := hx.trans' hxa
  obtain ⟨fn, hfn, hbody⟩ := body_of (g := fid_strings_Lines_1) (by kernel_rfl)
  refine ⟨fid_strings_Lines_1, #[.pointer (some a)], fn, rfl, hfn, hbody, fun D wD hD L w15 hL => ?_⟩
  have eD : D = w13.heap.size := hD.1
  have eL : L = wD.heap.size := hL.1
  have lD := hD.lt
  have lL := hL.lt
  have gL : w.heap.size ≤ L := by have := hx.size; omega
  have gD : w.heap.size ≤ D := by have := hx.size; omega
  have ga : w.heap.size ≤ a.block := by have := hx.size; have := hxa.size; omega
  have hx15 := (hx.trans' (Ext.new hD)).trans' (Ext.new hL)
  have ho15 := (hoa.ext (Ext.new hD)).ext (Ext.new hL)
  obtain ⟨B, hB⟩ : ∃ B, B = w15.heap.size := ⟨_, rfl⟩
  have lens := linesL_len s
  -- the order of the blocks
  have z : b1 < b3 ∧ b3 < b5 ∧ b5 < b7 ∧ b7 < b9 ∧ b9 < a.block ∧ a.block < D ∧ D < L ∧ L < B := by omega
  obtain ⟨z1, z3, z5, z7, z9, za, zD, zL⟩ := z
  refine ⟨fun pre _ _ _ out n W => Ext w W ∧ B ≤ W.heap.size ∧ OwnSl eApiEvent W B out (evsOf pre) ∧ n = (pre.length : Int) ∧ fine pre ∧ UQs pre,
    fun z1 z2 z3 W => Ext w W ∧ z1 = Sl.nil ∧ z3 = 3 ∧ ∃ pre x post, linesL s = pre ++ x :: post ∧ fine pre ∧ cls x = none ∧ z2 = ((pre.length + 1 : Nat) : Int),
    fun pre x => ∃ post, linesL s = pre ++ x :: post, fun xs => xs = linesL s, fun W W' => W.grownBy W' (some a.block), fun W W' => W'.heap[a.block]? = W.heap[a.block]?, ?_, ?_, ?_, ?_, ?_, ?_, ?_, ?_⟩
  · exact ⟨hx15, by omega, OwnSl.nil _ _ _, rfl, (fun y hy => by cases hy), (fun y hy => by cases hy)⟩
  · intro W W' hg
    have ne : ∀ b, b ≠ a.block → some b ≠ some a.block := fun b h e => h (Option.some.inj e)
    exact kp_grown hg (ne _ (by omega)) (kp_grown hg (ne _ (by omega)) (kp_grown hg (ne _ (by omega)) (kp_grown hg (ne _ (by omega)) (kp_grown hg (ne _ (by omega)) (kp_grown hg (ne _ (by omega)) (kp_grown hg (ne _ (by omega)) trivial))))))
  · rintro pre _ _ _ out n W W' ⟨h1, h2, h3, h4⟩ hg
    exact ⟨Ext.grown h1 hg ga, Nat.le_trans h2 hg.size, h3.grownB hg fun c hc e => by have := h3.ge c hc; cases e; omega, h4⟩
  · rintro z1 z2 z3 W W' ⟨h1, h2⟩ hg
    exact ⟨Ext.grown h1 hg ga, h2⟩
  · -- a round
    rintro pre y ⟨post, hpost⟩ t19 t20 t21 out n W ⟨hxW, hBW, ho, hn, hf, hu⟩
    have hmem : y ∈ linesL s := by rw [hpost]; simp
    obtain ⟨shape, yne, ylen⟩ := linesL_mem hmem
    have yl := hll y hmem
    have plen : pre.length + 1 ≤ s.length := by
      have := congrArg List.length hpost
      rw [List.length_append, List.length_cons] at this
      omega
    have elen := evsOf_len pre
    have hn1 : i64 (n + 1) = ((pre.length + 1 : Nat) : Int) := by rw [hn, i64_id] <;> omega
    refine kp_same (wr_of fun w27 hw27 => ?_)
    -- what stays through the round
    obtain ⟨St, hSt⟩ : ∃ St : World → Prop, St = fun v => Ext w v ∧ W.heap.size ≤ v.heap.size ∧ v.heap[a.block]? = W.heap[a.block]? ∧ v.heap[D]? = W.heap[D]? ∧ v.heap[L]? = w27.heap[L]? ∧ OwnSl eApiEvent v B out (evsOf pre) := ⟨_, rfl⟩
    have S27 : St w27 := by
      rw [hSt]
      exact ⟨Below.wr hxW gL hw27, Nat.le_of_eq hw27.size.symm, hw27.block _ (by omega), hw27.block _ (by omega), rfl, ho.wrO hw27 zL⟩
    have SE : ∀ {v v' : World}, St v → Ext v v' → St v' := fun {v v'} h hx' => by
      rw [hSt] at h ⊢
      obtain ⟨h1, h2, h3, h4, h5, h6⟩ := h
      have := hx'.size
      exact ⟨h1.trans' hx', by omega, (hx'.block _ (by omega)).trans h3, (hx'.block _ (by omega)).trans h4, (hx'.block _ (by omega)).trans h5, h6.ext hx'⟩
    have SW : ∀ {b : Nat} {v v' : World}, w.heap.size ≤ b → b < a.block → St v → Wr b v v' → St v' := fun {b v v'} hb hlt h hw => by
      rw [hSt] at h ⊢
      obtain ⟨h1, h2, h3, h4, h5, h6⟩ := h
      have := hw.size
      exact ⟨Below.wr h1 hb hw, by omega, (hw.block _ (by omega)).trans h3, (hw.block _ (by omega)).trans h4, (hw.block _ (by omega)).trans h5, h6.wrO hw (by omega)⟩
    have SN : ∀ {b : Nat} {v v' : World}, W.heap.size ≤ b → St v → Wr b v v' → St v' := fun {b v v'} hb h hw => by
      rw [hSt] at h ⊢
      obtain ⟨h1, h2, h3, h4, h5, h6⟩ := h
      have := hw.size
      have := hxW.size
      exact ⟨Below.wr h1 (by omega) hw, by omega, (hw.block _ (by omega)).trans h3, (hw.block _ (by omega)).trans h4, (hw.block _ (by omega)).trans h5, h6.wrN hw (n := W.heap.size) (fun c hc => ho.lt c hc) hb⟩
    have SX : ∀ {v : World}, St v → Ext w v := fun h => by rw [hSt] at h; exact h.1
    -- where the round goes on
    have go : ∀ {v : World} {t1 t2 : Sl} {n1 n2 : Int} {out' : Sl}, Ext w v → W.heap.size ≤ v.heap.size → v.heap[a.block]? = W.heap[a.block]? → v.heap[D]? = W.heap[D]? → v.heap[L]? = w27.heap[L]? → OwnSl eApiEvent v B out' (evsOf (pre ++ [y])) → fine (pre ++ [y]) → UQs (pre ++ [y]) →
        kp L w27 v (kp D W v (wrM L (fun w32 => ((Ext w w32 ∧ B ≤ w32.heap.size ∧ OwnSl eApiEvent w32 B out' (evsOf (pre ++ [y])) ∧ i64 (n + 1) = (((pre ++ [y]).length : Nat) : Int) ∧ fine (pre ++ [y]) ∧ UQs (pre ++ [y])) ∧ w32.heap[a.block]? = W.heap[a.block]?)) v)) := fun {v t1 t2 n1 n2 out'} h1 h2 h3 h4 h5 h6 h7 h8 =>
      kp_of h5 (kp_of h4 (wr_of fun w32 hw32 => ⟨⟨Below.wr h1 gL hw32, by have := hw32.size; omega, h6.wrO hw32 zL, by rw [hn1]; simp, h7, h8⟩, (hw32.block _ (by omega)).trans h3⟩))
    have goSkip : ∀ {v : World} {t1 t2 : Sl} {n1 n2 : Int}, St v → cls y = some none →
        kp L w27 v (kp D W v (wrM L (fun w32 => ((Ext w w32 ∧ B ≤ w32.heap.size ∧ OwnSl eApiEvent w32 B out (evsOf (pre ++ [y])) ∧ i64 (n + 1) = (((pre ++ [y]).length : Nat) : Int) ∧ fine (pre ++ [y]) ∧ UQs (pre ++ [y])) ∧ w32.heap[a.block]? = W.heap[a.block]?)) v)) := fun {v t1 t2 n1 n2} h hc => by
      rw [hSt] at h
      obtain ⟨h1, h2, h3, h4, h5, h6⟩ := h
      exact go (t1 := t1) (t2 := t2) (n1 := n1) (n2 := n2) h1 h2 h3 h4 h5 (by rw [evsOf_skip hc]; exact h6) (fine_app hf (by rw [hc]; simp)) (UQs_app hu fun e he => by rw [hc] at he; cases he)
    have leave : ∀ {v : World}, St v → cls y = none → heldM (fun S42 w41 => wrM b1 (fun w43 => (S42 w43) ∧ (wrM b3 (fun w44 => (S42 w44) ∧ (wrM b5 (fun w45 => (S42 w45) ∧ (kp L w27 w45 <| kp D W w45 <| wrM L (fun w46 =>
        ((Ext w w46 ∧ Sl.nil = Sl.nil ∧ (3 : Int) = 3 ∧ ∃ pre x post, linesL s = pre ++ x :: post ∧ fine pre ∧ cls x = none ∧ i64 (n + 1) = ((pre.length + 1 : Nat) : Int)) ∧ w46.heap[a.block]? = W.heap[a.block]?)) w45)) w44)) w43)) w41) v := fun {v} h hc =>
      held_x fun w41 hx41 => wr_of fun w43 hw43 => ⟨trivial, wr_of fun w44 hw44 => ⟨trivial, wr_of fun w45 hw45 => ⟨trivial, by
        have h := SW g5 (by omega) (SW g3 (by omega) (SW g1 (by omega) (SE h hx41) hw43) hw44) hw45
        rw [hSt] at h
        obtain ⟨h1, h2, h3, h4, h5, h6⟩ := h
        exact kp_of h5 (kp_of h4 (wr_of fun w46 hw46 => ⟨⟨Below.wr h1 gL hw46, rfl, rfl, pre, y, post, hpost, hf, hc, hn1⟩, (hw46.block _ (by omega)).trans h3⟩))⟩⟩⟩
    refine wr_of fun w28 hw28 => ?_
    have S28 := SW g9 (by omega) S27 hw28
    refine strings_CutSuffix_calls (CutSuffix_spec (by omega) shape (kp_same (kp_same (kp_same (kp_same (kp_same ?_))))))
    refine ⟨fun v => St v ∧ skipL y = false, ?_, ?_⟩
    · refine ifB_of (fun hends => ?_) (fun hends => ⟨S28, by unfold skipL; rw [show decide ((upTo 10 y).length < y.length) = false from hends]; rfl⟩)
      have hends : decide ((upTo 10 y).length < y.length) = true := hends
      refine ifB_of (fun he => ?_) (fun he => ?_)
      · rw [strEq_eq, decide_eq_true_eq] at he
        exact goSkip (t1 := t19) (t2 := t19) (n1 := t20) (n2 := t21) S28 (cls_skip (by unfold skipL; rw [hends, decide_eq_true he]; rfl))
      · rw [strEq_eq, decide_eq_false_iff_not] at he
        have hpos : 0 < (upTo 10 y).length := List.length_pos_iff.2 he
        have hh : (upTo 10 y).head? = some (upTo 10 y)[0] := by rw [List.head?_eq_getElem?, List.getElem?_eq_getElem hpos]
        refine idx_str 0 (by kernel_rfl) rfl hpos ?_
        refine ifEq (fun h35 => ?_) (fun h35 => ?_)
        · have h35 : (upTo 10 y)[0] = 35 := UInt8.toNat.inj (by have : ((upTo 10 y)[0].toNat : Int) = 35 := h35; show (upTo 10 y)[0].toNat = 35; omega)
          exact goSkip (t1 := t19) (t2 := t19) (n1 := t20) (n2 := t21) S28 (cls_skip (by unfold skipL; rw [hends, hh, h35]; simp))
        · refine ⟨S28, ?_⟩
          have e3 : decide ((upTo 10 y).head? = some 35) = false := by
            rw [hh, decide_eq_false_iff_not]
            intro e
            exact h35 (by show ((upTo 10 y)[0].toNat : Int) = 35; rw [Option.some.inj e]; rfl)
          unfold skipL
          rw [decide_eq_false he, e3]
          simp
    rintro w35 ⟨S35, hsk⟩
    have hxv := SX S35
    have ul := upTo_le 10 y
    refine script_Parse_calls (script_Parse_spec (hU.ext hxv) (hC.ext hxv) (hE.ext hxv) (show (upTo 10 y).length ≤ 20000 by omega) fun r w37 hr hx37 => kp_ext hx37 (kp_ext hx37 (kp_ext hx37 (kp_ext hx37 (kp_ext hx37 ?_)))))
    have S37 := SE S35 hx37
    have g37 : W.heap.size ≤ w37.heap.size := by rw [hSt] at S37; exact S37.2.1
    refine new_of fun b38 w39 hn39 => wr_of fun w40 hw40 => ?_
    have e38 : b38 = w37.heap.size := hn39.1
    have S40 := SN (by omega) (SE S37 (Ext.new hn39)) hw40
    refine ifNe (fun h0 => leave S40 (cls_fail hsk hr h0)) (fun h0 => ?_)
    refine ifNot (ifB_of (fun hends => ?_) (fun hends => leave S40 (cls_cut hsk (of_decide_eq_false hends))))
    obtain ⟨hc, huq⟩ := cls_ok hsk (of_decide_eq_true hends) hr h0
    refine lit1_ty (E := eApiEvent) (x := r.1) 112 w40.heap.size (by kernel_rfl) (by decide) (fun w => by kernel_rfl) (Nat.le_refl _) fun t53 w54 _ ht53 hx54 => kp_ext hx54 (kp_ext hx54 (kp_ext hx54 (kp_ext hx54 (kp_ext hx54 (kp_ext hx54 ?_)))))
    have S54 := SE S40 hx54
    rw [hSt] at S54
    obtain ⟨h1, h2, h3, h4, h5, h6⟩ := S54
    have own : ∀ c, some c = out.blk → B ≤ c ∧ c < W.heap.size := fun c hc => ⟨ho.ge c hc.symm, ho.lt c hc.symm⟩
    refine app_ty (E := eApiEvent) 112 (by kernel_rfl) (by kernel_rfl) h6 ht53.is (by simp only [List.length_singleton]; omega) (by omega) (by decide) fun s' w56 ho' hg => ?_
    have kps : ∀ {b : Nat} {X : Prop}, b < B → X → kp b w54 w56 X := fun hb x => kp_grown hg (fun e => by have := (own _ e).1; omega) x
    refine kp_grown hg (fun e => by have := (own _ e).2; omega) (kps (by omega) (kps (by omega) (kps (by omega) (kps (by omega) (kps (by omega) ?_)))))
    refine wr_of fun w57 hw57 => ?_
    have := hg.size
    have := hw57.size
    have keep : ∀ b, b < B → b ≠ b7 → w57.heap[b]? = w54.heap[b]? := fun b hb hb7 => (hw57.block b hb7).trans (hg.block b (by omega) (fun e => by have := (own _ e).1; omega))
    refine go (t1 := t19) (t2 := t19) (n1 := t20) (n2 := t21) (Below.wr (Ext.own h1 h6 (by have := hx15.size; omega) hg) g7 hw57) (by omega) ((keep _ (by omega) (by omega)).trans h3) ((keep _ (by omega) (by omega)).trans h4) ((keep _ (by omega) (by omega)).trans h5) ?_ (fine_app hf (by rw [hc]; simp)) (UQs_app hu huq)
    rw [evsOf_ev hc]
    exact ho'.wrO hw57 (by omega)
  · -- the iterator
    intro Y Inv InvX i0 iS iX iE iY
    refine strings_Lines_1_calls (yield := Y) (c_x0 := a) (Lines_1_spec (Inv := Inv) (InvX := InvX) ho15 hl i0 (fun pre W W' hi hg => iS pre W W' hi hg) (fun W W' h => h) iY (fun pre x post h => ⟨post, h⟩) fun w' h => ?_)
    exact h.imp (fun h => ⟨_, rfl, h⟩) id
  · -- behind all lines
    rintro xs rfl t19 t20 t21 out n W ⟨hxW, hBW, ho, hn, hf, hu⟩ W' hw hsh
    have hx1 := Below.wr hxW gL hw
    refine wr_x hx1 g1 fun v1 hx1 hw1 => wr_x hx1 g3 fun v3 hx1 hw3 => wr_x hx1 g5 fun v5 hx1 hw5 => ⟨?_, wr_x hx1 gD fun v6 hx1 hw6 => hK _ _ ?_ hx1⟩
    · exact (hw5.block D (by omega)).trans ((hw3.block D (by omega)).trans ((hw1.block D (by omega)).trans hsh))
    · unfold ReadR
      have hb := badAt_fine (r := []) (n := 0) hf
      rw [List.append_nil] at hb
      rw [hb]
      exact ⟨rfl, (((((ho.wrO hw zL).wrO hw1 (by omega)).wrO hw3 (by omega)).wrO hw5 (by omega)).wrO hw6 (by omega)).is, hf, hu⟩
  · -- where a line is none
    rintro z1 z2 z3 W ⟨hxW, rfl, rfl, pre, y, post, hpost, hf, hc, rfl⟩ W' hw hsh
    refine ⟨hsh, wr_x (Below.wr hxW gL hw) gD fun v hx1 _ => hK _ _ ?_ hx1⟩
    unfold ReadR
    rw [hpost, badAt_fine hf, badAt_bad hc, Nat.zero_add]
end Go.Chg
