/-
  The lines of a text: 'strings.Lines', a loop over it, and one line's end.
-/
import Derived.Test.YtnnoalpkldpjfaaGreatDoorSpScr4
import Derived.Test.YtnnoalpkldpjfaaGreatDoorRng
set_option maxRecDepth 20000
set_option linter.unusedVariables false
namespace Go.Chg
open Go.Vc
open Go.RowKit (Below)
variable {w : World} {s x : List UInt8} {q : Addr}
/-! ### Lines -/
theorem upTo_le (c : UInt8) : ∀ s : List UInt8, (upTo c s).length ≤ s.length
  | [] => Nat.le_refl _
  | x :: r => by
    unfold upTo
    split
    · exact Nat.zero_le _
    · simp only [List.length_cons]
      have := upTo_le c r
      omega
theorem upTo_take (c : UInt8) : ∀ s : List UInt8, s.take (upTo c s).length = upTo c s
  | [] => rfl
  | x :: r => by
    unfold upTo
    split
    · rfl
    · rw [List.length_cons, List.take_succ_cons, upTo_take c r]
theorem upTo_not (c : UInt8) : ∀ s : List UInt8, ∀ y ∈ upTo c s, y ≠ c
  | [], y, h => by simp [upTo] at h
  | x :: r, y, h => by
    unfold upTo at h
    split at h
    · cases h
    · rename_i hx
      rcases List.mem_cons.1 h with rfl | h
      · exact hx
      · exact upTo_not c r y h
/-- Where it ends ahead of the text's end, the sign itself comes. -/
theorem upTo_at (c : UInt8) : ∀ s : List UInt8, (upTo c s).length < s.length → s[(upTo c s).length]? = some c
  | [], h => by simp at h
  | x :: r, h => by
    unfold upTo at h ⊢
    split
    · rename_i hx
      simp [hx]
    · rename_i hx
      rw [if_neg hx] at h
      simp only [List.length_cons] at h ⊢
      rw [List.getElem?_cons_succ]
      exact upTo_at c r (by omega)
theorem upTo_clean (c : UInt8) : ∀ {s r : List UInt8}, (∀ y ∈ s, y ≠ c) → (r = [] ∨ ∃ t, r = c :: t) → upTo c (s ++ r) = s
  | [], r, _, hr => by
    rcases hr with rfl | ⟨t, rfl⟩
    · rfl
    · simp [upTo]
  | x :: s, r, h, hr => by
    show upTo c (x :: (s ++ r)) = _
    unfold upTo
    rw [if_neg (h x (by simp)), upTo_clean c (fun y hy => h y (by simp [hy])) hr]
/-- How far the first line goes. -/
def lineN (s : List UInt8) : Nat := if (upTo 10 s).length < s.length then (upTo 10 s).length + 1 else s.length
theorem lineN_le (s : List UInt8) : lineN s ≤ s.length := by
  unfold lineN
  split <;> omega
theorem lineN_pos (h : s ≠ []) : 1 ≤ lineN s := by
  have : 0 < s.length := List.length_pos_iff.2 h
  unfold lineN
  split <;> omega
def linesF : Nat → List UInt8 → List (List UInt8)
  | 0, _ => []
  | n + 1, s => if s = [] then [] else s.take (lineN s) :: linesF n (s.drop (lineN s))
def linesL (s : List UInt8) : List (List UInt8) := linesF s.length s
theorem linesF_eq : ∀ (n m : Nat) (s : List UInt8), s.length ≤ n → s.length ≤ m → linesF n s = linesF m s
  | 0, m, s, hn, _ => by
    have : s = [] := List.length_eq_zero_iff.1 (by omega)
    subst this
    cases m <;> simp [linesF]
  | n + 1, 0, s, _, hm => by
    have : s = [] := List.length_eq_zero_iff.1 (by omega)
    subst this
    simp [linesF]
  | n + 1, m + 1, s, hn, hm => by
    simp only [linesF]
    split
    · rfl
    · rename_i h
      have h1 := lineN_pos h
      have h2 := lineN_le s
      rw [linesF_eq n m _ (by rw [List.length_drop]; omega) (by rw [List.length_drop]; omega)]
theorem linesL_nil : linesL [] = [] := rfl
theorem linesL_cons (h : s ≠ []) : linesL s = s.take (lineN s) :: linesL (s.drop (lineN s)) := by
  unfold linesL
  have h1 := lineN_pos h
  have h2 := lineN_le s
  obtain ⟨n, hn⟩ : ∃ n, s.length = n + 1 := ⟨s.length - 1, by omega⟩
  rw [hn, linesF, if_neg h, linesF_eq n (s.drop (lineN s)).length _ (by rw [List.length_drop]; omega) (Nat.le_refl _)]
/-- What a line is. -/
theorem line_shape (h : s ≠ []) : upTo 10 (s.take (lineN s)) = upTo 10 s ∧ ((upTo 10 s).length < s.length ∧ s.take (lineN s) = upTo 10 s ++ [10] ∨ ¬ (upTo 10 s).length < s.length ∧ s.take (lineN s) = s ∧ upTo 10 s = s) := by
  have hle := upTo_le 10 s
  have ht := upTo_take 10 s
  by_cases hlt : (upTo 10 s).length < s.length
  · have e : s.take (lineN s) = upTo 10 s ++ [10] := by
      unfold lineN
      rw [if_pos hlt, List.take_add_one, ht, upTo_at 10 s hlt]
      rfl
    refine ⟨?_, .inl ⟨hlt, e⟩⟩
    rw [e]
    exact upTo_clean 10 (upTo_not 10 s) (.inr ⟨[], rfl⟩)
  · have e : s.take (lineN s) = s := by
      unfold lineN
      rw [if_neg hlt, List.take_length]
    have e2 : upTo 10 s = s := by
      rw [← ht, List.take_of_length_le (by omega)]
    rw [e]
    exact ⟨rfl, .inr ⟨hlt, rfl, e2⟩⟩
theorem linesF_mem : ∀ (n : Nat) (s x : List UInt8), x ∈ linesF n s → (x = upTo 10 x ++ [10] ∨ x = upTo 10 x) ∧ x ≠ [] ∧ x.length ≤ s.length
  | 0, s, x, h => by cases h
  | n + 1, s, x, h => by
    simp only [linesF] at h
    split at h
    · cases h
    · rename_i hne
      have h2 := lineN_le s
      rcases List.mem_cons.1 h with rfl | h
      · obtain ⟨e1, e2⟩ := line_shape hne
        have h1 := lineN_pos hne
        refine ⟨?_, fun e => ?_, by rw [List.length_take]; omega⟩
        · rcases e2 with ⟨_, e2⟩ | ⟨_, e2, e3⟩
          · left; rw [e1]; exact e2
          · right; rw [e1, e2]; exact e3.symm
        · have := congrArg List.length e
          rw [List.length_take, List.length_nil] at this
          have : 0 < s.length := List.length_pos_iff.2 hne
          omega
      · obtain ⟨a, b, c⟩ := linesF_mem n _ x h
        exact ⟨a, b, by rw [List.length_drop] at c; omega⟩
theorem linesL_mem (h : x ∈ linesL s) : (x = upTo 10 x ++ [10] ∨ x = upTo 10 x) ∧ x ≠ [] ∧ x.length ≤ s.length := linesF_mem _ _ _ h
theorem linesF_len : ∀ (n : Nat) (s : List UInt8), (linesF n s).length ≤ n
  | 0, s => Nat.le_refl _
  | n + 1, s => by
    simp only [linesF]
    split
    · exact Nat.zero_le _
    · simp only [List.length_cons]
      have := linesF_len n (s.drop (lineN s))
      omega
theorem linesL_len (s : List UInt8) : (linesL s).length ≤ s.length := linesF_len _ _
/-! ### Package 'strings' -/
theorem strings_Lines_spec {K : Value → World → Prop} (hK : ∀ a w', a.block = w.heap.size → Ext w w' → Vc.Obj w' a [sval s] → K (.func (.func fid_strings_Lines_1) #[] #[.pointer (some a)]) w') : strings_Lines s K w := by
  unfold strings_Lines
  exact box_ty fun a w' ha hx ho => hK a w' ha hx ho
theorem CutSuffix_spec {K : List UInt8 × Bool → World → Prop} (hl : s.length ≤ 1000000) (h : s = upTo 10 s ++ [10] ∨ s = upTo 10 s) (hK : K (upTo 10 s, decide ((upTo 10 s).length < s.length)) w) : strings_CutSuffix s [10] K w := by
  unfold strings_CutSuffix
  refine internal_stringslite_CutSuffix_calls ?_
  unfold internal_stringslite_CutSuffix
  refine internal_stringslite_HasSuffix_calls ?_
  unfold internal_stringslite_HasSuffix
  have hnot := upTo_not 10 s
  have one : (([10] : List UInt8).length : Int) = 1 := rfl
  rw [one]
  rcases h with h | h
  · have hlen : s.length = (upTo 10 s).length + 1 := by
      conv => lhs; rw [h]
      simp
    refine ifD (fun _ => ?_) (fun hge => absurd (show (s.length : Int) ≥ 1 by omega) hge)
    refine sub_str_l (m := (upTo 10 s).length) (by kernel_rfl) (by rw [i64_id] <;> omega) (by omega) ?_
    have hd : s.drop (upTo 10 s).length = [10] := by
      conv => lhs; arg 2; rw [h]
      rw [List.drop_left]
    rw [hd, strEq_eq]
    refine ifB_f rfl ?_
    refine sub_str_h (n := (upTo 10 s).length) (by kernel_rfl) (by rw [i64_id] <;> omega) (by omega) ?_
    rw [upTo_take]
    rw [decide_eq_true (by omega)] at hK
    exact hK
  · have no : ¬ (upTo 10 s).length < s.length := by rw [← h]; omega
    rw [decide_eq_false no, ← h] at hK
    refine ifD (fun hge => ?_) (fun _ => hK)
    have hpos : 1 ≤ s.length := by omega
    refine sub_str_l (m := s.length - 1) (by kernel_rfl) (by rw [i64_id] <;> omega) (by omega) ?_
    have : strEq (s.drop (s.length - 1)) [10] = false := by
      rw [strEq_eq, decide_eq_false_iff_not]
      intro e
      have hm : (10 : UInt8) ∈ s.drop (s.length - 1) := by rw [e]; simp
      have := hnot 10 (by rw [← h]; exact List.mem_of_mem_drop hm)
      exact this rfl
    rw [this]
    exact hK
theorem strings_IndexByte_ty {c : UInt8} {K : Int → World → Prop} (hK : K (Go.Lib.indexByte s c) w) : callV Pr (Value.int .i64) fid_strings_IndexByte #[sval s, .int .u8 (c.toNat : Int)] w K := by
  refine strings_IndexByte_calls ?_
  unfold strings_IndexByte
  exact internal_stringslite_IndexByte_calls (stringslite_IndexByte_spec rfl hK)
/-- The loop over a text's lines, whatever is done with each of them. -/
theorem Lines_1_spec {Y : Value} {Inv : List (List UInt8) → World → Prop} {InvX : World → Prop} {G : List (List UInt8) → List UInt8 → Prop} {Rk : World → World → Prop} {K : Unit → World → Prop}
    (ho : Vc.Obj w q [sval s]) (hl : s.length ≤ 1000000) (h0 : Inv [] w) (hSp : ∀ pre W W', Inv pre W → W.grownBy W' (some q.block) → Inv pre W') (hRk : ∀ W W', Rk W W' → W'.heap[q.block]? = W.heap[q.block]?)
    (hY : ∀ pre x W (K : Bool → World → Prop), G pre x → Inv pre W → (∀ W', Rk W W' → Inv (pre ++ [x]) W' → K true W') → (∀ W', Rk W W' → InvX W' → K false W') → callF Pr Value.bool Y #[sval x] W K)
    (hG : ∀ pre x post, linesL s = pre ++ x :: post → G pre x) (hK : ∀ w', Inv (linesL s) w' ∨ InvX w' → K () w') : strings_Lines_1 Y q K w := by
  unfold strings_Lines_1
  refine ⟨fun W => ∃ pre rest, linesL s = pre ++ linesL rest ∧ rest.length ≤ s.length ∧ Inv pre W ∧ Vc.Obj W q [sval rest], fun W => match W.cell? q with | some (.string b) => b.size | _ => 0, ⟨[], s, rfl, Nat.le_refl _, h0, ho⟩, ?_⟩
  rintro W ⟨pre, rest, hsp, hle, hi, hob⟩
  have cell : ∀ {W : World} {r : List UInt8}, Vc.Obj W q [sval r] → (match W.cell? q with | some (.string b) => b.size | _ => 0) = r.length := fun {W r} h => by
    have := h.cell (off := 0) (v := sval r) rfl
    rw [show q.add 0 = q from by simp [Addr.add]] at this
    rw [this]
    rfl
  refine ld_obj0 (val := sval) (y := rest) (by kernel_rfl) hob rfl ?_
  refine ifD (fun hpos => ?_) (fun hz => ?_)
  rotate_left
  · have : rest = [] := List.length_eq_zero_iff.1 (by omega)
    subst this
    rw [linesL_nil, List.append_nil] at hsp
    exact hK W (.inl (hsp ▸ hi))
  have hne : rest ≠ [] := by
    rintro rfl
    simp at hpos
  have hN1 := lineN_pos hne
  have hN2 := lineN_le rest
  have hnext : linesL s = pre ++ rest.take (lineN rest) :: linesL (rest.drop (lineN rest)) := by rw [hsp, linesL_cons hne]
  -- a round
  have round : ∀ {W6 W13 : World}, Ext W W6 → Wr q.block W6 W13 → Vc.Obj W13 q [sval (rest.drop (lineN rest))] →
      callF Pr Value.bool Y #[sval (rest.take (lineN rest))] W13 (fun t14 w15 => ifB (!t14) (K () w15) ((∃ pre rest, linesL s = pre ++ linesL rest ∧ rest.length ≤ s.length ∧ Inv pre w15 ∧ Vc.Obj w15 q [sval rest]) ∧
        (match w15.cell? q with | some (.string b) => b.size | _ => 0) < (match W.cell? q with | some (.string b) => b.size | _ => 0))) := fun {W6 W13} hx hw ho13 => by
    have hg : W.grownBy W13 (some q.block) := grown_trans (grown_ext hx _) (grown_wr hw)
    refine hY pre _ W13 _ (hG _ _ _ hnext) (hSp _ _ _ hi hg) (fun W' hr hi' => ?_) (fun W' hr hx' => hK W' (.inr hx'))
    have ho' := ho13.keep (hRk _ _ hr)
    refine ifNot (ifB_t rfl ⟨⟨pre ++ [rest.take (lineN rest)], rest.drop (lineN rest), by rw [hnext]; simp, by rw [List.length_drop]; omega, hi', ho'⟩, ?_⟩)
    rw [cell ho', cell hob, List.length_drop]
    omega
  refine ld_obj0 (val := sval) (y := rest) (by kernel_rfl) hob rfl ?_
  refine strings_IndexByte_ty (c := 10) ?_
  rcases upTo_index 10 rest with ⟨h1, h2⟩ | ⟨h1, h2, h3⟩
  · -- no more line ends
    have hN : lineN rest = rest.length := by
      unfold lineN
      rw [if_neg (by rw [h2]; omega)]
    refine ifD (fun h => absurd h (by omega)) (fun _ => ?_)
    refine ld_obj0 (val := sval) (y := rest) (by kernel_rfl) hob rfl ?_
    refine st_obj0 (by kernel_rfl) hob rfl (by simp) fun w24 hw24 ho24 => ?_
    have := round (Ext.rfl' W) hw24 (by rw [hN, List.drop_length]; exact ho24)
    rw [hN, List.take_length] at this
    exact this
  · have hN : lineN rest = (upTo 10 rest).length + 1 := by
      unfold lineN
      rw [if_pos h3]
    have hi1 : i64 (Go.Lib.indexByte rest 10 + 1) = ((lineN rest : Nat) : Int) := by
      rw [h1, i64_id] <;> omega
    refine ifD (fun _ => ?_) (fun h => absurd (show Go.Lib.indexByte rest 10 ≥ 0 by omega) h)
    refine held_x fun w7 hx7 => ?_
    have ho7 := hob.ext hx7
    rw [hi1]
    refine ⟨?_, ?_⟩
    · refine ld_obj0 (val := sval) (y := rest) (by kernel_rfl) ho7 rfl ⟨trivial, ?_⟩
      refine opH_of _ (fun v _ => sub_str_h (n := lineN rest) (by kernel_rfl) rfl hN2 rfl) ?_
      refine ld_obj0 (val := sval) (y := rest) (by kernel_rfl) ho7 rfl ⟨trivial, ?_⟩
      refine opH_of _ (fun v _ => sub_str_l (m := lineN rest) (by kernel_rfl) rfl hN2 rfl) ?_
      exact st_obj0 (by kernel_rfl) ho7 rfl (by simp) fun w13 hw13 ho13 => ⟨trivial, round hx7 hw13 ho13⟩
    · refine ld_obj0 (val := sval) (y := rest) (by kernel_rfl) ho7 rfl ⟨trivial, ?_⟩
      refine opH_of _ (fun v _ => sub_str_l (m := lineN rest) (by kernel_rfl) rfl hN2 rfl) ?_
      refine ld_obj0 (val := sval) (y := rest) (by kernel_rfl) ho7 rfl ⟨trivial, ?_⟩
      refine opH_of _ (fun v _ => sub_str_h (n := lineN rest) (by kernel_rfl) rfl hN2 rfl) ?_
      exact st_obj0 (by kernel_rfl) ho7 rfl (by simp) fun w13 hw13 ho13 => ⟨trivial, round hx7 hw13 ho13⟩
end Go.Chg
