/-
  Texts in quotes: quote.Quote.
-/
import Derived.Test.YtlapfdcocakloaaGreatDoorSpBld
import Derived.Test.YtlapfdcocakloaaGreatDoorQuo
import Derived.Test.YtlapfdcocakloaaGreatDoorMA
set_option maxRecDepth 20000
set_option linter.unusedVariables false
namespace Go.Chg
open Go.Vc
open Go.RowKit (Below)
variable {w : World} {a : Addr} {l : List UInt8}
theorem hex16 {n : Nat} (h : n < 16) : ((cs16_37011).drop n).take 1 = [dig n] := by
  have key : ∀ m : Fin 16, ((cs16_37011).drop m.val).take 1 = [dig m.val] := by decide +kernel
  exact key ⟨n, h⟩
theorem shR_4 {c : UInt8} : shR .u8 (c.toNat : Int) 4 = ((c.toNat / 16 : Nat) : Int) := by
  have key : ∀ x : Fin 256, shR .u8 (x.val : Int) 4 = ((x.val / 16 : Nat) : Int) := by decide +kernel
  exact key ⟨c.toNat, c.toNat_lt⟩
theorem wrap_up {n : Nat} (h : n < 16) : IntKind.u8.wrap ((n : Int) + 1) = ((n + 1 : Nat) : Int) := by
  have key : ∀ m : Fin 16, IntKind.u8.wrap ((m.val : Int) + 1) = ((m.val + 1 : Nat) : Int) := by decide +kernel
  exact key ⟨n, h⟩
theorem byteAs_spec {c : UInt8} {n : Int} {K : List UInt8 → World → Prop} (hn : n = (c.toNat : Int)) (hK : ∀ w', Ext w w' → K [92, 120, dig (c.toNat / 16), dig (c.toNat % 16)] w') : quote_byteAs n K w := by
  unfold quote_byteAs
  subst hn
  have hlt := c.toNat_lt
  have hl : (cs16_37011).length = 16 := by kernel_rfl
  refine drew_of fun w1 hx => ?_
  rw [shR_4, bAnd_15, wrap_up (by omega), wrap_up (by omega)]
  refine sub_str_lh (m := c.toNat / 16) (n := c.toNat / 16 + 1) (by kernel_rfl) rfl rfl (by omega) (by omega) ?_
  rw [show c.toNat / 16 + 1 - c.toNat / 16 = 1 by omega, hex16 (by omega)]
  refine cat_str (by simp) ?_
  refine sub_str_lh (m := c.toNat % 16) (n := c.toNat % 16 + 1) (by kernel_rfl) rfl rfl (by omega) (by omega) ?_
  rw [show c.toNat % 16 + 1 - c.toNat % 16 = 1 by omega, hex16 (by omega)]
  exact cat_str (by simp) (hK _ hx)
theorem escape_spec {K : List UInt8 → World → Prop} (h : l ≠ []) (hl : l.length ≤ 140737488355328) (hK : ∀ w', Ext w w' → K (qItem l) w') : quote_escape ((uStep l).1 : Int) (l.take (uStep l).2) K w := by
  obtain ⟨c, r, rfl, hc⟩ := rune_cases h
  have hs := uStep_pos (c :: r)
  have hle := uStep_le h
  obtain ⟨m, hm⟩ : ∃ m, (uStep (c :: r)).2 = m + 1 := ⟨(uStep (c :: r)).2 - 1, by omega⟩
  have e0 : (c :: r).take (uStep (c :: r)).2 = c :: r.take m := by rw [hm]; rfl
  have e1 : (c :: r).take 1 = [c] := rfl
  have f1 : (uStep (c :: r)).1 = 34 ∨ (uStep (c :: r)).1 = 92 → qItem (c :: r) = 92 :: (c :: r).take (uStep (c :: r)).2 := fun hq => by
    rcases hc with ⟨h0, h1, h2⟩ | ⟨h0, h1, h2, h3⟩ | ⟨h0, h1, h2, h3⟩
    · rw [uStep_bad h0] at hq; omega
    · rw [uStep_good (by omega)] at hq
      unfold qItem
      rw [if_neg (by omega), if_pos hq, h1]
    · rw [uStep_good (by omega)] at hq; omega
  have f2 : (uStep (c :: r)).1 < 32 ∨ (uStep (c :: r)).1 = 127 ∨ (uStep (c :: r)).1 = 65533 ∧ (uStep (c :: r)).2 = 1 → qItem (c :: r) = [92, 120, dig (c.toNat / 16), dig (c.toNat % 16)] := fun hq => by
    unfold qItem
    rcases hc with ⟨h0, h1, h2⟩ | ⟨h0, h1, h2, h3⟩ | ⟨h0, h1, h2, h3⟩
    · rw [if_pos (.inl h0)]; rfl
    · rw [uStep_good (by omega)] at hq
      rw [if_pos (by omega)]; rfl
    · rw [uStep_good (by omega)] at hq
      rw [if_pos (by omega)]; rfl
  have f3 : ¬ ((uStep (c :: r)).1 = 34 ∨ (uStep (c :: r)).1 = 92) → ¬ ((uStep (c :: r)).1 < 32 ∨ (uStep (c :: r)).1 = 127 ∨ (uStep (c :: r)).1 = 65533 ∧ (uStep (c :: r)).2 = 1) → qItem (c :: r) = (c :: r).take (uStep (c :: r)).2 := fun h1' h2' => by
    unfold qItem
    rcases hc with ⟨h0, h1, h2⟩ | ⟨h0, h1, h2, h3⟩ | ⟨h0, h1, h2, h3⟩
    · rw [uStep_bad h0] at h2'; omega
    · rw [uStep_good (by omega)] at h1' h2' ⊢
      rw [if_neg (by omega), if_neg (by omega)]
    · rw [uStep_good (by omega)] at h1' h2' ⊢
      rw [if_neg (by omega), if_neg (by omega)]
  have elen : (((c :: r).take (uStep (c :: r)).2).length : Int) = (uStep (c :: r)).2 := by rw [List.length_take]; omega
  have hmax := uStep_rune (c :: r)
  rw [e0] at elen f1 f3 ⊢
  generalize (uStep (c :: r)).1 = N at *
  unfold quote_escape
  refine ⟨fun t w' => w = w' ∧ (t = true ↔ N = 34 ∨ N = 92), ?_, ?_⟩
  · refine ifEq (fun hq => ⟨rfl, ?_⟩) (fun hq => ⟨rfl, ?_⟩)
    · have : N = 34 := by omega
      subst this; simp
    · rw [beq_iff_eq]
      omega
  rintro t _ ⟨rfl, ht⟩
  refine ifB_of (fun h1 => ?_) (fun h1 => ?_)
  · have := f1 (ht.1 h1)
    rw [this] at hK
    refine cat_str ?_ (hK _ (Ext.rfl' _))
    have : (List.take m r).length ≤ r.length := by rw [List.length_take]; omega
    simp only [List.length_cons, List.length_nil] at hl ⊢
    omega
  have h1' : ¬ (N = 34 ∨ N = 92) := fun h => by rw [ht.2 h] at h1; cases h1
  refine ifD (fun h2 => ?_) (fun h2 => ?_)
  · refine ifD (fun _ => ?_) (fun h => absurd h2 h)
    refine idx_str 0 (by kernel_rfl) rfl (Nat.zero_lt_succ _) ?_
    have := f2 (.inl (by omega))
    rw [this] at hK
    exact quote_byteAs_calls (byteAs_spec (c := c) rfl hK)
  refine ifEq (fun h3 => ?_) (fun h3 => ?_)
  · refine ifEq (fun _ => ?_) (fun h => absurd h3 h)
    refine idx_str 0 (by kernel_rfl) rfl (Nat.zero_lt_succ _) ?_
    have := f2 (.inr (.inl (by omega)))
    rw [this] at hK
    exact quote_byteAs_calls (byteAs_spec (c := c) rfl hK)
  refine ifEq (fun h4 => ?_) (fun h4 => ?_)
  · refine ifEq (fun h5 => ?_) (fun h5 => ?_)
    · refine idx_str 0 (by kernel_rfl) rfl (Nat.zero_lt_succ _) ?_
      have := f2 (.inr (.inr ⟨by omega, by omega⟩))
      rw [this] at hK
      exact quote_byteAs_calls (byteAs_spec (c := c) rfl hK)
    · have := f3 h1' (by omega)
      rw [this] at hK
      exact hK _ (Ext.rfl' _)
  · have := f3 h1' (by omega)
    rw [this] at hK
    exact hK _ (Ext.rfl' _)
theorem quote_Quote_spec {s : List UInt8} {K : List UInt8 → World → Prop} (ht : Utf8T w) (hl : s.length ≤ 1000000000) (hK : ∀ w', Ext w w' → K (quote s) w') : quote_Quote s K w := by
  unfold quote_Quote
  refine alloc_tyT (z := .agg ⟨[.pointer none, Sl.nil.val]⟩) (by kernel_rfl) fun a w2 ha hx ho => ?_
  have hb : Bld w2 a a.block [] := Bld.zero (ho.ty (by kernel_rfl))
  refine strings_Builder_WriteByte_calls (WriteByte_spec (c := 34) hb hb.lt rfl (by simp) fun w4 hb f4 => ?_)
  have hx := hx.below f4.low (by omega)
  have a4 := hb.lt
  refine range_ty (by kernel_rfl) fun t5 w6 h5 hi hx6 => ?_
  have hb := (hb.track (Nat.le_of_eq h5.symm)).ext hx6
  have hx := hx.trans' hx6
  have ne : t5.block ≠ a.block := by omega
  have hql := quoteL_len s
  refine runes0 (s := s) (fun pos w' => Ext w w' ∧ ∃ q, Bld w' a t5.block (34 :: q) ∧ q ++ quoteL (s.drop pos) = quoteL s) ⟨hx, [], hb, by simp⟩ hi ?_
  rintro pos w8 C hp ⟨hx, q, hb, hq⟩ hi hC
  have hlen := congrArg List.length hq
  rw [List.length_append] at hlen
  refine next_st hi (fun hlt w10 hw10 hi => ?_) (fun hge => ?_)
  · have hb := hb.wr hw10 ne
    have hx := Ext.grown' hx (grown_wr hw10) (by omega)
    have hne := drop_ne hlt
    refine sub_str_l (m := pos) (by kernel_rfl) rfl (by omega) ?_
    refine unicode_utf8_DecodeRuneInString_calls (DecodeRuneInString_spec (ht.ext hx) fun w13 hx13 => ?_)
    rw [if_neg hne]
    have hx := hx.trans' hx13
    have hb := hb.ext hx13
    have hi := hi.ext hx13
    have hon := step_on hlt
    refine sub_str_lh (m := pos) (n := pos + (uStep (s.drop pos)).2) (by kernel_rfl) rfl (by rw [i64_id] <;> omega) (by omega) hon ?_
    rw [Nat.add_sub_cancel_left]
    refine quote_escape_calls (escape_spec hne (by rw [List.length_drop]; omega) fun w16 hx16 => ?_)
    have hx := hx.trans' hx16
    have hb := hb.ext hx16
    have hi := hi.ext hx16
    rw [quoteL_on hne, List.drop_drop] at hq hlen
    rw [List.length_append] at hlen
    refine strings_Builder_WriteString_calls (WriteString_spec hb hi.lt (by rw [List.length_cons]; omega) fun w18 hb18 f18 => ?_)
    refine hC (pos + (uStep (s.drop pos)).2) w18 (by have := uStep_pos (s.drop pos); omega) hon ⟨hx.below f18.low (by omega), q ++ qItem (s.drop pos), by simpa using hb18, by rw [List.append_assoc]; exact hq⟩ (hi.keep (f18.it ne hi.lt))
  · rw [List.drop_of_length_le (by omega), quoteL_nil, List.append_nil] at hq
    subst hq
    refine strings_Builder_WriteByte_calls (WriteByte_spec (c := 34) hb hi.lt rfl (by simp only [List.length_cons]; omega) fun w21 hb f21 => ?_)
    have hx := hx.below f21.low (by omega)
    refine strings_Builder_String_calls (Builder_String_spec hb (by simp) fun w23 f23 => ?_)
    exact hK _ (hx.below f23 (by omega))
end Go.Chg
