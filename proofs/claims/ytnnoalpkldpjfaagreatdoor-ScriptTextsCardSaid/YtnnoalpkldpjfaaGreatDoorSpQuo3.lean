/-
  'changeoverref06': a text in quotes, and out of them.
-/
import Derived.Test.YtnnoalpkldpjfaaGreatDoorSpQuo2
import Derived.Test.YtnnoalpkldpjfaaGreatDoorSpRef05
set_option maxRecDepth 20000
set_option linter.unusedVariables false
namespace Go.Chg
open Go.Vc
variable {w : World} {l : List UInt8}
theorem tdiv_u8 {c : UInt8} : IntKind.u8.wrap (Int.tdiv (c.toNat : Int) 16) = ((c.toNat / 16 : Nat) : Int) := by
  have key : ∀ x : Fin 256, IntKind.u8.wrap (Int.tdiv (x.val : Int) 16) = ((x.val / 16 : Nat) : Int) := by decide +kernel
  exact key ⟨c.toNat, c.toNat_lt⟩
theorem tmod_u8 {c : UInt8} : Int.tmod (c.toNat : Int) 16 = ((c.toNat % 16 : Nat) : Int) := by
  have key : ∀ x : Fin 256, Int.tmod (x.val : Int) 16 = ((x.val % 16 : Nat) : Int) := by decide +kernel
  exact key ⟨c.toNat, c.toNat_lt⟩
theorem uStep_size (s : List UInt8) : (uStep s).2 = if (dec s).1 = 0 then 1 else (dec s).1 := by unfold uStep; split <;> rfl
theorem ref06_Quote_spec {s : List UInt8} {K : List UInt8 → World → Prop} (hl : s.length ≤ 1000000) (hK : ∀ w', Ext w w' → K (quote s) w') : ref06_Quote s K w := by
  unfold ref06_Quote
  have hql := quoteL_len s
  have hhex : (cs16_37011).length = 16 := by kernel_rfl
  refine jump2 (fun k out w' => Ext w w' ∧ ∃ q, out = 34 :: q ∧ q ++ quoteL (s.drop k) = quoteL s) 0 s.length rfl (by omega) ⟨Ext.rfl' _, [], rfl, by simp⟩ ?_
  rintro k out w4 C _ hk ⟨hx, q, rfl, hq⟩ hC
  have hlen := congrArg List.length hq
  rw [List.length_append] at hlen
  refine ifD (fun hlt => ?_) (fun hge => ?_)
  rotate_left
  · rw [List.drop_of_length_le (by omega), quoteL_nil, List.append_nil] at hq
    subst hq
    refine cat_str (by simp only [List.length_cons, List.length_nil]; omega) ?_
    exact hK _ hx
  have hk1 : k < s.length := by omega
  have hne := drop_ne hk1
  refine ref05_Size_calls (ref05_Size_spec rfl hk1 (by omega) ?_)
  have hon := step_on hk1
  have hpos := uStep_pos (s.drop k)
  rw [quoteL_on hne, List.drop_drop] at hq hlen
  rw [List.length_append] at hlen
  have hsz := uStep_size (s.drop k)
  have hd : s.drop k = s[k] :: s.drop (k + 1) := List.drop_eq_getElem_cons hk1
  have hhead : (s.drop k).headD 0 = s[k] := by rw [hd]; rfl
  have hcl := s[k].toNat_lt
  obtain ⟨c, r, hcr, hcase⟩ := rune_cases hne
  have hcs : c = s[k] := by rw [hd] at hcr; exact (List.cons.inj hcr).1.symm
  -- an item that is put behind
  have put : ∀ {m : List UInt8} {y : Int} {u : World}, Ext w u → m = qItem (s.drop k) → y = ((k + (uStep (s.drop k)).2 : Nat) : Int) → C (34 :: q ++ m) y u := fun {m y u} hu hm hy =>
    hC _ _ _ _ hy (by omega) hon ⟨hu, q ++ m, rfl, by rw [hm, List.append_assoc]; exact hq⟩
  have hexItem : (dec (s.drop k)).1 = 0 ∨ (dec (s.drop k)).2 < 32 ∨ (dec (s.drop k)).2 = 127 → qItem (s.drop k) = [92, 120, dig (s[k].toNat / 16), dig (s[k].toNat % 16)] ∧ (uStep (s.drop k)).2 = 1 := fun h => by
    constructor
    · unfold qItem
      rw [if_pos h, hhead]
    · rcases hcase with ⟨_, h1, _⟩ | ⟨_, h1, _⟩ | ⟨_, h1, h2, _⟩
      · exact h1
      · exact h1
      · omega
  refine ifEq (fun h0 => ?_) (fun h0 => ?_)
  · obtain ⟨hi, h1⟩ := hexItem (.inl (by omega))
    refine drew_of fun w7 hx7 => ?_
    refine cat_str (by simp only [List.length_cons, List.length_nil]; omega) ?_
    refine idx_str k (by kernel_rfl) rfl hk1 (idx_str k (by kernel_rfl) rfl hk1 ?_)
    rw [tdiv_u8, wrap_up (by omega)]
    refine sub_str_lh (m := s[k].toNat / 16) (n := s[k].toNat / 16 + 1) (by kernel_rfl) rfl rfl (by omega) (by omega) ?_
    rw [show s[k].toNat / 16 + 1 - s[k].toNat / 16 = 1 by omega, hex16 (by omega)]
    refine cat_str (by simp only [List.length_cons, List.length_nil, List.length_append]; omega) ?_
    refine idx_str k (by kernel_rfl) rfl hk1 (idx_str k (by kernel_rfl) rfl hk1 ?_)
    rw [tmod_u8, wrap_up (by omega)]
    refine sub_str_lh (m := s[k].toNat % 16) (n := s[k].toNat % 16 + 1) (by kernel_rfl) rfl rfl (by omega) (by omega) ?_
    rw [show s[k].toNat % 16 + 1 - s[k].toNat % 16 = 1 by omega, hex16 (by omega)]
    refine cat_str (by simp only [List.length_cons, List.length_nil, List.length_append]; omega) ?_
    have := put (m := [92, 120, dig (s[k].toNat / 16), dig (s[k].toNat % 16)]) (y := i64 ((k : Int) + 1)) (hx.trans' hx7) hi.symm (by rw [i64_id] <;> omega)
    simpa using this
  refine ifD (fun h0' => ?_) (fun h0' => ?_)
  · obtain ⟨hi, h1⟩ := hexItem (.inr (.inl (by omega)))
    refine drew_of fun w7 hx7 => ?_
    refine cat_str (by simp only [List.length_cons, List.length_nil]; omega) ?_
    refine idx_str k (by kernel_rfl) rfl hk1 (idx_str k (by kernel_rfl) rfl hk1 ?_)
    rw [tdiv_u8, wrap_up (by omega)]
    refine sub_str_lh (m := s[k].toNat / 16) (n := s[k].toNat / 16 + 1) (by kernel_rfl) rfl rfl (by omega) (by omega) ?_
    rw [show s[k].toNat / 16 + 1 - s[k].toNat / 16 = 1 by omega, hex16 (by omega)]
    refine cat_str (by simp only [List.length_cons, List.length_nil, List.length_append]; omega) ?_
    refine idx_str k (by kernel_rfl) rfl hk1 (idx_str k (by kernel_rfl) rfl hk1 ?_)
    rw [tmod_u8, wrap_up (by omega)]
    refine sub_str_lh (m := s[k].toNat % 16) (n := s[k].toNat % 16 + 1) (by kernel_rfl) rfl rfl (by omega) (by omega) ?_
    rw [show s[k].toNat % 16 + 1 - s[k].toNat % 16 = 1 by omega, hex16 (by omega)]
    refine cat_str (by simp only [List.length_cons, List.length_nil, List.length_append]; omega) ?_
    have := put (m := [92, 120, dig (s[k].toNat / 16), dig (s[k].toNat % 16)]) (y := i64 ((k : Int) + 1)) (hx.trans' hx7) hi.symm (by rw [i64_id] <;> omega)
    simpa using this
  refine ifEq (fun h127 => ?_) (fun h127 => ?_)
  · obtain ⟨hi, h1⟩ := hexItem (.inr (.inr (by omega)))
    refine drew_of fun w7 hx7 => ?_
    refine cat_str (by simp only [List.length_cons, List.length_nil]; omega) ?_
    refine idx_str k (by kernel_rfl) rfl hk1 (idx_str k (by kernel_rfl) rfl hk1 ?_)
    rw [tdiv_u8, wrap_up (by omega)]
    refine sub_str_lh (m := s[k].toNat / 16) (n := s[k].toNat / 16 + 1) (by kernel_rfl) rfl rfl (by omega) (by omega) ?_
    rw [show s[k].toNat / 16 + 1 - s[k].toNat / 16 = 1 by omega, hex16 (by omega)]
    refine cat_str (by simp only [List.length_cons, List.length_nil, List.length_append]; omega) ?_
    refine idx_str k (by kernel_rfl) rfl hk1 (idx_str k (by kernel_rfl) rfl hk1 ?_)
    rw [tmod_u8, wrap_up (by omega)]
    refine sub_str_lh (m := s[k].toNat % 16) (n := s[k].toNat % 16 + 1) (by kernel_rfl) rfl rfl (by omega) (by omega) ?_
    rw [show s[k].toNat % 16 + 1 - s[k].toNat % 16 = 1 by omega, hex16 (by omega)]
    refine cat_str (by simp only [List.length_cons, List.length_nil, List.length_append]; omega) ?_
    have := put (m := [92, 120, dig (s[k].toNat / 16), dig (s[k].toNat % 16)]) (y := i64 ((k : Int) + 1)) (hx.trans' hx7) hi.symm (by rw [i64_id] <;> omega)
    simpa using this
  have hno : ¬ ((dec (s.drop k)).1 = 0 ∨ (dec (s.drop k)).2 < 32 ∨ (dec (s.drop k)).2 = 127) := by omega
  have hst : (uStep (s.drop k)).2 = (dec (s.drop k)).1 := by rw [hsz, if_neg (by omega)]
  have take1 : (s.drop k).take (k + 1 - k) = (s.drop k).take 1 := by rw [show k + 1 - k = 1 by omega]
  refine ifEq (fun h34 => ?_) (fun h34 => ?_)
  · refine cat_str (by simp only [List.length_cons, List.length_nil]; omega) ?_
    refine sub_str_lh (m := k) (n := k + 1) (by kernel_rfl) rfl (by rw [i64_id] <;> omega) (by omega) (by omega) ?_
    rw [take1]
    refine cat_str (by simp only [List.length_cons, List.length_nil, List.length_append, List.length_take]; omega) ?_
    have := put (m := 92 :: (s.drop k).take 1) (y := i64 ((k : Int) + ((dec (s.drop k)).1 : Int))) hx (by unfold qItem; rw [if_neg hno, if_pos (by omega)]) (by rw [hst, i64_id] <;> omega)
    simpa using this
  refine ifEq (fun h92 => ?_) (fun h92 => ?_)
  · refine cat_str (by simp only [List.length_cons, List.length_nil]; omega) ?_
    refine sub_str_lh (m := k) (n := k + 1) (by kernel_rfl) rfl (by rw [i64_id] <;> omega) (by omega) (by omega) ?_
    rw [take1]
    refine cat_str (by simp only [List.length_cons, List.length_nil, List.length_append, List.length_take]; omega) ?_
    have := put (m := 92 :: (s.drop k).take 1) (y := i64 ((k : Int) + ((dec (s.drop k)).1 : Int))) hx (by unfold qItem; rw [if_neg hno, if_pos (by omega)]) (by rw [hst, i64_id] <;> omega)
    simpa using this
  · refine sub_str_lh (m := k) (n := k + (dec (s.drop k)).1) (by kernel_rfl) rfl (by rw [i64_id] <;> omega) (by omega) (by omega) ?_
    rw [Nat.add_sub_cancel_left]
    refine cat_str (by simp only [List.length_cons, List.length_take, List.length_drop]; omega) ?_
    have := put (m := (s.drop k).take (dec (s.drop k)).1) (y := i64 ((k : Int) + ((dec (s.drop k)).1 : Int))) hx (by unfold qItem; rw [if_neg hno, if_neg (by omega)]) (by rw [hst, i64_id] <;> omega)
    simpa using this
end Go.Chg
