/-
  What package 'runes' says of keys and values.
-/
import Derived.Test.YtnnoalpkldpjfaaGreatDoorSpRef05
import Derived.Test.YtnnoalpkldpjfaaGreatDoorMA
set_option maxRecDepth 20000
set_option linter.unusedVariables false
namespace Go.Chg
open Go.Vc

theorem runes_Bad_spec {s : List UInt8} {K : Int → World → Prop} {w : World} (ht : Utf8T w) (hl : s.length ≤ 4611686018427387904) (hK : ∀ w', Ext w w' → K (badFrom s 0) w') : runes_Bad s K w := by
  unfold runes_Bad
  refine range_ty (by kernel_rfl) fun a w1 ha hit hx1 => ?_
  refine runes0 (fun pos w' => Ext w w' ∧ badFrom s 0 = badFrom s pos) ⟨hx1, rfl⟩ hit ?_
  rintro pos w2 C hp ⟨hx2, hb⟩ hi hC
  refine next_st hi (fun hlt w3 hw3 hi3 => ?_) (fun hge => ?_)
  · have hx3 : Ext w w3 := Below.wr hx2 (by omega) hw3
    have hon := step_on hlt
    have hpos := uStep_pos (s.drop pos)
    by_cases h0 : (dec (s.drop pos)).1 = 0
    · rw [uStep_bad h0] at hi3 ⊢
      refine ifNe (fun h => absurd rfl h) (fun _ => ?_)
      refine sub_str_l (by kernel_rfl) rfl (by omega) ?_
      refine unicode_utf8_DecodeRuneInString_calls (DecodeRuneInString_spec (ht.ext hx3) fun w4 hx4 => ?_)
      rw [if_neg (drop_ne hlt), uStep_bad h0]
      refine ifEq (fun _ => ?_) (fun h => absurd rfl h)
      have := hK w4 (hx3.trans' hx4)
      rw [hb, badFrom_bad hlt h0] at this
      exact this
    · have hst := uStep_good h0
      have hb2 : badFrom s 0 = badFrom s (pos + (uStep (s.drop pos)).2) := by rw [hb, badFrom_on hlt h0, hst]
      refine ifNe (fun h => hC _ _ (by omega) hon ⟨hx3, hb2⟩ hi3) (fun hr => ?_)
      refine sub_str_l (by kernel_rfl) rfl (by omega) ?_
      refine unicode_utf8_DecodeRuneInString_calls (DecodeRuneInString_spec (ht.ext hx3) fun w4 hx4 => ?_)
      rw [if_neg (drop_ne hlt)]
      refine ifEq (fun h1 => ?_) (fun _ => hC _ _ (by omega) hon ⟨hx3.trans' hx4, hb2⟩ (hi3.ext hx4))
      exfalso
      have h1' : (dec (s.drop pos)).1 = 1 := by rw [hst] at h1; dsimp only at h1; omega
      obtain ⟨b, r, _, e2, e3⟩ := dec_one h1'
      rw [hst] at hr
      dsimp only at hr
      omega
  · have := hK w2 hx2
    rw [hb, badFrom_end hge] at this
    exact this
theorem runes_Whole_spec {s : List UInt8} {K : Bool → World → Prop} {w : World} (ht : Utf8T w) (hl : s.length ≤ 4611686018427387904) (hK : ∀ w', Ext w w' → K (decide (badFrom s 0 < 0)) w') : runes_Whole s K w := by
  unfold runes_Whole
  exact runes_Bad_calls (runes_Bad_spec ht hl hK)
theorem runes_Plain_spec {r : Int} {K : Bool → World → Prop} {w : World} (hK : K (plainI r) w) : runes_Plain r K w := by
  unfold runes_Plain
  refine ⟨fun b w' => w = w' ∧ b = decide (97 ≤ r ∧ r ≤ 122 ∨ 65 ≤ r ∧ r ≤ 90 ∨ 48 ≤ r ∧ r ≤ 57), ?_, ?_⟩
  · repeat' (first | refine ifD (fun _ => ?_) (fun _ => ?_))
    all_goals refine ⟨rfl, ?_⟩
    all_goals first
      | (rw [decide_eq_decide]; omega)
      | (symm; rw [decide_eq_false_iff_not]; omega)
  · rintro b _ ⟨rfl, rfl⟩
    have yes : (97 ≤ r ∧ r ≤ 122 ∨ 65 ≤ r ∧ r ≤ 90 ∨ 48 ≤ r ∧ r ≤ 57 ∨ r = 45 ∨ r = 95 ∨ r = 46 ∨ r = 58) → K true w := fun h => by
      have : plainI r = true := by unfold plainI; simp only [Bool.or_eq_true, decide_eq_true_eq]; omega
      rwa [this] at hK
    have no : ¬ (97 ≤ r ∧ r ≤ 122 ∨ 65 ≤ r ∧ r ≤ 90 ∨ 48 ≤ r ∧ r ≤ 57 ∨ r = 45 ∨ r = 95 ∨ r = 46 ∨ r = 58) → ifB (decide (r ≥ 161)) (K (r != 65533) w) (K false w) := fun h => by
      refine ifD (fun h1 => ?_) (fun h1 => ?_)
      · have : plainI r = (r != 65533) := by
          unfold plainI
          by_cases h2 : r = 65533
          · subst h2; rfl
          · have e1 : (r != 65533) = true := by simpa using h2
            rw [e1]
            simp only [Bool.or_eq_true, decide_eq_true_eq]; omega
        rwa [this] at hK
      · have : plainI r = false := by unfold plainI; simp only [Bool.or_eq_false_iff, decide_eq_false_iff_not]; omega
        rwa [this] at hK
    refine ifD (fun h => yes (by omega)) (fun h => ?_)
    refine ifEq (fun h1 => ifEq (fun _ => yes (by omega)) (fun h2 => absurd h1 h2)) (fun h1 => ?_)
    refine ifEq (fun h1 => ifEq (fun _ => yes (by omega)) (fun h2 => absurd h1 h2)) (fun h2 => ?_)
    refine ifEq (fun h1 => ifEq (fun _ => yes (by omega)) (fun h2 => absurd h1 h2)) (fun h3 => ?_)
    exact ifEq (fun h1 => yes (by omega)) (fun h4 => no (by omega))
theorem all_spec {g : Nat} {p : Nat → Bool} {s : List UInt8} {t : TypeId} {K : Bool → World → Prop} {w : World} (ht : strT Pr t = true)
    (hcall : ∀ (n : Nat) (w' : World) (K' : Bool → World → Prop), K' (p n) w' → callV Pr Value.bool g #[(.int .i32 (n : Int))] w' K') (hK : ∀ w', Ext w w' → K (allFrom p s 0) w') :
    opTy Pr (Instr.range t (sval s)) pav (fun t1 w2 =>
      loop0 (fun k3 w4 =>
      opAl Pr (Instr.next (.pointer (some t1)) true 0) (nxval (Value.int .i64) (Value.int .i32)) endval (fun t5 w6 =>
      callV Pr Value.bool g #[(.int .i32 t5.2)] w6 fun t7 w8 =>
      ifB (!t7)
      (K false w8)
      (k3 w8)) (fun _ w9 =>
      K true w9) w4) w2) w := by
  refine range_ty ht fun a w1 ha hit hx1 => ?_
  refine runes0 (fun pos w' => Ext w w' ∧ allFrom p s 0 = allFrom p s pos) ⟨hx1, rfl⟩ hit ?_
  rintro pos w2 C hp ⟨hx2, hb⟩ hi hC
  refine next_st hi (fun hlt w3 hw3 hi3 => ?_) (fun hge => ?_)
  · have hx3 : Ext w w3 := Below.wr hx2 (by omega) hw3
    have hon := step_on hlt
    have hpos := uStep_pos (s.drop pos)
    refine hcall _ _ _ ?_
    refine ifNot (ifB_of (fun h => ?_) (fun h => ?_))
    · exact hC _ _ (by omega) hon ⟨hx3, by rw [hb, allFrom_on hlt, h, Bool.true_and]⟩ hi3
    · have := hK w3 hx3
      rw [hb, allFrom_on hlt, h, Bool.false_and] at this
      exact this
  · have := hK w2 hx2
    rw [hb, allFrom_end hge] at this
    exact this
theorem runes_all_Plain_spec {s : List UInt8} {K : Bool → World → Prop} {w : World} (hK : ∀ w', Ext w w' → K (allFrom plainN s 0) w') : runes_all_Plain s K w := by
  unfold runes_all_Plain
  exact all_spec (by kernel_rfl) (fun n w' K' h => runes_Plain_calls (runes_Plain_spec h)) hK
theorem runes_Val_1_spec {n : Nat} {K : Bool → World → Prop} {w : World} (hK : K (printN n) w) : runes_Val_1 (n : Int) K w := by
  unfold runes_Val_1
  unfold printN at hK
  refine ifD (fun h => ?_) (fun h => ?_)
  · have : ((n : Int) != 127) = (decide (32 ≤ n) && decide (n ≠ 127)) := by
      have e1 : decide (32 ≤ n) = true := decide_eq_true (by omega)
      rw [e1, Bool.true_and]
      by_cases h2 : n = 127
      · subst h2; rfl
      · have e2 : decide (n ≠ 127) = true := decide_eq_true h2
        rw [e2]
        simp; omega
    rw [this]
    exact hK
  · rw [show decide (32 ≤ n) = false from decide_eq_false (by omega), Bool.false_and] at hK
    exact hK
theorem runes_all_Val_spec {s : List UInt8} {K : Bool → World → Prop} {w : World} (hK : ∀ w', Ext w w' → K (allFrom printN s 0) w') : runes_all_Val s K w := by
  unfold runes_all_Val
  exact all_spec (by kernel_rfl) (fun n w' K' h => runes_Val_1_calls (runes_Val_1_spec h)) hK
theorem runes_Key_spec {s : List UInt8} {K : Bool → World → Prop} {w : World} (ht : Utf8T w) (hK : ∀ w', Ext w w' → K (keyOk s) w') : runes_Key s K w := by
  unfold runes_Key
  have hno : keyOk s = false → K false w := fun h => by have := hK w (Ext.rfl' _); rwa [h] at this
  refine ifNot (ifStr (fun h => hno (by subst h; rfl)) (fun h => ?_))
  have hlen : 1 ≤ s.length := List.length_pos_iff.2 h
  refine ifD (fun h24 => ?_) (fun h24 => hno (by unfold keyOk; rw [show decide (s.length ≤ 24) = false from decide_eq_false (by omega)]; simp))
  have e0 : keyOk s = keyFrom plainN s 0 := by unfold keyOk; rw [show decide (s.length ≤ 24) = true from decide_eq_true (by omega), show decide (1 ≤ s.length) = true from decide_eq_true hlen]; simp
  rw [e0] at hK
  unfold keyFrom at hK
  refine runes_Whole_calls (runes_Whole_spec ht (by omega) fun w1 hx1 => ?_)
  refine ifB_of (fun hb => ?_) (fun hb => ?_)
  · refine runes_all_Plain_calls (runes_all_Plain_spec fun w2 hx2 => ?_)
    have := hK w2 (hx1.trans' hx2)
    rwa [hb, Bool.true_and] at this
  · have := hK w1 hx1
    rwa [hb, Bool.false_and] at this
theorem runes_Val_spec {s : List UInt8} {K : Bool → World → Prop} {w : World} (ht : Utf8T w) (hK : ∀ w', Ext w w' → K (valOk s) w') : runes_Val s K w := by
  unfold runes_Val
  refine ifD (fun h48 => ?_) (fun h48 => ?_)
  · have e0 : valOk s = keyFrom printN s 0 := by unfold valOk; rw [show decide (s.length ≤ 48) = true from decide_eq_true (by omega)]; simp
    rw [e0] at hK
    unfold keyFrom at hK
    refine runes_Whole_calls (runes_Whole_spec ht (by omega) fun w1 hx1 => ?_)
    refine ifB_of (fun hb => ?_) (fun hb => ?_)
    · refine runes_all_Val_calls (runes_all_Val_spec fun w2 hx2 => ?_)
      have := hK w2 (hx1.trans' hx2)
      rwa [hb, Bool.true_and] at this
    · have := hK w1 hx1
      rwa [hb, Bool.false_and] at this
  · have := hK w (Ext.rfl' _)
    rwa [show valOk s = false from by unfold valOk; rw [show decide (s.length ≤ 48) = false from decide_eq_false (by omega)]; simp] at this
end Go.Chg
