/-
  What is wrong with a command: the document's answer.
-/
import Derived.Test.YtnnoalpkldpjfaaGreatDoorSpCmdC
set_option maxRecDepth 20000
set_option linter.unusedVariables false
namespace Go.Chg
open Go.Vc
variable {w : World}
theorem ref08_Owned_spec {k : Int} {K : Bool → World → Prop} (hK : K (kOwn k) w) : ref08_Owned k K w := by
  unfold ref08_Owned
  unfold kOwn at hK
  refine ifD (fun h => ?_) (fun h => ?_)
  · rwa [decide_eq_true (show 2 ≤ k from h), Bool.true_and] at hK
  · rwa [decide_eq_false (show ¬ 2 ≤ k from h), Bool.false_and] at hK
theorem ref08_member_spec {k : Int} {K : Bool → World → Prop} (hK : K (kNode k) w) : ref08_member k K w := by
  unfold ref08_member
  unfold kNode at hK
  refine ifEq (fun h => ?_) (fun h => ?_)
  · rwa [decide_eq_true h, Bool.true_or] at hK
  · rw [decide_eq_false h, Bool.false_or] at hK
    have e : (k == 8) = decide (k = 8) := rfl
    rw [e]; exact hK
theorem ref08_Check_spec {c : ApiCmd} {K : Int → World → Prop} (hK : ∀ e w', CmdErr c e → Ext w w' → K e w') : ref08_Check c K w := by
  unfold ref08_Check
  refine new_x (Ext.rfl' w) fun b1 w2 _ _ hx _ => ?_
  refine ifD (fun h => hK _ _ (.inl ⟨rfl, fun h' => by have := h'.1; omega⟩) hx) (fun h1 => ?_)
  refine ifD (fun h => hK _ _ (.inl ⟨rfl, fun h' => by have := h'.2; omega⟩) hx) (fun h2 => ?_)
  have hk : kOk c.Kind := ⟨by omega, by omega⟩
  refine ref08_Owned_calls (ref08_Owned_spec (kp_same ?_))
  have b6 : ¬ cRng c → ∀ {u : World}, Ext w u → K 6 u := fun h u hx => hK _ _ (.inr (.inl ⟨rfl, hk, h⟩)) hx
  refine ⟨fun w' => Ext w w' ∧ cRng c, ?_, ?_⟩
  · have node : (kOwn c.Kind = true → (1 ≤ c.Client ∧ c.Client ≤ 8) ∧ 1 ≤ c.Seq ∧ c.Seq ≤ 4294967296) → callV Pr Value.bool fid_ref08_member #[(.int .i64 c.Kind)] w2 fun t6 w7 => kp b1 w2 w7 <|
        ifB t6 (ifB (decide (c.Node < 1)) (K 6 w7) (ifB (decide (c.Node > 9)) (K 6 w7) (Ext w w7 ∧ cRng c))) (Ext w w7 ∧ cRng c) := fun ho => by
      refine ref08_member_calls (ref08_member_spec (kp_same ?_))
      refine ifB_of (fun hn => ?_) (fun hn => ⟨hx, ho, fun h => by rw [h] at hn; cases hn⟩)
      refine ifD (fun h => b6 (fun h' => by have := h'.2 hn; omega) hx) (fun h3 => ?_)
      exact ifD (fun h => b6 (fun h' => by have := h'.2 hn; omega) hx) (fun h4 => ⟨hx, ho, fun _ => ⟨by omega, by omega⟩⟩)
    refine ifB_of (fun ho => ?_) (fun ho => node fun h => by rw [h] at ho; cases ho)
    refine ifD (fun h => b6 (fun h' => by have := h'.1 ho; omega) hx) (fun h3 => ?_)
    refine ifD (fun h => b6 (fun h' => by have := h'.1 ho; omega) hx) (fun h4 => ?_)
    refine ifD (fun h => b6 (fun h' => by have := h'.1 ho; omega) hx) (fun h5 => ?_)
    refine ifD (fun h => b6 (fun h' => by have := h'.1 ho; omega) hx) (fun h6 => ?_)
    exact node fun _ => ⟨⟨by omega, by omega⟩, by omega, by omega⟩
  rintro w10 ⟨hx, hr⟩
  have b7 : ¬ cTxt c → ∀ {u : World}, Ext w u → K 7 u := fun h u hx => hK _ _ (.inr (.inr (.inl ⟨rfl, hk, hr, h⟩))) hx
  have b3 : cTxt c → ¬ cFrm c → ∀ {u : World}, Ext w u → K 3 u := fun ht h u hx => hK _ _ (.inr (.inr (.inr (.inl ⟨rfl, hk, hr, ht, h⟩)))) hx
  have b0 : cTxt c → cFrm c → ∀ {u : World}, Ext w u → K 0 u := fun ht h u hx => hK _ _ (.inr (.inr (.inr (.inr ⟨rfl, hk, hr, ht, h⟩)))) hx
  have e5 : kOld c.Kind = decide (c.Kind = 5) := rfl
  have ev : kVal c.Kind = (decide (c.Kind = 2) || decide (c.Kind = 5)) := rfl
  -- the last questions
  have f1 : (kOwn c.Kind = false → c.Client = 0 ∧ c.Seq = 0 ∧ c.Key = []) → (kVal c.Kind = false → c.Val = []) → (kOld c.Kind = false → c.Old = []) → cTxt c → ∀ {u : World}, Ext w u →
      callV Pr Value.bool fid_ref08_member #[(.int .i64 c.Kind)] u fun t23 w24 => kp b1 u w24 <| ifB (!t23) (ifB (c.Node != 0) (K 3 w24) (K 0 w24)) (K 0 w24) := fun g1 g2 g3 ht u hx => by
    refine ref08_member_calls (ref08_member_spec (kp_same ?_))
    refine ifNot (ifB_of (fun hn => b0 ht ⟨g1, g2, g3, fun h => by rw [h] at hn; cases hn⟩ hx) (fun hn => ?_))
    exact ifNe (fun h => b3 ht (fun h' => h (h'.2.2.2 hn)) hx) (fun h => b0 ht ⟨g1, g2, g3, fun _ => h⟩ hx)
  have f2 : (kOwn c.Kind = false → c.Client = 0 ∧ c.Seq = 0 ∧ c.Key = []) → (kVal c.Kind = false → c.Val = []) → cTxt c → ∀ {u : World}, Ext w u →
      ifB (c.Kind != 5) (ifB (!(strEq c.Old [])) (K 3 u) (callV Pr Value.bool fid_ref08_member #[(.int .i64 c.Kind)] u fun t23 w24 => kp b1 u w24 <| ifB (!t23) (ifB (c.Node != 0) (K 3 w24) (K 0 w24)) (K 0 w24)))
        (callV Pr Value.bool fid_ref08_member #[(.int .i64 c.Kind)] u fun t23 w24 => kp b1 u w24 <| ifB (!t23) (ifB (c.Node != 0) (K 3 w24) (K 0 w24)) (K 0 w24)) := fun g1 g2 ht u hx => by
    refine ifNe (fun h5 => ?_) (fun h5 => f1 g1 g2 (fun h => by rw [e5, decide_eq_false_iff_not] at h; exact absurd h5 h) ht hx)
    have ho : kOld c.Kind = false := by rw [e5]; exact decide_eq_false h5
    exact ifNot (ifStr (fun h => f1 g1 g2 (fun _ => h) ht hx) (fun h => b3 ht (fun h' => h (h'.2.2.1 ho)) hx))
  -- the texts
  have tOld : (kOwn c.Kind = true → keyOk c.Key = true) → (kVal c.Kind = true → valOk c.Val = true) → ∀ {J : World → Prop}, (∀ u, Ext w u → cTxt c → J u) → ∀ {u : World}, Ext w u →
      ifB (c.Kind == 5) (callV Pr Value.bool fid_ref05_Val #[(sval c.Old)] u fun t16 w17 => kp b1 u w17 <| ifB (!t16) (K 7 w17) (J w17)) (J u) := fun g1 g2 J hJ u hx => by
    refine ifEq (fun h5 => ?_) (fun h5 => hJ _ hx ⟨g1, g2, fun h => by rw [e5, decide_eq_true_iff] at h; exact absurd h h5⟩)
    have ho : kOld c.Kind = true := by rw [e5]; exact decide_eq_true h5
    refine ref05_Val_calls (ref05_Val_spec (kp_same ?_))
    exact ifNot (ifB_of (fun h => hJ _ hx ⟨g1, g2, fun _ => h⟩) (fun h => b7 (fun h' => by rw [h'.2.2 ho] at h; cases h) hx))
  refine ifEq (fun hk2 => ?_) (fun hk2 => ?_)
  · have hv : kVal c.Kind = true := by rw [ev, decide_eq_true hk2]; rfl
    have ho : kOwn c.Kind = true := by rw [hk2]; rfl
    have tVal : (kOwn c.Kind = true → keyOk c.Key = true) → ∀ {J : World → Prop}, (∀ u, Ext w u → cTxt c → J u) → ∀ {u : World}, Ext w u →
        callV Pr Value.bool fid_ref05_Val #[(sval c.Val)] u fun t14 w15 => kp b1 u w15 <| ifB (!t14) (K 7 w15) (ifB (c.Kind == 5) (callV Pr Value.bool fid_ref05_Val #[(sval c.Old)] w15 fun t16 w17 => kp b1 w15 w17 <| ifB (!t16) (K 7 w17) (J w17)) (J w15)) := fun g1 J hJ u hx => by
      refine ref05_Val_calls (ref05_Val_spec (kp_same ?_))
      exact ifNot (ifB_of (fun h => tOld g1 (fun _ => h) hJ hx) (fun h => b7 (fun h' => by rw [h'.2.1 hv] at h; cases h) hx))
    refine ⟨fun w' => Ext w w' ∧ cTxt c, ?_, ?_⟩
    · refine ifB_of (fun _ => ?_) (fun h => by rw [ho] at h; cases h)
      refine ref05_Key_calls (ref05_Key_spec (kp_same ?_))
      exact ifNot (ifB_of (fun h => tVal (fun _ => h) (fun u hx ht => ⟨hx, ht⟩) hx) (fun h => b7 (fun h' => by rw [h'.1 ho] at h; cases h) hx))
    rintro w22 ⟨hx, ht⟩
    refine ifB_f (by rw [ho]; rfl) (ifB_f rfl ?_)
    exact f2 (fun h => by rw [ho] at h; cases h) (fun h => by rw [hv] at h; cases h) ht hx
  · have tVal : (kOwn c.Kind = true → keyOk c.Key = true) → ∀ {J : World → Prop}, (∀ u, Ext w u → cTxt c → J u) → ∀ {u : World}, Ext w u →
        ifB (c.Kind == 5) (callV Pr Value.bool fid_ref05_Val #[(sval c.Val)] u fun t14 w15 => kp b1 u w15 <| ifB (!t14) (K 7 w15) (ifB (c.Kind == 5) (callV Pr Value.bool fid_ref05_Val #[(sval c.Old)] w15 fun t16 w17 => kp b1 w15 w17 <| ifB (!t16) (K 7 w17) (J w17)) (J w15)))
          (ifB (c.Kind == 5) (callV Pr Value.bool fid_ref05_Val #[(sval c.Old)] u fun t16 w17 => kp b1 u w17 <| ifB (!t16) (K 7 w17) (J w17)) (J u)) := fun g1 J hJ u hx => by
      refine ifEq (fun h5 => ?_) (fun h5 => ?_)
      · have hv : kVal c.Kind = true := by rw [ev, decide_eq_true h5]; simp
        refine ref05_Val_calls (ref05_Val_spec (kp_same ?_))
        exact ifNot (ifB_of (fun h => tOld g1 (fun _ => h) hJ hx) (fun h => b7 (fun h' => by rw [h'.2.1 hv] at h; cases h) hx))
      · exact tOld g1 (fun h => by rw [ev] at h; simp [hk2, h5] at h) hJ hx
    refine ⟨fun w' => Ext w w' ∧ cTxt c, ?_, ?_⟩
    · refine ifB_of (fun ho => ?_) (fun ho => tVal (fun h => by rw [h] at ho; cases ho) (fun u hx ht => ⟨hx, ht⟩) hx)
      refine ref05_Key_calls (ref05_Key_spec (kp_same ?_))
      exact ifNot (ifB_of (fun h => tVal (fun _ => h) (fun u hx ht => ⟨hx, ht⟩) hx) (fun h => b7 (fun h' => by rw [h'.1 ho] at h; cases h) hx))
    rintro w54 ⟨hx, ht⟩
    have fval : (kOwn c.Kind = false → c.Client = 0 ∧ c.Seq = 0 ∧ c.Key = []) → kVal c.Kind = decide (c.Kind = 5) := fun _ => by rw [ev, decide_eq_false hk2, Bool.false_or]
    refine ifNot (ifB_of (fun ho => ?_) (fun ho => ?_))
    · have g1 : kOwn c.Kind = false → c.Client = 0 ∧ c.Seq = 0 ∧ c.Key = [] := fun h => by rw [ho] at h; cases h
      refine ifNot (ifEq (fun h5 => f2 g1 (fun h => by rw [fval g1, decide_eq_false_iff_not] at h; exact absurd h5 h) ht hx) (fun h5 => ?_))
      have hv : kVal c.Kind = false := by rw [fval g1]; exact decide_eq_false h5
      exact ifNot (ifStr (fun h => f2 g1 (fun _ => h) ht hx) (fun h => b3 ht (fun h' => h (h'.2.1 hv)) hx))
    · refine ifNe (fun h => b3 ht (fun h' => h (h'.1 ho).1) hx) (fun hc1 => ?_)
      refine ifNe (fun h => b3 ht (fun h' => h (h'.1 ho).2.1) hx) (fun hc2 => ?_)
      refine ifNot (ifStr (fun hc3 => ?_) (fun h => b3 ht (fun h' => h (h'.1 ho).2.2) hx))
      have g1 : kOwn c.Kind = false → c.Client = 0 ∧ c.Seq = 0 ∧ c.Key = [] := fun _ => ⟨hc1, hc2, hc3⟩
      refine ifNot (ifEq (fun h5 => f2 g1 (fun h => by rw [fval g1, decide_eq_false_iff_not] at h; exact absurd h5 h) ht hx) (fun h5 => ?_))
      have hv : kVal c.Kind = false := by rw [fval g1]; exact decide_eq_false h5
      exact ifNot (ifStr (fun h => f2 g1 (fun _ => h) ht hx) (fun h => b3 ht (fun h' => h (h'.2.1 hv)) hx))
end Go.Chg
