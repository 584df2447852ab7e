import Derived.Test.YthofeajlmgecmaaGreatDoorMC
import Derived.Test.YthofeajlmgecmaaGreatDoorME
import Derived.Test.YthofeajlmgecmaaGreatDoorSpCmdE
/-
  Package 'msgone': what is wrong with a message.
-/
set_option maxRecDepth 20000
set_option linter.unusedVariables false
namespace Go.Chg
open Go.Vc
variable {w : World} {m : ApiMsg} {xs : List ApiEntry} {img : List UInt8}
/-- A message in memory. -/
structure MsgAt (w : World) (m : ApiMsg) (xs : List ApiEntry) (img : List UInt8) : Prop where
  es : IsSl eApiEntry w m.Entries xs
  im : IsSl eB w m.Image img
theorem MsgAt.ext {u : World} (h : MsgAt w m xs img) (hx : Ext w u) : MsgAt u m xs img := ⟨h.es.ext hx, h.im.ext hx⟩
def fieldsM (k : Int) : Int := if k = 1 ∨ k = 2 then 8 else if k = 3 ∨ k = 6 then 3 else if k = 4 then 23 else if k = 5 then 17 else if k = 7 then 1 else if k = 8 then 5 else if k = 9 then 2 else if k = 10 then 20 else if k = 11 then 32 else 0
theorem fieldsM_no {k : Int} (h : ¬ (1 ≤ k ∧ k ≤ 11)) : fieldsM k = 0 := by
  unfold fieldsM
  rw [if_neg (by omega), if_neg (by omega), if_neg (by omega), if_neg (by omega), if_neg (by omega), if_neg (by omega), if_neg (by omega), if_neg (by omega), if_neg (by omega)]
theorem flags_no {k : Int} (h : ¬ (1 ≤ k ∧ k ≤ 11)) : mB k = false ∧ mI k = false ∧ mC k = false ∧ mV k = false ∧ mE k = false ∧ mM k = false := by
  refine ⟨?_, ?_, ?_, ?_, ?_, ?_⟩
  · unfold mB; simp; omega
  · unfold mI; simp; omega
  · unfold mC; simp; omega
  · unfold mV; simp; omega
  · unfold mE; simp; omega
  · unfold mM; simp; omega
theorem bits (k : Int) : (bAnd .i64 (fieldsM k) 1 == 0) = !mB k ∧ (bAnd .i64 (fieldsM k) 2 == 0) = !mI k ∧ (bAnd .i64 (fieldsM k) 4 == 0) = !mC k ∧ (bAnd .i64 (fieldsM k) 8 == 0) = !mV k ∧ (bAnd .i64 (fieldsM k) 16 == 0) = !mE k ∧ (bAnd .i64 (fieldsM k) 32 == 0) = !mM k := by
  by_cases hk : 1 ≤ k ∧ k ≤ 11
  · have key : ∀ j : Fin 12, (bAnd .i64 (fieldsM (j.val : Int)) 1 == 0) = !mB (j.val : Int) ∧ (bAnd .i64 (fieldsM (j.val : Int)) 2 == 0) = !mI (j.val : Int) ∧ (bAnd .i64 (fieldsM (j.val : Int)) 4 == 0) = !mC (j.val : Int) ∧ (bAnd .i64 (fieldsM (j.val : Int)) 8 == 0) = !mV (j.val : Int) ∧
        (bAnd .i64 (fieldsM (j.val : Int)) 16 == 0) = !mE (j.val : Int) ∧ (bAnd .i64 (fieldsM (j.val : Int)) 32 == 0) = !mM (j.val : Int) := by decide +kernel
    obtain ⟨n, rfl⟩ := Int.eq_ofNat_of_zero_le (show 0 ≤ k by omega)
    exact key ⟨n, by omega⟩
  · obtain ⟨h1, h2, h3, h4, h5, h6⟩ := flags_no hk
    rw [fieldsM_no hk, h1, h2, h3, h4, h5, h6]
    decide +kernel
theorem nbits (k : Int) : (bAnd .i64 (fieldsM k) 1 != 0) = mB k ∧ (bAnd .i64 (fieldsM k) 2 != 0) = mI k ∧ (bAnd .i64 (fieldsM k) 4 != 0) = mC k ∧ (bAnd .i64 (fieldsM k) 8 != 0) = mV k ∧ (bAnd .i64 (fieldsM k) 16 != 0) = mE k ∧ (bAnd .i64 (fieldsM k) 32 != 0) = mM k := by
  obtain ⟨h1, h2, h3, h4, h5, h6⟩ := bits k
  simp only [bne, h1, h2, h3, h4, h5, h6, Bool.not_not, and_self]
theorem msgone_fields_spec {k : Int} {K : Int → World → Prop} (hK : K (fieldsM k) w) : msgone_fields k K w := by
  unfold fieldsM at hK
  unfold msgone_fields
  refine ⟨fun t u => w = u ∧ (t = true ↔ k = 1 ∨ k = 2), ?_, ?_⟩
  · exact ifEq (fun h => ⟨rfl, by simp [h]⟩) (fun h => ⟨rfl, by simp [h]⟩)
  rintro t _ ⟨rfl, ht⟩
  refine ifB_of (fun h => by rwa [if_pos (ht.1 h)] at hK) (fun h => ?_)
  rw [if_neg (fun h' => by rw [ht.2 h'] at h; cases h)] at hK
  refine ⟨fun t u => w = u ∧ (t = true ↔ k = 3 ∨ k = 6), ?_, ?_⟩
  · exact ifEq (fun h => ⟨rfl, by simp [h]⟩) (fun h => ⟨rfl, by simp [h]⟩)
  rintro t _ ⟨rfl, ht⟩
  refine ifB_of (fun h => by rwa [if_pos (ht.1 h)] at hK) (fun h => ?_)
  rw [if_neg (fun h' => by rw [ht.2 h'] at h; cases h)] at hK
  refine ifEq (fun h => by rwa [if_pos h] at hK) (fun h => ?_)
  rw [if_neg h] at hK
  refine ifEq (fun h => by rwa [if_pos h] at hK) (fun h => ?_)
  rw [if_neg h] at hK
  refine ifEq (fun h => by rwa [if_pos h] at hK) (fun h => ?_)
  rw [if_neg h] at hK
  refine ifEq (fun h => by rwa [if_pos h] at hK) (fun h => ?_)
  rw [if_neg h] at hK
  refine ifEq (fun h => by rwa [if_pos h] at hK) (fun h => ?_)
  rw [if_neg h] at hK
  refine ifEq (fun h => by rwa [if_pos h] at hK) (fun h => ?_)
  rw [if_neg h] at hK
  refine ifEq (fun h => by rwa [if_pos h] at hK) (fun h => ?_)
  rwa [if_neg h] at hK
theorem msgone_ranges_1_spec {n : Int} {K : Bool → World → Prop} (hK : ∀ t, (t = true ↔ NodeOk n) → K t w) : msgone_ranges_1 n K w := by
  unfold msgone_ranges_1
  refine ifD (fun h => hK _ ?_) (fun h => hK _ ⟨fun h => (by cases h), fun h' => by have := h'.1; omega⟩)
  rw [decide_eq_true_iff]
  exact ⟨fun h' => ⟨h, h'⟩, fun h' => h'.2⟩
theorem bal_nz {b : ApiBallot} : (ApiBallot.eqs b zBallot).all id = true ↔ b = zBallot := ApiBallot.eqs_iff
theorem vers_May_or {n : Int} {K : Bool → World → Prop} (hK : ∀ t, (t = true ↔ n = 1 ∨ n = 2) → K t w) : vers_May n K w := vers_May_eq hK
theorem msgone_ranges_spec {K : Bool → World → Prop} (hK : ∀ t w', (t = true ↔ mRng1 m ∧ mRng2 m) → Ext w w' → K t w') : msgone_ranges m (fieldsM m.Kind) K w := by
  unfold msgone_ranges
  obtain ⟨e1, e2, e3, e4, _, _⟩ := nbits m.Kind
  obtain ⟨_, _, _, f4, _, _⟩ := bits m.Kind
  rw [e1, e2, e3, f4]
  refine new_x (Ext.rfl' w) fun b1 w2 _ _ hx _ => ?_
  have no : ∀ {u : World}, Ext w u → ¬ (mRng1 m ∧ mRng2 m) → K false u := fun hx h => hK _ _ ⟨fun e => (by cases e), fun e => absurd e h⟩ hx
  refine ⟨fun u => Ext w u ∧ mRng1 m ∧ (mB m.Kind = true → BMay m.Ballot ∧ m.Ballot ≠ zBallot) ∧ (mI m.Kind = true → 1 ≤ m.Index ∧ m.Index ≤ 4294967296) ∧ (mC m.Kind = true → 0 ≤ m.Commit ∧ m.Commit ≤ 4294967296), ?_, ?_⟩
  · refine ⟨fun t u => Ext w u ∧ (t = true ↔ ¬ mRng1 m), ?_, ?_⟩
    · refine msgone_ranges_1_calls (msgone_ranges_1_spec fun t5 h5 => kp_same ?_)
      refine ifNot (ifB_of (fun h => ?_) (fun h => ⟨hx, ⟨(fun _ h' => by rw [h5.2 h'.1] at h; cases h), fun _ => by rw [h]; rfl⟩⟩))
      refine msgone_ranges_1_calls (msgone_ranges_1_spec fun t7 h7 => kp_same ?_)
      refine ifNot (ifB_of (fun h' => ⟨hx, ?_⟩) (fun h' => ⟨hx, ⟨(fun _ k => by rw [h7.2 k.2.1] at h'; cases h'), fun _ => by rw [h']; rfl⟩⟩))
      rw [beq_iff_eq]
      exact ⟨fun e k => k.2.2 e, fun k => Classical.byContradiction fun e => k ⟨h5.1 h, h7.1 h', e⟩⟩
    rintro t9 w10 ⟨hx, ht⟩
    refine ifB_of (fun h => no hx fun k => ht.1 h k.1) (fun h => ?_)
    have r1 : mRng1 m := Classical.byContradiction fun k => by rw [ht.2 k] at h; cases h
    have tc : (mB m.Kind = true → BMay m.Ballot ∧ m.Ballot ≠ zBallot) → (mI m.Kind = true → 1 ≤ m.Index ∧ m.Index ≤ 4294967296) → ∀ {u : World}, Ext w u →
        ifB (mC m.Kind) (ifB (decide (m.Commit < 0)) (K false u) (ifB (decide (m.Commit > 4294967296)) (K false u) (Ext w u ∧ mRng1 m ∧ (mB m.Kind = true → BMay m.Ballot ∧ m.Ballot ≠ zBallot) ∧ (mI m.Kind = true → 1 ≤ m.Index ∧ m.Index ≤ 4294967296) ∧ (mC m.Kind = true → 0 ≤ m.Commit ∧ m.Commit ≤ 4294967296))))
          (Ext w u ∧ mRng1 m ∧ (mB m.Kind = true → BMay m.Ballot ∧ m.Ballot ≠ zBallot) ∧ (mI m.Kind = true → 1 ≤ m.Index ∧ m.Index ≤ 4294967296) ∧ (mC m.Kind = true → 0 ≤ m.Commit ∧ m.Commit ≤ 4294967296)) := fun g1 g2 u hx =>
      ifB_of (fun h => ifD (fun h1 => no hx fun k => by have := k.2.2.2.1 h; omega) (fun h1 => ifD (fun h2 => no hx fun k => by have := k.2.2.2.1 h; omega) (fun h2 => ⟨hx, r1, g1, g2, fun _ => ⟨by omega, by omega⟩⟩))) (fun h => ⟨hx, r1, g1, g2, fun h' => by rw [h] at h'; cases h'⟩)
    have ti : (mB m.Kind = true → BMay m.Ballot ∧ m.Ballot ≠ zBallot) → ∀ {u : World}, Ext w u →
        ifB (mI m.Kind) (ifB (decide (m.Index < 1)) (K false u) (ifB (decide (m.Index > 4294967296)) (K false u)
          (ifB (mC m.Kind) (ifB (decide (m.Commit < 0)) (K false u) (ifB (decide (m.Commit > 4294967296)) (K false u) (Ext w u ∧ mRng1 m ∧ (mB m.Kind = true → BMay m.Ballot ∧ m.Ballot ≠ zBallot) ∧ (mI m.Kind = true → 1 ≤ m.Index ∧ m.Index ≤ 4294967296) ∧ (mC m.Kind = true → 0 ≤ m.Commit ∧ m.Commit ≤ 4294967296))))
            (Ext w u ∧ mRng1 m ∧ (mB m.Kind = true → BMay m.Ballot ∧ m.Ballot ≠ zBallot) ∧ (mI m.Kind = true → 1 ≤ m.Index ∧ m.Index ≤ 4294967296) ∧ (mC m.Kind = true → 0 ≤ m.Commit ∧ m.Commit ≤ 4294967296)))))
          (ifB (mC m.Kind) (ifB (decide (m.Commit < 0)) (K false u) (ifB (decide (m.Commit > 4294967296)) (K false u) (Ext w u ∧ mRng1 m ∧ (mB m.Kind = true → BMay m.Ballot ∧ m.Ballot ≠ zBallot) ∧ (mI m.Kind = true → 1 ≤ m.Index ∧ m.Index ≤ 4294967296) ∧ (mC m.Kind = true → 0 ≤ m.Commit ∧ m.Commit ≤ 4294967296))))
            (Ext w u ∧ mRng1 m ∧ (mB m.Kind = true → BMay m.Ballot ∧ m.Ballot ≠ zBallot) ∧ (mI m.Kind = true → 1 ≤ m.Index ∧ m.Index ≤ 4294967296) ∧ (mC m.Kind = true → 0 ≤ m.Commit ∧ m.Commit ≤ 4294967296))) := fun g1 u hx =>
      ifB_of (fun h => ifD (fun h1 => no hx fun k => by have := k.2.2.1 h; omega) (fun h1 => ifD (fun h2 => no hx fun k => by have := k.2.2.1 h; omega) (fun h2 => tc g1 (fun _ => ⟨by omega, by omega⟩) hx))) (fun h => tc g1 (fun h' => by rw [h] at h'; cases h') hx)
    refine ifB_of (fun hb => ?_) (fun hb => ti (fun h' => by rw [hb] at h'; cases h') hx)
    refine ballot_May_calls (b := m.Ballot) (ballot_May_spec fun t w12 h11 hx' => kp_ext hx' ?_)
    have hx := hx.trans' hx'
    refine ifNot (ifB_of (fun h => ?_) (fun h => no hx fun k => by rw [h11.2 (k.2.1 hb).1] at h; cases h))
    refine eqSt (by kernel_rfl) (ApiBallot.eqv m.Ballot zBallot) (ifB_of (fun h' => no hx fun k => (k.2.1 hb).2 (bal_nz.1 h')) (fun h' => ti (fun _ => ⟨h11.1 h, fun e => by rw [bal_nz.2 e] at h'; cases h'⟩) hx))
  rintro w14 ⟨hx, r1, g1, g2, g3⟩
  refine ifNot (ifB_of (fun hv => ?_) (fun hv => hK _ _ ⟨fun _ => ⟨r1, g1, g2, g3, fun h' => by rw [hv] at h'; cases h'⟩, fun _ => rfl⟩ hx))
  refine vers_May_calls (vers_May_or fun t ht => kp_same (hK _ _ (ht.trans ⟨fun h => ⟨r1, g1, g2, g3, fun _ => h⟩, fun h => h.2.2.2.2 hv⟩) hx))
/-- What a message has beside what its kind has. -/
def mOth (m : ApiMsg) (n il : Nat) : Prop := (mB m.Kind = false → m.Ballot = zBallot) ∧ (mI m.Kind = false → m.Index = 0) ∧ (mC m.Kind = false → m.Commit = 0) ∧ (mV m.Kind = false → m.Version = 0) ∧ (mE m.Kind = false → n = 0) ∧ (mM m.Kind = false → il = 0)
theorem msgone_others_spec {n il : Nat} {K : Bool → World → Prop} (hn : m.Entries.len = n) (hi : m.Image.len = il) (hK : ∀ t w', (t = true ↔ ¬ mOth m n il) → Ext w w' → K t w') : msgone_others m (fieldsM m.Kind) K w := by
  unfold msgone_others
  obtain ⟨e1, e2, e3, e4, e5, e6⟩ := bits m.Kind
  rw [e1, e2, e3, e4, e5, e6, hn, hi]
  refine new_x (Ext.rfl' w) fun b1 w2 _ _ hx _ => ?_
  let P3 : Prop := (mB m.Kind = false → m.Ballot = zBallot) ∧ (mI m.Kind = false → m.Index = 0) ∧ (mC m.Kind = false → m.Commit = 0)
  let Q3 : Prop := (mV m.Kind = false → m.Version = 0) ∧ (mE m.Kind = false → n = 0) ∧ (mM m.Kind = false → il = 0)
  have all : mOth m n il ↔ P3 ∧ Q3 := by
    unfold mOth
    exact ⟨fun ⟨a, b, c, d, e, f⟩ => ⟨⟨a, b, c⟩, d, e, f⟩, fun ⟨⟨a, b, c⟩, d, e, f⟩ => ⟨a, b, c, d, e, f⟩⟩
  refine ⟨fun t u => Ext w u ∧ (t = true ↔ ¬ P3), ?_, ?_⟩
  · have bad : ∀ {t : Bool}, t = true → ¬ P3 → Ext w w2 ∧ (t = true ↔ ¬ P3) := fun h h' => ⟨hx, ⟨fun _ => h', fun _ => h⟩⟩
    have tc : (mB m.Kind = false → m.Ballot = zBallot) → (mI m.Kind = false → m.Index = 0) → ifB (!mC m.Kind) (Ext w w2 ∧ ((m.Commit != 0) = true ↔ ¬ P3)) (Ext w w2 ∧ (false = true ↔ ¬ P3)) := fun g1 g2 =>
      ifNot (ifB_of (fun h => ⟨hx, ⟨fun e => (by cases e), fun k => absurd ⟨g1, g2, fun h' => by rw [h] at h'; cases h'⟩ k⟩⟩) (fun h => ⟨hx, by rw [bne_iff_ne]; exact ⟨fun e k => e (k.2.2 h), fun k e => k ⟨g1, g2, fun _ => e⟩⟩⟩))
    have ti : (mB m.Kind = false → m.Ballot = zBallot) → ifB (!mI m.Kind) (ifB (m.Index != 0) (Ext w w2 ∧ ((m.Index != 0) = true ↔ ¬ P3)) (ifB (!mC m.Kind) (Ext w w2 ∧ ((m.Commit != 0) = true ↔ ¬ P3)) (Ext w w2 ∧ (false = true ↔ ¬ P3))))
        (ifB (!mC m.Kind) (Ext w w2 ∧ ((m.Commit != 0) = true ↔ ¬ P3)) (Ext w w2 ∧ (false = true ↔ ¬ P3))) := fun g1 =>
      ifNot (ifB_of (fun h => tc g1 fun h' => by rw [h] at h'; cases h') (fun h => ifB_of (fun h' => bad h' fun k => by rw [bne_iff_ne] at h'; exact h' (k.2.1 h)) (fun h' => tc g1 fun _ => by simpa using h')))
    refine ifNot (ifB_of (fun h => ti fun h' => by rw [h] at h'; cases h') (fun h => ?_))
    refine neSt (by kernel_rfl) (ApiBallot.eqv m.Ballot zBallot) (ifB_of (fun h' => bad h' fun k => ?_) (fun h' => ti fun _ => ?_))
    · rw [bal_nz.2 (k.1 h)] at h'; cases h'
    · refine bal_nz.1 ?_
      rw [Bool.not_eq_false'] at h'
      exact h'
  rintro t5 w6 ⟨hx, ht⟩
  refine ifB_of (fun h => hK _ _ ⟨fun _ k => ht.1 h (all.1 k).1, fun _ => rfl⟩ hx) (fun h => ?_)
  have p3 : P3 := Classical.byContradiction fun k => by rw [ht.2 k] at h; cases h
  refine ⟨fun t u => Ext w u ∧ (t = true ↔ ¬ Q3), ?_, ?_⟩
  · have bad : ∀ {t : Bool}, t = true → ¬ Q3 → Ext w w6 ∧ (t = true ↔ ¬ Q3) := fun h h' => ⟨hx, ⟨fun _ => h', fun _ => h⟩⟩
    have tc : (mV m.Kind = false → m.Version = 0) → (mE m.Kind = false → n = 0) → ifB (!mM m.Kind) (Ext w w6 ∧ (decide ((il : Int) > 0) = true ↔ ¬ Q3)) (Ext w w6 ∧ (false = true ↔ ¬ Q3)) := fun g1 g2 =>
      ifNot (ifB_of (fun h => ⟨hx, ⟨fun e => (by cases e), fun k => absurd ⟨g1, g2, fun h' => by rw [h] at h'; cases h'⟩ k⟩⟩) (fun h => ⟨hx, by rw [decide_eq_true_iff]; exact ⟨fun e k => by have := k.2.2 h; omega, fun k => Classical.byContradiction fun e => k ⟨g1, g2, fun _ => by omega⟩⟩⟩))
    have te : (mV m.Kind = false → m.Version = 0) → ifB (!mE m.Kind) (ifB (decide ((n : Int) > 0)) (Ext w w6 ∧ (decide ((n : Int) > 0) = true ↔ ¬ Q3)) (ifB (!mM m.Kind) (Ext w w6 ∧ (decide ((il : Int) > 0) = true ↔ ¬ Q3)) (Ext w w6 ∧ (false = true ↔ ¬ Q3))))
        (ifB (!mM m.Kind) (Ext w w6 ∧ (decide ((il : Int) > 0) = true ↔ ¬ Q3)) (Ext w w6 ∧ (false = true ↔ ¬ Q3))) := fun g1 =>
      ifNot (ifB_of (fun h => tc g1 fun h' => by rw [h] at h'; cases h') (fun h => ifB_of (fun h' => bad h' fun k => by rw [decide_eq_true_iff] at h'; have := k.2.1 h; omega) (fun h' => tc g1 fun _ => by rw [decide_eq_false_iff_not] at h'; omega)))
    refine ifNot (ifB_of (fun h => te fun h' => by rw [h] at h'; cases h') (fun h => ifB_of (fun h' => bad h' fun k => by rw [bne_iff_ne] at h'; exact h' (k.1 h)) (fun h' => te fun _ => by simpa using h')))
  rintro t8 w9 ⟨hx, ht⟩
  refine ifB_of (fun h => hK _ _ ⟨fun _ k => ht.1 h (all.1 k).2, fun _ => rfl⟩ hx) (fun h => hK _ _ ⟨fun e => (by cases e), fun k => ?_⟩ hx)
  have q3 : Q3 := Classical.byContradiction fun k => by rw [ht.2 k] at h; cases h
  exact absurd (all.2 ⟨p3, q3⟩) k
theorem msgone_accept_spec {K : Bool → World → Prop} (h : IsSl eApiEntry w m.Entries xs) (hK : ∀ t w', (t = true ↔ ∃ x, xs = [x] ∧ x.Ballot = m.Ballot) → Ext w w' → K t w') : msgone_accept m K w := by
  unfold msgone_accept
  refine new_x (Ext.rfl' w) fun b1 w2 _ _ hx _ => drew_of fun w3 hx' => ?_
  have hx := hx.trans' hx'
  have hl := h.len
  refine ifEq (fun h1 => ?_) (fun h1 => hK _ _ ⟨fun e => (by cases e), fun ⟨x, hx, _⟩ => absurd (by rw [hl, hx]; rfl) h1⟩ hx)
  have h := h.ext hx
  match xs, hl, h, hK with
  | [], hl, _, _ => simp at hl; omega
  | _ :: _ :: _, hl, _, _ => simp only [List.length_cons] at hl; omega
  | [x], hl, h, hK =>
    refine part_rd (E := eApiEntry) (n := 2) (off := 1) (k := 0) (y := x.Ballot) (val := ApiBallot.val) (xs := x.Ballot.cs) (by kernel_rfl) (by kernel_rfl) h rfl (by simp) rfl rfl (ent_bal _) fun _ => ?_
    refine eqSt (by kernel_rfl) (ApiBallot.eqv x.Ballot m.Ballot) (hK _ _ ?_ hx)
    rw [ApiBallot.eqs_iff]
    exact ⟨fun e => ⟨x, rfl, e⟩, fun ⟨y, hy, e⟩ => by cases hy; exact e⟩
theorem msgone_Check_spec {K : Int → World → Prop} (ht : Utf8T w) (h : MsgAt w m xs img) (hK : ∀ w', Ext w w' → K (msgE m xs img.length) w') : msgone_Check m K w := by
  unfold msgone_Check
  have hn := h.es.len
  have hi := h.im.len
  obtain ⟨_, _, _, _, e5, e6⟩ := nbits m.Kind
  refine new_x (Ext.rfl' w) fun b1 w2 _ _ hx _ => ?_
  refine msgone_fields_calls (msgone_fields_spec (kp_same ?_))
  rw [e5, e6, hn, hi]
  have fin : ∀ {e : Int}, msgE m xs img.length = e → ∀ {u : World}, Ext w u → K e u := fun h u hx => h ▸ hK u hx
  refine ⟨fun u => Ext w u ∧ (1 ≤ m.Kind ∧ m.Kind ≤ 11) ∧ (mRng1 m ∧ mRng2 m) ∧ ¬ mLong m xs.length img.length, ?_, ?_⟩
  · refine ifEq (fun h0 => fin (msgE_5 fun hk => ?_) hx) (fun h0 => ?_)
    · unfold fieldsM at h0
      repeat' split at h0
      all_goals first | omega | cases h0
    have hk : 1 ≤ m.Kind ∧ m.Kind ≤ 11 := Classical.byContradiction fun hk => h0 (fieldsM_no hk)
    refine msgone_ranges_calls (m := m) (msgone_ranges_spec fun t w7 hr hx' => kp_ext hx' ?_)
    have hx := hx.trans' hx'
    refine ifNot (ifB_of (fun h => ?_) (fun h => fin (msgE_6 hk fun h' => by rw [hr.2 h'] at h; cases h) hx))
    have hr := hr.1 h
    have tm : ¬ (mE m.Kind = true ∧ 256 < xs.length) → ifB (mM m.Kind) (ifB (decide ((img.length : Int) > 32768)) (K 2 w7) (Ext w w7 ∧ (1 ≤ m.Kind ∧ m.Kind ≤ 11) ∧ (mRng1 m ∧ mRng2 m) ∧ ¬ mLong m xs.length img.length)) (Ext w w7 ∧ (1 ≤ m.Kind ∧ m.Kind ≤ 11) ∧ (mRng1 m ∧ mRng2 m) ∧ ¬ mLong m xs.length img.length) := fun g =>
      ifB_of (fun hm => ifD (fun h => fin (msgE_2 hk hr (.inr ⟨hm, by omega⟩)) hx) (fun h => ⟨hx, hk, hr, fun h' => by rcases h' with h' | h'; exact g h'; omega⟩)) (fun hm => ⟨hx, hk, hr, fun h' => by rcases h' with h' | h'; exact g h'; rw [hm] at h'; cases h'.1⟩)
    refine ifB_of (fun he => ?_) (fun he => tm fun h' => by rw [he] at h'; cases h'.1)
    refine ifD (fun h1 => ifD (fun h2 => fin (msgE_2 hk hr (.inl ⟨he, by omega⟩)) hx) (fun h2 => absurd h1 h2)) (fun h1 => tm fun h' => by omega)
  rintro w8 ⟨hx, hk, hr, hlong⟩
  refine ⟨fun u => Ext w u ∧ (mE m.Kind = true → entsE xs = 0), ?_, ?_⟩
  · refine ifB_of (fun he => ?_) (fun he => ⟨hx, fun h' => by rw [he] at h'; cases h'⟩)
    refine entry_Check_calls (entry_Check_spec (ht.ext hx) (h.es.ext hx) fun w11 hx' => kp_ext hx' ?_)
    have hx := hx.trans' hx'
    exact ifNe (fun h0 => fin (msgE_e hk hr hlong he h0) hx) (fun h0 => ⟨hx, fun _ => h0⟩)
  rintro w12 ⟨hx, hents⟩
  have bad : ¬ mFrm m xs img.length → ∀ {u : World}, Ext w u → K 3 u := fun g u hx => fin (msgE_3 hk hr hlong hents g) hx
  refine msgone_others_calls (m := m) (msgone_others_spec hn hi fun t w14 ho hx' => kp_ext hx' ?_)
  have hx := hx.trans' hx'
  have frm : mOth m xs.length img.length → (m.Kind = 5 → ∃ x, xs = [x] ∧ x.Ballot = m.Ballot) → (m.Kind = 11 → 0 < img.length) → mFrm m xs img.length := fun ⟨g1, g2, g3, g4, g5, g6⟩ h5 h11 =>
    ⟨g1, g2, g3, g4, fun h => List.length_eq_zero_iff.1 (g5 h), ⟨fun h => h11 (by unfold mM at h; simpa using h), fun h => by
      cases hm : mM m.Kind
      · have := g6 hm; omega
      · rfl⟩, h5⟩
  refine ifB_of (fun h' => bad (fun hf => ho.1 h' ⟨hf.1, hf.2.1, hf.2.2.1, hf.2.2.2.1, fun h => by rw [hf.2.2.2.2.1 h]; rfl, fun h => Classical.byContradiction fun hc => by
    have := hf.2.2.2.2.2.1.2 (by omega); rw [h] at this; cases this⟩) hx) (fun h' => ?_)
  have oth : mOth m xs.length img.length := Classical.byContradiction fun k => by rw [ho.2 k] at h'; cases h'
  have last : (m.Kind = 5 → ∃ x, xs = [x] ∧ x.Ballot = m.Ballot) → ∀ {u : World}, Ext w u → ifB (m.Kind == 11) (ifB ((img.length : Int) == 0) (K 3 u) (K 0 u)) (K 0 u) := fun h5 u hx =>
    ifEq (fun h11 => ifEq (fun h0 => bad (fun hf => by have := hf.2.2.2.2.2.1.1 (by rw [h11]; rfl); omega) hx) (fun h0 => fin (msgE_0 hk hr hlong hents (frm oth h5 fun _ => by omega)) hx)) (fun h11 => fin (msgE_0 hk hr hlong hents (frm oth h5 fun h => absurd h h11)) hx)
  refine ifEq (fun h5 => ?_) (fun h5 => last (fun h => absurd h h5) hx)
  refine msgone_accept_calls (m := m) (msgone_accept_spec (h.es.ext hx) fun t w16 ha hx' => kp_ext hx' ?_)
  have hx := hx.trans' hx'
  exact ifNot (ifB_of (fun h => last (fun _ => ha.1 h) hx) (fun h => bad (fun hf => by rw [ha.2 (hf.2.2.2.2.2.2 h5)] at h; cases h) hx))
end Go.Chg
/-
  What is wrong with a message: the document's answer.
-/
set_option maxRecDepth 20000
set_option linter.unusedVariables false
namespace Go.Chg
open Go.Vc
variable {w : World} {m : ApiMsg} {xs : List ApiEntry} {img : List UInt8}
def lits : List (List UInt8) := [[], [118], [118], [98, 105], [98, 105, 99, 101], [98, 101], [98, 105], [98], [98, 99], [105], [99, 101], [109]]
def lettersN (k : Int) : List UInt8 := if 1 ≤ k ∧ k ≤ 11 then lits.getD k.toNat [] else []
theorem ref13_Letters_spec {k : Int} {K : List UInt8 → World → Prop} (hK : ∀ w', Ext w w' → K (lettersN k) w') : ref13_Letters k K w := by
  unfold ref13_Letters
  refine lit_ty 16 (E := eS) (xs := lits) w.heap.size (by kernel_rfl) rfl (by decide) (fun w => by kernel_rfl) (Nat.le_refl _) fun s w2 _ ho hx => ?_
  have no : ¬ (1 ≤ k ∧ k ≤ 11) → K [] w2 := fun h => by
    have := hK _ hx
    unfold lettersN at this
    rwa [if_neg h] at this
  refine ifD (fun h => no (by omega)) (fun h1 => ifD (fun h => no (by omega)) (fun h2 => ?_))
  obtain ⟨n, rfl⟩ := Int.eq_ofNat_of_zero_le (show 0 ≤ k by omega)
  have hn : n < lits.length := by show n < 12; omega
  refine el_rd (E := eS) (y := lits[n]) (k := n) (by kernel_rfl) (by kernel_rfl) ho.is rfl hn rfl fun _ => ?_
  have := hK _ hx
  unfold lettersN at this
  rw [if_pos (by omega), Int.toNat_natCast, List.getD_eq_getElem?_getD, List.getElem?_eq_getElem hn, Option.getD_some] at this
  exact this
theorem ref13_Has_spec {k n : Int} {c : UInt8} {K : Bool → World → Prop} (hn : n = (c.toNat : Int)) (hK : ∀ w', Ext w w' → K (decide (c ∈ lettersN k)) w') : ref13_Has k n K w := by
  unfold ref13_Has
  refine ref13_Letters_calls (ref13_Letters_spec fun w2 hx => ?_)
  have hlen : (lettersN k).length ≤ 9223372036854775807 := by
    unfold lettersN
    split
    · rename_i h
      obtain ⟨n, rfl⟩ := Int.eq_ofNat_of_zero_le (show 0 ≤ k by omega)
      have key : ∀ j : Fin 12, (lits.getD j.val []).length ≤ 9223372036854775807 := by decide
      exact key ⟨n, by omega⟩
    · simp
  generalize lettersN k = l at hK hlen ⊢
  refine up1 (fun j w' => Ext w w' ∧ ∀ x ∈ l.take j, x ≠ c) 0 l.length rfl (by omega) hlen ⟨hx, by simp⟩ ?_
  rintro j w5 C _ hj ⟨hx, hq⟩ hC
  refine ifD (fun hlt => ?_) (fun hge => ?_)
  · have hj1 : j < l.length := by omega
    refine idx_str j (by kernel_rfl) rfl hj1 ?_
    refine ifEq (fun h => ?_) (fun h => hC hj1 _ _ rfl ⟨hx, all_up hj1 hq fun e => h (by rw [e, hn])⟩)
    have e : l[j] = c := UInt8.toNat_inj.1 (by omega)
    have := hK _ hx
    rwa [decide_eq_true (show c ∈ l from e ▸ List.getElem_mem hj1)] at this
  · have := hK _ hx
    rwa [decide_eq_false (fun h => all_done (by omega) hq c h rfl)] at this
theorem letters_flags {k : Int} (hk : 1 ≤ k ∧ k ≤ 11) : decide ((98 : UInt8) ∈ lettersN k) = mB k ∧ decide ((105 : UInt8) ∈ lettersN k) = mI k ∧ decide ((99 : UInt8) ∈ lettersN k) = mC k ∧ decide ((118 : UInt8) ∈ lettersN k) = mV k ∧ decide ((101 : UInt8) ∈ lettersN k) = mE k ∧ decide ((109 : UInt8) ∈ lettersN k) = mM k ∧ lettersN k ≠ [] := by
  have key : ∀ j : Fin 12, 1 ≤ j.val → decide ((98 : UInt8) ∈ lettersN (j.val : Int)) = mB (j.val : Int) ∧ decide ((105 : UInt8) ∈ lettersN (j.val : Int)) = mI (j.val : Int) ∧ decide ((99 : UInt8) ∈ lettersN (j.val : Int)) = mC (j.val : Int) ∧ decide ((118 : UInt8) ∈ lettersN (j.val : Int)) = mV (j.val : Int) ∧
      decide ((101 : UInt8) ∈ lettersN (j.val : Int)) = mE (j.val : Int) ∧ decide ((109 : UInt8) ∈ lettersN (j.val : Int)) = mM (j.val : Int) ∧ lettersN (j.val : Int) ≠ [] := by decide +kernel
  obtain ⟨n, rfl⟩ := Int.eq_ofNat_of_zero_le (show 0 ≤ k by omega)
  exact key ⟨n, by omega⟩ (by show 1 ≤ n; omega)
theorem flags_any (k : Int) : decide ((98 : UInt8) ∈ lettersN k) = mB k ∧ decide ((105 : UInt8) ∈ lettersN k) = mI k ∧ decide ((99 : UInt8) ∈ lettersN k) = mC k ∧ decide ((118 : UInt8) ∈ lettersN k) = mV k ∧ decide ((101 : UInt8) ∈ lettersN k) = mE k ∧ decide ((109 : UInt8) ∈ lettersN k) = mM k := by
  by_cases hk : 1 ≤ k ∧ k ≤ 11
  · obtain ⟨a, b, c, d, e, f, _⟩ := letters_flags hk
    exact ⟨a, b, c, d, e, f⟩
  · obtain ⟨h1, h2, h3, h4, h5, h6⟩ := flags_no hk
    have : lettersN k = [] := if_neg hk
    rw [this, h1, h2, h3, h4, h5, h6]
    exact ⟨rfl, rfl, rfl, rfl, rfl, rfl⟩
section
variable {k : Int} {K : Bool → World → Prop}
theorem has_b (hK : ∀ w', Ext w w' → K (mB k) w') : callV Pr Value.bool fid_ref13_Has #[.int .i64 k, .int .u8 98] w K := ref13_Has_calls (ref13_Has_spec (c := 98) rfl fun u hx => by rw [(flags_any k).1]; exact hK u hx)
theorem has_i (hK : ∀ w', Ext w w' → K (mI k) w') : callV Pr Value.bool fid_ref13_Has #[.int .i64 k, .int .u8 105] w K := ref13_Has_calls (ref13_Has_spec (c := 105) rfl fun u hx => by rw [(flags_any k).2.1]; exact hK u hx)
theorem has_c (hK : ∀ w', Ext w w' → K (mC k) w') : callV Pr Value.bool fid_ref13_Has #[.int .i64 k, .int .u8 99] w K := ref13_Has_calls (ref13_Has_spec (c := 99) rfl fun u hx => by rw [(flags_any k).2.2.1]; exact hK u hx)
theorem has_v (hK : ∀ w', Ext w w' → K (mV k) w') : callV Pr Value.bool fid_ref13_Has #[.int .i64 k, .int .u8 118] w K := ref13_Has_calls (ref13_Has_spec (c := 118) rfl fun u hx => by rw [(flags_any k).2.2.2.1]; exact hK u hx)
theorem has_e (hK : ∀ w', Ext w w' → K (mE k) w') : callV Pr Value.bool fid_ref13_Has #[.int .i64 k, .int .u8 101] w K := ref13_Has_calls (ref13_Has_spec (c := 101) rfl fun u hx => by rw [(flags_any k).2.2.2.2.1]; exact hK u hx)
theorem has_m (hK : ∀ w', Ext w w' → K (mM k) w') : callV Pr Value.bool fid_ref13_Has #[.int .i64 k, .int .u8 109] w K := ref13_Has_calls (ref13_Has_spec (c := 109) rfl fun u hx => by rw [(flags_any k).2.2.2.2.2]; exact hK u hx)
end
theorem ref13_ballot_spec {b : ApiBallot} {K : Bool → World → Prop} (hK : ∀ t w', (t = true ↔ BMay b ∧ b ≠ zBallot) → Ext w w' → K t w') : ref13_ballot b K w := by
  unfold ref13_ballot
  refine new_x (Ext.rfl' w) fun b1 w2 _ _ hx _ => ?_
  refine ref10_May_calls (b := b) (ref10_May_spec fun t w4 ht hx' => kp_ext hx' ?_)
  have hx := hx.trans' hx'
  refine ifB_of (fun h => hK _ _ ?_ hx) (fun h => hK _ _ ⟨fun e => (by cases e), fun k => by rw [ht.2 k.1] at h; cases h⟩ hx)
  have hm := ht.1 h
  rw [decide_eq_true_iff]
  refine ⟨fun h0 => ⟨hm, fun e => by rw [e] at h0; exact absurd h0 (by decide)⟩, fun k => ?_⟩
  rcases hm with h' | ⟨h1, _⟩
  · exact absurd h' k.2
  · omega

/-! ### The questions, one behind the other -/
section
variable (m) (b1 : Nat) (K : Int → World → Prop) (J : World → Prop)
def qV (u : World) : Prop := callV Pr Value.bool fid_ref13_Has #[(.int .i64 m.Kind), (.int .u8 118)] u fun t u' => kp b1 u u' <| ifB t (ifB (m.Version != 1) (ifB (m.Version != 2) (K 6 u') (J u')) (J u')) (J u')
def qC (u : World) : Prop := callV Pr Value.bool fid_ref13_Has #[(.int .i64 m.Kind), (.int .u8 99)] u fun t u' => kp b1 u u' <| ifB t (ifB (decide (m.Commit < 0)) (K 6 u') (ifB (decide (m.Commit > 4294967296)) (K 6 u') (qV m b1 K J u'))) (qV m b1 K J u')
def qI (u : World) : Prop := callV Pr Value.bool fid_ref13_Has #[(.int .i64 m.Kind), (.int .u8 105)] u fun t u' => kp b1 u u' <| ifB t (ifB (decide (m.Index < 1)) (K 6 u') (ifB (decide (m.Index > 4294967296)) (K 6 u') (qC m b1 K J u'))) (qC m b1 K J u')
def qB (u : World) : Prop := callV Pr Value.bool fid_ref13_Has #[(.int .i64 m.Kind), (.int .u8 98)] u fun t u' => kp b1 u u' <| ifB t (callV Pr Value.bool fid_ref13_ballot #[(.agg ⟨[(.int .i64 m.Ballot.Round), (.int .i64 m.Ballot.Node)]⟩)] u' fun t8 u'' => kp b1 u' u'' <| ifB (!t8) (K 6 u'') (qI m b1 K J u'')) (qI m b1 K J u')
variable (S : World → Prop) (n il : Int)
def gM (u : World) : Prop := callV Pr Value.bool fid_ref13_Has #[(.int .i64 m.Kind), (.int .u8 109)] u fun t u' => kp b1 u u' <| (S u') ∧ (ifB (!(t == (decide (il > 0)))) (K 3 u') (J u'))
def gE (u : World) : Prop := callV Pr Value.bool fid_ref13_Has #[(.int .i64 m.Kind), (.int .u8 101)] u fun t u' => kp b1 u u' <| (S u') ∧ (ifB (!t) (ifB (decide (n > 0)) (K 3 u') (gM m b1 K J S il u')) (gM m b1 K J S il u'))
def gV (u : World) : Prop := callV Pr Value.bool fid_ref13_Has #[(.int .i64 m.Kind), (.int .u8 118)] u fun t u' => kp b1 u u' <| (S u') ∧ (ifB (!t) (ifB (m.Version != 0) (K 3 u') (gE m b1 K J S n il u')) (gE m b1 K J S n il u'))
def gC (u : World) : Prop := callV Pr Value.bool fid_ref13_Has #[(.int .i64 m.Kind), (.int .u8 99)] u fun t u' => kp b1 u u' <| (S u') ∧ (ifB (!t) (ifB (m.Commit != 0) (K 3 u') (gV m b1 K J S n il u')) (gV m b1 K J S n il u'))
def gI (u : World) : Prop := callV Pr Value.bool fid_ref13_Has #[(.int .i64 m.Kind), (.int .u8 105)] u fun t u' => kp b1 u u' <| (S u') ∧ (ifB (!t) (ifB (m.Index != 0) (K 3 u') (gC m b1 K J S n il u')) (gC m b1 K J S n il u'))
def gB (u : World) : Prop := callV Pr Value.bool fid_ref13_Has #[(.int .i64 m.Kind), (.int .u8 98)] u fun t u' => kp b1 u u' <| (S u') ∧ (ifB (!t) (ifB (m.Ballot.Round != 0) (K 3 u') (ifB (m.Ballot.Node != 0) (K 3 u') (gI m b1 K J S n il u'))) (gI m b1 K J S n il u'))
end
theorem ref13_Check_spec {K : Int → World → Prop} (h : MsgAt w m xs img) (hK : ∀ w', Ext w w' → K (msgE m xs img.length) w') : ref13_Check m K w := by
  unfold ref13_Check
  have hn := h.es.len
  have hi := h.im.len
  have fin : ∀ {e : Int}, msgE m xs img.length = e → ∀ {u : World}, Ext w u → K e u := fun h u hx => h ▸ hK u hx
  refine new_x (Ext.rfl' w) fun b1 w2 _ _ hx _ => ?_
  refine ref13_Letters_calls (ref13_Letters_spec fun w4 hx' => kp_ext hx' ?_)
  have hx := hx.trans' hx'
  refine ifStr (fun h0 => fin (msgE_5 fun hk => (letters_flags hk).2.2.2.2.2.2 h0) hx) (fun h0 => ?_)
  have hk : 1 ≤ m.Kind ∧ m.Kind ≤ 11 := Classical.byContradiction fun hk => h0 (if_neg hk)
  have b6 : ¬ (mRng1 m ∧ mRng2 m) → ∀ {u : World}, Ext w u → K 6 u := fun g u hx => fin (msgE_6 hk g) hx
  refine ifD (fun h => b6 (fun k => by have := k.1.1.1; omega) hx) (fun h1 => ?_)
  refine ifD (fun h => b6 (fun k => by have := k.1.1.2; omega) hx) (fun h2 => ?_)
  refine ifD (fun h => b6 (fun k => by have := k.1.2.1.1; omega) hx) (fun h3 => ?_)
  refine ifD (fun h => b6 (fun k => by have := k.1.2.1.2; omega) hx) (fun h4 => ?_)
  refine ifEq (fun h => b6 (fun k => k.1.2.2 h) hx) (fun h5 => ?_)
  have r1 : mRng1 m := ⟨⟨by omega, by omega⟩, ⟨by omega, by omega⟩, h5⟩
  refine ⟨fun u => Ext w u ∧ mRng2 m, ?_, ?_⟩
  · have sv : (mB m.Kind = true → BMay m.Ballot ∧ m.Ballot ≠ zBallot) → (mI m.Kind = true → 1 ≤ m.Index ∧ m.Index ≤ 4294967296) → (mC m.Kind = true → 0 ≤ m.Commit ∧ m.Commit ≤ 4294967296) → ∀ {u : World}, Ext w u → qV m b1 K (fun u => Ext w u ∧ mRng2 m) u := fun g1 g2 g3 u hx =>
      has_v fun u' hx' => kp_ext hx' (ifB_of (fun hf => ifNe (fun n1 => ifNe (fun n2 => b6 (fun k => by have := k.2.2.2.2 hf; omega) (hx.trans' hx')) (fun n2 => ⟨hx.trans' hx', g1, g2, g3, fun _ => .inr n2⟩)) (fun n1 => ⟨hx.trans' hx', g1, g2, g3, fun _ => .inl n1⟩)) (fun hf => ⟨hx.trans' hx', g1, g2, g3, fun h => by rw [hf] at h; cases h⟩))
    have sc : (mB m.Kind = true → BMay m.Ballot ∧ m.Ballot ≠ zBallot) → (mI m.Kind = true → 1 ≤ m.Index ∧ m.Index ≤ 4294967296) → ∀ {u : World}, Ext w u → qC m b1 K (fun u => Ext w u ∧ mRng2 m) u := fun g1 g2 u hx =>
      has_c fun u' hx' => kp_ext hx' (ifB_of (fun hf => ifD (fun h => b6 (fun k => by have := k.2.2.2.1 hf; omega) (hx.trans' hx')) (fun c1 => ifD (fun h => b6 (fun k => by have := k.2.2.2.1 hf; omega) (hx.trans' hx')) (fun c2 => sv g1 g2 (fun _ => ⟨by omega, by omega⟩) (hx.trans' hx')))) (fun hf => sv g1 g2 (fun h => by rw [hf] at h; cases h) (hx.trans' hx')))
    have si : (mB m.Kind = true → BMay m.Ballot ∧ m.Ballot ≠ zBallot) → ∀ {u : World}, Ext w u → qI m b1 K (fun u => Ext w u ∧ mRng2 m) u := fun g1 u hx =>
      has_i fun u' hx' => kp_ext hx' (ifB_of (fun hf => ifD (fun h => b6 (fun k => by have := k.2.2.1 hf; omega) (hx.trans' hx')) (fun c1 => ifD (fun h => b6 (fun k => by have := k.2.2.1 hf; omega) (hx.trans' hx')) (fun c2 => sc g1 (fun _ => ⟨by omega, by omega⟩) (hx.trans' hx')))) (fun hf => sc g1 (fun h => by rw [hf] at h; cases h) (hx.trans' hx')))
    show qB m b1 K (fun u => Ext w u ∧ mRng2 m) w4
    refine has_b fun u' hx' => kp_ext hx' ?_
    have hx := hx.trans' hx'
    refine ifB_of (fun hf => ?_) (fun hf => si (fun h => by rw [hf] at h; cases h) hx)
    refine ref13_ballot_calls (b := m.Ballot) (ref13_ballot_spec fun t u'' ht hx' => kp_ext hx' ?_)
    exact ifNot (ifB_of (fun h => si (fun _ => ht.1 h) (hx.trans' hx')) (fun h => b6 (fun k => by rw [ht.2 (k.2.1 hf)] at h; cases h) (hx.trans' hx')))
  rintro w38 ⟨hx, r2⟩
  refine ⟨fun u => Ext w u ∧ ¬ mLong m xs.length img.length, ?_, ?_⟩
  · have sm : ¬ (mE m.Kind = true ∧ 256 < xs.length) → ∀ {u : World}, Ext w u → callV Pr Value.bool fid_ref13_Has #[(.int .i64 m.Kind), (.int .u8 109)] u fun t u' => kp b1 u u' <| ifB t (ifB (decide ((m.Image.len : Int) > 32768)) (K 2 u') (Ext w u' ∧ ¬ mLong m xs.length img.length)) (Ext w u' ∧ ¬ mLong m xs.length img.length) := fun g u hx =>
      has_m fun u' hx' => kp_ext hx' (ifB_of (fun hf => ifD (fun h => fin (msgE_2 hk ⟨r1, r2⟩ (.inr ⟨hf, by omega⟩)) (hx.trans' hx')) (fun h => ⟨hx.trans' hx', fun k => by rcases k with k | k; exact g k; omega⟩)) (fun hf => ⟨hx.trans' hx', fun k => by rcases k with k | k; exact g k; rw [hf] at k; cases k.1⟩))
    refine has_e fun u' hx' => kp_ext hx' ?_
    have hx := hx.trans' hx'
    refine ifB_of (fun hf => ?_) (fun hf => sm (fun k => by rw [hf] at k; cases k.1) hx)
    exact ifD (fun h => fin (msgE_2 hk ⟨r1, r2⟩ (.inl ⟨hf, by omega⟩)) hx) (fun h => sm (fun k => by omega) hx)
  rintro w46 ⟨hx, hlong⟩
  refine ⟨fun u => Ext w u ∧ (mE m.Kind = true → entsE xs = 0), ?_, ?_⟩
  · refine has_e fun u' hx' => kp_ext hx' ?_
    have hx := hx.trans' hx'
    refine ifB_of (fun hf => ?_) (fun hf => ⟨hx, fun k => by rw [hf] at k; cases k⟩)
    refine ref12_Check_calls (ref12_Check_spec (h.es.ext hx) fun u'' hx' => kp_ext hx' ?_)
    have hx := hx.trans' hx'
    exact ifNe (fun h0 => fin (msgE_e hk ⟨r1, r2⟩ hlong hf h0) hx) (fun h0 => ⟨hx, fun _ => h0⟩)
  rintro w52 ⟨hx, hents⟩
  have bad : ¬ mFrm m xs img.length → ∀ {u : World}, Ext w u → K 3 u := fun g u hx => fin (msgE_3 hk ⟨r1, r2⟩ hlong hents g) hx
  let F : Prop := (mB m.Kind = false → m.Ballot = zBallot) ∧ (mI m.Kind = false → m.Index = 0) ∧ (mC m.Kind = false → m.Commit = 0) ∧ (mV m.Kind = false → m.Version = 0) ∧ (mE m.Kind = false → xs = []) ∧ (mM m.Kind = true ↔ 0 < img.length)
  refine ⟨fun u => Ext w u ∧ F, ?_, ?_⟩
  · rw [hn, hi]
    have tm : (mB m.Kind = false → m.Ballot = zBallot) → (mI m.Kind = false → m.Index = 0) → (mC m.Kind = false → m.Commit = 0) → (mV m.Kind = false → m.Version = 0) → (mE m.Kind = false → xs = []) → ∀ {u : World}, Ext w u → gM m b1 K (fun u => Ext w u ∧ F) (fun _ => True) (img.length : Int) u := fun g1 g2 g3 g4 g5 u hx =>
      has_m fun u' hx' => kp_ext hx' ⟨trivial, ifNot (ifB_of (fun h => ⟨hx.trans' hx', g1, g2, g3, g4, g5, by rw [beq_iff_eq] at h; rw [h, decide_eq_true_iff]; omega⟩) (fun h => bad (fun k => by
        have k6 := k.2.2.2.2.2.1
        cases hm : mM m.Kind
        · rw [hm] at h k6
          have : decide ((img.length : Int) > 0) = true := by cases hd : decide ((img.length : Int) > 0); rw [hd] at h; cases h; rfl
          rw [decide_eq_true_iff] at this
          have := k6.2 (by omega)
          cases this
        · rw [hm] at h k6
          rw [decide_eq_true (show (img.length : Int) > 0 by have := k6.1 rfl; omega)] at h
          cases h) (hx.trans' hx')))⟩
    have te : (mB m.Kind = false → m.Ballot = zBallot) → (mI m.Kind = false → m.Index = 0) → (mC m.Kind = false → m.Commit = 0) → (mV m.Kind = false → m.Version = 0) → ∀ {u : World}, Ext w u → gE m b1 K (fun u => Ext w u ∧ F) (fun _ => True) (xs.length : Int) (img.length : Int) u := fun g1 g2 g3 g4 u hx =>
      has_e fun u' hx' => kp_ext hx' ⟨trivial, ifNot (ifB_of (fun hf => tm g1 g2 g3 g4 (fun h => by rw [hf] at h; cases h) (hx.trans' hx')) (fun hf => ifD (fun h => bad (fun k => by rw [k.2.2.2.2.1 hf] at h; exact absurd h (by decide)) (hx.trans' hx')) (fun h => tm g1 g2 g3 g4 (fun _ => List.length_eq_zero_iff.1 (by omega)) (hx.trans' hx'))))⟩
    have tv : (mB m.Kind = false → m.Ballot = zBallot) → (mI m.Kind = false → m.Index = 0) → (mC m.Kind = false → m.Commit = 0) → ∀ {u : World}, Ext w u → gV m b1 K (fun u => Ext w u ∧ F) (fun _ => True) (xs.length : Int) (img.length : Int) u := fun g1 g2 g3 u hx =>
      has_v fun u' hx' => kp_ext hx' ⟨trivial, ifNot (ifB_of (fun hf => te g1 g2 g3 (fun h => by rw [hf] at h; cases h) (hx.trans' hx')) (fun hf => ifNe (fun h => bad (fun k => h (k.2.2.2.1 hf)) (hx.trans' hx')) (fun h => te g1 g2 g3 (fun _ => h) (hx.trans' hx'))))⟩
    have tc : (mB m.Kind = false → m.Ballot = zBallot) → (mI m.Kind = false → m.Index = 0) → ∀ {u : World}, Ext w u → gC m b1 K (fun u => Ext w u ∧ F) (fun _ => True) (xs.length : Int) (img.length : Int) u := fun g1 g2 u hx =>
      has_c fun u' hx' => kp_ext hx' ⟨trivial, ifNot (ifB_of (fun hf => tv g1 g2 (fun h => by rw [hf] at h; cases h) (hx.trans' hx')) (fun hf => ifNe (fun h => bad (fun k => h (k.2.2.1 hf)) (hx.trans' hx')) (fun h => tv g1 g2 (fun _ => h) (hx.trans' hx'))))⟩
    have ti : (mB m.Kind = false → m.Ballot = zBallot) → ∀ {u : World}, Ext w u → gI m b1 K (fun u => Ext w u ∧ F) (fun _ => True) (xs.length : Int) (img.length : Int) u := fun g1 u hx =>
      has_i fun u' hx' => kp_ext hx' ⟨trivial, ifNot (ifB_of (fun hf => tc g1 (fun h => by rw [hf] at h; cases h) (hx.trans' hx')) (fun hf => ifNe (fun h => bad (fun k => h (k.2.1 hf)) (hx.trans' hx')) (fun h => tc g1 (fun _ => h) (hx.trans' hx'))))⟩
    refine held_x fun w54 hx' => ?_
    have hx := hx.trans' hx'
    show gB m b1 K (fun u => Ext w u ∧ F) (fun _ => True) (xs.length : Int) (img.length : Int) w54
    refine has_b fun u' hx' => kp_ext hx' ⟨trivial, ?_⟩
    have hx := hx.trans' hx'
    refine ifNot (ifB_of (fun hf => ti (fun h => by rw [hf] at h; cases h) hx) (fun hf => ?_))
    refine ifNe (fun h => bad (fun k => by rw [k.1 hf] at h; exact h rfl) hx) (fun q1 => ?_)
    exact ifNe (fun h => bad (fun k => by rw [k.1 hf] at h; exact h rfl) hx) (fun q2 => ti (fun _ => bal_eq.2 ⟨q1, q2⟩) hx)
  rintro w182 ⟨hx, f1, f2, f3, f4, f5, f6⟩
  refine drew_of fun w183 hx' => ?_
  have hx := hx.trans' hx'
  have h := h.es.ext hx
  refine ifEq (fun h5' => ?_) (fun h5' => fin (msgE_0 hk ⟨r1, r2⟩ hlong hents ⟨f1, f2, f3, f4, f5, f6, fun k => absurd k h5'⟩) hx)
  refine ifNe (fun h1 => bad (fun k => by obtain ⟨x, hx, _⟩ := k.2.2.2.2.2.2 h5'; rw [hn, hx] at h1; exact h1 rfl) hx) (fun h1 => ?_)
  obtain ⟨x, rfl⟩ := List.length_eq_one_iff.1 (show xs.length = 1 by omega)
  refine part_rd (E := eApiEntry) (n := 2) (off := 1) (k := 0) (y := x.Ballot) (val := ApiBallot.val) (xs := x.Ballot.cs) (by kernel_rfl) (by kernel_rfl) h rfl (by simp) rfl rfl (ent_bal _) fun _ => ?_
  refine neSt (by kernel_rfl) (ApiBallot.eqv x.Ballot m.Ballot) (ifNot (ifB_of (fun he => ?_) (fun he => ?_)))
  · exact fin (msgE_0 hk ⟨r1, r2⟩ hlong hents ⟨f1, f2, f3, f4, f5, f6, fun _ => ⟨x, rfl, ApiBallot.eqs_iff.1 he⟩⟩) hx
  · refine bad (fun k => ?_) hx
    obtain ⟨y, hy, e⟩ := k.2.2.2.2.2.2 h5'
    cases hy
    rw [ApiBallot.eqs_iff.2 e] at he
    cases he
theorem ref13_Large_spec {K : Bool → World → Prop} (h : MsgAt w m xs img) (hK : ∀ t w', (t = false → (xs.length ≤ 40 ∧ ∀ x ∈ xs, EntSmall x) ∧ img.length ≤ 32780) → Ext w w' → K t w') : ref13_Large m K w := by
  unfold ref13_Large
  have hi := h.im.len
  refine new_x (Ext.rfl' w) fun b1 w2 _ _ hx _ => ?_
  refine ref12_Large_calls (ref12_Large_spec (h.es.ext hx) fun t h3 => kp_same ?_)
  refine ifB_of (fun _ => hK _ _ (fun e => by cases e) hx) (fun h' => ?_)
  have hs := h3 h'
  have fin : K (decide ((m.Image.len : Int) > 32780)) w2 := hK _ _ (fun e => ⟨hs, by rw [decide_eq_false_iff_not] at e; omega⟩) hx
  have yes : K true w2 := hK _ _ (fun e => by cases e) hx
  refine ifD (fun _ => ?_) (fun _ => fin)
  generalize decide ((m.Image.len : Int) < 32760) = b
  cases b
  · exact fin
  · exact yes
/-- Two messages that say the same. -/
def MsgEq (a b : ApiMsg) (xs ys : List ApiEntry) (i j : List UInt8) : Prop := (a.Kind = b.Kind ∧ a.From = b.From ∧ a.To = b.To ∧ a.Ballot = b.Ballot ∧ a.Index = b.Index ∧ a.Commit = b.Commit ∧ a.Version = b.Version) ∧ xs = ys ∧ i = j
theorem ref13_Same_spec {a b : ApiMsg} {ys : List ApiEntry} {jmg : List UInt8} {K : Bool → World → Prop} (ha : MsgAt w a xs img) (hb : MsgAt w b ys jmg) (hK : ∀ t w', (t = true ↔ MsgEq a b xs ys img jmg) → Ext w w' → K t w') : ref13_Same a b K w := by
  unfold ref13_Same
  refine new_x (Ext.rfl' w) fun b1 w2 _ _ hx _ => new_x hx fun b3 w4 _ _ hx _ => ?_
  have no : ∀ {u : World}, Ext w u → ¬ MsgEq a b xs ys img jmg → K false u := fun hx h => hK _ _ ⟨fun e => (by cases e), fun e => absurd e h⟩ hx
  refine ifEq (fun h1 => ?_) (fun h => no hx fun k => h k.1.1)
  refine ifEq (fun h2 => ?_) (fun h => no hx fun k => h k.1.2.1)
  refine ifEq (fun h3 => ?_) (fun h => no hx fun k => h k.1.2.2.1)
  refine eqSt (by kernel_rfl) (ApiBallot.eqv a.Ballot b.Ballot) (ifB_of (fun h4 => ?_) (fun h => no hx fun k => by rw [ApiBallot.eqs_iff.2 k.1.2.2.2.1] at h; cases h))
  have h4 := ApiBallot.eqs_iff.1 h4
  refine ifEq (fun h5 => ?_) (fun h => no hx fun k => h k.1.2.2.2.2.1)
  refine ifEq (fun h6 => ?_) (fun h => no hx fun k => h k.1.2.2.2.2.2.1)
  refine ifEq (fun h7 => ?_) (fun h => no hx fun k => h k.1.2.2.2.2.2.2)
  refine ref12_Same_calls (ref12_Same_spec (ha.es.ext hx) (hb.es.ext hx) fun t w7 h8 hx' => kp_ext hx' (kp_ext hx' ?_))
  have hx := hx.trans' hx'
  refine ifB_of (fun h => ?_) (fun h => no hx fun k => by rw [h8.2 k.2.1] at h; cases h)
  refine ref01_Same_calls (ref01_Same_spec (ha.im.ext hx) (hb.im.ext hx) fun w9 hx' => kp_ext hx' (kp_ext hx' (hK _ _ ?_ (hx.trans' hx'))))
  rw [decide_eq_true_iff]
  exact ⟨fun h9 => ⟨⟨h1, h2, h3, h4, h5, h6, h7⟩, h8.1 h, h9⟩, fun k => k.2.2⟩
end Go.Chg
/-
  Package 'msgone': the bytes of V1, both ways.
-/
set_option maxRecDepth 20000
set_option linter.unusedVariables false
namespace Go.Chg
open Go.Vc
variable {w : World} {m : ApiMsg} {xs : List ApiEntry} {img l : List UInt8} {v p no : Int} {s : Sl}
/-! ### What a version has -/
theorem entry_Has_1_spec {x : ApiEntry} {a : Addr} {K : Bool → World → Prop} (ho : Vc.Obj w a [.int .i64 v]) (hK : ∀ t w', (t = true ↔ ¬ versHas v x.Cmd.Kind) → Ext w w' → K t w') : entry_Has_1 x a K w := by
  unfold entry_Has_1
  refine new_x (Ext.rfl' w) fun b1 w2 _ _ hx _ => ?_
  refine ld_obj0 (y := v) (by kernel_rfl) (ho.ext hx) rfl ?_
  refine vers_Has_calls (vers_Has_spec fun b hb => kp_same (hK _ _ ?_ hx))
  rw [← hb]
  cases b <;> simp
theorem index_has_spec {a : Addr} {K : Int → World → Prop} (hs : IsSl eApiEntry w s xs) (ho : Vc.Obj w a [.int .i64 v]) (hK : ∀ i w', (decide (i ≥ 0) = true ↔ ∃ x ∈ xs, ¬ versHas v x.Cmd.Kind) → Ext w w' → K i w') : slices_IndexFunc_api_Entry_api_Entry_Has s a K w := by
  unfold slices_IndexFunc_api_Entry_api_Entry_Has
  have hl := hs.len
  have hle := hs.le
  refine up1 (fun k w' => Ext w w' ∧ ∀ x ∈ xs.take k, versHas v x.Cmd.Kind) 0 xs.length rfl (by omega) hle ⟨Ext.rfl' _, by simp⟩ ?_
  rintro k w1 C _ hk ⟨hx1, hall⟩ hC
  refine ifD (fun hlt => ?_) (fun hge => hK _ _ ⟨fun h => absurd h (by decide), fun ⟨x, hx, hb⟩ => absurd (all_done (by omega) hall x hx) hb⟩ hx1)
  have hk1 : k < xs.length := by omega
  refine st_rd (E := eApiEntry) (val := ApiEntry.val) (by kernel_rfl) (by kernel_rfl) (hs.ext hx1) rfl hk1 (fun _ => rfl) fun _ => ?_
  refine entry_Has_1_calls (e := xs[k]) (entry_Has_1_spec (ho.ext hx1) fun t w2 ht hx2 => ?_)
  refine ifB_of (fun hb => hK _ _ ⟨fun _ => ⟨xs[k], List.getElem_mem hk1, ht.1 hb⟩, fun _ => by simp⟩ (hx1.trans' hx2)) (fun hb => hC hk1 _ _ rfl ⟨hx1.trans' hx2, all_up hk1 hall (Classical.byContradiction fun h => by rw [ht.2 h] at hb; cases hb)⟩)
theorem entry_Has_spec {K : Bool → World → Prop} (h : IsSl eApiEntry w s xs) (hK : ∀ t w', (t = true ↔ ∀ x ∈ xs, versHas v x.Cmd.Kind) → Ext w w' → K t w') : entry_Has v s K w := by
  unfold entry_Has
  refine box_ty fun a w2 ha hx ho => ?_
  refine slices_ContainsFunc_api_Entry_api_Entry_calls ?_
  unfold slices_ContainsFunc_api_Entry_api_Entry
  refine slices_IndexFunc_api_Entry_api_Entry_Has_calls (index_has_spec (h.ext hx) ho fun i w4 hi hx' => hK _ _ ?_ (hx.trans' hx'))
  constructor
  · intro hn x hx
    refine Classical.byContradiction fun hb => ?_
    rw [hi.2 ⟨x, hx, hb⟩] at hn
    cases hn
  · intro hall
    cases hd : decide (i ≥ 0)
    · rfl
    · obtain ⟨x, hx, hb⟩ := hi.1 hd
      exact absurd (hall x hx) hb
/-- V1 has a message. -/
def Old (m : ApiMsg) (xs : List ApiEntry) : Prop := (∀ x ∈ xs, versHas 1 x.Cmd.Kind) ∧ m.Version ≤ 1
theorem msgone_older_spec {K : Bool → World → Prop} (h : IsSl eApiEntry w m.Entries xs) (hK : ∀ t w', (t = true ↔ Old m xs) → Ext w w' → K t w') : msgone_older m K w := by
  unfold msgone_older
  refine new_x (Ext.rfl' w) fun b1 w2 _ _ hx _ => ?_
  refine entry_Has_calls (entry_Has_spec (h.ext hx) fun t w4 ht hx' => kp_ext hx' ?_)
  have hx := hx.trans' hx'
  refine ifB_of (fun h => hK _ _ ?_ hx) (fun h => hK _ _ ⟨fun e => (by cases e), fun k => by rw [ht.2 k.1] at h; cases h⟩ hx)
  rw [decide_eq_true_iff]
  exact ⟨fun k => ⟨ht.1 h, k⟩, fun k => k.2⟩
theorem ref07_Has_ver {k : Int} {K : Bool → World → Prop} (hK : ∀ b, (b = true ↔ versHas v k) → K b w) : ref07_Has v k K w := by
  unfold ref07_Has
  have no : ¬ versHas v k → K false w := fun h => hK _ ⟨fun e => (by cases e), fun h' => absurd h' h⟩
  refine ifD (fun h => no fun h' => by have := h'.2.1.1; omega) (fun h1 => ?_)
  refine ifD (fun h => no fun h' => by have := h'.2.1.2; omega) (fun h2 => ?_)
  refine ifEq (fun h => hK _ ⟨fun _ => ⟨.inr h, ⟨by omega, by omega⟩, fun _ => by omega⟩, fun _ => rfl⟩) (fun h3 => ?_)
  refine ifEq (fun h => hK _ ?_) (fun h4 => no fun h' => by have := h'.1; omega)
  rw [bne_iff_ne]
  exact ⟨fun h5 => ⟨.inl h, ⟨by omega, by omega⟩, fun h' => absurd h' h5⟩, fun h' h5 => by have := h'.2.2 h5; omega⟩
theorem ref12_Has_spec {K : Bool → World → Prop} (h : IsSl eApiEntry w s xs) (hK : ∀ t, (t = true ↔ ∀ x ∈ xs, versHas v x.Cmd.Kind) → K t w) : ref12_Has v s K w := by
  unfold ref12_Has
  have hl := h.len
  refine up1 (fun k w' => w = w' ∧ ∀ x ∈ xs.take k, versHas v x.Cmd.Kind) 0 xs.length rfl (by omega) (by have := h.le; omega) ⟨rfl, by simp⟩ ?_
  rintro k _ C _ hk ⟨rfl, hq⟩ hC
  refine ifD (fun hlt => ?_) (fun hge => hK _ ⟨fun _ => all_done (by omega) hq, fun _ => rfl⟩)
  have hk1 : k < xs.length := by omega
  refine fld2_rd (y := xs[k].Cmd.Kind) (o1 := 3) (o2 := 0) (by kernel_rfl) (by kernel_rfl) h rfl hk1 rfl fun _ => ?_
  refine ref07_Has_calls (ref07_Has_ver fun b hb => ?_)
  exact ifNot (ifB_of (fun hb' => hC hk1 _ _ rfl ⟨rfl, all_up hk1 hq (hb.1 hb')⟩) (fun hb' => hK _ ⟨fun e => (by cases e), fun k => by rw [hb.2 (k _ (List.getElem_mem hk1))] at hb'; cases hb'⟩))
/-- What is wrong with a message in V1. -/
def OlderE (m : ApiMsg) (xs : List ApiEntry) (il : Nat) (e : Int) : Prop := (msgE m xs il ≠ 0 ∧ e = msgE m xs il) ∨ (MsgOk m xs il ∧ ¬ Old m xs ∧ e = 8) ∨ (MsgOk m xs il ∧ Old m xs ∧ e = 0)
theorem OlderE.uniq {il : Nat} {e f : Int} (h : OlderE m xs il e) (k : OlderE m xs il f) : e = f := by
  rcases h with ⟨h1, h2⟩ | ⟨h1, h2, h3⟩ | ⟨h1, h2, h3⟩ <;> rcases k with ⟨k1, k2⟩ | ⟨k1, k2, k3⟩ | ⟨k1, k2, k3⟩
  · rw [h2, k2]
  · exact absurd (msgE_ok.2 k1) h1
  · exact absurd (msgE_ok.2 k1) h1
  · exact absurd (msgE_ok.2 h1) k1
  · rw [h3, k3]
  · exact absurd k2 h2
  · exact absurd (msgE_ok.2 h1) k1
  · exact absurd h2 k2
  · rw [h3, k3]
theorem ref13_Older_spec {K : Int → World → Prop} (h : MsgAt w m xs img) (hK : ∀ e w', OlderE m xs img.length e → Ext w w' → K e w') : ref13_Older m K w := by
  unfold ref13_Older
  refine new_x (Ext.rfl' w) fun b1 w2 _ _ hx _ => ?_
  refine ref13_Check_calls (m := m) (ref13_Check_spec (h.ext hx) fun w4 hx' => kp_ext hx' ?_)
  have hx := hx.trans' hx'
  refine ifNe (fun h0 => hK _ _ (.inl ⟨h0, rfl⟩) hx) (fun h0 => ?_)
  have hok := msgE_ok.1 h0
  obtain ⟨_, _, _, _, _, hv⟩ := hok.nums
  refine ifEq (fun h2 => hK _ _ (.inr (.inl ⟨hok, fun k => by have := k.2; omega, rfl⟩)) hx) (fun h2 => ?_)
  refine ref12_Has_calls (ref12_Has_spec (h.es.ext hx) fun t ht => kp_same ?_)
  exact ifNot (ifB_of (fun h' => hK _ _ (.inr (.inr ⟨hok, ⟨ht.1 h', by omega⟩, rfl⟩)) hx) (fun h' => hK _ _ (.inr (.inl ⟨hok, (fun k => by rw [ht.2 k.1] at h'; cases h'), rfl⟩)) hx))

/-! ### Writing -/
theorem entOk_num {x : ApiEntry} (h : EIdx x ∧ CmdOk x.Cmd) : EntNum x := by
  have := h.1.2.num
  have := h.1.1
  obtain ⟨a, b⟩ := cmdOk_sizes h.2
  exact ⟨by omega, by omega, by omega, a, b⟩
theorem seven {i : Nat} (h : i < 7) : i = 0 ∨ i = 1 ∨ i = 2 ∨ i = 3 ∨ i = 4 ∨ i = 5 ∨ i = 6 := by omega
theorem nums_le (h : MsgOk m xs img.length) : ∀ n ∈ numsL m, 0 ≤ n ∧ n ≤ 9223372036854775807 := by
  obtain ⟨a, b, c, d, e, _⟩ := h.nums
  have := h.kind
  intro n hn
  simp only [numsL, List.mem_cons, List.not_mem_nil, or_false] at hn
  rcases hn with rfl | rfl | rfl | rfl | rfl | rfl | rfl <;> omega
theorem encI_len {n : Int} (h : n ≤ 9223372036854775807) : (encI n).length ≤ 9 := enc_len9 h
/-- What encode tells. -/
def EncM (B : Nat) (w' : World) (m : ApiMsg) (xs : List ApiEntry) (img : List UInt8) (r : Sl × Int) : Prop :=
  ∃ e, OlderE m xs img.length e ∧ (e ≠ 0 ∧ r = (Sl.nil, e) ∨ e = 0 ∧ r.2 = 0 ∧ OwnSl eB w' B r.1 (msg1B m xs img))
theorem msg1B_len (h : MsgOk m xs img.length) : (msg1B m xs img).length ≤ 10000000000 := by
  have a := flat_le (xs := numsL m) (B := encI) (m := 9) fun n hn => encI_len (nums_le h n hn).2
  have b := flat_le (xs := xs) (B := entB 1) (m := 10000000) fun x hx => entB_le (entOk_num (h.each x hx))
  have hf := h.few
  have hi := h.img
  have c : xs.length * 10000000 ≤ 256 * 10000000 := Nat.mul_le_mul_right _ hf
  have d := enc_len9 (n := (img.length : Int)) (by omega)
  have e := enc_len9 (n := (xs.length : Int)) (by omega)
  rw [Int.toNat_natCast] at d e
  have h7 : (numsL m).length = 7 := rfl
  rw [h7] at a
  unfold msg1B entsB
  simp only [List.length_append]
  omega
theorem msgone_Encode_spec {K : Sl × Int → World → Prop} (ht : Utf8T w) (h : MsgAt w m xs img) (hK : ∀ r w', EncM w.heap.size w' m xs img r → Ext w w' → K r w') : msgone_Encode m K w := by
  unfold msgone_Encode
  refine new_x (Ext.rfl' w) fun b1 w2 hb1 hl1 hx _ => ?_
  refine msgone_Check_calls (m := m) (msgone_Check_spec (ht.ext hx) (h.ext hx) fun w4 hx' => kp_ext hx' ?_)
  have z4 := hx'.size
  have hx := hx.trans' hx'
  refine ifNe (fun h0 => hK _ _ ⟨_, .inl ⟨h0, rfl⟩, .inl ⟨h0, rfl⟩⟩ hx) (fun h0 => ?_)
  have hok := msgE_ok.1 h0
  refine msgone_older_calls (m := m) (msgone_older_spec (h.es.ext hx) fun t w6 ht hx' => kp_ext hx' ?_)
  have z6 := hx'.size
  have hx := hx.trans' hx'
  refine ifNot (ifB_of (fun ho => ?_) (fun ho => hK _ _ ⟨8, .inr (.inl ⟨hok, (fun k => by rw [ht.2 k] at ho; cases ho), rfl⟩), .inl ⟨by decide, rfl⟩⟩ hx))
  have hold := ht.1 ho
  have hnum := nums_le hok
  refine box_ty fun a w8 ha hx' hao => kp_ext hx' ?_
  have hx := hx.trans' hx'
  have hne : some b1 ≠ some a.block := fun e => by have := Option.some.inj e; omega
  have h8 := h.ext hx
  have ge : w.heap.size ≤ a.block := by have := hx.size; omega
  refine up1 (fun k w' => Wt w' a (((numsL m).take k).flatMap encI) ∧ w8.grownBy w' (some a.block)) 0 7 rfl (by decide) (by decide) ⟨⟨Sl.nil, .nilSl _ _, hao, fun e => by cases e⟩, grown_refl _ _⟩ ?_
  rintro k w11 C _ hk ⟨hw, hg⟩ hC
  refine ifD (fun hlt => ?_) (fun hge => ?_)
  · have hk7 : k < 7 := by omega
    have hk1 : k < (numsL m).length := hk7
    have put : ∀ {n : Int}, (numsL m)[k] = n → callV Pr uval fid_pack_Writer_Number #[(.pointer (some a)), (.int .i64 n)] w11 fun t13 w14 => kp b1 w11 w14 <| C (i64 ((k : Int) + 1)) w14 := fun {n} hn => by
      have hm := hnum n (hn ▸ List.getElem_mem hk1)
      have hsm := take_flat_le (xs := numsL m) (B := encI) (m := 9) (fun n hn => encI_len (hnum n hn).2) k
      have h7 : (numsL m).length = 7 := rfl
      rw [h7] at hsm
      refine pack_Writer_Number_calls (pack_Writer_Number_spec hw hm.2 (by omega) fun w14 hw14 hg14 => kp_grown hg14 hne (hC hk7 _ _ rfl ⟨?_, grown_trans hg hg14⟩))
      rw [flatMap_up hk1, hn]
      exact hw14
    rcases seven hk7 with rfl | rfl | rfl | rfl | rfl | rfl | rfl
    · exact ⟨m.Kind, by kernel_rfl, put rfl⟩
    · exact ⟨m.From, by kernel_rfl, put rfl⟩
    · exact ⟨m.To, by kernel_rfl, put rfl⟩
    · exact ⟨m.Ballot.Round, by kernel_rfl, put rfl⟩
    · exact ⟨m.Ballot.Node, by kernel_rfl, put rfl⟩
    · exact ⟨m.Index, by kernel_rfl, put rfl⟩
    · exact ⟨m.Commit, by kernel_rfl, put rfl⟩
  obtain rfl : k = 7 := by omega
  have hsm := take_flat_le (xs := numsL m) (B := encI) (m := 9) (fun n hn => encI_len (hnum n hn).2) 7
  have h7 : (numsL m).length = 7 := rfl
  rw [h7] at hsm
  have ewhole : (numsL m).take 7 = numsL m := rfl
  rw [ewhole] at hw hsm
  have hlen := msg1B_len hok
  have he : (entsB 1 xs).length ≤ 10000000000 := by
    unfold msg1B at hlen
    simp only [List.length_append] at hlen
    omega
  refine entry_Put_calls (entry_Put_spec hw (fun u hu => keep_sl h.es hx (grown_trans hg hu) ge) (fun x hx => entOk_num (hok.each x hx)) (by have := hok.few; omega) (by omega) fun w16 hw16 hg16 => kp_grown hg16 hne ?_)
  have him : IsSl eB w16 m.Image img := keep_sl h.im hx (grown_trans hg hg16) ge
  have hi := hok.img
  refine pack_Writer_Raw_calls (pack_Writer_Raw_spec hw16 him (by simp only [List.length_append]; omega) fun w18 hw18 hg18 => kp_grown hg18 hne ?_)
  have hx18 : Ext w w18 := Ext.grown' hx (grown_trans hg (grown_trans hg16 hg18)) ge
  have hbytes : (numsL m).flatMap encI ++ entsB 1 xs ++ enc img.length ++ img = msg1B m xs img := by
    unfold msg1B
    simp only [List.append_assoc]
  rw [hbytes] at hw18
  refine pack_Writer_Bytes_calls (pack_Writer_Bytes_spec hw18 (by omega) fun s20 w20 h20 hx' => kp_ext hx' (hK _ _ ⟨0, .inr (.inr ⟨hok, hold, rfl⟩), .inr ⟨rfl, rfl, h20.mono hx18.size⟩⟩ (hx18.trans' hx')))
end Go.Chg
