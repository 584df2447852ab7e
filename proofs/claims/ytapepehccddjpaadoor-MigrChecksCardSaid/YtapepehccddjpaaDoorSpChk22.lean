/-
  The law of what package 'sess' checks.
-/
import Derived.Test.YtapepehccddjpaaDoorSpSessA
import Derived.Test.YtapepehccddjpaaDoorSpRuneK
set_option maxRecDepth 20000
set_option linter.unusedVariables false
namespace Go.Vc
open Go
variable {P : Program} {w : World} {α β : Type}
theorem fld2H {E : Enc α} {S : World → Prop} {t u : TypeId} {s : Sl} {l : List α} {i : Int} {k o1 o2 : Nat} {val : β → Value} {y : β} {K : Addr → β → Prop} (ht : slOf P t = some E.sz) (hu : oneT P u = true) (hS : ∀ w', S w' → IsSl E w' s l) (hi : i = (k : Int)) (hk : k < l.length)
    (hv : (E.cs l[k])[o1 + o2]? = some (val y)) (hK : ∀ a, K a y) : opH P S (Instr.indexAt t s.val (.int .i64 i)) pav (fun a => opH P S (Instr.loadAt u (.pointer (some ((a.add o1).add o2)))) val (K a)) :=
  ⟨s.at k E.sz, fun w' hw => (ix_eq ht (hS w' hw) hi hk).1, y, fun w' hw => by
    have h := (ix_eq (P := P) ht (hS w' hw) hi hk).2
    exact run_ld hu (by rw [addr_add2 _ h.spot, addr_off _ h.spot]; exact h.cells (o1 + o2) _ hv), hK _⟩
end Go.Vc
namespace Go.Chg
open Go.Vc
def answerOk (a : ApiAnswer) : Prop := (1 ≤ a.Client ∧ a.Client ≤ 8) ∧ (1 ≤ a.Seq ∧ a.Seq ≤ 4294967296) ∧ (0 ≤ a.Err ∧ a.Err ≤ 17) ∧ (0 ≤ a.Rev ∧ a.Rev ≤ 4294967296) ∧ valOk a.Val = true
theorem ref09_Check_spec {a : ApiAnswer} {K : Int → World → Prop} {w : World} (hK : ∀ b w', (b = 0 ↔ answerOk a) → Ext w w' → K b w') : ref09_Check a K w := by
  unfold ref09_Check
  refine new_of fun b1 w1 hn1 => ?_
  have hx1 := Ext.new hn1
  have no : ∀ {n : Int}, n ≠ 0 → ¬ answerOk a → K n w1 := fun hn h => hK _ _ ⟨fun e => absurd e hn, fun h' => absurd h' h⟩ hx1
  refine ifD (fun h => no (by decide) fun h' => by have := h'.1.1; omega) (fun h1 => ?_)
  refine ifD (fun h => no (by decide) fun h' => by have := h'.1.2; omega) (fun h2 => ?_)
  refine ifD (fun h => no (by decide) fun h' => by have := h'.2.1.1; omega) (fun h3 => ?_)
  refine ifD (fun h => no (by decide) fun h' => by have := h'.2.1.2; omega) (fun h4 => ?_)
  refine ifD (fun h => no (by decide) fun h' => by have := h'.2.2.1.1; omega) (fun h5 => ?_)
  refine ifD (fun h => no (by decide) fun h' => by have := h'.2.2.1.2; omega) (fun h6 => ?_)
  refine ifD (fun h => no (by decide) fun h' => by have := h'.2.2.2.1.1; omega) (fun h7 => ?_)
  refine ifD (fun h => no (by decide) fun h' => by have := h'.2.2.2.1.2; omega) (fun h8 => ?_)
  refine ref05_Val_calls (ref05_Val_spec (kp_same ?_))
  refine ifNot (ifB_of (fun hv => hK _ _ ⟨fun _ => ⟨by omega, by omega, by omega, by omega, hv⟩, fun _ => rfl⟩ hx1) (fun hv => no (by decide) fun h' => by rw [h'.2.2.2.2] at hv; cases hv))
theorem answer_Check_1_spec {n a b : Int} {K : Bool → World → Prop} {w : World} (hK : K (decide (a ≤ n ∧ n ≤ b)) w) : answer_Check_1 n a b K w := by
  unfold answer_Check_1
  refine ifD (fun h => ?_) (fun h => ?_)
  · rw [show decide (a ≤ n ∧ n ≤ b) = decide (n ≤ b) from decide_eq_decide.2 ⟨fun h' => h'.2, fun h' => ⟨h, h'⟩⟩] at hK
    exact hK
  · rw [decide_eq_false (fun h' => h h'.1)] at hK
    exact hK
theorem answer_Check_spec {a : ApiAnswer} {K : Int → World → Prop} {w : World} (ht : Utf8T w) (hK : ∀ b w', (b = 0 ↔ answerOk a) → Ext w w' → K b w') : answer_Check a K w := by
  unfold answer_Check
  refine new_of fun b1 w1 hn1 => ?_
  have hx1 := Ext.new hn1
  have no : ∀ {n : Int}, n ≠ 0 → ¬ answerOk a → K n w1 := fun hn h => hK _ _ ⟨fun e => absurd e hn, fun h' => absurd h' h⟩ hx1
  refine answer_Check_1_calls (answer_Check_1_spec (kp_same ?_))
  refine ifD (fun h1 => ?_) (fun h1 => ifNot (ifB_f rfl (no (by decide) fun h' => h1 h'.1)))
  refine answer_Check_1_calls (answer_Check_1_spec (kp_same ?_))
  refine ifD (fun h2 => ?_) (fun h2 => ifNot (ifB_f rfl (no (by decide) fun h' => h2 h'.2.1)))
  refine answer_Check_1_calls (answer_Check_1_spec (kp_same ?_))
  refine ifD (fun h3 => ?_) (fun h3 => ifNot (ifB_f rfl (no (by decide) fun h' => h3 h'.2.2.1)))
  refine answer_Check_1_calls (answer_Check_1_spec (kp_same ?_))
  refine ifNot (ifD (fun h4 => ?_) (fun h4 => no (by decide) fun h' => h4 h'.2.2.2.1))
  refine runes_Val_calls (runes_Val_spec (ht.ext hx1) fun w2 hx2 => kp_ext hx2 ?_)
  have hx2' := hx1.trans' hx2
  refine ifNot (ifB_of (fun hv => hK _ _ ⟨fun _ => ⟨h1, h2, h3, h4, hv⟩, fun _ => rfl⟩ hx2') (fun hv => hK _ _ ⟨fun e => absurd e (by decide), fun h' => by rw [h'.2.2.2.2] at hv; cases hv⟩ hx2'))
def sessOk (x : ApiSession) : Prop := x.Last.Client = x.Client ∧ x.Last.Seq = x.Seq ∧ answerOk x.Last
def SessOk (l : List ApiSession) : Prop := (∀ x ∈ l, sessOk x) ∧ SUp l
theorem ref22_Check_spec {s : Sl} {l : List ApiSession} {K : Bool → World → Prop} {w : World} (hs : IsSl eApiSession w s l) (hK : ∀ b w', (b = true ↔ SessOk l) → Ext w w' → K b w') : ref22_Check s K w := by
  unfold ref22_Check
  have hl := hs.len
  have hle := hs.le
  refine up1 (fun k w' => Ext w w' ∧ ∀ x ∈ l.take k, sessOk x) 0 l.length rfl (by omega) hle ⟨Ext.rfl' _, by simp⟩ ?_
  rintro k w1 C _ hk ⟨hx1, hall⟩ hC
  refine ifD (fun hlt => ?_) (fun hge => ?_)
  · have hk1 : k < l.length := by omega
    refine heldM_of (fun w' => IsSl eApiSession w' s l) fun w2 hx2 => ⟨hs.ext (hx1.trans' hx2), ?_⟩
    have hx2' := hx1.trans' hx2
    have bad : ∀ {w' : World}, Ext w w' → ¬ sessOk l[k] → K false w' := fun hx h => hK _ _ ⟨fun e => (by cases e), fun h' => absurd (h'.1 _ (List.getElem_mem hk1)) h⟩ hx
    refine fld2H (E := eApiSession) (y := l[k].Last.Client) (by kernel_rfl) (by kernel_rfl) (fun w' h => h) rfl hk1 rfl fun _ => ?_
    refine fldH (E := eApiSession) (y := l[k].Client) (by kernel_rfl) (by kernel_rfl) (fun w' h => h) rfl hk1 rfl fun _ => ?_
    refine ifNe (fun h => bad hx2' fun h' => h h'.1) (fun h1 => ?_)
    refine fld2H (E := eApiSession) (y := l[k].Last.Seq) (by kernel_rfl) (by kernel_rfl) (fun w' h => h) rfl hk1 rfl fun _ => ?_
    refine fldH (E := eApiSession) (y := l[k].Seq) (by kernel_rfl) (by kernel_rfl) (fun w' h => h) rfl hk1 rfl fun _ => ?_
    refine ifNe (fun h => bad hx2' fun h' => h h'.2.1) (fun h2 => ?_)
    refine partH (E := eApiSession) (n := 6) (y := l[k].Last) (xs := l[k].Last.cs) (by kernel_rfl) (by kernel_rfl) (fun w' h => h) rfl hk1 rfl rfl (fun j v hv => ?_) fun _ => ?_
    · match j, hv with
      | 0, hv => exact hv
      | 1, hv => exact hv
      | 2, hv => exact hv
      | 3, hv => exact hv
      | 4, hv => exact hv
      | 5, hv => exact hv
      | (n + 6), hv => simp [ApiAnswer.cs] at hv
    refine ref09_Check_calls (a := l[k].Last) (ref09_Check_spec fun b w3 hb hx3 => ⟨hs.ext (hx2'.trans' hx3), ?_⟩)
    refine ifNe (fun h => bad (hx2'.trans' hx3) fun h' => h (hb.2 h'.2.2)) (fun h3 => hC hk1 _ _ rfl ⟨hx2'.trans' hx3, all_up hk1 hall ⟨h1, h2, hb.1 h3⟩⟩)
  · have hall' := all_done (by omega) hall
    refine ref22_Rise_calls (ref22_Rise_spec (hs.ext hx1) fun b w2 hb hx2 => hK _ _ (hb.trans ⟨fun h => ⟨hall', h⟩, fun h => h.2⟩) (hx1.trans' hx2))
theorem sess_Check_spec {s : Sl} {l : List ApiSession} {K : Int → World → Prop} {w : World} (ht : Utf8T w) (hs : IsSl eApiSession w s l) (hK : ∀ b w', (b = 0 ∧ SessOk l ∨ b = 3 ∧ ¬ SessOk l) → Ext w w' → K b w') : sess_Check s K w := by
  unfold sess_Check
  have hl := hs.len
  have hle := hs.le
  refine up1 (fun k w' => Ext w w' ∧ (∀ x ∈ l.take k, sessOk x) ∧ ∀ (j : Nat) x y, l[j]? = some x → l[j + 1]? = some y → j + 1 < k → cmpI x.Client y.Client < 0) 0 l.length rfl (by omega) hle ⟨Ext.rfl' _, by simp, fun j x y _ _ h => by omega⟩ ?_
  rintro k w1 C _ hk ⟨hx1, hall, hris⟩ hC
  refine ifD (fun hlt => ?_) (fun hge => ?_)
  · have hk1 : k < l.length := by omega
    have hg1 := List.getElem?_eq_getElem hk1
    refine st_rd (val := ApiSession.val) (by kernel_rfl) (by kernel_rfl) (hs.ext hx1) rfl hk1 (fun _ => rfl) fun _ => ?_
    refine new_of fun b6 w2 hn2 => wr_of fun w3 hw3 => ?_
    have hx13 : Ext w1 w3 := Below.wr (Ext.new hn2) (by have := hn2.1; omega) hw3
    have hx3 := hx1.trans' hx13
    have bad : ∀ {w' : World}, Ext w w' → ¬ sessOk l[k] → K 3 w' := fun hx h => hK _ _ (.inr ⟨rfl, fun h' => h (h'.1 _ (List.getElem_mem hk1))⟩) hx
    refine ⟨fun w' => Ext w3 w' ∧ ∀ x, 0 < k → l[k - 1]? = some x → cmpI x.Client l[k].Client < 0, ?_, ?_⟩
    · refine drew_of fun w4 hx4 => ifD (fun hpos => ?_) (fun hzero => ⟨hx4, fun x h0 _ => by omega⟩)
      have hk2 : k - 1 < l.length := by omega
      have hg2 := List.getElem?_eq_getElem hk2
      have e1 : i64 ((k : Int) - 1) = ((k - 1 : Nat) : Int) := by rw [i64_id] <;> omega
      rw [e1]
      refine fld_rd (E := eApiSession) (y := l[k - 1].Client) (by kernel_rfl) (by kernel_rfl) (hs.ext (hx3.trans' hx4)) rfl hk2 rfl fun _ => ?_
      refine ifD (fun hb => hK _ _ (.inr ⟨rfl, fun h => ?_⟩) (hx3.trans' hx4)) (fun hb => ⟨hx4, fun x _ hx => ?_⟩)
      · have := Up.steps h.2 hg2 (by rw [show k - 1 + 1 = k by omega]; exact hg1)
        rw [cmpI_neg] at this
        omega
      · rw [hg2] at hx
        cases hx
        rw [cmpI_neg]
        omega
    · rintro w4 ⟨hx4, hr⟩
      have hx4' := hx3.trans' hx4
      refine ifNe (fun h => bad hx4' fun h' => h h'.1) (fun h1 => ifNe (fun h => bad hx4' fun h' => h h'.2.1) (fun h2 => ?_))
      refine answer_Check_calls (a := l[k].Last) (answer_Check_spec (ht.ext hx4') fun b w5 hb hx5 => kp_ext hx5 ?_)
      have hx5' := hx4'.trans' hx5
      refine ifNe (fun h => bad hx5' fun h' => h (hb.2 h'.2.2)) (fun h3 => hC hk1 _ _ rfl ⟨hx5', all_up hk1 hall ⟨h1, h2, hb.1 h3⟩, fun j x y hjx hjy hj => ?_⟩)
      by_cases hjk : j + 1 = k
      · have ej : j = k - 1 := by omega
        rw [hjk, hg1] at hjy
        cases hjy
        exact hr x (by omega) (by rw [← ej]; exact hjx)
      · exact hris j x y hjx hjy (by omega)
  · refine hK _ _ (.inl ⟨rfl, all_done (by omega) hall, up_of_steps ordI fun j x y hx hy => hris j x y hx hy ?_⟩) hx1
    have := (List.getElem?_eq_some_iff.1 hy).1
    omega
theorem law22_SessChecks_spec {s : Sl} {l : List ApiSession} {K : Bool → World → Prop} {w : World} (ht : Utf8T w) (hs : IsSl eApiSession w s l) (hK : ∀ w', Ext w w' → K true w') : law22_SessChecks s K w := by
  unfold law22_SessChecks
  refine ref22_Large_calls (ref22_Large_spec hs fun b hb => ?_)
  refine ifB_of (fun _ => law22_awake_calls (law22_awake_spec hK)) (fun h => ?_)
  refine ref22_Check_calls (ref22_Check_spec hs fun b1 w1 hb1 hx1 => ?_)
  refine ifNot (ifB_of (fun h1 => ?_) (fun h1 => ?_))
  · refine sess_Check_calls (sess_Check_spec (ht.ext hx1) (hs.ext hx1) fun b w2 hb hx2 => ?_)
    rcases hb with ⟨rfl, _⟩ | ⟨rfl, hno⟩
    · exact ifB_t rfl (law22_awake_calls (law22_awake_spec fun w' hx => hK w' (hx1.trans' (hx2.trans' hx))))
    · exact absurd (hb1.1 h1) hno
  · refine sess_Check_calls (sess_Check_spec (ht.ext hx1) (hs.ext hx1) fun b w2 hb hx2 => ?_)
    rcases hb with ⟨rfl, hyes⟩ | ⟨rfl, _⟩
    · rw [hb1.2 hyes] at h1
      cases h1
    · exact ifB_t rfl (law22_awake_calls (law22_awake_spec fun w' hx => hK w' (hx1.trans' (hx2.trans' hx))))
end Go.Chg
