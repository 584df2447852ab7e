/-
  Chapter 6: lines.
-/
import Derived.Test.YtahfcnaalleldaaDoorSpLaw06
set_option maxRecDepth 20000
set_option linter.unusedVariables false
namespace Go.Chg
open Go.Vc
variable {w : World} {l : List UInt8}
theorem joinL_sum : ∀ (ws : List (List UInt8)), (ws.flatMap id).length ≤ (joinL [32] ws).length ∧ ws.length ≤ (joinL [32] ws).length + 1 ∧ (joinL [32] ws).length ≤ (ws.flatMap id).length + ws.length
  | [] => by simp [joinL]
  | x :: r => by
    have h := sum_flat (m := [32]) r
    simp only [joinL, List.flatMap_cons, List.length_append, List.length_cons, List.length_nil, id] at h ⊢
    omega
/-- The words of any line whose words are told by it, or that it is none. -/
theorem law06_QuoteLines_spec {line : List UInt8} {K : Bool → World → Prop} (ht : Utf8T w) (hK : ∀ w', Ext w w' → K true w') : law06_QuoteLines line K w := by
  unfold law06_QuoteLines
  refine ifD (fun _ => law06_awake_calls (law06_awake_spec ht hK)) (fun h300 => ?_)
  have awake : ∀ {u : World}, Ext w u → callV Pr Value.bool fid_law06_awake #[] u K := fun hx => law06_awake_calls (law06_awake_spec (ht.ext hx) fun v hx' => hK _ (hx.trans' hx'))
  refine quote_Words_calls (Words_spec ht (by omega) (fun ws hw s w4 hs hx => ?_) (fun hw w4 hx => ?_))
  rotate_left
  · exact ifNe (fun _ => ifEq (fun _ => ifEq (fun _ => awake hx) (fun h => absurd rfl h)) (fun h => absurd rfl h)) (fun h => absurd h (by decide))
  obtain ⟨hj, hok⟩ := wordsL_inv hw
  obtain ⟨j1, j2, j3⟩ := joinL_sum ws
  rw [← hj] at j1 j2 j3
  have hl := hs.len
  refine ifNe (fun h => absurd rfl h) (fun _ => ?_)
  dsimp only
  refine up1 (fun k w' => Ext w4 w') 0 ws.length rfl (by omega) (by omega) (Ext.rfl' _) ?_
  rintro k w9 C _ hk hy hC
  refine ifD (fun hlt => ?_) (fun hge => ?_)
  · have hk1 : k < ws.length := by omega
    refine el_rd (E := eS) (y := ws[k]) (by kernel_rfl) (by kernel_rfl) (hs.ext hy).is rfl hk1 rfl fun _ => ?_
    have hlen : ws[k].length ≤ (ws.flatMap id).length := by
      have h1 := take_sum hk1
      have h2 := take_sum_le (xs := ws) (k + 1)
      omega
    refine ref06_Word_calls (ref06_Word_spec (by omega) fun w13 hy' => ?_)
    rw [hok _ (List.getElem_mem hk1)]
    exact ifNot (ifB_t rfl (hC hk1 _ _ rfl (hy.trans' hy')))
  · refine quote_Line_calls (Line_spec (hs.ext hy).is (by omega) (by omega) fun w15 hy' => ?_)
    refine ifB_t (by rw [strEq_eq, ← hj]; simp) ?_
    exact awake ((hx.trans' hy).trans' hy')
/-- Any words come back from their line; a text that is no word makes no line. -/
theorem law06_QuoteWords_spec {s : Sl} {ws : List (List UInt8)} {K : Bool → World → Prop} (ht : Utf8T w) (hs : IsSl eS w s ws) (hsz : ∀ x ∈ ws, x.length ≤ 281474976710656) (hK : ∀ w', Ext w w' → K true w') : law06_QuoteWords s K w := by
  unfold law06_QuoteWords
  have hl := hs.len
  have hle := hs.le
  have awake : ∀ {u : World}, Ext w u → callV Pr Value.bool fid_law06_awake #[] u K := fun hx => law06_awake_calls (law06_awake_spec (ht.ext hx) fun v hx' => hK _ (hx.trans' hx'))
  refine up2b (fun k n w' => w = w' ∧ n = (((ws.take k).flatMap id).length : Int) ∧ ((ws.take k).flatMap id).length ≤ 500 ∧ k ≤ 61) 0 ws.length rfl (by omega) hle ⟨rfl, by simp, by simp, by omega⟩ ?_
  rintro k n w4 C _ hk ⟨rfl, rfl, h500, h60⟩ hC
  refine ifD (fun hlt => ?_) (fun hge => ?_)
  · have hk1 : k < ws.length := by omega
    refine el_rd (E := eS) (y := ws[k]) (by kernel_rfl) (by kernel_rfl) hs rfl hk1 rfl fun _ => ?_
    have hx := hsz _ (List.getElem_mem hk1)
    rw [i64_id (n := (((ws.take k).flatMap id).length : Int) + (ws[k].length : Int)) (by omega) (by omega)]
    have hsum := take_sum hk1
    refine ifD (fun _ => awake (Ext.rfl' _)) (fun h5 => ifD (fun _ => awake (Ext.rfl' _)) (fun h6 => ?_))
    exact hC hk1 _ _ _ rfl ⟨rfl, by rw [hsum]; omega, by omega, by omega⟩
  have hk' : k = ws.length := by omega
  subst hk'
  rw [List.take_length] at h500
  refine up2b (fun j (b : Bool) w' => Ext w w' ∧ (b = true ↔ ∀ x ∈ ws.take j, wordOk x = true)) 0 ws.length rfl (by omega) hle ⟨Ext.rfl' _, by simp⟩ ?_
  rintro j b w14 C _ hj ⟨hx, hb⟩ hC
  refine ifD (fun hlt => ?_) (fun hge => ?_)
  · have hj1 : j < ws.length := by omega
    have hmem : ∀ {P : List UInt8 → Prop}, (∀ x ∈ ws.take (j + 1), P x) ↔ (∀ x ∈ ws.take j, P x) ∧ P ws[j] := fun {P} => by
      rw [List.take_succ_eq_append_getElem hj1]
      constructor
      · exact fun h => ⟨fun x hx => h x (List.mem_append_left _ hx), h _ (List.mem_append_right _ (List.mem_singleton.2 rfl))⟩
      · rintro ⟨h1, h2⟩ x hx
        rcases List.mem_append.1 hx with hx | hx
        · exact h1 x hx
        · rw [List.mem_singleton.1 hx]; exact h2
    refine ifB_of (fun hbt => ?_) (fun hbf => hC hj1 _ _ _ rfl ⟨hx, ⟨fun h => (by cases h), fun h => ?_⟩⟩)
    · refine el_rd (E := eS) (y := ws[j]) (by kernel_rfl) (by kernel_rfl) (hs.ext hx) rfl hj1 rfl fun _ => ?_
      have hlen : ws[j].length ≤ (ws.flatMap id).length := by
        have h1 := take_sum hj1
        have h2 := take_sum_le (xs := ws) (j + 1)
        omega
      refine ref06_Word_calls (ref06_Word_spec (by omega) fun w18 hx' => hC hj1 _ _ _ rfl ⟨hx.trans' hx', ?_⟩)
      rw [hmem]
      exact ⟨fun h => ⟨hb.1 hbt, h⟩, fun h => h.2⟩
    · rw [hb.2 (hmem.1 h).1] at hbf
      cases hbf
  rw [List.take_of_length_le (by omega)] at hb
  refine ifNot (ifB_of (fun hbt => ?_) (fun _ => awake hx))
  have hok := hb.1 hbt
  obtain ⟨j1, j2, j3⟩ := joinL_sum ws
  refine quote_Line_calls (Line_spec (hs.ext hx) (by omega) (by omega) fun w22 hx' => ?_)
  have hx := hx.trans' hx'
  have hw := wordsL_join hok
  refine quote_Words_calls (Words_spec (ht.ext hx) (by omega) (fun ws' hw' s' w24 hs' hx' => ?_) (fun h => by rw [hw] at h; cases h))
  rw [hw] at hw'
  cases hw'
  have hx := hx.trans' hx'
  refine ifEq (fun _ => ?_) (fun h => absurd rfl h)
  refine ref06_Texts_calls (ref06_Texts_spec hs'.is (hs.ext hx) fun w26 hx' => ifB_t (by simp) ?_)
  exact awake (hx.trans' hx')
end Go.Chg
