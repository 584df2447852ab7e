/-
  The law of what package 'kvtwo' checks.
-/
import Derived.Test.YtapepehccddjpaaDoorSpChk23
import Derived.Test.YtapepehccddjpaaDoorSpAwake24
set_option maxRecDepth 20000
set_option linter.unusedVariables false
namespace Go.Chg
open Go.Vc
def badRev (p : ApiPair) : Bool := decide (p.Rev < 1) || decide (p.Rev > 4294967296)
theorem kvtwo_Check_1_spec {p : ApiPair} {K : Bool → World → Prop} {w : World} (hK : ∀ w', Ext w w' → K (badRev p) w') : kvtwo_Check_1 p K w := by
  unfold kvtwo_Check_1
  refine new_of fun b1 w1 hn1 => ?_
  have := hK w1 (Ext.new hn1)
  unfold badRev at this
  refine ifD (fun h => ?_) (fun h => ?_)
  · rw [decide_eq_true h, Bool.true_or] at this; exact this
  · rw [decide_eq_false h, Bool.false_or] at this; exact this
theorem index_rev_spec {s : Sl} {l : List ApiPair} {K : Int → World → Prop} {w : World} (hs : IsSl eApiPair w s l) (hK : ∀ i w', (decide (i ≥ 0) = true ↔ ∃ x ∈ l, badRev x = true) → Ext w w' → K i w') : slices_IndexFunc_api_Pair_api_Pair_Check s K w := by
  unfold slices_IndexFunc_api_Pair_api_Pair_Check
  have hl := hs.len
  have hle := hs.le
  refine up1 (fun k w' => Ext w w' ∧ ∀ x ∈ l.take k, badRev x = false) 0 l.length rfl (by omega) hle ⟨Ext.rfl' _, by simp⟩ ?_
  rintro k w1 C _ hk ⟨hx1, hall⟩ hC
  refine ifD (fun hlt => ?_) (fun hge => hK _ _ ⟨fun h => absurd h (by decide), fun ⟨x, hx, hb⟩ => by rw [all_done (by omega) hall x hx] at hb; cases hb⟩ hx1)
  have hk1 : k < l.length := by omega
  refine st_rd (val := ApiPair.val) (by kernel_rfl) (by kernel_rfl) (hs.ext hx1) rfl hk1 (fun _ => rfl) fun _ => ?_
  refine kvtwo_Check_1_calls (p := l[k]) (kvtwo_Check_1_spec fun w2 hx2 => ?_)
  refine ifB_of (fun hb => hK _ _ ⟨fun _ => ⟨l[k], List.getElem_mem hk1, hb⟩, fun _ => by simp⟩ (hx1.trans' hx2)) (fun hb => hC hk1 _ _ rfl ⟨hx1.trans' hx2, all_up hk1 hall hb⟩)
theorem pairs_bare {l : List ApiPair} (h : ∀ x ∈ l, badRev x = false) : PairsOk 1 (l.map bare) ↔ PairsOk 2 l := by
  have key : ∀ x ∈ l, pairOk 1 (bare x) ↔ pairOk 2 x := fun x hx => by
    have hb := h x hx
    unfold badRev at hb
    simp at hb
    exact ⟨fun ⟨h1, h2, _, _⟩ => ⟨h1, h2, fun e => absurd e (by decide), fun _ => by omega⟩, fun ⟨h1, h2, _, _⟩ => ⟨h1, h2, fun _ => rfl, fun e => absurd e (by decide)⟩⟩
  constructor
  · rintro ⟨h1, h2, h3⟩
    exact ⟨fun x hx => (key x hx).1 (h1 _ (List.mem_map.2 ⟨x, hx, rfl⟩)), by rw [List.length_map] at h2; exact h2, List.pairwise_map.1 h3⟩
  · rintro ⟨h1, h2, h3⟩
    refine ⟨fun y hy => ?_, by rw [List.length_map]; exact h2, List.pairwise_map.2 h3⟩
    obtain ⟨x, hx, rfl⟩ := List.mem_map.1 hy
    exact (key x hx).2 (h1 x hx)
theorem kvtwo_Check_spec {s : Sl} {l : List ApiPair} {K : Int → World → Prop} {w : World} (ht : Utf8T w) (hs : IsSl eApiPair w s l) (hle : l.length ≤ 100000)
    (hK : ∀ b w', (b = 0 ∧ PairsOk 2 l ∨ b = 3 ∧ ¬ PairsOk 2 l) → Ext w w' → K b w') : kvtwo_Check s K w := by
  unfold kvtwo_Check
  refine slices_ContainsFunc_api_Pair_api_Pair_calls ?_
  unfold slices_ContainsFunc_api_Pair_api_Pair
  refine slices_IndexFunc_api_Pair_api_Pair_Check_calls (index_rev_spec hs fun i w1 hi hx1 => ?_)
  refine ifB_of (fun hc => hK _ _ (.inr ⟨rfl, fun h => ?_⟩) hx1) (fun hc => ?_)
  · obtain ⟨x, hx, hb⟩ := hi.1 hc
    have := (h.1 x hx).2.2.2 rfl
    unfold badRev at hb
    simp at hb
    omega
  · have hno : ∀ x ∈ l, badRev x = false := fun x hx => by
      cases hb : badRev x
      · rfl
      · rw [hi.2 ⟨x, hx, hb⟩] at hc; cases hc
    refine kvtwo_Plain_calls (kvtwo_Plain_spec (hs.ext hx1) hle fun s2 w2 ho2 hx2 => ?_)
    have hx2' := hx1.trans' hx2
    refine kvone_Check_calls (kvone_Check_spec (ht.ext hx2') ho2.is fun b w3 hb hx3 => hK _ _ ?_ (hx2'.trans' hx3))
    rw [pairs_bare hno] at hb
    exact hb
theorem law24_KvtwoChecks_spec {s : Sl} {l : List ApiPair} {K : Bool → World → Prop} {w : World} (ht : Utf8T w) (hs : IsSl eApiPair w s l) (hK : ∀ w', Ext w w' → K true w') : law24_KvtwoChecks s K w := by
  unfold law24_KvtwoChecks
  refine ref23_Large_calls (ref23_Large_spec hs fun b hb => ?_)
  refine ifB_of (fun _ => law24_awake_calls (law24_awake_spec hK)) (fun h => ?_)
  have hsm := hb h
  have hle : l.length ≤ 80 := hsm.1
  refine ⟨fun want w' => Ext w w' ∧ (want = 0 ∧ PairsOk 2 l ∨ want = 3 ∧ ¬ PairsOk 2 l), ?_, ?_⟩
  · refine ref23_Check_calls (ref23_Check_spec hs fun b1 w1 hb1 hx1 => ?_)
    refine ifNot (ifB_of (fun h1 => ⟨hx1, .inl ⟨rfl, hb1.1 h1⟩⟩) (fun h1 => ⟨hx1, .inr ⟨rfl, fun h => ?_⟩⟩))
    rw [hb1.2 h] at h1
    cases h1
  rintro want w1 ⟨hx1, hwant⟩
  refine kvtwo_Plain_calls (kvtwo_Plain_spec (hs.ext hx1) (by omega) fun p w2 ho2 hx2 => ?_)
  have hx2' := hx1.trans' hx2
  have hlp : p.len = l.length := by rw [ho2.len, List.length_map]
  have hls := hs.len
  have hlm : (l.map bare).length = l.length := List.length_map ..
  refine ⟨fun w' => Ext w2 w', ?_, ?_⟩
  · refine up1 (fun j w' => Ext w2 w') 0 l.length rfl (by omega) (by omega) (Ext.rfl' _) ?_
    rintro j w3 C _ hj hx3 hC
    refine ifD (fun hlt => ifD (fun hlt2 => ?_) (fun _ => hx3)) (fun _ => hx3)
    have hj1 : j < l.length := by omega
    have hj2 : j < (l.map bare).length := by omega
    have e : (l.map bare)[j] = bare l[j] := List.getElem_map ..
    refine drew_of fun w4 hx4 => ?_
    have hx24 := hx3.trans' hx4
    have hsl := hs.ext (hx2'.trans' hx24)
    have hsp := ho2.is.ext hx24
    refine fld_rd (E := eApiPair) (y := l[j].Key) (by kernel_rfl) (by kernel_rfl) hsp rfl hj2 (by rw [e]; rfl) fun _ => ?_
    refine fld_rd (y := l[j].Key) (by kernel_rfl) (by kernel_rfl) hsl rfl hj1 rfl fun _ => ?_
    refine ifNot (ifStr (fun _ => ?_) (fun h => absurd rfl h))
    refine fld_rd (E := eApiPair) (y := l[j].Val) (by kernel_rfl) (by kernel_rfl) hsp rfl hj2 (by rw [e]; rfl) fun _ => ?_
    refine fld_rd (y := l[j].Val) (by kernel_rfl) (by kernel_rfl) hsl rfl hj1 rfl fun _ => ?_
    refine ifNot (ifStr (fun _ => ?_) (fun h => absurd rfl h))
    refine fld_rd (E := eApiPair) (y := (0 : Int)) (by kernel_rfl) (by kernel_rfl) hsp rfl hj2 (by rw [e]; rfl) fun _ => ?_
    exact ifNe (fun h => absurd rfl h) (fun _ => hC hj1 _ _ rfl hx24)
  intro w3 hx3
  have hx3' := hx2'.trans' hx3
  refine kvtwo_Check_calls (kvtwo_Check_spec (ht.ext hx3') (hs.ext hx3') (by omega) fun got w4 hgot hx4 => ?_)
  refine ifEq (fun _ => ?_) (fun hne => absurd ?_ hne)
  · refine ifEq (fun _ => ?_) (fun h => absurd (by rw [hlp, hls]) h)
    exact law24_awake_calls (law24_awake_spec fun w' hx => hK w' (hx3'.trans' (hx4.trans' hx)))
  · rcases hwant with ⟨h1, h2⟩ | ⟨h1, h2⟩ <;> rcases hgot with ⟨h3, h4⟩ | ⟨h3, h4⟩
    · rw [h1, h3]
    · exact absurd h2 h4
    · exact absurd h4 h2
    · rw [h1, h3]
end Go.Chg
