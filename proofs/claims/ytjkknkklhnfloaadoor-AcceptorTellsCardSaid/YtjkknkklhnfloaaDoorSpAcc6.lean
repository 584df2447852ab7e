/-
  The document's hard state of a list of records: changeoverref19.Of.
-/
import Derived.Test.YtjkknkklhnfloaaDoorSpAcc5
set_option maxRecDepth 20000
set_option linter.unusedVariables false
namespace Go.Chg
open Go.Vc
open Go.RowKit (Below)
def noHard : ApiHard := ⟨zBallot, 0, Sl.nil, Sl.nil, Sl.nil⟩
def entR (x : ApiRecord) : ApiEntry := ⟨x.Index, x.Ballot, x.Cmd⟩
def of0 (h : ApiHard) (x : ApiRecord) : ApiHard := if (x.Kind = 1 ∨ x.Kind = 2) ∧ BLess h.Promised x.Ballot then ⟨x.Ballot, h.Base, h.Image, h.Accepted, h.Chosen⟩ else h
def of1 (h : ApiHard) (x : ApiRecord) : ApiHard := if x.Kind = 4 ∧ (of0 h x).Base < x.Index then ⟨(of0 h x).Promised, x.Index, x.Image, (of0 h x).Accepted, (of0 h x).Chosen⟩ else of0 h x
def of2 (B : Int) (st : List ApiEntry × List ApiEntry) (x : ApiRecord) : List ApiEntry × List ApiEntry :=
  if x.Index ≤ B then st else if x.Kind = 2 then (entWith st.1 (entR x), st.2) else if x.Kind = 3 ∧ entOf st.2 x.Index = none then (st.1, entWith st.2 (entR x)) else st
theorem of0_keep (h : ApiHard) (x : ApiRecord) : (of0 h x).Accepted = h.Accepted ∧ (of0 h x).Chosen = h.Chosen := by unfold of0; split <;> exact ⟨rfl, rfl⟩
theorem of1_keep (h : ApiHard) (x : ApiRecord) : (of1 h x).Accepted = h.Accepted ∧ (of1 h x).Chosen = h.Chosen := by
  unfold of1; split
  · exact of0_keep h x
  · exact of0_keep h x
theorem fold1_keep : ∀ (L : List ApiRecord) (h : ApiHard), (L.foldl of1 h).Accepted = h.Accepted ∧ (L.foldl of1 h).Chosen = h.Chosen
  | [], _ => ⟨rfl, rfl⟩
  | x :: L, h => by
    rw [List.foldl_cons]
    exact ⟨(fold1_keep L _).1.trans (of1_keep h x).1, (fold1_keep L _).2.trans (of1_keep h x).2⟩
theorem two_len {α : Type} {p q : α → Bool} (hpq : ∀ x, p x = true → q x = false) : ∀ (l : List α), (l.filter p).length + (l.filter q).length ≤ l.length
  | [] => Nat.le_refl _
  | x :: l => by
    have ih := two_len hpq l
    rw [List.filter_cons, List.filter_cons]
    cases hp : p x
    · cases hq : q x <;> simp <;> omega
    · rw [hpq x hp]; simp; omega
theorem entWith_len (l : List ApiEntry) (e : ApiEntry) : (entWith l e).length ≤ l.length + 1 := by
  unfold entWith insC
  have := two_len (p := fun x : ApiEntry => decide (cmpI x.Index e.Index < 0)) (q := fun x => decide (0 < cmpI x.Index e.Index)) (fun x h => by
    have := of_decide_eq_true h
    exact decide_eq_false (by omega)) l
  simp only [List.length_append, List.length_cons]
  omega
theorem ref19_Of_spec {w : World} {s : Sl} {L : List ApiRecord} {K : ApiHard → World → Prop} (hs : IsSl eApiRecord w s L) (hok : ∀ x ∈ L, RecOk x) (hlen : L.length ≤ 1000)
    (hK : ∀ sa sc w', OwnSl eApiEntry w' w.heap.size sa (L.foldl (of2 (L.foldl of1 noHard).Base) ([], [])).1 → OwnSl eApiEntry w' w.heap.size sc (L.foldl (of2 (L.foldl of1 noHard).Base) ([], [])).2 → Ext w w' →
      K ⟨(L.foldl of1 noHard).Promised, (L.foldl of1 noHard).Base, (L.foldl of1 noHard).Image, sa, sc⟩ w') : ref19_Of s K w := by
  unfold ref19_Of
  have hl := hs.len
  refine new_x (Ext.rfl' w) fun b1 w2 hb1 hl1 hx n1 => new_x hx fun b3 w4 hb3 hl3 hx n3 => ?_
  have z4 := (Ext.new n3).size
  have hB0 := hx.size
  refine up2a (fun k h w' => h = (L.take k).foldl of1 noHard ∧ Ext w w' ∧ w4.heap.size ≤ w'.heap.size) 0 L.length rfl (by omega) (by have := hs.le; omega) ⟨rfl, hx, Nat.le_refl _⟩ ?_
  rintro k h6 w8 C _ hk ⟨hh, hx, hz⟩ hC
  refine ifD (fun hlt => ?_) (fun hge => ?_)
  · have hk1 : k < L.length := by omega
    have hup : (L.take (k + 1)).foldl of1 noHard = of1 h6 L[k] := by rw [hh]; exact foldl_up hk1
    refine st_rd (E := eApiRecord) (val := ApiRecord.val) (by kernel_rfl) (by kernel_rfl) (hs.ext hx) rfl hk1 (fun _ => rfl) fun _ => ?_
    refine new_x hx fun b11 w12 hb11 _ hx n11 => wr_x hx hb11 fun w13 hx hw13 => ?_
    have z12 := (Ext.new n11).size
    have z13 := hw13.size
    refine ref16_Check_calls (x := L[k]) (ref16_Check_ok (hok _ (List.getElem_mem hk1)) fun w15 hx' => kp_ext hx' (kp_ext hx' (kp_ext hx' ?_)))
    have z15 := hx'.size
    have hx := hx.trans' hx'
    refine ifNe (fun h => absurd rfl h) (fun _ => ?_)
    refine ⟨fun g u => g = of0 h6 L[k] ∧ Ext w u ∧ w4.heap.size ≤ u.heap.size, ?_, ?_⟩
    · refine ref16_HasBallot_calls (ref16_HasBallot_spec (kp_same (kp_same (kp_same ?_))))
      refine ifB_of (fun hb => ?_) (fun hb => ⟨?_, hx, by omega⟩)
      · refine ref10_Less_calls (a := h6.Promised) (b := L[k].Ballot) (ref10_Less_spec fun t w20 hl hx' => kp_ext hx' (kp_ext hx' (kp_ext hx' ?_)))
        have z20 := hx'.size
        have hx := hx.trans' hx'
        refine ifB_of (fun ht => wr_x hx hb3 fun w21 hx hw => ⟨?_, hx, by have := hw.size; omega⟩) (fun ht => ⟨?_, hx, by omega⟩)
        · exact (if_pos ⟨of_decide_eq_true hb, hl.1 ht⟩ : of0 h6 L[k] = _).symm
        · exact (if_neg (fun h => by rw [hl.2 h.2] at ht; cases ht) : of0 h6 L[k] = _).symm
      · exact (if_neg (fun h => of_decide_eq_false hb h.1) : of0 h6 L[k] = _).symm
    rintro _ w23 ⟨rfl, hx, hz⟩
    refine ifEq (fun h4 => ?_) (fun h4 => hC hk1 _ _ _ rfl ⟨by rw [hup]; exact (if_neg (fun h => h4 h.1) : of1 h6 L[k] = _).symm, hx, hz⟩)
    refine ifD (fun h5 => ?_) (fun h5 => hC hk1 _ _ _ rfl ⟨by rw [hup]; exact (if_neg (fun h => h5 h.2) : of1 h6 L[k] = _).symm, hx, hz⟩)
    refine wr_x hx hb3 fun w24 hx hw24 => wr_x hx hb3 fun w25 hx hw25 => hC hk1 _ _ _ rfl ⟨by rw [hup]; exact (if_pos ⟨h4, h5⟩ : of1 h6 L[k] = _).symm, hx, by have := hw24.size; have := hw25.size; omega⟩
  rw [take_done (by omega)] at hh
  obtain ⟨ka, kc⟩ := fold1_keep L noHard
  rw [← hh] at ka kc hK
  clear hh
  refine up2a (fun k h w' => ∃ sa sc, h = ⟨h6.Promised, h6.Base, h6.Image, sa, sc⟩ ∧ OwnSl eApiEntry w' w4.heap.size sa ((L.take k).foldl (of2 h6.Base) ([], [])).1 ∧ OwnSl eApiEntry w' w4.heap.size sc ((L.take k).foldl (of2 h6.Base) ([], [])).2 ∧
      (EUp ((L.take k).foldl (of2 h6.Base) ([], [])).1 ∧ EUp ((L.take k).foldl (of2 h6.Base) ([], [])).2) ∧ (((L.take k).foldl (of2 h6.Base) ([], [])).1.length ≤ k ∧ ((L.take k).foldl (of2 h6.Base) ([], [])).2.length ≤ k) ∧ Ext w w' ∧ w4.heap.size ≤ w'.heap.size) 0 L.length rfl (by omega) (by have := hs.le; omega)
    ⟨Sl.nil, Sl.nil, ?_, .nil _ _ _, .nil _ _ _, ⟨List.Pairwise.nil, List.Pairwise.nil⟩, ⟨Nat.le_refl _, Nat.le_refl _⟩, hx, hz⟩ ?_
  · cases h6
    dsimp only at ka kc ⊢
    rw [ka, kc]; rfl
  rintro k _ w29 C _ hk ⟨sa, sc, rfl, ha, hc, ⟨ua, uc⟩, ⟨la, lc⟩, hx, hz⟩ hC
  refine ifD (fun hlt => ?_) (fun hge => ?_)
  · have hk1 : k < L.length := by omega
    have hup : (L.take (k + 1)).foldl (of2 h6.Base) ([], []) = of2 h6.Base ((L.take k).foldl (of2 h6.Base) ([], [])) L[k] := foldl_up hk1
    rw [hup] at hC
    generalize (L.take k).foldl (of2 h6.Base) ([], []) = st at ha hc ua uc la lc hC
    refine st_rd (E := eApiRecord) (val := ApiRecord.val) (by kernel_rfl) (by kernel_rfl) (hs.ext hx) rfl hk1 (fun _ => rfl) fun _ => ?_
    refine new_x (Ext.rfl' w29) fun b32 w33 hb32 hl32 hy n32 => wr_x hy hb32 fun w34 hy hw34 => ?_
    refine ref16_Check_calls (x := L[k]) (ref16_Check_ok (hok _ (List.getElem_mem hk1)) fun w36 hx' => kp_ext hx' (kp_ext hx' (kp_ext hx' ?_)))
    have hy := hy.trans' hx'
    refine ifNe (fun h => absurd rfl h) (fun _ => ?_)
    have skip : ∀ {u : World}, Ext w29 u → of2 h6.Base st L[k] = st → C (i64 ((k : Int) + 1)) ⟨h6.Promised, h6.Base, h6.Image, sa, sc⟩ u := fun hy e => by
      rw [e] at hC
      exact hC hk1 _ _ _ rfl ⟨sa, sc, rfl, ha.ext hy, hc.ext hy, ⟨ua, uc⟩, ⟨by omega, by omega⟩, hx.trans' hy, Nat.le_trans hz hy.size⟩
    refine ifD (fun hi => skip hy (if_pos hi)) (fun hi => ?_)
    refine ref16_HasCmd_calls (ref16_HasCmd_spec (kp_same (kp_same (kp_same ?_))))
    refine ifNot (ifB_of (fun hcmd => ?_) (fun hcmd => skip hy ?_))
    rotate_left
    · have := of_decide_eq_false hcmd
      unfold of2
      rw [if_neg hi, if_neg (by omega), if_neg (fun h => by omega)]
    refine new_x hy fun b39 w40 hb39 hl39 hy n39 => wr_x hy hb39 fun w41 hy hw41 => ?_
    have z41 := hy.size
    refine ifEq (fun h2 => ?_) (fun h2 => ?_)
    · have e2 : of2 h6.Base st L[k] = (entWith st.1 (entR L[k]), st.2) := by unfold of2; rw [if_neg hi, if_pos h2]
      rw [e2] at hC
      have hlen := entWith_len st.1 (entR L[k])
      refine ref12_With_calls (l := sa) (e := entR L[k]) (ref12_With_spec (ha.ext hy).is ua (by omega) fun s' w43 hs' hx' => kp_ext hx' (kp_ext hx' (kp_ext hx' (kp_ext hx' ?_))))
      have hy := hy.trans' hx'
      refine wr_of fun w44 hw44 => hC hk1 _ _ _ rfl ⟨s', sc, rfl, (hs'.mono (by omega)).wrO hw44 hl3, (hc.ext hy).wrO hw44 hl3, ⟨ua.ins ordI _, uc⟩, ⟨by dsimp only; omega, by dsimp only; omega⟩, Below.wr (hx.trans' hy) hb3 hw44, by have := hw44.size; have := hx'.size; omega⟩
    · have h3 : L[k].Kind = 3 := by have := of_decide_eq_true hcmd; omega
      refine ref12_Find_calls (ref12_Find_spec (hc.ext hy).is (fun hn => kp_same (kp_same (kp_same (kp_same ?_)))) (fun j hj hsome => kp_same (kp_same (kp_same (kp_same ?_)))))
      · have e2 : of2 h6.Base st L[k] = (st.1, entWith st.2 (entR L[k])) := by unfold of2; rw [if_neg hi, if_neg h2, if_pos ⟨h3, hn⟩]
        rw [e2] at hC
        have hlen := entWith_len st.2 (entR L[k])
        refine ifD (fun _ => ?_) (fun h => absurd (by decide) h)
        refine ref12_With_calls (l := sc) (e := entR L[k]) (ref12_With_spec (hc.ext hy).is uc (by omega) fun s' w43 hs' hx' => kp_ext hx' (kp_ext hx' (kp_ext hx' (kp_ext hx' ?_))))
        have hy := hy.trans' hx'
        refine wr_of fun w44 hw44 => hC hk1 _ _ _ rfl ⟨sa, s', rfl, (ha.ext hy).wrO hw44 hl3, (hs'.mono (by omega)).wrO hw44 hl3, ⟨ua, uc.ins ordI _⟩, ⟨by dsimp only; omega, by dsimp only; omega⟩, Below.wr (hx.trans' hy) hb3 hw44, by have := hw44.size; have := hx'.size; omega⟩
      · refine ifD (fun h => by omega) (fun _ => skip hy ?_)
        unfold of2
        rw [if_neg hi, if_neg h2, if_neg (fun h => by rw [hsome] at h; cases h.2)]
  · rw [take_done (by omega)] at ha hc
    refine wr_x hx hb1 fun w50 hxw hw50 => ?_
    exact hK sa sc _ ((ha.wrO hw50 (by omega)).mono hB0) ((hc.wrO hw50 (by omega)).mono hB0) hxw
end Go.Chg
