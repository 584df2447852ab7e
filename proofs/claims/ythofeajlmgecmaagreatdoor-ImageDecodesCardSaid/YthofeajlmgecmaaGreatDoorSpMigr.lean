/-
  What package 'migr' and 'changeoverref25' do with states; the laws of chapter 25.
-/
import Derived.Test.YthofeajlmgecmaaGreatDoorMZ
import Derived.Test.YthofeajlmgecmaaGreatDoorMG
import Derived.Test.YthofeajlmgecmaaGreatDoorMG
set_option maxRecDepth 20000
set_option linter.unusedVariables false
namespace Go.Chg
open Go.Vc

structure StAt (w : World) (x : ApiState) (p : List ApiPair) (q : List ApiSession) : Prop where
  ps : IsSl eApiPair w x.Pairs p
  ss : IsSl eApiSession w x.Sessions q
theorem StAt.ext {w w' : World} {x : ApiState} {p : List ApiPair} {q : List ApiSession} (h : StAt w x p q) (hx : Ext w w') : StAt w' x p q := ⟨h.ps.ext hx, h.ss.ext hx⟩
def zState : ApiState := ⟨0, Sl.nil, Sl.nil⟩
theorem StAt.zero (w : World) : StAt w zState [] [] := ⟨.nilSl _ _, .nilSl _ _⟩
def StateOk (sch : Int) (p : List ApiPair) (q : List ApiSession) : Prop := (sch = 1 ∨ sch = 2) ∧ PairsOk sch p ∧ SessOk q ∧ (sch = 1 → ∀ x ∈ q, x.Last.Rev = 0)

variable {x y : ApiState} {p p' : List ApiPair} {q q' : List ApiSession} {w : World}
theorem ref25_Check_spec {K : Bool → World → Prop} (h : StAt w x p q) (hK : ∀ b w', (b = true ↔ StateOk x.Schema p q) → Ext w w' → K b w') : ref25_Check x K w := by
  unfold ref25_Check
  refine new_x (Ext.rfl' w) fun b1 w2 _ _ hx _ => ?_
  refine ifD (fun h1 => hK _ _ ⟨fun h => (by cases h), fun h => by have := h.1; omega⟩ hx) (fun h1 => ?_)
  refine ifD (fun h2 => hK _ _ ⟨fun h => (by cases h), fun h => by have := h.1; omega⟩ hx) (fun h2 => ?_)
  refine ref23_Check_calls (ref23_Check_spec (h.ps.ext hx) fun b3 w4 hb3 hx' => kp_ext hx' ?_)
  have hx := hx.trans' hx'
  refine ifNot (ifB_of (fun h3 => ?_) (fun h3 => hK _ _ ⟨fun h => (by cases h), fun h => by rw [hb3.2 h.2.1] at h3; cases h3⟩ hx))
  refine ref22_Check_calls (ref22_Check_spec (h.ss.ext hx) fun b5 w6 hb5 hx' => kp_ext hx' ?_)
  have hx := hx.trans' hx'
  refine ifNot (ifB_of (fun h5 => ?_) (fun h5 => hK _ _ ⟨fun h => (by cases h), fun h => by rw [hb5.2 h.2.2.1] at h5; cases h5⟩ hx))
  have hl := h.ss.len
  have hle := h.ss.le
  refine up1 (fun k w' => w6 = w' ∧ (x.Schema = 1 → ∀ y ∈ q.take k, y.Last.Rev = 0)) 0 q.length rfl (by omega) hle ⟨rfl, by simp⟩ ?_
  rintro k _ C _ hk ⟨rfl, hall⟩ hC
  refine ifD (fun hlt => ?_) (fun hge => hK _ _ ⟨fun _ => ⟨by omega, hb3.1 h3, hb5.1 h5, fun h1 => all_done (by omega) (hall h1)⟩, fun _ => rfl⟩ hx)
  have hk1 : k < q.length := by omega
  refine ifEq (fun hs => ?_) (fun hs => hC hk1 _ _ rfl ⟨rfl, fun h1 => absurd h1 hs⟩)
  refine fld2_rd (y := q[k].Last.Rev) (by kernel_rfl) (by kernel_rfl) (h.ss.ext hx) rfl hk1 rfl fun _ => ?_
  exact ifNe (fun hne => hK _ _ ⟨fun h => (by cases h), fun h => absurd (h.2.2.2 hs _ (List.getElem_mem hk1)) hne⟩ hx) (fun he => hC hk1 _ _ rfl ⟨rfl, fun h1 => all_up hk1 (hall h1) he⟩)
theorem ref25_Same_spec {K : Bool → World → Prop} (h : StAt w x p q) (h' : StAt w y p' q') (hK : ∀ b w', (b = true ↔ x.Schema = y.Schema ∧ p = p' ∧ q = q') → Ext w w' → K b w') : ref25_Same x y K w := by
  unfold ref25_Same
  refine new_x (Ext.rfl' w) fun b1 w2 _ _ hx _ => new_x hx fun b3 w4 _ _ hx _ => ?_
  refine ifEq (fun h1 => ?_) (fun h1 => hK _ _ ⟨fun h => (by cases h), fun h => absurd h.1 h1⟩ hx)
  refine ref23_Same_calls (ref23_Same_spec (h.ps.ext hx) (h'.ps.ext hx) fun b5 w6 hb5 hx' => kp_ext hx' (kp_ext hx' ?_))
  have hx := hx.trans' hx'
  refine ifB_of (fun h5 => ?_) (fun h5 => hK _ _ ⟨fun h => (by cases h), fun h => by rw [hb5.2 h.2.1] at h5; cases h5⟩ hx)
  refine ref22_Same_calls (ref22_Same_spec (h.ss.ext hx) (h'.ss.ext hx) fun b7 w8 hb7 hx' => kp_ext hx' (kp_ext hx' ?_))
  exact hK _ _ ⟨fun h => ⟨h1, hb5.1 h5, hb7.1 h⟩, fun h => hb7.2 h.2.2⟩ (hx.trans' hx')
theorem migr_Check_1_spec {s : ApiSession} {K : Bool → World → Prop} (hK : ∀ w', Ext w w' → K (s.Last.Rev != 0) w') : migr_Check_1 s K w := by
  unfold migr_Check_1
  exact new_x (Ext.rfl' w) fun b1 w2 _ _ hx _ => hK _ hx
theorem index_last_spec {s : Sl} {l : List ApiSession} {K : Int → World → Prop} (hs : IsSl eApiSession w s l) (hK : ∀ i w', (decide (i ≥ 0) = true ↔ ∃ x ∈ l, x.Last.Rev ≠ 0) → Ext w w' → K i w') : slices_IndexFunc_api_Session_api_Session_Check s K w := by
  unfold slices_IndexFunc_api_Session_api_Session_Check
  have hl := hs.len
  have hle := hs.le
  refine up1 (fun k w' => Ext w w' ∧ ∀ x ∈ l.take k, x.Last.Rev = 0) 0 l.length rfl (by omega) hle ⟨Ext.rfl' _, by simp⟩ ?_
  rintro k w1 C _ hk ⟨hx1, hall⟩ hC
  refine ifD (fun hlt => ?_) (fun hge => hK _ _ ⟨fun h => absurd h (by decide), fun ⟨x, hx, hb⟩ => absurd (all_done (by omega) hall x hx) hb⟩ hx1)
  have hk1 : k < l.length := by omega
  refine st_rd (val := ApiSession.val) (by kernel_rfl) (by kernel_rfl) (hs.ext hx1) rfl hk1 (fun _ => rfl) fun _ => ?_
  refine migr_Check_1_calls (x := l[k]) (migr_Check_1_spec fun w2 hx2 => ?_)
  refine ifNe (fun hb => hK _ _ ⟨fun _ => ⟨l[k], List.getElem_mem hk1, hb⟩, fun _ => by simp⟩ (hx1.trans' hx2)) (fun hb => hC hk1 _ _ rfl ⟨hx1.trans' hx2, all_up hk1 hall hb⟩)
theorem migr_Check_spec {K : Int → World → Prop} (ht : Utf8T w) (h : StAt w x p q) (hle : p.length ≤ 100000) (hK : ∀ b w', (b = 0 ∧ StateOk x.Schema p q ∨ b = 3 ∧ ¬ StateOk x.Schema p q) → Ext w w' → K b w') : migr_Check x K w := by
  unfold migr_Check
  refine new_x (Ext.rfl' w) fun b1 w2 _ _ hx _ => ?_
  refine sess_Check_calls (sess_Check_spec (ht.ext hx) (h.ss.ext hx) fun e w4 he hx' => kp_ext hx' ?_)
  have hx := hx.trans' hx'
  rcases he with ⟨rfl, he⟩ | ⟨rfl, he⟩
  rotate_left
  · exact ifNe (fun _ => hK _ _ (.inr ⟨rfl, fun h => he h.2.2.1⟩) hx) (fun h => absurd h (by decide))
  refine ifNe (fun h => absurd rfl h) (fun _ => ?_)
  refine ifEq (fun h1 => ?_) (fun h1 => ?_)
  · refine slices_ContainsFunc_api_Session_api_Session_calls ?_
    unfold slices_ContainsFunc_api_Session_api_Session
    refine slices_IndexFunc_api_Session_api_Session_Check_calls (index_last_spec (h.ss.ext hx) fun i w6 hi hx' => kp_ext hx' ?_)
    have hx := hx.trans' hx'
    refine ifB_of (fun hb => hK _ _ (.inr ⟨rfl, fun h => ?_⟩) hx) (fun hb => ?_)
    · obtain ⟨y, hy, hne⟩ := hi.1 hb
      exact hne (h.2.2.2 h1 y hy)
    · refine kvone_Check_calls (kvone_Check_spec (ht.ext hx) (h.ps.ext hx) fun b w8 hb8 hx' => kp_ext hx' (hK _ _ ?_ (hx.trans' hx')))
      rw [h1]
      rcases hb8 with ⟨rfl, h8⟩ | ⟨rfl, h8⟩
      · refine .inl ⟨rfl, .inl rfl, h8, he, fun _ y hy => Classical.byContradiction fun hne => ?_⟩
        rw [hi.2 ⟨y, hy, hne⟩] at hb
        cases hb
      · exact .inr ⟨rfl, fun h => h8 h.2.1⟩
  · refine ifEq (fun h2 => ?_) (fun h2 => hK _ _ (.inr ⟨rfl, fun h => by have := h.1; omega⟩) hx)
    refine kvtwo_Check_calls (kvtwo_Check_spec (ht.ext hx) (h.ps.ext hx) hle fun b w8 hb8 hx' => kp_ext hx' (hK _ _ ?_ (hx.trans' hx')))
    rw [h2]
    rcases hb8 with ⟨rfl, h8⟩ | ⟨rfl, h8⟩
    · exact .inl ⟨rfl, .inr rfl, h8, he, fun h => absurd h (by decide)⟩
    · exact .inr ⟨rfl, fun h => h8 h.2.1⟩
/-- A state of the call's own. -/
structure StOwn (w : World) (B : Nat) (x : ApiState) (p : List ApiPair) (q : List ApiSession) : Prop where
  ps : OwnSl eApiPair w B x.Pairs p
  ss : OwnSl eApiSession w B x.Sessions q
theorem StOwn.at {B : Nat} (h : StOwn w B x p q) : StAt w x p q := ⟨h.ps.is, h.ss.is⟩
def first (p : ApiPair) : ApiPair := ⟨p.Key, p.Val, 1⟩
def revs (n : Int) (p : ApiPair) : ApiPair := ⟨p.Key, p.Val, n⟩
theorem stateOk_first (h : StateOk 1 p q) : StateOk 2 (p.map first) q := by
  obtain ⟨_, ⟨h1, h2, h3⟩, h4, h5⟩ := h
  refine ⟨.inr rfl, ⟨fun y hy => ?_, by rw [List.length_map]; exact h2, List.pairwise_map.2 h3⟩, h4, fun h => absurd h (by decide)⟩
  obtain ⟨z, hz, rfl⟩ := List.mem_map.1 hy
  obtain ⟨k1, k2, _, _⟩ := h1 z hz
  exact ⟨k1, k2, fun h => absurd h (by decide), fun _ => show (1 : Int) ≤ 1 ∧ (1 : Int) ≤ 4294967296 by decide⟩
end Go.Chg
