/-
  What a command of 'kvtwo' leaves: facts; that its law is awake.
-/
import Derived.Test.YtapepehccddjpaaDoorSpKv3
set_option maxRecDepth 20000
set_option linter.unusedVariables false
namespace Go.Chg
open Go.Vc

theorem insC_insC {l : List ApiPair} {p q : ApiPair} (h : p.Key = q.Key) : pairIns (pairIns l p) q = pairIns l q := by
  unfold pairIns insC
  rw [h]
  have h0 : cmpS p.Key q.Key = 0 := cmpS_zero.2 h
  simp only [List.filter_append, List.filter_cons, List.filter_filter, h0, Int.lt_irrefl, decide_false, Bool.false_eq_true, if_false]
  have e1 : (l.filter fun a => decide (cmpS a.Key q.Key < 0) && decide (cmpS a.Key q.Key < 0)) = l.filter fun a => decide (cmpS a.Key q.Key < 0) := by simp
  have e2 : (l.filter fun a => decide (0 < cmpS a.Key q.Key) && decide (0 < cmpS a.Key q.Key)) = l.filter fun a => decide (0 < cmpS a.Key q.Key) := by simp
  have e3 : (l.filter fun a => decide (cmpS a.Key q.Key < 0) && decide (0 < cmpS a.Key q.Key)) = [] := List.filter_eq_nil_iff.2 fun a _ hh => by simp at hh; omega
  have e4 : (l.filter fun a => decide (0 < cmpS a.Key q.Key) && decide (cmpS a.Key q.Key < 0)) = [] := List.filter_eq_nil_iff.2 fun a _ hh => by simp at hh; omega
  rw [e1, e2, e3, e4]
  simp
theorem ins_bare (l : List ApiPair) (p : ApiPair) : (pairIns l p).map bare = pairIns (l.map bare) (bare p) := by
  unfold pairIns insC
  rw [List.map_append, List.map_cons, List.filter_map, List.filter_map]
  rfl
theorem del_bare (l : List ApiPair) (n : List UInt8) : (pairDel l n).map bare = pairDel (l.map bare) n := by
  unfold pairDel
  rw [List.filter_map]
  rfl
theorem pairOf_bare (l : List ApiPair) (n : List UInt8) : pairOf (l.map bare) n = (pairOf l n).map bare := by
  unfold pairOf getC
  rw [List.find?_map]
  rfl
theorem up_bare {l : List ApiPair} (h : PUp l) : PUp (l.map bare) := List.pairwise_map.2 h
theorem getD_bare (o : Option ApiPair) : ((o.map bare).getD noPair).Val = (o.getD noPair).Val := by cases o <;> rfl
theorem doOne_bare (l : List ApiPair) (c : ApiCmd) : doOne (l.map bare) c = ((doOne l c).1.map bare, (doOne l c).2) := by
  unfold doOne
  dsimp only
  rw [pairOf_bare, getD_bare, Option.isSome_map, List.length_map]
  by_cases h2 : c.Kind = 2
  · rw [if_pos h2, if_pos h2]
    split
    · rw [ins_bare]; rfl
    · rfl
  · rw [if_neg h2, if_neg h2]
    by_cases h3 : c.Kind = 3
    · rw [if_pos h3, if_pos h3]
    · rw [if_neg h3, if_neg h3]
      by_cases h4 : c.Kind = 4
      · rw [if_pos h4, if_pos h4, del_bare]
      · rw [if_neg h4, if_neg h4]
theorem doTwo_bare {l : List ApiPair} {c : ApiCmd} (h5 : c.Kind ≠ 5) : (doTwo l c).1.map bare = (doOne l c).1.map bare ∧ (doTwo l c).2 = (doOne l c).2 := by
  unfold doTwo
  rw [if_neg h5]
  split
  · rename_i h
    refine ⟨?_, rfl⟩
    obtain ⟨h2, he⟩ := h
    unfold doOne at he ⊢
    dsimp only at he ⊢
    rw [if_pos h2] at he ⊢
    split at he
    · rename_i hr
      rw [if_pos hr]
      dsimp only
      rw [insC_insC (p := ⟨c.Key, c.Val, 0⟩) (q := ⟨c.Key, c.Val, nextRev ((pairOf l c.Key).getD noPair).Rev⟩) rfl, ins_bare, ins_bare]
      rfl
    · exact absurd he (show ¬ (11 : Int) = 0 by decide)
  · exact ⟨rfl, rfl⟩
theorem casOne_len (l : List ApiPair) (c : ApiCmd) : (casOne l c).1.length ≤ l.length + 1 := by
  unfold casOne
  split
  · simp
  · split
    · exact insC_len' _ _ _
    · simp
theorem doTwo_len (l : List ApiPair) (c : ApiCmd) : (doTwo l c).1.length ≤ l.length + 2 := by
  unfold doTwo
  split
  · have := casOne_len l c; omega
  · have := doOne_len l c
    split
    · exact Nat.le_trans (insC_len' _ _ _) (by omega)
    · omega
theorem doTwo_set0 : doTwo [] ⟨2, 1, 1, [97], [49], [], 0⟩ = ([⟨[97], [49], 1⟩], ⟨1, 1, 0, false, [], 0⟩) := by
  have h1 : doOne [] ⟨2, 1, 1, [97], [49], [], 0⟩ = (pairIns [] ⟨[97], [49], 0⟩, ⟨1, 1, 0, false, [], 0⟩) := rfl
  unfold doTwo
  rw [if_neg (show ¬ (2 : Int) = 5 by decide), if_pos ⟨rfl, by rw [h1]⟩, h1]
  dsimp only
  rw [insC_insC (p := ⟨[97], [49], 0⟩) (q := ⟨[97], [49], nextRev ((pairOf [] [97]).getD noPair).Rev⟩) rfl]
  rfl
theorem doTwo_cas0 : doTwo [⟨[97], [49], 1⟩] ⟨5, 1, 2, [97], [50], [49], 0⟩ = (pairIns [⟨[97], [49], 1⟩] ⟨[97], [50], 2⟩, ⟨1, 2, 0, true, [49], 2⟩) := by
  have h1 : pairOf [⟨[97], [49], 1⟩] [97] = some ⟨[97], [49], 1⟩ := get_take ordS (l := [(⟨[97], [49], 1⟩ : ApiPair)]) (key := fun x : ApiPair => x.Key) (n := [97]) (k := 0) (by decide) (by simp) rfl
  unfold doTwo casOne
  rw [if_pos (show (5 : Int) = 5 by decide)]
  dsimp only
  rw [h1]
  rfl
theorem pairIns_at {l : List ApiPair} (hu : PUp l) {k : Nat} (hk : k < l.length) {p : ApiPair} (h : l[k].Key = p.Key) : pairIns l p = l.set k p := by
  have hget := List.getElem?_eq_getElem hk
  have hp : AtC (fun x => cmpS x.Key p.Key) l k := ⟨by omega, fun j y hj hjk => by have := hu.get hjk hj hget; rw [h] at this; exact this, fun j y hj hkj => by
    by_cases e : k = j
    · subst e
      rw [hget] at hj
      cases hj
      rw [h, ordS.refl]
      exact Int.le_refl 0
    · have := hu.get (show k < j by omega) hget hj
      rw [h] at this
      exact Int.le_of_lt ((ordS.fl _ _).2 this)⟩
  exact hp.ins_f (hu.rises ordS _) (foundC_iff.2 ⟨l[k], hget, by rw [h, ordS.refl]⟩) p
theorem law24_awake_spec {K : Bool → World → Prop} {w : World} (hK : ∀ w', Ext w w' → K true w') : law24_awake K w := by
  unfold law24_awake
  refine kvtwo_Do_calls (l := Sl.nil) (c := ⟨2, 1, 1, [97], [49], [], 0⟩) (kvtwo_Do_spec (l := []) (IsSl.nilSl _ _) List.Pairwise.nil (by simp) fun s1 w1 ho1 hx1 => ?_)
  rw [doTwo_set0] at ho1 ⊢
  refine new_of fun b3 w2 hn2 => wr_of fun w3 hw3 => ?_
  have hb3 : b3 = w1.heap.size := hn2.1
  have hx13 : Ext w1 w3 := Below.wr (Ext.new hn2) (by omega) hw3
  have hl2 := hn2.lt
  have hu : PUp [⟨[97], [49], 1⟩] := List.pairwise_singleton _ _
  refine kvtwo_Do_calls (l := s1) (c := ⟨5, 1, 2, [97], [50], [49], 0⟩) (kvtwo_Do_spec (ho1.is.ext hx13) hu (by decide) fun s4 w4 ho4 hx4 => kp_ext hx4 ?_)
  have h4 := hx4.size
  rw [doTwo_cas0, pairIns_at (p := ⟨[97], [50], 2⟩) hu (k := 0) (by decide) rfl] at ho4
  rw [doTwo_cas0]
  refine new_of fun b5 w5 hn5 => wr_of fun w6 hw6 => ?_
  have hx46 : Ext w4 w6 := Below.wr (Ext.new hn5) (by have := hn5.1; omega) hw6
  have he : strEq [49] [49] = true := by rw [strEq_eq]; rfl
  refine ifEq (fun _ => ?_) (fun h => absurd (by rw [ho4.len]; rfl) h)
  refine fld_rd (E := eApiPair) (l := [⟨[97], [50], 2⟩]) (k := 0) (y := (2 : Int)) (by kernel_rfl) (by kernel_rfl) (ho4.is.ext hx46) rfl (by decide) rfl fun _ => ?_
  exact ifEq (fun _ => ifB_t rfl (ifB_t he (hK w6 (hx1.trans' (hx13.trans' (hx4.trans' hx46)))))) (fun h => absurd rfl h)
end Go.Chg
