/-
  The laws of package 'kvtwo'.
-/
import Derived.Test.YtapepehccddjpaaSpKv3
set_option maxRecDepth 20000
set_option linter.unusedVariables false
namespace Go.Chg
open Go.Vc

theorem insC_insC {l : List ApiPair} {p q : ApiPair} (h : p.Key = q.Key) : pairIns (pairIns l p) q = pairIns l q := by
  unfold pairIns insC
  rw [h]
  have h0 : cmpS p.Key q.Key = 0 := cmpS_zero.2 h
  simp only [List.filter_append, List.filter_cons, List.filter_filter, h0, Int.lt_irrefl, decide_false, Bool.false_eq_true, if_false]
  have e1 : (l.filter fun a => decide (cmpS a.Key q.Key < 0) && decide (cmpS a.Key q.Key < 0)) = l.filter fun a => decide (cmpS a.Key q.Key < 0) := by simp
  have e2 : (l.filter fun a => decide (0 < cmpS a.Key q.Key) && decide (0 < cmpS a.Key q.Key)) = l.filter fun a => decide (0 < cmpS a.Key q.Key) := by simp
  have e3 : (l.filter fun a => decide (cmpS a.Key q.Key < 0) && decide (0 < cmpS a.Key q.Key)) = [] := List.filter_eq_nil_iff.2 fun a _ hh => by simp at hh; omega
  have e4 : (l.filter fun a => decide (0 < cmpS a.Key q.Key) && decide (cmpS a.Key q.Key < 0)) = [] := List.filter_eq_nil_iff.2 fun a _ hh => by simp at hh; omega
  rw [e1, e2, e3, e4]
  simp
theorem ins_bare (l : List ApiPair) (p : ApiPair) : (pairIns l p).map bare = pairIns (l.map bare) (bare p) := by
  unfold pairIns insC
  rw [List.map_append, List.map_cons, List.filter_map, List.filter_map]
  rfl
theorem del_bare (l : List ApiPair) (n : List UInt8) : (pairDel l n).map bare = pairDel (l.map bare) n := by
  unfold pairDel
  rw [List.filter_map]
  rfl
theorem pairOf_bare (l : List ApiPair) (n : List UInt8) : pairOf (l.map bare) n = (pairOf l n).map bare := by
  unfold pairOf getC
  rw [List.find?_map]
  rfl
theorem up_bare {l : List ApiPair} (h : PUp l) : PUp (l.map bare) := List.pairwise_map.2 h
theorem getD_bare (o : Option ApiPair) : ((o.map bare).getD noPair).Val = (o.getD noPair).Val := by cases o <;> rfl
theorem doOne_bare (l : List ApiPair) (c : ApiCmd) : doOne (l.map bare) c = ((doOne l c).1.map bare, (doOne l c).2) := by
  unfold doOne
  dsimp only
  rw [pairOf_bare, getD_bare, Option.isSome_map, List.length_map]
  by_cases h2 : c.Kind = 2
  · rw [if_pos h2, if_pos h2]
    split
    · rw [ins_bare]; rfl
    · rfl
  · rw [if_neg h2, if_neg h2]
    by_cases h3 : c.Kind = 3
    · rw [if_pos h3, if_pos h3]
    · rw [if_neg h3, if_neg h3]
      by_cases h4 : c.Kind = 4
      · rw [if_pos h4, if_pos h4, del_bare]
      · rw [if_neg h4, if_neg h4]
theorem doTwo_bare {l : List ApiPair} {c : ApiCmd} (h5 : c.Kind ≠ 5) : (doTwo l c).1.map bare = (doOne l c).1.map bare ∧ (doTwo l c).2 = (doOne l c).2 := by
  unfold doTwo
  rw [if_neg h5]
  split
  · rename_i h
    refine ⟨?_, rfl⟩
    obtain ⟨h2, he⟩ := h
    unfold doOne at he ⊢
    dsimp only at he ⊢
    rw [if_pos h2] at he ⊢
    split at he
    · rename_i hr
      rw [if_pos hr]
      dsimp only
      rw [insC_insC (p := ⟨c.Key, c.Val, 0⟩) (q := ⟨c.Key, c.Val, nextRev ((pairOf l c.Key).getD noPair).Rev⟩) rfl, ins_bare, ins_bare]
      rfl
    · exact absurd he (show ¬ (11 : Int) = 0 by decide)
  · exact ⟨rfl, rfl⟩
theorem casOne_len (l : List ApiPair) (c : ApiCmd) : (casOne l c).1.length ≤ l.length + 1 := by
  unfold casOne
  split
  · simp
  · split
    · exact insC_len' _ _ _
    · simp
theorem doTwo_len (l : List ApiPair) (c : ApiCmd) : (doTwo l c).1.length ≤ l.length + 2 := by
  unfold doTwo
  split
  · have := casOne_len l c; omega
  · have := doOne_len l c
    split
    · exact Nat.le_trans (insC_len' _ _ _) (by omega)
    · omega
theorem law24_large_spec {c : ApiCmd} {K : Bool → World → Prop} {w : World} (hK : ∀ b w', Ext w w' → K b w') : law24_large c K w := by
  unfold law24_large
  exact new_of fun b1 w1 hn1 => ifD (fun _ => hK _ _ (Ext.new hn1)) fun _ => ifD (fun _ => hK _ _ (Ext.new hn1)) fun _ => hK _ _ (Ext.new hn1)
theorem doTwo_set0 : doTwo [] ⟨2, 1, 1, [97], [49], [], 0⟩ = ([⟨[97], [49], 1⟩], ⟨1, 1, 0, false, [], 0⟩) := by
  have h1 : doOne [] ⟨2, 1, 1, [97], [49], [], 0⟩ = (pairIns [] ⟨[97], [49], 0⟩, ⟨1, 1, 0, false, [], 0⟩) := rfl
  unfold doTwo
  rw [if_neg (show ¬ (2 : Int) = 5 by decide), if_pos ⟨rfl, by rw [h1]⟩, h1]
  dsimp only
  rw [insC_insC (p := ⟨[97], [49], 0⟩) (q := ⟨[97], [49], nextRev ((pairOf [] [97]).getD noPair).Rev⟩) rfl]
  rfl
theorem doTwo_cas0 : doTwo [⟨[97], [49], 1⟩] ⟨5, 1, 2, [97], [50], [49], 0⟩ = (pairIns [⟨[97], [49], 1⟩] ⟨[97], [50], 2⟩, ⟨1, 2, 0, true, [49], 2⟩) := by
  have h1 : pairOf [⟨[97], [49], 1⟩] [97] = some ⟨[97], [49], 1⟩ := get_take ordS (l := [(⟨[97], [49], 1⟩ : ApiPair)]) (key := fun x : ApiPair => x.Key) (n := [97]) (k := 0) (by decide) (by simp) rfl
  unfold doTwo casOne
  rw [if_pos (show (5 : Int) = 5 by decide)]
  dsimp only
  rw [h1]
  rfl
theorem pairIns_at {l : List ApiPair} (hu : PUp l) {k : Nat} (hk : k < l.length) {p : ApiPair} (h : l[k].Key = p.Key) : pairIns l p = l.set k p := by
  have hget := List.getElem?_eq_getElem hk
  have hp : AtC (fun x => cmpS x.Key p.Key) l k := ⟨by omega, fun j y hj hjk => by have := hu.get hjk hj hget; rw [h] at this; exact this, fun j y hj hkj => by
    by_cases e : k = j
    · subst e
      rw [hget] at hj
      cases hj
      rw [h, ordS.refl]
      exact Int.le_refl 0
    · have := hu.get (show k < j by omega) hget hj
      rw [h] at this
      exact Int.le_of_lt ((ordS.fl _ _).2 this)⟩
  exact hp.ins_f (hu.rises ordS _) (foundC_iff.2 ⟨l[k], hget, by rw [h, ordS.refl]⟩) p
theorem law24_awake_spec {K : Bool → World → Prop} {w : World} (hK : ∀ w', Ext w w' → K true w') : law24_awake K w := by
  unfold law24_awake
  refine kvtwo_Do_calls (l := Sl.nil) (c := ⟨2, 1, 1, [97], [49], [], 0⟩) (kvtwo_Do_spec (l := []) (IsSl.nilSl _ _) List.Pairwise.nil (by simp) fun s1 w1 ho1 hx1 => ?_)
  rw [doTwo_set0] at ho1 ⊢
  refine new_of fun b3 w2 hn2 => wr_of fun w3 hw3 => ?_
  have hb3 : b3 = w1.heap.size := hn2.1
  have hx13 : Ext w1 w3 := Below.wr (Ext.new hn2) (by omega) hw3
  have hl2 := hn2.lt
  have hu : PUp [⟨[97], [49], 1⟩] := List.pairwise_singleton _ _
  refine kvtwo_Do_calls (l := s1) (c := ⟨5, 1, 2, [97], [50], [49], 0⟩) (kvtwo_Do_spec (ho1.is.ext hx13) hu (by decide) fun s4 w4 ho4 hx4 => kp_ext hx4 ?_)
  have h4 := hx4.size
  rw [doTwo_cas0, pairIns_at (p := ⟨[97], [50], 2⟩) hu (k := 0) (by decide) rfl] at ho4
  rw [doTwo_cas0]
  refine new_of fun b5 w5 hn5 => wr_of fun w6 hw6 => ?_
  have hx46 : Ext w4 w6 := Below.wr (Ext.new hn5) (by have := hn5.1; omega) hw6
  have he : strEq [49] [49] = true := by rw [strEq_eq]; rfl
  refine ifEq (fun _ => ?_) (fun h => absurd (by rw [ho4.len]; rfl) h)
  refine fld_rd (E := eApiPair) (l := [⟨[97], [50], 2⟩]) (k := 0) (y := (2 : Int)) (by kernel_rfl) (by kernel_rfl) (ho4.is.ext hx46) rfl (by decide) rfl fun _ => ?_
  exact ifEq (fun _ => ifB_t rfl (ifB_t he (hK w6 (hx1.trans' (hx13.trans' (hx4.trans' hx46)))))) (fun h => absurd rfl h)
theorem law24_KvtwoOlder_spec {s : Sl} {l : List ApiPair} {c : ApiCmd} {K : Bool → World → Prop} {w : World} (hs : IsSl eApiPair w s l) (hK : ∀ w', Ext w w' → K true w') : law24_KvtwoOlder s c K w := by
  unfold law24_KvtwoOlder
  refine new_of fun b1 w1 hn1 => ?_
  have hx1 := Ext.new hn1
  refine ref23_Large_calls (ref23_Large_spec (hs.ext hx1) fun b hb => kp_same ?_)
  refine ifB_of (fun _ => law24_awake_calls (law24_awake_spec fun w' hx => kp_ext hx (hK w' (hx1.trans' hx)))) (fun h => ?_)
  have hsm := hb h
  have hle : l.length ≤ 80 := hsm.1
  refine law24_large_calls (c := c) (law24_large_spec fun b2 w2 hx2 => kp_ext hx2 ?_)
  have hx2' := hx1.trans' hx2
  refine ifB_of (fun _ => law24_awake_calls (law24_awake_spec fun w' hx => kp_ext hx (hK w' (hx2'.trans' hx)))) (fun _ => ?_)
  refine ref23_Rise_calls (ref23_Rise_spec (hs.ext hx2') fun b3 w3 hb3 hx3 => kp_ext hx3 ?_)
  have hx3' := hx2'.trans' hx3
  refine ifNot (ifB_of (fun h3 => ?_) (fun _ => law24_awake_calls (law24_awake_spec fun w' hx => kp_ext hx (hK w' (hx3'.trans' hx)))))
  have hu := hb3.1 h3
  refine ifEq (fun _ => law24_awake_calls (law24_awake_spec fun w' hx => kp_ext hx (hK w' (hx3'.trans' hx)))) (fun h5 => ?_)
  refine kvtwo_Do_calls (l := s) (c := c) (kvtwo_Do_spec (c := c) (hs.ext hx3') hu (by omega) fun s2 w4 ho2 hx4 => kp_ext hx4 ?_)
  have hx4' := hx3'.trans' hx4
  have z4 := hx4'.size
  have hmu := up_bare hu
  have hml : (l.map bare).length ≤ 100000 := by rw [List.length_map]; omega
  obtain ⟨hb1', hb2'⟩ := doTwo_bare (l := l) h5
  have hb1 : (doTwo l c).1.map bare = (doOne (l.map bare) c).1 := by rw [doOne_bare]; exact hb1'
  have hb2 : (doTwo l c).2 = (doOne (l.map bare) c).2 := by rw [doOne_bare]; exact hb2'
  refine new_of fun b19 w5 hn5 => wr_of fun w6 hw6 => ?_
  have hx46 : Ext w4 w6 := Below.wr (Ext.new hn5) (by have := hn5.1; omega) hw6
  have z6 := hx46.size
  refine heldM_of (fun _ => True) fun w7 hx7 => ⟨trivial, ?_, ?_⟩
  · have hx47 := hx46.trans' hx7
    refine kvtwo_Plain_calls (kvtwo_Plain_spec (hs.ext (hx4'.trans' hx47)) (by omega) fun s1 w8 ho1 hx8 => ?_)
    repeat (refine kp_ext hx8 ?_)
    have hx48 := hx47.trans' hx8
    refine ⟨trivial, ?_, ?_⟩
    · refine kvone_Do_calls (l := s1) (c := c) (kvone_Do_spec (c := c) ho1.is hmu hml fun s3 w9 ho3 hx9 => ?_)
      repeat (refine kp_ext hx9 ?_)
      have hx49 := hx48.trans' hx9
      have z9 := hx49.size
      refine ⟨trivial, new_of fun b28 w10 hn10 => ⟨trivial, wr_of fun w11 hw11 => ⟨trivial, ?_⟩⟩⟩
      have hx911 : Ext w9 w11 := Below.wr (Ext.new hn10) (by have := hn10.1; omega) hw11
      have hx11 : Ext w w11 := hx4'.trans' (hx49.trans' hx911)
      refine kvtwo_Plain_calls (kvtwo_Plain_spec (ho2.is.ext (hx49.trans' hx911)) (by have := doTwo_len l c; omega) fun s4 u1 ho4 hy1 => ?_)
      repeat (refine kp_ext hy1 ?_)
      refine ref23_Same_calls (ref23_Same_spec ho4.is (ho3.is.ext ((hx911).trans' hy1)) fun t u2 ht hy2 => ?_)
      repeat (refine kp_ext hy2 ?_)
      refine ifB_t (ht.2 hb1) (eqSt (by kernel_rfl) (ApiAnswer.eqv _ _) (ifB_t (ApiAnswer.eqs_iff.2 hb2) ?_))
      refine law24_awake_calls (law24_awake_spec fun u3 hy3 => ?_)
      repeat (refine kp_ext hy3 ?_)
      exact hK u3 (hx11.trans' (hy1.trans' (hy2.trans' hy3)))
    · refine new_of fun b38 w9 hn9 => ⟨trivial, ?_⟩
      have hx89 := Ext.new hn9
      have l9 := hn9.lt
      have hb9 := hn9.1
      refine kvone_Do_calls (l := s1) (c := c) (kvone_Do_spec (c := c) (ho1.is.ext hx89) hmu hml fun s3 w10 ho3 hx10 => ?_)
      repeat (refine kp_ext hx10 ?_)
      have z8 := hx48.size
      have z10 := hx10.size
      refine ⟨trivial, wr_of fun w11 hw11 => ⟨trivial, ?_⟩⟩
      have hx811 : Ext w8 w11 := Below.wr (hx89.trans' hx10) (by omega) hw11
      have ho3 := ho3.grownB (grown_wr hw11) (fun b hb e => by have := ho3.ge b hb; cases e; omega)
      have hrr := Ext.rfl' w11
      have hx11 : Ext w w11 := hx4'.trans' (hx48.trans' hx811)
      refine kvtwo_Plain_calls (kvtwo_Plain_spec (ho2.is.ext (hx48.trans' hx811)) (by have := doTwo_len l c; omega) fun s4 u1 ho4 hy1 => ?_)
      repeat (refine kp_ext hy1 ?_)
      refine ref23_Same_calls (ref23_Same_spec ho4.is (ho3.is.ext ((hrr).trans' hy1)) fun t u2 ht hy2 => ?_)
      repeat (refine kp_ext hy2 ?_)
      refine ifB_t (ht.2 hb1) (eqSt (by kernel_rfl) (ApiAnswer.eqv _ _) (ifB_t (ApiAnswer.eqs_iff.2 hb2) ?_))
      refine law24_awake_calls (law24_awake_spec fun u3 hy3 => ?_)
      repeat (refine kp_ext hy3 ?_)
      exact hK u3 (hx11.trans' (hy1.trans' (hy2.trans' hy3)))
  · have hx47 := hx46.trans' hx7
    refine new_of fun b50 w8 hn8 => ⟨trivial, ?_⟩
    have hx78 := Ext.new hn8
    have l8 := hn8.lt
    have hb8 := hn8.1
    have hx48 := hx47.trans' hx78
    refine kvtwo_Plain_calls (kvtwo_Plain_spec (hs.ext (hx4'.trans' hx48)) (by omega) fun s1 w9 ho1 hx9 => ?_)
    repeat (refine kp_ext hx9 ?_)
    refine ⟨trivial, ?_⟩
    refine kvone_Do_calls (l := s1) (c := c) (kvone_Do_spec (c := c) ho1.is hmu hml fun s3 w10 ho3 hx10 => ?_)
    repeat (refine kp_ext hx10 ?_)
    have z7 := hx47.size
    have z9 := hx9.size
    refine ⟨trivial, wr_of fun w11 hw11 => ⟨trivial, ?_⟩⟩
    have hx711 : Ext w7 w11 := Below.wr (hx78.trans' (hx9.trans' hx10)) (by omega) hw11
    have ho3 := ho3.grownB (grown_wr hw11) (fun b hb e => by have := ho3.ge b hb; cases e; omega)
    have hrr := Ext.rfl' w11
    have hx11 : Ext w w11 := hx4'.trans' (hx47.trans' hx711)
    refine kvtwo_Plain_calls (kvtwo_Plain_spec (ho2.is.ext (hx47.trans' hx711)) (by have := doTwo_len l c; omega) fun s4 u1 ho4 hy1 => ?_)
    repeat (refine kp_ext hy1 ?_)
    refine ref23_Same_calls (ref23_Same_spec ho4.is (ho3.is.ext ((hrr).trans' hy1)) fun t u2 ht hy2 => ?_)
    repeat (refine kp_ext hy2 ?_)
    refine ifB_t (ht.2 hb1) (eqSt (by kernel_rfl) (ApiAnswer.eqv _ _) (ifB_t (ApiAnswer.eqs_iff.2 hb2) ?_))
    refine law24_awake_calls (law24_awake_spec fun u3 hy3 => ?_)
    repeat (refine kp_ext hy3 ?_)
    exact hK u3 (hx11.trans' (hy1.trans' (hy2.trans' hy3)))
end Go.Chg
