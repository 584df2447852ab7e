/-
  The law of a compare-and-swap of package 'kvtwo'.
-/
import Derived.Test.YtapepehccddjpaaSpLaw24
set_option maxRecDepth 20000
set_option linter.unusedVariables false
namespace Go.Chg
open Go.Vc

/-- What a compare-and-swap leaves of each pair; 'at' is the key's place. -/
def CasAt (l r : List ApiPair) (c : ApiCmd) (at_ : Option Nat) : Prop :=
  r.length = l.length ∧ ∀ i x y, l[i]? = some x → r[i]? = some y → y.Key = x.Key ∧ x.Rev ≤ y.Rev ∧ (at_ ≠ some i → y = x) ∧ (at_ = some i → x.Val = c.Old → y.Val = c.Val)
theorem cas_none {l : List ApiPair} {c : ApiCmd} (h : pairOf l c.Key = none) : casOne l c = (l, ⟨c.Client, c.Seq, 10, false, [], 0⟩) := by unfold casOne; rw [h]
theorem cas_other {l : List ApiPair} {c : ApiCmd} {x : ApiPair} (h : pairOf l c.Key = some x) (hne : x.Val ≠ c.Old) : casOne l c = (l, ⟨c.Client, c.Seq, 15, true, x.Val, x.Rev⟩) := by unfold casOne; rw [h]; dsimp only; rw [if_neg hne]
theorem cas_done {l : List ApiPair} {c : ApiCmd} {x : ApiPair} (h : pairOf l c.Key = some x) (he : x.Val = c.Old) : casOne l c = (pairIns l ⟨c.Key, c.Val, nextRev x.Rev⟩, ⟨c.Client, c.Seq, 0, true, x.Val, nextRev x.Rev⟩) := by unfold casOne; rw [h]; dsimp only; rw [if_pos he]
theorem casAt_same {l : List ApiPair} {c : ApiCmd} {a : Option Nat} (h : ∀ k x, a = some k → l[k]? = some x → x.Val ≠ c.Old) : CasAt l l c a :=
  ⟨rfl, fun i x y hx hy => by
    rw [hx] at hy
    cases hy
    exact ⟨rfl, Int.le_refl _, fun _ => rfl, fun hi hv => absurd hv (h i x hi hx)⟩⟩
theorem casAt_done {l : List ApiPair} {c : ApiCmd} (hu : PUp l) {k : Nat} (hk : k < l.length) (hkey : l[k].Key = c.Key) (hr : 1 ≤ l[k].Rev ∧ l[k].Rev ≤ 4294967296) : CasAt l (pairIns l ⟨c.Key, c.Val, nextRev l[k].Rev⟩) c (some k) := by
  rw [pairIns_at hu hk (p := ⟨c.Key, c.Val, nextRev l[k].Rev⟩) hkey]
  refine ⟨by simp, fun i x y hx hy => ?_⟩
  by_cases e : k = i
  · subst e
    rw [List.getElem?_eq_getElem hk] at hx
    cases hx
    rw [List.getElem?_set_self hk] at hy
    cases hy
    refine ⟨hkey.symm, ?_, fun h => absurd rfl h, fun _ _ => rfl⟩
    show l[k].Rev ≤ nextRev l[k].Rev
    by_cases h : l[k].Rev ≤ 4294967295
    · rw [nextRev_lo (by omega) h]; omega
    · rw [nextRev_hi (by omega)]; omega
  · rw [List.getElem?_set_ne e, hx] at hy
    cases hy
    exact ⟨rfl, Int.le_refl _, fun _ => rfl, fun h => absurd (Option.some.inj h) e⟩
theorem law24_KvtwoCas_spec {s : Sl} {l : List ApiPair} {c : ApiCmd} {K : Bool → World → Prop} {w : World} (hs : IsSl eApiPair w s l) (hK : ∀ w', Ext w w' → K true w') : law24_KvtwoCas s c K w := by
  unfold law24_KvtwoCas
  refine new_of fun b1 w1 hn1 => ?_
  have hb1 := hn1.1
  have l1 := hn1.lt
  have hx1 := Ext.new hn1
  refine ref23_Large_calls (ref23_Large_spec (hs.ext hx1) fun b hb => kp_same ?_)
  refine ifB_of (fun _ => law24_awake_calls (law24_awake_spec fun w' hx => kp_ext hx (hK w' (hx1.trans' hx)))) (fun h => ?_)
  have hsm := hb h
  have hle : l.length ≤ 80 := hsm.1
  refine law24_large_calls (c := c) (law24_large_spec fun b2 w2 hx2 => kp_ext hx2 ?_)
  have hx2' := hx1.trans' hx2
  refine ifB_of (fun _ => law24_awake_calls (law24_awake_spec fun w' hx => kp_ext hx (hK w' (hx2'.trans' hx)))) (fun _ => ?_)
  refine ref23_Check_calls (ref23_Check_spec (hs.ext hx2') fun b3 w3 hb3 hx3 => kp_ext hx3 ?_)
  have hx3' := hx2'.trans' hx3
  refine ifNot (ifB_of (fun h3 => ?_) (fun _ => law24_awake_calls (law24_awake_spec fun w' hx => kp_ext hx (hK w' (hx3'.trans' hx)))))
  have hok := hb3.1 h3
  have hu : PUp l := hok.2.2
  refine wr_of fun w4 hw4 => ?_
  have hx4 : Ext w w4 := Below.wr hx3' (by omega) hw4
  refine kvtwo_Do_calls (l := s) (c := ⟨5, c.Client, c.Seq, c.Key, c.Val, c.Old, c.Node⟩) (kvtwo_Do_spec (c := ⟨5, c.Client, c.Seq, c.Key, c.Val, c.Old, c.Node⟩) (hs.ext hx4) hu (by omega) fun s2 w5 ho5 hx5 => kp_ext hx5 ?_)
  have hd : doTwo l ⟨5, c.Client, c.Seq, c.Key, c.Val, c.Old, c.Node⟩ = casOne l c := by unfold doTwo; rw [if_pos (show (5 : Int) = 5 from rfl)]; rfl
  rw [hd] at ho5 ⊢
  have hx5' := hx4.trans' hx5
  have z5 := hx5'.size
  refine new_of fun b18 w6 hn6 => wr_of fun w7 hw7 => ?_
  have hx57 : Ext w5 w7 := Below.wr (Ext.new hn6) (by have := hn6.1; omega) hw7
  have hx7 := hx5'.trans' hx57
  have ho7 := ho5.ext hx57
  refine ref23_Place_calls (ref23_Place_spec (hs.ext hx7) (fun k hk hso hkey _ => kp_same (kp_same ?_)) (fun hnone => kp_same (kp_same ?_)))
  · have hrev := (hok.1 _ (List.getElem_mem hk)).2.2.2 rfl
    refine drew_of fun w8 hx8 => ifB_t (by simp) ?_
    have hx8' := hx7.trans' hx8
    have ho8 := ho7.ext hx8
    refine fld_rd (y := l[k].Val) (by kernel_rfl) (by kernel_rfl) (hs.ext hx8') rfl hk rfl fun _ => ?_
    have hcas : ∃ r a, casOne l c = (r, a) ∧ CasAt l r c (some k) ∧ (a.Err = 0 ↔ l[k].Val = c.Old) ∧ (l[k].Val ≠ c.Old → r = l) := by
      by_cases he : l[k].Val = c.Old
      · exact ⟨_, _, cas_done hso he, casAt_done hu hk hkey hrev, ⟨fun _ => he, fun _ => rfl⟩, fun h => absurd he h⟩
      · refine ⟨_, _, cas_other hso he, casAt_same fun j x hj hx => ?_, ⟨fun h => absurd h (show ¬ (15 : Int) = 0 by decide), fun h => absurd h he⟩, fun _ => rfl⟩
        cases hj
        rw [List.getElem?_eq_getElem hk] at hx
        cases hx
        exact he
    obtain ⟨r, a, hra, ⟨hlen, hall⟩, herr, hsame⟩ := hcas
    rw [hra] at ho8 ⊢
    have hlr := ho8.len
    have hls := hs.len
    have hlen2 : (s2.len : Int) = (s.len : Int) := by rw [hlr, hls]; exact congrArg _ hlen
    refine ⟨fun w' => Ext w8 w', ?_, ?_⟩
    · have e1 : ((a.Err == 0) == strEq l[k].Val c.Old) = true := by
        rw [strEq_eq]
        by_cases he : l[k].Val = c.Old
        · rw [show (a.Err == 0) = true by simpa using herr.2 he]; simpa using he
        · rw [show (a.Err == 0) = false by simpa using fun h => he (herr.1 h)]; simpa using he
      refine ifNot (ifB_t e1 (ifNot (ifStr (fun he => ?_) (fun he => ?_))))
      · exact ifNe (fun h => absurd hlen2 h) (fun _ => Ext.rfl' _)
      · refine ref23_Same_calls (ref23_Same_spec ho8.is (hs.ext hx8') fun t w9 ht hx9 => kp_ext hx9 (kp_ext hx9 ?_))
        exact ifNot (ifB_t (ht.2 (hsame he)) (ifNe (fun h => absurd hlen2 h) (fun _ => hx9)))
    · intro w9 hx9
      refine up1 (fun j w' => Ext w8 w') 0 l.length rfl (by omega) (by omega) hx9 ?_
      rintro j w10 C _ hj hx10 hC
      refine ifD (fun hlt => ?_) (fun hge => ?_)
      · have hj1 : j < l.length := by omega
        have hj2 : j < r.length := by omega
        obtain ⟨g1, g2, g3, g4⟩ := hall j _ _ (List.getElem?_eq_getElem hj1) (List.getElem?_eq_getElem hj2)
        refine drew_of fun w11 hx11 => ?_
        have hx811 := hx10.trans' hx11
        have hsl := hs.ext (hx8'.trans' hx811)
        have hsr := ho8.is.ext hx811
        have go : C (i64 ((j : Int) + 1)) w11 := hC hj1 _ _ rfl hx811
        refine fld_rd (y := r[j].Key) (by kernel_rfl) (by kernel_rfl) hsr rfl hj2 rfl fun _ => ?_
        refine fld_rd (y := l[j].Key) (by kernel_rfl) (by kernel_rfl) hsl rfl hj1 rfl fun _ => ?_
        refine ifNot (ifStr (fun _ => ?_) (fun h => absurd g1 h))
        refine fld_rd (y := r[j].Rev) (by kernel_rfl) (by kernel_rfl) hsr rfl hj2 rfl fun _ => ?_
        refine fld_rd (y := l[j].Rev) (by kernel_rfl) (by kernel_rfl) hsl rfl hj1 rfl fun _ => ?_
        refine ifD (fun h => by omega) (fun _ => ?_)
        have last : k = j → ifB (strEq l[k].Val c.Old) (opRd Pr (Instr.indexAt 37 s2.val (.int .i64 (j : Int))) pav (fun t47 => opRd Pr (Instr.loadAt 9 (.pointer (some (t47.add 1)))) sval (fun t48 => ifB (!(strEq t48 c.Val)) (K false w11) (C (i64 ((j : Int) + 1)) w11)) w11) w11) (C (i64 ((j : Int) + 1)) w11) := fun e => by
          subst e
          refine ifStr (fun he => ?_) (fun _ => go)
          refine fld_rd (y := r[k].Val) (by kernel_rfl) (by kernel_rfl) hsr rfl hj2 rfl fun _ => ?_
          exact ifNot (ifStr (fun _ => go) (fun h => absurd (g4 rfl he) h))
        refine ifNe (fun hne => ?_) (fun he => ?_)
        · refine st_rd (val := ApiPair.val) (by kernel_rfl) (by kernel_rfl) hsr rfl hj2 (fun _ => rfl) fun _ => ?_
          refine st_rd (val := ApiPair.val) (by kernel_rfl) (by kernel_rfl) hsl rfl hj1 (fun _ => rfl) fun _ => ?_
          refine neSt (by kernel_rfl) (ApiPair.eqv _ _) (ifNot (ifB_t (ApiPair.eqs_iff.2 (g3 fun e => hne (by rw [Option.some.inj e]))) ?_))
          exact ifEq (fun he => absurd he hne) (fun _ => go)
        · exact ifEq (fun _ => last (by omega)) (fun _ => go)
      · refine law24_awake_calls (law24_awake_spec fun w11 hx11 => kp_ext hx11 (kp_ext hx11 (hK _ (hx8'.trans' (hx10.trans' hx11)))))
  · rw [cas_none hnone] at ho7 ⊢
    refine drew_of fun w8 hx8 => ifB_f (by simp) ?_
    have hx8' := hx7.trans' hx8
    have ho8 := ho7.ext hx8
    have hlr := ho8.len
    have hls := hs.len
    have hlen2 : (s2.len : Int) = (s.len : Int) := by rw [hlr, hls]
    refine ⟨fun w' => Ext w8 w', ?_, ?_⟩
    · refine ifB_f rfl (ifB_t rfl ?_)
      refine ref23_Same_calls (ref23_Same_spec ho8.is (hs.ext hx8') fun t w9 ht hx9 => kp_ext hx9 (kp_ext hx9 ?_))
      exact ifNot (ifB_t (ht.2 rfl) (ifNe (fun h => absurd hlen2 h) (fun _ => hx9)))
    · intro w9 hx9
      refine up1 (fun j w' => Ext w8 w') 0 l.length rfl (by omega) (by omega) hx9 ?_
      rintro j w10 C _ hj hx10 hC
      refine ifD (fun hlt => ?_) (fun hge => ?_)
      · have hj1 : j < l.length := by omega
        refine drew_of fun w11 hx11 => ?_
        have hx811 := hx10.trans' hx11
        have hsl := hs.ext (hx8'.trans' hx811)
        have hsr := ho8.is.ext hx811
        have go : C (i64 ((j : Int) + 1)) w11 := hC hj1 _ _ rfl hx811
        refine fld_rd (y := l[j].Key) (by kernel_rfl) (by kernel_rfl) hsr rfl hj1 rfl fun _ => ?_
        refine fld_rd (y := l[j].Key) (by kernel_rfl) (by kernel_rfl) hsl rfl hj1 rfl fun _ => ?_
        refine ifNot (ifStr (fun _ => ?_) (fun h => absurd rfl h))
        refine fld_rd (y := l[j].Rev) (by kernel_rfl) (by kernel_rfl) hsr rfl hj1 rfl fun _ => ?_
        refine fld_rd (y := l[j].Rev) (by kernel_rfl) (by kernel_rfl) hsl rfl hj1 rfl fun _ => ?_
        refine ifD (fun h => by omega) (fun _ => ?_)
        refine ifNe (fun hne => ?_) (fun he => by omega)
        refine st_rd (val := ApiPair.val) (by kernel_rfl) (by kernel_rfl) hsr rfl hj1 (fun _ => rfl) fun _ => ?_
        refine st_rd (val := ApiPair.val) (by kernel_rfl) (by kernel_rfl) hsl rfl hj1 (fun _ => rfl) fun _ => ?_
        refine neSt (by kernel_rfl) (ApiPair.eqv _ _) (ifNot (ifB_t (ApiPair.eqs_iff.2 rfl) ?_))
        exact ifEq (fun he => absurd he hne) (fun _ => go)
      · refine law24_awake_calls (law24_awake_spec fun w11 hx11 => kp_ext hx11 (kp_ext hx11 (hK _ (hx8'.trans' (hx10.trans' hx11)))))
end Go.Chg
