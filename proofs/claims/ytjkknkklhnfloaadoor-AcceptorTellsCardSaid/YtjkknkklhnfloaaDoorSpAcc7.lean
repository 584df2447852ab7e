/-
  The hard state behind one more record: changeoverref31.Behind.
-/
import Derived.Test.YtjkknkklhnfloaaDoorSpAcc6
set_option maxRecDepth 20000
set_option linter.unusedVariables false
namespace Go.Chg
open Go.Vc
open Go.RowKit (Below)
variable {w : World} {acc chs : List ApiEntry} {img : List UInt8} {h_ : ApiHard} {x : ApiRecord} {il : Nat}
def recI (h_ : ApiHard) : ApiRecord := ⟨4, zBallot, h_.Base, noCmd, h_.Image⟩
def recP (h_ : ApiHard) : ApiRecord := ⟨1, h_.Promised, 0, noCmd, Sl.nil⟩
def recC (e : ApiEntry) : ApiRecord := ⟨3, zBallot, e.Index, e.Cmd, Sl.nil⟩
def partI (h_ : ApiHard) : List ApiRecord := if 0 < h_.Base then [recI h_] else []
def partP (h_ : ApiHard) : List ApiRecord := if 0 < h_.Promised.Round then [recP h_] else []
def recL (h_ : ApiHard) (acc chs : List ApiEntry) : List ApiRecord := partI h_ ++ partP h_ ++ acc.map recAcc ++ chs.map recC
/-! ### The plain law -/
theorem ent_last {l : List ApiEntry} {e : ApiEntry} (h : ∀ y ∈ l, y.Index < e.Index) : entWith l e = l ++ [e] := by
  unfold entWith insC
  rw [List.filter_eq_self.2 (fun y hy => decide_eq_true (cmpI_neg.2 (h y hy))), List.filter_eq_nil_iff.2 (fun y hy => by
    have := cmpI_neg.2 (h y hy)
    rw [decide_eq_true_iff]; show ¬ 0 < cmpI y.Index e.Index; omega)]
theorem of2_acc {B : Int} : ∀ (acc pre c : List ApiEntry), EUp (pre ++ acc) → (∀ e ∈ acc, B < e.Index) → (acc.map recAcc).foldl (of2 B) (pre, c) = (pre ++ acc, c)
  | [], pre, c, _, _ => by simp
  | e :: acc, pre, c, hu, hb => by
    rw [List.map_cons, List.foldl_cons]
    have hlt : ∀ y ∈ pre, y.Index < e.Index := fun y hy => cmpI_neg.1 ((List.pairwise_append.1 hu).2.2 y hy e (List.mem_cons_self ..))
    have h1 : of2 B (pre, c) (recAcc e) = (pre ++ [e], c) := by
      unfold of2
      rw [if_neg (show ¬ (recAcc e).Index ≤ B from by have := hb e (List.mem_cons_self ..); show ¬ e.Index ≤ B; omega), if_pos (show (recAcc e).Kind = 2 from rfl)]
      show (entWith pre e, c) = _
      rw [ent_last hlt]
    rw [h1, of2_acc acc (pre ++ [e]) c (by simpa using hu) (fun y hy => hb y (List.mem_cons_of_mem _ hy))]
    simp
theorem of2_chs {B : Int} : ∀ (chs pre a : List ApiEntry), EUp (pre ++ chs) → (∀ e ∈ chs, B < e.Index ∧ e.Ballot = zBallot) → (chs.map recC).foldl (of2 B) (a, pre) = (a, pre ++ chs)
  | [], pre, a, _, _ => by simp
  | e :: chs, pre, a, hu, hb => by
    rw [List.map_cons, List.foldl_cons]
    have hlt : ∀ y ∈ pre, y.Index < e.Index := fun y hy => cmpI_neg.1 ((List.pairwise_append.1 hu).2.2 y hy e (List.mem_cons_self ..))
    have he := hb e (List.mem_cons_self ..)
    have h1 : of2 B (a, pre) (recC e) = (a, pre ++ [e]) := by
      unfold of2
      rw [if_neg (show ¬ (recC e).Index ≤ B from by show ¬ e.Index ≤ B; omega), if_neg (show ¬ (recC e).Kind = 2 from by show ¬ (3 : Int) = 2; decide), if_pos ⟨rfl, (get_none ordI).2 fun y hy => by have := hlt y hy; show y.Index ≠ e.Index; omega⟩]
      show (a, entWith pre ⟨e.Index, zBallot, e.Cmd⟩) = _
      rw [← he.2, ent_last hlt]
    rw [h1, of2_chs chs (pre ++ [e]) a (by simpa using hu) (fun y hy => hb y (List.mem_cons_of_mem _ hy))]
    simp
theorem of2_recL (h : HardOk h_ il acc chs) : (recL h_ acc chs).foldl (of2 h_.Base) ([], []) = (acc, chs) := by
  unfold recL
  rw [List.foldl_append, List.foldl_append, List.foldl_append]
  have h1 : (partI h_).foldl (of2 h_.Base) ([], []) = ([], []) := by
    unfold partI; split
    · rw [List.foldl_cons, List.foldl_nil]; exact if_pos (Int.le_refl _)
    · rfl
  have h2 : (partP h_).foldl (of2 h_.Base) ([], []) = ([], []) := by
    unfold partP; split
    · rw [List.foldl_cons, List.foldl_nil]; exact if_pos h.base.1
    · rfl
  rw [h1, h2, of2_acc acc [] [] (by simpa using ents_up h.acc0) (fun e he => (h.acc1 e he).1), of2_chs chs [] _ (by simpa using ents_up h.chs0) (fun e he => h.chs1 e he)]
  simp
theorem of1_acc {g : ApiHard} : ∀ (acc : List ApiEntry), (∀ e ∈ acc, ¬ BLess g.Promised e.Ballot) → (acc.map recAcc).foldl of1 g = g
  | [], _ => rfl
  | e :: acc, h => by
    rw [List.map_cons, List.foldl_cons]
    have h0 : of0 g (recAcc e) = g := if_neg fun k => h e (List.mem_cons_self ..) k.2
    have h1 : of1 g (recAcc e) = g := by unfold of1; rw [h0]; exact if_neg fun k => absurd k.1 (by show ¬ (2 : Int) = 4; decide)
    rw [h1, of1_acc acc fun y hy => h y (List.mem_cons_of_mem _ hy)]
theorem of1_chs {g : ApiHard} : ∀ (chs : List ApiEntry), (chs.map recC).foldl of1 g = g
  | [] => rfl
  | e :: chs => by
    rw [List.map_cons, List.foldl_cons]
    have h0 : of0 g (recC e) = g := if_neg fun k => absurd k.1 (by show ¬ ((3 : Int) = 1 ∨ (3 : Int) = 2); decide)
    have h1 : of1 g (recC e) = g := by unfold of1; rw [h0]; exact if_neg fun k => absurd k.1 (by show ¬ (3 : Int) = 4; decide)
    rw [h1, of1_chs chs]
def hardL (h_ : ApiHard) : ApiHard := ⟨h_.Promised, h_.Base, if 0 < h_.Base then h_.Image else Sl.nil, Sl.nil, Sl.nil⟩
theorem of1_recL (h : HardOk h_ il acc chs) : (recL h_ acc chs).foldl of1 noHard = hardL h_ := by
  unfold recL
  rw [List.foldl_append, List.foldl_append, List.foldl_append]
  have h1 : (partI h_).foldl of1 noHard = ⟨zBallot, h_.Base, if 0 < h_.Base then h_.Image else Sl.nil, Sl.nil, Sl.nil⟩ := by
    unfold partI; split
    · rename_i hb
      rw [List.foldl_cons, List.foldl_nil]
      have h0 : of0 noHard (recI h_) = noHard := if_neg fun k => absurd k.1 (by show ¬ ((4 : Int) = 1 ∨ (4 : Int) = 2); decide)
      unfold of1; rw [h0]; exact if_pos ⟨rfl, hb⟩
    · rename_i hb
      have := h.base.1
      rw [show h_.Base = 0 by omega]; rfl
  have h2 : (partP h_).foldl of1 ⟨zBallot, h_.Base, if 0 < h_.Base then h_.Image else Sl.nil, Sl.nil, Sl.nil⟩ = hardL h_ := by
    unfold partP
    by_cases hr : 0 < h_.Promised.Round
    · rw [if_pos hr, List.foldl_cons, List.foldl_nil]
      have h0 : of0 ⟨zBallot, h_.Base, if 0 < h_.Base then h_.Image else Sl.nil, Sl.nil, Sl.nil⟩ (recP h_) = hardL h_ := if_pos ⟨.inl rfl, .inl hr⟩
      unfold of1; rw [h0]; exact if_neg fun k => absurd k.1 (by show ¬ (1 : Int) = 4; decide)
    · have := h.prom.num
      rw [if_neg hr, List.foldl_nil]
      unfold hardL
      rw [← (may_round h.prom).1 (by omega)]
  rw [h1, h2, of1_acc (g := hardL h_) acc (fun e he => (h.acc1 e he).2.2), of1_chs]
theorem recL_ok (h : HardOk h_ h_.Image.len acc chs) : ∀ x ∈ recL h_ acc chs, RecOk x := fun x hx => by
  unfold recL at hx
  rcases List.mem_append.1 hx with hx | hx
  rotate_left
  · obtain ⟨e, he, rfl⟩ := List.mem_map.1 hx
    have := entsE_ok h.chs0 e he
    exact .inr (.inr (.inl ⟨rfl, rfl, this.1.1, this.2, rfl⟩))
  rcases List.mem_append.1 hx with hx | hx
  rotate_left
  · obtain ⟨e, he, rfl⟩ := List.mem_map.1 hx
    have := entsE_ok h.acc0 e he
    exact .inr (.inl ⟨rfl, ⟨this.1.2, (h.acc1 e he).2.1⟩, this.1.1, this.2, rfl⟩)
  rcases List.mem_append.1 hx with hx | hx
  · unfold partI at hx
    split at hx
    · rename_i hb
      rw [List.mem_singleton.1 hx]
      have := h.base; have := h.img
      exact .inr (.inr (.inr ⟨rfl, rfl, ⟨by show 1 ≤ h_.Base; omega, this.1 |> fun _ => by show h_.Base ≤ 4294967296; omega⟩, rfl, by show 0 < h_.Image.len; omega, by show h_.Image.len ≤ 32768; omega⟩))
    · cases hx
  · unfold partP at hx
    split at hx
    · rename_i hr
      rw [List.mem_singleton.1 hx]
      exact .inl ⟨rfl, ⟨h.prom, fun e => by have : h_.Promised = zBallot := e; rw [this] at hr; exact absurd hr (by decide)⟩, rfl, rfl, rfl⟩
    · cases hx
/-! ### The walk -/
theorem ref31_Behind_spec {K : ApiHard → World → Prop} (hh : HardAt w h_ img acc chs) (hok : HardOk h_ img.length acc chs) (hx0 : RecOk x) (hal : acc.length ≤ 100) (hcl : chs.length ≤ 100)
    (hK : ∀ sa sc w', OwnSl eApiEntry w' w.heap.size sa ((of2 (of1 (hardL h_) x).Base) |> fun f => (recL h_ acc chs ++ [x]).foldl f ([], [])).1 → OwnSl eApiEntry w' w.heap.size sc ((of2 (of1 (hardL h_) x).Base) |> fun f => (recL h_ acc chs ++ [x]).foldl f ([], [])).2 → Ext w w' →
      K ⟨(of1 (hardL h_) x).Promised, (of1 (hardL h_) x).Base, (of1 (hardL h_) x).Image, sa, sc⟩ w') : ref31_Behind h_ x K w := by
  unfold ref31_Behind
  have hacl := hh.ac.len
  have hchl := hh.ch.len
  have hil := hh.im.len
  refine new_x (Ext.rfl' w) fun b1 w2 hb1 hl1 hx n1 => new_x hx fun b3 w4 hb3 hl3 hx n3 => new_x hx fun b5 w6 hb5 hl5 hx n5 => ?_
  have z4 := (Ext.new n3).size
  have z6 := (Ext.new n5).size
  have hB0 := hx.size
  have kp3 : ∀ {u u' : World} {X : Prop} {r : Option Nat}, u.grownBy u' r → (∀ b, r = some b → w6.heap.size ≤ b) → X → kp b5 u u' (kp b3 u u' (kp b1 u u' X)) := fun hg hr X =>
    kp_grown hg (fun e => by have := hr _ e.symm; omega) (kp_grown hg (fun e => by have := hr _ e.symm; omega) (kp_grown hg (fun e => by have := hr _ e.symm; omega) X))
  refine lit_ty 136 (E := eApiRecord) (n := 0) (xs := []) w6.heap.size (by kernel_rfl) rfl (by decide) (fun w => by kernel_rfl) (Nat.le_refl _) fun l7 w8 _ h7 hx8 => kp3 (grown_ext hx8 none) (fun b e => by cases e) ?_
  have hx := hx.trans' hx8
  have hz := hx8.size
  have iL : (partI h_).length ≤ 1 := by unfold partI; split <;> simp
  have pL : (partP h_).length ≤ 1 := by unfold partP; split <;> simp
  refine ⟨fun o u => OwnSl eApiRecord u w6.heap.size o (partI h_) ∧ Ext w u ∧ w6.heap.size ≤ u.heap.size, ifD (fun hb => ?_) (fun hb => ⟨by unfold partI; rw [if_neg hb]; exact h7, hx, hz⟩), ?_⟩
  · refine lit1_ty (E := eApiRecord) 136 (x := recI h_) w6.heap.size (by kernel_rfl) (by decide) (fun w => by kernel_rfl) hz fun t10 w11 _ h10 hx11 => kp3 (grown_ext hx11 none) (fun b e => by cases e) ?_
    refine app_ty 136 (by kernel_rfl) (by kernel_rfl) (h7.ext hx11) h10.is (by simp) (Nat.le_trans hz hx11.size) (by decide) fun l12 w13 h12 hg => kp3 hg (fun b e => h7.ge b e) ?_
    exact ⟨by unfold partI; rw [if_pos hb]; exact h12, Ext.own (hx.trans' hx11) (h7.ext hx11) hB0 hg, by have := hx11.size; have := hg.size; omega⟩
  rintro l14 w15 ⟨h14, hx, hz⟩
  refine ⟨fun o u => OwnSl eApiRecord u w6.heap.size o (partI h_ ++ partP h_) ∧ Ext w u ∧ w6.heap.size ≤ u.heap.size, ifD (fun hb => ?_) (fun hb => ⟨by unfold partP; rw [if_neg hb, List.append_nil]; exact h14, hx, hz⟩), ?_⟩
  · refine lit1_ty (E := eApiRecord) 136 (x := recP h_) w6.heap.size (by kernel_rfl) (by decide) (fun w => by kernel_rfl) hz fun t10 w11 _ h10 hx11 => kp3 (grown_ext hx11 none) (fun b e => by cases e) ?_
    refine app_ty 136 (by kernel_rfl) (by kernel_rfl) (h14.ext hx11) h10.is (by simp only [List.length_singleton]; omega) (Nat.le_trans hz hx11.size) (by decide) fun l12 w13 h12 hg => kp3 hg (fun b e => h14.ge b e) ?_
    exact ⟨by unfold partP; rw [if_pos hb]; exact h12, Ext.own (hx.trans' hx11) (h14.ext hx11) hB0 hg, by have := hx11.size; have := hg.size; omega⟩
  rintro l21 w22 ⟨h21, hx, hz⟩
  refine up2b (fun k o u => OwnSl eApiRecord u w6.heap.size o (partI h_ ++ partP h_ ++ (acc.take k).map recAcc) ∧ Ext w u ∧ w6.heap.size ≤ u.heap.size) 0 acc.length rfl (by omega) (by have := hh.ac.le; omega) ⟨by simpa using h21, hx, hz⟩ ?_
  rintro k l23 w26 C _ hk ⟨h23, hx, hz⟩ hC
  refine ifD (fun hlt => ?_) (fun hge => ?_)
  · have hk1 : k < acc.length := by omega
    refine heldM_of (fun w' => Ext w w') fun w27 hx27 => ⟨hx.trans' hx27, ?_⟩
    have hx := hx.trans' hx27
    have hz := Nat.le_trans hz hx27.size
    have h23 := h23.ext hx27
    refine partH (E := eApiEntry) (n := 2) (off := 1) (y := acc[k].Ballot) (val := ApiBallot.val) (xs := acc[k].Ballot.cs) (by kernel_rfl) (by kernel_rfl) (fun w' h => hh.ac.ext h) rfl hk1 rfl rfl (ent_bal _) fun _ => ?_
    refine fldH (E := eApiEntry) (y := acc[k].Index) (by kernel_rfl) (by kernel_rfl) (fun w' h => hh.ac.ext h) rfl hk1 rfl fun _ => ?_
    refine partH (E := eApiEntry) (n := 7) (off := 3) (y := acc[k].Cmd) (val := ApiCmd.val) (xs := acc[k].Cmd.cs) (by kernel_rfl) (by kernel_rfl) (fun w' h => hh.ac.ext h) rfl hk1 rfl rfl (ent_cmd _) fun _ => ?_
    refine lit1_ty (E := eApiRecord) 136 (x := recAcc acc[k]) w6.heap.size (by kernel_rfl) (by decide) (fun w => by kernel_rfl) hz fun t10 w11 _ h10 hx11 => kp3 (grown_ext hx11 none) (fun b e => by cases e) ⟨hx.trans' hx11, ?_⟩
    refine app_ty 136 (by kernel_rfl) (by kernel_rfl) (h23.ext hx11) h10.is (by simp only [List.length_append, List.length_singleton, List.length_map, List.length_take]; omega) (Nat.le_trans hz hx11.size) (by decide) fun l12 w13 h12 hg => kp3 hg (fun b e => h23.ge b e) ?_
    have hx13 := Ext.own (hx.trans' hx11) (h23.ext hx11) hB0 hg
    refine ⟨hx13, hC hk1 _ _ _ rfl ⟨?_, hx13, by have := hx11.size; have := hg.size; omega⟩⟩
    rw [take_up hk1, List.map_append, ← List.append_assoc]
    exact h12
  rw [take_done (by omega)] at h23
  refine up2b (fun k o u => OwnSl eApiRecord u w6.heap.size o (partI h_ ++ partP h_ ++ acc.map recAcc ++ (chs.take k).map recC) ∧ Ext w u ∧ w6.heap.size ≤ u.heap.size) 0 chs.length rfl (by omega) (by have := hh.ch.le; omega) ⟨by simpa using h23, hx, hz⟩ ?_
  rintro k l39 w42 C _ hk ⟨h39, hx, hz⟩ hC
  refine ifD (fun hlt => ?_) (fun hge => ?_)
  · have hk1 : k < chs.length := by omega
    refine heldM_of (fun w' => Ext w w') fun w27 hx27 => ⟨hx.trans' hx27, ?_⟩
    have hx := hx.trans' hx27
    have hz := Nat.le_trans hz hx27.size
    have h39 := h39.ext hx27
    refine fldH (E := eApiEntry) (y := chs[k].Index) (by kernel_rfl) (by kernel_rfl) (fun w' h => hh.ch.ext h) rfl hk1 rfl fun _ => ?_
    refine partH (E := eApiEntry) (n := 7) (off := 3) (y := chs[k].Cmd) (val := ApiCmd.val) (xs := chs[k].Cmd.cs) (by kernel_rfl) (by kernel_rfl) (fun w' h => hh.ch.ext h) rfl hk1 rfl rfl (ent_cmd _) fun _ => ?_
    refine lit1_ty (E := eApiRecord) 136 (x := recC chs[k]) w6.heap.size (by kernel_rfl) (by decide) (fun w => by kernel_rfl) hz fun t10 w11 _ h10 hx11 => kp3 (grown_ext hx11 none) (fun b e => by cases e) ⟨hx.trans' hx11, ?_⟩
    refine app_ty 136 (by kernel_rfl) (by kernel_rfl) (h39.ext hx11) h10.is (by simp only [List.length_append, List.length_singleton, List.length_map, List.length_take]; omega) (Nat.le_trans hz hx11.size) (by decide) fun l12 w13 h12 hg => kp3 hg (fun b e => h39.ge b e) ?_
    have hx13 := Ext.own (hx.trans' hx11) (h39.ext hx11) hB0 hg
    refine ⟨hx13, hC hk1 _ _ _ rfl ⟨?_, hx13, by have := hx11.size; have := hg.size; omega⟩⟩
    rw [take_up hk1, List.map_append, ← List.append_assoc]
    exact h12
  rw [take_done (by omega)] at h39
  have h39 : OwnSl eApiRecord w42 w6.heap.size l39 (recL h_ acc chs) := h39
  have lenL : (recL h_ acc chs).length ≤ 202 := by unfold recL; simp only [List.length_append, List.length_map]; omega
  refine lit1_ty (E := eApiRecord) 136 (x := x) w6.heap.size (by kernel_rfl) (by decide) (fun w => by kernel_rfl) hz fun t53 w54 _ h53 hx54 => kp3 (grown_ext hx54 none) (fun b e => by cases e) ?_
  refine app_ty 136 (by kernel_rfl) (by kernel_rfl) (h39.ext hx54) h53.is (by simp only [List.length_singleton]; omega) (Nat.le_trans hz hx54.size) (by decide) fun l55 w56 h55 hg => kp3 hg (fun b e => h39.ge b e) ?_
  have hx56 := Ext.own (hx.trans' hx54) (h39.ext hx54) hB0 hg
  have hf : (recL h_ acc chs ++ [x]).foldl of1 noHard = of1 (hardL h_) x := by rw [List.foldl_append, of1_recL hok]; rfl
  refine ref19_Of_calls (ref19_Of_spec h55.is (fun y hy => ?_) (by simp only [List.length_append, List.length_singleton]; omega) fun sa sc w58 ha hc hx58 => kp3 (grown_ext hx58 none) (fun b e => by cases e) ?_)
  · rcases List.mem_append.1 hy with hy | hy
    · exact recL_ok (by rw [hil]; exact hok) y hy
    · rw [List.mem_singleton.1 hy]; exact hx0
  rw [hf] at ha hc ⊢
  have z56 : w6.heap.size ≤ w56.heap.size := by have := hg.size; have := hx54.size; omega
  refine wr_x (hx56.trans' hx58) hb5 fun w59 hxw hw59 => hK sa sc _ ((ha.wrO hw59 (by omega)).mono hx56.size) ((hc.wrO hw59 (by omega)).mono hx56.size) hxw
end Go.Chg
