/-
  The document's hard state made of records: changeoverref12.With, changeoverref16.Check, changeoverref19.Of.
-/
import Derived.Test.YtjkknkklhnfloaaDoorTid
import Derived.Test.YtjkknkklhnfloaaDoorSpAcc4
set_option maxRecDepth 20000
set_option linter.unusedVariables false
namespace Go.Chg
open Go.Vc
open Go.RowKit (Below)
theorem cmpI_nn {x y : Int} : 0 ≤ cmpI x y ↔ y ≤ x := by
  have := @cmpI_neg x y
  omega
theorem cmpI_nz {x y : Int} : cmpI x y ≠ 0 ↔ x ≠ y := by rw [Ne, cmpI_zero]
def entWith (l : List ApiEntry) (e : ApiEntry) : List ApiEntry := insC (fun x => cmpI x.Index e.Index) l e
theorem ref12_With_spec {s : Sl} {l : List ApiEntry} {e : ApiEntry} {K : Sl → World → Prop} {w : World} (hs : IsSl eApiEntry w s l) (hu : EUp l) (hle : l.length ≤ 1000000)
    (hK : ∀ s' w', OwnSl eApiEntry w' w.heap.size s' (entWith l e) → Ext w w' → K s' w') : ref12_With s e K w := by
  unfold ref12_With
  have hl := hs.len
  refine new_of fun b1 w1 hn1 => ?_
  have hb1 : b1 = w.heap.size := hn1.1
  have hx1 := Ext.new hn1
  have hw1 := hn1.lt
  have hB : w.heap.size ≤ w1.heap.size := hx1.size
  have kpo : ∀ {w' w'' : World} {X : Prop} {out : Sl} {r : List ApiEntry}, OwnSl eApiEntry w' w1.heap.size out r → w'.grownBy w'' out.blk → X → kp b1 w' w'' X := fun ho hg x => kp_grown hg (fun e => by have := ho.ge b1 e.symm; omega) x
  refine up3c (fun k out done w' => Ext w w' ∧ w1.heap.size ≤ w'.heap.size ∧ OwnSl eApiEntry w' w1.heap.size out (withL cmpI (·.Index) (e) (l.take k)).1 ∧ done = (withL cmpI (·.Index) (e) (l.take k)).2) 0 l.length rfl (by omega) (by omega)
    ⟨hx1, Nat.le_refl _, OwnSl.nil _ _ _, rfl⟩ ?_
  rintro k out done w2 C _ hk ⟨hx, hsz, ho, hd⟩ hC
  have hlen := withL_len (cmp := cmpI) (key := (·.Index)) (s := e) (l.take k)
  rw [List.length_take] at hlen
  refine ifD (fun hlt => ?_) (fun hge => ?_)
  · have hk1 : k < l.length := by omega
    have hup := withL_up (cmp := cmpI) (key := (·.Index)) (s := e) hk1
    generalize hst : withL cmpI (·.Index) (e) (l.take k) = st at ho hd hlen hup
    subst hd
    refine ⟨fun out' done' w' => Ext w w' ∧ w1.heap.size ≤ w'.heap.size ∧ OwnSl eApiEntry w' w1.heap.size out' (putS cmpI (·.Index) (e) st l[k]).1 ∧ done' = (putS cmpI (·.Index) (e) st l[k]).2, ?_, ?_⟩
    · refine drew_of fun w3 hx3 => ?_
      have hx3' := hx.trans' hx3
      have hsz3 := Nat.le_trans hsz hx3.size
      have ho3 := ho.ext hx3
      refine ifNot (ifB_of (fun hd => ?_) (fun hd => ?_))
      · have eq : putS cmpI (·.Index) (e) st l[k] = st := by unfold putS; rw [if_neg (fun h => by rw [hd] at h; cases h.1)]
        rw [eq]
        exact ⟨hx3', hsz3, ho3, rfl⟩
      · refine fld_rd (y := l[k].Index) (by kernel_rfl) (by kernel_rfl) (hs.ext hx3') rfl hk1 rfl fun _ => ?_
        refine ifD (fun hge => ?_) (fun hlt => ?_)
        · have eq : putS cmpI (·.Index) (e) st l[k] = (st.1 ++ [e], true) := by
            unfold putS; rw [if_pos ⟨hd, cmpI_nn.2 hge⟩]
          rw [eq]
          refine lit1_ty (E := eApiEntry) (x := e) 104 w1.heap.size (by kernel_rfl) (by decide) (fun w => by kernel_rfl) hsz3 fun s1 w4 _ ho1 hx4 => kp_ext hx4 ?_
          refine app_ty 104 (by kernel_rfl) (by kernel_rfl) (ho3.ext hx4) ho1.is (by simp; omega) (Nat.le_trans hsz3 hx4.size) (by decide) fun s2 w5 ho2 hg => kpo (ho3.ext hx4) hg ?_
          exact ⟨Ext.own (hx3'.trans' hx4) (ho3.ext hx4) hB hg, Nat.le_trans hsz3 (Nat.le_trans hx4.size hg.size), ho2, rfl⟩
        · have eq : putS cmpI (·.Index) (e) st l[k] = st := by
            unfold putS; rw [if_neg (fun h => hlt (cmpI_nn.1 h.2))]
          rw [eq]
          exact ⟨hx3', hsz3, ho3, rfl⟩
    · rintro out4 done4 w4 ⟨hx4, hsz4, ho4, rfl⟩
      have hpl : (putS cmpI (·.Index) (e) st l[k]).1.length ≤ st.1.length + 1 := by unfold putS; split <;> simp
      refine drew_of fun w5 hx5 => ?_
      have hx5' := hx4.trans' hx5
      have hsz5 := Nat.le_trans hsz4 hx5.size
      have ho5 := ho4.ext hx5
      refine fld_rd (y := l[k].Index) (by kernel_rfl) (by kernel_rfl) (hs.ext hx5') rfl hk1 rfl fun _ => ?_
      refine ifNe (fun hne => ?_) (fun heq => ?_)
      · refine st_rd (val := ApiEntry.val) (by kernel_rfl) (by kernel_rfl) (hs.ext hx5') rfl hk1 (fun _ => rfl) fun _ => ?_
        refine lit1_ty (E := eApiEntry) (x := l[k]) 104 w1.heap.size (by kernel_rfl) (by decide) (fun w => by kernel_rfl) hsz5 fun s1 w6 _ ho1 hx6 => kp_ext hx6 ?_
        refine app_ty 104 (by kernel_rfl) (by kernel_rfl) (ho5.ext hx6) ho1.is (by simp; omega) (Nat.le_trans hsz5 hx6.size) (by decide) fun s2 w7 ho2 hg => kpo (ho5.ext hx6) hg ?_
        have hne' : cmpI l[k].Index (e).Index ≠ 0 := cmpI_nz.2 hne
        refine hC hk1 _ _ _ _ rfl ⟨Ext.own (hx5'.trans' hx6) (ho5.ext hx6) hB hg, Nat.le_trans hsz5 (Nat.le_trans hx6.size hg.size), ?_, ?_⟩
        · rw [hup]; unfold withS; rw [if_pos hne']; exact ho2
        · rw [hup]; rfl
      · have he' : ¬ cmpI l[k].Index (e).Index ≠ 0 := fun h => cmpI_nz.1 h heq
        refine hC hk1 _ _ _ _ rfl ⟨hx5', hsz5, ?_, ?_⟩
        · rw [hup]; unfold withS; rw [if_neg he']; exact ho5
        · rw [hup]; rfl
  · have hfin := with_ins ordI hu (e)
    rw [take_done (by omega)] at ho hd
    have hlen2 := withL_len (cmp := cmpI) (key := (·.Index)) (s := e) l
    refine ifNot (ifB_of (fun h => ?_) (fun h => ?_))
    · rw [← hd, h, if_neg (by simp)] at hfin
      refine hK _ _ ?_ hx
      unfold entWith
      rw [hfin] at ho
      exact ho.mono hB
    · rw [← hd, h, if_pos rfl] at hfin
      refine lit1_ty (E := eApiEntry) (x := e) 104 w1.heap.size (by kernel_rfl) (by decide) (fun w => by kernel_rfl) hsz fun s1 w4 _ ho1 hx4 => kp_ext hx4 ?_
      refine app_ty 104 (by kernel_rfl) (by kernel_rfl) (ho.ext hx4) ho1.is (by simp; omega) (Nat.le_trans hsz hx4.size) (by decide) fun s2 w5 ho2 hg => kpo (ho.ext hx4) hg ?_
      refine hK _ _ ?_ (Ext.own (hx.trans' hx4) (ho.ext hx4) hB hg)
      unfold entWith
      rw [hfin] at ho2
      exact ho2.mono hB

/-! ### Records that may be -/
def RecOk (x : ApiRecord) : Prop :=
  (x.Kind = 1 ∧ (BMay x.Ballot ∧ x.Ballot ≠ zBallot) ∧ x.Index = 0 ∧ x.Cmd = noCmd ∧ x.Image.len = 0) ∨
  (x.Kind = 2 ∧ (BMay x.Ballot ∧ x.Ballot ≠ zBallot) ∧ (1 ≤ x.Index ∧ x.Index ≤ 4294967296) ∧ CmdOk x.Cmd ∧ x.Image.len = 0) ∨
  (x.Kind = 3 ∧ x.Ballot = zBallot ∧ (1 ≤ x.Index ∧ x.Index ≤ 4294967296) ∧ CmdOk x.Cmd ∧ x.Image.len = 0) ∨
  (x.Kind = 4 ∧ x.Ballot = zBallot ∧ (1 ≤ x.Index ∧ x.Index ≤ 4294967296) ∧ x.Cmd = noCmd ∧ 0 < x.Image.len ∧ x.Image.len ≤ 32768)
theorem ref16_HasBallot_spec {k : Int} {w : World} {K : Bool → World → Prop} (hK : K (decide (k = 1 ∨ k = 2)) w) : ref16_HasBallot k K w := by
  unfold ref16_HasBallot
  refine ifEq (fun h => ?_) (fun h => ?_)
  · rw [decide_eq_true (.inl h)] at hK; exact hK
  · rw [show decide (k = 1 ∨ k = 2) = (k == 2) from by rw [Bool.eq_iff_iff, decide_eq_true_iff, beq_iff_eq]; omega] at hK; exact hK
theorem ref16_HasCmd_spec {k : Int} {w : World} {K : Bool → World → Prop} (hK : K (decide (k = 2 ∨ k = 3)) w) : ref16_HasCmd k K w := by
  unfold ref16_HasCmd
  refine ifEq (fun h => ?_) (fun h => ?_)
  · rw [decide_eq_true (.inl h)] at hK; exact hK
  · rw [show decide (k = 2 ∨ k = 3) = (k == 3) from by rw [Bool.eq_iff_iff, decide_eq_true_iff, beq_iff_eq]; omega] at hK; exact hK
theorem ref16_HasIndex_spec {k : Int} {w : World} {K : Bool → World → Prop} (hK : K (decide (k = 2 ∨ k = 3 ∨ k = 4)) w) : ref16_HasIndex k K w := by
  unfold ref16_HasIndex
  refine ifEq (fun h => ?_) (fun h => ?_)
  · rw [decide_eq_true (.inl h)] at hK; exact hK
  refine ifEq (fun h' => ?_) (fun h' => ?_)
  · rw [decide_eq_true (.inr (.inl h'))] at hK; exact hK
  · rw [show decide (k = 2 ∨ k = 3 ∨ k = 4) = (k == 4) from by rw [Bool.eq_iff_iff, decide_eq_true_iff, beq_iff_eq]; omega] at hK; exact hK
theorem ref16_Check_ok {x : ApiRecord} {w : World} {K : Int → World → Prop} (h : RecOk x) (hK : ∀ w', Ext w w' → K 0 w') : ref16_Check x K w := by
  have hk : x.Kind = 1 ∨ x.Kind = 2 ∨ x.Kind = 3 ∨ x.Kind = 4 := by rcases h with ⟨h1, _⟩ | ⟨h1, _⟩ | ⟨h1, _⟩ | ⟨h1, _⟩ <;> omega
  have bal : (x.Kind = 1 ∨ x.Kind = 2) → BMay x.Ballot ∧ x.Ballot ≠ zBallot := fun hb => by
    rcases h with ⟨h1, h2, _⟩ | ⟨h1, h2, _⟩ | ⟨h1, h2, _⟩ | ⟨h1, h2, _⟩ <;> first | exact h2 | omega
  have nbal : ¬ (x.Kind = 1 ∨ x.Kind = 2) → x.Ballot = zBallot := fun hb => by
    rcases h with ⟨h1, h2, _⟩ | ⟨h1, h2, _⟩ | ⟨h1, h2, _⟩ | ⟨h1, h2, _⟩ <;> first | exact h2 | omega
  have idx : (x.Kind = 2 ∨ x.Kind = 3 ∨ x.Kind = 4) → 1 ≤ x.Index ∧ x.Index ≤ 4294967296 := fun hb => by
    rcases h with ⟨h1, _, h3, _⟩ | ⟨h1, _, h3, _⟩ | ⟨h1, _, h3, _⟩ | ⟨h1, _, h3, _⟩ <;> first | exact h3 | omega
  have nidx : ¬ (x.Kind = 2 ∨ x.Kind = 3 ∨ x.Kind = 4) → x.Index = 0 := fun hb => by
    rcases h with ⟨h1, _, h3, _⟩ | ⟨h1, _, h3, _⟩ | ⟨h1, _, h3, _⟩ | ⟨h1, _, h3, _⟩ <;> first | exact h3 | omega
  have cmd : (x.Kind = 2 ∨ x.Kind = 3) → CmdOk x.Cmd := fun hb => by
    rcases h with ⟨h1, _, _, h4, _⟩ | ⟨h1, _, _, h4, _⟩ | ⟨h1, _, _, h4, _⟩ | ⟨h1, _, _, h4, _⟩ <;> first | exact h4 | omega
  have ncmd : ¬ (x.Kind = 2 ∨ x.Kind = 3) → x.Cmd = noCmd := fun hb => by
    rcases h with ⟨h1, _, _, h4, _⟩ | ⟨h1, _, _, h4, _⟩ | ⟨h1, _, _, h4, _⟩ | ⟨h1, _, _, h4, _⟩ <;> first | exact h4 | omega
  have img : (x.Kind = 4 ↔ 0 < x.Image.len) ∧ x.Image.len ≤ 32768 := by
    rcases h with h | h | h | h
    · have := h.1; have := h.2.2.2.2; omega
    · have := h.1; have := h.2.2.2.2; omega
    · have := h.1; have := h.2.2.2.2; omega
    · have := h.1; have := h.2.2.2.2; omega
  unfold ref16_Check
  refine new_x (Ext.rfl' w) fun b1 w2 _ _ hx _ => ?_
  refine ifD (fun h => by omega) (fun _ => ifD (fun h => by omega) (fun _ => ?_))
  refine ⟨fun u => Ext w u, ?_, ?_⟩
  · refine ref16_HasBallot_calls (ref16_HasBallot_spec (kp_same ?_))
    refine ifB_of (fun hb => ?_) (fun hb => ?_)
    · have hb := bal (of_decide_eq_true hb)
      refine ifEq (fun h0 => absurd ((may_round hb.1).1 h0) hb.2) (fun _ => ?_)
      refine ref10_May_calls (b := x.Ballot) (ref10_May_spec fun t w7 ht hx' => kp_ext hx' ?_)
      have hx := hx.trans' hx'
      refine ifNot (ifB_of (fun _ => ?_) (fun h => by rw [ht.2 hb.1] at h; cases h))
      refine ref16_HasIndex_calls (ref16_HasIndex_spec (kp_same ?_))
      exact ifB_of (fun hi => ifD (fun h => by have := idx (of_decide_eq_true hi); omega) (fun _ => ifD (fun h => by have := idx (of_decide_eq_true hi); omega) (fun _ => hx))) (fun _ => hx)
    · refine ref16_HasIndex_calls (ref16_HasIndex_spec (kp_same ?_))
      exact ifB_of (fun hi => ifD (fun h => by have := idx (of_decide_eq_true hi); omega) (fun _ => ifD (fun h => by have := idx (of_decide_eq_true hi); omega) (fun _ => hx))) (fun _ => hx)
  rintro w12 hx
  refine ⟨fun u => Ext w u, ifEq (fun _ => ifD (fun h => by omega) (fun _ => hx)) (fun _ => hx), ?_⟩
  rintro w14 hx
  refine ⟨fun u => Ext w u, ?_, ?_⟩
  · refine ref16_HasCmd_calls (ref16_HasCmd_spec (kp_same ?_))
    refine ifB_of (fun hc => ?_) (fun _ => hx)
    refine ref08_Check_calls (c := x.Cmd) (ref08_Check_spec fun e w19 he hx' => kp_ext hx' ?_)
    exact ifNe (fun h0 => absurd (by rw [he.eq]; exact cmdE_ok.2 (cmd (of_decide_eq_true hc))) h0) (fun _ => hx.trans' hx')
  rintro w20 hx
  have fin : ifB (!((x.Kind == 4) == (decide ((x.Image.len : Int) > 0)))) (K 3 w20) (K 0 w20) := by
    refine ifNot (ifB_of (fun _ => hK _ hx) (fun h => ?_))
    rw [show (x.Kind == 4) = decide ((x.Image.len : Int) > 0) from by rw [Bool.eq_iff_iff, beq_iff_eq, decide_eq_true_iff]; omega, beq_self_eq_true] at h
    cases h
  refine ref16_HasBallot_calls (ref16_HasBallot_spec (kp_same ?_))
  have tail : callV Pr Value.bool fid_ref16_HasIndex #[(.int .i64 x.Kind)] w20 fun t31 w32 => kp b1 w20 w32 <| ifB (!t31) (ifB (x.Index != 0) (K 3 w32) (callV Pr Value.bool fid_ref16_HasCmd #[(.int .i64 x.Kind)] w32 fun t33 w34 => kp b1 w32 w34 <| ifB (!t33)
      (opRd Pr (binSem .neq tid_ApiCmd (.tmp 88) (.tmp 89) (.agg ⟨x.Cmd.cs⟩) (.agg ⟨noCmd.cs⟩)) Value.bool (fun t35 => ifB t35 (K 3 w34) (ifB (!((x.Kind == 4) == (decide ((x.Image.len : Int) > 0)))) (K 3 w34) (K 0 w34))) w34) (ifB (!((x.Kind == 4) == (decide ((x.Image.len : Int) > 0)))) (K 3 w34) (K 0 w34))))
      (callV Pr Value.bool fid_ref16_HasCmd #[(.int .i64 x.Kind)] w32 fun t36 w37 => kp b1 w32 w37 <| ifB (!t36)
      (opRd Pr (binSem .neq tid_ApiCmd (.tmp 88) (.tmp 89) (.agg ⟨x.Cmd.cs⟩) (.agg ⟨noCmd.cs⟩)) Value.bool (fun t38 => ifB t38 (K 3 w37) (ifB (!((x.Kind == 4) == (decide ((x.Image.len : Int) > 0)))) (K 3 w37) (K 0 w37))) w37) (ifB (!((x.Kind == 4) == (decide ((x.Image.len : Int) > 0)))) (K 3 w37) (K 0 w37))) := by
    have nocmd : ¬ (x.Kind = 2 ∨ x.Kind = 3) → opRd Pr (binSem .neq tid_ApiCmd (.tmp 88) (.tmp 89) (.agg ⟨x.Cmd.cs⟩) (.agg ⟨noCmd.cs⟩)) Value.bool (fun t35 => ifB t35 (K 3 w20) (ifB (!((x.Kind == 4) == (decide ((x.Image.len : Int) > 0)))) (K 3 w20) (K 0 w20))) w20 := fun hn =>
      neSt (by kernel_rfl) (ApiCmd.eqv x.Cmd noCmd) (ifNot (ifB_of (fun _ => fin) (fun h => by rw [ApiCmd.eqs_iff.2 (ncmd hn)] at h; cases h)))
    refine ref16_HasIndex_calls (ref16_HasIndex_spec (kp_same ?_))
    refine ifNot (ifB_of (fun _ => ?_) (fun hi => ifNe (fun h0 => absurd (nidx (of_decide_eq_false hi)) h0) (fun _ => ?_)))
    · exact ref16_HasCmd_calls (ref16_HasCmd_spec (kp_same (ifNot (ifB_of (fun _ => fin) (fun hc => nocmd (of_decide_eq_false hc))))))
    · exact ref16_HasCmd_calls (ref16_HasCmd_spec (kp_same (ifNot (ifB_of (fun _ => fin) (fun hc => nocmd (of_decide_eq_false hc))))))
  refine ifNot (ifB_of (fun _ => tail) (fun hb => ?_))
  have hz := nbal (of_decide_eq_false hb)
  refine ifNe (fun h0 => absurd (by rw [hz]; rfl) h0) (fun _ => ifNe (fun h0 => absurd (by rw [hz]; rfl) h0) (fun _ => tail))
end Go.Chg
