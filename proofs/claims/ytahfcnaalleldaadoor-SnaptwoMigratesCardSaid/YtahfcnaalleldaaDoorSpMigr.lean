/-
  What package 'migr' and 'changeoverref25' do with states; the laws of chapter 25.
-/
import Derived.Test.YtahfcnaalleldaaDoorEase
import Derived.Test.YtahfcnaalleldaaDoorMC
import Derived.Test.YtahfcnaalleldaaDoorMC
set_option maxRecDepth 20000
set_option linter.unusedVariables false
namespace Go.Chg
open Go.Vc

structure StAt (w : World) (x : ApiState) (p : List ApiPair) (q : List ApiSession) : Prop where
  ps : IsSl eApiPair w x.Pairs p
  ss : IsSl eApiSession w x.Sessions q
theorem StAt.ext {w w' : World} {x : ApiState} {p : List ApiPair} {q : List ApiSession} (h : StAt w x p q) (hx : Ext w w') : StAt w' x p q := ⟨h.ps.ext hx, h.ss.ext hx⟩
def zState : ApiState := ⟨0, Sl.nil, Sl.nil⟩
theorem StAt.zero (w : World) : StAt w zState [] [] := ⟨.nilSl _ _, .nilSl _ _⟩
def StateOk (sch : Int) (p : List ApiPair) (q : List ApiSession) : Prop := (sch = 1 ∨ sch = 2) ∧ PairsOk sch p ∧ SessOk q ∧ (sch = 1 → ∀ x ∈ q, x.Last.Rev = 0)

variable {x y : ApiState} {p p' : List ApiPair} {q q' : List ApiSession} {w : World}
theorem ref25_Large_spec {K : Bool → World → Prop} (h : StAt w x p q) (hK : ∀ b w', (b = false → PairSmall p ∧ SessSmall q) → Ext w w' → K b w') : ref25_Large x K w := by
  unfold ref25_Large
  refine new_x (Ext.rfl' w) fun b1 w2 _ _ hx _ => ?_
  refine ref22_Large_calls (ref22_Large_spec (h.ss.ext hx) fun b hb => kp_same ?_)
  refine ifB_of (fun _ => hK _ _ (fun h => by cases h) hx) (fun h1 => ?_)
  exact ref23_Large_calls (ref23_Large_spec (h.ps.ext hx) fun b2 hb2 => kp_same (hK _ _ (fun h2 => ⟨hb2 h2, hb h1⟩) hx))
theorem ref25_Check_spec {K : Bool → World → Prop} (h : StAt w x p q) (hK : ∀ b w', (b = true ↔ StateOk x.Schema p q) → Ext w w' → K b w') : ref25_Check x K w := by
  unfold ref25_Check
  refine new_x (Ext.rfl' w) fun b1 w2 _ _ hx _ => ?_
  refine ifD (fun h1 => hK _ _ ⟨fun h => (by cases h), fun h => by have := h.1; omega⟩ hx) (fun h1 => ?_)
  refine ifD (fun h2 => hK _ _ ⟨fun h => (by cases h), fun h => by have := h.1; omega⟩ hx) (fun h2 => ?_)
  refine ref23_Check_calls (ref23_Check_spec (h.ps.ext hx) fun b3 w4 hb3 hx' => kp_ext hx' ?_)
  have hx := hx.trans' hx'
  refine ifNot (ifB_of (fun h3 => ?_) (fun h3 => hK _ _ ⟨fun h => (by cases h), fun h => by rw [hb3.2 h.2.1] at h3; cases h3⟩ hx))
  refine ref22_Check_calls (ref22_Check_spec (h.ss.ext hx) fun b5 w6 hb5 hx' => kp_ext hx' ?_)
  have hx := hx.trans' hx'
  refine ifNot (ifB_of (fun h5 => ?_) (fun h5 => hK _ _ ⟨fun h => (by cases h), fun h => by rw [hb5.2 h.2.2.1] at h5; cases h5⟩ hx))
  have hl := h.ss.len
  have hle := h.ss.le
  refine up1 (fun k w' => w6 = w' ∧ (x.Schema = 1 → ∀ y ∈ q.take k, y.Last.Rev = 0)) 0 q.length rfl (by omega) hle ⟨rfl, by simp⟩ ?_
  rintro k _ C _ hk ⟨rfl, hall⟩ hC
  refine ifD (fun hlt => ?_) (fun hge => hK _ _ ⟨fun _ => ⟨by omega, hb3.1 h3, hb5.1 h5, fun h1 => all_done (by omega) (hall h1)⟩, fun _ => rfl⟩ hx)
  have hk1 : k < q.length := by omega
  refine ifEq (fun hs => ?_) (fun hs => hC hk1 _ _ rfl ⟨rfl, fun h1 => absurd h1 hs⟩)
  refine fld2_rd (y := q[k].Last.Rev) (by kernel_rfl) (by kernel_rfl) (h.ss.ext hx) rfl hk1 rfl fun _ => ?_
  exact ifNe (fun hne => hK _ _ ⟨fun h => (by cases h), fun h => absurd (h.2.2.2 hs _ (List.getElem_mem hk1)) hne⟩ hx) (fun he => hC hk1 _ _ rfl ⟨rfl, fun h1 => all_up hk1 (hall h1) he⟩)
theorem ref25_Same_spec {K : Bool → World → Prop} (h : StAt w x p q) (h' : StAt w y p' q') (hK : ∀ b w', (b = true ↔ x.Schema = y.Schema ∧ p = p' ∧ q = q') → Ext w w' → K b w') : ref25_Same x y K w := by
  unfold ref25_Same
  refine new_x (Ext.rfl' w) fun b1 w2 _ _ hx _ => new_x hx fun b3 w4 _ _ hx _ => ?_
  refine ifEq (fun h1 => ?_) (fun h1 => hK _ _ ⟨fun h => (by cases h), fun h => absurd h.1 h1⟩ hx)
  refine ref23_Same_calls (ref23_Same_spec (h.ps.ext hx) (h'.ps.ext hx) fun b5 w6 hb5 hx' => kp_ext hx' (kp_ext hx' ?_))
  have hx := hx.trans' hx'
  refine ifB_of (fun h5 => ?_) (fun h5 => hK _ _ ⟨fun h => (by cases h), fun h => by rw [hb5.2 h.2.1] at h5; cases h5⟩ hx)
  refine ref22_Same_calls (ref22_Same_spec (h.ss.ext hx) (h'.ss.ext hx) fun b7 w8 hb7 hx' => kp_ext hx' (kp_ext hx' ?_))
  exact hK _ _ ⟨fun h => ⟨h1, hb5.1 h5, hb7.1 h⟩, fun h => hb7.2 h.2.2⟩ (hx.trans' hx')
theorem migr_Check_1_spec {s : ApiSession} {K : Bool → World → Prop} (hK : ∀ w', Ext w w' → K (s.Last.Rev != 0) w') : migr_Check_1 s K w := by
  unfold migr_Check_1
  exact new_x (Ext.rfl' w) fun b1 w2 _ _ hx _ => hK _ hx
theorem index_last_spec {s : Sl} {l : List ApiSession} {K : Int → World → Prop} (hs : IsSl eApiSession w s l) (hK : ∀ i w', (decide (i ≥ 0) = true ↔ ∃ x ∈ l, x.Last.Rev ≠ 0) → Ext w w' → K i w') : slices_IndexFunc_api_Session_api_Session_Check s K w := by
  unfold slices_IndexFunc_api_Session_api_Session_Check
  have hl := hs.len
  have hle := hs.le
  refine up1 (fun k w' => Ext w w' ∧ ∀ x ∈ l.take k, x.Last.Rev = 0) 0 l.length rfl (by omega) hle ⟨Ext.rfl' _, by simp⟩ ?_
  rintro k w1 C _ hk ⟨hx1, hall⟩ hC
  refine ifD (fun hlt => ?_) (fun hge => hK _ _ ⟨fun h => absurd h (by decide), fun ⟨x, hx, hb⟩ => absurd (all_done (by omega) hall x hx) hb⟩ hx1)
  have hk1 : k < l.length := by omega
  refine st_rd (val := ApiSession.val) (by kernel_rfl) (by kernel_rfl) (hs.ext hx1) rfl hk1 (fun _ => rfl) fun _ => ?_
  refine migr_Check_1_calls (x := l[k]) (migr_Check_1_spec fun w2 hx2 => ?_)
  refine ifNe (fun hb => hK _ _ ⟨fun _ => ⟨l[k], List.getElem_mem hk1, hb⟩, fun _ => by simp⟩ (hx1.trans' hx2)) (fun hb => hC hk1 _ _ rfl ⟨hx1.trans' hx2, all_up hk1 hall hb⟩)
theorem migr_Check_spec {K : Int → World → Prop} (ht : Utf8T w) (h : StAt w x p q) (hle : p.length ≤ 100000) (hK : ∀ b w', (b = 0 ∧ StateOk x.Schema p q ∨ b = 3 ∧ ¬ StateOk x.Schema p q) → Ext w w' → K b w') : migr_Check x K w := by
  unfold migr_Check
  refine new_x (Ext.rfl' w) fun b1 w2 _ _ hx _ => ?_
  refine sess_Check_calls (sess_Check_spec (ht.ext hx) (h.ss.ext hx) fun e w4 he hx' => kp_ext hx' ?_)
  have hx := hx.trans' hx'
  rcases he with ⟨rfl, he⟩ | ⟨rfl, he⟩
  rotate_left
  · exact ifNe (fun _ => hK _ _ (.inr ⟨rfl, fun h => he h.2.2.1⟩) hx) (fun h => absurd h (by decide))
  refine ifNe (fun h => absurd rfl h) (fun _ => ?_)
  refine ifEq (fun h1 => ?_) (fun h1 => ?_)
  · refine slices_ContainsFunc_api_Session_api_Session_calls ?_
    unfold slices_ContainsFunc_api_Session_api_Session
    refine slices_IndexFunc_api_Session_api_Session_Check_calls (index_last_spec (h.ss.ext hx) fun i w6 hi hx' => kp_ext hx' ?_)
    have hx := hx.trans' hx'
    refine ifB_of (fun hb => hK _ _ (.inr ⟨rfl, fun h => ?_⟩) hx) (fun hb => ?_)
    · obtain ⟨y, hy, hne⟩ := hi.1 hb
      exact hne (h.2.2.2 h1 y hy)
    · refine kvone_Check_calls (kvone_Check_spec (ht.ext hx) (h.ps.ext hx) fun b w8 hb8 hx' => kp_ext hx' (hK _ _ ?_ (hx.trans' hx')))
      rw [h1]
      rcases hb8 with ⟨rfl, h8⟩ | ⟨rfl, h8⟩
      · refine .inl ⟨rfl, .inl rfl, h8, he, fun _ y hy => Classical.byContradiction fun hne => ?_⟩
        rw [hi.2 ⟨y, hy, hne⟩] at hb
        cases hb
      · exact .inr ⟨rfl, fun h => h8 h.2.1⟩
  · refine ifEq (fun h2 => ?_) (fun h2 => hK _ _ (.inr ⟨rfl, fun h => by have := h.1; omega⟩) hx)
    refine kvtwo_Check_calls (kvtwo_Check_spec (ht.ext hx) (h.ps.ext hx) hle fun b w8 hb8 hx' => kp_ext hx' (hK _ _ ?_ (hx.trans' hx')))
    rw [h2]
    rcases hb8 with ⟨rfl, h8⟩ | ⟨rfl, h8⟩
    · exact .inl ⟨rfl, .inr rfl, h8, he, fun h => absurd h (by decide)⟩
    · exact .inr ⟨rfl, fun h => h8 h.2.1⟩
/-- A state of the call's own. -/
structure StOwn (w : World) (B : Nat) (x : ApiState) (p : List ApiPair) (q : List ApiSession) : Prop where
  ps : OwnSl eApiPair w B x.Pairs p
  ss : OwnSl eApiSession w B x.Sessions q
theorem StOwn.at {B : Nat} (h : StOwn w B x p q) : StAt w x p q := ⟨h.ps.is, h.ss.is⟩
theorem migr_Clone_spec {K : ApiState → World → Prop} (h : StAt w x p q) (hp : p.length ≤ 100000) (hq : q.length ≤ 100000)
    (hK : ∀ a b w', OwnSl eApiPair w' w.heap.size a p → OwnSl eApiSession w' w.heap.size b q → (∀ c, a.blk = some c → ∀ d, b.blk = some d → c < d) → Ext w w' → K ⟨x.Schema, a, b⟩ w') : migr_Clone x K w := by
  unfold migr_Clone
  have hpl := h.ps.len
  have hql := h.ss.len
  refine new_x (Ext.rfl' w) fun b1 w2 hb1 hl1 hx _ => new_x hx fun b3 w4 hb3 hl3 hx hn24 => ?_
  have hz := (Ext.new hn24).size
  refine make_ty (E := eApiPair) (zv := .agg ⟨[sval [], sval [], .int .i64 0]⟩) 40 ⟨[], [], 0⟩ (n := p.length) (B := w4.heap.size) (by kernel_rfl) (by kernel_rfl) rfl (by omega) (by omega) (by decide) (Nat.le_refl _) fun a w6 ha ho hx' => kp_ext hx' (kp_ext hx' ?_)
  have hx := hx.trans' hx'
  refine copy_own (by kernel_rfl) ho (h.ps.ext hx) (by simp) fun w8 ho8 hg8 => kp_O ho (by omega) hg8 (kp_O ho (by omega) hg8 ?_)
  have hz4 : w.heap.size ≤ w4.heap.size := by omega
  have hx := Ext.own hx ho hz4 hg8
  have z8 : w4.heap.size ≤ w8.heap.size := Nat.le_trans hx'.size hg8.size
  refine make_ty (E := eApiSession) (zv := .agg ⟨[.int .i64 0, .int .i64 0, .int .i64 0, .int .i64 0, .int .i64 0, .bool false, sval [], .int .i64 0]⟩) 72 ⟨0, 0, ⟨0, 0, 0, false, [], 0⟩⟩ (n := q.length) (B := w8.heap.size) (by kernel_rfl) (by kernel_rfl) rfl (by omega) (by omega) (by decide) (Nat.le_refl _) fun b w10 hb ho10 hx'' => kp_ext hx'' (kp_ext hx'' ?_)
  have hx := hx.trans' hx''
  refine copy_own (by kernel_rfl) ho10 (h.ss.ext hx) (by simp) fun w12 ho12 hg12 => kp_O ho10 (by omega) hg12 (kp_O ho10 (by omega) hg12 ?_)
  have hlt8 := ho8.lt
  have ho8' := (ho8.ext hx'').apart ho10 hg12 hlt8
  have hx := Ext.own hx ho10 (by omega) hg12
  have hge12 := ho12.ge
  refine wr_x hx hb3 fun w13 hx hw => hK _ _ _ ((ho8'.wrO hw hl3).mono hz4) ((ho12.wrO hw (by omega)).mono (by omega)) (fun c hc d hd => ?_) hx
  have := hlt8 c hc
  have := hge12 d hd
  omega
def first (p : ApiPair) : ApiPair := ⟨p.Key, p.Val, 1⟩
theorem migr_Up_spec {K : ApiState × Int → World → Prop} (ht : Utf8T w) (h : StAt w x p q) (hp : p.length ≤ 100000) (hq : q.length ≤ 100000)
    (h3 : ¬ StateOk x.Schema p q → ∀ w', Ext w w' → K (zState, 3) w') (h12 : StateOk 2 p q → x.Schema = 2 → ∀ w', Ext w w' → K (zState, 12) w')
    (hK : StateOk 1 p q → x.Schema = 1 → ∀ a b w', OwnSl eApiPair w' w.heap.size a (p.map first) → OwnSl eApiSession w' w.heap.size b q → Ext w w' → K (⟨2, a, b⟩, 0) w') : migr_Up x K w := by
  unfold migr_Up
  refine new_x (Ext.rfl' w) fun b1 w2 hb1 hl1 hx _ => new_x hx fun b3 w4 hb3 hl3 hx hn24 => ?_
  have hz := (Ext.new hn24).size
  refine migr_Check_calls (migr_Check_spec (ht.ext hx) (h.ext hx) hp fun e w6 he hx' => kp_ext hx' (kp_ext hx' ?_))
  have z6 := hx'.size
  have hx := hx.trans' hx'
  rcases he with ⟨rfl, he⟩ | ⟨rfl, he⟩
  rotate_left
  · exact ifNe (fun _ => wr_x hx hb3 fun w7 hx _ => h3 he _ hx) (fun h => absurd h (by decide))
  refine ifNe (fun h => absurd rfl h) (fun _ => ?_)
  refine ifEq (fun h2 => wr_x hx hb3 fun w7 hx _ => h12 (h2 ▸ he) h2 _ hx) (fun h2 => ?_)
  have hs1 : x.Schema = 1 := by have := he.1; omega
  refine migr_Clone_calls (migr_Clone_spec (h.ext hx) hp hq fun a b w10 ho hs hlt hx' => kp_ext hx' (kp_ext hx' ?_))
  dsimp only
  have hx := hx.trans' hx'
  have hz10 := hx'.size
  have hlta := ho.lt
  have hltb := hs.lt
  refine new_x hx fun b11 w12 hb11 hl11 hx hn12 => ?_
  have ho := ho.ext (Ext.new hn12)
  have hs := hs.ext (Ext.new hn12)
  have hb11' : w10.heap.size ≤ b11 := Nat.le_of_eq hn12.1.symm
  refine wr_x hx hb11 fun w13 hx hw13 => wr_x hx hb11 fun w14 hx hw14 => ?_
  have ho := (ho.wrN hw13 hlta hb11').wrN hw14 hlta hb11'
  have hs := (hs.wrN hw13 hltb hb11').wrN hw14 hltb hb11'
  have hla := ho.len
  have hz14 : b11 < w14.heap.size := by have := hw13.size; have := hw14.size; omega
  refine up1 (fun k w' => Ext w w' ∧ w14.heap.size ≤ w'.heap.size ∧ OwnSl eApiPair w' w6.heap.size a ((p.take k).map first ++ p.drop k) ∧ OwnSl eApiSession w' w6.heap.size b q) 0 p.length rfl (by omega) (by omega) ⟨hx, Nat.le_refl _, by simpa using ho, hs⟩ ?_
  rintro k w17 C _ hk ⟨hx, hz17, ho17, hs17⟩ hC
  refine ifD (fun hlt1 => ?_) (fun hge => ?_)
  · have hk1 : k < p.length := by omega
    have hlen : ((p.take k).map first ++ p.drop k).length = p.length := by simp; omega
    have htl : ((p.take k).map first).length = k := by simp; omega
    have hget : ((p.take k).map first ++ p.drop k)[k]'(by omega) = p[k] := by
      apply Option.some.inj
      rw [← List.getElem?_eq_getElem, ← List.getElem?_eq_getElem, List.getElem?_append_right (by omega), htl, Nat.sub_self, List.getElem?_drop, Nat.add_zero]
    refine ix_own (by kernel_rfl) ho17 rfl (by omega) ?_
    refine fst_own (m := 1) (first p[k]) (by kernel_rfl) ho17 (by omega) rfl (fun u hu => by cases List.mem_singleton.1 hu; rfl) (by decide) ?_ fun w19 ho19 hg19 => ?_
    · intro i hi
      rw [hget]
      have hi' : i < 3 := hi
      match i, hi' with
      | 0, _ => rfl
      | 1, _ => rfl
      | 2, _ => rfl
    · have hne : ∀ c, b.blk = some c → some c ≠ a.blk := fun c hc e => by have := hlt c e.symm c hc; omega
      refine kp_grown hg19 (fun e => by have := hlta _ e.symm; omega) (kp_O ho17 (by omega) hg19 (kp_O ho17 (by omega) hg19 ?_))
      refine hC hk1 _ _ rfl ⟨Ext.own hx ho17 (by omega) hg19, Nat.le_trans hz17 hg19.size, ?_, hs17.grownB hg19 hne⟩
      rw [List.set_append_right _ _ (by omega), htl, Nat.sub_self, List.drop_eq_getElem_cons hk1] at ho19
      rw [List.take_succ_eq_append_getElem hk1, List.map_append, List.append_assoc]
      exact ho19
  · have : p.length ≤ k := by omega
    rw [List.take_of_length_le this, List.drop_of_length_le this, List.append_nil] at ho17
    exact wr_x hx hb3 fun w20 hx hw => hK (hs1 ▸ he) hs1 _ _ _ ((ho17.wrO hw (by omega)).mono (by omega)) ((hs17.wrO hw (by omega)).mono (by omega)) hx
def revs (n : Int) (p : ApiPair) : ApiPair := ⟨p.Key, p.Val, n⟩
theorem ref25_Revs_spec {sch rev : Int} {K : ApiState → World → Prop} (h : StAt w x p q) (hp : p.length ≤ 100000)
    (hK : ∀ a w', OwnSl eApiPair w' w.heap.size a (p.map (revs rev)) → IsSl eApiSession w' x.Sessions q → Ext w w' → K ⟨sch, a, x.Sessions⟩ w') : ref25_Revs x sch rev K w := by
  unfold ref25_Revs
  have hpl := h.ps.len
  refine new_x (Ext.rfl' w) fun b1 w2 hb1 hl1 hx _ => new_x hx fun b3 w4 hb3 hl3 hx hn4 => new_x hx fun b5 w6 hb5 hl5 hx hn6 => wr_x hx hb5 fun w7 hx hw7 => ?_
  have z4 := (Ext.new hn4).size
  have z6 := (Ext.new hn6).size
  have z7 := hw7.size
  refine up2a (fun k (o : ApiState) w' => Ext w w' ∧ w7.heap.size ≤ w'.heap.size ∧ o.Schema = sch ∧ o.Sessions = x.Sessions ∧ OwnSl eApiPair w' w7.heap.size o.Pairs ((p.take k).map (revs rev))) 0 p.length rfl (by omega) (by omega) ⟨hx, Nat.le_refl _, rfl, rfl, by simpa using .nil _ _ _⟩ ?_
  rintro k ⟨oS, oP, oQ⟩ w11 C _ hk ⟨hx, hz11, rfl, rfl, ho⟩ hC
  refine ifD (fun hlt => ?_) (fun hge => ?_)
  · have hk1 : k < p.length := by omega
    refine st_rd (val := ApiPair.val) (by kernel_rfl) (by kernel_rfl) (h.ps.ext hx) rfl hk1 (fun _ => rfl) fun _ => ?_
    have hlt := ho.lt
    refine new_x hx fun b14 w15 hb14 hl14 hx hn15 => wr_x hx hb14 fun w16 hx hw16 => wr_x hx hb14 fun w17 hx hw17 => ?_
    have e14 := hn15.1
    have ho := ((ho.ext (Ext.new hn15)).wrN hw16 hlt (by omega)).wrN hw17 hlt (by omega)
    have z17 : w11.heap.size ≤ w17.heap.size := by have := (Ext.new hn15).size; have := hw16.size; have := hw17.size; omega
    refine lit1_ty (E := eApiPair) 40 (x := revs rev p[k]) w17.heap.size (by kernel_rfl) (by decide) (fun w => by kernel_rfl) (Nat.le_refl _) fun s18 w19 _ hs18 hx' => kp_ext hx' (kp_ext hx' (kp_ext hx' (kp_ext hx' ?_)))
    have hx := hx.trans' hx'
    have z19 := hx'.size
    have ho19 := ho.ext hx'
    refine app_ty 40 (by kernel_rfl) (by kernel_rfl) ho19 hs18.is (by simp; omega) (by omega) (by decide) fun s20 w21 ho21 hg21 => ?_
    refine kp_grown hg21 (fun e => by have := hlt _ e.symm; omega) (kp_O ho19 (by omega) hg21 (kp_O ho19 (by omega) hg21 (kp_O ho19 (by omega) hg21 ?_)))
    have z21 := hg21.size
    have hx := Ext.own hx ho19 (by omega) hg21
    refine wr_x hx hb5 fun w22 hx hw22 => ?_
    have z22 := hw22.size
    refine hC hk1 _ _ _ rfl ⟨hx, by omega, rfl, rfl, ?_⟩
    rw [map_up hk1]
    exact ho21.wrO hw22 (by omega)
  · have hd : ¬ k < p.length := by omega
    rw [take_done hd] at ho
    exact wr_x hx hb3 fun w23 hx hw => hK _ _ ((ho.wrO hw (by omega)).mono (by omega)) (h.ss.ext hx) hx
theorem stateOk_first (h : StateOk 1 p q) : StateOk 2 (p.map first) q := by
  obtain ⟨_, ⟨h1, h2, h3⟩, h4, h5⟩ := h
  refine ⟨.inr rfl, ⟨fun y hy => ?_, by rw [List.length_map]; exact h2, List.pairwise_map.2 h3⟩, h4, fun h => absurd h (by decide)⟩
  obtain ⟨z, hz, rfl⟩ := List.mem_map.1 hy
  obtain ⟨k1, k2, _, _⟩ := h1 z hz
  exact ⟨k1, k2, fun h => absurd h (by decide), fun _ => show (1 : Int) ≤ 1 ∧ (1 : Int) ≤ 4294967296 by decide⟩
end Go.Chg
