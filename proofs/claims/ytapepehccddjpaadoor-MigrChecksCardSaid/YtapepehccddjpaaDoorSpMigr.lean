/-
  What package 'migr' and 'changeoverref25' do with states; the laws of chapter 25.
-/
import Derived.Test.YtapepehccddjpaaDoorEase
import Derived.Test.YtapepehccddjpaaDoorSpChk22
import Derived.Test.YtapepehccddjpaaDoorSpChk24
set_option maxRecDepth 20000
set_option linter.unusedVariables false
namespace Go.Chg
open Go.Vc

structure StAt (w : World) (x : ApiState) (p : List ApiPair) (q : List ApiSession) : Prop where
  ps : IsSl eApiPair w x.Pairs p
  ss : IsSl eApiSession w x.Sessions q
theorem StAt.ext {w w' : World} {x : ApiState} {p : List ApiPair} {q : List ApiSession} (h : StAt w x p q) (hx : Ext w w') : StAt w' x p q := ⟨h.ps.ext hx, h.ss.ext hx⟩
def zState : ApiState := ⟨0, Sl.nil, Sl.nil⟩
theorem StAt.zero (w : World) : StAt w zState [] [] := ⟨.nilSl _ _, .nilSl _ _⟩
def StateOk (sch : Int) (p : List ApiPair) (q : List ApiSession) : Prop := (sch = 1 ∨ sch = 2) ∧ PairsOk sch p ∧ SessOk q ∧ (sch = 1 → ∀ x ∈ q, x.Last.Rev = 0)

variable {x y : ApiState} {p p' : List ApiPair} {q q' : List ApiSession} {w : World}
theorem ref25_Large_spec {K : Bool → World → Prop} (h : StAt w x p q) (hK : ∀ b w', (b = false → PairSmall p ∧ SessSmall q) → Ext w w' → K b w') : ref25_Large x K w := by
  unfold ref25_Large
  refine new_x (Ext.rfl' w) fun b1 w2 _ _ hx _ => ?_
  refine ref22_Large_calls (ref22_Large_spec (h.ss.ext hx) fun b hb => kp_same ?_)
  refine ifB_of (fun _ => hK _ _ (fun h => by cases h) hx) (fun h1 => ?_)
  exact ref23_Large_calls (ref23_Large_spec (h.ps.ext hx) fun b2 hb2 => kp_same (hK _ _ (fun h2 => ⟨hb2 h2, hb h1⟩) hx))
theorem ref25_Check_spec {K : Bool → World → Prop} (h : StAt w x p q) (hK : ∀ b w', (b = true ↔ StateOk x.Schema p q) → Ext w w' → K b w') : ref25_Check x K w := by
  unfold ref25_Check
  refine new_x (Ext.rfl' w) fun b1 w2 _ _ hx _ => ?_
  refine ifD (fun h1 => hK _ _ ⟨fun h => (by cases h), fun h => by have := h.1; omega⟩ hx) (fun h1 => ?_)
  refine ifD (fun h2 => hK _ _ ⟨fun h => (by cases h), fun h => by have := h.1; omega⟩ hx) (fun h2 => ?_)
  refine ref23_Check_calls (ref23_Check_spec (h.ps.ext hx) fun b3 w4 hb3 hx' => kp_ext hx' ?_)
  have hx := hx.trans' hx'
  refine ifNot (ifB_of (fun h3 => ?_) (fun h3 => hK _ _ ⟨fun h => (by cases h), fun h => by rw [hb3.2 h.2.1] at h3; cases h3⟩ hx))
  refine ref22_Check_calls (ref22_Check_spec (h.ss.ext hx) fun b5 w6 hb5 hx' => kp_ext hx' ?_)
  have hx := hx.trans' hx'
  refine ifNot (ifB_of (fun h5 => ?_) (fun h5 => hK _ _ ⟨fun h => (by cases h), fun h => by rw [hb5.2 h.2.2.1] at h5; cases h5⟩ hx))
  have hl := h.ss.len
  have hle := h.ss.le
  refine up1 (fun k w' => w6 = w' ∧ (x.Schema = 1 → ∀ y ∈ q.take k, y.Last.Rev = 0)) 0 q.length rfl (by omega) hle ⟨rfl, by simp⟩ ?_
  rintro k _ C _ hk ⟨rfl, hall⟩ hC
  refine ifD (fun hlt => ?_) (fun hge => hK _ _ ⟨fun _ => ⟨by omega, hb3.1 h3, hb5.1 h5, fun h1 => all_done (by omega) (hall h1)⟩, fun _ => rfl⟩ hx)
  have hk1 : k < q.length := by omega
  refine ifEq (fun hs => ?_) (fun hs => hC hk1 _ _ rfl ⟨rfl, fun h1 => absurd h1 hs⟩)
  refine fld2_rd (y := q[k].Last.Rev) (by kernel_rfl) (by kernel_rfl) (h.ss.ext hx) rfl hk1 rfl fun _ => ?_
  exact ifNe (fun hne => hK _ _ ⟨fun h => (by cases h), fun h => absurd (h.2.2.2 hs _ (List.getElem_mem hk1)) hne⟩ hx) (fun he => hC hk1 _ _ rfl ⟨rfl, fun h1 => all_up hk1 (hall h1) he⟩)
theorem ref25_Same_spec {K : Bool → World → Prop} (h : StAt w x p q) (h' : StAt w y p' q') (hK : ∀ b w', (b = true ↔ x.Schema = y.Schema ∧ p = p' ∧ q = q') → Ext w w' → K b w') : ref25_Same x y K w := by
  unfold ref25_Same
  refine new_x (Ext.rfl' w) fun b1 w2 _ _ hx _ => new_x hx fun b3 w4 _ _ hx _ => ?_
  refine ifEq (fun h1 => ?_) (fun h1 => hK _ _ ⟨fun h => (by cases h), fun h => absurd h.1 h1⟩ hx)
  refine ref23_Same_calls (ref23_Same_spec (h.ps.ext hx) (h'.ps.ext hx) fun b5 w6 hb5 hx' => kp_ext hx' (kp_ext hx' ?_))
  have hx := hx.trans' hx'
  refine ifB_of (fun h5 => ?_) (fun h5 => hK _ _ ⟨fun h => (by cases h), fun h => by rw [hb5.2 h.2.1] at h5; cases h5⟩ hx)
  refine ref22_Same_calls (ref22_Same_spec (h.ss.ext hx) (h'.ss.ext hx) fun b7 w8 hb7 hx' => kp_ext hx' (kp_ext hx' ?_))
  exact hK _ _ ⟨fun h => ⟨h1, hb5.1 h5, hb7.1 h⟩, fun h => hb7.2 h.2.2⟩ (hx.trans' hx')
theorem equal_pair_spec {a b : Sl} {la lb : List ApiPair} {K : Bool → World → Prop} (ha : IsSl eApiPair w a la) (hb : IsSl eApiPair w b lb) (hK : ∀ t w', (t = true ↔ la = lb) → Ext w w' → K t w') : slices_Equal_api_Pair_api_Pair a b K w := by
  unfold slices_Equal_api_Pair_api_Pair
  exact same_vc (E := eApiPair) (r := fun x y => (ApiPair.eqs x y).all id) (by kernel_rfl) (by kernel_rfl) (by kernel_rfl) (fun _ => rfl) (by kernel_rfl) (fun x y => ApiPair.eqv x y) (fun x y => ApiPair.eqs_iff) ha hb hK
theorem equal_sess_spec {a b : Sl} {la lb : List ApiSession} {K : Bool → World → Prop} (ha : IsSl eApiSession w a la) (hb : IsSl eApiSession w b lb) (hK : ∀ t w', (t = true ↔ la = lb) → Ext w w' → K t w') : slices_Equal_api_Session_api_Session a b K w := by
  unfold slices_Equal_api_Session_api_Session
  exact same_vc (E := eApiSession) (r := fun x y => (ApiSession.eqs x y).all id) (by kernel_rfl) (by kernel_rfl) (by kernel_rfl) (fun _ => rfl) (by kernel_rfl) (fun x y => ApiSession.eqv x y) (fun x y => ApiSession.eqs_iff) ha hb hK
theorem migr_Same_spec {K : Bool → World → Prop} (h : StAt w x p q) (h' : StAt w y p' q') (hK : ∀ b w', (b = true ↔ x.Schema = y.Schema ∧ p = p' ∧ q = q') → Ext w w' → K b w') : migr_Same x y K w := by
  unfold migr_Same
  refine new_x (Ext.rfl' w) fun b1 w2 _ _ hx _ => new_x hx fun b3 w4 _ _ hx _ => ?_
  refine ifEq (fun h1 => ?_) (fun h1 => hK _ _ ⟨fun h => (by cases h), fun h => absurd h.1 h1⟩ hx)
  refine slices_Equal_api_Pair_api_Pair_calls (equal_pair_spec (h.ps.ext hx) (h'.ps.ext hx) fun b5 w6 hb5 hx' => kp_ext hx' (kp_ext hx' ?_))
  have hx := hx.trans' hx'
  refine ifB_of (fun h5 => ?_) (fun h5 => hK _ _ ⟨fun h => (by cases h), fun h => by rw [hb5.2 h.2.1] at h5; cases h5⟩ hx)
  refine slices_Equal_api_Session_api_Session_calls (equal_sess_spec (h.ss.ext hx) (h'.ss.ext hx) fun b7 w8 hb7 hx' => kp_ext hx' (kp_ext hx' ?_))
  exact hK _ _ ⟨fun h => ⟨h1, hb5.1 h5, hb7.1 h⟩, fun h => hb7.2 h.2.2⟩ (hx.trans' hx')
theorem migr_Check_1_spec {s : ApiSession} {K : Bool → World → Prop} (hK : ∀ w', Ext w w' → K (s.Last.Rev != 0) w') : migr_Check_1 s K w := by
  unfold migr_Check_1
  exact new_x (Ext.rfl' w) fun b1 w2 _ _ hx _ => hK _ hx
theorem index_last_spec {s : Sl} {l : List ApiSession} {K : Int → World → Prop} (hs : IsSl eApiSession w s l) (hK : ∀ i w', (decide (i ≥ 0) = true ↔ ∃ x ∈ l, x.Last.Rev ≠ 0) → Ext w w' → K i w') : slices_IndexFunc_api_Session_api_Session_Check s K w := by
  unfold slices_IndexFunc_api_Session_api_Session_Check
  have hl := hs.len
  have hle := hs.le
  refine up1 (fun k w' => Ext w w' ∧ ∀ x ∈ l.take k, x.Last.Rev = 0) 0 l.length rfl (by omega) hle ⟨Ext.rfl' _, by simp⟩ ?_
  rintro k w1 C _ hk ⟨hx1, hall⟩ hC
  refine ifD (fun hlt => ?_) (fun hge => hK _ _ ⟨fun h => absurd h (by decide), fun ⟨x, hx, hb⟩ => absurd (all_done (by omega) hall x hx) hb⟩ hx1)
  have hk1 : k < l.length := by omega
  refine st_rd (val := ApiSession.val) (by kernel_rfl) (by kernel_rfl) (hs.ext hx1) rfl hk1 (fun _ => rfl) fun _ => ?_
  refine migr_Check_1_calls (x := l[k]) (migr_Check_1_spec fun w2 hx2 => ?_)
  refine ifNe (fun hb => hK _ _ ⟨fun _ => ⟨l[k], List.getElem_mem hk1, hb⟩, fun _ => by simp⟩ (hx1.trans' hx2)) (fun hb => hC hk1 _ _ rfl ⟨hx1.trans' hx2, all_up hk1 hall hb⟩)
theorem migr_Check_spec {K : Int → World → Prop} (ht : Utf8T w) (h : StAt w x p q) (hle : p.length ≤ 100000) (hK : ∀ b w', (b = 0 ∧ StateOk x.Schema p q ∨ b = 3 ∧ ¬ StateOk x.Schema p q) → Ext w w' → K b w') : migr_Check x K w := by
  unfold migr_Check
  refine new_x (Ext.rfl' w) fun b1 w2 _ _ hx _ => ?_
  refine sess_Check_calls (sess_Check_spec (ht.ext hx) (h.ss.ext hx) fun e w4 he hx' => kp_ext hx' ?_)
  have hx := hx.trans' hx'
  rcases he with ⟨rfl, he⟩ | ⟨rfl, he⟩
  rotate_left
  · exact ifNe (fun _ => hK _ _ (.inr ⟨rfl, fun h => he h.2.2.1⟩) hx) (fun h => absurd h (by decide))
  refine ifNe (fun h => absurd rfl h) (fun _ => ?_)
  refine ifEq (fun h1 => ?_) (fun h1 => ?_)
  · refine slices_ContainsFunc_api_Session_api_Session_calls ?_
    unfold slices_ContainsFunc_api_Session_api_Session
    refine slices_IndexFunc_api_Session_api_Session_Check_calls (index_last_spec (h.ss.ext hx) fun i w6 hi hx' => kp_ext hx' ?_)
    have hx := hx.trans' hx'
    refine ifB_of (fun hb => hK _ _ (.inr ⟨rfl, fun h => ?_⟩) hx) (fun hb => ?_)
    · obtain ⟨y, hy, hne⟩ := hi.1 hb
      exact hne (h.2.2.2 h1 y hy)
    · refine kvone_Check_calls (kvone_Check_spec (ht.ext hx) (h.ps.ext hx) fun b w8 hb8 hx' => kp_ext hx' (hK _ _ ?_ (hx.trans' hx')))
      rw [h1]
      rcases hb8 with ⟨rfl, h8⟩ | ⟨rfl, h8⟩
      · refine .inl ⟨rfl, .inl rfl, h8, he, fun _ y hy => Classical.byContradiction fun hne => ?_⟩
        rw [hi.2 ⟨y, hy, hne⟩] at hb
        cases hb
      · exact .inr ⟨rfl, fun h => h8 h.2.1⟩
  · refine ifEq (fun h2 => ?_) (fun h2 => hK _ _ (.inr ⟨rfl, fun h => by have := h.1; omega⟩) hx)
    refine kvtwo_Check_calls (kvtwo_Check_spec (ht.ext hx) (h.ps.ext hx) hle fun b w8 hb8 hx' => kp_ext hx' (hK _ _ ?_ (hx.trans' hx')))
    rw [h2]
    rcases hb8 with ⟨rfl, h8⟩ | ⟨rfl, h8⟩
    · exact .inl ⟨rfl, .inr rfl, h8, he, fun h => absurd h (by decide)⟩
    · exact .inr ⟨rfl, fun h => h8 h.2.1⟩
/-- A state of the call's own. -/
structure StOwn (w : World) (B : Nat) (x : ApiState) (p : List ApiPair) (q : List ApiSession) : Prop where
  ps : OwnSl eApiPair w B x.Pairs p
  ss : OwnSl eApiSession w B x.Sessions q
theorem StOwn.at {B : Nat} (h : StOwn w B x p q) : StAt w x p q := ⟨h.ps.is, h.ss.is⟩
theorem migr_Clone_spec {K : ApiState → World → Prop} (h : StAt w x p q) (hp : p.length ≤ 100000) (hq : q.length ≤ 100000)
    (hK : ∀ a b w', OwnSl eApiPair w' w.heap.size a p → OwnSl eApiSession w' w.heap.size b q → (∀ c, a.blk = some c → ∀ d, b.blk = some d → c < d) → Ext w w' → K ⟨x.Schema, a, b⟩ w') : migr_Clone x K w := by
  unfold migr_Clone
  have hpl := h.ps.len
  have hql := h.ss.len
  refine new_x (Ext.rfl' w) fun b1 w2 hb1 hl1 hx _ => new_x hx fun b3 w4 hb3 hl3 hx hn24 => ?_
  have hz := (Ext.new hn24).size
  refine make_ty (E := eApiPair) (zv := .agg ⟨[sval [], sval [], .int .i64 0]⟩) 40 ⟨[], [], 0⟩ (n := p.length) (B := w4.heap.size) (by kernel_rfl) (by kernel_rfl) rfl (by omega) (by omega) (by decide) (Nat.le_refl _) fun a w6 ha ho hx' => kp_ext hx' (kp_ext hx' ?_)
  have hx := hx.trans' hx'
  refine copy_own (by kernel_rfl) ho (h.ps.ext hx) (by simp) fun w8 ho8 hg8 => kp_O ho (by omega) hg8 (kp_O ho (by omega) hg8 ?_)
  have hz4 : w.heap.size ≤ w4.heap.size := by omega
  have hx := Ext.own hx ho hz4 hg8
  have z8 : w4.heap.size ≤ w8.heap.size := Nat.le_trans hx'.size hg8.size
  refine make_ty (E := eApiSession) (zv := .agg ⟨[.int .i64 0, .int .i64 0, .int .i64 0, .int .i64 0, .int .i64 0, .bool false, sval [], .int .i64 0]⟩) 72 ⟨0, 0, ⟨0, 0, 0, false, [], 0⟩⟩ (n := q.length) (B := w8.heap.size) (by kernel_rfl) (by kernel_rfl) rfl (by omega) (by omega) (by decide) (Nat.le_refl _) fun b w10 hb ho10 hx'' => kp_ext hx'' (kp_ext hx'' ?_)
  have hx := hx.trans' hx''
  refine copy_own (by kernel_rfl) ho10 (h.ss.ext hx) (by simp) fun w12 ho12 hg12 => kp_O ho10 (by omega) hg12 (kp_O ho10 (by omega) hg12 ?_)
  have hlt8 := ho8.lt
  have ho8' := (ho8.ext hx'').apart ho10 hg12 hlt8
  have hx := Ext.own hx ho10 (by omega) hg12
  have hge12 := ho12.ge
  refine wr_x hx hb3 fun w13 hx hw => hK _ _ _ ((ho8'.wrO hw hl3).mono hz4) ((ho12.wrO hw (by omega)).mono (by omega)) (fun c hc d hd => ?_) hx
  have := hlt8 c hc
  have := hge12 d hd
  omega
def first (p : ApiPair) : ApiPair := ⟨p.Key, p.Val, 1⟩
theorem migr_Up_spec {K : ApiState × Int → World → Prop} (ht : Utf8T w) (h : StAt w x p q) (hp : p.length ≤ 100000) (hq : q.length ≤ 100000)
    (h3 : ¬ StateOk x.Schema p q → ∀ w', Ext w w' → K (zState, 3) w') (h12 : StateOk 2 p q → x.Schema = 2 → ∀ w', Ext w w' → K (zState, 12) w')
    (hK : StateOk 1 p q → x.Schema = 1 → ∀ a b w', OwnSl eApiPair w' w.heap.size a (p.map first) → OwnSl eApiSession w' w.heap.size b q → Ext w w' → K (⟨2, a, b⟩, 0) w') : migr_Up x K w := by
  unfold migr_Up
  refine new_x (Ext.rfl' w) fun b1 w2 hb1 hl1 hx _ => new_x hx fun b3 w4 hb3 hl3 hx hn24 => ?_
  have hz := (Ext.new hn24).size
  refine migr_Check_calls (migr_Check_spec (ht.ext hx) (h.ext hx) hp fun e w6 he hx' => kp_ext hx' (kp_ext hx' ?_))
  have z6 := hx'.size
  have hx := hx.trans' hx'
  rcases he with ⟨rfl, he⟩ | ⟨rfl, he⟩
  rotate_left
  · exact ifNe (fun _ => wr_x hx hb3 fun w7 hx _ => h3 he _ hx) (fun h => absurd h (by decide))
  refine ifNe (fun h => absurd rfl h) (fun _ => ?_)
  refine ifEq (fun h2 => wr_x hx hb3 fun w7 hx _ => h12 (h2 ▸ he) h2 _ hx) (fun h2 => ?_)
  have hs1 : x.Schema = 1 := by have := he.1; omega
  refine migr_Clone_calls (migr_Clone_spec (h.ext hx) hp hq fun a b w10 ho hs hlt hx' => kp_ext hx' (kp_ext hx' ?_))
  dsimp only
  have hx := hx.trans' hx'
  have hz10 := hx'.size
  have hlta := ho.lt
  have hltb := hs.lt
  refine new_x hx fun b11 w12 hb11 hl11 hx hn12 => ?_
  have ho := ho.ext (Ext.new hn12)
  have hs := hs.ext (Ext.new hn12)
  have hb11' : w10.heap.size ≤ b11 := Nat.le_of_eq hn12.1.symm
  refine wr_x hx hb11 fun w13 hx hw13 => wr_x hx hb11 fun w14 hx hw14 => ?_
  have ho := (ho.wrN hw13 hlta hb11').wrN hw14 hlta hb11'
  have hs := (hs.wrN hw13 hltb hb11').wrN hw14 hltb hb11'
  have hla := ho.len
  have hz14 : b11 < w14.heap.size := by have := hw13.size; have := hw14.size; omega
  refine up1 (fun k w' => Ext w w' ∧ w14.heap.size ≤ w'.heap.size ∧ OwnSl eApiPair w' w6.heap.size a ((p.take k).map first ++ p.drop k) ∧ OwnSl eApiSession w' w6.heap.size b q) 0 p.length rfl (by omega) (by omega) ⟨hx, Nat.le_refl _, by simpa using ho, hs⟩ ?_
  rintro k w17 C _ hk ⟨hx, hz17, ho17, hs17⟩ hC
  refine ifD (fun hlt1 => ?_) (fun hge => ?_)
  · have hk1 : k < p.length := by omega
    have hlen : ((p.take k).map first ++ p.drop k).length = p.length := by simp; omega
    have htl : ((p.take k).map first).length = k := by simp; omega
    have hget : ((p.take k).map first ++ p.drop k)[k]'(by omega) = p[k] := by
      apply Option.some.inj
      rw [← List.getElem?_eq_getElem, ← List.getElem?_eq_getElem, List.getElem?_append_right (by omega), htl, Nat.sub_self, List.getElem?_drop, Nat.add_zero]
    refine ix_own (by kernel_rfl) ho17 rfl (by omega) ?_
    refine fst_own (m := 1) (first p[k]) (by kernel_rfl) ho17 (by omega) rfl (fun u hu => by cases List.mem_singleton.1 hu; rfl) (by decide) ?_ fun w19 ho19 hg19 => ?_
    · intro i hi
      rw [hget]
      have hi' : i < 3 := hi
      match i, hi' with
      | 0, _ => rfl
      | 1, _ => rfl
      | 2, _ => rfl
    · have hne : ∀ c, b.blk = some c → some c ≠ a.blk := fun c hc e => by have := hlt c e.symm c hc; omega
      refine kp_grown hg19 (fun e => by have := hlta _ e.symm; omega) (kp_O ho17 (by omega) hg19 (kp_O ho17 (by omega) hg19 ?_))
      refine hC hk1 _ _ rfl ⟨Ext.own hx ho17 (by omega) hg19, Nat.le_trans hz17 hg19.size, ?_, hs17.grownB hg19 hne⟩
      rw [List.set_append_right _ _ (by omega), htl, Nat.sub_self, List.drop_eq_getElem_cons hk1] at ho19
      rw [List.take_succ_eq_append_getElem hk1, List.map_append, List.append_assoc]
      exact ho19
  · have : p.length ≤ k := by omega
    rw [List.take_of_length_le this, List.drop_of_length_le this, List.append_nil] at ho17
    exact wr_x hx hb3 fun w20 hx hw => hK (hs1 ▸ he) hs1 _ _ _ ((ho17.wrO hw (by omega)).mono (by omega)) ((hs17.wrO hw (by omega)).mono (by omega)) hx
def revs (n : Int) (p : ApiPair) : ApiPair := ⟨p.Key, p.Val, n⟩
theorem ref25_Revs_spec {sch rev : Int} {K : ApiState → World → Prop} (h : StAt w x p q) (hp : p.length ≤ 100000)
    (hK : ∀ a w', OwnSl eApiPair w' w.heap.size a (p.map (revs rev)) → IsSl eApiSession w' x.Sessions q → Ext w w' → K ⟨sch, a, x.Sessions⟩ w') : ref25_Revs x sch rev K w := by
  unfold ref25_Revs
  have hpl := h.ps.len
  refine new_x (Ext.rfl' w) fun b1 w2 hb1 hl1 hx _ => new_x hx fun b3 w4 hb3 hl3 hx hn4 => new_x hx fun b5 w6 hb5 hl5 hx hn6 => wr_x hx hb5 fun w7 hx hw7 => ?_
  have z4 := (Ext.new hn4).size
  have z6 := (Ext.new hn6).size
  have z7 := hw7.size
  refine up2a (fun k (o : ApiState) w' => Ext w w' ∧ w7.heap.size ≤ w'.heap.size ∧ o.Schema = sch ∧ o.Sessions = x.Sessions ∧ OwnSl eApiPair w' w7.heap.size o.Pairs ((p.take k).map (revs rev))) 0 p.length rfl (by omega) (by omega) ⟨hx, Nat.le_refl _, rfl, rfl, by simpa using .nil _ _ _⟩ ?_
  rintro k ⟨oS, oP, oQ⟩ w11 C _ hk ⟨hx, hz11, rfl, rfl, ho⟩ hC
  refine ifD (fun hlt => ?_) (fun hge => ?_)
  · have hk1 : k < p.length := by omega
    refine st_rd (val := ApiPair.val) (by kernel_rfl) (by kernel_rfl) (h.ps.ext hx) rfl hk1 (fun _ => rfl) fun _ => ?_
    have hlt := ho.lt
    refine new_x hx fun b14 w15 hb14 hl14 hx hn15 => wr_x hx hb14 fun w16 hx hw16 => wr_x hx hb14 fun w17 hx hw17 => ?_
    have e14 := hn15.1
    have ho := ((ho.ext (Ext.new hn15)).wrN hw16 hlt (by omega)).wrN hw17 hlt (by omega)
    have z17 : w11.heap.size ≤ w17.heap.size := by have := (Ext.new hn15).size; have := hw16.size; have := hw17.size; omega
    refine lit1_ty (E := eApiPair) 40 (x := revs rev p[k]) w17.heap.size (by kernel_rfl) (by decide) (fun w => by kernel_rfl) (Nat.le_refl _) fun s18 w19 _ hs18 hx' => kp_ext hx' (kp_ext hx' (kp_ext hx' (kp_ext hx' ?_)))
    have hx := hx.trans' hx'
    have z19 := hx'.size
    have ho19 := ho.ext hx'
    refine app_ty 40 (by kernel_rfl) (by kernel_rfl) ho19 hs18.is (by simp; omega) (by omega) (by decide) fun s20 w21 ho21 hg21 => ?_
    refine kp_grown hg21 (fun e => by have := hlt _ e.symm; omega) (kp_O ho19 (by omega) hg21 (kp_O ho19 (by omega) hg21 (kp_O ho19 (by omega) hg21 ?_)))
    have z21 := hg21.size
    have hx := Ext.own hx ho19 (by omega) hg21
    refine wr_x hx hb5 fun w22 hx hw22 => ?_
    have z22 := hw22.size
    refine hC hk1 _ _ _ rfl ⟨hx, by omega, rfl, rfl, ?_⟩
    rw [map_up hk1]
    exact ho21.wrO hw22 (by omega)
  · have hd : ¬ k < p.length := by omega
    rw [take_done hd] at ho
    exact wr_x hx hb3 fun w23 hx hw => hK _ _ ((ho.wrO hw (by omega)).mono (by omega)) (h.ss.ext hx) hx
theorem migr_Says_spec {K : ApiState → World → Prop} (h : StAt w x p q) (hp : p.length ≤ 100000) (hq : q.length ≤ 100000)
    (hK : ∀ a b w', OwnSl eApiPair w' w.heap.size a (p.map bare) → OwnSl eApiSession w' w.heap.size b q → Ext w w' → K ⟨0, a, b⟩ w') : migr_Says x K w := by
  unfold migr_Says
  refine new_x (Ext.rfl' w) fun b1 w2 hb1 hl1 hx _ => new_x hx fun b3 w4 hb3 hl3 hx hn4 => ?_
  have z4 := (Ext.new hn4).size
  refine migr_Clone_calls (migr_Clone_spec (h.ext hx) hp hq fun a b w6 ho hs hlt hx' => kp_ext hx' (kp_ext hx' ?_))
  dsimp only
  have z6 := hx'.size
  have hx := hx.trans' hx'
  have hlta := ho.lt
  have hltb := hs.lt
  refine new_x hx fun b7 w8 hb7 hl7 hx hn8 => wr_x hx hb7 fun w9 hx hw9 => wr_x hx hb7 fun w10 hx hw10 => ?_
  have e7 := hn8.1
  have ho := ((ho.ext (Ext.new hn8)).wrN hw9 hlta (by omega)).wrN hw10 hlta (by omega)
  have hs := ((hs.ext (Ext.new hn8)).wrN hw9 hltb (by omega)).wrN hw10 hltb (by omega)
  have z10 : w4.heap.size ≤ w10.heap.size := by have := (Ext.new hn8).size; have := hw9.size; have := hw10.size; omega
  have l10 : b7 < w10.heap.size := by have := hw9.size; have := hw10.size; omega
  refine kvtwo_Plain_calls (kvtwo_Plain_spec ho.is hp fun c w12 hc hx' => kp_ext hx' (kp_ext hx' (kp_ext hx' ?_)))
  have hx := hx.trans' hx'
  refine wr_x hx hb7 fun w13 hx hw13 => wr_x hx hb3 fun w14 hx hw14 => hK _ _ _ ?_ ?_ hx
  · exact ((hc.wrO hw13 l10).wrO hw14 (by omega)).mono (by omega)
  · exact (((hs.ext hx').wrN hw13 hltb (by omega)).wrO hw14 hl3).mono (by omega)
theorem law25_awake_spec {K : Bool → World → Prop} (ht : Utf8T w) (hK : ∀ w', Ext w w' → K true w') : law25_awake K w := by
  unfold law25_awake
  refine lit1_ty (E := eApiPair) 40 (x := ⟨[97], [49], 0⟩) w.heap.size (by kernel_rfl) (by decide) (fun w => by kernel_rfl) (Nat.le_refl _) fun s1 w2 _ hs1 hx => ?_
  have ok : StateOk 1 [⟨[97], [49], 0⟩] [] := by
    refine ⟨.inl rfl, ⟨fun y hy => ?_, by decide, List.pairwise_singleton _ _⟩, ⟨by simp, List.Pairwise.nil⟩, fun _ => by simp⟩
    obtain rfl := List.mem_singleton.1 hy
    exact ⟨by kernel_rfl, by kernel_rfl, fun _ => rfl, fun h => absurd h (by decide)⟩
  refine migr_Up_calls (s := ⟨1, s1, Sl.nil⟩) (migr_Up_spec (x := ⟨1, s1, Sl.nil⟩) (p := [⟨[97], [49], 0⟩]) (q := []) (ht.ext hx) ⟨hs1.is, .nilSl _ _⟩ (by decide) (by decide) (fun h => absurd ok h) (fun _ h => absurd (show (1 : Int) = 2 from h) (by decide)) fun _ _ a b w4 ha hb hx' => ?_)
  have hx := hx.trans' hx'
  have hla := ha.len
  have hlt := ha.lt
  refine new_x hx fun b5 w6 hb5 hl5 hx hn6 => wr_x hx hb5 fun w7 hx hw7 => ?_
  have e5 := hn6.1
  have ha := (ha.ext (Ext.new hn6)).wrN hw7 hlt (by omega)
  refine ifEq (fun _ => ?_) (fun h => absurd rfl h)
  refine ifEq (fun _ => ?_) (fun h => absurd rfl h)
  refine ifEq (fun _ => ?_) (fun h => absurd (by rw [hla]; rfl) h)
  refine fld_rd (E := eApiPair) (y := (1 : Int)) (k := 0) (by kernel_rfl) (by kernel_rfl) ha.is rfl (by decide) rfl fun _ => ?_
  exact hK _ hx
theorem stateOk_first (h : StateOk 1 p q) : StateOk 2 (p.map first) q := by
  obtain ⟨_, ⟨h1, h2, h3⟩, h4, h5⟩ := h
  refine ⟨.inr rfl, ⟨fun y hy => ?_, by rw [List.length_map]; exact h2, List.pairwise_map.2 h3⟩, h4, fun h => absurd h (by decide)⟩
  obtain ⟨z, hz, rfl⟩ := List.mem_map.1 hy
  obtain ⟨k1, k2, _, _⟩ := h1 z hz
  exact ⟨k1, k2, fun h => absurd h (by decide), fun _ => show (1 : Int) ≤ 1 ∧ (1 : Int) ≤ 4294967296 by decide⟩
/-- Which states may be; which two are the same. -/
theorem law25_MigrChecks_spec {K : Bool → World → Prop} (ht : Utf8T w) (h : StAt w x p q) (h' : StAt w y p' q') (hK : ∀ w', Ext w w' → K true w') : law25_MigrChecks x y K w := by
  unfold law25_MigrChecks
  refine new_x (Ext.rfl' w) fun b1 w2 _ _ hx _ => new_x hx fun b3 w4 _ _ hx _ => ?_
  refine ref25_Large_calls (s := x) (ref25_Large_spec (h.ext hx) fun t5 w6 h5 hx' => kp_ext hx' (kp_ext hx' ?_))
  have hx := hx.trans' hx'
  have awake : ∀ {u : World}, Ext w u → callV Pr Value.bool fid_law25_awake #[] u fun t v => kp b3 u v (kp b1 u v (K t v)) := fun hx => law25_awake_calls (law25_awake_spec (ht.ext hx) fun v hx' => kp_ext hx' (kp_ext hx' (hK _ (hx.trans' hx'))))
  refine ifB_of (fun _ => awake hx) (fun h5f => ?_)
  obtain ⟨sp, sq⟩ := h5 h5f
  refine ref25_Large_calls (s := y) (ref25_Large_spec (h'.ext hx) fun t5 w6 h5 hx' => kp_ext hx' (kp_ext hx' ?_))
  have hx := hx.trans' hx'
  refine ifB_of (fun _ => awake hx) (fun h5f => ?_)
  have hp := sp.1
  have hq := sq.1
  refine ⟨fun want v => Ext w v ∧ (want = 0 ∧ StateOk x.Schema p q ∨ want = 3 ∧ ¬ StateOk x.Schema p q), ?_, ?_⟩
  · refine ref25_Check_calls (s := x) (ref25_Check_spec (h.ext hx) fun t14 w15 h14 hx' => kp_ext hx' (kp_ext hx' ?_))
    have hx := hx.trans' hx'
    refine ifNot (ifB_of (fun h1 => ⟨hx, .inl ⟨rfl, h14.1 h1⟩⟩) (fun h1 => ⟨hx, .inr ⟨rfl, fun h => ?_⟩⟩))
    rw [h14.2 h] at h1
    cases h1
  rintro want w17 ⟨hx, hwant⟩
  refine held_x fun w18 hx' => ?_
  have hx := hx.trans' hx'
  refine migr_Check_calls (s := x) (migr_Check_spec (ht.ext hx) (h.ext hx) (by omega) fun t20 w21 h20 hx' => kp_ext hx' (kp_ext hx' ⟨trivial, ?_⟩))
  have hx := hx.trans' hx'
  refine ifEq (fun _ => ?_) (fun hne => absurd ?_ hne)
  rotate_left
  · rcases hwant with ⟨h1, h2⟩ | ⟨h1, h2⟩ <;> rcases h20 with ⟨h3, h4⟩ | ⟨h3, h4⟩
    · rw [h1, h3]
    · exact absurd h2 h4
    · exact absurd h4 h2
    · rw [h1, h3]
  refine migr_Same_calls (a := x) (b := y) (migr_Same_spec (h.ext hx) (h'.ext hx) fun t22 w23 h22 hx' => kp_ext hx' (kp_ext hx' ⟨trivial, ?_⟩))
  have hx := hx.trans' hx'
  refine ref25_Same_calls (a := x) (b := y) (ref25_Same_spec (h.ext hx) (h'.ext hx) fun t24 w25 h24 hx' => kp_ext hx' (kp_ext hx' ⟨trivial, ?_⟩))
  have hx := hx.trans' hx'
  have e : t22 = t24 := Bool.eq_iff_iff.2 (h22.trans h24.symm)
  refine ifB_t (by rw [e]; simp) ?_
  refine migr_Clone_calls (s := x) (migr_Clone_spec (h.ext hx) (by omega) (by omega) fun a b w27 ha hb _ hx' => kp_ext hx' (kp_ext hx' ⟨trivial, ?_⟩))
  have hx := hx.trans' hx'
  refine migr_Same_calls (a := x) (b := ⟨x.Schema, a, b⟩) (migr_Same_spec (h.ext hx) ⟨ha.is, hb.is⟩ fun t28 w29 h28 hx' => kp_ext hx' (kp_ext hx' ⟨trivial, ?_⟩))
  have hx := hx.trans' hx'
  refine ifB_t (h28.2 ⟨rfl, rfl, rfl⟩) ?_
  refine migr_Clone_calls (s := x) (migr_Clone_spec (h.ext hx) (by omega) (by omega) fun a b w31 ha hb _ hx' => kp_ext hx' (kp_ext hx' ⟨trivial, ?_⟩))
  have hx := hx.trans' hx'
  refine ref25_Same_calls (a := ⟨x.Schema, a, b⟩) (b := x) (ref25_Same_spec ⟨ha.is, hb.is⟩ (h.ext hx) fun t32 w33 h32 hx' => kp_ext hx' (kp_ext hx' ⟨trivial, ?_⟩))
  have hx := hx.trans' hx'
  refine ifB_t (h32.2 ⟨rfl, rfl, rfl⟩) ?_
  exact law25_awake_calls (law25_awake_spec (ht.ext hx) fun v hx' => kp_ext hx' (kp_ext hx' ⟨trivial, hK _ (hx.trans' hx')⟩))
/-- Any state, migrated. -/
theorem law25_MigrUps_spec {K : Bool → World → Prop} (ht : Utf8T w) (h : StAt w x p q) (hK : ∀ w', Ext w w' → K true w') : law25_MigrUps x K w := by
  unfold law25_MigrUps
  refine new_x (Ext.rfl' w) fun b1 w2 _ hl1 hx _ => ?_
  refine ref25_Large_calls (s := x) (ref25_Large_spec (h.ext hx) fun t5 w4 h5 hx' => kp_ext hx' ?_)
  have z4 := hx'.size
  have hx := hx.trans' hx'
  refine ifB_of (fun _ => law25_awake_calls (law25_awake_spec (ht.ext hx) fun v hx' => kp_ext hx' (hK _ (hx.trans' hx')))) (fun h5f => ?_)
  obtain ⟨sp, sq⟩ := h5 h5f
  have hp := sp.1
  have hq := sq.1
  -- what is behind the migration
  have behind : ∀ (r : ApiState × Int) (v : World), Ext w v → b1 < v.heap.size → (r = (zState, 3) ∧ ¬ StateOk x.Schema p q ∨ r = (zState, 12) ∧ StateOk 2 p q ∧ x.Schema = 2 ∨
      r.2 = 0 ∧ r.1.Schema = 2 ∧ StateOk 1 p q ∧ x.Schema = 1 ∧ OwnSl eApiPair v w4.heap.size r.1.Pairs (p.map first) ∧ OwnSl eApiSession v w4.heap.size r.1.Sessions q) → True := fun _ _ _ _ _ => trivial
  clear behind
  have awake2 : ∀ {u : World} {b9 : Nat}, Ext w u → callV Pr Value.bool fid_law25_awake #[] u fun t v => kp b9 u v (kp b1 u v (K t v)) := fun hx => law25_awake_calls (law25_awake_spec (ht.ext hx) fun v hx' => kp_ext hx' (kp_ext hx' (hK _ (hx.trans' hx'))))
  have none : ∀ {u : World} {b9 : Nat}, Ext w u → callV Pr Value.bool fid_ref25_Same #[(.agg ⟨[(.int .i64 zState.Schema), zState.Pairs.val, zState.Sessions.val]⟩), (.agg ⟨[(.int .i64 0), Sl.nil.val, Sl.nil.val]⟩)] u fun t14 w15 =>
      kp b9 u w15 (kp b1 u w15 (ifB t14 (callV Pr Value.bool fid_law25_awake #[] w15 fun t v => kp b9 w15 v (kp b1 w15 v (K t v))) (K false w15))) := fun hx =>
    ref25_Same_calls (a := zState) (b := zState) (ref25_Same_spec (.zero _) (.zero _) fun t w15 h14 hx' => kp_ext hx' (kp_ext hx' (ifB_t (h14.2 ⟨rfl, rfl, rfl⟩) (awake2 (hx.trans' hx')))))
  refine migr_Up_calls (s := x) (migr_Up_spec (ht.ext hx) (h.ext hx) (by omega) (by omega) (fun hbad w8 hx' => kp_ext hx' ?_) (fun hok h2 w8 hx' => kp_ext hx' ?_) (fun hok h1 a b w8 ha hb hx' => kp_ext hx' ?_))
  · have hx := hx.trans' hx'
    refine new_x hx fun b9 w10 hb9 _ hx _ => wr_x hx hb9 fun w11 hx _ => ?_
    refine ref25_Check_calls (s := x) (ref25_Check_spec (h.ext hx) fun t12 w13 h12 hx' => kp_ext hx' (kp_ext hx' ?_))
    have hx := hx.trans' hx'
    refine ifNot (ifB_of (fun h => absurd (h12.1 h) hbad) (fun _ => ?_))
    exact ifEq (fun _ => none hx) (fun h => absurd rfl h)
  · have hx := hx.trans' hx'
    refine new_x hx fun b9 w10 hb9 _ hx _ => wr_x hx hb9 fun w11 hx _ => ?_
    refine ref25_Check_calls (s := x) (ref25_Check_spec (h.ext hx) fun t12 w13 h12 hx' => kp_ext hx' (kp_ext hx' ?_))
    have hx := hx.trans' hx'
    refine ifNot (ifB_of (fun _ => ?_) (fun h => ?_))
    · refine ifEq (fun _ => ?_) (fun h => absurd h2 h)
      exact ifEq (fun _ => none hx) (fun h => absurd rfl h)
    · rw [h12.2 (h2.symm ▸ hok)] at h
      cases h
  · have hx := hx.trans' hx'
    have z8 := hx'.size
    have hla := ha.lt
    have hlb := hb.lt
    have hup := stateOk_first hok
    refine new_x hx fun b9 w10 hb9 hl9 hx hn10 => wr_x hx hb9 fun w11 hx hw11 => ?_
    have e9 := hn10.1
    have ha := (ha.ext (Ext.new hn10)).wrN hw11 hla (by omega)
    have hb := (hb.ext (Ext.new hn10)).wrN hw11 hlb (by omega)
    have e11 := hw11.size
    refine ref25_Check_calls (s := x) (ref25_Check_spec (h.ext hx) fun t12 w13 h12 hx' => kp_ext hx' (kp_ext hx' ?_))
    have z13 := hx'.size
    have hx := hx.trans' hx'
    have ha := ha.ext hx'
    have hb := hb.ext hx'
    refine ifNot (ifB_of (fun _ => ?_) (fun h => ?_))
    rotate_left
    · rw [h12.2 (h1.symm ▸ hok)] at h
      cases h
    refine ifEq (fun h => absurd (h1.symm.trans h) (by decide)) (fun _ => ?_)
    have hlen : (p.map first).length ≤ 100000 := by rw [List.length_map]; omega
    refine migr_Up_calls (s := ⟨2, a, b⟩) (migr_Up_spec (x := ⟨2, a, b⟩) (ht.ext hx) ⟨ha.is, hb.is⟩ hlen (by omega) (fun h => absurd hup h) (fun _ _ w23 hx' => kp_ext hx' (kp_ext hx' ?_)) (fun _ h => absurd (show (2 : Int) = 1 from h) (by decide)))
    have z23 := hx'.size
    have hx := hx.trans' hx'
    have ha := ha.ext hx'
    have hb := hb.ext hx'
    have hla := ha.lt
    have hlb := hb.lt
    refine new_x hx fun b24 w25 hb24 hl24 hx hn25 => wr_x hx hb24 fun w26 hx hw26 => ?_
    have e24 := hn25.1
    have ha := (ha.ext (Ext.new hn25)).wrN hw26 hla (by omega)
    have hb := (hb.ext (Ext.new hn25)).wrN hw26 hlb (by omega)
    refine held_x fun w27 hx' => ?_
    have hx := hx.trans' hx'
    have ha := ha.ext hx'
    have hb := hb.ext hx'
    refine ifEq (fun _ => ?_) (fun h => absurd rfl h)
    refine ifEq (fun _ => ?_) (fun h => absurd rfl h)
    refine ref25_Revs_calls (s := x) (ref25_Revs_spec (h.ext hx) (by omega) fun c w30 hc hcs hx' => kp_ext hx' (kp_ext hx' (kp_ext hx' ⟨trivial, ?_⟩)))
    have hx := hx.trans' hx'
    have ha := ha.ext hx'
    have hb := hb.ext hx'
    refine ref25_Same_calls (a := ⟨2, a, b⟩) (b := ⟨2, c, x.Sessions⟩) (ref25_Same_spec ⟨ha.is, hb.is⟩ ⟨hc.is, hcs⟩ fun t31 w32 h31 hx' => kp_ext hx' (kp_ext hx' (kp_ext hx' ⟨trivial, ?_⟩)))
    have hx := hx.trans' hx'
    have ha := ha.ext hx'
    have hb := hb.ext hx'
    refine ifB_t (h31.2 ⟨rfl, rfl, rfl⟩) ?_
    refine ref25_Check_calls (s := ⟨2, a, b⟩) (ref25_Check_spec (x := ⟨2, a, b⟩) ⟨ha.is, hb.is⟩ fun t33 w34 h33 hx' => kp_ext hx' (kp_ext hx' (kp_ext hx' ⟨trivial, ?_⟩)))
    have hx := hx.trans' hx'
    have ha := ha.ext hx'
    have hb := hb.ext hx'
    refine ifB_t (h33.2 hup) ?_
    refine migr_Says_calls (s := ⟨2, a, b⟩) (migr_Says_spec (x := ⟨2, a, b⟩) ⟨ha.is, hb.is⟩ hlen (by omega) fun c d w36 hc hd hx' => kp_ext hx' (kp_ext hx' (kp_ext hx' ⟨trivial, ?_⟩)))
    have hx := hx.trans' hx'
    refine migr_Says_calls (s := x) (migr_Says_spec (h.ext hx) (by omega) (by omega) fun c' d' w38 hc' hd' hx' => kp_ext hx' (kp_ext hx' (kp_ext hx' ⟨trivial, ?_⟩)))
    have hx := hx.trans' hx'
    refine ref25_Same_calls (a := ⟨0, c, d⟩) (b := ⟨0, c', d'⟩) (ref25_Same_spec ⟨hc.isExt hx', hd.isExt hx'⟩ ⟨hc'.is, hd'.is⟩ fun t39 w40 h39 hx' => kp_ext hx' (kp_ext hx' (kp_ext hx' ⟨trivial, ?_⟩)))
    have hx := hx.trans' hx'
    refine ifB_t (h39.2 ⟨rfl, by rw [List.map_map]; rfl, rfl⟩) ?_
    refine migr_Says_calls (s := x) (migr_Says_spec (h.ext hx) (by omega) (by omega) fun c d w42 hc hd hx' => kp_ext hx' (kp_ext hx' (kp_ext hx' ⟨trivial, ?_⟩)))
    have hx := hx.trans' hx'
    refine ref25_Revs_calls (s := x) (ref25_Revs_spec (h.ext hx) (by omega) fun e w44 he hes hx' => kp_ext hx' (kp_ext hx' (kp_ext hx' ⟨trivial, ?_⟩)))
    have hx := hx.trans' hx'
    refine ref25_Same_calls (a := ⟨0, c, d⟩) (b := ⟨0, e, x.Sessions⟩) (ref25_Same_spec ⟨hc.isExt hx', hd.isExt hx'⟩ ⟨he.is, hes⟩ fun t45 w46 h45 hx' => kp_ext hx' (kp_ext hx' (kp_ext hx' ⟨trivial, ?_⟩)))
    have hx := hx.trans' hx'
    refine ifB_t (h45.2 ⟨rfl, rfl, rfl⟩) ?_
    exact law25_awake_calls (law25_awake_spec (ht.ext hx) fun v hx' => kp_ext hx' (kp_ext hx' (kp_ext hx' ⟨trivial, hK _ (hx.trans' hx')⟩)))
end Go.Chg
