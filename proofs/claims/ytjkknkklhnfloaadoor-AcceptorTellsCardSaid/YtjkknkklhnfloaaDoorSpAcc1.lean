/-
  Entries by their index: packages 'entry' and 'changeoverref12'; what an acceptor has ahead.
-/
import Derived.Test.YtjkknkklhnfloaaDoorMC
import Derived.Test.YtjkknkklhnfloaaDoorMZ
set_option maxRecDepth 20000
set_option linter.unusedVariables false
namespace Go.Chg
open Go.Vc
open Go.RowKit (Below)
variable {w : World} {s : Sl} {l xs : List ApiEntry} {n : Int}
abbrev EUp (l : List ApiEntry) : Prop := Up cmpI (·.Index) l
def entOf (l : List ApiEntry) (n : Int) : Option ApiEntry := getC cmpI (·.Index) l n
def noEntry : ApiEntry := ⟨0, ⟨0, 0⟩, ⟨0, 0, 0, [], [], [], 0⟩⟩
theorem ents_up (h : entsE xs = 0) : EUp xs := (entsEF_ok h).2.1.imp fun h => cmpI_neg.2 h
theorem entry_place_1_spec {e : ApiEntry} {K : Int → World → Prop} (hK : ∀ w', Ext w w' → K (cmpI e.Index n) w') : entry_place_1 e n K w := by
  unfold entry_place_1
  exact new_of fun b1 w1 hn => cmp_Compare_int_calls (cmp_Compare_int_spec (kp_same (hK w1 (Ext.new hn))))
theorem entry_place_spec {K : Int × Bool → World → Prop} (hx : IsSl eApiEntry w s l) (hu : EUp l) (hle : l.length ≤ 4611686018427387903)
    (hK : ∀ (w' : World) (i : Nat), AtC (fun s => cmpI s.Index n) l i → Ext w w' → K ((i : Int), foundC (fun s => cmpI s.Index n) l i) w') : entry_place s n K w := by
  unfold entry_place
  refine slices_BinarySearchFunc_api_Entry_api_Entry_int_place_calls ?_
  unfold slices_BinarySearchFunc_api_Entry_api_Entry_int_place
  exact search_vc (E := eApiEntry) (fun s => cmpI s.Index n) (by kernel_rfl) (by kernel_rfl) (fun _ => rfl) hx hle (hu.rises ordI n) (fun y _ w' K' hx' hk => entry_place_1_calls (e := y) (entry_place_1_spec fun w'' h => hk w'' h)) hK
def findOf (l : List ApiEntry) (n : Int) : ApiEntry × Bool := match entOf l n with | some x => (x, true) | none => (noEntry, false)
theorem findOf_some {x : ApiEntry} (h : entOf l n = some x) : findOf l n = (x, true) := by unfold findOf; rw [h]
theorem findOf_none (h : entOf l n = none) : findOf l n = (noEntry, false) := by unfold findOf; rw [h]
theorem entry_Find_spec {K : ApiEntry × Bool → World → Prop} (hs : IsSl eApiEntry w s l) (hu : EUp l) (hle : l.length ≤ 4611686018427387903) (hK : ∀ w', Ext w w' → K (findOf l n) w') : entry_Find s n K w := by
  unfold entry_Find
  refine new_x (Ext.rfl' w) fun b1 w1 hb1 _ hx _ => ?_
  refine entry_place_calls (entry_place_spec (hs.ext hx) hu hle fun w2 i hp hx2 => kp_ext hx2 ?_)
  have hx := hx.trans' hx2
  refine ifNot (ifB_of (fun hf => ?_) (fun hf => wr_x hx hb1 fun w4 hx4 _ => ?_))
  · obtain ⟨hi, hso, _⟩ := found_some ordI hu hp hf
    refine st_rd (E := eApiEntry) (val := ApiEntry.val) (by kernel_rfl) (by kernel_rfl) (hs.ext hx) rfl hi (fun _ => rfl) fun _ => wr_x hx hb1 fun w4 hx4 _ => ?_
    have := hK w4 hx4
    rwa [findOf_some (x := l[i]) hso] at this
  · have := hK w4 hx4
    rwa [findOf_none (found_none ordI hu hp hf)] at this
theorem drop_from {i : Nat} (hu : EUp l) (hp : AtC (fun s => cmpI s.Index n) l i) : l.drop i = l.filter fun x => decide (n ≤ x.Index) := by
  conv => rhs; rw [← List.take_append_drop i l]
  rw [List.filter_append, List.filter_eq_nil_iff.2 (fun x hx => ?_), List.filter_eq_self.2 (fun x hx => ?_), List.nil_append]
  · obtain ⟨j, hj, hg⟩ := mem_drop_ix hx
    have := hp.above j x hg hj
    have := @cmpI_neg x.Index n
    rw [decide_eq_true_iff]; omega
  · obtain ⟨j, hj, hg⟩ := mem_take_ix hx
    have := hp.below j x hg hj
    have := @cmpI_neg x.Index n
    rw [decide_eq_true_iff]; omega
theorem clone_ent_spec {K : Sl → World → Prop} (h : IsSl eApiEntry w s l) (hl : l.length ≤ 1000000) (hK : ∀ s' w', OwnSl eApiEntry w' w.heap.size s' l → Ext w w' → K s' w') : slices_Clone_api_Entry_api_Entry s K w := by
  unfold slices_Clone_api_Entry_api_Entry
  exact clone_vc (E := eApiEntry) 104 (by kernel_rfl) (by kernel_rfl) (fun w => by kernel_rfl) h (by omega) (by decide) fun s' w' h1 h2 _ => hK s' w' h1 h2
theorem entry_From_spec {K : Sl → World → Prop} (hs : IsSl eApiEntry w s l) (hu : EUp l) (hle : l.length ≤ 1000000) (hK : ∀ s' w', OwnSl eApiEntry w' w.heap.size s' (l.filter fun x => decide (n ≤ x.Index)) → Ext w w' → K s' w') : entry_From s n K w := by
  unfold entry_From
  refine entry_place_calls (entry_place_spec hs hu (by omega) fun w2 i hp hx => ?_)
  refine sub_l (E := eApiEntry) (by kernel_rfl) (hs.ext hx) rfl hp.le fun s' h' _ => ?_
  refine slices_Clone_api_Entry_api_Entry_calls (clone_ent_spec h' (by rw [List.length_drop]; omega) fun s'' w5 ho hx5 => ?_)
  rw [drop_from hu hp] at ho
  exact hK _ _ (ho.mono hx.size) (hx.trans' hx5)
/-- The document's search: the first of that index, else -1. -/
theorem ref12_Find_spec {K : Int → World → Prop} (hs : IsSl eApiEntry w s l) (hnone : entOf l n = none → K (-1) w) (hsome : ∀ (k : Nat) (hk : k < l.length), entOf l n = some l[k] → K (k : Int) w) : ref12_Find s n K w := by
  unfold ref12_Find
  have hl := hs.len
  refine up1 (fun k w' => w = w' ∧ ∀ x ∈ l.take k, x.Index ≠ n) 0 l.length rfl (by omega) (by have := hs.le; omega) ⟨rfl, by simp⟩ ?_
  rintro k _ C _ hk ⟨rfl, hq⟩ hC
  refine ifD (fun hlt => ?_) (fun hge => hnone ((get_none ordI).2 (all_done (by omega) hq)))
  have hk1 : k < l.length := by omega
  refine fld_rd (y := l[k].Index) (by kernel_rfl) (by kernel_rfl) hs rfl hk1 rfl fun _ => ?_
  exact ifEq (fun he => hsome k hk1 (get_take ordI hk1 hq he)) (fun hne => hC hk1 _ _ rfl ⟨rfl, all_up hk1 hq hne⟩)

/-! ### Ahead -/
theorem acceptor_Ahead_1_spec {e : ApiEntry} {a : Addr} {c : Int} {K : Bool → World → Prop} (ho : Vc.Obj w a [.int .i64 c]) (hK : ∀ w', Ext w w' → K (decide (e.Index ≤ c)) w') : acceptor_Ahead_1 e a K w := by
  unfold acceptor_Ahead_1
  refine new_x (Ext.rfl' w) fun b1 w2 _ _ hx _ => ?_
  exact ld_obj0 (y := c) (by kernel_rfl) (ho.ext hx) rfl (hK _ hx)
theorem delete_ahead_spec {B : Nat} {a : Addr} {c : Int} {K : Sl → World → Prop} (hs : OwnSl eApiEntry w B s l) (ho : Vc.Obj w a [.int .i64 c]) (ha : some a.block ≠ s.blk)
    (hK : ∀ s' w', OwnSl eApiEntry w' B s' (l.filter fun x => decide (c < x.Index)) → w.grownBy w' s.blk → K s' w') : slices_DeleteFunc_api_Entry_api_Entry_Ahead s a K w := by
  unfold slices_DeleteFunc_api_Entry_api_Entry_Ahead
  have hf : (fun x : ApiEntry => decide (c < x.Index)) = fun x => !decide (x.Index ≤ c) := by
    funext x
    rw [← decide_not]
    exact decide_eq_decide.2 (by omega)
  have hx0 := Ext.rfl' w
  refine slices_IndexFunc_api_Entry_api_Entry_ahead_calls ?_
  unfold slices_IndexFunc_api_Entry_api_Entry_ahead
  refine index_vc (E := eApiEntry) (fun x => decide (x.Index ≤ c)) (by kernel_rfl) (by kernel_rfl) (fun _ => rfl) hs.is (fun y _ w' K' hx' hk => acceptor_Ahead_1_calls (e := y) (acceptor_Ahead_1_spec (ho.ext hx') hk)) (fun w' hnone hx => ?_) (fun w' k hk hp hpre hx => ?_)
  · refine ifEq (fun _ => hK _ _ ?_ (grown_ext hx _)) (fun h => absurd rfl h)
    rw [hf, List.filter_eq_self.2 fun x hx => by rw [hnone x hx]; rfl]
    exact hs.ext hx
  · refine ifEq (fun h => by omega) (fun _ => ?_)
    refine deleteF_vc (E := eApiEntry) (stv := ApiEntry.val) 104 (fun x => decide (x.Index ≤ c)) k (by kernel_rfl) (by kernel_rfl) (by kernel_rfl) (by kernel_rfl) (zv := ApiEntry.val noEntry) (by kernel_rfl) (by kernel_rfl) (fun _ => rfl) (fun _ => rfl) (hs.ext hx) hk hp hpre (fun y _ w' K' hg hk => acceptor_Ahead_1_calls (e := y) (acceptor_Ahead_1_spec ((ho.ext hx).keep (hg.block _ (ho.ext hx).lt ha)) hk)) fun s' w' hs' hg _ => hK _ _ ?_ (grown_trans (grown_ext hx _) hg)
    rw [hf]
    exact hs'
/-- The accepted entries from an index on that lie ahead of what is committed. -/
def aheadOf (l : List ApiEntry) (from_ c : Int) : List ApiEntry := l.filter fun x => decide (from_ ≤ x.Index) && decide (c < x.Index)
theorem acceptor_Ahead_spec {h_ : ApiHard} {c : Int} {K : Sl → World → Prop} (hs : IsSl eApiEntry w h_.Accepted l) (hu : EUp l) (hle : l.length ≤ 1000000) (hK : ∀ s' w', OwnSl eApiEntry w' w.heap.size s' (aheadOf l n c) → Ext w w' → K s' w') : acceptor_Ahead h_ n c K w := by
  unfold acceptor_Ahead
  refine new_x (Ext.rfl' w) fun b1 w2 hb1 hl1 hx _ => ?_
  refine box_ty fun a w4 ha hx4 ho => kp_ext hx4 ?_
  have hx := hx.trans' hx4
  refine entry_From_calls (entry_From_spec (hs.ext hx) hu hle fun s' w6 h6 hx6 => kp_ext hx6 ?_)
  have hge := h6.ge
  have hz4 := hx4.size
  have hlt := ho.lt
  refine slices_DeleteFunc_api_Entry_api_Entry_Ahead_calls (delete_ahead_spec h6 (ho.ext hx6) (fun e => by have := hge _ e.symm; omega) fun s'' w8 h8 hg8 => kp_grown hg8 (fun e => by have := hge _ e.symm; omega) ?_)
  rw [List.filter_filter] at h8
  refine hK _ _ (?_ : OwnSl _ _ _ _ _) (Ext.own (hx.trans' hx6) h6 hx.size hg8)
  unfold aheadOf
  have e : (fun x : ApiEntry => decide (n ≤ x.Index) && decide (c < x.Index)) = fun x => decide (c < x.Index) && decide (n ≤ x.Index) := by funext x; exact Bool.and_comm _ _
  rw [e]
  exact h8.mono hx.size
end Go.Chg
