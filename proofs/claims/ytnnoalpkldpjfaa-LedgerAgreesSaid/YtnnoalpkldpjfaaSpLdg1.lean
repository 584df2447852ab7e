/-
  Entries by their index, for package 'ledger': packages 'entry' and 'changeoverref12'.
-/
import Derived.Test.YtnnoalpkldpjfaaSpCmp
import Derived.Test.YtnnoalpkldpjfaaDel
import Derived.Test.YtnnoalpkldpjfaaTid
set_option maxRecDepth 20000
set_option linter.unusedVariables false
namespace Go.Chg
open Go.Vc
open Go.RowKit (Below)
variable {w : World} {s : Sl} {l xs ys : List ApiEntry} {n : Int}
abbrev EUp (l : List ApiEntry) : Prop := Up cmpI (·.Index) l
def entOf (l : List ApiEntry) (n : Int) : Option ApiEntry := getC cmpI (·.Index) l n
def noEntry : ApiEntry := ⟨0, ⟨0, 0⟩, ⟨0, 0, 0, [], [], [], 0⟩⟩
theorem entry_place_1_spec {e : ApiEntry} {K : Int → World → Prop} (hK : ∀ w', Ext w w' → K (cmpI e.Index n) w') : entry_place_1 e n K w := by
  unfold entry_place_1
  exact new_of fun b1 w1 hn => cmp_Compare_int_calls (cmp_Compare_int_spec (kp_same (hK w1 (Ext.new hn))))
theorem entry_place_spec {K : Int × Bool → World → Prop} (hx : IsSl eApiEntry w s l) (hu : EUp l) (hle : l.length ≤ 4611686018427387903)
    (hK : ∀ (w' : World) (i : Nat), AtC (fun s => cmpI s.Index n) l i → Ext w w' → K ((i : Int), foundC (fun s => cmpI s.Index n) l i) w') : entry_place s n K w := by
  unfold entry_place
  refine slices_BinarySearchFunc_api_Entry_api_Entry_int_place_calls ?_
  unfold slices_BinarySearchFunc_api_Entry_api_Entry_int_place
  exact search_vc (E := eApiEntry) (fun s => cmpI s.Index n) (by kernel_rfl) (by kernel_rfl) (fun _ => rfl) hx hle (hu.rises ordI n) (fun y _ w' K' hx' hk => entry_place_1_calls (e := y) (entry_place_1_spec fun w'' h => hk w'' h)) hK
def findOf (l : List ApiEntry) (n : Int) : ApiEntry × Bool := match entOf l n with | some x => (x, true) | none => (noEntry, false)
theorem findOf_some {x : ApiEntry} (h : entOf l n = some x) : findOf l n = (x, true) := by unfold findOf; rw [h]
theorem findOf_none (h : entOf l n = none) : findOf l n = (noEntry, false) := by unfold findOf; rw [h]
theorem entry_Find_spec {K : ApiEntry × Bool → World → Prop} (hs : IsSl eApiEntry w s l) (hu : EUp l) (hle : l.length ≤ 4611686018427387903) (hK : ∀ w', Ext w w' → K (findOf l n) w') : entry_Find s n K w := by
  unfold entry_Find
  refine new_x (Ext.rfl' w) fun b1 w1 hb1 _ hx _ => ?_
  refine entry_place_calls (entry_place_spec (hs.ext hx) hu hle fun w2 i hp hx2 => kp_ext hx2 ?_)
  have hx := hx.trans' hx2
  refine ifNot (ifB_of (fun hf => ?_) (fun hf => wr_x hx hb1 fun w4 hx4 _ => ?_))
  · obtain ⟨hi, hso, _⟩ := found_some ordI hu hp hf
    refine st_rd (E := eApiEntry) (val := ApiEntry.val) (by kernel_rfl) (by kernel_rfl) (hs.ext hx) rfl hi (fun _ => rfl) fun _ => wr_x hx hb1 fun w4 hx4 _ => ?_
    have := hK w4 hx4
    rwa [findOf_some (x := l[i]) hso] at this
  · have := hK w4 hx4
    rwa [findOf_none (found_none ordI hu hp hf)] at this
theorem drop_from {i : Nat} (hu : EUp l) (hp : AtC (fun s => cmpI s.Index n) l i) : l.drop i = l.filter fun x => decide (n ≤ x.Index) := by
  conv => rhs; rw [← List.take_append_drop i l]
  rw [List.filter_append, List.filter_eq_nil_iff.2 (fun x hx => ?_), List.filter_eq_self.2 (fun x hx => ?_), List.nil_append]
  · obtain ⟨j, hj, hg⟩ := mem_drop_ix hx
    have := hp.above j x hg hj
    have := @cmpI_neg x.Index n
    rw [decide_eq_true_iff]; omega
  · obtain ⟨j, hj, hg⟩ := mem_take_ix hx
    have := hp.below j x hg hj
    have := @cmpI_neg x.Index n
    rw [decide_eq_true_iff]; omega
theorem clone_ent_spec {K : Sl → World → Prop} (h : IsSl eApiEntry w s l) (hl : l.length ≤ 1000000) (hK : ∀ s' w', OwnSl eApiEntry w' w.heap.size s' l → Ext w w' → K s' w') : slices_Clone_api_Entry_api_Entry s K w := by
  unfold slices_Clone_api_Entry_api_Entry
  exact clone_vc (E := eApiEntry) 104 (by kernel_rfl) (by kernel_rfl) (fun w => by kernel_rfl) h (by omega) (by decide) fun s' w' h1 h2 _ => hK s' w' h1 h2
theorem entry_From_spec {K : Sl → World → Prop} (hs : IsSl eApiEntry w s l) (hu : EUp l) (hle : l.length ≤ 1000000) (hK : ∀ s' w', OwnSl eApiEntry w' w.heap.size s' (l.filter fun x => decide (n ≤ x.Index)) → Ext w w' → K s' w') : entry_From s n K w := by
  unfold entry_From
  refine entry_place_calls (entry_place_spec hs hu (by omega) fun w2 i hp hx => ?_)
  refine sub_l (E := eApiEntry) (by kernel_rfl) (hs.ext hx) rfl hp.le fun s' h' _ => ?_
  refine slices_Clone_api_Entry_api_Entry_calls (clone_ent_spec h' (by rw [List.length_drop]; omega) fun s'' w5 ho hx5 => ?_)
  rw [drop_from hu hp] at ho
  exact hK _ _ (ho.mono hx.size) (hx.trans' hx5)
/-- The document's search: the first of that index, else -1. -/
theorem ref12_Find_spec {K : Int → World → Prop} (hs : IsSl eApiEntry w s l) (hnone : entOf l n = none → K (-1) w) (hsome : ∀ (k : Nat) (hk : k < l.length), entOf l n = some l[k] → K (k : Int) w) : ref12_Find s n K w := by
  unfold ref12_Find
  have hl := hs.len
  refine up1 (fun k w' => w = w' ∧ ∀ x ∈ l.take k, x.Index ≠ n) 0 l.length rfl (by omega) (by have := hs.le; omega) ⟨rfl, by simp⟩ ?_
  rintro k _ C _ hk ⟨rfl, hq⟩ hC
  refine ifD (fun hlt => ?_) (fun hge => hnone ((get_none ordI).2 (all_done (by omega) hq)))
  have hk1 : k < l.length := by omega
  refine fld_rd (y := l[k].Index) (by kernel_rfl) (by kernel_rfl) hs rfl hk1 rfl fun _ => ?_
  exact ifEq (fun he => hsome k hk1 (get_take ordI hk1 hq he)) (fun hne => hC hk1 _ _ rfl ⟨rfl, all_up hk1 hq hne⟩)

theorem cmpI_nn {x y : Int} : 0 ≤ cmpI x y ↔ y ≤ x := by
  have := @cmpI_neg x y
  omega
theorem cmpI_nz {x y : Int} : cmpI x y ≠ 0 ↔ x ≠ y := by rw [Ne, cmpI_zero]
def entWith (l : List ApiEntry) (e : ApiEntry) : List ApiEntry := insC (fun x => cmpI x.Index e.Index) l e
theorem ref12_With_spec {s : Sl} {l : List ApiEntry} {e : ApiEntry} {K : Sl → World → Prop} {w : World} (hs : IsSl eApiEntry w s l) (hu : EUp l) (hle : l.length ≤ 1000000)
    (hK : ∀ s' w', OwnSl eApiEntry w' w.heap.size s' (entWith l e) → Ext w w' → K s' w') : ref12_With s e K w := by
  unfold ref12_With
  have hl := hs.len
  refine new_of fun b1 w1 hn1 => ?_
  have hb1 : b1 = w.heap.size := hn1.1
  have hx1 := Ext.new hn1
  have hw1 := hn1.lt
  have hB : w.heap.size ≤ w1.heap.size := hx1.size
  have kpo : ∀ {w' w'' : World} {X : Prop} {out : Sl} {r : List ApiEntry}, OwnSl eApiEntry w' w1.heap.size out r → w'.grownBy w'' out.blk → X → kp b1 w' w'' X := fun ho hg x => kp_grown hg (fun e => by have := ho.ge b1 e.symm; omega) x
  refine up3c (fun k out done w' => Ext w w' ∧ w1.heap.size ≤ w'.heap.size ∧ OwnSl eApiEntry w' w1.heap.size out (withL cmpI (·.Index) (e) (l.take k)).1 ∧ done = (withL cmpI (·.Index) (e) (l.take k)).2) 0 l.length rfl (by omega) (by omega)
    ⟨hx1, Nat.le_refl _, OwnSl.nil _ _ _, rfl⟩ ?_
  rintro k out done w2 C _ hk ⟨hx, hsz, ho, hd⟩ hC
  have hlen := withL_len (cmp := cmpI) (key := (·.Index)) (s := e) (l.take k)
  rw [List.length_take] at hlen
  refine ifD (fun hlt => ?_) (fun hge => ?_)
  · have hk1 : k < l.length := by omega
    have hup := withL_up (cmp := cmpI) (key := (·.Index)) (s := e) hk1
    generalize hst : withL cmpI (·.Index) (e) (l.take k) = st at ho hd hlen hup
    subst hd
    refine ⟨fun out' done' w' => Ext w w' ∧ w1.heap.size ≤ w'.heap.size ∧ OwnSl eApiEntry w' w1.heap.size out' (putS cmpI (·.Index) (e) st l[k]).1 ∧ done' = (putS cmpI (·.Index) (e) st l[k]).2, ?_, ?_⟩
    · refine drew_of fun w3 hx3 => ?_
      have hx3' := hx.trans' hx3
      have hsz3 := Nat.le_trans hsz hx3.size
      have ho3 := ho.ext hx3
      refine ifNot (ifB_of (fun hd => ?_) (fun hd => ?_))
      · have eq : putS cmpI (·.Index) (e) st l[k] = st := by unfold putS; rw [if_neg (fun h => by rw [hd] at h; cases h.1)]
        rw [eq]
        exact ⟨hx3', hsz3, ho3, rfl⟩
      · refine fld_rd (y := l[k].Index) (by kernel_rfl) (by kernel_rfl) (hs.ext hx3') rfl hk1 rfl fun _ => ?_
        refine ifD (fun hge => ?_) (fun hlt => ?_)
        · have eq : putS cmpI (·.Index) (e) st l[k] = (st.1 ++ [e], true) := by
            unfold putS; rw [if_pos ⟨hd, cmpI_nn.2 hge⟩]
          rw [eq]
          refine lit1_ty (E := eApiEntry) (x := e) 104 w1.heap.size (by kernel_rfl) (by decide) (fun w => by kernel_rfl) hsz3 fun s1 w4 _ ho1 hx4 => kp_ext hx4 ?_
          refine app_ty 104 (by kernel_rfl) (by kernel_rfl) (ho3.ext hx4) ho1.is (by simp; omega) (Nat.le_trans hsz3 hx4.size) (by decide) fun s2 w5 ho2 hg => kpo (ho3.ext hx4) hg ?_
          exact ⟨Ext.own (hx3'.trans' hx4) (ho3.ext hx4) hB hg, Nat.le_trans hsz3 (Nat.le_trans hx4.size hg.size), ho2, rfl⟩
        · have eq : putS cmpI (·.Index) (e) st l[k] = st := by
            unfold putS; rw [if_neg (fun h => hlt (cmpI_nn.1 h.2))]
          rw [eq]
          exact ⟨hx3', hsz3, ho3, rfl⟩
    · rintro out4 done4 w4 ⟨hx4, hsz4, ho4, rfl⟩
      have hpl : (putS cmpI (·.Index) (e) st l[k]).1.length ≤ st.1.length + 1 := by unfold putS; split <;> simp
      refine drew_of fun w5 hx5 => ?_
      have hx5' := hx4.trans' hx5
      have hsz5 := Nat.le_trans hsz4 hx5.size
      have ho5 := ho4.ext hx5
      refine fld_rd (y := l[k].Index) (by kernel_rfl) (by kernel_rfl) (hs.ext hx5') rfl hk1 rfl fun _ => ?_
      refine ifNe (fun hne => ?_) (fun heq => ?_)
      · refine st_rd (val := ApiEntry.val) (by kernel_rfl) (by kernel_rfl) (hs.ext hx5') rfl hk1 (fun _ => rfl) fun _ => ?_
        refine lit1_ty (E := eApiEntry) (x := l[k]) 104 w1.heap.size (by kernel_rfl) (by decide) (fun w => by kernel_rfl) hsz5 fun s1 w6 _ ho1 hx6 => kp_ext hx6 ?_
        refine app_ty 104 (by kernel_rfl) (by kernel_rfl) (ho5.ext hx6) ho1.is (by simp; omega) (Nat.le_trans hsz5 hx6.size) (by decide) fun s2 w7 ho2 hg => kpo (ho5.ext hx6) hg ?_
        have hne' : cmpI l[k].Index (e).Index ≠ 0 := cmpI_nz.2 hne
        refine hC hk1 _ _ _ _ rfl ⟨Ext.own (hx5'.trans' hx6) (ho5.ext hx6) hB hg, Nat.le_trans hsz5 (Nat.le_trans hx6.size hg.size), ?_, ?_⟩
        · rw [hup]; unfold withS; rw [if_pos hne']; exact ho2
        · rw [hup]; rfl
      · have he' : ¬ cmpI l[k].Index (e).Index ≠ 0 := fun h => cmpI_nz.1 h heq
        refine hC hk1 _ _ _ _ rfl ⟨hx5', hsz5, ?_, ?_⟩
        · rw [hup]; unfold withS; rw [if_neg he']; exact ho5
        · rw [hup]; rfl
  · have hfin := with_ins ordI hu (e)
    rw [take_done (by omega)] at ho hd
    have hlen2 := withL_len (cmp := cmpI) (key := (·.Index)) (s := e) l
    refine ifNot (ifB_of (fun h => ?_) (fun h => ?_))
    · rw [← hd, h, if_neg (by simp)] at hfin
      refine hK _ _ ?_ hx
      unfold entWith
      rw [hfin] at ho
      exact ho.mono hB
    · rw [← hd, h, if_pos rfl] at hfin
      refine lit1_ty (E := eApiEntry) (x := e) 104 w1.heap.size (by kernel_rfl) (by decide) (fun w => by kernel_rfl) hsz fun s1 w4 _ ho1 hx4 => kp_ext hx4 ?_
      refine app_ty 104 (by kernel_rfl) (by kernel_rfl) (ho.ext hx4) ho1.is (by simp; omega) (Nat.le_trans hsz hx4.size) (by decide) fun s2 w5 ho2 hg => kpo (ho.ext hx4) hg ?_
      refine hK _ _ ?_ (Ext.own (hx.trans' hx4) (ho.ext hx4) hB hg)
      unfold entWith
      rw [hfin] at ho2
      exact ho2.mono hB

theorem ref12_Same_spec {a b : Sl} {K : Bool → World → Prop} (ha : IsSl eApiEntry w a xs) (hb : IsSl eApiEntry w b ys) (hK : ∀ t w', (t = true ↔ xs = ys) → Ext w w' → K t w') : ref12_Same a b K w := by
  unfold ref12_Same
  have la := ha.len
  have lb := hb.len
  refine ifNe (fun h => hK _ _ ⟨fun e => (by cases e), fun e => absurd (by rw [la, lb, e]) h⟩ (Ext.rfl' _)) (fun h => ?_)
  have hle : xs.length = ys.length := by omega
  refine up1 (fun k w' => Ext w w' ∧ xs.take k = ys.take k) 0 xs.length rfl (by omega) (by have := ha.le; omega) ⟨Ext.rfl' _, rfl⟩ ?_
  rintro k w3 C _ hk ⟨hx, hq⟩ hC
  refine ifD (fun hlt => ?_) (fun hge => ?_)
  · have hk1 : k < xs.length := by omega
    have hk2 : k < ys.length := by omega
    refine drew_of fun w4 hx' => ?_
    have hx := hx.trans' hx'
    refine st_rd (E := eApiEntry) (val := ApiEntry.val) (by kernel_rfl) (by kernel_rfl) (ha.ext hx) rfl hk1 (fun _ => rfl) fun _ => ?_
    refine st_rd (E := eApiEntry) (val := ApiEntry.val) (by kernel_rfl) (by kernel_rfl) (hb.ext hx) rfl hk2 (fun _ => rfl) fun _ => ?_
    refine neSt (by kernel_rfl) (ApiEntry.eqv xs[k] ys[k]) (ifNot (ifB_of (fun h => hC hk1 _ _ rfl ⟨hx, ?_⟩) (fun h => hK _ _ ⟨fun e => (by cases e), fun e => ?_⟩ hx)))
    · rw [take_up hk1, take_up hk2, hq, ApiEntry.eqs_iff.1 h]
    · subst e
      rw [ApiEntry.eqs_iff.2 rfl] at h
      cases h
  · rw [take_done (by omega), take_done (by omega)] at hq
    exact hK _ _ ⟨fun _ => hq, fun _ => rfl⟩ hx
theorem ref12_Large_spec {K : Bool → World → Prop} (h : IsSl eApiEntry w s xs) (hK : ∀ t, (t = false → xs.length ≤ 40) → K t w) : ref12_Large s K w := by
  unfold ref12_Large
  have hl := h.len
  refine up1 (fun k w' => w = w') 0 xs.length rfl (by omega) (by have := h.le; omega) rfl ?_
  rintro k _ C _ hk rfl hC
  have fin : k = xs.length ∨ ¬ k < 40 → K (decide ((s.len : Int) > 40)) w := fun _ => hK _ fun e => by
    rw [decide_eq_false_iff_not] at e
    omega
  refine ifD (fun hlt => ?_) (fun hge => fin (.inl (by omega)))
  have hk1 : k < xs.length := by omega
  refine ifD (fun h40 => ?_) (fun h40 => fin (.inr (by omega)))
  have yes : ∀ {p : Prop}, p → K true w := fun _ => hK _ fun e => by cases e
  refine fld2_rd (y := xs[k].Cmd.Key) (o1 := 3) (o2 := 3) (by kernel_rfl) (by kernel_rfl) h rfl hk1 rfl fun _ => ?_
  refine ifD yes (fun h1 => ?_)
  refine fld2_rd (y := xs[k].Cmd.Val) (o1 := 3) (o2 := 4) (by kernel_rfl) (by kernel_rfl) h rfl hk1 rfl fun _ => ?_
  refine ifD yes (fun h2 => ?_)
  refine fld2_rd (y := xs[k].Cmd.Old) (o1 := 3) (o2 := 5) (by kernel_rfl) (by kernel_rfl) h rfl hk1 rfl fun _ => ?_
  exact ifD yes (fun h3 => hC hk1 _ _ rfl rfl)
theorem ref12_Rise_spec {s : Sl} {l : List ApiEntry} {K : Bool → World → Prop} {w : World} (hs : IsSl eApiEntry w s l) (hK : ∀ b w', (b = true ↔ EUp l) → Ext w w' → K b w') : ref12_Rise s K w := by
  unfold ref12_Rise
  have hl := hs.len
  have hle := hs.le
  by_cases h0 : l.length = 0
  · have : l = [] := List.length_eq_zero_iff.1 h0
    subst this
    refine up1 (fun k w' => w = w') 1 1 rfl (by omega) (by omega) rfl ?_
    rintro k _ C _ hk rfl hC
    exact ifD (fun h => by omega) (fun _ => hK _ _ ⟨fun _ => List.Pairwise.nil, fun _ => rfl⟩ (Ext.rfl' _))
  refine up1 (fun k w' => Ext w w' ∧ ∀ (j : Nat) x y, l[j]? = some x → l[j + 1]? = some y → j + 1 < k → cmpI x.Index y.Index < 0) 1 l.length rfl (by omega) hle ⟨Ext.rfl' _, fun j x y _ _ h => by omega⟩ ?_
  rintro k w1 C hk0 hk ⟨hx, hall⟩ hC
  refine ifD (fun hlt => ?_) (fun hge => hK _ _ ⟨fun _ => up_of_steps ordI fun j x y hx hy => hall j x y hx hy ?_, fun _ => rfl⟩ hx)
  · have hk1 : k < l.length := by omega
    have hk2 : k - 1 < l.length := by omega
    refine drew_of fun w2 hx2 => ?_
    have hx3 := hx.trans' hx2
    refine fld_rd (y := l[k].Index) (by kernel_rfl) (by kernel_rfl) (hs.ext hx3) rfl hk1 rfl fun _ => ?_
    have e1 : i64 ((k : Int) - 1) = ((k - 1 : Nat) : Int) := by rw [i64_id] <;> omega
    rw [e1]
    refine fld_rd (y := l[k - 1].Index) (by kernel_rfl) (by kernel_rfl) (hs.ext hx3) rfl hk2 rfl fun _ => ?_
    have hg1 := List.getElem?_eq_getElem hk1
    have hg2 := List.getElem?_eq_getElem hk2
    refine ifD (fun hle => hK _ _ ⟨fun h => (by cases h), fun hu => ?_⟩ hx3) (fun hgt => hC hk1 _ _ rfl ⟨hx3, fun j x y hx hy hj => ?_⟩)
    · have := Up.steps hu hg2 (by rw [show k - 1 + 1 = k by omega]; exact hg1)
      rw [cmpI_neg] at this
      omega
    · by_cases hjk : j + 1 = k
      · have ej : j = k - 1 := by omega
        subst ej
        rw [hg2] at hx
        rw [hjk, hg1] at hy
        cases hx
        cases hy
        rw [cmpI_neg]
        omega
      · exact hall j x y hx hy (by omega)
  · have := (List.getElem?_eq_some_iff.1 hy).1
    omega
theorem insert_ent_spec {s v : Sl} {l vs : List ApiEntry} {i : Int} (k : Nat) {B gv : Nat} {K : Sl → World → Prop} {w : World} (hi : i = (k : Int)) (hk : k ≤ l.length) (hs : OwnSl eApiEntry w B s l) (hv : LitSl eApiEntry w gv v vs) (hne : s.blk ≠ some gv) (hvs : vs ≠ [])
    (hB : B ≤ w.heap.size) (hl : l.length + vs.length ≤ 1000000) (hK : ∀ s' w', OwnSl eApiEntry w' B s' (l.take k ++ vs ++ l.drop k) → w.grownBy w' s.blk → NewOr w s s' → K s' w') : slices_Insert_api_Entry_api_Entry s i v K w := by
  unfold slices_Insert_api_Entry_api_Entry
  exact insert_vc (E := eApiEntry) 104 k (by kernel_rfl) (by kernel_rfl) (by kernel_rfl) (by kernel_rfl) (by decide) ov_slices_overlaps_api_Entry hi hk hs hv hne hvs hB (by omega) hK
theorem own_blk {α : Type} {E : Enc α} {w : World} {B : Nat} {s : Sl} {l : List α} (h : OwnSl E w B s l) : ∀ b, s.blk = some b → b < w.heap.size := fun b hb => by
  rcases h.row with ⟨h0, _⟩ | ⟨g, cur, h1, _, h2, _⟩
  · subst h0; cases hb
  · simp [Sl.blk, h1] at hb; subst hb; exact h2.lt
theorem entry_With_spec {e : ApiEntry} {K : Sl → World → Prop} (hs : IsSl eApiEntry w s l) (hu : EUp l) (hle : l.length ≤ 100000)
    (hK : ∀ s' w', OwnSl eApiEntry w' w.heap.size s' (entWith l e) → Ext w w' → K s' w') : entry_With s e K w := by
  unfold entry_With
  refine new_x (Ext.rfl' w) fun b1 w2 h1 l1 hx2 n1 => ?_
  refine entry_place_calls (entry_place_spec (hs.ext hx2) hu (by omega) fun w4 i hp hx4 => kp_ext hx4 ?_)
  have hx4' := hx2.trans' hx4
  refine slices_Clone_api_Entry_api_Entry_calls (clone_ent_spec (hs.ext hx4') (by omega) fun out w6 ho hx6 => kp_ext hx6 ?_)
  have hx6' := hx4'.trans' hx6
  have hB := hx4'.size
  have hz4 := hx4.size
  have fin : ∀ (r : List ApiEntry) s' w7, OwnSl eApiEntry w7 w4.heap.size s' r → w6.grownBy w7 out.blk → r = entWith l e → kp b1 w6 w7 (K s' w7) := fun r s' w7 ho' hg hr => by
    have hge := ho.ge
    refine kp_grown hg (fun e => by have := hge b1 e.symm; omega) ?_
    subst hr
    exact hK _ _ (ho'.mono hB) (Ext.own hx6' ho hB hg)
  refine ifB_of (fun hf => ?_) (fun hf => ?_)
  · obtain ⟨hi, hso, _⟩ := found_some ordI hu hp hf
    refine ix_own (by kernel_rfl) ho rfl hi ?_
    refine st_own e (by kernel_rfl) ho hi rfl fun w7 ho7 hg7 => fin _ _ _ ho7 hg7 ?_
    exact (hp.ins_f (hu.rises ordI _) hf e).symm
  · refine lit_sl (E := eApiEntry) [e] rfl (by decide) (fun w => by kernel_rfl) fun v w7 hv hx7 => kp_ext hx7 ?_
    have hblk := own_blk ho
    refine slices_Insert_api_Entry_api_Entry_calls (insert_ent_spec i rfl hp.le (ho.ext hx7) hv (fun e => by have := hblk _ e; omega) (by simp) (Nat.le_trans hx6.size hx7.size) (by simp; omega) fun s' w8 ho8 hg8 _ => ?_)
    have hg := grown_trans (grown_ext hx7 out.blk) hg8
    have hge := ho.ge
    have hr : l.take i ++ [e] ++ l.drop i = entWith l e := by
      rw [show entWith l e = l.take i ++ e :: l.drop i from hp.ins_n (hu.rises ordI _) hf e]
      simp
    refine kp_grown hg8 (fun e => by have := hge b1 e.symm; omega) ?_
    rw [← hr] at hK
    exact hK _ _ (ho8.mono hB) (Ext.own hx6' ho hB hg)
end Go.Chg
