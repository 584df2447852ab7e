/-
  Entries by their index, for package 'ledger': packages 'entry' and 'changeoverref12'.
-/
import Derived.Test.YtnnoalpkldpjfaaSpCmp
import Derived.Test.YtnnoalpkldpjfaaDel
import Derived.Test.YtnnoalpkldpjfaaTid
set_option maxRecDepth 20000
set_option linter.unusedVariables false
namespace Go.Chg
open Go.Vc
open Go.RowKit (Below)
variable {w : World} {s : Sl} {l xs ys : List ApiEntry} {n : Int}
abbrev EUp (l : List ApiEntry) : Prop := Up cmpI (·.Index) l
def entOf (l : List ApiEntry) (n : Int) : Option ApiEntry := getC cmpI (·.Index) l n
def noEntry : ApiEntry := ⟨0, ⟨0, 0⟩, ⟨0, 0, 0, [], [], [], 0⟩⟩
theorem entry_place_1_spec {e : ApiEntry} {K : Int → World → Prop} (hK : ∀ w', Ext w w' → K (cmpI e.Index n) w') : entry_place_1 e n K w := by
  unfold entry_place_1
  exact new_of fun b1 w1 hn => cmp_Compare_int_calls (cmp_Compare_int_spec (kp_same (hK w1 (Ext.new hn))))
theorem entry_place_spec {K : Int × Bool → World → Prop} (hx : IsSl eApiEntry w s l) (hu : EUp l) (hle : l.length ≤ 4611686018427387903)
    (hK : ∀ (w' : World) (i : Nat), AtC (fun s => cmpI s.Index n) l i → Ext w w' → K ((i : Int), foundC (fun s => cmpI s.Index n) l i) w') : entry_place s n K w := by
  unfold entry_place
  refine slices_BinarySearchFunc_api_Entry_api_Entry_int_place_calls ?_
  unfold slices_BinarySearchFunc_api_Entry_api_Entry_int_place
  exact search_vc (E := eApiEntry) (fun s => cmpI s.Index n) (by kernel_rfl) (by kernel_rfl) (fun _ => rfl) hx hle (hu.rises ordI n) (fun y _ w' K' hx' hk => entry_place_1_calls (e := y) (entry_place_1_spec fun w'' h => hk w'' h)) hK
def findOf (l : List ApiEntry) (n : Int) : ApiEntry × Bool := match entOf l n with | some x => (x, true) | none => (noEntry, false)
theorem findOf_some {x : ApiEntry} (h : entOf l n = some x) : findOf l n = (x, true) := by unfold findOf; rw [h]
theorem findOf_none (h : entOf l n = none) : findOf l n = (noEntry, false) := by unfold findOf; rw [h]
theorem drop_from {i : Nat} (hu : EUp l) (hp : AtC (fun s => cmpI s.Index n) l i) : l.drop i = l.filter fun x => decide (n ≤ x.Index) := by
  conv => rhs; rw [← List.take_append_drop i l]
  rw [List.filter_append, List.filter_eq_nil_iff.2 (fun x hx => ?_), List.filter_eq_self.2 (fun x hx => ?_), List.nil_append]
  · obtain ⟨j, hj, hg⟩ := mem_drop_ix hx
    have := hp.above j x hg hj
    have := @cmpI_neg x.Index n
    rw [decide_eq_true_iff]; omega
  · obtain ⟨j, hj, hg⟩ := mem_take_ix hx
    have := hp.below j x hg hj
    have := @cmpI_neg x.Index n
    rw [decide_eq_true_iff]; omega
theorem clone_ent_spec {K : Sl → World → Prop} (h : IsSl eApiEntry w s l) (hl : l.length ≤ 1000000) (hK : ∀ s' w', OwnSl eApiEntry w' w.heap.size s' l → Ext w w' → K s' w') : slices_Clone_api_Entry_api_Entry s K w := by
  unfold slices_Clone_api_Entry_api_Entry
  exact clone_vc (E := eApiEntry) 104 (by kernel_rfl) (by kernel_rfl) (fun w => by kernel_rfl) h (by omega) (by decide) fun s' w' h1 h2 _ => hK s' w' h1 h2
theorem entry_From_spec {K : Sl → World → Prop} (hs : IsSl eApiEntry w s l) (hu : EUp l) (hle : l.length ≤ 1000000) (hK : ∀ s' w', OwnSl eApiEntry w' w.heap.size s' (l.filter fun x => decide (n ≤ x.Index)) → Ext w w' → K s' w') : entry_From s n K w := by
  unfold entry_From
  refine entry_place_calls (entry_place_spec hs hu (by omega) fun w2 i hp hx => ?_)
  refine sub_l (E := eApiEntry) (by kernel_rfl) (hs.ext hx) rfl hp.le fun s' h' _ => ?_
  refine slices_Clone_api_Entry_api_Entry_calls (clone_ent_spec h' (by rw [List.length_drop]; omega) fun s'' w5 ho hx5 => ?_)
  rw [drop_from hu hp] at ho
  exact hK _ _ (ho.mono hx.size) (hx.trans' hx5)
theorem cmpI_nn {x y : Int} : 0 ≤ cmpI x y ↔ y ≤ x := by
  have := @cmpI_neg x y
  omega
theorem cmpI_nz {x y : Int} : cmpI x y ≠ 0 ↔ x ≠ y := by rw [Ne, cmpI_zero]
def entWith (l : List ApiEntry) (e : ApiEntry) : List ApiEntry := insC (fun x => cmpI x.Index e.Index) l e
theorem ref12_Same_spec {a b : Sl} {K : Bool → World → Prop} (ha : IsSl eApiEntry w a xs) (hb : IsSl eApiEntry w b ys) (hK : ∀ t w', (t = true ↔ xs = ys) → Ext w w' → K t w') : ref12_Same a b K w := by
  unfold ref12_Same
  have la := ha.len
  have lb := hb.len
  refine ifNe (fun h => hK _ _ ⟨fun e => (by cases e), fun e => absurd (by rw [la, lb, e]) h⟩ (Ext.rfl' _)) (fun h => ?_)
  have hle : xs.length = ys.length := by omega
  refine up1 (fun k w' => Ext w w' ∧ xs.take k = ys.take k) 0 xs.length rfl (by omega) (by have := ha.le; omega) ⟨Ext.rfl' _, rfl⟩ ?_
  rintro k w3 C _ hk ⟨hx, hq⟩ hC
  refine ifD (fun hlt => ?_) (fun hge => ?_)
  · have hk1 : k < xs.length := by omega
    have hk2 : k < ys.length := by omega
    refine drew_of fun w4 hx' => ?_
    have hx := hx.trans' hx'
    refine st_rd (E := eApiEntry) (val := ApiEntry.val) (by kernel_rfl) (by kernel_rfl) (ha.ext hx) rfl hk1 (fun _ => rfl) fun _ => ?_
    refine st_rd (E := eApiEntry) (val := ApiEntry.val) (by kernel_rfl) (by kernel_rfl) (hb.ext hx) rfl hk2 (fun _ => rfl) fun _ => ?_
    refine neSt (by kernel_rfl) (ApiEntry.eqv xs[k] ys[k]) (ifNot (ifB_of (fun h => hC hk1 _ _ rfl ⟨hx, ?_⟩) (fun h => hK _ _ ⟨fun e => (by cases e), fun e => ?_⟩ hx)))
    · rw [take_up hk1, take_up hk2, hq, ApiEntry.eqs_iff.1 h]
    · subst e
      rw [ApiEntry.eqs_iff.2 rfl] at h
      cases h
  · rw [take_done (by omega), take_done (by omega)] at hq
    exact hK _ _ ⟨fun _ => hq, fun _ => rfl⟩ hx
theorem ref12_Large_spec {K : Bool → World → Prop} (h : IsSl eApiEntry w s xs) (hK : ∀ t, (t = false → xs.length ≤ 40) → K t w) : ref12_Large s K w := by
  unfold ref12_Large
  have hl := h.len
  refine up1 (fun k w' => w = w') 0 xs.length rfl (by omega) (by have := h.le; omega) rfl ?_
  rintro k _ C _ hk rfl hC
  have fin : k = xs.length ∨ ¬ k < 40 → K (decide ((s.len : Int) > 40)) w := fun _ => hK _ fun e => by
    rw [decide_eq_false_iff_not] at e
    omega
  refine ifD (fun hlt => ?_) (fun hge => fin (.inl (by omega)))
  have hk1 : k < xs.length := by omega
  refine ifD (fun h40 => ?_) (fun h40 => fin (.inr (by omega)))
  have yes : ∀ {p : Prop}, p → K true w := fun _ => hK _ fun e => by cases e
  refine fld2_rd (y := xs[k].Cmd.Key) (o1 := 3) (o2 := 3) (by kernel_rfl) (by kernel_rfl) h rfl hk1 rfl fun _ => ?_
  refine ifD yes (fun h1 => ?_)
  refine fld2_rd (y := xs[k].Cmd.Val) (o1 := 3) (o2 := 4) (by kernel_rfl) (by kernel_rfl) h rfl hk1 rfl fun _ => ?_
  refine ifD yes (fun h2 => ?_)
  refine fld2_rd (y := xs[k].Cmd.Old) (o1 := 3) (o2 := 5) (by kernel_rfl) (by kernel_rfl) h rfl hk1 rfl fun _ => ?_
  exact ifD yes (fun h3 => hC hk1 _ _ rfl rfl)
theorem ref12_Rise_spec {s : Sl} {l : List ApiEntry} {K : Bool → World → Prop} {w : World} (hs : IsSl eApiEntry w s l) (hK : ∀ b w', (b = true ↔ EUp l) → Ext w w' → K b w') : ref12_Rise s K w := by
  unfold ref12_Rise
  have hl := hs.len
  have hle := hs.le
  by_cases h0 : l.length = 0
  · have : l = [] := List.length_eq_zero_iff.1 h0
    subst this
    refine up1 (fun k w' => w = w') 1 1 rfl (by omega) (by omega) rfl ?_
    rintro k _ C _ hk rfl hC
    exact ifD (fun h => by omega) (fun _ => hK _ _ ⟨fun _ => List.Pairwise.nil, fun _ => rfl⟩ (Ext.rfl' _))
  refine up1 (fun k w' => Ext w w' ∧ ∀ (j : Nat) x y, l[j]? = some x → l[j + 1]? = some y → j + 1 < k → cmpI x.Index y.Index < 0) 1 l.length rfl (by omega) hle ⟨Ext.rfl' _, fun j x y _ _ h => by omega⟩ ?_
  rintro k w1 C hk0 hk ⟨hx, hall⟩ hC
  refine ifD (fun hlt => ?_) (fun hge => hK _ _ ⟨fun _ => up_of_steps ordI fun j x y hx hy => hall j x y hx hy ?_, fun _ => rfl⟩ hx)
  · have hk1 : k < l.length := by omega
    have hk2 : k - 1 < l.length := by omega
    refine drew_of fun w2 hx2 => ?_
    have hx3 := hx.trans' hx2
    refine fld_rd (y := l[k].Index) (by kernel_rfl) (by kernel_rfl) (hs.ext hx3) rfl hk1 rfl fun _ => ?_
    have e1 : i64 ((k : Int) - 1) = ((k - 1 : Nat) : Int) := by rw [i64_id] <;> omega
    rw [e1]
    refine fld_rd (y := l[k - 1].Index) (by kernel_rfl) (by kernel_rfl) (hs.ext hx3) rfl hk2 rfl fun _ => ?_
    have hg1 := List.getElem?_eq_getElem hk1
    have hg2 := List.getElem?_eq_getElem hk2
    refine ifD (fun hle => hK _ _ ⟨fun h => (by cases h), fun hu => ?_⟩ hx3) (fun hgt => hC hk1 _ _ rfl ⟨hx3, fun j x y hx hy hj => ?_⟩)
    · have := Up.steps hu hg2 (by rw [show k - 1 + 1 = k by omega]; exact hg1)
      rw [cmpI_neg] at this
      omega
    · by_cases hjk : j + 1 = k
      · have ej : j = k - 1 := by omega
        subst ej
        rw [hg2] at hx
        rw [hjk, hg1] at hy
        cases hx
        cases hy
        rw [cmpI_neg]
        omega
      · exact hall j x y hx hy (by omega)
  · have := (List.getElem?_eq_some_iff.1 hy).1
    omega
theorem own_blk {α : Type} {E : Enc α} {w : World} {B : Nat} {s : Sl} {l : List α} (h : OwnSl E w B s l) : ∀ b, s.blk = some b → b < w.heap.size := fun b hb => by
  rcases h.row with ⟨h0, _⟩ | ⟨g, cur, h1, _, h2, _⟩
  · subst h0; cases hb
  · simp [Sl.blk, h1] at hb; subst hb; exact h2.lt
end Go.Chg
