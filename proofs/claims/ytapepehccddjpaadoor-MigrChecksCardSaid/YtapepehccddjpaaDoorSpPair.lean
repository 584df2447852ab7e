/-
  What packages 'kvone' and 'changeoverref23' do with pairs.
-/
import Derived.Test.YtapepehccddjpaaDoorSpStr
import Derived.Test.YtapepehccddjpaaDoorSpRef05
set_option maxRecDepth 20000
set_option linter.unusedVariables false
namespace Go.Chg
open Go.Vc

abbrev PUp (l : List ApiPair) : Prop := Up cmpS (·.Key) l
def pairOf (l : List ApiPair) (n : List UInt8) : Option ApiPair := getC cmpS (·.Key) l n
def noPair : ApiPair := ⟨[], [], 0⟩
def PairSmall (l : List ApiPair) : Prop := l.length ≤ 80 ∧ ∀ x ∈ l, x.Key.length ≤ 200 ∧ x.Val.length ≤ 200

/-! ### The document's answers -/
theorem ref23_Large_spec {s : Sl} {l : List ApiPair} {K : Bool → World → Prop} {w : World} (hs : IsSl eApiPair w s l) (hK : ∀ b, (b = false → PairSmall l) → K b w) : ref23_Large s K w := by
  unfold ref23_Large
  have hl := hs.len
  have hle := hs.le
  refine up1 (fun k w' => w = w' ∧ ∀ x ∈ l.take k, x.Key.length ≤ 200 ∧ x.Val.length ≤ 200) 0 l.length rfl (by omega) hle ⟨rfl, by simp⟩ ?_
  rintro k _ C _ hk ⟨rfl, hall⟩ hC
  refine ifD (fun hlt => ?_) (fun hge => hK _ fun h => ⟨by simp at h; omega, all_done (by omega) hall⟩)
  have hk1 : k < l.length := by omega
  refine ifD (fun h60 => ?_) (fun h60 => hK _ fun h => absurd h (by simp; omega))
  refine fld_rd (y := l[k].Key) (by kernel_rfl) (by kernel_rfl) hs rfl hk1 rfl fun _ => ?_
  refine ifD (fun hgt => hK _ fun h => by cases h) (fun hng => ?_)
  refine fld_rd (y := l[k].Val) (by kernel_rfl) (by kernel_rfl) hs rfl hk1 rfl fun _ => ?_
  exact ifD (fun hgt => hK _ fun h => by cases h) (fun hng2 => hC hk1 _ _ rfl ⟨rfl, all_up hk1 hall ⟨by omega, by omega⟩⟩)
theorem strLe_neg {a b : List UInt8} : (strLt a b || strEq a b) = false ↔ cmpS b a < 0 := by
  rw [strLt_eq, strEq_eq, cmpS_neg]
  rcases str_tri a b with h | h | h
  · simp [h, str_lt_asymm h]
  · subst h; simp [str_lt_irrefl]
  · have h1 := str_lt_asymm h
    have h2 : ¬ a = b := fun e => by subst e; exact str_lt_irrefl _ h
    simp [h, h1, h2]
theorem ref23_Rise_spec {s : Sl} {l : List ApiPair} {K : Bool → World → Prop} {w : World} (hs : IsSl eApiPair w s l) (hK : ∀ b w', (b = true ↔ PUp l) → Ext w w' → K b w') : ref23_Rise s K w := by
  unfold ref23_Rise
  have hl := hs.len
  have hle := hs.le
  by_cases h0 : l.length = 0
  · have : l = [] := List.length_eq_zero_iff.1 h0
    subst this
    refine up1 (fun k w' => w = w') 1 1 rfl (by omega) (by omega) rfl ?_
    rintro k _ C _ hk rfl hC
    exact ifD (fun h => by omega) (fun _ => hK _ _ ⟨fun _ => List.Pairwise.nil, fun _ => rfl⟩ (Ext.rfl' _))
  refine up1 (fun k w' => Ext w w' ∧ ∀ (j : Nat) x y, l[j]? = some x → l[j + 1]? = some y → j + 1 < k → cmpS x.Key y.Key < 0) 1 l.length rfl (by omega) hle ⟨Ext.rfl' _, fun j x y _ _ h => by omega⟩ ?_
  rintro k w1 C hk0 hk ⟨hx, hall⟩ hC
  refine ifD (fun hlt => ?_) (fun hge => hK _ _ ⟨fun _ => up_of_steps ordS fun j x y hx hy => hall j x y hx hy ?_, fun _ => rfl⟩ hx)
  · have hk1 : k < l.length := by omega
    have hk2 : k - 1 < l.length := by omega
    refine drew_of fun w2 hx2 => ?_
    have hx3 := hx.trans' hx2
    refine fld_rd (y := l[k].Key) (by kernel_rfl) (by kernel_rfl) (hs.ext hx3) rfl hk1 rfl fun _ => ?_
    have e1 : i64 ((k : Int) - 1) = ((k - 1 : Nat) : Int) := by rw [i64_id] <;> omega
    rw [e1]
    refine fld_rd (y := l[k - 1].Key) (by kernel_rfl) (by kernel_rfl) (hs.ext hx3) rfl hk2 rfl fun _ => ?_
    have hg1 := List.getElem?_eq_getElem hk1
    have hg2 := List.getElem?_eq_getElem hk2
    refine ifB_of (fun hle => hK _ _ ⟨fun h => (by cases h), fun hu => ?_⟩ hx3) (fun hgt => hC hk1 _ _ rfl ⟨hx3, fun j x y hx hy hj => ?_⟩)
    · have := Up.steps hu hg2 (by rw [show k - 1 + 1 = k by omega]; exact hg1)
      rw [strLe_neg.2 this] at hle
      cases hle
    · by_cases hjk : j + 1 = k
      · have ej : j = k - 1 := by omega
        subst ej
        rw [hg2] at hx
        rw [hjk, hg1] at hy
        cases hx
        cases hy
        exact strLe_neg.1 hgt
      · exact hall j x y hx hy (by omega)
  · have := (List.getElem?_eq_some_iff.1 hy).1
    omega
def pairOk (schema : Int) (p : ApiPair) : Prop := keyOk p.Key = true ∧ valOk p.Val = true ∧ (schema = 1 → p.Rev = 0) ∧ (schema = 2 → 1 ≤ p.Rev ∧ p.Rev ≤ 4294967296)
def PairsOk (schema : Int) (l : List ApiPair) : Prop := (∀ p ∈ l, pairOk schema p) ∧ l.length ≤ 64 ∧ PUp l
theorem ref23_Check_spec {schema : Int} {s : Sl} {l : List ApiPair} {K : Bool → World → Prop} {w : World} (hs : IsSl eApiPair w s l) (hK : ∀ b w', (b = true ↔ PairsOk schema l) → Ext w w' → K b w') : ref23_Check schema s K w := by
  unfold ref23_Check
  have hl := hs.len
  have hle := hs.le
  refine up1 (fun k w' => w = w' ∧ ∀ x ∈ l.take k, pairOk schema x) 0 l.length rfl (by omega) hle ⟨rfl, by simp⟩ ?_
  rintro k _ C _ hk ⟨rfl, hall⟩ hC
  refine ifD (fun hlt => ?_) (fun hge => ?_)
  · have hk1 : k < l.length := by omega
    have bad : ¬ pairOk schema l[k] → K false w := fun h => hK _ _ ⟨fun h => (by cases h), fun h' => absurd (h'.1 _ (List.getElem_mem hk1)) h⟩ (Ext.rfl' _)
    have good : pairOk schema l[k] → C (i64 ((k : Int) + 1)) w := fun h => hC hk1 _ _ rfl ⟨rfl, all_up hk1 hall h⟩
    refine fld_rd (y := l[k].Key) (by kernel_rfl) (by kernel_rfl) hs rfl hk1 rfl fun _ => ?_
    refine ref05_Key_calls (ref05_Key_spec (ifNot (ifB_of (fun hkey => ?_) (fun hkey => bad fun h => by rw [h.1] at hkey; cases hkey))))
    refine fld_rd (y := l[k].Val) (by kernel_rfl) (by kernel_rfl) hs rfl hk1 rfl fun _ => ?_
    refine ref05_Val_calls (ref05_Val_spec (ifNot (ifB_of (fun hval => ?_) (fun hval => bad fun h => by rw [h.2.1] at hval; cases hval))))
    refine ifEq (fun h1 => ?_) (fun h1 => ?_)
    · refine fld_rd (y := l[k].Rev) (by kernel_rfl) (by kernel_rfl) hs rfl hk1 rfl fun _ => ?_
      refine ifNe (fun h => bad fun h' => h (h'.2.2.1 h1)) (fun h => ?_)
      exact ifEq (fun h2 => by omega) (fun h2 => good ⟨hkey, hval, fun _ => h, fun e => absurd e h2⟩)
    · refine ifEq (fun h2 => ?_) (fun h2 => good ⟨hkey, hval, fun e => absurd e h1, fun e => absurd e h2⟩)
      refine fld_rd (y := l[k].Rev) (by kernel_rfl) (by kernel_rfl) hs rfl hk1 rfl fun _ => ?_
      refine ifD (fun h => bad fun h' => by have := h'.2.2.2 h2; omega) (fun h => ?_)
      refine fld_rd (y := l[k].Rev) (by kernel_rfl) (by kernel_rfl) hs rfl hk1 rfl fun _ => ?_
      exact ifD (fun h => bad fun h' => by have := h'.2.2.2 h2; omega) (fun h' => good ⟨hkey, hval, fun e => absurd e h1, fun _ => by omega⟩)
  · have hall' := all_done (by omega) hall
    refine ifD (fun h64 => ?_) (fun h64 => hK _ _ ⟨fun h => (by cases h), fun h => by have := h.2.1; omega⟩ (Ext.rfl' _))
    refine ref23_Rise_calls (ref23_Rise_spec hs fun b w1 hb hx1 => hK _ _ ?_ hx1)
    exact hb.trans ⟨fun h => ⟨hall', by omega, h⟩, fun h => h.2.2⟩
theorem ref23_Same_spec {a b : Sl} {la lb : List ApiPair} {K : Bool → World → Prop} {w : World} (ha : IsSl eApiPair w a la) (hb : IsSl eApiPair w b lb) (hK : ∀ t w', (t = true ↔ la = lb) → Ext w w' → K t w') : ref23_Same a b K w := by
  unfold ref23_Same
  exact same_vc (E := eApiPair) (r := fun x y => (ApiPair.eqs x y).all id) (by kernel_rfl) (by kernel_rfl) (by kernel_rfl) (fun _ => rfl) (by kernel_rfl) (fun x y => ApiPair.eqv x y) (fun x y => ApiPair.eqs_iff) ha hb hK
/-- The place of a key: below 0: there is none. -/
theorem ref23_Place_spec {s : Sl} {l : List ApiPair} {n : List UInt8} {K : Int → World → Prop} {w : World} (hs : IsSl eApiPair w s l)
    (h1 : ∀ k (hk : k < l.length), pairOf l n = some l[k] → l[k].Key = n → (∀ j (hj : j < k), (l[j]'(by omega)).Key ≠ n) → K (k : Int) w) (h2 : pairOf l n = none → K (-1) w) : ref23_Place s n K w := by
  unfold ref23_Place
  have hl := hs.len
  have hle := hs.le
  refine up1 (fun k w' => w = w' ∧ ∀ x ∈ l.take k, x.Key ≠ n) 0 l.length rfl (by omega) hle ⟨rfl, by simp⟩ ?_
  rintro k _ C _ hk ⟨rfl, hall⟩ hC
  refine ifD (fun hlt => ?_) (fun hge => h2 ((get_none ordS).2 (all_done (by omega) hall)))
  have hk1 : k < l.length := by omega
  refine fld_rd (y := l[k].Key) (by kernel_rfl) (by kernel_rfl) hs rfl hk1 rfl fun _ => ?_
  refine ifStr (fun h => h1 k hk1 (get_take ordS hk1 hall h) h fun j hj => ?_) (fun h => hC hk1 _ _ rfl ⟨rfl, all_up hk1 hall h⟩)
  exact hall _ (List.mem_take_iff_getElem.2 ⟨j, by omega, rfl⟩)

/-! ### The program's -/
theorem kvone_place_1_spec {p : ApiPair} {n : List UInt8} {K : Int → World → Prop} {w : World} (hK : ∀ w', Ext w w' → K (cmpS p.Key n) w') : kvone_place_1 p n K w := by
  unfold kvone_place_1
  exact new_of fun b1 w1 hn => strings_Compare_calls (strings_Compare_spec (kp_same (hK w1 (Ext.new hn))))
theorem kvone_place_spec {x : Sl} {l : List ApiPair} {n : List UInt8} {K : Int × Bool → World → Prop} {w : World} (hx : IsSl eApiPair w x l) (hu : PUp l) (hle : l.length ≤ 4611686018427387903)
    (hK : ∀ (w' : World) (i : Nat), AtC (fun s => cmpS s.Key n) l i → Ext w w' → K ((i : Int), foundC (fun s => cmpS s.Key n) l i) w') : kvone_place x n K w := by
  unfold kvone_place
  refine slices_BinarySearchFunc_api_Pair_api_Pair_string_place_calls ?_
  unfold slices_BinarySearchFunc_api_Pair_api_Pair_string_place
  exact search_vc (E := eApiPair) (fun s => cmpS s.Key n) (by kernel_rfl) (by kernel_rfl) (fun _ => rfl) hx hle (hu.rises ordS n) (fun y _ w' K' hx' hk => kvone_place_1_calls (kvone_place_1_spec fun w'' h => hk w'' h)) hK
theorem kvone_Find_spec {s : Sl} {l : List ApiPair} {n : List UInt8} {K : ApiPair × Bool → World → Prop} {w : World} (hs : IsSl eApiPair w s l) (hu : PUp l) (hle : l.length ≤ 4611686018427387903)
    (hK : ∀ w', Ext w w' → K ((pairOf l n).getD noPair, (pairOf l n).isSome) w') : kvone_Find s n K w := by
  unfold kvone_Find
  refine new_of fun b1 w1 hn1 => ?_
  have hb1 : b1 = w.heap.size := hn1.1
  have hx1 := Ext.new hn1
  refine kvone_place_calls (kvone_place_spec (hs.ext hx1) hu hle fun w2 i hp hx2 => kp_ext hx2 ?_)
  have hx := hx1.trans' hx2
  refine ifNot (ifB_of (fun hf => ?_) (fun hf => ?_))
  · obtain ⟨hi, hso, _⟩ := found_some ordS hu hp hf
    refine st_rd (val := ApiPair.val) (by kernel_rfl) (by kernel_rfl) (hs.ext hx) rfl hi (fun _ => rfl) fun _ => wr_of fun w3 hw3 => ?_
    have := hK w3 (Below.wr hx (by omega) hw3)
    rw [show pairOf l n = some l[i] from hso] at this
    exact this
  · refine wr_of fun w3 hw3 => ?_
    have := hK w3 (Below.wr hx (by omega) hw3)
    rw [show pairOf l n = none from found_none ordS hu hp hf] at this
    exact this
theorem clone_pair_spec {s : Sl} {l : List ApiPair} {K : Sl → World → Prop} {w : World} (h : IsSl eApiPair w s l) (hl : l.length ≤ 1000000) (hK : ∀ s' w', OwnSl eApiPair w' w.heap.size s' l → Ext w w' → K s' w') : slices_Clone_api_Pair_api_Pair s K w := by
  unfold slices_Clone_api_Pair_api_Pair
  exact clone_vc (E := eApiPair) 40 (by kernel_rfl) (by kernel_rfl) (fun w => by kernel_rfl) h (by omega) (by decide) fun s' w' h1 h2 _ => hK s' w' h1 h2
theorem insert_pair_spec {s v : Sl} {l vs : List ApiPair} {i : Int} (k : Nat) {B gv : Nat} {K : Sl → World → Prop} {w : World} (hi : i = (k : Int)) (hk : k ≤ l.length) (hs : OwnSl eApiPair w B s l) (hv : LitSl eApiPair w gv v vs) (hne : s.blk ≠ some gv) (hvs : vs ≠ [])
    (hB : B ≤ w.heap.size) (hl : l.length + vs.length ≤ 1000000) (hK : ∀ s' w', OwnSl eApiPair w' B s' (l.take k ++ vs ++ l.drop k) → w.grownBy w' s.blk → NewOr w s s' → K s' w') : slices_Insert_api_Pair_api_Pair s i v K w := by
  unfold slices_Insert_api_Pair_api_Pair
  exact insert_vc (E := eApiPair) 40 k (by kernel_rfl) (by kernel_rfl) (by kernel_rfl) (by kernel_rfl) (by decide) ov_slices_overlaps_api_Pair hi hk hs hv hne hvs hB (by omega) hK
theorem delete_pair_spec {s : Sl} {l : List ApiPair} {i j : Int} (k m : Nat) {B : Nat} {K : Sl → World → Prop} {w : World} (hi : i = (k : Int)) (hj : j = (m : Int)) (hkm : k < m) (hm : m ≤ l.length) (hs : OwnSl eApiPair w B s l)
    (hK : ∀ s' w', OwnSl eApiPair w' B s' (l.take k ++ l.drop m) → w.grownBy w' s.blk → NewOr w s s' → K s' w') : slices_Delete_api_Pair_api_Pair s i j K w := by
  unfold slices_Delete_api_Pair_api_Pair
  exact delete_vc (E := eApiPair) (zv := .agg ⟨[sval [], sval [], .int .i64 0]⟩) 40 k m (by kernel_rfl) (by kernel_rfl) (by kernel_rfl) (by kernel_rfl) (by kernel_rfl) hi hj hkm hm hs hK
end Go.Chg
