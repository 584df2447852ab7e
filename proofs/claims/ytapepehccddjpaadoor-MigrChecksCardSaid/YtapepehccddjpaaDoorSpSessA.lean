/-
  What packages 'sess' and 'changeoverref22' do.
-/
import Derived.Test.YtapepehccddjpaaDoorSpCmp
set_option maxRecDepth 20000
set_option linter.unusedVariables false
namespace Go.Chg
open Go.Vc

abbrev SUp (l : List ApiSession) : Prop := Up cmpI (·.Client) l
def sessOf (l : List ApiSession) (n : Int) : Option ApiSession := getC cmpI (·.Client) l n
def noAnswer : ApiAnswer := ⟨0, 0, 0, false, [], 0⟩
def SessSmall (l : List ApiSession) : Prop := l.length ≤ 40 ∧ ∀ x ∈ l, x.Last.Val.length ≤ 200
theorem cmpI_nonneg {x y : Int} : 0 ≤ cmpI x y ↔ y ≤ x := by
  have := @cmpI_neg x y
  omega
theorem cmpI_ne {x y : Int} : cmpI x y ≠ 0 ↔ x ≠ y := by rw [Ne, cmpI_zero]

/-! ### The document's answers -/
theorem ref22_Large_spec {s : Sl} {l : List ApiSession} {K : Bool → World → Prop} {w : World} (hs : IsSl eApiSession w s l) (hK : ∀ b, (b = false → SessSmall l) → K b w) : ref22_Large s K w := by
  unfold ref22_Large
  have hl := hs.len
  have hle := hs.le
  refine up1 (fun k w' => w = w' ∧ ∀ x ∈ l.take k, x.Last.Val.length ≤ 200) 0 l.length rfl (by omega) hle ⟨rfl, by simp⟩ ?_
  rintro k _ C _ hk ⟨rfl, hall⟩ hC
  refine ifD (fun hlt => ?_) (fun hge => hK _ fun h => ⟨by simp at h; omega, all_done (by omega) hall⟩)
  have hk1 : k < l.length := by omega
  refine ifD (fun h60 => ?_) (fun h60 => hK _ fun h => absurd h (by simp; omega))
  refine fld2_rd (y := l[k].Last.Val) (by kernel_rfl) (by kernel_rfl) hs rfl hk1 rfl fun _ => ?_
  exact ifD (fun hgt => hK _ fun h => by cases h) (fun hng => hC hk1 _ _ rfl ⟨rfl, all_up hk1 hall (by omega)⟩)
theorem ref22_Rise_spec {s : Sl} {l : List ApiSession} {K : Bool → World → Prop} {w : World} (hs : IsSl eApiSession w s l) (hK : ∀ b w', (b = true ↔ SUp l) → Ext w w' → K b w') : ref22_Rise s K w := by
  unfold ref22_Rise
  have hl := hs.len
  have hle := hs.le
  by_cases h0 : l.length = 0
  · have : l = [] := List.length_eq_zero_iff.1 h0
    subst this
    refine up1 (fun k w' => w = w') 1 1 rfl (by omega) (by omega) rfl ?_
    rintro k _ C _ hk rfl hC
    exact ifD (fun h => by omega) (fun _ => hK _ _ ⟨fun _ => List.Pairwise.nil, fun _ => rfl⟩ (Ext.rfl' _))
  refine up1 (fun k w' => Ext w w' ∧ ∀ (j : Nat) x y, l[j]? = some x → l[j + 1]? = some y → j + 1 < k → cmpI x.Client y.Client < 0) 1 l.length rfl (by omega) hle ⟨Ext.rfl' _, fun j x y _ _ h => by omega⟩ ?_
  rintro k w1 C hk0 hk ⟨hx, hall⟩ hC
  refine ifD (fun hlt => ?_) (fun hge => hK _ _ ⟨fun _ => up_of_steps ordI fun j x y hx hy => hall j x y hx hy ?_, fun _ => rfl⟩ hx)
  · have hk1 : k < l.length := by omega
    have hk2 : k - 1 < l.length := by omega
    refine drew_of fun w2 hx2 => ?_
    have hx3 := hx.trans' hx2
    refine fld_rd (y := l[k].Client) (by kernel_rfl) (by kernel_rfl) (hs.ext hx3) rfl hk1 rfl fun _ => ?_
    have e1 : i64 ((k : Int) - 1) = ((k - 1 : Nat) : Int) := by rw [i64_id] <;> omega
    rw [e1]
    refine fld_rd (y := l[k - 1].Client) (by kernel_rfl) (by kernel_rfl) (hs.ext hx3) rfl hk2 rfl fun _ => ?_
    have hg1 := List.getElem?_eq_getElem hk1
    have hg2 := List.getElem?_eq_getElem hk2
    refine ifD (fun hle => hK _ _ ⟨fun h => (by cases h), fun hu => ?_⟩ hx3) (fun hgt => hC hk1 _ _ rfl ⟨hx3, fun j x y hx hy hj => ?_⟩)
    · have := Up.steps hu hg2 (by rw [show k - 1 + 1 = k by omega]; exact hg1)
      rw [cmpI_neg] at this
      omega
    · by_cases hjk : j + 1 = k
      · have ej : j = k - 1 := by omega
        subst ej
        rw [hg2] at hx
        rw [hjk, hg1] at hy
        cases hx
        cases hy
        rw [cmpI_neg]
        omega
      · exact hall j x y hx hy (by omega)
  · have := (List.getElem?_eq_some_iff.1 hy).1
    omega
theorem ref22_Same_spec {a b : Sl} {la lb : List ApiSession} {K : Bool → World → Prop} {w : World} (ha : IsSl eApiSession w a la) (hb : IsSl eApiSession w b lb) (hK : ∀ t w', (t = true ↔ la = lb) → Ext w w' → K t w') : ref22_Same a b K w := by
  unfold ref22_Same
  exact same_vc (E := eApiSession) (r := fun x y => (ApiSession.eqs x y).all id) (by kernel_rfl) (by kernel_rfl) (by kernel_rfl) (fun _ => rfl) (by kernel_rfl) (fun x y => ApiSession.eqv x y) (fun x y => ApiSession.eqs_iff) ha hb hK
def asSess (a : ApiAnswer) : ApiSession := ⟨a.Client, a.Seq, a⟩
def sessWith (l : List ApiSession) (a : ApiAnswer) : List ApiSession := insC (fun x => cmpI x.Client a.Client) l (asSess a)
/-! ### The program's -/
theorem sess_place_1_spec {s : ApiSession} {n : Int} {K : Int → World → Prop} {w : World} (hK : ∀ w', Ext w w' → K (cmpI s.Client n) w') : sess_place_1 s n K w := by
  unfold sess_place_1
  exact new_of fun b1 w1 hn => cmp_Compare_int_calls (cmp_Compare_int_spec (kp_same (hK w1 (Ext.new hn))))
theorem sess_place_spec {x : Sl} {l : List ApiSession} {n : Int} {K : Int × Bool → World → Prop} {w : World} (hx : IsSl eApiSession w x l) (hu : SUp l) (hle : l.length ≤ 4611686018427387903)
    (hK : ∀ (w' : World) (i : Nat), AtC (fun s => cmpI s.Client n) l i → Ext w w' → K ((i : Int), foundC (fun s => cmpI s.Client n) l i) w') : sess_place x n K w := by
  unfold sess_place
  refine slices_BinarySearchFunc_api_Session_api_Session_int_place_calls ?_
  unfold slices_BinarySearchFunc_api_Session_api_Session_int_place
  exact search_vc (E := eApiSession) (fun s => cmpI s.Client n) (by kernel_rfl) (by kernel_rfl) (fun _ => rfl) hx hle (hu.rises ordI n) (fun y _ w' K' hx' hk => sess_place_1_calls (sess_place_1_spec fun w'' h => hk w'' h)) hK
def whichOf (l : List ApiSession) (n q : Int) : Int × ApiAnswer :=
  match sessOf l n with
  | none => (0, noAnswer)
  | some x => if x.Seq < q then (0, noAnswer) else if q = x.Seq then (1, x.Last) else (2, noAnswer)
theorem sess_Which_spec {s : Sl} {l : List ApiSession} {n q : Int} {K : Int × ApiAnswer → World → Prop} {w : World} (hs : IsSl eApiSession w s l) (hu : SUp l) (hle : l.length ≤ 4611686018427387903)
    (hK : ∀ w', Ext w w' → K (whichOf l n q) w') : sess_Which s n q K w := by
  unfold sess_Which
  refine new_of fun b1 w1 hn1 => ?_
  have hb1 : b1 = w.heap.size := hn1.1
  have hx1 := Ext.new hn1
  refine sess_place_calls (sess_place_spec (hs.ext hx1) hu hle fun w2 i hp hx2 => kp_ext hx2 ?_)
  have hx := hx1.trans' hx2
  have fin : ∀ (w3 : World) (x : Int × ApiAnswer), Ext w w3 → whichOf l n q = x → wrM b1 (fun w5 => K x w5) w3 := fun w3 x h3 hx => wr_of fun w4 hw4 => by
    rw [← hx]; exact hK w4 (Below.wr h3 (by omega) hw4)
  refine ifNot (ifB_of (fun hf => ?_) (fun hf => fin _ _ hx (by unfold whichOf; rw [show sessOf l n = none from found_none ordI hu hp hf]; rfl)))
  obtain ⟨hi, hso, _⟩ := found_some ordI hu hp hf
  have hso' : sessOf l n = some l[i] := hso
  refine fld_rd (y := l[i].Seq) (by kernel_rfl) (by kernel_rfl) (hs.ext hx) rfl hi rfl fun _ => ?_
  refine ifD (fun hgt => fin _ _ hx (by unfold whichOf; rw [hso']; simp only; rw [if_pos hgt]; rfl)) (fun hng => ?_)
  refine fld_rd (y := l[i].Seq) (by kernel_rfl) (by kernel_rfl) (hs.ext hx) rfl hi rfl fun _ => ?_
  refine ifEq (fun he => ?_) (fun hne => fin _ _ hx (by unfold whichOf; rw [hso']; simp only; rw [if_neg hng, if_neg hne]; rfl))
  refine heldM_of (fun w' => Ext w w') fun w3 hx3 => ⟨hx.trans' hx3, ?_⟩
  refine partH (n := 6) (y := l[i].Last) (xs := l[i].Last.cs) (by kernel_rfl) (by kernel_rfl) (fun w' h => hs.ext h) rfl hi rfl rfl (fun j v hj => by rw [Nat.add_comm]; exact hj) fun _ => wr_of fun w4 hw4 => ?_
  have hx4 : Ext w w4 := Below.wr (hx.trans' hx3) (by omega) hw4
  have := hK w4 hx4
  rw [show whichOf l n q = (1, l[i].Last) from by unfold whichOf; rw [hso']; simp only; rw [if_neg hng, if_pos he]] at this
  exact ⟨hx4, this⟩
theorem sess_Last_spec {s : Sl} {l : List ApiSession} {n : Int} {K : Int → World → Prop} {w : World} (hs : IsSl eApiSession w s l) (hu : SUp l) (hle : l.length ≤ 4611686018427387903)
    (hK : ∀ w', Ext w w' → K (match sessOf l n with | some x => x.Seq | none => 0) w') : sess_Last s n K w := by
  unfold sess_Last
  refine sess_place_calls (sess_place_spec hs hu hle fun w2 i hp hx => ?_)
  refine ifB_of (fun hf => ?_) (fun hf => ?_)
  · obtain ⟨hi, hso, _⟩ := found_some ordI hu hp hf
    refine fld_rd (y := l[i].Seq) (by kernel_rfl) (by kernel_rfl) (hs.ext hx) rfl hi rfl fun _ => ?_
    have := hK w2 hx
    rw [show sessOf l n = some l[i] from hso] at this
    exact this
  · have := hK w2 hx
    rw [show sessOf l n = none from found_none ordI hu hp hf] at this
    exact this
theorem clone_sess_spec {s : Sl} {l : List ApiSession} {K : Sl → World → Prop} {w : World} (h : IsSl eApiSession w s l) (hl : l.length ≤ 1000000) (hK : ∀ s' w', OwnSl eApiSession w' w.heap.size s' l → Ext w w' → K s' w') : slices_Clone_api_Session_api_Session s K w := by
  unfold slices_Clone_api_Session_api_Session
  exact clone_vc (E := eApiSession) 72 (by kernel_rfl) (by kernel_rfl) (fun w => by kernel_rfl) h (by omega) (by decide) fun s' w' h1 h2 _ => hK s' w' h1 h2
theorem insert_sess_spec {s v : Sl} {l vs : List ApiSession} {i : Int} (k : Nat) {B gv : Nat} {K : Sl → World → Prop} {w : World} (hi : i = (k : Int)) (hk : k ≤ l.length) (hs : OwnSl eApiSession w B s l) (hv : LitSl eApiSession w gv v vs) (hne : s.blk ≠ some gv) (hvs : vs ≠ [])
    (hB : B ≤ w.heap.size) (hl : l.length + vs.length ≤ 1000000) (hK : ∀ s' w', OwnSl eApiSession w' B s' (l.take k ++ vs ++ l.drop k) → w.grownBy w' s.blk → NewOr w s s' → K s' w') : slices_Insert_api_Session_api_Session s i v K w := by
  unfold slices_Insert_api_Session_api_Session
  exact insert_vc (E := eApiSession) 72 k (by kernel_rfl) (by kernel_rfl) (by kernel_rfl) (by kernel_rfl) (by decide) ov_slices_overlaps_api_Session hi hk hs hv hne hvs hB (by omega) hK
theorem own_blk {α : Type} {E : Enc α} {w : World} {B : Nat} {s : Sl} {l : List α} (h : OwnSl E w B s l) : ∀ b, s.blk = some b → b < w.heap.size := fun b hb => by
  rcases h.row with ⟨h0, _⟩ | ⟨g, cur, h1, _, h2, _⟩
  · subst h0; cases hb
  · simp [Sl.blk, h1] at hb; subst hb; exact h2.lt
theorem sess_With_spec {s : Sl} {l : List ApiSession} {a : ApiAnswer} {K : Sl → World → Prop} {w : World} (hs : IsSl eApiSession w s l) (hu : SUp l) (hle : l.length ≤ 100000)
    (hK : ∀ s' w', OwnSl eApiSession w' w.heap.size s' (sessWith l a) → Ext w w' → K s' w') : sess_With s a K w := by
  unfold sess_With
  refine new_of fun b1 w1 hn1 => new_of fun b3 w3 hn3 => wr_of fun w4 hw4 => ?_
  have hb1 : b1 = w.heap.size := hn1.1
  have hb3 : b3 = w1.heap.size := hn3.1
  have hx1 := Ext.new hn1
  have hx3 := hx1.trans' (Ext.new hn3)
  have hs1 := hx1.size
  have hx4 : Ext w w4 := Below.wr hx3 (by omega) hw4
  refine sess_place_calls (sess_place_spec (hs.ext hx4) hu (by omega) fun w5 i hp hx5 => kp_ext hx5 (kp_ext hx5 ?_))
  have hx5' := hx4.trans' hx5
  refine slices_Clone_api_Session_api_Session_calls (clone_sess_spec (hs.ext hx5') (by omega) fun out w6 ho hx6 => kp_ext hx6 (kp_ext hx6 ?_))
  have hx6' := hx5'.trans' hx6
  have hB := hx5'.size
  have h1lt := hn1.lt
  have h3lt := hn3.lt
  have hsz4 : w3.heap.size ≤ w5.heap.size := by have := hw4.size; have := hx5.size; omega
  have hsz13 := (Ext.new hn3).size
  have fin : ∀ (r : List ApiSession) s' w7, OwnSl eApiSession w7 w5.heap.size s' r → w6.grownBy w7 out.blk → r = sessWith l a → kp b3 w6 w7 (kp b1 w6 w7 (K s' w7)) := fun r s' w7 ho' hg hr => by
    have hge := ho.ge
    refine kp_grown hg (fun e => by have := hge b3 e.symm; omega) (kp_grown hg (fun e => by have := hge b1 e.symm; omega) ?_)
    subst hr
    exact hK _ _ (ho'.mono hB) (Ext.own hx6' ho hB hg)
  refine ifB_of (fun hf => ?_) (fun hf => ?_)
  · obtain ⟨hi, hso, _⟩ := found_some ordI hu hp hf
    refine ix_own (by kernel_rfl) ho rfl hi ?_
    refine st_own (asSess a) (by kernel_rfl) ho hi rfl fun w7 ho7 hg7 => fin _ _ _ ho7 hg7 ?_
    exact (hp.ins_f (hu.rises ordI _) hf (asSess a)).symm
  · refine lit_sl (E := eApiSession) [asSess a] rfl (by decide) (fun w => by kernel_rfl) fun v w7 hv hx7 => kp_ext hx7 (kp_ext hx7 ?_)
    have hblk := own_blk ho
    refine slices_Insert_api_Session_api_Session_calls (insert_sess_spec i rfl hp.le (ho.ext hx7) hv (fun e => by have := hblk _ e; omega) (by simp) (Nat.le_trans hx6.size hx7.size) (by simp; omega) fun s' w8 ho8 hg8 _ => ?_)
    have hg := grown_trans (grown_ext hx7 out.blk) hg8
    have hge := ho.ge
    have hr : l.take i ++ [asSess a] ++ l.drop i = sessWith l a := by
      rw [show sessWith l a = l.take i ++ asSess a :: l.drop i from hp.ins_n (hu.rises ordI _) hf (asSess a)]
      simp
    refine kp_grown hg8 (fun e => by have := hge b3 e.symm; omega) (kp_grown hg8 (fun e => by have := hge b1 e.symm; omega) ?_)
    rw [← hr] at hK
    exact hK _ _ (ho8.mono hB) (Ext.own hx6' ho hB hg)

theorem law22_awake_spec {K : Bool → World → Prop} {w : World} (hK : ∀ w', Ext w w' → K true w') : law22_awake K w := by
  unfold law22_awake
  refine sess_With_calls (l := Sl.nil) (a := ⟨2, 5, 0, false, [], 0⟩) (sess_With_spec (l := []) (IsSl.nilSl _ _) List.Pairwise.nil (by simp) fun s1 w1 ho1 hx1 => ?_)
  have hu : SUp (sessWith [] ⟨2, 5, 0, false, [], 0⟩) := List.pairwise_singleton _ _
  refine sess_Which_calls (sess_Which_spec ho1.is hu (by decide) fun w2 hx2 => ?_)
  refine new_of fun b3 w3 hn3 => wr_of fun w4 hw4 => ?_
  have hx4 : Ext w1 w4 := Below.wr (hx2.trans' (Ext.new hn3)) (by have := hn3.1; have := hx2.size; omega) hw4
  refine ifEq (fun _ => ?_) (fun h => absurd (by rw [ho1.len]; rfl) h)
  refine ifEq (fun _ => ifEq (fun _ => ?_) (fun h => absurd rfl h)) (fun h => absurd rfl h)
  refine sess_Last_calls (sess_Last_spec (ho1.is.ext hx4) hu (by decide) fun w5 hx5 => ?_)
  have hx5' := hx4.trans' hx5
  refine kp_grown (row := none) ⟨hx5.os, hx5.tape, hx5.output, hx5.size, fun k hk _ => hx5.block k hk⟩ (by simp) ?_
  exact hK w5 (hx1.trans' hx5')

theorem sessOf_with {l : List ApiSession} (hu : SUp l) (a : ApiAnswer) : sessOf (sessWith l a) a.Client = some (asSess a) := get_ins ordI hu (asSess a)
end Go.Chg
