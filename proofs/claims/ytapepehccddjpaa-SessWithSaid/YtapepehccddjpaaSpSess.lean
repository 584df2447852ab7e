/-
  What packages 'sess' and 'changeoverref22' do.
-/
import Derived.Test.YtapepehccddjpaaSpCmp
set_option maxRecDepth 20000
set_option linter.unusedVariables false
namespace Go.Chg
open Go.Vc

abbrev SUp (l : List ApiSession) : Prop := Up cmpI (·.Client) l
def sessOf (l : List ApiSession) (n : Int) : Option ApiSession := getC cmpI (·.Client) l n
def noAnswer : ApiAnswer := ⟨0, 0, 0, false, [], 0⟩
def SessSmall (l : List ApiSession) : Prop := l.length ≤ 40 ∧ ∀ x ∈ l, x.Last.Val.length ≤ 200
theorem cmpI_nonneg {x y : Int} : 0 ≤ cmpI x y ↔ y ≤ x := by
  have := @cmpI_neg x y
  omega
theorem cmpI_ne {x y : Int} : cmpI x y ≠ 0 ↔ x ≠ y := by rw [Ne, cmpI_zero]

/-! ### The document's answers -/
theorem ref22_Large_spec {s : Sl} {l : List ApiSession} {K : Bool → World → Prop} {w : World} (hs : IsSl eApiSession w s l) (hK : ∀ b, (b = false → SessSmall l) → K b w) : ref22_Large s K w := by
  unfold ref22_Large
  have hl := hs.len
  have hle := hs.le
  refine up1 (fun k w' => w = w' ∧ ∀ x ∈ l.take k, x.Last.Val.length ≤ 200) 0 l.length rfl (by omega) hle ⟨rfl, by simp⟩ ?_
  rintro k _ C _ hk ⟨rfl, hall⟩ hC
  refine ifD (fun hlt => ?_) (fun hge => hK _ fun h => ⟨by simp at h; omega, all_done (by omega) hall⟩)
  have hk1 : k < l.length := by omega
  refine ifD (fun h60 => ?_) (fun h60 => hK _ fun h => absurd h (by simp; omega))
  refine fld2_rd (y := l[k].Last.Val) (by kernel_rfl) (by kernel_rfl) hs rfl hk1 rfl fun _ => ?_
  exact ifD (fun hgt => hK _ fun h => by cases h) (fun hng => hC hk1 _ _ rfl ⟨rfl, all_up hk1 hall (by omega)⟩)
theorem ref22_Rise_spec {s : Sl} {l : List ApiSession} {K : Bool → World → Prop} {w : World} (hs : IsSl eApiSession w s l) (hK : ∀ b w', (b = true ↔ SUp l) → Ext w w' → K b w') : ref22_Rise s K w := by
  unfold ref22_Rise
  have hl := hs.len
  have hle := hs.le
  by_cases h0 : l.length = 0
  · have : l = [] := List.length_eq_zero_iff.1 h0
    subst this
    refine up1 (fun k w' => w = w') 1 1 rfl (by omega) (by omega) rfl ?_
    rintro k _ C _ hk rfl hC
    exact ifD (fun h => by omega) (fun _ => hK _ _ ⟨fun _ => List.Pairwise.nil, fun _ => rfl⟩ (Ext.rfl' _))
  refine up1 (fun k w' => Ext w w' ∧ ∀ (j : Nat) x y, l[j]? = some x → l[j + 1]? = some y → j + 1 < k → cmpI x.Client y.Client < 0) 1 l.length rfl (by omega) hle ⟨Ext.rfl' _, fun j x y _ _ h => by omega⟩ ?_
  rintro k w1 C hk0 hk ⟨hx, hall⟩ hC
  refine ifD (fun hlt => ?_) (fun hge => hK _ _ ⟨fun _ => up_of_steps ordI fun j x y hx hy => hall j x y hx hy ?_, fun _ => rfl⟩ hx)
  · have hk1 : k < l.length := by omega
    have hk2 : k - 1 < l.length := by omega
    refine drew_of fun w2 hx2 => ?_
    have hx3 := hx.trans' hx2
    refine fld_rd (y := l[k].Client) (by kernel_rfl) (by kernel_rfl) (hs.ext hx3) rfl hk1 rfl fun _ => ?_
    have e1 : i64 ((k : Int) - 1) = ((k - 1 : Nat) : Int) := by rw [i64_id] <;> omega
    rw [e1]
    refine fld_rd (y := l[k - 1].Client) (by kernel_rfl) (by kernel_rfl) (hs.ext hx3) rfl hk2 rfl fun _ => ?_
    have hg1 := List.getElem?_eq_getElem hk1
    have hg2 := List.getElem?_eq_getElem hk2
    refine ifD (fun hle => hK _ _ ⟨fun h => (by cases h), fun hu => ?_⟩ hx3) (fun hgt => hC hk1 _ _ rfl ⟨hx3, fun j x y hx hy hj => ?_⟩)
    · have := Up.steps hu hg2 (by rw [show k - 1 + 1 = k by omega]; exact hg1)
      rw [cmpI_neg] at this
      omega
    · by_cases hjk : j + 1 = k
      · have ej : j = k - 1 := by omega
        subst ej
        rw [hg2] at hx
        rw [hjk, hg1] at hy
        cases hx
        cases hy
        rw [cmpI_neg]
        omega
      · exact hall j x y hx hy (by omega)
  · have := (List.getElem?_eq_some_iff.1 hy).1
    omega
theorem ref22_Last_spec {s : Sl} {l : List ApiSession} {n : Int} {K : Int × ApiAnswer → World → Prop} {w : World} (hs : IsSl eApiSession w s l)
    (hK : ∀ w', Ext w w' → K (match sessOf l n with | some x => (x.Seq, x.Last) | none => (0, noAnswer)) w') : ref22_Last s n K w := by
  unfold ref22_Last
  have hl := hs.len
  have hle := hs.le
  refine new_of fun b1 w1 hn1 => ?_
  have hb1 : b1 = w.heap.size := hn1.1
  refine up2a (fun k (t : ApiAnswer) w' => Ext w w' ∧ ∀ x ∈ l.take k, x.Client ≠ n) 0 l.length rfl (by omega) hle ⟨Ext.new hn1, by simp⟩ ?_
  rintro k t w2 C _ hk ⟨hx, hall⟩ hC
  refine ifD (fun hlt => ?_) (fun hge => ?_)
  · have hk1 : k < l.length := by omega
    refine fld_rd (y := l[k].Client) (by kernel_rfl) (by kernel_rfl) (hs.ext hx) rfl hk1 rfl fun _ => ?_
    refine ifEq (fun hc => ?_) (fun hc => hC hk1 _ _ _ rfl ⟨hx, all_up hk1 hall hc⟩)
    refine heldM_of (fun w' => Ext w w') fun w3 hx3 => ⟨hx.trans' hx3, ?_⟩
    refine fldH (y := l[k].Seq) (by kernel_rfl) (by kernel_rfl) (fun w' h => hs.ext h) rfl hk1 rfl fun _ => ?_
    refine partH (n := 6) (y := l[k].Last) (xs := l[k].Last.cs) (by kernel_rfl) (by kernel_rfl) (fun w' h => hs.ext h) rfl hk1 rfl rfl (fun j v hj => by rw [Nat.add_comm]; exact hj) fun _ => wr_of fun w4 hw4 => ?_
    have hx4 : Ext w w4 := Below.wr (hx.trans' hx3) (by omega) hw4
    have := hK w4 hx4
    rw [show sessOf l n = some l[k] from get_take ordI hk1 hall hc] at this
    exact ⟨hx4, this⟩
  · refine wr_of fun w4 hw4 => ?_
    have := hK w4 (Below.wr hx (by omega) hw4)
    rw [show sessOf l n = none from (get_none ordI).2 (all_done (by omega) hall)] at this
    exact this
theorem ref22_Has_spec {s : Sl} {l : List ApiSession} {n : Int} {K : Bool → World → Prop} {w : World} (hs : IsSl eApiSession w s l) (hK : K (sessOf l n).isSome w) : ref22_Has s n K w := by
  unfold ref22_Has
  have hl := hs.len
  have hle := hs.le
  refine up1 (fun k w' => w = w' ∧ ∀ x ∈ l.take k, x.Client ≠ n) 0 l.length rfl (by omega) hle ⟨rfl, by simp⟩ ?_
  rintro k _ C _ hk ⟨rfl, hall⟩ hC
  refine ifD (fun hlt => ?_) (fun hge => ?_)
  · have hk1 : k < l.length := by omega
    refine fld_rd (y := l[k].Client) (by kernel_rfl) (by kernel_rfl) hs rfl hk1 rfl fun _ => ?_
    refine ifEq (fun hc => ?_) (fun hc => hC hk1 _ _ rfl ⟨rfl, all_up hk1 hall hc⟩)
    rw [show sessOf l n = some l[k] from get_take ordI hk1 hall hc] at hK
    exact hK
  · rw [show sessOf l n = none from (get_none ordI).2 (all_done (by omega) hall)] at hK
    exact hK
theorem ref22_Same_spec {a b : Sl} {la lb : List ApiSession} {K : Bool → World → Prop} {w : World} (ha : IsSl eApiSession w a la) (hb : IsSl eApiSession w b lb) (hK : ∀ t w', (t = true ↔ la = lb) → Ext w w' → K t w') : ref22_Same a b K w := by
  unfold ref22_Same
  exact same_vc (E := eApiSession) (r := fun x y => (ApiSession.eqs x y).all id) (by kernel_rfl) (by kernel_rfl) (by kernel_rfl) (fun _ => rfl) (by kernel_rfl) (fun x y => ApiSession.eqv x y) (fun x y => ApiSession.eqs_iff) ha hb hK
def asSess (a : ApiAnswer) : ApiSession := ⟨a.Client, a.Seq, a⟩
def sessWith (l : List ApiSession) (a : ApiAnswer) : List ApiSession := insC (fun x => cmpI x.Client a.Client) l (asSess a)
theorem ref22_With_spec {s : Sl} {l : List ApiSession} {a : ApiAnswer} {K : Sl → World → Prop} {w : World} (hs : IsSl eApiSession w s l) (hu : SUp l) (hle : l.length ≤ 1000000)
    (hK : ∀ s' w', OwnSl eApiSession w' w.heap.size s' (sessWith l a) → Ext w w' → K s' w') : ref22_With s a K w := by
  unfold ref22_With
  have hl := hs.len
  refine new_of fun b1 w1 hn1 => ?_
  have hb1 : b1 = w.heap.size := hn1.1
  have hx1 := Ext.new hn1
  have hw1 := hn1.lt
  have hB : w.heap.size ≤ w1.heap.size := hx1.size
  have kpo : ∀ {w' w'' : World} {X : Prop} {out : Sl} {r : List ApiSession}, OwnSl eApiSession w' w1.heap.size out r → w'.grownBy w'' out.blk → X → kp b1 w' w'' X := fun ho hg x => kp_grown hg (fun e => by have := ho.ge b1 e.symm; omega) x
  refine up3c (fun k out done w' => Ext w w' ∧ w1.heap.size ≤ w'.heap.size ∧ OwnSl eApiSession w' w1.heap.size out (withL cmpI (·.Client) (asSess a) (l.take k)).1 ∧ done = (withL cmpI (·.Client) (asSess a) (l.take k)).2) 0 l.length rfl (by omega) (by omega)
    ⟨hx1, Nat.le_refl _, OwnSl.nil _ _ _, rfl⟩ ?_
  rintro k out done w2 C _ hk ⟨hx, hsz, ho, hd⟩ hC
  have hlen := withL_len (cmp := cmpI) (key := (·.Client)) (s := asSess a) (l.take k)
  rw [List.length_take] at hlen
  refine ifD (fun hlt => ?_) (fun hge => ?_)
  · have hk1 : k < l.length := by omega
    have hup := withL_up (cmp := cmpI) (key := (·.Client)) (s := asSess a) hk1
    generalize hst : withL cmpI (·.Client) (asSess a) (l.take k) = st at ho hd hlen hup
    subst hd
    refine ⟨fun out' done' w' => Ext w w' ∧ w1.heap.size ≤ w'.heap.size ∧ OwnSl eApiSession w' w1.heap.size out' (putS cmpI (·.Client) (asSess a) st l[k]).1 ∧ done' = (putS cmpI (·.Client) (asSess a) st l[k]).2, ?_, ?_⟩
    · refine drew_of fun w3 hx3 => ?_
      have hx3' := hx.trans' hx3
      have hsz3 := Nat.le_trans hsz hx3.size
      have ho3 := ho.ext hx3
      refine ifNot (ifB_of (fun hd => ?_) (fun hd => ?_))
      · have e : putS cmpI (·.Client) (asSess a) st l[k] = st := by unfold putS; rw [if_neg (fun h => by rw [hd] at h; cases h.1)]
        rw [e]
        exact ⟨hx3', hsz3, ho3, rfl⟩
      · refine fld_rd (y := l[k].Client) (by kernel_rfl) (by kernel_rfl) (hs.ext hx3') rfl hk1 rfl fun _ => ?_
        refine ifD (fun hge => ?_) (fun hlt => ?_)
        · have e : putS cmpI (·.Client) (asSess a) st l[k] = (st.1 ++ [asSess a], true) := by
            unfold putS; rw [if_pos ⟨hd, cmpI_nonneg.2 hge⟩]
          rw [e]
          refine lit1_ty (E := eApiSession) (x := asSess a) 72 w1.heap.size (by kernel_rfl) (by decide) (fun w => by kernel_rfl) hsz3 fun s1 w4 _ ho1 hx4 => kp_ext hx4 ?_
          refine app_ty 72 (by kernel_rfl) (by kernel_rfl) (ho3.ext hx4) ho1.is (by simp; omega) (Nat.le_trans hsz3 hx4.size) (by decide) fun s2 w5 ho2 hg => kpo (ho3.ext hx4) hg ?_
          exact ⟨Ext.own (hx3'.trans' hx4) (ho3.ext hx4) hB hg, Nat.le_trans hsz3 (Nat.le_trans hx4.size hg.size), ho2, rfl⟩
        · have e : putS cmpI (·.Client) (asSess a) st l[k] = st := by
            unfold putS; rw [if_neg (fun h => hlt (cmpI_nonneg.1 h.2))]
          rw [e]
          exact ⟨hx3', hsz3, ho3, rfl⟩
    · rintro out4 done4 w4 ⟨hx4, hsz4, ho4, rfl⟩
      have hpl : (putS cmpI (·.Client) (asSess a) st l[k]).1.length ≤ st.1.length + 1 := by unfold putS; split <;> simp
      refine drew_of fun w5 hx5 => ?_
      have hx5' := hx4.trans' hx5
      have hsz5 := Nat.le_trans hsz4 hx5.size
      have ho5 := ho4.ext hx5
      refine fld_rd (y := l[k].Client) (by kernel_rfl) (by kernel_rfl) (hs.ext hx5') rfl hk1 rfl fun _ => ?_
      refine ifNe (fun hne => ?_) (fun heq => ?_)
      · refine st_rd (val := ApiSession.val) (by kernel_rfl) (by kernel_rfl) (hs.ext hx5') rfl hk1 (fun _ => rfl) fun _ => ?_
        refine lit1_ty (E := eApiSession) (x := l[k]) 72 w1.heap.size (by kernel_rfl) (by decide) (fun w => by kernel_rfl) hsz5 fun s1 w6 _ ho1 hx6 => kp_ext hx6 ?_
        refine app_ty 72 (by kernel_rfl) (by kernel_rfl) (ho5.ext hx6) ho1.is (by simp; omega) (Nat.le_trans hsz5 hx6.size) (by decide) fun s2 w7 ho2 hg => kpo (ho5.ext hx6) hg ?_
        have hne' : cmpI l[k].Client (asSess a).Client ≠ 0 := cmpI_ne.2 hne
        refine hC hk1 _ _ _ _ rfl ⟨Ext.own (hx5'.trans' hx6) (ho5.ext hx6) hB hg, Nat.le_trans hsz5 (Nat.le_trans hx6.size hg.size), ?_, ?_⟩
        · rw [hup]; unfold withS; rw [if_pos hne']; exact ho2
        · rw [hup]; rfl
      · have he' : ¬ cmpI l[k].Client (asSess a).Client ≠ 0 := fun h => cmpI_ne.1 h heq
        refine hC hk1 _ _ _ _ rfl ⟨hx5', hsz5, ?_, ?_⟩
        · rw [hup]; unfold withS; rw [if_neg he']; exact ho5
        · rw [hup]; rfl
  · have hfin := with_ins ordI hu (asSess a)
    rw [take_done (by omega)] at ho hd
    have hlen2 := withL_len (cmp := cmpI) (key := (·.Client)) (s := asSess a) l
    refine ifNot (ifB_of (fun h => ?_) (fun h => ?_))
    · rw [← hd, h, if_neg (by simp)] at hfin
      refine hK _ _ ?_ hx
      unfold sessWith
      rw [hfin] at ho
      exact ho.mono hB
    · rw [← hd, h, if_pos rfl] at hfin
      refine lit1_ty (E := eApiSession) (x := asSess a) 72 w1.heap.size (by kernel_rfl) (by decide) (fun w => by kernel_rfl) hsz fun s1 w4 _ ho1 hx4 => kp_ext hx4 ?_
      refine app_ty 72 (by kernel_rfl) (by kernel_rfl) (ho.ext hx4) ho1.is (by simp; omega) (Nat.le_trans hsz hx4.size) (by decide) fun s2 w5 ho2 hg => kpo (ho.ext hx4) hg ?_
      refine hK _ _ ?_ (Ext.own (hx.trans' hx4) (ho.ext hx4) hB hg)
      unfold sessWith
      rw [hfin] at ho2
      exact ho2.mono hB

/-! ### The program's -/
theorem sess_place_1_spec {s : ApiSession} {n : Int} {K : Int → World → Prop} {w : World} (hK : ∀ w', Ext w w' → K (cmpI s.Client n) w') : sess_place_1 s n K w := by
  unfold sess_place_1
  exact new_of fun b1 w1 hn => cmp_Compare_int_calls (cmp_Compare_int_spec (kp_same (hK w1 (Ext.new hn))))
theorem sess_place_spec {x : Sl} {l : List ApiSession} {n : Int} {K : Int × Bool → World → Prop} {w : World} (hx : IsSl eApiSession w x l) (hu : SUp l) (hle : l.length ≤ 4611686018427387903)
    (hK : ∀ (w' : World) (i : Nat), AtC (fun s => cmpI s.Client n) l i → Ext w w' → K ((i : Int), foundC (fun s => cmpI s.Client n) l i) w') : sess_place x n K w := by
  unfold sess_place
  refine slices_BinarySearchFunc_api_Session_api_Session_int_place_calls ?_
  unfold slices_BinarySearchFunc_api_Session_api_Session_int_place
  exact search_vc (E := eApiSession) (fun s => cmpI s.Client n) (by kernel_rfl) (by kernel_rfl) (fun _ => rfl) hx hle (hu.rises ordI n) (fun y _ w' K' hx' hk => sess_place_1_calls (sess_place_1_spec fun w'' h => hk w'' h)) hK
def whichOf (l : List ApiSession) (n q : Int) : Int × ApiAnswer :=
  match sessOf l n with
  | none => (0, noAnswer)
  | some x => if x.Seq < q then (0, noAnswer) else if q = x.Seq then (1, x.Last) else (2, noAnswer)
theorem sess_Which_spec {s : Sl} {l : List ApiSession} {n q : Int} {K : Int × ApiAnswer → World → Prop} {w : World} (hs : IsSl eApiSession w s l) (hu : SUp l) (hle : l.length ≤ 4611686018427387903)
    (hK : ∀ w', Ext w w' → K (whichOf l n q) w') : sess_Which s n q K w := by
  unfold sess_Which
  refine new_of fun b1 w1 hn1 => ?_
  have hb1 : b1 = w.heap.size := hn1.1
  have hx1 := Ext.new hn1
  refine sess_place_calls (sess_place_spec (hs.ext hx1) hu hle fun w2 i hp hx2 => kp_ext hx2 ?_)
  have hx := hx1.trans' hx2
  have fin : ∀ (w3 : World) (x : Int × ApiAnswer), Ext w w3 → whichOf l n q = x → wrM b1 (fun w5 => K x w5) w3 := fun w3 x h3 hx => wr_of fun w4 hw4 => by
    rw [← hx]; exact hK w4 (Below.wr h3 (by omega) hw4)
  refine ifNot (ifB_of (fun hf => ?_) (fun hf => fin _ _ hx (by unfold whichOf; rw [show sessOf l n = none from found_none ordI hu hp hf]; rfl)))
  obtain ⟨hi, hso, _⟩ := found_some ordI hu hp hf
  have hso' : sessOf l n = some l[i] := hso
  refine fld_rd (y := l[i].Seq) (by kernel_rfl) (by kernel_rfl) (hs.ext hx) rfl hi rfl fun _ => ?_
  refine ifD (fun hgt => fin _ _ hx (by unfold whichOf; rw [hso']; simp only; rw [if_pos hgt]; rfl)) (fun hng => ?_)
  refine fld_rd (y := l[i].Seq) (by kernel_rfl) (by kernel_rfl) (hs.ext hx) rfl hi rfl fun _ => ?_
  refine ifEq (fun he => ?_) (fun hne => fin _ _ hx (by unfold whichOf; rw [hso']; simp only; rw [if_neg hng, if_neg hne]; rfl))
  refine heldM_of (fun w' => Ext w w') fun w3 hx3 => ⟨hx.trans' hx3, ?_⟩
  refine partH (n := 6) (y := l[i].Last) (xs := l[i].Last.cs) (by kernel_rfl) (by kernel_rfl) (fun w' h => hs.ext h) rfl hi rfl rfl (fun j v hj => by rw [Nat.add_comm]; exact hj) fun _ => wr_of fun w4 hw4 => ?_
  have hx4 : Ext w w4 := Below.wr (hx.trans' hx3) (by omega) hw4
  have := hK w4 hx4
  rw [show whichOf l n q = (1, l[i].Last) from by unfold whichOf; rw [hso']; simp only; rw [if_neg hng, if_pos he]] at this
  exact ⟨hx4, this⟩
theorem sess_Last_spec {s : Sl} {l : List ApiSession} {n : Int} {K : Int → World → Prop} {w : World} (hs : IsSl eApiSession w s l) (hu : SUp l) (hle : l.length ≤ 4611686018427387903)
    (hK : ∀ w', Ext w w' → K (match sessOf l n with | some x => x.Seq | none => 0) w') : sess_Last s n K w := by
  unfold sess_Last
  refine sess_place_calls (sess_place_spec hs hu hle fun w2 i hp hx => ?_)
  refine ifB_of (fun hf => ?_) (fun hf => ?_)
  · obtain ⟨hi, hso, _⟩ := found_some ordI hu hp hf
    refine fld_rd (y := l[i].Seq) (by kernel_rfl) (by kernel_rfl) (hs.ext hx) rfl hi rfl fun _ => ?_
    have := hK w2 hx
    rw [show sessOf l n = some l[i] from hso] at this
    exact this
  · have := hK w2 hx
    rw [show sessOf l n = none from found_none ordI hu hp hf] at this
    exact this
theorem clone_sess_spec {s : Sl} {l : List ApiSession} {K : Sl → World → Prop} {w : World} (h : IsSl eApiSession w s l) (hl : l.length ≤ 1000000) (hK : ∀ s' w', OwnSl eApiSession w' w.heap.size s' l → Ext w w' → K s' w') : slices_Clone_api_Session_api_Session s K w := by
  unfold slices_Clone_api_Session_api_Session
  exact clone_vc (E := eApiSession) 72 (by kernel_rfl) (by kernel_rfl) (fun w => by kernel_rfl) h (by omega) (by decide) fun s' w' h1 h2 _ => hK s' w' h1 h2
theorem insert_sess_spec {s v : Sl} {l vs : List ApiSession} {i : Int} (k : Nat) {B gv : Nat} {K : Sl → World → Prop} {w : World} (hi : i = (k : Int)) (hk : k ≤ l.length) (hs : OwnSl eApiSession w B s l) (hv : LitSl eApiSession w gv v vs) (hne : s.blk ≠ some gv) (hvs : vs ≠ [])
    (hB : B ≤ w.heap.size) (hl : l.length + vs.length ≤ 1000000) (hK : ∀ s' w', OwnSl eApiSession w' B s' (l.take k ++ vs ++ l.drop k) → w.grownBy w' s.blk → K s' w') : slices_Insert_api_Session_api_Session s i v K w := by
  unfold slices_Insert_api_Session_api_Session
  exact insert_vc (E := eApiSession) 72 k (by kernel_rfl) (by kernel_rfl) (by kernel_rfl) (by kernel_rfl) (by decide) ov_slices_overlaps_api_Session hi hk hs hv hne hvs hB (by omega) hK
theorem own_blk {α : Type} {E : Enc α} {w : World} {B : Nat} {s : Sl} {l : List α} (h : OwnSl E w B s l) : ∀ b, s.blk = some b → b < w.heap.size := fun b hb => by
  rcases h.row with ⟨h0, _⟩ | ⟨g, cur, h1, _, h2, _⟩
  · subst h0; cases hb
  · simp [Sl.blk, h1] at hb; subst hb; exact h2.lt
theorem sess_With_spec {s : Sl} {l : List ApiSession} {a : ApiAnswer} {K : Sl → World → Prop} {w : World} (hs : IsSl eApiSession w s l) (hu : SUp l) (hle : l.length ≤ 100000)
    (hK : ∀ s' w', OwnSl eApiSession w' w.heap.size s' (sessWith l a) → Ext w w' → K s' w') : sess_With s a K w := by
  unfold sess_With
  refine new_of fun b1 w1 hn1 => new_of fun b3 w3 hn3 => wr_of fun w4 hw4 => ?_
  have hb1 : b1 = w.heap.size := hn1.1
  have hb3 : b3 = w1.heap.size := hn3.1
  have hx1 := Ext.new hn1
  have hx3 := hx1.trans' (Ext.new hn3)
  have hs1 := hx1.size
  have hx4 : Ext w w4 := Below.wr hx3 (by omega) hw4
  refine sess_place_calls (sess_place_spec (hs.ext hx4) hu (by omega) fun w5 i hp hx5 => kp_ext hx5 (kp_ext hx5 ?_))
  have hx5' := hx4.trans' hx5
  refine slices_Clone_api_Session_api_Session_calls (clone_sess_spec (hs.ext hx5') (by omega) fun out w6 ho hx6 => kp_ext hx6 (kp_ext hx6 ?_))
  have hx6' := hx5'.trans' hx6
  have hB := hx5'.size
  have h1lt := hn1.lt
  have h3lt := hn3.lt
  have hsz4 : w3.heap.size ≤ w5.heap.size := by have := hw4.size; have := hx5.size; omega
  have hsz13 := (Ext.new hn3).size
  have fin : ∀ (r : List ApiSession) s' w7, OwnSl eApiSession w7 w5.heap.size s' r → w6.grownBy w7 out.blk → r = sessWith l a → kp b3 w6 w7 (kp b1 w6 w7 (K s' w7)) := fun r s' w7 ho' hg hr => by
    have hge := ho.ge
    refine kp_grown hg (fun e => by have := hge b3 e.symm; omega) (kp_grown hg (fun e => by have := hge b1 e.symm; omega) ?_)
    subst hr
    exact hK _ _ (ho'.mono hB) (Ext.own hx6' ho hB hg)
  refine ifB_of (fun hf => ?_) (fun hf => ?_)
  · obtain ⟨hi, hso, _⟩ := found_some ordI hu hp hf
    refine ix_own (by kernel_rfl) ho rfl hi ?_
    refine st_own (asSess a) (by kernel_rfl) ho hi rfl fun w7 ho7 hg7 => fin _ _ _ ho7 hg7 ?_
    exact (hp.ins_f (hu.rises ordI _) hf (asSess a)).symm
  · refine lit_sl (E := eApiSession) [asSess a] rfl (by decide) (fun w => by kernel_rfl) fun v w7 hv hx7 => kp_ext hx7 (kp_ext hx7 ?_)
    have hblk := own_blk ho
    refine slices_Insert_api_Session_api_Session_calls (insert_sess_spec i rfl hp.le (ho.ext hx7) hv (fun e => by have := hblk _ e; omega) (by simp) (Nat.le_trans hx6.size hx7.size) (by simp; omega) fun s' w8 ho8 hg8 => ?_)
    have hg := grown_trans (grown_ext hx7 out.blk) hg8
    have hge := ho.ge
    have hr : l.take i ++ [asSess a] ++ l.drop i = sessWith l a := by
      rw [show sessWith l a = l.take i ++ asSess a :: l.drop i from hp.ins_n (hu.rises ordI _) hf (asSess a)]
      simp
    refine kp_grown hg8 (fun e => by have := hge b3 e.symm; omega) (kp_grown hg8 (fun e => by have := hge b1 e.symm; omega) ?_)
    rw [← hr] at hK
    exact hK _ _ (ho8.mono hB) (Ext.own hx6' ho hB hg)

theorem law22_awake_spec {K : Bool → World → Prop} {w : World} (hK : ∀ w', Ext w w' → K true w') : law22_awake K w := by
  unfold law22_awake
  refine sess_With_calls (l := Sl.nil) (a := ⟨2, 5, 0, false, [], 0⟩) (sess_With_spec (l := []) (IsSl.nilSl _ _) List.Pairwise.nil (by simp) fun s1 w1 ho1 hx1 => ?_)
  have hu : SUp (sessWith [] ⟨2, 5, 0, false, [], 0⟩) := List.pairwise_singleton _ _
  refine sess_Which_calls (sess_Which_spec ho1.is hu (by decide) fun w2 hx2 => ?_)
  refine new_of fun b3 w3 hn3 => wr_of fun w4 hw4 => ?_
  have hx4 : Ext w1 w4 := Below.wr (hx2.trans' (Ext.new hn3)) (by have := hn3.1; have := hx2.size; omega) hw4
  refine ifEq (fun _ => ?_) (fun h => absurd (by rw [ho1.len]; rfl) h)
  refine ifEq (fun _ => ifEq (fun _ => ?_) (fun h => absurd rfl h)) (fun h => absurd rfl h)
  refine sess_Last_calls (sess_Last_spec (ho1.is.ext hx4) hu (by decide) fun w5 hx5 => ?_)
  have hx5' := hx4.trans' hx5
  refine kp_grown (row := none) ⟨hx5.os, hx5.tape, hx5.output, hx5.size, fun k hk _ => hx5.block k hk⟩ (by simp) ?_
  exact hK w5 (hx1.trans' hx5')

/-! ### The laws -/
theorem sessOf_with {l : List ApiSession} (hu : SUp l) (a : ApiAnswer) : sessOf (sessWith l a) a.Client = some (asSess a) := get_ins ordI hu (asSess a)
theorem law22_SessWhich_spec {s : Sl} {l : List ApiSession} {n q : Int} {K : Bool → World → Prop} {w : World} (hs : IsSl eApiSession w s l) (hK : ∀ w', Ext w w' → K true w') : law22_SessWhich s n q K w := by
  unfold law22_SessWhich
  refine ref22_Large_calls (ref22_Large_spec hs fun b hb => ?_)
  refine ifB_of (fun _ => law22_awake_calls (law22_awake_spec hK)) (fun h => ?_)
  have hsm := hb h
  refine ref22_Rise_calls (ref22_Rise_spec hs fun b2 w1 hb2 hx1 => ?_)
  refine ifNot (ifB_of (fun h2 => ?_) (fun _ => law22_awake_calls (law22_awake_spec fun w' hx => hK w' (hx1.trans' hx))))
  have hu := hb2.1 h2
  have hle : l.length ≤ 4611686018427387903 := by have := hsm.1; omega
  refine sess_Which_calls (sess_Which_spec (hs.ext hx1) hu hle fun w2 hx2 => ?_)
  have hx2' := hx1.trans' hx2
  refine new_of fun b3 w3 hn3 => wr_of fun w4 hw4 => ?_
  have hb3 : b3 = w2.heap.size := hn3.1
  have hs2 := hx2'.size
  have hx3 : Ext w w3 := hx2'.trans' (Ext.new hn3)
  have hx4 : Ext w w4 := Below.wr hx3 (by omega) hw4
  refine ref22_Last_calls (ref22_Last_spec (hs.ext hx4) fun w5 hx5 => kp_ext hx5 ?_)
  have hx5' := hx4.trans' hx5
  have hs5 := hx5'.size
  refine new_of fun b6 w6 hn6 => wr_of fun w7 hw7 => ?_
  have hb6 : b6 = w5.heap.size := hn6.1
  have hx6 : Ext w w6 := hx5'.trans' (Ext.new hn6)
  have hx7 : Ext w w7 := Below.wr hx6 (by omega) hw7
  refine ⟨fun want w' => Ext w w' ∧ want = (whichOf l n q).1, ?_, ?_⟩
  · refine ref22_Has_calls (ref22_Has_spec (hs.ext hx7) (kp_same (kp_same ?_)))
    unfold whichOf
    cases hso : sessOf l n with
    | none => exact ifB_f rfl ⟨hx7, rfl⟩
    | some x =>
      refine ifB_t rfl (ifD (fun h1 => ifEq (fun h2 => ⟨hx7, ?_⟩) (fun h2 => ⟨hx7, ?_⟩)) (fun h1 => ⟨hx7, ?_⟩))
      · dsimp only at h1 h2 ⊢; rw [if_neg (by omega), if_pos h2]
      · dsimp only at h1 h2 ⊢; rw [if_neg (by omega), if_neg h2]
      · dsimp only at h1 ⊢; rw [if_pos (by omega)]
  · rintro want w8 ⟨hx8, rfl⟩
    refine ⟨fun x w' => Ext w w' ∧ x = (whichOf l n q).2, ?_, ?_⟩
    · refine ifNe (fun h1 => wr_of fun w9 hw9 => ⟨Below.wr hx8 (by omega) hw9, ?_⟩) (fun h1 => ⟨hx8, ?_⟩)
      · unfold whichOf at h1 ⊢
        cases hso : sessOf l n with
        | none => rfl
        | some x =>
          rw [hso] at h1
          dsimp only at h1 ⊢
          split
          · rfl
          · rename_i h2
            rw [if_neg h2] at h1
            split
            · rename_i h3
              rw [if_pos h3] at h1
              exact absurd rfl h1
            · rfl
      · unfold whichOf at h1 ⊢
        cases hso : sessOf l n with
        | none => rw [hso] at h1; try cases h1
        | some x =>
          rw [hso] at h1
          dsimp only at h1 ⊢
          split
          · rename_i h2; rw [if_pos h2] at h1; cases h1
          · rename_i h2
            rw [if_neg h2] at h1
            split
            · rfl
            · rename_i h3; rw [if_neg h3] at h1; cases h1
    · rintro x w9 ⟨hx9, rfl⟩
      refine ifEq (fun _ => ?_) (fun h => absurd rfl h)
      refine eqSt (xs := (whichOf l n q).2.cs) (ys := (whichOf l n q).2.cs) (by kernel_rfl) (ApiAnswer.eqv _ _) ?_
      refine ifB_t (ApiAnswer.eqs_iff.2 rfl) ?_
      refine sess_Last_calls (sess_Last_spec (hs.ext hx9) hu hle fun w10 hx10 => kp_ext hx10 (kp_ext hx10 ?_))
      have hx10' := hx9.trans' hx10
      refine ifEq (fun _ => ?_) (fun h => absurd (by cases sessOf l n <;> rfl) h)
      exact law22_awake_calls (law22_awake_spec fun w11 hx11 => kp_ext hx11 (kp_ext hx11 (hK w11 (hx10'.trans' hx11))))
theorem law22_SessWith_spec {s : Sl} {l : List ApiSession} {a : ApiAnswer} {less : Int} {K : Bool → World → Prop} {w : World} (hs : IsSl eApiSession w s l) (hless : 0 ≤ less ∧ less ≤ 255) (ha : -9223372036854775808 ≤ a.Seq ∧ a.Seq ≤ 9223372036854775807) (hK : ∀ w', Ext w w' → K true w') : law22_SessWith s a less K w := by
  unfold law22_SessWith
  refine new_of fun b1 w1 hn1 => ?_
  have hx1 := Ext.new hn1
  have hb1 : b1 = w.heap.size := hn1.1
  have h1lt := hn1.lt
  refine ref22_Large_calls (ref22_Large_spec (hs.ext hx1) fun b hb => kp_same ?_)
  refine ifB_of (fun _ => law22_awake_calls (law22_awake_spec fun w' hx => kp_ext hx (hK w' (hx1.trans' hx)))) (fun h => ?_)
  have hsm := hb h
  refine ifD (fun _ => law22_awake_calls (law22_awake_spec fun w' hx => kp_ext hx (hK w' (hx1.trans' hx)))) (fun hval => ?_)
  refine ref22_Rise_calls (ref22_Rise_spec (hs.ext hx1) fun b2 w2 hb2 hx2 => kp_ext hx2 ?_)
  have hx2' := hx1.trans' hx2
  refine ifNot (ifB_of (fun h2 => ?_) (fun _ => law22_awake_calls (law22_awake_spec fun w' hx => kp_ext hx (hK w' (hx2'.trans' hx)))))
  have hu := hb2.1 h2
  have hle : l.length ≤ 40 := hsm.1
  refine sess_With_calls (sess_With_spec (a := a) (hs.ext hx2') hu (by omega) fun x w3 hox hx3 => kp_ext hx3 ?_)
  have hx3' := hx2'.trans' hx3
  have hux : SUp (sessWith l a) := hu.ins ordI (asSess a)
  have hlx : (sessWith l a).length ≤ 4611686018427387903 := Nat.le_trans (insC_len _ _ _) (by omega)
  refine sess_Which_calls (sess_Which_spec hox.is hux hlx fun w4 hx4 => kp_ext hx4 ?_)
  have hx4' := hx3'.trans' hx4
  refine new_of fun b5 w5 hn5 => wr_of fun w6 hw6 => ?_
  have hb5 : b5 = w4.heap.size := hn5.1
  have h5lt := hn5.lt
  have hx5 : Ext w w5 := hx4'.trans' (Ext.new hn5)
  have hx6 : Ext w w6 := Below.wr hx5 (by have := hx4'.size; omega) hw6
  have hx36 : Ext w3 w6 := Below.wr (hx4.trans' (Ext.new hn5)) (by have := hx4.size; omega) hw6
  have hw : whichOf (sessWith l a) a.Client a.Seq = (1, a) := by
    unfold whichOf
    rw [sessOf_with hu a]
    show (if a.Seq < a.Seq then _ else if a.Seq = a.Seq then (1, a) else _) = _
    rw [if_neg (by omega), if_pos rfl]
  rw [hw]
  refine ref22_With_calls (ref22_With_spec (a := a) (hs.ext hx6) hu (by omega) fun y w7 hoy hx7 => kp_ext hx7 (kp_ext hx7 ?_))
  have hx7' := hx6.trans' hx7
  refine ref22_Same_calls (ref22_Same_spec (hox.is.ext (hx36.trans' hx7)) hoy.is fun t w8 ht hx8 => kp_ext hx8 (kp_ext hx8 ?_))
  have hx8' := hx7'.trans' hx8
  have hx38 := hx36.trans' (hx7.trans' hx8)
  refine ifNot (ifB_t (ht.2 rfl) ?_)
  refine ifNe (fun h => absurd rfl h) (fun _ => ?_)
  refine neSt (xs := a.cs) (ys := a.cs) (by kernel_rfl) (ApiAnswer.eqv a a) ?_
  rw [ApiAnswer.eqs_iff.2 rfl]
  refine ifB_f rfl ?_
  refine ifD (fun hq => ?_) (fun hq => law22_awake_calls (law22_awake_spec fun w' hx => kp_ext hx (kp_ext hx (hK w' (hx8'.trans' hx)))))
  refine sess_Which_calls (sess_Which_spec (hox.is.ext hx38) hux hlx fun w9 hx9 => kp_ext hx9 (kp_ext hx9 ?_))
  have hx9' := hx8'.trans' hx9
  refine new_of fun b10 w10 hn10 => wr_of fun w11 hw11 => ?_
  have hb10 : b10 = w9.heap.size := hn10.1
  have hx11 : Ext w w11 := Below.wr (hx9'.trans' (Ext.new hn10)) (by have := hx9'.size; omega) hw11
  have hq2 : i64 (i64 (a.Seq - 1) - IntKind.i64.wrap less) = a.Seq - 1 - less := by
    rw [show IntKind.i64.wrap less = i64 less from rfl, i64_id (n := less) (by omega) (by omega), i64_id (n := a.Seq - 1) (by omega) (by omega), i64_id (by omega) (by omega)]
  rw [hq2]
  have hw2 : whichOf (sessWith l a) a.Client (a.Seq - 1 - less) = (2, noAnswer) := by
    unfold whichOf
    rw [sessOf_with hu a]
    show (if a.Seq < a.Seq - 1 - less then _ else if a.Seq - 1 - less = a.Seq then _ else (2, noAnswer)) = _
    rw [if_neg (by omega), if_neg (by omega)]
  rw [hw2]
  refine ifNe (fun h => absurd rfl h) (fun _ => ?_)
  exact law22_awake_calls (law22_awake_spec fun w' hx => kp_ext hx (kp_ext hx (kp_ext hx (hK w' (hx11.trans' hx)))))
end Go.Chg
