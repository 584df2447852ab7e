/-
  Package 'ledger': the first holes, the top; the law of chapter 32 about what comes next.
-/
import Derived.Test.YtnnoalpkldpjfaaSpLdg2
set_option maxRecDepth 20000
set_option linter.unusedVariables false
namespace Go.Chg
open Go.Vc
open Go.RowKit (Below)
variable {w : World} {s : Sl} {l f : List ApiEntry} {a n : Int}
theorem from_snoc {k : Nat} (hk : k < l.length) : fromE a (l.take (k + 1)) = fromE a (l.take k) ++ (if a < l[k].Index then [l[k]] else []) := by
  unfold fromE
  rw [List.take_add_one, List.getElem?_eq_getElem hk, List.filter_append, Option.toList_some]
  congr 1
  by_cases h : a < l[k].Index
  · rw [if_pos h, List.filter_cons_of_pos (by rw [decide_eq_true_iff]; omega)]; rfl
  · rw [if_neg h, List.filter_cons_of_neg (by rw [decide_eq_true_iff]; omega)]; rfl
theorem take_upE (hu : EUp l) (k : Nat) : EUp (l.take k) := List.Pairwise.sublist (List.take_sublist k l) hu
/-! ### Holes -/
def gapE (a b : Int) (k : Nat) : List Int := (List.range (min k (b - 1 - a).toNat)).map fun (i : Nat) => a + 1 + (i : Int)
def holesS (st : List Int × Int) (x : ApiEntry) : List Int × Int := (st.1 ++ gapE st.2 x.Index (4 - st.1.length), x.Index)
def holesL (a : Int) (f : List ApiEntry) : List Int × Int := f.foldl holesS ([], a)
theorem gap_len (a b : Int) (k : Nat) : (gapE a b k).length ≤ k := by
  unfold gapE
  rw [List.length_map, List.length_range]
  omega
theorem holesS_len {st : List Int × Int} {x : ApiEntry} (h : st.1.length ≤ 4) : (holesS st x).1.length ≤ 4 := by
  have := gap_len st.2 x.Index (4 - st.1.length)
  unfold holesS
  rw [List.length_append]
  omega
theorem holes_len : ∀ (f : List ApiEntry) (st : List Int × Int), st.1.length ≤ 4 → (f.foldl holesS st).1.length ≤ 4
  | [], st, h => h
  | x :: r, st, h => holes_len r _ (holesS_len h)
theorem holes_full : ∀ (f : List ApiEntry) (st : List Int × Int), st.1.length = 4 → (f.foldl holesS st).1 = st.1
  | [], st, h => rfl
  | x :: r, st, h => by
    have e : (holesS st x).1 = st.1 := by
      unfold holesS gapE
      rw [h]
      simp
    show (r.foldl holesS (holesS st x)).1 = _
    rw [holes_full r (holesS st x) (by rw [e]; exact h), e]
theorem holes_last : ∀ (f : List ApiEntry) (st : List Int × Int), (f.foldl holesS st).2 = st.2 ∨ ∃ x ∈ f, (f.foldl holesS st).2 = x.Index
  | [], st => .inl rfl
  | x :: r, st => by
    rcases holes_last r (holesS st x) with h | ⟨y, hy, h⟩
    · exact .inr ⟨x, by simp, h⟩
    · exact .inr ⟨y, by simp [hy], h⟩
theorem holesL_snoc {k : Nat} (hk : k < f.length) : holesL a (f.take (k + 1)) = holesS (holesL a (f.take k)) f[k] := by
  unfold holesL
  rw [List.take_add_one, List.getElem?_eq_getElem hk, List.foldl_append]
  rfl
theorem holes_run : ∀ (f : List ApiEntry) (a : Int), ((runE a f).foldl holesS ([], a)).1 = []
  | [], _ => rfl
  | x :: r, a => by
    rw [runE]
    split
    · rename_i h
      have e : holesS ([], a) x = ([], a + 1) := by
        unfold holesS gapE
        rw [h]
        simp
      show ((runE (a + 1) r).foldl holesS (holesS ([], a) x)).1 = []
      rw [e]
      exact holes_run r (a + 1)
    · rfl
theorem run_from (f : List ApiEntry) (h : ∀ x ∈ f, a + 1 ≤ x.Index) : fromE a (runE a f) = runE a f := by
  unfold fromE
  rw [List.filter_eq_self]
  intro x hx
  rw [decide_eq_true_iff]
  exact h x (run_mem hx)
/-- What was put behind so far. -/
def gapJ (st : List Int × Int) (j : Nat) : List Int := st.1 ++ (List.range j).map fun (i : Nat) => st.2 + 1 + (i : Int)
theorem gapJ_up (st : List Int × Int) (j : Nat) : gapJ st (j + 1) = gapJ st j ++ [st.2 + 1 + (j : Int)] := by
  unfold gapJ
  rw [List.range_succ, List.map_append, List.append_assoc]
  rfl
theorem gapJ_end {st : List Int × Int} {x : ApiEntry} {j : Nat} (h : j = min (4 - st.1.length) (x.Index - 1 - st.2).toNat) : gapJ st j = (holesS st x).1 := by
  subst h
  rfl
theorem gapJ_len (st : List Int × Int) (j : Nat) : (gapJ st j).length = st.1.length + j := by simp [gapJ]
theorem low_last {k : Nat} (hu : EUp f) (hlow : ∀ x ∈ f, a + 1 ≤ x.Index) (hk : k < f.length) : a ≤ (holesL a (f.take k)).2 ∧ (holesL a (f.take k)).2 < f[k].Index := by
  have h0 := hlow f[k] (List.getElem_mem hk)
  rcases holes_last (f.take k) ([], a) with h | ⟨x, hx, h⟩
  · have h : (holesL a (f.take k)).2 = a := h
    omega
  · have h : (holesL a (f.take k)).2 = x.Index := h
    obtain ⟨j, hj, rfl⟩ := List.getElem_of_mem hx
    rw [List.length_take] at hj
    rw [List.getElem_take] at h
    have h1 := hlow f[j] (List.getElem_mem (by omega))
    have h2 := Up.get hu (show j < k by omega) (List.getElem?_eq_getElem (show j < f.length by omega)) (List.getElem?_eq_getElem hk)
    rw [cmpI_neg] at h2
    omega
theorem ledger_Holes_spec {K : Sl → World → Prop} (hs : IsSl eApiEntry w s l) (hu : EUp l) (hle : l.length ≤ 1000) (ha : 0 ≤ a) (ha2 : a ≤ 9223372036854775807) (hwf : ∀ x ∈ l, x.Index ≤ 9223372036854775807) (hK : ∀ s' w', OwnSl (eK .i64) w' w.heap.size s' (holesL a (fromE a l)).1 → Ext w w' → K s' w') : ledger_Holes s a K w := by
  unfold ledger_Holes
  refine ledger_above_calls (?_ : ledger_above a _ w)
  unfold ledger_above
  refine ifNot (ifD (fun hlt => ?_) (fun hge => hK _ _ (by rw [from_none hwf (by omega)]; exact OwnSl.nil _ _ _) (Ext.rfl' _)))
  have e1 : i64 (a + 1) = a + 1 := i64_id (by omega) (by omega)
  rw [e1]
  refine entry_From_calls (entry_From_spec hs hu (by omega) fun t3 w4 ho hx4 => ?_)
  obtain ⟨f, hf⟩ : ∃ f, f = fromE a l := ⟨_, rfl⟩
  have ho : OwnSl eApiEntry w4 w.heap.size t3 f := by rw [hf]; exact ho
  have hfu : EUp f := by rw [hf]; exact from_up hu
  have hfl : f.length ≤ 1000 := by rw [hf]; exact Nat.le_trans (from_len a l) hle
  have hlow : ∀ x ∈ f, a + 1 ≤ x.Index := by rw [hf]; exact from_low
  have hhi : ∀ x ∈ f, x.Index ≤ 9223372036854775807 := fun x hx => by rw [hf] at hx; exact hwf x (List.mem_filter.1 hx).1
  rw [← hf] at hK
  have hlen := ho.len
  have z4 := hx4.size
  refine up3c (fun k out at_ W => Ext w4 W ∧ OwnSl (eK .i64) W w4.heap.size out (holesL a (f.take k)).1 ∧ at_ = (holesL a (f.take k)).2 + 1) 0 f.length rfl (Nat.zero_le _) (by omega) ⟨Ext.rfl' _, OwnSl.nil _ _ _, rfl⟩ ?_
  rintro k out at_ W C _ hk ⟨hx, hw, rfl⟩ hC
  refine ifD (fun hlt2 => ?_) (fun hge => ?_)
  rotate_left
  · have hkl : k = f.length := by omega
    subst hkl
    rw [List.take_length] at hw
    exact hK _ _ (hw.mono z4) (hx4.trans' hx)
  have hk1 : k < f.length := by omega
  refine st_rd (E := eApiEntry) (val := ApiEntry.val) (by kernel_rfl) (by kernel_rfl) (ho.is.ext hx) rfl hk1 (fun _ => rfl) fun _ => ?_
  obtain ⟨st, hst⟩ : ∃ st, st = holesL a (f.take k) := ⟨_, rfl⟩
  have hsn := holesL_snoc (a := a) hk1
  obtain ⟨q1, q2⟩ := low_last hfu hlow hk1
  rw [← hst] at hsn q1 q2 hw ⊢
  have hh := hhi f[k] (List.getElem_mem hk1)
  have hsl : st.1.length ≤ 4 := by rw [hst]; exact holes_len _ _ (by simp)
  refine new_x hx fun b12 w13 h12 l12 hx13 n12 => wr_x hx13 h12 fun w14 hx14 hw14 => ?_
  have e12 : b12 = W.heap.size := n12.1
  have hw14' : OwnSl (eK .i64) w14 w4.heap.size out st.1 := (hw.ext (Ext.new n12)).wrN hw14 (n := W.heap.size) (fun c hc => hw.lt c hc) (by omega)
  refine ⟨fun out' W' => Ext w4 W' ∧ OwnSl (eK .i64) W' w4.heap.size out' (holesS st f[k]).1, ?_, ?_⟩
  · -- the gap
    refine ⟨fun o at_ W' => ∃ j : Nat, j ≤ min (4 - st.1.length) (f[k].Index - 1 - st.2).toNat ∧ at_ = st.2 + 1 + j ∧ Ext w4 W' ∧ W.heap.size < W'.heap.size ∧ OwnSl (eK .i64) W' w4.heap.size o (gapJ st j) ∧ ∀ c, o.blk = some c → c ≠ b12, fun _ at_ _ => (f[k].Index - at_).toNat,
      ⟨0, Nat.zero_le _, by omega, hx14, by have := (Ext.new n12).size; have := hw14.size; omega, by simpa [gapJ] using hw14', fun c hc => by have := hw.lt c hc; omega⟩, ?_⟩
    rintro o at_ W' ⟨j, hj, rfl, hx', hz', ho', hb'⟩
    have hgl := gapJ_len st j
    have hol := ho'.len
    have hend : j = min (4 - st.1.length) (f[k].Index - 1 - st.2).toNat → Ext w4 W' ∧ OwnSl (eK .i64) W' w4.heap.size o (holesS st f[k]).1 := fun h => ⟨hx', by rw [← gapJ_end h]; exact ho'⟩
    refine ifD (fun h1 => ?_) (fun h1 => hend (by omega))
    refine ifD (fun h2 => ?_) (fun h2 => hend (by omega))
    refine lit1_ty (E := eK .i64) (x := st.2 + 1 + j) 8 W'.heap.size (by kernel_rfl) (by decide) (fun w => by kernel_rfl) (Nat.le_refl _) fun t20 w21 _ ht20 hx21 => kp_ext hx21 ?_
    have z' := hx'.size
    refine app_ty2 (E := eK .i64) 8 (by kernel_rfl) (by kernel_rfl) (ho'.ext hx21) ht20.is (by simp only [List.length_singleton]; omega) (by have := hx21.size; omega) (by decide) fun s2 w23 ho2 hg hno => kp_grown hg (fun e => hb' _ e.symm rfl) ?_
    have e3 : i64 (st.2 + 1 + j + 1) = st.2 + 1 + ((j + 1 : Nat) : Int) := by rw [i64_id] <;> omega
    rw [e3]
    refine ⟨⟨j + 1, by omega, rfl, Ext.own (hx'.trans' hx21) (ho'.ext hx21) (Nat.le_refl _) hg, by have := hx21.size; have := hg.size; omega, by rw [gapJ_up]; exact ho2, fun c hc e => ?_⟩, by show (f[k].Index - (st.2 + 1 + ((j + 1 : Nat) : Int))).toNat < (f[k].Index - (st.2 + 1 + (j : Int))).toNat; omega⟩
    rcases hno with h | ⟨d, d1, d2⟩
    · exact hb' c (h ▸ hc) e
    · rw [d1] at hc
      have := Option.some.inj hc
      have := hx21.size
      omega
  rintro out' W' ⟨hx', ho'⟩
  have hol := ho'.len
  have hl4 := holesS_len (x := f[k]) hsl
  have split : holesL a f = (f.drop (k + 1)).foldl holesS (holesS st f[k]) := by
    conv => lhs; rw [← List.take_append_drop (k + 1) f]
    unfold holesL
    rw [List.foldl_append]
    show (f.drop (k + 1)).foldl holesS (holesL a (f.take (k + 1))) = _
    rw [hsn]
  refine ifEq (fun h4 => ?_) (fun h4 => ?_)
  · have : (holesL a f).1 = (holesS st f[k]).1 := by
      rw [split]
      exact holes_full _ _ (by omega)
    rw [this] at hK
    exact hK _ _ (ho'.mono z4) (hx4.trans' hx')
  refine ifEq (fun hmax => ?_) (fun hmax => ?_)
  · have hend : k + 1 = f.length := by
      refine Classical.byContradiction fun hne => ?_
      have hk2 : k + 1 < f.length := by omega
      have := Up.get hfu (show k < k + 1 by omega) (List.getElem?_eq_getElem hk1) (List.getElem?_eq_getElem hk2)
      rw [cmpI_neg] at this
      have := hhi f[k + 1] (List.getElem_mem hk2)
      omega
    have : (holesL a f).1 = (holesS st f[k]).1 := by
      rw [split, List.drop_of_length_le (by omega)]
      rfl
    rw [this] at hK
    exact hK _ _ (ho'.mono z4) (hx4.trans' hx')
  · refine hC hk1 _ _ _ _ rfl ⟨hx', by rw [hsn]; exact ho', ?_⟩
    rw [hsn, i64_id (by omega) (by omega)]
    rfl
theorem ref01_Ints_spec {p q : Sl} {xs : List Int} {K : Bool → World → Prop} (ha : IsSl (eK .i64) w p xs) (hb : IsSl (eK .i64) w q xs) (hK : ∀ w', Ext w w' → K true w') : ref01_Ints p q K w := by
  unfold ref01_Ints
  have h1 := ha.len
  have h2 := hb.len
  have hc := ha.cap
  have hm := ha.max
  refine ifNe (fun h => absurd (show (p.len : Int) = (q.len : Int) by omega) h) (fun _ => ?_)
  refine up1 (fun k v => Ext w v) 0 xs.length rfl (Nat.zero_le _) (by omega) (Ext.rfl' _) ?_
  rintro k v C _ hk hx hC
  refine ifD (fun hlt => drew_of fun v4 hx4 => ?_) (fun _ => hK _ hx)
  have hk1 : k < xs.length := by omega
  have hx := hx.trans' hx4
  refine el_rd (E := eK .i64) (y := xs[k]) (by kernel_rfl) (by kernel_rfl) (ha.ext hx) rfl hk1 rfl fun _ => ?_
  refine el_rd (E := eK .i64) (y := xs[k]) (by kernel_rfl) (by kernel_rfl) (hb.ext hx) rfl hk1 rfl fun _ => ?_
  exact ifNe (fun h => absurd rfl h) (fun _ => hC hk1 _ _ rfl hx)
/-! ### The top -/
def topS (m : Int) (x : ApiEntry) : Int := if x.Index > m then x.Index else m
def topE (a : Int) (l : List ApiEntry) : Int := l.foldl topS a
theorem top_facts : ∀ (l : List ApiEntry) (a : Int), a ≤ topE a l ∧ (topE a l = a ∨ ∃ y ∈ l, topE a l = y.Index)
  | [], a => ⟨Int.le_refl _, .inl rfl⟩
  | x :: r, a => by
    obtain ⟨h1, h2⟩ := top_facts r (topS a x)
    have e : topE a (x :: r) = topE (topS a x) r := rfl
    have h3 : a ≤ topS a x ∧ (topS a x = a ∨ topS a x = x.Index) := by
      unfold topS
      split
      · exact ⟨by omega, .inr rfl⟩
      · exact ⟨Int.le_refl _, .inl rfl⟩
    rw [e]
    refine ⟨by omega, ?_⟩
    rcases h2 with h2 | ⟨y, hy, h2⟩
    · rcases h3.2 with h | h
      · exact .inl (by rw [h2, h])
      · exact .inr ⟨x, by simp, by rw [h2, h]⟩
    · exact .inr ⟨y, by simp [hy], h2⟩
theorem top_last {k : Nat} (hu : EUp l) (hk : l.length = k + 1) : topE a l = imax a (l[k]'(by omega)).Index := by
  have hk1 : k < l.length := by omega
  have e : topE a l = topS (topE a (l.take k)) l[k] := by
    conv => lhs; rw [← List.take_append_drop k l, ← List.getElem_cons_drop hk1, List.drop_of_length_le (by omega)]
    unfold topE
    rw [List.foldl_append]
    rfl
  obtain ⟨h1, h2⟩ := top_facts (l.take k) a
  rw [e]
  unfold topS imax
  have hlt : ∀ y ∈ l.take k, y.Index < l[k].Index := fun y hy => by
    obtain ⟨j, hj, rfl⟩ := List.getElem_of_mem hy
    rw [List.length_take] at hj
    rw [List.getElem_take]
    have := Up.get hu (show j < k by omega) (List.getElem?_eq_getElem (show j < l.length by omega)) (List.getElem?_eq_getElem hk1)
    rwa [cmpI_neg] at this
  rcases h2 with h2 | ⟨y, hy, h2⟩
  · rw [h2]
  · have := hlt y hy
    split <;> split <;> omega
theorem ledger_Top_spec {K : Int → World → Prop} (hs : IsSl eApiEntry w s l) (hu : EUp l) (hle : l.length ≤ 1000) (hK : K (topE a l) w) : ledger_Top s a K w := by
  unfold ledger_Top
  have hl := hs.len
  refine ifEq (fun h0 => ?_) (fun h0 => ?_)
  · have : l = [] := List.length_eq_zero_iff.1 (by omega)
    subst this
    exact hK
  · obtain ⟨k, hk⟩ : ∃ k, l.length = k + 1 := ⟨l.length - 1, by omega⟩
    refine fld_rd (y := (l[k]'(by omega)).Index) (k := k) (by kernel_rfl) (by kernel_rfl) hs (by rw [i64_id] <;> omega) (by omega) rfl fun _ => ?_
    rw [top_last hu hk] at hK
    exact hK
/-! ### The law -/
def exE (n : Int) : ApiEntry := ⟨n, ⟨0, 0⟩, ⟨0, 0, 0, [], [], [], 0⟩⟩
def exL : List ApiEntry := [exE 4, exE 5, exE 7]
theorem exL_up : EUp exL := by
  refine List.pairwise_cons.2 ⟨fun y hy => ?_, List.pairwise_cons.2 ⟨fun y hy => ?_, List.pairwise_singleton _ _⟩⟩
  · simp only [List.mem_cons, List.not_mem_nil, or_false] at hy
    rcases hy with rfl | rfl <;> decide
  · simp only [List.mem_cons, List.not_mem_nil, or_false] at hy
    subst hy
    decide
theorem law32_awake_spec {K : Bool → World → Prop} (hK : ∀ w', Ext w w' → K true w') : law32_awake K w := by
  unfold law32_awake
  refine lit_ty 104 (E := eApiEntry) (xs := exL) w.heap.size (by kernel_rfl) rfl (by decide) (fun w => by kernel_rfl) (Nat.le_refl _) fun l1 w2 _ ho hx2 => ?_
  have hi : ∀ x ∈ exL, x.Index ≤ 9223372036854775807 := fun x hx => by
    simp only [exL, List.mem_cons, List.not_mem_nil, or_false] at hx
    rcases hx with rfl | rfl | rfl <;> decide
  refine ledger_Ready_calls (ledger_Ready_spec ho.is exL_up (by decide) (by decide) (by decide) hi fun t3 w4 h3 hx4 => ?_)
  have hl3 := h3.len
  refine ifEq (fun _ => ?_) (fun h => absurd (by rw [hl3]; rfl) h)
  refine ledger_Holes_calls (ledger_Holes_spec (ho.is.ext hx4) exL_up (by decide) (by decide) (by decide) hi fun t5 w6 h5 hx6 => ?_)
  have e5 : (holesL 3 (fromE 3 exL)).1 = [6] := by decide +kernel
  rw [e5] at h5
  refine lit1_ty (E := eK .i64) (x := 6) 8 w6.heap.size (by kernel_rfl) (by decide) (fun w => by kernel_rfl) (Nat.le_refl _) fun t7 w8 _ h7 hx8 => ?_
  refine ref01_Ints_calls (ref01_Ints_spec (h5.is.ext hx8) h7.is fun w10 hx10 => ifB_t rfl ?_)
  have hx := (hx4.trans' hx6).trans' (hx8.trans' hx10)
  refine ledger_Top_calls (ledger_Top_spec (ho.is.ext hx) exL_up (by decide) ?_)
  exact hK _ (hx2.trans' hx)
end Go.Chg
