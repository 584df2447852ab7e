/-
  Pieces of Go's library as they are told (searching in halves, cloning), and comparing two lists. Of whatever program.
-/
import Derived.Test.YtnnoalpkldpjfaaLoops
import Derived.Test.YtnnoalpkldpjfaaSorted
import Derived.Test.YtnnoalpkldpjfaaEqs
namespace Go.Vc
open Go.RowKit (Below)
variable {α β γ δ : Type} {P : Program} {w : World}

/-! ### A list parted by a test: below 0, then 0 or above -/
structure AtC (c : α → Int) (l : List α) (i : Nat) : Prop where
  le : i ≤ l.length
  below : ∀ (j : Nat) (x : α), l[j]? = some x → j < i → c x < 0
  above : ∀ (j : Nat) (x : α), l[j]? = some x → i ≤ j → 0 ≤ c x
/-- Behind what is 0 or above all is above. -/
def RisesC (c : α → Int) (l : List α) : Prop := ∀ (i j : Nat) (x y : α), i < j → l[i]? = some x → l[j]? = some y → 0 ≤ c x → 0 < c y
def foundC (c : α → Int) (l : List α) (i : Nat) : Bool := match l[i]? with | some y => c y == 0 | none => false

theorem foundC_iff {c : α → Int} {l : List α} {i : Nat} : foundC c l i = true ↔ ∃ y, l[i]? = some y ∧ c y = 0 := by
  unfold foundC
  cases h : l[i]? with
  | none => simp
  | some y => simp
theorem AtC.lt_of {c : α → Int} {l : List α} {i j : Nat} {x : α} (h : AtC c l i) (hx : l[j]? = some x) (hc : c x < 0) : j < i := by
  by_cases hj : j < i
  · exact hj
  · have := h.above j x hx (by omega); omega
theorem mem_take_ix {l : List α} {i : Nat} {x : α} (h : x ∈ l.take i) : ∃ j, j < i ∧ l[j]? = some x := by
  obtain ⟨j, hj, rfl⟩ := List.getElem_of_mem h
  have hj' := hj
  rw [List.length_take] at hj'
  exact ⟨j, by omega, by rw [List.getElem_take]; exact List.getElem?_eq_getElem (by omega)⟩
theorem mem_drop_ix {l : List α} {i : Nat} {x : α} (h : x ∈ l.drop i) : ∃ j, i ≤ j ∧ l[j]? = some x := by
  obtain ⟨j, hj, rfl⟩ := List.getElem_of_mem h
  exact ⟨i + j, by omega, by rw [← List.getElem?_drop]; exact List.getElem?_eq_getElem hj⟩
theorem filter_parts {l : List α} {p : α → Bool} {i : Nat} (h1 : ∀ x ∈ l.take i, p x = true) (h2 : ∀ x ∈ l.drop i, p x = false) : l.filter p = l.take i := by
  conv => lhs; rw [← List.take_append_drop i l]
  rw [List.filter_append, List.filter_eq_self.2 h1, List.filter_eq_nil_iff.2 (fun x hx => by rw [h2 x hx]; simp), List.append_nil]
theorem filter_parts' {l : List α} {p : α → Bool} {i : Nat} (h1 : ∀ x ∈ l.take i, p x = false) (h2 : ∀ x ∈ l.drop i, p x = true) : l.filter p = l.drop i := by
  conv => lhs; rw [← List.take_append_drop i l]
  rw [List.filter_append, List.filter_eq_self.2 h2, List.filter_eq_nil_iff.2 (fun x hx => by rw [h1 x hx]; simp), List.nil_append]
theorem AtC.filter_lt {c : α → Int} {l : List α} {i : Nat} (h : AtC c l i) : l.filter (fun x => decide (c x < 0)) = l.take i := by
  refine filter_parts (fun x hx => ?_) (fun x hx => ?_)
  · obtain ⟨j, hj, hg⟩ := mem_take_ix hx
    exact decide_eq_true (h.below j x hg hj)
  · obtain ⟨j, hj, hg⟩ := mem_drop_ix hx
    have := h.above j x hg hj
    exact decide_eq_false (by omega)
theorem AtC.filter_gt_f {c : α → Int} {l : List α} {i : Nat} (h : AtC c l i) (hr : RisesC c l) (hf : foundC c l i = true) : l.filter (fun x => decide (0 < c x)) = l.drop (i + 1) := by
  obtain ⟨y, hy, h0⟩ := foundC_iff.1 hf
  refine filter_parts' (fun x hx => ?_) (fun x hx => ?_)
  · obtain ⟨j, hj, hg⟩ := mem_take_ix hx
    by_cases hji : j = i
    · subst hji; rw [hy] at hg; cases hg; exact decide_eq_false (by omega)
    · have := h.below j x hg (by omega)
      exact decide_eq_false (by omega)
  · obtain ⟨j, hj, hg⟩ := mem_drop_ix hx
    exact decide_eq_true (hr i j y x (by omega) hy hg (by omega))
theorem AtC.gt_n {c : α → Int} {l : List α} {i j : Nat} {x : α} (h : AtC c l i) (hr : RisesC c l) (hf : foundC c l i = false) (hj : i ≤ j) (hg : l[j]? = some x) : 0 < c x := by
  have h1 := h.above j x hg hj
  by_cases h0 : c x = 0
  · exfalso
    have hne : ¬ foundC c l i = true := by rw [hf]; simp
    by_cases hji : j = i
    · subst hji; exact hne (foundC_iff.2 ⟨x, hg, h0⟩)
    · have hjl := (List.getElem?_eq_some_iff.1 hg).1
      have hi : i < l.length := by omega
      have hgi := List.getElem?_eq_getElem hi
      have h2 := h.above i _ hgi (Nat.le_refl _)
      have h3 := hr i j _ _ (by omega) hgi hg h2
      omega
  · omega
theorem AtC.filter_gt_n {c : α → Int} {l : List α} {i : Nat} (h : AtC c l i) (hr : RisesC c l) (hf : foundC c l i = false) : l.filter (fun x => decide (0 < c x)) = l.drop i := by
  refine filter_parts' (fun x hx => ?_) (fun x hx => ?_)
  · obtain ⟨j, hj, hg⟩ := mem_take_ix hx
    have := h.below j x hg hj
    exact decide_eq_false (by omega)
  · obtain ⟨j, hj, hg⟩ := mem_drop_ix hx
    exact decide_eq_true (h.gt_n hr hf hj hg)
theorem AtC.ne_n {c : α → Int} {l : List α} {i : Nat} {x : α} (h : AtC c l i) (hr : RisesC c l) (hf : foundC c l i = false) (hx : x ∈ l) : c x ≠ 0 := by
  obtain ⟨j, hj, rfl⟩ := List.getElem_of_mem hx
  have hg := List.getElem?_eq_getElem hj
  by_cases hji : j < i
  · have := h.below j _ hg hji; omega
  · have := h.gt_n hr hf (by omega) hg; omega
theorem AtC.find {c : α → Int} {l : List α} {i : Nat} (h : AtC c l i) (hr : RisesC c l) : l.find? (fun x => c x == 0) = if foundC c l i = true then l[i]? else none := by
  split
  · rename_i hf
    obtain ⟨y, hy, h0⟩ := foundC_iff.1 hf
    obtain ⟨hi, hyi⟩ := List.getElem?_eq_some_iff.1 hy
    conv => lhs; rw [← List.take_append_drop i l]
    rw [List.find?_append, List.find?_eq_none.2, Option.none_or, List.drop_eq_getElem_cons hi, List.find?_cons, hyi, h0]
    · simp [hy]
    · intro x hx
      obtain ⟨j, hj, hg⟩ := mem_take_ix hx
      have := h.below j x hg hj
      simp; omega
  · rename_i hf
    have hf' : foundC c l i = false := by simpa using hf
    exact List.find?_eq_none.2 fun x hx => by have := h.ne_n hr hf' hx; simpa using this
/-- One more, in its place. -/
def insC (c : α → Int) (l : List α) (s : α) : List α := l.filter (fun x => decide (c x < 0)) ++ s :: l.filter (fun x => decide (0 < c x))
theorem AtC.ins_f {c : α → Int} {l : List α} {i : Nat} (h : AtC c l i) (hr : RisesC c l) (hf : foundC c l i = true) (s : α) : insC c l s = l.set i s := by
  obtain ⟨y, hy, h0⟩ := foundC_iff.1 hf
  obtain ⟨hi, hyi⟩ := List.getElem?_eq_some_iff.1 hy
  unfold insC
  rw [h.filter_lt, h.filter_gt_f hr hf, List.set_eq_take_append_cons_drop, if_pos hi]
theorem AtC.ins_n {c : α → Int} {l : List α} {i : Nat} (h : AtC c l i) (hr : RisesC c l) (hf : foundC c l i = false) (s : α) : insC c l s = l.take i ++ s :: l.drop i := by
  unfold insC
  rw [h.filter_lt, h.filter_gt_n hr hf]
theorem AtC.del_f {c : α → Int} {l : List α} {i : Nat} (h : AtC c l i) (hr : RisesC c l) (hf : foundC c l i = true) : l.filter (fun x => c x != 0) = l.take i ++ l.drop (i + 1) := by
  obtain ⟨y, hy, h0⟩ := foundC_iff.1 hf
  obtain ⟨hi, hyi⟩ := List.getElem?_eq_some_iff.1 hy
  conv => lhs; rw [← List.take_append_drop i l]
  rw [List.filter_append, List.drop_eq_getElem_cons hi, List.filter_cons, hyi, h0, List.filter_eq_self.2, List.filter_eq_self.2]
  · rfl
  · intro x hx
    obtain ⟨j, hj, hg⟩ := mem_drop_ix hx
    have := hr i j y x (by omega) hy hg (by omega)
    simp; omega
  · intro x hx
    obtain ⟨j, hj, hg⟩ := mem_take_ix hx
    have := h.below j x hg hj
    simp; omega
theorem AtC.del_n {c : α → Int} {l : List α} {i : Nat} (h : AtC c l i) (hr : RisesC c l) (hf : foundC c l i = false) : l.filter (fun x => c x != 0) = l :=
  List.filter_eq_self.2 fun x hx => by have := h.ne_n hr hf hx; simpa using this
theorem insC_rises {c : α → Int} {R : α → α → Prop} {l : List α} {s : α} (hl : l.Pairwise R) (h1 : ∀ x ∈ l, c x < 0 → R x s) (h2 : ∀ x ∈ l, 0 < c x → R s x) (h3 : ∀ x y, R x s → R s y → R x y) : (insC c l s).Pairwise R := by
  unfold insC
  rw [List.pairwise_append, List.pairwise_cons]
  refine ⟨hl.filter _, ⟨fun x hx => ?_, hl.filter _⟩, fun x hx y hy => ?_⟩
  · rw [List.mem_filter] at hx; exact h2 x hx.1 (by simpa using hx.2)
  · rw [List.mem_filter] at hx
    have hxs := h1 x hx.1 (by simpa using hx.2)
    rcases List.mem_cons.1 hy with rfl | hy
    · exact hxs
    · rw [List.mem_filter] at hy
      exact h3 _ _ hxs (h2 y hy.1 (by simpa using hy.2))

/-- slices.BinarySearchFunc, told. -/
theorem search_vc {E : Enc α} {t u g : Nat} {val : α → Value} {args : α → Array Value} {x : Sl} {l : List α} (c : α → Int) {K : Int × Bool → World → Prop} (ht : slOf P t = some E.sz) (hu : agT P u = some E.sz) (hv : ∀ y, val y = .agg ⟨E.cs y⟩)
    (hx : IsSl E w x l) (hle : l.length ≤ 4611686018427387903) (hr : RisesC c l)
    (hcall : ∀ y ∈ l, ∀ (w' : World) (K' : Int → World → Prop), Ext w w' → (∀ w'', Ext w' w'' → K' (c y) w'') → callV P (Value.int .i64) g (args y) w' K')
    (hK : ∀ (w' : World) (i : Nat), AtC c l i → Ext w w' → K ((i : Int), foundC c l i) w') :
    loop2 (0 : Int) ((x.len : Int) : Int) (fun i1 j2 k3 w4 =>
      ifB (decide (i1 < j2))
      (opRd P (Instr.indexAt t x.val (.int .i64 (IntKind.i64.wrap (shR .u64 (IntKind.u64.wrap (i64 (i1 + j2))) 1)))) pav (fun t5 =>
      opRd P (Instr.loadAt u (.pointer (some t5))) val (fun t6 =>
      callV P (Value.int .i64) g (args t6) w4 fun t7 w8 =>
      ifB (decide (t7 < 0))
      (k3 (i64 ((IntKind.i64.wrap (shR .u64 (IntKind.u64.wrap (i64 (i1 + j2))) 1)) + 1)) j2 w8)
      (k3 i1 (IntKind.i64.wrap (shR .u64 (IntKind.u64.wrap (i64 (i1 + j2))) 1)) w8)) w4) w4)
      (ifB (decide (i1 < (x.len : Int)))
      (opRd P (Instr.indexAt t x.val (.int .i64 i1)) pav (fun t9 =>
      opRd P (Instr.loadAt u (.pointer (some t9))) val (fun t10 =>
      callV P (Value.int .i64) g (args t10) w4 fun t11 w12 =>
      K (i1, (t11 == 0)) w12) w4) w4)
      (K (i1, false) w4))) w := by
  have hl := hx.len
  refine ⟨fun i j w' => Ext w w' ∧ ∃ (a b : Nat), i = a ∧ j = b ∧ a ≤ b ∧ b ≤ l.length ∧ (∀ (k : Nat) y, l[k]? = some y → k < a → c y < 0) ∧ (∀ (k : Nat) y, l[k]? = some y → b ≤ k → 0 ≤ c y), fun i j _ => (j - i).toNat,
    ⟨Ext.rfl' _, 0, l.length, rfl, by omega, by omega, by omega, fun k y _ hk => by omega, fun k y hy hk => by have := (List.getElem?_eq_some_iff.1 hy).1; omega⟩, ?_⟩
  rintro i j w1 ⟨hx1, a, b, rfl, rfl, hab, hb, hlo, hhi⟩
  refine ifD (fun hlt => ?_) (fun hge => ?_)
  · have hm := half (i := (a : Int)) (j := (b : Int)) (by omega) (by omega) (by omega)
    rw [hm]
    obtain ⟨m, hmm⟩ : ∃ m : Nat, ((a : Int) + b) / 2 = m := ⟨(a + b) / 2, by omega⟩
    rw [hmm]
    have hml : m < l.length := by omega
    have hget := List.getElem?_eq_getElem hml
    refine st_rd ht hu (hx.ext hx1) rfl hml hv fun _ => ?_
    refine hcall _ (List.getElem_mem _) _ _ hx1 fun w2 hx2 => ?_
    refine ifD (fun hneg => ?_) (fun hpos => ?_)
    · refine ⟨⟨hx1.trans' hx2, m + 1, b, by rw [i64_id] <;> omega, rfl, by omega, hb, fun k y hy hk => ?_, hhi⟩, ?_⟩
      · by_cases hkm : k = m
        · subst hkm; rw [hget] at hy; cases hy; exact hneg
        · by_cases h0 : c y < 0
          · exact h0
          · have := hr k m y _ (by omega) hy hget (by omega)
            omega
      · dsimp only
        rw [i64_id] <;> omega
    · refine ⟨⟨hx1.trans' hx2, a, m, rfl, rfl, by omega, by omega, hlo, fun k y hy hk => ?_⟩, ?_⟩
      · by_cases hkm : k = m
        · subst hkm; rw [hget] at hy; cases hy; omega
        · have := hr m k _ y (by omega) hget hy (by omega)
          omega
      · dsimp only
        omega
  · have hab' : a = b := by omega
    subst hab'
    have hp : AtC c l a := ⟨hb, hlo, hhi⟩
    refine ifD (fun hlt => ?_) (fun hge2 => ?_)
    · have hal : a < l.length := by omega
      have hget := List.getElem?_eq_getElem hal
      refine st_rd ht hu (hx.ext hx1) rfl hal hv fun _ => ?_
      refine hcall _ (List.getElem_mem _) _ _ hx1 fun w2 hx2 => ?_
      have := hK w2 a hp (hx1.trans' hx2)
      rw [show foundC c l a = (c l[a] == 0) from by unfold foundC; rw [hget]] at this
      exact this
    · have := hK w1 a hp hx1
      rw [show foundC c l a = false from by unfold foundC; rw [List.getElem?_eq_none (by omega)]] at this
      exact this

/-- slices.Clone, told. -/
theorem clone_vc {E : Enc α} {t : TypeId} (by_ : Nat) {s : Sl} {l : List α} {x y : Operand} {K : Sl → World → Prop} (ht : appOk P t (elemT P t) E.sz by_ = true) (hs : isSlT P t = true)
    (hb : ∀ w : World, (Instr.buildSlice t 0 #[]).run P w = .ok (.slice (some ⟨w.heap.size, 0, none⟩) 0 0) (w.alloc (.cells ⟨[]⟩ (elemT P t))))
    (h : IsSl E w s l) (hl : l.length * by_ ≤ 140737488355328) (hby : 0 < by_) (hK : ∀ s' w', OwnSl E w' w.heap.size s' l → Ext w w' → (l = [] → s'.len = 0) → K s' w') :
    opRd P (binSem .eql t x y s.val Sl.nil.val) Value.bool (fun t1 =>
      ifB t1 (K Sl.nil w)
      (opTy P (Instr.buildSlice t 0 #[]) Sl.val (fun t2 w3 =>
      opTy P (Builtin.append_ #[t, t] t #[t2.val, s.val]) Sl.val (fun t4 w5 => K t4 w5) w3) w)) w := by
  refine eqSlNil hs fun b hb' => ?_
  subst hb'
  refine ifB_of (fun hn => ?_) (fun hn => ?_)
  · have hn' : s.a = none := by simpa using hn
    have h1 := h.nil hn'
    have h2 := h.len
    have h3 := h.cap
    have : l = [] := List.length_eq_zero_iff.1 (by omega)
    subst this
    exact hK _ _ (OwnSl.nil _ _ _) (Ext.rfl' _) fun _ => rfl
  · refine lit_ty by_ (E := E) (xs := []) w.heap.size ht rfl (by omega) hb (Nat.le_refl _) fun s1 w1 _ ho hx => ?_
    refine app_ty by_ ht hs ho (h.ext hx) (by simpa using hl) hx.size hby fun s2 w2 ho2 hg => ?_
    rw [List.nil_append] at ho2
    exact hK _ _ ho2 (Ext.own hx ho (Nat.le_refl _) hg) fun h0 => by rw [ho2.len, h0]; rfl

/-- Two lists, compared element by element. -/
theorem same_vc {E : Enc α} {ta tb u : TypeId} {xo yo : Operand} {val : α → Value} {a b : Sl} {la lb : List α} {r : α → α → Bool} {K : Bool → World → Prop} (hta : slOf P ta = some E.sz) (htb : slOf P tb = some E.sz) (hu : agT P u = some E.sz) (hv : ∀ y, val y = .agg ⟨E.cs y⟩)
    (hg : noIface P u = true) (he : ∀ x y, EqV P 10000 u (.agg ⟨E.cs x⟩) (.agg ⟨E.cs y⟩) (r x y)) (hr : ∀ x y, r x y = true ↔ x = y)
    (ha : IsSl E w a la) (hb : IsSl E w b lb) (hK : ∀ t w', (t = true ↔ la = lb) → Ext w w' → K t w') :
    ifB ((a.len : Int) != (b.len : Int)) (K false w)
      (loop1 (0 : Int) (fun i1 k2 w3 =>
      ifB (decide (i1 < (a.len : Int)))
      (drewM (fun w4 =>
      opRd P (Instr.indexAt ta a.val (.int .i64 i1)) pav (fun t5 =>
      opRd P (Instr.loadAt u (.pointer (some t5))) val (fun t6 =>
      opRd P (Instr.indexAt tb b.val (.int .i64 i1)) pav (fun t7 =>
      opRd P (Instr.loadAt u (.pointer (some t7))) val (fun t8 =>
      opRd P (binSem .neq u xo yo (.agg ⟨E.cs t6⟩) (.agg ⟨E.cs t8⟩)) Value.bool (fun t9 =>
      ifB t9 (K false w4) (k2 (i64 (i1 + 1)) w4)) w4) w4) w4) w4) w4) w3)
      (K true w3)) w) := by
  have hla := ha.len
  have hlb := hb.len
  have hle := ha.le
  refine ifNe (fun hne => hK _ _ ⟨fun h => (by cases h), fun h => by subst h; omega⟩ (Ext.rfl' _)) fun heq => ?_
  have hlen : la.length = lb.length := by omega
  refine up1 (fun k w' => Ext w w' ∧ la.take k = lb.take k) 0 la.length rfl (by omega) hle ⟨Ext.rfl' _, rfl⟩ fun k w1 C _ hk ⟨hx, ht⟩ hC => ?_
  refine ifD (fun hlt => ?_) (fun hge => hK _ _ ⟨fun _ => ?_, fun _ => rfl⟩ hx)
  · have hk1 : k < la.length := by omega
    have hk2 : k < lb.length := by omega
    refine drew_of fun w2 hx2 => ?_
    have hx3 := hx.trans' hx2
    refine st_rd hta hu (ha.ext hx3) rfl hk1 hv fun _ => ?_
    refine st_rd htb hu (hb.ext hx3) rfl hk2 hv fun _ => ?_
    refine neSt hg (he _ _) ?_
    refine ifNot (ifB_of (fun h => ?_) (fun h => ?_))
    · have := (hr _ _).1 h
      exact hC hk1 _ _ rfl ⟨hx3, by rw [take_up hk1, take_up hk2, ht, this]⟩
    · refine hK _ _ ⟨fun h => (by cases h), fun h' => ?_⟩ hx3
      subst h'
      rw [(hr _ _).2 rfl] at h
      cases h
  · rw [← take_done (l := la) (k := k) (by omega), ht, take_done (by omega)]

end Go.Vc
