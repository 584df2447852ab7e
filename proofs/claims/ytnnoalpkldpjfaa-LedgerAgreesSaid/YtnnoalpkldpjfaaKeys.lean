/-
  Lists whose keys rise, by an order of keys: numbers, texts. Plain Lean.
-/
import Derived.Test.YtnnoalpkldpjfaaStd2
import Derived.Test.YtnnoalpkldpjfaaStr
set_option linter.unusedVariables false
namespace Go.Vc
variable {α κ : Type}

theorem insC_len (c : α → Int) (l : List α) (s : α) : (insC c l s).length ≤ 2 * l.length + 1 := by
  unfold insC
  rw [List.length_append, List.length_cons]
  have h1 := List.length_filter_le (fun x => decide (c x < 0)) l
  have h2 := List.length_filter_le (fun x => decide (0 < c x)) l
  omega
structure OrdC (cmp : κ → κ → Int) : Prop where
  eq : ∀ x y, cmp x y = 0 ↔ x = y
  tr : ∀ x y z, cmp x y < 0 → cmp y z < 0 → cmp x z < 0
  fl : ∀ x y, 0 < cmp x y ↔ cmp y x < 0
def cmpI (x y : Int) : Int := if x < y then -1 else if y < x then 1 else 0
theorem cmpI_neg {x y : Int} : cmpI x y < 0 ↔ x < y := by unfold cmpI; split <;> (try split) <;> omega
theorem cmpI_pos {x y : Int} : 0 < cmpI x y ↔ y < x := by unfold cmpI; split <;> (try split) <;> omega
theorem cmpI_zero {x y : Int} : cmpI x y = 0 ↔ x = y := by unfold cmpI; split <;> (try split) <;> omega
theorem ordI : OrdC cmpI := ⟨fun x y => cmpI_zero, fun x y z h k => by rw [cmpI_neg] at *; omega, fun x y => by rw [cmpI_neg, cmpI_pos]⟩
def cmpS (x y : List UInt8) : Int := if x < y then -1 else if x = y then 0 else 1
theorem cmpS_neg {x y : List UInt8} : cmpS x y < 0 ↔ x < y := by
  unfold cmpS
  by_cases h : x < y
  · rw [if_pos h]; exact ⟨fun _ => h, fun _ => by decide⟩
  · rw [if_neg h]
    exact ⟨fun k => by split at k <;> omega, fun k => absurd k h⟩
theorem cmpS_zero {x y : List UInt8} : cmpS x y = 0 ↔ x = y := by
  unfold cmpS
  by_cases h : x < y
  · simp [h]
    intro e
    subst e
    exact str_lt_irrefl _ h
  · by_cases k : x = y <;> simp [h, k]
theorem cmpS_pos {x y : List UInt8} : 0 < cmpS x y ↔ y < x := by
  unfold cmpS
  rcases str_tri x y with h | h | h
  · simp [h, str_lt_asymm h]
  · subst h; simp [str_lt_irrefl]
  · have h1 := str_lt_asymm h
    have h2 : ¬ x = y := fun e => by subst e; exact str_lt_irrefl _ h
    simp [h, h1, h2]
theorem ordS : OrdC cmpS := ⟨fun x y => cmpS_zero, fun x y z h k => by rw [cmpS_neg] at *; exact str_lt_trans h k, fun x y => by rw [cmpS_neg, cmpS_pos]⟩

theorem OrdC.refl {cmp : κ → κ → Int} (h : OrdC cmp) (x : κ) : cmp x x = 0 := (h.eq x x).2 rfl
/-- Keys rise. -/
def Up (cmp : κ → κ → Int) (key : α → κ) (l : List α) : Prop := l.Pairwise fun x y => cmp (key x) (key y) < 0
theorem up_of_steps {cmp : κ → κ → Int} (o : OrdC cmp) {key : α → κ} : ∀ {l : List α}, (∀ (i : Nat) x y, l[i]? = some x → l[i + 1]? = some y → cmp (key x) (key y) < 0) → Up cmp key l
  | [], _ => List.Pairwise.nil
  | [x], _ => List.pairwise_singleton _ _
  | x :: y :: l, h => by
    have ih : Up cmp key (y :: l) := up_of_steps o fun i a b ha hb => h (i + 1) a b (by simpa using ha) (by simpa using hb)
    have h0 := h 0 x y rfl rfl
    refine List.pairwise_cons.2 ⟨fun z hz => ?_, ih⟩
    rcases List.mem_cons.1 hz with rfl | hz
    · exact h0
    · exact o.tr _ _ _ h0 ((List.pairwise_cons.1 ih).1 z hz)
theorem Up.get {cmp : κ → κ → Int} {key : α → κ} {l : List α} (h : Up cmp key l) {i j : Nat} {x y : α} (hij : i < j) (hx : l[i]? = some x) (hy : l[j]? = some y) : cmp (key x) (key y) < 0 := by
  obtain ⟨hi, rfl⟩ := List.getElem?_eq_some_iff.1 hx
  obtain ⟨hj, rfl⟩ := List.getElem?_eq_some_iff.1 hy
  exact List.pairwise_iff_getElem.1 h i j hi hj hij
theorem Up.steps {cmp : κ → κ → Int} {key : α → κ} {l : List α} (h : Up cmp key l) {i : Nat} {x y : α} (hx : l[i]? = some x) (hy : l[i + 1]? = some y) : cmp (key x) (key y) < 0 := h.get (Nat.lt_succ_self i) hx hy
theorem Up.rises {cmp : κ → κ → Int} (o : OrdC cmp) {key : α → κ} {l : List α} (h : Up cmp key l) (n : κ) : RisesC (fun s => cmp (key s) n) l := by
  intro i j x y hij hx hy h0
  have h1 := h.get hij hx hy
  by_cases h2 : cmp (key x) n = 0
  · have := (o.eq _ _).1 h2
    subst this
    exact (o.fl _ _).2 h1
  · have h3 : cmp n (key x) < 0 := (o.fl _ _).1 (show 0 < cmp (key x) n by dsimp only at h0; omega)
    exact (o.fl _ _).2 (o.tr _ _ _ h3 h1)
theorem Up.ins {cmp : κ → κ → Int} (o : OrdC cmp) {key : α → κ} {l : List α} (h : Up cmp key l) (s : α) : Up cmp key (insC (fun x => cmp (key x) (key s)) l s) :=
  insC_rises h (fun x _ hx => hx) (fun x _ hx => (o.fl _ _).1 hx) (fun x y h1 h2 => o.tr _ _ _ h1 h2)
theorem Up.filter {cmp : κ → κ → Int} {key : α → κ} {l : List α} (h : Up cmp key l) (p : α → Bool) : Up cmp key (l.filter p) := List.Pairwise.filter p h

/-- The element of a key. -/
def getC (cmp : κ → κ → Int) (key : α → κ) (l : List α) (n : κ) : Option α := l.find? fun x => cmp (key x) n == 0
theorem Up.get_iff {cmp : κ → κ → Int} (o : OrdC cmp) {key : α → κ} {l : List α} (h : Up cmp key l) {n : κ} {x : α} : getC cmp key l n = some x ↔ x ∈ l ∧ key x = n := by
  unfold getC
  constructor
  · intro e
    exact ⟨List.mem_of_find?_eq_some e, (o.eq _ _).1 (by simpa using List.find?_some e)⟩
  · rintro ⟨hx, rfl⟩
    induction l with
    | nil => cases hx
    | cons y l ih =>
      obtain ⟨h1, h2⟩ := List.pairwise_cons.1 h
      rw [List.find?_cons]
      rcases List.mem_cons.1 hx with rfl | hx'
      · rw [o.refl]; rfl
      · have := h1 x hx'
        have hne : (cmp (key y) (key x) == 0) = false := by simpa using (by omega : cmp (key y) (key x) ≠ 0)
        rw [hne]
        exact ih h2 hx'
theorem get_none {cmp : κ → κ → Int} (o : OrdC cmp) {key : α → κ} {l : List α} {n : κ} : getC cmp key l n = none ↔ ∀ x ∈ l, key x ≠ n := by
  unfold getC
  rw [List.find?_eq_none]
  constructor
  · intro h x hx e
    exact h x hx (by rw [(o.eq _ _).2 e]; rfl)
  · intro h x hx e
    exact h x hx ((o.eq _ _).1 (by simpa using e))
theorem get_some {cmp : κ → κ → Int} (o : OrdC cmp) {key : α → κ} {l : List α} {n : κ} {x : α} (h : getC cmp key l n = some x) : x ∈ l ∧ key x = n :=
  ⟨List.mem_of_find?_eq_some h, (o.eq _ _).1 (by unfold getC at h; simpa using List.find?_some h)⟩
theorem mem_ins {cmp : κ → κ → Int} (o : OrdC cmp) {key : α → κ} {l : List α} {s x : α} : x ∈ insC (fun x => cmp (key x) (key s)) l s ↔ x = s ∨ (x ∈ l ∧ key x ≠ key s) := by
  unfold insC
  rw [List.mem_append, List.mem_cons, List.mem_filter, List.mem_filter]
  have e1 := o.eq (key x) (key s)
  simp only [decide_eq_true_eq]
  constructor
  · rintro (⟨h1, h2⟩ | rfl | ⟨h1, h2⟩)
    · exact .inr ⟨h1, fun e => by rw [e1.2 e] at h2; omega⟩
    · exact .inl rfl
    · exact .inr ⟨h1, fun e => by rw [e1.2 e] at h2; omega⟩
  · rintro (rfl | ⟨h1, h2⟩)
    · exact .inr (.inl rfl)
    · have : cmp (key x) (key s) ≠ 0 := fun e => h2 (e1.1 e)
      by_cases h3 : cmp (key x) (key s) < 0
      · exact .inl ⟨h1, h3⟩
      · exact .inr (.inr ⟨h1, by omega⟩)
theorem get_ins {cmp : κ → κ → Int} (o : OrdC cmp) {key : α → κ} {l : List α} (h : Up cmp key l) (s : α) : getC cmp key (insC (fun x => cmp (key x) (key s)) l s) (key s) = some s :=
  ((h.ins o s).get_iff o).2 ⟨(mem_ins o).2 (.inl rfl), rfl⟩
theorem get_ins_ne {cmp : κ → κ → Int} (o : OrdC cmp) {key : α → κ} {l : List α} (h : Up cmp key l) {s : α} {n : κ} (hn : n ≠ key s) : getC cmp key (insC (fun x => cmp (key x) (key s)) l s) n = getC cmp key l n := by
  cases h1 : getC cmp key l n with
  | none =>
    refine (get_none o).2 fun x hx => ?_
    rcases (mem_ins o).1 hx with rfl | ⟨h2, _⟩
    · exact fun e => hn e.symm
    · exact (get_none o).1 h1 x h2
  | some x =>
    obtain ⟨h2, h3⟩ := get_some o h1
    exact ((h.ins o s).get_iff o).2 ⟨(mem_ins o).2 (.inr ⟨h2, fun e => hn (h3.symm.trans e)⟩), h3⟩
theorem get_del {cmp : κ → κ → Int} (o : OrdC cmp) {key : α → κ} {l : List α} {n : κ} : getC cmp key (l.filter fun x => cmp (key x) n != 0) n = none :=
  (get_none o).2 fun x hx e => by
    have := (List.mem_filter.1 hx).2
    rw [(o.eq _ _).2 e] at this
    cases this
theorem get_del_ne {cmp : κ → κ → Int} (o : OrdC cmp) {key : α → κ} {l : List α} (h : Up cmp key l) {m n : κ} (hn : n ≠ m) : getC cmp key (l.filter fun x => cmp (key x) m != 0) n = getC cmp key l n := by
  cases h1 : getC cmp key l n with
  | none => exact (get_none o).2 fun x hx => (get_none o).1 h1 x (List.mem_filter.1 hx).1
  | some x =>
    obtain ⟨h2, h3⟩ := get_some o h1
    refine ((h.filter _).get_iff o).2 ⟨List.mem_filter.2 ⟨h2, ?_⟩, h3⟩
    have : cmp (key x) m ≠ 0 := fun e => hn (h3.symm.trans ((o.eq _ _).1 e))
    simpa using this
/-- What the search comes to. -/
theorem found_get {cmp : κ → κ → Int} (o : OrdC cmp) {key : α → κ} {l : List α} (h : Up cmp key l) {n : κ} {i : Nat} (hp : AtC (fun s => cmp (key s) n) l i) : getC cmp key l n = if foundC (fun s => cmp (key s) n) l i = true then l[i]? else none := hp.find (h.rises o n)
theorem found_some {cmp : κ → κ → Int} (o : OrdC cmp) {key : α → κ} {l : List α} (h : Up cmp key l) {n : κ} {i : Nat} (hp : AtC (fun s => cmp (key s) n) l i) (hf : foundC (fun s => cmp (key s) n) l i = true) :
    ∃ hi : i < l.length, getC cmp key l n = some l[i] ∧ key l[i] = n := by
  obtain ⟨y, hy, h0⟩ := foundC_iff.1 hf
  obtain ⟨hi, rfl⟩ := List.getElem?_eq_some_iff.1 hy
  exact ⟨hi, by rw [found_get o h hp, if_pos hf, hy], (o.eq _ _).1 h0⟩
theorem found_none {cmp : κ → κ → Int} (o : OrdC cmp) {key : α → κ} {l : List α} (h : Up cmp key l) {n : κ} {i : Nat} (hp : AtC (fun s => cmp (key s) n) l i) (hf : foundC (fun s => cmp (key s) n) l i = false) : getC cmp key l n = none := by
  rw [found_get o h hp, if_neg (by rw [hf]; simp)]
theorem get_take {cmp : κ → κ → Int} (o : OrdC cmp) {key : α → κ} {l : List α} {n : κ} {k : Nat} (hk : k < l.length) (h : ∀ x ∈ l.take k, key x ≠ n) (hc : key l[k] = n) : getC cmp key l n = some l[k] := by
  generalize hy : l[k] = y at hc ⊢
  have : l = l.take k ++ (y :: l.drop (k + 1)) := by rw [← hy, ← List.drop_eq_getElem_cons hk, List.take_append_drop]
  unfold getC
  rw [this, List.find?_append, List.find?_eq_none.2, Option.none_or, List.find?_cons, hc, o.refl]
  · rfl
  · intro x hx e
    exact h x hx ((o.eq _ _).1 (by simpa using e))
/-- What the document's way of putting one more comes to: 'out' and whether it was put, behind the first elements of a rising list. -/
def putS (cmp : κ → κ → Int) (key : α → κ) (s : α) (st : List α × Bool) (x : α) : List α × Bool := if st.2 = false ∧ 0 ≤ cmp (key x) (key s) then (st.1 ++ [s], true) else st
def withS (cmp : κ → κ → Int) (key : α → κ) (s : α) (st : List α × Bool) (x : α) : List α × Bool :=
  (if cmp (key x) (key s) ≠ 0 then (putS cmp key s st x).1 ++ [x] else (putS cmp key s st x).1, (putS cmp key s st x).2)
theorem withS_len {cmp : κ → κ → Int} {key : α → κ} {s : α} : ∀ (l : List α) (st : List α × Bool), (l.foldl (withS cmp key s) st).1.length + (if st.2 = true then 1 else 0) ≤ st.1.length + l.length + 1
  | [], st => by simp; split <;> omega
  | x :: l, st => by
    have ih := withS_len (cmp := cmp) (key := key) (s := s) l (withS cmp key s st x)
    rw [List.foldl_cons, List.length_cons]
    have h1 : (withS cmp key s st x).1.length ≤ (putS cmp key s st x).1.length + 1 := by
      unfold withS; dsimp only; split
      · rw [List.length_append]; simp
      · omega
    have h2 : (withS cmp key s st x).2 = (putS cmp key s st x).2 := rfl
    rw [h2] at ih
    unfold putS at ih h1 
    split at ih
    · rename_i h
      rw [if_pos h] at h1
      simp only [List.length_append, List.length_singleton, if_true] at h1 ih
      rw [h.1]
      simp
      omega
    · rename_i h
      rw [if_neg h] at h1
      omega
theorem withS_lt {cmp : κ → κ → Int} {key : α → κ} {s x : α} {out : List α} (h : cmp (key x) (key s) < 0) : withS cmp key s (out, false) x = (out ++ [x], false) := by
  have h1 : ¬ 0 ≤ cmp (key x) (key s) := by omega
  have h2 : cmp (key x) (key s) ≠ 0 := by omega
  simp [withS, putS, h1, h2]
theorem withS_eq {cmp : κ → κ → Int} {key : α → κ} {s x : α} {out : List α} (h : cmp (key x) (key s) = 0) : withS cmp key s (out, false) x = (out ++ [s], true) := by
  simp [withS, putS, h]
theorem withS_gt {cmp : κ → κ → Int} {key : α → κ} {s x : α} {out : List α} (h : 0 < cmp (key x) (key s)) : withS cmp key s (out, false) x = (out ++ [s] ++ [x], true) := by
  have h1 : 0 ≤ cmp (key x) (key s) := by omega
  have h2 : cmp (key x) (key s) ≠ 0 := by omega
  simp [withS, putS, h1, h2]
theorem withS_t0 {cmp : κ → κ → Int} {key : α → κ} {s x : α} {out : List α} (h : cmp (key x) (key s) = 0) : withS cmp key s (out, true) x = (out, true) := by
  simp [withS, putS, h]
theorem withS_tn {cmp : κ → κ → Int} {key : α → κ} {s x : α} {out : List α} (h : cmp (key x) (key s) ≠ 0) : withS cmp key s (out, true) x = (out ++ [x], true) := by
  simp [withS, putS, h]
def withL (cmp : κ → κ → Int) (key : α → κ) (s : α) (l : List α) : List α × Bool := l.foldl (withS cmp key s) ([], false)
theorem withL_len {cmp : κ → κ → Int} {key : α → κ} {s : α} (l : List α) : (withL cmp key s l).1.length ≤ l.length + 1 := by
  have := withS_len (cmp := cmp) (key := key) (s := s) l ([], false)
  unfold withL
  simp only [List.length_nil] at this
  omega
theorem withL_up {cmp : κ → κ → Int} {key : α → κ} {s : α} {l : List α} {k : Nat} (hk : k < l.length) : withL cmp key s (l.take (k + 1)) = withS cmp key s (withL cmp key s (l.take k)) l[k] := foldl_up hk
theorem with_ins {cmp : κ → κ → Int} (o : OrdC cmp) {key : α → κ} {l : List α} (h : Up cmp key l) (s : α) :
    (if (withL cmp key s l).2 = false then (withL cmp key s l).1 ++ [s] else (withL cmp key s l).1) = insC (fun x => cmp (key x) (key s)) l s := by
  have key1 : ∀ k, k ≤ l.length → (l.take k).foldl (withS cmp key s) ([], false) = (if ∀ x ∈ l.take k, cmp (key x) (key s) < 0 then (l.take k, false) else (insC (fun x => cmp (key x) (key s)) (l.take k) s, true)) := by
    intro k
    induction k with
    | zero => intro _; simp
    | succ k ih =>
      intro hk
      have hup : Up cmp key (l.take k ++ [l[k]]) := by rw [← take_up (by omega)]; exact List.Pairwise.sublist (List.take_sublist _ _) h
      have hall := (List.pairwise_append.1 hup).2.2
      rw [take_up (by omega)]
      generalize l[k] = x at hup hall ⊢
      have ih := ih (by omega)
      generalize l.take k = l1 at hup hall ih ⊢
      rw [List.foldl_append, ih]
      simp only [List.foldl_cons, List.foldl_nil]
      by_cases h1 : ∀ y ∈ l1, cmp (key y) (key s) < 0
      · rw [if_pos h1]
        have hf1 : l1.filter (fun y => decide (cmp (key y) (key s) < 0)) = l1 := List.filter_eq_self.2 fun y hy => by simpa using h1 y hy
        have hf2 : l1.filter (fun y => decide (0 < cmp (key y) (key s))) = [] := List.filter_eq_nil_iff.2 fun y hy => by have := h1 y hy; simp; omega
        by_cases h2 : cmp (key x) (key s) < 0
        · rw [if_pos (by
            intro y hy
            rcases List.mem_append.1 hy with hy | hy
            · exact h1 y hy
            · rw [List.mem_singleton.1 hy]; exact h2), withS_lt h2]
        · rw [if_neg (fun hc => h2 (hc x (by simp)))]
          unfold insC
          rw [List.filter_append, List.filter_append, hf1, hf2]
          by_cases h3 : cmp (key x) (key s) = 0
          · rw [withS_eq h3]
            simp [h3]
          · have h4 : 0 < cmp (key x) (key s) := by omega
            rw [withS_gt h4]
            simp [h2, h4]
      · rw [if_neg h1, if_neg (fun hc => h1 fun y hy => hc y (by simp [hy]))]
        have h5 : 0 < cmp (key x) (key s) := by
          obtain ⟨y, hy⟩ := Classical.not_forall.1 h1
          obtain ⟨hy1, hy2⟩ := Classical.not_imp.1 hy
          have h6 := hall y hy1 x (by simp)
          by_cases h7 : cmp (key y) (key s) = 0
          · have := (o.eq _ _).1 h7
            rw [this] at h6
            exact (o.fl _ _).2 h6
          · have h8 : cmp (key s) (key y) < 0 := (o.fl _ _).1 (by omega)
            exact (o.fl _ _).2 (o.tr _ _ _ h8 h6)
        rw [withS_tn (by omega)]
        unfold insC
        have h9 : ¬ cmp (key x) (key s) < 0 := by omega
        simp [h5, h9]
  have := key1 l.length (Nat.le_refl _)
  rw [List.take_length] at this
  unfold withL
  rw [this]
  split
  · rename_i h1
    simp only [if_true]
    unfold insC
    rw [List.filter_eq_self.2 (fun y hy => by simpa using h1 y hy), List.filter_eq_nil_iff.2 (fun y hy => by have := h1 y hy; simp; omega)]
  · simp
end Go.Vc
