import Derived.Test.YtnnoalpkldpjfaaGreatDoorMX
/-
  Lists whose keys rise, by an order of keys: numbers, texts. Plain Lean.
-/
set_option linter.unusedVariables false
namespace Go.Vc
variable {α κ : Type}

theorem insC_len (c : α → Int) (l : List α) (s : α) : (insC c l s).length ≤ 2 * l.length + 1 := by
  unfold insC
  rw [List.length_append, List.length_cons]
  have h1 := List.length_filter_le (fun x => decide (c x < 0)) l
  have h2 := List.length_filter_le (fun x => decide (0 < c x)) l
  omega
structure OrdC (cmp : κ → κ → Int) : Prop where
  eq : ∀ x y, cmp x y = 0 ↔ x = y
  tr : ∀ x y z, cmp x y < 0 → cmp y z < 0 → cmp x z < 0
  fl : ∀ x y, 0 < cmp x y ↔ cmp y x < 0
def cmpI (x y : Int) : Int := if x < y then -1 else if y < x then 1 else 0
theorem cmpI_neg {x y : Int} : cmpI x y < 0 ↔ x < y := by unfold cmpI; split <;> (try split) <;> omega
theorem cmpI_pos {x y : Int} : 0 < cmpI x y ↔ y < x := by unfold cmpI; split <;> (try split) <;> omega
theorem cmpI_zero {x y : Int} : cmpI x y = 0 ↔ x = y := by unfold cmpI; split <;> (try split) <;> omega
theorem ordI : OrdC cmpI := ⟨fun x y => cmpI_zero, fun x y z h k => by rw [cmpI_neg] at *; omega, fun x y => by rw [cmpI_neg, cmpI_pos]⟩
def cmpS (x y : List UInt8) : Int := if x < y then -1 else if x = y then 0 else 1
theorem cmpS_neg {x y : List UInt8} : cmpS x y < 0 ↔ x < y := by
  unfold cmpS
  by_cases h : x < y
  · rw [if_pos h]; exact ⟨fun _ => h, fun _ => by decide⟩
  · rw [if_neg h]
    exact ⟨fun k => by split at k <;> omega, fun k => absurd k h⟩
theorem cmpS_zero {x y : List UInt8} : cmpS x y = 0 ↔ x = y := by
  unfold cmpS
  by_cases h : x < y
  · simp [h]
    intro e
    subst e
    exact str_lt_irrefl _ h
  · by_cases k : x = y <;> simp [h, k]
theorem cmpS_pos {x y : List UInt8} : 0 < cmpS x y ↔ y < x := by
  unfold cmpS
  rcases str_tri x y with h | h | h
  · simp [h, str_lt_asymm h]
  · subst h; simp [str_lt_irrefl]
  · have h1 := str_lt_asymm h
    have h2 : ¬ x = y := fun e => by subst e; exact str_lt_irrefl _ h
    simp [h, h1, h2]
theorem ordS : OrdC cmpS := ⟨fun x y => cmpS_zero, fun x y z h k => by rw [cmpS_neg] at *; exact str_lt_trans h k, fun x y => by rw [cmpS_neg, cmpS_pos]⟩

theorem OrdC.refl {cmp : κ → κ → Int} (h : OrdC cmp) (x : κ) : cmp x x = 0 := (h.eq x x).2 rfl
/-- Keys rise. -/
def Up (cmp : κ → κ → Int) (key : α → κ) (l : List α) : Prop := l.Pairwise fun x y => cmp (key x) (key y) < 0
theorem up_of_steps {cmp : κ → κ → Int} (o : OrdC cmp) {key : α → κ} : ∀ {l : List α}, (∀ (i : Nat) x y, l[i]? = some x → l[i + 1]? = some y → cmp (key x) (key y) < 0) → Up cmp key l
  | [], _ => List.Pairwise.nil
  | [x], _ => List.pairwise_singleton _ _
  | x :: y :: l, h => by
    have ih : Up cmp key (y :: l) := up_of_steps o fun i a b ha hb => h (i + 1) a b (by simpa using ha) (by simpa using hb)
    have h0 := h 0 x y rfl rfl
    refine List.pairwise_cons.2 ⟨fun z hz => ?_, ih⟩
    rcases List.mem_cons.1 hz with rfl | hz
    · exact h0
    · exact o.tr _ _ _ h0 ((List.pairwise_cons.1 ih).1 z hz)
theorem Up.get {cmp : κ → κ → Int} {key : α → κ} {l : List α} (h : Up cmp key l) {i j : Nat} {x y : α} (hij : i < j) (hx : l[i]? = some x) (hy : l[j]? = some y) : cmp (key x) (key y) < 0 := by
  obtain ⟨hi, rfl⟩ := List.getElem?_eq_some_iff.1 hx
  obtain ⟨hj, rfl⟩ := List.getElem?_eq_some_iff.1 hy
  exact List.pairwise_iff_getElem.1 h i j hi hj hij
theorem Up.steps {cmp : κ → κ → Int} {key : α → κ} {l : List α} (h : Up cmp key l) {i : Nat} {x y : α} (hx : l[i]? = some x) (hy : l[i + 1]? = some y) : cmp (key x) (key y) < 0 := h.get (Nat.lt_succ_self i) hx hy
theorem Up.rises {cmp : κ → κ → Int} (o : OrdC cmp) {key : α → κ} {l : List α} (h : Up cmp key l) (n : κ) : RisesC (fun s => cmp (key s) n) l := by
  intro i j x y hij hx hy h0
  have h1 := h.get hij hx hy
  by_cases h2 : cmp (key x) n = 0
  · have := (o.eq _ _).1 h2
    subst this
    exact (o.fl _ _).2 h1
  · have h3 : cmp n (key x) < 0 := (o.fl _ _).1 (show 0 < cmp (key x) n by dsimp only at h0; omega)
    exact (o.fl _ _).2 (o.tr _ _ _ h3 h1)
theorem Up.ins {cmp : κ → κ → Int} (o : OrdC cmp) {key : α → κ} {l : List α} (h : Up cmp key l) (s : α) : Up cmp key (insC (fun x => cmp (key x) (key s)) l s) :=
  insC_rises h (fun x _ hx => hx) (fun x _ hx => (o.fl _ _).1 hx) (fun x y h1 h2 => o.tr _ _ _ h1 h2)
theorem Up.filter {cmp : κ → κ → Int} {key : α → κ} {l : List α} (h : Up cmp key l) (p : α → Bool) : Up cmp key (l.filter p) := List.Pairwise.filter p h

/-- The element of a key. -/
def getC (cmp : κ → κ → Int) (key : α → κ) (l : List α) (n : κ) : Option α := l.find? fun x => cmp (key x) n == 0
theorem Up.get_iff {cmp : κ → κ → Int} (o : OrdC cmp) {key : α → κ} {l : List α} (h : Up cmp key l) {n : κ} {x : α} : getC cmp key l n = some x ↔ x ∈ l ∧ key x = n := by
  unfold getC
  constructor
  · intro e
    exact ⟨List.mem_of_find?_eq_some e, (o.eq _ _).1 (by simpa using List.find?_some e)⟩
  · rintro ⟨hx, rfl⟩
    induction l with
    | nil => cases hx
    | cons y l ih =>
      obtain ⟨h1, h2⟩ := List.pairwise_cons.1 h
      rw [List.find?_cons]
      rcases List.mem_cons.1 hx with rfl | hx'
      · rw [o.refl]; rfl
      · have := h1 x hx'
        have hne : (cmp (key y) (key x) == 0) = false := by simpa using (by omega : cmp (key y) (key x) ≠ 0)
        rw [hne]
        exact ih h2 hx'
theorem get_none {cmp : κ → κ → Int} (o : OrdC cmp) {key : α → κ} {l : List α} {n : κ} : getC cmp key l n = none ↔ ∀ x ∈ l, key x ≠ n := by
  unfold getC
  rw [List.find?_eq_none]
  constructor
  · intro h x hx e
    exact h x hx (by rw [(o.eq _ _).2 e]; rfl)
  · intro h x hx e
    exact h x hx ((o.eq _ _).1 (by simpa using e))
theorem get_some {cmp : κ → κ → Int} (o : OrdC cmp) {key : α → κ} {l : List α} {n : κ} {x : α} (h : getC cmp key l n = some x) : x ∈ l ∧ key x = n :=
  ⟨List.mem_of_find?_eq_some h, (o.eq _ _).1 (by unfold getC at h; simpa using List.find?_some h)⟩
theorem mem_ins {cmp : κ → κ → Int} (o : OrdC cmp) {key : α → κ} {l : List α} {s x : α} : x ∈ insC (fun x => cmp (key x) (key s)) l s ↔ x = s ∨ (x ∈ l ∧ key x ≠ key s) := by
  unfold insC
  rw [List.mem_append, List.mem_cons, List.mem_filter, List.mem_filter]
  have e1 := o.eq (key x) (key s)
  simp only [decide_eq_true_eq]
  constructor
  · rintro (⟨h1, h2⟩ | rfl | ⟨h1, h2⟩)
    · exact .inr ⟨h1, fun e => by rw [e1.2 e] at h2; omega⟩
    · exact .inl rfl
    · exact .inr ⟨h1, fun e => by rw [e1.2 e] at h2; omega⟩
  · rintro (rfl | ⟨h1, h2⟩)
    · exact .inr (.inl rfl)
    · have : cmp (key x) (key s) ≠ 0 := fun e => h2 (e1.1 e)
      by_cases h3 : cmp (key x) (key s) < 0
      · exact .inl ⟨h1, h3⟩
      · exact .inr (.inr ⟨h1, by omega⟩)
theorem get_ins {cmp : κ → κ → Int} (o : OrdC cmp) {key : α → κ} {l : List α} (h : Up cmp key l) (s : α) : getC cmp key (insC (fun x => cmp (key x) (key s)) l s) (key s) = some s :=
  ((h.ins o s).get_iff o).2 ⟨(mem_ins o).2 (.inl rfl), rfl⟩
theorem get_ins_ne {cmp : κ → κ → Int} (o : OrdC cmp) {key : α → κ} {l : List α} (h : Up cmp key l) {s : α} {n : κ} (hn : n ≠ key s) : getC cmp key (insC (fun x => cmp (key x) (key s)) l s) n = getC cmp key l n := by
  cases h1 : getC cmp key l n with
  | none =>
    refine (get_none o).2 fun x hx => ?_
    rcases (mem_ins o).1 hx with rfl | ⟨h2, _⟩
    · exact fun e => hn e.symm
    · exact (get_none o).1 h1 x h2
  | some x =>
    obtain ⟨h2, h3⟩ := get_some o h1
    exact ((h.ins o s).get_iff o).2 ⟨(mem_ins o).2 (.inr ⟨h2, fun e => hn (h3.symm.trans e)⟩), h3⟩
theorem get_del {cmp : κ → κ → Int} (o : OrdC cmp) {key : α → κ} {l : List α} {n : κ} : getC cmp key (l.filter fun x => cmp (key x) n != 0) n = none :=
  (get_none o).2 fun x hx e => by
    have := (List.mem_filter.1 hx).2
    rw [(o.eq _ _).2 e] at this
    cases this
theorem get_del_ne {cmp : κ → κ → Int} (o : OrdC cmp) {key : α → κ} {l : List α} (h : Up cmp key l) {m n : κ} (hn : n ≠ m) : getC cmp key (l.filter fun x => cmp (key x) m != 0) n = getC cmp key l n := by
  cases h1 : getC cmp key l n with
  | none => exact (get_none o).2 fun x hx => (get_none o).1 h1 x (List.mem_filter.1 hx).1
  | some x =>
    obtain ⟨h2, h3⟩ := get_some o h1
    refine ((h.filter _).get_iff o).2 ⟨List.mem_filter.2 ⟨h2, ?_⟩, h3⟩
    have : cmp (key x) m ≠ 0 := fun e => hn (h3.symm.trans ((o.eq _ _).1 e))
    simpa using this
/-- What the search comes to. -/
theorem found_get {cmp : κ → κ → Int} (o : OrdC cmp) {key : α → κ} {l : List α} (h : Up cmp key l) {n : κ} {i : Nat} (hp : AtC (fun s => cmp (key s) n) l i) : getC cmp key l n = if foundC (fun s => cmp (key s) n) l i = true then l[i]? else none := hp.find (h.rises o n)
theorem found_some {cmp : κ → κ → Int} (o : OrdC cmp) {key : α → κ} {l : List α} (h : Up cmp key l) {n : κ} {i : Nat} (hp : AtC (fun s => cmp (key s) n) l i) (hf : foundC (fun s => cmp (key s) n) l i = true) :
    ∃ hi : i < l.length, getC cmp key l n = some l[i] ∧ key l[i] = n := by
  obtain ⟨y, hy, h0⟩ := foundC_iff.1 hf
  obtain ⟨hi, rfl⟩ := List.getElem?_eq_some_iff.1 hy
  exact ⟨hi, by rw [found_get o h hp, if_pos hf, hy], (o.eq _ _).1 h0⟩
theorem found_none {cmp : κ → κ → Int} (o : OrdC cmp) {key : α → κ} {l : List α} (h : Up cmp key l) {n : κ} {i : Nat} (hp : AtC (fun s => cmp (key s) n) l i) (hf : foundC (fun s => cmp (key s) n) l i = false) : getC cmp key l n = none := by
  rw [found_get o h hp, if_neg (by rw [hf]; simp)]
theorem get_take {cmp : κ → κ → Int} (o : OrdC cmp) {key : α → κ} {l : List α} {n : κ} {k : Nat} (hk : k < l.length) (h : ∀ x ∈ l.take k, key x ≠ n) (hc : key l[k] = n) : getC cmp key l n = some l[k] := by
  generalize hy : l[k] = y at hc ⊢
  have : l = l.take k ++ (y :: l.drop (k + 1)) := by rw [← hy, ← List.drop_eq_getElem_cons hk, List.take_append_drop]
  unfold getC
  rw [this, List.find?_append, List.find?_eq_none.2, Option.none_or, List.find?_cons, hc, o.refl]
  · rfl
  · intro x hx e
    exact h x hx ((o.eq _ _).1 (by simpa using e))
/-- What the document's way of putting one more comes to: 'out' and whether it was put, behind the first elements of a rising list. -/
def putS (cmp : κ → κ → Int) (key : α → κ) (s : α) (st : List α × Bool) (x : α) : List α × Bool := if st.2 = false ∧ 0 ≤ cmp (key x) (key s) then (st.1 ++ [s], true) else st
def withS (cmp : κ → κ → Int) (key : α → κ) (s : α) (st : List α × Bool) (x : α) : List α × Bool :=
  (if cmp (key x) (key s) ≠ 0 then (putS cmp key s st x).1 ++ [x] else (putS cmp key s st x).1, (putS cmp key s st x).2)
theorem withS_len {cmp : κ → κ → Int} {key : α → κ} {s : α} : ∀ (l : List α) (st : List α × Bool), (l.foldl (withS cmp key s) st).1.length + (if st.2 = true then 1 else 0) ≤ st.1.length + l.length + 1
  | [], st => by simp; split <;> omega
  | x :: l, st => by
    have ih := withS_len (cmp := cmp) (key := key) (s := s) l (withS cmp key s st x)
    rw [List.foldl_cons, List.length_cons]
    have h1 : (withS cmp key s st x).1.length ≤ (putS cmp key s st x).1.length + 1 := by
      unfold withS; dsimp only; split
      · rw [List.length_append]; simp
      · omega
    have h2 : (withS cmp key s st x).2 = (putS cmp key s st x).2 := rfl
    rw [h2] at ih
    unfold putS at ih h1 
    split at ih
    · rename_i h
      rw [if_pos h] at h1
      simp only [List.length_append, List.length_singleton, if_true] at h1 ih
      rw [h.1]
      simp
      omega
    · rename_i h
      rw [if_neg h] at h1
      omega
theorem withS_lt {cmp : κ → κ → Int} {key : α → κ} {s x : α} {out : List α} (h : cmp (key x) (key s) < 0) : withS cmp key s (out, false) x = (out ++ [x], false) := by
  have h1 : ¬ 0 ≤ cmp (key x) (key s) := by omega
  have h2 : cmp (key x) (key s) ≠ 0 := by omega
  simp [withS, putS, h1, h2]
theorem withS_eq {cmp : κ → κ → Int} {key : α → κ} {s x : α} {out : List α} (h : cmp (key x) (key s) = 0) : withS cmp key s (out, false) x = (out ++ [s], true) := by
  simp [withS, putS, h]
theorem withS_gt {cmp : κ → κ → Int} {key : α → κ} {s x : α} {out : List α} (h : 0 < cmp (key x) (key s)) : withS cmp key s (out, false) x = (out ++ [s] ++ [x], true) := by
  have h1 : 0 ≤ cmp (key x) (key s) := by omega
  have h2 : cmp (key x) (key s) ≠ 0 := by omega
  simp [withS, putS, h1, h2]
theorem withS_t0 {cmp : κ → κ → Int} {key : α → κ} {s x : α} {out : List α} (h : cmp (key x) (key s) = 0) : withS cmp key s (out, true) x = (out, true) := by
  simp [withS, putS, h]
theorem withS_tn {cmp : κ → κ → Int} {key : α → κ} {s x : α} {out : List α} (h : cmp (key x) (key s) ≠ 0) : withS cmp key s (out, true) x = (out ++ [x], true) := by
  simp [withS, putS, h]
def withL (cmp : κ → κ → Int) (key : α → κ) (s : α) (l : List α) : List α × Bool := l.foldl (withS cmp key s) ([], false)
theorem withL_len {cmp : κ → κ → Int} {key : α → κ} {s : α} (l : List α) : (withL cmp key s l).1.length ≤ l.length + 1 := by
  have := withS_len (cmp := cmp) (key := key) (s := s) l ([], false)
  unfold withL
  simp only [List.length_nil] at this
  omega
theorem withL_up {cmp : κ → κ → Int} {key : α → κ} {s : α} {l : List α} {k : Nat} (hk : k < l.length) : withL cmp key s (l.take (k + 1)) = withS cmp key s (withL cmp key s (l.take k)) l[k] := foldl_up hk
theorem with_ins {cmp : κ → κ → Int} (o : OrdC cmp) {key : α → κ} {l : List α} (h : Up cmp key l) (s : α) :
    (if (withL cmp key s l).2 = false then (withL cmp key s l).1 ++ [s] else (withL cmp key s l).1) = insC (fun x => cmp (key x) (key s)) l s := by
  have key1 : ∀ k, k ≤ l.length → (l.take k).foldl (withS cmp key s) ([], false) = (if ∀ x ∈ l.take k, cmp (key x) (key s) < 0 then (l.take k, false) else (insC (fun x => cmp (key x) (key s)) (l.take k) s, true)) := by
    intro k
    induction k with
    | zero => intro _; simp
    | succ k ih =>
      intro hk
      have hup : Up cmp key (l.take k ++ [l[k]]) := by rw [← take_up (by omega)]; exact List.Pairwise.sublist (List.take_sublist _ _) h
      have hall := (List.pairwise_append.1 hup).2.2
      rw [take_up (by omega)]
      generalize l[k] = x at hup hall ⊢
      have ih := ih (by omega)
      generalize l.take k = l1 at hup hall ih ⊢
      rw [List.foldl_append, ih]
      simp only [List.foldl_cons, List.foldl_nil]
      by_cases h1 : ∀ y ∈ l1, cmp (key y) (key s) < 0
      · rw [if_pos h1]
        have hf1 : l1.filter (fun y => decide (cmp (key y) (key s) < 0)) = l1 := List.filter_eq_self.2 fun y hy => by simpa using h1 y hy
        have hf2 : l1.filter (fun y => decide (0 < cmp (key y) (key s))) = [] := List.filter_eq_nil_iff.2 fun y hy => by have := h1 y hy; simp; omega
        by_cases h2 : cmp (key x) (key s) < 0
        · rw [if_pos (by
            intro y hy
            rcases List.mem_append.1 hy with hy | hy
            · exact h1 y hy
            · rw [List.mem_singleton.1 hy]; exact h2), withS_lt h2]
        · rw [if_neg (fun hc => h2 (hc x (by simp)))]
          unfold insC
          rw [List.filter_append, List.filter_append, hf1, hf2]
          by_cases h3 : cmp (key x) (key s) = 0
          · rw [withS_eq h3]
            simp [h3]
          · have h4 : 0 < cmp (key x) (key s) := by omega
            rw [withS_gt h4]
            simp [h2, h4]
      · rw [if_neg h1, if_neg (fun hc => h1 fun y hy => hc y (by simp [hy]))]
        have h5 : 0 < cmp (key x) (key s) := by
          obtain ⟨y, hy⟩ := Classical.not_forall.1 h1
          obtain ⟨hy1, hy2⟩ := Classical.not_imp.1 hy
          have h6 := hall y hy1 x (by simp)
          by_cases h7 : cmp (key y) (key s) = 0
          · have := (o.eq _ _).1 h7
            rw [this] at h6
            exact (o.fl _ _).2 h6
          · have h8 : cmp (key s) (key y) < 0 := (o.fl _ _).1 (by omega)
            exact (o.fl _ _).2 (o.tr _ _ _ h8 h6)
        rw [withS_tn (by omega)]
        unfold insC
        have h9 : ¬ cmp (key x) (key s) < 0 := by omega
        simp [h5, h9]
  have := key1 l.length (Nat.le_refl _)
  rw [List.take_length] at this
  unfold withL
  rw [this]
  split
  · rename_i h1
    simp only [if_true]
    unfold insC
    rw [List.filter_eq_self.2 (fun y hy => by simpa using h1 y hy), List.filter_eq_nil_iff.2 (fun y hy => by have := h1 y hy; simp; omega)]
  · simp
end Go.Vc
/-
  Bits of numbers, as they are reckoned; tables in package variables. Of whatever program.
-/
set_option maxRecDepth 20000
namespace Go.Vc

theorem bAnd_63 {b : UInt8} : bAnd .u8 (b.toNat : Int) 63 = ((b.toNat % 64 : Nat) : Int) := by
  have key : ∀ x : Fin 256, bAnd .u8 (x.val : Int) 63 = ((x.val % 64 : Nat) : Int) := by decide +kernel
  exact key ⟨b.toNat, b.toNat_lt⟩
theorem bAnd_31 {b : UInt8} : bAnd .u8 (b.toNat : Int) 31 = ((b.toNat % 32 : Nat) : Int) := by
  have key : ∀ x : Fin 256, bAnd .u8 (x.val : Int) 31 = ((x.val % 32 : Nat) : Int) := by decide +kernel
  exact key ⟨b.toNat, b.toNat_lt⟩
theorem bAnd_15 {b : UInt8} : bAnd .u8 (b.toNat : Int) 15 = ((b.toNat % 16 : Nat) : Int) := by
  have key : ∀ x : Fin 256, bAnd .u8 (x.val : Int) 15 = ((x.val % 16 : Nat) : Int) := by decide +kernel
  exact key ⟨b.toNat, b.toNat_lt⟩
theorem bAnd_7 {b : UInt8} : bAnd .u8 (b.toNat : Int) 7 = ((b.toNat % 8 : Nat) : Int) := by
  have key : ∀ x : Fin 256, bAnd .u8 (x.val : Int) 7 = ((x.val % 8 : Nat) : Int) := by decide +kernel
  exact key ⟨b.toNat, b.toNat_lt⟩
theorem i32_id {n : Int} (h0 : -2147483648 ≤ n) (h : n ≤ 2147483647) : IntKind.i32.wrap n = n := IntWalk.i32_in n ⟨h0, h⟩
theorem u32_id {n : Int} (h0 : 0 ≤ n) (h : n < 4294967296) : IntKind.u32.wrap n = n := by
  have : IntKind.u32.wrap n = n % 4294967296 := rfl
  omega
theorem u64_id {n : Int} (h0 : 0 ≤ n) (h : n < 18446744073709551616) : IntKind.u64.wrap n = n := by
  have : IntKind.u64.wrap n = n % 18446744073709551616 := rfl
  omega
theorem wrap64_id {n : Int} (h1 : -9223372036854775808 ≤ n) (h2 : n ≤ 9223372036854775807) : IntKind.i64.wrap n = n := i64_id h1 h2
theorem bOr_i32 {a b : Nat} (ha : a < 2147483648) (hb : b < 2147483648) : bOr .i32 (a : Int) (b : Int) = ((a ||| b : Nat) : Int) := by
  unfold bOr
  have hlt : a ||| b < 2 ^ 31 := Nat.or_lt_two_pow (by omega) (by omega)
  rw [BitVec.toNat_or, BitVec.toNat_ofInt, BitVec.toNat_ofInt]
  have e1 : ((a : Int) % ((2 ^ IntKind.bits .i32 : Nat) : Int)).toNat = a := by
    have : ((2 ^ IntKind.bits .i32 : Nat) : Int) = 4294967296 := by decide
    rw [this]; omega
  have e2 : ((b : Int) % ((2 ^ IntKind.bits .i32 : Nat) : Int)).toNat = b := by
    have : ((2 ^ IntKind.bits .i32 : Nat) : Int) = 4294967296 := by decide
    rw [this]; omega
  rw [e1, e2]
  exact i32_id (by omega) (by omega)
theorem bOr_add {p q i : Nat} (hq : q < 2 ^ i) (h : 2 ^ i * p + q < 2147483648) : bOr .i32 ((2 ^ i * p : Nat) : Int) (q : Int) = ((2 ^ i * p + q : Nat) : Int) := by
  rw [bOr_i32 (by omega) (by omega), Nat.two_pow_add_eq_or_of_lt hq]
theorem shL_i32 {n k : Nat} (hk : k < 32) (h : 2 ^ k * n < 2147483648) : shL .i32 (n : Int) (k : Int) = ((2 ^ k * n : Nat) : Int) := by
  unfold shL
  have e1 : min (k : Int).toNat (IntKind.bits .i32) = k := by
    show min k 32 = k
    omega
  rw [e1]
  have e2 : (n : Int) * 2 ^ k = ((2 ^ k * n : Nat) : Int) := by rw [Nat.mul_comm]; simp
  rw [e2]
  exact i32_id (by omega) (by omega)

/-! ### Package variables that hold a table -/
structure GlobAt (w : World) (a : Addr) (cs : List Value) : Prop where
  spot : a.spot = none
  off : a.off = 0
  lt : a.block < w.heap.size
  cells : CellsAt w a.block 0 cs
theorem GlobAt.ext {w w' : World} {a : Addr} {cs : List Value} (h : GlobAt w a cs) (hx : Ext w w') : GlobAt w' a cs := ⟨h.spot, h.off, Nat.lt_of_lt_of_le h.lt hx.size, h.cells.same (hx.block _ h.lt)⟩
theorem GlobAt.cell {w : World} {a : Addr} {cs : List Value} (h : GlobAt w a cs) {k : Nat} {v : Value} (hv : cs[k]? = some v) : w.cell? (a.add k) = some v := by
  rw [addr_off a h.spot, h.off]
  exact h.cells k v hv
theorem GlobAt.cellsAt {w : World} {a : Addr} {cs : List Value} (h : GlobAt w a cs) (o n : Nat) : CellsAt w a.block o ((cs.drop o).take n) := by
  intro j v hj
  rw [List.getElem?_take] at hj
  split at hj
  · rw [List.getElem?_drop] at hj
    have := h.cells (o + j) v hj
    rwa [Nat.zero_add] at this
  · cases hj
theorem GlobAt.take {w : World} {a : Addr} {cs cs' : List Value} (h : GlobAt w a cs) (n : Nat) (hc : cs.take n = cs') : GlobAt w a cs' :=
  ⟨h.spot, h.off, h.lt, fun j v hj => h.cells j v (by
    rw [← hc, List.getElem?_take] at hj
    split at hj
    · exact hj
    · cases hj)⟩
end Go.Vc
/-
  Runes in bytes: what 'changeoverref05' says, what going through a text does, what package utf8 does. Plain Lean over the words of 'Prim'.
-/
set_option maxRecDepth 20000
namespace Go.Vc

def cont (b : UInt8) : Bool := decide (128 ≤ b.toNat) && decide (b.toNat ≤ 191)
theorem cont_iff {b : UInt8} : cont b = true ↔ b.toNat / 64 = 2 := by
  have := b.toNat_lt
  simp [cont]; omega
theorem cont_not {b : UInt8} : cont b = false ↔ ¬ b.toNat / 64 = 2 := by
  rw [← cont_iff]; simp
def v2 (a b : UInt8) : Nat := 64 * (a.toNat - 192) + (b.toNat - 128)
def v3 (a b c : UInt8) : Nat := 64 * (64 * (a.toNat - 224) + (b.toNat - 128)) + (c.toNat - 128)
def v4 (a b c d : UInt8) : Nat := 64 * (64 * (64 * (a.toNat - 240) + (b.toNat - 128)) + (c.toNat - 128)) + (d.toNat - 128)
/-- How many bytes the first rune has (0: there is none), and the rune. -/
def dec : List UInt8 → Nat × Nat
  | [] => (0, 0)
  | a :: r =>
    if a.toNat < 128 then (1, a.toNat)
    else if a.toNat < 194 then (0, 0)
    else if a.toNat < 224 then
      match r with
      | b :: _ => if cont b = true then (2, v2 a b) else (0, 0)
      | [] => (0, 0)
    else if a.toNat < 240 then
      match r with
      | b :: c :: _ => if cont b = true ∧ cont c = true ∧ 2048 ≤ v3 a b c ∧ (v3 a b c < 55296 ∨ 57343 < v3 a b c) then (3, v3 a b c) else (0, 0)
      | _ => (0, 0)
    else if a.toNat < 245 then
      match r with
      | b :: c :: d :: _ => if cont b = true ∧ cont c = true ∧ cont d = true ∧ 65536 ≤ v4 a b c d ∧ v4 a b c d ≤ 1114111 then (4, v4 a b c d) else (0, 0)
      | _ => (0, 0)
    else (0, 0)

theorem dec_le (l : List UInt8) : (dec l).1 ≤ l.length := by
  match l with
  | [] => simp [dec]
  | a :: r =>
    simp only [dec]
    split
    · simp
    · split
      · simp
      · split
        · split
          · split <;> simp
          · simp
        · split
          · split
            · split <;> simp
            · simp
          · split
            · split
              · split <;> simp
              · simp
            · simp
theorem dec_rune (l : List UInt8) : (dec l).2 ≤ 1114111 := by
  match l with
  | [] => simp [dec]
  | a :: r =>
    have ha := a.toNat_lt
    simp only [dec]
    split
    · dsimp only; omega
    · split
      · simp
      · split
        · split
          · rename_i b _
            have hb := b.toNat_lt
            split
            · dsimp only [v2]; omega
            · simp
          · simp
        · split
          · split
            · rename_i b c _
              have hb := b.toNat_lt
              have hc := c.toNat_lt
              split
              · dsimp only [v3]; omega
              · simp
            · simp
          · split
            · split
              · split
                · dsimp only; omega
                · simp
              · simp
            · simp

/-- The same, with a byte that is no rune's as one rune. -/
def uStep (l : List UInt8) : Nat × Nat := if (dec l).1 = 0 then (65533, 1) else ((dec l).2, (dec l).1)

theorem get_drop (s : List UInt8) (i k : Nat) : (⟨⟨s⟩⟩ : ByteArray).get! (i + k) = ((s.drop i)[k]?).getD default := by
  show (⟨s⟩ : Array UInt8)[i + k]! = _
  rw [List.getElem?_drop]
  simp [getElem!_def]
  cases s[i + k]? <;> rfl
theorem valid_nat (c : Nat) : Utf8.valid (c : Int) = decide (c < 55296 ∨ (57344 ≤ c ∧ c ≤ 1114111)) := by
  unfold Utf8.valid
  by_cases h1 : c < 55296
  · simp [h1]; omega
  · by_cases h2 : 57344 ≤ c ∧ c ≤ 1114111
    · simp [h1, h2]; omega
    · simp [h1, h2]; omega

theorem big_not {v : Nat} (h : 1114111 < v) : ¬ (65536 ≤ v ∧ (v < 55296 ∨ (57344 ≤ v ∧ v ≤ 1114111))) := by omega
/-- What the model's own decoding comes to. -/
theorem decAt_eq {s : List UInt8} {pos : Nat} (h : pos < s.length) : decAt s pos = uStep (s.drop pos) := by
  have key : ∀ k, (pos + k < (⟨⟨s⟩⟩ : ByteArray).size) = (k < (s.drop pos).length) := fun k => by
    rw [ba_size, List.length_drop]
    apply propext
    omega
  have hne : s.drop pos ≠ [] := by intro e; have := congrArg List.length e; simp at this; omega
  unfold decAt Utf8.decode
  simp only [get_drop, key]
  generalize s.drop pos = l at hne
  match l, hne with
  | a :: r, _ =>
    have ha := a.toNat_lt
    simp only [List.getElem?_cons_zero, Option.getD_some, Utf8.runeError, uStep, valid_nat]
    by_cases h1 : a.toNat < 128
    · simp [h1, dec]
    rw [if_neg h1]
    by_cases h2 : a.toNat < 194
    · have e1 : dec (a :: r) = (0, 0) := by simp [dec, h1, h2]
      rw [e1]
      by_cases h3 : a.toNat / 32 = 6
      · match r with
        | [] => simp [h3]
        | b :: t =>
          have hb := b.toNat_lt
          have h4 : ¬ a.toNat / 16 = 14 := by omega
          have h5 : ¬ a.toNat / 8 = 30 := by omega
          simp only [List.getElem?_cons_succ, List.getElem?_cons_zero, Option.getD_some, List.length_cons]
          by_cases h6 : b.toNat / 64 = 2
          · have h7 : ¬ 128 ≤ a.toNat % 32 * 64 + b.toNat % 64 := by omega
            simp [h3, h6, h7]
          · simp [h4, h5, h6]
      · have h4 : ¬ a.toNat / 16 = 14 := by omega
        have h5 : ¬ a.toNat / 8 = 30 := by omega
        simp [h3, h4, h5]
    by_cases h3 : a.toNat < 224
    · have h4 : a.toNat / 32 = 6 := by omega
      have h5 : ¬ a.toNat / 16 = 14 := by omega
      have h6 : ¬ a.toNat / 8 = 30 := by omega
      match r with
      | [] => simp [dec, h1, h2, h3]
      | b :: t =>
        have hb := b.toNat_lt
        simp only [List.getElem?_cons_succ, List.getElem?_cons_zero, Option.getD_some, List.length_cons, dec, h1, h2, h3, if_false, if_true]
        by_cases h7 : b.toNat / 64 = 2
        · have h8 : cont b = true := cont_iff.2 h7
          have h9 : a.toNat % 32 * 64 + b.toNat % 64 = v2 a b := by unfold v2; omega
          have h10 : 128 ≤ v2 a b := by unfold v2; omega
          simp [h4, h7, h8, h9, h10]
        · have h8 : cont b = false := cont_not.2 h7
          simp [h5, h6, h7, h8]
    by_cases h4 : a.toNat < 240
    · have h5 : a.toNat / 16 = 14 := by omega
      have h6 : ¬ a.toNat / 32 = 6 := by omega
      have h7 : ¬ a.toNat / 8 = 30 := by omega
      match r with
      | [] => simp [dec, h1, h2, h3, h4]
      | [b] => simp [dec, h1, h2, h3, h4, h6]
      | b :: c :: t =>
        have hb := b.toNat_lt
        have hc := c.toNat_lt
        simp only [List.getElem?_cons_succ, List.getElem?_cons_zero, Option.getD_some, List.length_cons, dec, h1, h2, h3, h4, if_false, if_true]
        by_cases h8 : b.toNat / 64 = 2
        · have h8' : cont b = true := cont_iff.2 h8
          by_cases h9 : c.toNat / 64 = 2
          · have h9' : cont c = true := cont_iff.2 h9
            have h10 : a.toNat % 16 * 4096 + b.toNat % 64 * 64 + c.toNat % 64 = v3 a b c := by unfold v3; omega
            have h11 : v3 a b c < 65536 := by unfold v3; omega
            simp only [h5, h8, h9, h8', h9', h10]
            by_cases h12 : 2048 ≤ v3 a b c ∧ (v3 a b c < 55296 ∨ 57343 < v3 a b c)
            · have h13 : v3 a b c < 55296 ∨ (57344 ≤ v3 a b c ∧ v3 a b c ≤ 1114111) := by omega
              simp [h6, h12, h13]
            · have h13 : ¬ (2048 ≤ v3 a b c ∧ (v3 a b c < 55296 ∨ (57344 ≤ v3 a b c ∧ v3 a b c ≤ 1114111))) := by omega
              simp [h6, h12, h13]
          · have h9' : cont c = false := cont_not.2 h9
            simp [h6, h7, h9, h9']
        · have h8' : cont b = false := cont_not.2 h8
          simp [h6, h7, h8, h8']
    · have h5 : ¬ a.toNat / 16 = 14 := by omega
      have h6 : ¬ a.toNat / 32 = 6 := by omega
      by_cases h7 : a.toNat < 245
      · have h8 : a.toNat / 8 = 30 := by omega
        match r with
        | [] => simp [dec, h1, h2, h3, h4, h7]
        | [b] => simp [dec, h1, h2, h3, h4, h6, h7]
        | [b, c] => simp [dec, h1, h2, h3, h4, h5, h6, h7]
        | b :: c :: d :: t =>
          have hb := b.toNat_lt
          have hc := c.toNat_lt
          have hd := d.toNat_lt
          simp only [List.getElem?_cons_succ, List.getElem?_cons_zero, Option.getD_some, List.length_cons, dec, h1, h2, h3, h4, h7, if_false, if_true]
          by_cases h9 : b.toNat / 64 = 2
          · have h9' : cont b = true := cont_iff.2 h9
            by_cases h10 : c.toNat / 64 = 2
            · have h10' : cont c = true := cont_iff.2 h10
              by_cases h11 : d.toNat / 64 = 2
              · have h11' : cont d = true := cont_iff.2 h11
                have h12 : a.toNat % 8 * 262144 + b.toNat % 64 * 4096 + c.toNat % 64 * 64 + d.toNat % 64 = v4 a b c d := by unfold v4; omega
                simp only [h8, h9, h10, h11, h9', h10', h11', h12]
                by_cases h13 : 65536 ≤ v4 a b c d ∧ v4 a b c d ≤ 1114111
                · have h14 : v4 a b c d < 55296 ∨ (57344 ≤ v4 a b c d ∧ v4 a b c d ≤ 1114111) := by omega
                  simp [h5, h6, h13]
                  omega
                · have h14 : ¬ (65536 ≤ v4 a b c d ∧ (v4 a b c d < 55296 ∨ (57344 ≤ v4 a b c d ∧ v4 a b c d ≤ 1114111))) := by omega
                  simp [h5, h6, h13, h14]
              · have h11' : cont d = false := cont_not.2 h11
                simp [h5, h6, h11, h11']
            · have h10' : cont c = false := cont_not.2 h10
              simp [h5, h6, h10, h10']
          · have h9' : cont b = false := cont_not.2 h9
            simp [h5, h6, h9, h9']
      · have e1 : dec (a :: r) = (0, 0) := by simp [dec, h1, h2, h3, h4, h7]
        rw [e1]
        by_cases h8 : a.toNat / 8 = 30
        · match r with
          | [] => simp
          | [b] => simp [h6]
          | [b, c] => simp [h5, h6]
          | b :: c :: d :: t =>
            have hb := b.toNat_lt
            have hc := c.toNat_lt
            have hd := d.toNat_lt
            simp only [List.getElem?_cons_succ, List.getElem?_cons_zero, Option.getD_some, List.length_cons]
            have h12 : 1114111 < a.toNat % 8 * 262144 + b.toNat % 64 * 4096 + c.toNat % 64 * 64 + d.toNat % 64 := by
              have h13 : 5 ≤ a.toNat % 8 := by omega
              have h14 : 1310720 ≤ a.toNat % 8 * 262144 := by omega
              omega
            have h15 := big_not h12
            simp [h5, h6, h15]
        · simp [h5, h6, h8]
theorem uStep_pos (l : List UInt8) : 0 < (uStep l).2 := by
  unfold uStep
  split
  · simp
  · simp; omega
theorem uStep_le {l : List UInt8} (h : l ≠ []) : (uStep l).2 ≤ l.length := by
  unfold uStep
  split
  · have := List.length_pos_iff.2 h
    simp; omega
  · exact dec_le l
theorem uStep_rune (l : List UInt8) : (uStep l).1 ≤ 1114111 := by
  unfold uStep
  split
  · simp
  · exact dec_rune l
end Go.Vc
/-
  Texts rune by rune: the first bad place, whether all runes are so, how many there are, the first ones, small letters. Plain Lean.
-/
set_option maxRecDepth 20000
set_option linter.unusedVariables false
namespace Go.Vc

def badFrom (s : List UInt8) (i : Nat) : Int :=
  if h : i < s.length then (if h0 : (dec (s.drop i)).1 = 0 then (i : Int) else badFrom s (i + (dec (s.drop i)).1)) else -1
termination_by s.length - i
decreasing_by omega
def allFrom (p : Nat → Bool) (s : List UInt8) (i : Nat) : Bool :=
  if h : i < s.length then p (uStep (s.drop i)).1 && allFrom p s (i + (uStep (s.drop i)).2) else true
termination_by s.length - i
decreasing_by have := uStep_pos (s.drop i); omega
def countFrom (s : List UInt8) (i : Nat) : Nat :=
  if h : i < s.length then 1 + countFrom s (i + (uStep (s.drop i)).2) else 0
termination_by s.length - i
decreasing_by have := uStep_pos (s.drop i); omega
def cutFrom (s : List UInt8) (n : Int) (i : Nat) : Nat :=
  if h : i < s.length ∧ 0 < n then cutFrom s (n - 1) (i + (uStep (s.drop i)).2) else i
termination_by s.length - i
decreasing_by have := uStep_pos (s.drop i); omega

theorem badFrom_end {s : List UInt8} {i : Nat} (h : ¬ i < s.length) : badFrom s i = -1 := by rw [badFrom, dif_neg h]
theorem badFrom_bad {s : List UInt8} {i : Nat} (h : i < s.length) (h0 : (dec (s.drop i)).1 = 0) : badFrom s i = i := by rw [badFrom, dif_pos h, dif_pos h0]
theorem badFrom_on {s : List UInt8} {i : Nat} (h : i < s.length) (h0 : (dec (s.drop i)).1 ≠ 0) : badFrom s i = badFrom s (i + (dec (s.drop i)).1) := by
  conv => lhs; rw [badFrom, dif_pos h, dif_neg h0]
theorem allFrom_end {p : Nat → Bool} {s : List UInt8} {i : Nat} (h : ¬ i < s.length) : allFrom p s i = true := by rw [allFrom, dif_neg h]
theorem allFrom_on {p : Nat → Bool} {s : List UInt8} {i : Nat} (h : i < s.length) : allFrom p s i = (p (uStep (s.drop i)).1 && allFrom p s (i + (uStep (s.drop i)).2)) := by
  conv => lhs; rw [allFrom, dif_pos h]
theorem countFrom_end {s : List UInt8} {i : Nat} (h : ¬ i < s.length) : countFrom s i = 0 := by rw [countFrom, dif_neg h]
theorem countFrom_on {s : List UInt8} {i : Nat} (h : i < s.length) : countFrom s i = 1 + countFrom s (i + (uStep (s.drop i)).2) := by
  conv => lhs; rw [countFrom, dif_pos h]
theorem cutFrom_end {s : List UInt8} {n : Int} {i : Nat} (h : ¬ (i < s.length ∧ 0 < n)) : cutFrom s n i = i := by rw [cutFrom, dif_neg h]
theorem cutFrom_on {s : List UInt8} {n : Int} {i : Nat} (h : i < s.length ∧ 0 < n) : cutFrom s n i = cutFrom s (n - 1) (i + (uStep (s.drop i)).2) := by
  conv => lhs; rw [cutFrom, dif_pos h]
theorem drop_ne {s : List UInt8} {i : Nat} (h : i < s.length) : s.drop i ≠ [] := by intro e; have := congrArg List.length e; simp at this; omega
theorem step_on {s : List UInt8} {i : Nat} (h : i < s.length) : i + (uStep (s.drop i)).2 ≤ s.length := by
  have := uStep_le (drop_ne h)
  rw [List.length_drop] at this
  omega
theorem uStep_good {l : List UInt8} (h : (dec l).1 ≠ 0) : uStep l = ((dec l).2, (dec l).1) := by unfold uStep; rw [if_neg h]
theorem uStep_bad {l : List UInt8} (h : (dec l).1 = 0) : uStep l = (65533, 1) := by unfold uStep; rw [if_pos h]

/-- The head of a text: a small byte is a rune of its own; a longer rune has great bytes alone. -/
theorem dec_small {a : UInt8} {r : List UInt8} (h : a.toNat < 128) : dec (a :: r) = (1, a.toNat) := by simp [dec, h]
theorem dec_one {l : List UInt8} (h : (dec l).1 = 1) : ∃ a r, l = a :: r ∧ a.toNat < 128 ∧ (dec l).2 = a.toNat := by
  match l with
  | [] => simp [dec] at h
  | a :: r =>
    by_cases h1 : a.toNat < 128
    · exact ⟨a, r, rfl, h1, by rw [dec_small h1]⟩
    · exfalso
      simp only [dec, h1, if_false] at h
      split at h
      · simp at h
      · split at h
        · split at h
          · split at h <;> simp at h
          · simp at h
        · split at h
          · split at h
            · split at h <;> simp at h
            · simp at h
          · split at h
            · split at h
              · split at h <;> simp at h
              · simp at h
            · simp at h
theorem dec_great {l : List UInt8} (h : 2 ≤ (dec l).1) : (∀ b ∈ l.take (dec l).1, 128 ≤ b.toNat) ∧ 128 ≤ (dec l).2 := by
  match l with
  | [] => simp [dec] at h
  | a :: r =>
    by_cases h1 : a.toNat < 128
    · rw [dec_small h1] at h; simp at h
    · by_cases h2 : a.toNat < 194
      · simp [dec, h1, h2] at h
      · by_cases h3 : a.toNat < 224
        · match r with
          | [] => simp [dec, h1, h2, h3] at h
          | b :: t =>
            simp only [dec, h1, h2, h3, if_false, if_true] at h ⊢
            split at h
            · rename_i hc
              rw [if_pos hc]
              simp only [cont, Bool.and_eq_true, decide_eq_true_eq] at hc
              refine ⟨?_, by dsimp only [v2]; omega⟩
              intro x hx
              simp at hx
              rcases hx with rfl | rfl <;> omega
            · simp at h
        · by_cases h4 : a.toNat < 240
          · match r with
            | [] => simp [dec, h1, h2, h3, h4] at h
            | [_] => simp [dec, h1, h2, h3, h4] at h
            | b :: c :: t =>
              simp only [dec, h1, h2, h3, h4, if_false, if_true] at h ⊢
              split at h
              · rename_i hc
                rw [if_pos hc]
                obtain ⟨g1, g2, g3, _⟩ := hc
                simp only [cont, Bool.and_eq_true, decide_eq_true_eq] at g1 g2
                refine ⟨?_, by dsimp only; omega⟩
                intro x hx
                simp at hx
                rcases hx with rfl | rfl | rfl <;> omega
              · simp at h
          · by_cases h5 : a.toNat < 245
            · match r with
              | [] => simp [dec, h1, h2, h3, h4, h5] at h
              | [_] => simp [dec, h1, h2, h3, h4, h5] at h
              | [_, _] => simp [dec, h1, h2, h3, h4, h5] at h
              | b :: c :: d :: t =>
                simp only [dec, h1, h2, h3, h4, h5, if_false, if_true] at h ⊢
                split at h
                · rename_i hc
                  rw [if_pos hc]
                  obtain ⟨g1, g2, g3, g4, _⟩ := hc
                  simp only [cont, Bool.and_eq_true, decide_eq_true_eq] at g1 g2 g3
                  refine ⟨?_, by dsimp only; omega⟩
                  intro x hx
                  simp at hx
                  rcases hx with rfl | rfl | rfl | rfl <;> omega
                · simp at h
            · simp [dec, h1, h2, h3, h4, h5] at h
theorem dec_none {a : UInt8} {r : List UInt8} (h : (dec (a :: r)).1 = 0) : 128 ≤ a.toNat := by
  by_cases h1 : a.toNat < 128
  · rw [dec_small h1] at h; simp at h
  · omega

/-- What a step goes over: one small byte that is the rune, or great bytes alone, the rune being great. -/
theorem step_parts {s : List UInt8} {i : Nat} (h : i < s.length) : ((uStep (s.drop i)).2 = 1 ∧ s[i].toNat < 128 ∧ (uStep (s.drop i)).1 = s[i].toNat) ∨
    ((∀ b ∈ (s.drop i).take (uStep (s.drop i)).2, 128 ≤ b.toNat) ∧ 128 ≤ (uStep (s.drop i)).1) := by
  have hd : s.drop i = s[i] :: s.drop (i + 1) := List.drop_eq_getElem_cons h
  by_cases h0 : (dec (s.drop i)).1 = 0
  · refine .inr ?_
    rw [uStep_bad h0]
    refine ⟨fun b hb => ?_, by decide⟩
    rw [hd] at h0
    have hb' : b ∈ (s[i] :: s.drop (i + 1)).take 1 := by rw [← hd]; exact hb
    have : b = s[i] := by
      rw [List.take_succ_cons, List.take_zero] at hb'
      exact List.mem_singleton.1 hb'
    rw [this]
    exact dec_none h0
  · rw [uStep_good h0]
    by_cases h1 : (dec (s.drop i)).1 = 1
    · obtain ⟨a, r, e1, e2, e3⟩ := dec_one h1
      have : s[i] = a := by rw [hd] at e1; cases e1; rfl
      exact .inl ⟨h1, by rw [this]; exact e2, by rw [this]; exact e3⟩
    · exact .inr (dec_great (by omega))

/-! ### Whole texts -/
/-- A text of which each rune is so, and that is whole. -/
def keyFrom (p : Nat → Bool) (s : List UInt8) (i : Nat) : Bool := decide (badFrom s i < 0) && allFrom p s i
theorem keyFrom_end {p : Nat → Bool} {s : List UInt8} {i : Nat} (h : ¬ i < s.length) : keyFrom p s i = true := by
  unfold keyFrom; rw [badFrom_end h, allFrom_end h]; rfl
theorem keyFrom_bad {p : Nat → Bool} {s : List UInt8} {i : Nat} (h : i < s.length) (h0 : (dec (s.drop i)).1 = 0) : keyFrom p s i = false := by
  unfold keyFrom; rw [badFrom_bad h h0]; simp; omega
theorem keyFrom_on {p : Nat → Bool} {s : List UInt8} {i : Nat} (h : i < s.length) (h0 : (dec (s.drop i)).1 ≠ 0) : keyFrom p s i = (p (dec (s.drop i)).2 && keyFrom p s (i + (dec (s.drop i)).1)) := by
  unfold keyFrom; rw [badFrom_on h h0, allFrom_on h, uStep_good h0]
  cases p (dec (s.drop i)).2 <;> cases decide (badFrom s (i + (dec (s.drop i)).1) < 0) <;> simp

theorem badFrom_ge (s : List UInt8) (i : Nat) : badFrom s i = -1 ∨ (i : Int) ≤ badFrom s i := by
  fun_induction badFrom s i with
  | case1 => right; omega
  | case2 i h h0 ih => rcases ih with e | e <;> omega
  | case3 => left; rfl

/-- Of a whole text: each byte is so just if each rune is so, for what says nothing of great ones. -/
theorem bytes_runes {p : Nat → Bool} (hp : ∀ n, 128 ≤ n → p n = true) (s : List UInt8) (i : Nat) : (∀ b ∈ s.drop i, p b.toNat = true) ↔ allFrom p s i = true := by
  fun_induction allFrom p s i with
  | case1 i h ih =>
    have hle := step_on h
    have hsplit : s.drop i = (s.drop i).take (uStep (s.drop i)).2 ++ s.drop (i + (uStep (s.drop i)).2) := by rw [← List.drop_drop, List.take_append_drop]
    have e1 : (∀ b ∈ s.drop i, p b.toNat = true) ↔ (∀ b ∈ (s.drop i).take (uStep (s.drop i)).2, p b.toNat = true) ∧ ∀ b ∈ s.drop (i + (uStep (s.drop i)).2), p b.toNat = true := by
      conv => lhs; rw [hsplit]
      simp only [List.mem_append]
      constructor
      · exact fun hb => ⟨fun b h1 => hb b (.inl h1), fun b h1 => hb b (.inr h1)⟩
      · rintro ⟨h1, h2⟩ b (hb | hb)
        · exact h1 b hb
        · exact h2 b hb
    rw [e1, ih, Bool.and_eq_true]
    refine and_congr_left fun _ => ?_
    rcases step_parts h with ⟨h1, h2, h3⟩ | ⟨h1, h2⟩
    · rw [h1, h3]
      have : (s.drop i).take 1 = [s[i]] := by rw [List.drop_eq_getElem_cons h]; rfl
      rw [this]
      simp
    · constructor
      · exact fun _ => hp _ h2
      · exact fun _ b hb => hp _ (h1 b hb)
  | case2 i h =>
    simp only [iff_true]
    intro b hb
    rw [List.drop_of_length_le (by omega)] at hb
    cases hb

/-! ### Small letters -/
def lowB (b : UInt8) : UInt8 := if 65 ≤ b.toNat ∧ b.toNat ≤ 90 then b8 (b.toNat + 32) else b
theorem lowB_nat (b : UInt8) : (lowB b).toNat = if 65 ≤ b.toNat ∧ b.toNat ≤ 90 then b.toNat + 32 else b.toNat := by
  unfold lowB
  split
  · rw [b8_toNat (by omega)]
  · rfl
theorem lowB_low (b : UInt8) : lowB (lowB b) = lowB b := by
  apply UInt8.toNat_inj.1
  have h := lowB_nat b
  rw [lowB_nat (lowB b), h]
  split
  · rw [if_neg (by omega)]
  · rfl
theorem lowB_great {b : UInt8} (h : 128 ≤ b.toNat) : lowB b = b := by
  unfold lowB; rw [if_neg (by omega)]
theorem lowB_lt {b : UInt8} (h : b.toNat < 128) : (lowB b).toNat < 128 := by
  rw [lowB_nat]; split <;> omega
theorem lowB_cont (b : UInt8) : cont (lowB b) = cont b := by
  by_cases h : 128 ≤ b.toNat
  · rw [lowB_great h]
  · have := lowB_lt (b := b) (by omega)
    have e1 : cont (lowB b) = false := by simp [cont]; omega
    have e2 : cont b = false := by simp [cont]; omega
    rw [e1, e2]
theorem cont_great {b : UInt8} (h : cont b = true) : lowB b = b := by
  simp only [cont, Bool.and_eq_true, decide_eq_true_eq] at h
  exact lowB_great h.1
theorem dec_low (l : List UInt8) : (dec (l.map lowB)).1 = (dec l).1 := by
  match l with
  | [] => rfl
  | a :: r =>
    by_cases h1 : a.toNat < 128
    · rw [List.map_cons, dec_small h1, dec_small (lowB_lt h1)]
    · rw [List.map_cons, lowB_great (by omega)]
      simp only [dec, h1, if_false]
      split
      · rfl
      · split
        · match r with
          | [] => rfl
          | b :: t =>
            simp only [List.map_cons, lowB_cont]
            by_cases hb : cont b = true
            · simp [hb]
            · simp [hb]
        · split
          · match r with
            | [] => rfl
            | [b] => rfl
            | b :: c :: t =>
              simp only [List.map_cons, lowB_cont]
              by_cases hb : cont b = true
              · by_cases hc : cont c = true
                · rw [cont_great hb, cont_great hc]
                · simp [hc]
              · simp [hb]
          · split
            · match r with
              | [] => rfl
              | [b] => rfl
              | [b, c] => rfl
              | b :: c :: d :: t =>
                simp only [List.map_cons, lowB_cont]
                by_cases hb : cont b = true
                · by_cases hc : cont c = true
                  · by_cases hd : cont d = true
                    · rw [cont_great hb, cont_great hc, cont_great hd]
                    · simp [hd]
                  · simp [hc]
                · simp [hb]
            · rfl
theorem badFrom_low (s : List UInt8) (i : Nat) : badFrom (s.map lowB) i = badFrom s i := by
  fun_induction badFrom s i with
  | case1 i h h0 => exact badFrom_bad (by simpa using h) (by rw [← List.map_drop, dec_low]; exact h0)
  | case2 i h h0 ih =>
    rw [badFrom_on (by simpa using h) (by rw [← List.map_drop, dec_low]; exact h0), ← List.map_drop, dec_low]
    exact ih
  | case3 i h => exact badFrom_end (by simpa using h)
theorem cutFrom_all {s : List UInt8} {n : Int} {i : Nat} (hi : i ≤ s.length) (h : ((s.length - i : Nat) : Int) ≤ n) : cutFrom s n i = s.length := by
  fun_induction cutFrom s n i with
  | case1 n i hc ih =>
    have := step_on hc.1
    have := uStep_pos (s.drop i)
    exact ih (by omega) (by omega)
  | case2 n i hc => omega
theorem cutFrom_le {s : List UInt8} {n : Int} {i : Nat} (hi : i ≤ s.length) : cutFrom s n i ≤ s.length := by
  fun_induction cutFrom s n i with
  | case1 n i hc ih => exact ih (step_on hc.1)
  | case2 n i hc => exact hi

/-! ### A rune's bytes, one by one -/
def Row (a n low v0 : Nat) : Prop := (194 ≤ a ∧ a < 224 ∧ n = 2 ∧ low = 128 ∧ v0 = a - 192) ∨ (224 ≤ a ∧ a < 240 ∧ n = 3 ∧ low = 2048 ∧ v0 = a - 224) ∨ (240 ≤ a ∧ a < 245 ∧ n = 4 ∧ low = 65536 ∧ v0 = a - 240)
def pv1 (v : Nat) (b : UInt8) : Nat := 64 * v + (b.toNat - 128)
def pv (v : Nat) (l : List UInt8) : Nat := l.foldl pv1 v
theorem pv_snoc (l : List UInt8) (v : Nat) (b : UInt8) : pv v (l ++ [b]) = 64 * pv v l + (b.toNat - 128) := by
  unfold pv
  rw [List.foldl_append]
  rfl
theorem dec_short {a : UInt8} {r : List UInt8} {n low v0 : Nat} (h : Row a.toNat n low v0) (hr : r.length + 1 < n) : dec (a :: r) = (0, 0) := by
  rcases h with ⟨h1, h2, rfl, rfl, rfl⟩ | ⟨h1, h2, rfl, rfl, rfl⟩ | ⟨h1, h2, rfl, rfl, rfl⟩
  · match r, hr with
    | [], _ => simp [dec, show ¬ a.toNat < 128 by omega, show ¬ a.toNat < 194 by omega, h2]
    | _ :: _, hr => simp at hr; omega
  · match r, hr with
    | [], _ => simp [dec, show ¬ a.toNat < 128 by omega, show ¬ a.toNat < 194 by omega, show ¬ a.toNat < 224 by omega, h2]
    | [_], _ => simp [dec, show ¬ a.toNat < 128 by omega, show ¬ a.toNat < 194 by omega, show ¬ a.toNat < 224 by omega, h2]
    | _ :: _ :: _, hr => simp at hr; omega
  · match r, hr with
    | [], _ => simp [dec, show ¬ a.toNat < 128 by omega, show ¬ a.toNat < 194 by omega, show ¬ a.toNat < 224 by omega, show ¬ a.toNat < 240 by omega, h2]
    | [_], _ => simp [dec, show ¬ a.toNat < 128 by omega, show ¬ a.toNat < 194 by omega, show ¬ a.toNat < 224 by omega, show ¬ a.toNat < 240 by omega, h2]
    | [_, _], _ => simp [dec, show ¬ a.toNat < 128 by omega, show ¬ a.toNat < 194 by omega, show ¬ a.toNat < 224 by omega, show ¬ a.toNat < 240 by omega, h2]
    | _ :: _ :: _ :: _, hr => simp at hr; omega
theorem dec_row {a : UInt8} {r : List UInt8} {n low v0 : Nat} (h : Row a.toNat n low v0) (hr : n ≤ r.length + 1) :
    dec (a :: r) = if (∀ b ∈ r.take (n - 1), cont b = true) ∧ low ≤ pv v0 (r.take (n - 1)) ∧ pv v0 (r.take (n - 1)) ≤ 1114111 ∧ (pv v0 (r.take (n - 1)) < 55296 ∨ 57343 < pv v0 (r.take (n - 1))) then (n, pv v0 (r.take (n - 1))) else (0, 0) := by
  have ha := a.toNat_lt
  rcases h with ⟨h1, h2, rfl, rfl, rfl⟩ | ⟨h1, h2, rfl, rfl, rfl⟩ | ⟨h1, h2, rfl, rfl, rfl⟩
  · match r, hr with
    | b :: t, _ =>
      have hb := b.toNat_lt
      simp only [dec, show ¬ a.toNat < 128 by omega, show ¬ a.toNat < 194 by omega, h2, if_false, if_true]
      have e : (b :: t).take (2 - 1) = [b] := rfl
      rw [e]
      have e2 : pv (a.toNat - 192) [b] = v2 a b := rfl
      rw [e2]
      simp only [List.mem_singleton, forall_eq]
      by_cases hc : cont b = true
      · have hc' := hc
        simp only [cont, Bool.and_eq_true, decide_eq_true_eq] at hc'
        rw [if_pos hc, if_pos ⟨hc, by unfold v2; omega, by unfold v2; omega, by unfold v2; omega⟩]
      · rw [if_neg hc, if_neg (fun h => hc h.1)]
  · match r, hr with
    | b :: c :: t, _ =>
      have hb := b.toNat_lt
      have hcc := c.toNat_lt
      simp only [dec, show ¬ a.toNat < 128 by omega, show ¬ a.toNat < 194 by omega, show ¬ a.toNat < 224 by omega, h2, if_false, if_true]
      have e : (b :: c :: t).take (3 - 1) = [b, c] := rfl
      rw [e]
      have e2 : pv (a.toNat - 224) [b, c] = v3 a b c := rfl
      rw [e2]
      have e3 : (∀ x ∈ [b, c], cont x = true) ↔ cont b = true ∧ cont c = true := by simp
      have hv : v3 a b c ≤ 1114111 := by unfold v3; omega
      by_cases hx : cont b = true ∧ cont c = true ∧ 2048 ≤ v3 a b c ∧ (v3 a b c < 55296 ∨ 57343 < v3 a b c)
      · rw [if_pos hx, if_pos ⟨e3.2 ⟨hx.1, hx.2.1⟩, hx.2.2.1, hv, hx.2.2.2⟩]
      · rw [if_neg hx, if_neg (fun h => hx ⟨(e3.1 h.1).1, (e3.1 h.1).2, h.2.1, h.2.2.2⟩)]
  · match r, hr with
    | b :: c :: d :: t, _ =>
      have hb := b.toNat_lt
      simp only [dec, show ¬ a.toNat < 128 by omega, show ¬ a.toNat < 194 by omega, show ¬ a.toNat < 224 by omega, show ¬ a.toNat < 240 by omega, h2, if_false, if_true]
      have e : (b :: c :: d :: t).take (4 - 1) = [b, c, d] := rfl
      rw [e]
      have e2 : pv (a.toNat - 240) [b, c, d] = v4 a b c d := rfl
      rw [e2]
      have e3 : (∀ x ∈ [b, c, d], cont x = true) ↔ cont b = true ∧ cont c = true ∧ cont d = true := by simp
      by_cases hx : cont b = true ∧ cont c = true ∧ cont d = true ∧ 65536 ≤ v4 a b c d ∧ v4 a b c d ≤ 1114111
      · rw [if_pos hx, if_pos ⟨e3.2 ⟨hx.1, hx.2.1, hx.2.2.1⟩, hx.2.2.2.1, hx.2.2.2.2, by omega⟩]
      · rw [if_neg hx, if_neg (fun h => hx ⟨(e3.1 h.1).1, (e3.1 h.1).2.1, (e3.1 h.1).2.2, h.2.1, h.2.2.1⟩)]
theorem dec_else {a : UInt8} {r : List UInt8} (h : ¬ a.toNat < 128) (h1 : a.toNat < 194 ∨ 245 ≤ a.toNat) : dec (a :: r) = (0, 0) := by
  simp only [dec, h, if_false]
  rcases h1 with h1 | h1
  · rw [if_pos h1]
  · rw [if_neg (by omega), if_neg (by omega), if_neg (by omega), if_neg (by omega)]
theorem pv_le {a n low v0 : Nat} (h : Row a n low v0) (l : List UInt8) (hl : l.length ≤ 3) : pv v0 l ≤ 33554432 := by
  have h0 : v0 ≤ 31 := by rcases h with ⟨_, _, _, _, _⟩ | ⟨_, _, _, _, _⟩ | ⟨_, _, _, _, _⟩ <;> omega
  match l, hl with
  | [], _ => simp only [pv, List.foldl]; omega
  | [b], _ => have := b.toNat_lt; simp only [pv, pv1, List.foldl]; omega
  | [b, c], _ => have := b.toNat_lt; have := c.toNat_lt; simp only [pv, pv1, List.foldl]; omega
  | [b, c, d], _ => have := b.toNat_lt; have := c.toNat_lt; have := d.toNat_lt; simp only [pv, pv1, List.foldl]; omega

/-! ### Going through a text -/
variable {α β : Type} {P : Program} {w : World}
def itPos (w : World) (a : Addr) : Nat := match w.heap[a.block]? with | some (.stringIter _ p) => p | _ => 0
theorem ItAt.pos {a : Addr} {s : List UInt8} {pos : Nat} (h : ItAt w a s pos) : itPos w a = pos := by unfold itPos; rw [h.2]
theorem runes0 {a : Addr} {s : List UInt8} {body : (World → Prop) → World → Prop} (J : Nat → World → Prop) (h0 : J 0 w) (hit : ItAt w a s 0)
    (hstep : ∀ (pos : Nat) (w' : World) (C : World → Prop), pos ≤ s.length → J pos w' → ItAt w' a s pos → (∀ (pos' : Nat) w'', pos < pos' → pos' ≤ s.length → J pos' w'' → ItAt w'' a s pos' → C w'') → body C w') : loop0 body w := by
  refine ⟨fun w' => ∃ pos, pos ≤ s.length ∧ J pos w' ∧ ItAt w' a s pos, fun w' => s.length - itPos w' a, ⟨0, by omega, h0, hit⟩, ?_⟩
  rintro w' ⟨pos, hp, hJ, hi⟩
  refine hstep pos w' _ hp hJ hi fun pos' w'' h1 h2 h3 h4 => ⟨⟨pos', h2, h3, h4⟩, ?_⟩
  dsimp only
  rw [hi.pos, h4.pos]; omega
theorem runes1 {b : β} {a : Addr} {s : List UInt8} {body : β → (β → World → Prop) → World → Prop} (J : Nat → β → World → Prop) (h0 : J 0 b w) (hit : ItAt w a s 0)
    (hstep : ∀ (pos : Nat) (b' : β) (w' : World) (C : β → World → Prop), pos ≤ s.length → J pos b' w' → ItAt w' a s pos → (∀ (pos' : Nat) b'' w'', pos < pos' → pos' ≤ s.length → J pos' b'' w'' → ItAt w'' a s pos' → C b'' w'') → body b' C w') : loop1 b body w := by
  refine ⟨fun b' w' => ∃ pos, pos ≤ s.length ∧ J pos b' w' ∧ ItAt w' a s pos, fun _ w' => s.length - itPos w' a, ⟨0, by omega, h0, hit⟩, ?_⟩
  rintro b' w' ⟨pos, hp, hJ, hi⟩
  refine hstep pos b' w' _ hp hJ hi fun pos' b'' w'' h1 h2 h3 h4 => ⟨⟨pos', h2, h3, h4⟩, ?_⟩
  dsimp only
  rw [hi.pos, h4.pos]; omega
/-- The next rune, by 'uStep'. -/
theorem next_st {a : Addr} {s : List UInt8} {pos : Nat} {K1 : Int × Int → World → Prop} {K2 : Unit → World → Prop} (h : ItAt w a s pos)
    (h1 : pos < s.length → ∀ w', Wr a.block w w' → ItAt w' a s (pos + (uStep (s.drop pos)).2) → K1 ((pos : Int), ((uStep (s.drop pos)).1 : Int)) w') (h2 : ¬ pos < s.length → K2 () w) :
    opAl P (Instr.next (.pointer (some a)) true 0) (nxval (Value.int .i64) (Value.int .i32)) endval K1 K2 w :=
  next_al h (fun hp w' hw hi => by
    have := h1 hp w' hw
    rw [← decAt_eq hp] at this
    exact this hi) h2

/-! ### Texts of small bytes -/
theorem ascii_dec {s : List UInt8} (h : ∀ b ∈ s, b.toNat < 128) {i : Nat} (hi : i < s.length) : dec (s.drop i) = (1, s[i].toNat) := by
  rw [List.drop_eq_getElem_cons hi, dec_small (h _ (List.getElem_mem hi))]
theorem ascii_bad {s : List UInt8} (h : ∀ b ∈ s, b.toNat < 128) (i : Nat) : badFrom s i = -1 := by
  fun_induction badFrom s i with
  | case1 i hi h0 => rw [ascii_dec h hi] at h0; cases h0
  | case2 i hi h0 ih => exact ih
  | case3 i hi => rfl
theorem ascii_all {p : Nat → Bool} {s : List UInt8} (h : ∀ b ∈ s, b.toNat < 128) (i : Nat) : allFrom p s i = (s.drop i).all fun b => p b.toNat := by
  fun_induction allFrom p s i with
  | case1 i hi ih =>
    have e := ascii_dec h hi
    have e2 : uStep (s.drop i) = (s[i].toNat, 1) := by rw [uStep_good (by rw [e]; simp), e]
    rw [e2] at ih ⊢
    rw [ih, List.drop_eq_getElem_cons hi, List.all_cons]
  | case2 i hi => rw [List.drop_of_length_le (by omega)]; rfl
theorem ascii_count {s : List UInt8} (h : ∀ b ∈ s, b.toNat < 128) (i : Nat) : countFrom s i = s.length - i := by
  fun_induction countFrom s i with
  | case1 i hi ih =>
    have e := ascii_dec h hi
    have e2 : uStep (s.drop i) = (s[i].toNat, 1) := by rw [uStep_good (by rw [e]; simp), e]
    rw [e2] at ih ⊢
    rw [ih]
    dsimp only
    omega
  | case2 i hi => omega
theorem ascii_key {p : Nat → Bool} {s : List UInt8} (h : ∀ b ∈ s, b.toNat < 128) : keyFrom p s 0 = s.all fun b => p b.toNat := by
  unfold keyFrom
  rw [ascii_bad h, ascii_all h]
  simp
theorem low_step {s : List UInt8} {i : Nat} (h : i < s.length) : (s.take (i + (uStep (s.drop i)).2)).map lowB ++ s.drop (i + (uStep (s.drop i)).2) =
    if 65 ≤ (uStep (s.drop i)).1 ∧ (uStep (s.drop i)).1 ≤ 90 then ((s.take i).map lowB ++ s.drop i).set i (b8 ((uStep (s.drop i)).1 + 32)) else (s.take i).map lowB ++ s.drop i := by
  have hon := step_on h
  have e1 : s.take (i + (uStep (s.drop i)).2) = s.take i ++ (s.drop i).take (uStep (s.drop i)).2 := List.take_add
  have hlen : ((s.take i).map lowB).length = i := by simp; omega
  rcases step_parts h with ⟨h1, h2, h3⟩ | ⟨h1, h2⟩
  · rw [e1, h1, h3]
    have hd : s.drop i = s[i] :: s.drop (i + 1) := List.drop_eq_getElem_cons h
    have ht : (s.drop i).take 1 = [s[i]] := by rw [hd]; rfl
    rw [ht, List.map_append]
    split
    · rename_i hc
      rw [List.set_append_right _ _ (by omega), hlen, Nat.sub_self]
      have : lowB s[i] = b8 (s[i].toNat + 32) := by unfold lowB; rw [if_pos hc]
      have e5 : (s.drop i).set 0 (b8 (s[i].toNat + 32)) = b8 (s[i].toNat + 32) :: s.drop (i + 1) := by rw [hd]; rfl
      rw [e5]
      simp [this]
    · rename_i hc
      conv => rhs; rw [hd]
      have : lowB s[i] = s[i] := by unfold lowB; rw [if_neg hc]
      simp [this]
  · rw [if_neg (by omega), e1, List.map_append]
    have : ((s.drop i).take (uStep (s.drop i)).2).map lowB = (s.drop i).take (uStep (s.drop i)).2 := by
      conv => rhs; rw [← List.map_id ((s.drop i).take _)]
      exact List.map_congr_left fun b hb => lowB_great (h1 b hb)
    rw [this, List.append_assoc]
    congr 1
    rw [← List.drop_drop, List.take_append_drop]
end Go.Vc
/-
  Digits of numbers; shifting by a number; arrays of the call's own behind a pointer. Of whatever program.
-/
set_option linter.unusedVariables false
namespace Go.Vc
open Go.RowKit (Below)
variable {α β : Type} {P : Program} {w : World}

/-- A digit, 0 to 9 and a to z. -/
def dig (n : Nat) : UInt8 := if n < 10 then b8 (48 + n) else b8 (87 + n)
/-- The last k digits of a number. -/
def digK (b : Nat) : Nat → Nat → List UInt8
  | 0, _ => []
  | k + 1, n => digK b k (n / b) ++ [dig (n % b)]
theorem digK_len (b : Nat) : ∀ (k n : Nat), (digK b k n).length = k
  | 0, _ => rfl
  | k + 1, n => by simp [digK, digK_len b k]
theorem digK_drop (b : Nat) : ∀ (k j n : Nat), (digK b (j + k) n).drop j = digK b k n
  | 0, j, n => List.drop_of_length_le (by rw [digK_len]; omega)
  | k + 1, j, n => by
    rw [show j + (k + 1) = (j + k) + 1 from rfl]
    simp only [digK]
    rw [List.drop_append_of_le_length (by rw [digK_len]; omega), digK_drop b k j]
theorem digK_mod (b : Nat) : ∀ (k n : Nat), digK b k (n % b ^ k) = digK b k n
  | 0, _ => rfl
  | k + 1, n => by
    simp only [digK]
    have h1 : n % b ^ (k + 1) / b = n / b % b ^ k := by rw [Nat.pow_succ, Nat.mul_comm, Nat.mod_mul_right_div_self]
    have h2 : n % b ^ (k + 1) % b = n % b := by rw [Nat.pow_succ, Nat.mul_comm]; exact Nat.mod_mul_right_mod _ _ _
    rw [h1, h2, digK_mod b k]
/-- A number's digits. -/
def digits (b : Nat) (n : Nat) : List UInt8 := if h : n < b ∨ b < 2 then [dig n] else digits b (n / b) ++ [dig (n % b)]
termination_by n
decreasing_by exact Nat.div_lt_self (by omega) (by omega)
theorem digits_small {b n : Nat} (h : n < b) : digits b n = [dig n] := by rw [digits, dif_pos (.inl h)]
theorem digits_big {b n : Nat} (hb : 2 ≤ b) (h : ¬ n < b) : digits b n = digits b (n / b) ++ [dig (n % b)] := by rw [digits, dif_neg (by omega)]
theorem digits_K {b : Nat} (hb : 2 ≤ b) : ∀ (k n : Nat), b ^ k ≤ n → n < b ^ (k + 1) → digits b n = digK b (k + 1) n
  | 0, n, _, h => by
    rw [digits_small (by simpa using h)]
    simp only [digK]
    rw [Nat.mod_eq_of_lt (by simpa using h)]
    rfl
  | k + 1, n, h1, h2 => by
    have hbig : ¬ n < b := by
      have : b ≤ b ^ (k + 1) := Nat.le_self_pow (by omega) b
      omega
    rw [digits_big hb hbig, digits_K hb k (n / b) ((Nat.le_div_iff_mul_le (by omega)).2 (by rw [← Nat.pow_succ]; exact h1)) (Nat.div_lt_of_lt_mul (by rw [Nat.mul_comm, ← Nat.pow_succ]; exact h2))]
    rfl

theorem shr_rd {t : TypeId} {x y : Operand} {k k2 : IntKind} {a b : Int} {K : Int → Prop} (hb : 0 ≤ b) (hK : K (shR k a b)) : opRd P (binSem .shr t x y (.int k a) (.int k2 b)) (Value.int k) K w := by
  refine ⟨_, ?_, hK⟩
  unfold binSem
  have hg : (eqGuard .shr t x y (.int k a) (.int k2 b)).run P w = .ok () w := by simp [eqGuard]
  rw [Sem.run_bind, hg, Result.andThen_ok]
  show (Op.shift .shr k a k2 b).run P w = _
  unfold Op.shift
  rw [if_neg (by omega)]
  rfl
theorem quo_rd {t : TypeId} {x y : Operand} {k : IntKind} {a b : Int} {K : Int → Prop} (hb : b ≠ 0) (hK : K (k.wrap (Int.tdiv a b))) : opRd P (binSem .quo t x y (.int k a) (.int k b)) (Value.int k) K w := by
  refine ⟨_, ?_, hK⟩
  unfold binSem
  have hg : (eqGuard .quo t x y (.int k a) (.int k b)).run P w = .ok () w := by simp [eqGuard]
  rw [Sem.run_bind, hg, Result.andThen_ok]
  simp [binOp, Op.intDiv, hb]

/-! ### An array of the call's own, behind a pointer -/
theorem Obj.row {a : Addr} {cs : List Value} (h : Obj w a cs) : RowAt w a.block cs := by
  obtain ⟨_, _, T, hT⟩ := h
  exact ⟨T, (0, 0), by simpa using hT, .inl rfl⟩
theorem ar_sub_l {t z n : Nat} {a : Addr} {i : Int} {k : IntKind} (m : Nat) (ht : arOf P t = some (n, z)) (hi : i = (m : Int)) (hm : m ≤ n) :
    (Instr.sliceAt t (.pointer (some a)) (some (.int k i)) none none).run P w = .ok (Sl.val ⟨some (if n = m then a else a.add (m * z)), n - m, n - m⟩) w := by
  obtain ⟨e, he, hz⟩ := arOf_spec ht
  subst hi
  have ha : P.arrayLen t = n := by simp [Program.arrayLen, he]
  have hel : P.elem t = e := by simp [Program.elem, he]
  rw [run_sliceAt_array_l w t a (by rw [ha, hel]; exact he) k (m : Int) (by omega) (by rw [ha]; omega), hel, run_size hz, ha]
  simp [slicedAt, Sl.val, Result.andThen]
theorem ar_sub_h {t z n : Nat} {a : Addr} {j : Int} {k : IntKind} (m : Nat) (ht : arOf P t = some (n, z)) (hj : j = (m : Int)) (hm : m ≤ n) :
    (Instr.sliceAt t (.pointer (some a)) none (some (.int k j)) none).run P w = .ok (Sl.val ⟨some (if n = 0 then a else a.add 0), m, n⟩) w := by
  obtain ⟨e, he, hz⟩ := arOf_spec ht
  subst hj
  have ha : P.arrayLen t = n := by simp [Program.arrayLen, he]
  have hel : P.elem t = e := by simp [Program.elem, he]
  rw [run_sliceAt_array_h w t a (by rw [ha, hel]; exact he) k (m : Int) (by omega) (by rw [ha]; omega), hel, run_size hz, ha]
  simp [slicedAt, Sl.val, Result.andThen]
/-- A piece of an array of bytes, read as a list. -/
theorem Obj.bytes {a : Addr} {cs : List Value} (h : Obj w a cs) {m n : Nat} {l : List UInt8} (hn : cs.length = n) (hm : m + l.length = n) (hsm : n ≤ 9223372036854775807) (hc : cs.drop m = l.flatMap eB.cs) :
    IsSl eB w ⟨some (if n = m then a else a.add (m * 1)), n - m, n - m⟩ l := by
  have hrow := h.row
  obtain ⟨h1, h2, _⟩ := h
  refine ⟨by dsimp only; omega, Nat.le_refl _, by dsimp only; omega, ?_, fun e => by cases e⟩
  by_cases h0 : l = []
  · exact .inl h0
  · have := List.length_pos_iff.2 h0
    refine .inr ⟨a.block, m, ?_, hrow.lt, ?_⟩
    · dsimp only
      rw [if_neg (by omega), addr_off a h1, h2]
      simp
    · have := hrow.cells m l.length
      rw [hc, List.take_of_length_le (by rw [eB.length_flat]; simp [eB])] at this
      exact this

/-- []byte("..."), a literal's bytes. -/
theorem mark_ty {t : TypeId} {g : Nat} {s : Sl} {l : List UInt8} {K : Sl → World → Prop} (ht : u8SlT P t = true) (h : LitSl eB w g s l)
    (hK : ∀ w', IsSl eB w' s l → w.grownBy w' (some g) → K s w') : opTy P (convert t t s.val) Sl.val K w := by
  obtain ⟨e, h2, h3⟩ := u8SlT_spec ht
  obtain ⟨T, hT⟩ := h.blk
  have hsm := h.small
  have es := h.eq
  have hlt := (Array.getElem?_eq_some_iff.1 hT).1
  have hcs : (l.flatMap eB.cs).toArray.size = l.length := by rw [List.size_toArray, eB.length_flat]; simp [eB]
  let w3 : World := { w with heap := w.heap.setIfInBounds g (.cells (l.flatMap eB.cs).toArray T (l.length, l.length + 1)) }
  have hmk : (markStringish ⟨g, 0, none⟩).run P w = .ok () w3 := by
    unfold markStringish
    rw [Sem.run_bind]
    have : (shape g).run P w = .ok (some (T, l.length)) w := by
      simp [shape, Sem.run, World.shape?, hT]
      simpa using hcs
    rw [this, Result.andThen_ok]
    simp only [freeze, Sem.run, World.freeze]
    congr 1
    simp only [w3]
    rw [if_neg (by decide)]
    congr 1
    apply Array.ext_getElem?
    intro i
    rw [Array.getElem?_modify, Array.getElem?_setIfInBounds]
    by_cases hi : g = i
    · subst hi
      rw [if_pos rfl, hT, if_pos rfl, if_pos hlt]
      simp
    · rw [if_neg hi, if_neg hi]
  refine ⟨s, w3, ?_, hK w3 ?_ ⟨rfl, rfl, rfl, by simp [w3], fun k hk hne => ?_⟩⟩
  · rw [es]
    unfold convert
    rw [Sem.run_bind, run_und h2, Result.andThen_ok, Sem.run_bind, run_und h2, Result.andThen_ok]
    simp only [Sl.val]
    rw [Sem.run_bind, run_und h3, Result.andThen_ok]
    simp only [beq_self_eq_true]
    rw [Sem.run_bind, hmk, Result.andThen_ok, Sem.run_pure]
  · rw [es]
    refine ⟨rfl, Nat.le_refl _, by dsimp only; omega, .inr ⟨g, 0, rfl, by simpa [w3] using hlt, fun j v hj => ?_⟩, fun e => by cases e⟩
    simp only [World.cell?, w3, Array.getElem?_setIfInBounds, if_true, hlt, Nat.zero_add]
    simpa using hj
  · simp only [w3, Array.getElem?_setIfInBounds]
    rw [if_neg (fun e => hne (by rw [e]))]
end Go.Vc
