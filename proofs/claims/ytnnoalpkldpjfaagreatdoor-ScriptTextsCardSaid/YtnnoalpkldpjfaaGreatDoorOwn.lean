/-
  Slices of the call's own: append, make, literals, stores; strings and bytes. Of whatever program.
-/
import Derived.Test.YtnnoalpkldpjfaaGreatDoorMem
namespace Go.Vc
open Go.RowKit (Below)
variable {α β : Type} {P : Program} {w : World}

/-- A slice at the head of a block of the call's own (from block 'B' on), or one without room. -/
structure OwnAt (E : Enc α) (w : World) (B g : Nat) (s : Sl) (l : List α) (cur : Array Value) (T : TypeId) (fr : Nat × Nat) : Prop where
  a : s.a = some ⟨g, 0, none⟩
  base : B ≤ g
  blk : w.heap[g]? = some (.cells cur T fr)
  fr : fr = (0, 0) ∨ cur.size ≤ fr.1
  len : s.len = l.length
  cap : s.len ≤ s.cap
  max : s.cap ≤ 9223372036854775807
  size : cur.size = s.cap * E.sz
  take : cur.toList.take (l.length * E.sz) = l.flatMap E.cs
structure OwnNo (s : Sl) (l : List α) : Prop where
  a : s.a = none
  len : s.len = 0
  cap : s.cap = 0
  nil : l = []
def OwnSl (E : Enc α) (w : World) (B : Nat) (s : Sl) (l : List α) : Prop := OwnNo s l ∨ ∃ g cur T fr, OwnAt E w B g s l cur T fr

def Sl.blk (s : Sl) : Option Nat := s.a.map (·.block)
/-- What lies where the first one lay, or in a block that is new. -/
def NewOr (w : World) (s s' : Sl) : Prop := s'.blk = s.blk ∨ ∃ b, s'.blk = some b ∧ w.heap.size ≤ b
theorem NewOr.same (w : World) (s : Sl) : NewOr w s s := .inl rfl
theorem NewOr.mono {w w' : World} {s s' : Sl} (h : NewOr w' s s') (hs : w.heap.size ≤ w'.heap.size) : NewOr w s s' := h.imp id fun ⟨b, h1, h2⟩ => ⟨b, h1, by omega⟩
theorem NewOr.trans {w w' : World} {s s' s'' : Sl} (h : NewOr w s s') (k : NewOr w' s' s'') (hs : w.heap.size ≤ w'.heap.size) : NewOr w s s'' := by
  rcases k with k | ⟨b, k1, k2⟩
  · rcases h with h | ⟨b, h1, h2⟩
    · exact .inl (k.trans h)
    · exact .inr ⟨b, k.trans h1, h2⟩
  · exact .inr ⟨b, k1, by omega⟩
theorem NewOr.ne {w : World} {s s' : Sl} {b : Nat} (h : NewOr w s s') (hb : b < w.heap.size) (hs : s.blk ≠ some b) : s'.blk ≠ some b := by
  rcases h with h | ⟨c, h1, h2⟩
  · rw [h]; exact hs
  · rw [h1]; intro e; cases e; omega

theorem OwnSl.nil (E : Enc α) (w : World) (B : Nat) : OwnSl E w B Sl.nil [] := .inl ⟨rfl, rfl, rfl, rfl⟩
theorem OwnSl.len {E : Enc α} {B : Nat} {s : Sl} {l : List α} (h : OwnSl E w B s l) : s.len = l.length := by
  rcases h with h | ⟨g, cur, T, fr, h⟩
  · rw [h.len, h.nil]; rfl
  · exact h.len
theorem OwnSl.ge {E : Enc α} {B : Nat} {s : Sl} {l : List α} (h : OwnSl E w B s l) : ∀ r, s.blk = some r → B ≤ r := by
  intro r hr
  rcases h with h | ⟨g, cur, T, fr, h⟩
  · simp [Sl.blk, h.a] at hr
  · simp [Sl.blk, h.a] at hr
    have := h.base
    omega
theorem OwnSl.cells {E : Enc α} {B g : Nat} {s : Sl} {l : List α} {cur : Array Value} {T : TypeId} {fr : Nat × Nat} (h : OwnAt E w B g s l cur T fr) : CellsAt w g 0 (l.flatMap E.cs) := by
  intro j v hj
  rw [← h.take, List.getElem?_take] at hj
  split at hj
  · simp only [World.cell?, h.blk, Nat.zero_add]
    simpa using hj
  · cases hj
theorem OwnSl.is {E : Enc α} {B : Nat} {s : Sl} {l : List α} (h : OwnSl E w B s l) : IsSl E w s l := by
  rcases h with h | ⟨g, cur, T, fr, h⟩
  · exact ⟨by rw [h.len, h.nil]; rfl, by rw [h.len, h.cap]; exact Nat.le_refl _, by rw [h.cap]; decide, .inl h.nil, fun _ => h.cap⟩
  · exact ⟨h.len, h.cap, h.max, .inr ⟨g, 0, h.a, (Array.getElem?_eq_some_iff.1 h.blk).1, OwnSl.cells h⟩, fun e => by rw [h.a] at e; cases e⟩
theorem OwnSl.keep {E : Enc α} {B : Nat} {s : Sl} {l : List α} {w' : World} (h : OwnSl E w B s l) (hk : ∀ g, s.a = some ⟨g, 0, none⟩ → g < w.heap.size → w'.heap[g]? = w.heap[g]?) : OwnSl E w' B s l := by
  rcases h with h | ⟨g, cur, T, fr, h⟩
  · exact .inl h
  · exact .inr ⟨g, cur, T, fr, h.a, h.base, by rw [hk g h.a (Array.getElem?_eq_some_iff.1 h.blk).1]; exact h.blk, h.fr, h.len, h.cap, h.max, h.size, h.take⟩
theorem OwnSl.ext {E : Enc α} {B : Nat} {s : Sl} {l : List α} {w' : World} (h : OwnSl E w B s l) (hx : Ext w w') : OwnSl E w' B s l := h.keep fun g _ hg => hx.block g hg
theorem OwnSl.grown {E : Enc α} {B : Nat} {s : Sl} {l : List α} {w' : World} {row : Option Nat} (h : OwnSl E w B s l) (hg : w.grownBy w' row) (hr : ∀ g, s.a = some ⟨g, 0, none⟩ → some g ≠ row) : OwnSl E w' B s l :=
  h.keep fun g ha hlt => hg.block g hlt (hr g ha)
theorem OwnSl.mono {E : Enc α} {B B' : Nat} {s : Sl} {l : List α} (h : OwnSl E w B s l) (hB : B' ≤ B) : OwnSl E w B' s l := by
  rcases h with h | ⟨g, cur, T, fr, h⟩
  · exact .inl h
  · exact .inr ⟨g, cur, T, fr, h.a, Nat.le_trans hB h.base, h.blk, h.fr, h.len, h.cap, h.max, h.size, h.take⟩

/-- What 'append' and 'make' ask of a type. -/
def appOk (P : Program) (t e sz by_ : Nat) : Bool :=
  match P.underlying t with
  | some (.slice e') => Nat.beq e' e && match P.info? e with
    | some i => Nat.beq i.size sz && Nat.beq i.bytes by_ && match i.zero with
      | some z => Nat.beq z.cells.toList.length sz
      | none => false
    | none => false
  | _ => false
theorem appOk_spec {t e sz by_ : Nat} (h : appOk P t e sz by_ = true) : P.underlying t = some (.slice e) ∧ ∃ i z, P.info? e = some i ∧ i.size = sz ∧ i.bytes = by_ ∧ i.zero = some z ∧ z.cells.size = sz := by
  unfold appOk at h
  split at h
  case h_2 => cases h
  case h_1 e' he =>
    simp only [Bool.and_eq_true] at h
    obtain ⟨h1, h2⟩ := h
    have := Nat.eq_of_beq_eq_true h1
    subst this
    refine ⟨he, ?_⟩
    split at h2
    case h_2 => cases h2
    case h_1 i hi =>
      simp only [Bool.and_eq_true] at h2
      obtain ⟨⟨h3, h4⟩, h5⟩ := h2
      split at h5
      case h_2 => cases h5
      case h_1 z hz => exact ⟨i, z, hi, Nat.eq_of_beq_eq_true h3, Nat.eq_of_beq_eq_true h4, hz, by simpa using Nat.eq_of_beq_eq_true h5⟩

def elemT (P : Program) (t : TypeId) : TypeId := match P.underlying t with | some (.slice e) => e | _ => 0

theorem setCells_blk {g : Nat} {T : TypeId} {fr : Nat × Nat} : ∀ (vs : List Value) (o : Nat) (w : World) (cur : Array Value), w.heap[g]? = some (.cells cur T fr) → o + vs.length ≤ cur.size →
    (w.setCells g o vs).heap[g]? = some (.cells (cur.toList.take o ++ vs ++ cur.toList.drop (o + vs.length)).toArray T fr) ∧ Wr g w (w.setCells g o vs)
  | [], o, w, cur, h, _ => ⟨by simp [World.setCells, h], Wr.refl _ _⟩
  | v :: vs, o, w, cur, h, hl => by
    have hb : (w.setCell ⟨g, o, none⟩ v).heap[g]? = some (.cells (cur.setIfInBounds o v) T fr) := by
      simp only [World.setCell, Array.getElem?_modify]
      simp [h]
    obtain ⟨h1, h2⟩ := setCells_blk vs (o + 1) _ _ hb (by simp at hl ⊢; omega)
    refine ⟨?_, (wr_setCell w g o v).trans h2⟩
    simp only [World.setCells]
    rw [h1]
    congr 2
    have hlo : o < cur.toList.length := by simp at hl ⊢; omega
    have e1 : (cur.setIfInBounds o v).toList = cur.toList.set o v := by simp
    rw [e1]
    have e2 : (cur.toList.set o v).take (o + 1) = cur.toList.take o ++ [v] := by
      rw [List.take_succ_eq_append_getElem (by simpa using hlo), List.take_set_of_le (Nat.le_refl _)]
      simp
    have e3 : (cur.toList.set o v).drop (o + 1 + vs.length) = cur.toList.drop (o + (v :: vs).length) := by
      rw [List.drop_set_of_lt (by omega)]
      congr 1
      simp; omega
    rw [e2, e3]
    simp

theorem Wr.grown {g : Nat} {w' : World} (h : Wr g w w') : w.grownBy w' (some g) := grown_wr h

/-- The row's cells are of a type. -/
def RowT (w : World) (s : Sl) (e : TypeId) : Prop := ∀ g, s.a = some ⟨g, 0, none⟩ → ∃ cur fr, w.heap[g]? = some (.cells cur e fr)
theorem run_app {E : Enc α} {t e by_ tx ty : TypeId} {B : Nat} {s : Sl} {l ms : List α} {x : Value} (ht : appOk P t e E.sz by_ = true) (hown : OwnSl E w B s l)
    (hsrc : Src P E.sz tx x ms.length (ms.flatMap E.cs) w) (hbytes : (l.length + ms.length) * by_ ≤ 140737488355328) (hmax : l.length + ms.length ≤ 9223372036854775807) (hB : B ≤ w.heap.size) :
    ∃ s' w', (Builtin.append_ #[t, tx] ty #[s.val, x]).run P w = .ok s'.val w' ∧ OwnSl E w' B s' (l ++ ms) ∧ w.grownBy w' s.blk ∧ NewOr w s s' ∧ (RowT w s e → RowT w' s' e) := by
  obtain ⟨hu, i, z, hi, hsz, hby, hz, hzs⟩ := appOk_spec ht
  subst hby
  have hsrc' : Src P i.size tx x ms.length (ms.flatMap E.cs) w := by rw [hsz]; exact hsrc
  -- a new row
  have grow : ∀ (base : Option Addr) (cap : Nat), s = ⟨base, l.length, cap⟩ → cap < l.length + ms.length → (∀ w', w'.heap = w.heap → (Builtin.firstCells i.size l.length (.slice base l.length cap)).run P w' = .ok (l.flatMap E.cs).toArray w') →
      ∃ s' w', (Builtin.append_ #[t, tx] ty #[s.val, x]).run P w = .ok s'.val w' ∧ OwnSl E w' B s' (l ++ ms) ∧ w.grownBy w' s.blk ∧ NewOr w s s' ∧ (RowT w s e → RowT w' s' e) := by
    intro base cap hs hlt hold
    subst hs
    have hr := run_append_grow_src (P := P) w t tx ty e i z hu hi hz base l.length cap (l.flatMap E.cs) (hold _ rfl) x ms.length (ms.flatMap E.cs) hsrc' hlt (by omega) (growslice_fits hlt hbytes)
    have hge := grownCap_ge w (l.length + ms.length) cap e
    have hle := grownCap_le_maxLen w (l.length + ms.length) cap e (by simp only [maxLen]; omega)
    refine ⟨⟨some ⟨w.heap.size, 0, none⟩, l.length + ms.length, grownCap w (l.length + ms.length) cap e⟩, _, hr, .inr ⟨w.heap.size, _, e, (0, 0), rfl, hB, heap_alloc_new w.drew _, .inl rfl, by simp, hge, ?_, ?_, ?_⟩, ?_⟩
    · simp only [maxLen] at hle; omega
    · simp only [Array.size_append, List.size_toArray, size_zeroCells, hzs, List.length_append, E.length_flat]
      rw [← Nat.add_mul, ← Nat.add_mul]
      congr 1
      omega
    · rw [List.flatMap_append, ← E.length_flat (l ++ ms), List.flatMap_append]
      simp only [Array.toList_append]
      exact List.take_left
    · exact ⟨⟨rfl, rfl, rfl, by simp, fun k hk _ => Below.heap_alloc w.drew _ k hk⟩, .inr ⟨_, rfl, Nat.le_refl _⟩, fun _ g hg => by cases hg; exact ⟨_, _, heap_alloc_new w.drew _⟩⟩
  rcases hown with h | ⟨g, cur, T, fr, h⟩
  · obtain ⟨a, sl, sc⟩ := s
    obtain ⟨h0, h1, h2, h3⟩ := h
    subst h0 h1 h2 h3
    by_cases hm : ms = []
    · subst hm
      refine ⟨⟨none, 0, 0⟩, w, ?_, .inl ⟨rfl, rfl, rfl, rfl⟩, grown_refl _ _, .inl rfl, fun _ g hg => by cases hg⟩
      have hl : (Builtin.lenOf x).run P w = .ok 0 w := hsrc'.len w
      have hc : (Builtin.firstCells i.size 0 x).run P w = .ok #[] w := hsrc'.cells
      clear grow hsrc
      rcases hsrc'.kind with ⟨e', hk⟩ | hk <;>
        simp [Builtin.append_, Sl.val, run_underlying hu, run_underlying hk, sizeOf, typeInfo, hi, hl, hc]
    · refine grow none 0 rfl (by have := List.length_pos_iff.2 hm; simpa using this) fun w' _ => ?_
      simp [Builtin.firstCells]
  · have hs : s = ⟨some ⟨g, 0, none⟩, l.length, s.cap⟩ := by
      obtain ⟨a, sl, sc⟩ := s
      have h1 := h.a; have h2 := h.len
      simp at h1 h2
      subst h1 h2
      rfl
    by_cases hroom : l.length + ms.length ≤ s.cap
    · have hlen := E.length_flat l
      have hlm := E.length_flat ms
      have hfit : 0 + l.length * E.sz + (ms.flatMap E.cs).length ≤ cur.size := by
        rw [hlm, h.size, Nat.zero_add, ← Nat.add_mul]; exact Nat.mul_le_mul_right _ hroom
      have hcell : ∀ j, j < (ms.flatMap E.cs).length → (w.cell? ⟨g, 0 + l.length * i.size + j, none⟩).isSome = true := fun j hj => by
        rw [hsz]
        have hlt : 0 + l.length * E.sz + j < cur.size := by omega
        simp only [World.cell?, h.blk]
        simp at hlt ⊢
        omega
      have hfro : ∀ j, j < (ms.flatMap E.cs).length → w.frozen? ⟨g, 0 + l.length * i.size + j, none⟩ = false := fun j hj => by
        rw [hsz]
        obtain ⟨f1, f2⟩ := fr
        have hlt : 0 + l.length * E.sz + j < cur.size := by omega
        have := h.fr
        simp only [World.frozen?, h.blk]
        rcases this with e' | e'
        · cases e'; simp
        · have : ¬ (f1 ≤ 0 + l.length * E.sz + j) := by simp at e'; omega
          simp only [this, decide_false, Bool.false_and]
      have hr := run_append_room_src (P := P) w t tx ty e i hu hi g 0 l.length s.cap x ms.length (ms.flatMap E.cs) hsrc' hroom hcell hfro
      rw [hsz, Nat.zero_add] at hr
      rw [Nat.zero_add] at hfit
      obtain ⟨hb, hw⟩ := setCells_blk (ms.flatMap E.cs) (l.length * E.sz) w cur h.blk hfit
      refine ⟨⟨some ⟨g, 0, none⟩, l.length + ms.length, s.cap⟩, _, by rw [hs]; exact hr, .inr ⟨g, _, T, fr, rfl, h.base, hb, ?_, by simp, hroom, h.max, ?_, ?_⟩, by rw [hs]; exact grown_wr hw, by rw [hs]; exact .inl rfl, fun hT g' hg' => ?_⟩
      · refine h.fr.imp id fun hx => ?_
        simp only [List.size_toArray, List.length_append, List.length_take, List.length_drop, Array.length_toList]
        omega
      · rw [← h.size]
        simp only [List.size_toArray, List.length_append, List.length_take, List.length_drop, Array.length_toList]
        omega
      · rw [h.take]
        rw [show (l ++ ms).length * E.sz = (l.flatMap E.cs ++ ms.flatMap E.cs).length from by simp [hlen, hlm, Nat.add_mul], List.flatMap_append]
        exact List.take_left
      · cases hg'
        obtain ⟨c1, f1, h1⟩ := hT g h.a
        rw [h.blk] at h1
        cases h1
        exact ⟨_, _, hb⟩
    · refine grow _ _ hs (by omega) fun w' hw' => ?_
      have hc : CellsAt w' g 0 (l.flatMap E.cs) := (OwnSl.cells h).same (by rw [hw'])
      have := run_ldCells (P := P) (w := w') (b := g) (o := 0) (l.flatMap E.cs) 0 #[] (by simpa using hc)
      simp only [E.length_flat] at this
      simp only [Builtin.firstCells, loadCells, hsz]
      rw [this]
      simp

/-- What a slice that reads as a list gives to an append. -/
theorem IsSl.src {E : Enc α} {tx e' : TypeId} {x : Sl} {ms : List α} (hk : P.underlying tx = some (.slice e')) (h : IsSl E w x ms) : Src P E.sz tx x.val ms.length (ms.flatMap E.cs) w := by
  obtain ⟨a, ln, cp⟩ := x
  have hl := h.len
  simp at hl
  subst hl
  rcases h.mem with h0 | ⟨b, o, ha, hb, hc⟩
  · subst h0
    cases a with
    | none => exact Src.ofNil w hk cp
    | some a => exact Src.ofSlice w hk a 0 cp [] (by simp) (fun j u hj => by simp at hj) (fun u hu => by simp at hu)
  · simp at ha
    subst ha
    exact Src.ofSlice w hk _ _ cp _ (by rw [E.length_flat]) (fun j u hj => by rw [addr_add]; exact hc j u hj) (E.flat_one _)

/-- **append(s, xs...)**, s a slice of the call's own. -/
theorem app_ty {E : Enc α} {t tx ty : TypeId} (by_ : Nat) {B : Nat} {s x : Sl} {l ms : List α} {K : Sl → World → Prop} (ht : appOk P t (elemT P t) E.sz by_ = true) (hx : isSlT P tx = true) (hown : OwnSl E w B s l) (hs : IsSl E w x ms)
    (hbytes : (l.length + ms.length) * by_ ≤ 140737488355328) (hB : B ≤ w.heap.size) (hby : 0 < by_)
    (hK : ∀ s' w', OwnSl E w' B s' (l ++ ms) → w.grownBy w' s.blk → K s' w') : opTy P (Builtin.append_ #[t, tx] ty #[s.val, x.val]) Sl.val K w := by
  unfold isSlT at hx
  split at hx
  case h_2 => cases hx
  case h_1 e' he' =>
    have hm : l.length + ms.length ≤ 140737488355328 := Nat.le_trans (Nat.le_mul_of_pos_right _ hby) hbytes
    obtain ⟨s', w', h1, h2, h3, _⟩ := run_app (ty := ty) ht hown (hs.src he') hbytes (by omega) hB
    exact ⟨s', w', h1, hK s' w' h2 h3⟩
/-- The same, and where the result lies. -/
theorem app_ty2 {E : Enc α} {t tx ty : TypeId} (by_ : Nat) {B : Nat} {s x : Sl} {l ms : List α} {K : Sl → World → Prop} (ht : appOk P t (elemT P t) E.sz by_ = true) (hx : isSlT P tx = true) (hown : OwnSl E w B s l) (hs : IsSl E w x ms)
    (hbytes : (l.length + ms.length) * by_ ≤ 140737488355328) (hB : B ≤ w.heap.size) (hby : 0 < by_)
    (hK : ∀ s' w', OwnSl E w' B s' (l ++ ms) → w.grownBy w' s.blk → NewOr w s s' → K s' w') : opTy P (Builtin.append_ #[t, tx] ty #[s.val, x.val]) Sl.val K w := by
  unfold isSlT at hx
  split at hx
  case h_2 => cases hx
  case h_1 e' he' =>
    have hm : l.length + ms.length ≤ 140737488355328 := Nat.le_trans (Nat.le_mul_of_pos_right _ hby) hbytes
    obtain ⟨s', w', h1, h2, h3, h4, _⟩ := run_app (ty := ty) ht hown (hs.src he') hbytes (by omega) hB
    exact ⟨s', w', h1, hK s' w' h2 h3 h4⟩

/-- The same, over a row whose cells are of the slice's element type. -/
theorem app_ty3 {E : Enc α} {t tx ty : TypeId} (by_ : Nat) {B : Nat} {s x : Sl} {l ms : List α} {K : Sl → World → Prop} (ht : appOk P t (elemT P t) E.sz by_ = true) (hx : isSlT P tx = true) (hown : OwnSl E w B s l) (hT : RowT w s (elemT P t)) (hs : IsSl E w x ms)
    (hbytes : (l.length + ms.length) * by_ ≤ 140737488355328) (hB : B ≤ w.heap.size) (hby : 0 < by_)
    (hK : ∀ s' w', OwnSl E w' B s' (l ++ ms) → RowT w' s' (elemT P t) → w.grownBy w' s.blk → NewOr w s s' → K s' w') : opTy P (Builtin.append_ #[t, tx] ty #[s.val, x.val]) Sl.val K w := by
  unfold isSlT at hx
  split at hx
  case h_2 => cases hx
  case h_1 e' he' =>
    have hm : l.length + ms.length ≤ 140737488355328 := Nat.le_trans (Nat.le_mul_of_pos_right _ hby) hbytes
    obtain ⟨s', w', h1, h2, h3, h4, h5⟩ := run_app (ty := ty) ht hown (hs.src he') hbytes (by omega) hB
    exact ⟨s', w', h1, hK s' w' h2 (h5 hT) h3 h4⟩

/-- append(b, s...), s a text. -/
theorem app_str {t tx ty : TypeId} (by_ : Nat) {B : Nat} {s : Sl} {l ms : List UInt8} {K : Sl → World → Prop} (ht : appOk P t (elemT P t) eB.sz by_ = true) (hx : (match P.underlying tx with | some .string => true | _ => false) = true) (hown : OwnSl eB w B s l)
    (hbytes : (l.length + ms.length) * by_ ≤ 140737488355328) (hB : B ≤ w.heap.size) (hby : 0 < by_)
    (hK : ∀ s' w', OwnSl eB w' B s' (l ++ ms) → w.grownBy w' s.blk → K s' w') : opTy P (Builtin.append_ #[t, tx] ty #[s.val, sval ms]) Sl.val K w := by
  split at hx
  case h_2 => cases hx
  case h_1 he' =>
    have hm : l.length + ms.length ≤ 140737488355328 := Nat.le_trans (Nat.le_mul_of_pos_right _ hby) hbytes
    have hsrc : Src P eB.sz tx (sval ms) ms.length (ms.flatMap eB.cs) w := by
      have := Src.ofString (P := P) w he' ⟨⟨ms⟩⟩
      have e1 : byteCells ⟨⟨ms⟩⟩ = ms.flatMap eB.cs := by
        simp only [byteCells, eB]
        clear this hm hbytes hK
        induction ms with
        | nil => rfl
        | cons m ms ih => simpa using ih
      rw [e1] at this
      exact this
    obtain ⟨s', w', h1, h2, h3, _⟩ := run_app (ty := ty) ht hown hsrc hbytes (by omega) hB
    exact ⟨s', w', h1, hK s' w' h2 h3⟩

theorem app_str3 {t tx ty : TypeId} (by_ : Nat) {B : Nat} {s : Sl} {l ms : List UInt8} {K : Sl → World → Prop} (ht : appOk P t (elemT P t) eB.sz by_ = true) (hx : (match P.underlying tx with | some .string => true | _ => false) = true) (hown : OwnSl eB w B s l) (hT : RowT w s (elemT P t))
    (hbytes : (l.length + ms.length) * by_ ≤ 140737488355328) (hB : B ≤ w.heap.size) (hby : 0 < by_)
    (hK : ∀ s' w', OwnSl eB w' B s' (l ++ ms) → RowT w' s' (elemT P t) → w.grownBy w' s.blk → NewOr w s s' → K s' w') : opTy P (Builtin.append_ #[t, tx] ty #[s.val, sval ms]) Sl.val K w := by
  split at hx
  case h_2 => cases hx
  case h_1 he' =>
    have hm : l.length + ms.length ≤ 140737488355328 := Nat.le_trans (Nat.le_mul_of_pos_right _ hby) hbytes
    have hsrc : Src P eB.sz tx (sval ms) ms.length (ms.flatMap eB.cs) w := by
      have := Src.ofString (P := P) w he' ⟨⟨ms⟩⟩
      have e1 : byteCells ⟨⟨ms⟩⟩ = ms.flatMap eB.cs := by
        simp only [byteCells, eB]
        clear this hm hbytes hK
        induction ms with
        | nil => rfl
        | cons m ms ih => simpa using ih
      rw [e1] at this
      exact this
    obtain ⟨s', w', h1, h2, h3, h4, h5⟩ := run_app (ty := ty) ht hown hsrc hbytes (by omega) hB
    exact ⟨s', w', h1, hK s' w' h2 (h5 hT) h3 h4⟩

/-- A literal slice. -/
theorem lit_ty {E : Enc α} {t : TypeId} (by_ : Nat) {n : Nat} {parts : Array (Nat × Value)} {xs : List α} {K : Sl → World → Prop} (B : Nat) (ht : appOk P t (elemT P t) E.sz by_ = true) (hn : xs.length = n) (hle : n * E.sz ≤ 1024)
    (hr : ∀ w : World, (Instr.buildSlice t n parts).run P w = .ok (.slice (some ⟨w.heap.size, 0, none⟩) n n) (w.alloc (.cells ⟨xs.flatMap E.cs⟩ (elemT P t)))) (hB : B ≤ w.heap.size)
    (hK : ∀ s w', s.a = some ⟨w.heap.size, 0, none⟩ → OwnSl E w' B s xs → Ext w w' → K s w') : opTy P (Instr.buildSlice t n parts) Sl.val K w := by
  obtain ⟨hu, i, z, hi, hsz, hby, hz, hzs⟩ := appOk_spec ht
  subst hn
  have hp := E.pos
  have hsm : xs.length ≤ 1024 := Nat.le_trans (Nat.le_mul_of_pos_right _ hp) hle
  refine ⟨⟨some ⟨w.heap.size, 0, none⟩, xs.length, xs.length⟩, _, hr w, hK _ _ rfl (.inr ⟨w.heap.size, _, elemT P t, (0, 0), rfl, hB, heap_alloc_new _ _, .inl rfl, rfl, Nat.le_refl _, ?_, ?_, ?_⟩) (Ext.alloc _ _)⟩
  · simp; omega
  · simp [E.length_flat]
  · show List.take _ (xs.flatMap E.cs) = _
    rw [← E.length_flat]; exact List.take_length


/-! ### Texts and bytes -/
def strT (P : Program) (t : TypeId) : Bool := match P.underlying t with | some .string => true | _ => false
def u8SlT (P : Program) (t : TypeId) : Bool := match P.underlying t with | some (.slice e) => (match P.underlying e with | some (.int .u8) => true | _ => false) | _ => false
theorem strT_spec {t : TypeId} (h : strT P t = true) : P.underlying t = some .string := by
  unfold strT at h; split at h
  · assumption
  · cases h
theorem u8SlT_spec {t : TypeId} (h : u8SlT P t = true) : ∃ e, P.underlying t = some (.slice e) ∧ P.underlying e = some (.int .u8) := by
  unfold u8SlT at h; split at h
  · rename_i e he
    split at h
    · exact ⟨e, he, by assumption⟩
    · cases h
  · cases h

theorem flat_eB (l : List UInt8) : l.flatMap eB.cs = l.map fun b => Value.int .u8 (b.toNat : Int) := by
  induction l with
  | nil => rfl
  | cons b l ih => rw [List.flatMap_cons, ih]; rfl

/-- []byte(s). -/
theorem str2b_ty {src t : TypeId} {l : List UInt8} {K : Sl → World → Prop} (hs : strT P src = true) (ht : u8SlT P t = true) (hl : l.length ≤ 4611686018427387904)
    (hK : ∀ s w', OwnSl eB w' w.heap.size s l → Ext w w' → K s w') : opTy P (convert src t (sval l)) Sl.val K w := by
  have h1 := strT_spec hs
  obtain ⟨e, h2, h3⟩ := u8SlT_spec ht
  let cap := (Question.appendCap l.length 0 e).cut (w.tape w.drawn (Question.appendCap l.length 0 e))
  have hcap : cap = l.length + (w.tape w.drawn (Question.appendCap l.length 0 e)) % (2 ^ 63 - l.length) := rfl
  have hlt : (w.tape w.drawn (Question.appendCap l.length 0 e)) % (2 ^ 63 - l.length) < 2 ^ 63 - l.length := Nat.mod_lt _ (by omega)
  let cur : Array Value := (l.map fun b => Value.int .u8 (b.toNat : Int)).toArray ++ Array.replicate (cap - l.length) (.int .u8 0)
  have hcur : cur.size = cap := by simp [cur]; omega
  let w1 : World := { w with drawn := w.drawn + 1 }
  let w2 : World := w1.alloc (.cells cur e)
  let w3 : World := { w2 with heap := w.heap.push (.cells cur e (cap, cap + 1)) }
  have hrun : (convert src t (sval l)).run P w = .ok (.slice (some ⟨w.heap.size, 0, none⟩) l.length cap) w3 := by
    have hc : Conv.stringToBytes e ⟨⟨l⟩⟩ = (do
        let cap ← choose (.appendCap l.length 0 e)
        let a ← newRow e ((l.map fun b => Value.int .u8 (b.toNat : Int)).toArray ++ Array.replicate (cap - l.length) (.int .u8 0))
        markStringish a
        pure (.slice (some a) l.length cap)) := by
      unfold Conv.stringToBytes
      have e1 : (⟨⟨l⟩⟩ : ByteArray).size = l.length := rfl
      have e2 : ((⟨⟨l⟩⟩ : ByteArray).data.map fun b => Value.int .u8 (b.toNat : Int)) = (l.map fun b => Value.int .u8 (b.toNat : Int)).toArray := by simp
      simp only [e1]
      congr 1
      funext c
      rw [e2]
    unfold convert sval
    rw [Sem.run_bind, run_und h1, Result.andThen_ok, Sem.run_bind, run_und h2, Result.andThen_ok]
    simp only
    rw [Sem.run_bind, run_und h3, Result.andThen_ok]
    simp only
    rw [hc, Sem.run_bind]
    have hch : (choose (.appendCap l.length 0 e)).run P w = .ok cap w1 := by simp [choose, Sem.run, Question.forced, cap, w1]
    rw [hch, Result.andThen_ok, Sem.run_bind]
    have hnr : (newRow e cur).run P w1 = .ok ⟨w.heap.size, 0, none⟩ w2 := rfl
    show ((newRow e cur).run P w1).andThen _ = _
    rw [hnr, Result.andThen_ok, Sem.run_bind]
    have hget : w2.heap[w.heap.size]? = some (.cells cur e (0, 0)) := by
      have := heap_alloc_new w1 (.cells cur e)
      simpa [w2, w1] using this
    have hmk : (markStringish ⟨w.heap.size, 0, none⟩).run P w2 = .ok () w3 := by
      unfold markStringish
      rw [Sem.run_bind]
      have : (shape w.heap.size).run P w2 = .ok (some (e, cap)) w2 := by
        simp [shape, Sem.run, World.shape?, hget, hcur]
      rw [this, Result.andThen_ok]
      simp only [freeze, Sem.run, World.freeze]
      congr 1
      simp only [w3, w2, w1]
      rw [if_neg (by decide)]
      congr 1
      apply Array.ext_getElem?
      intro i
      rw [Array.getElem?_modify]
      by_cases hi : w.heap.size = i
      · subst hi
        rw [if_pos rfl, hget]
        simp
      · rw [if_neg hi]
        show (w.heap.push _)[i]? = (w.heap.push _)[i]?
        rw [Array.getElem?_push, Array.getElem?_push, if_neg (Ne.symm hi), if_neg (Ne.symm hi)]
    rw [hmk, Result.andThen_ok, Sem.run_pure]
  refine ⟨⟨some ⟨w.heap.size, 0, none⟩, l.length, cap⟩, w3, hrun, hK _ _ (.inr ⟨w.heap.size, cur, e, (cap, cap + 1), rfl, Nat.le_refl _, by simp [w3], .inr (by omega), rfl, by simp only; omega, by simp only; omega, by simp [hcur, eB], ?_⟩) ?_⟩
  · rw [flat_eB]
    simp [cur, eB]
  · exact ⟨rfl, rfl, rfl, by simp [w3], fun k hk => by simp [w3, Array.getElem?_push]; omega⟩

/-- string(b). -/
theorem b2str_rd {src t : TypeId} {s : Sl} {l : List UInt8} {K : List UInt8 → Prop} (hs : u8SlT P src = true) (ht : strT P t = true) (h : IsSl eB w s l) (hK : K l) : opRd P (convert src t s.val) sval K w := by
  obtain ⟨e, h2, h3⟩ := u8SlT_spec hs
  have h1 := strT_spec ht
  refine ⟨l, ?_, hK⟩
  obtain ⟨a, ln, cp⟩ := s
  have hl : ln = l.length := h.len
  subst hl
  have nilc : l = [] → (convert src t (Sl.val ⟨a, l.length, cp⟩)).run P w = .ok (sval l) w := by
    intro h0
    subst h0
    cases a with
    | none => exact run_convert_bytes_nil w src e h2 h3 _ _ _ h1
    | some a =>
      rw [show Sl.val ⟨some a, [].length, cp⟩ = .slice (some a) 0 cp from rfl, run_convert_bytes_string w src t e _ 0 cp h2 h3 h1, run_bytesToString w _ 0 cp [] (by simp [loadCells, loadCellsFrom])]
      rfl
  rcases h.mem with h0 | ⟨b, o, ha, hb, hc⟩
  · exact nilc h0
  · simp at ha
    subst ha
    have := run_convert_bytes_arg (P := P) w src e h2 h3 b o l.length cp (l.map fun b => (b.toNat : Int)) (by simp) (fun i hi => by
      have := hc i (.int .u8 (l[i].toNat : Int)) (by rw [flat_eB]; simp [hi])
      rw [this]
      simp [List.getD, hi]) t h1
    rw [show Sl.val ⟨some ⟨b, o, none⟩, l.length, cp⟩ = .slice (some ⟨b, o, none⟩) l.length cp from rfl, this]
    congr 2
    simp only [strOfNums]
    congr 2
    rw [List.map_map]
    conv => rhs; rw [← List.map_id l]
    apply List.map_congr_left
    intro x _
    simp

end Go.Vc
