/-
  strings.Builder: what its methods do.
-/
import Derived.Test.YtlapfdcocakloaaDoorEase
import Derived.Test.YtlapfdcocakloaaDoorFns
import Derived.Lib.Builder
import Derived.Lib.UnsafeStr
import Derived.Laws.Externs
set_option maxRecDepth 20000
set_option linter.unusedVariables false
namespace Go.Vc
open Go.RowKit (Below)
variable {P : Program} {w w' : World} {a : Addr} {T : TypeId} {cs : List Value}
/-- A variable behind a pointer, of a type. -/
def ObjT (w : World) (a : Addr) (T : TypeId) (cs : List Value) : Prop := a.spot = none ∧ a.off = 0 ∧ w.heap[a.block]? = some (.cells cs.toArray T (0, 0))
theorem ObjT.obj (h : ObjT w a T cs) : Obj w a cs := ⟨h.1, h.2.1, T, h.2.2⟩
theorem ObjT.ty {T' : TypeId} (h : ObjT w a T cs) (e : T = T') : ObjT w a T' cs := e ▸ h
theorem ObjT.keep (h : ObjT w a T cs) (hk : w'.heap[a.block]? = w.heap[a.block]?) : ObjT w' a T cs := ⟨h.1, h.2.1, by rw [hk]; exact h.2.2⟩
theorem ObjT.ext (h : ObjT w a T cs) (hx : Ext w w') : ObjT w' a T cs := h.keep (hx.block _ h.obj.lt)
theorem ObjT.shape (h : ObjT w a T cs) : w.shape? a.block = some (T, cs.length) := by
  unfold World.shape?
  rw [h.2.2]
  simp
theorem alloc_tyT {t : TypeId} {z : Value} {K : Addr → World → Prop} (hz : (P.info? t).bind (·.zero) = some z) (hK : ∀ a w', a.block = w.heap.size → Ext w w' → ObjT w' a t z.cells.toList → K a w') :
    opTy P (Instr.alloc t true (.tuple #[])) pav K w :=
  ⟨⟨w.heap.size, 0, none⟩, _, run_alloc hz, hK _ _ rfl (Ext.alloc _ _) ⟨rfl, rfl, by rw [heap_alloc_new]⟩⟩
theorem st_objT {t : TypeId} {off : Nat} {v : Value} {K : World → Prop} (ht : sizeT P t = some 1) (h : ObjT w a T cs) (ho : oneV v = true) (hl : off < cs.length)
    (hK : ∀ w', Wr a.block w w' → ObjT w' a T (cs.set off v) → K w') : opUn P (Instr.storeAt t (.pointer (some (a.add off))) v) K w := by
  obtain ⟨h1, h2, hT⟩ := h
  have hc : v.cells.toList = [v] := by cases v <;> simp_all [Value.cells, oneV]
  obtain ⟨w', hr, hw, hb⟩ := run_store_own (P := P) (t := t) (off := off) (r := cs.set off v) hT ht (by rw [hc]; rfl) (by rw [hc]; simp [allOne, ho]) (by
    rw [hc]
    clear hT hK
    induction cs generalizing off with
    | nil => simp at hl
    | cons c cs ih =>
      cases off with
      | zero => cases cs <;> simp [wrV]
      | succ n => simp only [wrV, ih (by simpa using hl), List.set_cons_succ])
  refine ⟨w', ?_, hK w' hw ⟨h1, h2, hb⟩⟩
  rw [addr_off a h1, h2, Nat.zero_add]
  exact hr
theorem RowT.keep {s : Sl} {e : TypeId} (h : RowT w s e) (hk : ∀ g, s.blk = some g → g < w.heap.size → w'.heap[g]? = w.heap[g]?) : RowT w' s e := fun g hg => by
  obtain ⟨cur, fr, hc⟩ := h g hg
  exact ⟨cur, fr, by rw [hk g (by simp [Sl.blk, hg]) (Array.getElem?_eq_some_iff.1 hc).1]; exact hc⟩
theorem RowT.ext {s : Sl} {e : TypeId} (h : RowT w s e) (hx : Ext w w') : RowT w' s e := h.keep fun g _ hg => hx.block g hg
theorem RowT.other {s : Sl} {e : TypeId} {row : Option Nat} (h : RowT w s e) (hg : w.grownBy w' row) (hr : ∀ g, s.blk = some g → some g ≠ row) : RowT w' s e := h.keep fun g h1 h2 => hg.block g h2 (hr g h1)
theorem RowT.nil (w : World) (e : TypeId) : RowT w Sl.nil e := fun g h => by cases h
theorem app_ty4 {α : Type} {E : Enc α} {t tx ty e : TypeId} (by_ : Nat) {B : Nat} {s x : Sl} {l ms : List α} {K : Sl → World → Prop} (he : elemT P t = e) (ht : appOk P t (elemT P t) E.sz by_ = true) (hx : isSlT P tx = true) (hown : OwnSl E w B s l) (hT : RowT w s e) (hs : IsSl E w x ms)
    (hbytes : (l.length + ms.length) * by_ ≤ 140737488355328) (hB : B ≤ w.heap.size) (hby : 0 < by_)
    (hK : ∀ s' w', OwnSl E w' B s' (l ++ ms) → RowT w' s' e → w.grownBy w' s.blk → NewOr w s s' → K s' w') : opTy P (Builtin.append_ #[t, tx] ty #[s.val, x.val]) Sl.val K w := by
  subst he
  exact app_ty3 by_ ht hx hown hT hs hbytes hB hby hK
theorem app_str4 {t tx ty e : TypeId} (by_ : Nat) {B : Nat} {s : Sl} {l ms : List UInt8} {K : Sl → World → Prop} (he : elemT P t = e) (ht : appOk P t (elemT P t) eB.sz by_ = true) (hx : (match P.underlying tx with | some .string => true | _ => false) = true) (hown : OwnSl eB w B s l) (hT : RowT w s e)
    (hbytes : (l.length + ms.length) * by_ ≤ 140737488355328) (hB : B ≤ w.heap.size) (hby : 0 < by_)
    (hK : ∀ s' w', OwnSl eB w' B s' (l ++ ms) → RowT w' s' e → w.grownBy w' s.blk → NewOr w s s' → K s' w') : opTy P (Builtin.append_ #[t, tx] ty #[s.val, sval ms]) Sl.val K w := by
  subst he
  exact app_str3 by_ ht hx hown hT hbytes hB hby hK
theorem below_gr {B : Nat} {row : Option Nat} (hB : B ≤ w.heap.size) (hg : w.grownBy w' row) (hr : ∀ r, row = some r → B ≤ r) : Below B w w' := below_grown (Below.refl _ _) hB hg hr
theorem below_ex {B : Nat} (hB : B ≤ w.heap.size) (hx : Ext w w') : Below B w w' := hx.mono hB
theorem kp_below {B b : Nat} {X : Prop} (h : Below B w w') (hb : b < B) (x : X) : kp b w w' X := ⟨fun _ => h.block b hb, x⟩
theorem freeze_block {g n k : Nat} (h : k ≠ g) : (w.freeze ⟨g, 0, none⟩ n).heap[k]? = w.heap[k]? := by
  unfold World.freeze
  split
  · rfl
  · dsimp only
    rw [Array.getElem?_modify, if_neg (Ne.symm h)]
theorem below_freeze {B g n : Nat} (h : B ≤ g) : Below B w (w.freeze ⟨g, 0, none⟩ n) := by
  have hb : ∀ k, k < B → (w.freeze ⟨g, 0, none⟩ n).heap[k]? = w.heap[k]? := fun k hk => freeze_block (by omega)
  unfold World.freeze at hb ⊢
  split
  · exact Below.refl _ _
  · rename_i hn
    rw [if_neg hn] at hb
    exact ⟨rfl, rfl, rfl, by simp, hb⟩
theorem Ext.below {w0 : World} {B : Nat} (hx : Ext w0 w) (h : Below B w w') (hB : w0.heap.size ≤ B) : Ext w0 w' := Below.trans hx (h.mono hB)
end Go.Vc
namespace Go.Chg
open Go.Vc
open Go.RowKit (Below)
variable {w : World} {a : Addr} {l : List UInt8}
noncomputable def fnParam (f j : Nat) : Nat := match Pr.funcs[f]? with | some fn => (match fn.params[j]? with | some t => t | none => 0) | none => 0
noncomputable def tid_u8 : Nat := fnParam fid_strings_Builder_WriteByte 1
noncomputable def tid_bld : Nat := match Pr.underlying (fnParam fid_strings_Builder_WriteByte 0) with | some (.pointer t) => t | _ => 0
theorem bld_info : ∃ j, Pr.info? tid_bld = some j ∧ j.size ≠ 0 := by
  have h : (Pr.info? tid_bld).any (fun j => j.size != 0) = true := by kernel_rfl
  cases hi : Pr.info? tid_bld with
  | none => rw [hi] at h; cases h
  | some j =>
    rw [hi] at h
    exact ⟨j, rfl, by simpa using h⟩
/-- A builder in memory, and what it holds; its row is another block than n. -/
def Bld (w : World) (a : Addr) (n : Nat) (l : List UInt8) : Prop :=
  ∃ p s, ObjT w a tid_bld [.pointer p, s.val] ∧ (p = none ∨ p = some a) ∧ OwnSl eB w (a.block + 1) s l ∧ RowT w s tid_u8 ∧ ∀ k, s.blk = some k → k ≠ n
/-- What a builder's method may turn. -/
structure Up (a : Addr) (n : Nat) (w w' : World) : Prop where
  low : Below a.block w w'
  it : n ≠ a.block → n < w.heap.size → w'.heap[n]? = w.heap[n]?
  size : w.heap.size ≤ w'.heap.size
variable {n : Nat}
theorem Up.gr {w1 w2 : World} {row : Option Nat} (h : Up a n w w1) (hlt : a.block < w.heap.size) (hg : w1.grownBy w2 row) (hr : ∀ r, row = some r → a.block ≤ r ∧ (n ≠ a.block → r ≠ n)) : Up a n w w2 :=
  ⟨h.low.trans (below_gr (by have := h.size; omega) hg fun r e => (hr r e).1), fun h1 h2 => by
    rw [hg.block n (by have := h.size; omega) (fun e => (hr n e.symm).2 h1 rfl)]
    exact h.it h1 h2, Nat.le_trans h.size hg.size⟩
theorem Up.refl : Up a n w w := ⟨Below.refl _ _, fun _ _ => rfl, Nat.le_refl _⟩
theorem Bld.lt (h : Bld w a n l) : a.block < w.heap.size := by
  obtain ⟨p, s, ho, _⟩ := h
  exact ho.obj.lt
theorem Bld.ext {w' : World} (h : Bld w a n l) (hx : Ext w w') : Bld w' a n l := by
  obtain ⟨p, s, ho, hp, hs, hT, hn⟩ := h
  exact ⟨p, s, ho.ext hx, hp, hs.ext hx, hT.ext hx, hn⟩
theorem Bld.track {m : Nat} (h : Bld w a n l) (hm : w.heap.size ≤ m) : Bld w a m l := by
  obtain ⟨p, s, ho, hp, hs, hT, hn⟩ := h
  exact ⟨p, s, ho, hp, hs, hT, fun k hk => by have := hs.lt k hk; omega⟩
/-- Only the tracked block has turned. -/
theorem Bld.wr {w' : World} (h : Bld w a n l) (hw : Wr n w w') (hn : n ≠ a.block) : Bld w' a n l := by
  obtain ⟨p, s, ho, hp, hs, hT, hb⟩ := h
  exact ⟨p, s, ho.keep (hw.block _ (Ne.symm hn)), hp, hs.grownB (grown_wr hw) (fun k hk e => hb k hk (Option.some.inj e)), hT.other (grown_wr hw) (fun k hk e => hb k hk (Option.some.inj e)), hb⟩
theorem Bld.zero {w' : World} (h : ObjT w' a tid_bld [.pointer none, Sl.nil.val]) : Bld w' a n [] := ⟨none, Sl.nil, h, .inl rfl, .nil _ _ _, .nil _ _, fun k e => by cases e⟩
end Go.Chg
