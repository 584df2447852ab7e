/-
  What lies in memory, and a law for each word of 'Prim': of whatever program.
-/
import Derived.Deep.AppendSrc
import Derived.Laws.BytesArg
import Derived.Laws.Concat
import Derived.Laws.Slices
import Derived.Laws.CopyRow
import Derived.Test.YtnnoalpkldpjfaaGreatDoorPrim
namespace Go.Vc
open Go.RowKit (Below)

/-- Nothing that was there has turned. -/
abbrev Ext (w w' : World) : Prop := Below w.heap.size w w'

theorem Ext.rfl' (w : World) : Ext w w := Below.refl _ _
theorem Ext.trans' {a b c : World} (h : Ext a b) (k : Ext b c) : Ext a c := Below.trans h (k.mono h.size)
theorem Ext.alloc (w : World) (o : Obj) : Ext w (w.alloc o) := (Below.refl _ _).alloc (Nat.le_refl _) o
theorem Ext.drewOne (w : World) : Ext w (drewOne w) := ⟨rfl, rfl, rfl, Nat.le_refl _, fun _ _ => rfl⟩
theorem Ext.new {b : Nat} {w w' : World} (h : New b w w') : Ext w w' := by
  obtain ⟨_, o, rfl⟩ := h
  exact Ext.alloc w o
theorem New.lt {b : Nat} {w w' : World} (h : New b w w') : b < w'.heap.size := by
  obtain ⟨rfl, o, rfl⟩ := h
  simp
theorem Below.wr {B b : Nat} {u w w' : World} (h : Below B u w) (hb : B ≤ b) (k : Wr b w w') : Below B u w' :=
  h.trans ⟨k.os, k.tape, k.output, Nat.le_of_eq k.size.symm, fun i hi => k.block i (by omega)⟩
theorem Below.new {B b : Nat} {u w w' : World} (h : Below B u w) (hB : B ≤ w.heap.size) (k : New b w w') : Below B u w' := h.trans ((Ext.new k).mono hB)
theorem Below.drewOne {B : Nat} {u w : World} (h : Below B u w) : Below B u (Vc.drewOne w) := h.trans ⟨rfl, rfl, rfl, Nat.le_refl _, fun _ _ => rfl⟩
theorem Below.ext {B : Nat} {u w w' : World} (h : Below B u w) (hB : B ≤ w.heap.size) (k : Ext w w') : Below B u w' := h.trans (k.mono hB)

/-! ### Own variables -/
theorem kp_ext {b : Nat} {w w' : World} {X : Prop} (h : Ext w w') (x : X) : kp b w w' X := ⟨fun hb => h.block b hb, x⟩
theorem kp_grown {b : Nat} {w w' : World} {X : Prop} {row : Option Nat} (h : w.grownBy w' row) (hb : some b ≠ row) (x : X) : kp b w w' X := ⟨fun hl => h.block b hl hb, x⟩
theorem kp_wr {b c : Nat} {w w' : World} {X : Prop} (h : Wr c w w') (hb : b ≠ c) (x : X) : kp b w w' X := ⟨fun _ => h.block b hb, x⟩
theorem kp_same {b : Nat} {w : World} {X : Prop} (x : X) : kp b w w X := ⟨fun _ => rfl, x⟩

theorem grown_refl (w : World) (row : Option Nat) : w.grownBy w row := ⟨rfl, rfl, rfl, Nat.le_refl _, fun _ _ _ => rfl⟩
theorem grown_ext {w w' : World} (h : Ext w w') (row : Option Nat) : w.grownBy w' row := ⟨h.os, h.tape, h.output, h.size, fun k hk _ => h.block k hk⟩
theorem grown_wr {b : Nat} {w w' : World} (h : Wr b w w') : w.grownBy w' (some b) := ⟨h.os, h.tape, h.output, Nat.le_of_eq h.size.symm, fun k _ hk => h.block k (fun e => hk (by rw [e]))⟩
theorem grown_trans {a b c : World} {row : Option Nat} (h : a.grownBy b row) (k : b.grownBy c row) : a.grownBy c row :=
  ⟨k.os.trans h.os, k.tape.trans h.tape, k.output.trans h.output, Nat.le_trans h.size k.size, fun i hi hr => (k.block i (Nat.lt_of_lt_of_le hi h.size) hr).trans (h.block i hi hr)⟩
theorem grown_none {w w' : World} (h : w.grownBy w' none) : Ext w w' := ⟨h.os, h.tape, h.output, h.size, fun k hk => h.block k hk (by simp)⟩
/-- What turned one block of the call's own, or none, has turned nothing below. -/
theorem below_grown {B : Nat} {u w w' : World} {row : Option Nat} (h : Below B u w) (hB : B ≤ w.heap.size) (k : w.grownBy w' row) (hr : ∀ r, row = some r → B ≤ r) : Below B u w' :=
  h.grown k hB hr
/-- A block that is new behind 'w0' is not among what stood there. -/
theorem grown_new {w0 w w' : World} {b : Nat} {row : Option Nat} (h : w0.grownBy w row) (hb : w0.heap.size ≤ b) (k : w.grownBy w' (some b)) : w0.grownBy w' row :=
  ⟨k.os.trans h.os, k.tape.trans h.tape, k.output.trans h.output, Nat.le_trans h.size k.size,
    fun i hi hr => (k.block i (Nat.lt_of_lt_of_le hi h.size) (by simp; omega)).trans (h.block i hi hr)⟩

/-! ### Rows of cells -/
def CellsAt (w : World) (b o : Nat) (xs : List Value) : Prop := ∀ j v, xs[j]? = some v → w.cell? ⟨b, o + j, none⟩ = some v

theorem cell_same {w w' : World} {b o : Nat} (h : w'.heap[b]? = w.heap[b]?) : w'.cell? ⟨b, o, none⟩ = w.cell? ⟨b, o, none⟩ := by simp [World.cell?, h]
theorem CellsAt.same {w w' : World} {b o : Nat} {xs : List Value} (hc : CellsAt w b o xs) (h : w'.heap[b]? = w.heap[b]?) : CellsAt w' b o xs := fun j v hj => by
  rw [cell_same h]; exact hc j v hj

/-- How a Lean value lies in a row of cells, all of one length. -/
structure Enc (α : Type) where
  cs : α → List Value
  sz : Nat
  pos : 0 < sz
  len : ∀ x, (cs x).length = sz
  one : ∀ x, ∀ v ∈ cs x, v.oneCell' = true

def eB : Enc UInt8 := ⟨fun b => [.int .u8 (b.toNat : Int)], 1, by decide, fun _ => rfl, fun x v hv => by simp at hv; subst hv; rfl⟩
def eK (k : IntKind) : Enc Int := ⟨fun n => [.int k n], 1, by decide, fun _ => rfl, fun x v hv => by simp at hv; subst hv; rfl⟩
def eS : Enc (List UInt8) := ⟨fun l => [sval l], 1, by decide, fun _ => rfl, fun x v hv => by simp at hv; subst hv; rfl⟩

variable {α : Type}

theorem Enc.length_flat (E : Enc α) : ∀ l : List α, (l.flatMap E.cs).length = l.length * E.sz
  | [] => by simp
  | x :: l => by simp [List.flatMap_cons, E.len, E.length_flat l, Nat.add_mul]; omega

theorem Enc.flat_get (E : Enc α) : ∀ (l : List α) (k j : Nat) (hk : k < l.length), j < E.sz → (l.flatMap E.cs)[k * E.sz + j]? = (E.cs l[k])[j]?
  | x :: l, 0, j, _, hj => by
    rw [List.flatMap_cons, List.getElem?_append_left (by rw [E.len]; omega)]
    simp
  | x :: l, k + 1, j, hk, hj => by
    rw [List.flatMap_cons, List.getElem?_append_right (by rw [E.len, Nat.add_mul]; omega), E.len]
    have : (k + 1) * E.sz + j - E.sz = k * E.sz + j := by rw [Nat.add_mul]; omega
    rw [this, E.flat_get l k j (by simpa using hk) hj]
    rfl

theorem Enc.flat_one (E : Enc α) (l : List α) : ∀ v ∈ l.flatMap E.cs, v.oneCell' = true := fun v hv => by
  obtain ⟨x, _, hx⟩ := List.mem_flatMap.1 hv
  exact E.one x v hx

theorem Enc.flat_take (E : Enc α) : ∀ (l : List α) (k : Nat), (l.take k).flatMap E.cs = (l.flatMap E.cs).take (k * E.sz)
  | [], k => by simp
  | x :: l, 0 => by simp
  | x :: l, k + 1 => by
    rw [List.take_succ_cons, List.flatMap_cons, List.flatMap_cons, E.flat_take l k, Nat.add_mul, Nat.one_mul, Nat.add_comm, ← E.len x, List.take_length_add_append]
theorem Enc.flat_drop (E : Enc α) : ∀ (l : List α) (k : Nat), (l.drop k).flatMap E.cs = (l.flatMap E.cs).drop (k * E.sz)
  | [], k => by simp
  | x :: l, 0 => by simp
  | x :: l, k + 1 => by
    rw [List.drop_succ_cons, List.flatMap_cons, E.flat_drop l k, Nat.add_mul, Nat.one_mul, Nat.add_comm, ← E.len x, List.drop_length_add_append]

/-! ### A slice that reads as a list -/
structure IsSl (E : Enc α) (w : World) (s : Sl) (l : List α) : Prop where
  len : s.len = l.length
  cap : s.len ≤ s.cap
  max : s.cap ≤ 9223372036854775807
  mem : l = [] ∨ ∃ b o, s.a = some ⟨b, o, none⟩ ∧ b < w.heap.size ∧ CellsAt w b o (l.flatMap E.cs)
  /-- an address that is not followed may be whatever it is; a nil one has nothing behind it -/
  nil : s.a = none → s.cap = 0

theorem IsSl.keep {E : Enc α} {w w' : World} {s : Sl} {l : List α} (h : IsSl E w s l) (hsz : w.heap.size ≤ w'.heap.size) (hk : ∀ b o, s.a = some ⟨b, o, none⟩ → b < w.heap.size → w'.heap[b]? = w.heap[b]?) : IsSl E w' s l :=
  ⟨h.len, h.cap, h.max, h.mem.imp id fun ⟨b, o, ha, hb, hc⟩ => ⟨b, o, ha, by omega, hc.same (hk b o ha hb)⟩, h.nil⟩
theorem IsSl.ext {E : Enc α} {w w' : World} {s : Sl} {l : List α} (h : IsSl E w s l) (hx : Ext w w') : IsSl E w' s l := h.keep hx.size fun b _ _ hb => hx.block b hb
theorem IsSl.grown {E : Enc α} {w w' : World} {s : Sl} {l : List α} {row : Option Nat} (h : IsSl E w s l) (hg : w.grownBy w' row) (hr : ∀ b o, s.a = some ⟨b, o, none⟩ → some b ≠ row) : IsSl E w' s l :=
  h.keep hg.size fun b o ha hb => hg.block b hb (hr b o ha)
theorem IsSl.nilSl (E : Enc α) (w : World) : IsSl E w Sl.nil [] := ⟨rfl, Nat.le_refl _, by decide, .inl rfl, fun _ => rfl⟩
theorem IsSl.le {E : Enc α} {w : World} {s : Sl} {l : List α} (h : IsSl E w s l) : l.length ≤ 9223372036854775807 := by
  have := h.len; have := h.cap; have := h.max; omega

/-- The address of an element. -/
structure ElAt (E : Enc α) (w : World) (a : Addr) (x : α) : Prop where
  spot : a.spot = none
  lt : a.block < w.heap.size
  cells : CellsAt w a.block a.off (E.cs x)

theorem ElAt.ext {E : Enc α} {w w' : World} {a : Addr} {x : α} (h : ElAt E w a x) (hx : Ext w w') : ElAt E w' a x :=
  ⟨h.spot, Nat.lt_of_lt_of_le h.lt hx.size, h.cells.same (hx.block _ h.lt)⟩

/-! ### What is asked of the program's types -/
def slOf (P : Program) (t : TypeId) : Option Nat :=
  match P.underlying t with
  | some (.slice e) => sizeT P e
  | _ => none
def oneT (P : Program) (t : TypeId) : Bool :=
  match P.underlying t with
  | some _ => !aggT P t
  | none => false
def agT (P : Program) (t : TypeId) : Option Nat :=
  match P.underlying t with
  | some _ => match aggT P t with
    | true => sizeT P t
    | false => none
  | none => none

theorem slOf_spec {P : Program} {t n : Nat} (h : slOf P t = some n) : ∃ e, P.underlying t = some (.slice e) ∧ sizeT P e = some n := by
  unfold slOf at h
  split at h
  · rename_i e he; exact ⟨e, he, h⟩
  · cases h
theorem oneT_spec {P : Program} {t : Nat} (h : oneT P t = true) : ∃ d, P.underlying t = some d ∧ aggT P t = false := by
  unfold oneT at h
  split at h
  · rename_i d hd; exact ⟨d, hd, by simpa using h⟩
  · cases h
theorem agT_spec {P : Program} {t n : Nat} (h : agT P t = some n) : ∃ d, P.underlying t = some d ∧ aggT P t = true ∧ sizeT P t = some n := by
  unfold agT at h
  split at h
  · rename_i d hd
    split at h
    · rename_i ha; exact ⟨d, hd, ha, h⟩
    · cases h
  · cases h

theorem addr_eta (a : Addr) (h : a.spot = none) : a = ⟨a.block, a.off, none⟩ := by cases a; simp at h; subst h; rfl
theorem addr_off (a : Addr) (h : a.spot = none) (k : Nat) : a.add k = ⟨a.block, a.off + k, none⟩ := by
  rw [addr_eta a h, addr_add]

/-! ### Loads -/
theorem run_ld {P : Program} {w : World} {t : TypeId} {a : Addr} {v : Value} (ht : oneT P t = true) (hc : w.cell? a = some v) : (Instr.loadAt t (.pointer (some a))).run P w = .ok v w := by
  obtain ⟨d, hd, ha⟩ := oneT_spec ht
  simp only [Instr.loadAt, Instr.sureAddr, pure_bind, loadVar, Sem.run_bind, run_isAgg hd, Result.andThen_ok, ha, Bool.false_eq_true, if_false]
  exact run_load hc

theorem run_ldCells {P : Program} {w : World} {b o : Nat} : ∀ (xs : List Value) (i : Nat) (acc : Array Value), CellsAt w b (o + i) xs → (loadCellsFrom ⟨b, o, none⟩ i xs.length acc).run P w = .ok (acc ++ xs.toArray) w
  | [], i, acc, _ => by simp [loadCellsFrom]
  | x :: xs, i, acc, h => by
    have h0 : w.cell? ((⟨b, o, none⟩ : Addr).add i) = some x := by rw [addr_add]; exact h 0 x rfl
    simp only [List.length_cons, loadCellsFrom, Sem.run_bind, run_load h0, Result.andThen_ok]
    rw [run_ldCells xs (i + 1) _ (fun j v hj => by
      have := h (j + 1) v (by simpa using hj)
      rw [show o + (i + 1) + j = o + i + (j + 1) from by omega]; exact this)]
    simp

theorem run_ldAgg {P : Program} {w : World} {t n : TypeId} {a : Addr} {xs : List Value} (ht : agT P t = some n) (hn : xs.length = n) (hs : a.spot = none) (hc : CellsAt w a.block a.off xs) :
    (Instr.loadAt t (.pointer (some a))).run P w = .ok (.agg ⟨xs⟩) w := by
  obtain ⟨d, hd, ha, hz⟩ := agT_spec ht
  simp only [Instr.loadAt, Instr.sureAddr, pure_bind, loadVar, Sem.run_bind, run_isAgg hd, Result.andThen_ok, ha, if_true, run_size hz, loadCells]
  rw [addr_eta a hs, ← hn, run_ldCells xs 0 #[] (by simpa using hc)]
  simp

variable {β : Type} {P : Program} {w : World}

/-- A cell of an element. -/
theorem ld_el {E : Enc α} {t : TypeId} {a : Addr} {x : α} {off : Nat} {val : β → Value} {y : β} {K : β → Prop} (ht : oneT P t = true) (h : ElAt E w a x) (hv : (E.cs x)[off]? = some (val y)) (hK : K y) :
    opRd P (Instr.loadAt t (.pointer (some (a.add off)))) val K w :=
  ⟨y, run_ld ht (by rw [addr_off a h.spot]; exact h.cells off _ hv), hK⟩
theorem ld_el0 {E : Enc α} {t : TypeId} {a : Addr} {x : α} {val : β → Value} {y : β} {K : β → Prop} (ht : oneT P t = true) (h : ElAt E w a x) (hv : (E.cs x)[0]? = some (val y)) (hK : K y) :
    opRd P (Instr.loadAt t (.pointer (some a))) val K w :=
  ⟨y, run_ld ht (by rw [addr_eta a h.spot]; exact h.cells 0 _ hv), hK⟩
/-- A whole element that is a struct. -/
theorem ld_whole {E : Enc α} {t : TypeId} {a : Addr} {x : α} {val : α → Value} {K : α → Prop} (ht : agT P t = some E.sz) (h : ElAt E w a x) (hv : val x = .agg ⟨E.cs x⟩) (hK : K x) :
    opRd P (Instr.loadAt t (.pointer (some a))) val K w :=
  ⟨x, by rw [hv]; exact run_ldAgg ht (E.len x) h.spot h.cells, hK⟩

theorem run_indexAt {t e n : TypeId} {s : Sl} {i : Int} {k : Nat} {b o : Nat} (ht : P.underlying t = some (.slice e)) (hn : sizeT P e = some n) (hi : i = (k : Int)) (hk : k < s.len) (ha : s.a = some ⟨b, o, none⟩) :
    (Instr.indexAt t s.val (.int .i64 i)).run P w = .ok (.pointer (some ⟨b, o + k * n, none⟩)) w := by
  subst hi
  simp only [Instr.indexAt, asIntOf, pure_bind, Sem.run_bind, run_und ht, Result.andThen_ok, Sl.val, ha]
  have : (0 : Int) ≤ (k : Int) ∧ (k : Int) < (s.len : Int) := ⟨by omega, by omega⟩
  simp [this, run_size hn, addr_add]

/-- The address of an element. -/
theorem ix_rd {E : Enc α} {t : TypeId} {s : Sl} {l : List α} {i : Int} {k : Nat} {K : Addr → Prop} (ht : slOf P t = some E.sz) (hs : IsSl E w s l) (hi : i = (k : Int)) (hk : k < l.length)
    (hK : ∀ a, ElAt E w a l[k] → K a) : opRd P (Instr.indexAt t s.val (.int .i64 i)) pav K w := by
  obtain ⟨e, he, hn⟩ := slOf_spec ht
  rcases hs.mem with h0 | ⟨b, o, ha, hb, hc⟩
  · subst h0; simp at hk
  · refine ⟨⟨b, o + k * E.sz, none⟩, run_indexAt he hn hi (by rw [hs.len]; exact hk) ha, hK _ ⟨rfl, hb, fun j v hj => ?_⟩⟩
    have hjs : j < E.sz := by
      have := (List.getElem?_eq_some_iff.1 hj).1
      rwa [E.len] at this
    have := hc (k * E.sz + j) v (by rw [E.flat_get l k j hk hjs]; exact hj)
    rw [Nat.add_assoc]; exact this

/-- An element of a slice whose elements lie in one cell; a field of an element. -/
theorem el_rd {E : Enc α} {t u : TypeId} {s : Sl} {l : List α} {i : Int} {k : Nat} {val : β → Value} {y : β} {K : Addr → β → Prop} (ht : slOf P t = some E.sz) (hu : oneT P u = true) (hs : IsSl E w s l) (hi : i = (k : Int)) (hk : k < l.length)
    (hv : (E.cs l[k])[0]? = some (val y)) (hK : ∀ a, K a y) : opRd P (Instr.indexAt t s.val (.int .i64 i)) pav (fun a => opRd P (Instr.loadAt u (.pointer (some a))) val (K a) w) w :=
  ix_rd ht hs hi hk fun a ha => ld_el0 hu ha hv (hK a)
theorem fld_rd {E : Enc α} {t u : TypeId} {s : Sl} {l : List α} {i : Int} {k off : Nat} {val : β → Value} {y : β} {K : Addr → β → Prop} (ht : slOf P t = some E.sz) (hu : oneT P u = true) (hs : IsSl E w s l) (hi : i = (k : Int)) (hk : k < l.length)
    (hv : (E.cs l[k])[off]? = some (val y)) (hK : ∀ a, K a y) : opRd P (Instr.indexAt t s.val (.int .i64 i)) pav (fun a => opRd P (Instr.loadAt u (.pointer (some (a.add off)))) val (K a) w) w :=
  ix_rd ht hs hi hk fun a ha => ld_el hu ha hv (hK a)
theorem st_rd {E : Enc α} {t u : TypeId} {s : Sl} {l : List α} {i : Int} {k : Nat} {val : α → Value} {K : Addr → α → Prop} (ht : slOf P t = some E.sz) (hu : agT P u = some E.sz) (hs : IsSl E w s l) (hi : i = (k : Int)) (hk : k < l.length)
    (hv : ∀ x, val x = .agg ⟨E.cs x⟩) (hK : ∀ a, K a l[k]) : opRd P (Instr.indexAt t s.val (.int .i64 i)) pav (fun a => opRd P (Instr.loadAt u (.pointer (some a))) val (K a) w) w :=
  ix_rd ht hs hi hk fun a ha => ld_whole hu ha (hv _) (hK a)

/-! ### Pointers -/
theorem nil_rd {p : Option Addr} {a : Addr} {K : Addr → Prop} (h : p = some a) (hK : K a) : opRd P (nilSem (.pointer p)) pav K w := by
  subst h
  exact ⟨a, by simp [nilSem, pav], hK⟩

/-- A variable behind a pointer: its cells, a whole block. -/
def Obj (w : World) (a : Addr) (cs : List Value) : Prop := a.spot = none ∧ a.off = 0 ∧ ∃ T, w.heap[a.block]? = some (.cells cs.toArray T (0, 0))

theorem Obj.lt {a : Addr} {cs : List Value} (h : Obj w a cs) : a.block < w.heap.size := by
  obtain ⟨_, _, T, hT⟩ := h
  exact (Array.getElem?_eq_some_iff.1 hT).1
theorem Obj.keep {w' : World} {a : Addr} {cs : List Value} (h : Obj w a cs) (hk : w'.heap[a.block]? = w.heap[a.block]?) : Obj w' a cs := by
  obtain ⟨h1, h2, T, hT⟩ := h
  exact ⟨h1, h2, T, by rw [hk]; exact hT⟩
theorem Obj.ext {w' : World} {a : Addr} {cs : List Value} (h : Obj w a cs) (hx : Ext w w') : Obj w' a cs := h.keep (hx.block _ h.lt)
theorem Obj.cell {a : Addr} {cs : List Value} (h : Obj w a cs) {off : Nat} {v : Value} (hv : cs[off]? = some v) : w.cell? (a.add off) = some v := by
  obtain ⟨h1, h2, T, hT⟩ := h
  rw [addr_off a h1, h2, Nat.zero_add, cell_own hT, hv]

theorem ld_obj {t : TypeId} {a : Addr} {cs : List Value} {off : Nat} {val : β → Value} {y : β} {K : β → Prop} (ht : oneT P t = true) (h : Obj w a cs) (hv : cs[off]? = some (val y)) (hK : K y) :
    opRd P (Instr.loadAt t (.pointer (some (a.add off)))) val K w :=
  ⟨y, run_ld ht (h.cell hv), hK⟩
theorem ld_obj0 {t : TypeId} {a : Addr} {cs : List Value} {val : β → Value} {y : β} {K : β → Prop} (ht : oneT P t = true) (h : Obj w a cs) (hv : cs[0]? = some (val y)) (hK : K y) :
    opRd P (Instr.loadAt t (.pointer (some a))) val K w :=
  ⟨y, run_ld ht (by have := h.cell hv; simpa [Addr.add] using this), hK⟩

theorem run_st {t : TypeId} {a : Addr} {cs : List Value} {off : Nat} {v : Value} (ht : sizeT P t = some 1) (h : Obj w a cs) (ho : oneV v = true) (hl : off < cs.length) :
    ∃ w', (Instr.storeAt t (.pointer (some (a.add off))) v).run P w = .ok () w' ∧ Wr a.block w w' ∧ Obj w' a (cs.set off v) := by
  obtain ⟨h1, h2, T, hT⟩ := h
  have hc : v.cells.toList = [v] := by cases v <;> simp_all [Value.cells, oneV]
  obtain ⟨w', hr, hw, hb⟩ := run_store_own (P := P) (t := t) (off := off) (r := cs.set off v) hT ht (by rw [hc]; rfl) (by rw [hc]; simp [allOne, ho]) (by
    rw [hc]
    clear hT
    induction cs generalizing off with
    | nil => simp at hl
    | cons c cs ih =>
      cases off with
      | zero => cases cs <;> simp [wrV]
      | succ n => simp only [wrV, ih (by simpa using hl), List.set_cons_succ])
  refine ⟨w', ?_, hw, h1, h2, T, hb⟩
  rw [addr_off a h1, h2, Nat.zero_add]
  exact hr

theorem st_obj {t : TypeId} {a : Addr} {cs : List Value} {off : Nat} {v : Value} {K : World → Prop} (ht : sizeT P t = some 1) (h : Obj w a cs) (ho : oneV v = true) (hl : off < cs.length)
    (hK : ∀ w', Wr a.block w w' → Obj w' a (cs.set off v) → K w') : opUn P (Instr.storeAt t (.pointer (some (a.add off))) v) K w := by
  obtain ⟨w', h1, h2, h3⟩ := run_st (P := P) ht h ho hl
  exact ⟨w', h1, hK w' h2 h3⟩
theorem st_obj0 {t : TypeId} {a : Addr} {cs : List Value} {v : Value} {K : World → Prop} (ht : sizeT P t = some 1) (h : Obj w a cs) (ho : oneV v = true) (hl : 0 < cs.length)
    (hK : ∀ w', Wr a.block w w' → Obj w' a (cs.set 0 v) → K w') : opUn P (Instr.storeAt t (.pointer (some a)) v) K w := by
  obtain ⟨w', h1, h2, h3⟩ := run_st (P := P) (off := 0) ht h ho hl
  exact ⟨w', by simpa [Addr.add] using h1, hK w' h2 h3⟩

/-- A new variable behind a pointer. -/
theorem box_ty {t : TypeId} {v : Value} {K : Addr → World → Prop} (hK : ∀ a w', a.block = w.heap.size → Ext w w' → Obj w' a v.cells.toList → K a w') : opTy P (Instr.box t v) pav K w :=
  ⟨⟨w.heap.size, 0, none⟩, _, run_box, hK _ _ rfl (Ext.alloc _ _) ⟨rfl, rfl, t, by rw [heap_alloc_new]⟩⟩
theorem alloc_ty {t : TypeId} {z : Value} {K : Addr → World → Prop} (hz : (P.info? t).bind (·.zero) = some z) (hK : ∀ a w', a.block = w.heap.size → Ext w w' → Obj w' a z.cells.toList → K a w') :
    opTy P (Instr.alloc t true (.tuple #[])) pav K w :=
  ⟨⟨w.heap.size, 0, none⟩, _, run_alloc hz, hK _ _ rfl (Ext.alloc _ _) ⟨rfl, rfl, t, by rw [heap_alloc_new]⟩⟩

/-! ### Comparing with nil -/
def isPtrT (P : Program) (t : TypeId) : Bool := match P.underlying t with | some (.pointer _) => true | _ => false
def isSlT (P : Program) (t : TypeId) : Bool := match P.underlying t with | some (.slice _) => true | _ => false

theorem run_eqGuard_sl {op : BinOp} {t : TypeId} {x y : Operand} {a b : Sl} : (eqGuard op t x y a.val b.val).run P w = .ok () w := by
  cases op <;> simp [eqGuard, Sl.val]
theorem run_eqGuard_ptr {op : BinOp} {t : TypeId} {x y : Operand} {a b : Option Addr} : (eqGuard op t x y (.pointer a) (.pointer b)).run P w = .ok () w := by
  cases op <;> simp [eqGuard]

theorem eqSlNil {t : TypeId} {x y : Operand} {s : Sl} {K : Bool → Prop} (ht : isSlT P t = true) (hK : ∀ b, b = s.a.isNone → K b) : opRd P (binSem .eql t x y s.val Sl.nil.val) Value.bool K w := by
  unfold isSlT at ht
  split at ht
  case h_2 => cases ht
  case h_1 e he =>
    refine ⟨s.a.isNone, ?_, hK _ rfl⟩
    unfold binSem
    rw [Sem.run_bind, run_eqGuard_sl, Result.andThen_ok]
    have h1 : (Op.equal t s.val Sl.nil.val).run P w = .ok s.a.isNone w := by
      unfold Op.equal Op.maxDepth Op.equalIn
      rw [Sem.run_bind, run_und he, Result.andThen_ok]
      unfold Sl.val Sl.nil
      cases s.a <;> simp
    show (Op.equal t s.val Sl.nil.val >>= fun b => pure (Value.bool b)).run P w = _
    rw [Sem.run_bind, h1, Result.andThen_ok, Sem.run_pure]
theorem eqPtrNil {t : TypeId} {x y : Operand} {p : Option Addr} {K : Bool → Prop} (ht : isPtrT P t = true) (hK : ∀ b, b = p.isNone → K b) : opRd P (binSem .eql t x y (.pointer p) (.pointer none)) Value.bool K w := by
  unfold isPtrT at ht
  split at ht
  case h_2 => cases ht
  case h_1 e he =>
    refine ⟨p.isNone, ?_, hK _ rfl⟩
    unfold binSem
    rw [Sem.run_bind, run_eqGuard_ptr, Result.andThen_ok]
    have h1 : (Op.equal t (.pointer p) (.pointer none)).run P w = .ok p.isNone w := by
      unfold Op.equal Op.maxDepth Op.equalIn
      rw [Sem.run_bind, run_und he, Result.andThen_ok]
      cases p <;> simp
    show (Op.equal t (.pointer p) (.pointer none) >>= fun b => pure (Value.bool b)).run P w = _
    rw [Sem.run_bind, h1, Result.andThen_ok, Sem.run_pure]
theorem nePtrNil {t : TypeId} {x y : Operand} {p : Option Addr} {K : Bool → Prop} (ht : isPtrT P t = true) (hK : ∀ b, b = p.isSome → K b) : opRd P (binSem .neq t x y (.pointer p) (.pointer none)) Value.bool K w := by
  unfold isPtrT at ht
  split at ht
  case h_2 => cases ht
  case h_1 e he =>
    refine ⟨p.isSome, ?_, hK _ rfl⟩
    unfold binSem
    rw [Sem.run_bind, run_eqGuard_ptr, Result.andThen_ok]
    have h1 : (Op.equal t (.pointer p) (.pointer none)).run P w = .ok p.isNone w := by
      unfold Op.equal Op.maxDepth Op.equalIn
      rw [Sem.run_bind, run_und he, Result.andThen_ok]
      cases p <;> simp
    show (Op.equal t (.pointer p) (.pointer none) >>= fun b => pure (Value.bool (!b))).run P w = _
    rw [Sem.run_bind, h1, Result.andThen_ok, Sem.run_pure]
    cases p <;> rfl

/-! ### Tests, numbers, loops -/
theorem ifB_of {b : Bool} {X Y : Prop} (h1 : b = true → X) (h2 : b = false → Y) : ifB b X Y := by
  cases b
  · exact h2 rfl
  · exact h1 rfl
theorem ifB_t {b : Bool} {X Y : Prop} (hb : b = true) (h : X) : ifB b X Y := by subst hb; exact h
theorem ifB_f {b : Bool} {X Y : Prop} (hb : b = false) (h : Y) : ifB b X Y := by subst hb; exact h
theorem ifD {p : Prop} [Decidable p] {X Y : Prop} (h1 : p → X) (h2 : ¬ p → Y) : ifB (decide p) X Y := ifB_of (fun h => h1 (of_decide_eq_true h)) (fun h => h2 (of_decide_eq_false h))
theorem ifEq {a b : Int} {X Y : Prop} (h1 : a = b → X) (h2 : a ≠ b → Y) : ifB (a == b) X Y := ifB_of (fun h => h1 (by simpa using h)) (fun h => h2 (by simpa using h))
theorem ifNe {a b : Int} {X Y : Prop} (h1 : a ≠ b → X) (h2 : a = b → Y) : ifB (a != b) X Y := ifB_of (fun h => h1 (by simpa using h)) (fun h => h2 (by simpa using h))
theorem ifNot {b : Bool} {X Y : Prop} (h : ifB b Y X) : ifB (!b) X Y := by cases b <;> exact h

theorem i64_id {n : Int} (h1 : -9223372036854775808 ≤ n) (h2 : n ≤ 9223372036854775807) : i64 n = n := by
  unfold i64
  exact IntWalk.i64_in n ⟨h1, h2⟩

theorem callV_of {val : β → Value} {g : FuncId} {args : Array Value} {K K' : β → World → Prop} (h : callV P val g args w K') (hk : ∀ x w', K' x w' → K x w') : callV P val g args w K :=
  Calls.mono h fun _ _ ⟨x, he, hx⟩ => ⟨x, he, hk _ _ hx⟩
theorem opH_of {S : World → Prop} {s : Sem Value} {val : β → Value} {K : β → Prop} (x : β) (h : ∀ w', S w' → opRd P s val (fun y => y = x) w') (hK : K x) : opH P S s val K :=
  ⟨x, fun w' hw => by obtain ⟨y, hy, rfl⟩ := h w' hw; exact hy, hK⟩
theorem heldM_of {X : (World → Prop) → World → Prop} (S : World → Prop) (h : ∀ w', Ext w w' → S w' ∧ X S w') : heldM X w := ⟨S, fun w' e => h w' (by subst e; exact Ext.drewOne w)⟩
theorem new_of {K : Nat → World → Prop} (h : ∀ b w', New b w w' → K b w') : newV K w := h
theorem wr_of {b : Nat} {K : World → Prop} (h : ∀ w', Wr b w w' → K w') : wrM b K w := h
theorem drew_of {K : World → Prop} (h : ∀ w', Ext w w' → K w') : drewM K w := fun w' e => h w' (by subst e; exact Ext.drewOne w)


/-! ### Texts -/
theorem strEq_eq (a b : List UInt8) : strEq a b = decide (a = b) := by
  unfold strEq
  rw [ByteArray.toList_eq, ByteArray.toList_eq]
  show (a == b) = _
  by_cases h : a = b
  · simp [h]
  · simp [h]
theorem ifStr {a b : List UInt8} {X Y : Prop} (h1 : a = b → X) (h2 : a ≠ b → Y) : ifB (strEq a b) X Y := by
  rw [strEq_eq]; exact ifD h1 h2
end Go.Vc
