/-
  What package 'pack' does with its bytes, in plain Lean; and how a reader and a writer lie in memory.
-/
import Derived.Test.YtchkkeninkmclaaSub
namespace Go.Vc
open Go.RowKit (Below)

/-- What stands after a read: the value, where the reader is, its fault. -/
def rdLim (l : List UInt8) (most : Int) (p no : Int) : Int × Int × Int :=
  ((getL l p).1, (getL l p).2.1, if (getL l p).2.2 ≠ 0 then (getL l p).2.2 else if most < (getL l p).1 then 2 else no)
def rdCounted (l : List UInt8) (most : Int) (p no : Int) : Int × Int × Int :=
  ((rdLim l most p no).1, (rdLim l most p no).2.1, if (rdLim l most p no).2.2 = 0 then (if (l.length : Int) - (rdLim l most p no).2.1 < (rdLim l most p no).1 then 1 else 0) else (rdLim l most p no).2.2)
def rdRaw (l : List UInt8) (most : Int) (p no : Int) : List UInt8 × Int × Int :=
  if (rdCounted l most p no).2.2 ≠ 0 then ([], (rdCounted l most p no).2)
  else ((l.drop (rdCounted l most p no).2.1.toNat).take (rdCounted l most p no).1.toNat, (rdCounted l most p no).2.1 + (rdCounted l most p no).1, 0)
def rdFlag (l : List UInt8) (p no : Int) : Bool × Int × Int :=
  match l.drop p.toNat with
  | [] => (false, p, 1)
  | c :: _ => (decide (c = 1), p + 1, if 1 < c.toNat then 3 else no)
/-- A read at a reader that may have failed before. -/
def rdOp {α : Type} (z : α) (f : Int → Int → α × Int × Int) (p no : Int) : α × Int × Int :=
  if no ≠ 0 then (z, p, no) else (if (f p no).2.2 ≠ 0 then z else (f p no).1, (f p no).2)

theorem rdLim_pos (l : List UInt8) (most p no : Int) : 0 ≤ (rdLim l most p no).2.1 ∧ (rdLim l most p no).2.1 ≤ l.length := getL_pos l p
theorem rdLim_num (l : List UInt8) (most p no : Int) : 0 ≤ (rdLim l most p no).1 := getL_num l p

/-- A reader in memory. -/
def Rd (w : World) (a : Addr) (l : List UInt8) (p no : Int) : Prop :=
  ∃ s, IsSl eB w s l ∧ Obj w a [s.val, .int .i64 p, .int .i64 no] ∧ (∀ b, s.blk = some b → b < a.block) ∧ 0 ≤ p ∧ p ≤ l.length
theorem ltne {s : Sl} {n : Nat} (h : ∀ b, s.blk = some b → b < n) : s.blk ≠ some n := fun e => absurd (h _ e) (Nat.lt_irrefl _)
/-- A writer in memory. -/
def Wt (w : World) (a : Addr) (l : List UInt8) : Prop :=
  ∃ s, IsSl eB w s l ∧ Obj w a [s.val] ∧ s.blk ≠ some a.block

variable {w w' : World} {a : Addr} {l : List UInt8} {p no : Int}
theorem Rd.ext (h : Rd w a l p no) (hx : Ext w w') : Rd w' a l p no := by
  obtain ⟨s, h1, h2, h3, h4⟩ := h
  exact ⟨s, h1.ext hx, h2.ext hx, h3, h4⟩
theorem Wt.ext (h : Wt w a l) (hx : Ext w w') : Wt w' a l := by
  obtain ⟨s, h1, h2, h3⟩ := h
  exact ⟨s, h1.ext hx, h2.ext hx, h3⟩
/-- A block that is newer than the reader may turn. -/
theorem Rd.wr {b : Nat} (h : Rd w a l p no) (hw : Wr b w w') (hb : a.block < b) : Rd w' a l p no := by
  obtain ⟨s, h1, h2, h3, h4⟩ := h
  exact ⟨s, h1.grownB (grown_wr hw) (fun c hc e => by have := h3 c hc; simp at e; omega), h2.keep (hw.block _ (by omega)), h3, h4⟩
theorem Rd.lt (h : Rd w a l p no) : a.block < w.heap.size := by
  obtain ⟨s, h1, h2, h3, h4⟩ := h
  exact h2.lt
theorem Wt.lt (h : Wt w a l) : a.block < w.heap.size := by
  obtain ⟨s, h1, h2, h3⟩ := h
  exact h2.lt
/-- A slice that lies elsewhere reads as before when one block has turned. -/
theorem IsSl.wrB {α : Type} {E : Enc α} {s : Sl} {xs : List α} {b : Nat} (h : IsSl E w s xs) (hw : Wr b w w') (hb : s.blk ≠ some b) : IsSl E w' s xs :=
  h.grownB (grown_wr hw) fun c hc e => hb (by rw [hc, e])
theorem OwnSl.blk_ne {α : Type} {E : Enc α} {s : Sl} {xs : List α} {B b : Nat} (h : OwnSl E w B s xs) (hb : b < B) : s.blk ≠ some b := fun e => by
  have := h.ge b e
  omega

theorem Ext.grown {w0 w w' : World} {b : Nat} (h : Ext w0 w) (hg : w.grownBy w' (some b)) (hb : w0.heap.size ≤ b) : Ext w0 w' :=
  below_grown h h.size hg fun r hr => by cases hr; exact hb
end Go.Vc
