/-
  Commands as bytes: what package 'cmd' puts and gets.
-/
import Derived.Test.YtnnoalpkldpjfaaGreatDoorSpCmdC
import Derived.Test.YtnnoalpkldpjfaaGreatDoorMB
set_option maxRecDepth 20000
set_option linter.unusedVariables false
namespace Go.Vc
/-- Two blocks may have turned. -/
structure Two (x y : Nat) (w w' : World) : Prop where
  os : w'.os = w.os
  tape : w'.tape = w.tape
  output : w'.output = w.output
  size : w.heap.size ≤ w'.heap.size
  block : ∀ k, k < w.heap.size → k ≠ x → k ≠ y → w'.heap[k]? = w.heap[k]?
variable {x y : Nat} {w w' w'' w0 : World}
theorem Two.refl (w : World) : Two x y w w := ⟨rfl, rfl, rfl, Nat.le_refl _, fun _ _ _ _ => rfl⟩
theorem Two.trans (h : Two x y w w') (k : Two x y w' w'') : Two x y w w'' :=
  ⟨k.os.trans h.os, k.tape.trans h.tape, k.output.trans h.output, Nat.le_trans h.size k.size, fun i hi hx hy => (k.block i (Nat.lt_of_lt_of_le hi h.size) hx hy).trans (h.block i hi hx hy)⟩
theorem Two.grown (h : w.grownBy w' (some x)) : Two x y w w' := ⟨h.os, h.tape, h.output, h.size, fun k hk hx _ => h.block k hk (fun e => hx (Option.some.inj e))⟩
theorem Two.wr (h : Wr y w w') : Two x y w w' := ⟨h.os, h.tape, h.output, Nat.le_of_eq h.size.symm, fun k _ _ hy => h.block k hy⟩
theorem Two.ext (h : Ext w w') : Two x y w w' := ⟨h.os, h.tape, h.output, h.size, fun k hk _ _ => h.block k hk⟩
theorem Two.one (h0 : w0.grownBy w (some x)) (hy : w0.heap.size ≤ y) (h : Two x y w w') : w0.grownBy w' (some x) :=
  ⟨h.os.trans h0.os, h.tape.trans h0.tape, h.output.trans h0.output, Nat.le_trans h0.size h.size, fun i hi hr => (h.block i (Nat.lt_of_lt_of_le hi h0.size) (fun e => hr (by rw [e])) (by omega)).trans (h0.block i hi hr)⟩
theorem kp_two {b : Nat} {X : Prop} (h : Two x y w w') (hx : b ≠ x) (hy : b ≠ y) (k : X) : kp b w w' X := ⟨fun hb => h.block b hb hx hy, k⟩
theorem IsSl.two {α : Type} {E : Enc α} {s : Sl} {l : List α} (hs : IsSl E w s l) (h : Two x y w w') (hx : s.blk ≠ some x) (hy : s.blk ≠ some y) : IsSl E w' s l :=
  hs.keep h.size fun b o ha hb => h.block b hb (fun e => hx (by simp [Sl.blk, ha, e])) (fun e => hy (by simp [Sl.blk, ha, e]))
end Go.Vc
namespace Go.Chg
open Go.Vc
variable {w : World}
def wantI (v k : Int) (i : Nat) : Bool := if v = 1 then decide (i ≠ 3) else need k i
theorem cmd_part_wanted_spec {v k : Int} {i : Nat} {K : Bool → World → Prop} (hi : i < 6) (hK : ∀ w', Ext w w' → K (wantI v k i) w') : cmd_part_wanted (prt i) v k K w := by
  unfold cmd_part_wanted
  refine new_x (Ext.rfl' w) fun b1 w2 _ _ hx _ => ?_
  refine cmd_fields_calls (cmd_fields_spec fun b _ => kp_same ?_)
  have := hK w2 hx
  unfold wantI at this
  rw [prt_has]
  refine ifEq (fun h => ?_) (fun h => ?_)
  · rw [if_pos h] at this
    have e : (hasI i != 4) = decide (i ≠ 3) := by
      match i, hi with
      | 0, _ => rfl
      | 1, _ => rfl
      | 2, _ => rfl
      | 3, _ => rfl
      | 4, _ => rfl
      | 5, _ => rfl
    rw [e]; exact this
  · rw [if_neg h] at this
    have e : (bAnd .i64 (fieldsOf k) (hasI i) != 0) = need k i := by
      have := need_eq k i
      rw [bne, this, Bool.not_not]
    rw [e]; exact this

/-! ### Bytes -/
def partB (c : ApiCmd) (i : Nat) : List UInt8 :=
  match numI c i with
  | some n => enc n.toNat
  | none => enc (txtI c i).length ++ txtI c i
def cmdT (v : Int) (c : ApiCmd) : Nat → List UInt8
  | 0 => enc c.Kind.toNat
  | i + 1 => cmdT v c i ++ (if wantI v c.Kind i = true then partB c i else [])
/-- A command's bytes in a version. -/
def cmdB (v : Int) (c : ApiCmd) : List UInt8 := cmdT v c 6
def CmdNum (c : ApiCmd) : Prop := c.Kind ≤ 9223372036854775807 ∧ c.Client ≤ 9223372036854775807 ∧ c.Seq ≤ 9223372036854775807 ∧ c.Node ≤ 9223372036854775807
def CmdShort (c : ApiCmd) : Prop := c.Key.length ≤ 1048576 ∧ c.Val.length ≤ 1048576 ∧ c.Old.length ≤ 1048576
theorem numI_le {c : ApiCmd} (h : CmdNum c) {i : Nat} {n : Int} (hn : numI c i = some n) : n ≤ 9223372036854775807 := by
  obtain ⟨_, h1, h2, h3⟩ := h
  match i with
  | 0 => cases hn; exact h1
  | 1 => cases hn; exact h2
  | 2 => cases hn
  | 3 => cases hn
  | 4 => cases hn
  | n + 5 => cases hn; exact h3
theorem txtI_le {c : ApiCmd} (h : CmdShort c) (i : Nat) : (txtI c i).length ≤ 1048576 := by
  obtain ⟨h1, h2, h3⟩ := h
  match i with
  | 0 => simp [txtI]
  | 1 => simp [txtI]
  | 2 => exact h1
  | 3 => exact h3
  | 4 => exact h2
  | n + 5 => simp [txtI]
theorem partB_len {c : ApiCmd} (h : CmdNum c) (hs : CmdShort c) (i : Nat) : (partB c i).length ≤ 1048585 := by
  unfold partB
  split
  · rename_i n hn
    have := enc_len9 (numI_le h hn)
    omega
  · have := txtI_le hs i
    have h9 := enc_len9 (n := ((txtI c i).length : Int)) (by omega)
    rw [Int.toNat_natCast] at h9
    rw [List.length_append]
    omega
theorem cmdT_len {v : Int} {c : ApiCmd} (h : CmdNum c) (hs : CmdShort c) : ∀ i, (cmdT v c i).length ≤ 9 + 1048585 * i
  | 0 => by have := enc_len9 h.1; simpa [cmdT] using this
  | i + 1 => by
    have := cmdT_len (v := v) h hs i
    have := partB_len h hs i
    simp only [cmdT, List.length_append]
    split
    · omega
    · simp only [List.length_nil]; omega
def offI : Nat → Nat
  | 0 => 1
  | 1 => 2
  | 2 => 3
  | 3 => 5
  | 4 => 4
  | _ => 6
/-! ### Reading -/
def setN (c : ApiCmd) : Nat → Int → ApiCmd
  | 0, n => { c with Client := n }
  | 1, n => { c with Seq := n }
  | _, n => { c with Node := n }
def setT (c : ApiCmd) : Nat → List UInt8 → ApiCmd
  | 2, s => { c with Key := s }
  | 3, s => { c with Old := s }
  | _, s => { c with Val := s }
def rdPart (l : List UInt8) (i : Nat) (c : ApiCmd) (p no : Int) : ApiCmd × Int × Int :=
  match numI c i with
  | some _ => (setN c i (rdNumber l 9223372036854775807 p no).1, (rdNumber l 9223372036854775807 p no).2)
  | none => (setT c i (rdText l 1048576 p no).1, (rdText l 1048576 p no).2)
def rdT (l : List UInt8) (v p no : Int) : Nat → ApiCmd × Int × Int
  | 0 => (⟨(rdNumber l 9223372036854775807 p no).1, 0, 0, [], [], [], 0⟩, (rdNumber l 9223372036854775807 p no).2)
  | i + 1 => if wantI v (rdT l v p no i).1.Kind i = true then rdPart l i (rdT l v p no i).1 (rdT l v p no i).2.1 (rdT l v p no i).2.2 else rdT l v p no i
def rdCmd (l : List UInt8) (v p no : Int) : ApiCmd × Int × Int := rdT l v p no 6
end Go.Chg
