/-
  What stringslite.Clone does: a row of bytes is made, a text copied into it, the row read as a text. Of whatever program.
-/
import Derived.Lib.BufferWrite
import Derived.Lib.UnsafeStr
import Derived.Laws.CopyOwn
import Derived.Laws.MakeOwn
import Derived.Test.YtnnoalpkldpjfaaGreatDoorMX
set_option linter.unusedVariables false
namespace Go.Vc
open Go.RowKit (Below)
variable {P : Program} {w : World}
theorem clone_ty {t tx tr pt it ty : TypeId} {s : List UInt8} {i : Int} {K : List UInt8 → World → Prop} (ht : appOk P t (elemT P t) 1 1 = true) (hp : P.underlying pt = some (.pointer (elemT P t))) (hc : P.cellsOf (elemT P t) = 1) (hi : i = (s.length : Int)) (h0 : s ≠ []) (hl : s.length ≤ 140737488355328)
    (hK : ∀ w', Ext w w' → K s w') : opTy P (Instr.makeSlice t (.int .i64 i) (.int .i64 i)) Sl.val (fun b1 w2 => opTy P (Builtin.copy_ #[t, tx] tr #[b1.val, (sval s)]) (Value.int .i64) (fun t3 w4 =>
      opRd P (Instr.indexAt t b1.val (.int .i64 0)) pav (fun t5 => opTy P (Builtin.unsafeString_ #[pt, it] ty #[(.pointer (some t5)), (.int .i64 (b1.len : Int))]) sval (fun t6 w7 => K t6 w7) w4) w4) w2) w := by
  obtain ⟨hu, inf, zv, hinf, hsz, hb, hzv, hzs⟩ := appOk_spec ht
  subst hi
  have hpos := List.length_pos_iff.2 h0
  have hr := run_make (P := P) w t _ inf zv hu hinf hzv .i64 .i64 (s.length : Int) (s.length : Int) (by omega) (Int.le_refl _) (by rw [hb]; omega) (by omega)
  simp only [Int.toNat_natCast] at hr
  refine ⟨⟨some ⟨w.heap.size, 0, none⟩, s.length, s.length⟩, _, hr, ?_⟩
  have hms : (madeCells zv.cells (s.length * inf.size)).size = s.length := by rw [size_madeCells, hsz, Nat.mul_one]
  generalize madeCells zv.cells (s.length * inf.size) = cur at *
  have hb1 : (w.alloc (.cells cur (elemT P t))).heap[w.heap.size]? = some (.cells cur (elemT P t) (0, 0)) := heap_alloc_new _ _
  have hx1 : Ext w (w.alloc (.cells cur (elemT P t))) := Ext.alloc _ _
  have hss : (⟨⟨s⟩⟩ : ByteArray).size = s.length := rfl
  have hc1 := Lib.run_copy_row_string (P := P) (w.alloc (.cells cur (elemT P t))) t tx tr (elemT P t) w.heap.size 0 s.length s.length ⟨⟨s⟩⟩ cur (elemT P t) hu (by rw [hinf]; simp [hsz]) hb1 (Nat.le_of_eq hss) (by rw [hss, hms]; omega)
  refine ⟨_, _, hc1, ?_⟩
  have hrow := setRow_heap (w.alloc (.cells cur (elemT P t))) w.heap.size cur (cur.toList.take 0 ++ Lib.byteCells s ++ cur.toList.drop (0 + (⟨⟨s⟩⟩ : ByteArray).size)).toArray (elemT P t) (0, 0) hb1
  have hx2 : Ext w ((w.alloc (.cells cur (elemT P t))).setRow w.heap.size (cur.toList.take 0 ++ Lib.byteCells s ++ cur.toList.drop (0 + (⟨⟨s⟩⟩ : ByteArray).size)).toArray) := below_setRow hx1 (Nat.le_refl _) _
  have hcs : (cur.toList.take 0 ++ Lib.byteCells s ++ cur.toList.drop (0 + (⟨⟨s⟩⟩ : ByteArray).size)) = Lib.byteCells s := by
    rw [List.take_zero, List.nil_append, hss, List.drop_of_length_le (by rw [Array.length_toList, hms]; omega), List.append_nil]
  dsimp only [] at hrow hx2 ⊢
  rw [hcs] at hrow hx2 ⊢
  generalize ((w.alloc (.cells cur (elemT P t))).setRow w.heap.size (Lib.byteCells s).toArray) = w4 at *
  refine ⟨⟨w.heap.size, 0, none⟩, ?_, ?_⟩
  · obtain ⟨e, he, hn⟩ := slOf_spec (P := P) (t := t) (n := 1) (by unfold slOf; rw [hu]; simp only [sizeT, hinf, hsz])
    have := run_indexAt (P := P) (w := w4) (s := ⟨some ⟨w.heap.size, 0, none⟩, s.length, s.length⟩) (i := 0) (k := 0) he hn rfl hpos rfl
    simpa [pav] using this
  refine ⟨s, w4.freeze ⟨w.heap.size, 0, none⟩ s.length, ?_, hK _ (Lib.below_freeze hx2 (Nat.le_refl _) _)⟩
  refine Lib.run_unsafeString_row w4 _ _ _ (elemT P t) hp hc w.heap.size s.length (by unfold World.shape?; rw [hrow]; simp [Lib.byteCells]) s h0 (Nat.le_refl _) (by omega) fun j x hj => ?_
  rw [addr_off _ rfl]
  simp only [World.cell?, hrow, Nat.zero_add]
  simp [Lib.byteCells, hj]
end Go.Vc
