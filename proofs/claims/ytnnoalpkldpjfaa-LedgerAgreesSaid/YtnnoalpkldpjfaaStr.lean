/-
  Texts: a byte, a piece, two behind each other, going through runes; arrays behind pointers. Of whatever program.
-/
import Derived.Laws.RangeString
import Derived.Test.YtnnoalpkldpjfaaLoops
namespace Go.Vc
open Go.RowKit (Below)
variable {α β : Type} {P : Program} {w : World}

theorem ba_size (l : List UInt8) : (⟨⟨l⟩⟩ : ByteArray).size = l.length := rfl
theorem ba_extract (s : List UInt8) (l h : Nat) : (⟨⟨s⟩⟩ : ByteArray).extract l h = ⟨⟨(s.drop l).take (h - l)⟩⟩ := by
  apply ByteArray.ext
  apply Array.ext'
  rw [ByteArray.data_extract]
  simp [List.extract_eq_take_drop]

/-- s[i]. -/
theorem idx_str {t : TypeId} {s : List UInt8} {k : IntKind} {i : Int} (n : Nat) {K : Int → Prop} (ht : strT P t = true) (hi : i = (n : Int)) (hn : n < s.length) (hK : K (s[n].toNat : Int)) :
    opRd P (Instr.index t (sval s) (.int k i)) (Value.int .u8) K w := by
  subst hi
  refine ⟨_, ?_, hK⟩
  have h1 := strT_spec ht
  unfold sval Instr.index
  have hg : (⟨⟨s⟩⟩ : ByteArray)[n]? = some s[n] := by
    show (if h : n < (⟨⟨s⟩⟩ : ByteArray).size then some _ else none) = _
    rw [dif_pos (by rw [ba_size]; exact hn)]
    rfl
  simp only [asIntOf, pure_bind, Sem.run_bind, run_und h1, Result.andThen_ok]
  have h0 : (0 : Int) ≤ (n : Int) := by omega
  simp [hg]

theorem sub_str_lh {t : TypeId} {s : List UInt8} {i j : Int} {ki kj : IntKind} {m n : Nat} {K : List UInt8 → Prop} (ht : strT P t = true) (hi : i = (m : Int)) (hj : j = (n : Int)) (hij : m ≤ n) (hn : n ≤ s.length) (hK : K ((s.drop m).take (n - m))) :
    opRd P (Instr.sliceAt t (sval s) (some (.int ki i)) (some (.int kj j)) none) sval K w := by
  have h1 := strT_spec ht
  subst hi hj
  refine ⟨_, ?_, hK⟩
  rw [show sval s = .string ⟨⟨s⟩⟩ from rfl, run_sliceAt_string _ _ _ _ _ _ h1]
  simp only [Instr.slice, Sem.run_bind, run_und h1, Result.andThen_ok, Instr.sliceBounds, ba_size]
  have e2 : (0 : Int) ≤ (n : Int) := by omega
  have e3 : (0 : Int) ≤ (m : Int) := by omega
  simp [run_sliceBound, hij, hn, ba_extract, sval]
theorem sub_str_l {t : TypeId} {s : List UInt8} {i : Int} {ki : IntKind} {m : Nat} {K : List UInt8 → Prop} (ht : strT P t = true) (hi : i = (m : Int)) (hm : m ≤ s.length) (hK : K (s.drop m)) :
    opRd P (Instr.sliceAt t (sval s) (some (.int ki i)) none none) sval K w := by
  have h1 := strT_spec ht
  subst hi
  refine ⟨_, ?_, hK⟩
  rw [show sval s = .string ⟨⟨s⟩⟩ from rfl, run_sliceAt_string _ _ _ _ _ _ h1, run_slice_string_l _ _ _ h1 _ _ (by omega) (by rw [ba_size]; omega), ba_extract]
  simp only [Int.toNat_natCast, ba_size, sval]
  rw [List.take_of_length_le (by simp)]
theorem sub_str_h {t : TypeId} {s : List UInt8} {j : Int} {kj : IntKind} {n : Nat} {K : List UInt8 → Prop} (ht : strT P t = true) (hj : j = (n : Int)) (hn : n ≤ s.length) (hK : K (s.take n)) :
    opRd P (Instr.sliceAt t (sval s) none (some (.int kj j)) none) sval K w := by
  have h1 := strT_spec ht
  subst hj
  refine ⟨_, ?_, hK⟩
  rw [show sval s = .string ⟨⟨s⟩⟩ from rfl, run_sliceAt_string _ _ _ _ _ _ h1, run_slice_string_h _ _ _ h1 _ _ (by omega) (by rw [ba_size]; omega), ba_extract]
  simp [sval]
/-- a + b. -/
theorem cat_str {t : TypeId} {x y : Operand} {a b : List UInt8} {K : List UInt8 → Prop} (h : a.length + b.length ≤ 9223372036854775807) (hK : K (a ++ b)) : opRd P (binSem .add t x y (sval a) (sval b)) sval K w := by
  refine ⟨_, ?_, hK⟩
  unfold binSem
  have hg : (eqGuard .add t x y (sval a) (sval b)).run P w = .ok () w := by simp [eqGuard]
  rw [Sem.run_bind, hg, Result.andThen_ok]
  show (binOp .add t (.string ⟨⟨a⟩⟩) (.string ⟨⟨b⟩⟩)).run P w = _
  have : binOp .add t (.string ⟨⟨a⟩⟩) (.string ⟨⟨b⟩⟩) = Op.stringOp .add ⟨⟨a⟩⟩ ⟨⟨b⟩⟩ := rfl
  rw [this, run_string_add_sum w _ _ (by rw [ba_size, ba_size]; exact h)]
  congr 2

/-! ### Going through a text's runes -/
/-- An iterator over a text, at a place. -/
def ItAt (w : World) (a : Addr) (s : List UInt8) (pos : Nat) : Prop := a = ⟨a.block, 0, none⟩ ∧ w.heap[a.block]? = some (.stringIter ⟨⟨s⟩⟩ pos)
theorem ItAt.lt {a : Addr} {s : List UInt8} {pos : Nat} (h : ItAt w a s pos) : a.block < w.heap.size := (Array.getElem?_eq_some_iff.1 h.2).1
theorem ItAt.keep {w' : World} {a : Addr} {s : List UInt8} {pos : Nat} (h : ItAt w a s pos) (hk : w'.heap[a.block]? = w.heap[a.block]?) : ItAt w' a s pos := ⟨h.1, by rw [hk]; exact h.2⟩
theorem ItAt.ext {w' : World} {a : Addr} {s : List UInt8} {pos : Nat} (h : ItAt w a s pos) (hx : Ext w w') : ItAt w' a s pos := h.keep (hx.block _ h.lt)
theorem range_ty {t : TypeId} {s : List UInt8} {K : Addr → World → Prop} (ht : strT P t = true) (hK : ∀ a w', a.block = w.heap.size → ItAt w' a s 0 → Ext w w' → K a w') : opTy P (Instr.range t (sval s)) pav K w := by
  have h1 := strT_spec ht
  refine ⟨⟨w.heap.size, 0, none⟩, _, run_range_string w t _ h1, hK _ _ rfl ⟨rfl, ?_⟩ ?_⟩
  · exact World.iter_heap w _ 0
  · exact Ext.alloc w _
/-- What the next rune is, and how wide. -/
def decAt (s : List UInt8) (pos : Nat) : Nat × Nat := Utf8.decode ⟨⟨s⟩⟩ pos
theorem next_al {a : Addr} {s : List UInt8} {pos : Nat} {K1 : Int × Int → World → Prop} {K2 : Unit → World → Prop} (h : ItAt w a s pos)
    (h1 : pos < s.length → ∀ w', Wr a.block w w' → ItAt w' a s (pos + (decAt s pos).2) → K1 ((pos : Int), ((decAt s pos).1 : Int)) w') (h2 : ¬ pos < s.length → K2 () w) :
    opAl P (Instr.next (.pointer (some a)) true 0) (nxval (Value.int .i64) (Value.int .i32)) endval K1 K2 w := by
  obtain ⟨ha, hb⟩ := h
  rw [ha]
  by_cases hp : pos < s.length
  · refine .inl ⟨_, { w with heap := w.heap.setIfInBounds a.block (.stringIter ⟨⟨s⟩⟩ (pos + (decAt s pos).2)) }, ?_, h1 hp _ ?_ ⟨ha, ?_⟩⟩
    · have hp' : pos < (⟨⟨s⟩⟩ : ByteArray).size := hp
      simp only [Instr.next, getObj, setObj, Sem.run_bind, Sem.run, hb, Result.andThen, hp', if_true]
      simp [goInt, nxval, decAt]
    · refine ⟨rfl, rfl, rfl, by simp, fun k hk => ?_⟩
      simp [Ne.symm hk]
    · have hlt := (Array.getElem?_eq_some_iff.1 hb).1
      simp [hlt]
  · refine .inr ⟨(), w, ?_, h2 hp⟩
    have hp' : ¬ pos < (⟨⟨s⟩⟩ : ByteArray).size := hp
    simp [Instr.next, getObj, Sem.run, hb, hp', endval]

/-! ### Arrays behind pointers -/
def arOf (P : Program) (t : TypeId) : Option (Nat × Nat) :=
  match P.underlying t with
  | some (.array n e) => match sizeT P e with
    | some z => some (n, z)
    | none => none
  | _ => none
theorem arOf_spec {t n z : Nat} (h : arOf P t = some (n, z)) : ∃ e, P.underlying t = some (.array n e) ∧ sizeT P e = some z := by
  unfold arOf at h
  split at h
  · rename_i m e he
    split at h
    · rename_i y hy
      simp only [Option.some.injEq, Prod.mk.injEq] at h
      exact ⟨e, by rw [he, h.1], by rw [hy, h.2]⟩
    · cases h
  · cases h
theorem ix_ar {t n z : Nat} {a : Addr} {k : IntKind} {i : Int} (m : Nat) {K : Addr → Prop} (ht : arOf P t = some (n, z)) (hi : i = (m : Int)) (hm : m < n) (hK : K (a.add (m * z))) :
    opRd P (Instr.indexAt t (.pointer (some a)) (.int k i)) pav K w := by
  obtain ⟨e, he, hz⟩ := arOf_spec ht
  subst hi
  refine ⟨_, ?_, hK⟩
  simp only [Instr.indexAt, asIntOf, pure_bind, Sem.run_bind, run_und he, Result.andThen_ok, Instr.sureAddr]
  have : (0 : Int) ≤ (m : Int) ∧ (m : Int) < (n : Int) := ⟨by omega, by omega⟩
  simp [this, run_size hz, pav]
/-- A cell of a global. -/
theorem ld_cell {t : TypeId} {a : Addr} {val : β → Value} {y : β} {K : β → Prop} (ht : oneT P t = true) (h : w.cell? a = some (val y)) (hK : K y) : opRd P (Instr.loadAt t (.pointer (some a))) val K w := ⟨y, run_ld ht h, hK⟩

/-! ### The order of texts -/
theorem lex_eq : ∀ (x y : List UInt8), Op.bytesLess x y = decide (x < y)
  | [], [] => by simp [Op.bytesLess]
  | _ :: _, [] => by simp [Op.bytesLess]
  | [], _ :: _ => by simp [Op.bytesLess]
  | a :: x, b :: y => by
    rw [Op.bytesLess, lex_eq x y]
    simp only [List.cons_lt_cons_iff]
    by_cases h1 : a < b <;> by_cases h2 : a = b <;> by_cases h3 : x < y <;> simp [h1, h2, h3]
theorem strLt_eq (a b : List UInt8) : strLt a b = decide (a < b) := by
  unfold strLt
  rw [ByteArray.toList_eq, ByteArray.toList_eq]
  exact lex_eq a b
theorem str_lt_irrefl (a : List UInt8) : ¬ a < a := List.lt_irrefl a
theorem str_lt_trans {a b c : List UInt8} (h : a < b) (k : b < c) : a < c := List.lt_trans h k
theorem str_lt_asymm {a b : List UInt8} (h : a < b) : ¬ b < a := fun k => List.lt_irrefl a (List.lt_trans h k)
theorem str_tri (a b : List UInt8) : a < b ∨ a = b ∨ b < a := by
  by_cases h : a < b
  · exact .inl h
  · by_cases k : b < a
    · exact .inr (.inr k)
    · exact .inr (.inl (List.le_antisymm (List.not_lt.1 k) (List.not_lt.1 h)))
end Go.Vc
