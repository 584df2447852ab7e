/-
  Blocks of the call's own, cell by cell: copying, clearing, storing, longer pieces. Of whatever program.
-/
import Derived.Laws.IdiomCopy
import Derived.Laws.MakeOwn
import Derived.Test.YtnnoalpkldpjfaaSub
namespace Go.Vc
open Go.RowKit (Below)
variable {α β : Type} {P : Program} {w : World}

/-! ### A row of cells, with others laid over it -/
def lay (cur : List Value) (o : Nat) (vs : List Value) : List Value := cur.take o ++ vs ++ cur.drop (o + vs.length)
theorem lay_len {cur vs : List Value} {o : Nat} (h : o + vs.length ≤ cur.length) : (lay cur o vs).length = cur.length := by
  simp [lay]; omega
theorem lay_nil (cur : List Value) (o : Nat) : lay cur o [] = cur := by simp [lay]
theorem lay_get {cur vs : List Value} {o : Nat} (h : o + vs.length ≤ cur.length) (i : Nat) : (lay cur o vs)[i]? = if i < o then cur[i]? else if i < o + vs.length then vs[i - o]? else cur[i]? := by
  unfold lay
  have ho : (cur.take o).length = o := by simp; omega
  by_cases h1 : i < o
  · rw [if_pos h1, List.append_assoc, List.getElem?_append_left (by omega), List.getElem?_take, if_pos h1]
  · rw [if_neg h1]
    by_cases h2 : i < o + vs.length
    · rw [if_pos h2, List.append_assoc, List.getElem?_append_right (by omega), ho, List.getElem?_append_left (by omega)]
    · rw [if_neg h2, List.append_assoc, List.getElem?_append_right (by omega), ho, List.getElem?_append_right (by omega), List.getElem?_drop]
      congr 1
      omega

/-- A block of cells that may be written. -/
def RowAt (w : World) (g : Nat) (cur : List Value) : Prop := ∃ T fr, w.heap[g]? = some (.cells cur.toArray T fr) ∧ (fr = (0, 0) ∨ cur.length ≤ fr.1)

theorem RowAt.lt {g : Nat} {cur : List Value} (h : RowAt w g cur) : g < w.heap.size := by
  obtain ⟨T, fr, h, _⟩ := h
  exact (Array.getElem?_eq_some_iff.1 h).1
theorem RowAt.keep {w' : World} {g : Nat} {cur : List Value} (h : RowAt w g cur) (hk : w'.heap[g]? = w.heap[g]?) : RowAt w' g cur := by
  obtain ⟨T, fr, h, hf⟩ := h
  exact ⟨T, fr, by rw [hk]; exact h, hf⟩
theorem RowAt.ext {w' : World} {g : Nat} {cur : List Value} (h : RowAt w g cur) (hx : Ext w w') : RowAt w' g cur := h.keep (hx.block g h.lt)
theorem RowAt.cell {g : Nat} {cur : List Value} (h : RowAt w g cur) (i : Nat) : w.cell? ⟨g, i, none⟩ = cur[i]? := by
  obtain ⟨T, fr, h, _⟩ := h
  simp [World.cell?, h]
theorem RowAt.cells {g : Nat} {cur : List Value} (h : RowAt w g cur) (o n : Nat) : CellsAt w g o ((cur.drop o).take n) := by
  intro j v hj
  rw [List.getElem?_take] at hj
  split at hj
  · rw [List.getElem?_drop] at hj
    rw [h.cell]; exact hj
  · cases hj
theorem RowAt.store {g : Nat} {cur : List Value} (h : RowAt w g cur) {o i : Nat} {vs : List Value} (hfit : o + i + vs.length ≤ cur.length) (h1 : ∀ v ∈ vs, v.oneCell' = true) :
    ∃ w', (storeCells ⟨g, o, none⟩ vs i).run P w = .ok () w' ∧ Wr g w w' ∧ RowAt w' g (lay cur (o + i) vs) := by
  obtain ⟨T, fr, hb, hf⟩ := h
  have hc : ∀ j, j < vs.length → (w.cell? ⟨g, o + i + j, none⟩).isSome = true := fun j hj => by
    simp [World.cell?, hb]; omega
  have hfr : ∀ j, j < vs.length → w.frozen? ⟨g, o + i + j, none⟩ = false := fun j hj => by
    obtain ⟨f1, f2⟩ := fr
    simp only [World.frozen?, hb]
    rcases hf with e' | e'
    · cases e'; simp
    · have : ¬ (f1 ≤ o + i + j) := by simp at e'; omega
      simp only [this, decide_false, Bool.false_and]
  obtain ⟨e1, e2⟩ := setCells_blk vs (o + i) w cur.toArray hb (by simpa using hfit)
  refine ⟨_, run_storeCells_cells (P := P) g o vs i w hc hfr h1, e2, T, fr, by simpa [lay] using e1, ?_⟩
  rw [lay_len hfit]
  exact hf

/-! ### Own slices and their rows -/
theorem OwnSl.row {E : Enc α} {B : Nat} {s : Sl} {l : List α} (h : OwnSl E w B s l) :
    (s = Sl.nil ∧ l = []) ∨ ∃ g cur, s.a = some ⟨g, 0, none⟩ ∧ B ≤ g ∧ RowAt w g cur ∧ s.len = l.length ∧ s.len ≤ s.cap ∧ s.cap ≤ 9223372036854775807 ∧ cur.length = s.cap * E.sz ∧ cur.take (l.length * E.sz) = l.flatMap E.cs := by
  rcases h with h | ⟨g, cur, T, fr, h⟩
  · obtain ⟨a, b, c⟩ := s
    obtain ⟨h0, h1, h2, h3⟩ := h
    simp only at h0 h1 h2
    subst h0 h1 h2 h3
    exact .inl ⟨rfl, rfl⟩
  · exact .inr ⟨g, cur.toList, h.a, h.base, ⟨T, fr, by simpa using h.blk, by simpa using h.fr⟩, h.len, h.cap, h.max, by simpa using h.size, h.take⟩
theorem OwnSl.of_row {E : Enc α} {B g : Nat} {s : Sl} {l : List α} {cur : List Value} (ha : s.a = some ⟨g, 0, none⟩) (hB : B ≤ g) (hr : RowAt w g cur) (hl : s.len = l.length) (hc : s.len ≤ s.cap) (hm : s.cap ≤ 9223372036854775807)
    (hs : cur.length = s.cap * E.sz) (ht : cur.take (l.length * E.sz) = l.flatMap E.cs) : OwnSl E w B s l := by
  obtain ⟨T, fr, h1, h2⟩ := hr
  exact .inr ⟨g, cur.toArray, T, fr, ha, hB, h1, by simpa using h2, hl, hc, hm, by simpa using hs, by simpa using ht⟩

theorem Wr.kp {b c : Nat} {w' : World} {X : Prop} (h : Wr c w w') (hb : b ≠ c) (x : X) : kp b w w' X := kp_wr h hb x

/-- A store into a place of an own slice. -/
theorem run_st_own {E : Enc α} {B : Nat} {t : TypeId} {s : Sl} {l : List α} {k : Nat} {v : Value} {x : α} (ht : sizeT P t = some E.sz) (h : OwnSl E w B s l) (hk : k < l.length) (hv : v.cells.toList = E.cs x) :
    ∃ w', (Instr.storeAt t (.pointer (some (s.at k E.sz))) v).run P w = .ok () w' ∧ w.grownBy w' s.blk ∧ OwnSl E w' B s (l.set k x) := by
  rcases h.row with ⟨_, h0⟩ | ⟨g, cur, ha, hB, hr, hl, hc, hm, hs, htk⟩
  · subst h0; simp at hk
  have e1 : s.at k E.sz = ⟨g, k * E.sz, none⟩ := by simp [Sl.at, ha, addr_add]
  have hlen : (E.cs x).length = E.sz := E.len x
  have hle : (k + 1) * E.sz ≤ s.cap * E.sz := Nat.mul_le_mul_right _ (by omega)
  have hkm : (k + 1) * E.sz = k * E.sz + E.sz := by rw [Nat.add_mul, Nat.one_mul]
  have hfit : k * E.sz + 0 + (E.cs x).length ≤ cur.length := by rw [hlen, hs]; omega
  obtain ⟨w', r1, r2, r3⟩ := hr.store (P := P) (o := k * E.sz) (i := 0) (vs := E.cs x) hfit (E.one x)
  refine ⟨w', ?_, ?_, ?_⟩
  · rw [e1]
    have hl' : v.cells.size = E.sz := by rw [← Array.length_toList, hv, hlen]
    simp only [Instr.storeAt, Instr.sureAddr, pure_bind, storeVar, Sem.run_bind, run_size ht, Result.andThen_ok, hl', ne_eq, not_true_eq_false, if_false]
    rw [hv]
    exact r1
  · rw [show s.blk = some g from by simp [Sl.blk, ha]]
    exact grown_wr r2
  · refine OwnSl.of_row ha hB r3 (by simpa using hl) hc hm (by rw [lay_len (by simpa using hfit)]; exact hs) ?_
    rw [Nat.add_zero, List.length_set]
    apply List.ext_getElem?
    intro i
    have hll : (l.set k x).length = l.length := by simp
    by_cases hi : i < l.length * E.sz
    · rw [List.getElem?_take, if_pos hi, lay_get (by simpa using hfit), hlen]
      -- which element
      have hq : i / E.sz < l.length := Nat.div_lt_of_lt_mul (by rw [Nat.mul_comm]; exact hi)
      have hsplit : i = i / E.sz * E.sz + i % E.sz := by rw [Nat.mul_comm]; exact (Nat.div_add_mod i E.sz).symm
      have hmod := Nat.mod_lt i E.pos
      have rhs : ((l.set k x).flatMap E.cs)[i]? = (E.cs ((l.set k x)[i / E.sz]'(by simpa using hq)))[i % E.sz]? := by
        conv => lhs; rw [hsplit]
        exact E.flat_get _ _ _ (by simpa using hq) hmod
      have old : cur[i]? = (E.cs l[i / E.sz])[i % E.sz]? := by
        have h1 : cur[i]? = (cur.take (l.length * E.sz))[i]? := by rw [List.getElem?_take, if_pos hi]
        rw [h1, htk]
        conv => lhs; rw [hsplit]
        exact E.flat_get _ _ _ hq hmod
      rw [rhs]
      by_cases hik : i / E.sz = k
      · have h2 : ¬ i < k * E.sz := by rw [hsplit, hik]; omega
        have h3 : i < k * E.sz + E.sz := by rw [hsplit, hik]; omega
        rw [if_neg h2, if_pos h3]
        have : (l.set k x)[i / E.sz]'(by simpa using hq) = x := by simp [hik]
        rw [this]
        congr 1
        rw [hik] at hsplit
        omega
      · have e2 : (l.set k x)[i / E.sz]'(by simpa using hq) = l[i / E.sz] := by
          rw [List.getElem_set, if_neg (Ne.symm hik)]
        rw [e2, ← old]
        by_cases h2 : i < k * E.sz
        · rw [if_pos h2]
        · have h3 : ¬ i < k * E.sz + E.sz := by
            intro h3
            apply hik
            refine Nat.le_antisymm ?_ ?_
            · have : i / E.sz < k + 1 := Nat.div_lt_of_lt_mul (by rw [Nat.mul_comm]; omega)
              omega
            · rw [Nat.le_div_iff_mul_le E.pos]; omega
          rw [if_neg h2, if_neg h3]
    · rw [List.getElem?_take, if_neg hi, List.getElem?_eq_none]
      rw [E.length_flat, hll]; omega

/-- The address of a place of an own slice. -/
theorem ix_own {E : Enc α} {B : Nat} {t : TypeId} {s : Sl} {l : List α} {i : Int} {k : Nat} {K : Addr → Prop} (ht : slOf P t = some E.sz) (h : OwnSl E w B s l) (hi : i = (k : Int)) (hk : k < l.length)
    (hK : K (s.at k E.sz)) : opRd P (Instr.indexAt t s.val (.int .i64 i)) pav K w := ⟨_, (ix_eq ht h.is hi hk).1, hK⟩
theorem st_own {E : Enc α} {B : Nat} {t : TypeId} {s : Sl} {l : List α} {k : Nat} {v : Value} {K : World → Prop} (x : α) (ht : sizeT P t = some E.sz) (h : OwnSl E w B s l) (hk : k < l.length) (hv : v.cells.toList = E.cs x)
    (hK : ∀ w', OwnSl E w' B s (l.set k x) → w.grownBy w' s.blk → K w') : opUn P (Instr.storeAt t (.pointer (some (s.at k E.sz))) v) K w := by
  obtain ⟨w', h1, h2, h3⟩ := run_st_own ht h hk hv
  exact ⟨w', h1, hK w' h3 h2⟩

/-! ### Copying -/
theorem run_ldCells' {xs : List Value} {b o n : Nat} (hn : xs.length = n) (h : CellsAt w b o xs) : (loadCells ⟨b, o, none⟩ n).run P w = .ok xs.toArray w := by
  have := run_ldCells (P := P) (w := w) (b := b) (o := o) xs 0 #[] (by simpa using h)
  subst hn
  simpa [loadCells] using this
/-- **copy(d, x)**, d a piece of a row of the call's own. -/
theorem run_copy {dT sT ty z : Nat} {d x : Sl} {g o n : Nat} {cur xs : List Value} (ht : slOf P dT = some z) (hn : min x.len d.len = n) (hr : RowAt w g cur) (hxs : xs.length = n * z) (h1 : ∀ v ∈ xs, v.oneCell' = true)
    (hd : 0 < n → d.a = some ⟨g, o, none⟩) (hx : 0 < n → ∃ b p, x.a = some ⟨b, p, none⟩ ∧ CellsAt w b p xs) (hfit : o + xs.length ≤ cur.length) :
    ∃ w', (Builtin.copy_ #[dT, sT] ty #[d.val, x.val]).run P w = .ok (.int .i64 (n : Int)) w' ∧ Wr g w w' ∧ RowAt w' g (lay cur o xs) := by
  obtain ⟨e, he, hz⟩ := slOf_spec ht
  obtain ⟨da, dl, dc⟩ := d
  obtain ⟨xa, xl, xc⟩ := x
  simp only at hn hd hx
  have h63 : min xl dl = n := hn
  by_cases h0 : n = 0
  · subst h0
    have hnil : xs = [] := List.length_eq_zero_iff.1 (by simpa using hxs)
    subst hnil
    refine ⟨w, ?_, Wr.refl _ _, by rw [lay_nil]; exact hr⟩
    have hl : ∀ (a : Addr), (loadCells a 0).run P w = .ok #[] w := fun a => by simp [loadCells, loadCellsFrom]
    have hmin : Nat.min xl dl = 0 := h63
    cases da <;> cases xa <;> simp [Builtin.copy_, Sl.val, run_und he, Builtin.lenOf, Builtin.firstCells, run_size hz, hmin, hl, storeCells, goInt]
  · have hp : 0 < n := Nat.pos_of_ne_zero h0
    have hd' := hd hp
    obtain ⟨b, p, hxa, hc⟩ := hx hp
    subst hd' hxa
    obtain ⟨w', r1, r2, r3⟩ := hr.store (P := P) (o := o) (i := 0) (vs := xs) (by simpa using hfit) h1
    refine ⟨w', ?_, r2, by simpa using r3⟩
    have hmin : Nat.min xl dl = n := h63
    have hl := run_ldCells' (P := P) hxs hc
    simp [Builtin.copy_, Sl.val, run_und he, Builtin.lenOf, Builtin.firstCells, run_size hz, hmin, hl, r1, goInt]

/-! ### Pieces, with their room -/
theorem run_sub_lh {t z : Nat} {s : Sl} {i j : Int} {m n : Nat} (ht : slOf P t = some z) (hi : i = (m : Int)) (hj : j = (n : Int)) (hij : m ≤ n) (hn : n ≤ s.cap) :
    (Instr.sliceAt t s.val (some (.int .i64 i)) (some (.int .i64 j)) none).run P w = .ok (s.sub m n z).val w := by
  obtain ⟨he, hz⟩ := elem_of ht
  subst hi hj
  rw [run_sliceAt_slice w t _ _ _ _ he, show s.val = .slice s.a s.len s.cap from rfl, run_slice_lh w t s.a s.len s.cap he _ _ _ _ (by omega) (by omega) (by omega), run_size hz]
  simp [Result.andThen, sliced, Sl.sub, Sl.val]
theorem run_sub_l {t z : Nat} {s : Sl} {i : Int} {m : Nat} (ht : slOf P t = some z) (hi : i = (m : Int)) (hm : m ≤ s.len) :
    (Instr.sliceAt t s.val (some (.int .i64 i)) none none).run P w = .ok (s.sub m s.len z).val w := by
  obtain ⟨he, hz⟩ := elem_of ht
  subst hi
  rw [run_sliceAt_slice w t _ _ _ _ he, show s.val = .slice s.a s.len s.cap from rfl, run_slice_l w t s.a s.len s.cap he _ _ (by omega) (by omega), run_size hz]
  simp [Result.andThen, sliced, Sl.sub, Sl.val]
theorem run_sub_h {t z : Nat} {s : Sl} {j : Int} {n : Nat} (ht : slOf P t = some z) (hj : j = (n : Int)) (hn : n ≤ s.cap) :
    (Instr.sliceAt t s.val none (some (.int .i64 j)) none).run P w = .ok (s.sub 0 n z).val w := by
  obtain ⟨he, hz⟩ := elem_of ht
  subst hj
  rw [run_sliceAt_slice w t _ _ _ _ he, show s.val = .slice s.a s.len s.cap from rfl, run_slice_h w t s.a s.len s.cap he _ _ (by omega) (by omega), run_size hz]
  simp [Result.andThen, sliced, Sl.sub, Sl.val]
/-- s[i:j:k]. -/
def Sl.sub3 (s : Sl) (i j k z : Nat) : Sl := ⟨if k = i then s.a else s.a.map (·.add (i * z)), j - i, k - i⟩
theorem run_sub_lhm {t z : Nat} {s : Sl} {i j k : Int} {m n c : Nat} (ht : slOf P t = some z) (hi : i = (m : Int)) (hj : j = (n : Int)) (hk : k = (c : Int)) (hij : m ≤ n) (hn : n ≤ c) (hc : c ≤ s.cap) :
    (Instr.sliceAt t s.val (some (.int .i64 i)) (some (.int .i64 j)) (some (.int .i64 k))).run P w = .ok (s.sub3 m n c z).val w := by
  obtain ⟨he, hz⟩ := elem_of ht
  subst hi hj hk
  rw [run_sliceAt_slice w t _ _ _ _ he, show s.val = .slice s.a s.len s.cap from rfl, run_slice_lhm w t s.a s.len s.cap he _ _ _ _ _ _ (by omega) (by omega) (by omega) (by omega), run_size hz]
  simp [Result.andThen, sliced, Sl.sub3, Sl.val]
theorem run_sub_hm {t z : Nat} {s : Sl} {j k : Int} {n c : Nat} (ht : slOf P t = some z) (hj : j = (n : Int)) (hk : k = (c : Int)) (hn : n ≤ c) (hc : c ≤ s.cap) :
    (Instr.sliceAt t s.val none (some (.int .i64 j)) (some (.int .i64 k))).run P w = .ok (s.sub3 0 n c z).val w := by
  obtain ⟨he, hz⟩ := elem_of ht
  subst hj hk
  rw [run_sliceAt_slice w t _ _ _ _ he, show s.val = .slice s.a s.len s.cap from rfl, run_slice_hm w t s.a s.len s.cap he _ _ _ _ (by omega) (by omega) (by omega), run_size hz]
  simp [Result.andThen, sliced, Sl.sub3, Sl.val]
/-- Where a piece lies, if it has room. -/
theorem Sl.sub_at {s : Sl} {i j z b o : Nat} (ha : s.a = some ⟨b, o, none⟩) (h : i < s.cap) : (s.sub i j z).a = some ⟨b, o + i * z, none⟩ := by
  unfold Sl.sub
  simp only
  rw [if_neg (by omega), ha]
  simp [addr_add]

end Go.Vc
