import Derived.Laws.IdiomCopy
import Derived.Laws.MakeOwn
import Derived.Test.YtnnoalpkldpjfaaGreatDoorSub
import Derived.Test.YtnnoalpkldpjfaaGreatDoorEqs
import Derived.Laws.RangeString
import Derived.Lib.AppendZerosOnto
import Derived.Lib.Overlaps
/-
  Blocks of the call's own, cell by cell: copying, clearing, storing, longer pieces. Of whatever program.
-/
namespace Go.Vc
open Go.RowKit (Below)
variable {α β : Type} {P : Program} {w : World}

/-! ### A row of cells, with others laid over it -/
def lay (cur : List Value) (o : Nat) (vs : List Value) : List Value := cur.take o ++ vs ++ cur.drop (o + vs.length)
theorem lay_len {cur vs : List Value} {o : Nat} (h : o + vs.length ≤ cur.length) : (lay cur o vs).length = cur.length := by
  simp [lay]; omega
theorem lay_nil (cur : List Value) (o : Nat) : lay cur o [] = cur := by simp [lay]
theorem lay_get {cur vs : List Value} {o : Nat} (h : o + vs.length ≤ cur.length) (i : Nat) : (lay cur o vs)[i]? = if i < o then cur[i]? else if i < o + vs.length then vs[i - o]? else cur[i]? := by
  unfold lay
  have ho : (cur.take o).length = o := by simp; omega
  by_cases h1 : i < o
  · rw [if_pos h1, List.append_assoc, List.getElem?_append_left (by omega), List.getElem?_take, if_pos h1]
  · rw [if_neg h1]
    by_cases h2 : i < o + vs.length
    · rw [if_pos h2, List.append_assoc, List.getElem?_append_right (by omega), ho, List.getElem?_append_left (by omega)]
    · rw [if_neg h2, List.append_assoc, List.getElem?_append_right (by omega), ho, List.getElem?_append_right (by omega), List.getElem?_drop]
      congr 1
      omega

/-- A block of cells that may be written. -/
def RowAt (w : World) (g : Nat) (cur : List Value) : Prop := ∃ T fr, w.heap[g]? = some (.cells cur.toArray T fr) ∧ (fr = (0, 0) ∨ cur.length ≤ fr.1)

theorem RowAt.lt {g : Nat} {cur : List Value} (h : RowAt w g cur) : g < w.heap.size := by
  obtain ⟨T, fr, h, _⟩ := h
  exact (Array.getElem?_eq_some_iff.1 h).1
theorem RowAt.keep {w' : World} {g : Nat} {cur : List Value} (h : RowAt w g cur) (hk : w'.heap[g]? = w.heap[g]?) : RowAt w' g cur := by
  obtain ⟨T, fr, h, hf⟩ := h
  exact ⟨T, fr, by rw [hk]; exact h, hf⟩
theorem RowAt.ext {w' : World} {g : Nat} {cur : List Value} (h : RowAt w g cur) (hx : Ext w w') : RowAt w' g cur := h.keep (hx.block g h.lt)
theorem RowAt.cell {g : Nat} {cur : List Value} (h : RowAt w g cur) (i : Nat) : w.cell? ⟨g, i, none⟩ = cur[i]? := by
  obtain ⟨T, fr, h, _⟩ := h
  simp [World.cell?, h]
theorem RowAt.cells {g : Nat} {cur : List Value} (h : RowAt w g cur) (o n : Nat) : CellsAt w g o ((cur.drop o).take n) := by
  intro j v hj
  rw [List.getElem?_take] at hj
  split at hj
  · rw [List.getElem?_drop] at hj
    rw [h.cell]; exact hj
  · cases hj
theorem RowAt.store {g : Nat} {cur : List Value} (h : RowAt w g cur) {o i : Nat} {vs : List Value} (hfit : o + i + vs.length ≤ cur.length) (h1 : ∀ v ∈ vs, v.oneCell' = true) :
    ∃ w', (storeCells ⟨g, o, none⟩ vs i).run P w = .ok () w' ∧ Wr g w w' ∧ RowAt w' g (lay cur (o + i) vs) := by
  obtain ⟨T, fr, hb, hf⟩ := h
  have hc : ∀ j, j < vs.length → (w.cell? ⟨g, o + i + j, none⟩).isSome = true := fun j hj => by
    simp [World.cell?, hb]; omega
  have hfr : ∀ j, j < vs.length → w.frozen? ⟨g, o + i + j, none⟩ = false := fun j hj => by
    obtain ⟨f1, f2⟩ := fr
    simp only [World.frozen?, hb]
    rcases hf with e' | e'
    · cases e'; simp
    · have : ¬ (f1 ≤ o + i + j) := by simp at e'; omega
      simp only [this, decide_false, Bool.false_and]
  obtain ⟨e1, e2⟩ := setCells_blk vs (o + i) w cur.toArray hb (by simpa using hfit)
  refine ⟨_, run_storeCells_cells (P := P) g o vs i w hc hfr h1, e2, T, fr, by simpa [lay] using e1, ?_⟩
  rw [lay_len hfit]
  exact hf

/-! ### Own slices and their rows -/
theorem OwnSl.row {E : Enc α} {B : Nat} {s : Sl} {l : List α} (h : OwnSl E w B s l) :
    (s = Sl.nil ∧ l = []) ∨ ∃ g cur, s.a = some ⟨g, 0, none⟩ ∧ B ≤ g ∧ RowAt w g cur ∧ s.len = l.length ∧ s.len ≤ s.cap ∧ s.cap ≤ 9223372036854775807 ∧ cur.length = s.cap * E.sz ∧ cur.take (l.length * E.sz) = l.flatMap E.cs := by
  rcases h with h | ⟨g, cur, T, fr, h⟩
  · obtain ⟨a, b, c⟩ := s
    obtain ⟨h0, h1, h2, h3⟩ := h
    simp only at h0 h1 h2
    subst h0 h1 h2 h3
    exact .inl ⟨rfl, rfl⟩
  · exact .inr ⟨g, cur.toList, h.a, h.base, ⟨T, fr, by simpa using h.blk, by simpa using h.fr⟩, h.len, h.cap, h.max, by simpa using h.size, h.take⟩
theorem OwnSl.of_row {E : Enc α} {B g : Nat} {s : Sl} {l : List α} {cur : List Value} (ha : s.a = some ⟨g, 0, none⟩) (hB : B ≤ g) (hr : RowAt w g cur) (hl : s.len = l.length) (hc : s.len ≤ s.cap) (hm : s.cap ≤ 9223372036854775807)
    (hs : cur.length = s.cap * E.sz) (ht : cur.take (l.length * E.sz) = l.flatMap E.cs) : OwnSl E w B s l := by
  obtain ⟨T, fr, h1, h2⟩ := hr
  exact .inr ⟨g, cur.toArray, T, fr, ha, hB, h1, by simpa using h2, hl, hc, hm, by simpa using hs, by simpa using ht⟩

theorem Wr.kp {b c : Nat} {w' : World} {X : Prop} (h : Wr c w w') (hb : b ≠ c) (x : X) : kp b w w' X := kp_wr h hb x

/-- A store into a place of an own slice. -/
theorem run_st_own {E : Enc α} {B : Nat} {t : TypeId} {s : Sl} {l : List α} {k : Nat} {v : Value} {x : α} (ht : sizeT P t = some E.sz) (h : OwnSl E w B s l) (hk : k < l.length) (hv : v.cells.toList = E.cs x) :
    ∃ w', (Instr.storeAt t (.pointer (some (s.at k E.sz))) v).run P w = .ok () w' ∧ w.grownBy w' s.blk ∧ OwnSl E w' B s (l.set k x) := by
  rcases h.row with ⟨_, h0⟩ | ⟨g, cur, ha, hB, hr, hl, hc, hm, hs, htk⟩
  · subst h0; simp at hk
  have e1 : s.at k E.sz = ⟨g, k * E.sz, none⟩ := by simp [Sl.at, ha, addr_add]
  have hlen : (E.cs x).length = E.sz := E.len x
  have hle : (k + 1) * E.sz ≤ s.cap * E.sz := Nat.mul_le_mul_right _ (by omega)
  have hkm : (k + 1) * E.sz = k * E.sz + E.sz := by rw [Nat.add_mul, Nat.one_mul]
  have hfit : k * E.sz + 0 + (E.cs x).length ≤ cur.length := by rw [hlen, hs]; omega
  obtain ⟨w', r1, r2, r3⟩ := hr.store (P := P) (o := k * E.sz) (i := 0) (vs := E.cs x) hfit (E.one x)
  refine ⟨w', ?_, ?_, ?_⟩
  · rw [e1]
    have hl' : v.cells.size = E.sz := by rw [← Array.length_toList, hv, hlen]
    simp only [Instr.storeAt, Instr.sureAddr, pure_bind, storeVar, Sem.run_bind, run_size ht, Result.andThen_ok, hl', ne_eq, not_true_eq_false, if_false]
    rw [hv]
    exact r1
  · rw [show s.blk = some g from by simp [Sl.blk, ha]]
    exact grown_wr r2
  · refine OwnSl.of_row ha hB r3 (by simpa using hl) hc hm (by rw [lay_len (by simpa using hfit)]; exact hs) ?_
    rw [Nat.add_zero, List.length_set]
    apply List.ext_getElem?
    intro i
    have hll : (l.set k x).length = l.length := by simp
    by_cases hi : i < l.length * E.sz
    · rw [List.getElem?_take, if_pos hi, lay_get (by simpa using hfit), hlen]
      -- which element
      have hq : i / E.sz < l.length := Nat.div_lt_of_lt_mul (by rw [Nat.mul_comm]; exact hi)
      have hsplit : i = i / E.sz * E.sz + i % E.sz := by rw [Nat.mul_comm]; exact (Nat.div_add_mod i E.sz).symm
      have hmod := Nat.mod_lt i E.pos
      have rhs : ((l.set k x).flatMap E.cs)[i]? = (E.cs ((l.set k x)[i / E.sz]'(by simpa using hq)))[i % E.sz]? := by
        conv => lhs; rw [hsplit]
        exact E.flat_get _ _ _ (by simpa using hq) hmod
      have old : cur[i]? = (E.cs l[i / E.sz])[i % E.sz]? := by
        have h1 : cur[i]? = (cur.take (l.length * E.sz))[i]? := by rw [List.getElem?_take, if_pos hi]
        rw [h1, htk]
        conv => lhs; rw [hsplit]
        exact E.flat_get _ _ _ hq hmod
      rw [rhs]
      by_cases hik : i / E.sz = k
      · have h2 : ¬ i < k * E.sz := by rw [hsplit, hik]; omega
        have h3 : i < k * E.sz + E.sz := by rw [hsplit, hik]; omega
        rw [if_neg h2, if_pos h3]
        have : (l.set k x)[i / E.sz]'(by simpa using hq) = x := by simp [hik]
        rw [this]
        congr 1
        rw [hik] at hsplit
        omega
      · have e2 : (l.set k x)[i / E.sz]'(by simpa using hq) = l[i / E.sz] := by
          rw [List.getElem_set, if_neg (Ne.symm hik)]
        rw [e2, ← old]
        by_cases h2 : i < k * E.sz
        · rw [if_pos h2]
        · have h3 : ¬ i < k * E.sz + E.sz := by
            intro h3
            apply hik
            refine Nat.le_antisymm ?_ ?_
            · have : i / E.sz < k + 1 := Nat.div_lt_of_lt_mul (by rw [Nat.mul_comm]; omega)
              omega
            · rw [Nat.le_div_iff_mul_le E.pos]; omega
          rw [if_neg h2, if_neg h3]
    · rw [List.getElem?_take, if_neg hi, List.getElem?_eq_none]
      rw [E.length_flat, hll]; omega

/-- The address of a place of an own slice. -/
theorem ix_own {E : Enc α} {B : Nat} {t : TypeId} {s : Sl} {l : List α} {i : Int} {k : Nat} {K : Addr → Prop} (ht : slOf P t = some E.sz) (h : OwnSl E w B s l) (hi : i = (k : Int)) (hk : k < l.length)
    (hK : K (s.at k E.sz)) : opRd P (Instr.indexAt t s.val (.int .i64 i)) pav K w := ⟨_, (ix_eq ht h.is hi hk).1, hK⟩
theorem st_own {E : Enc α} {B : Nat} {t : TypeId} {s : Sl} {l : List α} {k : Nat} {v : Value} {K : World → Prop} (x : α) (ht : sizeT P t = some E.sz) (h : OwnSl E w B s l) (hk : k < l.length) (hv : v.cells.toList = E.cs x)
    (hK : ∀ w', OwnSl E w' B s (l.set k x) → w.grownBy w' s.blk → K w') : opUn P (Instr.storeAt t (.pointer (some (s.at k E.sz))) v) K w := by
  obtain ⟨w', h1, h2, h3⟩ := run_st_own ht h hk hv
  exact ⟨w', h1, hK w' h3 h2⟩

/-! ### Copying -/
theorem run_ldCells' {xs : List Value} {b o n : Nat} (hn : xs.length = n) (h : CellsAt w b o xs) : (loadCells ⟨b, o, none⟩ n).run P w = .ok xs.toArray w := by
  have := run_ldCells (P := P) (w := w) (b := b) (o := o) xs 0 #[] (by simpa using h)
  subst hn
  simpa [loadCells] using this
/-- **copy(d, x)**, d a piece of a row of the call's own. -/
theorem run_copy {dT sT ty z : Nat} {d x : Sl} {g o n : Nat} {cur xs : List Value} (ht : slOf P dT = some z) (hn : min x.len d.len = n) (hr : RowAt w g cur) (hxs : xs.length = n * z) (h1 : ∀ v ∈ xs, v.oneCell' = true)
    (hd : 0 < n → d.a = some ⟨g, o, none⟩) (hx : 0 < n → ∃ b p, x.a = some ⟨b, p, none⟩ ∧ CellsAt w b p xs) (hfit : o + xs.length ≤ cur.length) :
    ∃ w', (Builtin.copy_ #[dT, sT] ty #[d.val, x.val]).run P w = .ok (.int .i64 (n : Int)) w' ∧ Wr g w w' ∧ RowAt w' g (lay cur o xs) := by
  obtain ⟨e, he, hz⟩ := slOf_spec ht
  obtain ⟨da, dl, dc⟩ := d
  obtain ⟨xa, xl, xc⟩ := x
  simp only at hn hd hx
  have h63 : min xl dl = n := hn
  by_cases h0 : n = 0
  · subst h0
    have hnil : xs = [] := List.length_eq_zero_iff.1 (by simpa using hxs)
    subst hnil
    refine ⟨w, ?_, Wr.refl _ _, by rw [lay_nil]; exact hr⟩
    have hl : ∀ (a : Addr), (loadCells a 0).run P w = .ok #[] w := fun a => by simp [loadCells, loadCellsFrom]
    have hmin : Nat.min xl dl = 0 := h63
    cases da <;> cases xa <;> simp [Builtin.copy_, Sl.val, run_und he, Builtin.lenOf, Builtin.firstCells, run_size hz, hmin, hl, storeCells, goInt]
  · have hp : 0 < n := Nat.pos_of_ne_zero h0
    have hd' := hd hp
    obtain ⟨b, p, hxa, hc⟩ := hx hp
    subst hd' hxa
    obtain ⟨w', r1, r2, r3⟩ := hr.store (P := P) (o := o) (i := 0) (vs := xs) (by simpa using hfit) h1
    refine ⟨w', ?_, r2, by simpa using r3⟩
    have hmin : Nat.min xl dl = n := h63
    have hl := run_ldCells' (P := P) hxs hc
    simp [Builtin.copy_, Sl.val, run_und he, Builtin.lenOf, Builtin.firstCells, run_size hz, hmin, hl, r1, goInt]

/-! ### Pieces, with their room -/
theorem run_sub_lh {t z : Nat} {s : Sl} {i j : Int} {m n : Nat} (ht : slOf P t = some z) (hi : i = (m : Int)) (hj : j = (n : Int)) (hij : m ≤ n) (hn : n ≤ s.cap) :
    (Instr.sliceAt t s.val (some (.int .i64 i)) (some (.int .i64 j)) none).run P w = .ok (s.sub m n z).val w := by
  obtain ⟨he, hz⟩ := elem_of ht
  subst hi hj
  rw [run_sliceAt_slice w t _ _ _ _ he, show s.val = .slice s.a s.len s.cap from rfl, run_slice_lh w t s.a s.len s.cap he _ _ _ _ (by omega) (by omega) (by omega), run_size hz]
  simp [Result.andThen, sliced, Sl.sub, Sl.val]
theorem run_sub_l {t z : Nat} {s : Sl} {i : Int} {m : Nat} (ht : slOf P t = some z) (hi : i = (m : Int)) (hm : m ≤ s.len) :
    (Instr.sliceAt t s.val (some (.int .i64 i)) none none).run P w = .ok (s.sub m s.len z).val w := by
  obtain ⟨he, hz⟩ := elem_of ht
  subst hi
  rw [run_sliceAt_slice w t _ _ _ _ he, show s.val = .slice s.a s.len s.cap from rfl, run_slice_l w t s.a s.len s.cap he _ _ (by omega) (by omega), run_size hz]
  simp [Result.andThen, sliced, Sl.sub, Sl.val]
theorem run_sub_h {t z : Nat} {s : Sl} {j : Int} {n : Nat} (ht : slOf P t = some z) (hj : j = (n : Int)) (hn : n ≤ s.cap) :
    (Instr.sliceAt t s.val none (some (.int .i64 j)) none).run P w = .ok (s.sub 0 n z).val w := by
  obtain ⟨he, hz⟩ := elem_of ht
  subst hj
  rw [run_sliceAt_slice w t _ _ _ _ he, show s.val = .slice s.a s.len s.cap from rfl, run_slice_h w t s.a s.len s.cap he _ _ (by omega) (by omega), run_size hz]
  simp [Result.andThen, sliced, Sl.sub, Sl.val]
/-- s[i:j:k]. -/
def Sl.sub3 (s : Sl) (i j k z : Nat) : Sl := ⟨if k = i then s.a else s.a.map (·.add (i * z)), j - i, k - i⟩
theorem run_sub_lhm {t z : Nat} {s : Sl} {i j k : Int} {m n c : Nat} (ht : slOf P t = some z) (hi : i = (m : Int)) (hj : j = (n : Int)) (hk : k = (c : Int)) (hij : m ≤ n) (hn : n ≤ c) (hc : c ≤ s.cap) :
    (Instr.sliceAt t s.val (some (.int .i64 i)) (some (.int .i64 j)) (some (.int .i64 k))).run P w = .ok (s.sub3 m n c z).val w := by
  obtain ⟨he, hz⟩ := elem_of ht
  subst hi hj hk
  rw [run_sliceAt_slice w t _ _ _ _ he, show s.val = .slice s.a s.len s.cap from rfl, run_slice_lhm w t s.a s.len s.cap he _ _ _ _ _ _ (by omega) (by omega) (by omega) (by omega), run_size hz]
  simp [Result.andThen, sliced, Sl.sub3, Sl.val]
theorem run_sub_hm {t z : Nat} {s : Sl} {j k : Int} {n c : Nat} (ht : slOf P t = some z) (hj : j = (n : Int)) (hk : k = (c : Int)) (hn : n ≤ c) (hc : c ≤ s.cap) :
    (Instr.sliceAt t s.val none (some (.int .i64 j)) (some (.int .i64 k))).run P w = .ok (s.sub3 0 n c z).val w := by
  obtain ⟨he, hz⟩ := elem_of ht
  subst hj hk
  rw [run_sliceAt_slice w t _ _ _ _ he, show s.val = .slice s.a s.len s.cap from rfl, run_slice_hm w t s.a s.len s.cap he _ _ _ _ (by omega) (by omega) (by omega), run_size hz]
  simp [Result.andThen, sliced, Sl.sub3, Sl.val]
/-- Where a piece lies, if it has room. -/
theorem Sl.sub_at {s : Sl} {i j z b o : Nat} (ha : s.a = some ⟨b, o, none⟩) (h : i < s.cap) : (s.sub i j z).a = some ⟨b, o + i * z, none⟩ := by
  unfold Sl.sub
  simp only
  rw [if_neg (by omega), ha]
  simp [addr_add]

end Go.Vc
/-
  Loops that count up, and one element put behind a slice. Of whatever program.
-/
namespace Go.Vc
open Go.RowKit (Below)
variable {α β γ δ : Type} {P : Program} {w : World}

theorem i64_up {k n : Nat} (h : k < n) (hn : n ≤ 9223372036854775807) : i64 ((k : Int) + 1) = ((k + 1 : Nat) : Int) := by rw [i64_id] <;> omega

theorem up1 {a : Int} {body : Int → (Int → World → Prop) → World → Prop} (J : Nat → World → Prop) (s n : Nat) (ha : a = (s : Int)) (hs : s ≤ n) (hn : n ≤ 9223372036854775807) (h0 : J s w)
    (step : ∀ (k : Nat) (w' : World) (C : Int → World → Prop), s ≤ k → k ≤ n → J k w' → (k < n → ∀ y w'', y = i64 ((k : Int) + 1) → J (k + 1) w'' → C y w'') → body (k : Int) C w') : loop1 a body w := by
  refine ⟨fun x w' => ∃ k : Nat, x = k ∧ s ≤ k ∧ k ≤ n ∧ J k w', fun x _ => (n - x).toNat, ⟨s, ha, Nat.le_refl _, hs, h0⟩, ?_⟩
  rintro x w' ⟨k, rfl, h1, h2, h3⟩
  refine step k w' _ h1 h2 h3 fun hk y w'' hy hJ => ?_
  subst hy
  rw [i64_up hk hn]
  exact ⟨⟨k + 1, rfl, by omega, by omega, hJ⟩, by dsimp only; omega⟩
theorem up2a {a : Int} {b : β} {body : Int → β → (Int → β → World → Prop) → World → Prop} (J : Nat → β → World → Prop) (s n : Nat) (ha : a = (s : Int)) (hs : s ≤ n) (hn : n ≤ 9223372036854775807) (h0 : J s b w)
    (step : ∀ (k : Nat) (b' : β) (w' : World) (C : Int → β → World → Prop), s ≤ k → k ≤ n → J k b' w' → (k < n → ∀ y b'' w'', y = i64 ((k : Int) + 1) → J (k + 1) b'' w'' → C y b'' w'') → body (k : Int) b' C w') : loop2 a b body w := by
  refine ⟨fun x b' w' => ∃ k : Nat, x = k ∧ s ≤ k ∧ k ≤ n ∧ J k b' w', fun x _ _ => (n - x).toNat, ⟨s, ha, Nat.le_refl _, hs, h0⟩, ?_⟩
  rintro x b' w' ⟨k, rfl, h1, h2, h3⟩
  refine step k b' w' _ h1 h2 h3 fun hk y b'' w'' hy hJ => ?_
  subst hy
  rw [i64_up hk hn]
  exact ⟨⟨k + 1, rfl, by omega, by omega, hJ⟩, by dsimp only; omega⟩
theorem up2b {a : Int} {b : β} {body : β → Int → (β → Int → World → Prop) → World → Prop} (J : Nat → β → World → Prop) (s n : Nat) (ha : a = (s : Int)) (hs : s ≤ n) (hn : n ≤ 9223372036854775807) (h0 : J s b w)
    (step : ∀ (k : Nat) (b' : β) (w' : World) (C : β → Int → World → Prop), s ≤ k → k ≤ n → J k b' w' → (k < n → ∀ y b'' w'', y = i64 ((k : Int) + 1) → J (k + 1) b'' w'' → C b'' y w'') → body b' (k : Int) C w') : loop2 b a body w := by
  refine ⟨fun b' x w' => ∃ k : Nat, x = k ∧ s ≤ k ∧ k ≤ n ∧ J k b' w', fun _ x _ => (n - x).toNat, ⟨s, ha, Nat.le_refl _, hs, h0⟩, ?_⟩
  rintro b' x w' ⟨k, rfl, h1, h2, h3⟩
  refine step k b' w' _ h1 h2 h3 fun hk y b'' w'' hy hJ => ?_
  subst hy
  rw [i64_up hk hn]
  exact ⟨⟨k + 1, rfl, by omega, by omega, hJ⟩, by dsimp only; omega⟩
theorem up3a {a : Int} {b : β} {c : γ} {body : Int → β → γ → (Int → β → γ → World → Prop) → World → Prop} (J : Nat → β → γ → World → Prop) (s n : Nat) (ha : a = (s : Int)) (hs : s ≤ n) (hn : n ≤ 9223372036854775807) (h0 : J s b c w)
    (step : ∀ (k : Nat) (b' : β) (c' : γ) (w' : World) (C : Int → β → γ → World → Prop), s ≤ k → k ≤ n → J k b' c' w' → (k < n → ∀ y b'' c'' w'', y = i64 ((k : Int) + 1) → J (k + 1) b'' c'' w'' → C y b'' c'' w'') → body (k : Int) b' c' C w') : loop3 a b c body w := by
  refine ⟨fun x b' c' w' => ∃ k : Nat, x = k ∧ s ≤ k ∧ k ≤ n ∧ J k b' c' w', fun x _ _ _ => (n - x).toNat, ⟨s, ha, Nat.le_refl _, hs, h0⟩, ?_⟩
  rintro x b' c' w' ⟨k, rfl, h1, h2, h3⟩
  refine step k b' c' w' _ h1 h2 h3 fun hk y b'' c'' w'' hy hJ => ?_
  subst hy
  rw [i64_up hk hn]
  exact ⟨⟨k + 1, rfl, by omega, by omega, hJ⟩, by dsimp only; omega⟩
theorem up3b {a : Int} {b : β} {c : γ} {body : β → Int → γ → (β → Int → γ → World → Prop) → World → Prop} (J : Nat → β → γ → World → Prop) (s n : Nat) (ha : a = (s : Int)) (hs : s ≤ n) (hn : n ≤ 9223372036854775807) (h0 : J s b c w)
    (step : ∀ (k : Nat) (b' : β) (c' : γ) (w' : World) (C : β → Int → γ → World → Prop), s ≤ k → k ≤ n → J k b' c' w' → (k < n → ∀ y b'' c'' w'', y = i64 ((k : Int) + 1) → J (k + 1) b'' c'' w'' → C b'' y c'' w'') → body b' (k : Int) c' C w') : loop3 b a c body w := by
  refine ⟨fun b' x c' w' => ∃ k : Nat, x = k ∧ s ≤ k ∧ k ≤ n ∧ J k b' c' w', fun _ x _ _ => (n - x).toNat, ⟨s, ha, Nat.le_refl _, hs, h0⟩, ?_⟩
  rintro b' x c' w' ⟨k, rfl, h1, h2, h3⟩
  refine step k b' c' w' _ h1 h2 h3 fun hk y b'' c'' w'' hy hJ => ?_
  subst hy
  rw [i64_up hk hn]
  exact ⟨⟨k + 1, rfl, by omega, by omega, hJ⟩, by dsimp only; omega⟩
theorem up3c {a : Int} {b : β} {c : γ} {body : β → γ → Int → (β → γ → Int → World → Prop) → World → Prop} (J : Nat → β → γ → World → Prop) (s n : Nat) (ha : a = (s : Int)) (hs : s ≤ n) (hn : n ≤ 9223372036854775807) (h0 : J s b c w)
    (step : ∀ (k : Nat) (b' : β) (c' : γ) (w' : World) (C : β → γ → Int → World → Prop), s ≤ k → k ≤ n → J k b' c' w' → (k < n → ∀ y b'' c'' w'', y = i64 ((k : Int) + 1) → J (k + 1) b'' c'' w'' → C b'' c'' y w'') → body b' c' (k : Int) C w') : loop3 b c a body w := by
  refine ⟨fun b' c' x w' => ∃ k : Nat, x = k ∧ s ≤ k ∧ k ≤ n ∧ J k b' c' w', fun _ _ x _ => (n - x).toNat, ⟨s, ha, Nat.le_refl _, hs, h0⟩, ?_⟩
  rintro b' c' x w' ⟨k, rfl, h1, h2, h3⟩
  refine step k b' c' w' _ h1 h2 h3 fun hk y b'' c'' w'' hy hJ => ?_
  subst hy
  rw [i64_up hk hn]
  exact ⟨⟨k + 1, rfl, by omega, by omega, hJ⟩, by dsimp only; omega⟩

/-! ### Lists, one element further -/
theorem take_up {l : List α} {k : Nat} (hk : k < l.length) : l.take (k + 1) = l.take k ++ [l[k]] := List.take_succ_eq_append_getElem hk
theorem all_up {l : List α} {k : Nat} {p : α → Prop} (hk : k < l.length) (h : ∀ x ∈ l.take k, p x) (hx : p l[k]) : ∀ x ∈ l.take (k + 1), p x := by
  intro x hx'
  rw [take_up hk, List.mem_append] at hx'
  rcases hx' with h1 | h1
  · exact h x h1
  · simp only [List.mem_singleton] at h1
    subst h1
    exact hx
theorem all_done {l : List α} {k : Nat} {p : α → Prop} (hk : ¬ k < l.length) (h : ∀ x ∈ l.take k, p x) : ∀ x ∈ l, p x := by
  rwa [List.take_of_length_le (by omega)] at h
theorem foldl_up {l : List α} {k : Nat} {f : β → α → β} {b : β} (hk : k < l.length) : (l.take (k + 1)).foldl f b = f ((l.take k).foldl f b) l[k] := by rw [take_up hk, List.foldl_append]; rfl
theorem flatMap_up {l : List α} {k : Nat} {f : α → List β} (hk : k < l.length) : (l.take (k + 1)).flatMap f = (l.take k).flatMap f ++ f l[k] := by rw [take_up hk, List.flatMap_append]; simp
theorem map_up {l : List α} {k : Nat} {f : α → β} (hk : k < l.length) : (l.take (k + 1)).map f = (l.take k).map f ++ [f l[k]] := by rw [take_up hk, List.map_append]; rfl
theorem filter_up {l : List α} {k : Nat} {f : α → Bool} (hk : k < l.length) : (l.take (k + 1)).filter f = (l.take k).filter f ++ (if f l[k] then [l[k]] else []) := by
  rw [take_up hk, List.filter_append, List.filter_cons, List.filter_nil]
theorem take_done {l : List α} {k : Nat} (hk : ¬ k < l.length) : l.take k = l := List.take_of_length_le (by omega)

/-! ### What an own slice's growth leaves alone -/
theorem Ext.own {E : Enc α} {w0 w w' : World} {B : Nat} {s : Sl} {l : List α} (hx : Ext w0 w) (ho : OwnSl E w B s l) (hB : w0.heap.size ≤ B) (hg : w.grownBy w' s.blk) : Ext w0 w' :=
  below_grown hx hx.size hg fun r hr => Nat.le_trans hB (ho.ge r hr)

theorem Ext.grown' {w0 w w' : World} {g : Nat} (hx : Ext w0 w) (hg : w.grownBy w' (some g)) (h : w0.heap.size ≤ g) : Ext w0 w' :=
  below_grown hx hx.size hg fun r hr => by cases hr; exact h
/-- A literal of one element. -/
theorem lit1_ty {E : Enc α} {t : TypeId} (by_ : Nat) {v : Value} {x : α} {K : Sl → World → Prop} (B : Nat) (ht : appOk P t (elemT P t) E.sz by_ = true) (hle : E.sz ≤ 1024)
    (hr : ∀ w : World, (Instr.buildSlice t 1 #[(0, v)]).run P w = .ok (.slice (some ⟨w.heap.size, 0, none⟩) 1 1) (w.alloc (.cells ⟨[x].flatMap E.cs⟩ (elemT P t)))) (hB : B ≤ w.heap.size)
    (hK : ∀ s w', s.a = some ⟨w.heap.size, 0, none⟩ → OwnSl E w' B s [x] → Ext w w' → K s w') : opTy P (Instr.buildSlice t 1 #[(0, v)]) Sl.val K w :=
  lit_ty by_ B ht rfl (by omega) hr hB hK
/-- append(out, x). -/
theorem push_ty {E : Enc α} {t : TypeId} (by_ : Nat) {v : Value} (x : α) {B : Nat} {out : Sl} {l : List α} {K : Sl → World → Prop} (ht : appOk P t (elemT P t) E.sz by_ = true) (hs : isSlT P t = true) (hle : E.sz ≤ 1024)
    (hr : ∀ w : World, (Instr.buildSlice t 1 #[(0, v)]).run P w = .ok (.slice (some ⟨w.heap.size, 0, none⟩) 1 1) (w.alloc (.cells ⟨[x].flatMap E.cs⟩ (elemT P t))))
    (ho : OwnSl E w B out l) (hB : B ≤ w.heap.size) (hby : 0 < by_) (hbytes : (l.length + 1) * by_ ≤ 140737488355328)
    (hK : ∀ s' w', OwnSl E w' B s' (l ++ [x]) → w.grownBy w' out.blk → K s' w') :
    opTy P (Instr.buildSlice t 1 #[(0, v)]) Sl.val (fun t6 w7 => opTy P (Builtin.append_ #[t, t] t #[out.val, t6.val]) Sl.val K w7) w := by
  refine lit1_ty by_ B ht hle hr hB fun s1 w1 _ ho1 hx1 => ?_
  refine app_ty by_ ht hs (ho.ext hx1) ho1.is (by simpa using hbytes) (Nat.le_trans hB hx1.size) hby fun s2 w2 ho2 hg2 => ?_
  exact hK _ _ ho2 (grown_trans (grown_ext hx1 _) hg2)
end Go.Vc
/-
  Lists whose keys rise, and a search in halves. Plain Lean over the words of 'Prim'.
-/
namespace Go.Vc

/-- Each key is below the next one. -/
def Rises {α : Type} (key : α → Int) (l : List α) : Prop := ∀ (i : Nat) (x y : α), l[i]? = some x → l[i + 1]? = some y → key x < key y
theorem Rises.lt {α : Type} {key : α → Int} {l : List α} (h : Rises key l) : ∀ (d i : Nat) (x y : α), l[i]? = some x → l[i + d + 1]? = some y → key x < key y
  | 0, i, x, y, hx, hy => h i x y hx hy
  | d + 1, i, x, y, hx, hy => by
    have hlt : i + d + 1 < l.length := by
      have := (List.getElem?_eq_some_iff.1 hy).1
      omega
    have hz := List.getElem?_eq_getElem hlt
    have h1 := h.lt d i x _ hx hz
    have h2 := h (i + d + 1) _ y hz (by rw [show i + d + 1 + 1 = i + (d + 1) + 1 from by omega]; exact hy)
    omega
theorem Rises.ij {α : Type} {key : α → Int} {l : List α} (h : Rises key l) {i j : Nat} (hij : i < j) (hj : j < l.length) : key (l[i]'(by omega)) < key l[j] := by
  obtain ⟨d, rfl⟩ : ∃ d, j = i + d + 1 := ⟨j - i - 1, by omega⟩
  exact h.lt d i _ _ (List.getElem?_eq_getElem (by omega)) (List.getElem?_eq_getElem hj)

/-- Where a key is, or would stand. -/
structure AtPlace {α : Type} (key : α → Int) (l : List α) (n : Int) (i : Nat) : Prop where
  le : i ≤ l.length
  below : ∀ (j : Nat) (x : α), l[j]? = some x → j < i → key x < n
  above : ∀ (j : Nat) (x : α), l[j]? = some x → i ≤ j → n ≤ key x

/-- (i + j) / 2, as it is reckoned. -/
theorem half {i j : Int} (h0 : 0 ≤ i) (hj : 0 ≤ j) (h : i + j ≤ 9223372036854775807) : IntKind.i64.wrap (shR .u64 (IntKind.u64.wrap (i64 (i + j))) 1) = (i + j) / 2 := by
  rw [i64_id (by omega) h]
  have e1 : IntKind.u64.wrap (i + j) = i + j := by
    have : IntKind.u64.wrap (i + j) = (i + j) % 18446744073709551616 := rfl
    omega
  have e2 : shR .u64 (i + j) 1 = (i + j).fdiv 2 := rfl
  rw [e1, e2, Int.fdiv_eq_ediv_of_nonneg _ (by omega)]
  exact i64_id (n := (i + j) / 2) (by omega) (by omega)
end Go.Vc
/-
  Pieces of Go's library as they are told (searching in halves, cloning), and comparing two lists. Of whatever program.
-/
namespace Go.Vc
open Go.RowKit (Below)
variable {α β γ δ : Type} {P : Program} {w : World}

/-! ### A list parted by a test: below 0, then 0 or above -/
structure AtC (c : α → Int) (l : List α) (i : Nat) : Prop where
  le : i ≤ l.length
  below : ∀ (j : Nat) (x : α), l[j]? = some x → j < i → c x < 0
  above : ∀ (j : Nat) (x : α), l[j]? = some x → i ≤ j → 0 ≤ c x
/-- Behind what is 0 or above all is above. -/
def RisesC (c : α → Int) (l : List α) : Prop := ∀ (i j : Nat) (x y : α), i < j → l[i]? = some x → l[j]? = some y → 0 ≤ c x → 0 < c y
def foundC (c : α → Int) (l : List α) (i : Nat) : Bool := match l[i]? with | some y => c y == 0 | none => false

theorem foundC_iff {c : α → Int} {l : List α} {i : Nat} : foundC c l i = true ↔ ∃ y, l[i]? = some y ∧ c y = 0 := by
  unfold foundC
  cases h : l[i]? with
  | none => simp
  | some y => simp
theorem AtC.lt_of {c : α → Int} {l : List α} {i j : Nat} {x : α} (h : AtC c l i) (hx : l[j]? = some x) (hc : c x < 0) : j < i := by
  by_cases hj : j < i
  · exact hj
  · have := h.above j x hx (by omega); omega
theorem mem_take_ix {l : List α} {i : Nat} {x : α} (h : x ∈ l.take i) : ∃ j, j < i ∧ l[j]? = some x := by
  obtain ⟨j, hj, rfl⟩ := List.getElem_of_mem h
  have hj' := hj
  rw [List.length_take] at hj'
  exact ⟨j, by omega, by rw [List.getElem_take]; exact List.getElem?_eq_getElem (by omega)⟩
theorem mem_drop_ix {l : List α} {i : Nat} {x : α} (h : x ∈ l.drop i) : ∃ j, i ≤ j ∧ l[j]? = some x := by
  obtain ⟨j, hj, rfl⟩ := List.getElem_of_mem h
  exact ⟨i + j, by omega, by rw [← List.getElem?_drop]; exact List.getElem?_eq_getElem hj⟩
theorem filter_parts {l : List α} {p : α → Bool} {i : Nat} (h1 : ∀ x ∈ l.take i, p x = true) (h2 : ∀ x ∈ l.drop i, p x = false) : l.filter p = l.take i := by
  conv => lhs; rw [← List.take_append_drop i l]
  rw [List.filter_append, List.filter_eq_self.2 h1, List.filter_eq_nil_iff.2 (fun x hx => by rw [h2 x hx]; simp), List.append_nil]
theorem filter_parts' {l : List α} {p : α → Bool} {i : Nat} (h1 : ∀ x ∈ l.take i, p x = false) (h2 : ∀ x ∈ l.drop i, p x = true) : l.filter p = l.drop i := by
  conv => lhs; rw [← List.take_append_drop i l]
  rw [List.filter_append, List.filter_eq_self.2 h2, List.filter_eq_nil_iff.2 (fun x hx => by rw [h1 x hx]; simp), List.nil_append]
theorem AtC.filter_lt {c : α → Int} {l : List α} {i : Nat} (h : AtC c l i) : l.filter (fun x => decide (c x < 0)) = l.take i := by
  refine filter_parts (fun x hx => ?_) (fun x hx => ?_)
  · obtain ⟨j, hj, hg⟩ := mem_take_ix hx
    exact decide_eq_true (h.below j x hg hj)
  · obtain ⟨j, hj, hg⟩ := mem_drop_ix hx
    have := h.above j x hg hj
    exact decide_eq_false (by omega)
theorem AtC.filter_gt_f {c : α → Int} {l : List α} {i : Nat} (h : AtC c l i) (hr : RisesC c l) (hf : foundC c l i = true) : l.filter (fun x => decide (0 < c x)) = l.drop (i + 1) := by
  obtain ⟨y, hy, h0⟩ := foundC_iff.1 hf
  refine filter_parts' (fun x hx => ?_) (fun x hx => ?_)
  · obtain ⟨j, hj, hg⟩ := mem_take_ix hx
    by_cases hji : j = i
    · subst hji; rw [hy] at hg; cases hg; exact decide_eq_false (by omega)
    · have := h.below j x hg (by omega)
      exact decide_eq_false (by omega)
  · obtain ⟨j, hj, hg⟩ := mem_drop_ix hx
    exact decide_eq_true (hr i j y x (by omega) hy hg (by omega))
theorem AtC.gt_n {c : α → Int} {l : List α} {i j : Nat} {x : α} (h : AtC c l i) (hr : RisesC c l) (hf : foundC c l i = false) (hj : i ≤ j) (hg : l[j]? = some x) : 0 < c x := by
  have h1 := h.above j x hg hj
  by_cases h0 : c x = 0
  · exfalso
    have hne : ¬ foundC c l i = true := by rw [hf]; simp
    by_cases hji : j = i
    · subst hji; exact hne (foundC_iff.2 ⟨x, hg, h0⟩)
    · have hjl := (List.getElem?_eq_some_iff.1 hg).1
      have hi : i < l.length := by omega
      have hgi := List.getElem?_eq_getElem hi
      have h2 := h.above i _ hgi (Nat.le_refl _)
      have h3 := hr i j _ _ (by omega) hgi hg h2
      omega
  · omega
theorem AtC.filter_gt_n {c : α → Int} {l : List α} {i : Nat} (h : AtC c l i) (hr : RisesC c l) (hf : foundC c l i = false) : l.filter (fun x => decide (0 < c x)) = l.drop i := by
  refine filter_parts' (fun x hx => ?_) (fun x hx => ?_)
  · obtain ⟨j, hj, hg⟩ := mem_take_ix hx
    have := h.below j x hg hj
    exact decide_eq_false (by omega)
  · obtain ⟨j, hj, hg⟩ := mem_drop_ix hx
    exact decide_eq_true (h.gt_n hr hf hj hg)
theorem AtC.ne_n {c : α → Int} {l : List α} {i : Nat} {x : α} (h : AtC c l i) (hr : RisesC c l) (hf : foundC c l i = false) (hx : x ∈ l) : c x ≠ 0 := by
  obtain ⟨j, hj, rfl⟩ := List.getElem_of_mem hx
  have hg := List.getElem?_eq_getElem hj
  by_cases hji : j < i
  · have := h.below j _ hg hji; omega
  · have := h.gt_n hr hf (by omega) hg; omega
theorem AtC.find {c : α → Int} {l : List α} {i : Nat} (h : AtC c l i) (hr : RisesC c l) : l.find? (fun x => c x == 0) = if foundC c l i = true then l[i]? else none := by
  split
  · rename_i hf
    obtain ⟨y, hy, h0⟩ := foundC_iff.1 hf
    obtain ⟨hi, hyi⟩ := List.getElem?_eq_some_iff.1 hy
    conv => lhs; rw [← List.take_append_drop i l]
    rw [List.find?_append, List.find?_eq_none.2, Option.none_or, List.drop_eq_getElem_cons hi, List.find?_cons, hyi, h0]
    · simp [hy]
    · intro x hx
      obtain ⟨j, hj, hg⟩ := mem_take_ix hx
      have := h.below j x hg hj
      simp; omega
  · rename_i hf
    have hf' : foundC c l i = false := by simpa using hf
    exact List.find?_eq_none.2 fun x hx => by have := h.ne_n hr hf' hx; simpa using this
/-- One more, in its place. -/
def insC (c : α → Int) (l : List α) (s : α) : List α := l.filter (fun x => decide (c x < 0)) ++ s :: l.filter (fun x => decide (0 < c x))
theorem AtC.ins_f {c : α → Int} {l : List α} {i : Nat} (h : AtC c l i) (hr : RisesC c l) (hf : foundC c l i = true) (s : α) : insC c l s = l.set i s := by
  obtain ⟨y, hy, h0⟩ := foundC_iff.1 hf
  obtain ⟨hi, hyi⟩ := List.getElem?_eq_some_iff.1 hy
  unfold insC
  rw [h.filter_lt, h.filter_gt_f hr hf, List.set_eq_take_append_cons_drop, if_pos hi]
theorem AtC.ins_n {c : α → Int} {l : List α} {i : Nat} (h : AtC c l i) (hr : RisesC c l) (hf : foundC c l i = false) (s : α) : insC c l s = l.take i ++ s :: l.drop i := by
  unfold insC
  rw [h.filter_lt, h.filter_gt_n hr hf]
theorem AtC.del_f {c : α → Int} {l : List α} {i : Nat} (h : AtC c l i) (hr : RisesC c l) (hf : foundC c l i = true) : l.filter (fun x => c x != 0) = l.take i ++ l.drop (i + 1) := by
  obtain ⟨y, hy, h0⟩ := foundC_iff.1 hf
  obtain ⟨hi, hyi⟩ := List.getElem?_eq_some_iff.1 hy
  conv => lhs; rw [← List.take_append_drop i l]
  rw [List.filter_append, List.drop_eq_getElem_cons hi, List.filter_cons, hyi, h0, List.filter_eq_self.2, List.filter_eq_self.2]
  · rfl
  · intro x hx
    obtain ⟨j, hj, hg⟩ := mem_drop_ix hx
    have := hr i j y x (by omega) hy hg (by omega)
    simp; omega
  · intro x hx
    obtain ⟨j, hj, hg⟩ := mem_take_ix hx
    have := h.below j x hg hj
    simp; omega
theorem AtC.del_n {c : α → Int} {l : List α} {i : Nat} (h : AtC c l i) (hr : RisesC c l) (hf : foundC c l i = false) : l.filter (fun x => c x != 0) = l :=
  List.filter_eq_self.2 fun x hx => by have := h.ne_n hr hf hx; simpa using this
theorem insC_rises {c : α → Int} {R : α → α → Prop} {l : List α} {s : α} (hl : l.Pairwise R) (h1 : ∀ x ∈ l, c x < 0 → R x s) (h2 : ∀ x ∈ l, 0 < c x → R s x) (h3 : ∀ x y, R x s → R s y → R x y) : (insC c l s).Pairwise R := by
  unfold insC
  rw [List.pairwise_append, List.pairwise_cons]
  refine ⟨hl.filter _, ⟨fun x hx => ?_, hl.filter _⟩, fun x hx y hy => ?_⟩
  · rw [List.mem_filter] at hx; exact h2 x hx.1 (by simpa using hx.2)
  · rw [List.mem_filter] at hx
    have hxs := h1 x hx.1 (by simpa using hx.2)
    rcases List.mem_cons.1 hy with rfl | hy
    · exact hxs
    · rw [List.mem_filter] at hy
      exact h3 _ _ hxs (h2 y hy.1 (by simpa using hy.2))

/-- slices.BinarySearchFunc, told. -/
theorem search_vc {E : Enc α} {t u g : Nat} {val : α → Value} {args : α → Array Value} {x : Sl} {l : List α} (c : α → Int) {K : Int × Bool → World → Prop} (ht : slOf P t = some E.sz) (hu : agT P u = some E.sz) (hv : ∀ y, val y = .agg ⟨E.cs y⟩)
    (hx : IsSl E w x l) (hle : l.length ≤ 4611686018427387903) (hr : RisesC c l)
    (hcall : ∀ y ∈ l, ∀ (w' : World) (K' : Int → World → Prop), Ext w w' → (∀ w'', Ext w' w'' → K' (c y) w'') → callV P (Value.int .i64) g (args y) w' K')
    (hK : ∀ (w' : World) (i : Nat), AtC c l i → Ext w w' → K ((i : Int), foundC c l i) w') :
    loop2 (0 : Int) ((x.len : Int) : Int) (fun i1 j2 k3 w4 =>
      ifB (decide (i1 < j2))
      (opRd P (Instr.indexAt t x.val (.int .i64 (IntKind.i64.wrap (shR .u64 (IntKind.u64.wrap (i64 (i1 + j2))) 1)))) pav (fun t5 =>
      opRd P (Instr.loadAt u (.pointer (some t5))) val (fun t6 =>
      callV P (Value.int .i64) g (args t6) w4 fun t7 w8 =>
      ifB (decide (t7 < 0))
      (k3 (i64 ((IntKind.i64.wrap (shR .u64 (IntKind.u64.wrap (i64 (i1 + j2))) 1)) + 1)) j2 w8)
      (k3 i1 (IntKind.i64.wrap (shR .u64 (IntKind.u64.wrap (i64 (i1 + j2))) 1)) w8)) w4) w4)
      (ifB (decide (i1 < (x.len : Int)))
      (opRd P (Instr.indexAt t x.val (.int .i64 i1)) pav (fun t9 =>
      opRd P (Instr.loadAt u (.pointer (some t9))) val (fun t10 =>
      callV P (Value.int .i64) g (args t10) w4 fun t11 w12 =>
      K (i1, (t11 == 0)) w12) w4) w4)
      (K (i1, false) w4))) w := by
  have hl := hx.len
  refine ⟨fun i j w' => Ext w w' ∧ ∃ (a b : Nat), i = a ∧ j = b ∧ a ≤ b ∧ b ≤ l.length ∧ (∀ (k : Nat) y, l[k]? = some y → k < a → c y < 0) ∧ (∀ (k : Nat) y, l[k]? = some y → b ≤ k → 0 ≤ c y), fun i j _ => (j - i).toNat,
    ⟨Ext.rfl' _, 0, l.length, rfl, by omega, by omega, by omega, fun k y _ hk => by omega, fun k y hy hk => by have := (List.getElem?_eq_some_iff.1 hy).1; omega⟩, ?_⟩
  rintro i j w1 ⟨hx1, a, b, rfl, rfl, hab, hb, hlo, hhi⟩
  refine ifD (fun hlt => ?_) (fun hge => ?_)
  · have hm := half (i := (a : Int)) (j := (b : Int)) (by omega) (by omega) (by omega)
    rw [hm]
    obtain ⟨m, hmm⟩ : ∃ m : Nat, ((a : Int) + b) / 2 = m := ⟨(a + b) / 2, by omega⟩
    rw [hmm]
    have hml : m < l.length := by omega
    have hget := List.getElem?_eq_getElem hml
    refine st_rd ht hu (hx.ext hx1) rfl hml hv fun _ => ?_
    refine hcall _ (List.getElem_mem _) _ _ hx1 fun w2 hx2 => ?_
    refine ifD (fun hneg => ?_) (fun hpos => ?_)
    · refine ⟨⟨hx1.trans' hx2, m + 1, b, by rw [i64_id] <;> omega, rfl, by omega, hb, fun k y hy hk => ?_, hhi⟩, ?_⟩
      · by_cases hkm : k = m
        · subst hkm; rw [hget] at hy; cases hy; exact hneg
        · by_cases h0 : c y < 0
          · exact h0
          · have := hr k m y _ (by omega) hy hget (by omega)
            omega
      · dsimp only
        rw [i64_id] <;> omega
    · refine ⟨⟨hx1.trans' hx2, a, m, rfl, rfl, by omega, by omega, hlo, fun k y hy hk => ?_⟩, ?_⟩
      · by_cases hkm : k = m
        · subst hkm; rw [hget] at hy; cases hy; omega
        · have := hr m k _ y (by omega) hget hy (by omega)
          omega
      · dsimp only
        omega
  · have hab' : a = b := by omega
    subst hab'
    have hp : AtC c l a := ⟨hb, hlo, hhi⟩
    refine ifD (fun hlt => ?_) (fun hge2 => ?_)
    · have hal : a < l.length := by omega
      have hget := List.getElem?_eq_getElem hal
      refine st_rd ht hu (hx.ext hx1) rfl hal hv fun _ => ?_
      refine hcall _ (List.getElem_mem _) _ _ hx1 fun w2 hx2 => ?_
      have := hK w2 a hp (hx1.trans' hx2)
      rw [show foundC c l a = (c l[a] == 0) from by unfold foundC; rw [hget]] at this
      exact this
    · have := hK w1 a hp hx1
      rw [show foundC c l a = false from by unfold foundC; rw [List.getElem?_eq_none (by omega)]] at this
      exact this

/-- slices.Clone, told. -/
theorem clone_vc {E : Enc α} {t : TypeId} (by_ : Nat) {s : Sl} {l : List α} {x y : Operand} {K : Sl → World → Prop} (ht : appOk P t (elemT P t) E.sz by_ = true) (hs : isSlT P t = true)
    (hb : ∀ w : World, (Instr.buildSlice t 0 #[]).run P w = .ok (.slice (some ⟨w.heap.size, 0, none⟩) 0 0) (w.alloc (.cells ⟨[]⟩ (elemT P t))))
    (h : IsSl E w s l) (hl : l.length * by_ ≤ 140737488355328) (hby : 0 < by_) (hK : ∀ s' w', OwnSl E w' w.heap.size s' l → Ext w w' → (l = [] → s'.len = 0) → K s' w') :
    opRd P (binSem .eql t x y s.val Sl.nil.val) Value.bool (fun t1 =>
      ifB t1 (K Sl.nil w)
      (opTy P (Instr.buildSlice t 0 #[]) Sl.val (fun t2 w3 =>
      opTy P (Builtin.append_ #[t, t] t #[t2.val, s.val]) Sl.val (fun t4 w5 => K t4 w5) w3) w)) w := by
  refine eqSlNil hs fun b hb' => ?_
  subst hb'
  refine ifB_of (fun hn => ?_) (fun hn => ?_)
  · have hn' : s.a = none := by simpa using hn
    have h1 := h.nil hn'
    have h2 := h.len
    have h3 := h.cap
    have : l = [] := List.length_eq_zero_iff.1 (by omega)
    subst this
    exact hK _ _ (OwnSl.nil _ _ _) (Ext.rfl' _) fun _ => rfl
  · refine lit_ty by_ (E := E) (xs := []) w.heap.size ht rfl (by omega) hb (Nat.le_refl _) fun s1 w1 _ ho hx => ?_
    refine app_ty by_ ht hs ho (h.ext hx) (by simpa using hl) hx.size hby fun s2 w2 ho2 hg => ?_
    rw [List.nil_append] at ho2
    exact hK _ _ ho2 (Ext.own hx ho (Nat.le_refl _) hg) fun h0 => by rw [ho2.len, h0]; rfl

/-- Two lists, compared element by element. -/
theorem same_vc {E : Enc α} {ta tb u : TypeId} {xo yo : Operand} {val : α → Value} {a b : Sl} {la lb : List α} {r : α → α → Bool} {K : Bool → World → Prop} (hta : slOf P ta = some E.sz) (htb : slOf P tb = some E.sz) (hu : agT P u = some E.sz) (hv : ∀ y, val y = .agg ⟨E.cs y⟩)
    (hg : noIface P u = true) (he : ∀ x y, EqV P 10000 u (.agg ⟨E.cs x⟩) (.agg ⟨E.cs y⟩) (r x y)) (hr : ∀ x y, r x y = true ↔ x = y)
    (ha : IsSl E w a la) (hb : IsSl E w b lb) (hK : ∀ t w', (t = true ↔ la = lb) → Ext w w' → K t w') :
    ifB ((a.len : Int) != (b.len : Int)) (K false w)
      (loop1 (0 : Int) (fun i1 k2 w3 =>
      ifB (decide (i1 < (a.len : Int)))
      (drewM (fun w4 =>
      opRd P (Instr.indexAt ta a.val (.int .i64 i1)) pav (fun t5 =>
      opRd P (Instr.loadAt u (.pointer (some t5))) val (fun t6 =>
      opRd P (Instr.indexAt tb b.val (.int .i64 i1)) pav (fun t7 =>
      opRd P (Instr.loadAt u (.pointer (some t7))) val (fun t8 =>
      opRd P (binSem .neq u xo yo (.agg ⟨E.cs t6⟩) (.agg ⟨E.cs t8⟩)) Value.bool (fun t9 =>
      ifB t9 (K false w4) (k2 (i64 (i1 + 1)) w4)) w4) w4) w4) w4) w4) w3)
      (K true w3)) w) := by
  have hla := ha.len
  have hlb := hb.len
  have hle := ha.le
  refine ifNe (fun hne => hK _ _ ⟨fun h => (by cases h), fun h => by subst h; omega⟩ (Ext.rfl' _)) fun heq => ?_
  have hlen : la.length = lb.length := by omega
  refine up1 (fun k w' => Ext w w' ∧ la.take k = lb.take k) 0 la.length rfl (by omega) hle ⟨Ext.rfl' _, rfl⟩ fun k w1 C _ hk ⟨hx, ht⟩ hC => ?_
  refine ifD (fun hlt => ?_) (fun hge => hK _ _ ⟨fun _ => ?_, fun _ => rfl⟩ hx)
  · have hk1 : k < la.length := by omega
    have hk2 : k < lb.length := by omega
    refine drew_of fun w2 hx2 => ?_
    have hx3 := hx.trans' hx2
    refine st_rd hta hu (ha.ext hx3) rfl hk1 hv fun _ => ?_
    refine st_rd htb hu (hb.ext hx3) rfl hk2 hv fun _ => ?_
    refine neSt hg (he _ _) ?_
    refine ifNot (ifB_of (fun h => ?_) (fun h => ?_))
    · have := (hr _ _).1 h
      exact hC hk1 _ _ rfl ⟨hx3, by rw [take_up hk1, take_up hk2, ht, this]⟩
    · refine hK _ _ ⟨fun h => (by cases h), fun h' => ?_⟩ hx3
      subst h'
      rw [(hr _ _).2 rfl] at h
      cases h
  · rw [← take_done (l := la) (k := k) (by omega), ht, take_done (by omega)]

end Go.Vc
/-
  Texts: a byte, a piece, two behind each other, going through runes; arrays behind pointers. Of whatever program.
-/
namespace Go.Vc
open Go.RowKit (Below)
variable {α β : Type} {P : Program} {w : World}

theorem ba_size (l : List UInt8) : (⟨⟨l⟩⟩ : ByteArray).size = l.length := rfl
theorem ba_extract (s : List UInt8) (l h : Nat) : (⟨⟨s⟩⟩ : ByteArray).extract l h = ⟨⟨(s.drop l).take (h - l)⟩⟩ := by
  apply ByteArray.ext
  apply Array.ext'
  rw [ByteArray.data_extract]
  simp [List.extract_eq_take_drop]

/-- s[i]. -/
theorem idx_str {t : TypeId} {s : List UInt8} {k : IntKind} {i : Int} (n : Nat) {K : Int → Prop} (ht : strT P t = true) (hi : i = (n : Int)) (hn : n < s.length) (hK : K (s[n].toNat : Int)) :
    opRd P (Instr.index t (sval s) (.int k i)) (Value.int .u8) K w := by
  subst hi
  refine ⟨_, ?_, hK⟩
  have h1 := strT_spec ht
  unfold sval Instr.index
  have hg : (⟨⟨s⟩⟩ : ByteArray)[n]? = some s[n] := by
    show (if h : n < (⟨⟨s⟩⟩ : ByteArray).size then some _ else none) = _
    rw [dif_pos (by rw [ba_size]; exact hn)]
    rfl
  simp only [asIntOf, pure_bind, Sem.run_bind, run_und h1, Result.andThen_ok]
  have h0 : (0 : Int) ≤ (n : Int) := by omega
  simp [hg]

theorem sub_str_lh {t : TypeId} {s : List UInt8} {i j : Int} {ki kj : IntKind} {m n : Nat} {K : List UInt8 → Prop} (ht : strT P t = true) (hi : i = (m : Int)) (hj : j = (n : Int)) (hij : m ≤ n) (hn : n ≤ s.length) (hK : K ((s.drop m).take (n - m))) :
    opRd P (Instr.sliceAt t (sval s) (some (.int ki i)) (some (.int kj j)) none) sval K w := by
  have h1 := strT_spec ht
  subst hi hj
  refine ⟨_, ?_, hK⟩
  rw [show sval s = .string ⟨⟨s⟩⟩ from rfl, run_sliceAt_string _ _ _ _ _ _ h1]
  simp only [Instr.slice, Sem.run_bind, run_und h1, Result.andThen_ok, Instr.sliceBounds, ba_size]
  have e2 : (0 : Int) ≤ (n : Int) := by omega
  have e3 : (0 : Int) ≤ (m : Int) := by omega
  simp [run_sliceBound, hij, hn, ba_extract, sval]
theorem sub_str_l {t : TypeId} {s : List UInt8} {i : Int} {ki : IntKind} {m : Nat} {K : List UInt8 → Prop} (ht : strT P t = true) (hi : i = (m : Int)) (hm : m ≤ s.length) (hK : K (s.drop m)) :
    opRd P (Instr.sliceAt t (sval s) (some (.int ki i)) none none) sval K w := by
  have h1 := strT_spec ht
  subst hi
  refine ⟨_, ?_, hK⟩
  rw [show sval s = .string ⟨⟨s⟩⟩ from rfl, run_sliceAt_string _ _ _ _ _ _ h1, run_slice_string_l _ _ _ h1 _ _ (by omega) (by rw [ba_size]; omega), ba_extract]
  simp only [Int.toNat_natCast, ba_size, sval]
  rw [List.take_of_length_le (by simp)]
theorem sub_str_h {t : TypeId} {s : List UInt8} {j : Int} {kj : IntKind} {n : Nat} {K : List UInt8 → Prop} (ht : strT P t = true) (hj : j = (n : Int)) (hn : n ≤ s.length) (hK : K (s.take n)) :
    opRd P (Instr.sliceAt t (sval s) none (some (.int kj j)) none) sval K w := by
  have h1 := strT_spec ht
  subst hj
  refine ⟨_, ?_, hK⟩
  rw [show sval s = .string ⟨⟨s⟩⟩ from rfl, run_sliceAt_string _ _ _ _ _ _ h1, run_slice_string_h _ _ _ h1 _ _ (by omega) (by rw [ba_size]; omega), ba_extract]
  simp [sval]
/-- a + b. -/
theorem cat_str {t : TypeId} {x y : Operand} {a b : List UInt8} {K : List UInt8 → Prop} (h : a.length + b.length ≤ 9223372036854775807) (hK : K (a ++ b)) : opRd P (binSem .add t x y (sval a) (sval b)) sval K w := by
  refine ⟨_, ?_, hK⟩
  unfold binSem
  have hg : (eqGuard .add t x y (sval a) (sval b)).run P w = .ok () w := by simp [eqGuard]
  rw [Sem.run_bind, hg, Result.andThen_ok]
  show (binOp .add t (.string ⟨⟨a⟩⟩) (.string ⟨⟨b⟩⟩)).run P w = _
  have : binOp .add t (.string ⟨⟨a⟩⟩) (.string ⟨⟨b⟩⟩) = Op.stringOp .add ⟨⟨a⟩⟩ ⟨⟨b⟩⟩ := rfl
  rw [this, run_string_add_sum w _ _ (by rw [ba_size, ba_size]; exact h)]
  congr 2

/-! ### Going through a text's runes -/
/-- An iterator over a text, at a place. -/
def ItAt (w : World) (a : Addr) (s : List UInt8) (pos : Nat) : Prop := a = ⟨a.block, 0, none⟩ ∧ w.heap[a.block]? = some (.stringIter ⟨⟨s⟩⟩ pos)
theorem ItAt.lt {a : Addr} {s : List UInt8} {pos : Nat} (h : ItAt w a s pos) : a.block < w.heap.size := (Array.getElem?_eq_some_iff.1 h.2).1
theorem ItAt.keep {w' : World} {a : Addr} {s : List UInt8} {pos : Nat} (h : ItAt w a s pos) (hk : w'.heap[a.block]? = w.heap[a.block]?) : ItAt w' a s pos := ⟨h.1, by rw [hk]; exact h.2⟩
theorem ItAt.ext {w' : World} {a : Addr} {s : List UInt8} {pos : Nat} (h : ItAt w a s pos) (hx : Ext w w') : ItAt w' a s pos := h.keep (hx.block _ h.lt)
theorem range_ty {t : TypeId} {s : List UInt8} {K : Addr → World → Prop} (ht : strT P t = true) (hK : ∀ a w', a.block = w.heap.size → ItAt w' a s 0 → Ext w w' → K a w') : opTy P (Instr.range t (sval s)) pav K w := by
  have h1 := strT_spec ht
  refine ⟨⟨w.heap.size, 0, none⟩, _, run_range_string w t _ h1, hK _ _ rfl ⟨rfl, ?_⟩ ?_⟩
  · exact World.iter_heap w _ 0
  · exact Ext.alloc w _
/-- What the next rune is, and how wide. -/
def decAt (s : List UInt8) (pos : Nat) : Nat × Nat := Utf8.decode ⟨⟨s⟩⟩ pos
theorem next_al {a : Addr} {s : List UInt8} {pos : Nat} {K1 : Int × Int → World → Prop} {K2 : Unit → World → Prop} (h : ItAt w a s pos)
    (h1 : pos < s.length → ∀ w', Wr a.block w w' → ItAt w' a s (pos + (decAt s pos).2) → K1 ((pos : Int), ((decAt s pos).1 : Int)) w') (h2 : ¬ pos < s.length → K2 () w) :
    opAl P (Instr.next (.pointer (some a)) true 0) (nxval (Value.int .i64) (Value.int .i32)) endval K1 K2 w := by
  obtain ⟨ha, hb⟩ := h
  rw [ha]
  by_cases hp : pos < s.length
  · refine .inl ⟨_, { w with heap := w.heap.setIfInBounds a.block (.stringIter ⟨⟨s⟩⟩ (pos + (decAt s pos).2)) }, ?_, h1 hp _ ?_ ⟨ha, ?_⟩⟩
    · have hp' : pos < (⟨⟨s⟩⟩ : ByteArray).size := hp
      simp only [Instr.next, getObj, setObj, Sem.run_bind, Sem.run, hb, Result.andThen, hp', if_true]
      simp [goInt, nxval, decAt]
    · refine ⟨rfl, rfl, rfl, by simp, fun k hk => ?_⟩
      simp [Ne.symm hk]
    · have hlt := (Array.getElem?_eq_some_iff.1 hb).1
      simp [hlt]
  · refine .inr ⟨(), w, ?_, h2 hp⟩
    have hp' : ¬ pos < (⟨⟨s⟩⟩ : ByteArray).size := hp
    simp [Instr.next, getObj, Sem.run, hb, hp', endval]

/-! ### Arrays behind pointers -/
def arOf (P : Program) (t : TypeId) : Option (Nat × Nat) :=
  match P.underlying t with
  | some (.array n e) => match sizeT P e with
    | some z => some (n, z)
    | none => none
  | _ => none
theorem arOf_spec {t n z : Nat} (h : arOf P t = some (n, z)) : ∃ e, P.underlying t = some (.array n e) ∧ sizeT P e = some z := by
  unfold arOf at h
  split at h
  · rename_i m e he
    split at h
    · rename_i y hy
      simp only [Option.some.injEq, Prod.mk.injEq] at h
      exact ⟨e, by rw [he, h.1], by rw [hy, h.2]⟩
    · cases h
  · cases h
theorem ix_ar {t n z : Nat} {a : Addr} {k : IntKind} {i : Int} (m : Nat) {K : Addr → Prop} (ht : arOf P t = some (n, z)) (hi : i = (m : Int)) (hm : m < n) (hK : K (a.add (m * z))) :
    opRd P (Instr.indexAt t (.pointer (some a)) (.int k i)) pav K w := by
  obtain ⟨e, he, hz⟩ := arOf_spec ht
  subst hi
  refine ⟨_, ?_, hK⟩
  simp only [Instr.indexAt, asIntOf, pure_bind, Sem.run_bind, run_und he, Result.andThen_ok, Instr.sureAddr]
  have : (0 : Int) ≤ (m : Int) ∧ (m : Int) < (n : Int) := ⟨by omega, by omega⟩
  simp [this, run_size hz, pav]
/-- A cell of a global. -/
theorem ld_cell {t : TypeId} {a : Addr} {val : β → Value} {y : β} {K : β → Prop} (ht : oneT P t = true) (h : w.cell? a = some (val y)) (hK : K y) : opRd P (Instr.loadAt t (.pointer (some a))) val K w := ⟨y, run_ld ht h, hK⟩

/-! ### The order of texts -/
theorem lex_eq : ∀ (x y : List UInt8), Op.bytesLess x y = decide (x < y)
  | [], [] => by simp [Op.bytesLess]
  | _ :: _, [] => by simp [Op.bytesLess]
  | [], _ :: _ => by simp [Op.bytesLess]
  | a :: x, b :: y => by
    rw [Op.bytesLess, lex_eq x y]
    simp only [List.cons_lt_cons_iff]
    by_cases h1 : a < b <;> by_cases h2 : a = b <;> by_cases h3 : x < y <;> simp [h1, h2, h3]
theorem strLt_eq (a b : List UInt8) : strLt a b = decide (a < b) := by
  unfold strLt
  rw [ByteArray.toList_eq, ByteArray.toList_eq]
  exact lex_eq a b
theorem str_lt_irrefl (a : List UInt8) : ¬ a < a := List.lt_irrefl a
theorem str_lt_trans {a b c : List UInt8} (h : a < b) (k : b < c) : a < c := List.lt_trans h k
theorem str_lt_asymm {a b : List UInt8} (h : a < b) : ¬ b < a := fun k => List.lt_irrefl a (List.lt_trans h k)
theorem str_tri (a b : List UInt8) : a < b ∨ a = b ∨ b < a := by
  by_cases h : a < b
  · exact .inl h
  · by_cases k : b < a
    · exact .inr (.inr k)
    · exact .inr (.inl (List.le_antisymm (List.not_lt.1 k) (List.not_lt.1 h)))
end Go.Vc
/-
  slices.Insert, slices.Delete, make, copy: as they are told. Of whatever program.
-/
set_option linter.unusedVariables false
namespace Go.Vc
open Go.RowKit (Below)
variable {α β γ δ : Type} {P : Program} {w : World}

/-! ### A literal slice, its block known whole -/
structure LitSl (E : Enc α) (w : World) (g : Nat) (s : Sl) (l : List α) : Prop where
  eq : s = ⟨some ⟨g, 0, none⟩, l.length, l.length⟩
  small : l.length ≤ 1024
  blk : ∃ T, w.heap[g]? = some (.cells (l.flatMap E.cs).toArray T (0, 0))
theorem LitSl.ext {E : Enc α} {g : Nat} {s : Sl} {l : List α} {w' : World} (h : LitSl E w g s l) (hx : Ext w w') : LitSl E w' g s l := by
  obtain ⟨T, hT⟩ := h.blk
  exact ⟨h.eq, h.small, T, by rw [hx.block g (Array.getElem?_eq_some_iff.1 hT).1]; exact hT⟩
theorem LitSl.keep {E : Enc α} {g : Nat} {s : Sl} {l : List α} {w' : World} (h : LitSl E w g s l) (hx : w'.heap[g]? = w.heap[g]?) : LitSl E w' g s l := by
  obtain ⟨T, hT⟩ := h.blk
  exact ⟨h.eq, h.small, T, by rw [hx]; exact hT⟩
theorem LitSl.lt {E : Enc α} {g : Nat} {s : Sl} {l : List α} (h : LitSl E w g s l) : g < w.heap.size := by
  obtain ⟨T, hT⟩ := h.blk
  exact (Array.getElem?_eq_some_iff.1 hT).1
theorem LitSl.is {E : Enc α} {g : Nat} {s : Sl} {l : List α} (h : LitSl E w g s l) : IsSl E w s l := by
  obtain ⟨T, hT⟩ := h.blk
  have hs := h.small
  have e := h.eq
  subst e
  exact ⟨rfl, Nat.le_refl _, by dsimp only; omega, .inr ⟨g, 0, rfl, h.lt, fun j v hj => by simp [World.cell?, hT, hj]⟩, fun h => by cases h⟩
theorem lit_sl {E : Enc α} {t : TypeId} {n : Nat} {parts : Array (Nat × Value)} (xs : List α) {K : Sl → World → Prop} (hn : xs.length = n) (hle : n ≤ 1024)
    (hr : ∀ w : World, (Instr.buildSlice t n parts).run P w = .ok (.slice (some ⟨w.heap.size, 0, none⟩) n n) (w.alloc (.cells ⟨xs.flatMap E.cs⟩ (elemT P t))))
    (hK : ∀ s w', LitSl E w' w.heap.size s xs → Ext w w' → K s w') : opTy P (Instr.buildSlice t n parts) Sl.val K w := by
  subst hn
  exact ⟨⟨some ⟨w.heap.size, 0, none⟩, xs.length, xs.length⟩, _, hr w, hK _ _ ⟨rfl, hle, elemT P t, heap_alloc_new _ _⟩ (Ext.alloc _ _)⟩

/-! ### Copying into rows -/
theorem lay_take {cur vs : List Value} {o n : Nat} (h : o + vs.length ≤ cur.length) (hn : n ≤ o) : (lay cur o vs).take n = cur.take n := by
  apply List.ext_getElem?
  intro i
  rw [List.getElem?_take, List.getElem?_take, lay_get h]
  by_cases hi : i < n
  · rw [if_pos hi, if_pos hi, if_pos (by omega)]
  · rw [if_neg hi, if_neg hi]
/-- What three pieces behind each other come to. -/
theorem pieces3 {cur X V Y : List Value} (h1 : cur.take X.length = X) (hfit : X.length + V.length + Y.length ≤ cur.length) :
    (lay (lay cur (X.length + V.length) Y) X.length V).take (X.length + V.length + Y.length) = X ++ V ++ Y := by
  have hl1 : (lay cur (X.length + V.length) Y).length = cur.length := lay_len (by omega)
  apply List.ext_getElem?
  intro i
  rw [List.getElem?_take]
  by_cases hi : i < X.length + V.length + Y.length
  · rw [if_pos hi, lay_get (by omega)]
    by_cases i1 : i < X.length
    · rw [if_pos i1, lay_get (by omega), if_pos (by omega), List.append_assoc, List.getElem?_append_left i1]
      conv => rhs; rw [← h1]
      rw [List.getElem?_take, if_pos i1]
    · rw [if_neg i1]
      by_cases i2 : i < X.length + V.length
      · rw [if_pos i2, List.append_assoc, List.getElem?_append_right (by omega), List.getElem?_append_left (by omega)]
      · rw [if_neg i2, lay_get (by omega), if_neg i2, if_pos hi, List.getElem?_append_right (by rw [List.length_append]; omega), List.length_append]
  · rw [if_neg hi, List.getElem?_eq_none (by simp; omega)]
theorem pieces3' {cur X V Y : List Value} (h1 : cur.take X.length = X) (hfit : X.length + V.length + Y.length ≤ cur.length) :
    (lay (lay cur X.length V) (X.length + V.length) Y).take (X.length + V.length + Y.length) = X ++ V ++ Y := by
  have hl1 : (lay cur X.length V).length = cur.length := lay_len (by omega)
  apply List.ext_getElem?
  intro i
  rw [List.getElem?_take]
  by_cases hi : i < X.length + V.length + Y.length
  · rw [if_pos hi, lay_get (by omega)]
    by_cases i1 : i < X.length
    · rw [if_pos (by omega), lay_get (by omega), if_pos i1, List.append_assoc, List.getElem?_append_left i1]
      conv => rhs; rw [← h1]
      rw [List.getElem?_take, if_pos i1]
    · by_cases i2 : i < X.length + V.length
      · rw [if_pos i2, lay_get (by omega), if_neg i1, if_pos i2, List.append_assoc, List.getElem?_append_right (by omega), List.getElem?_append_left (by omega)]
      · rw [if_neg i2, if_pos hi, List.getElem?_append_right (by rw [List.length_append]; omega), List.length_append]
  · rw [if_neg hi, List.getElem?_eq_none (by simp; omega)]

/-- append(x, make(S, k)...), which has no room. -/
theorem grow_ty {t ti ty : TypeId} (z by_ : Nat) {x : Sl} {olds : List Value} {i : Int} {k : Nat} {K : Sl → World → Prop} (ht : appOk P t (elemT P t) z by_ = true) (hti : intT P .i64 ti = true) (hz : 0 < z) (hby : 0 < by_) (hi : i = (k : Int)) (hk : 0 < k)
    (hcap : x.cap < x.len + k) (ho : olds.length = x.len * z) (hc : x.len = 0 ∨ ∃ b p, x.a = some ⟨b, p, none⟩ ∧ CellsAt w b p olds) (hbytes : (x.len + k) * by_ ≤ 140737488355328)
    (hK : ∀ s w' cur, s.a = some ⟨w.heap.size, 0, none⟩ → s.len = x.len + k → s.len ≤ s.cap → s.cap ≤ 9223372036854775807 → RowAt w' w.heap.size cur → cur.length = s.cap * z → cur.take (x.len * z) = olds → Ext w w' → K s w') :
    opTy P (Builtin.append_ #[t, ti] ty #[x.val, .int .i64 i]) Sl.val K w := by
  obtain ⟨hu, inf, zv, hinf, hsz, hb', hzv, hzs⟩ := appOk_spec ht
  subst hi
  obtain ⟨xa, xl, xc⟩ := x
  simp only at hcap ho hc hbytes
  have hint : P.underlying ti = some (.int .i64) := by
    unfold intT at hti
    split at hti
    case h_2 => cases hti
    case h_1 k' hk' => rw [hk', of_decide_eq_true hti]
  have hm : xl + k ≤ 140737488355328 := Nat.le_trans (Nat.le_mul_of_pos_right _ hby) hbytes
  have hold : (Builtin.firstCells inf.size xl (.slice xa xl xc)).run P w.drew = .ok olds.toArray w.drew := by
    rw [hsz]
    rcases hc with h0 | ⟨b, p, ha, hcs⟩
    · subst h0
      have : olds = [] := List.length_eq_zero_iff.1 (by simpa using ho)
      subst this
      cases xa <;> simp [Builtin.firstCells, loadCells, loadCellsFrom]
    · subst ha
      have hcs' : CellsAt w.drew b p olds := hcs.same rfl
      simp only [Builtin.firstCells]
      exact run_ldCells' ho hcs'
  have hkb : k * inf.bytes ≤ 281474976710656 := by
    rw [hb']
    have : k * by_ ≤ (xl + k) * by_ := Nat.mul_le_mul_right _ (by omega)
    omega
  have hr := Lib.run_append_grow_zeros (P := P) w t ti ty _ inf zv .i64 .i64 hu hint hinf hzv xa xl xc olds hold k hk (by omega) hcap (by omega) hkb (growslice_fits hcap (by rw [hb']; exact hbytes))
  have hge := grownCap_ge w (xl + k) xc (elemT P t)
  have hle := grownCap_le_maxLen w (xl + k) xc (elemT P t) (by simp only [maxLen]; omega)
  refine ⟨⟨some ⟨w.heap.size, 0, none⟩, xl + k, grownCap w (xl + k) xc (elemT P t)⟩, _, hr, hK _ _ (olds ++ (Builtin.zeroCells zv.cells k).toList ++ (Builtin.zeroCells zv.cells (grownCap w (xl + k) xc (elemT P t) - (xl + k))).toList) rfl rfl hge ?_ ⟨elemT P t, (0, 0), ?_, .inl rfl⟩ ?_ ?_ ?_⟩
  · simp only [maxLen] at hle; exact hle
  · have := heap_alloc_new w.drew (.cells (olds.toArray ++ Builtin.zeroCells zv.cells k ++ Builtin.zeroCells zv.cells (grownCap w (xl + k) xc (elemT P t) - (xl + k))) (elemT P t) (0, 0))
    rw [show w.heap.size = w.drew.heap.size from rfl, this]
    congr 2
    simp
  · simp only [List.length_append, Array.length_toList, size_zeroCells, hzs, ho]
    rw [← Nat.add_mul, ← Nat.add_mul]
    congr 1
    omega
  · rw [List.append_assoc, ← ho]
    exact List.take_left
  · exact ⟨rfl, rfl, rfl, by simp, fun k hk => Below.heap_alloc w.drew _ k hk⟩

/-- make(S, n). -/
theorem make_ty {E : Enc α} {t : TypeId} (by_ : Nat) (z : α) {zv : Value} {i : Int} {n B : Nat} {K : Sl → World → Prop} (ht : appOk P t (elemT P t) E.sz by_ = true) (hz : (P.info? (elemT P t)).bind (·.zero) = some zv) (hzc : zv.cells.toList = E.cs z) (hi : i = (n : Int))
    (hbytes : n * by_ ≤ 140737488355328) (hby : 0 < by_) (hB : B ≤ w.heap.size) (hK : ∀ s w', s.a = some ⟨w.heap.size, 0, none⟩ → OwnSl E w' B s (List.replicate n z) → Ext w w' → K s w') :
    opTy P (Instr.makeSlice t (.int .i64 i) (.int .i64 i)) Sl.val K w := by
  obtain ⟨hu, inf, zv', hinf, hsz, hb', hzv, hzs⟩ := appOk_spec ht
  subst hi
  have hzz : zv' = zv := by rw [hinf] at hz; simp only [Option.bind_some] at hz; rw [hzv] at hz; exact Option.some.inj hz
  subst hzz
  have hm : n ≤ 140737488355328 := Nat.le_trans (Nat.le_mul_of_pos_right _ hby) hbytes
  have hr := run_make (P := P) w t _ inf zv' hu hinf hzv .i64 .i64 (n : Int) (n : Int) (by omega) (Int.le_refl _) (by
    rw [hb']
    have : ((n * by_ : Nat) : Int) ≤ 140737488355328 := by omega
    rw [Int.natCast_mul, Int.mul_comm] at this
    omega) (by omega)
  simp only [Int.toNat_natCast] at hr
  have hlen : (madeCells zv'.cells (n * inf.size)).size = n * E.sz := by rw [size_madeCells, hsz]
  refine ⟨⟨some ⟨w.heap.size, 0, none⟩, n, n⟩, _, hr, hK _ _ rfl ?_ (Ext.alloc _ _)⟩
  refine OwnSl.of_row (g := w.heap.size) (cur := (madeCells zv'.cells (n * inf.size)).toList) rfl hB ⟨elemT P t, (0, 0), by rw [heap_alloc_new], .inl rfl⟩ (by simp) (Nat.le_refl _) (by dsimp only; omega) (by simpa using hlen) ?_
  rw [List.length_replicate, List.take_of_length_le (by rw [Array.length_toList, hlen]; exact Nat.le_refl _)]
  apply List.ext_getElem?
  intro j
  by_cases hj : j < n * E.sz
  · have hq : j / E.sz < n := Nat.div_lt_of_lt_mul (by rw [Nat.mul_comm]; exact hj)
    have hmod := Nat.mod_lt j E.pos
    have hsplit : j = j / E.sz * E.sz + j % E.sz := by rw [Nat.mul_comm]; exact (Nat.div_add_mod j E.sz).symm
    have rhs : ((List.replicate n z).flatMap E.cs)[j]? = (E.cs z)[j % E.sz]? := by
      conv => lhs; rw [hsplit]
      rw [E.flat_get _ _ _ (by simpa using hq) hmod]
      simp
    rw [rhs, ← hzc]
    have h1 : j % E.sz < zv'.cells.size := by rw [hzs]; exact hmod
    have h2 : j < n * inf.size := by rw [hsz]; exact hj
    rw [Array.getElem?_toList, Array.getElem?_toList]
    unfold madeCells
    rw [Array.getElem?_map, Array.getElem?_range, if_pos h2, Option.map_some, hzs, Array.getElem?_eq_getElem h1, getElem!_pos zv'.cells _ h1]
  · rw [List.getElem?_eq_none (by rw [Array.length_toList, hlen]; omega), List.getElem?_eq_none (by rw [E.length_flat, List.length_replicate]; omega)]

/-- copy(d, x), d an own slice, x as long. -/
theorem copy_own {E : Enc α} {t tx ty : TypeId} {B : Nat} {d x : Sl} {l ms : List α} {K : Int → World → Prop} (ht : slOf P t = some E.sz) (ho : OwnSl E w B d l) (hx : IsSl E w x ms) (hlen : l.length = ms.length)
    (hK : ∀ w', OwnSl E w' B d ms → w.grownBy w' d.blk → K (ms.length : Int) w') : opTy P (Builtin.copy_ #[t, tx] ty #[d.val, x.val]) (Value.int .i64) K w := by
  have hxl := hx.len
  have hdl := ho.len
  rcases ho.row with ⟨h0, h1⟩ | ⟨g, cur, ha, hB, hr, hl, hc, hm, hs, htk⟩
  · subst h0 h1
    have : ms = [] := List.length_eq_zero_iff.1 (by simpa using hlen.symm)
    subst this
    obtain ⟨e, he, hz⟩ := slOf_spec ht
    refine ⟨0, w, ?_, hK w ho (grown_refl _ _)⟩
    have hl : ∀ (a : Addr), (loadCells a 0).run P w = .ok #[] w := fun a => by simp [loadCells, loadCellsFrom]
    obtain ⟨xa, xl, xc⟩ := x
    simp only [List.length_nil] at hxl
    subst hxl
    cases xa <;> simp [Builtin.copy_, Sl.val, Sl.nil, run_und he, Builtin.lenOf, Builtin.firstCells, run_size hz, hl, goInt]
  · have hml : (ms.flatMap E.cs).length = ms.length * E.sz := E.length_flat ms
    have hfit : 0 + (ms.flatMap E.cs).length ≤ cur.length := by
      rw [hml, hs, Nat.zero_add]
      exact Nat.mul_le_mul_right _ (by omega)
    obtain ⟨w', r1, r2, r3⟩ := run_copy (P := P) (dT := t) (sT := tx) (ty := ty) (d := d) (x := x) (g := g) (o := 0) (n := ms.length) (xs := ms.flatMap E.cs) ht (by omega) hr hml (E.flat_one _) (fun _ => by rw [ha])
      (fun hp => by
        rcases hx.mem with h0 | ⟨b, o, h1, _, h2⟩
        · subst h0; simp at hp
        · exact ⟨b, o, h1, h2⟩) hfit
    refine ⟨_, w', r1, hK w' (OwnSl.of_row ha hB r3 (by omega) hc hm (by rw [lay_len hfit]; exact hs) ?_) ?_⟩
    · unfold lay
      rw [List.take_zero, List.nil_append, ← hml]
      exact List.take_left
    · rw [show d.blk = some g from by simp [Sl.blk, ha]]
      exact grown_wr r2

/-! ### slices.Insert -/
/-- slices.overlaps tells apart what lies apart. -/
def OvOk (P : Program) (g : FuncId) : Prop := ∀ (w : World) (a b : Addr) (la ca lb cb : Nat) (tA tB : TypeId) (kA kB : Nat), a.block ≠ b.block → w.shape? a.block = some (tA, kA) → w.shape? b.block = some (tB, kB) → kB ≠ 0 →
  w.frozen? a = false → w.frozen? { block := a.block, off := kA } = false → (callFunc g #[.slice (some a) la ca, .slice (some b) lb cb]).run P w = .ok (.value (.bool false)) w
theorem ov_ok {g : FuncId} {fn : Func} {t tb e n : TypeId} (hf : P.funcs[g]? = some fn) (hname : (fn.name == "runtime.NumGoroutine") = false) (hb : fn.body.isNone = true) (hn : Extern.findNext fn = none)
    (he : Extern.find fn = some (Extern.SlicesOverlaps.overlaps #[t, t] #[tb])) (ht : P.underlying t = some (.slice e)) (hz : sizeT P e = some n) : OvOk P g := by
  intro w a b la ca lb cb tA tB kA kB hne hA hB hk hfa hfe
  rw [run_callFunc_extern hf hname hb hn he, Lib.run_overlaps_apart w t tb e ht n (fun w => run_size hz) a b la ca lb cb hne tA tB kA kB hA hB hk hfa hfe]
  rfl

theorem insert_vc {E : Enc α} {t ti ty g : TypeId} {rot : Nat} (by_ : Nat) {B gv : Nat} {s v : Sl} {l vs : List α} {i : Int} (k : Nat) {K : Sl → World → Prop} (ht : appOk P t (elemT P t) E.sz by_ = true) (hsl : slOf P t = some E.sz) (hst : isSlT P t = true) (hti : intT P .i64 ti = true) (hby : 0 < by_) (hov : OvOk P g)
    (hi : i = (k : Int)) (hk : k ≤ l.length) (hs : OwnSl E w B s l) (hv : LitSl E w gv v vs) (hne : s.blk ≠ some gv) (hvs : vs ≠ []) (hB : B ≤ w.heap.size) (hbytes : (l.length + vs.length) * by_ ≤ 140737488355328)
    (hK : ∀ s' w', OwnSl E w' B s' (l.take k ++ vs ++ l.drop k) → w.grownBy w' s.blk → NewOr w s s' → K s' w') :
    opRd P (Instr.sliceAt t s.val (some (.int .i64 i)) none none) Sl.val (fun t1 =>
      ifB ((v.len : Int) == 0)
      (K s w)
      (ifB (i == (s.len : Int))
      (opTy P (Builtin.append_ #[t, t] t #[s.val, v.val]) Sl.val (fun t2 w3 =>
      K t2 w3) w)
      (ifB (decide ((i64 ((s.len : Int) + (v.len : Int))) > (s.cap : Int)))
      (opRd P (Instr.sliceAt t s.val none (some (.int .i64 i)) none) Sl.val (fun t4 =>
      opTy P (Builtin.append_ #[t, ti] t #[t4.val, (.int .i64 (i64 ((i64 ((s.len : Int) + (v.len : Int))) - i)))]) Sl.val (fun s25 w6 =>
      opRd P (Instr.sliceAt t s25.val (some (.int .i64 i)) none none) Sl.val (fun t7 =>
      opTy P (Builtin.copy_ #[t, t] ty #[t7.val, v.val]) (Value.int .i64) (fun t8 w9 =>
      heldM (fun S11 w10 =>
      opH P S11 (Instr.sliceAt t s25.val (some (.int .i64 (i64 (i + (v.len : Int))))) none none) Sl.val (fun t12 =>
      opH P S11 (Instr.sliceAt t s.val (some (.int .i64 i)) none none) Sl.val (fun t13 =>
      opTy P (Builtin.copy_ #[t, t] ty #[t12.val, t13.val]) (Value.int .i64) (fun t14 w15 =>
      (S11 w15) ∧
      (K s25 w15)) w10))) w9) w6) w6) w) w)
      (opRd P (Instr.sliceAt t s.val none (some (.int .i64 (i64 ((s.len : Int) + (v.len : Int))))) none) Sl.val (fun s16 =>
      opRd P (Instr.sliceAt t s16.val (some (.int .i64 (i64 (i + (v.len : Int))))) none none) Sl.val (fun t17 =>
      opEx P g #[v.val, t17.val] Value.bool (fun t18 w19 =>
      ifB (!t18)
      (heldM (fun S21 w20 =>
      opH P S21 (Instr.sliceAt t s16.val (some (.int .i64 (i64 (i + (v.len : Int))))) none none) Sl.val (fun t22 =>
      opH P S21 (Instr.sliceAt t s16.val (some (.int .i64 i)) none none) Sl.val (fun t23 =>
      opTy P (Builtin.copy_ #[t, t] ty #[t22.val, t23.val]) (Value.int .i64) (fun t24 w25 =>
      (S21 w25) ∧
      (opRd P (Instr.sliceAt t s16.val (some (.int .i64 i)) none none) Sl.val (fun t26 =>
      opTy P (Builtin.copy_ #[t, t] ty #[t26.val, v.val]) (Value.int .i64) (fun t27 w28 =>
      K s16 w28) w25) w25)) w20))) w19)
      (opRd P (Instr.sliceAt t s16.val (some (.int .i64 (s.len : Int))) none none) Sl.val (fun t29 =>
      opTy P (Builtin.copy_ #[t, t] ty #[t29.val, v.val]) (Value.int .i64) (fun t30 w31 =>
      opRd P (Instr.sliceAt t s16.val (some (.int .i64 i)) none none) Sl.val (fun t32 =>
      callV P uval rot #[t32.val, (.int .i64 (v.len : Int))] w31 fun t33 w34 =>
      K s16 w34) w31) w19) w19)) w) w) w)))) w := by
  subst hi
  have hsi := hs.is
  have hlen := hs.len
  have hvlen : v.len = vs.length := by rw [hv.eq]
  have hvpos : 0 < vs.length := List.length_pos_iff.2 hvs
  have hm : l.length + vs.length ≤ 140737488355328 := Nat.le_trans (Nat.le_mul_of_pos_right _ hby) hbytes
  have hlf : (l.flatMap E.cs).length = l.length * E.sz := E.length_flat l
  have hvf : (vs.flatMap E.cs).length = vs.length * E.sz := E.length_flat vs
  have hXf : ((l.take k).flatMap E.cs).length = k * E.sz := by rw [E.length_flat, List.length_take, Nat.min_eq_left hk]
  have hYf : ((l.drop k).flatMap E.cs).length = (l.length - k) * E.sz := by rw [E.length_flat, List.length_drop]
  have e1 : i64 ((s.len : Int) + (v.len : Int)) = ((l.length + vs.length : Nat) : Int) := by rw [i64_id] <;> omega
  have e2 : i64 ((k : Int) + (v.len : Int)) = ((k + vs.length : Nat) : Int) := by rw [i64_id] <;> omega
  rw [e1, e2]
  refine ⟨_, run_sub_l hsl rfl (by omega), ?_⟩
  refine ifEq (fun h => absurd h (by omega)) (fun _ => ?_)
  refine ifEq (fun hend => ?_) (fun hnend => ?_)
  · have hkl : k = l.length := by omega
    refine app_ty2 by_ ht hst hs hv.is hbytes hB hby fun s' w' ho hg hn => hK s' w' ?_ hg hn
    subst hkl
    rw [List.take_length, List.drop_length, List.append_nil]
    exact ho
  have hkl : k < l.length := by omega
  rcases hs.row with ⟨h0, h1⟩ | ⟨gs, cur, ha, hBg, hr, hl, hc, hmx, hcl, htk⟩
  · subst h1; simp at hkl
  have hblk : s.blk = some gs := by simp [Sl.blk, ha]
  have hgne : gs ≠ gv := fun e => hne (by rw [hblk, e])
  have hcur1 : cur.take (k * E.sz) = (l.take k).flatMap E.cs := by
    rw [E.flat_take, ← htk, List.take_take, Nat.min_eq_left (Nat.mul_le_mul_right _ hk)]
  have hcur2 : (cur.drop (k * E.sz)).take ((l.length - k) * E.sz) = (l.drop k).flatMap E.cs := by
    rw [E.flat_drop, ← htk, List.drop_take, Nat.sub_mul]
  refine ifD (fun hgrow => ?_) (fun hroom => ?_)
  · -- a new row
    have hgrow' : s.cap < l.length + vs.length := by omega
    refine ⟨_, run_sub_h hsl rfl (show k ≤ s.cap by omega), ?_⟩
    have e3 : i64 (((l.length + vs.length : Nat) : Int) - (k : Int)) = ((l.length + vs.length - k : Nat) : Int) := by rw [i64_id] <;> omega
    rw [e3]
    refine grow_ty E.sz by_ (x := s.sub 0 k E.sz) (olds := (l.take k).flatMap E.cs) ht hti E.pos hby rfl (by omega) (by simp only [Sl.sub]; omega) (by rw [hXf]; simp only [Sl.sub]; rw [Nat.sub_zero]) (.inr ⟨gs, 0, ?_, ?_⟩) ?_ fun s2 w2 cur2 ha2 hl2 hc2 hm2 hr2 hcl2 htk2 hx2 => ?_
    · rw [Sl.sub_at ha (by omega), Nat.zero_mul]
    · have := hr.cells 0 (k * E.sz)
      rw [List.drop_zero, hcur1] at this
      exact this
    · simp only [Sl.sub]
      rw [show k - 0 + (l.length + vs.length - k) = l.length + vs.length by omega]
      exact hbytes
    have hs2len : s2.len = l.length + vs.length := by rw [hl2]; simp only [Sl.sub]; omega
    simp only [Sl.sub, Nat.sub_zero] at htk2
    refine ⟨_, run_sub_l hsl rfl (show k ≤ s2.len by omega), ?_⟩
    have hkz : k * E.sz + vs.length * E.sz = (k + vs.length) * E.sz := by rw [Nat.add_mul]
    have hle : (l.length + vs.length) * E.sz ≤ cur2.length := by rw [hcl2]; exact Nat.mul_le_mul_right _ (by omega)
    have hle1 : (k + vs.length) * E.sz ≤ (l.length + vs.length) * E.sz := Nat.mul_le_mul_right _ (by omega)
    have hsum : (k + vs.length) * E.sz + (l.length - k) * E.sz = (l.length + vs.length) * E.sz := by rw [← Nat.add_mul]; congr 1; omega
    -- the first copy
    have hv2 := hv.ext hx2
    obtain ⟨w3, c1, c2, c3⟩ := run_copy (P := P) (w := w2) (dT := t) (sT := t) (ty := ty) (d := s2.sub k s2.len E.sz) (x := v) (g := w.heap.size) (o := k * E.sz) (n := vs.length) (xs := vs.flatMap E.cs) (cur := cur2) hsl (by simp only [Sl.sub]; omega) hr2 hvf (E.flat_one _)
      (fun _ => by rw [Sl.sub_at ha2 (by omega), Nat.zero_add]) (fun _ => by
        obtain ⟨T, hT⟩ := hv2.blk
        exact ⟨gv, 0, by rw [hv.eq], fun j u hj => by simp [World.cell?, hT, hj]⟩) (by rw [hvf, hkz]; omega)
    refine ⟨_, w3, c1, ?_⟩
    have hx3 : Ext w w3 := Below.wr hx2 (by omega) c2
    have hlay1 : (lay cur2 (k * E.sz) (vs.flatMap E.cs)).length = cur2.length := lay_len (by rw [hvf, hkz]; omega)
    refine heldM_of (fun _ => True) fun w4 hx4 => ⟨trivial, ?_⟩
    refine ⟨s2.sub (k + vs.length) s2.len E.sz, fun w' _ => run_sub_l hsl rfl (by omega), ?_⟩
    refine ⟨s.sub k s.len E.sz, fun w' _ => run_sub_l hsl rfl (by omega), ?_⟩
    have hr4 := (hr.ext (hx3.trans' hx4))
    have c34 := c3.ext hx4
    obtain ⟨w5, d1, d2, d3⟩ := run_copy (P := P) (w := w4) (dT := t) (sT := t) (ty := ty) (d := s2.sub (k + vs.length) s2.len E.sz) (x := s.sub k s.len E.sz) (g := w.heap.size) (o := (k + vs.length) * E.sz) (n := l.length - k) (xs := (l.drop k).flatMap E.cs) (cur := lay cur2 (k * E.sz) (vs.flatMap E.cs)) hsl
      (by simp only [Sl.sub]; omega) c34 hYf (E.flat_one _) (fun _ => by rw [Sl.sub_at ha2 (by omega), Nat.zero_add]) (fun _ => ⟨gs, k * E.sz, by rw [Sl.sub_at ha (by omega), Nat.zero_add], by have := hr4.cells (k * E.sz) ((l.length - k) * E.sz); rw [hcur2] at this; exact this⟩)
      (by rw [hYf, hlay1]; omega)
    refine ⟨_, w5, d1, trivial, hK _ _ ?_ ?_ (.inr ⟨w.heap.size, by simp [Sl.blk, ha2], Nat.le_refl _⟩)⟩
    · have hlay2 : (lay (lay cur2 (k * E.sz) (vs.flatMap E.cs)) ((k + vs.length) * E.sz) ((l.drop k).flatMap E.cs)).length = cur2.length := by rw [lay_len (by rw [hYf, hlay1]; omega), hlay1]
      refine OwnSl.of_row ha2 hB d3 (by simp; omega) hc2 hm2 (by rw [hlay2]; exact hcl2) ?_
      have := pieces3' (cur := cur2) (X := (l.take k).flatMap E.cs) (V := vs.flatMap E.cs) (Y := (l.drop k).flatMap E.cs) (by rw [hXf]; exact htk2) (by rw [hXf, hvf, hYf, hkz]; omega)
      rw [hXf, hvf, hYf, hkz, hsum] at this
      rw [show (l.take k ++ vs ++ l.drop k).length = l.length + vs.length from by simp; omega, this, List.flatMap_append, List.flatMap_append]
    · have hx5 : Ext w w5 := Below.wr (hx3.trans' hx4) (by omega) d2
      exact grown_ext hx5 _
  · -- there is room
    have hroom' : l.length + vs.length ≤ s.cap := by omega
    refine ⟨_, run_sub_h hsl rfl hroom', ?_⟩
    have hs16 : (s.sub 0 (l.length + vs.length) E.sz).a = some ⟨gs, 0, none⟩ := by rw [Sl.sub_at ha (by omega), Nat.zero_mul]
    have hcap16 : (s.sub 0 (l.length + vs.length) E.sz).cap = s.cap := rfl
    have hlen16 : (s.sub 0 (l.length + vs.length) E.sz).len = l.length + vs.length := rfl
    generalize hs16e : s.sub 0 (l.length + vs.length) E.sz = s16 at hs16 hcap16 hlen16
    refine ⟨_, run_sub_l hsl rfl (show k + vs.length ≤ s16.len by omega), ?_⟩
    have hkz : k * E.sz + vs.length * E.sz = (k + vs.length) * E.sz := by rw [Nat.add_mul]
    have hle : (l.length + vs.length) * E.sz ≤ cur.length := by rw [hcl]; exact Nat.mul_le_mul_right _ (by omega)
    have hle1 : (k + vs.length) * E.sz ≤ (l.length + vs.length) * E.sz := Nat.mul_le_mul_right _ (by omega)
    have hsum : (k + vs.length) * E.sz + (l.length - k) * E.sz = (l.length + vs.length) * E.sz := by rw [← Nat.add_mul]; congr 1; omega
    -- they lie apart
    have hova : (callFunc g #[v.val, (s16.sub (k + vs.length) s16.len E.sz).val]).run P w = .ok (.value (.bool false)) w := by
      obtain ⟨T, hT⟩ := hv.blk
      obtain ⟨T2, fr2, hT2, _⟩ := hr
      have hp := E.pos
      have hcp : 0 < cur.length := by
        have : 0 < (l.length + vs.length) * E.sz := Nat.mul_pos (by omega) hp
        omega
      have ev : v.val = .slice (some ⟨gv, 0, none⟩) vs.length vs.length := by rw [hv.eq]; rfl
      have es : (s16.sub (k + vs.length) s16.len E.sz).val = .slice (some ⟨gs, (k + vs.length) * E.sz, none⟩) (s16.len - (k + vs.length)) (s16.cap - (k + vs.length)) := by
        have := Sl.sub_at (i := k + vs.length) (j := s16.len) (z := E.sz) hs16 (by omega)
        rw [Nat.zero_add] at this
        unfold Sl.val
        rw [this]
        rfl
      rw [ev, es]
      refine hov w _ _ _ _ _ _ T T2 (vs.flatMap E.cs).length cur.length (fun e => hgne e.symm) ?_ ?_ (by omega) ?_ ?_
      · simp [World.shape?, hT]
      · simp [World.shape?, hT2]
      · simp [World.frozen?, hT]
      · simp [World.frozen?, hT]
    refine ⟨false, w, hova, ifNot (ifB_f rfl ?_)⟩
    refine heldM_of (fun _ => True) fun w4 hx4 => ⟨trivial, ?_⟩
    refine ⟨s16.sub (k + vs.length) s16.len E.sz, fun w' _ => run_sub_l hsl rfl (by omega), ?_⟩
    refine ⟨s16.sub k s16.len E.sz, fun w' _ => run_sub_l hsl rfl (by omega), ?_⟩
    have hr4 := hr.ext hx4
    obtain ⟨w5, d1, d2, d3⟩ := run_copy (P := P) (w := w4) (dT := t) (sT := t) (ty := ty) (d := s16.sub (k + vs.length) s16.len E.sz) (x := s16.sub k s16.len E.sz) (g := gs) (o := (k + vs.length) * E.sz) (n := l.length - k) (xs := (l.drop k).flatMap E.cs) (cur := cur) hsl
      (by simp only [Sl.sub]; omega) hr4 hYf (E.flat_one _) (fun _ => by rw [Sl.sub_at hs16 (by omega), Nat.zero_add]) (fun _ => ⟨gs, k * E.sz, by rw [Sl.sub_at hs16 (by omega), Nat.zero_add], by have := hr4.cells (k * E.sz) ((l.length - k) * E.sz); rw [hcur2] at this; exact this⟩)
      (by rw [hYf]; omega)
    refine ⟨_, w5, d1, trivial, ?_⟩
    have hlay1 : (lay cur ((k + vs.length) * E.sz) ((l.drop k).flatMap E.cs)).length = cur.length := lay_len (by rw [hYf]; omega)
    refine ⟨_, run_sub_l hsl rfl (show k ≤ s16.len by omega), ?_⟩
    have hv5 : LitSl E w5 gv v vs := (hv.ext hx4).keep (d2.block gv (fun e => hgne e.symm))
    obtain ⟨w6, c1, c2, c3⟩ := run_copy (P := P) (w := w5) (dT := t) (sT := t) (ty := ty) (d := s16.sub k s16.len E.sz) (x := v) (g := gs) (o := k * E.sz) (n := vs.length) (xs := vs.flatMap E.cs) (cur := lay cur ((k + vs.length) * E.sz) ((l.drop k).flatMap E.cs)) hsl (by simp only [Sl.sub]; omega) d3 hvf (E.flat_one _)
      (fun _ => by rw [Sl.sub_at hs16 (by omega), Nat.zero_add]) (fun _ => by
        obtain ⟨T, hT⟩ := hv5.blk
        exact ⟨gv, 0, by rw [hv.eq], fun j u hj => by simp [World.cell?, hT, hj]⟩) (by rw [hvf, hkz, hlay1]; omega)
    refine ⟨_, w6, c1, hK _ _ ?_ ?_ (.inl (by rw [hblk]; simp [Sl.blk, hs16]))⟩
    · refine OwnSl.of_row hs16 hBg c3 (by rw [hlen16]; simp; omega) (by omega) (by omega) (by rw [lay_len (by rw [hvf, hkz, hlay1]; omega), hlay1, hcap16]; exact hcl) ?_
      have := pieces3 (cur := cur) (X := (l.take k).flatMap E.cs) (V := vs.flatMap E.cs) (Y := (l.drop k).flatMap E.cs) (by rw [hXf]; exact hcur1) (by rw [hXf, hvf, hYf, hkz]; omega)
      rw [hXf, hvf, hYf, hkz, hsum] at this
      rw [show (l.take k ++ vs ++ l.drop k).length = l.length + vs.length from by simp; omega, this, List.flatMap_append, List.flatMap_append]
    · rw [hblk]
      exact grown_trans (grown_ext hx4 _) (grown_trans (grown_wr d2) (grown_wr c2))

/-! ### slices.Delete -/
theorem zero_one {z : Array Value} {n : Nat} (h : z.toList.all Value.oneCell' = true) (hz : 0 < z.size) : ∀ v ∈ (Builtin.zeroCells z n).toList, v.oneCell' = true := by
  intro v hv
  obtain ⟨j, hj, rfl⟩ := List.getElem_of_mem hv
  have hm : j % z.size < z.size := Nat.mod_lt _ hz
  have e : (Builtin.zeroCells z n).toList[j] = z[j % z.size] := by
    simp only [Builtin.zeroCells, Array.getElem_toList, Array.getElem_map, Array.getElem_range]
    exact getElem!_pos z _ hm
  rw [e]
  exact List.all_eq_true.1 h _ (Array.getElem_mem_toList hm)
theorem delete_vc {E : Enc α} {t : TypeId} (by_ : Nat) {zv : Value} {B : Nat} {s : Sl} {l : List α} {i j : Int} (k m : Nat) {K : Sl → World → Prop} (ht : appOk P t (elemT P t) E.sz by_ = true) (hsl : slOf P t = some E.sz) (hst : isSlT P t = true)
    (hzv : (P.info? (elemT P t)).bind (·.zero) = some zv) (hz1 : zv.cells.toList.all Value.oneCell' = true)
    (hi : i = (k : Int)) (hj : j = (m : Int)) (hkm : k < m) (hm : m ≤ l.length) (hs : OwnSl E w B s l)
    (hK : ∀ s' w', OwnSl E w' B s' (l.take k ++ l.drop m) → w.grownBy w' s.blk → NewOr w s s' → K s' w') :
    opRd P (Instr.sliceAt t s.val (some (.int .i64 i)) (some (.int .i64 j)) (some (.int .i64 (s.len : Int)))) Sl.val (fun t1 =>
      ifB (i == j)
      (K s w)
      (heldM (fun S3 w2 =>
      opH P S3 (Instr.sliceAt t s.val none (some (.int .i64 i)) none) Sl.val (fun t4 =>
      opH P S3 (Instr.sliceAt t s.val (some (.int .i64 j)) none none) Sl.val (fun t5 =>
      opTy P (Builtin.append_ #[t, t] t #[t4.val, t5.val]) Sl.val (fun s6 w7 =>
      (S3 w7) ∧
      (opRd P (Instr.sliceAt t s6.val (some (.int .i64 (s6.len : Int))) (some (.int .i64 (s.len : Int))) none) Sl.val (fun t8 =>
      opTy P (Builtin.clear_ #[t] 0 #[t8.val]) uval (fun u9 w10 =>
      K s6 w10) w7) w7)) w2))) w)) w := by
  subst hi hj
  obtain ⟨hu, inf, zv', hinf, hsz, hb', hzv', hzs⟩ := appOk_spec ht
  have hzz : zv' = zv := by rw [hinf] at hzv; simp only [Option.bind_some] at hzv; rw [hzv'] at hzv; exact Option.some.inj hzv
  subst hzz
  have hlen := hs.len
  have hcap := hs.is.cap
  refine ⟨_, run_sub_lhm hsl rfl rfl rfl (by omega) (by omega) hcap, ?_⟩
  refine ifEq (fun h => by omega) (fun _ => ?_)
  rcases hs.row with ⟨h0, h1⟩ | ⟨gs, cur, ha, hBg, hr, hl, hc, hmx, hcl, htk⟩
  · subst h1; simp at hm; omega
  have hblk : s.blk = some gs := by simp [Sl.blk, ha]
  refine heldM_of (fun _ => True) fun w2 hx2 => ⟨trivial, ?_⟩
  refine ⟨s.sub 0 k E.sz, fun w' _ => run_sub_h hsl rfl (by omega), ?_⟩
  refine ⟨s.sub m s.len E.sz, fun w' _ => run_sub_l hsl rfl (by omega), ?_⟩
  have hr2 := hr.ext hx2
  have hp := E.pos
  have hYf : ((l.drop m).flatMap E.cs).length = (l.length - m) * E.sz := by rw [E.length_flat, List.length_drop]
  have hXf : ((l.take k).flatMap E.cs).length = k * E.sz := by rw [E.length_flat, List.length_take, Nat.min_eq_left (by omega)]
  have hsum : k * E.sz + (l.length - m) * E.sz = (k + (l.length - m)) * E.sz := by rw [Nat.add_mul]
  have hle : (k + (l.length - m)) * E.sz ≤ l.length * E.sz := Nat.mul_le_mul_right _ (by omega)
  have hle2 : l.length * E.sz ≤ cur.length := by rw [hcl]; exact Nat.mul_le_mul_right _ (by omega)
  -- the piece that is moved
  have hsrc : Src P inf.size t (s.sub m s.len E.sz).val (l.length - m) ((l.drop m).flatMap E.cs) w2 := by
    rw [hsz]
    have hi := (hs.is.ext hx2).sub (i := m) (j := s.len) (by omega) (by omega)
    rw [show (l.drop m).take (s.len - m) = l.drop m from List.take_of_length_le (by simp; omega)] at hi
    have := hi.src (tx := t) (e' := elemT P t) hu
    rwa [List.length_drop] at this
  have hfit : k * E.sz + ((l.drop m).flatMap E.cs).length ≤ cur.length := by rw [hYf]; omega
  obtain ⟨T, fr, hT, hfr⟩ := hr2
  have hcell : ∀ q, q < ((l.drop m).flatMap E.cs).length → (w2.cell? ⟨gs, 0 + k * inf.size + q, none⟩).isSome = true := fun q hq => by
    rw [hsz]
    simp [World.cell?, hT]
    omega
  have hfro : ∀ q, q < ((l.drop m).flatMap E.cs).length → w2.frozen? ⟨gs, 0 + k * inf.size + q, none⟩ = false := fun q hq => by
    rw [hsz]
    obtain ⟨f1, f2⟩ := fr
    simp only [World.frozen?, hT]
    rcases hfr with e' | e'
    · cases e'; simp
    · have : ¬ (f1 ≤ 0 + k * E.sz + q) := by simp at e'; omega
      simp only [this, decide_false, Bool.false_and]
  have hrun := run_append_room_src (P := P) w2 t t t _ inf hu hinf gs 0 k s.cap (s.sub m s.len E.sz).val (l.length - m) ((l.drop m).flatMap E.cs) hsrc (by omega) hcell hfro
  rw [hsz, Nat.zero_add] at hrun
  obtain ⟨hb, hw⟩ := setCells_blk ((l.drop m).flatMap E.cs) (k * E.sz) w2 cur.toArray hT (by simpa using hfit)
  have e4 : (s.sub 0 k E.sz).val = .slice (some ⟨gs, 0, none⟩) k s.cap := by
    have := Sl.sub_at (i := 0) (j := k) (z := E.sz) ha (by omega)
    rw [Nat.zero_mul] at this
    unfold Sl.val
    rw [this]
    simp [Sl.sub]
  rw [e4]
  refine ⟨⟨some ⟨gs, 0, none⟩, k + (l.length - m), s.cap⟩, _, hrun, trivial, ?_⟩
  have hrow3 : RowAt (w2.setCells gs (k * E.sz) ((l.drop m).flatMap E.cs)) gs (lay cur (k * E.sz) ((l.drop m).flatMap E.cs)) := ⟨T, fr, by simpa [lay] using hb, by rw [lay_len hfit]; exact hfr⟩
  have hlay : (lay cur (k * E.sz) ((l.drop m).flatMap E.cs)).length = cur.length := lay_len hfit
  generalize w2.setCells gs (k * E.sz) ((l.drop m).flatMap E.cs) = w3 at hrow3 hw
  refine ⟨_, run_sub_lh (m := k + (l.length - m)) (n := s.len) hsl rfl rfl (by omega) (by dsimp only; omega), ?_⟩
  -- what lies behind is cleared
  have hcap2 : (k + (l.length - m)) * E.sz < cur.length := by
    have : (k + (l.length - m) + 1) * E.sz ≤ l.length * E.sz := Nat.mul_le_mul_right _ (by omega)
    rw [Nat.add_mul, Nat.one_mul] at this
    omega
  have hzl : (Builtin.zeroCells zv'.cells (s.len - (k + (l.length - m)))).toList.length = (s.len - (k + (l.length - m))) * E.sz := by rw [Array.length_toList, size_zeroCells, hzs]
  have hfit2 : (k + (l.length - m)) * E.sz + 0 + (Builtin.zeroCells zv'.cells (s.len - (k + (l.length - m)))).toList.length ≤ (lay cur (k * E.sz) ((l.drop m).flatMap E.cs)).length := by
    rw [hzl, hlay, Nat.add_zero, ← Nat.add_mul]
    have : (k + (l.length - m) + (s.len - (k + (l.length - m)))) * E.sz ≤ l.length * E.sz := Nat.mul_le_mul_right _ (by omega)
    omega
  obtain ⟨w4, r1, r2, r3⟩ := hrow3.store (P := P) hfit2 (zero_one hz1 (by rw [hzs]; exact hp))
  have hA := Sl.sub_at (s := ⟨some ⟨gs, 0, none⟩, k + (l.length - m), s.cap⟩) (i := k + (l.length - m)) (j := s.len) (z := E.sz) rfl (by dsimp only; omega)
  rw [Nat.zero_add] at hA
  have e8 : (Sl.sub ⟨some ⟨gs, 0, none⟩, k + (l.length - m), s.cap⟩ (k + (l.length - m)) s.len E.sz).val = .slice (some ⟨gs, (k + (l.length - m)) * E.sz, none⟩) (s.len - (k + (l.length - m))) (s.cap - (k + (l.length - m))) := by
    unfold Sl.val
    rw [hA]
    rfl
  show opTy P (Builtin.clear_ #[t] 0 #[(Sl.sub ⟨some ⟨gs, 0, none⟩, k + (l.length - m), s.cap⟩ (k + (l.length - m)) s.len E.sz).val]) uval _ _
  rw [e8]
  refine ⟨(), w4, ?_, hK _ _ ?_ ?_ (.inl (by rw [hblk]; rfl))⟩
  · obtain ⟨q, hq⟩ : ∃ q, s.len - (k + (l.length - m)) = q + 1 := ⟨s.len - (k + (l.length - m)) - 1, by omega⟩
    rw [hq] at r1 ⊢
    unfold Builtin.clear_
    simp only [List.getElem?_toArray, List.getElem?_cons_zero]
    rw [Sem.run_bind, run_und hu, Result.andThen_ok]
    simp [zeroValue, typeInfo, hinf, hzv', r1, uval]
  · refine OwnSl.of_row rfl hBg r3 (by simp; omega) (by dsimp only; omega) hmx (by rw [lay_len hfit2, hlay]; exact hcl) ?_
    have hlt : (l.take k ++ l.drop m).length = k + (l.length - m) := by simp; omega
    rw [hlt, lay_take (by simpa using hfit2) (by omega), List.flatMap_append]
    have hX : cur.take (k * E.sz) = (l.take k).flatMap E.cs := by rw [E.flat_take, ← htk, List.take_take, Nat.min_eq_left (Nat.mul_le_mul_right _ (by omega))]
    unfold lay
    rw [hX, List.take_append_of_le_length (by rw [List.length_append, hXf, hYf]; omega), List.take_of_length_le (by rw [List.length_append, hXf, hYf]; omega)]
  · rw [hblk]
    exact grown_trans (grown_ext hx2 _) (grown_trans (grown_wr hw) (grown_wr r2))
end Go.Vc
