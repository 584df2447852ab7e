/-
  slices.Insert, slices.Delete, make, copy: as they are told. Of whatever program.
-/
import Derived.Lib.AppendZerosOnto
import Derived.Lib.Overlaps
import Derived.Test.YtnnoalpkldpjfaaStd
set_option linter.unusedVariables false
namespace Go.Vc
open Go.RowKit (Below)
variable {α β γ δ : Type} {P : Program} {w : World}

/-! ### A literal slice, its block known whole -/
structure LitSl (E : Enc α) (w : World) (g : Nat) (s : Sl) (l : List α) : Prop where
  eq : s = ⟨some ⟨g, 0, none⟩, l.length, l.length⟩
  small : l.length ≤ 1024
  blk : ∃ T, w.heap[g]? = some (.cells (l.flatMap E.cs).toArray T (0, 0))
theorem LitSl.ext {E : Enc α} {g : Nat} {s : Sl} {l : List α} {w' : World} (h : LitSl E w g s l) (hx : Ext w w') : LitSl E w' g s l := by
  obtain ⟨T, hT⟩ := h.blk
  exact ⟨h.eq, h.small, T, by rw [hx.block g (Array.getElem?_eq_some_iff.1 hT).1]; exact hT⟩
theorem LitSl.keep {E : Enc α} {g : Nat} {s : Sl} {l : List α} {w' : World} (h : LitSl E w g s l) (hx : w'.heap[g]? = w.heap[g]?) : LitSl E w' g s l := by
  obtain ⟨T, hT⟩ := h.blk
  exact ⟨h.eq, h.small, T, by rw [hx]; exact hT⟩
theorem LitSl.lt {E : Enc α} {g : Nat} {s : Sl} {l : List α} (h : LitSl E w g s l) : g < w.heap.size := by
  obtain ⟨T, hT⟩ := h.blk
  exact (Array.getElem?_eq_some_iff.1 hT).1
theorem LitSl.is {E : Enc α} {g : Nat} {s : Sl} {l : List α} (h : LitSl E w g s l) : IsSl E w s l := by
  obtain ⟨T, hT⟩ := h.blk
  have hs := h.small
  have e := h.eq
  subst e
  exact ⟨rfl, Nat.le_refl _, by dsimp only; omega, .inr ⟨g, 0, rfl, h.lt, fun j v hj => by simp [World.cell?, hT, hj]⟩, fun h => by cases h⟩
theorem lit_sl {E : Enc α} {t : TypeId} {n : Nat} {parts : Array (Nat × Value)} (xs : List α) {K : Sl → World → Prop} (hn : xs.length = n) (hle : n ≤ 1024)
    (hr : ∀ w : World, (Instr.buildSlice t n parts).run P w = .ok (.slice (some ⟨w.heap.size, 0, none⟩) n n) (w.alloc (.cells ⟨xs.flatMap E.cs⟩ (elemT P t))))
    (hK : ∀ s w', LitSl E w' w.heap.size s xs → Ext w w' → K s w') : opTy P (Instr.buildSlice t n parts) Sl.val K w := by
  subst hn
  exact ⟨⟨some ⟨w.heap.size, 0, none⟩, xs.length, xs.length⟩, _, hr w, hK _ _ ⟨rfl, hle, elemT P t, heap_alloc_new _ _⟩ (Ext.alloc _ _)⟩

/-! ### Copying into rows -/
theorem lay_take {cur vs : List Value} {o n : Nat} (h : o + vs.length ≤ cur.length) (hn : n ≤ o) : (lay cur o vs).take n = cur.take n := by
  apply List.ext_getElem?
  intro i
  rw [List.getElem?_take, List.getElem?_take, lay_get h]
  by_cases hi : i < n
  · rw [if_pos hi, if_pos hi, if_pos (by omega)]
  · rw [if_neg hi, if_neg hi]
/-- What three pieces behind each other come to. -/
theorem pieces3 {cur X V Y : List Value} (h1 : cur.take X.length = X) (hfit : X.length + V.length + Y.length ≤ cur.length) :
    (lay (lay cur (X.length + V.length) Y) X.length V).take (X.length + V.length + Y.length) = X ++ V ++ Y := by
  have hl1 : (lay cur (X.length + V.length) Y).length = cur.length := lay_len (by omega)
  apply List.ext_getElem?
  intro i
  rw [List.getElem?_take]
  by_cases hi : i < X.length + V.length + Y.length
  · rw [if_pos hi, lay_get (by omega)]
    by_cases i1 : i < X.length
    · rw [if_pos i1, lay_get (by omega), if_pos (by omega), List.append_assoc, List.getElem?_append_left i1]
      conv => rhs; rw [← h1]
      rw [List.getElem?_take, if_pos i1]
    · rw [if_neg i1]
      by_cases i2 : i < X.length + V.length
      · rw [if_pos i2, List.append_assoc, List.getElem?_append_right (by omega), List.getElem?_append_left (by omega)]
      · rw [if_neg i2, lay_get (by omega), if_neg i2, if_pos hi, List.getElem?_append_right (by rw [List.length_append]; omega), List.length_append]
  · rw [if_neg hi, List.getElem?_eq_none (by simp; omega)]
theorem pieces3' {cur X V Y : List Value} (h1 : cur.take X.length = X) (hfit : X.length + V.length + Y.length ≤ cur.length) :
    (lay (lay cur X.length V) (X.length + V.length) Y).take (X.length + V.length + Y.length) = X ++ V ++ Y := by
  have hl1 : (lay cur X.length V).length = cur.length := lay_len (by omega)
  apply List.ext_getElem?
  intro i
  rw [List.getElem?_take]
  by_cases hi : i < X.length + V.length + Y.length
  · rw [if_pos hi, lay_get (by omega)]
    by_cases i1 : i < X.length
    · rw [if_pos (by omega), lay_get (by omega), if_pos i1, List.append_assoc, List.getElem?_append_left i1]
      conv => rhs; rw [← h1]
      rw [List.getElem?_take, if_pos i1]
    · by_cases i2 : i < X.length + V.length
      · rw [if_pos i2, lay_get (by omega), if_neg i1, if_pos i2, List.append_assoc, List.getElem?_append_right (by omega), List.getElem?_append_left (by omega)]
      · rw [if_neg i2, if_pos hi, List.getElem?_append_right (by rw [List.length_append]; omega), List.length_append]
  · rw [if_neg hi, List.getElem?_eq_none (by simp; omega)]

/-- append(x, make(S, k)...), which has no room. -/
theorem grow_ty {t ti ty : TypeId} (z by_ : Nat) {x : Sl} {olds : List Value} {i : Int} {k : Nat} {K : Sl → World → Prop} (ht : appOk P t (elemT P t) z by_ = true) (hti : intT P .i64 ti = true) (hz : 0 < z) (hby : 0 < by_) (hi : i = (k : Int)) (hk : 0 < k)
    (hcap : x.cap < x.len + k) (ho : olds.length = x.len * z) (hc : x.len = 0 ∨ ∃ b p, x.a = some ⟨b, p, none⟩ ∧ CellsAt w b p olds) (hbytes : (x.len + k) * by_ ≤ 140737488355328)
    (hK : ∀ s w' cur, s.a = some ⟨w.heap.size, 0, none⟩ → s.len = x.len + k → s.len ≤ s.cap → s.cap ≤ 9223372036854775807 → RowAt w' w.heap.size cur → cur.length = s.cap * z → cur.take (x.len * z) = olds → Ext w w' → K s w') :
    opTy P (Builtin.append_ #[t, ti] ty #[x.val, .int .i64 i]) Sl.val K w := by
  obtain ⟨hu, inf, zv, hinf, hsz, hb', hzv, hzs⟩ := appOk_spec ht
  subst hi
  obtain ⟨xa, xl, xc⟩ := x
  simp only at hcap ho hc hbytes
  have hint : P.underlying ti = some (.int .i64) := by
    unfold intT at hti
    split at hti
    case h_2 => cases hti
    case h_1 k' hk' => rw [hk', of_decide_eq_true hti]
  have hm : xl + k ≤ 140737488355328 := Nat.le_trans (Nat.le_mul_of_pos_right _ hby) hbytes
  have hold : (Builtin.firstCells inf.size xl (.slice xa xl xc)).run P w.drew = .ok olds.toArray w.drew := by
    rw [hsz]
    rcases hc with h0 | ⟨b, p, ha, hcs⟩
    · subst h0
      have : olds = [] := List.length_eq_zero_iff.1 (by simpa using ho)
      subst this
      cases xa <;> simp [Builtin.firstCells, loadCells, loadCellsFrom]
    · subst ha
      have hcs' : CellsAt w.drew b p olds := hcs.same rfl
      simp only [Builtin.firstCells]
      exact run_ldCells' ho hcs'
  have hkb : k * inf.bytes ≤ 281474976710656 := by
    rw [hb']
    have : k * by_ ≤ (xl + k) * by_ := Nat.mul_le_mul_right _ (by omega)
    omega
  have hr := Lib.run_append_grow_zeros (P := P) w t ti ty _ inf zv .i64 .i64 hu hint hinf hzv xa xl xc olds hold k hk (by omega) hcap (by omega) hkb (growslice_fits hcap (by rw [hb']; exact hbytes))
  have hge := grownCap_ge w (xl + k) xc (elemT P t)
  have hle := grownCap_le_maxLen w (xl + k) xc (elemT P t) (by simp only [maxLen]; omega)
  refine ⟨⟨some ⟨w.heap.size, 0, none⟩, xl + k, grownCap w (xl + k) xc (elemT P t)⟩, _, hr, hK _ _ (olds ++ (Builtin.zeroCells zv.cells k).toList ++ (Builtin.zeroCells zv.cells (grownCap w (xl + k) xc (elemT P t) - (xl + k))).toList) rfl rfl hge ?_ ⟨elemT P t, (0, 0), ?_, .inl rfl⟩ ?_ ?_ ?_⟩
  · simp only [maxLen] at hle; exact hle
  · have := heap_alloc_new w.drew (.cells (olds.toArray ++ Builtin.zeroCells zv.cells k ++ Builtin.zeroCells zv.cells (grownCap w (xl + k) xc (elemT P t) - (xl + k))) (elemT P t) (0, 0))
    rw [show w.heap.size = w.drew.heap.size from rfl, this]
    congr 2
    simp
  · simp only [List.length_append, Array.length_toList, size_zeroCells, hzs, ho]
    rw [← Nat.add_mul, ← Nat.add_mul]
    congr 1
    omega
  · rw [List.append_assoc, ← ho]
    exact List.take_left
  · exact ⟨rfl, rfl, rfl, by simp, fun k hk => Below.heap_alloc w.drew _ k hk⟩

/-- make(S, n). -/
theorem make_ty {E : Enc α} {t : TypeId} (by_ : Nat) (z : α) {zv : Value} {i : Int} {n B : Nat} {K : Sl → World → Prop} (ht : appOk P t (elemT P t) E.sz by_ = true) (hz : (P.info? (elemT P t)).bind (·.zero) = some zv) (hzc : zv.cells.toList = E.cs z) (hi : i = (n : Int))
    (hbytes : n * by_ ≤ 140737488355328) (hby : 0 < by_) (hB : B ≤ w.heap.size) (hK : ∀ s w', s.a = some ⟨w.heap.size, 0, none⟩ → OwnSl E w' B s (List.replicate n z) → Ext w w' → K s w') :
    opTy P (Instr.makeSlice t (.int .i64 i) (.int .i64 i)) Sl.val K w := by
  obtain ⟨hu, inf, zv', hinf, hsz, hb', hzv, hzs⟩ := appOk_spec ht
  subst hi
  have hzz : zv' = zv := by rw [hinf] at hz; simp only [Option.bind_some] at hz; rw [hzv] at hz; exact Option.some.inj hz
  subst hzz
  have hm : n ≤ 140737488355328 := Nat.le_trans (Nat.le_mul_of_pos_right _ hby) hbytes
  have hr := run_make (P := P) w t _ inf zv' hu hinf hzv .i64 .i64 (n : Int) (n : Int) (by omega) (Int.le_refl _) (by
    rw [hb']
    have : ((n * by_ : Nat) : Int) ≤ 140737488355328 := by omega
    rw [Int.natCast_mul, Int.mul_comm] at this
    omega) (by omega)
  simp only [Int.toNat_natCast] at hr
  have hlen : (madeCells zv'.cells (n * inf.size)).size = n * E.sz := by rw [size_madeCells, hsz]
  refine ⟨⟨some ⟨w.heap.size, 0, none⟩, n, n⟩, _, hr, hK _ _ rfl ?_ (Ext.alloc _ _)⟩
  refine OwnSl.of_row (g := w.heap.size) (cur := (madeCells zv'.cells (n * inf.size)).toList) rfl hB ⟨elemT P t, (0, 0), by rw [heap_alloc_new], .inl rfl⟩ (by simp) (Nat.le_refl _) (by dsimp only; omega) (by simpa using hlen) ?_
  rw [List.length_replicate, List.take_of_length_le (by rw [Array.length_toList, hlen]; exact Nat.le_refl _)]
  apply List.ext_getElem?
  intro j
  by_cases hj : j < n * E.sz
  · have hq : j / E.sz < n := Nat.div_lt_of_lt_mul (by rw [Nat.mul_comm]; exact hj)
    have hmod := Nat.mod_lt j E.pos
    have hsplit : j = j / E.sz * E.sz + j % E.sz := by rw [Nat.mul_comm]; exact (Nat.div_add_mod j E.sz).symm
    have rhs : ((List.replicate n z).flatMap E.cs)[j]? = (E.cs z)[j % E.sz]? := by
      conv => lhs; rw [hsplit]
      rw [E.flat_get _ _ _ (by simpa using hq) hmod]
      simp
    rw [rhs, ← hzc]
    have h1 : j % E.sz < zv'.cells.size := by rw [hzs]; exact hmod
    have h2 : j < n * inf.size := by rw [hsz]; exact hj
    rw [Array.getElem?_toList, Array.getElem?_toList]
    unfold madeCells
    rw [Array.getElem?_map, Array.getElem?_range, if_pos h2, Option.map_some, hzs, Array.getElem?_eq_getElem h1, getElem!_pos zv'.cells _ h1]
  · rw [List.getElem?_eq_none (by rw [Array.length_toList, hlen]; omega), List.getElem?_eq_none (by rw [E.length_flat, List.length_replicate]; omega)]

/-- copy(d, x), d an own slice, x as long. -/
theorem copy_own {E : Enc α} {t tx ty : TypeId} {B : Nat} {d x : Sl} {l ms : List α} {K : Int → World → Prop} (ht : slOf P t = some E.sz) (ho : OwnSl E w B d l) (hx : IsSl E w x ms) (hlen : l.length = ms.length)
    (hK : ∀ w', OwnSl E w' B d ms → w.grownBy w' d.blk → K (ms.length : Int) w') : opTy P (Builtin.copy_ #[t, tx] ty #[d.val, x.val]) (Value.int .i64) K w := by
  have hxl := hx.len
  have hdl := ho.len
  rcases ho.row with ⟨h0, h1⟩ | ⟨g, cur, ha, hB, hr, hl, hc, hm, hs, htk⟩
  · subst h0 h1
    have : ms = [] := List.length_eq_zero_iff.1 (by simpa using hlen.symm)
    subst this
    obtain ⟨e, he, hz⟩ := slOf_spec ht
    refine ⟨0, w, ?_, hK w ho (grown_refl _ _)⟩
    have hl : ∀ (a : Addr), (loadCells a 0).run P w = .ok #[] w := fun a => by simp [loadCells, loadCellsFrom]
    obtain ⟨xa, xl, xc⟩ := x
    simp only [List.length_nil] at hxl
    subst hxl
    cases xa <;> simp [Builtin.copy_, Sl.val, Sl.nil, run_und he, Builtin.lenOf, Builtin.firstCells, run_size hz, hl, goInt]
  · have hml : (ms.flatMap E.cs).length = ms.length * E.sz := E.length_flat ms
    have hfit : 0 + (ms.flatMap E.cs).length ≤ cur.length := by
      rw [hml, hs, Nat.zero_add]
      exact Nat.mul_le_mul_right _ (by omega)
    obtain ⟨w', r1, r2, r3⟩ := run_copy (P := P) (dT := t) (sT := tx) (ty := ty) (d := d) (x := x) (g := g) (o := 0) (n := ms.length) (xs := ms.flatMap E.cs) ht (by omega) hr hml (E.flat_one _) (fun _ => by rw [ha])
      (fun hp => by
        rcases hx.mem with h0 | ⟨b, o, h1, _, h2⟩
        · subst h0; simp at hp
        · exact ⟨b, o, h1, h2⟩) hfit
    refine ⟨_, w', r1, hK w' (OwnSl.of_row ha hB r3 (by omega) hc hm (by rw [lay_len hfit]; exact hs) ?_) ?_⟩
    · unfold lay
      rw [List.take_zero, List.nil_append, ← hml]
      exact List.take_left
    · rw [show d.blk = some g from by simp [Sl.blk, ha]]
      exact grown_wr r2

/-! ### slices.Insert -/
/-- slices.overlaps tells apart what lies apart. -/
def OvOk (P : Program) (g : FuncId) : Prop := ∀ (w : World) (a b : Addr) (la ca lb cb : Nat) (tA tB : TypeId) (kA kB : Nat), a.block ≠ b.block → w.shape? a.block = some (tA, kA) → w.shape? b.block = some (tB, kB) → kB ≠ 0 →
  w.frozen? a = false → w.frozen? { block := a.block, off := kA } = false → (callFunc g #[.slice (some a) la ca, .slice (some b) lb cb]).run P w = .ok (.value (.bool false)) w
theorem ov_ok {g : FuncId} {fn : Func} {t tb e n : TypeId} (hf : P.funcs[g]? = some fn) (hname : (fn.name == "runtime.NumGoroutine") = false) (hb : fn.body.isNone = true) (hn : Extern.findNext fn = none)
    (he : Extern.find fn = some (Extern.SlicesOverlaps.overlaps #[t, t] #[tb])) (ht : P.underlying t = some (.slice e)) (hz : sizeT P e = some n) : OvOk P g := by
  intro w a b la ca lb cb tA tB kA kB hne hA hB hk hfa hfe
  rw [run_callFunc_extern hf hname hb hn he, Lib.run_overlaps_apart w t tb e ht n (fun w => run_size hz) a b la ca lb cb hne tA tB kA kB hA hB hk hfa hfe]
  rfl

theorem insert_vc {E : Enc α} {t ti ty g : TypeId} {rot : Nat} (by_ : Nat) {B gv : Nat} {s v : Sl} {l vs : List α} {i : Int} (k : Nat) {K : Sl → World → Prop} (ht : appOk P t (elemT P t) E.sz by_ = true) (hsl : slOf P t = some E.sz) (hst : isSlT P t = true) (hti : intT P .i64 ti = true) (hby : 0 < by_) (hov : OvOk P g)
    (hi : i = (k : Int)) (hk : k ≤ l.length) (hs : OwnSl E w B s l) (hv : LitSl E w gv v vs) (hne : s.blk ≠ some gv) (hvs : vs ≠ []) (hB : B ≤ w.heap.size) (hbytes : (l.length + vs.length) * by_ ≤ 140737488355328)
    (hK : ∀ s' w', OwnSl E w' B s' (l.take k ++ vs ++ l.drop k) → w.grownBy w' s.blk → NewOr w s s' → K s' w') :
    opRd P (Instr.sliceAt t s.val (some (.int .i64 i)) none none) Sl.val (fun t1 =>
      ifB ((v.len : Int) == 0)
      (K s w)
      (ifB (i == (s.len : Int))
      (opTy P (Builtin.append_ #[t, t] t #[s.val, v.val]) Sl.val (fun t2 w3 =>
      K t2 w3) w)
      (ifB (decide ((i64 ((s.len : Int) + (v.len : Int))) > (s.cap : Int)))
      (opRd P (Instr.sliceAt t s.val none (some (.int .i64 i)) none) Sl.val (fun t4 =>
      opTy P (Builtin.append_ #[t, ti] t #[t4.val, (.int .i64 (i64 ((i64 ((s.len : Int) + (v.len : Int))) - i)))]) Sl.val (fun s25 w6 =>
      opRd P (Instr.sliceAt t s25.val (some (.int .i64 i)) none none) Sl.val (fun t7 =>
      opTy P (Builtin.copy_ #[t, t] ty #[t7.val, v.val]) (Value.int .i64) (fun t8 w9 =>
      heldM (fun S11 w10 =>
      opH P S11 (Instr.sliceAt t s25.val (some (.int .i64 (i64 (i + (v.len : Int))))) none none) Sl.val (fun t12 =>
      opH P S11 (Instr.sliceAt t s.val (some (.int .i64 i)) none none) Sl.val (fun t13 =>
      opTy P (Builtin.copy_ #[t, t] ty #[t12.val, t13.val]) (Value.int .i64) (fun t14 w15 =>
      (S11 w15) ∧
      (K s25 w15)) w10))) w9) w6) w6) w) w)
      (opRd P (Instr.sliceAt t s.val none (some (.int .i64 (i64 ((s.len : Int) + (v.len : Int))))) none) Sl.val (fun s16 =>
      opRd P (Instr.sliceAt t s16.val (some (.int .i64 (i64 (i + (v.len : Int))))) none none) Sl.val (fun t17 =>
      opEx P g #[v.val, t17.val] Value.bool (fun t18 w19 =>
      ifB (!t18)
      (heldM (fun S21 w20 =>
      opH P S21 (Instr.sliceAt t s16.val (some (.int .i64 (i64 (i + (v.len : Int))))) none none) Sl.val (fun t22 =>
      opH P S21 (Instr.sliceAt t s16.val (some (.int .i64 i)) none none) Sl.val (fun t23 =>
      opTy P (Builtin.copy_ #[t, t] ty #[t22.val, t23.val]) (Value.int .i64) (fun t24 w25 =>
      (S21 w25) ∧
      (opRd P (Instr.sliceAt t s16.val (some (.int .i64 i)) none none) Sl.val (fun t26 =>
      opTy P (Builtin.copy_ #[t, t] ty #[t26.val, v.val]) (Value.int .i64) (fun t27 w28 =>
      K s16 w28) w25) w25)) w20))) w19)
      (opRd P (Instr.sliceAt t s16.val (some (.int .i64 (s.len : Int))) none none) Sl.val (fun t29 =>
      opTy P (Builtin.copy_ #[t, t] ty #[t29.val, v.val]) (Value.int .i64) (fun t30 w31 =>
      opRd P (Instr.sliceAt t s16.val (some (.int .i64 i)) none none) Sl.val (fun t32 =>
      callV P uval rot #[t32.val, (.int .i64 (v.len : Int))] w31 fun t33 w34 =>
      K s16 w34) w31) w19) w19)) w) w) w)))) w := by
  subst hi
  have hsi := hs.is
  have hlen := hs.len
  have hvlen : v.len = vs.length := by rw [hv.eq]
  have hvpos : 0 < vs.length := List.length_pos_iff.2 hvs
  have hm : l.length + vs.length ≤ 140737488355328 := Nat.le_trans (Nat.le_mul_of_pos_right _ hby) hbytes
  have hlf : (l.flatMap E.cs).length = l.length * E.sz := E.length_flat l
  have hvf : (vs.flatMap E.cs).length = vs.length * E.sz := E.length_flat vs
  have hXf : ((l.take k).flatMap E.cs).length = k * E.sz := by rw [E.length_flat, List.length_take, Nat.min_eq_left hk]
  have hYf : ((l.drop k).flatMap E.cs).length = (l.length - k) * E.sz := by rw [E.length_flat, List.length_drop]
  have e1 : i64 ((s.len : Int) + (v.len : Int)) = ((l.length + vs.length : Nat) : Int) := by rw [i64_id] <;> omega
  have e2 : i64 ((k : Int) + (v.len : Int)) = ((k + vs.length : Nat) : Int) := by rw [i64_id] <;> omega
  rw [e1, e2]
  refine ⟨_, run_sub_l hsl rfl (by omega), ?_⟩
  refine ifEq (fun h => absurd h (by omega)) (fun _ => ?_)
  refine ifEq (fun hend => ?_) (fun hnend => ?_)
  · have hkl : k = l.length := by omega
    refine app_ty2 by_ ht hst hs hv.is hbytes hB hby fun s' w' ho hg hn => hK s' w' ?_ hg hn
    subst hkl
    rw [List.take_length, List.drop_length, List.append_nil]
    exact ho
  have hkl : k < l.length := by omega
  rcases hs.row with ⟨h0, h1⟩ | ⟨gs, cur, ha, hBg, hr, hl, hc, hmx, hcl, htk⟩
  · subst h1; simp at hkl
  have hblk : s.blk = some gs := by simp [Sl.blk, ha]
  have hgne : gs ≠ gv := fun e => hne (by rw [hblk, e])
  have hcur1 : cur.take (k * E.sz) = (l.take k).flatMap E.cs := by
    rw [E.flat_take, ← htk, List.take_take, Nat.min_eq_left (Nat.mul_le_mul_right _ hk)]
  have hcur2 : (cur.drop (k * E.sz)).take ((l.length - k) * E.sz) = (l.drop k).flatMap E.cs := by
    rw [E.flat_drop, ← htk, List.drop_take, Nat.sub_mul]
  refine ifD (fun hgrow => ?_) (fun hroom => ?_)
  · -- a new row
    have hgrow' : s.cap < l.length + vs.length := by omega
    refine ⟨_, run_sub_h hsl rfl (show k ≤ s.cap by omega), ?_⟩
    have e3 : i64 (((l.length + vs.length : Nat) : Int) - (k : Int)) = ((l.length + vs.length - k : Nat) : Int) := by rw [i64_id] <;> omega
    rw [e3]
    refine grow_ty E.sz by_ (x := s.sub 0 k E.sz) (olds := (l.take k).flatMap E.cs) ht hti E.pos hby rfl (by omega) (by simp only [Sl.sub]; omega) (by rw [hXf]; simp only [Sl.sub]; rw [Nat.sub_zero]) (.inr ⟨gs, 0, ?_, ?_⟩) ?_ fun s2 w2 cur2 ha2 hl2 hc2 hm2 hr2 hcl2 htk2 hx2 => ?_
    · rw [Sl.sub_at ha (by omega), Nat.zero_mul]
    · have := hr.cells 0 (k * E.sz)
      rw [List.drop_zero, hcur1] at this
      exact this
    · simp only [Sl.sub]
      rw [show k - 0 + (l.length + vs.length - k) = l.length + vs.length by omega]
      exact hbytes
    have hs2len : s2.len = l.length + vs.length := by rw [hl2]; simp only [Sl.sub]; omega
    simp only [Sl.sub, Nat.sub_zero] at htk2
    refine ⟨_, run_sub_l hsl rfl (show k ≤ s2.len by omega), ?_⟩
    have hkz : k * E.sz + vs.length * E.sz = (k + vs.length) * E.sz := by rw [Nat.add_mul]
    have hle : (l.length + vs.length) * E.sz ≤ cur2.length := by rw [hcl2]; exact Nat.mul_le_mul_right _ (by omega)
    have hle1 : (k + vs.length) * E.sz ≤ (l.length + vs.length) * E.sz := Nat.mul_le_mul_right _ (by omega)
    have hsum : (k + vs.length) * E.sz + (l.length - k) * E.sz = (l.length + vs.length) * E.sz := by rw [← Nat.add_mul]; congr 1; omega
    -- the first copy
    have hv2 := hv.ext hx2
    obtain ⟨w3, c1, c2, c3⟩ := run_copy (P := P) (w := w2) (dT := t) (sT := t) (ty := ty) (d := s2.sub k s2.len E.sz) (x := v) (g := w.heap.size) (o := k * E.sz) (n := vs.length) (xs := vs.flatMap E.cs) (cur := cur2) hsl (by simp only [Sl.sub]; omega) hr2 hvf (E.flat_one _)
      (fun _ => by rw [Sl.sub_at ha2 (by omega), Nat.zero_add]) (fun _ => by
        obtain ⟨T, hT⟩ := hv2.blk
        exact ⟨gv, 0, by rw [hv.eq], fun j u hj => by simp [World.cell?, hT, hj]⟩) (by rw [hvf, hkz]; omega)
    refine ⟨_, w3, c1, ?_⟩
    have hx3 : Ext w w3 := Below.wr hx2 (by omega) c2
    have hlay1 : (lay cur2 (k * E.sz) (vs.flatMap E.cs)).length = cur2.length := lay_len (by rw [hvf, hkz]; omega)
    refine heldM_of (fun _ => True) fun w4 hx4 => ⟨trivial, ?_⟩
    refine ⟨s2.sub (k + vs.length) s2.len E.sz, fun w' _ => run_sub_l hsl rfl (by omega), ?_⟩
    refine ⟨s.sub k s.len E.sz, fun w' _ => run_sub_l hsl rfl (by omega), ?_⟩
    have hr4 := (hr.ext (hx3.trans' hx4))
    have c34 := c3.ext hx4
    obtain ⟨w5, d1, d2, d3⟩ := run_copy (P := P) (w := w4) (dT := t) (sT := t) (ty := ty) (d := s2.sub (k + vs.length) s2.len E.sz) (x := s.sub k s.len E.sz) (g := w.heap.size) (o := (k + vs.length) * E.sz) (n := l.length - k) (xs := (l.drop k).flatMap E.cs) (cur := lay cur2 (k * E.sz) (vs.flatMap E.cs)) hsl
      (by simp only [Sl.sub]; omega) c34 hYf (E.flat_one _) (fun _ => by rw [Sl.sub_at ha2 (by omega), Nat.zero_add]) (fun _ => ⟨gs, k * E.sz, by rw [Sl.sub_at ha (by omega), Nat.zero_add], by have := hr4.cells (k * E.sz) ((l.length - k) * E.sz); rw [hcur2] at this; exact this⟩)
      (by rw [hYf, hlay1]; omega)
    refine ⟨_, w5, d1, trivial, hK _ _ ?_ ?_ (.inr ⟨w.heap.size, by simp [Sl.blk, ha2], Nat.le_refl _⟩)⟩
    · have hlay2 : (lay (lay cur2 (k * E.sz) (vs.flatMap E.cs)) ((k + vs.length) * E.sz) ((l.drop k).flatMap E.cs)).length = cur2.length := by rw [lay_len (by rw [hYf, hlay1]; omega), hlay1]
      refine OwnSl.of_row ha2 hB d3 (by simp; omega) hc2 hm2 (by rw [hlay2]; exact hcl2) ?_
      have := pieces3' (cur := cur2) (X := (l.take k).flatMap E.cs) (V := vs.flatMap E.cs) (Y := (l.drop k).flatMap E.cs) (by rw [hXf]; exact htk2) (by rw [hXf, hvf, hYf, hkz]; omega)
      rw [hXf, hvf, hYf, hkz, hsum] at this
      rw [show (l.take k ++ vs ++ l.drop k).length = l.length + vs.length from by simp; omega, this, List.flatMap_append, List.flatMap_append]
    · have hx5 : Ext w w5 := Below.wr (hx3.trans' hx4) (by omega) d2
      exact grown_ext hx5 _
  · -- there is room
    have hroom' : l.length + vs.length ≤ s.cap := by omega
    refine ⟨_, run_sub_h hsl rfl hroom', ?_⟩
    have hs16 : (s.sub 0 (l.length + vs.length) E.sz).a = some ⟨gs, 0, none⟩ := by rw [Sl.sub_at ha (by omega), Nat.zero_mul]
    have hcap16 : (s.sub 0 (l.length + vs.length) E.sz).cap = s.cap := rfl
    have hlen16 : (s.sub 0 (l.length + vs.length) E.sz).len = l.length + vs.length := rfl
    generalize hs16e : s.sub 0 (l.length + vs.length) E.sz = s16 at hs16 hcap16 hlen16
    refine ⟨_, run_sub_l hsl rfl (show k + vs.length ≤ s16.len by omega), ?_⟩
    have hkz : k * E.sz + vs.length * E.sz = (k + vs.length) * E.sz := by rw [Nat.add_mul]
    have hle : (l.length + vs.length) * E.sz ≤ cur.length := by rw [hcl]; exact Nat.mul_le_mul_right _ (by omega)
    have hle1 : (k + vs.length) * E.sz ≤ (l.length + vs.length) * E.sz := Nat.mul_le_mul_right _ (by omega)
    have hsum : (k + vs.length) * E.sz + (l.length - k) * E.sz = (l.length + vs.length) * E.sz := by rw [← Nat.add_mul]; congr 1; omega
    -- they lie apart
    have hova : (callFunc g #[v.val, (s16.sub (k + vs.length) s16.len E.sz).val]).run P w = .ok (.value (.bool false)) w := by
      obtain ⟨T, hT⟩ := hv.blk
      obtain ⟨T2, fr2, hT2, _⟩ := hr
      have hp := E.pos
      have hcp : 0 < cur.length := by
        have : 0 < (l.length + vs.length) * E.sz := Nat.mul_pos (by omega) hp
        omega
      have ev : v.val = .slice (some ⟨gv, 0, none⟩) vs.length vs.length := by rw [hv.eq]; rfl
      have es : (s16.sub (k + vs.length) s16.len E.sz).val = .slice (some ⟨gs, (k + vs.length) * E.sz, none⟩) (s16.len - (k + vs.length)) (s16.cap - (k + vs.length)) := by
        have := Sl.sub_at (i := k + vs.length) (j := s16.len) (z := E.sz) hs16 (by omega)
        rw [Nat.zero_add] at this
        unfold Sl.val
        rw [this]
        rfl
      rw [ev, es]
      refine hov w _ _ _ _ _ _ T T2 (vs.flatMap E.cs).length cur.length (fun e => hgne e.symm) ?_ ?_ (by omega) ?_ ?_
      · simp [World.shape?, hT]
      · simp [World.shape?, hT2]
      · simp [World.frozen?, hT]
      · simp [World.frozen?, hT]
    refine ⟨false, w, hova, ifNot (ifB_f rfl ?_)⟩
    refine heldM_of (fun _ => True) fun w4 hx4 => ⟨trivial, ?_⟩
    refine ⟨s16.sub (k + vs.length) s16.len E.sz, fun w' _ => run_sub_l hsl rfl (by omega), ?_⟩
    refine ⟨s16.sub k s16.len E.sz, fun w' _ => run_sub_l hsl rfl (by omega), ?_⟩
    have hr4 := hr.ext hx4
    obtain ⟨w5, d1, d2, d3⟩ := run_copy (P := P) (w := w4) (dT := t) (sT := t) (ty := ty) (d := s16.sub (k + vs.length) s16.len E.sz) (x := s16.sub k s16.len E.sz) (g := gs) (o := (k + vs.length) * E.sz) (n := l.length - k) (xs := (l.drop k).flatMap E.cs) (cur := cur) hsl
      (by simp only [Sl.sub]; omega) hr4 hYf (E.flat_one _) (fun _ => by rw [Sl.sub_at hs16 (by omega), Nat.zero_add]) (fun _ => ⟨gs, k * E.sz, by rw [Sl.sub_at hs16 (by omega), Nat.zero_add], by have := hr4.cells (k * E.sz) ((l.length - k) * E.sz); rw [hcur2] at this; exact this⟩)
      (by rw [hYf]; omega)
    refine ⟨_, w5, d1, trivial, ?_⟩
    have hlay1 : (lay cur ((k + vs.length) * E.sz) ((l.drop k).flatMap E.cs)).length = cur.length := lay_len (by rw [hYf]; omega)
    refine ⟨_, run_sub_l hsl rfl (show k ≤ s16.len by omega), ?_⟩
    have hv5 : LitSl E w5 gv v vs := (hv.ext hx4).keep (d2.block gv (fun e => hgne e.symm))
    obtain ⟨w6, c1, c2, c3⟩ := run_copy (P := P) (w := w5) (dT := t) (sT := t) (ty := ty) (d := s16.sub k s16.len E.sz) (x := v) (g := gs) (o := k * E.sz) (n := vs.length) (xs := vs.flatMap E.cs) (cur := lay cur ((k + vs.length) * E.sz) ((l.drop k).flatMap E.cs)) hsl (by simp only [Sl.sub]; omega) d3 hvf (E.flat_one _)
      (fun _ => by rw [Sl.sub_at hs16 (by omega), Nat.zero_add]) (fun _ => by
        obtain ⟨T, hT⟩ := hv5.blk
        exact ⟨gv, 0, by rw [hv.eq], fun j u hj => by simp [World.cell?, hT, hj]⟩) (by rw [hvf, hkz, hlay1]; omega)
    refine ⟨_, w6, c1, hK _ _ ?_ ?_ (.inl (by rw [hblk]; simp [Sl.blk, hs16]))⟩
    · refine OwnSl.of_row hs16 hBg c3 (by rw [hlen16]; simp; omega) (by omega) (by omega) (by rw [lay_len (by rw [hvf, hkz, hlay1]; omega), hlay1, hcap16]; exact hcl) ?_
      have := pieces3 (cur := cur) (X := (l.take k).flatMap E.cs) (V := vs.flatMap E.cs) (Y := (l.drop k).flatMap E.cs) (by rw [hXf]; exact hcur1) (by rw [hXf, hvf, hYf, hkz]; omega)
      rw [hXf, hvf, hYf, hkz, hsum] at this
      rw [show (l.take k ++ vs ++ l.drop k).length = l.length + vs.length from by simp; omega, this, List.flatMap_append, List.flatMap_append]
    · rw [hblk]
      exact grown_trans (grown_ext hx4 _) (grown_trans (grown_wr d2) (grown_wr c2))

/-! ### slices.Delete -/
theorem zero_one {z : Array Value} {n : Nat} (h : z.toList.all Value.oneCell' = true) (hz : 0 < z.size) : ∀ v ∈ (Builtin.zeroCells z n).toList, v.oneCell' = true := by
  intro v hv
  obtain ⟨j, hj, rfl⟩ := List.getElem_of_mem hv
  have hm : j % z.size < z.size := Nat.mod_lt _ hz
  have e : (Builtin.zeroCells z n).toList[j] = z[j % z.size] := by
    simp only [Builtin.zeroCells, Array.getElem_toList, Array.getElem_map, Array.getElem_range]
    exact getElem!_pos z _ hm
  rw [e]
  exact List.all_eq_true.1 h _ (Array.getElem_mem_toList hm)
theorem delete_vc {E : Enc α} {t : TypeId} (by_ : Nat) {zv : Value} {B : Nat} {s : Sl} {l : List α} {i j : Int} (k m : Nat) {K : Sl → World → Prop} (ht : appOk P t (elemT P t) E.sz by_ = true) (hsl : slOf P t = some E.sz) (hst : isSlT P t = true)
    (hzv : (P.info? (elemT P t)).bind (·.zero) = some zv) (hz1 : zv.cells.toList.all Value.oneCell' = true)
    (hi : i = (k : Int)) (hj : j = (m : Int)) (hkm : k < m) (hm : m ≤ l.length) (hs : OwnSl E w B s l)
    (hK : ∀ s' w', OwnSl E w' B s' (l.take k ++ l.drop m) → w.grownBy w' s.blk → NewOr w s s' → K s' w') :
    opRd P (Instr.sliceAt t s.val (some (.int .i64 i)) (some (.int .i64 j)) (some (.int .i64 (s.len : Int)))) Sl.val (fun t1 =>
      ifB (i == j)
      (K s w)
      (heldM (fun S3 w2 =>
      opH P S3 (Instr.sliceAt t s.val none (some (.int .i64 i)) none) Sl.val (fun t4 =>
      opH P S3 (Instr.sliceAt t s.val (some (.int .i64 j)) none none) Sl.val (fun t5 =>
      opTy P (Builtin.append_ #[t, t] t #[t4.val, t5.val]) Sl.val (fun s6 w7 =>
      (S3 w7) ∧
      (opRd P (Instr.sliceAt t s6.val (some (.int .i64 (s6.len : Int))) (some (.int .i64 (s.len : Int))) none) Sl.val (fun t8 =>
      opTy P (Builtin.clear_ #[t] 0 #[t8.val]) uval (fun u9 w10 =>
      K s6 w10) w7) w7)) w2))) w)) w := by
  subst hi hj
  obtain ⟨hu, inf, zv', hinf, hsz, hb', hzv', hzs⟩ := appOk_spec ht
  have hzz : zv' = zv := by rw [hinf] at hzv; simp only [Option.bind_some] at hzv; rw [hzv'] at hzv; exact Option.some.inj hzv
  subst hzz
  have hlen := hs.len
  have hcap := hs.is.cap
  refine ⟨_, run_sub_lhm hsl rfl rfl rfl (by omega) (by omega) hcap, ?_⟩
  refine ifEq (fun h => by omega) (fun _ => ?_)
  rcases hs.row with ⟨h0, h1⟩ | ⟨gs, cur, ha, hBg, hr, hl, hc, hmx, hcl, htk⟩
  · subst h1; simp at hm; omega
  have hblk : s.blk = some gs := by simp [Sl.blk, ha]
  refine heldM_of (fun _ => True) fun w2 hx2 => ⟨trivial, ?_⟩
  refine ⟨s.sub 0 k E.sz, fun w' _ => run_sub_h hsl rfl (by omega), ?_⟩
  refine ⟨s.sub m s.len E.sz, fun w' _ => run_sub_l hsl rfl (by omega), ?_⟩
  have hr2 := hr.ext hx2
  have hp := E.pos
  have hYf : ((l.drop m).flatMap E.cs).length = (l.length - m) * E.sz := by rw [E.length_flat, List.length_drop]
  have hXf : ((l.take k).flatMap E.cs).length = k * E.sz := by rw [E.length_flat, List.length_take, Nat.min_eq_left (by omega)]
  have hsum : k * E.sz + (l.length - m) * E.sz = (k + (l.length - m)) * E.sz := by rw [Nat.add_mul]
  have hle : (k + (l.length - m)) * E.sz ≤ l.length * E.sz := Nat.mul_le_mul_right _ (by omega)
  have hle2 : l.length * E.sz ≤ cur.length := by rw [hcl]; exact Nat.mul_le_mul_right _ (by omega)
  -- the piece that is moved
  have hsrc : Src P inf.size t (s.sub m s.len E.sz).val (l.length - m) ((l.drop m).flatMap E.cs) w2 := by
    rw [hsz]
    have hi := (hs.is.ext hx2).sub (i := m) (j := s.len) (by omega) (by omega)
    rw [show (l.drop m).take (s.len - m) = l.drop m from List.take_of_length_le (by simp; omega)] at hi
    have := hi.src (tx := t) (e' := elemT P t) hu
    rwa [List.length_drop] at this
  have hfit : k * E.sz + ((l.drop m).flatMap E.cs).length ≤ cur.length := by rw [hYf]; omega
  obtain ⟨T, fr, hT, hfr⟩ := hr2
  have hcell : ∀ q, q < ((l.drop m).flatMap E.cs).length → (w2.cell? ⟨gs, 0 + k * inf.size + q, none⟩).isSome = true := fun q hq => by
    rw [hsz]
    simp [World.cell?, hT]
    omega
  have hfro : ∀ q, q < ((l.drop m).flatMap E.cs).length → w2.frozen? ⟨gs, 0 + k * inf.size + q, none⟩ = false := fun q hq => by
    rw [hsz]
    obtain ⟨f1, f2⟩ := fr
    simp only [World.frozen?, hT]
    rcases hfr with e' | e'
    · cases e'; simp
    · have : ¬ (f1 ≤ 0 + k * E.sz + q) := by simp at e'; omega
      simp only [this, decide_false, Bool.false_and]
  have hrun := run_append_room_src (P := P) w2 t t t _ inf hu hinf gs 0 k s.cap (s.sub m s.len E.sz).val (l.length - m) ((l.drop m).flatMap E.cs) hsrc (by omega) hcell hfro
  rw [hsz, Nat.zero_add] at hrun
  obtain ⟨hb, hw⟩ := setCells_blk ((l.drop m).flatMap E.cs) (k * E.sz) w2 cur.toArray hT (by simpa using hfit)
  have e4 : (s.sub 0 k E.sz).val = .slice (some ⟨gs, 0, none⟩) k s.cap := by
    have := Sl.sub_at (i := 0) (j := k) (z := E.sz) ha (by omega)
    rw [Nat.zero_mul] at this
    unfold Sl.val
    rw [this]
    simp [Sl.sub]
  rw [e4]
  refine ⟨⟨some ⟨gs, 0, none⟩, k + (l.length - m), s.cap⟩, _, hrun, trivial, ?_⟩
  have hrow3 : RowAt (w2.setCells gs (k * E.sz) ((l.drop m).flatMap E.cs)) gs (lay cur (k * E.sz) ((l.drop m).flatMap E.cs)) := ⟨T, fr, by simpa [lay] using hb, by rw [lay_len hfit]; exact hfr⟩
  have hlay : (lay cur (k * E.sz) ((l.drop m).flatMap E.cs)).length = cur.length := lay_len hfit
  generalize w2.setCells gs (k * E.sz) ((l.drop m).flatMap E.cs) = w3 at hrow3 hw
  refine ⟨_, run_sub_lh (m := k + (l.length - m)) (n := s.len) hsl rfl rfl (by omega) (by dsimp only; omega), ?_⟩
  -- what lies behind is cleared
  have hcap2 : (k + (l.length - m)) * E.sz < cur.length := by
    have : (k + (l.length - m) + 1) * E.sz ≤ l.length * E.sz := Nat.mul_le_mul_right _ (by omega)
    rw [Nat.add_mul, Nat.one_mul] at this
    omega
  have hzl : (Builtin.zeroCells zv'.cells (s.len - (k + (l.length - m)))).toList.length = (s.len - (k + (l.length - m))) * E.sz := by rw [Array.length_toList, size_zeroCells, hzs]
  have hfit2 : (k + (l.length - m)) * E.sz + 0 + (Builtin.zeroCells zv'.cells (s.len - (k + (l.length - m)))).toList.length ≤ (lay cur (k * E.sz) ((l.drop m).flatMap E.cs)).length := by
    rw [hzl, hlay, Nat.add_zero, ← Nat.add_mul]
    have : (k + (l.length - m) + (s.len - (k + (l.length - m)))) * E.sz ≤ l.length * E.sz := Nat.mul_le_mul_right _ (by omega)
    omega
  obtain ⟨w4, r1, r2, r3⟩ := hrow3.store (P := P) hfit2 (zero_one hz1 (by rw [hzs]; exact hp))
  have hA := Sl.sub_at (s := ⟨some ⟨gs, 0, none⟩, k + (l.length - m), s.cap⟩) (i := k + (l.length - m)) (j := s.len) (z := E.sz) rfl (by dsimp only; omega)
  rw [Nat.zero_add] at hA
  have e8 : (Sl.sub ⟨some ⟨gs, 0, none⟩, k + (l.length - m), s.cap⟩ (k + (l.length - m)) s.len E.sz).val = .slice (some ⟨gs, (k + (l.length - m)) * E.sz, none⟩) (s.len - (k + (l.length - m))) (s.cap - (k + (l.length - m))) := by
    unfold Sl.val
    rw [hA]
    rfl
  show opTy P (Builtin.clear_ #[t] 0 #[(Sl.sub ⟨some ⟨gs, 0, none⟩, k + (l.length - m), s.cap⟩ (k + (l.length - m)) s.len E.sz).val]) uval _ _
  rw [e8]
  refine ⟨(), w4, ?_, hK _ _ ?_ ?_ (.inl (by rw [hblk]; rfl))⟩
  · obtain ⟨q, hq⟩ : ∃ q, s.len - (k + (l.length - m)) = q + 1 := ⟨s.len - (k + (l.length - m)) - 1, by omega⟩
    rw [hq] at r1 ⊢
    unfold Builtin.clear_
    simp only [List.getElem?_toArray, List.getElem?_cons_zero]
    rw [Sem.run_bind, run_und hu, Result.andThen_ok]
    simp [zeroValue, typeInfo, hinf, hzv', r1, uval]
  · refine OwnSl.of_row rfl hBg r3 (by simp; omega) (by dsimp only; omega) hmx (by rw [lay_len hfit2, hlay]; exact hcl) ?_
    have hlt : (l.take k ++ l.drop m).length = k + (l.length - m) := by simp; omega
    rw [hlt, lay_take (by simpa using hfit2) (by omega), List.flatMap_append]
    have hX : cur.take (k * E.sz) = (l.take k).flatMap E.cs := by rw [E.flat_take, ← htk, List.take_take, Nat.min_eq_left (Nat.mul_le_mul_right _ (by omega))]
    unfold lay
    rw [hX, List.take_append_of_le_length (by rw [List.length_append, hXf, hYf]; omega), List.take_of_length_le (by rw [List.length_append, hXf, hYf]; omega)]
  · rw [hblk]
    exact grown_trans (grown_ext hx2 _) (grown_trans (grown_wr hw) (grown_wr r2))
end Go.Vc
