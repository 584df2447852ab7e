/-
  append onto a slice that has no room: a new row. Of whatever program.
-/
import Derived.Test.YtnnoalpkldpjfaaGreatDoorMX
set_option linter.unusedVariables false
namespace Go.Vc
open Go.RowKit (Below)
variable {α β : Type} {P : Program} {w : World}
theorem app_full {E : Enc α} {t tx ty : TypeId} (by_ : Nat) {B : Nat} {s x : Sl} {l ms : List α} {K : Sl → World → Prop} (ht : appOk P t (elemT P t) E.sz by_ = true) (hx : isSlT P tx = true) (hs : IsSl E w s l) (hno : s.cap < l.length + ms.length) (hm : IsSl E w x ms)
    (hbytes : (l.length + ms.length) * by_ ≤ 140737488355328) (hby : 0 < by_) (hB : B ≤ w.heap.size)
    (hK : ∀ s' w', OwnSl E w' B s' (l ++ ms) → Ext w w' → K s' w') : opTy P (Builtin.append_ #[t, tx] ty #[s.val, x.val]) Sl.val K w := by
  obtain ⟨hu, i, z, hi, hsz, hb', hz, hzs⟩ := appOk_spec ht
  subst hb'
  have hmax : l.length + ms.length ≤ 140737488355328 := Nat.le_trans (Nat.le_mul_of_pos_right _ hby) hbytes
  unfold isSlT at hx
  split at hx
  case h_2 => cases hx
  case h_1 e' he' =>
    have hsrc : Src P i.size tx x.val ms.length (ms.flatMap E.cs) w := by rw [hsz]; exact IsSl.src he' hm
    obtain ⟨base, sl, cap⟩ := s
    have hl : sl = l.length := hs.len
    subst hl
    have hold : (Builtin.firstCells i.size l.length (.slice base l.length cap)).run P w.drew = .ok (l.flatMap E.cs).toArray w.drew := by
      rcases hs.mem with h0 | ⟨b, o, ha, hb, hc⟩
      · subst h0
        cases base <;> simp [Builtin.firstCells, loadCells, loadCellsFrom]
      · have ha : base = some ⟨b, o, none⟩ := ha
        subst ha
        have hc' : CellsAt w.drew b o (l.flatMap E.cs) := hc.same rfl
        have := run_ldCells' (P := P) (w := w.drew) (b := b) (o := o) (n := (l.flatMap E.cs).length) rfl hc'
        simp only [E.length_flat] at this
        simp only [Builtin.firstCells, hsz]
        exact this
    have hlt : cap < l.length + ms.length := hno
    have hr := run_append_grow_src (P := P) w t tx ty (elemT P t) i z hu hi hz base l.length cap (l.flatMap E.cs) hold x.val ms.length (ms.flatMap E.cs) hsrc hlt (by omega) (growslice_fits hlt hbytes)
    have hge := grownCap_ge w (l.length + ms.length) cap (elemT P t)
    have hle := grownCap_le_maxLen w (l.length + ms.length) cap (elemT P t) (by simp only [maxLen]; omega)
    refine ⟨⟨some ⟨w.heap.size, 0, none⟩, l.length + ms.length, grownCap w (l.length + ms.length) cap (elemT P t)⟩, _, hr, hK _ _ (.inr ⟨w.heap.size, _, elemT P t, (0, 0), rfl, hB, heap_alloc_new w.drew _, .inl rfl, by simp, hge, ?_, ?_, ?_⟩) ?_⟩
    · simp only [maxLen] at hle; omega
    · simp only [Array.size_append, List.size_toArray, size_zeroCells, hzs, List.length_append, E.length_flat]
      rw [← Nat.add_mul, ← Nat.add_mul]
      congr 1
      omega
    · rw [List.flatMap_append, ← E.length_flat (l ++ ms), List.flatMap_append]
      simp only [Array.toList_append]
      exact List.take_left
    · exact ⟨rfl, rfl, rfl, by simp, fun k hk => Below.heap_alloc w.drew _ k hk⟩
/-- A piece of which the room ends where it ends. -/
theorem IsSl.full {E : Enc α} {s : Sl} {l : List α} (h : IsSl E w s l) {n z : Nat} (hn : n ≤ l.length) (h0 : 0 < n) : IsSl E w (s.sub3 0 n n z) (l.take n) := by
  have hl := h.len
  have hc := h.cap
  have hm := h.max
  have e0 : s.sub3 0 n n z = ⟨s.a.map (·.add 0), n, n⟩ := by
    unfold Sl.sub3
    rw [if_neg (by omega), Nat.zero_mul]
    simp
  rw [e0]
  refine ⟨by rw [List.length_take, Nat.min_eq_left hn], Nat.le_refl _, by show n ≤ 9223372036854775807; omega, ?_, fun e => ?_⟩
  · rcases h.mem with h1 | ⟨b, o, ha, hb, hcs⟩
    · exact .inl (by subst h1; simp)
    · refine .inr ⟨b, o, by rw [ha]; rfl, hb, fun k v hk => ?_⟩
      rw [E.flat_take] at hk
      have h1 : k < n * E.sz := by
        have := (List.getElem?_eq_some_iff.1 hk).1
        simp at this
        omega
      rw [List.getElem?_take, if_pos h1] at hk
      exact hcs k v hk
  · have : s.a = none := by
      cases hs : s.a with
      | none => rfl
      | some a => simp [hs] at e
    have := h.nil this
    omega
theorem Sl.sub3_blk (s : Sl) (i j k z : Nat) : (s.sub3 i j k z).blk = s.blk := by
  unfold Sl.sub3 Sl.blk
  simp only
  split
  · rfl
  · cases s.a with
    | none => rfl
    | some a => simp only [Option.map_some, Option.some.injEq]; unfold Addr.add; split <;> rfl
end Go.Vc
