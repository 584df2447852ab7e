/-
  Pieces of slices. Of whatever program.
-/
import Derived.Test.YtnnoalpkldpjfaaGreatDoorVar
namespace Go.Vc
open Go.RowKit (Below)
variable {α β : Type} {P : Program} {w : World}

/-- A piece of a slice. -/
def Sl.sub (s : Sl) (i j z : Nat) : Sl := ⟨if s.cap = i then s.a else s.a.map (·.add (i * z)), j - i, s.cap - i⟩
theorem Sl.sub_blk (s : Sl) (i j z : Nat) : (s.sub i j z).blk = s.blk := by
  unfold Sl.sub Sl.blk
  simp only
  split
  · rfl
  · cases s.a with
    | none => rfl
    | some a => simp only [Option.map_some, Option.some.injEq]; unfold Addr.add; split <;> rfl
theorem IsSl.sub {E : Enc α} {s : Sl} {l : List α} (h : IsSl E w s l) {i j : Nat} (hij : i ≤ j) (hj : j ≤ l.length) : IsSl E w (s.sub i j E.sz) ((l.drop i).take (j - i)) := by
  have hl := h.len
  have hc := h.cap
  have hm := h.max
  refine ⟨?_, ?_, ?_, ?_, ?_⟩
  · simp [Sl.sub]; omega
  · simp only [Sl.sub]; omega
  · simp only [Sl.sub]; omega
  · rcases h.mem with h0 | ⟨b, o, ha, hb, hcs⟩
    · exact .inl (by subst h0; simp)
    · by_cases hcap : s.cap = i
      · exact .inl (by
          have : j - i = 0 := by omega
          rw [this]; rfl)
      · refine .inr ⟨b, o + i * E.sz, by simp [Sl.sub, hcap, ha, addr_add], hb, fun k v hk => ?_⟩
        rw [E.flat_take, E.flat_drop] at hk
        have h1 : k < (j - i) * E.sz := by
          have := (List.getElem?_eq_some_iff.1 hk).1
          simp at this
          omega
        rw [List.getElem?_take, if_pos h1, List.getElem?_drop] at hk
        have := hcs (i * E.sz + k) v hk
        rw [Nat.add_assoc]; exact this
  · intro e
    have : s.a = none := by
      simp only [Sl.sub] at e
      split at e
      · exact e
      · cases hs : s.a with
        | none => rfl
        | some a => simp [hs] at e
    have := h.nil this
    simp only [Sl.sub]; omega

theorem IsSl.grownB {E : Enc α} {w' : World} {s : Sl} {l : List α} {row : Option Nat} (h : IsSl E w s l) (hg : w.grownBy w' row) (hr : ∀ b, s.blk = some b → some b ≠ row) : IsSl E w' s l :=
  h.grown hg fun b o ha => hr b (by simp [Sl.blk, ha])
theorem OwnSl.grownB {E : Enc α} {B : Nat} {s : Sl} {l : List α} {w' : World} {row : Option Nat} (h : OwnSl E w B s l) (hg : w.grownBy w' row) (hr : ∀ b, s.blk = some b → some b ≠ row) : OwnSl E w' B s l :=
  h.grown hg fun g ha => hr g (by simp [Sl.blk, ha])

theorem elem_of {t n : TypeId} (ht : slOf P t = some n) : P.underlying t = some (.slice (P.elem t)) ∧ sizeT P (P.elem t) = some n := by
  obtain ⟨e, he, hn⟩ := slOf_spec ht
  have : P.elem t = e := by simp [Program.elem, he]
  rw [this]; exact ⟨he, hn⟩

theorem sub_lh {E : Enc α} {t : TypeId} {s : Sl} {l : List α} {i j : Int} {m n : Nat} {K : Sl → Prop} (ht : slOf P t = some E.sz) (h : IsSl E w s l) (hi : i = (m : Int)) (hj : j = (n : Int)) (hij : m ≤ n) (hn : n ≤ l.length)
    (hK : ∀ s', IsSl E w s' ((l.drop m).take (n - m)) → s'.blk = s.blk → K s') : opRd P (Instr.sliceAt t s.val (some (.int .i64 i)) (some (.int .i64 j)) none) Sl.val K w := by
  obtain ⟨he, hz⟩ := elem_of ht
  have hl := h.len
  have hc := h.cap
  subst hi hj
  refine ⟨s.sub m n E.sz, ?_, hK _ (h.sub hij hn) (s.sub_blk _ _ _)⟩
  rw [run_sliceAt_slice w t _ _ _ _ he, show s.val = .slice s.a s.len s.cap from rfl, run_slice_lh w t s.a s.len s.cap he _ _ _ _ (by omega) (by omega) (by omega), run_size hz]
  simp [Result.andThen, sliced, Sl.sub, Sl.val]
theorem sub_l {E : Enc α} {t : TypeId} {s : Sl} {l : List α} {i : Int} {m : Nat} {K : Sl → Prop} (ht : slOf P t = some E.sz) (h : IsSl E w s l) (hi : i = (m : Int)) (hm : m ≤ l.length)
    (hK : ∀ s', IsSl E w s' (l.drop m) → s'.blk = s.blk → K s') : opRd P (Instr.sliceAt t s.val (some (.int .i64 i)) none none) Sl.val K w := by
  obtain ⟨he, hz⟩ := elem_of ht
  have hl := h.len
  have hc := h.cap
  subst hi
  have h1 := h.sub hm (Nat.le_refl _)
  rw [show (l.drop m).take (l.length - m) = l.drop m from List.take_of_length_le (by simp)] at h1
  refine ⟨s.sub m l.length E.sz, ?_, hK _ h1 (s.sub_blk _ _ _)⟩
  rw [run_sliceAt_slice w t _ _ _ _ he, show s.val = .slice s.a s.len s.cap from rfl, run_slice_l w t s.a s.len s.cap he _ _ (by omega) (by omega), run_size hz]
  simp [Result.andThen, sliced, Sl.sub, Sl.val, hl]
theorem sub_h {E : Enc α} {t : TypeId} {s : Sl} {l : List α} {j : Int} {n : Nat} {K : Sl → Prop} (ht : slOf P t = some E.sz) (h : IsSl E w s l) (hj : j = (n : Int)) (hn : n ≤ l.length)
    (hK : ∀ s', IsSl E w s' (l.take n) → s'.blk = s.blk → K s') : opRd P (Instr.sliceAt t s.val none (some (.int .i64 j)) none) Sl.val K w := by
  obtain ⟨he, hz⟩ := elem_of ht
  have hl := h.len
  have hc := h.cap
  subst hj
  have h1 := h.sub (Nat.zero_le n) hn
  rw [List.drop_zero, Nat.sub_zero] at h1
  refine ⟨s.sub 0 n E.sz, ?_, hK _ h1 (s.sub_blk _ _ _)⟩
  rw [run_sliceAt_slice w t _ _ _ _ he, show s.val = .slice s.a s.len s.cap from rfl, run_slice_h w t s.a s.len s.cap he _ _ (by omega) (by omega), run_size hz]
  simp [Result.andThen, sliced, Sl.sub, Sl.val]
/-- The same, as an equation: what is met in a region. -/
theorem sub_lh' {E : Enc α} {t : TypeId} {s : Sl} {l : List α} {i j : Int} {m n : Nat} {K : Sl → Prop} (ht : slOf P t = some E.sz) (h : IsSl E w s l) (hi : i = (m : Int)) (hj : j = (n : Int)) (hij : m ≤ n) (hn : n ≤ l.length)
    (hK : K (s.sub m n E.sz)) : opRd P (Instr.sliceAt t s.val (some (.int .i64 i)) (some (.int .i64 j)) none) Sl.val K w := by
  obtain ⟨he, hz⟩ := elem_of ht
  have hl := h.len
  have hc := h.cap
  subst hi hj
  refine ⟨s.sub m n E.sz, ?_, hK⟩
  rw [run_sliceAt_slice w t _ _ _ _ he, show s.val = .slice s.a s.len s.cap from rfl, run_slice_lh w t s.a s.len s.cap he _ _ _ _ (by omega) (by omega) (by omega), run_size hz]
  simp [Result.andThen, sliced, Sl.sub, Sl.val]

/-! ### In a region that draws -/
def Sl.at (s : Sl) (k z : Nat) : Addr := match s.a with | some a => a.add (k * z) | none => ⟨0, 0, none⟩
theorem ix_eq {E : Enc α} {t : TypeId} {s : Sl} {l : List α} {i : Int} {k : Nat} (ht : slOf P t = some E.sz) (hs : IsSl E w s l) (hi : i = (k : Int)) (hk : k < l.length) :
    (Instr.indexAt t s.val (.int .i64 i)).run P w = .ok (pav (s.at k E.sz)) w ∧ ElAt E w (s.at k E.sz) l[k] := by
  obtain ⟨e, he, hn⟩ := slOf_spec ht
  rcases hs.mem with h0 | ⟨b, o, ha, hb, hc⟩
  · subst h0; simp at hk
  · have e1 : s.at k E.sz = ⟨b, o + k * E.sz, none⟩ := by simp [Sl.at, ha, addr_add]
    rw [e1]
    refine ⟨run_indexAt he hn hi (by rw [hs.len]; exact hk) ha, rfl, hb, fun j v hj => ?_⟩
    have hjs : j < E.sz := by
      have := (List.getElem?_eq_some_iff.1 hj).1
      rwa [E.len] at this
    have := hc (k * E.sz + j) v (by rw [E.flat_get l k j hk hjs]; exact hj)
    rw [Nat.add_assoc]; exact this
/-- A field of an element, in a region. -/
theorem fldH {E : Enc α} {S : World → Prop} {t u : TypeId} {s : Sl} {l : List α} {i : Int} {k off : Nat} {val : β → Value} {y : β} {K : Addr → β → Prop} (ht : slOf P t = some E.sz) (hu : oneT P u = true) (hS : ∀ w', S w' → IsSl E w' s l) (hi : i = (k : Int)) (hk : k < l.length)
    (hv : (E.cs l[k])[off]? = some (val y)) (hK : ∀ a, K a y) : opH P S (Instr.indexAt t s.val (.int .i64 i)) pav (fun a => opH P S (Instr.loadAt u (.pointer (some (a.add off)))) val (K a)) :=
  ⟨s.at k E.sz, fun w' hw => (ix_eq ht (hS w' hw) hi hk).1, y, fun w' hw => by
    have h := (ix_eq (P := P) ht (hS w' hw) hi hk).2
    exact run_ld hu (by rw [addr_off _ h.spot]; exact h.cells off _ hv), hK _⟩
theorem elH {E : Enc α} {S : World → Prop} {t u : TypeId} {s : Sl} {l : List α} {i : Int} {k : Nat} {val : β → Value} {y : β} {K : Addr → β → Prop} (ht : slOf P t = some E.sz) (hu : oneT P u = true) (hS : ∀ w', S w' → IsSl E w' s l) (hi : i = (k : Int)) (hk : k < l.length)
    (hv : (E.cs l[k])[0]? = some (val y)) (hK : ∀ a, K a y) : opH P S (Instr.indexAt t s.val (.int .i64 i)) pav (fun a => opH P S (Instr.loadAt u (.pointer (some a))) val (K a)) :=
  ⟨s.at k E.sz, fun w' hw => (ix_eq ht (hS w' hw) hi hk).1, y, fun w' hw => by
    have h := (ix_eq (P := P) ht (hS w' hw) hi hk).2
    exact run_ld hu (by rw [addr_eta _ h.spot]; exact h.cells 0 _ hv), hK _⟩

/-! ### A struct within an element -/
theorem addr_add2 (a : Addr) (h : a.spot = none) (i j : Nat) : (a.add i).add j = a.add (i + j) := by
  rw [addr_off a h, addr_off a h, addr_add, Nat.add_assoc]
theorem fld2_rd {E : Enc α} {t u : TypeId} {s : Sl} {l : List α} {i : Int} {k o1 o2 : Nat} {val : β → Value} {y : β} {K : Addr → β → Prop} (ht : slOf P t = some E.sz) (hu : oneT P u = true) (hs : IsSl E w s l) (hi : i = (k : Int)) (hk : k < l.length)
    (hv : (E.cs l[k])[o1 + o2]? = some (val y)) (hK : ∀ a, K a y) : opRd P (Instr.indexAt t s.val (.int .i64 i)) pav (fun a => opRd P (Instr.loadAt u (.pointer (some ((a.add o1).add o2)))) val (K a) w) w :=
  ix_rd ht hs hi hk fun a ha => by rw [addr_add2 a ha.spot]; exact ld_el hu ha hv (hK a)
/-- A struct that is a field of an element, as a whole. -/
theorem run_ldPart {E : Enc α} {t n : TypeId} {a : Addr} {x : α} {off : Nat} {xs : List Value} (ht : agT P t = some n) (hn : xs.length = n) (h : ElAt E w a x) (hx : ∀ (j : Nat) v, xs[j]? = some v → (E.cs x)[off + j]? = some v) :
    (Instr.loadAt t (.pointer (some (a.add off)))).run P w = .ok (.agg ⟨xs⟩) w := by
  rw [addr_off a h.spot]
  exact run_ldAgg ht hn rfl fun j v hj => by have := h.cells (off + j) v (hx j v hj); rw [Nat.add_assoc]; exact this
theorem part_rd {E : Enc α} {t u n : TypeId} {s : Sl} {l : List α} {i : Int} {k off : Nat} {val : β → Value} {y : β} {xs : List Value} {K : Addr → β → Prop} (ht : slOf P t = some E.sz) (hu : agT P u = some n) (hs : IsSl E w s l) (hi : i = (k : Int)) (hk : k < l.length)
    (hv : val y = .agg ⟨xs⟩) (hn : xs.length = n) (hx : ∀ (j : Nat) v, xs[j]? = some v → (E.cs l[k])[off + j]? = some v) (hK : ∀ a, K a y) : opRd P (Instr.indexAt t s.val (.int .i64 i)) pav (fun a => opRd P (Instr.loadAt u (.pointer (some (a.add off)))) val (K a) w) w :=
  ix_rd ht hs hi hk fun a ha => ⟨y, by rw [hv]; exact run_ldPart hu hn ha hx, hK a⟩
theorem partH {E : Enc α} {S : World → Prop} {t u n : TypeId} {s : Sl} {l : List α} {i : Int} {k off : Nat} {val : β → Value} {y : β} {xs : List Value} {K : Addr → β → Prop} (ht : slOf P t = some E.sz) (hu : agT P u = some n) (hS : ∀ w', S w' → IsSl E w' s l) (hi : i = (k : Int)) (hk : k < l.length)
    (hv : val y = .agg ⟨xs⟩) (hn : xs.length = n) (hx : ∀ (j : Nat) v, xs[j]? = some v → (E.cs l[k])[off + j]? = some v) (hK : ∀ a, K a y) : opH P S (Instr.indexAt t s.val (.int .i64 i)) pav (fun a => opH P S (Instr.loadAt u (.pointer (some (a.add off)))) val (K a)) :=
  ⟨s.at k E.sz, fun w' hw => (ix_eq ht (hS w' hw) hi hk).1, y, fun w' hw => by rw [hv]; exact run_ldPart hu hn (ix_eq (P := P) ht (hS w' hw) hi hk).2 hx, hK _⟩
end Go.Vc
