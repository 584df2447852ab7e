/-
  Images as bytes, in plain Lean.
-/
import Derived.Test.YthofeajlmgecmaaGreatDoorMH
set_option maxRecDepth 20000
set_option linter.unusedVariables false
namespace Go.Chg
open Go.Vc
variable {l : List UInt8} {v p q no : Int}
/-- A conf: from when on, and who. -/
abbrev Cf := Int × List Int
abbrev maxI : Int := 9223372036854775807
def numB (n : Int) : List UInt8 := enc n.toNat
def cfB (c : Cf) : List UInt8 := numB c.1 ++ (enc c.2.length ++ c.2.flatMap numB)
def cfsB (cs : List Cf) : List UInt8 := enc cs.length ++ cs.flatMap cfB
def imgB (sch idx act : Int) (cs : List Cf) (s : List UInt8) : List UInt8 := numB sch ++ numB idx ++ (if sch = 2 then numB act else []) ++ cfsB cs ++ (enc s.length ++ s)
def rdNum (l : List UInt8) (p no : Int) : Int × Int × Int := rdNumber l maxI p no
def rdCf (l : List UInt8) (p no : Int) : Cf × Int × Int :=
  let f := rdNum l p no
  let n := rdCount l 9 f.2.1 f.2.2
  let m := rdList (rdNum l) n.2.1 n.2.2 n.1.toNat
  ((f.1, m.1), m.2)
def rdCfs (l : List UInt8) (p no : Int) : List Cf × Int × Int :=
  rdList (rdCf l) (rdCount l 64 p no).2.1 (rdCount l 64 p no).2.2 (rdCount l 64 p no).1.toNat
def rdAct (l : List UInt8) (v p no : Int) : Int × Int × Int := if v = 2 then rdNum l p no else (0, p, no)
theorem rdNum_inv (h : (rdNum l p no).2.2 = 0) : no = 0 ∧ Took l p (rdNum l p no).2.1 (numB (rdNum l p no).1) ∧ 0 ≤ (rdNum l p no).1 ∧ (rdNum l p no).1 ≤ maxI := by
  obtain ⟨h0, m, h1, h2, _, h3⟩ := rdNumber_inv h
  refine ⟨h0, ?_, ?_, ?_⟩
  · unfold numB
    show Took l p (rdNumber l maxI p no).2.1 (enc (rdNumber l maxI p no).1.toNat)
    rw [h1, Int.toNat_natCast]
    exact h3
  · show 0 ≤ (rdNumber l maxI p no).1
    omega
  · show (rdNumber l maxI p no).1 ≤ maxI
    omega
theorem rdCf_inv (h : (rdCf l p no).2.2 = 0) : no = 0 ∧ Took l p (rdCf l p no).2.1 (cfB (rdCf l p no).1) ∧ (rdCf l p no).1.2.length ≤ 9 := by
  unfold rdCf at h ⊢
  dsimp only at h ⊢
  generalize hf : rdNum l p no = f at h ⊢
  generalize hn : rdCount l 9 f.2.1 f.2.2 = n at h ⊢
  have n0 : n.2.2 = 0 := Classical.byContradiction fun hb => rdList_bad (fun p no hno h => hno (rdNum_inv h).1) hb n.1.toNat h
  subst hn
  obtain ⟨f0, j, j1, j2, _, j4, _⟩ := rdCount_inv n0
  obtain ⟨_, t2, _⟩ := rdList_inv (B := numB) (Q := fun _ => True) (fun p no h => ⟨(rdNum_inv h).1, (rdNum_inv h).2.1, trivial⟩) (by have := j4.nonneg; have := j4.len; omega) j4.le _ h
  subst hf
  obtain ⟨h0, t1, _⟩ := rdNum_inv f0
  have hlen := rdList_len (one := rdNum l) (p := (rdCount l 9 (rdNum l p no).2.1 (rdNum l p no).2.2).2.1) (no := (rdCount l 9 (rdNum l p no).2.1 (rdNum l p no).2.2).2.2) (rdCount l 9 (rdNum l p no).2.1 (rdNum l p no).2.2).1.toNat
  refine ⟨h0, ?_, by rw [hlen]; omega⟩
  unfold cfB
  dsimp only
  rw [hlen, j1, Int.toNat_natCast]
  rw [j1, Int.toNat_natCast] at t2
  exact t1.trans (j4.trans t2)
theorem rdCfs_inv (h : (rdCfs l p no).2.2 = 0) : no = 0 ∧ Took l p (rdCfs l p no).2.1 (cfsB (rdCfs l p no).1) ∧ (rdCfs l p no).1.length ≤ 64 := by
  unfold rdCfs at h ⊢
  generalize hn : rdCount l 64 p no = n at h ⊢
  have n0 : n.2.2 = 0 := Classical.byContradiction fun hb => rdList_bad (fun p no hno h => hno (rdCf_inv h).1) hb n.1.toNat h
  subst hn
  obtain ⟨f0, j, j1, j2, _, j4, _⟩ := rdCount_inv n0
  obtain ⟨_, t2, _⟩ := rdList_inv (B := cfB) (Q := fun _ => True) (fun p no h => ⟨(rdCf_inv h).1, (rdCf_inv h).2.1, trivial⟩) (by have := j4.nonneg; have := j4.len; omega) j4.le _ h
  have hlen := rdList_len (one := rdCf l) (p := (rdCount l 64 p no).2.1) (no := (rdCount l 64 p no).2.2) (rdCount l 64 p no).1.toNat
  refine ⟨f0, ?_, by rw [hlen]; omega⟩
  unfold cfsB
  rw [hlen, j1, Int.toNat_natCast]
  rw [j1, Int.toNat_natCast] at t2
  exact j4.trans t2
theorem rdAct_inv (h : (rdAct l v p no).2.2 = 0) (hp : 0 ≤ p) (hl : p ≤ l.length) : no = 0 ∧ Took l p (rdAct l v p no).2.1 (if v = 2 then numB (rdAct l v p no).1 else []) ∧ (v ≠ 2 → (rdAct l v p no).1 = 0) := by
  unfold rdAct at h ⊢
  by_cases hv : v = 2
  · simp only [if_pos hv] at h ⊢
    obtain ⟨h0, t, _⟩ := rdNum_inv h
    exact ⟨h0, t, fun h => absurd hv h⟩
  · simp only [if_neg hv] at h ⊢
    exact ⟨h, Took.refl hp hl, fun _ => trivial⟩
/-! ### What holds of a list's first elements, and of neighbours -/
def Pre {α : Type} (P : α → Prop) (R : α → α → Prop) (l : List α) (k : Nat) : Prop := (∀ (i : Nat) x, i < k → l[i]? = some x → P x) ∧ ∀ (i : Nat) x y, i + 1 < k → l[i]? = some x → l[i + 1]? = some y → R x y
def AllR {α : Type} (P : α → Prop) (R : α → α → Prop) (l : List α) : Prop := (∀ x ∈ l, P x) ∧ ∀ (i : Nat) x y, l[i]? = some x → l[i + 1]? = some y → R x y
section
variable {α : Type} {P : α → Prop} {R : α → α → Prop} {l : List α} {k : Nat}
theorem Pre.zero : Pre P R l 0 := ⟨fun i x h => absurd h (Nat.not_lt_zero i), fun i x y h => absurd h (by omega)⟩
theorem Pre.up (h : Pre P R l k) (hk : k < l.length) (hP : P l[k]) (hR : 0 < k → ∀ (h1 : k - 1 < l.length), R (l[k - 1]'h1) l[k]) : Pre P R l (k + 1) := by
  refine ⟨fun i x hi hx => ?_, fun i x y hi hx hy => ?_⟩
  · rcases Nat.lt_or_ge i k with h1 | h1
    · exact h.1 i x h1 hx
    · obtain rfl : i = k := by omega
      rw [List.getElem?_eq_getElem hk] at hx
      cases hx
      exact hP
  · rcases Nat.lt_or_ge (i + 1) k with h1 | h1
    · exact h.2 i x y h1 hx hy
    · obtain rfl : k = i + 1 := by omega
      have hi1 : i < l.length := by omega
      rw [List.getElem?_eq_getElem hi1] at hx
      rw [List.getElem?_eq_getElem hk] at hy
      cases hx
      cases hy
      exact hR (by omega) hi1
theorem Pre.all (h : Pre P R l k) (hk : ¬ k < l.length) : AllR P R l := by
  refine ⟨fun x hx => ?_, fun i x y hx hy => ?_⟩
  · obtain ⟨i, hi, rfl⟩ := List.mem_iff_getElem.1 hx
    exact h.1 i _ (by omega) (List.getElem?_eq_getElem hi)
  · have := (List.getElem?_eq_some_iff.1 hy).1
    exact h.2 i x y (by omega) hx hy
theorem AllR.at_ (h : AllR P R l) (hk : k < l.length) : P l[k] := h.1 _ (List.getElem_mem hk)
theorem AllR.next (h : AllR P R l) (hk : k < l.length) (h0 : 0 < k) (h1 : k - 1 < l.length) : R (l[k - 1]'h1) l[k] :=
  h.2 (k - 1) _ _ (List.getElem?_eq_getElem h1) (by rw [show k - 1 + 1 = k from by omega]; exact List.getElem?_eq_getElem hk)
end
/-- May confs be? -/
def MemsOk (l : List Int) : Prop := l ≠ [] ∧ AllR (fun n => 1 ≤ n ∧ n ≤ 9) (fun x y => x < y) l
def CfsOk (l : List Cf) : Prop := (∃ c, l[0]? = some c ∧ c.1 = 1) ∧ AllR (fun c => MemsOk c.2 ∧ c.1 ≤ 4294967296) (fun x y => x.1 < y.1) l
def ImgOk (idx act sch : Int) (cs : List Cf) (ps : List ApiPair) (ss : List ApiSession) : Prop := (0 ≤ idx ∧ idx ≤ 4294967296 ∧ 0 ≤ act ∧ act ≤ idx) ∧ CfsOk cs ∧ StateOk sch ps ss ∧ (sch = 2 ↔ 0 < act)
/-- The state at the end of a read of an image of a format. -/
def rdImgE (l : List UInt8) (v p : Int) : List UInt8 × Int × Int :=
  let i := rdNum l p 0
  let a := rdAct l v i.2.1 i.2.2
  let c := rdCfs l a.2.1 a.2.2
  rdText l 32768 c.2.1 c.2.2
theorem rdImg_whole {i a : Int × Int × Int} {c : List Cf × Int × Int} {b : List UInt8 × Int × Int} (hf : (rdNumber l 2 0 0).2.2 = 0) (hi : i = rdNum l (rdNumber l 2 0 0).2.1 0) (ha : a = rdAct l (rdNumber l 2 0 0).1 i.2.1 i.2.2)
    (hc : c = rdCfs l a.2.1 a.2.2) (hb : b = rdText l 32768 c.2.1 c.2.2) (h : b.2.2 = 0) (hq : ¬ b.2.1 < l.length) :
    l = imgB (rdNumber l 2 0 0).1 i.1 a.1 c.1 b.1 ∧ c.1.length ≤ 64 ∧ 0 ≤ i.1 ∧ b.1.length ≤ 32768 ∧ ((rdNumber l 2 0 0).1 ≠ 2 → a.1 = 0) ∧ i.1 ≤ maxI := by
  subst hb
  obtain ⟨c0, b2, _, t4⟩ := rdText_inv h
  subst hc
  obtain ⟨a0, t3, c64⟩ := rdCfs_inv c0
  subst ha
  obtain ⟨fn, m, m1, _, m3, t0⟩ := rdNumber_inv hf
  have hpn := t0.le
  have hnn := t0.nonneg
  have hln := t0.len
  have i0 : i.2.2 = 0 := by
    unfold rdAct at a0
    split at a0
    · exact (rdNum_inv a0).1
    · exact a0
  subst hi
  obtain ⟨_, t1, i1, i2⟩ := rdNum_inv i0
  have h1 := t1.len
  have h2 := t1.nonneg
  obtain ⟨_, t2, act0⟩ := rdAct_inv a0 (by omega) t1.le
  refine ⟨?_, c64, i1, by omega, act0, i2⟩
  have e0 : numB (rdNumber l 2 0 0).1 = enc m := by unfold numB; rw [m1, Int.toNat_natCast]
  have := (((t0.trans t1).trans t2).trans t3).trans t4
  rw [← e0] at this
  exact this.whole hq
end Go.Chg
