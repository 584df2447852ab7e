/-
  Commands as bytes, both ways: plain Lean.
-/
import Derived.Test.YtnnoalpkldpjfaaGreatDoorSpCmdB
set_option maxRecDepth 20000
set_option linter.unusedVariables false
namespace Go.Chg
open Go.Vc
variable {l : List UInt8} {v p q no : Int}
/-- A part that is nothing. -/
def isZ (c : ApiCmd) (i : Nat) : Prop :=
  match numI c i with
  | some n => n = 0
  | none => txtI c i = []
theorem num_some (c d : ApiCmd) {i : Nat} (hi : i < 6) : (numI c i).isSome = (numI d i).isSome := by
  rcases six hi with rfl | rfl | rfl | rfl | rfl | rfl <;> rfl
theorem setN_other {c : ApiCmd} {i j : Nat} (hi : i < 6) (hj : j < 6) (hne : j ≠ i) (hs : (numI c i).isSome = true) (n : Int) : numI (setN c i n) j = numI c j ∧ txtI (setN c i n) j = txtI c j := by
  rcases six hi with rfl | rfl | rfl | rfl | rfl | rfl <;> rcases six hj with rfl | rfl | rfl | rfl | rfl | rfl <;> first | exact absurd rfl hne | exact ⟨rfl, rfl⟩ | (cases hs; done)
theorem setT_other {c : ApiCmd} {i j : Nat} (hi : i < 6) (hj : j < 6) (hne : j ≠ i) (hs : (numI c i).isSome = false) (s : List UInt8) : numI (setT c i s) j = numI c j ∧ txtI (setT c i s) j = txtI c j := by
  rcases six hi with rfl | rfl | rfl | rfl | rfl | rfl <;> rcases six hj with rfl | rfl | rfl | rfl | rfl | rfl <;> first | exact absurd rfl hne | exact ⟨rfl, rfl⟩ | (cases hs; done)
theorem setN_self {c : ApiCmd} {i : Nat} (hi : i < 6) (hs : (numI c i).isSome = true) (n : Int) : numI (setN c i n) i = some n := by
  rcases six hi with rfl | rfl | rfl | rfl | rfl | rfl <;> first | rfl | (cases hs; done)
theorem setT_self {c : ApiCmd} {i : Nat} (hi : i < 6) (hs : (numI c i).isSome = false) (s : List UInt8) : numI (setT c i s) i = none ∧ txtI (setT c i s) i = s := by
  rcases six hi with rfl | rfl | rfl | rfl | rfl | rfl <;> first | exact ⟨rfl, rfl⟩ | (cases hs; done)
theorem setN_kind (c : ApiCmd) {i : Nat} (hi : i < 6) (n : Int) : (setN c i n).Kind = c.Kind := by
  rcases six hi with rfl | rfl | rfl | rfl | rfl | rfl <;> rfl
theorem setT_kind (c : ApiCmd) {i : Nat} (hi : i < 6) (s : List UInt8) : (setT c i s).Kind = c.Kind := by
  rcases six hi with rfl | rfl | rfl | rfl | rfl | rfl <;> rfl
theorem txt_num {c : ApiCmd} {i : Nat} (hi : i < 6) (hs : (numI c i).isSome = true) : txtI c i = [] := by
  rcases six hi with rfl | rfl | rfl | rfl | rfl | rfl <;> first | rfl | (cases hs; done)
theorem cmd_ext {c d : ApiCmd} (hk : d.Kind = c.Kind) (h : ∀ j, j < 6 → numI d j = numI c j ∧ txtI d j = txtI c j) : d = c := by
  have h0 := (h 0 (by decide)).1
  have h1 := (h 1 (by decide)).1
  have h2 := (h 2 (by decide)).2
  have h3 := (h 3 (by decide)).2
  have h4 := (h 4 (by decide)).2
  have h5 := (h 5 (by decide)).1
  cases c; cases d
  simp only [numI, txtI, Option.some.injEq] at h0 h1 h2 h3 h4 h5
  simp only at hk
  subst hk h0 h1 h2 h3 h4 h5
  rfl

/-! ### What was read has these bytes -/
theorem part_kind (c : ApiCmd) {i : Nat} (hi : i < 6) : (rdPart l i c p no).1.Kind = c.Kind := by
  unfold rdPart
  split
  · exact setN_kind c hi _
  · exact setT_kind c hi _
theorem part_other {c : ApiCmd} {i j : Nat} (hi : i < 6) (hj : j < 6) (hne : j ≠ i) : numI (rdPart l i c p no).1 j = numI c j ∧ txtI (rdPart l i c p no).1 j = txtI c j := by
  unfold rdPart
  split
  · rename_i m hm
    exact setN_other hi hj hne (by rw [hm]; rfl) _
  · rename_i hm
    exact setT_other hi hj hne (by rw [hm]; rfl) _
theorem partB_eq {c d : ApiCmd} {j : Nat} (h : numI d j = numI c j ∧ txtI d j = txtI c j) : partB d j = partB c j := by
  unfold partB
  rw [h.1, h.2]
theorem isZ_eq {c d : ApiCmd} {j : Nat} (h : numI d j = numI c j ∧ txtI d j = txtI c j) : isZ d j ↔ isZ c j := by
  unfold isZ
  rw [h.1, h.2]
theorem rdPart_inv {c : ApiCmd} {i : Nat} (hi : i < 6) (h : (rdPart l i c p no).2.2 = 0) : no = 0 ∧ Took l p (rdPart l i c p no).2.1 (partB (rdPart l i c p no).1 i) := by
  unfold rdPart at h ⊢
  split at h
  · rename_i m hm
    obtain ⟨h0, k, h1, _, _, h2⟩ := rdNumber_inv h
    refine ⟨h0, ?_⟩
    unfold partB
    dsimp only
    rw [setN_self hi (by rw [hm]; rfl), h1]
    exact h2
  · rename_i hm
    obtain ⟨h0, _, _, h2⟩ := rdText_inv h
    refine ⟨h0, ?_⟩
    unfold partB
    dsimp only
    obtain ⟨e1, e2⟩ := setT_self (c := c) hi (by rw [hm]; rfl) (rdText l 1048576 p no).1
    rw [e1, e2]
    exact h2
theorem cmdT_part {c : ApiCmd} {i : Nat} (hi : i < 6) : ∀ j, j ≤ i → cmdT v (rdPart l i c p no).1 j = cmdT v c j
  | 0, _ => by simp only [cmdT]; rw [part_kind c hi]
  | j + 1, hj => by
    simp only [cmdT]
    rw [cmdT_part hi j (by omega), part_kind c hi, partB_eq (part_other hi (by omega) (by omega))]
theorem rdT_inv : ∀ n, n ≤ 6 → (rdT l v p no n).2.2 = 0 → no = 0 ∧ Took l p (rdT l v p no n).2.1 (cmdT v (rdT l v p no n).1 n) ∧ 0 ≤ (rdT l v p no n).1.Kind ∧ ∀ i, i < 6 → (n ≤ i ∨ wantI v (rdT l v p no n).1.Kind i = false) → isZ (rdT l v p no n).1 i
  | 0, _, h => by
    simp only [rdT] at h ⊢
    obtain ⟨h0, k, h1, _, _, h2⟩ := rdNumber_inv h
    refine ⟨h0, ?_, by rw [h1]; omega, fun i hi _ => ?_⟩
    · simp only [cmdT]
      rw [h1]
      exact h2
    · rcases six hi with rfl | rfl | rfl | rfl | rfl | rfl <;> rfl
  | n + 1, hn, h => by
    by_cases hw : wantI v (rdT l v p no n).1.Kind n = true
    · have e : rdT l v p no (n + 1) = rdPart l n (rdT l v p no n).1 (rdT l v p no n).2.1 (rdT l v p no n).2.2 := by simp only [rdT, hw, if_true]
      rw [e] at h ⊢
      obtain ⟨h0, h1⟩ := rdPart_inv (by omega) h
      obtain ⟨g0, g1, g2, g3⟩ := rdT_inv n (by omega) h0
      have hk := part_kind (l := l) (p := (rdT l v p no n).2.1) (no := (rdT l v p no n).2.2) (rdT l v p no n).1 (i := n) (by omega)
      refine ⟨g0, ?_, by rw [hk]; exact g2, fun i hi hz => ?_⟩
      · simp only [cmdT]
        rw [hk, hw, if_pos rfl, cmdT_part (by omega) n (Nat.le_refl _)]
        exact g1.trans h1
      · rw [hk] at hz
        have hne : i ≠ n := fun e => by
          subst e
          rcases hz with hz | hz
          · omega
          · rw [hw] at hz; cases hz
        rw [isZ_eq (part_other (by omega) hi hne)]
        exact g3 i hi (hz.imp (by omega) id)
    · have e : rdT l v p no (n + 1) = rdT l v p no n := by simp only [rdT, hw]; simp
      rw [e] at h ⊢
      obtain ⟨g0, g1, g2, g3⟩ := rdT_inv n (by omega) h
      refine ⟨g0, ?_, g2, fun i hi hz => ?_⟩
      · simp only [cmdT]
        rw [if_neg hw, List.append_nil]
        exact g1
      · by_cases hin : i = n
        · subst hin
          exact g3 i hi (.inr (by cases h : wantI v (rdT l v p no i).1.Kind i; rfl; exact absurd h hw))
        · exact g3 i hi (hz.imp (by omega) id)
theorem rdCmd_inv (h : (rdCmd l v p no).2.2 = 0) : no = 0 ∧ Took l p (rdCmd l v p no).2.1 (cmdB v (rdCmd l v p no).1) ∧ 0 ≤ (rdCmd l v p no).1.Kind ∧ ∀ i, i < 6 → wantI v (rdCmd l v p no).1.Kind i = false → isZ (rdCmd l v p no).1 i := by
  obtain ⟨h0, h1, h2, h3⟩ := rdT_inv 6 (Nat.le_refl _) h
  exact ⟨h0, h1, h2, fun i hi hz => h3 i hi (.inr hz)⟩

/-! ### What has these bytes is read -/
def setI (d : ApiCmd) (i : Nat) (c : ApiCmd) : ApiCmd :=
  match numI c i with
  | some n => setN d i n
  | none => setT d i (txtI c i)
def trI (v : Int) (c : ApiCmd) : Nat → ApiCmd
  | 0 => ⟨c.Kind, 0, 0, [], [], [], 0⟩
  | i + 1 => if wantI v c.Kind i = true then setI (trI v c i) i c else trI v c i
structure CmdFit (v : Int) (c : ApiCmd) : Prop where
  kind : 0 ≤ c.Kind ∧ c.Kind ≤ 9223372036854775807
  num : ∀ i, i < 6 → wantI v c.Kind i = true → ∀ n, numI c i = some n → 0 ≤ n ∧ n ≤ 9223372036854775807
  txt : ∀ i, i < 6 → wantI v c.Kind i = true → (txtI c i).length ≤ 1048576
theorem setI_kind (d c : ApiCmd) {i : Nat} (hi : i < 6) : (setI d i c).Kind = d.Kind := by
  unfold setI
  split
  · exact setN_kind d hi _
  · exact setT_kind d hi _
theorem trI_kind (c : ApiCmd) : ∀ n, n ≤ 6 → (trI v c n).Kind = c.Kind
  | 0, _ => rfl
  | n + 1, h => by
    simp only [trI]
    split
    · rw [setI_kind _ _ (by omega)]; exact trI_kind c n (by omega)
    · exact trI_kind c n (by omega)
theorem setI_self (d c : ApiCmd) {i : Nat} (hi : i < 6) : numI (setI d i c) i = numI c i ∧ txtI (setI d i c) i = txtI c i := by
  have hs := num_some c d hi
  unfold setI
  split
  · rename_i n hn
    have h1 : (numI d i).isSome = true := by rw [← hs, hn]; rfl
    have h2 := setN_self hi h1 n
    rw [h2, hn]
    exact ⟨rfl, by rw [txt_num hi (by rw [h2]; rfl), txt_num hi (by rw [hn]; rfl)]⟩
  · rename_i hn
    have h1 : (numI d i).isSome = false := by rw [← hs, hn]; rfl
    obtain ⟨h2, h3⟩ := setT_self hi h1 (txtI c i)
    rw [h2, h3, hn]
    exact ⟨rfl, rfl⟩
theorem setI_other (d c : ApiCmd) {i j : Nat} (hi : i < 6) (hj : j < 6) (hne : j ≠ i) : numI (setI d i c) j = numI d j ∧ txtI (setI d i c) j = txtI d j := by
  have hs := num_some c d hi
  unfold setI
  split
  · rename_i n hn
    exact setN_other hi hj hne (by rw [← hs, hn]; rfl) _
  · rename_i hn
    exact setT_other hi hj hne (by rw [← hs, hn]; rfl) _
theorem trI_fld (c : ApiCmd) : ∀ n, n ≤ 6 → ∀ j, j < 6 → (j < n ∧ wantI v c.Kind j = true → numI (trI v c n) j = numI c j ∧ txtI (trI v c n) j = txtI c j) ∧ (¬ (j < n ∧ wantI v c.Kind j = true) → isZ (trI v c n) j)
  | 0, _, j, hj => ⟨fun h => by omega, fun _ => by rcases six hj with rfl | rfl | rfl | rfl | rfl | rfl <;> rfl⟩
  | n + 1, hn, j, hj => by
    obtain ⟨ih1, ih2⟩ := trI_fld c n (by omega) j hj
    simp only [trI]
    by_cases hw : wantI v c.Kind n = true
    · rw [if_pos hw]
      by_cases hjn : j = n
      · subst hjn
        exact ⟨fun _ => setI_self _ _ hj, fun h => absurd ⟨by omega, hw⟩ h⟩
      · have ho := setI_other (trI v c n) c (i := n) (by omega) hj hjn
        refine ⟨fun h => ?_, fun h => ?_⟩
        · obtain ⟨a, b⟩ := ih1 ⟨by omega, h.2⟩
          exact ⟨ho.1.trans a, ho.2.trans b⟩
        · rw [isZ_eq ho]
          exact ih2 fun h' => h ⟨by omega, h'.2⟩
    · rw [if_neg hw]
      refine ⟨fun h => ih1 ⟨?_, h.2⟩, fun h => ih2 fun h' => h ⟨by omega, h'.2⟩⟩
      have : j ≠ n := fun e => hw (e ▸ h.2)
      omega
theorem isZ_same {c d : ApiCmd} {j : Nat} (hj : j < 6) (h1 : isZ c j) (h2 : isZ d j) : numI d j = numI c j ∧ txtI d j = txtI c j := by
  have hs := num_some c d hj
  unfold isZ at h1 h2
  cases hc : numI c j with
  | none =>
    cases hd : numI d j with
    | none => rw [hc] at h1; rw [hd] at h2; exact ⟨rfl, h2.trans h1.symm⟩
    | some m => rw [hc, hd] at hs; cases hs
  | some n =>
    cases hd : numI d j with
    | none => rw [hc, hd] at hs; cases hs
    | some m =>
      rw [hc] at h1; rw [hd] at h2
      refine ⟨by rw [h1, h2], ?_⟩
      rw [txt_num hj (by rw [hd]; rfl), txt_num hj (by rw [hc]; rfl)]
theorem trI_six {c : ApiCmd} (h : ∀ i, i < 6 → wantI v c.Kind i = false → isZ c i) : trI v c 6 = c := by
  refine cmd_ext (trI_kind c 6 (Nat.le_refl _)) fun j hj => ?_
  obtain ⟨h1, h2⟩ := trI_fld (v := v) c 6 (Nat.le_refl _) j hj
  cases hw : wantI v c.Kind j
  · exact isZ_same hj (h j hj hw) (h2 fun h' => by rw [hw] at h'; cases h'.2)
  · exact h1 ⟨hj, hw⟩
theorem rdT_took {c : ApiCmd} (hf : CmdFit v c) : ∀ n q, n ≤ 6 → Took l p q (cmdT v c n) → rdT l v p 0 n = (trI v c n, q, 0)
  | 0, q, _, h => by
    simp only [cmdT] at h
    have := rdNumber_took (most := 9223372036854775807) h (by have := hf.kind; omega) (by have := hf.kind; omega)
    simp only [rdT, trI]
    rw [this, Int.toNat_of_nonneg hf.kind.1]
  | n + 1, q, hn, h => by
    simp only [cmdT] at h
    obtain ⟨h1, h2⟩ := h.split
    have ih := rdT_took hf n _ (by omega) h1
    simp only [rdT, trI]
    rw [ih]
    dsimp only
    rw [trI_kind c n (by omega)]
    by_cases hw : wantI v c.Kind n = true
    · rw [if_pos hw, if_pos hw]
      rw [if_pos hw] at h2
      unfold rdPart setI
      have hs := num_some c (trI v c n) (i := n) (by omega)
      unfold partB at h2
      cases hc : numI c n with
      | some m =>
        have hd : ∃ m', numI (trI v c n) n = some m' := by
          rw [hc] at hs
          exact Option.isSome_iff_exists.1 hs.symm
        obtain ⟨m', hd⟩ := hd
        rw [hc] at h2
        obtain ⟨b1, b2⟩ := hf.num n (by omega) hw m hc
        have := rdNumber_took (most := 9223372036854775807) h2 (by omega) (by omega)
        simp only [hd, hc, this, Int.toNat_of_nonneg b1]
      | none =>
        have hd : numI (trI v c n) n = none := by
          rw [hc] at hs
          cases h : numI (trI v c n) n
          · rfl
          · rw [h] at hs; cases hs
        rw [hc] at h2
        have hl := hf.txt n (by omega) hw
        have := rdText_took (most := 1048576) h2 (by omega) (by omega)
        simp only [hd, hc, this]
    · rw [if_neg hw, if_neg hw]
      rw [if_neg hw] at h2
      have hq := h2.len
      simp only [List.length_nil] at hq
      rw [hq]
      simp
theorem rdCmd_took {c : ApiCmd} (hf : CmdFit v c) (hz : ∀ i, i < 6 → wantI v c.Kind i = false → isZ c i) (h : Took l p q (cmdB v c)) : rdCmd l v p 0 = (c, q, 0) := by
  have := rdT_took hf 6 q (Nat.le_refl _) h
  rw [trI_six hz] at this
  exact this
/-- A command that may be has nothing beside what its kind has. -/
theorem cmdOk_z {c : ApiCmd} (h : CmdOk c) {v : Int} (hv : v = 1 → c.Kind ≠ 5) (i : Nat) (hi : i < 6) (hw : wantI v c.Kind i = false) : isZ c i := by
  obtain ⟨hk, _, _, f1, f2, f3, f4⟩ := h
  unfold wantI at hw
  have need0 : need c.Kind i = false := by
    by_cases h1 : v = 1
    · rw [if_pos h1] at hw
      have : i = 3 := by simpa using hw
      subst this
      show kOld c.Kind = false
      exact decide_eq_false (hv h1)
    · rw [if_neg h1] at hw; exact hw
  rcases six hi with rfl | rfl | rfl | rfl | rfl | rfl
  · exact (f1 need0).1
  · exact (f1 need0).2.1
  · exact (f1 need0).2.2
  · exact f3 need0
  · exact f2 need0
  · exact f4 need0
theorem cmdOk_num {c : ApiCmd} (h : CmdOk c) : (0 ≤ c.Client ∧ c.Client ≤ 8) ∧ (0 ≤ c.Seq ∧ c.Seq ≤ 4294967296) ∧ (0 ≤ c.Node ∧ c.Node ≤ 9) ∧ c.Key.length ≤ 24 ∧ c.Val.length ≤ 48 ∧ c.Old.length ≤ 48 := by
  obtain ⟨hk, ⟨r1, r2⟩, ⟨t1, t2, t3⟩, f1, f2, f3, f4⟩ := h
  have kl : ∀ {s : List UInt8}, keyOk s = true → s.length ≤ 24 := fun h => by
    unfold keyOk at h; simp at h; omega
  have vl : ∀ {s : List UInt8}, valOk s = true → s.length ≤ 48 := fun h => by
    unfold valOk at h; simp at h; omega
  have a : (0 ≤ c.Client ∧ c.Client ≤ 8) ∧ (0 ≤ c.Seq ∧ c.Seq ≤ 4294967296) ∧ c.Key.length ≤ 24 := by
    cases ho : kOwn c.Kind
    · obtain ⟨g1, g2, g3⟩ := f1 ho
      rw [g1, g2, g3]; simp
    · have := r1 ho
      have := kl (t1 ho)
      omega
  have b : 0 ≤ c.Node ∧ c.Node ≤ 9 := by
    cases ho : kNode c.Kind
    · rw [f4 ho]; omega
    · have := r2 ho; omega
  have d : c.Val.length ≤ 48 := by
    cases ho : kVal c.Kind
    · rw [f2 ho]; simp
    · exact vl (t2 ho)
  have e : c.Old.length ≤ 48 := by
    cases ho : kOld c.Kind
    · rw [f3 ho]; simp
    · exact vl (t3 ho)
  exact ⟨a.1, a.2.1, b, a.2.2, d, e⟩
theorem cmdOk_fit {c : ApiCmd} (h : CmdOk c) (v : Int) : CmdFit v c := by
  obtain ⟨⟨a1, a2⟩, ⟨b1, b2⟩, ⟨c1, c2⟩, d, e, f⟩ := cmdOk_num h
  have hk := h.1
  unfold kOk at hk
  refine ⟨by omega, fun i hi _ n hn => ?_, fun i hi _ => ?_⟩
  · rcases six hi with rfl | rfl | rfl | rfl | rfl | rfl <;> simp only [numI, Option.some.injEq, reduceCtorEq] at hn <;> omega
  · rcases six hi with rfl | rfl | rfl | rfl | rfl | rfl <;> simp only [txtI, List.length_nil] <;> omega
theorem cmdOk_sizes {c : ApiCmd} (h : CmdOk c) : CmdNum c ∧ CmdShort c := by
  obtain ⟨⟨a1, a2⟩, ⟨b1, b2⟩, ⟨c1, c2⟩, d, e, f⟩ := cmdOk_num h
  have hk := h.1
  unfold kOk at hk
  exact ⟨⟨by omega, by omega, by omega, by omega⟩, ⟨by omega, by omega, by omega⟩⟩
end Go.Chg
