/-
  What the functions of 'changeoverlaw04' and 'changeoverref04' do with fields: put, the bytes of fields, what is large.
-/
import Derived.Test.YtchkkeninkmclaaSpLaw04
import Derived.Test.YtchkkeninkmclaaTyr
set_option maxRecDepth 20000
namespace Go.Chg
open Go.Vc

/-- A field's bytes. -/
def fldB (f : Changeoverref04Field) : List UInt8 :=
  if f.Kind = 1 then enc f.N.toNat else if f.Kind = 2 then enc f.S.length ++ f.S else if f.Kind = 3 then enc (flagN f.Is) else []
def fldsB (l : List Changeoverref04Field) : List UInt8 := l.flatMap fldB

theorem enc_flag (b : Bool) : (enc (flagN b)).length = 1 := by cases b <;> rw [enc_small (by decide)] <;> rfl
theorem fldB_len {f : Changeoverref04Field} (hf : f.wf) (hs : f.S.length ≤ 200) : (fldB f).length ≤ 209 := by
  obtain ⟨h1, h2, h3, h4⟩ := hf
  have := enc_len9 (wf_i64 h2).2
  have h9 := enc_len9 (n := (f.S.length : Int)) (by omega)
  rw [Int.toNat_natCast] at h9
  have h1 := enc_flag f.Is
  unfold fldB
  split
  · omega
  · split
    · simp only [List.length_append]; omega
    · split
      · omega
      · simp
theorem fldsB_len : ∀ {l : List Changeoverref04Field}, (∀ x ∈ l, x.wf) → (∀ x ∈ l, x.S.length ≤ 200) → (fldsB l).length ≤ 209 * l.length
  | [], _, _ => by simp [fldsB]
  | f :: l, h1, h2 => by
    have := fldB_len (h1 f (by simp)) (h2 f (by simp))
    have := fldsB_len (l := l) (fun x hx => h1 x (by simp [hx])) (fun x hx => h2 x (by simp [hx]))
    simp only [fldsB, List.flatMap_cons, List.length_append, List.length_cons] at this ⊢
    omega
theorem fldsB_succ {l : List Changeoverref04Field} {k : Nat} (hk : k < l.length) : fldsB (l.take (k + 1)) = fldsB (l.take k) ++ fldB l[k] := by
  unfold fldsB
  rw [List.take_succ_eq_append_getElem hk, List.flatMap_append]
  simp
theorem fldsB_split {l : List Changeoverref04Field} {k : Nat} (hk : k < l.length) : fldsB l = fldsB (l.take k) ++ fldB l[k] ++ fldsB (l.drop (k + 1)) := by
  rw [← fldsB_succ hk]
  unfold fldsB
  rw [← List.flatMap_append, List.take_append_drop]
theorem fldsB_take_len {l : List Changeoverref04Field} (k : Nat) : (fldsB (l.take k)).length ≤ (fldsB l).length := by
  have : fldsB l = fldsB (l.take k) ++ fldsB (l.drop k) := by
    unfold fldsB
    rw [← List.flatMap_append, List.take_append_drop]
  rw [this]
  simp

/-- Small fields: what is not large. -/
def Small (l : List Changeoverref04Field) : Prop := l.length ≤ 60 ∧ ∀ x ∈ l, x.S.length ≤ 200
theorem Small.len {l : List Changeoverref04Field} (h : Small l) (hwf : ∀ x ∈ l, x.wf) : (fldsB l).length ≤ 12540 := by
  have := fldsB_len hwf h.2
  have := h.1
  omega

theorem law04_large_spec {s : Sl} {l : List Changeoverref04Field} {K : Bool → World → Prop} {w : World} (hs : IsSl eChangeoverref04Field w s l)
    (hK : ∀ b, (b = false → Small l) → K b w) : law04_large s K w := by
  unfold law04_large
  have hl := hs.len
  have hle := hs.le
  refine ⟨fun i w' => w = w' ∧ ∃ k : Nat, i = k ∧ k ≤ l.length ∧ ∀ x ∈ l.take k, x.S.length ≤ 200, fun i _ => (l.length - i).toNat, ⟨rfl, 0, rfl, by omega, by simp⟩, ?_⟩
  rintro i _ ⟨rfl, k, rfl, hk, hall⟩
  refine ifD (fun hlt => ?_) (fun hge => ?_)
  · have hk1 : k < l.length := by omega
    refine ifD (fun h60 => ?_) (fun h60 => hK _ fun h => absurd h (by simp; omega))
    refine fld_rd (y := l[k].S) (by kernel_rfl) (by kernel_rfl) hs rfl hk1 rfl fun _ => ?_
    refine ifD (fun hgt => hK _ fun h => by cases h) (fun hng => ⟨⟨rfl, k + 1, ?_, by omega, ?_⟩, ?_⟩)
    · rw [i64_id] <;> omega
    · intro x hx
      rw [List.take_succ_eq_append_getElem hk1, List.mem_append] at hx
      rcases hx with hx | hx
      · exact hall x hx
      · simp only [List.mem_singleton] at hx
        subst hx
        omega
    · dsimp only
      rw [i64_id (by omega) (by omega)]
      omega
  · have e1 : k = l.length := by omega
    subst e1
    rw [List.take_length] at hall
    exact hK _ fun h => ⟨by simp at h; omega, hall⟩

theorem ref04_Text_spec {x : List UInt8} {K : Sl → World → Prop} {w : World} (hx : x.length ≤ 140737488355000)
    (hK : ∀ s' w', OwnSl eB w' w.heap.size s' (enc x.length ++ x) → Ext w w' → K s' w') : ref04_Text x K w := by
  unfold ref04_Text
  have h9 := enc_len9 (n := (x.length : Int)) (by omega)
  refine ref01_Bytes_calls (ref01_Bytes_spec (by omega) fun s1 w1 ho1 hx1 => ?_)
  rw [Int.toNat_natCast] at ho1 h9
  refine app_str 1 (by kernel_rfl) (by kernel_rfl) ho1 (by omega) hx1.size (by decide) fun s2 w2 ho2 hg2 => ?_
  exact hK _ _ ho2 (below_grown hx1 hx1.size hg2 ho1.ge)
theorem ref04_Flag_spec {b : Bool} {K : Sl → World → Prop} {w : World} (hK : ∀ s' w', OwnSl eB w' w.heap.size s' (enc (flagN b)) → Ext w w' → K s' w') : ref04_Flag b K w := by
  unfold ref04_Flag
  refine ifB_of (fun hb => ?_) (fun hb => ?_) <;> subst hb
  · rw [show enc (flagN true) = [1] from by rw [enc_small (by decide)]; rfl] at hK
    exact lit_ty 1 (E := eB) (xs := [1]) w.heap.size (by kernel_rfl) rfl (by decide) (fun w => by kernel_rfl) (Nat.le_refl _) fun s5 w5 _ ho5 hx5 => hK _ _ ho5 hx5
  · rw [show enc (flagN false) = [0] from by rw [enc_small (by decide)]; rfl] at hK
    exact lit_ty 1 (E := eB) (xs := [0]) w.heap.size (by kernel_rfl) rfl (by decide) (fun w => by kernel_rfl) (Nat.le_refl _) fun s5 w5 _ ho5 hx5 => hK _ _ ho5 hx5

theorem ref04_Bytes_spec {s : Sl} {l : List Changeoverref04Field} {K : Sl → World → Prop} {w : World} (hs : IsSl eChangeoverref04Field w s l) (hwf : ∀ x ∈ l, x.wf) (hsm : Small l)
    (hK : ∀ s' w', OwnSl eB w' w.heap.size s' (fldsB l) → Ext w w' → K s' w') : ref04_Bytes s K w := by
  unfold ref04_Bytes
  have hl := hs.len
  have hle := hs.le
  have hsl := hsm.len hwf
  refine ⟨fun o i w' => Ext w w' ∧ ∃ k : Nat, i = k ∧ k ≤ l.length ∧ OwnSl eB w' w.heap.size o (fldsB (l.take k)), fun _ i _ => (l.length - i).toNat, ⟨Ext.rfl' _, 0, rfl, by omega, .nil _ _ _⟩, ?_⟩
  rintro o i w1 ⟨hx, k, rfl, hk, ho⟩
  refine ifD (fun hlt => ?_) (fun hge => ?_)
  · have hk1 : k < l.length := by omega
    have hpre := fldsB_take_len (l := l) (k + 1)
    rw [fldsB_succ hk1, List.length_append] at hpre
    have hmem := List.getElem_mem hk1
    obtain ⟨f1, f2, f3, f4⟩ := hwf _ hmem
    have hS := hsm.2 _ hmem
    have e1 : i64 ((k : Int) + 1) = ((k + 1 : Nat) : Int) := by rw [i64_id] <;> omega
    rw [e1]
    -- what stands after a piece is put behind
    have step : ∀ (p : Sl) (w2 : World), OwnSl eB w2 w1.heap.size p (fldB l[k]) → Ext w1 w2 → opTy Pr (Builtin.append_ #[35, 35] 35 #[o.val, p.val]) Sl.val (fun out11 w12 =>
        (Ext w w12 ∧ ∃ j : Nat, ((k + 1 : Nat) : Int) = j ∧ j ≤ l.length ∧ OwnSl eB w12 w.heap.size out11 (fldsB (l.take j))) ∧ ((l.length : Int) - ((k + 1 : Nat) : Int)).toNat < ((l.length : Int) - (k : Int)).toNat) w2 := by
      intro p w2 hp hx2
      refine app_ty 1 (by kernel_rfl) (by kernel_rfl) (ho.ext hx2) hp.is (by omega) (Nat.le_trans hx.size hx2.size) (by decide) fun s3 w3 ho3 hg3 => ?_
      rw [← fldsB_succ hk1] at ho3
      exact ⟨⟨below_grown (hx.trans' hx2) (Nat.le_trans hx.size hx2.size) hg3 ho.ge, k + 1, rfl, by omega, ho3⟩, by omega⟩
    refine fld_rd (y := l[k].Kind) (by kernel_rfl) (by kernel_rfl) (hs.ext hx) rfl hk1 rfl fun _ => ?_
    refine ifEq (fun h1 => ?_) (fun h1 => ifEq (fun h2 => ?_) (fun h2 => ifEq (fun h3 => ?_) (fun h3 => ?_)))
    · refine fld_rd (y := l[k].N) (by kernel_rfl) (by kernel_rfl) (hs.ext hx) rfl hk1 rfl fun _ => ?_
      refine ref01_Bytes_calls (ref01_Bytes_spec (wf_i64 f2).2 fun s2 w2 ho2 hx2 => step s2 w2 ?_ hx2)
      simpa [fldB, h1] using ho2
    · refine fld_rd (y := l[k].S) (by kernel_rfl) (by kernel_rfl) (hs.ext hx) rfl hk1 rfl fun _ => ?_
      refine ref04_Text_calls (ref04_Text_spec (by omega) fun s2 w2 ho2 hx2 => step s2 w2 ?_ hx2)
      simpa [fldB, h2] using ho2
    · refine fld_rd (y := l[k].Is) (by kernel_rfl) (by kernel_rfl) (hs.ext hx) rfl hk1 rfl fun _ => ?_
      refine ref04_Flag_calls (ref04_Flag_spec fun s2 w2 ho2 hx2 => step s2 w2 ?_ hx2)
      simpa [fldB, h3] using ho2
    · refine ⟨⟨hx, k + 1, rfl, by omega, ?_⟩, by dsimp only; omega⟩
      rw [fldsB_succ hk1]
      simpa [fldB, h1, h2, h3] using ho
  · have e1 : k = l.length := by omega
    subst e1
    rw [List.take_length] at ho
    exact hK _ _ ho hx

theorem law04_put_spec {s : Sl} {l : List Changeoverref04Field} {K : Sl → World → Prop} {w : World} (hs : IsSl eChangeoverref04Field w s l) (hwf : ∀ x ∈ l, x.wf) (hsm : Small l)
    (hK : ∀ s' w', OwnSl eB w' w.heap.size s' (fldsB l) → Ext w w' → K s' w') : law04_put s K w := by
  unfold law04_put
  have hl := hs.len
  have hle := hs.le
  have hsl := hsm.len hwf
  refine box_ty fun a w0 ha hx0 o0 => ?_
  have hba : w.heap.size ≤ a.block := by omega
  refine ⟨fun i w' => Ext w w' ∧ ∃ k : Nat, i = k ∧ k ≤ l.length ∧ Wt w' a (fldsB (l.take k)), fun i _ => (l.length - i).toNat, ⟨hx0, 0, rfl, by omega, ⟨Sl.nil, .nilSl _ _, o0, by simp [Sl.blk, Sl.nil]⟩⟩, ?_⟩
  rintro i w1 ⟨hx, k, rfl, hk, ho⟩
  refine ifD (fun hlt => ?_) (fun hge => ?_)
  · have hk1 : k < l.length := by omega
    have hpre := fldsB_take_len (l := l) k
    have hmem := List.getElem_mem hk1
    obtain ⟨f1, f2, f3, f4⟩ := hwf _ hmem
    have hS := hsm.2 _ hmem
    have e1 : i64 ((k : Int) + 1) = ((k + 1 : Nat) : Int) := by rw [i64_id] <;> omega
    rw [e1]
    have step : ∀ (w0 w2 : World), Ext w w0 → w0.grownBy w2 (some a.block) → Wt w2 a (fldsB (l.take k) ++ fldB l[k]) →
        (Ext w w2 ∧ ∃ j : Nat, ((k + 1 : Nat) : Int) = j ∧ j ≤ l.length ∧ Wt w2 a (fldsB (l.take j))) ∧ ((l.length : Int) - ((k + 1 : Nat) : Int)).toNat < ((l.length : Int) - (k : Int)).toNat := by
      intro w0 w2 hx2 hg hw
      rw [← fldsB_succ hk1] at hw
      exact ⟨⟨hx2.grown hg hba, k + 1, rfl, by omega, hw⟩, by omega⟩
    refine fld_rd (y := l[k].Kind) (by kernel_rfl) (by kernel_rfl) (hs.ext hx) rfl hk1 rfl fun _ => ?_
    refine ifEq (fun h1 => ?_) (fun h1 => ifEq (fun h2 => ?_) (fun h2 => ifEq (fun h3 => ?_) (fun h3 => ?_)))
    · refine fld_rd (y := l[k].N) (by kernel_rfl) (by kernel_rfl) (hs.ext hx) rfl hk1 rfl fun _ => ?_
      refine pack_Writer_Number_calls (pack_Writer_Number_spec ho (wf_i64 f2).2 (by omega) fun w2 hw2 hg2 => step _ _ hx hg2 ?_)
      simpa [fldB, h1] using hw2
    · have eB2 : fldB l[k] = enc l[k].S.length ++ l[k].S := by simp [fldB, h2]
      refine ifEq (fun _ => ?_) (fun _ => ?_)
      · refine fld_rd (y := l[k].S) (by kernel_rfl) (by kernel_rfl) (hs.ext hx) rfl hk1 rfl fun _ => ?_
        refine pack_Writer_Text_calls (pack_Writer_Text_spec ho (by omega) fun w2 hw2 hg2 => step _ _ hx hg2 ?_)
        rw [eB2, ← List.append_assoc]; exact hw2
      · refine fld_rd (y := l[k].S) (by kernel_rfl) (by kernel_rfl) (hs.ext hx) rfl hk1 rfl fun _ => ?_
        refine str2b_ty (by kernel_rfl) (by kernel_rfl) (by omega) fun p w2 hp hx2 => ?_
        refine pack_Writer_Raw_calls (pack_Writer_Raw_spec (ho.ext hx2) hp.is (by omega) fun w3 hw3 hg3 => step _ _ (hx.trans' hx2) hg3 ?_)
        rw [eB2, ← List.append_assoc]; exact hw3
    · refine fld_rd (y := l[k].Is) (by kernel_rfl) (by kernel_rfl) (hs.ext hx) rfl hk1 rfl fun _ => ?_
      refine pack_Writer_Flag_calls (pack_Writer_Flag_spec ho (by omega) fun w2 hw2 hg2 => step _ _ hx hg2 ?_)
      simpa [fldB, h3] using hw2
    · refine ⟨⟨hx, k + 1, rfl, by omega, ?_⟩, by dsimp only; omega⟩
      rw [fldsB_succ hk1]
      simpa [fldB, h1, h2, h3] using ho
  · have e1 : k = l.length := by omega
    subst e1
    rw [List.take_length] at ho
    exact pack_Writer_Bytes_calls (pack_Writer_Bytes_spec ho (by omega) fun s2 w2 ho2 hx2 => hK _ _ (ho2.mono hx.size) (hx.trans' hx2))

/-- The bytes of any fields. -/
theorem law04_PackWrites_spec {s : Sl} {l : List Changeoverref04Field} {K : Bool → World → Prop} {w : World} (hs : IsSl eChangeoverref04Field w s l) (hwf : ∀ x ∈ l, x.wf)
    (hK : ∀ w', Ext w w' → K true w') : law04_PackWrites s K w := by
  unfold law04_PackWrites
  refine law04_large_calls (law04_large_spec hs fun b hb => ifB_of (fun _ => law04_awake_calls (law04_awake_spec hK)) fun hf => ?_)
  have hsm := hb hf
  refine law04_put_calls (law04_put_spec hs hwf hsm fun s1 w1 ho1 hx1 => ?_)
  refine ref04_Bytes_calls (ref04_Bytes_spec (hs.ext hx1) hwf hsm fun s2 w2 ho2 hx2 => ?_)
  refine ref01_Same_calls (ref01_Same_spec (ho1.is.ext hx2) ho2.is fun w3 hx3 => ifB_t (by simp) ?_)
  exact law04_awake_calls (law04_awake_spec fun w4 hx4 => hK w4 (((hx1.trans' hx2).trans' hx3).trans' hx4))
end Go.Chg
