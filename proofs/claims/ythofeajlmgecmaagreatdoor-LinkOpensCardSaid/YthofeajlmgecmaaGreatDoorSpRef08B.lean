/-
  A command's bytes: the document's answer.
-/
import Derived.Test.YthofeajlmgecmaaGreatDoorSpRef08
import Derived.Test.YthofeajlmgecmaaGreatDoorSpCmdL
import Derived.Test.YthofeajlmgecmaaGreatDoorMB
set_option maxRecDepth 20000
set_option linter.unusedVariables false
namespace Go.Chg
open Go.Vc
variable {w : World}
def pI (v : Int) (c : ApiCmd) (i : Nat) : List UInt8 := if wantI v c.Kind i = true then partB c i else []
theorem cmdB_eq (v : Int) (c : ApiCmd) : cmdB v c = enc c.Kind.toNat ++ pI v c 0 ++ pI v c 1 ++ pI v c 2 ++ pI v c 3 ++ pI v c 4 ++ pI v c 5 := rfl
theorem pI_yes {v : Int} {c : ApiCmd} {i : Nat} (h : wantI v c.Kind i = true) : pI v c i = partB c i := by unfold pI; rw [if_pos h]
theorem pI_no {v : Int} {c : ApiCmd} {i : Nat} (h : wantI v c.Kind i = false) : pI v c i = [] := by unfold pI; rw [h]; simp
theorem want1 {v k : Int} (h : v = 1) {i : Nat} (hi : i ≠ 3) : wantI v k i = true := by unfold wantI; rw [if_pos h]; simpa using hi
theorem want13 {v k : Int} (h : v = 1) : wantI v k 3 = false := by unfold wantI; rw [if_pos h]; rfl
theorem want2 {v k : Int} (h : v ≠ 1) (i : Nat) : wantI v k i = need k i := by unfold wantI; rw [if_neg h]
theorem ref08_Bytes_spec {v : Int} {c : ApiCmd} {K : Sl → World → Prop} (hn : CmdNum c) (hs : CmdShort c) (hK : ∀ s w', OwnSl eB w' w.heap.size s (cmdB v c) → Ext w w' → K s w') : ref08_Bytes v c K w := by
  unfold ref08_Bytes
  obtain ⟨n0, n1, n2, n3⟩ := hn
  obtain ⟨s1, s2, s3⟩ := hs
  have h9 : ∀ {n : Int}, n ≤ 9223372036854775807 → (enc n.toNat).length ≤ 9 := fun h => enc_len9 h
  have e0 := h9 n0
  have e1 := h9 n1
  have e2 := h9 n2
  have e3 := h9 n3
  have t9 : ∀ {s : List UInt8}, s.length ≤ 1048576 → (enc s.length).length ≤ 9 := fun {s} h => by
    have := enc_len9 (n := (s.length : Int)) (by omega)
    rwa [Int.toNat_natCast] at this
  have k1 := t9 s1
  have k2 := t9 s2
  have k3 := t9 s3
  refine new_x (Ext.rfl' w) fun b1 w2 hb1 hl1 hx _ => ?_
  have hB : w.heap.size ≤ w2.heap.size := by omega
  refine ref01_Bytes_calls (ref01_Bytes_spec n0 fun s3' w4 ho hx' => kp_ext hx' ?_)
  have hx := hx.trans' hx'
  have hz := hx'.size
  refine ⟨fun s w' => OwnSl eB w' w2.heap.size s (enc c.Kind.toNat ++ pI v c 0 ++ pI v c 1 ++ pI v c 2) ∧ Ext w w' ∧ w2.heap.size ≤ w'.heap.size, ?_, ?_⟩
  · refine ifEq (fun hv => ?_) (fun hv => ?_)
    · refine cat_mk (by kernel_rfl) (by kernel_rfl) (mk_num n1) hx ho hl1 hz hB (by omega) fun s8 w9 ho hx hz => ?_
      refine cat_mk (by kernel_rfl) (by kernel_rfl) (mk_num n2) hx ho hl1 hz hB (by simp only [List.length_append]; omega) fun s12 w13 ho hx hz => ?_
      refine cat_mk (by kernel_rfl) (by kernel_rfl) (mk_text (x := c.Key) (by omega)) hx ho hl1 hz hB (by simp only [List.length_append]; omega) fun s16 w17 ho hx hz => ⟨?_, hx, hz⟩
      rw [pI_yes (want1 hv (by decide)), pI_yes (want1 hv (by decide)), pI_yes (want1 hv (by decide))]
      exact ho
    · refine ref08_Owned_calls (ref08_Owned_spec (kp_same ?_))
      refine ifB_of (fun h => ?_) (fun h => ?_)
      · refine cat_mk (by kernel_rfl) (by kernel_rfl) (mk_num n1) hx ho hl1 hz hB (by omega) fun s8 w9 ho hx hz => ?_
        refine cat_mk (by kernel_rfl) (by kernel_rfl) (mk_num n2) hx ho hl1 hz hB (by simp only [List.length_append]; omega) fun s12 w13 ho hx hz => ?_
        refine cat_mk (by kernel_rfl) (by kernel_rfl) (mk_text (x := c.Key) (by omega)) hx ho hl1 hz hB (by simp only [List.length_append]; omega) fun s16 w17 ho hx hz => ⟨?_, hx, hz⟩
        rw [pI_yes (by rw [want2 hv]; exact h), pI_yes (by rw [want2 hv]; exact h), pI_yes (by rw [want2 hv]; exact h)]
        exact ho
      · refine ⟨?_, hx, hz⟩
        rw [pI_no (by rw [want2 hv]; exact h), pI_no (by rw [want2 hv]; exact h), pI_no (by rw [want2 hv]; exact h)]
        simpa using ho
  have p0 : (pI v c 0).length ≤ 9 := by
    unfold pI partB
    split
    · exact e1
    · simp
  have p1 : (pI v c 1).length ≤ 9 := by
    unfold pI partB
    split
    · exact e2
    · simp
  have p2 : (pI v c 2).length ≤ 1048585 := by
    unfold pI partB
    split
    · simp only [numI, txtI, List.length_append]; omega
    · simp
  have p3 : (pI v c 3).length ≤ 1048585 := by
    unfold pI partB
    split
    · simp only [numI, txtI, List.length_append]; omega
    · simp
  have p4 : (pI v c 4).length ≤ 1048585 := by
    unfold pI partB
    split
    · simp only [numI, txtI, List.length_append]; omega
    · simp
  rintro s32 w33 ⟨ho, hx, hz⟩
  refine ⟨fun s w' => OwnSl eB w' w2.heap.size s (enc c.Kind.toNat ++ pI v c 0 ++ pI v c 1 ++ pI v c 2 ++ pI v c 3) ∧ Ext w w' ∧ w2.heap.size ≤ w'.heap.size, ?_, ?_⟩
  · have none : wantI v c.Kind 3 = false → OwnSl eB w33 w2.heap.size s32 (enc c.Kind.toNat ++ pI v c 0 ++ pI v c 1 ++ pI v c 2 ++ pI v c 3) ∧ Ext w w33 ∧ w2.heap.size ≤ w33.heap.size := fun h => by
      rw [pI_no h, List.append_nil]
      exact ⟨ho, hx, hz⟩
    refine ifNot (ifEq (fun hv => none (want13 hv)) (fun hv => ?_))
    refine ifEq (fun h5 => ?_) (fun h5 => none (by rw [want2 hv]; exact decide_eq_false h5))
    refine cat_mk (by kernel_rfl) (by kernel_rfl) (mk_text (x := c.Old) (by omega)) hx ho hl1 hz hB (by simp only [List.length_append]; omega) fun s37 w38 ho hx hz => ⟨?_, hx, hz⟩
    rw [pI_yes (i := 3) (by rw [want2 hv]; exact decide_eq_true h5)]
    exact ho
  rintro s39 w40 ⟨ho, hx, hz⟩
  refine ⟨fun s w' => OwnSl eB w' w2.heap.size s (enc c.Kind.toNat ++ pI v c 0 ++ pI v c 1 ++ pI v c 2 ++ pI v c 3 ++ pI v c 4) ∧ Ext w w' ∧ w2.heap.size ≤ w'.heap.size, ?_, ?_⟩
  · have some : ∀ {tb ty : Nat}, appOk Pr tb (elemT Pr tb) 1 1 = true → isSlT Pr tb = true → wantI v c.Kind 4 = true → callV Pr Sl.val fid_ref04_Text #[(sval c.Val)] w40 fun x w2' => kp b1 w40 w2' <| opTy Pr (Builtin.append_ #[tb, tb] ty #[s39.val, x.val]) Sl.val (fun s w3 => kp b1 w2' w3 <|
        OwnSl eB w3 w2.heap.size s (enc c.Kind.toNat ++ pI v c 0 ++ pI v c 1 ++ pI v c 2 ++ pI v c 3 ++ pI v c 4) ∧ Ext w w3 ∧ w2.heap.size ≤ w3.heap.size) w2' := fun ht hs h => by
      refine cat_mk ht hs (mk_text (x := c.Val) (by omega)) hx ho hl1 hz hB (by simp only [List.length_append]; omega) fun s37 w38 ho hx hz => ⟨?_, hx, hz⟩
      rw [pI_yes (i := 4) h]
      exact ho
    refine ifEq (fun hv => some (by kernel_rfl) (by kernel_rfl) (want1 hv (by decide))) (fun hv => ?_)
    refine ifEq (fun h2 => some (by kernel_rfl) (by kernel_rfl) (by rw [want2 hv]; show kVal c.Kind = true; unfold kVal; simp [h2])) (fun h2 => ?_)
    refine ifEq (fun h5 => some (by kernel_rfl) (by kernel_rfl) (by rw [want2 hv]; show kVal c.Kind = true; unfold kVal; simp [h5])) (fun h5 => ?_)
    rw [pI_no (i := 4) (by rw [want2 hv]; show kVal c.Kind = false; unfold kVal; simp [h2, h5]), List.append_nil]
    exact ⟨ho, hx, hz⟩
  rintro s54 w55 ⟨ho, hx, hz⟩
  have last : ∀ {s : Sl} {u : World}, OwnSl eB u w2.heap.size s (enc c.Kind.toNat ++ pI v c 0 ++ pI v c 1 ++ pI v c 2 ++ pI v c 3 ++ pI v c 4 ++ pI v c 5) → Ext w u → K s u := fun ho hx => hK _ _ (by rw [cmdB_eq]; exact ho.mono hB) hx
  refine ifEq (fun hv => ?_) (fun hv => ?_)
  · refine cat_mk (by kernel_rfl) (by kernel_rfl) (mk_num n3) hx ho hl1 hz hB (by simp only [List.length_append]; omega) fun s58 w59 ho hx hz => last ?_ hx
    rw [pI_yes (i := 5) (want1 hv (by decide))]
    exact ho
  · refine ref08_member_calls (ref08_member_spec (kp_same ?_))
    refine ifB_of (fun h => ?_) (fun h => last ?_ hx)
    · refine cat_mk (by kernel_rfl) (by kernel_rfl) (mk_num n3) hx ho hl1 hz hB (by simp only [List.length_append]; omega) fun s58 w59 ho hx hz => last ?_ hx
      rw [pI_yes (i := 5) (by rw [want2 hv]; exact h)]
      exact ho
    · rw [pI_no (i := 5) (by rw [want2 hv]; exact h), List.append_nil]
      exact ho
theorem mk_cmd {v : Int} {c : ApiCmd} (hn : CmdNum c) (hs : CmdShort c) : Mk fid_ref08_Bytes #[.int .i64 v, .agg ⟨c.cs⟩] (cmdB v c) := fun w K hK => ref08_Bytes_calls (ref08_Bytes_spec hn hs hK)
end Go.Chg
