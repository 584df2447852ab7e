/-
  The document's bytes in V2; the laws of chapter 14: MsgtwoEncodes, MsgtwoDecodes.
-/
import Derived.Test.YthofeajlmgecmaaGreatDoorMF
import Derived.Test.YthofeajlmgecmaaGreatDoorSpRef08B
set_option maxRecDepth 20000
set_option linter.unusedVariables false
namespace Go.Chg
open Go.Vc
open Go.RowKit (Below)
variable {w : World} {m : ApiMsg} {xs : List ApiEntry} {img l : List UInt8} {v p q no k : Int} {s : Sl}
theorem kp_below {B b : Nat} {u u' : World} {X : Prop} (h : Below B u u') (hb : b < B) (x : X) : kp b u u' X := ⟨fun _ => h.block b hb, x⟩
theorem ref14_numbers_spec {B : Nat} {out : Sl} {ns : List Int} {K : Sl → World → Prop} (ho : OwnSl eB w B out l) (hs : IsSl (eK .i64) w s ns) (hap : ∀ b, s.blk = some b → out.blk ≠ some b ∧ b < w.heap.size) (hB : B ≤ w.heap.size) (hn : ∀ n ∈ ns, n ≤ 9223372036854775807) (hl : l.length + 9 * ns.length ≤ 140737488355328)
    (hK : ∀ o w', OwnSl eB w' B o (l ++ ns.flatMap encI) → Below B w w' → K o w') : ref14_numbers out s K w := by
  unfold ref14_numbers
  have hsl := hs.len
  refine up2b (fun k o w' => OwnSl eB w' B o (l ++ (ns.take k).flatMap encI) ∧ IsSl (eK .i64) w' s ns ∧ Below B w w' ∧ w.heap.size ≤ w'.heap.size ∧ ∀ b, s.blk = some b → o.blk ≠ some b) 0 ns.length rfl (by omega) (by have := hs.le; omega) ⟨by simpa using ho, hs, Below.refl _ _, Nat.le_refl _, fun b hb => (hap b hb).1⟩ ?_
  rintro k o w4 C _ hk ⟨ho, hs, hb, hz, hne⟩ hC
  have hsm := take_flat_le (xs := ns) (B := encI) (m := 9) (fun n hn' => encI_len (hn n hn')) k
  refine ifD (fun hlt => ?_) (fun hge => ?_)
  · have hk1 : k < ns.length := by omega
    have e1 := encI_len (hn _ (List.getElem_mem hk1))
    refine el_rd (E := eK .i64) (y := ns[k]) (by kernel_rfl) (by kernel_rfl) hs rfl hk1 rfl fun _ => ?_
    refine ref01_Bytes_calls (ref01_Bytes_spec (hn _ (List.getElem_mem hk1)) fun t7 w8 h7 hx => ?_)
    have z8 := hx.size
    have e1' : (enc ns[k].toNat).length ≤ 9 := e1
    have hup := take_flat_le (xs := ns) (B := encI) (m := 9) (fun n hn' => encI_len (hn n hn')) (k + 1)
    rw [flatMap_up hk1, List.length_append] at hup
    have hup' : ((ns.take k).flatMap encI).length + (enc ns[k].toNat).length ≤ ns.length * 9 := hup
    refine app_ty2 1 (by kernel_rfl) (by kernel_rfl) (ho.ext hx) h7.is (by simp only [List.length_append]; omega) (by omega) (by decide) fun o' w10 ho' hg hnew => ?_
    have hge := ho.ge
    refine hC hk1 _ _ _ rfl ⟨?_, (hs.ext hx).grownB hg fun b hb e => hne b hb e.symm, below_grown (Vc.Below.ext hb (by omega) hx) (by omega) hg fun r hr => hge r hr, by have := hg.size; omega, fun b hb e => ?_⟩
    · rw [flatMap_up hk1, ← List.append_assoc]
      exact ho'
    · rcases hnew with h1 | ⟨c, h1, h2⟩
      · exact hne b hb (h1 ▸ e)
      · rw [h1] at e
        have := (hap b hb).2
        cases e
        omega
  · rw [take_done (by omega)] at ho
    exact hK _ _ ho hb
/-- Some numbers, put behind. -/
theorem nums_put {t n B b1 : Nat} {parts : Array (Nat × Value)} {out : Sl} {ns : List Int} {w0 : World} {X : Sl → World → Prop} (happ : appOk Pr t (elemT Pr t) 1 8 = true) (hn : ns.length = n) (hle : n * 1 ≤ 1024)
    (hr : ∀ w : World, (Instr.buildSlice t n parts).run Pr w = .ok (.slice (some ⟨w.heap.size, 0, none⟩) n n) (w.alloc (.cells ⟨ns.flatMap (eK .i64).cs⟩ (elemT Pr t)))) (ho : OwnSl eB w B out l) (hx : Ext w0 w) (hB0 : w0.heap.size ≤ B) (hB : B ≤ w.heap.size) (hb1 : b1 < B)
    (hns : ∀ n ∈ ns, n ≤ 9223372036854775807) (hl : l.length + 9 * n ≤ 140737488355328) (hX : ∀ o w', OwnSl eB w' B o (l ++ ns.flatMap encI) → Ext w0 w' → B ≤ w'.heap.size → X o w') :
    opTy Pr (Instr.buildSlice t n parts) Sl.val (fun t3 w4 => kp b1 w w4 <| callV Pr Sl.val fid_ref14_numbers #[out.val, t3.val] w4 fun o w6 => kp b1 w4 w6 <| X o w6) w := by
  refine lit_ty 8 (E := eK .i64) (xs := ns) w.heap.size happ hn hle hr (Nat.le_refl _) fun t3 w4 ha h3 hx4 => kp_ext hx4 ?_
  have z4 := hx4.size
  have lo := ho.lt
  have l3 := h3.lt
  have g3 := h3.ge
  refine ref14_numbers_calls (ref14_numbers_spec (ho.ext hx4) h3.is (fun b hb => ⟨fun e => by have := lo b e; have := g3 b hb; omega, l3 b hb⟩) (by omega) hns (by rw [hn]; exact hl) fun o w6 h6 hb6 => kp_below hb6 hb1 (hX o w6 h6 ((hx.trans' hx4).below hb6 hB0) (by have := hb6.size; omega)))
theorem msg2_flags (hk : 1 ≤ m.Kind ∧ m.Kind ≤ 11) : msg2B m xs img = encI m.Kind ++ encI m.From ++ encI m.To ++ (if mB m.Kind then encI m.Ballot.Round ++ encI m.Ballot.Node else []) ++ (if mI m.Kind then encI m.Index else []) ++ (if mC m.Kind then encI m.Commit else []) ++
    (if mV m.Kind then encI m.Version else []) ++ (if m.Kind = 5 then pcB m xs img .single else if mE m.Kind then entsB 2 xs else []) ++ (if mM m.Kind then enc img.length ++ img else []) := by
  obtain h | h | h | h | h | h | h | h | h | h | h : m.Kind = 1 ∨ m.Kind = 2 ∨ m.Kind = 3 ∨ m.Kind = 4 ∨ m.Kind = 5 ∨ m.Kind = 6 ∨ m.Kind = 7 ∨ m.Kind = 8 ∨ m.Kind = 9 ∨ m.Kind = 10 ∨ m.Kind = 11 := by omega
  all_goals
    unfold msg2B
    rw [h]
    simp [piecesK, mB, mI, mC, mV, mE, mM, pcB, fldAt, List.append_assoc]
theorem ref14_Bytes_spec {K : Sl → World → Prop} (h : MsgAt w m xs img) (hok : MsgOk m xs img.length) (hK : ∀ o w', OwnSl eB w' w.heap.size o (msg2B m xs img) → Ext w w' → K o w') : ref14_Bytes m K w := by
  unfold ref14_Bytes
  obtain ⟨f1, f2, f3, f4, f5, f6⟩ := hok.nums
  have hk := hok.kind
  have hlen : ∀ x, (pcB m xs img x).length ≤ 3000000000 := pcB_len hok
  have ek := encI_len (n := m.Kind) (by omega)
  have ef := encI_len (n := m.From) (by omega)
  have et := encI_len (n := m.To) (by omega)
  have er := encI_len (n := m.Ballot.Round) (by omega)
  have en := encI_len (n := m.Ballot.Node) (by omega)
  have ei := encI_len (n := m.Index) (by omega)
  have ec := encI_len (n := m.Commit) (by omega)
  have ev := encI_len (n := m.Version) (by omega)
  have himg := hok.img
  have hent := fun x hx => entOk_num (hok.each x hx)
  refine new_x (Ext.rfl' w) fun b1 w2 hb1 hl1 hx _ => ?_
  have hB0 : w.heap.size ≤ w2.heap.size := by omega
  refine nums_put (l := []) (ns := [m.Kind, m.From, m.To]) (by kernel_rfl) rfl (by decide) (fun w => by kernel_rfl) (.nil _ _ _) hx hB0 (Nat.le_refl _) hl1 (by intro n hn; simp only [List.mem_cons, List.not_mem_nil, or_false] at hn; rcases hn with rfl | rfl | rfl <;> omega) (by simp) fun out5 w6 ho hx hz => ?_
  have ho : OwnSl eB w6 w2.heap.size out5 (encI m.Kind ++ encI m.From ++ encI m.To) := by simpa using ho
  refine ⟨fun o u => OwnSl eB u w2.heap.size o (encI m.Kind ++ encI m.From ++ encI m.To ++ (if mB m.Kind then encI m.Ballot.Round ++ encI m.Ballot.Node else [])) ∧ Ext w u ∧ w2.heap.size ≤ u.heap.size, ?_, ?_⟩
  · refine has_b fun w9 hx' => kp_ext hx' (ifB_of (fun hf => ?_) (fun hf => ⟨by rw [hf]; simpa using ho.ext hx', hx.trans' hx', Nat.le_trans hz hx'.size⟩))
    refine nums_put (ns := [m.Ballot.Round, m.Ballot.Node]) (by kernel_rfl) rfl (by decide) (fun w => by kernel_rfl) (ho.ext hx') (hx.trans' hx') hB0 (Nat.le_trans hz hx'.size) hl1 (by intro n hn; simp only [List.mem_cons, List.not_mem_nil, or_false] at hn; rcases hn with rfl | rfl <;> omega) (by simp only [List.length_append]; omega) fun o u h1 h2 h3 => ⟨?_, h2, h3⟩
    rw [hf]
    simpa using h1
  rintro out14 w15 ⟨ho, hx, hz⟩
  have c1 : (if mB m.Kind then encI m.Ballot.Round ++ encI m.Ballot.Node else []).length ≤ 18 := by split <;> simp only [List.length_append, List.length_nil] <;> omega
  generalize hL1 : encI m.Kind ++ encI m.From ++ encI m.To ++ (if mB m.Kind then encI m.Ballot.Round ++ encI m.Ballot.Node else []) = L1 at ho
  have d1 : L1.length ≤ 100 := by rw [← hL1]; simp only [List.length_append] at c1 ⊢; omega
  refine ⟨fun o u => OwnSl eB u w2.heap.size o (L1 ++ (if mI m.Kind then encI m.Index else [])) ∧ Ext w u ∧ w2.heap.size ≤ u.heap.size, ?_, ?_⟩
  · refine has_i fun w9 hx' => kp_ext hx' (ifB_of (fun hf => ?_) (fun hf => ⟨by rw [hf]; simpa using ho.ext hx', hx.trans' hx', Nat.le_trans hz hx'.size⟩))
    refine nums_put (ns := [m.Index]) (by kernel_rfl) rfl (by decide) (fun w => by kernel_rfl) (ho.ext hx') (hx.trans' hx') hB0 (Nat.le_trans hz hx'.size) hl1 (by intro n hn; rw [List.mem_singleton.1 hn]; omega) (by omega) fun o u h1 h2 h3 => ⟨?_, h2, h3⟩
    rw [hf]
    simpa using h1
  rintro out23 w24 ⟨ho, hx, hz⟩
  have c2 : (if mI m.Kind then encI m.Index else []).length ≤ 9 := by split <;> first | omega | (simp only [List.length_nil]; omega)
  generalize hL2 : L1 ++ (if mI m.Kind then encI m.Index else []) = L2 at ho
  have d2 : L2.length ≤ 200 := by rw [← hL2]; simp only [List.length_append]; omega
  refine ⟨fun o u => OwnSl eB u w2.heap.size o (L2 ++ (if mC m.Kind then encI m.Commit else [])) ∧ Ext w u ∧ w2.heap.size ≤ u.heap.size, ?_, ?_⟩
  · refine has_c fun w9 hx' => kp_ext hx' (ifB_of (fun hf => ?_) (fun hf => ⟨by rw [hf]; simpa using ho.ext hx', hx.trans' hx', Nat.le_trans hz hx'.size⟩))
    refine nums_put (ns := [m.Commit]) (by kernel_rfl) rfl (by decide) (fun w => by kernel_rfl) (ho.ext hx') (hx.trans' hx') hB0 (Nat.le_trans hz hx'.size) hl1 (by intro n hn; rw [List.mem_singleton.1 hn]; omega) (by omega) fun o u h1 h2 h3 => ⟨?_, h2, h3⟩
    rw [hf]
    simpa using h1
  rintro out32 w33 ⟨ho, hx, hz⟩
  have c3 : (if mC m.Kind then encI m.Commit else []).length ≤ 9 := by split <;> first | omega | (simp only [List.length_nil]; omega)
  generalize hL3 : L2 ++ (if mC m.Kind then encI m.Commit else []) = L3 at ho
  have d3 : L3.length ≤ 300 := by rw [← hL3]; simp only [List.length_append]; omega
  refine ⟨fun o u => OwnSl eB u w2.heap.size o (L3 ++ (if mV m.Kind then encI m.Version else [])) ∧ Ext w u ∧ w2.heap.size ≤ u.heap.size, ?_, ?_⟩
  · refine has_v fun w9 hx' => kp_ext hx' (ifB_of (fun hf => ?_) (fun hf => ⟨by rw [hf]; simpa using ho.ext hx', hx.trans' hx', Nat.le_trans hz hx'.size⟩))
    refine nums_put (ns := [m.Version]) (by kernel_rfl) rfl (by decide) (fun w => by kernel_rfl) (ho.ext hx') (hx.trans' hx') hB0 (Nat.le_trans hz hx'.size) hl1 (by intro n hn; rw [List.mem_singleton.1 hn]; omega) (by omega) fun o u h1 h2 h3 => ⟨?_, h2, h3⟩
    rw [hf]
    simpa using h1
  rintro out41 w42 ⟨ho, hx, hz⟩
  have c4 : (if mV m.Kind then encI m.Version else []).length ≤ 9 := by split <;> first | omega | (simp only [List.length_nil]; omega)
  generalize hL4 : L3 ++ (if mV m.Kind then encI m.Version else []) = L4 at ho
  have d4 : L4.length ≤ 400 := by rw [← hL4]; simp only [List.length_append]; omega
  have put : ∀ {t tx ty : TypeId} {u : World} {out y : Sl} {L M : List UInt8} {X : Sl → World → Prop}, appOk Pr t (elemT Pr t) 1 1 = true → isSlT Pr tx = true → OwnSl eB u w2.heap.size out L → IsSl eB u y M → Ext w u → w2.heap.size ≤ u.heap.size → L.length + M.length ≤ 140737488355328 →
      (∀ s u', OwnSl eB u' w2.heap.size s (L ++ M) → Ext w u' → w2.heap.size ≤ u'.heap.size → X s u') → opTy Pr (Builtin.append_ #[t, tx] ty #[out.val, y.val]) Sl.val (fun o u' => kp b1 u u' <| X o u') u := fun h1 h2 ho hy hx hz hlen hX =>
    app_ty 1 h1 h2 ho hy (by omega) hz (by decide) fun s u' hs hg => kp_O ho hl1 hg (hX _ _ hs (Ext.own hx ho hB0 hg) (Nat.le_trans hz hg.size))
  refine ⟨fun o u => OwnSl eB u w2.heap.size o (L4 ++ (if m.Kind = 5 then pcB m xs img .single else if mE m.Kind then entsB 2 xs else [])) ∧ Ext w u ∧ w2.heap.size ≤ u.heap.size, ?_, ?_⟩
  · refine ifEq (fun h5 => ?_) (fun h5 => ?_)
    · obtain ⟨x, rfl, _⟩ := hok.form.2.2.2.2.2.2 h5
      obtain ⟨n1, n2, n3, n4, n5⟩ := hent x (by simp)
      rw [if_pos h5]
      refine fld_rd (E := eApiEntry) (k := 0) (y := x.Index) (by kernel_rfl) (by kernel_rfl) (h.es.ext hx) rfl (by simp) rfl fun _ => ?_
      refine nums_put (ns := [x.Index]) (by kernel_rfl) rfl (by decide) (fun w => by kernel_rfl) ho hx hB0 hz hl1 (by intro n hn; rw [List.mem_singleton.1 hn]; omega) (by omega) fun o u h1 h2 h3 => ?_
      refine part_rd (E := eApiEntry) (n := 7) (off := 3) (k := 0) (y := x.Cmd) (val := ApiCmd.val) (xs := x.Cmd.cs) (by kernel_rfl) (by kernel_rfl) (h.es.ext h2) rfl (by simp) rfl rfl (ent_cmd _) fun _ => ?_
      have e1 := encI_len n1
      have e2 : (cmdB 2 x.Cmd).length ≤ 10000000 := by
        have := cmdT_len (v := 2) n4 n5 6
        unfold cmdB
        omega
      refine ref08_Bytes_calls (c := x.Cmd) (ref08_Bytes_spec n4 n5 fun o2 u2 h4 hx2 => kp_ext hx2 ?_)
      refine put (by kernel_rfl) (by kernel_rfl) (h1.ext hx2) h4.is (h2.trans' hx2) (Nat.le_trans h3 hx2.size) (by simp only [List.length_append, List.flatMap_cons, List.flatMap_nil, List.length_nil]; omega) fun o3 u3 h5 h6 h7 => ⟨?_, h6, h7⟩
      show OwnSl eB u3 w2.heap.size o3 (L4 ++ (encI x.Index ++ cmdB 2 x.Cmd))
      simpa using h5
    · rw [if_neg h5]
      refine has_e fun w57 hx' => kp_ext hx' (ifB_of (fun hf => ?_) (fun hf => ⟨by rw [hf]; simpa using ho.ext hx', hx.trans' hx', Nat.le_trans hz hx'.size⟩))
      have hx := hx.trans' hx'
      refine ref12_Bytes_calls (ref12_Bytes_spec (h.es.ext hx) hent (by have := hok.few; omega) fun o2 u2 h4 hx2 => kp_ext hx2 ?_)
      have e2 : (entsB 2 xs).length ≤ 3000000000 := hlen .ents
      refine put (by kernel_rfl) (by kernel_rfl) ((ho.ext hx').ext hx2) h4.is (hx.trans' hx2) (Nat.le_trans (Nat.le_trans hz hx'.size) hx2.size) (by omega) fun o3 u3 h5 h6 h7 => ⟨?_, h6, h7⟩
      rw [hf]
      exact h5
  rintro out62 w63 ⟨ho, hx, hz⟩
  have c5 : (if m.Kind = 5 then pcB m xs img .single else if mE m.Kind then entsB 2 xs else []).length ≤ 3000000000 := by
    split
    · exact hlen _
    · split
      · exact hlen .ents
      · simp
  have hfl := msg2_flags (xs := xs) (img := img) hk
  rw [hL1, hL2, hL3, hL4] at hfl
  generalize hL5 : L4 ++ (if m.Kind = 5 then pcB m xs img .single else if mE m.Kind then entsB 2 xs else []) = L5 at ho hfl
  have d5 : L5.length ≤ 3000000400 := by rw [← hL5]; simp only [List.length_append]; omega
  refine has_m fun w65 hx' => kp_ext hx' (ifB_of (fun hf => ?_) (fun hf => ?_))
  · have him := h.im.len
    rw [him]
    refine nums_put (ns := [(img.length : Int)]) (by kernel_rfl) rfl (by decide) (fun w => by kernel_rfl) (ho.ext hx') (hx.trans' hx') hB0 (Nat.le_trans hz hx'.size) hl1 (by intro n hn; rw [List.mem_singleton.1 hn]; omega) (by omega) fun o u h1 h2 h3 => ?_
    have e1 := encI_len (n := (img.length : Int)) (by omega)
    refine put (by kernel_rfl) (by kernel_rfl) h1 (h.im.ext h2) h2 h3 (by simp only [List.length_append, List.flatMap_cons, List.flatMap_nil, List.length_nil]; omega) fun o3 u3 h5 h6 h7 => hK _ _ ?_ h6
    rw [hfl, hf]
    unfold encI at h5
    simpa using h5.mono hB0
  · refine hK _ _ ?_ (hx.trans' hx')
    rw [hfl, hf]
    simpa using (ho.ext hx').mono hB0

/-! ### The laws -/
def exMsg : ApiMsg := ⟨9, 1, 2, ⟨0, 0⟩, 3, 0, 0, Sl.nil, Sl.nil⟩
theorem exMsg_ok : MsgOk exMsg [] 0 := by
  refine ⟨⟨by decide, by decide⟩, ⟨⟨⟨by decide, by decide⟩, ⟨by decide, by decide⟩, by decide⟩, fun h => (by cases h), fun _ => ⟨by decide, by decide⟩, fun h => (by cases h), fun h => (by cases h)⟩, fun h => ?_, fun h => (by cases h), fun _ => rfl, fun h => (by cases h), fun _ => rfl, fun _ => rfl, fun _ => rfl, ⟨fun h => (by cases h), fun h => absurd h (Nat.lt_irrefl _)⟩, fun h => (by cases h)⟩
  rcases h with ⟨h, _⟩ | ⟨h, _⟩ <;> cases h
theorem exMsg_bytes : msg2B exMsg [] [] = [9, 1, 2, 3] := by
  have e : ∀ n : Nat, n < 128 → enc n = [b8 n] := fun n h => enc_small h
  show enc 9 ++ enc 1 ++ enc 2 ++ (enc 3 ++ []) = _
  rw [e 9 (by decide), e 1 (by decide), e 2 (by decide), e 3 (by decide)]
  rfl
theorem MsgEq.rfl' (m : ApiMsg) (xs : List ApiEntry) (img : List UInt8) : MsgEq m m xs xs img img := ⟨⟨rfl, rfl, rfl, rfl, rfl, rfl, rfl⟩, rfl, rfl⟩
end Go.Chg
