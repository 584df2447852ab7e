/-
  The laws of chapter 14: MsgtwoEither.
-/
import Derived.Test.YtlapfdcocakloaaGreatDoorSpLaw14
set_option maxRecDepth 20000
set_option linter.unusedVariables false
namespace Go.Chg
open Go.Vc
variable {w : World} {m : ApiMsg} {xs : List ApiEntry} {img l : List UInt8} {v p q no k : Int} {s : Sl}
/-- V2 has no more bytes of a command than V1. -/
theorem cmdB_le (c : ApiCmd) (h : c.Kind ≠ 5) : (cmdB 2 c).length ≤ (cmdB 1 c).length := by
  have pos : ∀ i, (pI 2 c i).length ≤ (pI 1 c i).length := fun i => by
    unfold pI
    by_cases hw : wantI 2 c.Kind i = true
    · rw [if_pos hw]
      rw [want2 (by decide)] at hw
      have hi : i ≠ 3 := fun e => by
        subst e
        exact h (of_decide_eq_true hw)
      rw [if_pos (want1 rfl hi)]
      exact Nat.le_refl _
    · rw [if_neg hw]
      exact Nat.zero_le _
  rw [cmdB_eq, cmdB_eq]
  have h0 := pos 0
  have h1 := pos 1
  have h2 := pos 2
  have h3 := pos 3
  have h4 := pos 4
  have h5 := pos 5
  simp only [List.length_append]
  omega
theorem entB_le12 {x : ApiEntry} (h : x.Cmd.Kind ≠ 5) : (entB 2 x).length ≤ (entB 1 x).length := by
  have := cmdB_le x.Cmd h
  unfold entB
  simp only [List.length_append]
  omega
theorem flat_le12 : ∀ {xs : List ApiEntry}, (∀ x ∈ xs, x.Cmd.Kind ≠ 5) → (xs.flatMap (entB 2)).length ≤ (xs.flatMap (entB 1)).length
  | [], _ => Nat.le_refl _
  | x :: r, h => by
    have h1 := flat_le12 (xs := r) fun y hy => h y (List.mem_cons_of_mem _ hy)
    have h2 := entB_le12 (h x (List.mem_cons_self ..))
    simp only [List.flatMap_cons, List.length_append]
    omega
/-- V2 has no more bytes of a message than V1. -/
theorem msgB_le (hok : MsgOk m xs img.length) (hold : Old m xs) : (msg2B m xs img).length ≤ (msg1B m xs img).length := by
  have hk := hok.kind
  have hne : ∀ x ∈ xs, x.Cmd.Kind ≠ 5 := fun x hx h => by
    have := (hold.1 x hx).2.2 h
    omega
  have hfl := flat_le12 hne
  have pos : ∀ n : Int, 1 ≤ (encI n).length := fun n => enc_pos _
  have hent : (entsB 2 xs).length ≤ (entsB 1 xs).length := by
    unfold entsB
    simp only [List.length_append]
    omega
  have hsing : m.Kind = 5 → (pcB m xs img .single).length ≤ (entsB 1 xs).length := fun h5 => by
    obtain ⟨x, rfl, _⟩ := hok.form.2.2.2.2.2.2 h5
    have := cmdB_le x.Cmd (hne x (by simp))
    show (encI x.Index ++ cmdB 2 x.Cmd).length ≤ _
    unfold entsB entB encI
    simp only [List.flatMap_cons, List.flatMap_nil, List.length_append, List.length_nil]
    omega
  rw [msg2_flags hk]
  unfold msg1B
  have e7 : ((numsL m).flatMap encI).length = (encI m.Kind).length + (encI m.From).length + (encI m.To).length + (encI m.Ballot.Round).length + (encI m.Ballot.Node).length + (encI m.Index).length + (encI m.Commit).length := by
    simp only [numsL, List.flatMap_cons, List.flatMap_nil, List.length_append, List.length_nil]
    omega
  have a1 : (if mB m.Kind then encI m.Ballot.Round ++ encI m.Ballot.Node else []).length ≤ (encI m.Ballot.Round).length + (encI m.Ballot.Node).length := by
    split
    · simp only [List.length_append]; omega
    · simp
  have a2 : (if mI m.Kind then encI m.Index else []).length ≤ (encI m.Index).length := by
    split
    · exact Nat.le_refl _
    · simp
  have a3 : (if mC m.Kind then encI m.Commit else []).length ≤ (encI m.Commit).length := by
    split
    · exact Nat.le_refl _
    · simp
  have a5 : (if m.Kind = 5 then pcB m xs img .single else if mE m.Kind then entsB 2 xs else []).length ≤ (entsB 1 xs).length := by
    split
    · rename_i h; exact hsing h
    · split
      · exact hent
      · simp
  have a6 : (if mM m.Kind then enc img.length ++ img else []).length ≤ (enc img.length ++ img).length := by
    split
    · exact Nat.le_refl _
    · simp
  -- the version is told where nothing else is
  have a4 : (if mV m.Kind then encI m.Version else []).length + (if mI m.Kind then encI m.Index else []).length ≤ (encI m.Index).length := by
    cases hv : mV m.Kind
    · simpa using a2
    · have hi : mI m.Kind = false := by
        unfold mV at hv
        unfold mI
        simp only [Bool.or_eq_true, decide_eq_true_eq] at hv
        rcases hv with h | h <;> rw [h] <;> rfl
      have hv2 := hok.rng.2.2.2.2 hv
      have hv1 : m.Version = 1 := by have := hold.2; omega
      have := pos m.Index
      rw [hi, hv1]
      have e1 : (encI 1).length = 1 := by
        unfold encI
        rw [enc_small (by decide)]
        rfl
      simp only [if_true, e1]
      simpa using this
  simp only [List.length_append] at a6 ⊢
  omega
/-- Whatever message V1 has is the same one, whichever version's bytes it was carried in; V2 never has more bytes. -/
theorem law14_MsgtwoEither_spec {K : Bool → World → Prop} (ht : Utf8T w) (h : MsgAt w m xs img) (hK : ∀ w', Ext w w' → K true w') : law14_MsgtwoEither m K w := by
  unfold law14_MsgtwoEither
  refine new_x (Ext.rfl' w) fun b1 w2 hb1 hl1 hx _ => ?_
  have awake : ∀ {u : World}, Ext w u → callV Pr Value.bool fid_law14_awake #[] u fun t v => kp b1 u v (K t v) := fun hx => law14_awake_calls (law14_awake_spec (ht.ext hx) fun v hx' => kp_ext hx' (hK _ (hx.trans' hx')))
  refine ref13_Large_calls (m := m) (ref13_Large_spec (h.ext hx) fun t w4 _ hx' => kp_ext hx' ?_)
  have hx := hx.trans' hx'
  refine ifB_of (fun _ => awake hx) (fun _ => ?_)
  refine ref13_Older_calls (m := m) (ref13_Older_spec (h.ext hx) fun e w8 he hx' => kp_ext hx' ?_)
  have hx := hx.trans' hx'
  refine ifNe (fun _ => awake hx) (fun h0 => ?_)
  obtain ⟨hok, hold⟩ : MsgOk m xs img.length ∧ Old m xs := by
    rcases he with ⟨h1, h2⟩ | ⟨_, _, h2⟩ | ⟨h1, h2, _⟩
    · exact absurd (h2.symm.trans h0) h1
    · omega
    · exact ⟨h1, h2⟩
  refine msgone_Encode_calls (m := m) (msgone_Encode_spec (ht.ext hx) (h.ext hx) fun r w12 hr hx' => kp_ext hx' ?_)
  have hx := hx.trans' hx'
  have hr : r.2 = 0 ∧ OwnSl eB w12 w8.heap.size r.1 (msg1B m xs img) := by
    obtain ⟨e', he', ⟨h1, h2⟩ | ⟨_, h2, h3⟩⟩ := hr
    · exact absurd (he'.uniq (.inr (.inr ⟨hok, hold, rfl⟩))) h1
    · exact ⟨h2, h3⟩
  obtain ⟨hr0, hro⟩ := hr
  refine msgtwo_Encode_calls (m := m) (msgtwo_Encode_spec (ht.ext hx) (h.ext hx) fun r2 w14 hr2 hx' => kp_ext hx' ?_)
  have hx := hx.trans' hx'
  have hr2 : r2.2 = 0 ∧ OwnSl eB w14 w12.heap.size r2.1 (msg2B m xs img) := by
    rcases hr2 with ⟨h1, _⟩ | ⟨_, h2, h3⟩
    · exact absurd (msgE_ok.2 hok) h1
    · exact ⟨h2, h3⟩
  obtain ⟨hs0, hso⟩ := hr2
  have hro := hro.ext hx'
  have l1 := msg1B_len hok
  have l2 := msgB_le hok hold
  refine msgone_Decode_calls (msgone_Decode_spec (ht.ext hx) hro.is (by omega) fun x w16 hdx hx' => kp_ext hx' ?_)
  have hx := hx.trans' hx'
  have hro := hro.ext hx'
  have hso := hso.ext hx'
  obtain ⟨dx0, ys, jmg, hye, hyi, heq⟩ := hdx.took hok hold
  have lr := hro.lt
  have ls := hso.lt
  have le := hye.lt
  have li := hyi.lt
  refine new_x hx fun b17 w18 hb17 hl17 hx hn18 => wr_x hx hb17 fun w19 hx hw19 => ?_
  have e18 := hn18.1
  have hro := (hro.ext (Ext.new hn18)).wrN hw19 lr (by omega)
  have hso := (hso.ext (Ext.new hn18)).wrN hw19 ls (by omega)
  have hye := (hye.ext (Ext.new hn18)).wrN hw19 le (by omega)
  have hyi := (hyi.ext (Ext.new hn18)).wrN hw19 li (by omega)
  refine msgtwo_Decode_calls (msgtwo_Decode_spec (ht.ext hx) hso.is (by omega) fun y w21 hdy hx' => kp_ext hx' (kp_ext hx' ?_))
  have hx := hx.trans' hx'
  have hro := hro.ext hx'
  have hso := hso.ext hx'
  have hye := hye.ext hx'
  have hyi := hyi.ext hx'
  obtain ⟨dy0, zs, kmg, hze, hzi, heq2⟩ := hdy.took hok
  have le := hye.lt
  have li := hyi.lt
  have lze := hze.lt
  have lzi := hzi.lt
  refine new_x hx fun b22 w23 hb22 hl22 hx hn23 => wr_x hx hb22 fun w24 hx hw24 => ?_
  have e23 := hn23.1
  have hye := (hye.ext (Ext.new hn23)).wrN hw24 le (by omega)
  have hyi := (hyi.ext (Ext.new hn23)).wrN hw24 li (by omega)
  have hze := (hze.ext (Ext.new hn23)).wrN hw24 lze (by omega)
  have hzi := (hzi.ext (Ext.new hn23)).wrN hw24 lzi (by omega)
  refine ifEq (fun _ => ?_) (fun h => absurd hr0 h)
  refine ifEq (fun _ => ?_) (fun h => absurd hs0 h)
  refine ifEq (fun _ => ?_) (fun h => absurd dx0 h)
  refine ifEq (fun _ => ?_) (fun h => absurd dy0 h)
  have heq3 : MsgEq x.1 y.1 ys zs jmg kmg := by
    obtain ⟨⟨a1, a2, a3, a4, a5, a6, a7⟩, a8, a9⟩ := heq
    obtain ⟨⟨b1, b2, b3, b4, b5, b6, b7⟩, b8, b9⟩ := heq2
    exact ⟨⟨a1.trans b1.symm, a2.trans b2.symm, a3.trans b3.symm, a4.trans b4.symm, a5.trans b5.symm, a6.trans b6.symm, a7.trans b7.symm⟩, a8.trans b8.symm, a9.trans b9.symm⟩
  refine ref13_Same_calls (a := x.1) (b := y.1) (ref13_Same_spec ⟨hye.is, hyi.is⟩ ⟨hze.is, hzi.is⟩ fun t w26 hs hx' => kp_ext hx' (kp_ext hx' (kp_ext hx' (ifB_t (hs.2 heq3) ?_))))
  have hx := hx.trans' hx'
  have e1 := hro.len
  have e2 := hso.len
  refine ifD (fun _ => ?_) (fun h => absurd (by rw [e1, e2]; omega) h)
  exact law14_awake_calls (law14_awake_spec (ht.ext hx) fun v hx' => kp_ext hx' (kp_ext hx' (kp_ext hx' (hK _ (hx.trans' hx')))))
end Go.Chg
