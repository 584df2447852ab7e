/-
  The laws of chapter 10.
-/
import Derived.Test.YtapepehccddjpaaDoorSpBal
import Derived.Test.YtapepehccddjpaaDoorSpItoa
set_option maxRecDepth 20000
set_option linter.unusedVariables false
namespace Go.Chg
open Go.Vc
variable {w : World}
def bText (b : ApiBallot) : List UInt8 := digits 10 b.Round.toNat ++ [46] ++ digits 10 b.Node.toNat
theorem ref10_Text_spec {b : ApiBallot} {K : List UInt8 → World → Prop} (hb : BMay b) (hK : ∀ w', Ext w w' → K (bText b) w') : ref10_Text b K w := by
  unfold ref10_Text
  have hn := hb.num
  refine new_x (Ext.rfl' w) fun b1 w2 _ _ hx _ => held_x fun w3 hx' => ?_
  have hx := hx.trans' hx'
  obtain ⟨r, hr⟩ := Int.eq_ofNat_of_zero_le hn.1.1
  obtain ⟨m, hm⟩ := Int.eq_ofNat_of_zero_le hn.2.1
  have l1 := digits_len19 (n := r) (by omega)
  have l2 := digits_len19 (n := m) (by omega)
  rw [hr, hm]
  refine ref08_Digits_calls (ref08_Digits_spec (n := r) (by omega) (kp_same ⟨trivial, ?_⟩))
  refine opH_of (digits 10 r ++ [46]) (fun w' _ => cat_str (by simp only [List.length_singleton]; omega) rfl) ?_
  refine ref08_Digits_calls (ref08_Digits_spec (n := m) (by omega) (kp_same ⟨trivial, ?_⟩))
  refine opH_of (digits 10 r ++ [46] ++ digits 10 m) (fun w' _ => cat_str (by simp only [List.length_append, List.length_singleton]; omega) rfl) ?_
  have := hK _ hx
  unfold bText at this
  rw [hr, hm] at this
  exact this
theorem ballot_Text_spec {b : ApiBallot} {K : List UInt8 → World → Prop} (ht : ConvT w) (h0 : ¬ BMay b → ∀ w', Ext w w' → K [] w') (hK : BMay b → ∀ w', Ext w w' → K (bText b) w') : ballot_Text b K w := by
  unfold ballot_Text
  refine new_x (Ext.rfl' w) fun b1 w2 _ _ hx _ => ?_
  refine ballot_May_calls (b := b) (ballot_May_spec fun t3 w4 h3 hx' => kp_ext hx' ?_)
  have hx := hx.trans' hx'
  refine ifNot (ifB_of (fun h => ?_) (fun h => h0 (fun h' => by rw [h3.2 h'] at h; cases h) _ hx))
  have hb := h3.1 h
  have hn := hb.num
  refine held_x fun w3 hx' => ?_
  have hx := hx.trans' hx'
  obtain ⟨r, hr⟩ := Int.eq_ofNat_of_zero_le hn.1.1
  obtain ⟨m, hm⟩ := Int.eq_ofNat_of_zero_le hn.2.1
  have l1 := digits_len19 (n := r) (by omega)
  have l2 := digits_len19 (n := m) (by omega)
  rw [hr, hm]
  refine strconv_Itoa_calls (Itoa_spec (n := r) (ht.ext hx) (by omega) fun w8 hx' => kp_ext hx' ⟨trivial, ?_⟩)
  have hx := hx.trans' hx'
  refine opH_of (digits 10 r ++ [46]) (fun w' _ => cat_str (by simp only [List.length_singleton]; omega) rfl) ?_
  refine strconv_Itoa_calls (Itoa_spec (n := m) (ht.ext hx) (by omega) fun w11 hx' => kp_ext hx' ⟨trivial, ?_⟩)
  have hx := hx.trans' hx'
  refine opH_of (digits 10 r ++ [46] ++ digits 10 m) (fun w' _ => cat_str (by simp only [List.length_append, List.length_singleton]; omega) rfl) ?_
  have := hK hb _ hx
  unfold bText at this
  rw [hr, hm] at this
  exact this
theorem law10_awake_spec {K : Bool → World → Prop} (ht : ConvT w) (hK : ∀ w', Ext w w' → K true w') : law10_awake K w := by
  unfold law10_awake
  refine ballot_Next_calls (b := ⟨3, 2⟩) (ballot_Next_spec fun x e w2 hn hx => ?_)
  have hmay : BMay ⟨3, 2⟩ := .inr ⟨by decide, by decide, by decide, by decide⟩
  rcases hn with ⟨rfl, rfl, _⟩ | ⟨_, _, hn⟩
  rotate_left
  · exact absurd ⟨hmay, ⟨by decide, by decide⟩, by decide⟩ hn
  refine new_x hx fun b3 w4 hb3 _ hx _ => wr_x hx hb3 fun w5 hx _ => ?_
  have e : (⟨nextR ⟨3, 2⟩ 1, 1⟩ : ApiBallot) = ⟨4, 1⟩ := rfl
  rw [e]
  refine eqSt (by kernel_rfl) (ApiBallot.eqv ⟨4, 1⟩ ⟨4, 1⟩) (ifB_t (ApiBallot.eqs_iff.2 rfl) ?_)
  refine ifEq (fun _ => ?_) (fun h => absurd rfl h)
  refine ballot_Text_calls (b := ⟨4, 1⟩) (ballot_Text_spec (ht.ext hx) (fun h => absurd (.inr ⟨by decide, by decide, by decide, by decide⟩) h) fun _ w8 hx' => kp_ext hx' ?_)
  have hx := hx.trans' hx'
  have : strEq (bText ⟨4, 1⟩) [52, 46, 49] = true := by
    rw [strEq_eq, decide_eq_true_iff]
    show digits 10 4 ++ [46] ++ digits 10 1 = _
    rw [digits_small (by decide), digits_small (by decide)]
    rfl
  rw [this]
  exact hK _ hx
theorem law10_BallotLess_spec {a b : ApiBallot} {K : Bool → World → Prop} (ht : ConvT w) (hK : ∀ w', Ext w w' → K true w') : law10_BallotLess a b K w := by
  unfold law10_BallotLess
  refine new_x (Ext.rfl' w) fun b1 w2 _ _ hx _ => new_x hx fun b3 w4 _ _ hx _ => held_x fun w5 hx' => ?_
  have hx := hx.trans' hx'
  refine ballot_Less_calls (a := a) (b := b) (ballot_Less_spec fun x w8 hX hx' => kp_ext hx' (kp_ext hx' ⟨trivial, ?_⟩))
  have hx := hx.trans' hx'
  refine ballot_Less_calls (a := b) (b := a) (ballot_Less_spec fun y w10 hY hx' => kp_ext hx' (kp_ext hx' ⟨trivial, ?_⟩))
  have hx := hx.trans' hx'
  refine ⟨fun want w' => Ext w w' ∧ (BMay a ∧ want = bText a ∨ ¬ BMay a ∧ want = []), ?_, ?_⟩
  · refine ref10_May_calls (b := a) (ref10_May_spec fun t12 w13 h12 hx' => kp_ext hx' (kp_ext hx' ?_))
    have hx := hx.trans' hx'
    refine ifB_of (fun h => ?_) (fun h => ⟨hx, .inr ⟨fun h' => (by rw [h12.2 h'] at h; cases h), rfl⟩⟩)
    exact ref10_Text_calls (b := a) (ref10_Text_spec (h12.1 h) fun w15 hx' => kp_ext hx' (kp_ext hx' ⟨hx.trans' hx', .inl ⟨h12.1 h, rfl⟩⟩))
  rintro want w17 ⟨hx, hw⟩
  refine held_x fun w18 hx' => ?_
  have hx := hx.trans' hx'
  refine ref10_Less_calls (a := a) (b := b) (ref10_Less_spec fun t20 w21 h20 hx' => kp_ext hx' (kp_ext hx' ⟨trivial, ?_⟩))
  have hx := hx.trans' hx'
  have e1 : x = t20 := Bool.eq_iff_iff.2 (hX.trans h20.symm)
  refine ifB_t (by rw [e1]; simp) ?_
  refine ref10_Less_calls (a := b) (b := a) (ref10_Less_spec fun t22 w23 h22 hx' => kp_ext hx' (kp_ext hx' ⟨trivial, ?_⟩))
  have hx := hx.trans' hx'
  have e2 : y = t22 := Bool.eq_iff_iff.2 (hY.trans h22.symm)
  refine ifB_t (by rw [e2]; simp) ?_
  -- the last three questions
  have rest : ∀ {u : World}, Ext w u → callV Pr Value.bool fid_ballot_May #[(.agg ⟨[(.int .i64 a.Round), (.int .i64 a.Node)]⟩)] u fun t25 w26 => kp b3 u w26 <| kp b1 u w26 <| True ∧
      (callV Pr Value.bool fid_ref10_May #[(.agg ⟨[(.int .i64 a.Round), (.int .i64 a.Node)]⟩)] w26 fun t27 w28 => kp b3 w26 w28 <| kp b1 w26 w28 <| True ∧
      (ifB (t25 == t27)
      (callV Pr sval fid_ballot_Text #[(.agg ⟨[(.int .i64 a.Round), (.int .i64 a.Node)]⟩)] w28 fun t29 w30 => kp b3 w28 w30 <| kp b1 w28 w30 <| True ∧
      (ifB (strEq t29 want)
      (callV Pr Value.bool fid_law10_awake #[] w30 fun t31 w32 => kp b3 w30 w32 <| kp b1 w30 w32 <| True ∧ (K t31 w32))
      (K false w30)))
      (K false w28))) := by
    intro u hx
    refine ballot_May_calls (b := a) (ballot_May_spec fun t25 w26 h25 hx' => kp_ext hx' (kp_ext hx' ⟨trivial, ?_⟩))
    have hx := hx.trans' hx'
    refine ref10_May_calls (b := a) (ref10_May_spec fun t27 w28 h27 hx' => kp_ext hx' (kp_ext hx' ⟨trivial, ?_⟩))
    have hx := hx.trans' hx'
    have e3 : t25 = t27 := Bool.eq_iff_iff.2 (h25.trans h27.symm)
    refine ifB_t (by rw [e3]; simp) ?_
    have last : ∀ {t29 : List UInt8} {v : World}, t29 = want → Ext w v → ifB (strEq t29 want) (callV Pr Value.bool fid_law10_awake #[] v fun t31 w32 => kp b3 v w32 <| kp b1 v w32 <| True ∧ (K t31 w32)) (K false v) := fun e hx => by
      subst e
      exact ifStr (fun _ => law10_awake_calls (law10_awake_spec (ht.ext hx) fun w32 hx' => kp_ext hx' (kp_ext hx' ⟨trivial, hK _ (hx.trans' hx')⟩))) (fun h => absurd rfl h)
    refine ballot_Text_calls (b := a) (ballot_Text_spec (ht.ext hx) (fun hno w30 hx' => kp_ext hx' (kp_ext hx' ⟨trivial, last ?_ (hx.trans' hx')⟩)) (fun hyes w30 hx' => kp_ext hx' (kp_ext hx' ⟨trivial, last ?_ (hx.trans' hx')⟩)))
    · rcases hw with ⟨h, _⟩ | ⟨_, h⟩
      · exact absurd h hno
      · exact h.symm
    · rcases hw with ⟨_, h⟩ | ⟨h, _⟩
      · exact h.symm
      · exact absurd hyes h
  have tri : BLess a b ∨ a = b ∨ BLess b a := by
    unfold BLess
    rw [bal_eq]
    omega
  have irr : ∀ {c d : ApiBallot}, BLess c d → ¬ BLess d c ∧ c ≠ d := fun h => by
    unfold BLess at *
    rw [Ne, bal_eq]
    omega
  refine ifB_of (fun hxt => ?_) (fun hxf => ?_)
  · have hab := hX.1 hxt
    obtain ⟨i1, i2⟩ := irr hab
    have hyf : y = false := by cases hy : y; rfl; exact absurd (hY.1 hy) i1
    refine neSt_S (by kernel_rfl) (ApiBallot.eqv a b) ?_
    have : (ApiBallot.eqs a b).all id = false := by cases h : (ApiBallot.eqs a b).all id; rfl; exact absurd (ApiBallot.eqs_iff.1 h) i2
    rw [this]
    refine ifB_t rfl (ifB_t hxt (ifB_t (by rw [hyf]; rfl) ?_))
    exact rest hx
  · have hnab : ¬ BLess a b := fun h => by rw [hX.2 h] at hxf; cases hxf
    refine neSt_S (by kernel_rfl) (ApiBallot.eqv a b) ?_
    have : y = (!(ApiBallot.eqs a b).all id) := by
      cases hy : y
      · have : ¬ BLess b a := fun h => by rw [hY.2 h] at hy; cases hy
        have he : a = b := by rcases tri with h | h | h; exact absurd h hnab; exact h; exact absurd h this
        rw [ApiBallot.eqs_iff.2 he]; rfl
      · have := hY.1 hy
        cases h : (ApiBallot.eqs a b).all id
        · rfl
        · exact absurd (ApiBallot.eqs_iff.1 h).symm (irr this).2
    rw [← this]
    refine ifB_t (by simp) (ifB_f hxf (ifB_t rfl ?_))
    exact rest hx
theorem nextR_facts {b : ApiBallot} {n : Int} (hb : BMay b) (hn : NodeOk n) : 1 ≤ nextR b n ∧ BLess b ⟨nextR b n, n⟩ ∧ (nextR b n = 1 ∨ ¬ BLess b ⟨nextR b n - 1, n⟩) := by
  have hz : b.Round = 0 → b.Node = 0 := fun h => by
    rcases hb with h' | h'
    · rw [h']; rfl
    · omega
  have hnum := hb.num
  obtain ⟨h1, h2⟩ := hn
  unfold nextR BLess
  dsimp only
  split
  · omega
  · split <;> omega
theorem law10_BallotNext_spec {b : ApiBallot} {n : Int} {K : Bool → World → Prop} (ht : ConvT w) (hK : ∀ w', Ext w w' → K true w') : law10_BallotNext b n K w := by
  unfold law10_BallotNext
  refine new_x (Ext.rfl' w) fun b1 w2 _ _ hx _ => ?_
  refine ballot_Next_calls (b := b) (ballot_Next_spec fun x e w4 hxe hx' => kp_ext hx' ?_)
  have hx := hx.trans' hx'
  refine new_x hx fun b5 w6 hb5 _ hx _ => wr_x hx hb5 fun w7 hx _ => ?_
  refine ref10_Next_calls (b := b) (ref10_Next_spec fun y t w9 hyt hx' => kp_ext hx' (kp_ext hx' ?_))
  have hx := hx.trans' hx'
  refine new_x hx fun b10 w11 hb10 _ hx _ => wr_x hx hb10 fun w12 hx _ => ?_
  have awake : ∀ {u : World}, Ext w u → ∀ {K' : Bool → World → Prop}, (∀ v, Ext w v → Ext u v → K' true v) → callV Pr Value.bool fid_law10_awake #[] u K' := fun hx _ h => law10_awake_calls (law10_awake_spec (ht.ext hx) fun v hx' => h v (hx.trans' hx') hx')
  rcases hyt with ⟨rfl, hy⟩ | ⟨rfl, hy⟩
  · rcases hy with ⟨_, rfl, hm, hno, hr⟩ | ⟨h, _⟩
    rotate_left
    · exact absurd h (by decide)
    rcases hxe with ⟨rfl, rfl, _⟩ | ⟨_, _, h⟩
    rotate_left
    · exact absurd ⟨hm, hno, hr⟩ h
    obtain ⟨f1, f2, f3⟩ := nextR_facts hm hno
    refine ifB_f rfl (new_x hx fun b16 w17 hb16 _ hx _ => wr_x hx hb16 fun w18 hx _ => ?_)
    refine eqSt (by kernel_rfl) (ApiBallot.eqv ⟨nextR b n, n⟩ ⟨nextR b n, n⟩) (ifB_t (ApiBallot.eqs_iff.2 rfl) ?_)
    refine ifEq (fun _ => ?_) (fun h => absurd rfl h)
    refine ref10_Less_calls (a := b) (b := ⟨nextR b n, n⟩) (ref10_Less_spec fun t20 w21 h20 hx' => kp_ext hx' (kp_ext hx' (kp_ext hx' (kp_ext hx' ?_))))
    have hx := hx.trans' hx'
    refine ifB_t (h20.2 f2) (ifEq (fun _ => ?_) (fun h => absurd rfl h))
    refine ifEq (fun _ => ?_) (fun hne => ?_)
    · exact awake hx fun v hx hx' => kp_ext hx' (kp_ext hx' (kp_ext hx' (kp_ext hx' (hK _ hx))))
    · have e : i64 (nextR b n - 1) = nextR b n - 1 := i64_id (by omega) (by omega)
      rw [e]
      refine ref10_Less_calls (a := b) (b := ⟨nextR b n - 1, n⟩) (ref10_Less_spec fun t24 w25 h24 hx' => kp_ext hx' (kp_ext hx' (kp_ext hx' (kp_ext hx' ?_))))
      have hx := hx.trans' hx'
      refine ifNot (ifB_of (fun h => ?_) (fun _ => ?_))
      · rcases f3 with f3 | f3
        · exact absurd f3 hne
        · exact absurd (h24.1 h) f3
      · exact awake hx fun v hx hx' => kp_ext hx' (kp_ext hx' (kp_ext hx' (kp_ext hx' (hK _ hx))))
  · rcases hy with ⟨h, _⟩ | ⟨_, rfl, hno⟩
    · exact absurd h (by decide)
    rcases hxe with ⟨_, _, h⟩ | ⟨rfl, rfl, _⟩
    · exact absurd h hno
    refine ifB_t rfl (eqSt (by kernel_rfl) (ApiBallot.eqv zBallot zBallot) (ifB_t (ApiBallot.eqs_iff.2 rfl) ?_))
    refine ifEq (fun _ => ?_) (fun h => absurd rfl h)
    exact awake hx fun v hx hx' => kp_ext hx' (kp_ext hx' (kp_ext hx' (hK _ hx)))
theorem law10_BallotMax_spec {s : Sl} {l : List ApiBallot} {K : Bool → World → Prop} (ht : ConvT w) (hs : IsSl eApiBallot w s l) (hK : ∀ w', Ext w w' → K true w') : law10_BallotMax s K w := by
  unfold law10_BallotMax
  have hl := hs.len
  refine ifD (fun _ => law10_awake_calls (law10_awake_spec ht hK)) (fun h200 => ?_)
  refine ballot_Max_calls (ballot_Max_spec hs fun m w4 hm hx => ?_)
  refine new_x hx fun b5 w6 hb5 _ hx _ => wr_x hx hb5 fun w7 hx _ => ?_
  have awake : ∀ {u : World}, Ext w u → callV Pr Value.bool fid_law10_awake #[] u fun t9 w10 => kp b5 u w10 <| K t9 w10 := fun hx => law10_awake_calls (law10_awake_spec (ht.ext hx) fun v hx' => kp_ext hx' (hK _ (hx.trans' hx')))
  refine ifEq (fun h0 => ?_) (fun h0 => ?_)
  · have : l = [] := List.length_eq_zero_iff.1 (by omega)
    obtain rfl := hm.1 this
    exact eqSt (by kernel_rfl) (ApiBallot.eqv zBallot zBallot) (ifB_t (ApiBallot.eqs_iff.2 rfl) (awake hx))
  have hmem := hm.2.1 (fun h => by subst h; simp at hl; omega)
  refine up2b (fun k sm w' => Ext w w' ∧ (sm = true ↔ m ∈ l.take k)) 0 l.length rfl (by omega) (by omega) ⟨hx, by simp⟩ ?_
  rintro k sm w14 C _ hk ⟨hx, hsm⟩ hC
  refine ifD (fun hlt => ?_) (fun hge => ?_)
  · have hk1 : k < l.length := by omega
    refine drew_of fun w15 hx' => ?_
    have hx := hx.trans' hx'
    have hn : ¬ BLess m l[k] := hm.2.2 _ (List.getElem_mem hk1)
    have ask : ∀ {u : World} {sm' : Bool}, Ext w u → (sm' = true ↔ m ∈ l.take (k + 1)) → callV Pr Value.bool fid_ref10_Less #[(.agg ⟨[(.int .i64 m.Round), (.int .i64 m.Node)]⟩), (.agg ⟨l[k].cs⟩)] u fun t20 w21 => kp b5 u w21 <| IsSl eApiBallot w21 s l ∧
        (ifB t20 (K false w21) (C sm' (i64 ((k : Int) + 1)) w21)) := fun hx hs' => ref10_Less_calls (a := m) (b := l[k]) (ref10_Less_spec fun t20 w21 h20 hx' => kp_ext hx' ⟨hs.ext (hx.trans' hx'), ifB_of (fun h => absurd (h20.1 h) hn) (fun _ => hC hk1 _ _ _ rfl ⟨hx.trans' hx', hs'⟩)⟩)
    refine ifB_of (fun h => ?_) (fun h => ?_)
    · refine heldM_of (fun w' => IsSl eApiBallot w' s l) fun w16 hx' => ⟨hs.ext (hx.trans' hx'), ?_⟩
      refine stH (E := eApiBallot) (val := ApiBallot.val) (by kernel_rfl) (by kernel_rfl) (fun w' h => h) rfl hk1 (fun _ => rfl) fun _ => ?_
      exact ask (hx.trans' hx') ⟨fun _ => by rw [take_up hk1]; exact List.mem_append_left _ (hsm.1 h), fun _ => rfl⟩
    · refine st_rd (val := ApiBallot.val) (by kernel_rfl) (by kernel_rfl) (hs.ext hx) rfl hk1 (fun _ => rfl) fun _ => ?_
      refine eqSt (by kernel_rfl) (ApiBallot.eqv l[k] m) ?_
      refine heldM_of (fun w' => IsSl eApiBallot w' s l) fun w16 hx' => ⟨hs.ext (hx.trans' hx'), ?_⟩
      refine stH (E := eApiBallot) (val := ApiBallot.val) (by kernel_rfl) (by kernel_rfl) (fun w' h => h) rfl hk1 (fun _ => rfl) fun _ => ?_
      refine ask (hx.trans' hx') ?_
      have hno : m ∉ l.take k := fun h' => by rw [hsm.2 h'] at h; cases h
      rw [ApiBallot.eqs_iff, take_up hk1, List.mem_append, List.mem_singleton]
      exact ⟨fun e => .inr e.symm, fun h => h.elim (fun h => absurd h hno) (fun h => h.symm)⟩
  · have hd : ¬ k < l.length := by omega
    rw [take_done hd] at hsm
    exact ifB_t (hsm.2 hmem) (awake hx)
end Go.Chg
