/-
  The document's answer for lines, and the law of chapter 42 about them.
-/
import Derived.Test.YtnnoalpkldpjfaaGreatDoorSpScr3
set_option maxRecDepth 20000
set_option linter.unusedVariables false
namespace Go.Chg
open Go.Vc
open Go.RowKit (Below)
variable {w : World} {s l line : List UInt8} {e x : ApiEvent} {n : Int} {c : ApiCmd}
/-! ### Letters -/
def evLets : List (List UInt8) := [[], [110, 105], [110, 105, 109], [105], [105], [105], [110], [110], [110], [110, 99], [110, 105], [110, 97]]
def lEv (n : Int) : List UInt8 := if 1 ≤ n ∧ n ≤ 11 then evLets.getD n.toNat [] else []
theorem lEv_bits (n : Int) : (lEv n).contains 110 = kNd n ∧ (lEv n).contains 105 = kNn n ∧ (lEv n).contains 109 = kMm n ∧ (lEv n).contains 99 = kCl n ∧ (lEv n).contains 97 = kAd n ∧ (lEv n).length ≤ 3 ∧ (lEv n = [] ↔ ¬ (1 ≤ n ∧ n ≤ 11)) := by
  by_cases h : 1 ≤ n ∧ n ≤ 11
  · obtain ⟨m, rfl⟩ := Int.eq_ofNat_of_zero_le (show 0 ≤ n by omega)
    have key : ∀ m : Fin 12, 1 ≤ m.val → (evLets.getD m.val []).contains 110 = kNd (m.val : Int) ∧ (evLets.getD m.val []).contains 105 = kNn (m.val : Int) ∧ (evLets.getD m.val []).contains 109 = kMm (m.val : Int) ∧ (evLets.getD m.val []).contains 99 = kCl (m.val : Int) ∧
        (evLets.getD m.val []).contains 97 = kAd (m.val : Int) ∧ (evLets.getD m.val []).length ≤ 3 ∧ evLets.getD m.val [] ≠ [] := by decide +kernel
    obtain ⟨a, b, c, d, f, g, i⟩ := key ⟨m, by omega⟩ (by show 1 ≤ m; omega)
    unfold lEv
    rw [if_pos h, Int.toNat_natCast]
    exact ⟨a, b, c, d, f, g, fun h' => absurd h' i, fun h' => absurd h h'⟩
  · have e0 : lEv n = [] := if_neg h
    have a : kNd n = false := by unfold kNd; simp; omega
    have b : kNn n = false := by unfold kNn; simp; omega
    have c : kMm n = false := by unfold kMm; simp; omega
    have d : kCl n = false := by unfold kCl; simp; omega
    have f : kAd n = false := by unfold kAd; simp; omega
    rw [e0, a, b, c, d, f]
    exact ⟨rfl, rfl, rfl, rfl, rfl, Nat.zero_le _, fun _ => h, fun _ => rfl⟩
theorem ref42_has_spec {cc : UInt8} {K : Bool → World → Prop} (hl : l.length ≤ 1000) (hK : K (l.contains cc) w) : ref42_has l (cc.toNat : Int) K w := by
  unfold ref42_has
  refine up1 (fun k w' => w = w' ∧ (l.take k).contains cc = false) 0 l.length rfl (Nat.zero_le _) (by omega) ⟨rfl, by simp⟩ ?_
  rintro k _ C _ hk ⟨rfl, hno⟩ hC
  refine ifD (fun hlt => ?_) (fun hge => ?_)
  · have hk1 : k < l.length := by omega
    refine idx_str k (by kernel_rfl) rfl hk1 ?_
    have hsplit : l = l.take k ++ l[k] :: l.drop (k + 1) := by rw [List.getElem_cons_drop, List.take_append_drop]
    refine ifEq (fun h => ?_) (fun h => hC hk1 _ _ rfl ⟨rfl, ?_⟩)
    · have h2 : l[k] = cc := UInt8.toNat.inj (by omega)
      have : l.contains cc = true := by
        rw [List.contains_iff_mem]
        exact h2 ▸ List.getElem_mem hk1
      rw [this] at hK
      exact hK
    · rw [List.take_add_one, List.getElem?_eq_getElem hk1]
      simp only [Option.toList_some, List.contains_eq_any_beq, List.any_append, List.any_cons, List.any_nil, Bool.or_false] at hno ⊢
      rw [hno, Bool.false_or, beq_eq_false_iff_ne]
      exact fun h' => h (by rw [← h'])
  · rw [List.take_of_length_le (by omega)] at hno
    rw [hno] at hK
    exact hK
theorem ref42_number_spec {b : Bool} {lo hi : Int} {K : Bool → World → Prop} (hK : ∀ t, (t = true ↔ nOk b n lo hi) → K t w) : ref42_number b n lo hi K w := by
  unfold ref42_number
  refine ifNot (ifB_of (fun h => ?_) (fun h => ?_))
  · refine ifD (fun h1 => hK _ ?_) (fun h1 => hK _ ?_)
    · rw [decide_eq_true_iff, nOk, if_pos h]
      exact ⟨fun h2 => ⟨by omega, h2⟩, fun h2 => h2.2⟩
    · rw [nOk, if_pos h]
      exact ⟨fun h => (by cases h), fun h2 => absurd h2.1 (by omega)⟩
  · refine hK _ ?_
    rw [nOk, if_neg (by rw [h]; decide), beq_iff_eq]
theorem ref42_Letters_spec {K : List UInt8 × List UInt8 → World → Prop} (hK : ∀ w', Ext w w' → K (lEv n, (kEv n).name) w') : ref42_Letters n K w := by
  unfold ref42_Letters
  refine lit_ty 16 (E := eS) (xs := evLets) w.heap.size (by kernel_rfl) rfl (by decide) (fun w => by kernel_rfl) (Nat.le_refl _) fun t1 w2 _ ht1 hx2 => ?_
  refine lit_ty 16 (E := eS) (xs := evKinds.map (·.name)) w2.heap.size (by kernel_rfl) rfl (by decide) (fun w => by kernel_rfl) (Nat.le_refl _) fun t3 w4 _ ht3 hx4 => ?_
  have hx := hx2.trans' hx4
  have out : ¬ (1 ≤ n ∧ n ≤ 11) → K ([], []) w4 := fun h => by
    have := hK w4 hx
    unfold lEv at this
    rwa [kEv_out h, if_neg h] at this
  refine ifD (fun h1 => out (by omega)) (fun h1 => ?_)
  refine ifD (fun h2 => out (by omega)) (fun h2 => ?_)
  refine drew_of fun w5 hx5 => ?_
  obtain ⟨m, rfl⟩ := Int.eq_ofNat_of_zero_le (show 0 ≤ n by omega)
  have k1 : m < evLets.length := by show m < 12; omega
  have k2 : m < (evKinds.map (·.name)).length := by show m < 12; omega
  have hx := hx.trans' hx5
  have := hK w5 hx
  have e1 : lEv (m : Int) = evLets[m] := by
    unfold lEv
    rw [if_pos (by omega), Int.toNat_natCast, List.getD_eq_getElem?_getD, List.getElem?_eq_getElem k1]
    rfl
  have e2 : (kEv (m : Int)).name = (evKinds.map (·.name))[m] := by
    have key : ∀ j : Fin 12, (evKinds.map (·.name))[j.val]? = some (evAt j.val).name := by decide +kernel
    have := key ⟨m, by omega⟩
    rw [List.getElem?_eq_getElem k2] at this
    rw [kEv_in (by omega) (by omega)]
    exact (Option.some.inj this).symm
  refine el_rd (E := eS) (k := m) (y := lEv (m : Int)) (by kernel_rfl) (by kernel_rfl) (ht1.is.ext (hx4.trans' hx5)) rfl k1 (by rw [e1]; rfl) fun _ => ?_
  exact el_rd (E := eS) (k := m) (y := (kEv (m : Int)).name) (by kernel_rfl) (by kernel_rfl) (ht3.is.ext hx5) rfl k2 (by rw [e2]; rfl) fun _ => this
theorem ref42_Check_spec {K : Bool → World → Prop} (hK : ∀ t w', (t = true ↔ EvOk e) → Ext w w' → K t w') : ref42_Check e K w := by
  unfold ref42_Check
  obtain ⟨b1, b2, b3, b4, b5, bl, b0⟩ := lEv_bits e.Kind
  have bl : (lEv e.Kind).length ≤ 1000 := by omega
  have no : ∀ {v : World}, Ext w v → ¬ EvOk e → K false v := fun hx h => hK _ _ ⟨fun e => (by cases e), fun h' => absurd h' h⟩ hx
  refine new_x (Ext.rfl' w) fun b1' w2 _ _ hx _ => ?_
  refine ref42_Letters_calls (ref42_Letters_spec fun w4 hx' => kp_ext hx' ?_)
  have hx := hx.trans' hx'
  refine held_x fun w5 hx' => ?_
  have hx := hx.trans' hx'
  rw [strEq_eq]
  refine ifD (fun h => no hx fun h' => (b0.1 h) h'.1) (fun hin => ?_)
  have hin : 1 ≤ e.Kind ∧ e.Kind ≤ 11 := Classical.byContradiction fun h => hin (b0.2 h)
  refine ref42_has_calls (c := 110) (ref42_has_spec (cc := 110) bl (kp_same ⟨trivial, ?_⟩))
  refine ref42_number_calls (ref42_number_spec fun t ht => kp_same ⟨trivial, ifNot (ifB_of (fun t1 => ?_) (fun t1 => no hx fun h => by rw [b1] at ht; rw [ht.2 h.2.1] at t1; cases t1))⟩)
  rw [b1] at ht
  have g1 := ht.1 t1
  refine ref42_has_calls (c := 105) (ref42_has_spec (cc := 105) bl (kp_same ⟨trivial, ?_⟩))
  refine ref42_number_calls (ref42_number_spec fun t ht => kp_same ⟨trivial, ifNot (ifB_of (fun t1 => ?_) (fun t1 => no hx fun h => by rw [b2] at ht; rw [ht.2 h.2.2.1] at t1; cases t1))⟩)
  rw [b2] at ht
  have g2 := ht.1 t1
  refine ref42_has_calls (c := 109) (ref42_has_spec (cc := 109) bl (kp_same ⟨trivial, ?_⟩))
  refine ref42_number_calls (ref42_number_spec fun t ht => kp_same ⟨trivial, ifNot (ifB_of (fun t1 => ?_) (fun t1 => no hx fun h => by rw [b3] at ht; rw [ht.2 h.2.2.2.1] at t1; cases t1))⟩)
  rw [b3] at ht
  have g3 := ht.1 t1
  have fin : ∀ {t : Bool} {v : World}, Ext w v → (t = true ↔ cOk e) → K t v := fun hx h => hK _ _ (h.trans ⟨fun h => ⟨hin, g1, g2, g3, h⟩, fun h => h.2.2.2.2⟩) hx
  refine new_x hx fun b19 w20 hb19 _ hx _ => wr_x hx hb19 fun w21 hx _ => ?_
  refine ref42_has_calls (c := 99) (ref42_has_spec (cc := 99) bl (kp_same (kp_same ?_)))
  rw [b4]
  refine ifB_of (fun hc => ?_) (fun hc => ?_)
  · have eq : cOk e ↔ e.Cmd.Seq = 0 ∧ kOwn e.Cmd.Kind = true ∧ CmdOk (seq1 e.Cmd) := by unfold cOk; rw [if_pos hc]
    refine wr_x hx hb19 fun w24 hx _ => ?_
    refine ifEq (fun h0 => ?_) (fun h0 => fin hx ⟨fun h => (by cases h), fun h => absurd (eq.1 h).1 h0⟩)
    refine ref08_Owned_calls (ref08_Owned_spec (kp_same (kp_same (ifB_of (fun ho => ?_) (fun ho => fin hx ⟨fun h => (by cases h), fun h => by rw [(eq.1 h).2.1] at ho; cases ho⟩)))))
    refine ref08_Check_calls (c := seq1 e.Cmd) (ref08_Check_spec fun f w8 hf hx' => kp_ext hx' (kp_ext hx' (fin (hx.trans' hx') ?_)))
    rw [beq_iff_eq, hf.ok, eq]
    exact ⟨fun h => ⟨h0, ho, h⟩, fun h => h.2.2⟩
  refine ref42_has_calls (c := 97) (ref42_has_spec (cc := 97) bl (kp_same (kp_same ?_)))
  rw [b5]
  refine ifB_of (fun ha => ?_) (fun ha => ?_)
  · have eq : cOk e ↔ kOwn e.Cmd.Kind = false ∧ CmdOk e.Cmd := by unfold cOk; rw [if_neg (by rw [hc]; decide), if_pos ha]
    refine ref08_Owned_calls (ref08_Owned_spec (kp_same (kp_same (ifNot (ifB_of (fun ho => fin hx ⟨fun h => (by cases h), fun h => by rw [(eq.1 h).1] at ho; cases ho⟩) (fun ho => ?_))))))
    refine ref08_Check_calls (c := e.Cmd) (ref08_Check_spec fun f w8 hf hx' => kp_ext hx' (kp_ext hx' (fin (hx.trans' hx') ?_)))
    rw [beq_iff_eq, hf.ok, eq]
    exact ⟨fun h => ⟨ho, h⟩, fun h => h.2⟩
  · have eq : cOk e ↔ e.Cmd = zCmd := by unfold cOk; rw [if_neg (by rw [hc]; decide), if_neg (by rw [ha]; decide)]
    refine eqSt (by kernel_rfl) (ApiCmd.eqv e.Cmd zCmd) (fin hx ?_)
    rw [ApiCmd.eqs_iff, eq]
/-! ### The line, part by part -/
theorem join_sp (x : List UInt8) : ∀ ys : List (List UInt8), joinL [32] (x :: ys) = x ++ ys.flatMap sp
  | [] => by simp [joinL]
  | y :: ys => by rw [joinL_cons, join_sp y ys]; simp [sp]
def spIf (b : Bool) (x : List UInt8) : List UInt8 := if b = true then sp x else []
theorem spIf_num (b : Bool) (n : Int) : (numW b n).flatMap sp = spIf b (digits 10 n.toNat) := by
  unfold numW spIf
  cases b <;> simp
def callT (c : ApiCmd) : List UInt8 := sp (kname c.Kind) ++ sp (digits 10 c.Client.toNat) ++ sp (quote c.Key) ++ spIf (kOld c.Kind) (quote c.Old) ++ spIf (kVal c.Kind) (quote c.Val)
theorem calW_sp (h : kOwn c.Kind = true) : (calW c).flatMap sp = callT c := by
  have hn : kNode c.Kind = false := by
    unfold kOwn at h
    unfold kNode
    simp at h ⊢
    omega
  unfold calW callT spIf
  simp only [wordsT, need, seq1, wordI, numI, txtI, h, hn]
  cases kOld c.Kind <;> cases kVal c.Kind <;> simp
theorem lineE_parts (h : EvOk e) : lineE e = (kEv e.Kind).name ++ spIf (kNd e.Kind) (digits 10 e.Node.toNat) ++ spIf (kNn e.Kind) (digits 10 e.N.toNat) ++ spIf (kMm e.Kind) (digits 10 e.M.toNat) ++ spIf (kAd e.Kind) (textC e.Cmd) ++
    (if kCl e.Kind = true then callT e.Cmd else []) := by
  obtain ⟨hin, g1, g2, g3, g4⟩ := h
  have dis : kCl e.Kind = true → kAd e.Kind = false := fun h => by
    unfold kCl at h
    unfold kAd
    simp at h ⊢
    omega
  unfold cOk at g4
  unfold lineE wordsE numsW cmdW
  rw [join_sp]
  simp only [List.flatMap_append, spIf_num]
  by_cases hc : kCl e.Kind = true
  · rw [if_pos hc] at g4
    rw [if_pos hc, if_pos hc, calW_sp g4.2.1, dis hc]
    simp [spIf]
  · rw [if_neg hc, if_neg hc]
    by_cases ha : kAd e.Kind = true
    · rw [if_pos ha, ha]
      have : (wordsT e.Cmd 6).flatMap sp = sp (textC e.Cmd) := by
        obtain ⟨t, ht⟩ := wordsT_pre e.Cmd 0 6
        rw [Nat.zero_add, wordsT] at ht
        unfold textC
        rw [ht, List.singleton_append, join_sp]
        simp [sp]
      rw [this]
      simp [spIf]
    · have ha : kAd e.Kind = false := by simpa using ha
      rw [ha]
      simp [spIf]
theorem spIf_len (b : Bool) (x : List UInt8) : (spIf b x).length ≤ x.length + 1 := by
  unfold spIf sp
  cases b <;> simp
theorem kEv_len (n : Int) : (kEv n).name.length ≤ 10 := by
  by_cases h : 1 ≤ n ∧ n ≤ 11
  · obtain ⟨m, rfl⟩ := Int.eq_ofNat_of_zero_le (show 0 ≤ n by omega)
    have key : ∀ m : Fin 12, (evAt m.val).name.length ≤ 10 := by decide +kernel
    rw [kEv_in (by omega) (by omega)]
    exact key ⟨m, by omega⟩
  · rw [kEv_out h]
    exact Nat.zero_le _
theorem nOk_b {b : Bool} {m lo hi : Int} (h : nOk b m lo hi) (h1 : 0 ≤ lo) (h2 : hi ≤ 4294967296) : 0 ≤ m ∧ m ≤ 4294967296 := by
  unfold nOk at h
  split at h <;> omega
def verbs6 : List (List UInt8) := [[], [], [112, 117, 116], [103, 101, 116], [100, 101, 108], [99, 97, 115]]
theorem ref42_Print_spec {K : List UInt8 → World → Prop} (hok : EvOk e) (hK : ∀ w', Ext w w' → K (lineE e) w') : ref42_Print e K w := by
  unfold ref42_Print
  rw [lineE_parts hok] at hK
  obtain ⟨hin, g1, g2, g3, g4⟩ := hok
  obtain ⟨b1, b2, b3, b4, b5, bl, b0⟩ := lEv_bits e.Kind
  have bl : (lEv e.Kind).length ≤ 1000 := by omega
  have num : ∀ {n : Int} {u : World} {X : List UInt8 → World → Prop}, 0 ≤ n → n ≤ 4294967296 → X (digits 10 n.toNat) u → callV Pr sval fid_ref08_Digits #[.int .i64 n] u X := fun {n u X} h0 h1 hX => by
    obtain ⟨m, rfl⟩ : ∃ m : Nat, n = (m : Int) := ⟨n.toNat, by omega⟩
    rw [Int.toNat_natCast] at hX
    exact ref08_Digits_calls (ref08_Digits_spec (by omega) hX)
  have dl : ∀ {m lo hi : Int} {b : Bool}, nOk b m lo hi → 0 ≤ lo → hi ≤ 4294967296 → (spIf b (digits 10 m.toNat)).length ≤ 101 := fun {m lo hi b} h h1 h2 => by
    have := spIf_len b (digits 10 m.toNat)
    have h3 := nOk_b h h1 h2
    have := digits_len (n := m.toNat) (by omega)
    omega
  have l1 := dl g1 (by decide) (by decide)
  have l2 := dl g2 (by decide) (by decide)
  have l3 := dl g3 (by decide) (by decide)
  have l0 := kEv_len e.Kind
  have stage : ∀ {cc : UInt8} {b : Bool} {m lo hi : Int} {y : List UInt8} {u : World} {J : List UInt8 → World → Prop} {b1 : Nat} {t1 t2 : TypeId} {o1 o2 o3 o4 : Operand}, (lEv e.Kind).contains cc = b → nOk b m lo hi → 0 ≤ lo → hi ≤ 4294967296 → y.length ≤ 1000 → J (y ++ spIf b (digits 10 m.toNat)) u →
      callV Pr Value.bool fid_ref42_has #[sval (lEv e.Kind), .int .u8 (cc.toNat : Int)] u (fun t6 w7 => kp b1 u w7 <| ifB t6 (opRd Pr (binSem .add t1 o1 o2 (sval y) (sval [32])) sval (fun t8 => callV Pr sval fid_ref08_Digits #[.int .i64 m] w7 fun t9 w10 => kp b1 w7 w10 <|
        opRd Pr (binSem .add t2 o3 o4 (sval t8) (sval t9)) sval (fun s11 => J s11 w10) w10) w7) (J y w7)) := fun {cc b m lo hi y u J b1 t1 t2 o1 o2 o3 o4} hb hn h1 h2 hy hJ => by
    refine ref42_has_calls (ref42_has_spec bl (kp_same ?_))
    rw [hb]
    refine ifB_of (fun ht => ?_) (fun ht => by rw [ht] at hJ; simpa [spIf] using hJ)
    have h3 := nOk_b hn h1 h2
    have := digits_len (n := m.toNat) (by omega)
    refine cat_str (by simp only [List.length_singleton]; omega) ?_
    refine num h3.1 h3.2 (kp_same ?_)
    refine cat_str (by simp only [List.length_append, List.length_singleton]; omega) ?_
    rw [ht] at hJ
    simpa [spIf, sp] using hJ
  refine new_x (Ext.rfl' w) fun b1' w2 _ _ hx _ => ?_
  refine ref42_Letters_calls (ref42_Letters_spec fun w4 hx' => kp_ext hx' ?_)
  have hx := hx.trans' hx'
  refine ⟨fun y u => Ext w u ∧ y = (kEv e.Kind).name ++ spIf (kNd e.Kind) (digits 10 e.Node.toNat), stage (cc := 110) b1 g1 (by decide) (by decide) (by show (kEv e.Kind).name.length ≤ 1000; omega) ⟨hx, rfl⟩, ?_⟩
  rintro y1 u ⟨hx, hy1⟩
  have m1 : y1.length ≤ 111 := by rw [hy1, List.length_append]; omega
  refine ⟨fun y u => Ext w u ∧ y = y1 ++ spIf (kNn e.Kind) (digits 10 e.N.toNat), stage (cc := 105) b2 g2 (by decide) (by decide) (by omega) ⟨hx, rfl⟩, ?_⟩
  rintro y2 u ⟨hx, hy2⟩
  have m2 : y2.length ≤ 212 := by rw [hy2, List.length_append]; omega
  refine ⟨fun y u => Ext w u ∧ y = y2 ++ spIf (kMm e.Kind) (digits 10 e.M.toNat), stage (cc := 109) b3 g3 (by decide) (by decide) (by omega) ⟨hx, rfl⟩, ?_⟩
  rintro y3 u ⟨hx, hy3⟩
  have m3 : y3.length ≤ 313 := by rw [hy3, List.length_append]; omega
  rw [← hy1, ← hy2, ← hy3] at hK
  refine ⟨fun y u => Ext w u ∧ y = y3 ++ spIf (kAd e.Kind) (textC e.Cmd), ?_, ?_⟩
  · refine ref42_has_calls (c := 97) (ref42_has_spec (cc := 97) bl (kp_same ?_))
    rw [b5]
    refine ifB_of (fun ha => ?_) (fun ha => ⟨hx, by rw [ha]; simp [spIf]⟩)
    have hc : kCl e.Kind = false := by
      unfold kAd at ha
      unfold kCl
      simp at ha ⊢
      omega
    have okc : CmdOk e.Cmd := by
      unfold cOk at g4
      rw [if_neg (by rw [hc]; decide), if_pos ha] at g4
      exact g4.2
    have := textC_len okc
    refine cat_str (by simp only [List.length_singleton]; omega) ?_
    refine ref08_Text_calls (c := e.Cmd) (ref08_Text_spec okc fun w' hx' => kp_ext hx' ?_)
    refine cat_str (by simp only [List.length_append, List.length_singleton]; omega) ⟨hx.trans' hx', ?_⟩
    rw [ha]
    simp [spIf, sp]
  rintro y4 u ⟨hx, hy4⟩
  rw [← hy4] at hK
  refine ref42_has_calls (c := 99) (ref42_has_spec (cc := 99) bl (kp_same ?_))
  rw [b4]
  refine ifB_of (fun hc => ?_) (fun hc => by
    have := hK u hx
    rw [hc] at this
    simpa using this)
  have ha : kAd e.Kind = false := by
    unfold kCl at hc
    unfold kAd
    simp at hc ⊢
    omega
  rw [if_pos hc] at hK
  have m4 : y4.length ≤ 313 := by
    rw [hy4, ha]
    simpa [spIf] using m3
  unfold cOk at g4
  rw [if_pos hc] at g4
  obtain ⟨_, ho, okc⟩ := g4
  obtain ⟨⟨a1, a2⟩, _, _, d, f, g⟩ := cmdOk_num okc
  have hk25 : 2 ≤ e.Cmd.Kind ∧ e.Cmd.Kind ≤ 5 := by
    unfold kOwn at ho
    simpa using ho
  have q : ∀ {x : List UInt8}, x.length ≤ 48 → (quote x).length ≤ 200 := fun {x} h => by
    have := quoteL_len x
    have := quote_len x
    omega
  have qk := q (x := e.Cmd.Key) (by show (seq1 e.Cmd).Key.length ≤ 48; omega)
  have qo := q (x := e.Cmd.Old) g
  have qv := q (x := e.Cmd.Val) f
  have dc := digits_len (n := e.Cmd.Client.toNat) (by have : (seq1 e.Cmd).Client = e.Cmd.Client := rfl; omega)
  have kn := kname_len e.Cmd.Kind
  obtain ⟨kk, hkk⟩ := Int.eq_ofNat_of_zero_le (show 0 ≤ e.Cmd.Kind by omega)
  have hk6 : kk < verbs6.length := by show kk < 6; omega
  have hky : verbs6[kk] = kname e.Cmd.Kind := by
    have key : ∀ m : Fin 6, 2 ≤ m.val → verbs6[m.val]? = some (kname (m.val : Int)) := by decide +kernel
    have := key ⟨kk, by omega⟩ (by show 2 ≤ kk; omega)
    rw [List.getElem?_eq_getElem hk6] at this
    rw [hkk]
    exact Option.some.inj this
  have cat : ∀ {x y : List UInt8} {t : TypeId} {o1 o2 : Operand} {X : List UInt8 → Prop}, x.length ≤ 5000 → y.length ≤ 5000 → X (x ++ y) → opH Pr (fun _ => True) (binSem .add t o1 o2 (sval x) (sval y)) sval X := fun h1 h2 hX =>
    opH_of _ (fun w' _ => cat_str (by omega) rfl) hX
  have tail : ∀ {y : List UInt8} {u : World} {b43 b1 : Nat} {t1 t2 t3 t4 t5 t6 : TypeId} {o1 o2 o3 o4 o5 o6 o7 o8 o9 p1 p2 p3 : Operand}, Ext w u → y.length ≤ 1000 → (∀ w', Ext w w' → K (y ++ spIf (kOld e.Cmd.Kind) (quote e.Cmd.Old) ++ spIf (kVal e.Cmd.Kind) (quote e.Cmd.Val)) w') →
      join1 (fun (j : List UInt8 → World → Prop) => ifB (e.Cmd.Kind == 5) (opRd Pr (binSem .add t1 o1 o2 (sval y) (sval [32])) sval (fun t63 => callV Pr sval fid_ref06_Quote #[sval e.Cmd.Old] u fun t64 w65 => kp b43 u w65 <| kp b1 u w65 <|
          opRd Pr (binSem .add t2 o3 o4 (sval t63) (sval t64)) sval (fun s66 => j s66 w65) w65) u) (j y u))
        (fun s67 w68 => ifB (e.Cmd.Kind == 2) (opRd Pr (binSem .add t3 o5 o6 (sval s67) (sval [32])) sval (fun t69 => callV Pr sval fid_ref06_Quote #[sval e.Cmd.Val] w68 fun t70 w71 => kp b43 w68 w71 <| kp b1 w68 w71 <|
            opRd Pr (binSem .add t4 o7 o8 (sval t69) (sval t70)) sval (fun s72 => K s72 w71) w71) w68)
          (ifB (e.Cmd.Kind == 5) (opRd Pr (binSem .add t5 o9 p1 (sval s67) (sval [32])) sval (fun t73 => callV Pr sval fid_ref06_Quote #[sval e.Cmd.Val] w68 fun t74 w75 => kp b43 w68 w75 <| kp b1 w68 w75 <|
            opRd Pr (binSem .add t6 p2 p3 (sval t73) (sval t74)) sval (fun s76 => K s76 w75) w75) w68) (K s67 w68))) := fun {y u b43 b1 t1 t2 t3 t4 t5 t6 o1 o2 o3 o4 o5 o6 o7 o8 o9 p1 p2 p3} hx hy hK => by
    refine ⟨fun z v => Ext w v ∧ z = y ++ spIf (kOld e.Cmd.Kind) (quote e.Cmd.Old), ?_, ?_⟩
    · refine ifEq (fun h5 => ?_) (fun h5 => ⟨hx, by rw [show kOld e.Cmd.Kind = false from by unfold kOld; exact decide_eq_false h5]; simp [spIf]⟩)
      refine cat_str (by simp only [List.length_singleton]; omega) ?_
      refine ref06_Quote_calls (ref06_Quote_spec (by show (seq1 e.Cmd).Old.length ≤ _; omega) fun w29 hx' => kp_ext hx' (kp_ext hx' ?_))
      refine cat_str (by simp only [List.length_append, List.length_singleton]; omega) ⟨hx.trans' hx', ?_⟩
      rw [show kOld e.Cmd.Kind = true from by unfold kOld; exact decide_eq_true h5]
      simp [spIf, sp]
    rintro z v ⟨hx, hz⟩
    have hzl : z.length ≤ 1201 := by
      have := spIf_len (kOld e.Cmd.Kind) (quote e.Cmd.Old)
      rw [hz, List.length_append]
      omega
    rw [← hz] at hK
    have val : kVal e.Cmd.Kind = true → ∀ {t1 t2 : TypeId} {o1 o2 o3 o4 : Operand}, opRd Pr (binSem .add t1 o1 o2 (sval z) (sval [32])) sval (fun t69 => callV Pr sval fid_ref06_Quote #[sval e.Cmd.Val] v fun t70 w71 => kp b43 v w71 <| kp b1 v w71 <|
            opRd Pr (binSem .add t2 o3 o4 (sval t69) (sval t70)) sval (fun s72 => K s72 w71) w71) v := fun hv {t1 t2 o1 o2 o3 o4} => by
      refine cat_str (by simp only [List.length_singleton]; omega) ?_
      refine ref06_Quote_calls (ref06_Quote_spec (by show (seq1 e.Cmd).Val.length ≤ _; omega) fun w29 hx' => kp_ext hx' (kp_ext hx' ?_))
      refine cat_str (by simp only [List.length_append, List.length_singleton]; omega) ?_
      have := hK _ (hx.trans' hx')
      rw [hv] at this
      simpa [spIf, sp] using this
    refine ifEq (fun h2 => ?_) (fun h2 => ifEq (fun h5 => ?_) (fun h5 => ?_))
    · exact val (by unfold kVal; rw [decide_eq_true h2]; rfl)
    · exact val (by unfold kVal; rw [decide_eq_true h5, Bool.or_true])
    · have := hK v hx
      rw [show kVal e.Cmd.Kind = false from by unfold kVal; rw [decide_eq_false h2, decide_eq_false h5]; rfl] at this
      simpa [spIf] using this
  have lit : ∀ {v : World} {X : Sl → World → Prop}, (∀ t v', IsSl eS v' t verbs6 → Ext v v' → X t v') → opTy Pr (Instr.buildSlice tid_sStr 6 #[(0, (sval [])), (1, (sval [])), (2, (sval [112, 117, 116])), (3, (sval [103, 101, 116])), (4, (sval [100, 101, 108])), (5, (sval [99, 97, 115]))]) Sl.val X v := fun {v X} hX =>
    lit_ty 16 (E := eS) (xs := verbs6) v.heap.size (by kernel_rfl) rfl (by decide) (fun w => by kernel_rfl) (Nat.le_refl _) fun t v' _ ht hx => hX t v' ht.is hx
  have idx : ∀ {v : World} {t : Sl} {X : Addr → Prop}, IsSl eS v t verbs6 → ((∀ v', Ext v v' → ElAt eS v' (t.at kk 1) (kname e.Cmd.Kind)) → X (t.at kk 1)) → opH Pr (fun _ => True) (Instr.indexAt tid_sStr t.val (.int .i64 e.Cmd.Kind)) pav X := fun {v t X} hs hX => by
    have hel : ∀ v', Ext v v' → ElAt eS v' (t.at kk 1) (kname e.Cmd.Kind) := fun v' hx => by
      have := (ix_eq (P := Pr) (t := tid_sStr) (i := e.Cmd.Kind) (k := kk) (by kernel_rfl) (hs.ext hx) hkk hk6).2
      rwa [hky] at this
    obtain ⟨el, he, hn⟩ := slOf_spec (P := Pr) (t := tid_sStr) (n := 1) (by kernel_rfl)
    rcases hs.mem with h0 | ⟨b, o, hba, _, _⟩
    · cases h0
    · refine ⟨t.at kk 1, fun w' _ => ?_, hX hel⟩
      have e1 : t.at kk 1 = ⟨b, o + kk * 1, none⟩ := by simp [Sl.at, hba, addr_add]
      rw [e1]
      exact run_indexAt he hn hkk (by rw [hs.len]; exact hk6) hba
  have dg : ∀ {v : World} {X : List UInt8 → World → Prop}, X (digits 10 e.Cmd.Client.toNat) v → callV Pr sval fid_ref08_Digits #[.int .i64 e.Cmd.Client] v X := fun hX => num a1 (by have : (seq1 e.Cmd).Client = e.Cmd.Client := rfl; omega) hX
  have qq : ∀ {v : World} {X : List UInt8 → World → Prop}, (∀ v', Ext v v' → X (quote e.Cmd.Key) v') → callV Pr sval fid_ref06_Quote #[sval e.Cmd.Key] v X := fun hX => ref06_Quote_calls (ref06_Quote_spec (by show (seq1 e.Cmd).Key.length ≤ _; omega) hX)
  have fin : ∀ w', Ext w w' → K ((y4 ++ [32] ++ kname e.Cmd.Kind ++ [32] ++ digits 10 e.Cmd.Client.toNat ++ [32] ++ quote e.Cmd.Key) ++ spIf (kOld e.Cmd.Kind) (quote e.Cmd.Old) ++ spIf (kVal e.Cmd.Kind) (quote e.Cmd.Val)) w' := fun w' hx => by
    have := hK w' hx
    simpa [callT, sp] using this
  have yl : (y4 ++ [32] ++ kname e.Cmd.Kind ++ [32] ++ digits 10 e.Cmd.Client.toNat ++ [32] ++ quote e.Cmd.Key).length ≤ 1000 := by
    simp only [List.length_append, List.length_singleton]
    omega
  refine new_x hx fun b43 w44 hb43 _ hx _ => wr_x hx hb43 fun w45 hx _ => held_x fun w46 hx' => ?_
  have hx := hx.trans' hx'
  refine cat (by omega) (by decide) ⟨lit fun t v ht hx' => kp_ext hx' (kp_ext hx' ⟨trivial, idx ht fun hel => ⟨?_, ?_⟩⟩), dg (kp_same (kp_same ⟨trivial, ?_, ?_⟩))⟩
  · have hx := hx.trans' hx'
    refine ld_el0 (by kernel_rfl) (hel _ (Ext.rfl' _)) rfl ⟨trivial, ?_⟩
    refine cat (by simp only [List.length_append, List.length_singleton]; omega) (by omega) ?_
    refine cat (by simp only [List.length_append, List.length_singleton]; omega) (by decide) ?_
    refine dg (kp_same (kp_same ⟨trivial, ?_⟩))
    refine cat (by simp only [List.length_append, List.length_singleton]; omega) (by omega) ?_
    refine cat (by simp only [List.length_append, List.length_singleton]; omega) (by decide) ?_
    refine qq fun v' hx' => kp_ext hx' (kp_ext hx' ⟨trivial, ?_⟩)
    refine cat (by simp only [List.length_append, List.length_singleton]; omega) (by omega) ?_
    exact tail (hx.trans' hx') yl fin
  · have hx := hx.trans' hx'
    refine dg (kp_same (kp_same ⟨trivial, ?_, ?_⟩))
    · refine ld_el0 (by kernel_rfl) (hel _ (Ext.rfl' _)) rfl ⟨trivial, ?_⟩
      refine cat (by simp only [List.length_append, List.length_singleton]; omega) (by omega) ?_
      refine cat (by simp only [List.length_append, List.length_singleton]; omega) (by decide) ?_
      refine cat (by simp only [List.length_append, List.length_singleton]; omega) (by omega) ?_
      refine cat (by simp only [List.length_append, List.length_singleton]; omega) (by decide) ?_
      refine qq fun v' hx' => kp_ext hx' (kp_ext hx' ⟨trivial, ?_⟩)
      refine cat (by simp only [List.length_append, List.length_singleton]; omega) (by omega) ?_
      exact tail (hx.trans' hx') yl fin
    · refine qq fun v' hx' => kp_ext hx' (kp_ext hx' ⟨trivial, ?_⟩)
      refine ld_el0 (by kernel_rfl) (hel _ hx') rfl ⟨trivial, ?_⟩
      refine cat (by simp only [List.length_append, List.length_singleton]; omega) (by omega) ?_
      refine cat (by simp only [List.length_append, List.length_singleton]; omega) (by decide) ?_
      refine cat (by simp only [List.length_append, List.length_singleton]; omega) (by omega) ?_
      refine cat (by simp only [List.length_append, List.length_singleton]; omega) (by decide) ?_
      refine cat (by simp only [List.length_append, List.length_singleton]; omega) (by omega) ?_
      exact tail (hx.trans' hx') yl fin
  · refine lit fun t v ht hx' => kp_ext hx' (kp_ext hx' ⟨trivial, idx ht fun hel => ⟨?_, ?_⟩⟩)
    · have hx := hx.trans' hx'
      refine ld_el0 (by kernel_rfl) (hel _ (Ext.rfl' _)) rfl ⟨trivial, ?_⟩
      refine cat (by simp only [List.length_append, List.length_singleton]; omega) (by omega) ?_
      refine cat (by simp only [List.length_append, List.length_singleton]; omega) (by decide) ?_
      refine cat (by simp only [List.length_append, List.length_singleton]; omega) (by omega) ?_
      refine cat (by simp only [List.length_append, List.length_singleton]; omega) (by decide) ?_
      refine qq fun v' hx' => kp_ext hx' (kp_ext hx' ⟨trivial, ?_⟩)
      refine cat (by simp only [List.length_append, List.length_singleton]; omega) (by omega) ?_
      exact tail (hx.trans' hx') yl fin
    · have hx := hx.trans' hx'
      refine qq fun v' hx' => kp_ext hx' (kp_ext hx' ⟨trivial, ?_⟩)
      refine ld_el0 (by kernel_rfl) (hel _ hx') rfl ⟨trivial, ?_⟩
      refine cat (by simp only [List.length_append, List.length_singleton]; omega) (by omega) ?_
      refine cat (by simp only [List.length_append, List.length_singleton]; omega) (by decide) ?_
      refine cat (by simp only [List.length_append, List.length_singleton]; omega) (by omega) ?_
      refine cat (by simp only [List.length_append, List.length_singleton]; omega) (by decide) ?_
      refine cat (by simp only [List.length_append, List.length_singleton]; omega) (by omega) ?_
      exact tail (hx.trans' hx') yl fin
  · refine qq fun v' hx' => kp_ext hx' (kp_ext hx' ⟨trivial, ?_⟩)
    have hx := hx.trans' hx'
    refine lit fun t v ht hx' => kp_ext hx' (kp_ext hx' ⟨trivial, idx ht fun hel => ?_⟩)
    refine ld_el0 (by kernel_rfl) (hel _ (Ext.rfl' _)) rfl ⟨trivial, ?_⟩
    refine cat (by simp only [List.length_append, List.length_singleton]; omega) (by omega) ?_
    refine cat (by simp only [List.length_append, List.length_singleton]; omega) (by decide) ?_
    refine cat (by simp only [List.length_append, List.length_singleton]; omega) (by omega) ?_
    refine cat (by simp only [List.length_append, List.length_singleton]; omega) (by decide) ?_
    refine cat (by simp only [List.length_append, List.length_singleton]; omega) (by omega) ?_
    exact tail (hx.trans' hx') yl fin
/-! ### The law -/
theorem ref41_Large_spec {t : Sl} {xs : List ApiEvent} {K : Bool → World → Prop} (hs : IsSl eApiEvent w t xs) (hK : ∀ b, (b = false → xs.length ≤ 700 ∧ ∀ x ∈ xs, x.Cmd.Key.length ≤ 200 ∧ x.Cmd.Val.length ≤ 200 ∧ x.Cmd.Old.length ≤ 200) → K b w) : ref41_Large t K w := by
  unfold ref41_Large
  have hl := hs.len
  have hc := hs.cap
  have hm := hs.max
  have out : ∀ k, ¬ (k < xs.length ∧ k < 700) → (∀ x ∈ xs.take k, x.Cmd.Key.length ≤ 200 ∧ x.Cmd.Val.length ≤ 200 ∧ x.Cmd.Old.length ≤ 200) → K (decide ((t.len : Int) > 700)) w := fun k h hall => hK _ fun hf => by
    rw [decide_eq_false_iff_not] at hf
    have : xs.take k = xs := List.take_of_length_le (by omega)
    rw [this] at hall
    exact ⟨by omega, hall⟩
  refine up1 (fun k w' => w = w' ∧ ∀ x ∈ xs.take k, x.Cmd.Key.length ≤ 200 ∧ x.Cmd.Val.length ≤ 200 ∧ x.Cmd.Old.length ≤ 200) 0 xs.length rfl (Nat.zero_le _) (by omega) ⟨rfl, by simp⟩ ?_
  rintro k _ C _ hk ⟨rfl, hall⟩ hC
  refine ifD (fun hlt => ?_) (fun hge => out k (by omega) hall)
  refine ifD (fun hlt7 => ?_) (fun hge => out k (by omega) hall)
  have hk1 : k < xs.length := by omega
  refine fld_rd (off := 4 + 3) (val := sval) (y := xs[k].Cmd.Key) (by kernel_rfl) (by kernel_rfl) hs rfl hk1 rfl fun _ => ?_
  refine ifD (fun _ => hK _ fun h => by cases h) (fun h1 => ?_)
  refine fld_rd (off := 4 + 4) (val := sval) (y := xs[k].Cmd.Val) (by kernel_rfl) (by kernel_rfl) hs rfl hk1 rfl fun _ => ?_
  refine ifD (fun _ => hK _ fun h => by cases h) (fun h2 => ?_)
  refine fld_rd (off := 4 + 5) (val := sval) (y := xs[k].Cmd.Old) (by kernel_rfl) (by kernel_rfl) hs rfl hk1 rfl fun _ => ?_
  refine ifD (fun _ => hK _ fun h => by cases h) (fun h3 => hC hk1 _ _ rfl ⟨rfl, fun x hx => ?_⟩)
  rw [List.take_add_one, List.getElem?_eq_getElem hk1, List.mem_append] at hx
  rcases hx with hx | hx
  · exact hall x hx
  · simp only [Option.toList_some, List.mem_singleton] at hx
    subst hx
    exact ⟨by omega, by omega, by omega⟩
def exEv : ApiEvent := ⟨2, 3, 0, 7, zCmd⟩
theorem exEv_ok : EvOk exEv := ⟨by decide, by unfold nOk; decide, by unfold nOk; decide, by unfold nOk; decide, by unfold cOk; rw [if_neg (by decide), if_neg (by decide)]; rfl⟩
theorem exEv_line : lineE exEv = [99, 114, 97, 115, 104, 32, 51, 32, 48, 32, 55] := by
  have d1 : digits 10 3 = [51] := by decide +kernel
  have d2 : digits 10 0 = [48] := by decide +kernel
  have d3 : digits 10 7 = [55] := by decide +kernel
  rw [lineE_parts exEv_ok]
  show [99, 114, 97, 115, 104] ++ sp (digits 10 3) ++ sp (digits 10 0) ++ sp (digits 10 7) ++ [] ++ [] = _
  rw [d1, d2, d3]
  rfl
theorem law42_awake_spec {K : Bool → World → Prop} (hU : Utf8T w) (hc : ConvT w) (hE : ErrT w) (hK : ∀ w', Ext w w' → K true w') : law42_awake K w := by
  unfold law42_awake
  refine script_Parse_calls (script_Parse_spec hU hc hE (by decide) fun r w2 hr hx => ?_)
  have hr : r.1 = exEv ∧ r.2 = 0 := by
    rcases hr with ⟨_, _, h⟩ | ⟨h0, _, _, h⟩
    · exact absurd exEv_line (h _ exEv_ok)
    · exact ⟨h _ exEv_ok exEv_line, h0⟩
  rw [hr.1]
  refine new_x hx fun b3 w4 hb3 _ hx _ => wr_x hx hb3 fun w5 hx _ => ?_
  refine ifEq (fun _ => ?_) (fun h => absurd hr.2 h)
  refine ifEq (fun _ => ?_) (fun h => absurd rfl h)
  refine ifEq (fun _ => ?_) (fun h => absurd rfl h)
  refine script_Print_calls (e := exEv) (script_Print_spec (hU.ext hx) (hc.ext hx) fun t w7 ht hx' => kp_ext hx' ?_)
  rcases ht with ⟨_, rfl⟩ | ⟨h, _⟩
  · rw [exEv_line, strEq_eq]
    exact hK _ (hx.trans' hx')
  · exact absurd exEv_ok h
theorem lineE_len (h : EvOk e) : (lineE e).length ≤ 3000 := by
  rw [lineE_parts h]
  obtain ⟨hin, g1, g2, g3, g4⟩ := h
  have dl : ∀ {m lo hi : Int} {b : Bool}, nOk b m lo hi → 0 ≤ lo → hi ≤ 4294967296 → (spIf b (digits 10 m.toNat)).length ≤ 101 := fun {m lo hi b} h h1 h2 => by
    have := spIf_len b (digits 10 m.toNat)
    have h3 := nOk_b h h1 h2
    have := digits_len (n := m.toNat) (by omega)
    omega
  have l1 := dl g1 (by decide) (by decide)
  have l2 := dl g2 (by decide) (by decide)
  have l3 := dl g3 (by decide) (by decide)
  have l0 := kEv_len e.Kind
  have la : (spIf (kAd e.Kind) (textC e.Cmd)).length + (if kCl e.Kind = true then callT e.Cmd else []).length ≤ 2002 := by
    unfold cOk at g4
    by_cases hc : kCl e.Kind = true
    · have ha : kAd e.Kind = false := by
        unfold kCl at hc
        unfold kAd
        simp at hc ⊢
        omega
      rw [if_pos hc] at g4 ⊢
      obtain ⟨_, ho, okc⟩ := g4
      obtain ⟨⟨a1, a2⟩, _, _, d, f, g⟩ := cmdOk_num okc
      have q : ∀ {x : List UInt8}, x.length ≤ 48 → (quote x).length ≤ 200 := fun {x} h => by
        have := quoteL_len x
        have := quote_len x
        omega
      have qk := q (x := e.Cmd.Key) (by show (seq1 e.Cmd).Key.length ≤ 48; omega)
      have qo := q (x := e.Cmd.Old) g
      have qv := q (x := e.Cmd.Val) f
      have dc := digits_len (n := e.Cmd.Client.toNat) (by have : (seq1 e.Cmd).Client = e.Cmd.Client := rfl; omega)
      have kn := kname_len e.Cmd.Kind
      have s1 := spIf_len (kOld e.Cmd.Kind) (quote e.Cmd.Old)
      have s2 := spIf_len (kVal e.Cmd.Kind) (quote e.Cmd.Val)
      have s3 : (spIf (kAd e.Kind) (textC e.Cmd)).length = 0 := by rw [ha]; rfl
      rw [s3]
      unfold callT sp
      simp only [List.length_append, List.length_cons]
      omega
    · rw [if_neg hc] at g4 ⊢
      by_cases ha : kAd e.Kind = true
      · rw [if_pos ha] at g4
        have := textC_len g4.2
        have := spIf_len (kAd e.Kind) (textC e.Cmd)
        simp only [List.length_nil]
        omega
      · have ha : kAd e.Kind = false := by simpa using ha
        rw [ha]
        simp [spIf]
  simp only [List.length_append]
  omega
end Go.Chg
