/-
  Answers: check, encode, decode, text; the laws of chapter 9 about bytes.
-/
import Derived.Test.YtlapfdcocakloaaDoorMB
import Derived.Test.YtlapfdcocakloaaDoorSpRuneK
import Derived.Test.YtlapfdcocakloaaDoorSpItoa
import Derived.Test.YtlapfdcocakloaaDoorSpLine
import Derived.Test.YtlapfdcocakloaaDoorEqs
set_option maxRecDepth 20000
set_option linter.unusedVariables false
namespace Go.Chg
open Go.Vc
variable {w : World} {l : List UInt8} {v p no : Int} {a : ApiAnswer}
def ansE (a : ApiAnswer) : Int :=
  if (1 ≤ a.Client ∧ a.Client ≤ 8) ∧ (1 ≤ a.Seq ∧ a.Seq ≤ 4294967296) ∧ (0 ≤ a.Err ∧ a.Err ≤ 17) ∧ (0 ≤ a.Rev ∧ a.Rev ≤ 4294967296) then (if valOk a.Val = true then 0 else 7) else 6
theorem ansE_6 (h : ¬ ((1 ≤ a.Client ∧ a.Client ≤ 8) ∧ (1 ≤ a.Seq ∧ a.Seq ≤ 4294967296) ∧ (0 ≤ a.Err ∧ a.Err ≤ 17) ∧ (0 ≤ a.Rev ∧ a.Rev ≤ 4294967296))) : ansE a = 6 := if_neg h
theorem ansE_in (h : (1 ≤ a.Client ∧ a.Client ≤ 8) ∧ (1 ≤ a.Seq ∧ a.Seq ≤ 4294967296) ∧ (0 ≤ a.Err ∧ a.Err ≤ 17) ∧ (0 ≤ a.Rev ∧ a.Rev ≤ 4294967296)) : ansE a = if valOk a.Val = true then 0 else 7 := if_pos h
theorem ansE_0 (h : ansE a = 0) : ((1 ≤ a.Client ∧ a.Client ≤ 8) ∧ (1 ≤ a.Seq ∧ a.Seq ≤ 4294967296) ∧ (0 ≤ a.Err ∧ a.Err ≤ 17) ∧ (0 ≤ a.Rev ∧ a.Rev ≤ 4294967296)) ∧ valOk a.Val = true := by
  unfold ansE at h
  split at h
  · rename_i h1
    split at h
    · rename_i h2; exact ⟨h1, h2⟩
    · cases h
  · cases h
theorem ref09_Check_eq {K : Int → World → Prop} (hK : ∀ w', Ext w w' → K (ansE a) w') : ref09_Check a K w := by
  unfold ref09_Check
  refine new_x (Ext.rfl' w) fun b1 w1 _ _ hx1 _ => ?_
  have no : ¬ ((1 ≤ a.Client ∧ a.Client ≤ 8) ∧ (1 ≤ a.Seq ∧ a.Seq ≤ 4294967296) ∧ (0 ≤ a.Err ∧ a.Err ≤ 17) ∧ (0 ≤ a.Rev ∧ a.Rev ≤ 4294967296)) → K 6 w1 := fun h => by
    have := hK _ hx1
    rwa [ansE_6 h] at this
  refine ifD (fun h => no (by omega)) (fun h1 => ?_)
  refine ifD (fun h => no (by omega)) (fun h2 => ?_)
  refine ifD (fun h => no (by omega)) (fun h3 => ?_)
  refine ifD (fun h => no (by omega)) (fun h4 => ?_)
  refine ifD (fun h => no (by omega)) (fun h5 => ?_)
  refine ifD (fun h => no (by omega)) (fun h6 => ?_)
  refine ifD (fun h => no (by omega)) (fun h7 => ?_)
  refine ifD (fun h => no (by omega)) (fun h8 => ?_)
  have e := ansE_in (a := a) (by omega)
  refine ref05_Val_calls (ref05_Val_spec (kp_same ?_))
  have := hK _ hx1
  rw [e] at this
  refine ifNot (ifB_of (fun hv => ?_) (fun hv => ?_))
  · rwa [if_pos hv] at this
  · rwa [if_neg (by rw [hv]; decide)] at this
theorem within_spec {n lo hi : Int} {K : Bool → World → Prop} (hK : K (decide (lo ≤ n ∧ n ≤ hi)) w) : answer_Check_1 n lo hi K w := by
  unfold answer_Check_1
  refine ifD (fun h => ?_) (fun h => ?_)
  · rw [show decide (lo ≤ n ∧ n ≤ hi) = decide (n ≤ hi) from decide_eq_decide.2 ⟨fun h' => h'.2, fun h' => ⟨h, h'⟩⟩] at hK
    exact hK
  · rw [decide_eq_false (fun h' => h h'.1)] at hK
    exact hK
theorem answer_Check_eq {K : Int → World → Prop} (ht : Utf8T w) (hK : ∀ w', Ext w w' → K (ansE a) w') : answer_Check a K w := by
  unfold answer_Check
  refine new_x (Ext.rfl' w) fun b1 w1 _ _ hx1 _ => ?_
  have no : ¬ ((1 ≤ a.Client ∧ a.Client ≤ 8) ∧ (1 ≤ a.Seq ∧ a.Seq ≤ 4294967296) ∧ (0 ≤ a.Err ∧ a.Err ≤ 17) ∧ (0 ≤ a.Rev ∧ a.Rev ≤ 4294967296)) → K 6 w1 := fun h => by
    have := hK _ hx1
    rwa [ansE_6 h] at this
  refine answer_Check_1_calls (within_spec (kp_same ?_))
  refine ifD (fun h1 => ?_) (fun h1 => ifNot (ifB_f rfl (no fun h' => h1 h'.1)))
  refine answer_Check_1_calls (within_spec (kp_same ?_))
  refine ifD (fun h2 => ?_) (fun h2 => ifNot (ifB_f rfl (no fun h' => h2 h'.2.1)))
  refine answer_Check_1_calls (within_spec (kp_same ?_))
  refine ifD (fun h3 => ?_) (fun h3 => ifNot (ifB_f rfl (no fun h' => h3 h'.2.2.1)))
  refine answer_Check_1_calls (within_spec (kp_same ?_))
  refine ifNot (ifD (fun h4 => ?_) (fun h4 => no fun h' => h4 h'.2.2.2))
  have e := ansE_in (a := a) ⟨h1, h2, h3, h4⟩
  refine runes_Val_calls (runes_Val_spec (ht.ext hx1) fun w2 hx2 => kp_ext hx2 ?_)
  have := hK _ (hx1.trans' hx2)
  rw [e] at this
  refine ifNot (ifB_of (fun hv => ?_) (fun hv => ?_))
  · rwa [if_pos hv] at this
  · rwa [if_neg (by rw [hv]; decide)] at this
theorem vers_May_eq {K : Bool → World → Prop} (hK : ∀ b, (b = true ↔ v = 1 ∨ v = 2) → K b w) : vers_May v K w := by
  unfold vers_May
  refine ifEq (fun h => hK _ (by simp [h])) (fun h => ifEq (fun h2 => hK _ (by simp [h2])) (fun h2 => hK _ (by simp [h, h2])))
def wantA (v : Int) (a : ApiAnswer) : Int := if v < 1 ∨ v > 2 then 8 else if ansE a ≠ 0 then ansE a else if v = 1 ∧ a.Rev ≠ 0 then 8 else 0
theorem wantA_0 (h : wantA v a = 0) : (v = 1 ∨ v = 2) ∧ ansE a = 0 ∧ (v = 1 → a.Rev = 0) := by
  unfold wantA at h
  split at h
  · cases h
  · split at h
    · rename_i h1; exact absurd h h1
    · rename_i h1
      split at h
      · cases h
      · rename_i h2
        exact ⟨by omega, Classical.byContradiction h1, fun hv => Classical.byContradiction fun hr => h2 ⟨hv, hr⟩⟩
theorem ans_num (h : ansE a = 0) : AnsNum a ∧ a.Val.length ≤ 48 := by
  obtain ⟨⟨⟨a1, a2⟩, ⟨a3, a4⟩, ⟨a5, a6⟩, ⟨a7, a8⟩⟩, h2⟩ := ansE_0 h
  refine ⟨⟨by omega, by omega, by omega, by omega⟩, ?_⟩
  unfold valOk at h2
  simp only [Bool.and_eq_true, decide_eq_true_eq] at h2
  exact h2.1
theorem ans_fit (h : ansE a = 0) : AnsFit a := by
  obtain ⟨⟨⟨a1, a2⟩, ⟨a3, a4⟩, ⟨a5, a6⟩, ⟨a7, a8⟩⟩, h2⟩ := ansE_0 h
  have := (ans_num h).2
  exact ⟨⟨by omega, by omega⟩, ⟨by omega, by omega⟩, ⟨by omega, by omega⟩, ⟨by omega, by omega⟩, by omega⟩
theorem answer_Encode_spec {K : Sl × Int → World → Prop} (ht : Utf8T w) (hK : ∀ r w', (wantA v a ≠ 0 ∧ r = (Sl.nil, wantA v a) ∨ wantA v a = 0 ∧ r.2 = 0 ∧ OwnSl eB w' w.heap.size r.1 (ansB v a)) → Ext w w' → K r w') : answer_Encode v a K w := by
  unfold answer_Encode
  refine new_x (Ext.rfl' w) fun b1 w2 hb1 hl1 hx hn2 => ?_
  have bad : ∀ {n : Int} {w' : World}, n ≠ 0 → wantA v a = n → Ext w w' → K (Sl.nil, n) w' := fun hn h hx => hK _ _ (.inl ⟨by rw [h]; exact hn, by rw [h]⟩) hx
  refine vers_May_calls (vers_May_eq fun b hb => kp_same ?_)
  refine ifNot (ifB_of (fun hv => ?_) (fun hv => bad (by decide) (by unfold wantA; rw [if_pos (Classical.byContradiction fun h => by have := hb.2 (by omega); rw [hv] at this; cases this)]) hx))
  have hv := hb.1 hv
  refine answer_Check_calls (a := a) (answer_Check_eq (ht.ext hx) fun w6 hx' => kp_ext hx' ?_)
  have z6 := hx'.size
  have hx := hx.trans' hx'
  refine ifNe (fun he => bad he (by unfold wantA; rw [if_neg (by omega), if_pos he]) hx) (fun he => ?_)
  obtain ⟨hnum, h48⟩ := ans_num he
  refine ⟨fun w' => w6 = w' ∧ wantA v a = 0, ?_, ?_⟩
  · refine ifEq (fun h1 => ifNe (fun hr => bad (by decide) (by unfold wantA; rw [if_neg (by omega), if_neg (by omega), if_pos ⟨h1, hr⟩]) hx) (fun hr => ⟨rfl, ?_⟩)) (fun h1 => ⟨rfl, ?_⟩)
    · unfold wantA
      rw [if_neg (by omega), if_neg (by omega), if_neg (fun h => h.2 hr)]
    · unfold wantA
      rw [if_neg (by omega), if_neg (by omega), if_neg (fun h => h1 h.1)]
  rintro _ ⟨rfl, hw⟩
  refine box_ty fun c w10 ha hx' ho => kp_ext hx' ?_
  have hx := hx.trans' hx'
  have hne : some b1 ≠ some c.block := fun e => by cases e; omega
  refine answer_Put_calls (a := a) (answer_Put_spec (l := []) ⟨Sl.nil, .nilSl _ _, ho, fun e => by cases e⟩ hnum (by simp only [List.length_nil]; omega) fun w12 hw12 hg => kp_grown hg hne ?_)
  have hx := Ext.grown' hx hg (by omega)
  rw [List.nil_append] at hw12
  have hlen := ansB_len (v := v) hnum (by omega)
  refine pack_Writer_Bytes_calls (pack_Writer_Bytes_spec hw12 (by omega) fun s w14 hs hx' => kp_ext hx' (hK _ _ (.inr ⟨hw, rfl, hs.mono hx.size⟩) (hx.trans' hx')))
def zAns : ApiAnswer := ⟨0, 0, 0, false, [], 0⟩
def doneN (l : List UInt8) (p no : Int) : Int := if no ≠ 0 then no else if p < l.length then 3 else 0
def decA (v : Int) (l : List UInt8) : ApiAnswer × Int :=
  if v < 1 ∨ v > 2 then (zAns, 8) else
  if doneN l (rdAns l v 0 0).2.1 (rdAns l v 0 0).2.2 ≠ 0 then (zAns, doneN l (rdAns l v 0 0).2.1 (rdAns l v 0 0).2.2) else
  if ansE (rdAns l v 0 0).1 ≠ 0 then (zAns, ansE (rdAns l v 0 0).1) else ((rdAns l v 0 0).1, 0)
theorem decA_1 (hv : v = 1 ∨ v = 2) (h : doneN l (rdAns l v 0 0).2.1 (rdAns l v 0 0).2.2 ≠ 0) : decA v l = (zAns, doneN l (rdAns l v 0 0).2.1 (rdAns l v 0 0).2.2) := by
  unfold decA
  rw [if_neg (by omega), if_pos h]
theorem decA_2 (hv : v = 1 ∨ v = 2) (h : doneN l (rdAns l v 0 0).2.1 (rdAns l v 0 0).2.2 = 0) (h2 : ansE (rdAns l v 0 0).1 ≠ 0) : decA v l = (zAns, ansE (rdAns l v 0 0).1) := by
  unfold decA
  rw [if_neg (by omega), if_neg (by omega), if_pos h2]
theorem decA_3 (hv : v = 1 ∨ v = 2) (h : doneN l (rdAns l v 0 0).2.1 (rdAns l v 0 0).2.2 = 0) (h2 : ansE (rdAns l v 0 0).1 = 0) : decA v l = ((rdAns l v 0 0).1, 0) := by
  unfold decA
  rw [if_neg (by omega), if_neg (by omega), if_neg (by omega)]
theorem doneN_0 {p no : Int} (h : doneN l p no = 0) : no = 0 ∧ ¬ p < l.length := by
  unfold doneN at h
  split at h
  · rename_i h1; exact absurd h h1
  · rename_i h1
    split at h
    · cases h
    · rename_i h2; exact ⟨Classical.byContradiction h1, h2⟩
theorem decA_inv (h : (decA v l).2 = 0) : (v = 1 ∨ v = 2) ∧ ansE (decA v l).1 = 0 ∧ l = ansB v (decA v l).1 ∧ (v = 1 → (decA v l).1.Rev = 0) := by
  by_cases hv : v = 1 ∨ v = 2
  rotate_left
  · unfold decA at h
    rw [if_pos (by omega)] at h
    cases h
  by_cases h1 : doneN l (rdAns l v 0 0).2.1 (rdAns l v 0 0).2.2 = 0
  rotate_left
  · rw [decA_1 hv h1] at h; exact absurd h h1
  by_cases h2 : ansE (rdAns l v 0 0).1 = 0
  rotate_left
  · rw [decA_2 hv h1 h2] at h; exact absurd h h2
  rw [decA_3 hv h1 h2]
  obtain ⟨h3, h4⟩ := doneN_0 h1
  obtain ⟨_, t, hr⟩ := rdAns_inv h3
  exact ⟨hv, h2, t.whole h4, hr⟩
theorem decA_took (hv : v = 1 ∨ v = 2) (he : ansE a = 0) (hr : v = 1 → a.Rev = 0) : decA v (ansB v a) = (a, 0) := by
  have t := rdAns_took (Took.all (ansB v a)) (ans_fit he) hr
  have h1 : doneN (ansB v a) (rdAns (ansB v a) v 0 0).2.1 (rdAns (ansB v a) v 0 0).2.2 = 0 := by
    rw [t]
    unfold doneN
    rw [if_neg (fun h => h rfl), if_neg (Int.lt_irrefl _)]
  rw [decA_3 hv h1 (by rw [t]; exact he), t]
theorem decA_bad (h : (decA v l).2 ≠ 0) : (decA v l).1 = zAns := by
  by_cases hv : v = 1 ∨ v = 2
  rotate_left
  · unfold decA
    rw [if_pos (by omega)]
  by_cases h1 : doneN l (rdAns l v 0 0).2.1 (rdAns l v 0 0).2.2 = 0
  rotate_left
  · rw [decA_1 hv h1]
  by_cases h2 : ansE (rdAns l v 0 0).1 = 0
  rotate_left
  · rw [decA_2 hv h1 h2]
  rw [decA_3 hv h1 h2] at h
  exact absurd rfl h
theorem done_eq {c : Addr} {K : Int → World → Prop} (h : Rd w c l p no) (hK : ∀ w', Ext w w' → K (doneN l p no) w') : pack_Reader_Done (some c) K w := pack_Reader_Done_spec h hK
theorem answer_Decode_spec {s : Sl} {K : ApiAnswer × Int → World → Prop} (ht : Utf8T w) (hb : IsSl eB w s l) (hl : l.length ≤ 140737488355328) (hK : ∀ w', Ext w w' → K (decA v l) w') : answer_Decode v s K w := by
  unfold answer_Decode
  refine new_x (Ext.rfl' w) fun b1 w2 hb1 hl1 hx hn2 => ?_
  refine vers_May_calls (vers_May_eq fun b hbv => kp_same ?_)
  refine ifNot (ifB_of (fun hv => ?_) (fun hv => wr_x hx hb1 fun w5 hx _ => ?_))
  rotate_left
  · have := hK _ hx
    unfold decA at this
    rw [if_pos (Classical.byContradiction fun h => by have := hbv.2 (by omega); rw [hv] at this; cases this)] at this
    exact this
  have hv := hbv.1 hv
  refine pack_NewReader_calls (pack_NewReader_spec (hb.ext hx) hl fun c w7 ha hr hx7 => kp_ext hx7 ?_)
  have z2 := (Ext.new hn2).size
  have z7 := hx7.size
  have hx := hx.trans' hx7
  have c7 := hr.lt
  refine answer_Get_calls (answer_Get_spec hr hl fun w9 hr hg9 => kp_grown hg9 (fun e => by have := Option.some.inj e; omega) ?_)
  have hx := Ext.grown' hx hg9 (by omega)
  have z9 := hg9.size
  refine new_x hx fun b10 w11 hb10 hl10 hx hn11 => wr_x hx hb10 fun w12 hx hw12 => ?_
  have e10 := hn11.1
  have hr := (hr.ext (Ext.new hn11)).wr hw12 (by omega)
  refine pack_Reader_Done_calls (done_eq hr fun w14 hx14 => kp_ext hx14 (kp_ext hx14 ?_))
  have hx := hx.trans' hx14
  have d1 := decA_1 (l := l) hv
  have d2 := decA_2 (l := l) hv
  have d3 := decA_3 (l := l) hv
  generalize doneN l (rdAns l v 0 0).2.1 (rdAns l v 0 0).2.2 = e at *
  refine ⟨fun e18 w' => Ext w w' ∧ (e18 = 0 ∧ decA v l = ((rdAns l v 0 0).1, 0) ∨ e18 ≠ 0 ∧ decA v l = (zAns, e18)), ?_, ?_⟩
  · refine ifEq (fun h3 => answer_Check_calls (a := (rdAns l v 0 0).1) (answer_Check_eq (ht.ext hx) fun w17 hx' => kp_ext hx' (kp_ext hx' ⟨hx.trans' hx', ?_⟩))) (fun h3 => ⟨hx, .inr ⟨h3, d1 h3⟩⟩)
    by_cases h4 : ansE (rdAns l v 0 0).1 = 0
    · exact .inl ⟨h4, d3 h3 h4⟩
    · exact .inr ⟨h4, d2 h3 h4⟩
  rintro e18 w19 ⟨hx, ⟨rfl, he⟩ | ⟨h0, he⟩⟩
  · refine ifNe (fun h => absurd rfl h) (fun _ => wr_x hx hb1 fun w21 hx _ => ?_)
    rw [he] at hK
    exact hK _ hx
  · refine ifNe (fun _ => wr_x hx hb1 fun w20 hx _ => ?_) (fun h => absurd h h0)
    rw [he] at hK
    exact hK _ hx
theorem found_spec {b : Bool} {K : List UInt8 → World → Prop} (hK : K (if b then [121, 101, 115] else [110, 111]) w) : answer_found b K w := by
  unfold answer_found
  cases b
  · exact ifB_f rfl hK
  · exact ifB_t rfl hK
theorem digits_len {n : Nat} (h : n ≤ 4294967296) : (digits 10 n).length ≤ 20 := Nat.le_succ_of_le (digits_len19 (by omega))
/-- An answer's text. -/
def textA (a : ApiAnswer) : List UInt8 := joinL [32] [digits 10 a.Client.toNat, digits 10 a.Seq.toNat, digits 10 a.Err.toNat, digits 10 a.Rev.toNat, if a.Found then [121, 101, 115] else [110, 111], quote a.Val]
theorem answer_Text_spec {K : List UInt8 → World → Prop} (ht : Utf8T w) (hc : ConvT w) (he : ansE a = 0) (hK : ∀ w', Ext w w' → K (textA a) w') : answer_Text a K w := by
  unfold answer_Text
  obtain ⟨⟨⟨a1, a2⟩, ⟨a3, a4⟩, ⟨a5, a6⟩, ⟨a7, a8⟩⟩, _⟩ := ansE_0 he
  have h48 := (ans_num he).2
  refine new_x (Ext.rfl' w) fun b1 w2 hb1 hl1 hx hn2 => ?_
  refine answer_Check_calls (a := a) (answer_Check_eq (ht.ext hx) fun w4 hx' => kp_ext hx' ?_)
  have hx := hx.trans' hx'
  refine ifNe (fun h => absurd he h) (fun _ => ?_)
  refine held_x fun w5 hx' => ?_
  have hx := hx.trans' hx'
  have num : ∀ {n : Int} {u : World} {X : List UInt8 → World → Prop}, 0 ≤ n → n ≤ 4294967296 → Ext w u → (∀ w', Ext u w' → X (digits 10 n.toNat) w') → callV Pr sval fid_strconv_Itoa #[.int .i64 n] u X := fun {n u X} h0 h1 hu hX => by
    obtain ⟨m, rfl⟩ : ∃ m : Nat, n = (m : Int) := ⟨n.toNat, by omega⟩
    rw [Int.toNat_natCast] at hX
    exact strconv_Itoa_calls (Itoa_spec (hc.ext hu) (by omega) hX)
  refine num (by omega) (by omega) hx fun w8 hx' => kp_ext hx' ⟨trivial, ?_⟩
  have hx := hx.trans' hx'
  refine num (by omega) (by omega) hx fun w10 hx' => kp_ext hx' ⟨trivial, ?_⟩
  have hx := hx.trans' hx'
  refine num (by omega) (by omega) hx fun w12 hx' => kp_ext hx' ⟨trivial, ?_⟩
  have hx := hx.trans' hx'
  refine num (by omega) (by omega) hx fun w14 hx' => kp_ext hx' ⟨trivial, ?_⟩
  have hx := hx.trans' hx'
  refine answer_found_calls (found_spec (kp_same ⟨trivial, ?_⟩))
  refine quote_Quote_calls (quote_Quote_spec (ht.ext hx) (by omega) fun w18 hx' => kp_ext hx' ⟨trivial, ?_⟩)
  have hx := hx.trans' hx'
  refine lit_ty 16 (E := eS) (xs := [digits 10 a.Client.toNat, digits 10 a.Seq.toNat, digits 10 a.Err.toNat, digits 10 a.Rev.toNat, if a.Found then [121, 101, 115] else [110, 111], quote a.Val]) w18.heap.size (by kernel_rfl) rfl (by decide) (fun w => by kernel_rfl) (Nat.le_refl _) fun s19 w20 _ h19 hx' => kp_ext hx' ⟨trivial, ?_⟩
  have hx := hx.trans' hx'
  refine quote_Line_calls (Line_spec h19.is (by simp) ?_ fun w22 hx' => kp_ext hx' ⟨trivial, hK _ (hx.trans' hx')⟩)
  have d1 := digits_len (n := a.Client.toNat) (by omega)
  have d2 := digits_len (n := a.Seq.toNat) (by omega)
  have d3 := digits_len (n := a.Err.toNat) (by omega)
  have d4 := digits_len (n := a.Rev.toNat) (by omega)
  have d5 : (if a.Found then [121, 101, 115] else [110, 111] : List UInt8).length ≤ 3 := by split <;> decide
  have d6 := quoteL_len a.Val
  have d7 := quote_len a.Val
  simp only [List.flatMap_cons, List.flatMap_nil, List.length_append, List.length_nil, id]
  omega
theorem awake_text : textA ⟨1, 2, 0, true, [118], 3⟩ = [49, 32, 50, 32, 48, 32, 51, 32, 121, 101, 115, 32, 34, 118, 34] := by
  have q : quote [118] = [34, 118, 34] := by
    have h : quoteL [118] = [118] := by
      rw [quoteL_on (by simp), show ([118] : List UInt8).drop (uStep [118]).2 = [] from by kernel_rfl, quoteL_nil, show qItem [118] = [118] from by kernel_rfl]
      rfl
    unfold quote
    rw [h]
    rfl
  unfold textA
  dsimp only
  rw [show (1 : Int).toNat = 1 from rfl, show (2 : Int).toNat = 2 from rfl, show (0 : Int).toNat = 0 from rfl, show (3 : Int).toNat = 3 from rfl, digits_small (by decide), digits_small (by decide), digits_small (by decide), digits_small (by decide), q]
  rfl
theorem law09_awake_spec {K : Bool → World → Prop} (ht : Utf8T w) (hc : ConvT w) (hK : ∀ w', Ext w w' → K true w') : law09_awake K w := by
  unfold law09_awake
  refine answer_Text_calls (a := ⟨1, 2, 0, true, [118], 3⟩) (answer_Text_spec ht hc (by kernel_rfl) fun w2 hx => ?_)
  rw [awake_text, strEq_eq, decide_eq_true (by kernel_rfl)]
  exact hK _ hx
/-- What any bytes are decoded as, in any version, may be, and has these bytes. -/
theorem law09_AnswerDecodes_spec {s : Sl} {K : Bool → World → Prop} (ht : Utf8T w) (hc : ConvT w) (hs : IsSl eB w s l) (hK : ∀ w', Ext w w' → K true w') : law09_AnswerDecodes v s K w := by
  unfold law09_AnswerDecodes
  have hsl := hs.len
  refine ifD (fun _ => law09_awake_calls (law09_awake_spec ht hc hK)) (fun h500 => ?_)
  have awake : ∀ {u : World} {b5 : Nat}, Ext w u → callV Pr Value.bool fid_law09_awake #[] u fun t v => kp b5 u v (K t v) := fun hx => law09_awake_calls (law09_awake_spec (ht.ext hx) (hc.ext hx) fun v hx' => kp_ext hx' (hK _ (hx.trans' hx')))
  refine answer_Decode_calls (answer_Decode_spec ht hs (by omega) fun w4 hx => ?_)
  refine new_x hx fun b5 w6 hb5 hl5 hx _ => wr_x hx hb5 fun w7 hx _ => ?_
  have hbad := decA_bad (v := v) (l := l)
  have hinv := decA_inv (v := v) (l := l)
  have hout : ¬ (v = 1 ∨ v = 2) → decA v l = (zAns, 8) := fun h => by unfold decA; rw [if_pos (by omega)]
  generalize decA v l = r at *
  obtain ⟨a, e⟩ := r
  dsimp only at *
  refine ifD (fun h => ?_) (fun h1 => ?_)
  · have h := hout (by omega)
    cases h
    exact eqSt (by kernel_rfl) (ApiAnswer.eqv zAns zAns) (ifB_t (ApiAnswer.eqs_iff.2 rfl) (ifEq (fun _ => awake hx) (fun h => absurd rfl h)))
  refine ifD (fun h => ?_) (fun h2 => ?_)
  · have h := hout (by omega)
    cases h
    exact eqSt (by kernel_rfl) (ApiAnswer.eqv zAns zAns) (ifB_t (ApiAnswer.eqs_iff.2 rfl) (ifEq (fun _ => awake hx) (fun h => absurd rfl h)))
  refine ifNe (fun he => ?_) (fun he => ?_)
  · have h := hbad he
    subst h
    exact eqSt (by kernel_rfl) (ApiAnswer.eqv zAns zAns) (ifB_t (ApiAnswer.eqs_iff.2 rfl) (awake hx))
  obtain ⟨hv, hE, hbytes, hr⟩ := hinv he
  refine ref09_Check_calls (a := a) (ref09_Check_eq fun w18 hx' => kp_ext hx' ?_)
  have hx := hx.trans' hx'
  refine ifEq (fun _ => ?_) (fun h => absurd hE h)
  obtain ⟨hnum, h48⟩ := ans_num hE
  refine ref09_Bytes_calls (a := a) (ref09_Bytes_spec hv hnum (by omega) fun s19 w20 h19 hx' => kp_ext hx' ?_)
  have hx := hx.trans' hx'
  refine ref01_Same_calls (ref01_Same_spec h19.is (hs.ext hx) fun w22 hx' => kp_ext hx' (ifB_t (by rw [hbytes]; simp) ?_))
  exact awake (hx.trans' hx')
end Go.Chg
