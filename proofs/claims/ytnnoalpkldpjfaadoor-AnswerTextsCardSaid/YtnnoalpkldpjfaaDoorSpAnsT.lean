/-
  Answers as texts: the law of chapter 9 about parsing.
-/
import Derived.Test.YtnnoalpkldpjfaaDoorSpAtoi
import Derived.Test.YtnnoalpkldpjfaaDoorME
import Derived.Test.YtnnoalpkldpjfaaDoorSpLaw06
set_option maxRecDepth 20000
set_option linter.unusedVariables false
namespace Go.Chg
open Go.Vc
variable {w : World} {s l : List UInt8} {a b : ApiAnswer} {ws : List (List UInt8)}
/-! ### The words of an answer's text -/
def wordsA (a : ApiAnswer) : List (List UInt8) := [digits 10 a.Client.toNat, digits 10 a.Seq.toNat, digits 10 a.Err.toNat, digits 10 a.Rev.toNat, if a.Found then [121, 101, 115] else [110, 111], quote a.Val]
theorem textA_eq (a : ApiAnswer) : textA a = joinL [32] (wordsA a) := rfl
theorem plain_word {x : List UInt8} (h0 : x ≠ []) (h : ∀ c ∈ x, 33 ≤ c.toNat ∧ c.toNat ≠ 34) : wordOk x = true := by
  unfold wordOk
  rw [if_neg h0, if_neg (fun e => ?_), List.all_eq_true]
  · exact fun c hc => decide_eq_true (by have := (h c hc).1; omega)
  · cases x with
    | nil => cases e
    | cons c r =>
      have : c = 34 := Option.some.inj e
      subst this
      exact (h 34 (by simp)).2 rfl
theorem digits_word (n : Nat) : wordOk (digits 10 n) = true := by
  refine plain_word (fun e => ?_) fun c hc => by have := (digits_val n).2 c hc; omega
  by_cases h : n < 10
  · rw [digits_small h] at e; cases e
  · rw [digits_big (by decide) h] at e; simp at e
theorem quote_word_ok (x : List UInt8) : wordOk (quote x) = true := by
  unfold wordOk
  rw [if_neg (by unfold quote; simp), if_pos (by unfold quote; rfl), unquote_quote]
  rfl
theorem wordsA_ok (a : ApiAnswer) : ∀ x ∈ wordsA a, wordOk x = true := by
  intro x hx
  simp only [wordsA, List.mem_cons, List.not_mem_nil, or_false] at hx
  rcases hx with rfl | rfl | rfl | rfl | rfl | rfl
  · exact digits_word _
  · exact digits_word _
  · exact digits_word _
  · exact digits_word _
  · split
    · exact plain_word (by simp) (by decide)
    · exact plain_word (by simp) (by decide)
  · exact quote_word_ok _
theorem textA_words (a : ApiAnswer) : wordsL (textA a) = some (wordsA a) := wordsL_join (wordsA_ok a)
theorem dig_inj {m n : Int} (hm : 0 ≤ m) (hn : 0 ≤ n) (h : digits 10 m.toNat = digits 10 n.toNat) : m = n := by
  have h1 := (digits_val m.toNat).1
  have h2 := (digits_val n.toNat).1
  rw [h, h2] at h1
  omega
theorem textA_inj (ha : ansE a = 0) (hb : ansE b = 0) (h : textA a = textA b) : a = b := by
  have e : wordsA a = wordsA b := Option.some.inj ((textA_words a).symm.trans ((congrArg wordsL h).trans (textA_words b)))
  obtain ⟨⟨⟨a1, a2⟩, ⟨a3, a4⟩, ⟨a5, a6⟩, ⟨a7, a8⟩⟩, _⟩ := ansE_0 ha
  obtain ⟨⟨⟨b1, b2⟩, ⟨b3, b4⟩, ⟨b5, b6⟩, ⟨b7, b8⟩⟩, _⟩ := ansE_0 hb
  simp only [wordsA, List.cons.injEq, and_true] at e
  obtain ⟨e1, e2, e3, e4, e5, e6⟩ := e
  have f1 := dig_inj (by omega) (by omega) e1
  have f2 := dig_inj (by omega) (by omega) e2
  have f3 := dig_inj (by omega) (by omega) e3
  have f4 := dig_inj (by omega) (by omega) e4
  have f6 := quote_inj e6
  have f5 : a.Found = b.Found := by
    cases ha : a.Found <;> cases hb : b.Found <;> rw [ha, hb] at e5 <;> first | rfl | simp at e5
  cases a
  cases b
  simp only at f1 f2 f3 f4 f5 f6
  subst f1 f2 f3 f4 f5 f6
  rfl
/-! ### What is told -/
theorem answer_Text_any {K : List UInt8 → World → Prop} (ht : Utf8T w) (hc : ConvT w) (hK : ∀ w', Ext w w' → K (if ansE a = 0 then textA a else []) w') : answer_Text a K w := by
  by_cases he : ansE a = 0
  · rw [if_pos he] at hK
    exact answer_Text_spec ht hc he hK
  · rw [if_neg he] at hK
    unfold answer_Text
    refine new_x (Ext.rfl' w) fun b1 w2 hb1 hl1 hx hn2 => ?_
    refine answer_Check_calls (a := a) (answer_Check_eq (ht.ext hx) fun w4 hx' => kp_ext hx' ?_)
    exact ifNe (fun _ => hK _ (hx.trans' hx')) (fun h => absurd h he)
/-- What a text is parsed as. -/
def ParA (s : List UInt8) (r : ApiAnswer × Int) : Prop := (r.2 = 3 ∧ r.1 = zAns ∧ ∀ a, ansE a = 0 → textA a ≠ s) ∨ (r.2 = 0 ∧ ansE r.1 = 0 ∧ textA r.1 = s)
theorem Parse_1_spec {sl : Sl} {c : Addr} {i : Int} {k : Nat} {K : Int → World → Prop} (hE : ErrT w) (ho : Vc.Obj w c [sl.val]) (hs : IsSl eS w sl ws) (hi : i = (k : Int)) (hk : k < ws.length) (hl : ∀ x ∈ ws, x.length ≤ 1000000) (hK : ∀ n w', Ext w w' → DigOf ws[k] n → K n w') : answer_Parse_1 i c K w := by
  unfold answer_Parse_1
  refine ld_obj0 (by kernel_rfl) ho rfl ?_
  refine el_rd (E := eS) (y := ws[k]) (by kernel_rfl) (by kernel_rfl) hs hi hk rfl fun _ => ?_
  exact strconv_Atoi_calls (Atoi_spec hE (hl _ (List.getElem_mem hk)) fun n e w5 hx hd => hK _ _ hx hd)
theorem joinL_mem : ∀ (ws : List (List UInt8)) (x : List UInt8), x ∈ ws → x.length ≤ (joinL [32] ws).length
  | [], x, h => by cases h
  | [y], x, h => by
    rw [List.mem_singleton] at h
    subst h
    simp [joinL]
  | y :: z :: r, x, h => by
    rw [joinL_cons]
    rcases List.mem_cons.1 h with rfl | h
    · simp
    · have := joinL_mem (z :: r) x h
      rw [List.length_append, List.length_cons]
      omega
theorem Words_or {line : List UInt8} {K : Sl × Int → World → Prop} (ht : Utf8T w) (hl : line.length ≤ 100000) (hK : ∀ r w', ((∃ ws, wordsL line = some ws ∧ r.2 = 0 ∧ OwnSl eS w' w.heap.size r.1 ws) ∨ (wordsL line = none ∧ r = (Sl.nil, 3))) → Ext w w' → K r w') : quote_Words line K w :=
  Words_spec ht hl (fun ws h s w' ho hx => hK _ _ (.inl ⟨ws, h, rfl, ho⟩) hx) (fun h w' hx => hK _ _ (.inr ⟨h, rfl⟩) hx)
theorem answer_Parse_spec {K : ApiAnswer × Int → World → Prop} (ht : Utf8T w) (hc : ConvT w) (hE : ErrT w) (hl : s.length ≤ 100000) (hK : ∀ r w', ParA s r → Ext w w' → K r w') : answer_Parse s K w := by
  unfold answer_Parse
  refine new_x (Ext.rfl' w) fun b1 w2 hb1 hl1 hx hn2 => ?_
  have bad : ∀ {u : World}, Ext w u → (∀ a, ansE a = 0 → textA a ≠ s) → wrM b1 (fun w8 => K (zAns, 3) w8) u := fun hx h => wr_x hx hb1 fun w8 hx8 _ => hK _ _ (.inl ⟨rfl, rfl, h⟩) hx8
  refine quote_Words_calls (Words_or (ht.ext hx) hl fun t3 w4 hr hx' => kp_ext hx' ?_)
  have hx := hx.trans' hx'
  have z4 := hx'.size
  refine alloc_ty (z := Sl.nil.val) (by kernel_rfl) fun l5 w6 ha hx6 ho6 => kp_ext hx6 ?_
  refine st_obj0 (by kernel_rfl) ho6 (by rfl) (by decide) fun w7 hw7 ho7 => kp_wr hw7 (by omega) ?_
  have ho7 : Vc.Obj w7 l5 [t3.1.val] := ho7
  have hx7 : Ext w w7 := Below.wr (hx.trans' hx6) (by have := hx.size; omega) hw7
  rcases hr with ⟨ws, hws, h0, hsl⟩ | ⟨hnone, rfl⟩
  rotate_left
  · exact ifNe (fun _ => bad hx7 fun a _ e => by rw [← e, textA_words] at hnone; cases hnone) (fun h => absurd h (show ¬ (3 : Int) = 0 by decide))
  refine ifNe (fun h => absurd h0 h) (fun _ => ?_)
  have hslt := hsl.lt
  have hs7 : IsSl eS w7 t3.1 ws := (hsl.is.ext hx6).grownB (grown_wr hw7) fun b hb e => by have := hslt b hb; have := Option.some.inj e; omega
  have same : ∀ a, textA a = s → ws = wordsA a := fun a e => by rw [← e, textA_words] at hws; exact (Option.some.inj hws).symm
  have hlen := hs7.len
  refine ld_obj0 (val := Sl.val) (y := t3.1) (by kernel_rfl) ho7 rfl ?_
  refine ifNe (fun h6 => bad hx7 fun a _ e => h6 (by have := same a e; rw [hlen, this]; rfl)) (fun h6 => ?_)
  have h6 : ws.length = 6 := by omega
  have hwl : ∀ x ∈ ws, x.length ≤ 1000000 := fun x hx => by
    have := joinL_mem ws x hx
    rw [← (wordsL_inv hws).1] at this
    omega
  refine ld_obj0 (val := Sl.val) (y := t3.1) (by kernel_rfl) ho7 rfl ?_
  refine el_rd (E := eS) (k := 5) (y := ws[5]) (by kernel_rfl) (by kernel_rfl) hs7 rfl (by omega) rfl fun _ => ?_
  refine quote_Unquote_calls (Unquote_spec (ht.ext hx7) (hwl _ (List.getElem_mem _)) fun w15 hx15 => kp_ext hx15 ?_)
  have ho15 := ho7.ext hx15
  have hs15 := hs7.ext hx15
  have hx15 := hx7.trans' hx15
  have z15 := hx15.size
  have hx16 : Ext w w15 := hx15
  refine heldM_of (fun u => Vc.Obj u l5 [t3.1.val] ∧ IsSl eS u t3.1 ws) fun w16 hx' => ⟨⟨ho15.ext hx', hs15.ext hx'⟩, ?_⟩
  have S : ∀ {u : World}, Ext w15 u → Vc.Obj u l5 [t3.1.val] ∧ IsSl eS u t3.1 ws := fun h => ⟨ho15.ext h, hs15.ext h⟩
  refine opH_of t3.1 (fun u hu => ld_obj0 (val := Sl.val) (y := t3.1) (by kernel_rfl) hu.1 rfl rfl) ?_
  refine elH (E := eS) (k := 4) (y := ws[4]) (by kernel_rfl) (by kernel_rfl) (fun u hu => hu.2) rfl (by omega) rfl fun _ => ?_
  have num : ∀ {u : World} {X : Int → World → Prop} (k : Nat) (hk : k < 6), Ext w15 u → (∀ n w', Ext w15 w' → Ext u w' → DigOf (ws[k]'(by omega)) n → X n w') → callV Pr (Value.int .i64) fid_answer_Parse_1 #[.int .i64 (k : Int), .pointer (some l5)] u X := fun k hk hu hX =>
    answer_Parse_1_calls (Parse_1_spec (hE.ext (hx16.trans' hu)) (S hu).1 (S hu).2 rfl (by omega) hwl fun n w' hx' hd => hX n w' (hu.trans' hx') hx' hd)
  have fin : ∀ {n0 n1 n2 n3 : Int} {u : World} {b : Nat}, w15.heap.size ≤ b → b < u.heap.size → Ext w15 u → DigOf ws[0] n0 → DigOf ws[1] n1 → DigOf ws[2] n2 → DigOf ws[3] n3 →
      wrM b (fun w31 => (Vc.Obj w31 l5 [t3.1.val] ∧ IsSl eS w31 t3.1 ws) ∧ (callV Pr sval fid_answer_Text #[(ApiAnswer.mk n0 n1 n2 (strEq ws[4] [121, 101, 115]) (unqR ws[5]).1 n3).val] w31 fun t32 w33 => kp b w31 w33 <| kp b1 w31 w33 <|
        ifB (!(strEq t32 s)) (wrM b1 (fun w34 => K (zAns, 3) w34) w33) (wrM b1 (fun w35 => K ((ApiAnswer.mk n0 n1 n2 (strEq ws[4] [121, 101, 115]) (unqR ws[5]).1 n3), 0) w35) w33))) u := by
    intro n0 n1 n2 n3 u b hb hbl hu hd0 hd1 hd2 hd3
    refine wr_x hu hb fun w31 hx31 _ => ⟨S hx31, ?_⟩
    have hx31w := hx16.trans' hx31
    refine answer_Text_calls (answer_Text_any (ht.ext hx31w) (hc.ext hx31w) fun w33 hx' => kp_ext hx' (kp_ext hx' ?_))
    have hx33 := hx31w.trans' hx'
    rw [strEq_eq]
    refine ifNot (ifD (fun h => ?_) (fun h => bad hx33 fun a hae e => h ?_))
    · refine wr_x hx33 hb1 fun w35 hx35 _ => hK _ _ (.inr ⟨rfl, ?_⟩) hx35
      split at h
      · rename_i he
        exact ⟨he, h⟩
      · rw [← h] at hws
        have : ws = [] := (Option.some.inj hws).symm
        rw [this] at h6
        cases h6
    · have := same a e
      subst this
      obtain ⟨⟨⟨a1, a2⟩, ⟨a3, a4⟩, ⟨a5, a6⟩, ⟨a7, a8⟩⟩, _⟩ := ansE_0 hae
      have e0 := hd0 a.Client.toNat (by omega) rfl
      have e1 := hd1 a.Seq.toNat (by omega) rfl
      have e2 := hd2 a.Err.toNat (by omega) rfl
      have e3 := hd3 a.Rev.toNat (by omega) rfl
      have e4 : strEq ((wordsA a)[4]'(show 4 < 6 by decide)) [121, 101, 115] = a.Found := by
        show strEq (if a.Found then [121, 101, 115] else [110, 111]) [121, 101, 115] = a.Found
        rw [strEq_eq]
        cases a.Found <;> rfl
      have e5 : (unqR ((wordsA a)[5]'(show 5 < 6 by decide))).1 = a.Val := by
        show (unqR (quote a.Val)).1 = a.Val
        rw [unqR_ok (unquote_quote a.Val)]
      have ex : (ApiAnswer.mk n0 n1 n2 (strEq ((wordsA a)[4]'(show 4 < 6 by decide)) [121, 101, 115]) (unqR ((wordsA a)[5]'(show 5 < 6 by decide))).1 n3) = a := by
        rw [e4, e5, e0, e1, e2, e3, Int.toNat_of_nonneg (by omega), Int.toNat_of_nonneg (by omega), Int.toNat_of_nonneg (by omega), Int.toNat_of_nonneg (by omega)]
      refine Eq.trans (congrArg (fun x => if ansE x = 0 then textA x else []) ex) ?_
      exact (if_pos hae).trans e
  refine ⟨?_, ?_⟩
  · refine num 0 (by decide) hx' fun n0 w22 hu hx2 d0 => kp_ext hx2 ⟨S hu, ?_, ?_⟩
    · refine num 1 (by decide) hu fun n1 w24 hu hx2 d1 => kp_ext hx2 ⟨S hu, ?_, ?_⟩
      · refine num 2 (by decide) hu fun n2 w26 hu hx2 d2 => kp_ext hx2 ⟨S hu, ?_, ?_⟩
        · refine num 3 (by decide) hu fun n3 w28 hu hx2 d3 => kp_ext hx2 ⟨S hu, ?_⟩
          exact new_x hu fun b w30 hb hbl hu _ => ⟨S hu, fin hb hbl hu d0 d1 d2 d3⟩
        · refine new_x hu fun b w30 hb hbl hu _ => ⟨S hu, ?_⟩
          exact num 3 (by decide) hu fun n3 w28 hu hx2 d3 => kp_ext hx2 (kp_ext hx2 ⟨S hu, fin hb (Nat.lt_of_lt_of_le hbl hx2.size) hu d0 d1 d2 d3⟩)
      · refine new_x hu fun b w30 hb hbl hu _ => ⟨S hu, ?_⟩
        refine num 2 (by decide) hu fun n2 w26 hu hx2 d2 => kp_ext hx2 (kp_ext hx2 ⟨S hu, ?_⟩)
        have hbl := Nat.lt_of_lt_of_le hbl hx2.size
        exact num 3 (by decide) hu fun n3 w28 hu hx2 d3 => kp_ext hx2 (kp_ext hx2 ⟨S hu, fin hb (Nat.lt_of_lt_of_le hbl hx2.size) hu d0 d1 d2 d3⟩)
    · refine new_x hu fun b w30 hb hbl hu _ => ⟨S hu, ?_⟩
      refine num 1 (by decide) hu fun n1 w24 hu hx2 d1 => kp_ext hx2 (kp_ext hx2 ⟨S hu, ?_⟩)
      have hbl := Nat.lt_of_lt_of_le hbl hx2.size
      refine num 2 (by decide) hu fun n2 w26 hu hx2 d2 => kp_ext hx2 (kp_ext hx2 ⟨S hu, ?_⟩)
      have hbl := Nat.lt_of_lt_of_le hbl hx2.size
      exact num 3 (by decide) hu fun n3 w28 hu hx2 d3 => kp_ext hx2 (kp_ext hx2 ⟨S hu, fin hb (Nat.lt_of_lt_of_le hbl hx2.size) hu d0 d1 d2 d3⟩)
  · refine new_x hx' fun b w30 hb hbl hu _ => ⟨S hu, ?_⟩
    refine num 0 (by decide) hu fun n0 w22 hu hx2 d0 => kp_ext hx2 (kp_ext hx2 ⟨S hu, ?_⟩)
    have hbl := Nat.lt_of_lt_of_le hbl hx2.size
    refine num 1 (by decide) hu fun n1 w24 hu hx2 d1 => kp_ext hx2 (kp_ext hx2 ⟨S hu, ?_⟩)
    have hbl := Nat.lt_of_lt_of_le hbl hx2.size
    refine num 2 (by decide) hu fun n2 w26 hu hx2 d2 => kp_ext hx2 (kp_ext hx2 ⟨S hu, ?_⟩)
    have hbl := Nat.lt_of_lt_of_le hbl hx2.size
    exact num 3 (by decide) hu fun n3 w28 hu hx2 d3 => kp_ext hx2 (kp_ext hx2 ⟨S hu, fin hb (Nat.lt_of_lt_of_le hbl hx2.size) hu d0 d1 d2 d3⟩)
theorem textA_len (he : ansE a = 0) : (textA a).length ≤ 1000 := by
  obtain ⟨⟨⟨a1, a2⟩, ⟨a3, a4⟩, ⟨a5, a6⟩, ⟨a7, a8⟩⟩, _⟩ := ansE_0 he
  have h48 := (ans_num he).2
  have d1 := digits_len (n := a.Client.toNat) (by omega)
  have d2 := digits_len (n := a.Seq.toNat) (by omega)
  have d3 := digits_len (n := a.Err.toNat) (by omega)
  have d4 := digits_len (n := a.Rev.toNat) (by omega)
  have d5 : (if a.Found then [121, 101, 115] else [110, 111] : List UInt8).length ≤ 3 := by split <;> decide
  have d6 := quoteL_len a.Val
  have d7 := quote_len a.Val
  rw [textA_eq]
  unfold wordsA
  simp only [joinL_cons, List.length_append, List.length_cons]
  have e : (joinL [32] [quote a.Val]).length = (quote a.Val).length := by simp [joinL]
  omega
theorem ref09_Text_spec {K : List UInt8 → World → Prop} (he : ansE a = 0) (hK : ∀ w', Ext w w' → K (textA a) w') : ref09_Text a K w := by
  unfold ref09_Text
  obtain ⟨⟨⟨a1, a2⟩, ⟨a3, a4⟩, ⟨a5, a6⟩, ⟨a7, a8⟩⟩, _⟩ := ansE_0 he
  have h48 := (ans_num he).2
  have d1 := digits_len (n := a.Client.toNat) (by omega)
  have d2 := digits_len (n := a.Seq.toNat) (by omega)
  have d3 := digits_len (n := a.Err.toNat) (by omega)
  have d4 := digits_len (n := a.Rev.toNat) (by omega)
  have d6 := quoteL_len a.Val
  have d7 := quote_len a.Val
  refine new_x (Ext.rfl' w) fun b1 w2 hb1 hl1 hx hn2 => ?_
  refine ⟨fun y u => w2 = u ∧ y = if a.Found then [121, 101, 115] else [110, 111], ifB_of (fun h => ⟨rfl, by rw [h]; rfl⟩) (fun h => ⟨rfl, by rw [h]; rfl⟩), ?_⟩
  rintro yes _ ⟨rfl, hy⟩
  have d5 : yes.length ≤ 3 := by rw [hy]; split <;> decide
  refine held_x fun w3 hx' => ?_
  have hx := hx.trans' hx'
  have num : ∀ {n : Int} {u : World} {X : List UInt8 → World → Prop}, 0 ≤ n → n ≤ 4294967296 → X (digits 10 n.toNat) u → callV Pr sval fid_ref08_Digits #[.int .i64 n] u X := fun {n u X} h0 h1 hX => by
    obtain ⟨m, rfl⟩ : ∃ m : Nat, n = (m : Int) := ⟨n.toNat, by omega⟩
    rw [Int.toNat_natCast] at hX
    exact ref08_Digits_calls (ref08_Digits_spec (by omega) hX)
  have cat : ∀ {x y : List UInt8} {t : TypeId} {o1 o2 : Operand} {X : List UInt8 → Prop}, x.length ≤ 1000 → y.length ≤ 1000 → X (x ++ y) → opH Pr (fun _ => True) (binSem .add t o1 o2 (sval x) (sval y)) sval X := fun h1 h2 hX =>
    opH_of _ (fun w' _ => cat_str (by omega) rfl) hX
  refine num (by omega) (by omega) (kp_same ⟨trivial, ?_⟩)
  refine cat (by omega) (by decide) ?_
  refine num (by omega) (by omega) (kp_same ⟨trivial, ?_⟩)
  refine cat (by simp only [List.length_append, List.length_singleton]; omega) (by omega) ?_
  refine cat (by simp only [List.length_append, List.length_singleton]; omega) (by decide) ?_
  refine num (by omega) (by omega) (kp_same ⟨trivial, ?_⟩)
  refine cat (by simp only [List.length_append, List.length_singleton]; omega) (by omega) ?_
  refine cat (by simp only [List.length_append, List.length_singleton]; omega) (by decide) ?_
  refine num (by omega) (by omega) (kp_same ⟨trivial, ?_⟩)
  refine cat (by simp only [List.length_append, List.length_singleton]; omega) (by omega) ?_
  refine cat (by simp only [List.length_append, List.length_singleton]; omega) (by decide) ?_
  refine cat (by simp only [List.length_append, List.length_singleton]; omega) (by omega) ?_
  refine cat (by simp only [List.length_append, List.length_singleton]; omega) (by decide) ?_
  refine ref06_Quote_calls (ref06_Quote_spec (by omega) fun w26 hx' => kp_ext hx' ⟨trivial, ?_⟩)
  refine cat (by simp only [List.length_append, List.length_singleton]; omega) (by omega) ?_
  have := hK _ (hx.trans' hx')
  rw [textA_eq] at this
  unfold wordsA at this
  rw [← hy] at this
  simpa only [joinL, List.flatMap_cons, List.flatMap_nil, List.append_nil, List.append_assoc, List.cons_append, List.nil_append, List.singleton_append] using this
/-- AnswerTexts: the text of any answer leads back to it; what any text is parsed as has it. -/
theorem law09_AnswerTexts_spec {K : Bool → World → Prop} (ht : Utf8T w) (hc : ConvT w) (hE : ErrT w) (hK : ∀ w', Ext w w' → K true w') : law09_AnswerTexts a s K w := by
  unfold law09_AnswerTexts
  have aw : ∀ {u : World} {X : Bool → World → Prop}, Ext w u → (∀ w', Ext u w' → X true w') → callV Pr Value.bool fid_law09_awake #[] u X := fun hx h => law09_awake_calls (law09_awake_spec (ht.ext hx) (hc.ext hx) h)
  refine new_x (Ext.rfl' w) fun b1 w2 hb1 hl1 hx hn2 => ?_
  refine ifD (fun _ => aw hx fun w4 hx' => kp_ext hx' (hK _ (hx.trans' hx'))) (fun h300 => ?_)
  refine ifD (fun _ => aw hx fun w4 hx' => kp_ext hx' (hK _ (hx.trans' hx'))) (fun hs300 => ?_)
  refine ⟨fun t u => t = (if ansE a = 0 then textA a else []) ∧ Ext w u, ?_, ?_⟩
  · refine ref09_Check_calls (ref09_Check_eq fun w9 hx' => kp_ext hx' ?_)
    refine ifEq (fun he => ?_) (fun he => ⟨by rw [if_neg he], hx.trans' hx'⟩)
    exact ref09_Text_calls (a := a) (ref09_Text_spec he fun w11 hx2 => kp_ext hx2 ⟨by rw [if_pos he], (hx.trans' hx').trans' hx2⟩)
  rintro want w13 ⟨hwant, hx⟩
  have hwl : want.length ≤ 1000 := by
    rw [hwant]
    split
    · rename_i he; exact textA_len he
    · exact Nat.zero_le _
  refine answer_Parse_calls (answer_Parse_spec (ht.ext hx) (hc.ext hx) (hE.ext hx) (by omega) fun r1 w15 hp1 hx' => kp_ext hx' ?_)
  have hx := hx.trans' hx'
  refine new_x hx fun b16 w17 hb16 hl16 hx _ => wr_x hx hb16 fun w18 hx _ => ?_
  refine answer_Parse_calls (answer_Parse_spec (ht.ext hx) (hc.ext hx) (hE.ext hx) (by omega) fun r2 w20 hp2 hx' => kp_ext hx' (kp_ext hx' ?_))
  have hx := hx.trans' hx'
  refine new_x hx fun b21 w22 hb21 hl21 hx _ => wr_x hx hb21 fun w23 hx _ => ?_
  refine ⟨fun u => Ext w u, ?_, ?_⟩
  · refine answer_Text_calls (answer_Text_any (ht.ext hx) (hc.ext hx) fun w26 hx' => kp_ext hx' (kp_ext hx' (kp_ext hx' ?_)))
    have hx := hx.trans' hx'
    rw [← hwant, strEq_eq, strEq_eq]
    refine ifNot (ifD (fun _ => ?_) (fun h => absurd rfl h))
    by_cases he : ansE a = 0
    · rw [if_pos he] at hwant
      have hne : want ≠ [] := fun e => by
        have := textA_words a
        rw [← hwant, e] at this
        cases Option.some.inj this
      refine ifD (fun h => absurd h hne) (fun _ => ?_)
      refine ifNot (ifD (fun h => absurd h hne) (fun _ => ?_))
      rcases hp1 with ⟨_, _, h⟩ | ⟨h0, h1, h2⟩
      · exact absurd hwant.symm (h a he)
      · have := textA_inj h1 he (h2.trans hwant)
        rw [this]
        exact neSt (by kernel_rfl) (ApiAnswer.eqv a a) (ifB_f (by rw [ApiAnswer.eqs_iff.2 rfl]; rfl) (ifNe (fun h => absurd h0 h) (fun _ => hx)))
    · rw [if_neg he] at hwant
      subst hwant
      refine ifD (fun _ => ?_) (fun h => absurd rfl h)
      rcases hp1 with ⟨h3, _, _⟩ | ⟨_, _, h2⟩
      · exact ifNe (fun h => absurd h3 h) (fun _ => ifNot (ifD (fun _ => hx) (fun h => absurd rfl h)))
      · have := textA_words r1.1
        rw [h2] at this
        cases Option.some.inj this
  rintro w29 hx
  have zero : r2.2 = 3 → r2.1 = zAns → opRd Pr (binSem .eql tid_ApiAnswer (.tmp 77) (.tmp 78) r2.1.val zAns.val) Value.bool (fun t36 => ifB t36 (callV Pr Value.bool fid_law09_awake #[] w29 fun t37 w38 => kp b21 w29 w38 <| kp b16 w29 w38 <| kp b1 w29 w38 <| K t37 w38) (K false w29)) w29 := fun _ hz => by
    rw [hz]
    exact eqSt (by kernel_rfl) (ApiAnswer.eqv zAns zAns) (ifB_t (ApiAnswer.eqs_iff.2 rfl) (aw hx fun w38 hx' => kp_ext hx' (kp_ext hx' (kp_ext hx' (hK _ (hx.trans' hx'))))))
  rcases hp2 with ⟨h3, hz, _⟩ | ⟨h0, h1, h2⟩
  · exact ifEq (fun h => absurd h (by omega)) (fun _ => ifEq (fun _ => zero h3 hz) (fun h => absurd h3 h))
  · refine ifEq (fun _ => ?_) (fun h => absurd h0 h)
    refine ref09_Check_calls (a := r2.1) (ref09_Check_eq fun w31 hx' => kp_ext hx' (kp_ext hx' (kp_ext hx' ?_)))
    have hx := hx.trans' hx'
    refine ifEq (fun _ => ?_) (fun h => absurd h1 h)
    refine ref09_Text_calls (a := r2.1) (ref09_Text_spec h1 fun w33 hx' => kp_ext hx' (kp_ext hx' (kp_ext hx' ?_)))
    have hx := hx.trans' hx'
    rw [h2, strEq_eq]
    refine ifD (fun _ => ?_) (fun h => absurd rfl h)
    exact aw hx fun w35 hx' => kp_ext hx' (kp_ext hx' (kp_ext hx' (hK _ (hx.trans' hx'))))
end Go.Chg
