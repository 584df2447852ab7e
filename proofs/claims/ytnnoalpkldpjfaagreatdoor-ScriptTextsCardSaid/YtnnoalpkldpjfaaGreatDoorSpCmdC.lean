/-
  What is wrong with a command: packages 'cmd' and 'changeoverref08'.
-/
import Derived.Test.YtnnoalpkldpjfaaGreatDoorMZ
import Derived.Test.YtnnoalpkldpjfaaGreatDoorSpRuneK
set_option maxRecDepth 20000
set_option linter.unusedVariables false
namespace Go.Chg
open Go.Vc

/-! ### What a kind of commands has -/
def kOwn (k : Int) : Bool := decide (2 ≤ k) && decide (k ≤ 5)
def kOld (k : Int) : Bool := decide (k = 5)
def kVal (k : Int) : Bool := decide (k = 2) || decide (k = 5)
def kNode (k : Int) : Bool := decide (k = 7) || decide (k = 8)
def kOk (k : Int) : Prop := 1 ≤ k ∧ k ≤ 8
def fieldsOf (k : Int) : Int := if k = 2 then 11 else if k = 3 ∨ k = 4 then 3 else if k = 5 then 15 else if k = 7 ∨ k = 8 then 16 else 0
/-- Has a kind the i-th part? -/
def need (k : Int) : Nat → Bool
  | 0 | 1 | 2 => kOwn k
  | 3 => kOld k
  | 4 => kVal k
  | _ => kNode k
def hasI : Nat → Int
  | 0 | 1 => 1
  | 2 => 2
  | 3 => 4
  | 4 => 8
  | _ => 16
theorem need_eq (k : Int) (i : Nat) : (bAnd .i64 (fieldsOf k) (hasI i) == 0) = !need k i := by
  have h0 : ∀ f ∈ [(0 : Int), 11, 3, 15, 16], True := fun _ _ => trivial
  have key : ∀ k : Fin 9, ∀ j : Fin 6, (bAnd .i64 (fieldsOf (k.val : Int)) (hasI j.val) == 0) = !need (k.val : Int) j.val := by decide +kernel
  have hi : ∃ j : Fin 6, hasI i = hasI j.val ∧ need k i = need k j.val := by
    match i with
    | 0 => exact ⟨0, rfl, rfl⟩
    | 1 => exact ⟨1, rfl, rfl⟩
    | 2 => exact ⟨2, rfl, rfl⟩
    | 3 => exact ⟨3, rfl, rfl⟩
    | 4 => exact ⟨4, rfl, rfl⟩
    | n + 5 => exact ⟨5, rfl, rfl⟩
  obtain ⟨j, h1, h2⟩ := hi
  rw [h1, h2]
  by_cases hk : 0 ≤ k ∧ k ≤ 8
  · obtain ⟨m, rfl⟩ := Int.eq_ofNat_of_zero_le hk.1
    exact key ⟨m, by omega⟩ j
  · have e1 : fieldsOf k = 0 := by
      unfold fieldsOf
      rw [if_neg (by omega), if_neg (by omega), if_neg (by omega), if_neg (by omega)]
    have e2 : need k j.val = false := by
      have a : kOwn k = false := by unfold kOwn; simp; omega
      have b : kOld k = false := by unfold kOld; simp; omega
      have c : kVal k = false := by unfold kVal; simp; omega
      have d : kNode k = false := by unfold kNode; simp; omega
      match j with
      | ⟨0, _⟩ => exact a
      | ⟨1, _⟩ => exact a
      | ⟨2, _⟩ => exact a
      | ⟨3, _⟩ => exact b
      | ⟨4, _⟩ => exact c
      | ⟨5, _⟩ => exact d
    have key2 : ∀ j : Fin 6, (bAnd .i64 0 (hasI j.val) == 0) = true := by decide +kernel
    rw [e1, e2, key2 j]
    rfl
variable {w : World}
theorem six {i : Nat} (h : i < 6) : i = 0 ∨ i = 1 ∨ i = 2 ∨ i = 3 ∨ i = 4 ∨ i = 5 := by omega
theorem cmd_fields_spec {k : Int} {K : Int × Bool → World → Prop} (hK : ∀ b, (b = true ↔ kOk k) → K (fieldsOf k, b) w) : cmd_fields k K w := by
  have yes : kOk k → ∀ {f : Int}, fieldsOf k = f → K (f, true) w := fun h f e => by
    have := hK true ⟨fun _ => h, fun _ => rfl⟩
    rwa [e] at this
  have no : ¬ kOk k → K (0, false) w := fun h => by
    have := hK false ⟨fun e => (by cases e), fun h' => absurd h' h⟩
    unfold fieldsOf kOk at *
    rwa [if_neg (by omega), if_neg (by omega), if_neg (by omega), if_neg (by omega)] at this
  unfold cmd_fields
  refine ⟨fun b w' => w = w' ∧ b = (decide (k = 1) || decide (k = 6)), ?_, ?_⟩
  · refine ifEq (fun h => ⟨rfl, by simp [h]⟩) (fun h => ⟨rfl, by rw [decide_eq_false h, Bool.false_or]; rfl⟩)
  rintro b _ ⟨rfl, rfl⟩
  have ev : ∀ {p : Prop} [Decidable p], p → ∀ {q : Prop} [Decidable q], fieldsOf k = fieldsOf k := fun _ _ _ => rfl
  refine ifB_of (fun h => yes ?_ ?_) (fun h => ?_)
  · simp at h; unfold kOk; omega
  · simp at h; unfold fieldsOf; rw [if_neg (by omega), if_neg (by omega), if_neg (by omega), if_neg (by omega)]
  simp at h
  refine ifEq (fun h2 => yes (by unfold kOk; omega) (by unfold fieldsOf; rw [if_pos h2])) (fun h2 => ?_)
  refine ⟨fun b w' => w = w' ∧ b = (decide (k = 3) || decide (k = 4)), ?_, ?_⟩
  · refine ifEq (fun h => ⟨rfl, by simp [h]⟩) (fun h => ⟨rfl, by rw [decide_eq_false h, Bool.false_or]; rfl⟩)
  rintro b _ ⟨rfl, rfl⟩
  refine ifB_of (fun h3 => yes ?_ ?_) (fun h3 => ?_)
  · simp at h3; unfold kOk; omega
  · simp at h3; unfold fieldsOf; rw [if_neg (by omega), if_pos (by omega)]
  simp at h3
  refine ifEq (fun h5 => yes (by unfold kOk; omega) (by unfold fieldsOf; rw [if_neg (by omega), if_neg (by omega), if_pos h5])) (fun h5 => ?_)
  have y16 : k = 7 ∨ k = 8 → K (16, true) w := fun h => yes (by unfold kOk; omega) (by unfold fieldsOf; rw [if_neg (by omega), if_neg (by omega), if_neg (by omega), if_pos h])
  refine ifEq (fun h7 => ifEq (fun _ => y16 (.inl h7)) (fun h => absurd h7 h)) (fun h7 => ?_)
  exact ifEq (fun h8 => y16 (.inr h8)) (fun h8 => no (by unfold kOk; omega))

/-! ### The parts of a command -/
def prt : Nat → CmdPart
  | 0 => ⟨1, 8, none, some fid_cmd_parts_1⟩
  | 1 => ⟨1, 4294967296, none, some fid_cmd_parts_2⟩
  | 2 => ⟨2, 0, some fid_runes_Key, some fid_cmd_parts_3⟩
  | 3 => ⟨4, 0, some fid_runes_Val, some fid_cmd_parts_4⟩
  | 4 => ⟨8, 0, some fid_runes_Val, some fid_cmd_parts_5⟩
  | _ => ⟨16, 9, none, some fid_cmd_parts_6⟩
def theParts : List CmdPart := [prt 0, prt 1, prt 2, prt 3, prt 4, prt 5]
theorem prt_get {k : Nat} (h : k < theParts.length) : theParts[k] = prt k := by
  have h' : k < 6 := h
  match k, h' with
  | 0, _ => rfl
  | 1, _ => rfl
  | 2, _ => rfl
  | 3, _ => rfl
  | 4, _ => rfl
  | 5, _ => rfl
theorem prt_has (i : Nat) : (prt i).has_ = hasI i := by
  match i with
  | 0 => rfl
  | 1 => rfl
  | 2 => rfl
  | 3 => rfl
  | 4 => rfl
  | n + 5 => rfl
theorem cmd_parts_spec {K : Sl → World → Prop} (hK : ∀ s w', OwnSl eCmdPart w' w.heap.size s theParts → Ext w w' → K s w') : cmd_parts K w := by
  unfold cmd_parts
  exact lit_ty 32 (E := eCmdPart) (xs := theParts) w.heap.size (by kernel_rfl) rfl (by decide) (fun w => by kernel_rfl) (Nat.le_refl _) fun s w' _ ho hx => hK s w' ho hx
/-- A part in a variable of its own, behind a pointer. -/
theorem part_box {T k : Nat} {K : Addr → World → Prop} (h6 : k < 6) (hz : (Pr.info? T).bind (·.zero) = some (.agg ⟨[.int .i64 0, .int .i64 0, .nilFunc, .nilFunc]⟩)) (hs : sizeT Pr T = some 4)
    (hK : ∀ p w', w.heap.size ≤ p.block → Ext w w' → Vc.Obj w' p (prt k).cs → K p w') : opTy Pr (Instr.alloc T true (.tuple #[])) pav (fun p w1 => opUn Pr (Instr.storeAt T (.pointer (some p)) (.agg ⟨(prt k).cs⟩)) (fun w2 => K p w2) w1) w := by
  refine alloc_ty hz fun p w17 hp hx17 hop => ?_
  refine st_whole (n := 4) (cs' := (prt k).cs) hs hop (by rcases six h6 with rfl | rfl | rfl | rfl | rfl | rfl <;> rfl) (by rcases six h6 with rfl | rfl | rfl | rfl | rfl | rfl <;> rfl) (by rcases six h6 with rfl | rfl | rfl | rfl | rfl | rfl <;> rfl) fun w18 hw18 hop => ?_
  exact hK p w18 (by omega) (Ext.grown' hx17 (grown_wr hw18) (by omega)) hop
theorem part_boxK {T k b : Nat} {K : Addr → World → Prop} (h6 : k < 6) (hz : (Pr.info? T).bind (·.zero) = some (.agg ⟨[.int .i64 0, .int .i64 0, .nilFunc, .nilFunc]⟩)) (hs : sizeT Pr T = some 4) (hb : b < w.heap.size)
    (hK : ∀ p w', w.heap.size ≤ p.block → Ext w w' → Vc.Obj w' p (prt k).cs → K p w') : opTy Pr (Instr.alloc T true (.tuple #[])) pav (fun p w1 => kp b w w1 <| opUn Pr (Instr.storeAt T (.pointer (some p)) (.agg ⟨(prt k).cs⟩)) (fun w2 => kp b w1 w2 <| K p w2) w1) w := by
  refine alloc_ty hz fun p w17 hp hx17 hop => kp_ext hx17 ?_
  refine st_whole (n := 4) (cs' := (prt k).cs) hs hop (by rcases six h6 with rfl | rfl | rfl | rfl | rfl | rfl <;> rfl) (by rcases six h6 with rfl | rfl | rfl | rfl | rfl | rfl <;> rfl) (by rcases six h6 with rfl | rfl | rfl | rfl | rfl | rfl <;> rfl) fun w18 hw18 hop => kp_wr hw18 (by omega) ?_
  exact hK p w18 (by omega) (Ext.grown' hx17 (grown_wr hw18) (by omega)) hop
def numI (c : ApiCmd) : Nat → Option Int
  | 0 => some c.Client
  | 1 => some c.Seq
  | 2 | 3 | 4 => none
  | _ => some c.Node
def txtI (c : ApiCmd) : Nat → List UInt8
  | 2 => c.Key
  | 3 => c.Old
  | 4 => c.Val
  | _ => []
def mostI : Nat → Int
  | 0 => 8
  | 1 => 4294967296
  | _ => 9
def okI : Nat → List UInt8 → Bool
  | 2 => keyOk
  | _ => valOk
def numRes (c : ApiCmd) (k : Int) (i : Nat) : Bool × Bool :=
  match numI c i with
  | none => (true, true)
  | some n => if need k i = true then (decide (1 ≤ n) && decide (n ≤ mostI i), true) else (true, n == 0)
def txtRes (c : ApiCmd) (k : Int) (i : Nat) : Bool × Bool :=
  match numI c i with
  | some _ => (true, true)
  | none => if need k i = true then (okI i (txtI c i), true) else (true, decide (txtI c i = []))
/-- A number's part. -/
theorem num_vc {T x t3 fid off : Nat} {a : Addr} {c : ApiCmd} {n h most f : Int} {K : Bool × Bool → World → Prop} (hT : concT Pr T = true) (ht : oneT Pr t3 = true) (ho : Vc.Obj w a c.cs) (hn : c.cs[off]? = some (.int .i64 n))
    (hcall : ∀ (w : World) (K' : Value → World → Prop), K' (.iface T (.pointer (some (a.add off)))) w → callV Pr vval fid #[.pointer (some a)] w K')
    (hK : ∀ w', Ext w w' → K (if (bAnd .i64 f h == 0) = true then (true, n == 0) else (decide (1 ≤ n) && decide (n ≤ most), true)) w') :
    newV (fun b1 w2 => callV Pr vval fid #[(.pointer (some a))] w2 fun t3' w4 => kp b1 w2 w4 <|
      opRd Pr (Instr.typeAssert t3' x T true) (tval2 Value.pointer Value.bool) (fun t5 => ifB (!t5.2) (K (true, true) w4)
        (ifB ((bAnd .i64 f h) == 0)
          (drewM (fun w6 => opRd Pr (nilSem (.pointer t5.1)) pav (fun t7 => opRd Pr (Instr.loadAt t3 (.pointer (some t7))) (Value.int .i64) (fun t8 => K (true, (t8 == 0)) w6) w6) w6) w4)
          (drewM (fun w9 => opRd Pr (nilSem (.pointer t5.1)) pav (fun t10 => opRd Pr (Instr.loadAt t3 (.pointer (some t10))) (Value.int .i64) (fun t11 =>
            ifB (decide (t11 ≥ 1)) (opRd Pr (nilSem (.pointer t5.1)) pav (fun t12 => opRd Pr (Instr.loadAt t3 (.pointer (some t12))) (Value.int .i64) (fun t13 => K ((decide (t13 ≤ most)), true) w9) w9) w9)
              (K (false, true) w9)) w9) w9) w4))) w4) w := by
  refine new_x (Ext.rfl' w) fun b1 w2 _ _ hx _ => hcall _ _ (kp_same ?_)
  refine ta_yes hT rfl (ifB_f rfl ?_)
  refine ifB_of (fun h0 => ?_) (fun h0 => ?_)
  · refine drew_of fun w6 hx' => nil_rd rfl (ld_obj ht (ho.ext (hx.trans' hx')) hn ?_)
    have := hK w6 (hx.trans' hx')
    rwa [if_pos h0] at this
  · refine drew_of fun w9 hx' => nil_rd rfl (ld_obj ht (ho.ext (hx.trans' hx')) hn ?_)
    have := hK w9 (hx.trans' hx')
    rw [if_neg (by rw [h0]; decide)] at this
    refine ifD (fun h1 => nil_rd rfl (ld_obj ht (ho.ext (hx.trans' hx')) hn ?_)) (fun h1 => ?_)
    · rw [show decide (1 ≤ n) = true from decide_eq_true h1, Bool.true_and] at this
      exact this
    · rw [show decide (1 ≤ n) = false from decide_eq_false h1, Bool.false_and] at this
      exact this
theorem num_no {T T' x fid off : Nat} {a : Addr} {K : Bool × Bool → World → Prop} {Y : Option Addr × Bool → World → Prop} (hT : concT Pr T' = true) (hne : Nat.beq T T' = false) (hz : zeroT Pr T' = some (.pointer none))
    (hcall : ∀ (w : World) (K' : Value → World → Prop), K' (.iface T (.pointer (some (a.add off)))) w → callV Pr vval fid #[.pointer (some a)] w K') (hK : ∀ w', Ext w w' → K (true, true) w') :
    newV (fun b1 w2 => callV Pr vval fid #[(.pointer (some a))] w2 fun t3' w4 => kp b1 w2 w4 <|
      opRd Pr (Instr.typeAssert t3' x T' true) (tval2 Value.pointer Value.bool) (fun t5 => ifB (!t5.2) (K (true, true) w4) (Y t5 w4)) w4) w := by
  refine new_x (Ext.rfl' w) fun b1 w2 _ _ hx _ => hcall _ _ (kp_same ?_)
  exact ta_no hT hne hz (ifB_t rfl (hK _ hx))
/-- A text's part. -/
theorem txt_vc {T x t9 fid gid off : Nat} {a : Addr} {c : ApiCmd} {s : List UInt8} {ok : List UInt8 → Bool} {h f : Int} {K : Bool × Bool → World → Prop} (hT : concT Pr T = true) (ht : oneT Pr t9 = true) (ho : Vc.Obj w a c.cs) (hn : c.cs[off]? = some (sval s))
    (hcall : ∀ (w : World) (K' : Value → World → Prop), K' (.iface T (.pointer (some (a.add off)))) w → callV Pr vval fid #[.pointer (some a)] w K')
    (hok : ∀ (w : World) (K' : Bool → World → Prop), Utf8T w → (∀ w', Ext w w' → K' (ok s) w') → callV Pr Value.bool gid #[sval s] w K') (hU : Utf8T w)
    (hK : ∀ w', Ext w w' → K (if (bAnd .i64 f h == 0) = true then (true, decide (s = [])) else (ok s, true)) w') :
    newV (fun b1 w2 => callV Pr vval fid #[(.pointer (some a))] w2 fun t3' w4 => kp b1 w2 w4 <|
      opRd Pr (Instr.typeAssert t3' x T true) (tval2 Value.pointer Value.bool) (fun t5 => ifB (!t5.2) (K (true, true) w4)
        (ifB ((bAnd .i64 f h) == 0)
          (drewM (fun w6 => opRd Pr (nilSem (.pointer t5.1)) pav (fun t7 => opRd Pr (Instr.loadAt t9 (.pointer (some t7))) sval (fun t8 => K (true, (strEq t8 [])) w6) w6) w6) w4)
          (heldM (fun S10 w9 => opH Pr S10 (nilSem (.pointer t5.1)) pav (fun t11 => opH Pr S10 (Instr.loadAt t9 (.pointer (some t11))) sval (fun t12 =>
            callV Pr Value.bool gid #[(sval t12)] w9 fun t13 w14 => kp b1 w9 w14 <| (S10 w14) ∧ (K (t13, true) w14)))) w4))) w4) w := by
  refine new_x (Ext.rfl' w) fun b1 w2 _ _ hx _ => hcall _ _ (kp_same ?_)
  refine ta_yes hT rfl (ifB_f rfl ?_)
  refine ifB_of (fun h0 => ?_) (fun h0 => ?_)
  · refine drew_of fun w6 hx' => nil_rd rfl (ld_obj ht (ho.ext (hx.trans' hx')) hn ?_)
    have := hK w6 (hx.trans' hx')
    rw [if_pos h0] at this
    rw [strEq_eq]
    exact this
  · refine heldM_of (fun w' => Vc.Obj w' a c.cs) fun w9 hx' => ⟨ho.ext (hx.trans' hx'), ?_⟩
    have hx := hx.trans' hx'
    refine opH_of (a.add off) (fun w' _ => nil_rd rfl rfl) ?_
    refine opH_of s (fun w' hw => ld_obj ht hw hn rfl) ?_
    refine hok _ _ (hU.ext hx) fun w14 hx' => kp_ext hx' ⟨ho.ext (hx.trans' hx'), ?_⟩
    have := hK w14 (hx.trans' hx')
    rwa [if_neg (by rw [h0]; decide)] at this
/-- What a part that is a number says. -/
theorem part_number {c : ApiCmd} {k : Int} {a : Addr} {K : Bool × Bool → World → Prop} {i : Nat} (hi : i < 6) (ho : Vc.Obj w a c.cs) (hK : ∀ w', Ext w w' → K (numRes c k i) w') :
    callV Pr (tval2 Value.bool Value.bool) fid_cmd_part_number #[.agg ⟨(prt i).cs⟩, .pointer (some a), .int .i64 (fieldsOf k)] w K := by
  have fin : ∀ {n : Int}, numI c i = some n → ∀ w', Ext w w' → K (if (bAnd .i64 (fieldsOf k) (hasI i) == 0) = true then (true, n == 0) else (decide (1 ≤ n) && decide (n ≤ mostI i), true)) w' := fun hn w' hx => by
    have := hK w' hx
    unfold numRes at this
    rw [hn] at this
    rw [need_eq]
    cases h : need k i
    · simp only [h] at this; simpa using this
    · simp only [h] at this; simpa using this
  have fin0 : numI c i = none → ∀ w', Ext w w' → K (true, true) w' := fun hn w' hx => by
    have := hK w' hx
    unfold numRes at this
    rw [hn] at this
    exact this
  match i, hi with
  | 0, _ => exact cmd_part_number_0_calls (c := some a) (f := fieldsOf k) (by unfold cmd_part_number_0; exact num_vc (off := 1) (by kernel_rfl) (by kernel_rfl) ho rfl (fun w K' h => cmd_parts_1_calls (c := some a) (by unfold cmd_parts_1; exact nil_rd rfl h)) (fin rfl))
  | 1, _ => exact cmd_part_number_1_calls (c := some a) (f := fieldsOf k) (by unfold cmd_part_number_1; exact num_vc (off := 2) (by kernel_rfl) (by kernel_rfl) ho rfl (fun w K' h => cmd_parts_2_calls (c := some a) (by unfold cmd_parts_2; exact nil_rd rfl h)) (fin rfl))
  | 2, _ => exact cmd_part_number_2_calls (c := some a) (f := fieldsOf k) (by unfold cmd_part_number_2; exact num_no (off := 3) (by kernel_rfl) (by kernel_rfl) (by kernel_rfl) (fun w K' h => cmd_parts_3_calls (c := some a) (by unfold cmd_parts_3; exact nil_rd rfl h)) (fin0 rfl))
  | 3, _ => exact cmd_part_number_3_calls (c := some a) (f := fieldsOf k) (by unfold cmd_part_number_3; exact num_no (off := 5) (by kernel_rfl) (by kernel_rfl) (by kernel_rfl) (fun w K' h => cmd_parts_4_calls (c := some a) (by unfold cmd_parts_4; exact nil_rd rfl h)) (fin0 rfl))
  | 4, _ => exact cmd_part_number_4_calls (c := some a) (f := fieldsOf k) (by unfold cmd_part_number_4; exact num_no (off := 4) (by kernel_rfl) (by kernel_rfl) (by kernel_rfl) (fun w K' h => cmd_parts_5_calls (c := some a) (by unfold cmd_parts_5; exact nil_rd rfl h)) (fin0 rfl))
  | 5, _ => exact cmd_part_number_5_calls (c := some a) (f := fieldsOf k) (by unfold cmd_part_number_5; exact num_vc (off := 6) (by kernel_rfl) (by kernel_rfl) ho rfl (fun w K' h => cmd_parts_6_calls (c := some a) (by unfold cmd_parts_6; exact nil_rd rfl h)) (fin rfl))
theorem part_text {c : ApiCmd} {k : Int} {a : Addr} {K : Bool × Bool → World → Prop} {i : Nat} (hi : i < 6) (hU : Utf8T w) (ho : Vc.Obj w a c.cs) (hK : ∀ w', Ext w w' → K (txtRes c k i) w') :
    callV Pr (tval2 Value.bool Value.bool) fid_cmd_part_text #[.agg ⟨(prt i).cs⟩, .pointer (some a), .int .i64 (fieldsOf k)] w K := by
  have fin : numI c i = none → ∀ w', Ext w w' → K (if (bAnd .i64 (fieldsOf k) (hasI i) == 0) = true then (true, decide (txtI c i = [])) else (okI i (txtI c i), true)) w' := fun hn w' hx => by
    have := hK w' hx
    unfold txtRes at this
    rw [hn] at this
    rw [need_eq]
    cases h : need k i
    · simp only [h] at this; simpa using this
    · simp only [h] at this; simpa using this
  have fin0 : ∀ {n : Int}, numI c i = some n → ∀ w', Ext w w' → K (true, true) w' := fun hn w' hx => by
    have := hK w' hx
    unfold txtRes at this
    rw [hn] at this
    exact this
  match i, hi with
  | 0, _ => exact cmd_part_text_0_calls (c := some a) (f := fieldsOf k) (by unfold cmd_part_text_0; exact num_no (off := 1) (Y := fun t5 w4 => _) (by kernel_rfl) (by kernel_rfl) (by kernel_rfl) (fun w K' h => cmd_parts_1_calls (c := some a) (by unfold cmd_parts_1; exact nil_rd rfl h)) (fin0 rfl))
  | 1, _ => exact cmd_part_text_1_calls (c := some a) (f := fieldsOf k) (by unfold cmd_part_text_1; exact num_no (off := 2) (Y := fun t5 w4 => _) (by kernel_rfl) (by kernel_rfl) (by kernel_rfl) (fun w K' h => cmd_parts_2_calls (c := some a) (by unfold cmd_parts_2; exact nil_rd rfl h)) (fin0 rfl))
  | 2, _ => exact cmd_part_text_2_calls (c := some a) (f := fieldsOf k) (by unfold cmd_part_text_2; exact txt_vc (off := 3) (ok := keyOk) (by kernel_rfl) (by kernel_rfl) ho rfl (fun w K' h => cmd_parts_3_calls (c := some a) (by unfold cmd_parts_3; exact nil_rd rfl h)) (fun w K' hU h => runes_Key_calls (runes_Key_spec hU h)) hU (fin rfl))
  | 3, _ => exact cmd_part_text_3_calls (c := some a) (f := fieldsOf k) (by unfold cmd_part_text_3; exact txt_vc (off := 5) (ok := valOk) (by kernel_rfl) (by kernel_rfl) ho rfl (fun w K' h => cmd_parts_4_calls (c := some a) (by unfold cmd_parts_4; exact nil_rd rfl h)) (fun w K' hU h => runes_Val_calls (runes_Val_spec hU h)) hU (fin rfl))
  | 4, _ => exact cmd_part_text_4_calls (c := some a) (f := fieldsOf k) (by unfold cmd_part_text_4; exact txt_vc (off := 4) (ok := valOk) (by kernel_rfl) (by kernel_rfl) ho rfl (fun w K' h => cmd_parts_5_calls (c := some a) (by unfold cmd_parts_5; exact nil_rd rfl h)) (fun w K' hU h => runes_Val_calls (runes_Val_spec hU h)) hU (fin rfl))
  | 5, _ => exact cmd_part_text_5_calls (c := some a) (f := fieldsOf k) (by unfold cmd_part_text_5; exact num_no (off := 6) (Y := fun t5 w4 => _) (by kernel_rfl) (by kernel_rfl) (by kernel_rfl) (fun w K' h => cmd_parts_6_calls (c := some a) (by unfold cmd_parts_6; exact nil_rd rfl h)) (fin0 rfl))

/-! ### What is wrong -/
def cRng (c : ApiCmd) : Prop := (kOwn c.Kind = true → (1 ≤ c.Client ∧ c.Client ≤ 8) ∧ 1 ≤ c.Seq ∧ c.Seq ≤ 4294967296) ∧ (kNode c.Kind = true → 1 ≤ c.Node ∧ c.Node ≤ 9)
def cTxt (c : ApiCmd) : Prop := (kOwn c.Kind = true → keyOk c.Key = true) ∧ (kVal c.Kind = true → valOk c.Val = true) ∧ (kOld c.Kind = true → valOk c.Old = true)
def cFrm (c : ApiCmd) : Prop := (kOwn c.Kind = false → c.Client = 0 ∧ c.Seq = 0 ∧ c.Key = []) ∧ (kVal c.Kind = false → c.Val = []) ∧ (kOld c.Kind = false → c.Old = []) ∧ (kNode c.Kind = false → c.Node = 0)
/-- What is wrong with a command: an error's number. -/
def CmdErr (c : ApiCmd) (e : Int) : Prop := (e = 5 ∧ ¬ kOk c.Kind) ∨ (e = 6 ∧ kOk c.Kind ∧ ¬ cRng c) ∨ (e = 7 ∧ kOk c.Kind ∧ cRng c ∧ ¬ cTxt c) ∨ (e = 3 ∧ kOk c.Kind ∧ cRng c ∧ cTxt c ∧ ¬ cFrm c) ∨ (e = 0 ∧ kOk c.Kind ∧ cRng c ∧ cTxt c ∧ cFrm c)
def CmdOk (c : ApiCmd) : Prop := kOk c.Kind ∧ cRng c ∧ cTxt c ∧ cFrm c
theorem CmdErr.uniq {c : ApiCmd} {e f : Int} (h : CmdErr c e) (k : CmdErr c f) : e = f := by
  unfold CmdErr at h k
  rcases h with h | h | h | h | h <;> rcases k with k | k | k | k | k <;> first | exact h.1.trans k.1.symm | (exfalso; simp_all)
theorem CmdErr.ok {c : ApiCmd} {e : Int} (h : CmdErr c e) : e = 0 ↔ CmdOk c := by
  unfold CmdErr at h
  unfold CmdOk
  constructor
  · intro h0
    subst h0
    rcases h with h | h | h | h | h
    · exact absurd h.1 (by decide)
    · exact absurd h.1 (by decide)
    · exact absurd h.1 (by decide)
    · exact absurd h.1 (by decide)
    · exact h.2
  · rintro ⟨h1, h2, h3, h4⟩
    rcases h with h | h | h | h | h
    · exact absurd h1 h.2
    · exact absurd h2 h.2.2
    · exact absurd h3 h.2.2.2
    · exact absurd h4 h.2.2.2.2
    · exact h.1
def chk (c : ApiCmd) : Nat → Bool × Bool × Bool
  | 0 => (true, true, true)
  | i + 1 => ((chk c i).1 && (numRes c c.Kind i).1, (chk c i).2.1 && (txtRes c c.Kind i).1, (chk c i).2.2 && (numRes c c.Kind i).2 && (txtRes c c.Kind i).2)
theorem chk_six (c : ApiCmd) : ((chk c 6).1 = true ↔ cRng c) ∧ ((chk c 6).2.1 = true ↔ cTxt c) ∧ ((chk c 6).2.2 = true ↔ cFrm c) := by
  unfold cRng cTxt cFrm
  simp only [chk, numRes, txtRes, numI, txtI, need, mostI, okI]
  cases kOwn c.Kind <;> cases kOld c.Kind <;> cases kVal c.Kind <;> cases kNode c.Kind <;> simp <;> first | omega | grind
theorem up4d {b1 b2 b3 : Bool} {a : Int} {body : Bool → Bool → Bool → Int → (Bool → Bool → Bool → Int → World → Prop) → World → Prop} (J : Nat → Bool → Bool → Bool → World → Prop) (n : Nat) (ha : a = 0) (hn : n ≤ 9223372036854775807) (h0 : J 0 b1 b2 b3 w)
    (step : ∀ (k : Nat) (c1 c2 c3 : Bool) (w' : World) (C : Bool → Bool → Bool → Int → World → Prop), k ≤ n → J k c1 c2 c3 w' → (k < n → ∀ d1 d2 d3 y w'', y = i64 ((k : Int) + 1) → J (k + 1) d1 d2 d3 w'' → C d1 d2 d3 y w'') → body c1 c2 c3 (k : Int) C w') : loop4 b1 b2 b3 a body w := by
  refine ⟨fun c1 c2 c3 x w' => ∃ k : Nat, x = k ∧ k ≤ n ∧ J k c1 c2 c3 w', fun _ _ _ x _ => (n - x).toNat, ⟨0, ha, by omega, h0⟩, ?_⟩
  rintro c1 c2 c3 x w' ⟨k, rfl, h2, h3⟩
  refine step k c1 c2 c3 w' _ h2 h3 fun hk d1 d2 d3 y w'' hy hJ => ?_
  subst hy
  rw [i64_up hk hn]
  exact ⟨⟨k + 1, rfl, by omega, hJ⟩, by dsimp only; omega⟩
theorem cmd_Check_spec {c : ApiCmd} {K : Int → World → Prop} (hU : Utf8T w) (hK : ∀ e w', CmdErr c e → Ext w w' → K e w') : cmd_Check c K w := by
  unfold cmd_Check
  refine box_ty fun a w2 ha hx ho => ?_
  refine ld_obj (off := 0) (by kernel_rfl) ho rfl ?_
  refine cmd_fields_calls (cmd_fields_spec fun b hb => ?_)
  refine ifNot (ifB_of (fun h => ?_) (fun h => hK _ _ (.inl ⟨rfl, fun h' => by rw [hb.2 h'] at h; cases h⟩) hx))
  have hk := hb.1 h
  refine cmd_parts_calls (cmd_parts_spec fun s w7 hs hx' => ?_)
  have hx := hx.trans' hx'
  have ho := ho.ext hx'
  have hsl := hs.len
  have hl6 : theParts.length = 6 := rfl
  refine up4d (fun k r t f w' => Ext w w' ∧ Vc.Obj w' a c.cs ∧ IsSl eCmdPart w' s theParts ∧ r = (chk c k).1 ∧ t = (chk c k).2.1 ∧ f = (chk c k).2.2) 6 rfl (by omega) ⟨hx, ho, hs.is, rfl, rfl, rfl⟩ ?_
  rintro k r t f w13 C hk6 ⟨hx, ho, hs, hr, ht, hf⟩ hC
  refine ifD (fun hlt => ?_) (fun hge => ?_)
  · have hk1 : k < theParts.length := by omega
    refine st_rd (E := eCmdPart) (val := CmdPart.val) (by kernel_rfl) (by kernel_rfl) hs rfl hk1 (fun _ => rfl) fun _ => ?_
    rw [prt_get hk1]
    have h6 : k < 6 := by omega
    refine alloc_ty (z := .agg ⟨[.int .i64 0, .int .i64 0, .nilFunc, .nilFunc]⟩) (by kernel_rfl) fun p w17 hp hx17 hop => ?_
    refine st_whole (n := 4) (cs' := (prt k).cs) (by kernel_rfl) hop (by rcases six h6 with rfl | rfl | rfl | rfl | rfl | rfl <;> rfl) (by rcases six h6 with rfl | rfl | rfl | rfl | rfl | rfl <;> rfl) (by rcases six h6 with rfl | rfl | rfl | rfl | rfl | rfl <;> rfl) fun w18 hw18 hop => ?_
    have hy := Ext.grown' hx17 (grown_wr hw18) (by omega)
    have hx := hx.trans' hy
    have ho := ho.ext hy
    have hs := hs.ext hy
    refine ld_whole_obj (n := 4) (x := prt k) (by kernel_rfl) hop rfl rfl ?_
    refine part_number (i := k) (by omega) ho fun w20 hx' => ?_
    have hx := hx.trans' hx'
    have ho := ho.ext hx'
    have hs := hs.ext hx'
    have hop := hop.ext hx'
    refine ld_whole_obj (n := 4) (x := prt k) (by kernel_rfl) hop rfl rfl ?_
    refine part_text (i := k) (by omega) (hU.ext hx) ho fun w22 hx' => ?_
    have hx := hx.trans' hx'
    have ho := ho.ext hx'
    have hs := hs.ext hx'
    have fin : ∀ d1 d2 d3, d1 = (chk c (k + 1)).1 → d2 = (chk c (k + 1)).2.1 → d3 = (chk c (k + 1)).2.2 → C d1 d2 d3 (i64 ((k : Int) + 1)) w22 := fun d1 d2 d3 h1 h2 h3 => hC (by omega) _ _ _ _ _ rfl ⟨hx, ho, hs, h1, h2, h3⟩
    simp only [chk, ← hr, ← ht, ← hf] at fin
    generalize numRes c c.Kind k = p at fin ⊢
    generalize txtRes c c.Kind k = q at fin ⊢
    obtain ⟨p1, p2⟩ := p
    obtain ⟨q1, q2⟩ := q
    cases r <;> cases t <;> cases f <;> cases p2 <;> exact fin _ _ _ (by simp) (by simp) (by simp)
  · obtain rfl : k = 6 := by omega
    obtain ⟨c1, c2, c3⟩ := chk_six c
    rw [← hr] at c1
    rw [← ht] at c2
    rw [← hf] at c3
    refine ifNot (ifB_of (fun h1 => ?_) (fun h1 => hK _ _ (.inr (.inl ⟨rfl, hk, fun h => by rw [c1.2 h] at h1; cases h1⟩)) hx))
    refine ifNot (ifB_of (fun h2 => ?_) (fun h2 => hK _ _ (.inr (.inr (.inl ⟨rfl, hk, c1.1 h1, fun h => by rw [c2.2 h] at h2; cases h2⟩))) hx))
    exact ifNot (ifB_of (fun h3 => hK _ _ (.inr (.inr (.inr (.inr ⟨rfl, hk, c1.1 h1, c2.1 h2, c3.1 h3⟩)))) hx) (fun h3 => hK _ _ (.inr (.inr (.inr (.inl ⟨rfl, hk, c1.1 h1, c2.1 h2, fun h => by rw [c3.2 h] at h3; cases h3⟩)))) hx))
end Go.Chg
