/-
  The law of chapter 42 about texts that are read.
-/
import Derived.Test.YtnnoalpkldpjfaaGreatDoorSpRd2
set_option maxRecDepth 20000
set_option linter.unusedVariables false
namespace Go.Chg
open Go.Vc
open Go.RowKit (Below)
variable {w : World} {s : List UInt8} {a b : Sl} {l : List ApiEvent}
theorem ref42_Same_spec {K : Bool → World → Prop} (ha : IsSl eApiEvent w a l) (hb : IsSl eApiEvent w b l) (hK : ∀ w', Ext w w' → K true w') : ref42_Same a b K w := by
  unfold ref42_Same
  have h1 := ha.len
  have h2 := hb.len
  have hc := ha.cap
  have hm := ha.max
  refine ifNe (fun h => absurd (show (a.len : Int) = (b.len : Int) by omega) h) (fun _ => ?_)
  refine up1 (fun k v => Ext w v) 0 l.length rfl (Nat.zero_le _) (by omega) (Ext.rfl' _) ?_
  rintro k v C _ hk hx hC
  refine ifD (fun hlt => drew_of fun v4 hx4 => ?_) (fun _ => hK _ hx)
  have hk1 : k < l.length := by omega
  have hx := hx.trans' hx4
  refine st_rd (E := eApiEvent) (by kernel_rfl) (by kernel_rfl) (ha.ext hx) rfl hk1 (fun _ => rfl) fun _ => ?_
  refine st_rd (E := eApiEvent) (by kernel_rfl) (by kernel_rfl) (hb.ext hx) rfl hk1 (fun _ => rfl) fun _ => ?_
  exact neSt (by kernel_rfl) (ApiEvent.eqv l[k] l[k]) (ifB_f (by rw [ApiEvent.eqs_iff.2 rfl]; rfl) (hC hk1 _ _ rfl hx))
/-- The first line end behind a place. -/
theorem upTo_first (c : UInt8) {r : List UInt8} {n : Nat} (hn : ∀ j, j < n → r[j]? ≠ some c) : (r[n]? = some c → upTo c r = r.take n) ∧ (r.length ≤ n → upTo c r = r) := by
  induction r generalizing n with
  | nil => exact ⟨fun h => by simp at h, fun _ => rfl⟩
  | cons x r ih =>
    cases n with
    | zero => exact ⟨fun h => by simp at h; simp [upTo, h], fun h => by simp at h⟩
    | succ n =>
      have hx : x ≠ c := fun e => hn 0 (by omega) (by simp [e])
      obtain ⟨i1, i2⟩ := ih (n := n) fun j hj => by have := hn (j + 1) (by omega); simpa using this
      refine ⟨fun h => ?_, fun h => ?_⟩
      · unfold upTo
        rw [if_neg hx, List.take_succ_cons, i1 (by simpa using h)]
      · unfold upTo
        rw [if_neg hx, i2 (by simp at h; omega)]
theorem law42_ScriptReads_spec {K : Bool → World → Prop} (hU : Utf8T w) (hC : ConvT w) (hE : ErrT w) (hK : ∀ w', Ext w w' → K true w') : law42_ScriptReads s K w := by
  unfold law42_ScriptReads
  have aw : ∀ {u : World} {X : Bool → World → Prop}, Ext w u → (∀ w', Ext u w' → X true w') → callV Pr Value.bool fid_law42_awake #[] u X := fun hx h => law42_awake_calls (law42_awake_spec (hU.ext hx) (hC.ext hx) (hE.ext hx) h)
  refine ifD (fun _ => aw (Ext.rfl' w) hK) (fun h500 => ?_)
  have h500 : s.length ≤ 500 := by omega
  have lens := linesL_len s
  refine script_Read_calls (script_Read_spec hU hC hE (by omega) (fun x hx => by have := (linesL_mem hx).2.2; omega) fun r w4 hr hx4 => ?_)
  obtain ⟨B, hB⟩ : ∃ B, B = w4.heap.size := ⟨_, rfl⟩
  -- the outcome where a line is none
  have bad : ∀ {u : World} {bb : Nat} {y : List UInt8} {pre post : List (List UInt8)}, Ext w u → linesL s = pre ++ y :: post → fine pre → cls y = none →
      ifB ((r.1.len : Int) == 0) (ifB (r.2.1 == i64 ((pre.length : Int) + 1)) (ifB (r.2.2 == 3) (callV Pr Value.bool fid_law42_awake #[] u fun t28 w29 => kp bb u w29 <| K t28 w29) (K false u)) (K false u)) (K false u) := fun {u bb y pre post} hx hsp hf hc => by
    have hr' := hr
    have hlen := congrArg List.length hsp
    rw [List.length_append, List.length_cons] at hlen
    unfold ReadR at hr'
    rw [hsp, badAt_fine hf, badAt_bad hc, Nat.zero_add] at hr'
    simp only at hr'
    rw [hr']
    refine ifEq (fun _ => ?_) (fun h => absurd rfl h)
    refine ifEq (fun _ => ?_) (fun h => absurd (show ((pre.length + 1 : Nat) : Int) = i64 ((pre.length : Int) + 1) by rw [i64_id] <;> omega) h)
    exact ifEq (fun _ => aw hx fun w' hx' => kp_ext hx' (hK _ (hx.trans' hx'))) (fun h => absurd rfl h)
  refine ⟨fun want from_ line i W => ∃ (f k : Nat) (pre : List (List UInt8)), from_ = (f : Int) ∧ i = (k : Int) ∧ f ≤ k ∧ k ≤ s.length ∧ linesL s = pre ++ linesL (s.drop f) ∧ fine pre ∧ line = (pre.length : Int) ∧ OwnSl eApiEvent W B want (evsOf pre) ∧ Ext w4 W ∧ (∀ j, f ≤ j → j < k → s[j]? ≠ some 10) ∧ (k = s.length → f = s.length),
    fun _ _ _ i _ => (s.length - i).toNat, ⟨0, 0, [], rfl, rfl, Nat.le_refl _, Nat.zero_le _, rfl, fun y hy => (by cases hy), rfl, OwnSl.nil _ _ _, Ext.rfl' _, fun j h1 h2 => by omega, fun h => h⟩, ?_⟩
  rintro want from_ line i W ⟨f, k, pre, rfl, rfl, hfk, hk, hsp, hf, rfl, ho, hxW, hno, hend⟩
  have hxw := hx4.trans' hxW
  refine ifD (fun hlt => ?_) (fun hge => ?_)
  rotate_left
  · -- behind the last sign
    have hfe := hend (by omega)
    rw [hfe, List.drop_length, linesL_nil, List.append_nil] at hsp
    have hr' := hr
    unfold ReadR at hr'
    have hb := badAt_fine (r := []) (n := 0) hf
    rw [List.append_nil] at hb
    rw [hsp, hb] at hr'
    obtain ⟨h1, h2, _⟩ := hr'
    rw [h1]
    refine ifEq (fun _ => ifEq (fun _ => ?_) (fun h => absurd rfl h)) (fun h => absurd rfl h)
    refine ref42_Same_calls (ref42_Same_spec (h2.ext hxW) ho.is fun w37 hx37 => ifB_t rfl ?_)
    exact aw (hxw.trans' hx37) fun w' hx' => hK _ ((hxw.trans' hx37).trans' hx')
  have hk1 : k < s.length := by omega
  have hget : s[k]? = some s[k] := List.getElem?_eq_getElem hk1
  have i1 : i64 ((k : Int) + 1) = ((k + 1 : Nat) : Int) := by rw [i64_id] <;> omega
  have plen : pre.length ≤ s.length := by
    have := congrArg List.length hsp
    rw [List.length_append] at this
    omega
  refine ⟨fun v => W = v ∧ (s[k] = 10 ∨ k + 1 = s.length), ?_, ?_⟩
  · refine idx_str k (by kernel_rfl) rfl hk1 ?_
    refine ifNe (fun h10 => ?_) (fun h10 => ⟨rfl, .inl (UInt8.toNat.inj (by show s[k].toNat = 10; omega))⟩)
    rw [i1]
    refine ifD (fun hlt2 => ?_) (fun hge2 => ⟨rfl, .inr (by omega)⟩)
    refine ⟨⟨f, k + 1, pre, rfl, rfl, by omega, by omega, hsp, hf, rfl, ho, hxW, fun j h1 h2 => ?_, fun h => by omega⟩, by dsimp only; omega⟩
    by_cases hj : j < k
    · exact hno j h1 hj
    · have : j = k := by omega
      subst this
      rw [hget]
      intro e
      exact h10 (by rw [Option.some.inj e]; rfl)
  rintro _ ⟨rfl, hat⟩
  -- the line
  obtain ⟨rest, hrest⟩ : ∃ rest, rest = s.drop f := ⟨_, rfl⟩
  have hrl : rest.length = s.length - f := by rw [hrest, List.length_drop]
  have hne : rest ≠ [] := fun e => by
    have := congrArg List.length e
    rw [List.length_nil] at this
    omega
  have hrget : ∀ j, rest[j]? = s[f + j]? := fun j => by rw [hrest, List.getElem?_drop]
  obtain ⟨u1, u2⟩ := upTo_first 10 (r := rest) (n := k - f) fun j hj => by rw [hrget]; exact hno _ (by omega) (by omega)
  obtain ⟨y, hy⟩ : ∃ y, y = rest.take (lineN rest) := ⟨_, rfl⟩
  obtain ⟨e1, e2⟩ := line_shape hne
  have hnext : linesL s = pre ++ y :: linesL (rest.drop (lineN rest)) := by rw [hsp, ← hrest, linesL_cons hne, hy]
  have facts : (s[k] = 10 → upTo 10 y = (s.drop f).take (k - f) ∧ (upTo 10 y).length < y.length) ∧ (s[k] ≠ 10 → upTo 10 y = (s.drop f).take (k + 1 - f) ∧ ¬ (upTo 10 y).length < y.length) ∧ lineN rest = k + 1 - f := by
    by_cases h10 : s[k] = 10
    · have hu : upTo 10 rest = rest.take (k - f) := u1 (by rw [hrget, show f + (k - f) = k from by omega, hget, h10])
      have hul : (upTo 10 rest).length = k - f := by rw [hu, List.length_take]; omega
      have hlN : lineN rest = k + 1 - f := by
        unfold lineN
        rw [if_pos (by omega)]
        omega
      refine ⟨fun _ => ⟨by rw [hy, e1, hu, hrest], ?_⟩, fun h => absurd h10 h, hlN⟩
      rw [hy, e1, hul, List.length_take]
      omega
    · have hke : k + 1 = s.length := hat.resolve_left h10
      have hu : upTo 10 rest = rest := by
        refine (upTo_first 10 (r := rest) (n := k + 1 - f) fun j hj => ?_).2 (by omega)
        rw [hrget]
        by_cases hj2 : f + j < k
        · exact hno _ (by omega) hj2
        · rw [show f + j = k from by omega, hget]
          exact fun e => h10 (Option.some.inj e)
      have hlN : lineN rest = k + 1 - f := by
        unfold lineN
        rw [if_neg (by rw [hu]; omega)]
        omega
      refine ⟨fun h => absurd h h10, fun _ => ⟨?_, ?_⟩, hlN⟩
      · rw [hy, e1, hu, ← hrest, List.take_of_length_le (by omega)]
      · rw [hy, e1, hu, List.length_take]
        omega
  obtain ⟨fa, fb, fN⟩ := facts
  have hdrop : rest.drop (lineN rest) = s.drop (k + 1) := by
    rw [hrest, List.drop_drop, ← hrest, fN]
    congr 1
    omega
  rw [hdrop] at hnext
  have hplen : pre.length + 1 ≤ s.length := by
    have := congrArg List.length hnext
    rw [List.length_append, List.length_cons] at this
    omega
  have p1 : i64 ((pre.length : Int) + 1) = ((pre ++ [y]).length : Int) := by
    rw [List.length_append, List.length_singleton, i64_id] <;> omega
  have ul := upTo_le 10 y
  have yl : y.length ≤ 500 := by rw [hy, List.length_take]; omega
  -- on to the next line
  have nextI : ∀ {v : World} {out : Sl}, Ext w4 v → OwnSl eApiEvent v B out (evsOf (pre ++ [y])) → cls y ≠ none →
      (∃ (f' k' : Nat) (pre' : List (List UInt8)), i64 ((k : Int) + 1) = (f' : Int) ∧ i64 ((k : Int) + 1) = (k' : Int) ∧ f' ≤ k' ∧ k' ≤ s.length ∧ linesL s = pre' ++ linesL (s.drop f') ∧ fine pre' ∧ i64 ((pre.length : Int) + 1) = (pre'.length : Int) ∧ OwnSl eApiEvent v B out (evsOf pre') ∧ Ext w4 v ∧
        (∀ j, f' ≤ j → j < k' → s[j]? ≠ some 10) ∧ (k' = s.length → f' = s.length)) ∧ ((s.length : Int) - i64 ((k : Int) + 1)).toNat < ((s.length : Int) - (k : Int)).toNat := fun {v out} hx ho hc =>
    ⟨⟨k + 1, k + 1, pre ++ [y], i1, i1, Nat.le_refl _, by omega, by rw [hnext]; simp, fine_app hf hc, p1, ho, hx, fun j h1 h2 => by omega, fun h => h⟩, by rw [i1]; omega⟩
  refine sub_str_lh (m := f) (n := k + 1) (by kernel_rfl) rfl i1 (by omega) (by omega) ?_
  refine idx_str k (by kernel_rfl) rfl hk1 ?_
  have b10 : ∀ {c : UInt8}, ((c.toNat : Int) = 10) → c = 10 := fun h => UInt8.toNat.inj (by show _ = 10; omega)
  refine ⟨fun t v => W = v ∧ t = upTo 10 y, ?_, ?_⟩
  · refine ifEq (fun h10 => ?_) (fun h10 => ⟨rfl, ((fb fun e => h10 (by rw [e]; rfl)).1).symm⟩)
    exact sub_str_lh (m := f) (n := k) (by kernel_rfl) rfl rfl (by omega) (by omega) ⟨rfl, (fa (b10 h10)).1.symm⟩
  rintro _ _ ⟨rfl, rfl⟩
  refine ⟨fun v => W = v ∧ skipL y = false, ?_, ?_⟩
  · refine ifEq (fun h10 => ?_) (fun h10 => ⟨rfl, ?_⟩)
    · have hends := (fa (b10 h10)).2
      refine ifB_of (fun he => ?_) (fun he => ?_)
      · rw [strEq_eq, decide_eq_true_eq] at he
        have hc := cls_skip (y := y) (by unfold skipL; rw [decide_eq_true hends, decide_eq_true he]; rfl)
        exact nextI hxW (by rw [evsOf_skip hc]; exact ho) (by rw [hc]; simp)
      · rw [strEq_eq, decide_eq_false_iff_not] at he
        have hpos : 0 < (upTo 10 y).length := List.length_pos_iff.2 he
        have hh : (upTo 10 y).head? = some (upTo 10 y)[0] := by rw [List.head?_eq_getElem?, List.getElem?_eq_getElem hpos]
        refine idx_str 0 (by kernel_rfl) rfl hpos ?_
        refine ifEq (fun h35 => ?_) (fun h35 => ⟨rfl, ?_⟩)
        · have h35 : (upTo 10 y)[0] = 35 := UInt8.toNat.inj (by show (upTo 10 y)[0].toNat = 35; omega)
          have hc := cls_skip (y := y) (by unfold skipL; rw [decide_eq_true hends, hh, h35]; simp)
          exact nextI hxW (by rw [evsOf_skip hc]; exact ho) (by rw [hc]; simp)
        · have e3 : decide ((upTo 10 y).head? = some 35) = false := by
            rw [hh, decide_eq_false_iff_not]
            intro e
            exact h35 (by rw [Option.some.inj e]; rfl)
          unfold skipL
          rw [decide_eq_false he, e3]
          simp
    · have := (fb fun e => h10 (by rw [e]; rfl)).2
      unfold skipL
      rw [decide_eq_false this]
      rfl
  rintro _ ⟨rfl, hsk⟩
  refine script_Parse_calls (script_Parse_spec (hU.ext hxw) (hC.ext hxw) (hE.ext hxw) (by omega) fun r2 w24 hr2 hx24 => ?_)
  have hx24w := hxW.trans' hx24
  refine new_x hx24w fun b25 w26 h25 l25 hx26 n25 => wr_x hx26 h25 fun w27 hx27 hw27 => ?_
  have hx427 := hx4.trans' hx27
  have e25 : w24.heap.size = b25 := n25.1.symm
  have ho27 : OwnSl eApiEvent w27 B want (evsOf pre) := ((ho.ext hx24).ext (Ext.new n25)).wrN hw27 (n := w24.heap.size) (fun c hc => by have := ho.lt c hc; have := hx24.size; omega) (by omega)
  refine ifNe (fun h0 => bad hx427 hnext hf (cls_fail hsk hr2 h0)) (fun h0 => ?_)
  refine ifNot (ifEq (fun h10 => ?_) (fun h10 => bad hx427 hnext hf (cls_cut hsk (fb fun e => h10 (by rw [e]; rfl)).2)))
  obtain ⟨hc, _⟩ := cls_ok hsk (fa (b10 h10)).2 hr2 h0
  have elen := evsOf_len pre
  refine lit1_ty (E := eApiEvent) (x := r2.1) 112 w27.heap.size (by kernel_rfl) (by decide) (fun w => by kernel_rfl) (Nat.le_refl _) fun t32 w33 _ ht32 hx33 => kp_ext hx33 ?_
  have own : ∀ c, some c = want.blk → B ≤ c ∧ c < W.heap.size := fun c hc => ⟨ho.ge c hc.symm, ho.lt c hc.symm⟩
  have := hx24.size
  refine app_ty (E := eApiEvent) 112 (by kernel_rfl) (by kernel_rfl) (ho27.ext hx33) ht32.is (by simp only [List.length_singleton]; omega) (by have := hx27.size; have := hx33.size; omega) (by decide) fun s' w35 ho' hg => kp_grown hg (fun e => by have := (own _ e).2; omega) ?_
  exact nextI (Ext.own (hx27.trans' hx33) (ho27.ext hx33) (by omega) hg) (by rw [evsOf_ev hc]; exact ho') (by rw [hc]; simp)
end Go.Chg
