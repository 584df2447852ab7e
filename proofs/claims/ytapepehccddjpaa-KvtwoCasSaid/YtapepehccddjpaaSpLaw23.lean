/-
  The law of what package 'kvone' keeps.
-/
import Derived.Test.YtapepehccddjpaaSpKv
set_option maxRecDepth 20000
set_option linter.unusedVariables false
namespace Go.Chg
open Go.Vc

theorem pairOf_ins {l : List ApiPair} (hu : PUp l) (p : ApiPair) : pairOf (pairIns l p) p.Key = some p := get_ins ordS hu p
theorem pairOf_ins_ne {l : List ApiPair} (hu : PUp l) {p : ApiPair} {n : List UInt8} (h : n ≠ p.Key) : pairOf (pairIns l p) n = pairOf l n := get_ins_ne ordS hu h
theorem pairOf_del {l : List ApiPair} {n : List UInt8} : pairOf (pairDel l n) n = none := get_del ordS
theorem pairOf_del_ne {l : List ApiPair} (hu : PUp l) {m n : List UInt8} (h : n ≠ m) : pairOf (pairDel l m) n = pairOf l n := get_del_ne ordS hu h
theorem pairIns_up {l : List ApiPair} (hu : PUp l) (p : ApiPair) : PUp (pairIns l p) := hu.ins ordS p
theorem pairDel_up {l : List ApiPair} (hu : PUp l) (n : List UInt8) : PUp (pairDel l n) := hu.filter _
theorem three_len {α : Type} (c : α → Int) : ∀ l : List α, (l.filter fun x => decide (c x < 0)).length + (l.filter fun x => decide (0 < c x)).length + (l.filter fun x => decide (c x = 0)).length = l.length
  | [] => rfl
  | x :: l => by
    have ih := three_len c l
    simp only [List.filter_cons, List.length_cons]
    rcases Int.lt_trichotomy (c x) 0 with h | h | h
    · have h1 : ¬ 0 < c x := by omega
      have h2 : ¬ c x = 0 := by omega
      simp only [h, h1, h2, decide_true, decide_false, if_true, List.length_cons, Bool.false_eq_true, if_false]
      omega
    · simp only [h, Int.lt_irrefl, decide_true, decide_false, if_true, List.length_cons, Bool.false_eq_true, if_false]
      omega
    · have h1 : ¬ c x < 0 := by omega
      have h2 : ¬ c x = 0 := by omega
      simp only [h, h1, h2, decide_true, decide_false, if_true, List.length_cons, Bool.false_eq_true, if_false]
      omega
theorem insC_len' {α : Type} (c : α → Int) (l : List α) (s : α) : (insC c l s).length ≤ l.length + 1 := by
  have := three_len c l
  unfold insC
  rw [List.length_append, List.length_cons]
  omega
theorem insC_len_in {α : Type} {c : α → Int} {l : List α} {x : α} (hx : x ∈ l) (h0 : c x = 0) (s : α) : (insC c l s).length ≤ l.length := by
  have := three_len c l
  have h1 : 0 < (l.filter fun x => decide (c x = 0)).length := List.length_pos_of_mem (List.mem_filter.2 ⟨hx, by simpa using h0⟩)
  unfold insC
  rw [List.length_append, List.length_cons]
  omega
theorem pairIns_len {l : List ApiPair} (p : ApiPair) (h : l.length ≤ 64) (hr : (pairOf l p.Key).isSome = true ∨ l.length < 64) : (pairIns l p).length ≤ 64 := by
  rcases hr with hr | hr
  · obtain ⟨x, hx⟩ := Option.isSome_iff_exists.1 hr
    obtain ⟨h1, h2⟩ := get_some ordS hx
    exact Nat.le_trans (insC_len_in h1 ((ordS.eq _ _).2 h2) p) h
  · exact Nat.le_trans (insC_len' _ _ _) (by omega)
theorem PairsOk.ins {sch : Int} {l : List ApiPair} {p : ApiPair} (h : PairsOk sch l) (hp : pairOk sch p) (hr : (pairOf l p.Key).isSome = true ∨ l.length < 64) : PairsOk sch (pairIns l p) :=
  ⟨fun x hx => by
    rcases (mem_ins ordS).1 hx with rfl | ⟨h1, _⟩
    · exact hp
    · exact h.1 _ h1, pairIns_len p h.2.1 hr, pairIns_up h.2.2 p⟩
theorem PairsOk.del {sch : Int} {l : List ApiPair} {n : List UInt8} (h : PairsOk sch l) : PairsOk sch (pairDel l n) :=
  ⟨fun x hx => h.1 _ (List.mem_filter.1 hx).1, Nat.le_trans (List.length_filter_le _ _) h.2.1, pairDel_up h.2.2 n⟩

theorem doOne_up {l : List ApiPair} (hu : PUp l) (c : ApiCmd) : PUp (doOne l c).1 := by
  unfold doOne
  dsimp only
  split
  · split
    · exact pairIns_up hu _
    · exact hu
  · split
    · exact hu
    · split
      · exact pairDel_up hu _
      · exact hu
theorem doOne_len (l : List ApiPair) (c : ApiCmd) : (doOne l c).1.length ≤ l.length + 1 := by
  unfold doOne
  dsimp only
  split
  · split
    · exact insC_len' _ _ _
    · simp
  · split
    · simp
    · split
      · exact Nat.le_succ_of_le (List.length_filter_le _ _)
      · simp
theorem doOne_other {l : List ApiPair} (hu : PUp l) (c : ApiCmd) {n : List UInt8} (h : n ≠ c.Key) : pairOf (doOne l c).1 n = pairOf l n := by
  unfold doOne
  dsimp only
  split
  · split
    · exact pairOf_ins_ne hu h
    · rfl
  · split
    · rfl
    · split
      · exact pairOf_del_ne hu h
      · rfl
theorem doOne_set {l : List ApiPair} (hu : PUp l) {c : ApiCmd} (h2 : c.Kind = 2) (he : (doOne l c).2.Err = 0) : pairOf (doOne l c).1 c.Key = some ⟨c.Key, c.Val, 0⟩ := by
  unfold doOne at he ⊢
  dsimp only at he ⊢
  rw [if_pos h2] at he ⊢
  split at he
  · rename_i h
    rw [if_pos h]
    exact pairOf_ins hu ⟨c.Key, c.Val, 0⟩
  · exact absurd he (show ¬ (11 : Int) = 0 by decide)
theorem doOne_del {l : List ApiPair} {c : ApiCmd} (h4 : c.Kind = 4) : pairOf (doOne l c).1 c.Key = none := by
  unfold doOne
  dsimp only
  rw [if_neg (by omega), if_neg (by omega), if_pos h4]
  exact pairOf_del
theorem doOne_ok {l : List ApiPair} {c : ApiCmd} (h : PairsOk 1 l) (hp : c.Kind = 2 → pairOk 1 ⟨c.Key, c.Val, 0⟩) : PairsOk 1 (doOne l c).1 := by
  unfold doOne
  dsimp only
  split
  · rename_i h2
    split
    · rename_i hr
      exact h.ins (hp h2) hr
    · exact h
  · split
    · exact h
    · split
      · exact h.del
      · exact h
theorem law23_large_spec {c : ApiCmd} {K : Bool → World → Prop} {w : World} (hK : ∀ b w', Ext w w' → K b w') : law23_large c K w := by
  unfold law23_large
  exact new_of fun b1 w1 hn1 => ifD (fun _ => hK _ _ (Ext.new hn1)) fun _ => ifD (fun _ => hK _ _ (Ext.new hn1)) fun _ => hK _ _ (Ext.new hn1)
theorem law23_awake_spec {K : Bool → World → Prop} {w : World} (hK : ∀ w', Ext w w' → K true w') : law23_awake K w := by
  unfold law23_awake
  refine kvone_Do_calls (l := Sl.nil) (c := ⟨2, 1, 1, [97], [49], [], 0⟩) (kvone_Do_spec (l := []) (IsSl.nilSl _ _) List.Pairwise.nil (by simp) fun s1 w1 ho1 hx1 => ?_)
  have hu : PUp (doOne [] ⟨2, 1, 1, [97], [49], [], 0⟩).1 := doOne_up List.Pairwise.nil _
  have hget : pairOf (doOne [] ⟨2, 1, 1, [97], [49], [], 0⟩).1 [97] = some ⟨[97], [49], 0⟩ := doOne_set List.Pairwise.nil (c := ⟨2, 1, 1, [97], [49], [], 0⟩) rfl rfl
  refine new_of fun b3 w2 hn2 => wr_of fun w3 hw3 => ?_
  have hb3 : b3 = w1.heap.size := hn2.1
  have hx13 : Ext w1 w3 := Below.wr (Ext.new hn2) (by omega) hw3
  have hl2 := hn2.lt
  refine kvone_Do_calls (l := s1) (c := ⟨3, 1, 2, [97], [], [], 0⟩) (kvone_Do_spec (ho1.is.ext hx13) hu (by decide) fun s4 w4 ho4 hx4 => kp_ext hx4 ?_)
  have h4 := hx4.size
  refine new_of fun b5 w5 hn5 => wr_of fun w6 hw6 => ?_
  have hx46 : Ext w4 w6 := Below.wr (Ext.new hn5) (by have := hn5.1; omega) hw6
  have h2 : (doOne (doOne [] ⟨2, 1, 1, [97], [49], [], 0⟩).1 ⟨3, 1, 2, [97], [], [], 0⟩).2 = ⟨1, 2, 0, true, [49], 0⟩ := by
    rw [doOne]
    dsimp only
    rw [hget]
    rfl
  rw [h2]
  have he : strEq [49] [49] = true := by rw [strEq_eq]; rfl
  exact ifEq (fun _ => ifB_t rfl (by
    have := hK w6 (hx1.trans' (hx13.trans' (hx4.trans' hx46)))
    rw [← he] at this
    exact this)) (fun h => absurd (by rw [ho1.len]; rfl) h)
theorem law23_KvoneKeeps_spec {s : Sl} {l : List ApiPair} {c : ApiCmd} {other : List UInt8} {K : Bool → World → Prop} {w : World} (hs : IsSl eApiPair w s l) (hK : ∀ w', Ext w w' → K true w') : law23_KvoneKeeps s c other K w := by
  unfold law23_KvoneKeeps
  refine new_of fun b1 w1 hn1 => ?_
  have hx1 := Ext.new hn1
  refine ref23_Large_calls (ref23_Large_spec (hs.ext hx1) fun b hb => kp_same ?_)
  refine ifB_of (fun _ => law23_awake_calls (law23_awake_spec fun w' hx => kp_ext hx (hK w' (hx1.trans' hx)))) (fun h => ?_)
  have hsm := hb h
  have hle : l.length ≤ 80 := hsm.1
  refine law23_large_calls (c := c) (law23_large_spec fun b2 w2 hx2 => kp_ext hx2 ?_)
  have hx2' := hx1.trans' hx2
  refine ifB_of (fun _ => law23_awake_calls (law23_awake_spec fun w' hx => kp_ext hx (hK w' (hx2'.trans' hx)))) (fun _ => ?_)
  refine ifD (fun _ => law23_awake_calls (law23_awake_spec fun w' hx => kp_ext hx (hK w' (hx2'.trans' hx)))) (fun _ => ?_)
  refine ref23_Rise_calls (ref23_Rise_spec (hs.ext hx2') fun b3 w3 hb3 hx3 => kp_ext hx3 ?_)
  have hx3' := hx2'.trans' hx3
  refine ifNot (ifB_of (fun h3 => ?_) (fun _ => law23_awake_calls (law23_awake_spec fun w' hx => kp_ext hx (hK w' (hx3'.trans' hx)))))
  have hu := hb3.1 h3
  refine kvone_Do_calls (l := s) (c := c) (kvone_Do_spec (c := c) (hs.ext hx3') hu (by omega) fun s2 w4 ho4 hx4 => kp_ext hx4 ?_)
  have hx4' := hx3'.trans' hx4
  have hu2 : PUp (doOne l c).1 := doOne_up hu c
  have hle2 : (doOne l c).1.length ≤ 4611686018427387903 := Nat.le_trans (doOne_len l c) (by omega)
  have hother := fun h => doOne_other hu c (n := other) h
  have hset := fun h he => doOne_set hu (c := c) h he
  have hdel := fun h => doOne_del (l := l) (c := c) h
  have hokay := fun h hp => doOne_ok (l := l) (c := c) h hp
  generalize hr : doOne l c = r at ho4 hu2 hle2 hother hset hdel hokay
  have hsz4 := hx4'.size
  refine new_of fun b19 w5 hn5 => wr_of fun w6 hw6 => ?_
  have hx46 : Ext w4 w6 := Below.wr (Ext.new hn5) (by have := hn5.1; omega) hw6
  have hs6 := hx46.size
  refine kvone_Find_calls (kvone_Find_spec (ho4.is.ext hx46) hu2 hle2 fun w7 hx7 => ?_)
  repeat (refine kp_ext hx7 ?_)
  have hx47 := hx46.trans' hx7
  have hs7 := hx47.size
  refine new_of fun b24 w8 hn8 => wr_of fun w9 hw9 => ?_
  have hx49 : Ext w4 w9 := Below.wr (hx47.trans' (Ext.new hn8)) (by have := hn8.1; omega) hw9
  refine kvone_Find_calls (kvone_Find_spec (ho4.is.ext hx49) hu2 hle2 fun w10 hx10 => ?_)
  repeat (refine kp_ext hx10 ?_)
  have hx410 := hx49.trans' hx10
  have hs10 := hx410.size
  refine new_of fun b29 w11 hn11 => wr_of fun w12 hw12 => ?_
  have hx412 : Ext w4 w12 := Below.wr (hx410.trans' (Ext.new hn11)) (by have := hn11.1; omega) hw12
  have hxw := hx4'.trans' hx412
  refine kvone_Find_calls (kvone_Find_spec (hs.ext hxw) hu (by omega) fun w13 hx13 => ?_)
  repeat (refine kp_ext hx13 ?_)
  have hx413 := hx412.trans' hx13
  have hs13 := hx413.size
  refine new_of fun b34 w14 hn14 => wr_of fun w15 hw15 => ?_
  have hx415 : Ext w4 w15 := Below.wr (hx413.trans' (Ext.new hn14)) (by have := hn14.1; omega) hw15
  have hx15 := hx4'.trans' hx415
  refine ⟨fun w' => w' = w15, ?_, ?_⟩
  · have tail : ∀ {F : World → Prop}, F w15 → ifB (c.Kind == 2) (ifB (r.2.Err == 0) (ifB (!(pairOf r.1 c.Key).isSome) (K false w15) (ifB (!(strEq ((pairOf r.1 c.Key).getD noPair).Val c.Val)) (K false w15) (ifB (c.Kind == 4) (ifB (pairOf r.1 c.Key).isSome (K false w15) (F w15)) (F w15)))) (ifB (c.Kind == 4) (ifB (pairOf r.1 c.Key).isSome (K false w15) (F w15)) (F w15))) (ifB (c.Kind == 4) (ifB (pairOf r.1 c.Key).isSome (K false w15) (F w15)) (F w15)) := fun hF => by
      refine ifEq (fun h2 => ?_) (fun h2 => ?_)
      · refine ifEq (fun he => ?_) (fun _ => ifEq (fun h4 => by omega) (fun _ => hF))
        rw [hset h2 he]
        refine ifB_f rfl (ifB_f (by rw [strEq_eq]; simp) (ifEq (fun h4 => by omega) (fun _ => hF)))
      · refine ifEq (fun h4 => ?_) (fun _ => hF)
        rw [hdel h4]
        exact ifB_f rfl hF
    refine ifNot (ifStr (fun _ => tail rfl) (fun hne => ?_))
    rw [hother hne]
    refine neSt (by kernel_rfl) (ApiPair.eqv _ _) (ifNot (ifB_t ?_ (ifB_f ?_ (tail rfl))))
    · exact ApiPair.eqs_iff.2 rfl
    · simp
  · rintro w15' hw15'
    subst hw15'
    have sayT : ∀ {w' : World}, Ext w15' w' → K true w' := fun hx => hK _ (hx15.trans' hx)
    refine ref23_Check_calls (ref23_Check_spec (hs.ext hx15) fun b4 w16 hb4 hx16 => ?_)
    repeat (refine kp_ext hx16 ?_)
    refine ifNot (ifB_of (fun h4 => ?_) (fun _ => law23_awake_calls (law23_awake_spec fun w' hx => ?_)))
    · have hok := hb4.1 h4
      have fin : ∀ {w' : World} (hp : c.Kind = 2 → pairOk 1 ⟨c.Key, c.Val, 0⟩), PairsOk 1 r.1 := fun hp => hokay hok hp
      refine ifEq (fun h2 => ?_) (fun h2 => ?_)
      · refine lit_sl (E := eApiPair) [⟨c.Key, c.Val, 0⟩] rfl (by decide) (fun w => by kernel_rfl) fun v w17 hv hx17 => ?_
        repeat (refine kp_ext hx17 ?_)
        refine ref23_Check_calls (ref23_Check_spec hv.is fun b5 w18 hb5 hx18 => ?_)
        repeat (refine kp_ext hx18 ?_)
        have hx1518 := hx16.trans' (hx17.trans' hx18)
        refine ifNot (ifB_of (fun h5 => ?_) (fun _ => law23_awake_calls (law23_awake_spec fun w' hx => ?_)))
        · have hp := (hb5.1 h5).1 _ (List.mem_singleton.2 rfl)
          refine ref23_Check_calls (ref23_Check_spec (ho4.is.ext (hx415.trans' hx1518)) fun b6 w19 hb6 hx19 => ?_)
          repeat (refine kp_ext hx19 ?_)
          refine ifB_t (hb6.2 (hokay hok fun _ => hp)) (law23_awake_calls (law23_awake_spec fun w' hx => ?_))
          repeat (refine kp_ext hx ?_)
          exact sayT (hx1518.trans' (hx19.trans' hx))
        · repeat (refine kp_ext hx ?_)
          exact sayT (hx1518.trans' hx)
      · refine ref23_Check_calls (ref23_Check_spec (ho4.is.ext (hx415.trans' hx16)) fun b6 w19 hb6 hx19 => ?_)
        repeat (refine kp_ext hx19 ?_)
        refine ifB_t (hb6.2 (hokay hok fun e => absurd e h2)) (law23_awake_calls (law23_awake_spec fun w' hx => ?_))
        repeat (refine kp_ext hx ?_)
        exact sayT (hx16.trans' (hx19.trans' hx))
    · repeat (refine kp_ext hx ?_)
      exact sayT (hx16.trans' hx)
end Go.Chg
