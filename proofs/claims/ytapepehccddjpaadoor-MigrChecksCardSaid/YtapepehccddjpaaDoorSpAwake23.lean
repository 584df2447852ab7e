/-
  What a command leaves: facts; that the law of package 'kvone' is awake.
-/
import Derived.Test.YtapepehccddjpaaDoorSpKv
set_option maxRecDepth 20000
set_option linter.unusedVariables false
namespace Go.Chg
open Go.Vc

theorem pairOf_ins {l : List ApiPair} (hu : PUp l) (p : ApiPair) : pairOf (pairIns l p) p.Key = some p := get_ins ordS hu p
theorem pairOf_ins_ne {l : List ApiPair} (hu : PUp l) {p : ApiPair} {n : List UInt8} (h : n ≠ p.Key) : pairOf (pairIns l p) n = pairOf l n := get_ins_ne ordS hu h
theorem pairOf_del {l : List ApiPair} {n : List UInt8} : pairOf (pairDel l n) n = none := get_del ordS
theorem pairOf_del_ne {l : List ApiPair} (hu : PUp l) {m n : List UInt8} (h : n ≠ m) : pairOf (pairDel l m) n = pairOf l n := get_del_ne ordS hu h
theorem pairIns_up {l : List ApiPair} (hu : PUp l) (p : ApiPair) : PUp (pairIns l p) := hu.ins ordS p
theorem pairDel_up {l : List ApiPair} (hu : PUp l) (n : List UInt8) : PUp (pairDel l n) := hu.filter _
theorem three_len {α : Type} (c : α → Int) : ∀ l : List α, (l.filter fun x => decide (c x < 0)).length + (l.filter fun x => decide (0 < c x)).length + (l.filter fun x => decide (c x = 0)).length = l.length
  | [] => rfl
  | x :: l => by
    have ih := three_len c l
    simp only [List.filter_cons, List.length_cons]
    rcases Int.lt_trichotomy (c x) 0 with h | h | h
    · have h1 : ¬ 0 < c x := by omega
      have h2 : ¬ c x = 0 := by omega
      simp only [h, h1, h2, decide_true, decide_false, if_true, List.length_cons, Bool.false_eq_true, if_false]
      omega
    · simp only [h, Int.lt_irrefl, decide_true, decide_false, if_true, List.length_cons, Bool.false_eq_true, if_false]
      omega
    · have h1 : ¬ c x < 0 := by omega
      have h2 : ¬ c x = 0 := by omega
      simp only [h, h1, h2, decide_true, decide_false, if_true, List.length_cons, Bool.false_eq_true, if_false]
      omega
theorem insC_len' {α : Type} (c : α → Int) (l : List α) (s : α) : (insC c l s).length ≤ l.length + 1 := by
  have := three_len c l
  unfold insC
  rw [List.length_append, List.length_cons]
  omega
theorem insC_len_in {α : Type} {c : α → Int} {l : List α} {x : α} (hx : x ∈ l) (h0 : c x = 0) (s : α) : (insC c l s).length ≤ l.length := by
  have := three_len c l
  have h1 : 0 < (l.filter fun x => decide (c x = 0)).length := List.length_pos_of_mem (List.mem_filter.2 ⟨hx, by simpa using h0⟩)
  unfold insC
  rw [List.length_append, List.length_cons]
  omega
theorem pairIns_len {l : List ApiPair} (p : ApiPair) (h : l.length ≤ 64) (hr : (pairOf l p.Key).isSome = true ∨ l.length < 64) : (pairIns l p).length ≤ 64 := by
  rcases hr with hr | hr
  · obtain ⟨x, hx⟩ := Option.isSome_iff_exists.1 hr
    obtain ⟨h1, h2⟩ := get_some ordS hx
    exact Nat.le_trans (insC_len_in h1 ((ordS.eq _ _).2 h2) p) h
  · exact Nat.le_trans (insC_len' _ _ _) (by omega)
theorem PairsOk.ins {sch : Int} {l : List ApiPair} {p : ApiPair} (h : PairsOk sch l) (hp : pairOk sch p) (hr : (pairOf l p.Key).isSome = true ∨ l.length < 64) : PairsOk sch (pairIns l p) :=
  ⟨fun x hx => by
    rcases (mem_ins ordS).1 hx with rfl | ⟨h1, _⟩
    · exact hp
    · exact h.1 _ h1, pairIns_len p h.2.1 hr, pairIns_up h.2.2 p⟩
theorem PairsOk.del {sch : Int} {l : List ApiPair} {n : List UInt8} (h : PairsOk sch l) : PairsOk sch (pairDel l n) :=
  ⟨fun x hx => h.1 _ (List.mem_filter.1 hx).1, Nat.le_trans (List.length_filter_le _ _) h.2.1, pairDel_up h.2.2 n⟩

theorem doOne_up {l : List ApiPair} (hu : PUp l) (c : ApiCmd) : PUp (doOne l c).1 := by
  unfold doOne
  dsimp only
  split
  · split
    · exact pairIns_up hu _
    · exact hu
  · split
    · exact hu
    · split
      · exact pairDel_up hu _
      · exact hu
theorem doOne_len (l : List ApiPair) (c : ApiCmd) : (doOne l c).1.length ≤ l.length + 1 := by
  unfold doOne
  dsimp only
  split
  · split
    · exact insC_len' _ _ _
    · simp
  · split
    · simp
    · split
      · exact Nat.le_succ_of_le (List.length_filter_le _ _)
      · simp
theorem doOne_other {l : List ApiPair} (hu : PUp l) (c : ApiCmd) {n : List UInt8} (h : n ≠ c.Key) : pairOf (doOne l c).1 n = pairOf l n := by
  unfold doOne
  dsimp only
  split
  · split
    · exact pairOf_ins_ne hu h
    · rfl
  · split
    · rfl
    · split
      · exact pairOf_del_ne hu h
      · rfl
theorem doOne_set {l : List ApiPair} (hu : PUp l) {c : ApiCmd} (h2 : c.Kind = 2) (he : (doOne l c).2.Err = 0) : pairOf (doOne l c).1 c.Key = some ⟨c.Key, c.Val, 0⟩ := by
  unfold doOne at he ⊢
  dsimp only at he ⊢
  rw [if_pos h2] at he ⊢
  split at he
  · rename_i h
    rw [if_pos h]
    exact pairOf_ins hu ⟨c.Key, c.Val, 0⟩
  · exact absurd he (show ¬ (11 : Int) = 0 by decide)
theorem doOne_del {l : List ApiPair} {c : ApiCmd} (h4 : c.Kind = 4) : pairOf (doOne l c).1 c.Key = none := by
  unfold doOne
  dsimp only
  rw [if_neg (by omega), if_neg (by omega), if_pos h4]
  exact pairOf_del
theorem doOne_ok {l : List ApiPair} {c : ApiCmd} (h : PairsOk 1 l) (hp : c.Kind = 2 → pairOk 1 ⟨c.Key, c.Val, 0⟩) : PairsOk 1 (doOne l c).1 := by
  unfold doOne
  dsimp only
  split
  · rename_i h2
    split
    · rename_i hr
      exact h.ins (hp h2) hr
    · exact h
  · split
    · exact h
    · split
      · exact h.del
      · exact h
theorem law23_awake_spec {K : Bool → World → Prop} {w : World} (hK : ∀ w', Ext w w' → K true w') : law23_awake K w := by
  unfold law23_awake
  refine kvone_Do_calls (l := Sl.nil) (c := ⟨2, 1, 1, [97], [49], [], 0⟩) (kvone_Do_spec (l := []) (IsSl.nilSl _ _) List.Pairwise.nil (by simp) fun s1 w1 ho1 hx1 => ?_)
  have hu : PUp (doOne [] ⟨2, 1, 1, [97], [49], [], 0⟩).1 := doOne_up List.Pairwise.nil _
  have hget : pairOf (doOne [] ⟨2, 1, 1, [97], [49], [], 0⟩).1 [97] = some ⟨[97], [49], 0⟩ := doOne_set List.Pairwise.nil (c := ⟨2, 1, 1, [97], [49], [], 0⟩) rfl rfl
  refine new_of fun b3 w2 hn2 => wr_of fun w3 hw3 => ?_
  have hb3 : b3 = w1.heap.size := hn2.1
  have hx13 : Ext w1 w3 := Below.wr (Ext.new hn2) (by omega) hw3
  have hl2 := hn2.lt
  refine kvone_Do_calls (l := s1) (c := ⟨3, 1, 2, [97], [], [], 0⟩) (kvone_Do_spec (ho1.is.ext hx13) hu (by decide) fun s4 w4 ho4 hx4 => kp_ext hx4 ?_)
  have h4 := hx4.size
  refine new_of fun b5 w5 hn5 => wr_of fun w6 hw6 => ?_
  have hx46 : Ext w4 w6 := Below.wr (Ext.new hn5) (by have := hn5.1; omega) hw6
  have h2 : (doOne (doOne [] ⟨2, 1, 1, [97], [49], [], 0⟩).1 ⟨3, 1, 2, [97], [], [], 0⟩).2 = ⟨1, 2, 0, true, [49], 0⟩ := by
    rw [doOne]
    dsimp only
    rw [hget]
    rfl
  rw [h2]
  have he : strEq [49] [49] = true := by rw [strEq_eq]; rfl
  exact ifEq (fun _ => ifB_t rfl (by
    have := hK w6 (hx1.trans' (hx13.trans' (hx4.trans' hx46)))
    rw [← he] at this
    exact this)) (fun h => absurd (by rw [ho1.len]; rfl) h)
end Go.Chg
