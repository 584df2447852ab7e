/-
  What package 'ballot' and 'changeoverref10' do with ballots, but for their texts.
-/
import Derived.Test.YtapepehccddjpaaDoorEase
import Derived.Test.YtapepehccddjpaaDoorSpCmp
set_option maxRecDepth 20000
set_option linter.unusedVariables false
namespace Go.Chg
open Go.Vc
def zBallot : ApiBallot := ⟨0, 0⟩
def NodeOk (n : Int) : Prop := 1 ≤ n ∧ n ≤ 9
def BMay (b : ApiBallot) : Prop := b = zBallot ∨ (1 ≤ b.Round ∧ b.Round ≤ 4294967296 ∧ NodeOk b.Node)
def BLess (a b : ApiBallot) : Prop := a.Round < b.Round ∨ a.Round = b.Round ∧ a.Node < b.Node
instance (a b : ApiBallot) : Decidable (BLess a b) := inferInstanceAs (Decidable (a.Round < b.Round ∨ a.Round = b.Round ∧ a.Node < b.Node))
theorem bal_eq {a b : ApiBallot} : a = b ↔ a.Round = b.Round ∧ a.Node = b.Node := by cases a; cases b; simp
theorem BMay.num {b : ApiBallot} (h : BMay b) : (0 ≤ b.Round ∧ b.Round ≤ 4294967296) ∧ (0 ≤ b.Node ∧ b.Node ≤ 9) := by
  rcases h with h | ⟨h1, h2, h3, h4⟩
  · subst h; exact ⟨by decide, by decide⟩
  · exact ⟨by omega, by omega⟩
variable {w : World}
theorem ballot_node_spec {n : Int} {K : Bool → World → Prop} (hK : ∀ t, (t = true ↔ NodeOk n) → K t w) : ballot_node n K w := by
  unfold ballot_node
  refine ifD (fun h => hK _ ?_) (fun h => hK _ ⟨fun h => (by cases h), fun h' => by have := h'.1; omega⟩)
  rw [decide_eq_true_iff]
  exact ⟨fun h' => ⟨h, h'⟩, fun h' => h'.2⟩
theorem ref10_May_spec {b : ApiBallot} {K : Bool → World → Prop} (hK : ∀ t w', (t = true ↔ BMay b) → Ext w w' → K t w') : ref10_May b K w := by
  unfold ref10_May
  refine new_x (Ext.rfl' w) fun b1 w2 _ _ hx _ => ?_
  refine ⟨fun w' => w' = w2 ∧ b ≠ zBallot, ?_, ?_⟩
  · refine ifEq (fun h1 => ifEq (fun h2 => hK _ _ ⟨fun _ => .inl (bal_eq.2 ⟨h1, h2⟩), fun _ => rfl⟩ hx) (fun h2 => ⟨rfl, fun h => h2 (by rw [h]; rfl)⟩)) (fun h1 => ⟨rfl, fun h => h1 (by rw [h]; rfl)⟩)
  rintro _ ⟨rfl, hne⟩
  have no : ∀ {p : Prop}, ¬ p → (BMay b → p) → (false = true ↔ BMay b) := fun h1 h2 => ⟨fun h => (by cases h), fun h => absurd (h2 h) h1⟩
  have of : BMay b → 1 ≤ b.Round ∧ b.Round ≤ 4294967296 ∧ NodeOk b.Node := fun h => by rcases h with h | h; exact absurd h hne; exact h
  refine ifD (fun h1 => ?_) (fun h1 => hK _ _ (no h1 fun h => by have := of h; omega) hx)
  refine ifD (fun h2 => ?_) (fun h2 => hK _ _ (no h2 fun h => (of h).2.1) hx)
  refine ifD (fun h3 => ?_) (fun h3 => hK _ _ (no h3 fun h => (of h).2.2.1) hx)
  refine hK _ _ ?_ hx
  rw [decide_eq_true_iff]
  exact ⟨fun h4 => .inr ⟨h1, h2, h3, h4⟩, fun h => (of h).2.2.2⟩
theorem ballot_May_spec {b : ApiBallot} {K : Bool → World → Prop} (hK : ∀ t w', (t = true ↔ BMay b) → Ext w w' → K t w') : ballot_May b K w := by
  unfold ballot_May
  refine new_x (Ext.rfl' w) fun b1 w2 _ _ hx _ => ?_
  refine eqSt (by kernel_rfl) (ApiBallot.eqv b zBallot) ?_
  refine ifB_of (fun h => hK _ _ ⟨fun _ => .inl (ApiBallot.eqs_iff.1 h), fun _ => rfl⟩ hx) (fun h => ?_)
  have hne : b ≠ zBallot := fun e => by rw [ApiBallot.eqs_iff.2 e] at h; cases h
  have no : ∀ {p : Prop}, ¬ p → (BMay b → p) → (false = true ↔ BMay b) := fun h1 h2 => ⟨fun h => (by cases h), fun h => absurd (h2 h) h1⟩
  have of : BMay b → 1 ≤ b.Round ∧ b.Round ≤ 4294967296 ∧ NodeOk b.Node := fun h => by rcases h with h | h; exact absurd h hne; exact h
  refine ifD (fun h1 => ?_) (fun h1 => hK _ _ (no h1 fun h => by have := of h; omega) hx)
  refine ifD (fun h2 => ?_) (fun h2 => hK _ _ (no h2 fun h => (of h).2.1) hx)
  refine ballot_node_calls (ballot_node_spec fun t ht => kp_same (hK _ _ ?_ hx))
  exact ht.trans ⟨fun h => .inr ⟨h1, h2, h⟩, fun h => (of h).2.2⟩
theorem ref10_Less_spec {a b : ApiBallot} {K : Bool → World → Prop} (hK : ∀ t w', (t = true ↔ BLess a b) → Ext w w' → K t w') : ref10_Less a b K w := by
  unfold ref10_Less
  refine new_x (Ext.rfl' w) fun b1 w2 _ _ hx _ => new_x hx fun b3 w4 _ _ hx _ => ?_
  refine ifEq (fun h => hK _ _ ?_ hx) (fun h => hK _ _ ?_ hx)
  · rw [decide_eq_true_iff]; unfold BLess; omega
  · rw [decide_eq_true_iff]; unfold BLess; omega
theorem cmp_Or2 {s : Sl} {x y : Int} {K : Int → World → Prop} (hs : IsSl (eK .i64) w s [x, y]) (h1 : x ≠ 0 → K x w) (h2 : x = 0 → K y w) : cmp_Or_int s K w := by
  unfold cmp_Or_int
  have hl := hs.len
  refine up1 (fun k w' => w = w' ∧ (0 < k → x = 0) ∧ (1 < k → y = 0)) 0 2 rfl (by omega) (by omega) ⟨rfl, by omega, by omega⟩ ?_
  rintro k _ C _ hk ⟨rfl, i1, i2⟩ hC
  simp only [List.length_cons, List.length_nil] at hl
  refine ifD (fun hlt => ?_) (fun hge => ?_)
  · have hk2 : k = 0 ∨ k = 1 := by omega
    rcases hk2 with rfl | rfl
    · refine el_rd (E := eK .i64) (k := 0) (y := x) (by kernel_rfl) (by kernel_rfl) hs rfl (by simp) rfl fun _ => ?_
      exact ifNe h1 (fun h => hC (by omega) _ _ rfl ⟨rfl, fun _ => h, by omega⟩)
    · refine el_rd (E := eK .i64) (k := 1) (y := y) (by kernel_rfl) (by kernel_rfl) hs rfl (by simp) rfl fun _ => ?_
      exact ifNe (fun _ => h2 (i1 (by omega))) (fun h => hC (by omega) _ _ rfl ⟨rfl, fun _ => i1 (by omega), fun _ => h⟩)
  · have hk2 : k = 2 := by omega
    subst hk2
    have := h2 (i1 (by omega))
    rw [i2 (by omega)] at this
    exact this
theorem ballot_Less_spec {a b : ApiBallot} {K : Bool → World → Prop} (hK : ∀ t w', (t = true ↔ BLess a b) → Ext w w' → K t w') : ballot_Less a b K w := by
  unfold ballot_Less
  refine new_x (Ext.rfl' w) fun b1 w2 _ _ hx _ => new_x hx fun b3 w4 _ _ hx _ => ?_
  refine held_x fun w5 hx' => ?_
  have hx := hx.trans' hx'
  refine cmp_Compare_int_calls (cmp_Compare_int_spec (kp_same (kp_same ⟨trivial, ?_⟩)))
  refine cmp_Compare_int_calls (cmp_Compare_int_spec (kp_same (kp_same ⟨trivial, ?_⟩)))
  refine lit_ty 8 (E := eK .i64) (xs := [cmpI a.Round b.Round, cmpI a.Node b.Node]) w5.heap.size (by kernel_rfl) rfl (by decide) (fun w => by kernel_rfl) (Nat.le_refl _) fun s w12 _ hs hx' => kp_ext hx' (kp_ext hx' ⟨trivial, ?_⟩)
  have hx := hx.trans' hx'
  have e1 := @cmpI_neg a.Round b.Round
  have e2 := @cmpI_zero a.Round b.Round
  have e3 := @cmpI_neg a.Node b.Node
  refine cmp_Or_int_calls (cmp_Or2 hs.is (fun h => kp_same (kp_same ⟨trivial, hK _ _ ?_ hx⟩)) (fun h => kp_same (kp_same ⟨trivial, hK _ _ ?_ hx⟩)))
  · rw [decide_eq_true_iff]; unfold BLess; omega
  · rw [decide_eq_true_iff]; unfold BLess; omega

/-! ### The next one -/
def nextR (b : ApiBallot) (n : Int) : Int := if b.Round = 0 then 1 else if n ≤ b.Node then b.Round + 1 else b.Round
/-- What is told of the next ballot. -/
def NextOf (b : ApiBallot) (n : Int) : ApiBallot → Int → Prop := fun x e =>
  e = 0 ∧ x = ⟨nextR b n, n⟩ ∧ BMay b ∧ NodeOk n ∧ nextR b n ≤ 4294967296 ∨ e = 6 ∧ x = zBallot ∧ ¬ (BMay b ∧ NodeOk n ∧ nextR b n ≤ 4294967296)
theorem ballot_Next_spec {b : ApiBallot} {n : Int} {K : ApiBallot × Int → World → Prop} (hK : ∀ x e w', NextOf b n x e → Ext w w' → K (x, e) w') : ballot_Next b n K w := by
  unfold ballot_Next
  refine new_x (Ext.rfl' w) fun b1 w2 _ _ hx _ => new_x hx fun b3 w4 hb3 hl3 hx _ => ?_
  refine ballot_May_calls (b := b) (ballot_May_spec fun t5 w6 h5 hx' => kp_ext hx' (kp_ext hx' ?_))
  have hx := hx.trans' hx'
  refine ifNot (ifB_of (fun h => ?_) (fun h => wr_x hx hb3 fun w7 hx _ => hK _ _ _ (.inr ⟨rfl, rfl, fun h' => by rw [h5.2 h'.1] at h; cases h⟩) hx))
  have hmay := h5.1 h
  refine ballot_node_calls (ballot_node_spec fun t8 h8 => kp_same (kp_same ?_))
  refine ifNot (ifB_of (fun h => ?_) (fun h => wr_x hx hb3 fun w7 hx _ => hK _ _ _ (.inr ⟨rfl, rfl, fun h' => by rw [h8.2 h'.2.1] at h; cases h⟩) hx))
  have hnode := h8.1 h
  have hnum := hmay.num
  refine new_x hx fun b11 w12 hb11 hl11 hx _ => wr_x hx hb11 fun w13 hx _ => ?_
  refine ⟨fun out w' => Ext w w' ∧ out = ⟨nextR b n, n⟩, ?_, ?_⟩
  · refine ballot_Less_calls (a := b) (b := ⟨imax b.Round 1, n⟩) (ballot_Less_spec fun t15 w16 h15 hx' => kp_ext hx' (kp_ext hx' (kp_ext hx' ?_)))
    have hx := hx.trans' hx'
    have hz : b.Round = 0 → b.Node = 0 := fun h => by
      rcases hmay with h' | h'
      · rw [h']; rfl
      · omega
    refine ifNot (ifB_of (fun h => ⟨hx, ?_⟩) (fun h => wr_x hx hb11 fun w17 hx _ => ⟨hx, ?_⟩))
    · have := h15.1 h
      unfold BLess imax at this
      dsimp only at this
      unfold nextR imax
      rw [bal_eq]
      refine ⟨?_, rfl⟩
      dsimp only
      obtain ⟨hn1, hn2⟩ := hnode
      split at this <;> split <;> (try split) <;> omega
    · have : ¬ BLess b ⟨imax b.Round 1, n⟩ := fun h' => by rw [h15.2 h'] at h; cases h
      unfold BLess imax at this
      dsimp only at this
      unfold nextR
      rw [bal_eq]
      refine ⟨?_, rfl⟩
      dsimp only
      obtain ⟨hn1, hn2⟩ := hnode
      have e : imax b.Round 1 = if 1 > b.Round then 1 else b.Round := rfl
      rw [e]
      split at this
      · exact absurd (.inl (by omega)) this
      · rw [if_neg (by omega), if_neg (by omega), if_pos (by omega), i64_id (by omega) (by omega)]
  rintro _ w19 ⟨hx, rfl⟩
  have hr1 : 1 ≤ nextR b n := by
    unfold nextR
    split
    · omega
    · split <;> omega
  refine ballot_May_calls (b := ⟨nextR b n, n⟩) (ballot_May_spec fun t20 w21 h20 hx' => kp_ext hx' (kp_ext hx' (kp_ext hx' ?_)))
  have hx := hx.trans' hx'
  refine ifNot (ifB_of (fun h => wr_x hx hb3 fun w22 hx _ => hK _ _ _ (.inl ⟨rfl, rfl, hmay, hnode, ?_⟩) hx) (fun h => wr_x hx hb3 fun w22 hx _ => hK _ _ _ (.inr ⟨rfl, rfl, fun h' => ?_⟩) hx))
  · exact (h20.1 h).num.1.2
  · rw [h20.2 (.inr ⟨hr1, h'.2.2, hnode⟩)] at h
    cases h
theorem ref10_Next_spec {b : ApiBallot} {n : Int} {K : ApiBallot × Bool → World → Prop} (hK : ∀ x t w', (t = true ∧ NextOf b n x 0 ∨ t = false ∧ NextOf b n x 6) → Ext w w' → K (x, t) w') : ref10_Next b n K w := by
  unfold ref10_Next
  refine new_x (Ext.rfl' w) fun b1 w2 _ _ hx _ => new_x hx fun b3 w4 hb3 hl3 hx _ => ?_
  refine ref10_May_calls (b := b) (ref10_May_spec fun t5 w6 h5 hx' => kp_ext hx' (kp_ext hx' ?_))
  have hx := hx.trans' hx'
  have bad : ¬ (BMay b ∧ NodeOk n ∧ nextR b n ≤ 4294967296) → ∀ {u : World}, Ext w u → wrM b3 (fun w7 => K ((ApiBallot.mk 0 0), false) w7) u := fun h u hx => wr_x hx hb3 fun w7 hx _ => hK _ _ _ (.inr ⟨rfl, .inr ⟨rfl, rfl, h⟩⟩) hx
  refine ifNot (ifB_of (fun h => ?_) (fun h => bad (fun h' => by rw [h5.2 h'.1] at h; cases h) hx))
  have hmay := h5.1 h
  have hnum := hmay.num
  refine ifD (fun h => bad (fun h' => by have := h'.2.1.1; omega) hx) (fun h1 => ?_)
  refine ifD (fun h => bad (fun h' => by have := h'.2.1.2; omega) hx) (fun h2 => ?_)
  refine new_x hx fun b10 w11 hb10 hl10 hx _ => wr_x hx hb10 fun w12 hx _ => ?_
  refine ⟨fun out w' => Ext w w' ∧ out = ⟨nextR b n, n⟩, ?_, ?_⟩
  · have e : i64 (b.Round + 1) = b.Round + 1 := i64_id (by omega) (by omega)
    rw [e]
    refine ifEq (fun h0 => wr_x hx hb10 fun w14 hx _ => ⟨hx, ?_⟩) (fun h0 => ifD (fun hle => wr_x hx hb10 fun w14 hx _ => ⟨hx, ?_⟩) (fun hle => ⟨hx, ?_⟩))
    · unfold nextR; rw [if_pos h0, h0]; rfl
    · unfold nextR; rw [if_neg h0, if_pos hle]
    · unfold nextR; rw [if_neg h0, if_neg hle]
  rintro _ w17 ⟨hx, rfl⟩
  dsimp only
  refine ifD (fun h => bad (fun h' => by have := h'.2.2; omega) hx) (fun h3 => wr_x hx hb3 fun w19 hx _ => hK _ _ _ (.inl ⟨rfl, .inl ⟨rfl, rfl, hmay, ⟨by omega, by omega⟩, by omega⟩⟩) hx)

/-! ### The greatest -/
def MaxOf (l : List ApiBallot) (m : ApiBallot) : Prop := (l = [] → m = zBallot) ∧ (l ≠ [] → m ∈ l) ∧ ∀ x ∈ l, ¬ BLess m x
theorem ballot_Max_spec {s : Sl} {l : List ApiBallot} {K : ApiBallot → World → Prop} (hs : IsSl eApiBallot w s l) (hK : ∀ m w', MaxOf l m → Ext w w' → K m w') : ballot_Max s K w := by
  unfold ballot_Max
  have hl := hs.len
  have hle := hs.le
  refine new_x (Ext.rfl' w) fun b1 w2 hb1 _ hx _ => new_x hx fun b3 w4 hb3 hl3 hx _ => ?_
  refine up2a (fun k out w' => Ext w w' ∧ MaxOf (l.take k) out) 0 l.length rfl (by omega) hle ⟨hx, by simp [MaxOf, zBallot]⟩ ?_
  rintro k out w8 C _ hk ⟨hx, hm⟩ hC
  refine ifD (fun hlt => ?_) (fun hge => ?_)
  · have hk1 : k < l.length := by omega
    refine st_rd (val := ApiBallot.val) (by kernel_rfl) (by kernel_rfl) (hs.ext hx) rfl hk1 (fun _ => rfl) fun _ => ?_
    refine new_x hx fun b11 w12 hb11 _ hx _ => wr_x hx hb11 fun w13 hx _ => ?_
    have hne : l.take (k + 1) ≠ [] := fun h => by
      have := congrArg List.length h
      rw [List.length_take, List.length_nil] at this
      omega
    refine ifEq (fun h0 => wr_x hx hb3 fun w14 hx _ => hC hk1 _ _ _ rfl ⟨hx, ?_⟩) (fun h0 => ?_)
    · obtain rfl : k = 0 := by omega
      refine ⟨fun h => absurd h hne, fun _ => by rw [take_up hk1]; exact List.mem_append_right _ (List.mem_singleton.2 rfl), fun x hx => ?_⟩
      rw [take_up hk1] at hx
      simp at hx
      subst hx
      unfold BLess
      omega
    · have hne0 : l.take k ≠ [] := fun h => by
        have := congrArg List.length h
        rw [List.length_take, List.length_nil] at this
        omega
      refine ballot_Less_calls (a := out) (b := l[k]) (ballot_Less_spec fun t15 w16 h15 hx' => kp_ext hx' (kp_ext hx' (kp_ext hx' ?_)))
      have hx := hx.trans' hx'
      refine ifB_of (fun h => wr_x hx hb3 fun w17 hx _ => hC hk1 _ _ _ rfl ⟨hx, fun h => absurd h hne, fun _ => by rw [take_up hk1]; exact List.mem_append_right _ (List.mem_singleton.2 rfl), fun x hx => ?_⟩) (fun h => hC hk1 _ _ _ rfl ⟨hx, fun h => absurd h hne, fun _ => ?_, all_up hk1 hm.2.2 fun h' => ?_⟩)
      · have h1 := h15.1 h
        rw [take_up hk1, List.mem_append, List.mem_singleton] at hx
        rcases hx with hx | rfl
        · have h2 := hm.2.2 x hx
          unfold BLess at *
          omega
        · unfold BLess; omega
      · rw [take_up hk1]
        exact List.mem_append_left _ (hm.2.1 hne0)
      · rw [h15.2 h'] at h
        cases h
  · have hd : ¬ k < l.length := by omega
    rw [take_done hd] at hm
    exact wr_x hx hb1 fun w18 hx _ => hK _ _ hm hx
end Go.Chg
