/-
  Commands: whether a version has one; encode and decode.
-/
import Derived.Test.YtnnoalpkldpjfaaGreatDoorSpRef08B
import Derived.Test.YtnnoalpkldpjfaaGreatDoorME
set_option maxRecDepth 20000
set_option linter.unusedVariables false
namespace Go.Chg
open Go.Vc
variable {w : World} {l : List UInt8} {v p no : Int} {c : ApiCmd}
/-- Has a version a kind? -/
def versHas (v k : Int) : Prop := (v = 1 ∨ v = 2) ∧ kOk k ∧ (k = 5 → 2 ≤ v)
theorem vers_Has_spec {k : Int} {K : Bool → World → Prop} (hK : ∀ b, (b = true ↔ versHas v k) → K b w) : vers_Has v k K w := by
  unfold vers_Has
  refine vers_May_calls (vers_May_eq fun b hb => ?_)
  have no : ¬ versHas v k → K false w := fun h => hK _ ⟨fun e => (by cases e), fun h' => absurd h' h⟩
  have yes : versHas v k → K true w := fun h => hK _ ⟨fun _ => h, fun _ => rfl⟩
  refine ifNot (ifB_of (fun hv => ?_) (fun hv => no fun h => by rw [hb.2 h.1] at hv; cases hv))
  have hv := hb.1 hv
  have plain : ∀ {n : Int}, k = n → 1 ≤ n → n ≤ 8 → n ≠ 5 → K true w := fun h h1 h2 h3 => yes ⟨hv, ⟨by omega, by omega⟩, fun h5 => by omega⟩
  refine ifEq (fun h => ifEq (fun _ => plain h (by decide) (by decide) (by decide)) (fun h' => absurd h h')) (fun h1 => ?_)
  refine ifEq (fun h => ifEq (fun _ => plain h (by decide) (by decide) (by decide)) (fun h' => absurd h h')) (fun h2 => ?_)
  refine ifEq (fun h => ifEq (fun _ => plain h (by decide) (by decide) (by decide)) (fun h' => absurd h h')) (fun h3 => ?_)
  refine ifEq (fun h => ifEq (fun _ => plain h (by decide) (by decide) (by decide)) (fun h' => absurd h h')) (fun h4 => ?_)
  refine ifEq (fun h => ifEq (fun _ => plain h (by decide) (by decide) (by decide)) (fun h' => absurd h h')) (fun h6 => ?_)
  refine ifEq (fun h => ifEq (fun _ => plain h (by decide) (by decide) (by decide)) (fun h' => absurd h h')) (fun h7 => ?_)
  refine ifEq (fun h => plain h (by decide) (by decide) (by decide)) (fun h8 => ?_)
  refine ifEq (fun h5 => hK _ ?_) (fun h5 => no fun h => by have := h.2.1; unfold kOk at this; omega)
  rw [decide_eq_true_eq]
  exact ⟨fun h => ⟨hv, ⟨by omega, by omega⟩, fun _ => h⟩, fun h => h.2.2 h5⟩
/-- What is wrong with a command in a version. -/
def HasErr (v : Int) (c : ApiCmd) (e : Int) : Prop := (e ≠ 0 ∧ CmdErr c e) ∨ (e = 8 ∧ CmdOk c ∧ ¬ versHas v c.Kind) ∨ (e = 0 ∧ CmdOk c ∧ versHas v c.Kind)
theorem cmd_has_spec {K : Int → World → Prop} (ht : Utf8T w) (hK : ∀ e w', HasErr v c e → Ext w w' → K e w') : cmd_has v c K w := by
  unfold cmd_has
  refine new_x (Ext.rfl' w) fun b1 w2 hb1 hl1 hx _ => ?_
  refine cmd_Check_calls (c := c) (cmd_Check_spec (ht.ext hx) fun e w4 he hx' => kp_ext hx' ?_)
  have hx := hx.trans' hx'
  refine ifNe (fun h => hK _ _ (.inl ⟨h, he⟩) hx) (fun h => ?_)
  have hok := he.ok.1 h
  refine vers_Has_calls (vers_Has_spec fun b hb => kp_same ?_)
  refine ifNot (ifB_of (fun hb' => hK _ _ (.inr (.inr ⟨rfl, hok, hb.1 hb'⟩)) hx) (fun hb' => hK _ _ (.inr (.inl ⟨rfl, hok, fun h => by rw [hb.2 h] at hb'; cases hb'⟩)) hx))
theorem HasErr.ok {e : Int} (h : HasErr v c e) : e = 0 ↔ CmdOk c ∧ versHas v c.Kind := by
  rcases h with ⟨h, k⟩ | ⟨h, k, n⟩ | ⟨h, k, n⟩
  · exact ⟨fun e => absurd e h, fun e => absurd (k.ok.2 e.1) h⟩
  · exact ⟨fun e => by omega, fun e => absurd e.2 n⟩
  · exact ⟨fun _ => ⟨k, n⟩, fun _ => h⟩
def zCmd : ApiCmd := ⟨0, 0, 0, [], [], [], 0⟩
/-- What bytes are, as a command in a version. -/
def DecC (v : Int) (l : List UInt8) (r : ApiCmd × Int) : Prop :=
  (¬ (v = 1 ∨ v = 2) ∧ r = (zCmd, 8)) ∨ ((v = 1 ∨ v = 2) ∧ doneN l (rdCmd l v 0 0).2.1 (rdCmd l v 0 0).2.2 ≠ 0 ∧ r = (zCmd, doneN l (rdCmd l v 0 0).2.1 (rdCmd l v 0 0).2.2)) ∨
  ((v = 1 ∨ v = 2) ∧ doneN l (rdCmd l v 0 0).2.1 (rdCmd l v 0 0).2.2 = 0 ∧ ∃ e, HasErr v (rdCmd l v 0 0).1 e ∧ (e ≠ 0 ∧ r = (zCmd, e) ∨ e = 0 ∧ r = ((rdCmd l v 0 0).1, 0)))
theorem DecC.inv {r : ApiCmd × Int} (h : DecC v l r) (h0 : r.2 = 0) : (v = 1 ∨ v = 2) ∧ CmdOk r.1 ∧ versHas v r.1.Kind ∧ l = cmdB v r.1 := by
  rcases h with ⟨_, rfl⟩ | ⟨_, h1, rfl⟩ | ⟨hv, h1, e, he, ⟨h2, rfl⟩ | ⟨h2, rfl⟩⟩
  · cases h0
  · exact absurd h0 h1
  · exact absurd h0 h2
  · obtain ⟨k1, k2⟩ := doneN_0 h1
    obtain ⟨_, t, _⟩ := rdCmd_inv k1
    exact ⟨hv, (he.ok.1 h2).1, (he.ok.1 h2).2, t.whole k2⟩
theorem DecC.bad {r : ApiCmd × Int} (h : DecC v l r) (h0 : r.2 ≠ 0) : r.1 = zCmd := by
  rcases h with ⟨_, rfl⟩ | ⟨_, h1, rfl⟩ | ⟨hv, h1, e, he, ⟨h2, rfl⟩ | ⟨h2, rfl⟩⟩
  · rfl
  · rfl
  · rfl
  · exact absurd rfl h0
/-- What encode tells of a command. -/
def EncC (B : Nat) (v : Int) (w' : World) (c : ApiCmd) (r : Sl × Int) : Prop :=
  (¬ (v = 1 ∨ v = 2) ∧ r = (Sl.nil, 8)) ∨ ((v = 1 ∨ v = 2) ∧ ∃ e, HasErr v c e ∧ (e ≠ 0 ∧ r = (Sl.nil, e) ∨ e = 0 ∧ r.2 = 0 ∧ OwnSl eB w' B r.1 (cmdB v c)))
theorem cmd_Encode_spec {K : Sl × Int → World → Prop} (ht : Utf8T w) (hK : ∀ r w', EncC w.heap.size v w' c r → Ext w w' → K r w') : cmd_Encode v c K w := by
  unfold cmd_Encode
  refine new_x (Ext.rfl' w) fun b1 w2 hb1 hl1 hx hn2 => ?_
  refine vers_May_calls (vers_May_eq fun b hbv => kp_same ?_)
  refine ifNot (ifB_of (fun hv => ?_) (fun hv => hK _ _ (.inl ⟨fun h => (by rw [hbv.2 h] at hv; cases hv), rfl⟩) hx))
  have hv := hbv.1 hv
  refine cmd_has_calls (c := c) (cmd_has_spec (ht.ext hx) fun e w6 he hx' => kp_ext hx' ?_)
  have z6 := hx'.size
  have hx := hx.trans' hx'
  refine ifNe (fun h0 => hK _ _ (.inr ⟨hv, e, he, .inl ⟨h0, rfl⟩⟩) hx) (fun h0 => ?_)
  obtain ⟨hnum, hsh⟩ := cmdOk_sizes (he.ok.1 h0).1
  refine box_ty fun a w8 ha hx' ho => kp_ext hx' ?_
  have hx := hx.trans' hx'
  have hne : some b1 ≠ some a.block := fun e => by have := Option.some.inj e; omega
  refine cmd_Put_calls (c := c) (cmd_Put_spec (l := []) ⟨Sl.nil, .nilSl _ _, ho, fun e => by cases e⟩ hnum hsh (by simp) fun w10 hw10 hg => kp_grown hg hne ?_)
  have hx := Ext.grown' hx hg (by omega)
  rw [List.nil_append] at hw10
  have hlen : (cmdB v c).length ≤ 140737488355328 := by
    have := cmdT_len (v := v) hnum hsh 6
    unfold cmdB
    omega
  refine pack_Writer_Bytes_calls (pack_Writer_Bytes_spec hw10 hlen fun s w14 hs hx' => kp_ext hx' (hK _ _ (.inr ⟨hv, e, he, .inr ⟨h0, rfl, hs.mono hx.size⟩⟩) (hx.trans' hx')))
end Go.Chg
