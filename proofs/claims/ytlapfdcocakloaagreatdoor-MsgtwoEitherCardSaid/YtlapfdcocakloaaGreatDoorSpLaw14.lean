/-
  The document's bytes in V2; the laws of chapter 14: MsgtwoEncodes, MsgtwoDecodes.
-/
import Derived.Test.YtlapfdcocakloaaGreatDoorME
import Derived.Test.YtlapfdcocakloaaGreatDoorSpRef08B
set_option maxRecDepth 20000
set_option linter.unusedVariables false
namespace Go.Chg
open Go.Vc
open Go.RowKit (Below)
variable {w : World} {m : ApiMsg} {xs : List ApiEntry} {img l : List UInt8} {v p q no k : Int} {s : Sl}
theorem kp_below {B b : Nat} {u u' : World} {X : Prop} (h : Below B u u') (hb : b < B) (x : X) : kp b u u' X := ⟨fun _ => h.block b hb, x⟩
theorem msg2_flags (hk : 1 ≤ m.Kind ∧ m.Kind ≤ 11) : msg2B m xs img = encI m.Kind ++ encI m.From ++ encI m.To ++ (if mB m.Kind then encI m.Ballot.Round ++ encI m.Ballot.Node else []) ++ (if mI m.Kind then encI m.Index else []) ++ (if mC m.Kind then encI m.Commit else []) ++
    (if mV m.Kind then encI m.Version else []) ++ (if m.Kind = 5 then pcB m xs img .single else if mE m.Kind then entsB 2 xs else []) ++ (if mM m.Kind then enc img.length ++ img else []) := by
  obtain h | h | h | h | h | h | h | h | h | h | h : m.Kind = 1 ∨ m.Kind = 2 ∨ m.Kind = 3 ∨ m.Kind = 4 ∨ m.Kind = 5 ∨ m.Kind = 6 ∨ m.Kind = 7 ∨ m.Kind = 8 ∨ m.Kind = 9 ∨ m.Kind = 10 ∨ m.Kind = 11 := by omega
  all_goals
    unfold msg2B
    rw [h]
    simp [piecesK, mB, mI, mC, mV, mE, mM, pcB, fldAt, List.append_assoc]
/-! ### The laws -/
def exMsg : ApiMsg := ⟨9, 1, 2, ⟨0, 0⟩, 3, 0, 0, Sl.nil, Sl.nil⟩
theorem exMsg_ok : MsgOk exMsg [] 0 := by
  refine ⟨⟨by decide, by decide⟩, ⟨⟨⟨by decide, by decide⟩, ⟨by decide, by decide⟩, by decide⟩, fun h => (by cases h), fun _ => ⟨by decide, by decide⟩, fun h => (by cases h), fun h => (by cases h)⟩, fun h => ?_, fun h => (by cases h), fun _ => rfl, fun h => (by cases h), fun _ => rfl, fun _ => rfl, fun _ => rfl, ⟨fun h => (by cases h), fun h => absurd h (Nat.lt_irrefl _)⟩, fun h => (by cases h)⟩
  rcases h with ⟨h, _⟩ | ⟨h, _⟩ <;> cases h
theorem exMsg_bytes : msg2B exMsg [] [] = [9, 1, 2, 3] := by
  have e : ∀ n : Nat, n < 128 → enc n = [b8 n] := fun n h => enc_small h
  show enc 9 ++ enc 1 ++ enc 2 ++ (enc 3 ++ []) = _
  rw [e 9 (by decide), e 1 (by decide), e 2 (by decide), e 3 (by decide)]
  rfl
theorem law14_awake_spec {K : Bool → World → Prop} (ht : Utf8T w) (hK : ∀ w', Ext w w' → K true w') : law14_awake K w := by
  unfold law14_awake
  refine msgtwo_Encode_calls (m := exMsg) (msgtwo_Encode_spec (xs := []) (img := []) ht ⟨.nilSl _ _, .nilSl _ _⟩ fun r w2 hr hx => ?_)
  rcases hr with ⟨h, _⟩ | ⟨_, h0, ho⟩
  · exact absurd (msgE_ok.2 exMsg_ok) h
  rw [exMsg_bytes] at ho
  have hl := ho.len
  refine ifEq (fun _ => ?_) (fun h => absurd h0 h)
  refine ifEq (fun _ => ?_) (fun h => absurd (by rw [hl]; rfl) h)
  refine el_rd (E := eB) (y := (3 : Int)) (k := 3) (by kernel_rfl) (by kernel_rfl) ho.is rfl (by decide) (by kernel_rfl) fun _ => ?_
  exact hK _ hx
theorem MsgEq.rfl' (m : ApiMsg) (xs : List ApiEntry) (img : List UInt8) : MsgEq m m xs xs img img := ⟨⟨rfl, rfl, rfl, rfl, rfl, rfl, rfl⟩, rfl, rfl⟩
end Go.Chg
