/-
  The laws of chapter 13.
-/
import Derived.Test.YthofeajlmgecmaaGreatDoorSpMsg4
import Derived.Test.YthofeajlmgecmaaGreatDoorMZ
set_option maxRecDepth 20000
set_option linter.unusedVariables false
namespace Go.Chg
open Go.Vc
variable {w : World} {m : ApiMsg} {xs : List ApiEntry} {img l : List UInt8} {v p q no k : Int} {s : Sl}
theorem ref13_Bytes_spec {K : Sl → World → Prop} (h : MsgAt w m xs img) (hok : MsgOk m xs img.length) (hK : ∀ o w', OwnSl eB w' w.heap.size o (msg1B m xs img) → Ext w w' → K o w') : ref13_Bytes m K w := by
  unfold ref13_Bytes
  have hnum := nums_le hok
  have h7 : (numsL m).length = 7 := rfl
  have hent := fun x hx => entOk_num (hok.each x hx)
  have himg := hok.img
  have hlen := msg1B_len hok
  refine new_x (Ext.rfl' w) fun b1 w2 hb1 hl1 hx _ => ?_
  have hB0 : w.heap.size ≤ w2.heap.size := by omega
  refine lit_ty 8 (E := eK .i64) (xs := numsL m) w2.heap.size (by kernel_rfl) rfl (by decide) (fun w => by kernel_rfl) (Nat.le_refl _) fun t w4 ha ht hx4 => kp_ext hx4 ?_
  have hx := hx.trans' hx4
  have z4 := hx4.size
  have tge := ht.ge
  have tlt := ht.lt
  have tlen := ht.len
  have put : ∀ {ta tx ty : TypeId} {u : World} {out y : Sl} {L M : List UInt8} {X : Sl → World → Prop}, appOk Pr ta (elemT Pr ta) 1 1 = true → isSlT Pr tx = true → OwnSl eB u w4.heap.size out L → IsSl eB u y M → Ext w4 u → L.length + M.length ≤ 140737488355328 →
      (∀ s u', OwnSl eB u' w4.heap.size s (L ++ M) → Ext w4 u' → X s u') → opTy Pr (Builtin.append_ #[ta, tx] ty #[out.val, y.val]) Sl.val (fun o u' => kp b1 u u' <| X o u') u := fun h1 h2 ho hy hx hlen hX =>
    app_ty 1 h1 h2 ho hy (by omega) hx.size (by decide) fun s u' hs hg => kp_O ho (by omega) hg (hX _ _ hs (Ext.own hx ho (Nat.le_refl _) hg))
  refine up2b (fun k o u => OwnSl eB u w4.heap.size o (((numsL m).take k).flatMap encI) ∧ Ext w4 u) 0 7 rfl (by decide) (by decide) ⟨.nil _ _ _, Ext.rfl' _⟩ ?_
  rintro k o w7 C _ hk ⟨ho, hy⟩ hC
  have hsm := take_flat_le (xs := numsL m) (B := encI) (m := 9) (fun n hn => encI_len (hnum n hn).2) k
  rw [h7] at hsm
  refine ifD (fun hlt => ?_) (fun hge => ?_)
  · have hk7 : k < 7 := by omega
    have hk1 : k < (numsL m).length := hk7
    have hm := hnum _ (List.getElem_mem hk1)
    have e1 : (enc (numsL m)[k].toNat).length ≤ 9 := encI_len hm.2
    refine el_rd (E := eK .i64) (y := (numsL m)[k]) (by kernel_rfl) (by kernel_rfl) (ht.is.ext hy) rfl hk1 rfl fun _ => ?_
    refine ref01_Bytes_calls (ref01_Bytes_spec hm.2 fun t9 w10 h9 hx' => kp_ext hx' ?_)
    refine put (by kernel_rfl) (by kernel_rfl) (ho.ext hx') h9.is (hy.trans' hx') (by omega) fun s u' hs hy' => hC hk7 _ _ _ rfl ⟨?_, hy'⟩
    rw [flatMap_up hk1]
    exact hs
  obtain rfl : k = 7 := by omega
  have ewhole : (numsL m).take 7 = numsL m := rfl
  rw [ewhole] at ho hsm
  have he : (entsB 1 xs).length ≤ 10000000000 := by
    unfold msg1B at hlen
    simp only [List.length_append] at hlen
    omega
  have e2 := enc_len9 (n := (img.length : Int)) (by omega)
  rw [Int.toNat_natCast] at e2
  refine ref12_Bytes_calls (ref12_Bytes_spec (h.es.ext (hx.trans' hy)) hent (by have := hok.few; omega) fun o2 u2 h4 hx2 => kp_ext hx2 ?_)
  refine put (by kernel_rfl) (by kernel_rfl) (ho.ext hx2) h4.is (hy.trans' hx2) (by omega) fun o3 u3 ho3 hy => ?_
  have hil := h.im.len
  rw [hil]
  refine ref01_Bytes_calls (ref01_Bytes_spec (by omega) fun o4 u4 h5 hx3 => kp_ext hx3 ?_)
  rw [Int.toNat_natCast] at h5
  refine put (by kernel_rfl) (by kernel_rfl) (ho3.ext hx3) h5.is (hy.trans' hx3) (by simp only [List.length_append]; omega) fun o5 u5 ho5 hy => ?_
  refine put (by kernel_rfl) (by kernel_rfl) ho5 (h.im.ext (hx.trans' hy)) hy (by simp only [List.length_append]; omega) fun o6 u6 ho6 hy => hK _ _ ?_ (hx.trans' hy)
  unfold msg1B
  rw [List.append_assoc, List.append_assoc] at ho6
  rw [List.append_assoc]
  exact ho6.mono (by omega)

/-! ### The laws -/
def exMsg1 : ApiMsg := ⟨9, 1, 2, ⟨0, 0⟩, 3, 0, 0, Sl.nil, Sl.nil⟩
theorem exMsg1_ok : MsgOk exMsg1 [] 0 ∧ Old exMsg1 [] := by
  refine ⟨⟨⟨by decide, by decide⟩, ⟨⟨⟨by decide, by decide⟩, ⟨by decide, by decide⟩, by decide⟩, fun h => (by cases h), fun _ => ⟨by decide, by decide⟩, fun h => (by cases h), fun h => (by cases h)⟩, fun h => ?_, fun h => (by cases h), fun _ => rfl, fun h => (by cases h), fun _ => rfl, fun _ => rfl, fun _ => rfl, ⟨fun h => (by cases h), fun h => absurd h (Nat.lt_irrefl _)⟩, fun h => (by cases h)⟩, fun x hx => (by cases hx), by decide⟩
  rcases h with ⟨h, _⟩ | ⟨h, _⟩ <;> cases h
theorem exMsg1_bytes : msg1B exMsg1 [] [] = [9, 1, 2, 0, 0, 3, 0, 0, 0] := by
  have e : ∀ n : Nat, n < 128 → enc n = [b8 n] := fun n h => enc_small h
  show enc 9 ++ (enc 1 ++ (enc 2 ++ (enc 0 ++ (enc 0 ++ (enc 3 ++ (enc 0 ++ [])))))) ++ (enc 0 ++ []) ++ (enc 0 ++ []) = _
  rw [e 9 (by decide), e 1 (by decide), e 2 (by decide), e 3 (by decide), e 0 (by decide)]
  rfl
theorem MsgEq.rfl1 (m : ApiMsg) (xs : List ApiEntry) (img : List UInt8) : MsgEq m m xs xs img img := ⟨⟨rfl, rfl, rfl, rfl, rfl, rfl, rfl⟩, rfl, rfl⟩
/-! ### Checks -/
def num8 (m : ApiMsg) : List Int := [m.Kind, m.From, m.To, m.Ballot.Round, m.Ballot.Node, m.Index, m.Commit, m.Version]
theorem equal_byte_spec {a b : Sl} {la lb : List UInt8} {K : Bool → World → Prop} (ha : IsSl eB w a la) (hb : IsSl eB w b lb) (hK : ∀ w', Ext w w' → K (decide (la = lb)) w') : slices_Equal_byte_byte a b K w := by
  unfold slices_Equal_byte_byte
  have h1 := ha.len
  have h2 := hb.len
  refine ifNe (fun hne => ?_) (fun heq => ?_)
  · have := hK w (Ext.rfl' _)
    rwa [decide_eq_false] at this
    rintro rfl
    omega
  have hll : la.length = lb.length := by omega
  refine up1 (fun k w' => Ext w w' ∧ la.take k = lb.take k) 0 la.length rfl (by omega) ha.le ⟨Ext.rfl' _, rfl⟩ ?_
  rintro k w1 C _ hk ⟨hx, ht⟩ hC
  refine ifD (fun hlt => ?_) (fun hge => ?_)
  · have hk1 : k < la.length := by omega
    have hk2 : k < lb.length := by omega
    refine drew_of fun w2 hx2 => ?_
    have hx3 := hx.trans' hx2
    refine el_rd (by kernel_rfl) (by kernel_rfl) (ha.ext hx3) rfl hk1 rfl fun _ => ?_
    refine el_rd (by kernel_rfl) (by kernel_rfl) (hb.ext hx3) rfl hk2 rfl fun _ => ?_
    refine ifNe (fun hne => ?_) (fun heq => hC hk1 _ _ rfl ⟨hx3, ?_⟩)
    · have := hK w2 hx3
      rwa [decide_eq_false] at this
      rintro rfl
      exact hne rfl
    · rw [List.take_succ_eq_append_getElem hk1, List.take_succ_eq_append_getElem hk2, ht]
      congr 2
      exact UInt8.toNat_inj.1 (by omega)
  · rw [List.take_of_length_le (by omega), List.take_of_length_le (by omega)] at ht
    have := hK w1 hx
    rwa [decide_eq_true ht] at this
theorem num8_eq {a b : ApiMsg} : num8 a = num8 b ↔ (a.Kind = b.Kind ∧ a.From = b.From ∧ a.To = b.To ∧ a.Ballot = b.Ballot ∧ a.Index = b.Index ∧ a.Commit = b.Commit ∧ a.Version = b.Version) := by
  unfold num8
  constructor
  · intro h
    injection h with h1 h; injection h with h2 h; injection h with h3 h; injection h with h4 h; injection h with h5 h; injection h with h6 h; injection h with h7 h; injection h with h8 _
    refine ⟨h1, h2, h3, ?_, h6, h7, h8⟩
    cases ha : a.Ballot
    cases hb : b.Ballot
    rw [ha, hb] at h4 h5
    cases h4; cases h5; rfl
  · rintro ⟨h1, h2, h3, h4, h5, h6, h7⟩
    rw [h1, h2, h3, h4, h5, h6, h7]
end Go.Chg
