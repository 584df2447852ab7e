/-
  Packages 'frame' and 'changeoverref03'.
-/
import Derived.Test.YthofeajlmgecmaaGreatDoorSpLaw13
import Derived.Test.YthofeajlmgecmaaGreatDoorSpCrc
import Derived.Test.YthofeajlmgecmaaGreatDoorFrmL
set_option maxRecDepth 20000
set_option linter.unusedVariables false
namespace Go.Vc
/-- Slices in cells. -/
def eSl : Enc Sl := ⟨fun s => [s.val], 1, by decide, fun _ => rfl, fun x v hv => by
  rw [List.mem_singleton] at hv
  subst hv
  rfl⟩
end Go.Vc
namespace Go.Chg
open Go.Vc
variable {w : World} {l bs : List UInt8} {s b body : Sl} {p no k : Int}
theorem byte_of (r : BitVec 32) (n : Nat) (hn : n < 32) : IntKind.u8.wrap (shR .u32 (ofB r) (n : Int)) = ((b8 (r.toNat / 2 ^ n % 256)).toNat : Int) := by
  rw [shR_u32 _ n hn, b8_toNat (by omega)]
  show ((r >>> n).toNat : Int) % 256 = _
  rw [BitVec.toNat_ushiftRight, Nat.shiftRight_eq_div_pow]
  omega
theorem byte_of0 (r : BitVec 32) : IntKind.u8.wrap (ofB r) = ((b8 (r.toNat % 256)).toNat : Int) := by
  rw [b8_toNat (by omega)]
  show (r.toNat : Int) % 256 = _
  omega
theorem frame_sum_spec {K : Sl → World → Prop} (ht : CrcT w) (hb : IsSl eB w b l) (hK : ∀ o w', OwnSl eB w' w.heap.size o (le4 (sumN l)) → Ext w w' → K o w') : frame_sum b K w := by
  unfold frame_sum
  refine crc_Sum_calls (crc_Sum_spec ht hb ?_)
  have e8 : IntKind.u8.wrap (shR .u32 (ofB (sumOf l)) 8) = _ := byte_of (sumOf l) 8 (by decide)
  have e16 : IntKind.u8.wrap (shR .u32 (ofB (sumOf l)) 16) = _ := byte_of (sumOf l) 16 (by decide)
  have e24 : IntKind.u8.wrap (shR .u32 (ofB (sumOf l)) 24) = _ := byte_of (sumOf l) 24 (by decide)
  rw [byte_of0, e8, e16, e24]
  refine lit_ty 1 (E := eB) (xs := le4 (sumN l)) w.heap.size (by kernel_rfl) rfl (by decide) (fun w => by kernel_rfl) (Nat.le_refl _) fun o w' _ ho hx => hK _ _ ho hx
theorem frame_may_spec {n : Int} {K : Int → World → Prop} (hK : ∀ e, (e = 0 ∧ 1 ≤ n ∧ n ≤ 65536) ∨ (e = 3 ∧ n ≤ 0) ∨ (e = 2 ∧ 65536 < n) → K e w) : frame_may n K w := by
  unfold frame_may
  refine ifD (fun h => hK _ (.inr (.inl ⟨rfl, h⟩))) (fun h => ifD (fun h2 => hK _ (.inr (.inr ⟨rfl, h2⟩))) (fun h2 => hK _ (.inl ⟨rfl, by omega, by omega⟩)))
theorem slices_Grow_nil {n : Int} {m : Nat} {K : Sl → World → Prop} (hn : n = (m : Int)) (hm : m ≤ 140737488355328) (hK : ∀ o w', OwnSl eB w' w.heap.size o [] → Ext w w' → K o w') : slices_Grow_byte_byte Sl.nil n K w := by
  unfold slices_Grow_byte_byte
  subst hn
  refine ifD (fun h => absurd h (by omega)) (fun _ => ?_)
  have e0 : i64 ((Sl.nil.cap : Int) - (Sl.nil.len : Int)) = 0 := by decide
  rw [e0, Int.sub_zero, i64_id (by omega) (by omega)]
  refine ifD (fun h => ?_) (fun _ => hK _ _ (.nil _ _ _) (Ext.rfl' _))
  refine ⟨_, run_sub_h (z := 1) (n := 0) (by kernel_rfl) rfl (Nat.le_refl _), ?_⟩
  have e1 : Sl.nil.sub 0 0 1 = Sl.nil := rfl
  rw [e1]
  refine grow_ty (P := Pr) 1 1 (olds := []) (k := m) (by kernel_rfl) (by kernel_rfl) (by decide) (by decide) rfl (by omega) (by show 0 < 0 + m; omega) rfl (.inl rfl) (by show (0 + m) * 1 ≤ _; omega) fun o w2 cur ha hl hc hm2 hr hcur _ hx => ?_
  have hl' : o.len = m := by rw [hl]; show 0 + m = m; omega
  refine ⟨_, run_sub_h (z := 1) (n := 0) (by kernel_rfl) rfl (Nat.zero_le _), ?_⟩
  refine hK _ _ (OwnSl.of_row (g := w.heap.size) (cur := cur) ?_ (Nat.le_refl _) hr rfl (Nat.zero_le _) ?_ ?_ (by simp)) hx
  · have := Sl.sub_at (i := 0) (j := 0) (z := 1) ha (by omega)
    exact this
  · show o.cap - 0 ≤ _; omega
  · show cur.length = (o.cap - 0) * 1
    rw [hcur]
    omega
/-- Rows of bytes, one behind the other. -/
structure RowsAt (w : World) (s : Sl) (L : List (List UInt8)) (ss : List Sl) : Prop where
  sl : IsSl eSl w s ss
  len : ss.length = L.length
  at_ : ∀ (i : Nat) (x : Sl) (y : List UInt8), ss[i]? = some x → L[i]? = some y → IsSl eB w x y
theorem RowsAt.ext {w' : World} {L : List (List UInt8)} {ss : List Sl} (h : RowsAt w s L ss) (hx : Ext w w') : RowsAt w' s L ss := ⟨h.sl.ext hx, h.len, fun i x y h1 h2 => (h.at_ i x y h1 h2).ext hx⟩
def total (L : List (List UInt8)) : Nat := L.flatten.length
theorem total_up {L : List (List UInt8)} {k : Nat} (hk : k < L.length) : total (L.take (k + 1)) = total (L.take k) + L[k].length := by
  unfold total
  rw [List.take_succ_eq_append_getElem hk, List.flatten_append, List.length_append]
  simp
theorem total_le (L : List (List UInt8)) (k : Nat) : total (L.take k) ≤ total L := by
  unfold total
  have : L.flatten = (L.take k).flatten ++ (L.drop k).flatten := by rw [← List.flatten_append, List.take_append_drop]
  rw [this, List.length_append]
  omega
theorem slices_Concat_spec {L : List (List UInt8)} {ss : List Sl} {K : Sl → World → Prop} (h : RowsAt w s L ss) (ht : total L ≤ 140737488355328) (hK : ∀ o w', OwnSl eB w' w.heap.size o L.flatten → Ext w w' → K o w') : slices_Concat_byte_byte s K w := by
  unfold slices_Concat_byte_byte
  have hlen := h.sl.len
  have hl := h.len
  have hle := h.sl.le
  refine up2b (fun k n u => w = u ∧ n = (total (L.take k) : Int)) 0 ss.length rfl (by omega) hle ⟨rfl, rfl⟩ ?_
  rintro k n _ C _ hk ⟨rfl, rfl⟩ hC
  refine ifD (fun hlt => ?_) (fun hge => ?_)
  · have hk1 : k < ss.length := by omega
    have hk2 : k < L.length := by omega
    refine el_rd (E := eSl) (y := ss[k]) (by kernel_rfl) (by kernel_rfl) h.sl rfl hk1 rfl fun _ => ?_
    have hel := h.at_ k _ _ (List.getElem?_eq_getElem hk1) (List.getElem?_eq_getElem hk2)
    have e1 := total_up hk2
    have e2 := total_le L (k + 1)
    have e3 := hel.len
    rw [e3, i64_id (by omega) (by omega)]
    refine ifD (fun h => absurd h (by omega)) (fun _ => hC hk1 _ _ _ rfl ⟨rfl, by omega⟩)
  obtain rfl : k = ss.length := by omega
  rw [List.take_of_length_le (by omega)]
  refine slices_Grow_byte_byte_calls (slices_Grow_nil rfl ht fun o w2 ho hx => ?_)
  refine up2b (fun k o u => OwnSl eB u w.heap.size o (L.take k).flatten ∧ Ext w u) 0 ss.length rfl (by omega) hle ⟨ho, hx⟩ ?_
  rintro k o u C _ hk ⟨ho, hx⟩ hC
  refine ifD (fun hlt => ?_) (fun hge => ?_)
  · have hk1 : k < ss.length := by omega
    have hk2 : k < L.length := by omega
    have h' := h.ext hx
    refine el_rd (E := eSl) (y := ss[k]) (by kernel_rfl) (by kernel_rfl) h'.sl rfl hk1 rfl fun _ => ?_
    have hel := h'.at_ k _ _ (List.getElem?_eq_getElem hk1) (List.getElem?_eq_getElem hk2)
    have e1 := total_up hk2
    have e2 := total_le L (k + 1)
    unfold total at e1 e2 ht
    refine app_ty 1 (by kernel_rfl) (by kernel_rfl) ho hel (by omega) hx.size (by decide) fun o' u' ho' hg => hC hk1 _ _ _ rfl ⟨?_, Ext.own hx ho (Nat.le_refl _) hg⟩
    rw [List.take_succ_eq_append_getElem hk2, List.flatten_append]
    simpa using ho'
  obtain rfl : k = ss.length := by omega
  rw [List.take_of_length_le (by omega)] at ho
  exact hK _ _ ho hx
theorem rows3 {a c d : Sl} {x y z : List UInt8} {B : Nat} (h : OwnSl eSl w B s [a, c, d]) (ha : IsSl eB w a x) (hc : IsSl eB w c y) (hd : IsSl eB w d z) : RowsAt w s [x, y, z] [a, c, d] :=
  ⟨h.is, rfl, fun i u v h1 h2 => by
    match i with
    | 0 => cases h1; cases h2; exact ha
    | 1 => cases h1; cases h2; exact hc
    | 2 => cases h1; cases h2; exact hd
    | n + 3 => cases h1⟩
/-- The frame of bytes, behind others; or why there is none. -/
def AddR (B : Nat) (w' : World) (pre l : List UInt8) (r : Sl × Int) : Prop :=
  (l.length = 0 ∧ r = (Sl.nil, 3)) ∨ (65536 < l.length ∧ r = (Sl.nil, 2)) ∨ (1 ≤ l.length ∧ l.length ≤ 65536 ∧ r.2 = 0 ∧ OwnSl eB w' B r.1 (pre ++ frameB l))
theorem frame_Add_spec {pre : List UInt8} {K : Sl × Int → World → Prop} (ht : CrcT w) (hb : IsSl eB w b pre) (hbody : IsSl eB w body l) (hpre : pre.length ≤ 1000000) (hK : ∀ r w', AddR w.heap.size w' pre l r → Ext w w' → K r w') : frame_Add b body K w := by
  unfold frame_Add
  have hl := hbody.len
  refine frame_may_calls (frame_may_spec fun e he => ?_)
  rw [hl] at he ⊢
  refine ifNe (fun h0 => hK _ _ ?_ (Ext.rfl' _)) (fun h0 => ?_)
  · rcases he with ⟨h, _⟩ | ⟨rfl, h⟩ | ⟨rfl, h⟩
    · exact absurd h h0
    · exact .inl ⟨by omega, rfl⟩
    · exact .inr (.inl ⟨by omega, rfl⟩)
  obtain ⟨h1, h2⟩ : 1 ≤ (l.length : Int) ∧ (l.length : Int) ≤ 65536 := by omega
  have h9 := enc_len9 (n := (l.length : Int)) (by omega)
  rw [Int.toNat_natCast] at h9
  refine varint_Put_calls (varint_Put_spec hb (by omega) (by omega) fun o2 w2 ho2 hx2 => ?_)
  rw [Int.toNat_natCast] at ho2
  refine frame_sum_calls (frame_sum_spec (ht.ext hx2) (hbody.ext hx2) fun o3 w3 ho3 hx3 => ?_)
  have hx := hx2.trans' hx3
  refine lit_ty 24 (E := eSl) (xs := [o2, body, o3]) w.heap.size (by kernel_rfl) rfl (by decide) (fun w => by kernel_rfl) hx.size fun o4 w4 _ ho4 hx4 => ?_
  have hx := hx.trans' hx4
  refine slices_Concat_byte_byte_calls (slices_Concat_spec (rows3 ho4 ((ho2.ext hx3).ext hx4).is (hbody.ext hx) (ho3.ext hx4).is) (by unfold total; simp only [List.flatten_cons, List.flatten_nil, List.length_append, List.length_nil, le4_len]; omega) fun o5 w5 ho5 hx5 => ?_)
  refine hK _ _ (.inr (.inr ⟨by omega, by omega, rfl, ?_⟩)) (hx.trans' hx5)
  have e : [pre ++ enc l.length, l, le4 (sumN l)].flatten = pre ++ frameB l := by unfold frameB; simp
  rw [e] at ho5
  exact ho5.mono hx.size
/-- Where a frame stands, as numbers. -/
theorem nextF_room (h : (getL l p).2.2 = 0) (h3 : ¬ (l.length : Int) < (getL l p).2.1 + (getL l p).1 + 4) : ∃ f n : Nat, (getL l p).2.1 = f ∧ (getL l p).1 = n ∧ f + n + 4 ≤ l.length := by
  have hp := getL_pos l p
  have hn := getL_num l p
  exact ⟨(getL l p).2.1.toNat, (getL l p).1.toNat, by omega, by omega, by omega⟩
theorem frame_Next_spec {K : Sl × Int × Int → World → Prop} (ht : CrcT w) (hb : IsSl eB w b l) (hl : l.length ≤ 140737488355328) (hK : ∀ o w', OwnSl eB w' w.heap.size o (nextF l p).1 → Ext w w' → K (o, (nextF l p).2) w') : frame_Next b p K w := by
  unfold frame_Next
  have hlen := hb.len
  have hp := getL_pos l p
  have hn := getL_num l p
  have hmx : (getL l p).2.2 = 0 → (getL l p).1 ≤ 9223372036854775807 := fun h => by obtain ⟨m, h1, h2, _⟩ := getL_inv h; omega
  have bad : ∀ {u : World} {e : Int}, nextF l p = ([], 0, e) → Ext w u → K (Sl.nil, 0, e) u := fun h hx => by
    have := hK Sl.nil _ (by rw [h]; exact .nil _ _ _) hx
    rwa [h] at this
  refine varint_Get_calls (varint_Get_spec hb ?_)
  refine ifNe (fun h0 => bad (nextF_e h0 |>.trans rfl) (Ext.rfl' _)) (fun h0 => ?_)
  have hmx := hmx h0
  refine frame_may_calls (frame_may_spec fun e he => ?_)
  refine ifNe (fun h1 => ?_) (fun h1 => ?_)
  · rcases he with ⟨h, _⟩ | ⟨rfl, h⟩ | ⟨rfl, h⟩
    · exact absurd h h1
    · exact bad (nextF_3 h0 (by omega)) (Ext.rfl' _)
    · exact bad (nextF_2 h0 (by omega) h) (Ext.rfl' _)
  obtain ⟨a1, a2⟩ : 1 ≤ (getL l p).1 ∧ (getL l p).1 ≤ 65536 := by omega
  rw [hlen, i64_id (by omega) (by omega), i64_id (by omega) (by omega)]
  refine ifD (fun h3 => bad (nextF_1 h0 (by omega) (by omega) (by omega)) (Ext.rfl' _)) (fun h3 => ?_)
  have h3 : ¬ (l.length : Int) < (getL l p).2.1 + (getL l p).1 + 4 := by omega
  obtain ⟨f, n, ef, en, hfn⟩ := nextF_room h0 h3
  have k4 := nextF_4 h0 (by omega) (by omega) h3
  have k0 := nextF_0 h0 (by omega) (by omega) h3
  rw [ef, en] at k4 k0 ⊢
  rw [Int.toNat_natCast, Int.toNat_natCast, show ((f : Int) + (n : Int)).toNat = f + n from by omega] at k4 k0
  rw [i64_id (n := (f : Int) + (n : Int)) (by omega) (by omega), i64_id (n := (f : Int) + (n : Int) + 4) (by omega) (by omega)]
  have hcap := hb.cap
  refine sub_lh' (m := f) (n := f + n) (by kernel_rfl) hb rfl (by omega) (by omega) (by omega) ?_
  have hbody : IsSl eB w (b.sub f (f + n) 1) (mid l f n) := by
    have := hb.sub (i := f) (j := f + n) (by omega) (by omega)
    unfold mid
    rwa [show f + n - f = n from by omega] at this
  have htail : IsSl eB w (b.sub (f + n) (f + n + 4) 1) (mid l (f + n) 4) := by
    have := hb.sub (i := f + n) (j := f + n + 4) (by omega) (by omega)
    unfold mid
    rwa [show f + n + 4 - (f + n) = 4 from by omega] at this
  refine held_x fun w2 hx2 => ⟨_, fun w' _ => run_sub_lh (z := 1) (m := f + n) (n := f + n + 4) (by kernel_rfl) (by omega) (by omega) (by omega) (by omega), ?_⟩
  refine frame_sum_calls (frame_sum_spec (ht.ext hx2) (hbody.ext hx2) fun o3 w3 ho3 hx3 => ⟨trivial, ?_⟩)
  have hx := hx2.trans' hx3
  refine slices_Equal_byte_byte_calls (equal_byte_spec (htail.ext hx) ho3.is fun w4 hx4 => ⟨trivial, ?_⟩)
  have hx := hx.trans' hx4
  refine ifNot (ifD (fun h4 => ?_) (fun h4 => bad (k4 h4) hx))
  refine slices_Clone_byte_byte_calls (slices_Clone_byte_byte_spec (hbody.ext hx) (by rw [mid_len (by omega)]; omega) fun o5 w5 ho5 hx5 => ?_)
  have k0 := k0 h4
  have := hK o5 w5 (by rw [k0]; exact ho5.mono hx.size) (hx.trans' hx5)
  rw [k0] at this
  exact this
theorem ref03_Frame_spec {K : Sl → World → Prop} (hb : IsSl eB w body l) (hl : l.length ≤ 1000000) (hK : ∀ o w', OwnSl eB w' w.heap.size o (frameB l) → Ext w w' → K o w') : ref03_Frame body K w := by
  unfold ref03_Frame
  have hlen := hb.len
  have h9 := enc_len9 (n := (l.length : Int)) (by omega)
  rw [Int.toNat_natCast] at h9
  rw [hlen]
  refine ref01_Bytes_calls (ref01_Bytes_spec (by omega) fun o1 w1 ho1 hx1 => ?_)
  rw [Int.toNat_natCast] at ho1
  refine app_ty 1 (by kernel_rfl) (by kernel_rfl) ho1 (hb.ext hx1) (by omega) hx1.size (by decide) fun o2 w2 ho2 hg2 => ?_
  have hx := Ext.own hx1 ho1 (Nat.le_refl _) hg2
  refine ref02_Sum_calls (ref02_Sum_spec (hb.ext hx) ?_)
  have hr := ofB_range (sumOf l)
  have hsN : (ofB (sumOf l)) = ((sumN l : Nat) : Int) := rfl
  rw [hsN] at hr ⊢
  generalize hsn : sumN l = n at *
  refine up3c (fun k o c u => OwnSl eB u w.heap.size o (enc l.length ++ l ++ (le4 n).take k) ∧ c = ((n / 256 ^ k : Nat) : Int) ∧ Ext w u) 0 4 rfl (by decide) (by decide) ⟨by simpa using ho2, by simp, hx⟩ ?_
  rintro k o c u C _ hk ⟨ho, rfl, hx⟩ hC
  have hnk : n / 256 ^ k ≤ n := Nat.div_le_self _ _
  have hdiv : n / 256 ^ (k + 1) = n / 256 ^ k / 256 := by rw [Nat.pow_succ, Nat.div_div_eq_div_mul]
  refine ifD (fun hlt => ?_) (fun hge => ?_)
  · have hk4 : k < 4 := by omega
    have htk : (le4 n).take (k + 1) = (le4 n).take k ++ [b8 (n / 256 ^ k % 256)] := by
      match k, hk4 with
      | 0, _ => simp [le4]
      | 1, _ => simp [le4]
      | 2, _ => simp [le4]
      | 3, _ => simp [le4]
    generalize n / 256 ^ k = d at *
    have e1 : IntKind.u8.wrap (Int.tmod (d : Int) 256) = ((b8 (d % 256)).toNat : Int) := by
      rw [b8_toNat (by omega), Int.tmod_eq_emod_of_nonneg (by omega), u8_wrap (by omega) (by omega)]
      omega
    have e2 : IntKind.u32.wrap (Int.tdiv (d : Int) 256) = ((d / 256 : Nat) : Int) := by
      rw [Int.tdiv_eq_ediv_of_nonneg (by omega)]
      show ((d : Int) / 256) % 4294967296 = _
      omega
    rw [e1, e2]
    have hll : ((le4 n).take k).length ≤ 4 := by rw [List.length_take, le4_len]; omega
    refine push_ty 1 (E := eB) (b8 (d % 256)) (by kernel_rfl) (by kernel_rfl) (by decide) (fun w => by kernel_rfl) ho hx.size (by decide) (by simp only [List.length_append]; omega) fun o' u' ho' hg => hC hk4 _ _ _ _ rfl ⟨?_, by rw [hdiv], Ext.own hx ho (Nat.le_refl _) hg⟩
    rw [htk, ← List.append_assoc]
    exact ho'
  obtain rfl : k = 4 := by omega
  refine hK _ _ ?_ hx
  unfold frameB
  rw [hsn]
  exact ho
end Go.Chg
