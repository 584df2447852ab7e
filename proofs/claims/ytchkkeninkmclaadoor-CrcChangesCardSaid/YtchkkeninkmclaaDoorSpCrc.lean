/-
  What packages 'crc' and 'changeoverref02' do.
-/
import Derived.Test.YtchkkeninkmclaaDoorCrc
import Derived.Test.YtchkkeninkmclaaDoorSpHex
set_option maxRecDepth 20000
set_option linter.unusedVariables false
namespace Go.Chg
open Go.Vc

structure CrcT (w : World) : Prop where
  tab : GlobAt w g_crc_table (crcTab.map fun (n : Nat) => Value.int .u32 (n : Int))
theorem CrcT.ext {w w' : World} (h : CrcT w) (hx : Ext w w') : CrcT w' := ⟨h.tab.ext hx⟩
theorem CrcT.cell {w : World} (h : CrcT w) (r : BitVec 32) : w.cell? (g_crc_table.add ((nib r).toNat * 1)) = some (.int .u32 (ofB (nbits 4 (nib r)))) := by
  refine h.tab.cell ?_
  rw [Nat.mul_one, List.getElem?_map, crcTab_nbits]
  rfl
theorem crc_turn_spec {r : BitVec 32} {c : UInt8} {K : Int → World → Prop} {w : World} (ht : CrcT w) (hK : K (ofB (turn r c)) w) : crc_turn (ofB r) (c.toNat : Int) K w := by
  unfold crc_turn
  have e15 : (15 : Int) = ofB 15#32 := by decide
  have e4 : (4 : Int) = ((4 : Nat) : Int) := rfl
  rw [wrap_byte, bXor_u32, e15, bAnd_u32]
  generalize hx : r ^^^ ext8 c = x
  refine ix_ar (n := 16) (z := 1) (nib x).toNat (by kernel_rfl) rfl (nib_lt x) ?_
  refine ld_cell (y := ofB (nbits 4 (nib x))) (by kernel_rfl) (ht.cell x) ?_
  rw [e4, shR_u32 _ 4 (by omega), bXor_u32, ← nbits4, bAnd_u32]
  refine ix_ar (n := 16) (z := 1) (nib (nbits 4 x)).toNat (by kernel_rfl) rfl (nib_lt _) ?_
  refine ld_cell (y := ofB (nbits 4 (nib (nbits 4 x)))) (by kernel_rfl) (ht.cell _) ?_
  rw [shR_u32 _ 4 (by omega), bXor_u32, ← nbits4, ← nbits_add]
  unfold turn at hK
  rw [hx] at hK
  exact hK
def ones : BitVec 32 := BitVec.allOnes 32
def sumOf (l : List UInt8) : BitVec 32 := ~~~ regOf ones l
theorem crc_Add_spec {s : BitVec 32} {x : Sl} {l : List UInt8} {K : Int → World → Prop} {w : World} (ht : CrcT w) (hx : IsSl eB w x l) (hK : K (ofB (~~~ regOf (~~~ s) l)) w) : crc_Add (ofB s) x K w := by
  unfold crc_Add
  have hl := hx.len
  have hle := hx.le
  rw [bXor_ones]
  refine up2b (fun k r w' => w = w' ∧ r = ofB (regOf (~~~ s) (l.take k))) 0 l.length rfl (by omega) hle ⟨rfl, rfl⟩ ?_
  rintro k _ _ C _ hk ⟨rfl, rfl⟩ hC
  refine ifD (fun hlt => ?_) (fun hge => ?_)
  · have hk1 : k < l.length := by omega
    refine el_rd (E := eB) (val := Value.int .u8) (y := (l[k].toNat : Int)) (by kernel_rfl) (by kernel_rfl) hx rfl hk1 rfl fun _ => ?_
    refine crc_turn_calls (crc_turn_spec ht ?_)
    exact hC hk1 _ _ _ rfl ⟨rfl, by unfold regOf; rw [foldl_up hk1]⟩
  · rw [bXor_ones, take_done (by omega)]
    exact hK
theorem crc_Sum_spec {x : Sl} {l : List UInt8} {K : Int → World → Prop} {w : World} (ht : CrcT w) (hx : IsSl eB w x l) (hK : K (ofB (sumOf l)) w) : crc_Sum x K w := by
  unfold crc_Sum
  have e : (0 : Int) = ofB 0#32 := by decide
  rw [e]
  refine crc_Add_calls (crc_Add_spec ht hx ?_)
  have : ~~~ (0#32 : BitVec 32) = ones := by decide
  rw [this]
  exact hK
theorem not_u32 (a : BitVec 32) : IntKind.u32.wrap (4294967295 - ofB a) = ofB (~~~ a) := by
  have h := ofB_range a
  rw [u32_id (by omega) (by omega)]
  unfold ofB at h ⊢
  rw [BitVec.toNat_not]
  omega
theorem ref02_Sum_spec {x : Sl} {l : List UInt8} {K : Int → World → Prop} {w : World} (hx : IsSl eB w x l) (hK : K (ofB (sumOf l)) w) : ref02_Sum x K w := by
  unfold ref02_Sum
  have hl := hx.len
  have hle := hx.le
  refine up2b (fun k r w' => w = w' ∧ r = ofB (regOf ones (l.take k))) 0 l.length rfl (by omega) hle ⟨rfl, show (4294967295 : Int) = ofB ones by decide⟩ ?_
  rintro k _ _ C _ hk ⟨rfl, rfl⟩ hC
  refine ifD (fun hlt => ?_) (fun hge => ?_)
  · have hk1 : k < l.length := by omega
    refine el_rd (E := eB) (val := Value.int .u8) (y := (l[k].toNat : Int)) (by kernel_rfl) (by kernel_rfl) hx rfl hk1 rfl fun _ => ?_
    rw [wrap_byte, bXor_u32]
    refine up2b (fun m r w' => w = w' ∧ r = ofB (nbits m (regOf ones (l.take k) ^^^ ext8 l[k]))) 0 8 rfl (by omega) (by omega) ⟨rfl, rfl⟩ ?_
    rintro m _ _ C2 _ hm ⟨rfl, rfl⟩ hC2
    refine ifD (fun hlt8 => ?_) (fun hge8 => ?_)
    · rw [odd_u32, half_u32]
      have hb : nbits (m + 1) (regOf ones (l.take k) ^^^ ext8 l[k]) = bit1 (nbits m (regOf ones (l.take k) ^^^ ext8 l[k])) := nbits_add m 1 _
      generalize nbits m (regOf ones (l.take k) ^^^ ext8 l[k]) = y at hb
      have ep : (3988292384 : Int) = ofB poly := by decide
      rw [ep, bXor_u32]
      refine ifB_of (fun h => hC2 (by omega) _ _ _ rfl ⟨rfl, ?_⟩) (fun h => hC2 (by omega) _ _ _ rfl ⟨rfl, ?_⟩)
      · rw [hb]; unfold bit1; rw [if_pos h]
      · rw [hb]; unfold bit1; rw [if_neg (by rw [h]; simp), BitVec.xor_zero]
    · have hm8 : m = 8 := by omega
      subst hm8
      refine hC hk1 _ _ _ rfl ⟨rfl, ?_⟩
      unfold regOf
      rw [foldl_up hk1]
      rfl
  · rw [not_u32, take_done (by omega)]
    exact hK
/-- A sum's eight digits. -/
def textOf (r : BitVec 32) : List UInt8 := digK 16 8 r.toNat
theorem crc_Text_spec {r : BitVec 32} {K : List UInt8 → World → Prop} {w : World} (ht : HexT w) (hK : ∀ w', Ext w w' → K (textOf r) w') : crc_Text (ofB r) K w := by
  unfold crc_Text
  have hr := r.isLt
  have e1 : bOr .u64 (IntKind.u64.wrap (ofB r)) 4294967296 = ((2 ^ 32 * 1 + r.toNat : Nat) : Int) := by
    rw [u64_id (ofB_range r).1 (by have := (ofB_range r).2; omega)]
    unfold bOr
    show IntKind.u64.wrap ((BitVec.ofInt 64 (ofB r) ||| BitVec.ofInt 64 4294967296).toNat : Int) = _
    have e : (BitVec.ofInt 64 (ofB r) ||| BitVec.ofInt 64 4294967296).toNat = 2 ^ 32 * 1 + r.toNat := by
      rw [BitVec.toNat_or, BitVec.toNat_ofInt, BitVec.toNat_ofInt]
      unfold ofB
      have h1 : ((r.toNat : Int) % ((2 ^ 64 : Nat) : Int)).toNat = r.toNat := by
        have : ((2 ^ 64 : Nat) : Int) = 18446744073709551616 := by decide
        rw [this]; omega
      have h2 : ((4294967296 : Int) % ((2 ^ 64 : Nat) : Int)).toNat = 2 ^ 32 * 1 := by decide
      rw [h1, h2, Nat.or_comm, ← Nat.two_pow_add_eq_or_of_lt hr]
    rw [e]
    exact u64_id (by omega) (by omega)
  rw [e1]
  have h16 : 2 ^ 32 * 1 + r.toNat < 16 ^ 16 := Nat.lt_of_lt_of_le (show _ < 2 ^ 33 by omega) (by decide)
  refine strconv_FormatUint_calls (FormatUint16_spec ht h16 fun w1 hx1 => ?_)
  have hd : digits 16 (2 ^ 32 * 1 + r.toNat) = digK 16 9 (2 ^ 32 * 1 + r.toNat) := digits_K (by omega) 8 _ (by omega) (by omega)
  rw [hd]
  refine sub_str_l (m := 1) (by kernel_rfl) rfl (by rw [digK_len]; omega) ?_
  rw [show (9 : Nat) = 1 + 8 from rfl, digK_drop, ← digK_mod]
  have : (2 ^ 32 * 1 + r.toNat) % 16 ^ 8 = r.toNat := by
    have : 16 ^ 8 = 2 ^ 32 := by decide
    omega
  rw [this]
  exact hK _ hx1
theorem ref02_Text_spec {r : BitVec 32} {K : List UInt8 → World → Prop} {w : World} (hK : K (textOf r) w) : ref02_Text (ofB r) K w := by
  unfold ref02_Text
  have hr := r.isLt
  have h0 : ∀ j, j + 0 = 8 → digK 16 j (r.toNat / 16 ^ 0) ++ [] = textOf r := fun j hj => by
    have : j = 8 := by omega
    subst this
    simp [textOf]
  refine up3c (fun k sum s w' => w = w' ∧ sum = ((r.toNat / 16 ^ k : Nat) : Int) ∧ s.length = k ∧ ∀ j, j + k = 8 → digK 16 j (r.toNat / 16 ^ k) ++ s = textOf r) 0 8 rfl (by omega) (by omega) ⟨rfl, by simp [ofB], rfl, h0⟩ ?_
  rintro k _ s _ C _ hk ⟨rfl, rfl, hsl, hs⟩ hC
  have hdiv : r.toNat / 16 ^ k < 4294967296 := Nat.lt_of_le_of_lt (Nat.div_le_self _ _) hr
  refine ifD (fun hlt => ?_) (fun hge => ?_)
  · generalize hn : r.toNat / 16 ^ k = n at hdiv hs
    have hm : n % 16 < 16 := Nat.mod_lt _ (by omega)
    have e1 : Int.tmod (n : Int) 16 = ((n % 16 : Nat) : Int) := by rw [Int.tmod_eq_emod_of_nonneg (by omega)]; omega
    have e2 : IntKind.u32.wrap (((n % 16 : Nat) : Int) + 1) = ((n % 16 + 1 : Nat) : Int) := by rw [u32_id (by omega) (by omega)]; omega
    have e3 : IntKind.u32.wrap (Int.tdiv (n : Int) 16) = ((n / 16 : Nat) : Int) := by
      rw [Int.tdiv_eq_ediv_of_nonneg (by omega), u32_id (by omega) (by omega)]; omega
    rw [e1, e2, e3]
    have hlen16 : ∀ m : Fin 16, ((([48, 49, 50, 51, 52, 53, 54, 55, 56, 57, 97, 98, 99, 100, 101, 102] : List UInt8).drop m.val).take (m.val + 1 - m.val)) = [dig m.val] := by decide +kernel
    refine sub_str_lh (by kernel_rfl) rfl rfl (by omega) (show n % 16 + 1 ≤ 16 by omega) ?_
    show opRd Pr (binSem .add _ _ _ (sval (List.take (n % 16 + 1 - n % 16) (List.drop (n % 16) ([48, 49, 50, 51, 52, 53, 54, 55, 56, 57, 97, 98, 99, 100, 101, 102] : List UInt8)))) (sval s)) sval _ w
    rw [hlen16 ⟨n % 16, hm⟩]
    refine cat_str (by simp; omega) ?_
    refine hC (by omega) _ _ _ _ rfl ⟨rfl, ?_, by simp; omega, fun j hj => ?_⟩
    · rw [Nat.pow_succ, ← Nat.div_div_eq_div_mul, hn]
    · have := hs (j + 1) (by omega)
      rw [Nat.pow_succ, ← Nat.div_div_eq_div_mul, hn]
      simp only [digK] at this
      rw [← this, List.append_assoc]
  · have := hs 0 (by omega)
    simp only [digK, List.nil_append] at this
    rw [this]
    exact hK

theorem ofB_inj {a b : BitVec 32} : ofB a = ofB b ↔ a = b := by
  unfold ofB
  constructor
  · intro h
    exact BitVec.eq_of_toNat_eq (by omega)
  · rintro rfl; rfl
theorem law02_awake_spec {K : Bool → World → Prop} {w : World} (ht : CrcT w) (hh : HexT w) (hK : ∀ w', Ext w w' → K true w') : law02_awake K w := by
  unfold law02_awake
  refine lit_sl (E := eB) [49, 50, 51, 52, 53, 54, 55, 56, 57] rfl (by decide) (fun w => by kernel_rfl) fun s1 w0 ho hx0 => ?_
  refine mark_ty (by kernel_rfl) ho fun w1 hs1 hg1 => ?_
  have hx1 : Ext w w1 := Ext.grown' hx0 hg1 (Nat.le_refl _)
  refine crc_Sum_calls (crc_Sum_spec (ht.ext hx1) hs1 ?_)
  refine ifEq (fun _ => ?_) (fun h => absurd (by decide +kernel) h)
  have e15 : (15 : Int) = ofB 15#32 := by decide
  rw [e15]
  refine crc_Text_calls (crc_Text_spec (hh.ext hx1) fun w2 hx2 => ?_)
  rw [show strEq (textOf 15#32) [48, 48, 48, 48, 48, 48, 48, 102] = true from by decide +kernel]
  exact hK w2 (hx1.trans' hx2)
theorem law02_CrcSums_spec {s : Sl} {l : List UInt8} {K : Bool → World → Prop} {w : World} (ht : CrcT w) (hh : HexT w) (hs : IsSl eB w s l) (hK : ∀ w', Ext w w' → K true w') : law02_CrcSums s K w := by
  unfold law02_CrcSums
  refine ifD (fun _ => law02_awake_calls (law02_awake_spec ht hh hK)) (fun _ => ?_)
  refine crc_Sum_calls (crc_Sum_spec ht hs ?_)
  refine ref02_Sum_calls (ref02_Sum_spec hs ?_)
  refine ifEq (fun _ => ?_) (fun h => absurd rfl h)
  refine crc_Text_calls (crc_Text_spec hh fun w1 hx1 => ?_)
  refine ref02_Text_calls (ref02_Text_spec ?_)
  refine ifStr (fun _ => ?_) (fun h => absurd rfl h)
  exact law02_awake_calls (law02_awake_spec (ht.ext hx1) (hh.ext hx1) fun w2 hx2 => hK w2 (hx1.trans' hx2))
theorem law02_CrcGoesOn_spec {s1 s2 : Sl} {a b : List UInt8} {K : Bool → World → Prop} {w : World} (ht : CrcT w) (hh : HexT w) (ha : IsSl eB w s1 a) (hb : IsSl eB w s2 b) (hK : ∀ w', Ext w w' → K true w') : law02_CrcGoesOn s1 s2 K w := by
  unfold law02_CrcGoesOn
  have hal := ha.len
  have hbl := hb.len
  refine ifD (fun _ => law02_awake_calls (law02_awake_spec ht hh hK)) (fun h1 => ?_)
  refine ifD (fun _ => law02_awake_calls (law02_awake_spec ht hh hK)) (fun h2 => ?_)
  refine crc_Sum_calls (crc_Sum_spec ht ha ?_)
  refine crc_Add_calls (crc_Add_spec ht hb ?_)
  refine lit_ty 1 (E := eB) (xs := []) w.heap.size (by kernel_rfl) rfl (by decide) (fun w => by kernel_rfl) (Nat.le_refl _) fun t1 w1 _ ho1 hx1 => ?_
  refine app_ty 1 (by kernel_rfl) (by kernel_rfl) ho1 (ha.ext hx1) (by simp; omega) hx1.size (by decide) fun t2 w2 ho2 hg2 => ?_
  have hx2 := Ext.own hx1 ho1 (Nat.le_refl _) hg2
  refine app_ty 1 (by kernel_rfl) (by kernel_rfl) ho2 (hb.ext hx2) (by simp; omega) hx2.size (by decide) fun t3 w3 ho3 hg3 => ?_
  have hx3 := Ext.own hx2 ho2 (Nat.le_refl _) hg3
  refine ref02_Sum_calls (ref02_Sum_spec ho3.is ?_)
  have e1 : ~~~ regOf (~~~ sumOf a) b = sumOf ([] ++ a ++ b) := by
    unfold sumOf
    rw [List.nil_append, regOf_append, BitVec.not_not]
  rw [e1]
  refine ifEq (fun _ => ?_) (fun h => absurd rfl h)
  have e0 : (0 : Int) = ofB 0#32 := by decide
  have he : ofB (~~~ regOf (~~~ (0#32 : BitVec 32)) []) = 0 := by decide +kernel
  rw [e0]
  refine crc_Add_calls (crc_Add_spec (l := []) (ht.ext hx3) (IsSl.nilSl _ _) ?_)
  rw [he]
  refine ifEq (fun _ => ?_) (fun h => absurd (by decide) h)
  exact law02_awake_calls (law02_awake_spec (ht.ext hx3) (hh.ext hx3) fun w4 hx4 => hK w4 (hx3.trans' hx4))

/-! ### Changed bytes -/
/-- The first k changes done. -/
def curF (l : List UInt8) (at_ : Nat) (xs : List UInt8) (k : Nat) : List UInt8 := l.mapIdx fun j b => if at_ ≤ j ∧ j < at_ + k then b ^^^ xs.getD (j - at_) 0 else b
theorem curF_len (l : List UInt8) (at_ : Nat) (xs : List UInt8) (k : Nat) : (curF l at_ xs k).length = l.length := by simp [curF]
theorem curF_get {l : List UInt8} {at_ : Nat} {xs : List UInt8} {k j : Nat} (hj : j < l.length) : (curF l at_ xs k)[j]'(by rw [curF_len]; exact hj) = if at_ ≤ j ∧ j < at_ + k then l[j] ^^^ xs.getD (j - at_) 0 else l[j] := by simp [curF]
theorem curF_zero (l : List UInt8) (at_ : Nat) (xs : List UInt8) : curF l at_ xs 0 = l := by
  apply List.ext_getElem (by rw [curF_len])
  intro j h1 h2
  rw [curF_get h2, if_neg (by omega)]
theorem curF_step {l : List UInt8} {at_ : Nat} {xs : List UInt8} {k : Nat} (hk : at_ + k < l.length) : curF l at_ xs (k + 1) = (curF l at_ xs k).set (at_ + k) (l[at_ + k] ^^^ xs.getD k 0) := by
  apply List.ext_getElem (by rw [List.length_set, curF_len, curF_len])
  intro j h1 h2
  have hj : j < l.length := by rw [curF_len] at h1; exact h1
  rw [curF_get hj, List.getElem_set]
  by_cases he : at_ + k = j
  · subst he
    rw [if_pos (by omega), if_pos rfl, show at_ + k - at_ = k by omega]
  · rw [if_neg he, curF_get hj]
    by_cases h3 : at_ ≤ j ∧ j < at_ + k
    · rw [if_pos (by omega), if_pos h3]
    · rw [if_neg (by omega), if_neg h3]
theorem curF_parts {l : List UInt8} {at_ : Nat} {xs : List UInt8} {k : Nat} (hx : xs.length = 4) (hk : k ≤ 4) (ha : at_ + k ≤ l.length) :
    curF l at_ xs k = l.take at_ ++ ((l.drop at_).take k).zipWith (· ^^^ ·) (xs.take k) ++ l.drop (at_ + k) := by
  have e1 : (((l.drop at_).take k).zipWith (· ^^^ ·) (xs.take k)).length = k := by simp; omega
  apply List.ext_getElem
  · simp [curF_len]; omega
  intro j h1 h2
  have hj : j < l.length := by rw [curF_len] at h1; exact h1
  rw [curF_get hj]
  by_cases h3 : j < at_
  · rw [if_neg (by omega), List.getElem_append_left (by simp; omega), List.getElem_append_left (by simp; omega), List.getElem_take]
  · by_cases h4 : j < at_ + k
    · rw [if_pos (by omega), List.getElem_append_left (by simp; omega), List.getElem_append_right (by simp; omega), List.getElem_zipWith]
      simp only [List.length_take, List.getElem_take, List.getElem_drop]
      have e2 : j - min at_ l.length = j - at_ := by omega
      have e3 : xs.getD (j - at_) 0 = xs[j - at_]'(by omega) := by simp [List.getD, show j - at_ < xs.length by omega]
      rw [e3]
      congr 1
      · congr 1; omega
      · congr 1; omega
    · rw [if_neg (by omega), List.getElem_append_right (by rw [List.length_append, e1, List.length_take]; omega), List.getElem_drop]
      congr 1
      rw [List.length_append, e1, List.length_take]; omega
theorem curF_more {l : List UInt8} {at_ : Nat} {xs : List UInt8} {k m : Nat} (hk : l.length ≤ at_ + k) (hm : k ≤ m) : curF l at_ xs m = curF l at_ xs k := by
  apply List.ext_getElem (by rw [curF_len, curF_len])
  intro j h1 h2
  have hj : j < l.length := by rw [curF_len] at h1; exact h1
  rw [curF_get hj, curF_get hj]
  by_cases h3 : at_ ≤ j
  · rw [if_pos (by omega), if_pos (by omega)]
  · rw [if_neg (by omega), if_neg (by omega)]
theorem bXor_u8 (a b : UInt8) : bXor .u8 (a.toNat : Int) (b.toNat : Int) = ((a ^^^ b).toNat : Int) := by
  unfold bXor
  show IntKind.u8.wrap ((BitVec.ofInt 8 (a.toNat : Int) ^^^ BitVec.ofInt 8 (b.toNat : Int)).toNat : Int) = _
  have e : (BitVec.ofInt 8 (a.toNat : Int) ^^^ BitVec.ofInt 8 (b.toNat : Int)).toNat = (a ^^^ b).toNat := by
    rw [BitVec.toNat_xor, BitVec.toNat_ofInt, BitVec.toNat_ofInt, UInt8.toNat_xor]
    have ha := a.toNat_lt
    have hb := b.toNat_lt
    have h1 : ((a.toNat : Int) % ((2 ^ 8 : Nat) : Int)).toNat = a.toNat := by
      have : ((2 ^ 8 : Nat) : Int) = 256 := by decide
      rw [this]; omega
    have h2 : ((b.toNat : Int) % ((2 ^ 8 : Nat) : Int)).toNat = b.toNat := by
      have : ((2 ^ 8 : Nat) : Int) = 256 := by decide
      rw [this]; omega
    rw [h1, h2]
  rw [e]
  have := (a ^^^ b).toNat_lt
  exact u8_wrap (by omega) (by omega)

theorem law02_CrcChanges_spec {s : Sl} {l xs : List UInt8} {at_ : Int} {x : List Value} {K : Bool → World → Prop} {w : World} (ht : CrcT w) (hh : HexT w) (hs : IsSl eB w s l) (hat : -9223372036854775808 ≤ at_ ∧ at_ ≤ 9223372036854775807) (hx : x = xs.flatMap eB.cs) (hxl : xs.length = 4)
    (hK : ∀ w', Ext w w' → K true w') : law02_CrcChanges s at_ x K w := by
  unfold law02_CrcChanges
  have hl := hs.len
  refine box_ty fun a w1 ha hx1 hobj => ?_
  have hobj' : Vc.Obj w1 a x := hobj
  refine ifD (fun _ => law02_awake_calls (law02_awake_spec (ht.ext hx1) (hh.ext hx1) fun w' h => hK w' (hx1.trans' h))) (fun h1 => ?_)
  refine ifD (fun _ => law02_awake_calls (law02_awake_spec (ht.ext hx1) (hh.ext hx1) fun w' h => hK w' (hx1.trans' h))) (fun h2 => ?_)
  refine ifD (fun _ => law02_awake_calls (law02_awake_spec (ht.ext hx1) (hh.ext hx1) fun w' h => hK w' (hx1.trans' h))) (fun h3 => ?_)
  obtain ⟨p, rfl⟩ : ∃ p : Nat, at_ = p := ⟨at_.toNat, by omega⟩
  have hpl : p < l.length := by omega
  have hB := hx1.size
  refine lit_ty 1 (E := eB) (xs := []) w1.heap.size (by kernel_rfl) rfl (by decide) (fun w => by kernel_rfl) (Nat.le_refl _) fun t1 w2 _ ho1 hx2 => ?_
  refine app_ty 1 (by kernel_rfl) (by kernel_rfl) ho1 (hs.ext (hx1.trans' hx2)) (by simp; omega) hx2.size (by decide) fun c w3 ho hg3 => ?_
  have hx13 := Ext.own hx2 ho1 (Nat.le_refl _) hg3
  rw [List.nil_append] at ho
  have hx3 := hx1.trans' hx13
  -- the block of the array is another one
  have hne : c.blk ≠ some a.block := fun e => by have := ho.ge _ e; have := hobj'.lt; omega
  have hxget : ∀ (k : Nat), k < 4 → x[k]? = some (.int .u8 ((xs.getD k 0).toNat : Int)) := fun k hk => by
    rw [hx, flat_eB, List.getElem?_map, List.getElem?_eq_getElem (by omega)]
    simp [List.getD, show k < xs.length by omega]
  refine ⟨fun other w' => Ext w w' ∧ OwnSl eB w' w1.heap.size c (curF l p xs 4) ∧ (other = true ↔ ∃ i, i < 4 ∧ p + i < l.length ∧ xs.getD i 0 ≠ 0), ?_, ?_⟩
  · refine up2b (fun k other w' => Ext w w' ∧ Vc.Obj w' a x ∧ OwnSl eB w' w1.heap.size c (curF l p xs k) ∧ (other = true ↔ ∃ i, i < k ∧ p + i < l.length ∧ xs.getD i 0 ≠ 0)) 0 4 rfl (by omega) (by omega) ⟨hx3, hobj'.ext hx13, by rw [curF_zero]; exact ho, by simp⟩ ?_
    rintro k other w4 C _ hk ⟨hx4, hob, hoc, hother⟩ hC
    have hcl : c.len = l.length := by rw [hoc.len, curF_len]
    have e1 : i64 ((p : Int) + (k : Int)) = ((p + k : Nat) : Int) := by rw [i64_id] <;> omega
    rw [e1]
    refine ifD (fun hlt4 => ?_) (fun hge4 => ?_)
    · have hk4 : k < 4 := by omega
      refine ifD (fun hltc => ?_) (fun hgec => ?_)
      · have hpk : p + k < l.length := by omega
        have hpk' : p + k < (curF l p xs k).length := by rw [curF_len]; exact hpk
        have hcur : (curF l p xs k)[p + k] = l[p + k] := by rw [curF_get hpk, if_neg (by omega)]
        have region : ∀ (other' : Bool), (other' = true ↔ ∃ i, i < k + 1 ∧ p + i < l.length ∧ xs.getD i 0 ≠ 0) → ∀ (ts ta te : TypeId), slOf Pr ts = some eB.sz → arOf Pr ta = some (4, 1) → oneT Pr te = true → sizeT Pr te = some 1 →
            heldM (fun S w18 =>
              opH Pr S (Instr.indexAt ts c.val (.int .i64 ((p + k : Nat) : Int))) pav (fun t20 =>
              opH Pr S (Instr.indexAt ta (.pointer (some a)) (.int .i64 (k : Int))) pav (fun t21 =>
              opH Pr S (Instr.loadAt te (.pointer (some t21))) (Value.int .u8) (fun t22 =>
              opRd Pr (Instr.loadAt te (.pointer (some t20))) (Value.int .u8) (fun t23 =>
              (S w18) ∧
              (opH Pr S (Instr.indexAt ts c.val (.int .i64 ((p + k : Nat) : Int))) pav (fun t24 =>
              opUn Pr (Instr.storeAt te (.pointer (some t24)) (.int .u8 (bXor .u8 t23 t22))) (fun w25 =>
              (S w25) ∧
              (C other' (i64 ((k : Int) + 1)) w25)) w18))) w18)))) w4 := by
          intro other' ho' ts ta te hts hta hte hsz
          refine ⟨fun w' => Vc.Obj w' a x ∧ ∃ cur, OwnSl eB w' w1.heap.size c cur ∧ cur.length = l.length, fun w5 hw5 => ?_⟩
          have hx5 : Ext w4 w5 := by subst hw5; exact Ext.drewOne w4
          have hS5 : Vc.Obj w5 a x ∧ ∃ cur, OwnSl eB w5 w1.heap.size c cur ∧ cur.length = l.length := ⟨hob.ext hx5, _, hoc.ext hx5, curF_len _ _ _ _⟩
          refine ⟨hS5, ?_⟩
          have hix : ∀ w', (Vc.Obj w' a x ∧ ∃ cur, OwnSl eB w' w1.heap.size c cur ∧ cur.length = l.length) → (Instr.indexAt ts c.val (.int .i64 ((p + k : Nat) : Int))).run Pr w' = .ok (pav (c.at (p + k) 1)) w' := fun w' ⟨_, cur, h1, h2⟩ => (ix_eq hts h1.is rfl (by omega)).1
          refine ⟨_, hix, ?_⟩
          refine ⟨a.add (k * 1), fun w' hw' => by
            obtain ⟨y, hy, e⟩ := ix_ar (P := Pr) (w := w') (a := a) (k := .i64) (K := fun y => y = a.add (k * 1)) k hta rfl hk4 rfl
            rw [← e]; exact hy, ?_⟩
          refine ⟨((xs.getD k 0).toNat : Int), fun w' hw' => by
            rw [Nat.mul_one]
            exact run_ld hte (hw'.1.cell (hxget k hk4)), ?_⟩
          have hrow := (hoc.ext hx5).is
          have hel := (ix_eq (P := Pr) (i := ((p + k : Nat) : Int)) hts hrow rfl hpk').2
          refine ld_el0 (E := eB) (y := (l[p + k].toNat : Int)) hte hel (by rw [hcur]; rfl) ?_
          refine ⟨hS5, ⟨_, hix, ?_⟩⟩
          rw [bXor_u8]
          refine st_own (E := eB) (l[p + k] ^^^ xs.getD k 0) hsz (hoc.ext hx5) hpk' rfl fun w6 ho6 hg6 => ?_
          rw [← curF_step hpk] at ho6
          have hob6 : Vc.Obj w6 a x := (hob.ext hx5).keep (hg6.block _ (hob.ext hx5).lt (fun e => hne e.symm))
          exact ⟨⟨hob6, _, ho6, curF_len _ _ _ _⟩, hC hk4 _ _ _ rfl ⟨Ext.own (hx4.trans' hx5) (hoc.ext hx5) hB hg6, hob6, ho6, ho'⟩⟩
        refine ifB_of (fun ht' => ?_) (fun hf => ?_)
        · refine region true ?_ _ _ _ (by kernel_rfl) (by kernel_rfl) (by kernel_rfl) (by kernel_rfl)
          obtain ⟨i, hi1, hi2, hi3⟩ := hother.1 ht'
          exact ⟨fun _ => ⟨i, by omega, hi2, hi3⟩, fun _ => rfl⟩
        · refine ix_ar (n := 4) (z := 1) k (by kernel_rfl) rfl hk4 ?_
          rw [Nat.mul_one]
          refine ld_obj (y := ((xs.getD k 0).toNat : Int)) (by kernel_rfl) hob (hxget k hk4) ?_
          refine region _ ?_ _ _ _ (by kernel_rfl) (by kernel_rfl) (by kernel_rfl) (by kernel_rfl)
          have hno : ¬ ∃ i, i < k ∧ p + i < l.length ∧ xs.getD i 0 ≠ 0 := fun h => by have := hother.2 h; rw [hf] at this; cases this
          constructor
          · intro h
            refine ⟨k, by omega, hpk, fun e => ?_⟩
            rw [e] at h
            simp at h
          · rintro ⟨i, hi1, hi2, hi3⟩
            by_cases hik : i = k
            · subst hik
              have : (xs.getD i 0).toNat ≠ 0 := fun e => hi3 (UInt8.toNat_inj.1 (by simpa using e))
              simpa using this
            · exact absurd ⟨i, by omega, hi2, hi3⟩ hno
      · refine ⟨hx4, by rw [curF_more (k := k) (m := 4) (by omega) hk]; exact hoc, hother.trans ⟨fun ⟨i, h1, h2, h3⟩ => ⟨i, by omega, h2, h3⟩, fun ⟨i, h1, h2, h3⟩ => ⟨i, by omega, h2, h3⟩⟩⟩
    · have hk4 : k = 4 := by omega
      subst hk4
      exact ⟨hx4, hoc, hother⟩
  · rintro other w4 ⟨hx4, hoc, hother⟩
    refine crc_Sum_calls (crc_Sum_spec (ht.ext hx4) (hs.ext hx4) ?_)
    refine crc_Sum_calls (crc_Sum_spec (ht.ext hx4) hoc.is ?_)
    obtain ⟨m, hm⟩ : ∃ m, m = min 4 (l.length - p) := ⟨_, rfl⟩
    have hcm : curF l p xs 4 = curF l p xs m := by
      rcases Nat.lt_or_ge (l.length - p) 4 with h | h
      · exact curF_more (by omega) (by omega)
      · rw [show m = 4 by omega]
    have hpar := curF_parts (l := l) (at_ := p) (k := m) hxl (by omega) (by omega)
    have hlpar : l = l.take p ++ (l.drop p).take m ++ l.drop (p + m) := by rw [List.append_assoc, ← List.drop_drop, List.take_append_drop, List.take_append_drop]
    have hburst := burst (r := ones) (p := l.take p) (m := (l.drop p).take m) (q := l.drop (p + m)) (es := xs.take m) (by simp; omega) (by simp; omega)
    rw [← hlpar, ← hpar, ← hcm] at hburst
    have heq : ofB (sumOf l) = ofB (sumOf (curF l p xs 4)) ↔ ∀ e ∈ xs.take m, e = 0 := by
      rw [ofB_inj, ← hburst]
      unfold sumOf
      exact ⟨fun h => by have := congrArg (fun v => ~~~ v) h; simpa using this, fun h => by rw [h]⟩
    have hall : (∀ e ∈ xs.take m, e = 0) ↔ ¬ (other = true) := by
      rw [hother]
      constructor
      · rintro h ⟨i, h1, h2, h3⟩
        refine h3 (h _ ?_)
        have him : i < m := by omega
        have : xs.getD i 0 = xs[i]'(by omega) := by simp [List.getD, show i < xs.length by omega]
        rw [this]
        exact List.mem_take_iff_getElem.2 ⟨i, by omega, rfl⟩
      · intro h e he
        obtain ⟨i, hi, rfl⟩ := List.mem_take_iff_getElem.1 he
        refine Classical.byContradiction fun hne => h ⟨i, by omega, by omega, ?_⟩
        have : xs.getD i 0 = xs[i]'(by omega) := by simp [List.getD, show i < xs.length by omega]
        rw [this]
        exact hne
    have hfin : ((ofB (sumOf l) != ofB (sumOf (curF l p xs 4))) == other) = true := by
      cases ho : other
      · have := heq.2 (hall.2 (by rw [ho]; simp))
        simp [this]
      · have : ¬ (ofB (sumOf l) = ofB (sumOf (curF l p xs 4))) := fun e => hall.1 (heq.1 e) ho
        simpa using this
    refine ifB_t hfin ?_
    exact law02_awake_calls (law02_awake_spec (ht.ext hx4) (hh.ext hx4) fun w5 hx5 => hK w5 (hx4.trans' hx5))
end Go.Chg
