/-
  What packages 'crc' and 'changeoverref02' do.
-/
import Derived.Test.YthofeajlmgecmaaGreatDoorCrc
import Derived.Test.YthofeajlmgecmaaGreatDoorSpHex
set_option maxRecDepth 20000
set_option linter.unusedVariables false
namespace Go.Chg
open Go.Vc

structure CrcT (w : World) : Prop where
  tab : GlobAt w g_crc_table (crcTab.map fun (n : Nat) => Value.int .u32 (n : Int))
theorem CrcT.ext {w w' : World} (h : CrcT w) (hx : Ext w w') : CrcT w' := ⟨h.tab.ext hx⟩
theorem CrcT.cell {w : World} (h : CrcT w) (r : BitVec 32) : w.cell? (g_crc_table.add ((nib r).toNat * 1)) = some (.int .u32 (ofB (nbits 4 (nib r)))) := by
  refine h.tab.cell ?_
  rw [Nat.mul_one, List.getElem?_map, crcTab_nbits]
  rfl
theorem crc_turn_spec {r : BitVec 32} {c : UInt8} {K : Int → World → Prop} {w : World} (ht : CrcT w) (hK : K (ofB (turn r c)) w) : crc_turn (ofB r) (c.toNat : Int) K w := by
  unfold crc_turn
  have e15 : (15 : Int) = ofB 15#32 := by decide
  have e4 : (4 : Int) = ((4 : Nat) : Int) := rfl
  rw [wrap_byte, bXor_u32, e15, bAnd_u32]
  generalize hx : r ^^^ ext8 c = x
  refine ix_ar (n := 16) (z := 1) (nib x).toNat (by kernel_rfl) rfl (nib_lt x) ?_
  refine ld_cell (y := ofB (nbits 4 (nib x))) (by kernel_rfl) (ht.cell x) ?_
  rw [e4, shR_u32 _ 4 (by omega), bXor_u32, ← nbits4, bAnd_u32]
  refine ix_ar (n := 16) (z := 1) (nib (nbits 4 x)).toNat (by kernel_rfl) rfl (nib_lt _) ?_
  refine ld_cell (y := ofB (nbits 4 (nib (nbits 4 x)))) (by kernel_rfl) (ht.cell _) ?_
  rw [shR_u32 _ 4 (by omega), bXor_u32, ← nbits4, ← nbits_add]
  unfold turn at hK
  rw [hx] at hK
  exact hK
def ones : BitVec 32 := BitVec.allOnes 32
def sumOf (l : List UInt8) : BitVec 32 := ~~~ regOf ones l
theorem crc_Add_spec {s : BitVec 32} {x : Sl} {l : List UInt8} {K : Int → World → Prop} {w : World} (ht : CrcT w) (hx : IsSl eB w x l) (hK : K (ofB (~~~ regOf (~~~ s) l)) w) : crc_Add (ofB s) x K w := by
  unfold crc_Add
  have hl := hx.len
  have hle := hx.le
  rw [bXor_ones]
  refine up2b (fun k r w' => w = w' ∧ r = ofB (regOf (~~~ s) (l.take k))) 0 l.length rfl (by omega) hle ⟨rfl, rfl⟩ ?_
  rintro k _ _ C _ hk ⟨rfl, rfl⟩ hC
  refine ifD (fun hlt => ?_) (fun hge => ?_)
  · have hk1 : k < l.length := by omega
    refine el_rd (E := eB) (val := Value.int .u8) (y := (l[k].toNat : Int)) (by kernel_rfl) (by kernel_rfl) hx rfl hk1 rfl fun _ => ?_
    refine crc_turn_calls (crc_turn_spec ht ?_)
    exact hC hk1 _ _ _ rfl ⟨rfl, by unfold regOf; rw [foldl_up hk1]⟩
  · rw [bXor_ones, take_done (by omega)]
    exact hK
theorem crc_Sum_spec {x : Sl} {l : List UInt8} {K : Int → World → Prop} {w : World} (ht : CrcT w) (hx : IsSl eB w x l) (hK : K (ofB (sumOf l)) w) : crc_Sum x K w := by
  unfold crc_Sum
  have e : (0 : Int) = ofB 0#32 := by decide
  rw [e]
  refine crc_Add_calls (crc_Add_spec ht hx ?_)
  have : ~~~ (0#32 : BitVec 32) = ones := by decide
  rw [this]
  exact hK
theorem not_u32 (a : BitVec 32) : IntKind.u32.wrap (4294967295 - ofB a) = ofB (~~~ a) := by
  have h := ofB_range a
  rw [u32_id (by omega) (by omega)]
  unfold ofB at h ⊢
  rw [BitVec.toNat_not]
  omega
theorem ref02_Sum_spec {x : Sl} {l : List UInt8} {K : Int → World → Prop} {w : World} (hx : IsSl eB w x l) (hK : K (ofB (sumOf l)) w) : ref02_Sum x K w := by
  unfold ref02_Sum
  have hl := hx.len
  have hle := hx.le
  refine up2b (fun k r w' => w = w' ∧ r = ofB (regOf ones (l.take k))) 0 l.length rfl (by omega) hle ⟨rfl, show (4294967295 : Int) = ofB ones by decide⟩ ?_
  rintro k _ _ C _ hk ⟨rfl, rfl⟩ hC
  refine ifD (fun hlt => ?_) (fun hge => ?_)
  · have hk1 : k < l.length := by omega
    refine el_rd (E := eB) (val := Value.int .u8) (y := (l[k].toNat : Int)) (by kernel_rfl) (by kernel_rfl) hx rfl hk1 rfl fun _ => ?_
    rw [wrap_byte, bXor_u32]
    refine up2b (fun m r w' => w = w' ∧ r = ofB (nbits m (regOf ones (l.take k) ^^^ ext8 l[k]))) 0 8 rfl (by omega) (by omega) ⟨rfl, rfl⟩ ?_
    rintro m _ _ C2 _ hm ⟨rfl, rfl⟩ hC2
    refine ifD (fun hlt8 => ?_) (fun hge8 => ?_)
    · rw [odd_u32, half_u32]
      have hb : nbits (m + 1) (regOf ones (l.take k) ^^^ ext8 l[k]) = bit1 (nbits m (regOf ones (l.take k) ^^^ ext8 l[k])) := nbits_add m 1 _
      generalize nbits m (regOf ones (l.take k) ^^^ ext8 l[k]) = y at hb
      have ep : (3988292384 : Int) = ofB poly := by decide
      rw [ep, bXor_u32]
      refine ifB_of (fun h => hC2 (by omega) _ _ _ rfl ⟨rfl, ?_⟩) (fun h => hC2 (by omega) _ _ _ rfl ⟨rfl, ?_⟩)
      · rw [hb]; unfold bit1; rw [if_pos h]
      · rw [hb]; unfold bit1; rw [if_neg (by rw [h]; simp), BitVec.xor_zero]
    · have hm8 : m = 8 := by omega
      subst hm8
      refine hC hk1 _ _ _ rfl ⟨rfl, ?_⟩
      unfold regOf
      rw [foldl_up hk1]
      rfl
  · rw [not_u32, take_done (by omega)]
    exact hK
/-- A sum's eight digits. -/
def textOf (r : BitVec 32) : List UInt8 := digK 16 8 r.toNat
theorem ofB_inj {a b : BitVec 32} : ofB a = ofB b ↔ a = b := by
  unfold ofB
  constructor
  · intro h
    exact BitVec.eq_of_toNat_eq (by omega)
  · rintro rfl; rfl
/-! ### Changed bytes -/
/-- The first k changes done. -/
def curF (l : List UInt8) (at_ : Nat) (xs : List UInt8) (k : Nat) : List UInt8 := l.mapIdx fun j b => if at_ ≤ j ∧ j < at_ + k then b ^^^ xs.getD (j - at_) 0 else b
theorem curF_len (l : List UInt8) (at_ : Nat) (xs : List UInt8) (k : Nat) : (curF l at_ xs k).length = l.length := by simp [curF]
theorem curF_get {l : List UInt8} {at_ : Nat} {xs : List UInt8} {k j : Nat} (hj : j < l.length) : (curF l at_ xs k)[j]'(by rw [curF_len]; exact hj) = if at_ ≤ j ∧ j < at_ + k then l[j] ^^^ xs.getD (j - at_) 0 else l[j] := by simp [curF]
theorem curF_zero (l : List UInt8) (at_ : Nat) (xs : List UInt8) : curF l at_ xs 0 = l := by
  apply List.ext_getElem (by rw [curF_len])
  intro j h1 h2
  rw [curF_get h2, if_neg (by omega)]
theorem curF_step {l : List UInt8} {at_ : Nat} {xs : List UInt8} {k : Nat} (hk : at_ + k < l.length) : curF l at_ xs (k + 1) = (curF l at_ xs k).set (at_ + k) (l[at_ + k] ^^^ xs.getD k 0) := by
  apply List.ext_getElem (by rw [List.length_set, curF_len, curF_len])
  intro j h1 h2
  have hj : j < l.length := by rw [curF_len] at h1; exact h1
  rw [curF_get hj, List.getElem_set]
  by_cases he : at_ + k = j
  · subst he
    rw [if_pos (by omega), if_pos rfl, show at_ + k - at_ = k by omega]
  · rw [if_neg he, curF_get hj]
    by_cases h3 : at_ ≤ j ∧ j < at_ + k
    · rw [if_pos (by omega), if_pos h3]
    · rw [if_neg (by omega), if_neg h3]
theorem curF_parts {l : List UInt8} {at_ : Nat} {xs : List UInt8} {k : Nat} (hx : xs.length = 4) (hk : k ≤ 4) (ha : at_ + k ≤ l.length) :
    curF l at_ xs k = l.take at_ ++ ((l.drop at_).take k).zipWith (· ^^^ ·) (xs.take k) ++ l.drop (at_ + k) := by
  have e1 : (((l.drop at_).take k).zipWith (· ^^^ ·) (xs.take k)).length = k := by simp; omega
  apply List.ext_getElem
  · simp [curF_len]; omega
  intro j h1 h2
  have hj : j < l.length := by rw [curF_len] at h1; exact h1
  rw [curF_get hj]
  by_cases h3 : j < at_
  · rw [if_neg (by omega), List.getElem_append_left (by simp; omega), List.getElem_append_left (by simp; omega), List.getElem_take]
  · by_cases h4 : j < at_ + k
    · rw [if_pos (by omega), List.getElem_append_left (by simp; omega), List.getElem_append_right (by simp; omega), List.getElem_zipWith]
      simp only [List.length_take, List.getElem_take, List.getElem_drop]
      have e2 : j - min at_ l.length = j - at_ := by omega
      have e3 : xs.getD (j - at_) 0 = xs[j - at_]'(by omega) := by simp [List.getD, show j - at_ < xs.length by omega]
      rw [e3]
      congr 1
      · congr 1; omega
      · congr 1; omega
    · rw [if_neg (by omega), List.getElem_append_right (by rw [List.length_append, e1, List.length_take]; omega), List.getElem_drop]
      congr 1
      rw [List.length_append, e1, List.length_take]; omega
theorem curF_more {l : List UInt8} {at_ : Nat} {xs : List UInt8} {k m : Nat} (hk : l.length ≤ at_ + k) (hm : k ≤ m) : curF l at_ xs m = curF l at_ xs k := by
  apply List.ext_getElem (by rw [curF_len, curF_len])
  intro j h1 h2
  have hj : j < l.length := by rw [curF_len] at h1; exact h1
  rw [curF_get hj, curF_get hj]
  by_cases h3 : at_ ≤ j
  · rw [if_pos (by omega), if_pos (by omega)]
  · rw [if_neg (by omega), if_neg (by omega)]
theorem bXor_u8 (a b : UInt8) : bXor .u8 (a.toNat : Int) (b.toNat : Int) = ((a ^^^ b).toNat : Int) := by
  unfold bXor
  show IntKind.u8.wrap ((BitVec.ofInt 8 (a.toNat : Int) ^^^ BitVec.ofInt 8 (b.toNat : Int)).toNat : Int) = _
  have e : (BitVec.ofInt 8 (a.toNat : Int) ^^^ BitVec.ofInt 8 (b.toNat : Int)).toNat = (a ^^^ b).toNat := by
    rw [BitVec.toNat_xor, BitVec.toNat_ofInt, BitVec.toNat_ofInt, UInt8.toNat_xor]
    have ha := a.toNat_lt
    have hb := b.toNat_lt
    have h1 : ((a.toNat : Int) % ((2 ^ 8 : Nat) : Int)).toNat = a.toNat := by
      have : ((2 ^ 8 : Nat) : Int) = 256 := by decide
      rw [this]; omega
    have h2 : ((b.toNat : Int) % ((2 ^ 8 : Nat) : Int)).toNat = b.toNat := by
      have : ((2 ^ 8 : Nat) : Int) = 256 := by decide
      rw [this]; omega
    rw [h1, h2]
  rw [e]
  have := (a ^^^ b).toNat_lt
  exact u8_wrap (by omega) (by omega)

end Go.Chg
