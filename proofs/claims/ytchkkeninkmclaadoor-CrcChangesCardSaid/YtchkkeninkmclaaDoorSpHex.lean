/-
  strconv.FormatUint with base 16.
-/
import Derived.Test.YtchkkeninkmclaaDoorHex
import Derived.Test.YtchkkeninkmclaaDoorFns
import Derived.Test.YtchkkeninkmclaaDoorTyr
set_option maxRecDepth 20000
set_option linter.unusedVariables false
namespace Go.Chg
open Go.Vc

def tab64 : List Int := [0, 1, 56, 2, 57, 49, 28, 3, 61, 58, 42, 50, 38, 29, 17, 4, 62, 47, 59, 36, 45, 43, 51, 22, 53, 39, 33, 30, 24, 18, 12, 5, 63, 55, 48, 27, 60, 41, 37, 16, 46, 35, 44, 21, 52, 32, 23, 11, 54, 26, 40, 15, 34, 20, 31, 10, 25, 14, 19, 9, 13, 8, 7, 6]
/-- The table by which trailing zeros are counted. -/
structure HexT (w : World) : Prop where
  tab : GlobAt w g_math_bits_deBruijn64tab (tab64.map fun n => Value.int .u8 n)
theorem HexT.ext {w w' : World} (h : HexT w) (hx : Ext w w') : HexT w' := ⟨h.tab.ext hx⟩

theorem tz16_spec {K : Int → World → Prop} {w : World} (ht : HexT w) (hK : K 4 w) : math_bits_TrailingZeros 16 K w := by
  unfold math_bits_TrailingZeros
  refine math_bits_TrailingZeros64_calls ?_
  unfold math_bits_TrailingZeros64
  refine ifEq (fun h => absurd h (by decide)) (fun _ => ?_)
  refine ix_ar (n := 64) (z := 1) 15 (by kernel_rfl) (by decide +kernel) (by omega) ?_
  refine ld_cell (y := 4) (by kernel_rfl) (ht.tab.cell (k := 15 * 1) (by kernel_rfl)) ?_
  exact hK
theorem bAnd64_15 {n : Nat} (h : n < 18446744073709551616) : bAnd .u64 (n : Int) 15 = ((n % 16 : Nat) : Int) := by
  unfold bAnd
  show IntKind.u64.wrap ((BitVec.ofInt 64 (n : Int) &&& BitVec.ofInt 64 15).toNat : Int) = _
  have e : (BitVec.ofInt 64 (n : Int) &&& BitVec.ofInt 64 15).toNat = n % 16 := by
    rw [BitVec.toNat_and, BitVec.toNat_ofInt, BitVec.toNat_ofInt]
    have e1 : ((n : Int) % ((2 ^ 64 : Nat) : Int)).toNat = n := by
      have : ((2 ^ 64 : Nat) : Int) = 18446744073709551616 := by decide
      rw [this]; omega
    have e2 : ((15 : Int) % ((2 ^ 64 : Nat) : Int)).toNat = 2 ^ 4 - 1 := by decide
    rw [e1, e2, Nat.and_two_pow_sub_one_eq_mod]
  rw [e]
  exact u64_id (by omega) (by omega)
theorem digs_get {n : Nat} (h : n < 36) : ∃ hl : n < cs2.length, cs2[n] = dig n := by
  have key : ∀ m : Fin 36, ∃ hl : m.val < cs2.length, cs2[m.val] = dig m.val := by decide +kernel
  exact key ⟨n, h⟩
theorem formatBits16_spec {u : Nat} {K : Sl × List UInt8 → World → Prop} {w : World} (ht : HexT w) (hu : u < 16 ^ 16) (hK : ∀ w', Ext w w' → K (Sl.nil, digits 16 u) w') : internal_strconv_formatBits Sl.nil (u : Int) 16 false false K w := by
  unfold internal_strconv_formatBits
  refine ifD (fun h => absurd h (by decide)) (fun _ => ifEq (fun h => absurd h (by decide)) (fun _ => ifD (fun h => absurd h (by decide)) (fun _ => ?_)))
  refine alloc_ty (z := .agg ⟨List.replicate 65 (.int .u8 0)⟩) (by kernel_rfl) fun a w1 ha hx1 hobj => ?_
  refine ⟨fun x w' => x = (u : Int) ∧ w' = w1, ifB_f rfl ⟨rfl, rfl⟩, ?_⟩
  rintro _ _ ⟨rfl, rfl⟩
  refine ⟨fun i w' => Ext w w' ∧ ∃ (j : Nat) (cs : List Value), i = j ∧ Vc.Obj w' a cs ∧ cs.length = 65 ∧ cs.drop j = (digits 16 u).flatMap eB.cs ∧ j + (digits 16 u).length = 65, ?_, ?_⟩
  · refine internal_strconv_isPowerOfTwo_calls ?_
    unfold internal_strconv_isPowerOfTwo
    refine ifB_t (by decide +kernel) ?_
    refine math_bits_TrailingZeros_calls (tz16_spec (ht.ext hx1) ?_)
    have e16 : IntKind.u64.wrap 16 = 16 := by decide
    have e15 : IntKind.u64.wrap (16 - 1) = 15 := by decide
    have e4 : IntKind.u64.wrap 4 = ((4 : Nat) : Int) := by decide
    rw [e16, e15, e4]
    have hcs0 : (Value.agg ⟨List.replicate 65 (.int .u8 0)⟩).cells.toList = List.replicate 65 (.int .u8 0) := rfl
    rw [hcs0] at hobj
    refine ⟨fun x i w' => Ext w w' ∧ ∃ (n m : Nat) (cs : List Value) (suf : List UInt8), x = n ∧ i = (49 + m : Nat) ∧ Vc.Obj w' a cs ∧ cs.length = 65 ∧ cs.drop (49 + m) = suf.flatMap eB.cs ∧ 49 + m + suf.length = 65 ∧ digits 16 u = digits 16 n ++ suf ∧ n < 16 ^ m ∧ m ≤ 16, fun x _ _ => x.toNat,
      ⟨hx1, u, 16, _, [], rfl, rfl, hobj, by simp, by simp, by simp, ?_, hu, by omega⟩, ?_⟩
    · simp
    rintro _ _ w2 ⟨hx2, n, m, cs, suf, rfl, rfl, ho, hcl, hcd, hjl, hdig, hnm, hm⟩
    have hblk : w.heap.size ≤ a.block := by omega
    have hn64 : n < 18446744073709551616 := by
      have : 16 ^ m ≤ 16 ^ 16 := Nat.pow_le_pow_right (by omega) hm
      have e : 16 ^ 16 = 18446744073709551616 := by decide
      omega
    have hset : ∀ d : UInt8, (cs.set (48 + m) (.int .u8 (d.toNat : Int))).drop (48 + m) = (d :: suf).flatMap eB.cs := fun d => by
      rw [List.drop_eq_getElem_cons (by simp; omega), List.getElem_set_self, List.drop_set_of_lt (by omega), show 48 + m + 1 = 49 + m by omega, hcd]
      rfl
    have ei : i64 (((49 + m : Nat) : Int) - 1) = ((48 + m : Nat) : Int) := by rw [i64_id] <;> omega
    rw [ei]
    refine ifD (fun hge => ?_) (fun hlt => ?_)
    · have hand : bAnd .u64 (n : Int) 15 = ((n % 16 : Nat) : Int) := bAnd64_15 hn64
      rw [hand]
      have hn16 : n % 16 < 36 := by omega
      obtain ⟨hl, hdg⟩ := digs_get hn16
      refine idx_str (n % 16) (by kernel_rfl) rfl hl ?_
      rw [hdg]
      refine ix_ar (n := 65) (z := 1) (48 + m) (by kernel_rfl) rfl (by omega) ?_
      rw [Nat.mul_one]
      refine st_obj (by kernel_rfl) ho rfl (by omega) fun w3 hw3 ho3 => ?_
      refine shr_rd (by omega) ?_
      have hsh : shR .u64 (n : Int) ((4 : Nat) : Int) = ((n / 16 : Nat) : Int) := by
        show (n : Int).fdiv (2 ^ 4) = _
        rw [Int.fdiv_eq_ediv_of_nonneg _ (by decide)]
        rfl
      rw [hsh]
      have hge' : 16 ≤ n := by omega
      obtain ⟨m', rfl⟩ : ∃ m', m = m' + 1 := ⟨m - 1, by
        rcases Nat.eq_zero_or_pos m with h | h
        · subst h; simp at hnm; omega
        · omega⟩
      refine ⟨⟨Below.wr hx2 hblk hw3, n / 16, m', _, dig (n % 16) :: suf, rfl, by congr 1; omega, ho3, by simpa using hcl, ?_, ?_, ?_, ?_, by omega⟩, ?_⟩
      · have := hset (dig (n % 16))
        rw [show 48 + (m' + 1) = 49 + m' by omega] at this
        rw [show 48 + (m' + 1) = 49 + m' by omega]
        exact this
      · rw [List.length_cons]; omega
      · rw [hdig, digits_big (by omega) (by omega : ¬ n < 16), List.append_assoc]; rfl
      · exact Nat.div_lt_of_lt_mul (by rw [Nat.mul_comm, ← Nat.pow_succ]; exact hnm)
      · dsimp only
        have := Nat.div_lt_self (n := n) (k := 16) (by omega) (by omega)
        omega
    · have hn16 : n < 36 := by omega
      obtain ⟨hl, hdg⟩ := digs_get hn16
      refine idx_str n (by kernel_rfl) rfl hl ?_
      rw [hdg]
      refine ix_ar (n := 65) (z := 1) (48 + m) (by kernel_rfl) rfl (by omega) ?_
      rw [Nat.mul_one]
      refine st_obj (by kernel_rfl) ho rfl (by omega) fun w3 hw3 ho3 => ?_
      refine ⟨Below.wr hx2 hblk hw3, 48 + m, _, rfl, ho3, by simpa using hcl, ?_, ?_⟩
      · rw [hdig, digits_small (by omega)]
        exact hset (dig n)
      · rw [hdig, digits_small (by omega), List.length_append, List.length_singleton]; omega
  · rintro _ w2 ⟨hx2, j, cs, rfl, ho, hcl, hcd, hjl⟩
    refine ⟨fun i w' => i = (j : Int) ∧ w' = w2, ifB_f rfl ⟨rfl, rfl⟩, ?_⟩
    rintro _ _ ⟨rfl, rfl⟩
    refine ifB_f rfl ?_
    refine ⟨_, ar_sub_l j (n := 65) (z := 1) (by kernel_rfl) rfl (by omega), ?_⟩
    exact b2str_rd (by kernel_rfl) (by kernel_rfl) (ho.bytes hcl hjl (by omega) hcd) (hK _ hx2)
theorem FormatUint16_spec {u : Nat} {K : List UInt8 → World → Prop} {w : World} (ht : HexT w) (hu : u < 16 ^ 16) (hK : ∀ w', Ext w w' → K (digits 16 u) w') : strconv_FormatUint (u : Int) 16 K w := by
  unfold strconv_FormatUint
  refine internal_strconv_FormatUint_calls ?_
  unfold internal_strconv_FormatUint
  refine ifEq (fun h => absurd h (by decide)) (fun _ => ?_)
  exact internal_strconv_formatBits_calls (formatBits16_spec ht hu hK)
end Go.Chg
