/-
  Numbers as bytes, low seven bits first: what 'varint' and 'changeoverref01' both reckon. Plain Lean over the words of 'Prim'.
-/
import Derived.Test.YtnnoalpkldpjfaaGreatDoorOwn
namespace Go.Vc

def b8 (n : Nat) : UInt8 := UInt8.ofNat n
theorem b8_toNat {n : Nat} (h : n < 256) : (b8 n).toNat = n := by
  simp [b8, UInt8.toNat_ofNat']; omega

/-- A number's bytes. -/
def enc (n : Nat) : List UInt8 := if n < 128 then [b8 n] else b8 (n % 128 + 128) :: enc (n / 128)
  termination_by n
  decreasing_by omega
theorem enc_small {n : Nat} (h : n < 128) : enc n = [b8 n] := by rw [enc, if_pos h]
theorem enc_big {n : Nat} (h : ¬ n < 128) : enc n = b8 (n % 128 + 128) :: enc (n / 128) := by rw [enc, if_neg h]
theorem enc_len_le : ∀ (k n : Nat), n < 128 ^ (k + 1) → (enc n).length ≤ k + 1
  | 0, n, h => by rw [enc_small (by simpa using h)]; simp
  | k + 1, n, h => by
    by_cases hn : n < 128
    · rw [enc_small hn]; simp
    · rw [enc_big hn, List.length_cons]
      have := enc_len_le k (n / 128) (by
        rw [Nat.div_lt_iff_lt_mul (by omega)]
        rw [Nat.pow_succ] at h; exact h)
      omega
theorem enc_len9 {n : Int} (h : n ≤ 9223372036854775807) : (enc n.toNat).length ≤ 9 := enc_len_le 8 _ (by
  have : (128 : Nat) ^ (8 + 1) = 9223372036854775808 := by decide
  rw [this]; omega)
theorem enc_pos (n : Nat) : 0 < (enc n).length := by
  by_cases hn : n < 128
  · rw [enc_small hn]; simp
  · rw [enc_big hn]; simp

theorem u8_wrap {n : Int} (h0 : 0 ≤ n) (h : n < 256) : IntKind.u8.wrap n = n := by
  have : IntKind.u8.wrap n = n % 256 := rfl
  omega
theorem bOr128 {n : Int} : bOr .u8 (IntKind.u8.wrap n) 128 = n % 128 + 128 := by
  have h1 : IntKind.u8.wrap n = n % 256 := rfl
  rw [h1]
  have key : ∀ x : Fin 256, bOr .u8 (x.val : Int) 128 = (x.val : Int) % 128 + 128 := by decide +kernel
  obtain ⟨m, hm⟩ := Int.eq_ofNat_of_zero_le (show (0 : Int) ≤ n % 256 by omega)
  have hlt : m < 256 := by omega
  have := key ⟨m, hlt⟩
  simp only at this
  rw [hm, this]
  omega
theorem shR7 {n : Int} : shR .i64 n 7 = n.fdiv 128 := rfl
theorem bAnd127 {c : UInt8} : bAnd .u8 (c.toNat : Int) 127 = ((c.toNat % 128 : Nat) : Int) := by
  have key : ∀ x : Fin 256, bAnd .u8 (x.val : Int) 127 = ((x.val % 128 : Nat) : Int) := by decide +kernel
  exact key ⟨c.toNat, c.toNat_lt⟩

/-- A number read from its bytes: k bytes are read. The number, where its bytes end, and a fault (0: none). -/
def getG : List UInt8 → Nat → Int → Int → Int × Int × Int
  | [], _, _, _ => (0, 0, 1)
  | c :: cs, k, n, pos =>
    if (0 < k ∧ c = 0) ∨ 9 ≤ k then (0, 0, 3)
    else if c.toNat < 128 then (n + 128 ^ k * (c.toNat : Int), pos + 1, 0)
    else getG cs (k + 1) (n + 128 ^ k * ((c.toNat % 128 : Nat) : Int)) (pos + 1)
def getL (l : List UInt8) (pos : Int) : Int × Int × Int :=
  if pos < 0 then (0, 0, 6) else if (l.length : Int) < pos then (0, 0, 6) else getG (l.drop pos.toNat) 0 0 pos

theorem getG_pos : ∀ (l : List UInt8) (k : Nat) (n pos : Int), 0 ≤ pos → 0 ≤ (getG l k n pos).2.1 ∧ (getG l k n pos).2.1 ≤ pos + l.length
  | [], k, n, pos, h => by simp [getG]; omega
  | c :: cs, k, n, pos, h => by
    unfold getG
    split
    · simp; omega
    · split
      · simp; omega
      · have := getG_pos cs (k + 1) (n + 128 ^ k * ((c.toNat % 128 : Nat) : Int)) (pos + 1) (by omega)
        simp only [List.length_cons]
        omega
theorem getG_num : ∀ (l : List UInt8) (k : Nat) (n pos : Int), 0 ≤ n → 0 ≤ (getG l k n pos).1
  | [], k, n, pos, h => by simp [getG]
  | c :: cs, k, n, pos, h => by
    unfold getG
    have hp : (0 : Int) ≤ 128 ^ k := Int.le_of_lt (Int.pow_pos (by omega))
    split
    · simp
    · split
      · exact Int.add_nonneg h (Int.mul_nonneg hp (by omega))
      · exact getG_num cs (k + 1) _ (pos + 1) (Int.add_nonneg h (Int.mul_nonneg hp (by omega)))
theorem getL_pos (l : List UInt8) (pos : Int) : 0 ≤ (getL l pos).2.1 ∧ (getL l pos).2.1 ≤ l.length := by
  unfold getL
  split
  · simp
  · split
    · simp
    · have := getG_pos (l.drop pos.toNat) 0 0 pos (by omega)
      simp only [List.length_drop] at this
      omega
theorem getL_num (l : List UInt8) (pos : Int) : 0 ≤ (getL l pos).1 := by
  unfold getL
  split
  · simp
  · split
    · simp
    · exact getG_num _ _ _ _ (by omega)

theorem pow128 : ∀ k : Nat, ((128 : Int) ^ k) = ((128 ^ k : Nat) : Int) := fun k => by simp
theorem pow128_le {k : Nat} (h : k ≤ 9) : (128 : Nat) ^ k ≤ 9223372036854775808 := by
  have := Nat.pow_le_pow_right (n := 128) (by omega) h
  have e : (128 : Nat) ^ 9 = 9223372036854775808 := by decide
  omega
theorem pow128_le8 {k : Nat} (h : k ≤ 8) : (128 : Nat) ^ k ≤ 72057594037927936 := by
  have := Nat.pow_le_pow_right (n := 128) (by omega) h
  have e : (128 : Nat) ^ 8 = 72057594037927936 := by decide
  omega
/-- One byte more. -/
theorem step128 {k n c : Nat} (hn : n < 128 ^ k) (hc : c < 128) : n + 128 ^ k * c < 128 ^ (k + 1) := by
  have : 128 ^ k * c ≤ 128 ^ k * 127 := Nat.mul_le_mul_left _ (by omega)
  rw [Nat.pow_succ]
  omega

/-- The bytes of a number read as that number. -/
theorem getG_enc : ∀ (m : Nat) (k : Nat) (n pos : Int) (r : List UInt8), m < 128 ^ (9 - k) → k < 9 → (k = 0 ∨ 0 < m) →
    getG (enc m ++ r) k n pos = (n + 128 ^ k * (m : Int), pos + (enc m).length, 0) := by
  intro m
  induction m using Nat.strongRecOn with
  | ind m ih =>
    intro k n pos r hm hk h0
    by_cases hs : m < 128
    · rw [enc_small hs]
      have hb := b8_toNat (n := m) (by omega)
      simp only [List.cons_append, List.nil_append, getG, List.length_cons, List.length_nil]
      rw [if_neg, if_pos (by omega), hb]
      · simp
      · rintro (⟨h1, h2⟩ | h)
        · have : (b8 m).toNat = 0 := by rw [h2]; rfl
          omega
        · omega
    · rw [enc_big hs]
      have hb := b8_toNat (n := m % 128 + 128) (by omega)
      simp only [List.cons_append, getG, List.length_cons]
      have hk1 : k + 1 < 9 := by
        have : 128 ^ 1 < 128 ^ (9 - k) := by omega
        have := (Nat.pow_lt_pow_iff_right (by omega : 1 < 128)).1 this
        omega
      rw [if_neg, if_neg (by omega), ih (m / 128) (by omega) (k + 1) _ _ _ _ hk1 (by omega), hb]
      · simp only [Prod.mk.injEq]
        refine ⟨?_, by omega, trivial⟩
        have e1 : (128 : Int) ^ (k + 1) = 128 ^ k * 128 := Int.pow_succ 128 k
        have e2 : (m % 128 + 128) % 128 = m % 128 := by omega
        rw [e1, e2, Int.add_assoc, Int.mul_assoc, ← Int.mul_add]
        congr 2
        omega
      · rw [Nat.div_lt_iff_lt_mul (by omega)]
        have : 128 ^ (9 - (k + 1)) * 128 = 128 ^ (9 - k) := by
          rw [← Nat.pow_succ]
          congr 1
          omega
        omega
      · rintro (⟨h1, h2⟩ | h)
        · have : (b8 (m % 128 + 128)).toNat = 0 := by rw [h2]; rfl
          omega
        · omega
theorem getL_enc {m : Int} (h : m ≤ 9223372036854775807) (p r : List UInt8) : getL (p ++ enc m.toNat ++ r) p.length = ((m.toNat : Int), (p.length : Int) + (enc m.toNat).length, 0) := by
  unfold getL
  rw [if_neg (by omega), if_neg (by simp; omega)]
  rw [Int.toNat_natCast, List.append_assoc, List.drop_left, getG_enc]
  · simp
  · have e : (128 : Nat) ^ (9 - 0) = 9223372036854775808 := by decide
    omega
  · omega
  · exact .inl rfl

theorem u64_wrap {n : Int} (h0 : 0 ≤ n) (h : n < 18446744073709551616) : IntKind.u64.wrap n = n := by
  have : IntKind.u64.wrap n = n % 18446744073709551616 := rfl
  omega
theorem shl_rd {P : Program} {w : World} {k : IntKind} {t : TypeId} {x y : Operand} {a b : Int} {K : Int → Prop} (hb : 0 ≤ b) (hK : K (shL k a b)) : opRd P (binSem .shl t x y (.int k a) (.int .i64 b)) (Value.int k) K w := by
  refine ⟨_, ?_, hK⟩
  unfold binSem
  rw [Sem.run_bind]
  have h1 : (eqGuard .shl t x y (.int k a) (.int .i64 b)).run P w = .ok () w := by simp [eqGuard]
  rw [h1, Result.andThen_ok]
  show (Op.shift .shl k a .i64 b).run P w = _
  simp only [Op.shift, if_neg (show ¬ b < 0 by omega), Sem.run_pure, shL]
theorem bOr64 {n m k : Nat} (hn : n < 128 ^ k) (hm : m < 128) (hk : k ≤ 8) : bOr .u64 (n : Int) (shL .u64 (m : Int) (7 * (k : Int))) = ((n + 128 ^ k * m : Nat) : Int) := by
  have hlt : n + 128 ^ k * m < 128 ^ (k + 1) := step128 hn hm
  have hle : (128 : Nat) ^ (k + 1) ≤ 9223372036854775808 := pow128_le (by omega)
  have e2 : (2 : Nat) ^ (7 * k) = 128 ^ k := by rw [Nat.pow_mul]
  have e3 : (7 * (k : Int)).toNat = 7 * k := by omega
  have e4 : min (7 * k) IntKind.u64.bits = 7 * k := by
    have : IntKind.u64.bits = 64 := rfl
    omega
  have e5 : shL .u64 (m : Int) (7 * (k : Int)) = ((128 ^ k * m : Nat) : Int) := by
    unfold shL
    rw [e3, e4]
    have : ((m : Int) * 2 ^ (7 * k)) = ((128 ^ k * m : Nat) : Int) := by
      rw [← e2]; simp [Int.mul_comm]
    rw [this, u64_wrap (by omega) (by omega)]
  rw [e5]
  unfold bOr
  have e6 : ∀ z : Nat, z < 18446744073709551616 → (BitVec.ofInt IntKind.u64.bits (z : Int)).toNat = z := fun z hz => by
    rw [BitVec.toNat_ofInt]
    have : (2 : Nat) ^ IntKind.u64.bits = 18446744073709551616 := rfl
    rw [this]
    omega
  rw [BitVec.toNat_or, e6 _ (by omega), e6 _ (by omega), Nat.or_comm, ← e2, ← Nat.two_pow_add_eq_or_of_lt (by rw [e2]; exact hn), u64_wrap (by omega) (by rw [e2]; omega)]
  congr 1
  rw [Nat.add_comm]
end Go.Vc
