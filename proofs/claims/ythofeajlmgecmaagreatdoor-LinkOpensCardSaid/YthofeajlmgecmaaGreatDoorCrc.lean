/-
  A register of 32 bits, turned bit by bit; sums of bytes; that a change of up to four bytes, one behind the other, changes the sum. Plain Lean over the words of 'Prim'.
-/
import Derived.Test.YthofeajlmgecmaaGreatDoorMY
set_option maxRecDepth 20000
namespace Go.Vc

def poly : BitVec 32 := 0xedb88320#32
/-- One bit. -/
def bit1 (r : BitVec 32) : BitVec 32 := (r >>> 1) ^^^ (if r.getLsbD 0 = true then poly else 0#32)
theorem bit1_xor (a b : BitVec 32) : bit1 (a ^^^ b) = bit1 a ^^^ bit1 b := by
  unfold bit1
  rw [BitVec.ushiftRight_xor_distrib, BitVec.getLsbD_xor]
  cases ha : a.getLsbD 0 <;> cases hb : b.getLsbD 0
  · simp
  · simp only [Bool.false_bne, if_true, Bool.false_eq_true, if_false, BitVec.xor_zero, BitVec.xor_assoc]
  · simp only [Bool.bne_false, if_true, Bool.false_eq_true, if_false, BitVec.xor_zero, BitVec.xor_assoc]
    congr 1
    exact BitVec.xor_comm _ _
  · have e : (true != true) = false := rfl
    simp only [e, if_true, Bool.false_eq_true, if_false, BitVec.xor_zero]
    have h1 : (a >>> 1 ^^^ poly) ^^^ (b >>> 1 ^^^ poly) = (a >>> 1 ^^^ b >>> 1) ^^^ (poly ^^^ poly) := by ac_rfl
    rw [h1, BitVec.xor_self, BitVec.xor_zero]
def nbits : Nat → BitVec 32 → BitVec 32
  | 0, r => r
  | n + 1, r => nbits n (bit1 r)
theorem nbits_xor : ∀ (n : Nat) (a b : BitVec 32), nbits n (a ^^^ b) = nbits n a ^^^ nbits n b
  | 0, _, _ => rfl
  | n + 1, a, b => by simp only [nbits]; rw [bit1_xor, nbits_xor n]
theorem nbits_add : ∀ (m n : Nat) (r : BitVec 32), nbits (m + n) r = nbits n (nbits m r)
  | 0, n, r => by rw [Nat.zero_add]; rfl
  | m + 1, n, r => by rw [Nat.add_right_comm]; simp only [nbits]; exact nbits_add m n _
theorem bit1_zero : bit1 0#32 = 0#32 := by decide
theorem nbits_zero : ∀ n, nbits n 0#32 = 0#32
  | 0 => rfl
  | n + 1 => by simp only [nbits]; rw [bit1_zero]; exact nbits_zero n
/-- Nothing but 0 is turned to 0. -/
theorem bit1_inj0 {a : BitVec 32} (h : bit1 a = 0#32) : a = 0#32 := by
  unfold bit1 at h
  cases h0 : a.getLsbD 0
  · rw [h0] at h
    simp only [Bool.false_eq_true, if_false, BitVec.xor_zero] at h
    apply BitVec.eq_of_getLsbD_eq
    intro i hi
    rcases Nat.eq_zero_or_pos i with rfl | hp
    · rw [h0]; simp
    · have := congrArg (fun v => BitVec.getLsbD v (i - 1)) h
      simp only [BitVec.getLsbD_ushiftRight] at this
      rw [show 1 + (i - 1) = i by omega] at this
      rw [this]
      simp
  · exfalso
    rw [h0] at h
    simp only [if_true] at h
    have := congrArg (fun v => BitVec.getLsbD v 31) h
    simp only [BitVec.getLsbD_xor, BitVec.getLsbD_ushiftRight] at this
    have h1 : a.getLsbD (1 + 31) = false := BitVec.getLsbD_of_ge _ _ (by decide)
    have h2 : poly.getLsbD 31 = true := by decide
    rw [h1, h2] at this
    simp at this
theorem nbits_inj0 : ∀ (n : Nat) {a : BitVec 32}, nbits n a = 0#32 → a = 0#32
  | 0, _, h => h
  | n + 1, _, h => bit1_inj0 (nbits_inj0 n h)
theorem nbits_inj {n : Nat} {a b : BitVec 32} (h : nbits n a = nbits n b) : a = b := by
  have h1 : nbits n (a ^^^ b) = 0#32 := by rw [nbits_xor, h, BitVec.xor_self]
  have h2 := nbits_inj0 n h1
  have h3 : (a ^^^ b) ^^^ b = 0#32 ^^^ b := by rw [h2]
  rwa [BitVec.xor_assoc, BitVec.xor_self, BitVec.xor_zero, BitVec.zero_xor] at h3
/-- What ends in zeros is only moved. -/
theorem nbits_low : ∀ (n : Nat) (a : BitVec 32), (∀ i, i < n → a.getLsbD i = false) → nbits n a = a >>> n
  | 0, a, _ => by simp [nbits]
  | n + 1, a, h => by
    simp only [nbits]
    have h0 : bit1 a = a >>> 1 := by
      unfold bit1
      rw [h 0 (by omega)]
      simp
    rw [h0, nbits_low n (a >>> 1) (fun i hi => by rw [BitVec.getLsbD_ushiftRight]; exact h (1 + i) (by omega))]
    apply BitVec.eq_of_getLsbD_eq
    intro i _
    rw [BitVec.getLsbD_ushiftRight, BitVec.getLsbD_ushiftRight, BitVec.getLsbD_ushiftRight]
    congr 1
    omega
def nib (r : BitVec 32) : BitVec 32 := r &&& 15#32
theorem nib_split (r : BitVec 32) : r = (r &&& ~~~ 15#32) ^^^ nib r := by
  apply BitVec.eq_of_getLsbD_eq
  intro i hi
  simp only [nib, BitVec.getLsbD_xor, BitVec.getLsbD_and, BitVec.getLsbD_not, hi, decide_true, Bool.true_and]
  cases r.getLsbD i <;> cases (15#32).getLsbD i <;> rfl
/-- Four bits at once. -/
theorem nbits4 (r : BitVec 32) : nbits 4 r = (r >>> 4) ^^^ nbits 4 (nib r) := by
  conv => lhs; rw [nib_split r]
  rw [nbits_xor, nbits_low 4 (r &&& ~~~ 15#32)]
  · congr 1
    apply BitVec.eq_of_getLsbD_eq
    intro i hi
    simp only [BitVec.getLsbD_ushiftRight, BitVec.getLsbD_and, BitVec.getLsbD_not]
    by_cases h : 4 + i < 32
    · have : (15#32).getLsbD (4 + i) = false := by
        have key : ∀ j : Fin 28, (15#32).getLsbD (4 + j.val) = false := by decide
        exact key ⟨i, by omega⟩
      rw [this]
      simp [h]
    · rw [BitVec.getLsbD_of_ge _ _ (by omega)]
      simp
  · intro i hi
    rw [BitVec.getLsbD_and, BitVec.getLsbD_not]
    have key : ∀ j : Fin 4, (15#32).getLsbD j.val = true := by decide
    have := key ⟨i, hi⟩
    simp only at this
    rw [this]
    simp
def ext8 (c : UInt8) : BitVec 32 := BitVec.ofNat 32 c.toNat
/-- A byte. -/
def turn (r : BitVec 32) (c : UInt8) : BitVec 32 := nbits 8 (r ^^^ ext8 c)
def regOf (r : BitVec 32) (l : List UInt8) : BitVec 32 := l.foldl turn r
theorem turn_xor (a b : BitVec 32) (c d : UInt8) : turn a c ^^^ turn b d = nbits 8 ((a ^^^ b) ^^^ (ext8 c ^^^ ext8 d)) := by
  unfold turn
  rw [← nbits_xor]
  congr 1
  ac_rfl
theorem regOf_xor : ∀ (l : List UInt8) (a b : BitVec 32), regOf a l ^^^ regOf b l = nbits (8 * l.length) (a ^^^ b)
  | [], a, b => rfl
  | c :: l, a, b => by
    unfold regOf
    simp only [List.foldl_cons]
    have := regOf_xor l (turn a c) (turn b c)
    unfold regOf at this
    rw [this, turn_xor, BitVec.xor_self, BitVec.xor_zero, List.length_cons, show 8 * (l.length + 1) = 8 + 8 * l.length by omega, nbits_add]
theorem regOf_inj {l : List UInt8} {a b : BitVec 32} : regOf a l = regOf b l ↔ a = b := by
  constructor
  · intro h
    have h1 := regOf_xor l a b
    rw [h, BitVec.xor_self] at h1
    have h2 := nbits_inj0 _ h1.symm
    have h3 : (a ^^^ b) ^^^ b = 0#32 ^^^ b := by rw [h2]
    rwa [BitVec.xor_assoc, BitVec.xor_self, BitVec.xor_zero, BitVec.zero_xor] at h3
  · rintro rfl; rfl

/-! ### Up to four changed bytes -/
theorem high8 {y : BitVec 32} (h : y.toNat < 2 ^ 24) : nbits 8 (y <<< 8) = y := by
  rw [nbits_low 8 (y <<< 8) (fun i hi => by rw [BitVec.getLsbD_shiftLeft]; simp; omega)]
  apply BitVec.eq_of_getLsbD_eq
  intro i hi
  rw [BitVec.getLsbD_ushiftRight, BitVec.getLsbD_shiftLeft]
  by_cases h24 : i < 24
  · have e1 : decide (8 + i < 32) = true := decide_eq_true (by omega)
    have e2 : decide (8 + i < 8) = false := decide_eq_false (by omega)
    rw [e1, e2, show 8 + i - 8 = i by omega]
    simp
  · have e1 : decide (8 + i < 32) = false := decide_eq_false (by omega)
    rw [e1]
    simp only [Bool.false_and]
    symm
    rw [← BitVec.testBit_toNat]
    exact Nat.testBit_lt_two_pow (Nat.lt_of_lt_of_le h (Nat.pow_le_pow_right (by omega) (by omega)))
def wordOf : List UInt8 → BitVec 32
  | [] => 0#32
  | e :: es => ext8 e ^^^ (wordOf es <<< 8)
theorem ext8_nat (e : UInt8) : (ext8 e).toNat = e.toNat := by
  unfold ext8
  rw [BitVec.toNat_ofNat]
  have := e.toNat_lt
  omega
theorem wordOf_lt : ∀ (es : List UInt8), es.length ≤ 4 → (wordOf es).toNat < 2 ^ (8 * es.length)
  | [], _ => by simp [wordOf]
  | e :: es, h => by
    have hl : es.length ≤ 3 := by simpa using h
    have ih := wordOf_lt es (by omega)
    simp only [wordOf, BitVec.toNat_xor, ext8_nat, BitVec.toNat_shiftLeft, List.length_cons]
    refine Nat.xor_lt_two_pow ?_ ?_
    · exact Nat.lt_of_lt_of_le e.toNat_lt (Nat.pow_le_pow_right (by omega) (by omega))
    · refine Nat.lt_of_le_of_lt (Nat.mod_le _ _) ?_
      rw [Nat.shiftLeft_eq, show 8 * (es.length + 1) = 8 * es.length + 8 by omega, Nat.pow_add]
      exact Nat.mul_lt_mul_of_pos_right ih (by decide)
theorem ext8_zero {e : UInt8} (h : ext8 e = 0#32) : e = 0 := by
  have := congrArg BitVec.toNat h
  rw [ext8_nat] at this
  exact UInt8.toNat_inj.1 (by simpa using this)
theorem wordOf_zero : ∀ (es : List UInt8), es.length ≤ 4 → (wordOf es = 0#32 ↔ ∀ e ∈ es, e = 0)
  | [], _ => by simp [wordOf]
  | e :: es, h => by
    have hl : es.length ≤ 3 := by simpa using h
    have ih := wordOf_zero es (by omega)
    have hw : (wordOf es).toNat < 2 ^ 24 := Nat.lt_of_lt_of_le (wordOf_lt es (by omega)) (Nat.pow_le_pow_right (by omega) (by omega))
    simp only [wordOf, List.mem_cons, forall_eq_or_imp]
    constructor
    · intro h0
      have low : ext8 e = 0#32 := by
        apply BitVec.eq_of_getLsbD_eq
        intro i hi
        have := congrArg (fun v => BitVec.getLsbD v i) h0
        simp only [BitVec.getLsbD_xor, BitVec.getLsbD_shiftLeft] at this
        by_cases h8 : i < 8
        · rw [show decide (i < 8) = true from decide_eq_true h8] at this
          simpa using this
        · rw [← BitVec.testBit_toNat, ext8_nat]
          have : e.toNat.testBit i = false := Nat.testBit_lt_two_pow (Nat.lt_of_lt_of_le e.toNat_lt (Nat.pow_le_pow_right (by omega) (by omega)))
          rw [this]
          simp
      refine ⟨ext8_zero low, ih.1 ?_⟩
      rw [low, BitVec.zero_xor] at h0
      have h1 := high8 hw
      rw [h0, nbits_zero] at h1
      exact h1.symm
    · rintro ⟨rfl, h2⟩
      rw [ih.2 h2]
      decide
def diffOf (d : BitVec 32) (es : List UInt8) : BitVec 32 := es.foldl (fun d e => nbits 8 (d ^^^ ext8 e)) d
theorem diffOf_word : ∀ (es : List UInt8) (d : BitVec 32), es.length ≤ 4 → diffOf d es = nbits (8 * es.length) (d ^^^ wordOf es)
  | [], d, _ => by simp [diffOf, wordOf, nbits]
  | e :: es, d, h => by
    have hl : es.length ≤ 3 := by simpa using h
    have hw : (wordOf es).toNat < 2 ^ 24 := Nat.lt_of_lt_of_le (wordOf_lt es (by omega)) (Nat.pow_le_pow_right (by omega) (by omega))
    have ih := diffOf_word es (nbits 8 (d ^^^ ext8 e)) (by omega)
    unfold diffOf at ih ⊢
    rw [List.foldl_cons, ih, List.length_cons, show 8 * (es.length + 1) = 8 + 8 * es.length by omega, nbits_add]
    congr 1
    conv => lhs; rw [← high8 hw]
    rw [← nbits_xor]
    congr 1
    simp only [wordOf]
    ac_rfl
theorem ext8_xor (a b : UInt8) : ext8 (a ^^^ b) = ext8 a ^^^ ext8 b := by
  apply BitVec.eq_of_toNat_eq
  rw [BitVec.toNat_xor, ext8_nat, ext8_nat, ext8_nat, UInt8.toNat_xor]
theorem regOf_diff : ∀ (l es : List UInt8) (a b : BitVec 32), es.length = l.length → regOf a l ^^^ regOf b (l.zipWith (· ^^^ ·) es) = diffOf (a ^^^ b) es
  | [], [], a, b, _ => rfl
  | c :: l, e :: es, a, b, h => by
    have ih := regOf_diff l es (turn a c) (turn b (c ^^^ e)) (by simpa using h)
    unfold regOf at ih ⊢
    simp only [List.zipWith_cons_cons, List.foldl_cons, diffOf]
    rw [ih, turn_xor, ext8_xor]
    unfold diffOf
    congr 2
    have : ext8 c ^^^ (ext8 c ^^^ ext8 e) = ext8 e := by rw [← BitVec.xor_assoc, BitVec.xor_self, BitVec.zero_xor]
    rw [this]
  | [], _ :: _, _, _, h => by simp at h
  | _ :: _, [], _, _, h => by simp at h
theorem regOf_append (r : BitVec 32) (a b : List UInt8) : regOf r (a ++ b) = regOf (regOf r a) b := List.foldl_append
/-- **Up to four bytes, one behind the other, changed: the register is another one just if one of them is.** -/
theorem burst {r : BitVec 32} {p m q es : List UInt8} (he : es.length = m.length) (h4 : m.length ≤ 4) : regOf r (p ++ m ++ q) = regOf r (p ++ m.zipWith (· ^^^ ·) es ++ q) ↔ ∀ e ∈ es, e = 0 := by
  rw [regOf_append, regOf_append, regOf_append, regOf_append, regOf_inj]
  have h1 := regOf_diff m es (regOf r p) (regOf r p) he
  rw [BitVec.xor_self, diffOf_word es _ (by omega), BitVec.zero_xor] at h1
  rw [← wordOf_zero es (by omega)]
  constructor
  · intro h
    rw [h, BitVec.xor_self] at h1
    exact nbits_inj0 _ h1.symm
  · intro h
    rw [h, nbits_zero] at h1
    have h3 : (regOf (regOf r p) m ^^^ regOf (regOf r p) (m.zipWith (· ^^^ ·) es)) ^^^ regOf (regOf r p) (m.zipWith (· ^^^ ·) es) = 0#32 ^^^ regOf (regOf r p) (m.zipWith (· ^^^ ·) es) := by rw [h1]
    rwa [BitVec.xor_assoc, BitVec.xor_self, BitVec.xor_zero, BitVec.zero_xor] at h3

/-! ### As it is reckoned -/
def ofB (r : BitVec 32) : Int := (r.toNat : Int)
theorem ofB_range (r : BitVec 32) : 0 ≤ ofB r ∧ ofB r < 4294967296 := by
  have := r.isLt
  unfold ofB
  omega
theorem ofInt_ofB (r : BitVec 32) : BitVec.ofInt 32 (ofB r) = r := by
  unfold ofB
  rw [BitVec.ofInt_natCast]
  simp
theorem bXor_u32 (a b : BitVec 32) : bXor .u32 (ofB a) (ofB b) = ofB (a ^^^ b) := by
  unfold bXor
  show IntKind.u32.wrap ((BitVec.ofInt 32 (ofB a) ^^^ BitVec.ofInt 32 (ofB b)).toNat : Int) = _
  rw [ofInt_ofB, ofInt_ofB]
  exact u32_id (ofB_range _).1 (ofB_range _).2
theorem bXor_ones (a : BitVec 32) : bXor .u32 4294967295 (ofB a) = ofB (~~~ a) := by
  have : (4294967295 : Int) = ofB (BitVec.allOnes 32) := by decide
  rw [this, bXor_u32, BitVec.allOnes_xor]
theorem shR_u32 (a : BitVec 32) (n : Nat) (hn : n < 32) : shR .u32 (ofB a) (n : Int) = ofB (a >>> n) := by
  unfold shR ofB
  have e : min (n : Int).toNat (IntKind.bits .u32) = n := by show min n 32 = n; omega
  rw [e, BitVec.toNat_ushiftRight, Nat.shiftRight_eq_div_pow, Int.fdiv_eq_ediv_of_nonneg _ (by exact_mod_cast Nat.zero_le _)]
  exact_mod_cast rfl
theorem bAnd_u32 (a b : BitVec 32) : bAnd .u32 (ofB a) (ofB b) = ofB (a &&& b) := by
  unfold bAnd
  show IntKind.u32.wrap ((BitVec.ofInt 32 (ofB a) &&& BitVec.ofInt 32 (ofB b)).toNat : Int) = _
  rw [ofInt_ofB, ofInt_ofB]
  exact u32_id (ofB_range _).1 (ofB_range _).2
theorem ofB_ext8 (c : UInt8) : ofB (ext8 c) = (c.toNat : Int) := by unfold ofB; rw [ext8_nat]
theorem wrap_byte (c : UInt8) : IntKind.u32.wrap (c.toNat : Int) = ofB (ext8 c) := by
  have := c.toNat_lt
  rw [ofB_ext8, u32_id (by omega) (by omega)]
theorem nib_lt (r : BitVec 32) : (nib r).toNat < 16 := by
  unfold nib
  rw [BitVec.toNat_and]
  exact Nat.lt_of_le_of_lt Nat.and_le_right (by decide)
def crcTab : List Nat := [0, 498536548, 997073096, 651767980, 1994146192, 1802195444, 1303535960, 1342533948, 3988292384, 4027552580, 3604390888, 3412177804, 2607071920, 2262029012, 2685067896, 3183342108]
theorem crcTab_nbits (r : BitVec 32) : crcTab[(nib r).toNat]? = some (nbits 4 (nib r)).toNat := by
  have key : ∀ k : Fin 16, crcTab[k.val]? = some (nbits 4 (BitVec.ofNat 32 k.val)).toNat := by decide +kernel
  have h := key ⟨(nib r).toNat, nib_lt r⟩
  simp only at h
  rw [h, BitVec.ofNat_toNat]
  simp
theorem half_u32 (a : BitVec 32) : IntKind.u32.wrap (Int.tdiv (ofB a) 2) = ofB (a >>> 1) := by
  have h := ofB_range a
  rw [Int.tdiv_eq_ediv_of_nonneg h.1, u32_id (by omega) (by omega)]
  unfold ofB
  rw [BitVec.toNat_ushiftRight, Nat.shiftRight_eq_div_pow]
  exact_mod_cast rfl
theorem odd_u32 (a : BitVec 32) : (Int.tmod (ofB a) 2 == 1) = a.getLsbD 0 := by
  have h := ofB_range a
  rw [Int.tmod_eq_emod_of_nonneg h.1, ← BitVec.testBit_toNat]
  unfold ofB
  rw [Nat.testBit_zero]
  have : ((a.toNat : Int) % 2 == 1) = decide (a.toNat % 2 = 1) := by
    by_cases h : a.toNat % 2 = 1
    · rw [decide_eq_true h]; simp; omega
    · rw [decide_eq_false h]; simp; omega
  exact this
end Go.Vc
