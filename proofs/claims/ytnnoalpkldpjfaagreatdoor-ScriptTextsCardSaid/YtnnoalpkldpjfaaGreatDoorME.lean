import Derived.Test.YtnnoalpkldpjfaaGreatDoorMY
import Derived.Test.YtnnoalpkldpjfaaGreatDoorFns
import Derived.Test.YtnnoalpkldpjfaaGreatDoorTyr
import Derived.Test.YtnnoalpkldpjfaaGreatDoorMZ
import Derived.Lib.Builder
import Derived.Lib.UnsafeStr
import Derived.Laws.Externs
import Derived.Test.YtnnoalpkldpjfaaGreatDoorQuo
import Derived.Test.YtnnoalpkldpjfaaGreatDoorMA
import Derived.Lib.MakeNoZero
import Derived.Test.YtnnoalpkldpjfaaGreatDoorMB
import Derived.Test.YtnnoalpkldpjfaaGreatDoorSpRuneK
import Derived.Test.YtnnoalpkldpjfaaGreatDoorEqs
/-
  strconv.Itoa of a number from 0 on; 'changeoverref08' of its digits.
-/
set_option maxRecDepth 20000
set_option linter.unusedVariables false
namespace Go.Vc
variable {P : Program} {w : World}
/-- A cell of an array, behind a slice of it. -/
theorem ix_off {t : TypeId} {s : Sl} {a : Addr} {o : Nat} {i : Int} (k : Nat) {K : Addr → Prop} (ht : slOf P t = some 1) (ha : s.a = some (a.add o)) (hs : a.spot = none) (hi : i = (k : Int)) (hk : k < s.len) (hK : K (a.add (o + k))) :
    opRd P (Instr.indexAt t s.val (.int .i64 i)) pav K w := by
  obtain ⟨e, he, hn⟩ := slOf_spec ht
  refine ⟨a.add (o + k), ?_, hK⟩
  have h1 : s.a = some ⟨a.block, a.off + o, none⟩ := by rw [ha, addr_off a hs]
  rw [run_indexAt he hn hi hk h1, pav, addr_off a hs]
  simp [Nat.add_assoc]
theorem ar_sub_lh {t n : Nat} {a : Addr} {i j : Int} (m k : Nat) (ht : arOf P t = some (n, 1)) (hi : i = (m : Int)) (hj : j = (k : Int)) (hmk : m ≤ k) (hk : k ≤ n) (hm : m < n) :
    (Instr.sliceAt t (.pointer (some a)) (some (.int .i64 i)) (some (.int .i64 j)) none).run P w = .ok (Sl.val ⟨some (a.add m), k - m, n - m⟩) w := by
  obtain ⟨e, he, hz⟩ := arOf_spec ht
  subst hi hj
  have ha : P.arrayLen t = n := by simp [Program.arrayLen, he]
  have hel : P.elem t = e := by simp [Program.elem, he]
  rw [run_sliceAt_array_lh w t a (by rw [ha, hel]; exact he) .i64 .i64 (m : Int) (k : Int) (by omega) (by omega) (by rw [ha]; omega), hel, run_size hz, ha]
  simp only [slicedAt, Sl.val, Result.andThen, Int.toNat_natCast, Nat.mul_one]
  rw [if_neg (by omega)]
/-- Bytes of an array, read as a list. -/
theorem Obj.part {a : Addr} {cs : List Value} (h : Obj w a cs) {m d c : Nat} {l : List UInt8} (hl : l.length = d) (hd : d ≤ c) (hsm : c ≤ 9223372036854775807) (hc : (cs.drop m).take d = l.flatMap eB.cs) :
    IsSl eB w ⟨some (a.add m), d, c⟩ l := by
  have hrow := h.row
  obtain ⟨h1, h2, _⟩ := h
  refine ⟨by dsimp only; omega, hd, by dsimp only; omega, .inr ⟨a.block, m, ?_, hrow.lt, ?_⟩, fun e => by cases e⟩
  · rw [addr_off a h1, h2]; simp
  · have := hrow.cells m d
    rw [hc] at this
    exact this
/-- The digits below a place are yet to be written. -/
structure DigInv (a : Addr) (d u : Nat) (w : World) (nd v : Nat) : Prop where
  le : nd ≤ d
  lt : v < 10 ^ nd
  cells : ∃ (cs : List Value) (suf : List UInt8), Obj w a cs ∧ cs.length = 24 ∧ (cs.drop (1 + nd)).take (d - nd) = suf.flatMap eB.cs ∧ suf.length = d - nd ∧ digK 10 d u = digK 10 nd v ++ suf
theorem DigInv.ext {a : Addr} {d u nd v : Nat} {w' : World} (h : DigInv a d u w nd v) (hx : Ext w w') : DigInv a d u w' nd v := by
  obtain ⟨h1, h2, cs, suf, h3, h4⟩ := h
  exact ⟨h1, h2, cs, suf, h3.ext hx, h4⟩
theorem DigInv.spot {a : Addr} {d u nd v : Nat} (h : DigInv a d u w nd v) : a.spot = none := by
  obtain ⟨_, _, cs, suf, h3, _⟩ := h
  exact h3.1
theorem dig_store {a : Addr} {d u nd v : Nat} {t5 : TypeId} {c : UInt8} {K : World → Prop} (h5 : sizeT P t5 = some 1) (h : DigInv a d u w (nd + 1) v) (hd : d ≤ 23) (hc : c = dig (v % 10))
    (hK : ∀ w', DigInv a d u w' nd (v / 10) → Wr a.block w w' → K w') : opUn P (Instr.storeAt t5 (.pointer (some (a.add (1 + nd)))) (.int .u8 (c.toNat : Int))) K w := by
  obtain ⟨h1, h2, cs, suf, h3, h4, h6, h7, h8⟩ := h
  refine st_obj h5 h3 rfl (by omega) fun w' hw ho => hK w' ⟨by omega, Nat.div_lt_of_lt_mul (by rw [Nat.mul_comm, ← Nat.pow_succ]; exact h2), _, c :: suf, ho, by simpa using h4, ?_, by rw [List.length_cons]; omega, ?_⟩ hw
  · rw [List.drop_eq_getElem_cons (by simp; omega), List.getElem_set_self, List.drop_set_of_lt (by omega), show d - nd = (d - (nd + 1)) + 1 by omega, List.take_succ_cons, show 1 + nd + 1 = 1 + (nd + 1) by omega, h6]
    rfl
  · rw [h8, digK, hc, List.append_assoc]
    rfl
theorem w32i {z : Int} (h0 : 0 ≤ z) (h : z < 4294967296) : IntKind.u32.wrap z = z := u32_id h0 h
theorem tm8 (v : Nat) : Int.tmod (v : Int) 100000000 = ((v % 100000000 : Nat) : Int) := rfl
theorem tm4 (v : Nat) : Int.tmod (v : Int) 10000 = ((v % 10000 : Nat) : Int) := rfl
theorem tm2 (v : Nat) : Int.tmod (v : Int) 100 = ((v % 100 : Nat) : Int) := rfl
theorem tm1 (v : Nat) : Int.tmod (v : Int) 10 = ((v % 10 : Nat) : Int) := rfl
theorem td8 (v : Nat) : Int.tdiv (v : Int) 100000000 = ((v / 100000000 : Nat) : Int) := rfl
theorem td4 (v : Nat) : Int.tdiv (v : Int) 10000 = ((v / 10000 : Nat) : Int) := rfl
theorem td2 (v : Nat) : Int.tdiv (v : Int) 100 = ((v / 100 : Nat) : Int) := rfl
theorem td1 (v : Nat) : Int.tdiv (v : Int) 10 = ((v / 10 : Nat) : Int) := rfl
theorem w32n {v : Nat} (h : v < 4294967296) : IntKind.u32.wrap (v : Int) = (v : Int) := u32_id (by omega) (by omega)
theorem w64n {v : Nat} (h : v < 18446744073709551616) : IntKind.u64.wrap (v : Int) = (v : Int) := u64_id (by omega) (by omega)
end Go.Vc
namespace Go.Chg
open Go.Vc

def pow10tab : List Int := [1, 10, 100, 1000, 10000, 100000, 1000000, 10000000, 100000000, 1000000000, 10000000000, 100000000000, 1000000000000, 10000000000000, 100000000000000, 1000000000000000, 10000000000000000, 100000000000000000, 1000000000000000000, 10000000000000000000]
/-- The table of powers of ten. -/
structure ConvT (w : World) : Prop where
  tab : GlobAt w g_internal_strconv_uint64pow10 (pow10tab.map fun n => Value.int .u64 n)
theorem ConvT.ext {w w' : World} (h : ConvT w) (hx : Ext w w') : ConvT w' := ⟨h.tab.ext hx⟩
theorem pow10_get {k : Nat} (h : k < 20) : (pow10tab.map fun n => Value.int .u64 n)[k]? = some (.int .u64 ((10 ^ k : Nat) : Int)) := by
  have key : ∀ m : Fin 20, pow10tab[m.val]? = some ((10 ^ m.val : Nat) : Int) := by decide +kernel
  rw [List.getElem?_map, key ⟨k, h⟩]
  rfl

/-! ### How many digits -/
theorem len8_get {y : Nat} (h : y < 256) (h0 : 0 < y) : ∃ hl : y < cs256_85724.length, 1 ≤ cs256_85724[y].toNat ∧ cs256_85724[y].toNat ≤ 8 ∧ 2 ^ (cs256_85724[y].toNat - 1) ≤ y ∧ y < 2 ^ cs256_85724[y].toNat := by
  have key : ∀ m : Fin 256, 0 < m.val → ∃ hl : m.val < cs256_85724.length, 1 ≤ cs256_85724[m.val].toNat ∧ cs256_85724[m.val].toNat ≤ 8 ∧ 2 ^ (cs256_85724[m.val].toNat - 1) ≤ m.val ∧ m.val < 2 ^ cs256_85724[m.val].toNat := by decide +kernel
  exact key ⟨y, h⟩ h0
theorem blen_up {x y m t : Nat} (h : x / 2 ^ m = y) (h1 : 1 ≤ t) (h2 : 2 ^ (t - 1) ≤ y) (h3 : y < 2 ^ t) : 2 ^ (m + t - 1) ≤ x ∧ x < 2 ^ (m + t) := by
  have hp : 0 < 2 ^ m := Nat.pow_pos (by omega)
  constructor
  · have : 2 ^ (m + t - 1) = 2 ^ (t - 1) * 2 ^ m := by rw [← Nat.pow_add]; congr 1; omega
    rw [this]
    exact (Nat.le_div_iff_mul_le hp).1 (by rw [h]; exact h2)
  · have : 2 ^ (m + t) = 2 ^ m * 2 ^ t := Nat.pow_add _ _ _
    rw [this]
    exact (Nat.div_lt_iff_lt_mul hp).1 (by rw [h]; exact h3) |> fun q => by rw [Nat.mul_comm]; exact q
theorem shR64 {x k : Nat} (hk : k ≤ 64) : shR .u64 (x : Int) (k : Int) = ((x / 2 ^ k : Nat) : Int) := by
  unfold shR
  have e : min (k : Int).toNat IntKind.u64.bits = k := by
    have : IntKind.u64.bits = 64 := rfl
    rw [this, Int.toNat_natCast]; omega
  rw [e, Int.fdiv_eq_ediv_of_nonneg _ (Int.le_of_lt (Int.pow_pos (by omega)))]
  simp
theorem Len64_spec {x : Nat} {K : Int → World → Prop} {w : World} (h0 : 0 < x) (h : x < 18446744073709551616) (hK : ∀ L : Nat, 1 ≤ L → L ≤ 64 → 2 ^ (L - 1) ≤ x → x < 2 ^ L → K (L : Int) w) : math_bits_Len64 (x : Int) K w := by
  unfold math_bits_Len64
  refine ⟨fun x2 n3 w' => w = w' ∧ ∃ y m : Nat, x2 = y ∧ n3 = m ∧ m ≤ 32 ∧ x / 2 ^ m = y ∧ y < 4294967296 ∧ 0 < y, ?_, ?_⟩
  · refine ifD (fun hge => ⟨rfl, x / 2 ^ 32, 32, ?_, rfl, by omega, rfl, ?_, ?_⟩) (fun hlt => ⟨rfl, x, 0, rfl, rfl, by omega, by simp, by omega, h0⟩)
    · exact shR64 (k := 32) (by omega)
    · exact Nat.div_lt_of_lt_mul (by have : (2 : Nat) ^ 32 * 4294967296 = 18446744073709551616 := by decide
                                     omega)
    · exact Nat.div_pos (by have : (2 : Nat) ^ 32 = 4294967296 := by decide
                            omega) (by decide)
  rintro _ _ _ ⟨rfl, y, m, rfl, rfl, hm, hy, hy2, hy0⟩
  refine ⟨fun x2 n3 w' => w = w' ∧ ∃ z k : Nat, x2 = z ∧ n3 = k ∧ k ≤ 48 ∧ x / 2 ^ k = z ∧ z < 65536 ∧ 0 < z, ?_, ?_⟩
  · refine ifD (fun hge => ⟨rfl, y / 2 ^ 16, m + 16, ?_, ?_, by omega, ?_, ?_, ?_⟩) (fun hlt => ⟨rfl, y, m, rfl, rfl, by omega, hy, by omega, hy0⟩)
    · exact shR64 (k := 16) (by omega)
    · rw [i64_id] <;> omega
    · rw [Nat.pow_add, ← Nat.div_div_eq_div_mul, hy]
    · exact Nat.div_lt_of_lt_mul (by have : (2 : Nat) ^ 16 * 65536 = 4294967296 := by decide
                                     omega)
    · exact Nat.div_pos (by have : (2 : Nat) ^ 16 = 65536 := by decide
                            omega) (by decide)
  rintro _ _ _ ⟨rfl, z, k, rfl, rfl, hk, hz, hz2, hz0⟩
  refine ifD (fun hge => ?_) (fun hlt => ?_)
  · have e1 : z / 2 ^ 8 < 256 := Nat.div_lt_of_lt_mul (by have : (2 : Nat) ^ 8 * 256 = 65536 := by decide
                                                          omega)
    have e0 : 0 < z / 2 ^ 8 := Nat.div_pos (by have : (2 : Nat) ^ 8 = 256 := by decide
                                               omega) (by decide)
    obtain ⟨hl, t1, t8, t2, t3⟩ := len8_get e1 e0
    refine idx_str (z / 2 ^ 8) (by kernel_rfl) ?_ hl ?_
    · rw [show shR .u64 (z : Int) 8 = ((z / 2 ^ 8 : Nat) : Int) from shR64 (k := 8) (by omega), u8_wrap (by omega) (by omega)]
    · generalize cs256_85724[z / 2 ^ 8].toNat = t at t1 t8 t2 t3
      obtain ⟨a1, a2⟩ := blen_up (x := x) (m := k + 8) (by rw [Nat.pow_add, ← Nat.div_div_eq_div_mul, hz]) t1 t2 t3
      have := hK (k + 8 + t) (by omega) (by omega) a1 a2
      have e : i64 (i64 ((k : Int) + 8) + IntKind.i64.wrap (t : Int)) = ((k + 8 + t : Nat) : Int) := by
        rw [wrap64_id (by omega) (by omega), i64_id (n := (k : Int) + 8) (by omega) (by omega), i64_id (by omega) (by omega)]; omega
      rw [e]
      exact this
  · obtain ⟨hl, t1, t8, t2, t3⟩ := len8_get (y := z) (by omega) hz0
    refine idx_str z (by kernel_rfl) (u8_wrap (by omega) (by omega)) hl ?_
    generalize cs256_85724[z].toNat = t at t1 t8 t2 t3
    obtain ⟨a1, a2⟩ := blen_up (x := x) (m := k) hz t1 t2 t3
    have := hK (k + t) (by omega) (by omega) a1 a2
    have e : i64 ((k : Int) + IntKind.i64.wrap (t : Int)) = ((k + t : Nat) : Int) := by
      rw [wrap64_id (by omega) (by omega), i64_id (by omega) (by omega)]; omega
    rw [e]
    exact this
theorem log10_facts : ∀ L : Fin 65, 1 ≤ L.val → 2 ^ L.val ≤ 10 ^ (L.val * 78913 / 262144 + 1) ∧ (1 ≤ L.val * 78913 / 262144 → 10 ^ (L.val * 78913 / 262144 - 1) ≤ 2 ^ (L.val - 1)) ∧ L.val * 78913 / 262144 < 20 := by decide +kernel
theorem numDigits_spec {u : Nat} {K : Int → World → Prop} {w : World} (ht : ConvT w) (h0 : 0 < u) (h : u < 18446744073709551616) (hK : ∀ d : Nat, 1 ≤ d → d ≤ 20 → u < 10 ^ d → digits 10 u = digK 10 d u → K (d : Int) w) : internal_strconv_numDigits (u : Int) K w := by
  unfold internal_strconv_numDigits
  refine math_bits_Len64_calls (Len64_spec h0 h fun L h1 h2 h3 h4 => ?_)
  refine internal_strconv_log10Pow2_calls ?_
  unfold internal_strconv_log10Pow2
  obtain ⟨f1, f2, f3⟩ := log10_facts ⟨L, by omega⟩ h1
  dsimp only at f1 f2 f3
  have e : shR .i64 (i64 ((L : Int) * 78913)) 18 = ((L * 78913 / 262144 : Nat) : Int) := by
    rw [i64_id (by omega) (by omega)]
    show ((L : Int) * 78913).fdiv (2 ^ 18) = _
    rw [Int.fdiv_eq_ediv_of_nonneg _ (by decide)]
    have : ((2 : Int) ^ 18) = 262144 := by decide
    rw [this]
    omega
  rw [e]
  generalize L * 78913 / 262144 = k at f1 f2 f3
  refine ix_ar (n := 20) (z := 1) k (by kernel_rfl) rfl f3 ?_
  refine ld_cell (y := ((10 ^ k : Nat) : Int)) (by kernel_rfl) (ht.tab.cell (by rw [Nat.mul_one]; exact pow10_get f3)) ?_
  refine internal_strconv_bool2_int_calls ?_
  unfold internal_strconv_bool2_int
  refine ifD (fun hge => ?_) (fun hlt => ?_)
  · have hge' : 10 ^ k ≤ u := by omega
    have hlt : u < 10 ^ (k + 1) := Nat.lt_of_lt_of_le h4 f1
    have := hK (k + 1) (by omega) (by omega) hlt (digits_K (by omega) k u hge' hlt)
    have e : i64 ((k : Int) + 1) = ((k + 1 : Nat) : Int) := by rw [i64_id] <;> omega
    show K (i64 ((k : Int) + 1)) w
    rw [e]
    exact this
  · have hlt' : u < 10 ^ k := by omega
    have hk : 1 ≤ k := by
      rcases Nat.eq_zero_or_pos k with h | h
      · subst h; simp at hlt'; omega
      · exact h
    have hge : 10 ^ (k - 1) ≤ u := Nat.le_trans (f2 hk) h3
    have := hK k hk (by omega) hlt' (by
      have := digits_K (b := 10) (by omega) (k - 1) u hge (by rw [show k - 1 + 1 = k by omega]; exact hlt')
      rw [show k - 1 + 1 = k by omega] at this
      exact this)
    have e : i64 ((k : Int) + 0) = (k : Int) := by rw [i64_id] <;> omega
    show K (i64 ((k : Int) + 0)) w
    rw [e]
    exact this

/-! ### The digits -/
theorem smalls_get {y : Nat} (h : y < 100) : ∃ h1 : 2 * y + 1 < cs200_63933.length, ∃ h0 : 2 * y < cs200_63933.length, cs200_63933[2 * y + 1] = dig (y % 10) ∧ cs200_63933[2 * y] = dig (y / 10) := by
  have key : ∀ m : Fin 100, ∃ h1 : 2 * m.val + 1 < cs200_63933.length, ∃ h0 : 2 * m.val < cs200_63933.length, cs200_63933[2 * m.val + 1] = dig (m.val % 10) ∧ cs200_63933[2 * m.val] = dig (m.val / 10) := by decide +kernel
  exact key ⟨y, h⟩
theorem pair_step {a : Addr} {d u nd v : Nat} {s : Sl} {e1 e0 i1 i0 : Int} {Rest : World → Prop} {w : World} {t9 t119 t5 : TypeId} (h9 : strT Pr t9 = true) (h119 : slOf Pr t119 = some 1) (h5 : sizeT Pr t5 = some 1)
    (hs : s = ⟨some (a.add 1), d, 23⟩) (hd : d ≤ 23) (hI : DigInv a d u w (nd + 2) v) (he1 : e1 = ((2 * (v % 100) + 1 : Nat) : Int)) (he0 : e0 = ((2 * (v % 100) : Nat) : Int)) (hi1 : i1 = ((nd + 1 : Nat) : Int)) (hi0 : i0 = (nd : Int))
    (hK : ∀ w', DigInv a d u w' nd (v / 100) → w.grownBy w' (some a.block) → Rest w') :
    heldM (fun S w5 => opH Pr S (Instr.index t9 (sval cs200_63933) (.int .u32 e1)) (Value.int .u8) (fun t7 => opH Pr S (Instr.index t9 (sval cs200_63933) (.int .u32 e0)) (Value.int .u8) (fun t8 =>
      opH Pr S (Instr.indexAt t119 s.val (.int .i64 i1)) pav (fun p9 => opUn Pr (Instr.storeAt t5 (.pointer (some p9)) (.int .u8 t7)) (fun w10 => S w10 ∧ opH Pr S (Instr.indexAt t119 s.val (.int .i64 i0)) pav (fun p11 =>
        opUn Pr (Instr.storeAt t5 (.pointer (some p11)) (.int .u8 t8)) (fun w12 => S w12 ∧ Rest w12) w10)) w5)))) w := by
  obtain ⟨h1, h0, g1, g0⟩ := smalls_get (y := v % 100) (by omega)
  subst hs
  have hsp := hI.spot
  have hle := hI.le
  refine heldM_of (fun _ => True) fun w5 hx5 => ⟨trivial, ?_⟩
  refine opH_of (cs200_63933[2 * (v % 100) + 1].toNat : Int) (fun w' _ => idx_str _ h9 he1 h1 rfl) ?_
  refine opH_of (cs200_63933[2 * (v % 100)].toNat : Int) (fun w' _ => idx_str _ h9 he0 h0 rfl) ?_
  refine opH_of (a.add (1 + (nd + 1))) (fun w' _ => ix_off _ h119 rfl hsp hi1 (by dsimp only; omega) rfl) ?_
  rw [g1, g0]
  refine dig_store h5 (nd := nd + 1) (hI.ext hx5) hd (by congr 1; omega) fun w10 hI10 hw10 => ⟨trivial, ?_⟩
  refine opH_of (a.add (1 + nd)) (fun w' _ => ix_off _ h119 rfl hsp hi0 (by dsimp only; omega) rfl) ?_
  refine dig_store h5 (nd := nd) hI10 hd (by congr 1; omega) fun w12 hI12 hw12 => ⟨trivial, hK w12 ?_ (grown_trans (grown_trans (grown_ext hx5 _) (grown_wr hw10)) (grown_wr hw12))⟩
  rw [Nat.div_div_eq_div_mul] at hI12
  exact hI12
theorem formatBase10_spec {a : Addr} {d u : Nat} {cs : List Value} {K : Unit → World → Prop} {w : World} (ho : Vc.Obj w a cs) (hcl : cs.length = 24) (hd : d ≤ 20) (hu : u < 10 ^ d) (hu64 : u < 18446744073709551616)
    (hK : ∀ w' cs', Vc.Obj w' a cs' → cs'.length = 24 → (cs'.drop 1).take d = (digK 10 d u).flatMap eB.cs → w.grownBy w' (some a.block) → K () w') : internal_strconv_formatBase10 ⟨some (a.add 1), d, 23⟩ (u : Int) K w := by
  unfold internal_strconv_formatBase10
  have fin : ∀ w' v, DigInv a d u w' 0 v → w.grownBy w' (some a.block) → K () w' := fun w' v hI hg => by
    obtain ⟨_, _, cs', suf, k1, k2, k3, k4, k5⟩ := hI
    refine hK w' cs' k1 k2 ?_ hg
    rw [k5, digK, List.nil_append]
    exact k3
  have hsp := ho.1
  refine ⟨fun x n w' => ∃ v nd : Nat, x = v ∧ n = nd ∧ DigInv a d u w' nd v ∧ w.grownBy w' (some a.block) ∧ v < 18446744073709551616, fun _ n _ => n.toNat, ⟨u, d, rfl, rfl, ⟨Nat.le_refl _, hu, cs, [], ho, hcl, by simp, by simp, by simp⟩, grown_refl _ _, hu64⟩, ?_⟩
  rintro _ _ w4 ⟨v, nd, rfl, rfl, hI, hg, hv⟩
  refine ifD (fun hge => ?_) (fun hlt => ?_)
  · obtain ⟨n, rfl⟩ : ∃ n, nd = n + 8 := ⟨nd - 8, by omega⟩
    have hdl := hI.le
    refine pair_step (nd := n + 6) (by kernel_rfl) (by kernel_rfl) (by kernel_rfl) rfl (by omega) hI ?_ ?_ (by rw [i64_id] <;> omega) (by rw [i64_id] <;> omega) fun w5 hI5 hg5 => ?_
    · simp (disch := omega) only [tm8, tm4, tm2, td4, td2, w32i, w32n]; omega
    · simp (disch := omega) only [tm8, tm4, tm2, td4, td2, w32i, w32n]; omega
    refine pair_step (nd := n + 4) (by kernel_rfl) (by kernel_rfl) (by kernel_rfl) rfl (by omega) hI5 ?_ ?_ (by rw [i64_id] <;> omega) (by rw [i64_id] <;> omega) fun w6 hI6 hg6 => ?_
    · simp (disch := omega) only [tm8, tm4, tm2, td4, td2, w32i, w32n]; omega
    · simp (disch := omega) only [tm8, tm4, tm2, td4, td2, w32i, w32n]; omega
    refine pair_step (nd := n + 2) (by kernel_rfl) (by kernel_rfl) (by kernel_rfl) rfl (by omega) hI6 ?_ ?_ (by rw [i64_id] <;> omega) (by rw [i64_id] <;> omega) fun w7 hI7 hg7 => ?_
    · simp (disch := omega) only [tm8, tm4, tm2, td4, td2, w32i, w32n]; omega
    · simp (disch := omega) only [tm8, tm4, tm2, td4, td2, w32i, w32n]; omega
    refine pair_step (nd := n) (by kernel_rfl) (by kernel_rfl) (by kernel_rfl) rfl (by omega) hI7 ?_ ?_ (by rw [i64_id] <;> omega) (by rw [i64_id] <;> omega) fun w8 hI8 hg8 => ?_
    · simp (disch := omega) only [tm8, tm4, tm2, td4, td2, w32i, w32n]; omega
    · simp (disch := omega) only [tm8, tm4, tm2, td4, td2, w32i, w32n]; omega
    refine ⟨⟨v / 100000000, n, ?_, by rw [i64_id] <;> omega, ?_, grown_trans hg (grown_trans (grown_trans (grown_trans hg5 hg6) hg7) hg8), by omega⟩, ?_⟩
    · rw [td8, w64n (by omega)]
    · have e : v / 100 / 100 / 100 / 100 = v / 100000000 := by omega
      rw [← e]; exact hI8
    · dsimp only
      rw [i64_id] <;> omega
  have hv32 : v < 4294967296 := by
    have h1 := hI.lt
    have h2 : 10 ^ nd ≤ 10 ^ 7 := Nat.pow_le_pow_right (by omega) (by omega)
    have h3 : (10 : Nat) ^ 7 = 10000000 := by decide
    omega
  refine ⟨fun n x w' => ∃ v' nd' : Nat, x = v' ∧ n = nd' ∧ nd' < 4 ∧ DigInv a d u w' nd' v' ∧ w.grownBy w' (some a.block), ?_, ?_⟩
  · refine ifD (fun hge => ?_) (fun hlt4 => ⟨v, nd, by rw [w32n hv32], rfl, by omega, hI, hg⟩)
    obtain ⟨n, rfl⟩ : ∃ n, nd = n + 4 := ⟨nd - 4, by omega⟩
    have hdl := hI.le
    refine pair_step (nd := n + 2) (by kernel_rfl) (by kernel_rfl) (by kernel_rfl) rfl (by omega) hI ?_ ?_ (by rw [i64_id] <;> omega) (by rw [i64_id] <;> omega) fun w5 hI5 hg5 => ?_
    · simp (disch := omega) only [tm8, tm4, tm2, td4, td2, w32i, w32n]; omega
    · simp (disch := omega) only [tm8, tm4, tm2, td4, td2, w32i, w32n]; omega
    refine pair_step (nd := n) (by kernel_rfl) (by kernel_rfl) (by kernel_rfl) rfl (by omega) hI5 ?_ ?_ (by rw [i64_id] <;> omega) (by rw [i64_id] <;> omega) fun w6 hI6 hg6 => ?_
    · simp (disch := omega) only [tm8, tm4, tm2, td4, td2, w32i, w32n]; omega
    · simp (disch := omega) only [tm8, tm4, tm2, td4, td2, w32i, w32n]; omega
    refine ⟨v / 10000, n, ?_, by rw [i64_id] <;> omega, by omega, ?_, grown_trans hg (grown_trans hg5 hg6)⟩
    · rw [w32n hv32, td4, w32n (by omega)]
    · have e : v / 100 / 100 = v / 10000 := by omega
      rw [← e]; exact hI6
  clear hI hg hv32 hv hlt
  rintro _ _ w5 ⟨v', nd', rfl, rfl, h4, hI, hg⟩
  have hdl := hI.le
  have one : ∀ {w' : World} {v'' : Nat} {z : Int} {t1 t5 : Nat}, slOf Pr t1 = some 1 → sizeT Pr t5 = some 1 → z = ((dig v'').toNat : Int) → v'' < 10 → DigInv a d u w' 1 v'' → w.grownBy w' (some a.block) →
      opRd Pr (Instr.indexAt t1 (Sl.val ⟨some (a.add 1), d, 23⟩) (.int .i64 0)) pav (fun t65 => opUn Pr (Instr.storeAt t5 (.pointer (some t65)) (.int .u8 z)) (fun w66 => K () w66) w') w' := fun ht1 ht5 hz h10 hI hg => by
    have := hI.le
    refine ix_off 0 ht1 rfl hsp rfl (by dsimp only; omega) ?_
    subst hz
    exact dig_store (nd := 0) ht5 hI (by omega) (by rw [Nat.mod_eq_of_lt h10]) fun w66 hI66 hw66 => fin _ _ hI66 (grown_trans hg (grown_wr hw66))
  have dg : ∀ y : Nat, y < 10 → IntKind.u8.wrap (IntKind.u32.wrap (48 + (y : Int))) = ((dig y).toNat : Int) := fun y hy => by
    have key : ∀ m : Fin 10, IntKind.u8.wrap (IntKind.u32.wrap (48 + (m.val : Int))) = ((dig m.val).toNat : Int) := by decide +kernel
    exact key ⟨y, hy⟩
  refine ifD (fun hge => ?_) (fun hlt2 => ?_)
  · obtain ⟨n, rfl⟩ : ∃ n, nd' = n + 2 := ⟨nd' - 2, by omega⟩
    have hv' : v' < 1000 := by
      have h1 := hI.lt
      have h2 : 10 ^ (n + 2) ≤ 10 ^ 3 := Nat.pow_le_pow_right (by omega) (by omega)
      have h3 : (10 : Nat) ^ 3 = 1000 := by decide
      omega
    refine pair_step (nd := n) (by kernel_rfl) (by kernel_rfl) (by kernel_rfl) rfl (by omega) hI ?_ ?_ (by rw [i64_id] <;> omega) (by rw [i64_id] <;> omega) fun w6 hI6 hg6 => ?_
    · simp (disch := omega) only [tm8, tm4, tm2, td4, td2, w32i, w32n]; omega
    · simp (disch := omega) only [tm8, tm4, tm2, td4, td2, w32i, w32n]; omega
    have en : i64 (((n + 2 : Nat) : Int) - 2) = (n : Int) := by rw [i64_id] <;> omega
    rw [en]
    refine ifD (fun hpos => ?_) (fun hz => ?_)
    · obtain rfl : n = 1 := by omega
      exact one (by kernel_rfl) (by kernel_rfl) (by rw [td2, w32n (by omega)]; exact dg _ (by omega)) (by omega) hI6 (grown_trans hg hg6)
    · obtain rfl : n = 0 := by omega
      exact fin _ _ hI6 (grown_trans hg hg6)
  · refine ifD (fun hpos => ?_) (fun hz => ?_)
    · obtain rfl : nd' = 1 := by omega
      have := hI.lt
      exact one (by kernel_rfl) (by kernel_rfl) (dg _ (by omega)) (by omega) hI hg
    · obtain rfl : nd' = 0 := by omega
      exact fin _ _ hI hg

/-! ### Itoa -/
theorem small_get {y : Nat} (h : y < 100) : (if y < 10 then (cs36_19037.drop y).take 1 else (cs200_63933.drop (2 * y)).take 2) = digits 10 y := by
  have key : ∀ m : Fin 100, (if m.val < 10 then (cs36_19037.drop m.val).take 1 else (cs200_63933.drop (2 * m.val)).take 2) = digK 10 (if m.val < 10 then 1 else 2) m.val := by decide +kernel
  have := key ⟨y, h⟩
  dsimp only at this
  rw [this]
  by_cases h10 : y < 10
  · rw [if_pos h10, digits_small h10]
    simp only [digK]
    rw [Nat.mod_eq_of_lt h10]; rfl
  · rw [if_neg h10, digits_K (b := 10) (by omega) 1 y (by omega) (by omega)]
theorem small_spec {y : Nat} {K : List UInt8 → World → Prop} {w : World} (h : y < 100) (hK : K (digits 10 y) w) : internal_strconv_small (y : Int) K w := by
  unfold internal_strconv_small
  have hs := small_get h
  refine ifD (fun h10 => ?_) (fun h10 => ?_)
  · rw [if_pos (by omega)] at hs
    refine sub_str_lh (m := y) (n := y + 1) (by kernel_rfl) rfl (by rw [i64_id] <;> omega) (by omega) ?_ ?_
    · have : cs36_19037.length = 36 := by decide +kernel
      omega
    · rw [show y + 1 - y = 1 by omega, hs]; exact hK
  · rw [if_neg (by omega)] at hs
    refine sub_str_lh (m := 2 * y) (n := 2 * y + 2) (by kernel_rfl) (by rw [i64_id] <;> omega) (by rw [i64_id (n := (y : Int) * 2) (by omega) (by omega), i64_id] <;> omega) (by omega) ?_ ?_
    · have : cs200_63933.length = 200 := by decide +kernel
      omega
    · rw [show 2 * y + 2 - 2 * y = 2 by omega, hs]; exact hK
theorem Itoa_spec {n : Nat} {K : List UInt8 → World → Prop} {w : World} (ht : ConvT w) (hn : n ≤ 9223372036854775807) (hK : ∀ w', Ext w w' → K (digits 10 n) w') : strconv_Itoa (n : Int) K w := by
  unfold strconv_Itoa
  refine internal_strconv_Itoa_calls ?_
  unfold internal_strconv_Itoa
  refine internal_strconv_FormatInt_calls ?_
  unfold internal_strconv_FormatInt
  refine ifB_t rfl ?_
  refine ⟨fun w' => w = w' ∧ 100 ≤ n, ifD (fun _ => ifD (fun h => ?_) (fun h => ⟨rfl, by omega⟩)) (fun h => absurd (by omega) h), ?_⟩
  · exact internal_strconv_small_calls (small_spec (by omega) (hK w (Ext.rfl' w)))
  rintro _ ⟨rfl, h100⟩
  refine alloc_ty (z := .agg ⟨List.replicate 24 (.int .u8 0)⟩) (by kernel_rfl) fun a w6 ha hx hobj => ?_
  refine ⟨fun x w' => x = (n : Int) ∧ w6 = w', ifB_f (by simp) ⟨w64n (by omega), rfl⟩, ?_⟩
  rintro _ _ ⟨rfl, rfl⟩
  refine internal_strconv_numDigits_calls (numDigits_spec (ht.ext hx) (by omega) (by omega) fun d h1 h2 h3 h4 => ?_)
  have e : i64 (1 + (d : Int)) = ((1 + d : Nat) : Int) := by rw [i64_id] <;> omega
  rw [e]
  have hsub : ∀ w' t, arOf Pr t = some (24, 1) → (Instr.sliceAt t (.pointer (some a)) (some (.int .i64 1)) (some (.int .i64 ((1 + d : Nat) : Int))) none).run Pr w' = .ok (Sl.val ⟨some (a.add 1), d, 23⟩) w' := fun w' t ht => by
    have := ar_sub_lh (P := Pr) (w := w') (t := t) (n := 24) (a := a) (i := 1) (j := ((1 + d : Nat) : Int)) 1 (1 + d) ht rfl rfl (by omega) (by omega) (by omega)
    rw [show 1 + d - 1 = d by omega] at this
    exact this
  refine ⟨_, hsub w6 _ (by kernel_rfl), ?_⟩
  have hcs0 : (Value.agg ⟨List.replicate 24 (.int .u8 0)⟩).cells.toList = List.replicate 24 (.int .u8 0) := rfl
  rw [hcs0] at hobj
  refine internal_strconv_formatBase10_calls (formatBase10_spec (a := a) hobj (by simp) h2 h3 (by omega) fun w14 cs' ho hl hc hg => ?_)
  refine ifB_f (by simp) ⟨_, hsub w14 _ (by kernel_rfl), ?_⟩
  refine b2str_rd (by kernel_rfl) (by kernel_rfl) (ho.part (l := digK 10 d n) (digK_len _ _ _) (by omega) (by omega) hc) ?_
  rw [← h4]
  exact hK _ (hx.grown' hg (by omega))
theorem digits_len10 : ∀ (k n : Nat), n < 10 ^ (k + 1) → (digits 10 n).length ≤ k + 1
  | 0, n, h => by rw [digits_small (by simpa using h)]; simp
  | k + 1, n, h => by
    by_cases hn : n < 10
    · rw [digits_small hn]; simp
    · rw [digits_big (by omega) hn, List.length_append, List.length_singleton]
      have := digits_len10 k (n / 10) (by
        rw [Nat.div_lt_iff_lt_mul (by omega)]
        rw [Nat.pow_succ] at h; exact h)
      omega
theorem digits_len19 {n : Nat} (h : n ≤ 9223372036854775807) : (digits 10 n).length ≤ 19 := digits_len10 18 n (by
  have : (10 : Nat) ^ (18 + 1) = 10000000000000000000 := by decide
  omega)
theorem ref08_Digits_spec {n : Nat} {K : List UInt8 → World → Prop} {w : World} (hn : n ≤ 9223372036854775807) (hK : K (digits 10 n) w) : ref08_Digits (n : Int) K w := by
  unfold ref08_Digits
  have hlen := digits_len19 hn
  refine ⟨fun x s w' => w = w' ∧ ∃ m : Nat, x = m ∧ m ≤ n ∧ digits 10 m ++ s = digits 10 n, fun x _ _ => x.toNat, ⟨rfl, n, rfl, Nat.le_refl _, by simp⟩, ?_⟩
  rintro _ s _ ⟨rfl, m, rfl, hm, hs⟩
  rw [tm1]
  have hdg : ∀ y : Fin 10, (([48, 49, 50, 51, 52, 53, 54, 55, 56, 57] : List UInt8).drop y.val).take 1 = [dig y.val] := by decide +kernel
  have hsl := hdg ⟨m % 10, by omega⟩
  dsimp only at hsl
  have hsl2 : s.length ≤ 19 := by rw [← hs, List.length_append] at hlen; omega
  refine sub_str_lh (m := m % 10) (n := m % 10 + 1) (by kernel_rfl) rfl (by rw [i64_id] <;> omega) (by omega) (by simp only [List.length_cons, List.length_nil]; omega) ?_
  rw [show m % 10 + 1 - m % 10 = 1 by omega, hsl]
  refine cat_str (by simp only [List.length_singleton]; omega) ?_
  rw [td1, wrap64_id (by omega) (by omega)]
  refine ifD (fun h0 => ?_) (fun hp => ?_)
  · rw [← hs, digits_small (by omega)] at hK
    rw [Nat.mod_eq_of_lt (by omega)]
    exact hK
  · have hb : ¬ m < 10 := by omega
    refine ⟨⟨rfl, m / 10, rfl, by omega, ?_⟩, by dsimp only; omega⟩
    rw [← hs, digits_big (by omega) hb, List.append_assoc]
end Go.Chg
/-
  strings.Builder: what its methods do.
-/
set_option maxRecDepth 20000
set_option linter.unusedVariables false
namespace Go.Vc
open Go.RowKit (Below)
variable {P : Program} {w w' : World} {a : Addr} {T : TypeId} {cs : List Value}
/-- A variable behind a pointer, of a type. -/
def ObjT (w : World) (a : Addr) (T : TypeId) (cs : List Value) : Prop := a.spot = none ∧ a.off = 0 ∧ w.heap[a.block]? = some (.cells cs.toArray T (0, 0))
theorem ObjT.obj (h : ObjT w a T cs) : Obj w a cs := ⟨h.1, h.2.1, T, h.2.2⟩
theorem ObjT.ty {T' : TypeId} (h : ObjT w a T cs) (e : T = T') : ObjT w a T' cs := e ▸ h
theorem ObjT.keep (h : ObjT w a T cs) (hk : w'.heap[a.block]? = w.heap[a.block]?) : ObjT w' a T cs := ⟨h.1, h.2.1, by rw [hk]; exact h.2.2⟩
theorem ObjT.ext (h : ObjT w a T cs) (hx : Ext w w') : ObjT w' a T cs := h.keep (hx.block _ h.obj.lt)
theorem ObjT.shape (h : ObjT w a T cs) : w.shape? a.block = some (T, cs.length) := by
  unfold World.shape?
  rw [h.2.2]
  simp
theorem alloc_tyT {t : TypeId} {z : Value} {K : Addr → World → Prop} (hz : (P.info? t).bind (·.zero) = some z) (hK : ∀ a w', a.block = w.heap.size → Ext w w' → ObjT w' a t z.cells.toList → K a w') :
    opTy P (Instr.alloc t true (.tuple #[])) pav K w :=
  ⟨⟨w.heap.size, 0, none⟩, _, run_alloc hz, hK _ _ rfl (Ext.alloc _ _) ⟨rfl, rfl, by rw [heap_alloc_new]⟩⟩
theorem st_objT {t : TypeId} {off : Nat} {v : Value} {K : World → Prop} (ht : sizeT P t = some 1) (h : ObjT w a T cs) (ho : oneV v = true) (hl : off < cs.length)
    (hK : ∀ w', Wr a.block w w' → ObjT w' a T (cs.set off v) → K w') : opUn P (Instr.storeAt t (.pointer (some (a.add off))) v) K w := by
  obtain ⟨h1, h2, hT⟩ := h
  have hc : v.cells.toList = [v] := by cases v <;> simp_all [Value.cells, oneV]
  obtain ⟨w', hr, hw, hb⟩ := run_store_own (P := P) (t := t) (off := off) (r := cs.set off v) hT ht (by rw [hc]; rfl) (by rw [hc]; simp [allOne, ho]) (by
    rw [hc]
    clear hT hK
    induction cs generalizing off with
    | nil => simp at hl
    | cons c cs ih =>
      cases off with
      | zero => cases cs <;> simp [wrV]
      | succ n => simp only [wrV, ih (by simpa using hl), List.set_cons_succ])
  refine ⟨w', ?_, hK w' hw ⟨h1, h2, hb⟩⟩
  rw [addr_off a h1, h2, Nat.zero_add]
  exact hr
theorem RowT.keep {s : Sl} {e : TypeId} (h : RowT w s e) (hk : ∀ g, s.blk = some g → g < w.heap.size → w'.heap[g]? = w.heap[g]?) : RowT w' s e := fun g hg => by
  obtain ⟨cur, fr, hc⟩ := h g hg
  exact ⟨cur, fr, by rw [hk g (by simp [Sl.blk, hg]) (Array.getElem?_eq_some_iff.1 hc).1]; exact hc⟩
theorem RowT.ext {s : Sl} {e : TypeId} (h : RowT w s e) (hx : Ext w w') : RowT w' s e := h.keep fun g _ hg => hx.block g hg
theorem RowT.other {s : Sl} {e : TypeId} {row : Option Nat} (h : RowT w s e) (hg : w.grownBy w' row) (hr : ∀ g, s.blk = some g → some g ≠ row) : RowT w' s e := h.keep fun g h1 h2 => hg.block g h2 (hr g h1)
theorem RowT.nil (w : World) (e : TypeId) : RowT w Sl.nil e := fun g h => by cases h
theorem app_ty4 {α : Type} {E : Enc α} {t tx ty e : TypeId} (by_ : Nat) {B : Nat} {s x : Sl} {l ms : List α} {K : Sl → World → Prop} (he : elemT P t = e) (ht : appOk P t (elemT P t) E.sz by_ = true) (hx : isSlT P tx = true) (hown : OwnSl E w B s l) (hT : RowT w s e) (hs : IsSl E w x ms)
    (hbytes : (l.length + ms.length) * by_ ≤ 140737488355328) (hB : B ≤ w.heap.size) (hby : 0 < by_)
    (hK : ∀ s' w', OwnSl E w' B s' (l ++ ms) → RowT w' s' e → w.grownBy w' s.blk → NewOr w s s' → K s' w') : opTy P (Builtin.append_ #[t, tx] ty #[s.val, x.val]) Sl.val K w := by
  subst he
  exact app_ty3 by_ ht hx hown hT hs hbytes hB hby hK
theorem app_str4 {t tx ty e : TypeId} (by_ : Nat) {B : Nat} {s : Sl} {l ms : List UInt8} {K : Sl → World → Prop} (he : elemT P t = e) (ht : appOk P t (elemT P t) eB.sz by_ = true) (hx : (match P.underlying tx with | some .string => true | _ => false) = true) (hown : OwnSl eB w B s l) (hT : RowT w s e)
    (hbytes : (l.length + ms.length) * by_ ≤ 140737488355328) (hB : B ≤ w.heap.size) (hby : 0 < by_)
    (hK : ∀ s' w', OwnSl eB w' B s' (l ++ ms) → RowT w' s' e → w.grownBy w' s.blk → NewOr w s s' → K s' w') : opTy P (Builtin.append_ #[t, tx] ty #[s.val, sval ms]) Sl.val K w := by
  subst he
  exact app_str3 by_ ht hx hown hT hbytes hB hby hK
theorem below_gr {B : Nat} {row : Option Nat} (hB : B ≤ w.heap.size) (hg : w.grownBy w' row) (hr : ∀ r, row = some r → B ≤ r) : Below B w w' := below_grown (Below.refl _ _) hB hg hr
theorem below_ex {B : Nat} (hB : B ≤ w.heap.size) (hx : Ext w w') : Below B w w' := hx.mono hB
theorem kp_below {B b : Nat} {X : Prop} (h : Below B w w') (hb : b < B) (x : X) : kp b w w' X := ⟨fun _ => h.block b hb, x⟩
theorem freeze_block {g n k : Nat} (h : k ≠ g) : (w.freeze ⟨g, 0, none⟩ n).heap[k]? = w.heap[k]? := by
  unfold World.freeze
  split
  · rfl
  · dsimp only
    rw [Array.getElem?_modify, if_neg (Ne.symm h)]
theorem below_freeze {B g n : Nat} (h : B ≤ g) : Below B w (w.freeze ⟨g, 0, none⟩ n) := by
  have hb : ∀ k, k < B → (w.freeze ⟨g, 0, none⟩ n).heap[k]? = w.heap[k]? := fun k hk => freeze_block (by omega)
  unfold World.freeze at hb ⊢
  split
  · exact Below.refl _ _
  · rename_i hn
    rw [if_neg hn] at hb
    exact ⟨rfl, rfl, rfl, by simp, hb⟩
theorem Ext.below {w0 : World} {B : Nat} (hx : Ext w0 w) (h : Below B w w') (hB : w0.heap.size ≤ B) : Ext w0 w' := Below.trans hx (h.mono hB)
end Go.Vc
namespace Go.Chg
open Go.Vc
open Go.RowKit (Below)
variable {w : World} {a : Addr} {l : List UInt8}
noncomputable def fnParam (f j : Nat) : Nat := match Pr.funcs[f]? with | some fn => (match fn.params[j]? with | some t => t | none => 0) | none => 0
noncomputable def tid_u8 : Nat := fnParam fid_strings_Builder_WriteByte 1
noncomputable def tid_bld : Nat := match Pr.underlying (fnParam fid_strings_Builder_WriteByte 0) with | some (.pointer t) => t | _ => 0
theorem bld_info : ∃ j, Pr.info? tid_bld = some j ∧ j.size ≠ 0 := by
  have h : (Pr.info? tid_bld).any (fun j => j.size != 0) = true := by kernel_rfl
  cases hi : Pr.info? tid_bld with
  | none => rw [hi] at h; cases h
  | some j =>
    rw [hi] at h
    exact ⟨j, rfl, by simpa using h⟩
/-- A builder in memory, and what it holds; its row is another block than n. -/
def Bld (w : World) (a : Addr) (n : Nat) (l : List UInt8) : Prop :=
  ∃ p s, ObjT w a tid_bld [.pointer p, s.val] ∧ (p = none ∨ p = some a) ∧ OwnSl eB w (a.block + 1) s l ∧ RowT w s tid_u8 ∧ ∀ k, s.blk = some k → k ≠ n
/-- What a builder's method may turn. -/
structure Up (a : Addr) (n : Nat) (w w' : World) : Prop where
  low : Below a.block w w'
  it : n ≠ a.block → n < w.heap.size → w'.heap[n]? = w.heap[n]?
  size : w.heap.size ≤ w'.heap.size
variable {n : Nat}
theorem Up.gr {w1 w2 : World} {row : Option Nat} (h : Up a n w w1) (hlt : a.block < w.heap.size) (hg : w1.grownBy w2 row) (hr : ∀ r, row = some r → a.block ≤ r ∧ (n ≠ a.block → r ≠ n)) : Up a n w w2 :=
  ⟨h.low.trans (below_gr (by have := h.size; omega) hg fun r e => (hr r e).1), fun h1 h2 => by
    rw [hg.block n (by have := h.size; omega) (fun e => (hr n e.symm).2 h1 rfl)]
    exact h.it h1 h2, Nat.le_trans h.size hg.size⟩
theorem Up.refl : Up a n w w := ⟨Below.refl _ _, fun _ _ => rfl, Nat.le_refl _⟩
theorem Bld.lt (h : Bld w a n l) : a.block < w.heap.size := by
  obtain ⟨p, s, ho, _⟩ := h
  exact ho.obj.lt
theorem Bld.ext {w' : World} (h : Bld w a n l) (hx : Ext w w') : Bld w' a n l := by
  obtain ⟨p, s, ho, hp, hs, hT, hn⟩ := h
  exact ⟨p, s, ho.ext hx, hp, hs.ext hx, hT.ext hx, hn⟩
theorem Bld.track {m : Nat} (h : Bld w a n l) (hm : w.heap.size ≤ m) : Bld w a m l := by
  obtain ⟨p, s, ho, hp, hs, hT, hn⟩ := h
  exact ⟨p, s, ho, hp, hs, hT, fun k hk => by have := hs.lt k hk; omega⟩
/-- Only the tracked block has turned. -/
theorem Bld.wr {w' : World} (h : Bld w a n l) (hw : Wr n w w') (hn : n ≠ a.block) : Bld w' a n l := by
  obtain ⟨p, s, ho, hp, hs, hT, hb⟩ := h
  exact ⟨p, s, ho.keep (hw.block _ (Ne.symm hn)), hp, hs.grownB (grown_wr hw) (fun k hk e => hb k hk (Option.some.inj e)), hT.other (grown_wr hw) (fun k hk e => hb k hk (Option.some.inj e)), hb⟩
theorem Bld.zero {w' : World} (h : ObjT w' a tid_bld [.pointer none, Sl.nil.val]) : Bld w' a n [] := ⟨none, Sl.nil, h, .inl rfl, .nil _ _ _, .nil _ _, fun k e => by cases e⟩
theorem copyCheck_ps {p : Option Addr} {s : Sl} {K : Unit → World → Prop} (ho : ObjT w a tid_bld [.pointer p, s.val]) (hp : p = none ∨ p = some a) (hK : ∀ w', ObjT w' a tid_bld [.pointer (some a), s.val] → (w' = w ∨ Wr a.block w w') → K () w') : strings_Builder_copyCheck (some a) K w := by
  unfold strings_Builder_copyCheck
  refine nil_rd rfl (ld_obj (y := p) (by kernel_rfl) ho.obj rfl (eqPtrNil (by kernel_rfl) fun b hb => ?_))
  rcases hp with rfl | rfl
  · refine ifB_t hb ?_
    obtain ⟨j, hj, hj0⟩ := bld_info
    refine ⟨some a, w, Go.Lib.run_to_unsafe w a (by kernel_rfl) (by kernel_rfl) hj hj0 ho.shape (by rw [ho.2.1]; exact Nat.zero_lt_succ _), ?_⟩
    refine ⟨some a, w, ?_, ?_⟩
    · rw [run_callFunc_extern ext_internal_abi_NoEscape (by kernel_rfl) (by kernel_rfl) (by kernel_rfl) (e := Extern.AbiNoEscape.same) (by kernel_rfl)]
      rfl
    refine ⟨some a, w, Go.Lib.run_from_unsafe w a (by kernel_rfl) (by kernel_rfl) hj ho.shape (by rw [ho.2.1]; kernel_rfl), ?_⟩
    exact nil_rd rfl (st_objT (by kernel_rfl) ho rfl (by simp) fun w11 hw11 ho11 => hK w11 ho11 (.inr hw11))
  · refine ifB_f hb ?_
    refine nil_rd rfl (ld_obj (y := some a) (by kernel_rfl) ho.obj rfl ?_)
    obtain ⟨j, hj, hj0⟩ := bld_info
    refine ⟨false, ?_, ifB_f rfl (hK w ho (.inl rfl))⟩
    exact Go.Lib.run_neq_ptr_same w a (by kernel_rfl) hj
theorem copyCheck_spec {K : Unit → World → Prop} (h : Bld w a n l) (hK : ∀ s w', ObjT w' a tid_bld [.pointer (some a), s.val] → OwnSl eB w' (a.block + 1) s l → RowT w' s tid_u8 → (∀ k, s.blk = some k → k ≠ n) → w.grownBy w' (some a.block) → K () w') : strings_Builder_copyCheck (some a) K w := by
  obtain ⟨p, s, ho, hp, hs, hT, hn⟩ := h
  refine copyCheck_ps ho hp fun w' ho' hw => ?_
  rcases hw with rfl | hw
  · exact hK s w' ho' hs hT hn (grown_refl _ _)
  · have hne : ∀ k, s.blk = some k → some k ≠ some a.block := fun k hk e => by have := hs.ge k hk; have := Option.some.inj e; omega
    exact hK s w' ho' (hs.grownB (grown_wr hw) hne) (hT.other (grown_wr hw) hne) hn (grown_wr hw)
theorem WriteByte_spec {m : Int} {c : UInt8} {K : Value → World → Prop} (h : Bld w a n l) (hnw : n < w.heap.size) (hc : m = (c.toNat : Int)) (hl : l.length < 140737488355328) (hK : ∀ w', Bld w' a n (l ++ [c]) → Up a n w w' → K .nilIface w') : strings_Builder_WriteByte (some a) m K w := by
  unfold strings_Builder_WriteByte
  have hlt := h.lt
  subst hc
  refine strings_Builder_copyCheck_calls (copyCheck_spec h fun s w2 ho hs hT hn hg2 => ?_)
  have z2 := hg2.size
  have f := Up.refl.gr (a := a) (n := n) hlt hg2 (fun r hr => by cases hr; exact ⟨Nat.le_refl _, Ne.symm⟩)
  refine nil_rd rfl (ld_obj (y := s) (by kernel_rfl) ho.obj rfl ?_)
  refine lit1_ty (E := eB) 1 (x := c) w2.heap.size (by kernel_rfl) (by decide) (fun w => by kernel_rfl) (Nat.le_refl _) fun s5 w6 _ hs5 hx6 => ?_
  have f := f.gr hlt (grown_ext hx6 none) (fun r hr => by cases hr)
  have hs := hs.ext hx6
  have z6 := hx6.size
  refine app_ty4 1 (by kernel_rfl) (by kernel_rfl) (by kernel_rfl) hs (hT.ext hx6) hs5.is (by simp only [List.length_singleton]; omega) (by omega) (by decide) fun s7 w8 hs8 hT8 hg8 hno => ?_
  have z8 := hg8.size
  have f' := f.gr hlt hg8 (fun r hr => ⟨by have := hs.ge r hr; omega, fun _ => hn r hr⟩)
  have ho8 := (ho.ext hx6).keep (hg8.block _ (ho.ext hx6).obj.lt (fun e => by have := hs.ge _ e.symm; omega))
  refine nil_rd rfl (st_objT (by kernel_rfl) ho8 rfl (by simp) fun w10 hw10 ho10 => ?_)
  have hne : ∀ k, s7.blk = some k → some k ≠ some a.block := fun k hk e => by have := hs8.ge k hk; have := Option.some.inj e; omega
  exact hK w10 ⟨some a, s7, ho10, .inr rfl, hs8.grownB (grown_wr hw10) hne, hT8.other (grown_wr hw10) hne, fun k hk => by
    rcases hno with e | ⟨j, e1, e2⟩
    · exact hn k (e ▸ hk)
    · rw [e1] at hk
      have := Option.some.inj hk
      omega⟩ (f'.gr hlt (grown_wr hw10) (fun r hr => by cases hr; exact ⟨Nat.le_refl _, Ne.symm⟩))
theorem WriteString_spec {m : List UInt8} {K : Int × Value → World → Prop} (h : Bld w a n l) (hnw : n < w.heap.size) (hl : l.length + m.length ≤ 140737488355328) (hK : ∀ w', Bld w' a n (l ++ m) → Up a n w w' → K ((m.length : Int), .nilIface) w') : strings_Builder_WriteString (some a) m K w := by
  unfold strings_Builder_WriteString
  have hlt := h.lt
  refine strings_Builder_copyCheck_calls (copyCheck_spec h fun s w2 ho hs hT hn hg2 => ?_)
  have z2 := hg2.size
  have f := Up.refl.gr (a := a) (n := n) hlt hg2 (fun r hr => by cases hr; exact ⟨Nat.le_refl _, Ne.symm⟩)
  refine nil_rd rfl (ld_obj (y := s) (by kernel_rfl) ho.obj rfl ?_)
  refine app_str4 1 (by kernel_rfl) (by kernel_rfl) (by kernel_rfl) hs hT (by omega) (by omega) (by decide) fun s7 w8 hs8 hT8 hg8 hno => ?_
  have z8 := hg8.size
  have f' := f.gr hlt hg8 (fun r hr => ⟨by have := hs.ge r hr; omega, fun _ => hn r hr⟩)
  have ho8 := ho.keep (hg8.block _ ho.obj.lt (fun e => by have := hs.ge _ e.symm; omega))
  refine nil_rd rfl (st_objT (by kernel_rfl) ho8 rfl (by simp) fun w10 hw10 ho10 => ?_)
  have hne : ∀ k, s7.blk = some k → some k ≠ some a.block := fun k hk e => by have := hs8.ge k hk; have := Option.some.inj e; omega
  exact hK w10 ⟨some a, s7, ho10, .inr rfl, hs8.grownB (grown_wr hw10) hne, hT8.other (grown_wr hw10) hne, fun k hk => by
    rcases hno with e | ⟨j, e1, e2⟩
    · exact hn k (e ▸ hk)
    · rw [e1] at hk
      have := Option.some.inj hk
      omega⟩ (f'.gr hlt (grown_wr hw10) (fun r hr => by cases hr; exact ⟨Nat.le_refl _, Ne.symm⟩))
theorem Builder_String_spec {K : List UInt8 → World → Prop} (h : Bld w a n l) (h0 : l ≠ []) (hK : ∀ w', Below a.block w w' → K l w') : strings_Builder_String (some a) K w := by
  unfold strings_Builder_String
  have hlt := h.lt
  obtain ⟨p, s, ho, hp, hs, hT, _⟩ := h
  refine heldM_of (fun w' => Vc.Obj w' a [.pointer p, s.val]) fun w1 hx1 => ⟨(ho.ext hx1).obj, ?_⟩
  have hs1 := hs.ext hx1
  have hT1 := hT.ext hx1
  have ho1 := ho.ext hx1
  have hpos := List.length_pos_iff.2 h0
  rcases hs1 with hn | ⟨g, cur, T, fr, hh⟩
  · exact absurd hn.nil h0
  obtain ⟨cur', fr', hc'⟩ := hT1 g hh.a
  rw [hh.blk] at hc'
  obtain rfl : T = tid_u8 := by cases hc'; rfl
  have hcell := OwnSl.cells hh
  have hsz := hh.size
  have hcap := hh.cap
  have hmax := hh.max
  have hlen := hh.len
  have hga := hh.a
  have hgb := hh.base
  have hblk := hh.blk
  obtain ⟨sa, sl, sc⟩ := s
  simp only at hsz hcap hmax hlen hga
  subst hga hlen
  have hsz : cur.size = sc * 1 := hsz
  refine opH_of a (fun w' _ => nil_rd rfl rfl) (opH_of (⟨some ⟨g, 0, none⟩, l.length, sc⟩ : Sl) (fun w' hw => ld_obj (by kernel_rfl) hw rfl rfl) ?_)
  refine ⟨some ⟨g, 0, none⟩, fun w' _ => Go.Lib.run_unsafeSliceData_row _ _ _ _ _ _ (show sc ≠ 0 by omega), ?_⟩
  refine opH_of a (fun w' _ => nil_rd rfl rfl) (opH_of (⟨some ⟨g, 0, none⟩, l.length, sc⟩ : Sl) (fun w' hw => ld_obj (by kernel_rfl) hw rfl rfl) ?_)
  refine ⟨l, w1.freeze ⟨g, 0, none⟩ l.length, ?_, ?_, ?_⟩
  · refine Go.Lib.run_unsafeString_row w1 _ _ _ tid_u8 (by kernel_rfl) (by kernel_rfl) g cur.size (by unfold World.shape?; rw [hblk]) l h0 (by omega) (by omega) fun j x hj => ?_
    have := hcell j (.int .u8 x.toNat) (by rw [flat_eB, List.getElem?_map, hj]; rfl)
    rw [addr_off _ rfl]
    simpa using this
  · exact ho1.obj.keep (freeze_block (by omega))
  · exact hK _ ((below_ex (Nat.le_of_lt hlt) hx1).trans (below_freeze (by omega)))
end Go.Chg
/-
  Texts in quotes: quote.Quote.
-/
set_option maxRecDepth 20000
set_option linter.unusedVariables false
namespace Go.Chg
open Go.Vc
open Go.RowKit (Below)
variable {w : World} {a : Addr} {l : List UInt8}
theorem hex16 {n : Nat} (h : n < 16) : ((cs16_37011).drop n).take 1 = [dig n] := by
  have key : ∀ m : Fin 16, ((cs16_37011).drop m.val).take 1 = [dig m.val] := by decide +kernel
  exact key ⟨n, h⟩
theorem shR_4 {c : UInt8} : shR .u8 (c.toNat : Int) 4 = ((c.toNat / 16 : Nat) : Int) := by
  have key : ∀ x : Fin 256, shR .u8 (x.val : Int) 4 = ((x.val / 16 : Nat) : Int) := by decide +kernel
  exact key ⟨c.toNat, c.toNat_lt⟩
theorem wrap_up {n : Nat} (h : n < 16) : IntKind.u8.wrap ((n : Int) + 1) = ((n + 1 : Nat) : Int) := by
  have key : ∀ m : Fin 16, IntKind.u8.wrap ((m.val : Int) + 1) = ((m.val + 1 : Nat) : Int) := by decide +kernel
  exact key ⟨n, h⟩
theorem byteAs_spec {c : UInt8} {n : Int} {K : List UInt8 → World → Prop} (hn : n = (c.toNat : Int)) (hK : ∀ w', Ext w w' → K [92, 120, dig (c.toNat / 16), dig (c.toNat % 16)] w') : quote_byteAs n K w := by
  unfold quote_byteAs
  subst hn
  have hlt := c.toNat_lt
  have hl : (cs16_37011).length = 16 := by kernel_rfl
  refine drew_of fun w1 hx => ?_
  rw [shR_4, bAnd_15, wrap_up (by omega), wrap_up (by omega)]
  refine sub_str_lh (m := c.toNat / 16) (n := c.toNat / 16 + 1) (by kernel_rfl) rfl rfl (by omega) (by omega) ?_
  rw [show c.toNat / 16 + 1 - c.toNat / 16 = 1 by omega, hex16 (by omega)]
  refine cat_str (by simp) ?_
  refine sub_str_lh (m := c.toNat % 16) (n := c.toNat % 16 + 1) (by kernel_rfl) rfl rfl (by omega) (by omega) ?_
  rw [show c.toNat % 16 + 1 - c.toNat % 16 = 1 by omega, hex16 (by omega)]
  exact cat_str (by simp) (hK _ hx)
theorem escape_spec {K : List UInt8 → World → Prop} (h : l ≠ []) (hl : l.length ≤ 140737488355328) (hK : ∀ w', Ext w w' → K (qItem l) w') : quote_escape ((uStep l).1 : Int) (l.take (uStep l).2) K w := by
  obtain ⟨c, r, rfl, hc⟩ := rune_cases h
  have hs := uStep_pos (c :: r)
  have hle := uStep_le h
  obtain ⟨m, hm⟩ : ∃ m, (uStep (c :: r)).2 = m + 1 := ⟨(uStep (c :: r)).2 - 1, by omega⟩
  have e0 : (c :: r).take (uStep (c :: r)).2 = c :: r.take m := by rw [hm]; rfl
  have e1 : (c :: r).take 1 = [c] := rfl
  have f1 : (uStep (c :: r)).1 = 34 ∨ (uStep (c :: r)).1 = 92 → qItem (c :: r) = 92 :: (c :: r).take (uStep (c :: r)).2 := fun hq => by
    rcases hc with ⟨h0, h1, h2⟩ | ⟨h0, h1, h2, h3⟩ | ⟨h0, h1, h2, h3⟩
    · rw [uStep_bad h0] at hq; omega
    · rw [uStep_good (by omega)] at hq
      unfold qItem
      rw [if_neg (by omega), if_pos hq, h1]
    · rw [uStep_good (by omega)] at hq; omega
  have f2 : (uStep (c :: r)).1 < 32 ∨ (uStep (c :: r)).1 = 127 ∨ (uStep (c :: r)).1 = 65533 ∧ (uStep (c :: r)).2 = 1 → qItem (c :: r) = [92, 120, dig (c.toNat / 16), dig (c.toNat % 16)] := fun hq => by
    unfold qItem
    rcases hc with ⟨h0, h1, h2⟩ | ⟨h0, h1, h2, h3⟩ | ⟨h0, h1, h2, h3⟩
    · rw [if_pos (.inl h0)]; rfl
    · rw [uStep_good (by omega)] at hq
      rw [if_pos (by omega)]; rfl
    · rw [uStep_good (by omega)] at hq
      rw [if_pos (by omega)]; rfl
  have f3 : ¬ ((uStep (c :: r)).1 = 34 ∨ (uStep (c :: r)).1 = 92) → ¬ ((uStep (c :: r)).1 < 32 ∨ (uStep (c :: r)).1 = 127 ∨ (uStep (c :: r)).1 = 65533 ∧ (uStep (c :: r)).2 = 1) → qItem (c :: r) = (c :: r).take (uStep (c :: r)).2 := fun h1' h2' => by
    unfold qItem
    rcases hc with ⟨h0, h1, h2⟩ | ⟨h0, h1, h2, h3⟩ | ⟨h0, h1, h2, h3⟩
    · rw [uStep_bad h0] at h2'; omega
    · rw [uStep_good (by omega)] at h1' h2' ⊢
      rw [if_neg (by omega), if_neg (by omega)]
    · rw [uStep_good (by omega)] at h1' h2' ⊢
      rw [if_neg (by omega), if_neg (by omega)]
  have elen : (((c :: r).take (uStep (c :: r)).2).length : Int) = (uStep (c :: r)).2 := by rw [List.length_take]; omega
  have hmax := uStep_rune (c :: r)
  rw [e0] at elen f1 f3 ⊢
  generalize (uStep (c :: r)).1 = N at *
  unfold quote_escape
  refine ⟨fun t w' => w = w' ∧ (t = true ↔ N = 34 ∨ N = 92), ?_, ?_⟩
  · refine ifEq (fun hq => ⟨rfl, ?_⟩) (fun hq => ⟨rfl, ?_⟩)
    · have : N = 34 := by omega
      subst this; simp
    · rw [beq_iff_eq]
      omega
  rintro t _ ⟨rfl, ht⟩
  refine ifB_of (fun h1 => ?_) (fun h1 => ?_)
  · have := f1 (ht.1 h1)
    rw [this] at hK
    refine cat_str ?_ (hK _ (Ext.rfl' _))
    have : (List.take m r).length ≤ r.length := by rw [List.length_take]; omega
    simp only [List.length_cons, List.length_nil] at hl ⊢
    omega
  have h1' : ¬ (N = 34 ∨ N = 92) := fun h => by rw [ht.2 h] at h1; cases h1
  refine ifD (fun h2 => ?_) (fun h2 => ?_)
  · refine ifD (fun _ => ?_) (fun h => absurd h2 h)
    refine idx_str 0 (by kernel_rfl) rfl (Nat.zero_lt_succ _) ?_
    have := f2 (.inl (by omega))
    rw [this] at hK
    exact quote_byteAs_calls (byteAs_spec (c := c) rfl hK)
  refine ifEq (fun h3 => ?_) (fun h3 => ?_)
  · refine ifEq (fun _ => ?_) (fun h => absurd h3 h)
    refine idx_str 0 (by kernel_rfl) rfl (Nat.zero_lt_succ _) ?_
    have := f2 (.inr (.inl (by omega)))
    rw [this] at hK
    exact quote_byteAs_calls (byteAs_spec (c := c) rfl hK)
  refine ifEq (fun h4 => ?_) (fun h4 => ?_)
  · refine ifEq (fun h5 => ?_) (fun h5 => ?_)
    · refine idx_str 0 (by kernel_rfl) rfl (Nat.zero_lt_succ _) ?_
      have := f2 (.inr (.inr ⟨by omega, by omega⟩))
      rw [this] at hK
      exact quote_byteAs_calls (byteAs_spec (c := c) rfl hK)
    · have := f3 h1' (by omega)
      rw [this] at hK
      exact hK _ (Ext.rfl' _)
  · have := f3 h1' (by omega)
    rw [this] at hK
    exact hK _ (Ext.rfl' _)
theorem quote_Quote_spec {s : List UInt8} {K : List UInt8 → World → Prop} (ht : Utf8T w) (hl : s.length ≤ 1000000000) (hK : ∀ w', Ext w w' → K (quote s) w') : quote_Quote s K w := by
  unfold quote_Quote
  refine alloc_tyT (z := .agg ⟨[.pointer none, Sl.nil.val]⟩) (by kernel_rfl) fun a w2 ha hx ho => ?_
  have hb : Bld w2 a a.block [] := Bld.zero (ho.ty (by kernel_rfl))
  refine strings_Builder_WriteByte_calls (WriteByte_spec (c := 34) hb hb.lt rfl (by simp) fun w4 hb f4 => ?_)
  have hx := hx.below f4.low (by omega)
  have a4 := hb.lt
  refine range_ty (by kernel_rfl) fun t5 w6 h5 hi hx6 => ?_
  have hb := (hb.track (Nat.le_of_eq h5.symm)).ext hx6
  have hx := hx.trans' hx6
  have ne : t5.block ≠ a.block := by omega
  have hql := quoteL_len s
  refine runes0 (s := s) (fun pos w' => Ext w w' ∧ ∃ q, Bld w' a t5.block (34 :: q) ∧ q ++ quoteL (s.drop pos) = quoteL s) ⟨hx, [], hb, by simp⟩ hi ?_
  rintro pos w8 C hp ⟨hx, q, hb, hq⟩ hi hC
  have hlen := congrArg List.length hq
  rw [List.length_append] at hlen
  refine next_st hi (fun hlt w10 hw10 hi => ?_) (fun hge => ?_)
  · have hb := hb.wr hw10 ne
    have hx := Ext.grown' hx (grown_wr hw10) (by omega)
    have hne := drop_ne hlt
    refine sub_str_l (m := pos) (by kernel_rfl) rfl (by omega) ?_
    refine unicode_utf8_DecodeRuneInString_calls (DecodeRuneInString_spec (ht.ext hx) fun w13 hx13 => ?_)
    rw [if_neg hne]
    have hx := hx.trans' hx13
    have hb := hb.ext hx13
    have hi := hi.ext hx13
    have hon := step_on hlt
    refine sub_str_lh (m := pos) (n := pos + (uStep (s.drop pos)).2) (by kernel_rfl) rfl (by rw [i64_id] <;> omega) (by omega) hon ?_
    rw [Nat.add_sub_cancel_left]
    refine quote_escape_calls (escape_spec hne (by rw [List.length_drop]; omega) fun w16 hx16 => ?_)
    have hx := hx.trans' hx16
    have hb := hb.ext hx16
    have hi := hi.ext hx16
    rw [quoteL_on hne, List.drop_drop] at hq hlen
    rw [List.length_append] at hlen
    refine strings_Builder_WriteString_calls (WriteString_spec hb hi.lt (by rw [List.length_cons]; omega) fun w18 hb18 f18 => ?_)
    refine hC (pos + (uStep (s.drop pos)).2) w18 (by have := uStep_pos (s.drop pos); omega) hon ⟨hx.below f18.low (by omega), q ++ qItem (s.drop pos), by simpa using hb18, by rw [List.append_assoc]; exact hq⟩ (hi.keep (f18.it ne hi.lt))
  · rw [List.drop_of_length_le (by omega), quoteL_nil, List.append_nil] at hq
    subst hq
    refine strings_Builder_WriteByte_calls (WriteByte_spec (c := 34) hb hi.lt rfl (by simp only [List.length_cons]; omega) fun w21 hb f21 => ?_)
    have hx := hx.below f21.low (by omega)
    refine strings_Builder_String_calls (Builder_String_spec hb (by simp) fun w23 f23 => ?_)
    exact hK _ (hx.below f23 (by omega))
end Go.Chg
/-
  Words as a line: strings.Join, and a builder that grows.
-/
set_option maxRecDepth 20000
set_option linter.unusedVariables false
namespace Go.Vc
theorem subH_h {P : Program} {S : World → Prop} {t z : Nat} {s : Sl} {j : Int} {n : Nat} {K : Sl → Prop} (ht : slOf P t = some z) (hj : j = (n : Int)) (hn : n ≤ s.cap) (hK : K (s.sub 0 n z)) : opH P S (Instr.sliceAt t s.val none (some (.int .i64 j)) none) Sl.val K := by
  obtain ⟨he, hz⟩ := elem_of ht
  subst hj
  refine ⟨s.sub 0 n z, fun w _ => ?_, hK⟩
  rw [run_sliceAt_slice w t _ _ _ _ he, show s.val = .slice s.a s.len s.cap from rfl, run_slice_h w t s.a s.len s.cap he _ _ (by omega) (by omega), run_size hz]
  simp [Result.andThen, sliced, Sl.sub, Sl.val]
theorem run_copy0 {P : Program} {w : World} {t tx ty n : Nat} {d : Addr} {c : Nat} (ht : slOf P t = some n) : (Builtin.copy_ #[t, tx] ty #[.slice (some d) 0 c, .slice none 0 0]).run P w = .ok (.int .i64 0) w := by
  obtain ⟨e, he, hz⟩ := slOf_spec ht
  simp [Builtin.copy_, run_und he, Builtin.lenOf, Builtin.firstCells, run_size hz, goInt, storeCells]
def joinL (m : List UInt8) : List (List UInt8) → List UInt8
  | [] => []
  | x :: r => x ++ r.flatMap (m ++ ·)
end Go.Vc
namespace Go.Chg
open Go.Vc
open Go.RowKit (Below)
variable {w : World} {a : Addr} {l : List UInt8}
theorem low_blk {α : Type} {E : Enc α} {s : Sl} {xs : List α} (h : IsSl E w s xs) (hne : xs ≠ []) : ∀ k, s.blk = some k → k < w.heap.size := fun k hk => by
  rcases h.mem with h0 | ⟨b, o, ha, hb, _⟩
  · exact absurd h0 hne
  · simp only [Sl.blk, ha] at hk
    cases hk
    exact hb
theorem low_keep {α : Type} {E : Enc α} {w' : World} {B : Nat} {s : Sl} {xs : List α} (h : IsSl E w s xs) (hB : ∀ k, s.blk = some k → k < B) (hg : Below B w w') : IsSl E w' s xs :=
  h.keep hg.size fun b o ha _ => hg.block b (hB b (by simp [Sl.blk, ha]))
noncomputable def tid_mk : Nat := match Pr.funcs[fid_internal_bytealg_MakeNoZero]? with | some fn => (match fn.resultTypes[0]? with | some t => t | none => 0) | none => 0
theorem grow_spec {n : Nat} {K : Unit → World → Prop} (ho : ObjT w a tid_bld [.pointer (some a), Sl.nil.val]) (hn : n ≤ 1000000000) (hK : ∀ w', Bld w' a a.block [] → Below a.block w w' → K () w') : strings_Builder_grow (some a) (n : Int) K w := by
  unfold strings_Builder_grow
  have hlt := ho.obj.lt
  refine heldM_of (fun w' => Vc.Obj w' a [.pointer (some a), Sl.nil.val]) fun w1 hx1 => ⟨(ho.ext hx1).obj, ?_⟩
  have ho1 := ho.ext hx1
  refine opH_of a (fun w' _ => nil_rd rfl rfl) (opH_of Sl.nil (fun w' hw => ld_obj (by kernel_rfl) hw rfl rfl) ?_)
  refine opH_of a (fun w' _ => nil_rd rfl rfl) (opH_of Sl.nil (fun w' hw => ld_obj (by kernel_rfl) hw rfl rfl) ?_)
  have e : i64 (i64 (2 * (Sl.nil.cap : Int)) + (n : Int)) = (n : Int) := by
    show i64 (i64 (2 * 0) + (n : Int)) = _
    rw [i64_id (n := 2 * 0) (by decide) (by decide), i64_id] <;> omega
  rw [e]
  obtain ⟨cs, hrun, hle, hmax⟩ := Go.Lib.run_makeNoZero (P := Pr) w1 #[fnParam fid_internal_bytealg_MakeNoZero 0] tid_mk tid_u8 (by kernel_rfl) n (by omega)
  have z1 := hx1.size
  have hcm : cs.size ≤ 9223372036854775807 := hmax (by unfold maxLen; omega)
  refine ⟨⟨some ⟨w1.heap.size, 0, none⟩, n, cs.size⟩, w1.drew.drew.alloc (.cells cs tid_u8), ?_, ?_⟩
  · rw [run_callFunc_extern ext_internal_bytealg_MakeNoZero (by kernel_rfl) (by kernel_rfl) (by kernel_rfl) (e := Extern.BytealgMakeNoZero.makeNoZero #[fnParam fid_internal_bytealg_MakeNoZero 0] #[tid_mk]) (by kernel_rfl), hrun]
    rfl
  have hx8 : Ext w1 (w1.drew.drew.alloc (.cells cs tid_u8)) := ⟨rfl, rfl, rfl, by simp, fun k hk => Below.heap_alloc w1.drew.drew _ k hk⟩
  have hblk : (w1.drew.drew.alloc (.cells cs tid_u8)).heap[w1.heap.size]? = some (.cells cs tid_u8 (0, 0)) := heap_alloc_new w1.drew.drew _
  generalize w1.drew.drew.alloc (.cells cs tid_u8) = w8 at hx8 hblk
  have ho8 := ho1.ext hx8
  refine ⟨ho8.obj, ?_⟩
  refine subH_h (z := 1) (n := 0) (by kernel_rfl) rfl (Nat.zero_le _) ?_
  have hsub : (⟨some ⟨w1.heap.size, 0, none⟩, n, cs.size⟩ : Sl).sub 0 0 1 = ⟨some ⟨w1.heap.size, 0, none⟩, 0, cs.size⟩ := by
    unfold Sl.sub
    simp [Addr.add]
  rw [hsub]
  have hown : OwnSl eB w8 (a.block + 1) ⟨some ⟨w1.heap.size, 0, none⟩, 0, cs.size⟩ [] := .inr ⟨w1.heap.size, cs, tid_u8, (0, 0), rfl, by omega, hblk, .inl rfl, rfl, Nat.zero_le _, hcm, by show cs.size = cs.size * 1; omega, by simp⟩
  have hT : RowT w8 ⟨some ⟨w1.heap.size, 0, none⟩, 0, cs.size⟩ tid_u8 := fun g hg => by cases hg; exact ⟨cs, (0, 0), hblk⟩
  refine nil_rd rfl (ld_obj (y := Sl.nil) (by kernel_rfl) ho8.obj rfl ?_)
  refine ⟨0, w8, run_copy0 (n := 1) (by kernel_rfl), ?_⟩
  refine nil_rd rfl (st_objT (by kernel_rfl) ho8 rfl (by simp) fun w15 hw15 ho15 => ?_)
  have hne : ∀ k, (⟨some ⟨w1.heap.size, 0, none⟩, 0, cs.size⟩ : Sl).blk = some k → some k ≠ some a.block := fun k hk e => by have := hown.ge k hk; have := Option.some.inj e; omega
  have f8 : Below a.block w w8 := (below_ex (Nat.le_of_lt hlt) hx1).trans (below_ex (by omega) hx8)
  have z8 := hx8.size
  exact hK w15 ⟨some a, _, ho15, .inr rfl, hown.grownB (grown_wr hw15) hne, hT.other (grown_wr hw15) hne, fun k hk e => by have := hown.ge k hk; omega⟩ (f8.trans (below_gr (by omega) (grown_wr hw15) (fun r hr => by cases hr; exact Nat.le_refl _)))
theorem Grow_spec {n : Nat} {K : Unit → World → Prop} (ho : ObjT w a tid_bld [.pointer none, Sl.nil.val]) (hn : n ≤ 1000000000) (hK : ∀ w', Bld w' a a.block [] → Below a.block w w' → K () w') : strings_Builder_Grow (some a) (n : Int) K w := by
  unfold strings_Builder_Grow
  have hlt := ho.obj.lt
  refine strings_Builder_copyCheck_calls (copyCheck_ps ho (.inl rfl) fun w2 ho2 hw2 => ?_)
  have f2 : Below a.block w w2 := by
    rcases hw2 with rfl | hw
    · exact Below.refl _ _
    · exact below_gr (Nat.le_of_lt hlt) (grown_wr hw) (fun r hr => by cases hr; exact Nat.le_refl _)
  have z2 : w.heap.size ≤ w2.heap.size := by
    rcases hw2 with rfl | hw
    · exact Nat.le_refl _
    · exact Nat.le_of_eq hw.size.symm
  refine ifD (fun h => absurd h (by omega)) (fun _ => drew_of fun w3 hx3 => ?_)
  have ho3 := ho2.ext hx3
  have f3 := f2.trans (below_ex (by omega) hx3)
  refine nil_rd rfl (ld_obj (y := Sl.nil) (by kernel_rfl) ho3.obj rfl ?_)
  refine nil_rd rfl (ld_obj (y := Sl.nil) (by kernel_rfl) ho3.obj rfl ?_)
  refine ifD (fun _ => ?_) (fun _ => ?_)
  · exact strings_Builder_grow_calls (grow_spec ho3 hn fun w9 hb f9 => hK w9 hb (f3.trans f9))
  · exact hK w3 ⟨some a, Sl.nil, ho3, .inr rfl, .nil _ _ _, .nil _ _, fun k e => by cases e⟩ f3
theorem tdiv_big {n : Nat} (h0 : 0 < n) (h : n ≤ 1000000) : (1 : Int) < Int.tdiv 9223372036854775807 (n : Int) := by
  have e : Int.tdiv 9223372036854775807 (n : Int) = ((9223372036854775807 / n : Nat) : Int) := rfl
  rw [e]
  have := Nat.div_le_div_left (a := 9223372036854775807) h h0
  omega
theorem sum_flat {m : List UInt8} : ∀ (xs : List (List UInt8)), (xs.flatMap (m ++ ·)).length = m.length * xs.length + (xs.flatMap id).length
  | [] => by simp
  | x :: xs => by
    have := sum_flat (m := m) xs
    simp only [List.flatMap_cons, List.length_append, List.length_cons, id, Nat.mul_add, Nat.mul_one] at *
    omega
theorem take_sum {xs : List (List UInt8)} {k : Nat} (hk : k < xs.length) : ((xs.take (k + 1)).flatMap id).length = ((xs.take k).flatMap id).length + xs[k].length := by
  rw [List.take_succ_eq_append_getElem hk, List.flatMap_append, List.length_append]
  simp
theorem take_sum_le {xs : List (List UInt8)} (k : Nat) : ((xs.take k).flatMap id).length ≤ (xs.flatMap id).length := by
  conv => rhs; rw [← List.take_append_drop k xs]
  rw [List.flatMap_append, List.length_append]
  omega
theorem Join_spec {s : Sl} {xs : List (List UInt8)} {c : UInt8} {K : List UInt8 → World → Prop} (hs : IsSl eS w s xs) (hn : xs.length ≤ 100000) (hsum : (xs.flatMap id).length ≤ 100000000) (hK : ∀ w', Ext w w' → K (joinL [c] xs) w') : strings_Join s [c] K w := by
  unfold strings_Join
  have hl := hs.len
  refine ifEq (fun h0 => ?_) (fun h0 => ?_)
  · have : xs = [] := List.length_eq_zero_iff.1 (by omega)
    subst this
    exact hK _ (Ext.rfl' _)
  refine ifEq (fun h1 => ?_) (fun h1 => ?_)
  · match xs, hs, hl, hK with
    | [x], hs, hl, hK =>
      refine el_rd (E := eS) (y := x) (k := 0) (by kernel_rfl) (by kernel_rfl) hs rfl (by simp) rfl fun _ => ?_
      have := hK _ (Ext.rfl' _)
      simpa [joinL] using this
    | [], _, hl, _ => exact absurd (by rw [hl]; rfl) h0
    | _ :: _ :: _, _, hl, _ => simp only [List.length_cons] at hl; omega
  have h2 : 2 ≤ xs.length := by omega
  have e1 : i64 ((s.len : Int) - 1) = ((s.len - 1 : Nat) : Int) := by rw [i64_id] <;> omega
  rw [e1]
  have e2 : i64 (0 + i64 ((([c] : List UInt8).length : Int) * ((s.len - 1 : Nat) : Int))) = ((s.len - 1 : Nat) : Int) := by
    have : (([c] : List UInt8).length : Int) = 1 := rfl
    rw [this, Int.one_mul, i64_id (n := ((s.len - 1 : Nat) : Int)) (by omega) (by omega), i64_id] <;> omega
  rw [e2]
  refine ⟨fun n w' => w = w' ∧ n = ((s.len - 1 : Nat) : Int), ?_, ?_⟩
  · refine ifD (fun _ => ?_) (fun h => absurd (show ((1 : Nat) : Int) > 0 by decide) h)
    refine quo_rd (by omega) ?_
    have hb := tdiv_big (n := s.len - 1) (by omega) (by omega)
    have hw : IntKind.i64.wrap (Int.tdiv 9223372036854775807 ((s.len - 1 : Nat) : Int)) = Int.tdiv 9223372036854775807 ((s.len - 1 : Nat) : Int) := by
      refine i64_id (by omega) ?_
      have e : Int.tdiv 9223372036854775807 ((s.len - 1 : Nat) : Int) = ((9223372036854775807 / (s.len - 1) : Nat) : Int) := rfl
      rw [e]
      have := Nat.div_le_self 9223372036854775807 (s.len - 1)
      omega
    rw [hw]
    exact ifD (fun h => absurd (show (1 : Int) ≥ _ from h) (by omega)) (fun _ => ⟨rfl, rfl⟩)
  rintro n5 _ ⟨rfl, rfl⟩
  refine up2b (fun k n w' => w = w' ∧ n = ((s.len - 1 + ((xs.take k).flatMap id).length : Nat) : Int)) 0 xs.length rfl (by omega) (by omega) ⟨rfl, by simp⟩ ?_
  rintro k n w10 C _ hk ⟨rfl, rfl⟩ hC
  have hts := take_sum_le (xs := xs) k
  refine ifD (fun hlt => ?_) (fun hge => ?_)
  · have hk1 : k < xs.length := by omega
    have hts1 := take_sum_le (xs := xs) (k + 1)
    rw [take_sum hk1] at hts1
    refine el_rd (E := eS) (y := xs[k]) (by kernel_rfl) (by kernel_rfl) hs rfl hk1 rfl fun _ => ?_
    rw [i64_id (n := 9223372036854775807 - ((s.len - 1 + ((xs.take k).flatMap id).length : Nat) : Int)) (by omega) (by omega)]
    refine ifD (fun h => absurd h (by omega)) (fun _ => hC hk1 _ _ _ rfl ⟨rfl, ?_⟩)
    rw [take_sum hk1, i64_id] <;> omega
  refine alloc_tyT (z := .agg ⟨[.pointer none, Sl.nil.val]⟩) (by kernel_rfl) fun a w14 ha hx ho => ?_
  refine strings_Builder_Grow_calls (Grow_spec (ho.ty (by kernel_rfl)) (by omega) fun w16 hb f16 => ?_)
  have hx := hx.below f16 (by omega)
  match xs, hs, hl, hn, hsum, hK, h2 with
  | x :: r, hs, hl, hn, hsum, hK, h2 =>
  simp only [List.flatMap_cons, List.length_append, id] at hsum
  simp only [List.length_cons] at hn h2 hl
  refine el_rd (E := eS) (y := x) (k := 0) (by kernel_rfl) (by kernel_rfl) (hs.ext hx) rfl (by simp) rfl fun _ => ?_
  refine strings_Builder_WriteString_calls (WriteString_spec hb hb.lt (by simp only [List.length_nil]; omega) fun w20 hb f20 => ?_)
  have hx := hx.below f20.low (by omega)
  refine sub_l (E := eS) (m := 1) (by kernel_rfl) (hs.ext hx) rfl (by simp) fun s21 h21 hblk => ?_
  have h21 : IsSl eS w20 s21 r := h21
  have hl21 := h21.len
  have a20 := hb.lt
  have hflat : ∀ j, ((r.take j).flatMap ([c] ++ ·)).length ≤ 100100000 := fun j => by
    rw [sum_flat]
    have := take_sum_le (xs := r) j
    have : (r.take j).length ≤ r.length := by rw [List.length_take]; omega
    simp only [List.length_cons, List.length_nil, Nat.zero_add, Nat.one_mul]
    omega
  have hlow : ∀ k, s21.blk = some k → k < a.block := fun k hk => by
    have := low_blk hs (by simp) k (hblk ▸ hk)
    omega
  refine up1 (fun j w' => Ext w w' ∧ Below a.block w20 w' ∧ Bld w' a a.block (x ++ (r.take j).flatMap ([c] ++ ·))) 0 r.length (by rfl) (by omega) (by omega) ⟨hx, Below.refl _ _, by simpa using hb⟩ ?_
  rintro j w24 C _ hj ⟨hx, f, hb⟩ hC
  have hfj := hflat j
  refine ifD (fun hlt => ?_) (fun hge => ?_)
  · have hj1 : j < r.length := by omega
    have hfj1 := hflat (j + 1)
    have hup : (r.take (j + 1)).flatMap ([c] ++ ·) = (r.take j).flatMap ([c] ++ ·) ++ ([c] ++ r[j]) := by
      rw [List.take_succ_eq_append_getElem hj1, List.flatMap_append, List.flatMap_cons, List.flatMap_nil, List.append_nil]
    rw [hup] at hfj1
    simp only [List.length_append, List.length_cons, List.length_nil] at hfj1
    refine el_rd (E := eS) (y := r[j]) (by kernel_rfl) (by kernel_rfl) (low_keep h21 hlow f) rfl hj1 rfl fun _ => ?_
    refine strings_Builder_WriteString_calls (WriteString_spec hb hb.lt (by simp only [List.length_append, List.length_cons, List.length_nil]; omega) fun w28 hb f28 => ?_)
    refine strings_Builder_WriteString_calls (WriteString_spec hb hb.lt (by simp only [List.length_append, List.length_cons, List.length_nil]; omega) fun w30 hb f30 => ?_)
    refine hC hj1 _ _ rfl ⟨(hx.below f28.low (by omega)).below f30.low (by omega), (f.trans f28.low).trans f30.low, ?_⟩
    rw [hup]
    simpa using hb
  · rw [List.take_of_length_le (by omega)] at hb
    refine strings_Builder_String_calls (Builder_String_spec hb ?_ fun w32 f32 => ?_)
    · match r, h2 with
      | y :: r', _ => simp
      | [], h => simp at h
    · exact hK _ (hx.below f32 (by omega))
theorem Line_spec {s : Sl} {xs : List (List UInt8)} {K : List UInt8 → World → Prop} (hs : IsSl eS w s xs) (hn : xs.length ≤ 100000) (hsum : (xs.flatMap id).length ≤ 100000000) (hK : ∀ w', Ext w w' → K (joinL [32] xs) w') : quote_Line s K w := by
  unfold quote_Line
  exact strings_Join_calls (Join_spec hs hn hsum hK)
end Go.Chg
/-
  Answers: check, encode, decode, text; the laws of chapter 9 about bytes.
-/
set_option maxRecDepth 20000
set_option linter.unusedVariables false
namespace Go.Chg
open Go.Vc
variable {w : World} {l : List UInt8} {v p no : Int}
def doneN (l : List UInt8) (p no : Int) : Int := if no ≠ 0 then no else if p < l.length then 3 else 0
theorem doneN_0 {p no : Int} (h : doneN l p no = 0) : no = 0 ∧ ¬ p < l.length := by
  unfold doneN at h
  split at h
  · rename_i h1; exact absurd h h1
  · rename_i h1
    split at h
    · cases h
    · rename_i h2; exact ⟨Classical.byContradiction h1, h2⟩
theorem digits_len {n : Nat} (h : n ≤ 4294967296) : (digits 10 n).length ≤ 20 := Nat.le_succ_of_le (digits_len19 (by omega))
end Go.Chg
