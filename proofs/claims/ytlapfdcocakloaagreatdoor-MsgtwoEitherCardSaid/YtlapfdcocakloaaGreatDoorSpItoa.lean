/-
  strconv.Itoa of a number from 0 on; 'changeoverref08' of its digits.
-/
import Derived.Test.YtlapfdcocakloaaGreatDoorHex
import Derived.Test.YtlapfdcocakloaaGreatDoorFns
import Derived.Test.YtlapfdcocakloaaGreatDoorTyr
set_option maxRecDepth 20000
set_option linter.unusedVariables false
namespace Go.Vc
variable {P : Program} {w : World}
/-- A cell of an array, behind a slice of it. -/
theorem ix_off {t : TypeId} {s : Sl} {a : Addr} {o : Nat} {i : Int} (k : Nat) {K : Addr → Prop} (ht : slOf P t = some 1) (ha : s.a = some (a.add o)) (hs : a.spot = none) (hi : i = (k : Int)) (hk : k < s.len) (hK : K (a.add (o + k))) :
    opRd P (Instr.indexAt t s.val (.int .i64 i)) pav K w := by
  obtain ⟨e, he, hn⟩ := slOf_spec ht
  refine ⟨a.add (o + k), ?_, hK⟩
  have h1 : s.a = some ⟨a.block, a.off + o, none⟩ := by rw [ha, addr_off a hs]
  rw [run_indexAt he hn hi hk h1, pav, addr_off a hs]
  simp [Nat.add_assoc]
theorem ar_sub_lh {t n : Nat} {a : Addr} {i j : Int} (m k : Nat) (ht : arOf P t = some (n, 1)) (hi : i = (m : Int)) (hj : j = (k : Int)) (hmk : m ≤ k) (hk : k ≤ n) (hm : m < n) :
    (Instr.sliceAt t (.pointer (some a)) (some (.int .i64 i)) (some (.int .i64 j)) none).run P w = .ok (Sl.val ⟨some (a.add m), k - m, n - m⟩) w := by
  obtain ⟨e, he, hz⟩ := arOf_spec ht
  subst hi hj
  have ha : P.arrayLen t = n := by simp [Program.arrayLen, he]
  have hel : P.elem t = e := by simp [Program.elem, he]
  rw [run_sliceAt_array_lh w t a (by rw [ha, hel]; exact he) .i64 .i64 (m : Int) (k : Int) (by omega) (by omega) (by rw [ha]; omega), hel, run_size hz, ha]
  simp only [slicedAt, Sl.val, Result.andThen, Int.toNat_natCast, Nat.mul_one]
  rw [if_neg (by omega)]
/-- Bytes of an array, read as a list. -/
theorem Obj.part {a : Addr} {cs : List Value} (h : Obj w a cs) {m d c : Nat} {l : List UInt8} (hl : l.length = d) (hd : d ≤ c) (hsm : c ≤ 9223372036854775807) (hc : (cs.drop m).take d = l.flatMap eB.cs) :
    IsSl eB w ⟨some (a.add m), d, c⟩ l := by
  have hrow := h.row
  obtain ⟨h1, h2, _⟩ := h
  refine ⟨by dsimp only; omega, hd, by dsimp only; omega, .inr ⟨a.block, m, ?_, hrow.lt, ?_⟩, fun e => by cases e⟩
  · rw [addr_off a h1, h2]; simp
  · have := hrow.cells m d
    rw [hc] at this
    exact this
/-- The digits below a place are yet to be written. -/
structure DigInv (a : Addr) (d u : Nat) (w : World) (nd v : Nat) : Prop where
  le : nd ≤ d
  lt : v < 10 ^ nd
  cells : ∃ (cs : List Value) (suf : List UInt8), Obj w a cs ∧ cs.length = 24 ∧ (cs.drop (1 + nd)).take (d - nd) = suf.flatMap eB.cs ∧ suf.length = d - nd ∧ digK 10 d u = digK 10 nd v ++ suf
theorem DigInv.ext {a : Addr} {d u nd v : Nat} {w' : World} (h : DigInv a d u w nd v) (hx : Ext w w') : DigInv a d u w' nd v := by
  obtain ⟨h1, h2, cs, suf, h3, h4⟩ := h
  exact ⟨h1, h2, cs, suf, h3.ext hx, h4⟩
theorem DigInv.spot {a : Addr} {d u nd v : Nat} (h : DigInv a d u w nd v) : a.spot = none := by
  obtain ⟨_, _, cs, suf, h3, _⟩ := h
  exact h3.1
theorem dig_store {a : Addr} {d u nd v : Nat} {t5 : TypeId} {c : UInt8} {K : World → Prop} (h5 : sizeT P t5 = some 1) (h : DigInv a d u w (nd + 1) v) (hd : d ≤ 23) (hc : c = dig (v % 10))
    (hK : ∀ w', DigInv a d u w' nd (v / 10) → Wr a.block w w' → K w') : opUn P (Instr.storeAt t5 (.pointer (some (a.add (1 + nd)))) (.int .u8 (c.toNat : Int))) K w := by
  obtain ⟨h1, h2, cs, suf, h3, h4, h6, h7, h8⟩ := h
  refine st_obj h5 h3 rfl (by omega) fun w' hw ho => hK w' ⟨by omega, Nat.div_lt_of_lt_mul (by rw [Nat.mul_comm, ← Nat.pow_succ]; exact h2), _, c :: suf, ho, by simpa using h4, ?_, by rw [List.length_cons]; omega, ?_⟩ hw
  · rw [List.drop_eq_getElem_cons (by simp; omega), List.getElem_set_self, List.drop_set_of_lt (by omega), show d - nd = (d - (nd + 1)) + 1 by omega, List.take_succ_cons, show 1 + nd + 1 = 1 + (nd + 1) by omega, h6]
    rfl
  · rw [h8, digK, hc, List.append_assoc]
    rfl
theorem w32i {z : Int} (h0 : 0 ≤ z) (h : z < 4294967296) : IntKind.u32.wrap z = z := u32_id h0 h
theorem tm8 (v : Nat) : Int.tmod (v : Int) 100000000 = ((v % 100000000 : Nat) : Int) := rfl
theorem tm4 (v : Nat) : Int.tmod (v : Int) 10000 = ((v % 10000 : Nat) : Int) := rfl
theorem tm2 (v : Nat) : Int.tmod (v : Int) 100 = ((v % 100 : Nat) : Int) := rfl
theorem tm1 (v : Nat) : Int.tmod (v : Int) 10 = ((v % 10 : Nat) : Int) := rfl
theorem td8 (v : Nat) : Int.tdiv (v : Int) 100000000 = ((v / 100000000 : Nat) : Int) := rfl
theorem td4 (v : Nat) : Int.tdiv (v : Int) 10000 = ((v / 10000 : Nat) : Int) := rfl
theorem td2 (v : Nat) : Int.tdiv (v : Int) 100 = ((v / 100 : Nat) : Int) := rfl
theorem td1 (v : Nat) : Int.tdiv (v : Int) 10 = ((v / 10 : Nat) : Int) := rfl
theorem w32n {v : Nat} (h : v < 4294967296) : IntKind.u32.wrap (v : Int) = (v : Int) := u32_id (by omega) (by omega)
theorem w64n {v : Nat} (h : v < 18446744073709551616) : IntKind.u64.wrap (v : Int) = (v : Int) := u64_id (by omega) (by omega)
end Go.Vc
namespace Go.Chg
open Go.Vc

def pow10tab : List Int := [1, 10, 100, 1000, 10000, 100000, 1000000, 10000000, 100000000, 1000000000, 10000000000, 100000000000, 1000000000000, 10000000000000, 100000000000000, 1000000000000000, 10000000000000000, 100000000000000000, 1000000000000000000, 10000000000000000000]
/-- The table of powers of ten. -/
structure ConvT (w : World) : Prop where
  tab : GlobAt w g_internal_strconv_uint64pow10 (pow10tab.map fun n => Value.int .u64 n)
theorem ConvT.ext {w w' : World} (h : ConvT w) (hx : Ext w w') : ConvT w' := ⟨h.tab.ext hx⟩
theorem pow10_get {k : Nat} (h : k < 20) : (pow10tab.map fun n => Value.int .u64 n)[k]? = some (.int .u64 ((10 ^ k : Nat) : Int)) := by
  have key : ∀ m : Fin 20, pow10tab[m.val]? = some ((10 ^ m.val : Nat) : Int) := by decide +kernel
  rw [List.getElem?_map, key ⟨k, h⟩]
  rfl

/-! ### How many digits -/
theorem len8_get {y : Nat} (h : y < 256) (h0 : 0 < y) : ∃ hl : y < cs256_85724.length, 1 ≤ cs256_85724[y].toNat ∧ cs256_85724[y].toNat ≤ 8 ∧ 2 ^ (cs256_85724[y].toNat - 1) ≤ y ∧ y < 2 ^ cs256_85724[y].toNat := by
  have key : ∀ m : Fin 256, 0 < m.val → ∃ hl : m.val < cs256_85724.length, 1 ≤ cs256_85724[m.val].toNat ∧ cs256_85724[m.val].toNat ≤ 8 ∧ 2 ^ (cs256_85724[m.val].toNat - 1) ≤ m.val ∧ m.val < 2 ^ cs256_85724[m.val].toNat := by decide +kernel
  exact key ⟨y, h⟩ h0
theorem blen_up {x y m t : Nat} (h : x / 2 ^ m = y) (h1 : 1 ≤ t) (h2 : 2 ^ (t - 1) ≤ y) (h3 : y < 2 ^ t) : 2 ^ (m + t - 1) ≤ x ∧ x < 2 ^ (m + t) := by
  have hp : 0 < 2 ^ m := Nat.pow_pos (by omega)
  constructor
  · have : 2 ^ (m + t - 1) = 2 ^ (t - 1) * 2 ^ m := by rw [← Nat.pow_add]; congr 1; omega
    rw [this]
    exact (Nat.le_div_iff_mul_le hp).1 (by rw [h]; exact h2)
  · have : 2 ^ (m + t) = 2 ^ m * 2 ^ t := Nat.pow_add _ _ _
    rw [this]
    exact (Nat.div_lt_iff_lt_mul hp).1 (by rw [h]; exact h3) |> fun q => by rw [Nat.mul_comm]; exact q
theorem shR64 {x k : Nat} (hk : k ≤ 64) : shR .u64 (x : Int) (k : Int) = ((x / 2 ^ k : Nat) : Int) := by
  unfold shR
  have e : min (k : Int).toNat IntKind.u64.bits = k := by
    have : IntKind.u64.bits = 64 := rfl
    rw [this, Int.toNat_natCast]; omega
  rw [e, Int.fdiv_eq_ediv_of_nonneg _ (Int.le_of_lt (Int.pow_pos (by omega)))]
  simp
theorem Len64_spec {x : Nat} {K : Int → World → Prop} {w : World} (h0 : 0 < x) (h : x < 18446744073709551616) (hK : ∀ L : Nat, 1 ≤ L → L ≤ 64 → 2 ^ (L - 1) ≤ x → x < 2 ^ L → K (L : Int) w) : math_bits_Len64 (x : Int) K w := by
  unfold math_bits_Len64
  refine ⟨fun x2 n3 w' => w = w' ∧ ∃ y m : Nat, x2 = y ∧ n3 = m ∧ m ≤ 32 ∧ x / 2 ^ m = y ∧ y < 4294967296 ∧ 0 < y, ?_, ?_⟩
  · refine ifD (fun hge => ⟨rfl, x / 2 ^ 32, 32, ?_, rfl, by omega, rfl, ?_, ?_⟩) (fun hlt => ⟨rfl, x, 0, rfl, rfl, by omega, by simp, by omega, h0⟩)
    · exact shR64 (k := 32) (by omega)
    · exact Nat.div_lt_of_lt_mul (by have : (2 : Nat) ^ 32 * 4294967296 = 18446744073709551616 := by decide
                                     omega)
    · exact Nat.div_pos (by have : (2 : Nat) ^ 32 = 4294967296 := by decide
                            omega) (by decide)
  rintro _ _ _ ⟨rfl, y, m, rfl, rfl, hm, hy, hy2, hy0⟩
  refine ⟨fun x2 n3 w' => w = w' ∧ ∃ z k : Nat, x2 = z ∧ n3 = k ∧ k ≤ 48 ∧ x / 2 ^ k = z ∧ z < 65536 ∧ 0 < z, ?_, ?_⟩
  · refine ifD (fun hge => ⟨rfl, y / 2 ^ 16, m + 16, ?_, ?_, by omega, ?_, ?_, ?_⟩) (fun hlt => ⟨rfl, y, m, rfl, rfl, by omega, hy, by omega, hy0⟩)
    · exact shR64 (k := 16) (by omega)
    · rw [i64_id] <;> omega
    · rw [Nat.pow_add, ← Nat.div_div_eq_div_mul, hy]
    · exact Nat.div_lt_of_lt_mul (by have : (2 : Nat) ^ 16 * 65536 = 4294967296 := by decide
                                     omega)
    · exact Nat.div_pos (by have : (2 : Nat) ^ 16 = 65536 := by decide
                            omega) (by decide)
  rintro _ _ _ ⟨rfl, z, k, rfl, rfl, hk, hz, hz2, hz0⟩
  refine ifD (fun hge => ?_) (fun hlt => ?_)
  · have e1 : z / 2 ^ 8 < 256 := Nat.div_lt_of_lt_mul (by have : (2 : Nat) ^ 8 * 256 = 65536 := by decide
                                                          omega)
    have e0 : 0 < z / 2 ^ 8 := Nat.div_pos (by have : (2 : Nat) ^ 8 = 256 := by decide
                                               omega) (by decide)
    obtain ⟨hl, t1, t8, t2, t3⟩ := len8_get e1 e0
    refine idx_str (z / 2 ^ 8) (by kernel_rfl) ?_ hl ?_
    · rw [show shR .u64 (z : Int) 8 = ((z / 2 ^ 8 : Nat) : Int) from shR64 (k := 8) (by omega), u8_wrap (by omega) (by omega)]
    · generalize cs256_85724[z / 2 ^ 8].toNat = t at t1 t8 t2 t3
      obtain ⟨a1, a2⟩ := blen_up (x := x) (m := k + 8) (by rw [Nat.pow_add, ← Nat.div_div_eq_div_mul, hz]) t1 t2 t3
      have := hK (k + 8 + t) (by omega) (by omega) a1 a2
      have e : i64 (i64 ((k : Int) + 8) + IntKind.i64.wrap (t : Int)) = ((k + 8 + t : Nat) : Int) := by
        rw [wrap64_id (by omega) (by omega), i64_id (n := (k : Int) + 8) (by omega) (by omega), i64_id (by omega) (by omega)]; omega
      rw [e]
      exact this
  · obtain ⟨hl, t1, t8, t2, t3⟩ := len8_get (y := z) (by omega) hz0
    refine idx_str z (by kernel_rfl) (u8_wrap (by omega) (by omega)) hl ?_
    generalize cs256_85724[z].toNat = t at t1 t8 t2 t3
    obtain ⟨a1, a2⟩ := blen_up (x := x) (m := k) hz t1 t2 t3
    have := hK (k + t) (by omega) (by omega) a1 a2
    have e : i64 ((k : Int) + IntKind.i64.wrap (t : Int)) = ((k + t : Nat) : Int) := by
      rw [wrap64_id (by omega) (by omega), i64_id (by omega) (by omega)]; omega
    rw [e]
    exact this
theorem log10_facts : ∀ L : Fin 65, 1 ≤ L.val → 2 ^ L.val ≤ 10 ^ (L.val * 78913 / 262144 + 1) ∧ (1 ≤ L.val * 78913 / 262144 → 10 ^ (L.val * 78913 / 262144 - 1) ≤ 2 ^ (L.val - 1)) ∧ L.val * 78913 / 262144 < 20 := by decide +kernel
theorem numDigits_spec {u : Nat} {K : Int → World → Prop} {w : World} (ht : ConvT w) (h0 : 0 < u) (h : u < 18446744073709551616) (hK : ∀ d : Nat, 1 ≤ d → d ≤ 20 → u < 10 ^ d → digits 10 u = digK 10 d u → K (d : Int) w) : internal_strconv_numDigits (u : Int) K w := by
  unfold internal_strconv_numDigits
  refine math_bits_Len64_calls (Len64_spec h0 h fun L h1 h2 h3 h4 => ?_)
  refine internal_strconv_log10Pow2_calls ?_
  unfold internal_strconv_log10Pow2
  obtain ⟨f1, f2, f3⟩ := log10_facts ⟨L, by omega⟩ h1
  dsimp only at f1 f2 f3
  have e : shR .i64 (i64 ((L : Int) * 78913)) 18 = ((L * 78913 / 262144 : Nat) : Int) := by
    rw [i64_id (by omega) (by omega)]
    show ((L : Int) * 78913).fdiv (2 ^ 18) = _
    rw [Int.fdiv_eq_ediv_of_nonneg _ (by decide)]
    have : ((2 : Int) ^ 18) = 262144 := by decide
    rw [this]
    omega
  rw [e]
  generalize L * 78913 / 262144 = k at f1 f2 f3
  refine ix_ar (n := 20) (z := 1) k (by kernel_rfl) rfl f3 ?_
  refine ld_cell (y := ((10 ^ k : Nat) : Int)) (by kernel_rfl) (ht.tab.cell (by rw [Nat.mul_one]; exact pow10_get f3)) ?_
  refine internal_strconv_bool2_int_calls ?_
  unfold internal_strconv_bool2_int
  refine ifD (fun hge => ?_) (fun hlt => ?_)
  · have hge' : 10 ^ k ≤ u := by omega
    have hlt : u < 10 ^ (k + 1) := Nat.lt_of_lt_of_le h4 f1
    have := hK (k + 1) (by omega) (by omega) hlt (digits_K (by omega) k u hge' hlt)
    have e : i64 ((k : Int) + 1) = ((k + 1 : Nat) : Int) := by rw [i64_id] <;> omega
    show K (i64 ((k : Int) + 1)) w
    rw [e]
    exact this
  · have hlt' : u < 10 ^ k := by omega
    have hk : 1 ≤ k := by
      rcases Nat.eq_zero_or_pos k with h | h
      · subst h; simp at hlt'; omega
      · exact h
    have hge : 10 ^ (k - 1) ≤ u := Nat.le_trans (f2 hk) h3
    have := hK k hk (by omega) hlt' (by
      have := digits_K (b := 10) (by omega) (k - 1) u hge (by rw [show k - 1 + 1 = k by omega]; exact hlt')
      rw [show k - 1 + 1 = k by omega] at this
      exact this)
    have e : i64 ((k : Int) + 0) = (k : Int) := by rw [i64_id] <;> omega
    show K (i64 ((k : Int) + 0)) w
    rw [e]
    exact this

/-! ### The digits -/
theorem smalls_get {y : Nat} (h : y < 100) : ∃ h1 : 2 * y + 1 < cs200_63933.length, ∃ h0 : 2 * y < cs200_63933.length, cs200_63933[2 * y + 1] = dig (y % 10) ∧ cs200_63933[2 * y] = dig (y / 10) := by
  have key : ∀ m : Fin 100, ∃ h1 : 2 * m.val + 1 < cs200_63933.length, ∃ h0 : 2 * m.val < cs200_63933.length, cs200_63933[2 * m.val + 1] = dig (m.val % 10) ∧ cs200_63933[2 * m.val] = dig (m.val / 10) := by decide +kernel
  exact key ⟨y, h⟩
theorem pair_step {a : Addr} {d u nd v : Nat} {s : Sl} {e1 e0 i1 i0 : Int} {Rest : World → Prop} {w : World} {t9 t119 t5 : TypeId} (h9 : strT Pr t9 = true) (h119 : slOf Pr t119 = some 1) (h5 : sizeT Pr t5 = some 1)
    (hs : s = ⟨some (a.add 1), d, 23⟩) (hd : d ≤ 23) (hI : DigInv a d u w (nd + 2) v) (he1 : e1 = ((2 * (v % 100) + 1 : Nat) : Int)) (he0 : e0 = ((2 * (v % 100) : Nat) : Int)) (hi1 : i1 = ((nd + 1 : Nat) : Int)) (hi0 : i0 = (nd : Int))
    (hK : ∀ w', DigInv a d u w' nd (v / 100) → w.grownBy w' (some a.block) → Rest w') :
    heldM (fun S w5 => opH Pr S (Instr.index t9 (sval cs200_63933) (.int .u32 e1)) (Value.int .u8) (fun t7 => opH Pr S (Instr.index t9 (sval cs200_63933) (.int .u32 e0)) (Value.int .u8) (fun t8 =>
      opH Pr S (Instr.indexAt t119 s.val (.int .i64 i1)) pav (fun p9 => opUn Pr (Instr.storeAt t5 (.pointer (some p9)) (.int .u8 t7)) (fun w10 => S w10 ∧ opH Pr S (Instr.indexAt t119 s.val (.int .i64 i0)) pav (fun p11 =>
        opUn Pr (Instr.storeAt t5 (.pointer (some p11)) (.int .u8 t8)) (fun w12 => S w12 ∧ Rest w12) w10)) w5)))) w := by
  obtain ⟨h1, h0, g1, g0⟩ := smalls_get (y := v % 100) (by omega)
  subst hs
  have hsp := hI.spot
  have hle := hI.le
  refine heldM_of (fun _ => True) fun w5 hx5 => ⟨trivial, ?_⟩
  refine opH_of (cs200_63933[2 * (v % 100) + 1].toNat : Int) (fun w' _ => idx_str _ h9 he1 h1 rfl) ?_
  refine opH_of (cs200_63933[2 * (v % 100)].toNat : Int) (fun w' _ => idx_str _ h9 he0 h0 rfl) ?_
  refine opH_of (a.add (1 + (nd + 1))) (fun w' _ => ix_off _ h119 rfl hsp hi1 (by dsimp only; omega) rfl) ?_
  rw [g1, g0]
  refine dig_store h5 (nd := nd + 1) (hI.ext hx5) hd (by congr 1; omega) fun w10 hI10 hw10 => ⟨trivial, ?_⟩
  refine opH_of (a.add (1 + nd)) (fun w' _ => ix_off _ h119 rfl hsp hi0 (by dsimp only; omega) rfl) ?_
  refine dig_store h5 (nd := nd) hI10 hd (by congr 1; omega) fun w12 hI12 hw12 => ⟨trivial, hK w12 ?_ (grown_trans (grown_trans (grown_ext hx5 _) (grown_wr hw10)) (grown_wr hw12))⟩
  rw [Nat.div_div_eq_div_mul] at hI12
  exact hI12
theorem formatBase10_spec {a : Addr} {d u : Nat} {cs : List Value} {K : Unit → World → Prop} {w : World} (ho : Vc.Obj w a cs) (hcl : cs.length = 24) (hd : d ≤ 20) (hu : u < 10 ^ d) (hu64 : u < 18446744073709551616)
    (hK : ∀ w' cs', Vc.Obj w' a cs' → cs'.length = 24 → (cs'.drop 1).take d = (digK 10 d u).flatMap eB.cs → w.grownBy w' (some a.block) → K () w') : internal_strconv_formatBase10 ⟨some (a.add 1), d, 23⟩ (u : Int) K w := by
  unfold internal_strconv_formatBase10
  have fin : ∀ w' v, DigInv a d u w' 0 v → w.grownBy w' (some a.block) → K () w' := fun w' v hI hg => by
    obtain ⟨_, _, cs', suf, k1, k2, k3, k4, k5⟩ := hI
    refine hK w' cs' k1 k2 ?_ hg
    rw [k5, digK, List.nil_append]
    exact k3
  have hsp := ho.1
  refine ⟨fun x n w' => ∃ v nd : Nat, x = v ∧ n = nd ∧ DigInv a d u w' nd v ∧ w.grownBy w' (some a.block) ∧ v < 18446744073709551616, fun _ n _ => n.toNat, ⟨u, d, rfl, rfl, ⟨Nat.le_refl _, hu, cs, [], ho, hcl, by simp, by simp, by simp⟩, grown_refl _ _, hu64⟩, ?_⟩
  rintro _ _ w4 ⟨v, nd, rfl, rfl, hI, hg, hv⟩
  refine ifD (fun hge => ?_) (fun hlt => ?_)
  · obtain ⟨n, rfl⟩ : ∃ n, nd = n + 8 := ⟨nd - 8, by omega⟩
    have hdl := hI.le
    refine pair_step (nd := n + 6) (by kernel_rfl) (by kernel_rfl) (by kernel_rfl) rfl (by omega) hI ?_ ?_ (by rw [i64_id] <;> omega) (by rw [i64_id] <;> omega) fun w5 hI5 hg5 => ?_
    · simp (disch := omega) only [tm8, tm4, tm2, td4, td2, w32i, w32n]; omega
    · simp (disch := omega) only [tm8, tm4, tm2, td4, td2, w32i, w32n]; omega
    refine pair_step (nd := n + 4) (by kernel_rfl) (by kernel_rfl) (by kernel_rfl) rfl (by omega) hI5 ?_ ?_ (by rw [i64_id] <;> omega) (by rw [i64_id] <;> omega) fun w6 hI6 hg6 => ?_
    · simp (disch := omega) only [tm8, tm4, tm2, td4, td2, w32i, w32n]; omega
    · simp (disch := omega) only [tm8, tm4, tm2, td4, td2, w32i, w32n]; omega
    refine pair_step (nd := n + 2) (by kernel_rfl) (by kernel_rfl) (by kernel_rfl) rfl (by omega) hI6 ?_ ?_ (by rw [i64_id] <;> omega) (by rw [i64_id] <;> omega) fun w7 hI7 hg7 => ?_
    · simp (disch := omega) only [tm8, tm4, tm2, td4, td2, w32i, w32n]; omega
    · simp (disch := omega) only [tm8, tm4, tm2, td4, td2, w32i, w32n]; omega
    refine pair_step (nd := n) (by kernel_rfl) (by kernel_rfl) (by kernel_rfl) rfl (by omega) hI7 ?_ ?_ (by rw [i64_id] <;> omega) (by rw [i64_id] <;> omega) fun w8 hI8 hg8 => ?_
    · simp (disch := omega) only [tm8, tm4, tm2, td4, td2, w32i, w32n]; omega
    · simp (disch := omega) only [tm8, tm4, tm2, td4, td2, w32i, w32n]; omega
    refine ⟨⟨v / 100000000, n, ?_, by rw [i64_id] <;> omega, ?_, grown_trans hg (grown_trans (grown_trans (grown_trans hg5 hg6) hg7) hg8), by omega⟩, ?_⟩
    · rw [td8, w64n (by omega)]
    · have e : v / 100 / 100 / 100 / 100 = v / 100000000 := by omega
      rw [← e]; exact hI8
    · dsimp only
      rw [i64_id] <;> omega
  have hv32 : v < 4294967296 := by
    have h1 := hI.lt
    have h2 : 10 ^ nd ≤ 10 ^ 7 := Nat.pow_le_pow_right (by omega) (by omega)
    have h3 : (10 : Nat) ^ 7 = 10000000 := by decide
    omega
  refine ⟨fun n x w' => ∃ v' nd' : Nat, x = v' ∧ n = nd' ∧ nd' < 4 ∧ DigInv a d u w' nd' v' ∧ w.grownBy w' (some a.block), ?_, ?_⟩
  · refine ifD (fun hge => ?_) (fun hlt4 => ⟨v, nd, by rw [w32n hv32], rfl, by omega, hI, hg⟩)
    obtain ⟨n, rfl⟩ : ∃ n, nd = n + 4 := ⟨nd - 4, by omega⟩
    have hdl := hI.le
    refine pair_step (nd := n + 2) (by kernel_rfl) (by kernel_rfl) (by kernel_rfl) rfl (by omega) hI ?_ ?_ (by rw [i64_id] <;> omega) (by rw [i64_id] <;> omega) fun w5 hI5 hg5 => ?_
    · simp (disch := omega) only [tm8, tm4, tm2, td4, td2, w32i, w32n]; omega
    · simp (disch := omega) only [tm8, tm4, tm2, td4, td2, w32i, w32n]; omega
    refine pair_step (nd := n) (by kernel_rfl) (by kernel_rfl) (by kernel_rfl) rfl (by omega) hI5 ?_ ?_ (by rw [i64_id] <;> omega) (by rw [i64_id] <;> omega) fun w6 hI6 hg6 => ?_
    · simp (disch := omega) only [tm8, tm4, tm2, td4, td2, w32i, w32n]; omega
    · simp (disch := omega) only [tm8, tm4, tm2, td4, td2, w32i, w32n]; omega
    refine ⟨v / 10000, n, ?_, by rw [i64_id] <;> omega, by omega, ?_, grown_trans hg (grown_trans hg5 hg6)⟩
    · rw [w32n hv32, td4, w32n (by omega)]
    · have e : v / 100 / 100 = v / 10000 := by omega
      rw [← e]; exact hI6
  clear hI hg hv32 hv hlt
  rintro _ _ w5 ⟨v', nd', rfl, rfl, h4, hI, hg⟩
  have hdl := hI.le
  have one : ∀ {w' : World} {v'' : Nat} {z : Int} {t1 t5 : Nat}, slOf Pr t1 = some 1 → sizeT Pr t5 = some 1 → z = ((dig v'').toNat : Int) → v'' < 10 → DigInv a d u w' 1 v'' → w.grownBy w' (some a.block) →
      opRd Pr (Instr.indexAt t1 (Sl.val ⟨some (a.add 1), d, 23⟩) (.int .i64 0)) pav (fun t65 => opUn Pr (Instr.storeAt t5 (.pointer (some t65)) (.int .u8 z)) (fun w66 => K () w66) w') w' := fun ht1 ht5 hz h10 hI hg => by
    have := hI.le
    refine ix_off 0 ht1 rfl hsp rfl (by dsimp only; omega) ?_
    subst hz
    exact dig_store (nd := 0) ht5 hI (by omega) (by rw [Nat.mod_eq_of_lt h10]) fun w66 hI66 hw66 => fin _ _ hI66 (grown_trans hg (grown_wr hw66))
  have dg : ∀ y : Nat, y < 10 → IntKind.u8.wrap (IntKind.u32.wrap (48 + (y : Int))) = ((dig y).toNat : Int) := fun y hy => by
    have key : ∀ m : Fin 10, IntKind.u8.wrap (IntKind.u32.wrap (48 + (m.val : Int))) = ((dig m.val).toNat : Int) := by decide +kernel
    exact key ⟨y, hy⟩
  refine ifD (fun hge => ?_) (fun hlt2 => ?_)
  · obtain ⟨n, rfl⟩ : ∃ n, nd' = n + 2 := ⟨nd' - 2, by omega⟩
    have hv' : v' < 1000 := by
      have h1 := hI.lt
      have h2 : 10 ^ (n + 2) ≤ 10 ^ 3 := Nat.pow_le_pow_right (by omega) (by omega)
      have h3 : (10 : Nat) ^ 3 = 1000 := by decide
      omega
    refine pair_step (nd := n) (by kernel_rfl) (by kernel_rfl) (by kernel_rfl) rfl (by omega) hI ?_ ?_ (by rw [i64_id] <;> omega) (by rw [i64_id] <;> omega) fun w6 hI6 hg6 => ?_
    · simp (disch := omega) only [tm8, tm4, tm2, td4, td2, w32i, w32n]; omega
    · simp (disch := omega) only [tm8, tm4, tm2, td4, td2, w32i, w32n]; omega
    have en : i64 (((n + 2 : Nat) : Int) - 2) = (n : Int) := by rw [i64_id] <;> omega
    rw [en]
    refine ifD (fun hpos => ?_) (fun hz => ?_)
    · obtain rfl : n = 1 := by omega
      exact one (by kernel_rfl) (by kernel_rfl) (by rw [td2, w32n (by omega)]; exact dg _ (by omega)) (by omega) hI6 (grown_trans hg hg6)
    · obtain rfl : n = 0 := by omega
      exact fin _ _ hI6 (grown_trans hg hg6)
  · refine ifD (fun hpos => ?_) (fun hz => ?_)
    · obtain rfl : nd' = 1 := by omega
      have := hI.lt
      exact one (by kernel_rfl) (by kernel_rfl) (dg _ (by omega)) (by omega) hI hg
    · obtain rfl : nd' = 0 := by omega
      exact fin _ _ hI hg

/-! ### Itoa -/
theorem small_get {y : Nat} (h : y < 100) : (if y < 10 then (cs36_19037.drop y).take 1 else (cs200_63933.drop (2 * y)).take 2) = digits 10 y := by
  have key : ∀ m : Fin 100, (if m.val < 10 then (cs36_19037.drop m.val).take 1 else (cs200_63933.drop (2 * m.val)).take 2) = digK 10 (if m.val < 10 then 1 else 2) m.val := by decide +kernel
  have := key ⟨y, h⟩
  dsimp only at this
  rw [this]
  by_cases h10 : y < 10
  · rw [if_pos h10, digits_small h10]
    simp only [digK]
    rw [Nat.mod_eq_of_lt h10]; rfl
  · rw [if_neg h10, digits_K (b := 10) (by omega) 1 y (by omega) (by omega)]
theorem small_spec {y : Nat} {K : List UInt8 → World → Prop} {w : World} (h : y < 100) (hK : K (digits 10 y) w) : internal_strconv_small (y : Int) K w := by
  unfold internal_strconv_small
  have hs := small_get h
  refine ifD (fun h10 => ?_) (fun h10 => ?_)
  · rw [if_pos (by omega)] at hs
    refine sub_str_lh (m := y) (n := y + 1) (by kernel_rfl) rfl (by rw [i64_id] <;> omega) (by omega) ?_ ?_
    · have : cs36_19037.length = 36 := by decide +kernel
      omega
    · rw [show y + 1 - y = 1 by omega, hs]; exact hK
  · rw [if_neg (by omega)] at hs
    refine sub_str_lh (m := 2 * y) (n := 2 * y + 2) (by kernel_rfl) (by rw [i64_id] <;> omega) (by rw [i64_id (n := (y : Int) * 2) (by omega) (by omega), i64_id] <;> omega) (by omega) ?_ ?_
    · have : cs200_63933.length = 200 := by decide +kernel
      omega
    · rw [show 2 * y + 2 - 2 * y = 2 by omega, hs]; exact hK
theorem Itoa_spec {n : Nat} {K : List UInt8 → World → Prop} {w : World} (ht : ConvT w) (hn : n ≤ 9223372036854775807) (hK : ∀ w', Ext w w' → K (digits 10 n) w') : strconv_Itoa (n : Int) K w := by
  unfold strconv_Itoa
  refine internal_strconv_Itoa_calls ?_
  unfold internal_strconv_Itoa
  refine internal_strconv_FormatInt_calls ?_
  unfold internal_strconv_FormatInt
  refine ifB_t rfl ?_
  refine ⟨fun w' => w = w' ∧ 100 ≤ n, ifD (fun _ => ifD (fun h => ?_) (fun h => ⟨rfl, by omega⟩)) (fun h => absurd (by omega) h), ?_⟩
  · exact internal_strconv_small_calls (small_spec (by omega) (hK w (Ext.rfl' w)))
  rintro _ ⟨rfl, h100⟩
  refine alloc_ty (z := .agg ⟨List.replicate 24 (.int .u8 0)⟩) (by kernel_rfl) fun a w6 ha hx hobj => ?_
  refine ⟨fun x w' => x = (n : Int) ∧ w6 = w', ifB_f (by simp) ⟨w64n (by omega), rfl⟩, ?_⟩
  rintro _ _ ⟨rfl, rfl⟩
  refine internal_strconv_numDigits_calls (numDigits_spec (ht.ext hx) (by omega) (by omega) fun d h1 h2 h3 h4 => ?_)
  have e : i64 (1 + (d : Int)) = ((1 + d : Nat) : Int) := by rw [i64_id] <;> omega
  rw [e]
  have hsub : ∀ w' t, arOf Pr t = some (24, 1) → (Instr.sliceAt t (.pointer (some a)) (some (.int .i64 1)) (some (.int .i64 ((1 + d : Nat) : Int))) none).run Pr w' = .ok (Sl.val ⟨some (a.add 1), d, 23⟩) w' := fun w' t ht => by
    have := ar_sub_lh (P := Pr) (w := w') (t := t) (n := 24) (a := a) (i := 1) (j := ((1 + d : Nat) : Int)) 1 (1 + d) ht rfl rfl (by omega) (by omega) (by omega)
    rw [show 1 + d - 1 = d by omega] at this
    exact this
  refine ⟨_, hsub w6 _ (by kernel_rfl), ?_⟩
  have hcs0 : (Value.agg ⟨List.replicate 24 (.int .u8 0)⟩).cells.toList = List.replicate 24 (.int .u8 0) := rfl
  rw [hcs0] at hobj
  refine internal_strconv_formatBase10_calls (formatBase10_spec (a := a) hobj (by simp) h2 h3 (by omega) fun w14 cs' ho hl hc hg => ?_)
  refine ifB_f (by simp) ⟨_, hsub w14 _ (by kernel_rfl), ?_⟩
  refine b2str_rd (by kernel_rfl) (by kernel_rfl) (ho.part (l := digK 10 d n) (digK_len _ _ _) (by omega) (by omega) hc) ?_
  rw [← h4]
  exact hK _ (hx.grown' hg (by omega))
theorem digits_len10 : ∀ (k n : Nat), n < 10 ^ (k + 1) → (digits 10 n).length ≤ k + 1
  | 0, n, h => by rw [digits_small (by simpa using h)]; simp
  | k + 1, n, h => by
    by_cases hn : n < 10
    · rw [digits_small hn]; simp
    · rw [digits_big (by omega) hn, List.length_append, List.length_singleton]
      have := digits_len10 k (n / 10) (by
        rw [Nat.div_lt_iff_lt_mul (by omega)]
        rw [Nat.pow_succ] at h; exact h)
      omega
theorem digits_len19 {n : Nat} (h : n ≤ 9223372036854775807) : (digits 10 n).length ≤ 19 := digits_len10 18 n (by
  have : (10 : Nat) ^ (18 + 1) = 10000000000000000000 := by decide
  omega)
theorem ref08_Digits_spec {n : Nat} {K : List UInt8 → World → Prop} {w : World} (hn : n ≤ 9223372036854775807) (hK : K (digits 10 n) w) : ref08_Digits (n : Int) K w := by
  unfold ref08_Digits
  have hlen := digits_len19 hn
  refine ⟨fun x s w' => w = w' ∧ ∃ m : Nat, x = m ∧ m ≤ n ∧ digits 10 m ++ s = digits 10 n, fun x _ _ => x.toNat, ⟨rfl, n, rfl, Nat.le_refl _, by simp⟩, ?_⟩
  rintro _ s _ ⟨rfl, m, rfl, hm, hs⟩
  rw [tm1]
  have hdg : ∀ y : Fin 10, (([48, 49, 50, 51, 52, 53, 54, 55, 56, 57] : List UInt8).drop y.val).take 1 = [dig y.val] := by decide +kernel
  have hsl := hdg ⟨m % 10, by omega⟩
  dsimp only at hsl
  have hsl2 : s.length ≤ 19 := by rw [← hs, List.length_append] at hlen; omega
  refine sub_str_lh (m := m % 10) (n := m % 10 + 1) (by kernel_rfl) rfl (by rw [i64_id] <;> omega) (by omega) (by simp only [List.length_cons, List.length_nil]; omega) ?_
  rw [show m % 10 + 1 - m % 10 = 1 by omega, hsl]
  refine cat_str (by simp only [List.length_singleton]; omega) ?_
  rw [td1, wrap64_id (by omega) (by omega)]
  refine ifD (fun h0 => ?_) (fun hp => ?_)
  · rw [← hs, digits_small (by omega)] at hK
    rw [Nat.mod_eq_of_lt (by omega)]
    exact hK
  · have hb : ¬ m < 10 := by omega
    refine ⟨⟨rfl, m / 10, rfl, by omega, ?_⟩, by dsimp only; omega⟩
    rw [← hs, digits_big (by omega) hb, List.append_assoc]
end Go.Chg
