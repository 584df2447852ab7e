/-
  strconv.Itoa of a number from 0 on; 'changeoverref08' of its digits.
-/
import Derived.Test.YtlapfdcocakloaaDoorHex
import Derived.Test.YtlapfdcocakloaaDoorFns
import Derived.Test.YtlapfdcocakloaaDoorTyr
set_option maxRecDepth 20000
set_option linter.unusedVariables false
namespace Go.Vc
variable {P : Program} {w : World}
/-- A cell of an array, behind a slice of it. -/
theorem ix_off {t : TypeId} {s : Sl} {a : Addr} {o : Nat} {i : Int} (k : Nat) {K : Addr → Prop} (ht : slOf P t = some 1) (ha : s.a = some (a.add o)) (hs : a.spot = none) (hi : i = (k : Int)) (hk : k < s.len) (hK : K (a.add (o + k))) :
    opRd P (Instr.indexAt t s.val (.int .i64 i)) pav K w := by
  obtain ⟨e, he, hn⟩ := slOf_spec ht
  refine ⟨a.add (o + k), ?_, hK⟩
  have h1 : s.a = some ⟨a.block, a.off + o, none⟩ := by rw [ha, addr_off a hs]
  rw [run_indexAt he hn hi hk h1, pav, addr_off a hs]
  simp [Nat.add_assoc]
theorem ar_sub_lh {t n : Nat} {a : Addr} {i j : Int} (m k : Nat) (ht : arOf P t = some (n, 1)) (hi : i = (m : Int)) (hj : j = (k : Int)) (hmk : m ≤ k) (hk : k ≤ n) (hm : m < n) :
    (Instr.sliceAt t (.pointer (some a)) (some (.int .i64 i)) (some (.int .i64 j)) none).run P w = .ok (Sl.val ⟨some (a.add m), k - m, n - m⟩) w := by
  obtain ⟨e, he, hz⟩ := arOf_spec ht
  subst hi hj
  have ha : P.arrayLen t = n := by simp [Program.arrayLen, he]
  have hel : P.elem t = e := by simp [Program.elem, he]
  rw [run_sliceAt_array_lh w t a (by rw [ha, hel]; exact he) .i64 .i64 (m : Int) (k : Int) (by omega) (by omega) (by rw [ha]; omega), hel, run_size hz, ha]
  simp only [slicedAt, Sl.val, Result.andThen, Int.toNat_natCast, Nat.mul_one]
  rw [if_neg (by omega)]
/-- Bytes of an array, read as a list. -/
theorem Obj.part {a : Addr} {cs : List Value} (h : Obj w a cs) {m d c : Nat} {l : List UInt8} (hl : l.length = d) (hd : d ≤ c) (hsm : c ≤ 9223372036854775807) (hc : (cs.drop m).take d = l.flatMap eB.cs) :
    IsSl eB w ⟨some (a.add m), d, c⟩ l := by
  have hrow := h.row
  obtain ⟨h1, h2, _⟩ := h
  refine ⟨by dsimp only; omega, hd, by dsimp only; omega, .inr ⟨a.block, m, ?_, hrow.lt, ?_⟩, fun e => by cases e⟩
  · rw [addr_off a h1, h2]; simp
  · have := hrow.cells m d
    rw [hc] at this
    exact this
/-- The digits below a place are yet to be written. -/
structure DigInv (a : Addr) (d u : Nat) (w : World) (nd v : Nat) : Prop where
  le : nd ≤ d
  lt : v < 10 ^ nd
  cells : ∃ (cs : List Value) (suf : List UInt8), Obj w a cs ∧ cs.length = 24 ∧ (cs.drop (1 + nd)).take (d - nd) = suf.flatMap eB.cs ∧ suf.length = d - nd ∧ digK 10 d u = digK 10 nd v ++ suf
theorem DigInv.ext {a : Addr} {d u nd v : Nat} {w' : World} (h : DigInv a d u w nd v) (hx : Ext w w') : DigInv a d u w' nd v := by
  obtain ⟨h1, h2, cs, suf, h3, h4⟩ := h
  exact ⟨h1, h2, cs, suf, h3.ext hx, h4⟩
theorem DigInv.spot {a : Addr} {d u nd v : Nat} (h : DigInv a d u w nd v) : a.spot = none := by
  obtain ⟨_, _, cs, suf, h3, _⟩ := h
  exact h3.1
theorem dig_store {a : Addr} {d u nd v : Nat} {t5 : TypeId} {c : UInt8} {K : World → Prop} (h5 : sizeT P t5 = some 1) (h : DigInv a d u w (nd + 1) v) (hd : d ≤ 23) (hc : c = dig (v % 10))
    (hK : ∀ w', DigInv a d u w' nd (v / 10) → Wr a.block w w' → K w') : opUn P (Instr.storeAt t5 (.pointer (some (a.add (1 + nd)))) (.int .u8 (c.toNat : Int))) K w := by
  obtain ⟨h1, h2, cs, suf, h3, h4, h6, h7, h8⟩ := h
  refine st_obj h5 h3 rfl (by omega) fun w' hw ho => hK w' ⟨by omega, Nat.div_lt_of_lt_mul (by rw [Nat.mul_comm, ← Nat.pow_succ]; exact h2), _, c :: suf, ho, by simpa using h4, ?_, by rw [List.length_cons]; omega, ?_⟩ hw
  · rw [List.drop_eq_getElem_cons (by simp; omega), List.getElem_set_self, List.drop_set_of_lt (by omega), show d - nd = (d - (nd + 1)) + 1 by omega, List.take_succ_cons, show 1 + nd + 1 = 1 + (nd + 1) by omega, h6]
    rfl
  · rw [h8, digK, hc, List.append_assoc]
    rfl
theorem w32i {z : Int} (h0 : 0 ≤ z) (h : z < 4294967296) : IntKind.u32.wrap z = z := u32_id h0 h
theorem tm8 (v : Nat) : Int.tmod (v : Int) 100000000 = ((v % 100000000 : Nat) : Int) := rfl
theorem tm4 (v : Nat) : Int.tmod (v : Int) 10000 = ((v % 10000 : Nat) : Int) := rfl
theorem tm2 (v : Nat) : Int.tmod (v : Int) 100 = ((v % 100 : Nat) : Int) := rfl
theorem tm1 (v : Nat) : Int.tmod (v : Int) 10 = ((v % 10 : Nat) : Int) := rfl
theorem td8 (v : Nat) : Int.tdiv (v : Int) 100000000 = ((v / 100000000 : Nat) : Int) := rfl
theorem td4 (v : Nat) : Int.tdiv (v : Int) 10000 = ((v / 10000 : Nat) : Int) := rfl
theorem td2 (v : Nat) : Int.tdiv (v : Int) 100 = ((v / 100 : Nat) : Int) := rfl
theorem td1 (v : Nat) : Int.tdiv (v : Int) 10 = ((v / 10 : Nat) : Int) := rfl
theorem w32n {v : Nat} (h : v < 4294967296) : IntKind.u32.wrap (v : Int) = (v : Int) := u32_id (by omega) (by omega)
theorem w64n {v : Nat} (h : v < 18446744073709551616) : IntKind.u64.wrap (v : Int) = (v : Int) := u64_id (by omega) (by omega)
end Go.Vc
namespace Go.Chg
open Go.Vc

def pow10tab : List Int := [1, 10, 100, 1000, 10000, 100000, 1000000, 10000000, 100000000, 1000000000, 10000000000, 100000000000, 1000000000000, 10000000000000, 100000000000000, 1000000000000000, 10000000000000000, 100000000000000000, 1000000000000000000, 10000000000000000000]
/-- The table of powers of ten. -/
structure ConvT (w : World) : Prop where
  tab : GlobAt w g_internal_strconv_uint64pow10 (pow10tab.map fun n => Value.int .u64 n)
theorem ConvT.ext {w w' : World} (h : ConvT w) (hx : Ext w w') : ConvT w' := ⟨h.tab.ext hx⟩
theorem pow10_get {k : Nat} (h : k < 20) : (pow10tab.map fun n => Value.int .u64 n)[k]? = some (.int .u64 ((10 ^ k : Nat) : Int)) := by
  have key : ∀ m : Fin 20, pow10tab[m.val]? = some ((10 ^ m.val : Nat) : Int) := by decide +kernel
  rw [List.getElem?_map, key ⟨k, h⟩]
  rfl

/-! ### How many digits -/
theorem blen_up {x y m t : Nat} (h : x / 2 ^ m = y) (h1 : 1 ≤ t) (h2 : 2 ^ (t - 1) ≤ y) (h3 : y < 2 ^ t) : 2 ^ (m + t - 1) ≤ x ∧ x < 2 ^ (m + t) := by
  have hp : 0 < 2 ^ m := Nat.pow_pos (by omega)
  constructor
  · have : 2 ^ (m + t - 1) = 2 ^ (t - 1) * 2 ^ m := by rw [← Nat.pow_add]; congr 1; omega
    rw [this]
    exact (Nat.le_div_iff_mul_le hp).1 (by rw [h]; exact h2)
  · have : 2 ^ (m + t) = 2 ^ m * 2 ^ t := Nat.pow_add _ _ _
    rw [this]
    exact (Nat.div_lt_iff_lt_mul hp).1 (by rw [h]; exact h3) |> fun q => by rw [Nat.mul_comm]; exact q
theorem shR64 {x k : Nat} (hk : k ≤ 64) : shR .u64 (x : Int) (k : Int) = ((x / 2 ^ k : Nat) : Int) := by
  unfold shR
  have e : min (k : Int).toNat IntKind.u64.bits = k := by
    have : IntKind.u64.bits = 64 := rfl
    rw [this, Int.toNat_natCast]; omega
  rw [e, Int.fdiv_eq_ediv_of_nonneg _ (Int.le_of_lt (Int.pow_pos (by omega)))]
  simp
theorem log10_facts : ∀ L : Fin 65, 1 ≤ L.val → 2 ^ L.val ≤ 10 ^ (L.val * 78913 / 262144 + 1) ∧ (1 ≤ L.val * 78913 / 262144 → 10 ^ (L.val * 78913 / 262144 - 1) ≤ 2 ^ (L.val - 1)) ∧ L.val * 78913 / 262144 < 20 := by decide +kernel
/-! ### The digits -/
/-! ### Itoa -/
theorem digits_len10 : ∀ (k n : Nat), n < 10 ^ (k + 1) → (digits 10 n).length ≤ k + 1
  | 0, n, h => by rw [digits_small (by simpa using h)]; simp
  | k + 1, n, h => by
    by_cases hn : n < 10
    · rw [digits_small hn]; simp
    · rw [digits_big (by omega) hn, List.length_append, List.length_singleton]
      have := digits_len10 k (n / 10) (by
        rw [Nat.div_lt_iff_lt_mul (by omega)]
        rw [Nat.pow_succ] at h; exact h)
      omega
theorem digits_len19 {n : Nat} (h : n ≤ 9223372036854775807) : (digits 10 n).length ≤ 19 := digits_len10 18 n (by
  have : (10 : Nat) ^ (18 + 1) = 10000000000000000000 := by decide
  omega)
end Go.Chg
