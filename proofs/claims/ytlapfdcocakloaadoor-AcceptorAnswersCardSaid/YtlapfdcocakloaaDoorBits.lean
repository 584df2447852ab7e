/-
  Bits of numbers, as they are reckoned; tables in package variables. Of whatever program.
-/
import Derived.Test.YtlapfdcocakloaaDoorStr
set_option maxRecDepth 20000
namespace Go.Vc

theorem bAnd_63 {b : UInt8} : bAnd .u8 (b.toNat : Int) 63 = ((b.toNat % 64 : Nat) : Int) := by
  have key : ∀ x : Fin 256, bAnd .u8 (x.val : Int) 63 = ((x.val % 64 : Nat) : Int) := by decide +kernel
  exact key ⟨b.toNat, b.toNat_lt⟩
theorem bAnd_31 {b : UInt8} : bAnd .u8 (b.toNat : Int) 31 = ((b.toNat % 32 : Nat) : Int) := by
  have key : ∀ x : Fin 256, bAnd .u8 (x.val : Int) 31 = ((x.val % 32 : Nat) : Int) := by decide +kernel
  exact key ⟨b.toNat, b.toNat_lt⟩
theorem bAnd_15 {b : UInt8} : bAnd .u8 (b.toNat : Int) 15 = ((b.toNat % 16 : Nat) : Int) := by
  have key : ∀ x : Fin 256, bAnd .u8 (x.val : Int) 15 = ((x.val % 16 : Nat) : Int) := by decide +kernel
  exact key ⟨b.toNat, b.toNat_lt⟩
theorem bAnd_7 {b : UInt8} : bAnd .u8 (b.toNat : Int) 7 = ((b.toNat % 8 : Nat) : Int) := by
  have key : ∀ x : Fin 256, bAnd .u8 (x.val : Int) 7 = ((x.val % 8 : Nat) : Int) := by decide +kernel
  exact key ⟨b.toNat, b.toNat_lt⟩
theorem i32_id {n : Int} (h0 : -2147483648 ≤ n) (h : n ≤ 2147483647) : IntKind.i32.wrap n = n := IntWalk.i32_in n ⟨h0, h⟩
theorem u32_id {n : Int} (h0 : 0 ≤ n) (h : n < 4294967296) : IntKind.u32.wrap n = n := by
  have : IntKind.u32.wrap n = n % 4294967296 := rfl
  omega
theorem u64_id {n : Int} (h0 : 0 ≤ n) (h : n < 18446744073709551616) : IntKind.u64.wrap n = n := by
  have : IntKind.u64.wrap n = n % 18446744073709551616 := rfl
  omega
theorem wrap64_id {n : Int} (h1 : -9223372036854775808 ≤ n) (h2 : n ≤ 9223372036854775807) : IntKind.i64.wrap n = n := i64_id h1 h2
theorem bOr_i32 {a b : Nat} (ha : a < 2147483648) (hb : b < 2147483648) : bOr .i32 (a : Int) (b : Int) = ((a ||| b : Nat) : Int) := by
  unfold bOr
  have hlt : a ||| b < 2 ^ 31 := Nat.or_lt_two_pow (by omega) (by omega)
  rw [BitVec.toNat_or, BitVec.toNat_ofInt, BitVec.toNat_ofInt]
  have e1 : ((a : Int) % ((2 ^ IntKind.bits .i32 : Nat) : Int)).toNat = a := by
    have : ((2 ^ IntKind.bits .i32 : Nat) : Int) = 4294967296 := by decide
    rw [this]; omega
  have e2 : ((b : Int) % ((2 ^ IntKind.bits .i32 : Nat) : Int)).toNat = b := by
    have : ((2 ^ IntKind.bits .i32 : Nat) : Int) = 4294967296 := by decide
    rw [this]; omega
  rw [e1, e2]
  exact i32_id (by omega) (by omega)
theorem bOr_add {p q i : Nat} (hq : q < 2 ^ i) (h : 2 ^ i * p + q < 2147483648) : bOr .i32 ((2 ^ i * p : Nat) : Int) (q : Int) = ((2 ^ i * p + q : Nat) : Int) := by
  rw [bOr_i32 (by omega) (by omega), Nat.two_pow_add_eq_or_of_lt hq]
theorem shL_i32 {n k : Nat} (hk : k < 32) (h : 2 ^ k * n < 2147483648) : shL .i32 (n : Int) (k : Int) = ((2 ^ k * n : Nat) : Int) := by
  unfold shL
  have e1 : min (k : Int).toNat (IntKind.bits .i32) = k := by
    show min k 32 = k
    omega
  rw [e1]
  have e2 : (n : Int) * 2 ^ k = ((2 ^ k * n : Nat) : Int) := by rw [Nat.mul_comm]; simp
  rw [e2]
  exact i32_id (by omega) (by omega)

/-! ### Package variables that hold a table -/
structure GlobAt (w : World) (a : Addr) (cs : List Value) : Prop where
  spot : a.spot = none
  off : a.off = 0
  lt : a.block < w.heap.size
  cells : CellsAt w a.block 0 cs
theorem GlobAt.ext {w w' : World} {a : Addr} {cs : List Value} (h : GlobAt w a cs) (hx : Ext w w') : GlobAt w' a cs := ⟨h.spot, h.off, Nat.lt_of_lt_of_le h.lt hx.size, h.cells.same (hx.block _ h.lt)⟩
theorem GlobAt.cell {w : World} {a : Addr} {cs : List Value} (h : GlobAt w a cs) {k : Nat} {v : Value} (hv : cs[k]? = some v) : w.cell? (a.add k) = some v := by
  rw [addr_off a h.spot, h.off]
  exact h.cells k v hv
theorem GlobAt.cellsAt {w : World} {a : Addr} {cs : List Value} (h : GlobAt w a cs) (o n : Nat) : CellsAt w a.block o ((cs.drop o).take n) := by
  intro j v hj
  rw [List.getElem?_take] at hj
  split at hj
  · rw [List.getElem?_drop] at hj
    have := h.cells (o + j) v hj
    rwa [Nat.zero_add] at this
  · cases hj
theorem GlobAt.take {w : World} {a : Addr} {cs cs' : List Value} (h : GlobAt w a cs) (n : Nat) (hc : cs.take n = cs') : GlobAt w a cs' :=
  ⟨h.spot, h.off, h.lt, fun j v hj => h.cells j v (by
    rw [← hc, List.getElem?_take] at hj
    split at hj
    · exact hj
    · cases hj)⟩
end Go.Vc
