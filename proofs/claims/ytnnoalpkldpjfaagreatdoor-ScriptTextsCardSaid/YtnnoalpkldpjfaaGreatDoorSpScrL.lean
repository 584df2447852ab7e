/-
  Events and their lines, in plain Lean.
-/
import Derived.Test.YtnnoalpkldpjfaaGreatDoorSpCmdT
import Derived.Test.YtnnoalpkldpjfaaGreatDoorFull
set_option maxRecDepth 20000
set_option linter.unusedVariables false
namespace Go.Chg
open Go.Vc
variable {w : World} {s l : List UInt8} {e x : ApiEvent} {ws : List (List UInt8)} {n : Int}
/-! ### Kinds -/
def evKinds : List ScriptKind := [⟨[], 0⟩, ⟨[115, 116, 97, 114, 116], 3⟩, ⟨[99, 114, 97, 115, 104], 7⟩, ⟨[100, 101, 108, 105, 118, 101, 114], 2⟩, ⟨[108, 111, 115, 101], 2⟩, ⟨[116, 119, 105, 99, 101], 2⟩, ⟨[116, 105, 99, 107], 1⟩, ⟨[115, 121, 110, 99], 1⟩,
  ⟨[115, 104, 114, 105, 110, 107], 1⟩, ⟨[99, 97, 108, 108], 9⟩, ⟨[97, 103, 97, 105, 110], 3⟩, ⟨[97, 100, 109, 105, 110], 17⟩]
def evAt (k : Nat) : ScriptKind := evKinds.getD k ⟨[], 0⟩
def kEv (n : Int) : ScriptKind := if 1 ≤ n ∧ n ≤ 11 then evAt n.toNat else ⟨[], 0⟩
theorem kEv_in {k : Nat} (h1 : 1 ≤ k) (h2 : k ≤ 11) : kEv (k : Int) = evAt k := by
  unfold kEv
  rw [if_pos (by omega), Int.toNat_natCast]
theorem kEv_out (h : ¬ (1 ≤ n ∧ n ≤ 11)) : kEv n = ⟨[], 0⟩ := if_neg h
theorem twelve {k : Nat} (h : k < 12) : k = 0 ∨ k = 1 ∨ k = 2 ∨ k = 3 ∨ k = 4 ∨ k = 5 ∨ k = 6 ∨ k = 7 ∨ k = 8 ∨ k = 9 ∨ k = 10 ∨ k = 11 := by omega
def kNd (n : Int) : Bool := decide (n = 1) || decide (n = 2) || (decide (6 ≤ n) && decide (n ≤ 11))
def kNn (n : Int) : Bool := (decide (1 ≤ n) && decide (n ≤ 5)) || decide (n = 10)
def kMm (n : Int) : Bool := decide (n = 2)
def kCl (n : Int) : Bool := decide (n = 9)
def kAd (n : Int) : Bool := decide (n = 11)
theorem ev_bits (n : Int) : (bAnd .i64 (kEv n).has_ 1 == 0) = !kNd n ∧ (bAnd .i64 (kEv n).has_ 2 == 0) = !kNn n ∧ (bAnd .i64 (kEv n).has_ 4 == 0) = !kMm n ∧ (bAnd .i64 (kEv n).has_ 8 == 0) = !kCl n ∧ (bAnd .i64 (kEv n).has_ 16 == 0) = !kAd n ∧
    (bAnd .i64 (kEv n).has_ 24 == 0) = !(kCl n || kAd n) := by
  by_cases h : 1 ≤ n ∧ n ≤ 11
  · obtain ⟨m, rfl⟩ := Int.eq_ofNat_of_zero_le (show 0 ≤ n by omega)
    have key : ∀ m : Fin 12, 1 ≤ m.val → (bAnd .i64 (evAt m.val).has_ 1 == 0) = !kNd (m.val : Int) ∧ (bAnd .i64 (evAt m.val).has_ 2 == 0) = !kNn (m.val : Int) ∧ (bAnd .i64 (evAt m.val).has_ 4 == 0) = !kMm (m.val : Int) ∧ (bAnd .i64 (evAt m.val).has_ 8 == 0) = !kCl (m.val : Int) ∧
        (bAnd .i64 (evAt m.val).has_ 16 == 0) = !kAd (m.val : Int) ∧ (bAnd .i64 (evAt m.val).has_ 24 == 0) = !(kCl (m.val : Int) || kAd (m.val : Int)) := by decide +kernel
    rw [kEv_in (by omega) (by omega)]
    exact key ⟨m, by omega⟩ (by show 1 ≤ m; omega)
  · rw [kEv_out h]
    have a : kNd n = false := by unfold kNd; simp; omega
    have b : kNn n = false := by unfold kNn; simp; omega
    have c : kMm n = false := by unfold kMm; simp; omega
    have d : kCl n = false := by unfold kCl; simp; omega
    have f : kAd n = false := by unfold kAd; simp; omega
    rw [a, b, c, d, f]
    decide +kernel
theorem bne_of {x : Int} {b : Bool} (h : (x == 0) = !b) : (x != 0) = b := by rw [bne, h, Bool.not_not]
/-! ### Which events may be -/
def nOk (b : Bool) (n lo hi : Int) : Prop := if b = true then lo ≤ n ∧ n ≤ hi else n = 0
def seq1 (c : ApiCmd) : ApiCmd := { c with Seq := 1 }
def cOk (e : ApiEvent) : Prop :=
  if kCl e.Kind = true then e.Cmd.Seq = 0 ∧ kOwn e.Cmd.Kind = true ∧ CmdOk (seq1 e.Cmd) else if kAd e.Kind = true then kOwn e.Cmd.Kind = false ∧ CmdOk e.Cmd else e.Cmd = zCmd
def EvOk (e : ApiEvent) : Prop := (1 ≤ e.Kind ∧ e.Kind ≤ 11) ∧ nOk (kNd e.Kind) e.Node 1 9 ∧ nOk (kNn e.Kind) e.N 0 4294967296 ∧ nOk (kMm e.Kind) e.M 0 4294967296 ∧ cOk e
/-! ### Lines -/
def numW (b : Bool) (n : Int) : List (List UInt8) := if b = true then [digits 10 n.toNat] else []
/-- A call's words, without its number. -/
def calW (c : ApiCmd) : List (List UInt8) := (wordsT (seq1 c) 6).take 2 ++ (wordsT (seq1 c) 6).drop 3
def cmdW (e : ApiEvent) : List (List UInt8) := if kCl e.Kind = true then calW e.Cmd else if kAd e.Kind = true then wordsT e.Cmd 6 else []
def numsW (e : ApiEvent) : List (List UInt8) := numW (kNd e.Kind) e.Node ++ numW (kNn e.Kind) e.N ++ numW (kMm e.Kind) e.M
def wordsE (e : ApiEvent) : List (List UInt8) := (kEv e.Kind).name :: (numsW e ++ cmdW e)
def lineE (e : ApiEvent) : List UInt8 := joinL [32] (wordsE e)
theorem evAt_word {k : Nat} (h1 : 1 ≤ k) (h2 : k ≤ 11) : wordOk (evAt k).name = true := by
  have key : ∀ m : Fin 12, 1 ≤ m.val → (evAt m.val).name ≠ [] ∧ ∀ c ∈ (evAt m.val).name, 33 ≤ c.toNat ∧ c.toNat ≠ 34 := by decide +kernel
  obtain ⟨k1, k2⟩ := key ⟨k, by omega⟩ h1
  exact plain_word k1 k2
theorem evAt_inj {j k : Nat} (j1 : 1 ≤ j) (j2 : j ≤ 11) (k1 : 1 ≤ k) (k2 : k ≤ 11) (h : (evAt j).name = (evAt k).name) : j = k := by
  have key : ∀ a b : Fin 12, 1 ≤ a.val → 1 ≤ b.val → (evAt a.val).name = (evAt b.val).name → a = b := by decide +kernel
  exact congrArg Fin.val (key ⟨j, by omega⟩ ⟨k, by omega⟩ j1 k1 h)
theorem numW_ok (b : Bool) (n : Int) : ∀ y ∈ numW b n, wordOk y = true := by
  intro y hy
  unfold numW at hy
  split at hy
  · rw [List.mem_singleton] at hy
    subst hy
    exact digits_word _
  · cases hy
theorem cmdW_ok (e : ApiEvent) : ∀ y ∈ cmdW e, wordOk y = true := by
  intro y hy
  unfold cmdW at hy
  split at hy
  · rcases List.mem_append.1 hy with h | h
    · exact wordsT_ok _ _ y (List.mem_of_mem_take h)
    · exact wordsT_ok _ _ y (List.mem_of_mem_drop h)
  · split at hy
    · exact wordsT_ok _ _ y hy
    · cases hy
theorem wordsE_ok (h : 1 ≤ e.Kind ∧ e.Kind ≤ 11) : ∀ y ∈ wordsE e, wordOk y = true := by
  intro y hy
  rcases List.mem_cons.1 hy with rfl | hy
  · obtain ⟨m, hm⟩ := Int.eq_ofNat_of_zero_le (show 0 ≤ e.Kind by omega)
    rw [hm, kEv_in (by omega) (by omega)]
    exact evAt_word (by omega) (by omega)
  · rcases List.mem_append.1 hy with hy | hy
    · unfold numsW at hy
      rcases List.mem_append.1 hy with hy | hy
      · rcases List.mem_append.1 hy with hy | hy
        · exact numW_ok _ _ y hy
        · exact numW_ok _ _ y hy
      · exact numW_ok _ _ y hy
    · exact cmdW_ok e y hy
theorem lineE_words (h : EvOk e) : wordsL (lineE e) = some (wordsE e) := wordsL_join (wordsE_ok h.1)
/-- A line of words, the last of which are joined to one. -/
theorem join_nest (y : List UInt8) (ys zs : List (List UInt8)) (hz : zs ≠ []) : joinL [32] (y :: (ys ++ [joinL [32] zs])) = joinL [32] (y :: (ys ++ zs)) := by
  cases zs with
  | nil => exact absurd rfl hz
  | cons z zs => simp [joinL]
theorem d1 : digits 10 (1 : Int).toNat = [49] := by decide +kernel
/-- The words of a call's command. -/
theorem wordsT_own {c : ApiCmd} (h : kOwn c.Kind = true) : ∃ t, wordsT (seq1 c) 6 = kname c.Kind :: digits 10 c.Client.toNat :: [49] :: quote c.Key :: t := by
  obtain ⟨t, ht⟩ := wordsT_pre (seq1 c) 3 3
  have e3 : wordsT (seq1 c) 3 = [kname c.Kind, digits 10 c.Client.toNat, [49], quote c.Key] := by
    have n0 : need (seq1 c).Kind 0 = true := h
    have n1 : need (seq1 c).Kind 1 = true := h
    have n2 : need (seq1 c).Kind 2 = true := h
    have w1 : wordI (seq1 c) 1 = [49] := d1
    rw [wordsT, if_pos n2, wordsT, if_pos n1, wordsT, if_pos n0, wordsT, w1]
    rfl
  rw [e3] at ht
  exact ⟨t, ht⟩
theorem calW_back {c : ApiCmd} (h : kOwn c.Kind = true) : 2 < (calW c).length ∧ (calW c).take 2 ++ [49] :: (calW c).drop 2 = wordsT (seq1 c) 6 := by
  obtain ⟨t, ht⟩ := wordsT_own h
  unfold calW
  rw [ht]
  simp
end Go.Chg
