/-
  Frames, in plain Lean: a length, the bytes, and their sum.
-/
import Derived.Test.YthofeajlmgecmaaGreatDoorMB
import Derived.Test.YthofeajlmgecmaaGreatDoorCrc
set_option linter.unusedVariables false
namespace Go.Chg
open Go.Vc
/-- A sum as four bytes, the least first. -/
def le4 (n : Nat) : List UInt8 := [b8 (n % 256), b8 (n / 256 % 256), b8 (n / 65536 % 256), b8 (n / 16777216 % 256)]
def sumN (l : List UInt8) : Nat := (~~~ regOf (BitVec.allOnes 32) l).toNat
def frameB (l : List UInt8) : List UInt8 := enc l.length ++ l ++ le4 (sumN l)
theorem le4_len (n : Nat) : (le4 n).length = 4 := rfl
def mid (l : List UInt8) (p n : Nat) : List UInt8 := (l.drop p).take n
theorem mid_len {l : List UInt8} {p n : Nat} (h : p + n ≤ l.length) : (mid l p n).length = n := by unfold mid; rw [List.length_take, List.length_drop]; omega
/-- The frame at a place. -/
def nextF (l : List UInt8) (p : Int) : List UInt8 × Int × Int :=
  if (getL l p).2.2 ≠ 0 then ([], 0, (getL l p).2.2) else if (getL l p).1 = 0 then ([], 0, 3) else if 65536 < (getL l p).1 then ([], 0, 2) else
  if (l.length : Int) < (getL l p).2.1 + (getL l p).1 + 4 then ([], 0, 1) else
  if mid l ((getL l p).2.1 + (getL l p).1).toNat 4 ≠ le4 (sumN (mid l (getL l p).2.1.toNat (getL l p).1.toNat)) then ([], 0, 4) else
  (mid l (getL l p).2.1.toNat (getL l p).1.toNat, (getL l p).2.1 + (getL l p).1 + 4, 0)
section
variable {l : List UInt8} {p : Int}
theorem nextF_e (h : (getL l p).2.2 ≠ 0) : nextF l p = ([], 0, (getL l p).2.2) := by unfold nextF; rw [if_pos h]
theorem nextF_3 (h : (getL l p).2.2 = 0) (h1 : (getL l p).1 = 0) : nextF l p = ([], 0, 3) := by unfold nextF; rw [if_neg (not_not_intro h), if_pos h1]
theorem nextF_2 (h : (getL l p).2.2 = 0) (h1 : (getL l p).1 ≠ 0) (h2 : 65536 < (getL l p).1) : nextF l p = ([], 0, 2) := by unfold nextF; rw [if_neg (not_not_intro h), if_neg h1, if_pos h2]
theorem nextF_1 (h : (getL l p).2.2 = 0) (h1 : (getL l p).1 ≠ 0) (h2 : ¬ 65536 < (getL l p).1) (h3 : (l.length : Int) < (getL l p).2.1 + (getL l p).1 + 4) : nextF l p = ([], 0, 1) := by
  unfold nextF; rw [if_neg (not_not_intro h), if_neg h1, if_neg h2, if_pos h3]
theorem nextF_4 (h : (getL l p).2.2 = 0) (h1 : (getL l p).1 ≠ 0) (h2 : ¬ 65536 < (getL l p).1) (h3 : ¬ (l.length : Int) < (getL l p).2.1 + (getL l p).1 + 4)
    (h4 : mid l ((getL l p).2.1 + (getL l p).1).toNat 4 ≠ le4 (sumN (mid l (getL l p).2.1.toNat (getL l p).1.toNat))) : nextF l p = ([], 0, 4) := by
  unfold nextF; rw [if_neg (not_not_intro h), if_neg h1, if_neg h2, if_neg h3, if_pos h4]
theorem nextF_0 (h : (getL l p).2.2 = 0) (h1 : (getL l p).1 ≠ 0) (h2 : ¬ 65536 < (getL l p).1) (h3 : ¬ (l.length : Int) < (getL l p).2.1 + (getL l p).1 + 4)
    (h4 : mid l ((getL l p).2.1 + (getL l p).1).toNat 4 = le4 (sumN (mid l (getL l p).2.1.toNat (getL l p).1.toNat))) : nextF l p = (mid l (getL l p).2.1.toNat (getL l p).1.toNat, (getL l p).2.1 + (getL l p).1 + 4, 0) := by
  unfold nextF; rw [if_neg (not_not_intro h), if_neg h1, if_neg h2, if_neg h3, if_neg (not_not_intro h4)]
/-- The bytes of a frame are cut out of the row just where its number says. -/
theorem frame_mid (h : (getL l p).2.2 = 0) (h3 : ¬ (l.length : Int) < (getL l p).2.1 + (getL l p).1 + 4) :
    0 ≤ p ∧ p ≤ (getL l p).2.1 ∧ mid l p.toNat ((getL l p).2.1 + (getL l p).1 + 4 - p).toNat = enc (getL l p).1.toNat ++ mid l (getL l p).2.1.toNat (getL l p).1.toNat ++ mid l ((getL l p).2.1 + (getL l p).1).toNat 4 := by
  obtain ⟨m, h1, h2, t⟩ := getL_inv h
  have e1 := t.len
  have e2 := t.nonneg
  have e3 := t.bytes
  refine ⟨e2, by omega, ?_⟩
  rw [h1] at h3 ⊢
  generalize (getL l p).2.1 = q at *
  unfold mid
  rw [e3, List.take_append, List.take_of_length_le (by omega), Int.toNat_natCast, List.append_assoc]
  congr 1
  rw [show (q + (m : Int) + 4 - p).toNat - (enc m).length = m + 4 from by omega, List.take_add, List.drop_drop, show (q + (m : Int)).toNat = q.toNat + m from by omega]
theorem frame_same (h : (getL l p).2.2 = 0) (h3 : ¬ (l.length : Int) < (getL l p).2.1 + (getL l p).1 + 4) :
    frameB (mid l (getL l p).2.1.toNat (getL l p).1.toNat) = mid l p.toNat ((getL l p).2.1 + (getL l p).1 + 4 - p).toNat ↔ mid l ((getL l p).2.1 + (getL l p).1).toNat 4 = le4 (sumN (mid l (getL l p).2.1.toNat (getL l p).1.toNat)) := by
  have hp := getL_pos l p
  have hn := getL_num l p
  have hlen : (mid l (getL l p).2.1.toNat (getL l p).1.toNat).length = (getL l p).1.toNat := mid_len (by omega)
  rw [(frame_mid h h3).2.2]
  unfold frameB
  rw [hlen, List.append_cancel_left_eq]
  exact eq_comm
theorem nextF_ok (h : (nextF l p).2.2 = 0) : ∃ n : Nat, (nextF l p).1.length = n ∧ 1 ≤ n ∧ n ≤ 65536 ∧ (nextF l p).2.1 ≤ l.length ∧ 0 ≤ p ∧ p ≤ (nextF l p).2.1 ∧ mid l p.toNat ((nextF l p).2.1 - p).toNat = frameB (nextF l p).1 := by
  by_cases h0 : (getL l p).2.2 = 0
  rotate_left
  · rw [nextF_e h0] at h; exact absurd h h0
  by_cases h1 : (getL l p).1 = 0
  · rw [nextF_3 h0 h1] at h; cases h
  by_cases h2 : 65536 < (getL l p).1
  · rw [nextF_2 h0 h1 h2] at h; cases h
  by_cases h3 : (l.length : Int) < (getL l p).2.1 + (getL l p).1 + 4
  · rw [nextF_1 h0 h1 h2 h3] at h; cases h
  by_cases h4 : mid l ((getL l p).2.1 + (getL l p).1).toNat 4 = le4 (sumN (mid l (getL l p).2.1.toNat (getL l p).1.toNat))
  rotate_left
  · rw [nextF_4 h0 h1 h2 h3 h4] at h; cases h
  rw [nextF_0 h0 h1 h2 h3 h4]
  have hp := getL_pos l p
  have hn := getL_num l p
  obtain ⟨g1, g2, _⟩ := frame_mid h0 h3
  exact ⟨(getL l p).1.toNat, mid_len (by omega), by omega, by omega, by dsimp only; omega, g1, by dsimp only; omega, ((frame_same h0 h3).2 h4).symm⟩
theorem nextF_bad (h : (nextF l p).2.2 ≠ 0) : (nextF l p).1 = [] ∧ (nextF l p).2.1 = 0 := by
  unfold nextF at h ⊢
  repeat' split
  all_goals first | exact ⟨rfl, rfl⟩ | skip
  rename_i h0 h1 h2 h3 h4
  rw [if_neg h0, if_neg h1, if_neg h2, if_neg h3, if_neg h4] at h
  exact absurd rfl h
end
/-- A whole row that is one frame. -/
theorem nextF_whole {l : List UInt8} (h : (nextF l 0).2.2 = 0) (h2 : ¬ (nextF l 0).2.1 < l.length) : l = frameB (nextF l 0).1 := by
  obtain ⟨n, _, _, _, h5, _, _, h7⟩ := nextF_ok h
  rw [← h7]
  unfold mid
  rw [show ((nextF l 0).2.1 - 0).toNat = l.length from by omega]
  simp
/-- A frame is read as what it is of. -/
theorem nextF_frame {b : List UInt8} (h1 : 1 ≤ b.length) (h2 : b.length ≤ 65536) : nextF (frameB b) 0 = (b, ((frameB b).length : Int), 0) := by
  have hg : getL (frameB b) 0 = ((b.length : Int), ((enc b.length).length : Int), 0) := by
    have := getL_enc (m := (b.length : Int)) (by omega) [] (b ++ le4 (sumN b))
    rw [Int.toNat_natCast, List.nil_append] at this
    unfold frameB
    rw [List.append_assoc]
    simpa using this
  have hl : (frameB b).length = (enc b.length).length + b.length + 4 := by unfold frameB; simp only [List.length_append, le4_len]
  have m1 : mid (frameB b) (enc b.length).length b.length = b := by
    unfold mid frameB
    rw [List.append_assoc, List.drop_left, List.take_left]
  have m2 : mid (frameB b) ((enc b.length).length + b.length) 4 = le4 (sumN b) := by
    unfold mid frameB
    rw [show (enc b.length).length + b.length = (enc b.length ++ b).length from List.length_append.symm, List.drop_left]
    rfl
  have t1 : (((enc b.length).length : Int) + (b.length : Int)).toNat = (enc b.length).length + b.length := by omega
  rw [nextF_0 (by rw [hg]) (by rw [hg]; dsimp only; omega) (by rw [hg]; dsimp only; omega) (by rw [hg, hl]; dsimp only; omega) (by rw [hg]; dsimp only; rw [t1, Int.toNat_natCast, Int.toNat_natCast, m1, m2])]
  rw [hg]
  dsimp only
  rw [Int.toNat_natCast, Int.toNat_natCast, m1, hl]
  simp
end Go.Chg
