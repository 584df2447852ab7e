/-
  Letters, in plain Lean: how long a message's bytes are at the most, and the frame around them.
-/
import Derived.Test.YthofeajlmgecmaaGreatDoorMF
import Derived.Test.YthofeajlmgecmaaGreatDoorFrmL
set_option maxRecDepth 20000
set_option linter.unusedVariables false
namespace Go.Chg
open Go.Vc
variable {m : ApiMsg} {xs : List ApiEntry} {img : List UInt8} {v : Int}
theorem part_le57 {c : ApiCmd} (h : CmdOk c) (i : Nat) : (partB c i).length ≤ 57 := by
  obtain ⟨a, b⟩ := cmdOk_sizes h
  obtain ⟨_, _, _, h4, h5, h6⟩ := cmdOk_num h
  unfold partB
  split
  · rename_i n hn
    have := enc_len9 (numI_le a hn)
    omega
  · have ht : (txtI c i).length ≤ 48 := by
      match i with
      | 0 => simp [txtI]
      | 1 => simp [txtI]
      | 2 => show c.Key.length ≤ 48; omega
      | 3 => exact h6
      | 4 => exact h5
      | n + 5 => simp [txtI]
    have h9 := enc_len9 (n := ((txtI c i).length : Int)) (by omega)
    rw [Int.toNat_natCast] at h9
    rw [List.length_append]
    omega
theorem cmdT_le {c : ApiCmd} (h : CmdOk c) : ∀ i, (cmdT v c i).length ≤ 9 + 57 * i
  | 0 => by have := enc_len9 (cmdOk_sizes h).1.1; simpa [cmdT] using this
  | i + 1 => by
    have := cmdT_le h i
    have := part_le57 h i
    simp only [cmdT, List.length_append]
    split
    · omega
    · simp only [List.length_nil]; omega
theorem cmdB_le {c : ApiCmd} (h : CmdOk c) : (cmdB v c).length ≤ 351 := cmdT_le h 6
theorem ent_le378 {x : ApiEntry} (h : EIdx x ∧ CmdOk x.Cmd) : (entB v x).length ≤ 378 := by
  obtain ⟨h1, h2, h3, _⟩ := entOk_num h
  have := cmdB_le (v := v) h.2
  have e1 := enc_len9 h1
  have e2 := enc_len9 h2
  have e3 := enc_len9 h3
  unfold entB
  simp only [List.length_append]
  omega
theorem ents_le (hok : MsgOk m xs img.length) (h40 : xs.length ≤ 40) : (entsB v xs).length ≤ 15129 := by
  have b := flat_le (xs := xs) (B := entB v) (m := 378) fun x hx => ent_le378 (hok.each x hx)
  have c : xs.length * 378 ≤ 40 * 378 := Nat.mul_le_mul_right _ h40
  have e := enc_len9 (n := (xs.length : Int)) (by omega)
  rw [Int.toNat_natCast] at e
  unfold entsB
  rw [List.length_append]
  omega
/-- A message that is small has few bytes, in either version. -/
theorem msg1B_small (hok : MsgOk m xs img.length) (h40 : xs.length ≤ 40) : (msg1B m xs img).length ≤ 60000 := by
  have a := flat_le (xs := numsL m) (B := encI) (m := 9) fun n hn => encI_len (nums_le hok n hn).2
  have a7 : (numsL m).length = 7 := rfl
  have b := ents_le (v := 1) hok h40
  have hi := hok.img
  have d := enc_len9 (n := (img.length : Int)) (by omega)
  rw [Int.toNat_natCast] at d
  unfold msg1B
  simp only [List.length_append]
  omega
theorem pc_le (hok : MsgOk m xs img.length) (h40 : xs.length ≤ 40) : ∀ x ∈ piecesK m.Kind, (pcB m xs img x).length ≤ 15129 ∨ x = .image := fun x hx => by
  cases x with
  | num off =>
    left
    have h9 : (encI (fldAt m off)).length ≤ 9 := encI_len (by
      obtain ⟨a, b, c, d, e, g⟩ := hok.nums
      have hk := hok.kind
      have hv : m.Version ≤ 9223372036854775807 := by omega
      unfold fldAt
      split <;> omega)
    show (encI (fldAt m off)).length ≤ 15129
    omega
  | ents => exact .inl (ents_le hok h40)
  | single =>
    left
    show (match xs with | x :: _ => encI x.Index ++ cmdB 2 x.Cmd | [] => []).length ≤ 15129
    split
    · rename_i x r
      have hx := hok.each x (List.mem_cons_self ..)
      have h1 := cmdB_le (v := 2) hx.2
      have h2 : (encI x.Index).length ≤ 9 := encI_len (by have := hx.1.1; omega)
      rw [List.length_append]
      omega
    · simp
  | image => exact .inr rfl
theorem msg2B_small (hok : MsgOk m xs img.length) (h40 : xs.length ≤ 40) : (msg2B m xs img).length ≤ 60000 := by
  have a1 : (encI m.Kind).length ≤ 9 := encI_len (by have := hok.kind; omega)
  have a2 : (encI m.From).length ≤ 9 := encI_len (by have := hok.nums.1; omega)
  have a3 : (encI m.To).length ≤ 9 := encI_len (by have := hok.nums.2.1; omega)
  have key : ((piecesK m.Kind).flatMap (pcB m xs img)).length ≤ 59000 := by
    have hp := pc_le hok h40
    have hl := piecesK_len m.Kind
    by_cases hk : m.Kind = 11
    · have hi := hok.img
      have d := enc_len9 (n := (img.length : Int)) (by omega)
      rw [Int.toNat_natCast] at d
      rw [show piecesK m.Kind = [.image] from by rw [hk]; rfl]
      simp only [List.flatMap_cons, List.flatMap_nil, List.append_nil]
      show (enc img.length ++ img).length ≤ 59000
      rw [List.length_append]
      omega
    · have hno : ∀ x ∈ piecesK m.Kind, x ≠ Pc.image := by
        unfold piecesK
        intro x hx e
        subst e
        repeat' split at hx
        all_goals simp at hx
      have few : (piecesK m.Kind).length ≤ 3 ∨ ((piecesK m.Kind).flatMap (pcB m xs img)).length ≤ 59000 := by
        by_cases h4 : m.Kind = 4
        · right
          have e : piecesK m.Kind = [.num 3, .num 4, .num 5, .num 6, .ents] := by rw [h4]; rfl
          have n9 : ∀ off, Pc.num off ∈ piecesK m.Kind → (encI (fldAt m off)).length ≤ 9 := fun off _ => encI_len (by
            obtain ⟨a, b, c, d, e, g⟩ := hok.nums
            have hv : m.Version ≤ 9223372036854775807 := by omega
            unfold fldAt
            split <;> omega)
          have e3 := n9 3 (by rw [e]; simp)
          have e4 := n9 4 (by rw [e]; simp)
          have e5 := n9 5 (by rw [e]; simp)
          have e6 := n9 6 (by rw [e]; simp)
          have ee := ents_le (v := 2) hok h40
          rw [e]
          simp only [List.flatMap_cons, List.flatMap_nil, List.append_nil, List.length_append]
          show (encI (fldAt m 3)).length + ((encI (fldAt m 4)).length + ((encI (fldAt m 5)).length + ((encI (fldAt m 6)).length + (entsB 2 xs).length))) ≤ 59000
          omega
        · left
          unfold piecesK
          repeat' split
          all_goals first | decide | omega
      rcases few with few | few
      · have := flat_le (xs := piecesK m.Kind) (B := pcB m xs img) (m := 15129) fun x hx => (hp x hx).resolve_right (hno x hx)
        have : (piecesK m.Kind).length * 15129 ≤ 3 * 15129 := Nat.mul_le_mul_right _ few
        omega
      · exact few
  unfold msg2B
  simp only [List.length_append]
  omega
/-- A message's bytes in a version, and its letter. -/
def msgVB (v : Int) (m : ApiMsg) (xs : List ApiEntry) (img : List UInt8) : List UInt8 := if v = 1 then msg1B m xs img else msg2B m xs img
def bodyB (v : Int) (m : ApiMsg) (xs : List ApiEntry) (img : List UInt8) : List UInt8 := b8 v.toNat :: msgVB v m xs img
def letterB (v : Int) (m : ApiMsg) (xs : List ApiEntry) (img : List UInt8) : List UInt8 := frameB (bodyB v m xs img)
theorem body_small (hok : MsgOk m xs img.length) (h40 : xs.length ≤ 40) : 1 ≤ (bodyB v m xs img).length ∧ (bodyB v m xs img).length ≤ 65536 := by
  have h1 := msg1B_small hok h40
  have h2 := msg2B_small hok h40
  unfold bodyB msgVB
  rw [List.length_cons]
  split <;> omega
/-- What is wrong with a message in a version. -/
def TagE (v : Int) (m : ApiMsg) (xs : List ApiEntry) (il : Nat) (e : Int) : Prop :=
  ((v < 1 ∨ 2 < v) ∧ e = 8) ∨ (v = 1 ∧ OlderE m xs il e) ∨ (v = 2 ∧ e = msgE m xs il)
theorem TagE.uniq {il : Nat} {e f : Int} (h : TagE v m xs il e) (k : TagE v m xs il f) : e = f := by
  rcases h with ⟨h1, h2⟩ | ⟨h1, h2⟩ | ⟨h1, h2⟩ <;> rcases k with ⟨k1, k2⟩ | ⟨k1, k2⟩ | ⟨k1, k2⟩
  · rw [h2, k2]
  · omega
  · omega
  · omega
  · exact h2.uniq k2
  · omega
  · omega
  · omega
  · rw [h2, k2]
theorem TagE.ok {il : Nat} {e : Int} (h : TagE v m xs il e) (h0 : e = 0) : (v = 1 ∨ v = 2) ∧ MsgOk m xs il ∧ (v = 1 → Old m xs) := by
  subst h0
  rcases h with ⟨_, h2⟩ | ⟨h1, h2⟩ | ⟨h1, h2⟩
  · cases h2
  · rcases h2 with ⟨a, b⟩ | ⟨_, _, b⟩ | ⟨a, b, _⟩
    · exact absurd b.symm a
    · cases b
    · exact ⟨.inl h1, a, fun _ => b⟩
  · exact ⟨.inr h1, msgE_ok.1 h2.symm, fun e => by omega⟩
theorem tagE_of {il : Nat} (hv : v = 1 ∨ v = 2) (hok : MsgOk m xs il) (hold : v = 1 → Old m xs) : TagE v m xs il 0 := by
  rcases hv with h | h
  · exact .inr (.inl ⟨h, .inr (.inr ⟨hok, hold h, rfl⟩)⟩)
  · exact .inr (.inr ⟨h, (msgE_ok.2 hok).symm⟩)
end Go.Chg
