/-
  Digits of numbers; shifting by a number; arrays of the call's own behind a pointer. Of whatever program.
-/
import Derived.Test.YtlapfdcocakloaaDoorBits
import Derived.Test.YtlapfdcocakloaaDoorStd2
set_option linter.unusedVariables false
namespace Go.Vc
open Go.RowKit (Below)
variable {α β : Type} {P : Program} {w : World}

/-- A digit, 0 to 9 and a to z. -/
def dig (n : Nat) : UInt8 := if n < 10 then b8 (48 + n) else b8 (87 + n)
/-- The last k digits of a number. -/
def digK (b : Nat) : Nat → Nat → List UInt8
  | 0, _ => []
  | k + 1, n => digK b k (n / b) ++ [dig (n % b)]
theorem digK_len (b : Nat) : ∀ (k n : Nat), (digK b k n).length = k
  | 0, _ => rfl
  | k + 1, n => by simp [digK, digK_len b k]
theorem digK_drop (b : Nat) : ∀ (k j n : Nat), (digK b (j + k) n).drop j = digK b k n
  | 0, j, n => List.drop_of_length_le (by rw [digK_len]; omega)
  | k + 1, j, n => by
    rw [show j + (k + 1) = (j + k) + 1 from rfl]
    simp only [digK]
    rw [List.drop_append_of_le_length (by rw [digK_len]; omega), digK_drop b k j]
theorem digK_mod (b : Nat) : ∀ (k n : Nat), digK b k (n % b ^ k) = digK b k n
  | 0, _ => rfl
  | k + 1, n => by
    simp only [digK]
    have h1 : n % b ^ (k + 1) / b = n / b % b ^ k := by rw [Nat.pow_succ, Nat.mul_comm, Nat.mod_mul_right_div_self]
    have h2 : n % b ^ (k + 1) % b = n % b := by rw [Nat.pow_succ, Nat.mul_comm]; exact Nat.mod_mul_right_mod _ _ _
    rw [h1, h2, digK_mod b k]
/-- A number's digits. -/
def digits (b : Nat) (n : Nat) : List UInt8 := if h : n < b ∨ b < 2 then [dig n] else digits b (n / b) ++ [dig (n % b)]
termination_by n
decreasing_by exact Nat.div_lt_self (by omega) (by omega)
theorem digits_small {b n : Nat} (h : n < b) : digits b n = [dig n] := by rw [digits, dif_pos (.inl h)]
theorem digits_big {b n : Nat} (hb : 2 ≤ b) (h : ¬ n < b) : digits b n = digits b (n / b) ++ [dig (n % b)] := by rw [digits, dif_neg (by omega)]
theorem digits_K {b : Nat} (hb : 2 ≤ b) : ∀ (k n : Nat), b ^ k ≤ n → n < b ^ (k + 1) → digits b n = digK b (k + 1) n
  | 0, n, _, h => by
    rw [digits_small (by simpa using h)]
    simp only [digK]
    rw [Nat.mod_eq_of_lt (by simpa using h)]
    rfl
  | k + 1, n, h1, h2 => by
    have hbig : ¬ n < b := by
      have : b ≤ b ^ (k + 1) := Nat.le_self_pow (by omega) b
      omega
    rw [digits_big hb hbig, digits_K hb k (n / b) ((Nat.le_div_iff_mul_le (by omega)).2 (by rw [← Nat.pow_succ]; exact h1)) (Nat.div_lt_of_lt_mul (by rw [Nat.mul_comm, ← Nat.pow_succ]; exact h2))]
    rfl

theorem shr_rd {t : TypeId} {x y : Operand} {k k2 : IntKind} {a b : Int} {K : Int → Prop} (hb : 0 ≤ b) (hK : K (shR k a b)) : opRd P (binSem .shr t x y (.int k a) (.int k2 b)) (Value.int k) K w := by
  refine ⟨_, ?_, hK⟩
  unfold binSem
  have hg : (eqGuard .shr t x y (.int k a) (.int k2 b)).run P w = .ok () w := by simp [eqGuard]
  rw [Sem.run_bind, hg, Result.andThen_ok]
  show (Op.shift .shr k a k2 b).run P w = _
  unfold Op.shift
  rw [if_neg (by omega)]
  rfl
theorem quo_rd {t : TypeId} {x y : Operand} {k : IntKind} {a b : Int} {K : Int → Prop} (hb : b ≠ 0) (hK : K (k.wrap (Int.tdiv a b))) : opRd P (binSem .quo t x y (.int k a) (.int k b)) (Value.int k) K w := by
  refine ⟨_, ?_, hK⟩
  unfold binSem
  have hg : (eqGuard .quo t x y (.int k a) (.int k b)).run P w = .ok () w := by simp [eqGuard]
  rw [Sem.run_bind, hg, Result.andThen_ok]
  simp [binOp, Op.intDiv, hb]

/-! ### An array of the call's own, behind a pointer -/
theorem Obj.row {a : Addr} {cs : List Value} (h : Obj w a cs) : RowAt w a.block cs := by
  obtain ⟨_, _, T, hT⟩ := h
  exact ⟨T, (0, 0), by simpa using hT, .inl rfl⟩
theorem ar_sub_l {t z n : Nat} {a : Addr} {i : Int} {k : IntKind} (m : Nat) (ht : arOf P t = some (n, z)) (hi : i = (m : Int)) (hm : m ≤ n) :
    (Instr.sliceAt t (.pointer (some a)) (some (.int k i)) none none).run P w = .ok (Sl.val ⟨some (if n = m then a else a.add (m * z)), n - m, n - m⟩) w := by
  obtain ⟨e, he, hz⟩ := arOf_spec ht
  subst hi
  have ha : P.arrayLen t = n := by simp [Program.arrayLen, he]
  have hel : P.elem t = e := by simp [Program.elem, he]
  rw [run_sliceAt_array_l w t a (by rw [ha, hel]; exact he) k (m : Int) (by omega) (by rw [ha]; omega), hel, run_size hz, ha]
  simp [slicedAt, Sl.val, Result.andThen]
theorem ar_sub_h {t z n : Nat} {a : Addr} {j : Int} {k : IntKind} (m : Nat) (ht : arOf P t = some (n, z)) (hj : j = (m : Int)) (hm : m ≤ n) :
    (Instr.sliceAt t (.pointer (some a)) none (some (.int k j)) none).run P w = .ok (Sl.val ⟨some (if n = 0 then a else a.add 0), m, n⟩) w := by
  obtain ⟨e, he, hz⟩ := arOf_spec ht
  subst hj
  have ha : P.arrayLen t = n := by simp [Program.arrayLen, he]
  have hel : P.elem t = e := by simp [Program.elem, he]
  rw [run_sliceAt_array_h w t a (by rw [ha, hel]; exact he) k (m : Int) (by omega) (by rw [ha]; omega), hel, run_size hz, ha]
  simp [slicedAt, Sl.val, Result.andThen]
/-- A piece of an array of bytes, read as a list. -/
theorem Obj.bytes {a : Addr} {cs : List Value} (h : Obj w a cs) {m n : Nat} {l : List UInt8} (hn : cs.length = n) (hm : m + l.length = n) (hsm : n ≤ 9223372036854775807) (hc : cs.drop m = l.flatMap eB.cs) :
    IsSl eB w ⟨some (if n = m then a else a.add (m * 1)), n - m, n - m⟩ l := by
  have hrow := h.row
  obtain ⟨h1, h2, _⟩ := h
  refine ⟨by dsimp only; omega, Nat.le_refl _, by dsimp only; omega, ?_, fun e => by cases e⟩
  by_cases h0 : l = []
  · exact .inl h0
  · have := List.length_pos_iff.2 h0
    refine .inr ⟨a.block, m, ?_, hrow.lt, ?_⟩
    · dsimp only
      rw [if_neg (by omega), addr_off a h1, h2]
      simp
    · have := hrow.cells m l.length
      rw [hc, List.take_of_length_le (by rw [eB.length_flat]; simp [eB])] at this
      exact this

/-- []byte("..."), a literal's bytes. -/
theorem mark_ty {t : TypeId} {g : Nat} {s : Sl} {l : List UInt8} {K : Sl → World → Prop} (ht : u8SlT P t = true) (h : LitSl eB w g s l)
    (hK : ∀ w', IsSl eB w' s l → w.grownBy w' (some g) → K s w') : opTy P (convert t t s.val) Sl.val K w := by
  obtain ⟨e, h2, h3⟩ := u8SlT_spec ht
  obtain ⟨T, hT⟩ := h.blk
  have hsm := h.small
  have es := h.eq
  have hlt := (Array.getElem?_eq_some_iff.1 hT).1
  have hcs : (l.flatMap eB.cs).toArray.size = l.length := by rw [List.size_toArray, eB.length_flat]; simp [eB]
  let w3 : World := { w with heap := w.heap.setIfInBounds g (.cells (l.flatMap eB.cs).toArray T (l.length, l.length + 1)) }
  have hmk : (markStringish ⟨g, 0, none⟩).run P w = .ok () w3 := by
    unfold markStringish
    rw [Sem.run_bind]
    have : (shape g).run P w = .ok (some (T, l.length)) w := by
      simp [shape, Sem.run, World.shape?, hT]
      simpa using hcs
    rw [this, Result.andThen_ok]
    simp only [freeze, Sem.run, World.freeze]
    congr 1
    simp only [w3]
    rw [if_neg (by decide)]
    congr 1
    apply Array.ext_getElem?
    intro i
    rw [Array.getElem?_modify, Array.getElem?_setIfInBounds]
    by_cases hi : g = i
    · subst hi
      rw [if_pos rfl, hT, if_pos rfl, if_pos hlt]
      simp
    · rw [if_neg hi, if_neg hi]
  refine ⟨s, w3, ?_, hK w3 ?_ ⟨rfl, rfl, rfl, by simp [w3], fun k hk hne => ?_⟩⟩
  · rw [es]
    unfold convert
    rw [Sem.run_bind, run_und h2, Result.andThen_ok, Sem.run_bind, run_und h2, Result.andThen_ok]
    simp only [Sl.val]
    rw [Sem.run_bind, run_und h3, Result.andThen_ok]
    simp only [beq_self_eq_true]
    rw [Sem.run_bind, hmk, Result.andThen_ok, Sem.run_pure]
  · rw [es]
    refine ⟨rfl, Nat.le_refl _, by dsimp only; omega, .inr ⟨g, 0, rfl, by simpa [w3] using hlt, fun j v hj => ?_⟩, fun e => by cases e⟩
    simp only [World.cell?, w3, Array.getElem?_setIfInBounds, if_true, hlt, Nat.zero_add]
    simpa using hj
  · simp only [w3, Array.getElem?_setIfInBounds]
    rw [if_neg (fun e => hne (by rw [e]))]
end Go.Vc
