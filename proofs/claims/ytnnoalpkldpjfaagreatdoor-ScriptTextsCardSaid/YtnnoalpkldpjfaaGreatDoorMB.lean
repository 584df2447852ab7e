import Derived.Test.YtnnoalpkldpjfaaGreatDoorMA
import Derived.Test.YtnnoalpkldpjfaaGreatDoorMZ
/-
  What a reader took, told by its bytes: both ways. Plain Lean over the words of 'Rdm'.
-/
set_option maxRecDepth 20000
namespace Go.Vc
/-- The bytes of a number: that is how it is read, and nothing else reads as it. -/
theorem getG_inv : ∀ (l : List UInt8) (k : Nat) (n pos : Int), (getG l k n pos).2.2 = 0 →
    ∃ (m : Nat) (r : List UInt8), l = enc m ++ r ∧ getG l k n pos = (n + 128 ^ k * (m : Int), pos + (enc m).length, 0) ∧ (0 < k → 0 < m) ∧ m < 128 ^ (9 - k) ∧ k < 9
  | [], k, n, pos, h => by simp [getG] at h
  | c :: cs, k, n, pos, h => by
    unfold getG at h ⊢
    split at h
    · cases h
    · rename_i h1
      rw [if_neg h1]
      have hk : k < 9 := by omega
      split at h
      · rename_i h2
        rw [if_pos h2]
        have hc : b8 c.toNat = c := by simp [b8]
        have h3 : 128 ^ 1 ≤ 128 ^ (9 - k) := Nat.pow_le_pow_right (by omega) (by omega)
        refine ⟨c.toNat, cs, by rw [enc_small h2, hc]; rfl, by rw [enc_small h2]; simp, fun h0 => ?_, by omega, hk⟩
        have : c ≠ 0 := fun e => h1 (.inl ⟨h0, e⟩)
        have : c.toNat ≠ 0 := fun e => this (UInt8.toNat_inj.1 (by rw [e]; rfl))
        omega
      · rename_i h2
        rw [if_neg h2]
        obtain ⟨m, r, rfl, h4, h5, h6, h7⟩ := getG_inv cs (k + 1) _ (pos + 1) h
        have hm := h5 (by omega)
        have e1 : ¬ (c.toNat % 128 + 128 * m) < 128 := by omega
        have hlt := c.toNat_lt
        have e2 : b8 ((c.toNat % 128 + 128 * m) % 128 + 128) = c := by
          have : (c.toNat % 128 + 128 * m) % 128 + 128 = c.toNat := by omega
          rw [this]; simp [b8]
        have e3 : (c.toNat % 128 + 128 * m) / 128 = m := by omega
        refine ⟨c.toNat % 128 + 128 * m, r, by rw [enc_big e1, e2, e3]; rfl, ?_, fun _ => by omega, ?_, hk⟩
        · rw [h4, enc_big e1, e3]
          simp only [Prod.mk.injEq, List.length_cons, and_true]
          refine ⟨?_, by omega⟩
          have e4 : (128 : Int) ^ (k + 1) = 128 ^ k * 128 := Int.pow_succ 128 k
          rw [e4, Int.add_assoc, Int.mul_assoc, ← Int.mul_add]
          congr 2
        · have : 128 ^ (9 - (k + 1)) * 128 = 128 ^ (9 - k) := by
            rw [← Nat.pow_succ]
            congr 1
            omega
          omega

/-- From one place on these bytes, up to another one. -/
structure Took (l : List UInt8) (p q : Int) (bs : List UInt8) : Prop where
  nonneg : 0 ≤ p
  len : q = p + bs.length
  le : q ≤ l.length
  bytes : l.drop p.toNat = bs ++ l.drop q.toNat
variable {l a b : List UInt8} {p q r : Int}
theorem Took.refl (h : 0 ≤ p) (h2 : p ≤ l.length) : Took l p p [] := ⟨h, by simp, h2, rfl⟩
theorem Took.trans (h : Took l p q a) (k : Took l q r b) : Took l p r (a ++ b) :=
  ⟨h.nonneg, by rw [k.len, h.len, List.length_append]; omega, k.le, by rw [h.bytes, k.bytes, List.append_assoc]⟩
theorem Took.whole (h : Took l 0 q a) (hq : ¬ q < l.length) : l = a := by
  have := h.bytes
  have h2 := h.le
  rw [List.drop_of_length_le (show l.length ≤ q.toNat by omega), List.append_nil] at this
  exact this
theorem Took.all (l : List UInt8) : Took l 0 l.length l := ⟨by omega, by simp, by omega, by simp⟩
/-- A row of bytes, cut where its parts meet. -/
theorem Took.split (h : Took l p r (a ++ b)) : Took l p (p + a.length) a ∧ Took l (p + a.length) r b := by
  have h0 := h.nonneg
  have h1 := h.len
  rw [List.length_append] at h1
  have h2 : l.drop (p + a.length).toNat = b ++ l.drop r.toNat := by
    have e : (p + (a.length : Int)).toNat = p.toNat + a.length := by omega
    rw [e, ← List.drop_drop, h.bytes, List.append_assoc, List.drop_left]
  exact ⟨⟨h0, rfl, by have := h.le; omega, by rw [h.bytes, h2, List.append_assoc]⟩, ⟨by omega, by omega, h.le, h2⟩⟩
end Go.Vc
namespace Go.Chg
open Go.Vc
variable {l : List UInt8} {p q no most : Int}
theorem getL_took {m : Nat} (h : Took l p q (enc m)) (hm : (m : Int) ≤ 9223372036854775807) : getL l p = ((m : Int), q, 0) := by
  have h0 := h.nonneg
  have hq := h.len
  have hle := h.le
  unfold getL
  rw [if_neg (by omega), if_neg (by omega), h.bytes, getG_enc m 0 0 p _ ?_ (by omega) (.inl rfl)]
  · simp [hq]
  · have e : (128 : Nat) ^ (9 - 0) = 9223372036854775808 := by decide
    omega
theorem getL_inv (h : (getL l p).2.2 = 0) : ∃ m : Nat, (getL l p).1 = m ∧ (m : Int) ≤ 9223372036854775807 ∧ Took l p (getL l p).2.1 (enc m) := by
  have hpos := getL_pos l p
  unfold getL at h ⊢
  split at h
  · cases h
  · rename_i h1
    rw [if_neg h1]
    split at h
    · cases h
    · rename_i h2
      rw [if_neg h2]
      unfold getL at hpos
      rw [if_neg h1, if_neg h2] at hpos
      obtain ⟨m, r, h3, h4, _, h6, _⟩ := getG_inv _ _ _ _ h
      rw [h4] at hpos ⊢
      have e : (128 : Nat) ^ (9 - 0) = 9223372036854775808 := by decide
      refine ⟨m, by simp, by omega, by omega, rfl, hpos.2, ?_⟩
      dsimp only at hpos ⊢
      rw [show (p + ((enc m).length : Int)).toNat = p.toNat + (enc m).length from by omega, ← List.drop_drop, h3, List.drop_left]
theorem rdOp_took {α : Type} {z a : α} {f : Int → Int → α × Int × Int} (h : f p 0 = (a, q, 0)) : rdOp z f p 0 = (a, q, 0) := by
  unfold rdOp
  rw [h]
  dsimp only
  rw [if_neg (fun h => h rfl), if_neg (fun h => h rfl)]
theorem rdLim_took {m : Nat} (h : Took l p q (enc m)) (hm : (m : Int) ≤ 9223372036854775807) (hmost : (m : Int) ≤ most) : rdLim l most p 0 = ((m : Int), q, 0) := by
  unfold rdLim
  rw [getL_took h hm]
  dsimp only
  rw [if_neg (fun h => h rfl), if_neg (by omega)]
theorem rdCounted_took {m : Nat} (h : Took l p q (enc m)) (hm : (m : Int) ≤ 9223372036854775807) (hmost : (m : Int) ≤ most) (hfit : q + m ≤ l.length) : rdCounted l most p 0 = ((m : Int), q, 0) := by
  unfold rdCounted
  rw [rdLim_took h hm hmost]
  dsimp only
  rw [if_pos rfl, if_neg (by omega)]
theorem rdNumber_took {m : Nat} (h : Took l p q (enc m)) (hm : (m : Int) ≤ 9223372036854775807) (hmost : (m : Int) ≤ most) : rdNumber l most p 0 = ((m : Int), q, 0) :=
  rdOp_took (rdLim_took h hm hmost)
theorem rdNumber_inv (h : (rdNumber l most p no).2.2 = 0) : no = 0 ∧ ∃ m : Nat, (rdNumber l most p no).1 = m ∧ (m : Int) ≤ most ∧ (m : Int) ≤ 9223372036854775807 ∧ Took l p (rdNumber l most p no).2.1 (enc m) := by
  unfold rdNumber rdOp at h ⊢
  by_cases h0 : no = 0
  · subst h0
    simp only [ne_eq, not_true_eq_false, if_false] at h ⊢
    refine ⟨trivial, ?_⟩
    rw [if_neg (by omega)]
    unfold rdLim at h ⊢
    simp only at h ⊢
    split at h
    · rename_i h2; exact absurd h h2
    · rename_i h2
      split at h
      · cases h
      · rename_i h3
        obtain ⟨m, h4, h5, h6⟩ := getL_inv (by omega : (getL l p).2.2 = 0)
        exact ⟨m, h4, by omega, h5, h6⟩
  · rw [if_pos h0] at h
    exact absurd h h0
theorem rdNumber_bad (h : no ≠ 0) : rdNumber l most p no = (0, p, no) := by
  unfold rdNumber rdOp
  rw [if_pos h]
theorem rdCount_took {m : Nat} (h : Took l p q (enc m)) (hm : (m : Int) ≤ 9223372036854775807) (hmost : (m : Int) ≤ most) (hfit : q + m ≤ l.length) : rdCount l most p 0 = ((m : Int), q, 0) :=
  rdOp_took (rdCounted_took h hm hmost hfit)
theorem rdCount_inv (h : (rdCount l most p no).2.2 = 0) : no = 0 ∧ ∃ m : Nat, (rdCount l most p no).1 = m ∧ (m : Int) ≤ most ∧ (m : Int) ≤ 9223372036854775807 ∧ Took l p (rdCount l most p no).2.1 (enc m) ∧ (rdCount l most p no).2.1 + m ≤ l.length := by
  unfold rdCount rdOp at h ⊢
  by_cases h0 : no = 0
  · subst h0
    simp only [ne_eq, not_true_eq_false, if_false] at h ⊢
    refine ⟨trivial, ?_⟩
    rw [if_neg (by omega)]
    have h1 : (rdLim l most p 0).2.2 = 0 := by
      unfold rdCounted at h
      simp only at h
      split at h
      · assumption
      · rename_i hn; exact absurd h hn
    have h2 : (rdLim l most p 0).2.1 + (rdLim l most p 0).1 ≤ l.length := by
      unfold rdCounted at h
      simp only [h1, if_true] at h
      split at h
      · cases h
      · omega
    unfold rdCounted
    simp only
    have hn : (rdNumber l most p 0) = rdLim l most p 0 := by
      unfold rdNumber
      exact rdOp_ok rfl h1
    obtain ⟨_, m, h4, h5, h6, h7⟩ := rdNumber_inv (l := l) (most := most) (p := p) (no := 0) (by rw [hn]; exact h1)
    rw [hn] at h4 h7
    exact ⟨m, h4, h5, h6, h7, by omega⟩
  · rw [if_pos h0] at h
    exact absurd h h0
theorem rdCount_bad (h : no ≠ 0) : rdCount l most p no = (0, p, no) := by
  unfold rdCount rdOp
  rw [if_pos h]
/-- A count that failed is none. -/
theorem rdCount_zero (h : (rdCount l most p no).2.2 ≠ 0) : (rdCount l most p no).1 = 0 := by
  unfold rdCount rdOp at h ⊢
  by_cases h0 : no = 0
  · rw [if_neg (by omega)] at h ⊢
    simp only at h ⊢
    rw [if_pos h]
  · rw [if_pos h0]
theorem rdText_took {x : List UInt8} (h : Took l p q (enc x.length ++ x)) (hx : (x.length : Int) ≤ 9223372036854775807) (hm : (x.length : Int) ≤ most) : rdText l most p 0 = (x, q, 0) := by
  obtain ⟨h1, h2⟩ := h.split
  have h0 := h2.nonneg
  have hq := h2.len
  have hle := h2.le
  have h3 := rdCounted_took (most := most) h1 hx hm (by omega)
  refine rdOp_took ?_
  unfold rdRaw
  rw [h3]
  dsimp only
  rw [if_neg (fun h => h rfl), h2.bytes, Int.toNat_natCast, List.take_left, hq]
theorem rdText_inv (h : (rdText l most p no).2.2 = 0) : no = 0 ∧ ((rdText l most p no).1.length : Int) ≤ most ∧ ((rdText l most p no).1.length : Int) ≤ 9223372036854775807 ∧ Took l p (rdText l most p no).2.1 (enc (rdText l most p no).1.length ++ (rdText l most p no).1) := by
  unfold rdText rdOp at h ⊢
  by_cases h0 : no = 0
  · subst h0
    simp only [ne_eq, not_true_eq_false, if_false] at h ⊢
    refine ⟨trivial, ?_⟩
    rw [if_neg (by omega)]
    have h1 : (rdCounted l most p 0).2.2 = 0 := by
      unfold rdRaw at h
      split at h
      · rename_i hn; exact absurd h hn
      · rename_i hn; omega
    have hn : rdCount l most p 0 = rdCounted l most p 0 := by
      unfold rdCount
      exact rdOp_ok rfl h1
    obtain ⟨_, m, h4, h5, h6, h7, h8⟩ := rdCount_inv (l := l) (most := most) (p := p) (no := 0) (by rw [hn]; exact h1)
    rw [hn] at h4 h7 h8
    have hraw : rdRaw l most p 0 = ((l.drop (rdCounted l most p 0).2.1.toNat).take m, (rdCounted l most p 0).2.1 + m, 0) := by
      unfold rdRaw
      rw [if_neg (by omega), h4, Int.toNat_natCast]
    rw [hraw]
    have hq := h7.len
    have hn0 := h7.nonneg
    have hlen : ((l.drop (rdCounted l most p 0).2.1.toNat).take m).length = m := by
      rw [List.length_take, List.length_drop]
      omega
    dsimp only
    rw [hlen]
    refine ⟨h5, h6, h7.trans ⟨by omega, by rw [hlen], by omega, ?_⟩⟩
    rw [show ((rdCounted l most p 0).2.1 + (m : Int)).toNat = (rdCounted l most p 0).2.1.toNat + m from by omega, ← List.drop_drop, List.take_append_drop]
  · rw [if_pos h0] at h
    exact absurd h h0
theorem rdText_bad (h : no ≠ 0) : rdText l most p no = ([], p, no) := by
  unfold rdText rdOp
  rw [if_pos h]
theorem rdBool_took {b : Bool} (h : Took l p q (enc (flagN b))) : rdBool l p 0 = (b, q, 0) := by
  have e1 : l.drop p.toNat = b8 (flagN b) :: l.drop q.toNat := by
    rw [h.bytes, enc_small (by cases b <;> decide)]
    rfl
  have hq : q = p + 1 := by
    rw [h.len, enc_small (by cases b <;> decide)]
    rfl
  have h4 : rdFlag l p 0 = (b, q, 0) := by
    unfold rdFlag
    rw [e1, hq]
    cases b <;> rfl
  unfold rdBool rdOp
  rw [h4]
  simp
theorem rdBool_inv (hp : 0 ≤ p) (h : (rdBool l p no).2.2 = 0) : no = 0 ∧ Took l p (rdBool l p no).2.1 (enc (flagN (rdBool l p no).1)) := by
  unfold rdBool rdOp at h ⊢
  by_cases h0 : no = 0
  · subst h0
    simp only [ne_eq, not_true_eq_false, if_false] at h ⊢
    refine ⟨trivial, ?_⟩
    rw [if_neg (by omega)]
    unfold rdFlag at h ⊢
    split at h
    · cases h
    · rename_i c r hr
      dsimp only at h ⊢
      have hc : ¬ 1 < c.toNat := fun hc => by rw [if_pos hc] at h; cases h
      have hlen : r.length + 1 = l.length - p.toNat := by
        rw [← List.length_drop, hr, List.length_cons]
      have hb : enc (flagN (decide (c = 1))) = [c] := by
        have : c = 0 ∨ c = 1 := by
          rcases Nat.lt_or_ge c.toNat 1 with h1 | h1
          · exact .inl (UInt8.toNat_inj.1 (by show c.toNat = 0; omega))
          · exact .inr (UInt8.toNat_inj.1 (by show c.toNat = 1; omega))
        rcases this with rfl | rfl
        · rw [enc_small (by decide)]; rfl
        · rw [enc_small (by decide)]; rfl
      rw [hb]
      refine ⟨hp, by simp, by omega, ?_⟩
      rw [hr, show (p + 1).toNat = p.toNat + 1 from by omega, ← List.drop_drop, hr]
      rfl
  · rw [if_pos h0] at h
    exact absurd h h0
theorem rdBool_bad (h : no ≠ 0) : rdBool l p no = (false, p, no) := by
  unfold rdBool rdOp
  rw [if_pos h]
/-! ### Lists -/
def rdList {α : Type} (one : Int → Int → α × Int × Int) (p no : Int) : Nat → List α × Int × Int
  | 0 => ([], p, no)
  | n + 1 => ((rdList one p no n).1 ++ [(one (rdList one p no n).2.1 (rdList one p no n).2.2).1], (one (rdList one p no n).2.1 (rdList one p no n).2.2).2)
theorem rdList_len {α : Type} {one : Int → Int → α × Int × Int} : ∀ n, (rdList one p no n).1.length = n
  | 0 => rfl
  | n + 1 => by simp only [rdList, List.length_append, List.length_singleton]; rw [rdList_len n]
theorem rdList_inv {α : Type} {one : Int → Int → α × Int × Int} {B : α → List UInt8} {Q : α → Prop} (h1 : ∀ p no, (one p no).2.2 = 0 → no = 0 ∧ Took l p (one p no).2.1 (B (one p no).1) ∧ Q (one p no).1) (hp : 0 ≤ p) (hl : p ≤ l.length) :
    ∀ n, (rdList one p no n).2.2 = 0 → no = 0 ∧ Took l p (rdList one p no n).2.1 ((rdList one p no n).1.flatMap B) ∧ ∀ x ∈ (rdList one p no n).1, Q x
  | 0, h => ⟨h, by simpa [rdList] using Took.refl hp hl, by simp [rdList]⟩
  | n + 1, h => by
    simp only [rdList] at h ⊢
    obtain ⟨a, b, c⟩ := h1 _ _ h
    obtain ⟨d, e, f⟩ := rdList_inv h1 hp hl n a
    refine ⟨d, ?_, fun x hx => ?_⟩
    · rw [List.flatMap_append]
      simpa using e.trans b
    · rcases List.mem_append.1 hx with hx | hx
      · exact f x hx
      · rw [List.mem_singleton.1 hx]; exact c
theorem rdList_took {α : Type} {one : Int → Int → α × Int × Int} {B : α → List UInt8} {xs : List α} (h1 : ∀ x ∈ xs, ∀ p q, Took l p q (B x) → one p 0 = (x, q, 0)) : ∀ n q, n ≤ xs.length → Took l p q ((xs.take n).flatMap B) → rdList one p 0 n = (xs.take n, q, 0)
  | 0, q, _, h => by
    have := h.len
    simp only [List.take_zero, List.flatMap_nil, List.length_nil] at this
    simp [rdList, this]
  | n + 1, q, hn, h => by
    rw [List.take_succ_eq_append_getElem (by omega), List.flatMap_append] at h
    obtain ⟨a, b⟩ := h.split
    have ih := rdList_took h1 n _ (by omega) a
    simp only [rdList]
    rw [ih]
    dsimp only
    have b' : Took l (p + (((xs.take n).flatMap B).length : Nat)) q (B xs[n]) := by
      rw [List.flatMap_cons, List.flatMap_nil, List.append_nil] at b
      exact b
    have := h1 xs[n] (List.getElem_mem (by omega)) _ q b'
    rw [this, List.take_succ_eq_append_getElem (by omega)]
/-- An error does not go. -/
theorem rdList_bad {α : Type} {one : Int → Int → α × Int × Int} (h1 : ∀ p no, no ≠ 0 → (one p no).2.2 ≠ 0) (h : no ≠ 0) : ∀ n, (rdList one p no n).2.2 ≠ 0
  | 0 => h
  | n + 1 => by simp only [rdList]; exact h1 _ _ (rdList_bad h1 h n)
end Go.Chg
/-
  Answers as bytes: what packages 'answer' and 'changeoverref09' do.
-/
set_option maxRecDepth 20000
set_option linter.unusedVariables false
namespace Go.Chg
open Go.Vc

variable {l : List UInt8} {v p q no : Int}
end Go.Chg
/-
  What makes bytes: numbers, texts and flags, put behind one another.
-/
set_option maxRecDepth 20000
set_option linter.unusedVariables false
namespace Go.Vc
variable {P : Program} {w w0 : World}
theorem cat_kp {t tx ty : TypeId} {b B : Nat} {out x : Sl} {l m : List UInt8} {K : Sl → World → Prop} (ht : appOk P t (elemT P t) 1 1 = true) (hs : isSlT P tx = true) (ho : OwnSl eB w B out l) (hx : IsSl eB w x m) (hlen : l.length + m.length ≤ 140737488355328) (hB : B ≤ w.heap.size) (hb : b < B)
    (hK : ∀ s' w', OwnSl eB w' B s' (l ++ m) → w.grownBy w' out.blk → K s' w') : opTy P (Builtin.append_ #[t, tx] ty #[out.val, x.val]) Sl.val (fun s w' => kp b w w' (K s w')) w :=
  app_ty 1 ht hs ho hx (by omega) hB (by decide) fun s' w' h hg => kp_O ho hb hg (hK s' w' h hg)
end Go.Vc
namespace Go.Chg
open Go.Vc
/-- A call that makes bytes of its own. -/
def Mk (fid : Nat) (args : Array Value) (m : List UInt8) : Prop := ∀ (w : World) (K : Sl → World → Prop), (∀ s w', OwnSl eB w' w.heap.size s m → Ext w w' → K s w') → callV Pr Sl.val fid args w K
theorem enc_flag1 (b : Bool) : (enc (flagN b)).length = 1 := by cases b <;> rw [enc_small (by decide)] <;> rfl
/-- What a call made, put behind. -/
theorem cat_mk {w w0 : World} {fid : Nat} {args : Array Value} {t ty : TypeId} {b B : Nat} {out : Sl} {l m : List UInt8} {K : Sl → World → Prop} (ht : appOk Pr t (elemT Pr t) 1 1 = true) (hs : isSlT Pr t = true) (hm : Mk fid args m) (hx : Ext w0 w) (ho : OwnSl eB w B out l) (hb : b < B) (hB : B ≤ w.heap.size)
    (h0 : w0.heap.size ≤ B) (hlen : l.length + m.length ≤ 140737488355328) (hK : ∀ s w', OwnSl eB w' B s (l ++ m) → Ext w0 w' → B ≤ w'.heap.size → K s w') :
    callV Pr Sl.val fid args w fun x w2 => kp b w w2 <| opTy Pr (Builtin.append_ #[t, t] ty #[out.val, x.val]) Sl.val (fun s w3 => kp b w2 w3 <| K s w3) w2 :=
  hm w _ fun x w2 hx2 hx' => kp_ext hx' (cat_kp ht hs (ho.ext hx') hx2.is hlen (Nat.le_trans hB hx'.size) hb fun s w3 h hg =>
    hK s w3 h (Ext.own (hx.trans' hx') (ho.ext hx') h0 hg) (Nat.le_trans hB (Nat.le_trans hx'.size hg.size)))
end Go.Chg
/-
  Answers as bytes: the functions of packages 'answer' and 'changeoverref09'.
-/
set_option maxRecDepth 20000
set_option linter.unusedVariables false
namespace Go.Chg
open Go.Vc
variable {w : World}
end Go.Chg
