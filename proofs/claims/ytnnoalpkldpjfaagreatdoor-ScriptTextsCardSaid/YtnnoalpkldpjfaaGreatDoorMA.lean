import GoSem.PinnedTables
import Derived.Test.YtnnoalpkldpjfaaGreatDoorMY
import Derived.Test.YtnnoalpkldpjfaaGreatDoorFns
import Derived.Test.YtnnoalpkldpjfaaGreatDoorTyr
import Derived.Lib.Bytealg
import Derived.Test.YtnnoalpkldpjfaaGreatDoorSub
/-
  What package utf8 does with the head of a text.
-/
set_option maxRecDepth 20000
set_option linter.unusedVariables false
namespace Go.Chg
open Go.Vc

/-- The two tables of package utf8. -/
structure Utf8T (w : World) : Prop where
  first : GlobAt w g_unicode_utf8_first (Go.Pinned.utf8FirstZ.map fun (n : Nat) => Value.int .u8 (n : Int))
  accept : GlobAt w g_unicode_utf8_acceptRanges ([128, 191, 160, 191, 128, 159, 144, 191, 128, 143].map fun n => Value.int .u8 n)
theorem Utf8T.ext {w w' : World} (h : Utf8T w) (hx : Ext w w') : Utf8T w' := ⟨h.first.ext hx, h.accept.ext hx⟩

def firstOf (c : Nat) : Nat := if c < 128 then 240 else if c < 194 then 241 else if c < 224 then 2 else if c = 224 then 19 else if c = 237 then 35 else if c < 240 then 3 else if c = 240 then 52 else if c < 244 then 4 else if c = 244 then 68 else 241
theorem first_get (b : UInt8) : (Go.Pinned.utf8FirstZ.map fun (n : Nat) => Value.int .u8 (n : Int))[b.toNat]? = some (.int .u8 (firstOf b.toNat : Int)) := by
  have key : ∀ x : Fin 256, Go.Pinned.utf8FirstZ[x.val]? = some (firstOf x.val) := by decide +kernel
  rw [List.getElem?_map, key ⟨b.toNat, b.toNat_lt⟩]
  rfl

theorem slow_spec {s : List UInt8} {K : Int × Int → World → Prop} {w : World} (ht : Utf8T w) (h1 : ∀ a r, s = a :: r → 128 ≤ a.toNat)
    (hK : ∀ w', Ext w w' → K (if s = [] then (65533, 0) else (((uStep s).1 : Int), ((uStep s).2 : Int))) w') : unicode_utf8_decodeRuneInStringSlow s K w := by
  unfold unicode_utf8_decodeRuneInStringSlow
  match s with
  | [] => exact ifD (fun _ => hK w (Ext.rfl' _)) (fun h => absurd (by simp) h)
  | a :: r =>
    have ha := a.toNat_lt
    have ha2 := h1 a r rfl
    rw [if_neg (by simp)] at hK
    refine ifD (fun h => by simp at h; omega) (fun _ => ?_)
    refine idx_str 0 (by kernel_rfl) rfl (by simp) ?_
    simp only [List.getElem_cons_zero]
    refine ix_ar (n := 256) (z := 1) a.toNat (by kernel_rfl) rfl ha ?_
    refine ld_cell (y := (firstOf a.toNat : Int)) (by kernel_rfl) (ht.first.cell (by rw [Nat.mul_one]; exact first_get a)) ?_
    have bad : ∀ w', Ext w w' → (dec (a :: r)).1 = 0 → K (65533, 1) w' := fun w' hx h0 => by
      have := hK w' hx
      rw [show uStep (a :: r) = (65533, 1) from by unfold uStep; rw [if_pos h0]] at this
      exact this
    have good : ∀ w' n v, Ext w w' → dec (a :: r) = (n + 1, v) → K ((v : Int), ((n + 1 : Nat) : Int)) w' := fun w' n v hx h0 => by
      have := hK w' hx
      rw [show uStep (a :: r) = (v, n + 1) from by unfold uStep; rw [h0]; simp] at this
      exact this
    -- what is no rune
    by_cases hbad : a.toNat < 194 ∨ 245 ≤ a.toNat
    · have hf : firstOf a.toNat = 241 := by (unfold firstOf; repeat' split) <;> omega
      rw [hf]
      refine ifD (fun _ => ?_) (fun h => by omega)
      refine idx_str 0 (by kernel_rfl) rfl (by simp) ?_
      simp only [List.getElem_cons_zero]
      have key : ∀ x : Fin 256, bOr .i32 (bAndNot .i32 (IntKind.i32.wrap (x.val : Int)) (shR .i32 (shL .i32 (IntKind.i32.wrap ((241 : Nat) : Int)) 31) 31)) (bAnd .i32 65533 (shR .i32 (shL .i32 (IntKind.i32.wrap ((241 : Nat) : Int)) 31) 31)) = 65533 := by decide +kernel
      rw [key ⟨a.toNat, ha⟩]
      refine bad w (Ext.rfl' _) ?_
      have e1 : ¬ a.toNat < 128 := by omega
      simp only [dec, e1, if_false]
      split
      · rfl
      · rw [if_neg (by omega), if_neg (by omega), if_neg (by omega)]
    -- which row of the second table
    obtain ⟨sz, row, lo, hi, hx, hsz, hrow, hlo, hhi, hr1, hsz4⟩ : ∃ (sz row lo hi : Nat), firstOf a.toNat = 16 * row + sz ∧ (sz = if a.toNat < 224 then 2 else if a.toNat < 240 then 3 else 4) ∧ row < 5 ∧
        ([128, 191, 160, 191, 128, 159, 144, 191, 128, 143] : List Int)[2 * row]? = some (lo : Int) ∧ ([128, 191, 160, 191, 128, 159, 144, 191, 128, 143] : List Int)[2 * row + 1]? = some (hi : Int) ∧
        ((lo = if a.toNat = 224 then 160 else if a.toNat = 240 then 144 else 128) ∧ (hi = if a.toNat = 237 then 159 else if a.toNat = 244 then 143 else 191)) ∧ sz < 8 := by
      have key : ∀ x : Fin 256, 194 ≤ x.val → x.val < 245 → (firstOf x.val = 16 * (firstOf x.val / 16) + firstOf x.val % 16) ∧ (firstOf x.val % 16 = if x.val < 224 then 2 else if x.val < 240 then 3 else 4) ∧ firstOf x.val / 16 < 5 ∧
        ([128, 191, 160, 191, 128, 159, 144, 191, 128, 143] : List Int)[2 * (firstOf x.val / 16)]? = some (((if x.val = 224 then 160 else if x.val = 240 then 144 else 128 : Nat)) : Int) ∧
        ([128, 191, 160, 191, 128, 159, 144, 191, 128, 143] : List Int)[2 * (firstOf x.val / 16) + 1]? = some (((if x.val = 237 then 159 else if x.val = 244 then 143 else 191 : Nat)) : Int) ∧ firstOf x.val % 16 < 8 := by decide +kernel
      obtain ⟨k1, k2, k3, k4, k5, k6⟩ := key ⟨a.toNat, ha⟩ (by show 194 ≤ a.toNat; omega) (by show a.toNat < 245; omega)
      exact ⟨_, _, _, _, k1, k2, k3, k4, k5, ⟨rfl, rfl⟩, k6⟩
    have hxlt : 16 * row + sz < 240 := by omega
    rw [hx]
    refine ifD (fun h => by omega) (fun _ => ?_)
    have eshift : shR .u8 ((16 * row + sz : Nat) : Int) 4 = (row : Int) := by
      have key : ∀ r : Fin 5, ∀ z : Fin 8, shR .u8 ((16 * r.val + z.val : Nat) : Int) 4 = (r.val : Int) := by decide +kernel
      exact key ⟨row, hrow⟩ ⟨sz, hsz4⟩
    have eand : IntKind.i64.wrap (bAnd .u8 ((16 * row + sz : Nat) : Int) 7) = (sz : Int) := by
      have key : ∀ r : Fin 5, ∀ z : Fin 8, IntKind.i64.wrap (bAnd .u8 ((16 * r.val + z.val : Nat) : Int) 7) = (z.val : Int) := by decide +kernel
      exact key ⟨row, hrow⟩ ⟨sz, hsz4⟩
    rw [eshift, eand]
    refine ix_ar (n := 16) (z := 2) row (by kernel_rfl) rfl (by omega) ?_
    have hacc : ∀ (j : Nat) v, (Utf8AcceptRange.cs ⟨lo, hi⟩)[j]? = some v → w.cell? ((g_unicode_utf8_acceptRanges.add (row * 2)).add j) = some v := by
      intro j v hj
      rw [addr_add2 _ ht.accept.spot]
      refine ht.accept.cell ?_
      have hj2 : j < 2 := (List.getElem?_eq_some_iff.1 hj).1
      rw [List.getElem?_map]
      match j, hj2 with
      | 0, _ =>
        cases hj
        rw [show row * 2 + 0 = 2 * row from by omega, hlo]
        rfl
      | 1, _ =>
        cases hj
        rw [show row * 2 + 1 = 2 * row + 1 from by omega, hhi]
        rfl
    refine ⟨⟨lo, hi⟩, run_ldAgg (n := 2) (xs := Utf8AcceptRange.cs ⟨lo, hi⟩) (by kernel_rfl) rfl (by rw [addr_off _ ht.accept.spot]) (fun j v hj => ?_), ?_⟩
    · have := hacc j v hj
      rw [addr_off _ ht.accept.spot, addr_add] at this
      rw [addr_off _ ht.accept.spot]
      exact this
    refine new_of fun b1 w1 hn => wr_of fun w2 hw2 => ?_
    have hb1 : b1 = w.heap.size := hn.1
    have hx2 : Ext w w2 := Below.wr (Ext.new hn) (by omega) hw2
    obtain ⟨hlo2, hhi2⟩ := hr1
    have e128 : ¬ a.toNat < 128 := by omega
    have e194 : ¬ a.toNat < 194 := by omega
    have bnd : ∀ (x y : Nat), x < 64 → y < 64 → 64 * x + y < 4096 := fun x y h1 h2 => by omega
    by_cases h224 : a.toNat < 224
    · -- two bytes
      have hsz' : sz = 2 := by rw [hsz, if_pos h224]
      have hlo' : lo = 128 := by rw [hlo2, if_neg (by omega), if_neg (by omega)]
      have hhi' : hi = 191 := by rw [hhi2, if_neg (by omega), if_neg (by omega)]
      subst hsz' hlo' hhi'
      match r with
      | [] =>
        refine ifD (fun _ => bad w2 hx2 ?_) (fun h => absurd (by simp) h)
        simp only [dec, e128, e194, h224, if_false, if_true]
      | b :: t =>
        have hb := b.toNat_lt
        refine ifD (fun h => by simp at h; omega) (fun _ => ?_)
        refine idx_str 1 (by kernel_rfl) rfl (by simp) ?_
        simp only [List.getElem_cons_succ, List.getElem_cons_zero]
        have hd : dec (a :: b :: t) = if cont b = true then (2, v2 a b) else (0, 0) := by simp only [dec, e128, e194, h224, if_false, if_true]
        refine ifD (fun h => bad w2 hx2 ?_) (fun h1 => ifD (fun h => bad w2 hx2 ?_) (fun h2 => ifD (fun _ => ?_) (fun h => absurd (by decide) h)))
        · rw [hd, if_neg (by simp [cont]; omega)]
        · rw [hd, if_neg (by simp [cont]; omega)]
        · have hc : cont b = true := by simp [cont]; omega
          have := good w2 1 (v2 a b) hx2 (by rw [hd, if_pos hc])
          rw [bAnd_31, bAnd_63, i32_id (by omega) (by omega), i32_id (by omega) (by omega), show (6 : Int) = ((6 : Nat) : Int) from rfl, shL_i32 (by omega) (by omega), bOr_add (by omega) (by omega)]
          have e : 2 ^ 6 * (a.toNat % 32) + b.toNat % 64 = v2 a b := by simp only [cont, Bool.and_eq_true, decide_eq_true_eq] at hc; unfold v2; omega
          rw [e]
          exact this
    by_cases h240 : a.toNat < 240
    · -- three
      have hsz' : sz = 3 := by rw [hsz, if_neg h224, if_pos h240]
      subst hsz'
      have hlo4 : (a.toNat = 224 ∧ lo = 160) ∨ (a.toNat ≠ 224 ∧ lo = 128) := by rw [hlo2]; split <;> (try split) <;> omega
      have hhi4 : (a.toNat = 237 ∧ hi = 159) ∨ (a.toNat ≠ 237 ∧ hi = 191) := by rw [hhi2]; split <;> (try split) <;> omega
      match r with
      | [] => exact ifD (fun _ => bad w2 hx2 (by simp only [dec, e128, e194, h224, h240, if_false, if_true])) (fun h => absurd (by simp) h)
      | [b] => exact ifD (fun _ => bad w2 hx2 (by simp only [dec, e128, e194, h224, h240, if_false, if_true])) (fun h => absurd (by simp) h)
      | b :: c :: t =>
        have hb := b.toNat_lt
        have hc := c.toNat_lt
        have hd : dec (a :: b :: c :: t) = if cont b = true ∧ cont c = true ∧ 2048 ≤ v3 a b c ∧ (v3 a b c < 55296 ∨ 57343 < v3 a b c) then (3, v3 a b c) else (0, 0) := by simp only [dec, e128, e194, h224, h240, if_false, if_true]
        refine ifD (fun h => by simp at h; omega) (fun _ => ?_)
        refine idx_str 1 (by kernel_rfl) rfl (by simp) ?_
        simp only [List.getElem_cons_succ, List.getElem_cons_zero]
        have nb : (b.toNat < lo ∨ hi < b.toNat ∨ c.toNat < 128 ∨ 191 < c.toNat) → (dec (a :: b :: c :: t)).1 = 0 := fun h => by
          rw [hd, if_neg]
          rintro ⟨g1, g2, g3, g4⟩
          simp only [cont, Bool.and_eq_true, decide_eq_true_eq] at g1 g2
          unfold v3 at g3 g4
          omega
        refine ifD (fun h => bad w2 hx2 (nb (by have h' : (b.toNat : Int) < lo := h; omega))) (fun h1 => ifD (fun h => bad w2 hx2 (nb (by have h' : (hi : Int) < b.toNat := h; omega))) (fun h2 => ifD (fun h => absurd h (by decide)) (fun _ => ?_)))
        refine idx_str 2 (by kernel_rfl) rfl (by simp) ?_
        simp only [List.getElem_cons_succ, List.getElem_cons_zero]
        refine ifD (fun h => bad w2 hx2 (nb (by omega))) (fun h3 => ifD (fun h => bad w2 hx2 (nb (by omega))) (fun h4 => ifD (fun _ => ?_) (fun h => absurd (by decide) h)))
        have h1' : ¬ (b.toNat : Int) < lo := h1
        have h2' : ¬ (hi : Int) < b.toNat := h2
        have hlo3 : 128 ≤ lo := by omega
        have hhi3 : hi ≤ 191 := by omega
        have hin : cont b = true ∧ cont c = true ∧ 2048 ≤ v3 a b c ∧ (v3 a b c < 55296 ∨ 57343 < v3 a b c) := by
          refine ⟨by simp [cont]; omega, by simp [cont]; omega, ?_, ?_⟩
          · unfold v3
            omega
          · unfold v3
            omega
        have := good w2 2 (v3 a b c) hx2 (by rw [hd, if_pos hin])
        rw [bAnd_15, bAnd_63, bAnd_63, i32_id (by omega) (by omega), i32_id (by omega) (by omega), i32_id (by omega) (by omega), show (6 : Int) = ((6 : Nat) : Int) from rfl, show (12 : Int) = ((12 : Nat) : Int) from rfl, shL_i32 (by omega) (by omega), shL_i32 (by omega) (by omega)]
        have e1 : 2 ^ 12 * (a.toNat % 16) + 2 ^ 6 * (b.toNat % 64) = 2 ^ 6 * (2 ^ 6 * (a.toNat % 16) + b.toNat % 64) := by omega
        rw [bOr_add (by omega) (by omega), e1, bOr_add (by omega) (by omega)]
        have e : 2 ^ 6 * (2 ^ 6 * (a.toNat % 16) + b.toNat % 64) + c.toNat % 64 = v3 a b c := by
          have g1 := hin.1
          have g2 := hin.2.1
          simp only [cont, Bool.and_eq_true, decide_eq_true_eq] at g1 g2
          unfold v3; omega
        rw [e]
        exact this
    · -- four
      have hsz' : sz = 4 := by rw [hsz, if_neg h224, if_neg h240]
      have h245 : a.toNat < 245 := by omega
      subst hsz'
      have hlo4 : (a.toNat = 240 ∧ lo = 144) ∨ (a.toNat ≠ 240 ∧ lo = 128) := by rw [hlo2]; split <;> (try split) <;> omega
      have hhi4 : (a.toNat = 244 ∧ hi = 143) ∨ (a.toNat ≠ 244 ∧ hi = 191) := by rw [hhi2]; split <;> (try split) <;> omega
      match r with
      | [] => exact ifD (fun _ => bad w2 hx2 (by simp only [dec, e128, e194, h224, h240, h245, if_false, if_true])) (fun h => absurd (by simp) h)
      | [b] => exact ifD (fun _ => bad w2 hx2 (by simp only [dec, e128, e194, h224, h240, h245, if_false, if_true])) (fun h => absurd (by simp) h)
      | [b, c] => exact ifD (fun _ => bad w2 hx2 (by simp only [dec, e128, e194, h224, h240, h245, if_false, if_true])) (fun h => absurd (by simp) h)
      | b :: c :: d :: t =>
        have hb := b.toNat_lt
        have hc := c.toNat_lt
        have hdd := d.toNat_lt
        have hd : dec (a :: b :: c :: d :: t) = if cont b = true ∧ cont c = true ∧ cont d = true ∧ 65536 ≤ v4 a b c d ∧ v4 a b c d ≤ 1114111 then (4, v4 a b c d) else (0, 0) := by simp only [dec, e128, e194, h224, h240, h245, if_false, if_true]
        refine ifD (fun h => by simp at h; omega) (fun _ => ?_)
        refine idx_str 1 (by kernel_rfl) rfl (by simp) ?_
        simp only [List.getElem_cons_succ, List.getElem_cons_zero]
        have nb : (b.toNat < lo ∨ hi < b.toNat ∨ c.toNat < 128 ∨ 191 < c.toNat ∨ d.toNat < 128 ∨ 191 < d.toNat) → (dec (a :: b :: c :: d :: t)).1 = 0 := fun h => by
          rw [hd, if_neg]
          rintro ⟨g1, g2, g3, g4, g5⟩
          simp only [cont, Bool.and_eq_true, decide_eq_true_eq] at g1 g2 g3
          unfold v4 at g4 g5
          omega
        refine ifD (fun h => bad w2 hx2 (nb (by have h' : (b.toNat : Int) < lo := h; omega))) (fun h1 => ifD (fun h => bad w2 hx2 (nb (by have h' : (hi : Int) < b.toNat := h; omega))) (fun h2 => ifD (fun h => absurd h (by decide)) (fun _ => ?_)))
        refine idx_str 2 (by kernel_rfl) rfl (by simp) ?_
        simp only [List.getElem_cons_succ, List.getElem_cons_zero]
        refine ifD (fun h => bad w2 hx2 (nb (by omega))) (fun h3 => ifD (fun h => bad w2 hx2 (nb (by omega))) (fun h4 => ifD (fun h => absurd h (by decide)) (fun _ => ?_)))
        refine idx_str 3 (by kernel_rfl) rfl (by simp) ?_
        simp only [List.getElem_cons_succ, List.getElem_cons_zero]
        refine ifD (fun h => bad w2 hx2 (nb (by omega))) (fun h5 => ifD (fun h => bad w2 hx2 (nb (by omega))) (fun h6 => ?_))
        have h1' : ¬ (b.toNat : Int) < lo := h1
        have h2' : ¬ (hi : Int) < b.toNat := h2
        have hlo3 : 128 ≤ lo := by omega
        have hhi3 : hi ≤ 191 := by omega
        have hin : cont b = true ∧ cont c = true ∧ cont d = true ∧ 65536 ≤ v4 a b c d ∧ v4 a b c d ≤ 1114111 := by
          refine ⟨by simp [cont]; omega, by simp [cont]; omega, by simp [cont]; omega, ?_, ?_⟩
          · unfold v4
            omega
          · unfold v4
            omega
        have := good w2 3 (v4 a b c d) hx2 (by rw [hd, if_pos hin])
        rw [bAnd_7, bAnd_63, bAnd_63, bAnd_63, i32_id (by omega) (by omega), i32_id (by omega) (by omega), i32_id (by omega) (by omega), i32_id (by omega) (by omega), show (6 : Int) = ((6 : Nat) : Int) from rfl, show (12 : Int) = ((12 : Nat) : Int) from rfl, show (18 : Int) = ((18 : Nat) : Int) from rfl,
          shL_i32 (by omega) (by omega), shL_i32 (by omega) (by omega), shL_i32 (by omega) (by omega)]
        have e1 : 2 ^ 18 * (a.toNat % 8) + 2 ^ 12 * (b.toNat % 64) = 2 ^ 12 * (2 ^ 6 * (a.toNat % 8) + b.toNat % 64) := by omega
        rw [bOr_add (by omega) (by omega), e1, bOr_add (by omega) (by omega)]
        have e2 : 2 ^ 12 * (2 ^ 6 * (a.toNat % 8) + b.toNat % 64) + 2 ^ 6 * (c.toNat % 64) = 2 ^ 6 * (2 ^ 6 * (2 ^ 6 * (a.toNat % 8) + b.toNat % 64) + c.toNat % 64) := by omega
        rw [e2, bOr_add (by omega) (by omega)]
        have e : 2 ^ 6 * (2 ^ 6 * (2 ^ 6 * (a.toNat % 8) + b.toNat % 64) + c.toNat % 64) + d.toNat % 64 = v4 a b c d := by
          have g1 := hin.1
          have g2 := hin.2.1
          have g3 := hin.2.2.1
          simp only [cont, Bool.and_eq_true, decide_eq_true_eq] at g1 g2 g3
          unfold v4; omega
        rw [e]
        exact this

theorem DecodeRuneInString_spec {s : List UInt8} {K : Int × Int → World → Prop} {w : World} (ht : Utf8T w)
    (hK : ∀ w', Ext w w' → K (if s = [] then (65533, 0) else (((uStep s).1 : Int), ((uStep s).2 : Int))) w') : unicode_utf8_DecodeRuneInString s K w := by
  unfold unicode_utf8_DecodeRuneInString
  match s with
  | [] => exact ifNot (ifStr (fun _ => unicode_utf8_decodeRuneInStringSlow_calls (slow_spec ht (fun a r h => by cases h) hK)) (fun h => absurd rfl h))
  | a :: r =>
    have ha := a.toNat_lt
    refine ifNot (ifStr (fun h => by cases h) (fun _ => ?_))
    refine idx_str 0 (by kernel_rfl) rfl (by simp) ?_
    simp only [List.getElem_cons_zero]
    refine ifD (fun h => ?_) (fun h => unicode_utf8_decodeRuneInStringSlow_calls (slow_spec ht (fun b t e => by cases e; omega) hK))
    refine idx_str 0 (by kernel_rfl) rfl (by simp) ?_
    simp only [List.getElem_cons_zero]
    have := hK w (Ext.rfl' _)
    rw [if_neg (by simp), show uStep (a :: r) = (a.toNat, 1) from by unfold uStep; simp [dec, show a.toNat < 128 from by omega]] at this
    rw [i32_id (by omega) (by omega)]
    exact this
end Go.Chg
/-
  cmp.Compare of numbers.
-/
set_option linter.unusedVariables false
namespace Go.Chg
open Go.Vc
end Go.Chg
/-
  strings.Compare.
-/
set_option linter.unusedVariables false
namespace Go.Chg
open Go.Vc
theorem compare_cmp : ∀ (a b : List UInt8), Lib.compareBytes a b = cmpS a b
  | [], [] => by decide
  | [], b :: ys => by
    have : ([] : List UInt8) < b :: ys := by simp
    unfold cmpS; rw [if_pos this]; rfl
  | a :: xs, [] => by
    have h1 : ¬ (a :: xs) < ([] : List UInt8) := by simp
    have h2 : ¬ (a :: xs) = ([] : List UInt8) := by simp
    unfold cmpS; rw [if_neg h1, if_neg h2]; rfl
  | a :: xs, b :: ys => by
    have ih := compare_cmp xs ys
    unfold Lib.compareBytes
    by_cases h1 : a < b
    · rw [if_pos h1]
      have : (a :: xs) < (b :: ys) := List.cons_lt_cons_iff.2 (.inl h1)
      unfold cmpS; rw [if_pos this]
    · by_cases h2 : b < a
      · rw [if_neg h1, if_pos h2]
        have h3 : (b :: ys) < (a :: xs) := List.cons_lt_cons_iff.2 (.inl h2)
        have h4 : ¬ (a :: xs) < (b :: ys) := str_lt_asymm h3
        have h5 : ¬ (a :: xs) = (b :: ys) := fun e => by rw [e] at h3; exact str_lt_irrefl _ h3
        unfold cmpS; rw [if_neg h4, if_neg h5]
      · rw [if_neg h1, if_neg h2, ih]
        have he : a = b := UInt8.le_antisymm (UInt8.not_lt.1 h2) (UInt8.not_lt.1 h1)
        subst he
        unfold cmpS
        by_cases h6 : xs < ys
        · rw [if_pos h6, if_pos (List.cons_lt_cons_iff.2 (.inr ⟨rfl, h6⟩))]
        · have h8 : ¬ (a :: xs) < (a :: ys) := fun h => by
            rcases List.cons_lt_cons_iff.1 h with h | ⟨_, h⟩
            · exact h1 h
            · exact h6 h
          by_cases h7 : xs = ys
          · rw [if_neg h6, if_pos h7, if_neg h8, if_pos (by rw [h7])]
          · rw [if_neg h6, if_neg h7, if_neg h8, if_neg (fun h => h7 (List.cons.inj h).2)]
end Go.Chg
/-
  What 'slices.Clone', 'varint' and 'changeoverref01' do with bytes.
-/
set_option maxRecDepth 20000
namespace Go.Chg
open Go.Vc

end Go.Chg
/-
  How 'changeoverref01' reads a number.
-/
set_option maxRecDepth 20000
namespace Go.Chg
open Go.Vc
end Go.Chg
/-
  What package 'pack' does with its bytes, in plain Lean; and how a reader and a writer lie in memory.
-/
namespace Go.Vc
open Go.RowKit (Below)

/-- What stands after a read: the value, where the reader is, its fault. -/
def rdLim (l : List UInt8) (most : Int) (p no : Int) : Int × Int × Int :=
  ((getL l p).1, (getL l p).2.1, if (getL l p).2.2 ≠ 0 then (getL l p).2.2 else if most < (getL l p).1 then 2 else no)
def rdCounted (l : List UInt8) (most : Int) (p no : Int) : Int × Int × Int :=
  ((rdLim l most p no).1, (rdLim l most p no).2.1, if (rdLim l most p no).2.2 = 0 then (if (l.length : Int) - (rdLim l most p no).2.1 < (rdLim l most p no).1 then 1 else 0) else (rdLim l most p no).2.2)
def rdRaw (l : List UInt8) (most : Int) (p no : Int) : List UInt8 × Int × Int :=
  if (rdCounted l most p no).2.2 ≠ 0 then ([], (rdCounted l most p no).2)
  else ((l.drop (rdCounted l most p no).2.1.toNat).take (rdCounted l most p no).1.toNat, (rdCounted l most p no).2.1 + (rdCounted l most p no).1, 0)
def rdFlag (l : List UInt8) (p no : Int) : Bool × Int × Int :=
  match l.drop p.toNat with
  | [] => (false, p, 1)
  | c :: _ => (decide (c = 1), p + 1, if 1 < c.toNat then 3 else no)
/-- A read at a reader that may have failed before. -/
def rdOp {α : Type} (z : α) (f : Int → Int → α × Int × Int) (p no : Int) : α × Int × Int :=
  if no ≠ 0 then (z, p, no) else (if (f p no).2.2 ≠ 0 then z else (f p no).1, (f p no).2)

theorem rdLim_pos (l : List UInt8) (most p no : Int) : 0 ≤ (rdLim l most p no).2.1 ∧ (rdLim l most p no).2.1 ≤ l.length := getL_pos l p
theorem rdLim_num (l : List UInt8) (most p no : Int) : 0 ≤ (rdLim l most p no).1 := getL_num l p

/-- A reader in memory. -/
def Rd (w : World) (a : Addr) (l : List UInt8) (p no : Int) : Prop :=
  ∃ s, IsSl eB w s l ∧ Obj w a [s.val, .int .i64 p, .int .i64 no] ∧ (∀ b, s.blk = some b → b < a.block) ∧ 0 ≤ p ∧ p ≤ l.length
theorem ltne {s : Sl} {n : Nat} (h : ∀ b, s.blk = some b → b < n) : s.blk ≠ some n := fun e => absurd (h _ e) (Nat.lt_irrefl _)
/-- A writer in memory. -/
def Wt (w : World) (a : Addr) (l : List UInt8) : Prop :=
  ∃ s, IsSl eB w s l ∧ Obj w a [s.val] ∧ s.blk ≠ some a.block

variable {w w' : World} {a : Addr} {l : List UInt8} {p no : Int}
theorem Rd.ext (h : Rd w a l p no) (hx : Ext w w') : Rd w' a l p no := by
  obtain ⟨s, h1, h2, h3, h4⟩ := h
  exact ⟨s, h1.ext hx, h2.ext hx, h3, h4⟩
theorem Wt.ext (h : Wt w a l) (hx : Ext w w') : Wt w' a l := by
  obtain ⟨s, h1, h2, h3⟩ := h
  exact ⟨s, h1.ext hx, h2.ext hx, h3⟩
/-- A block that is newer than the reader may turn. -/
theorem Rd.wr {b : Nat} (h : Rd w a l p no) (hw : Wr b w w') (hb : a.block < b) : Rd w' a l p no := by
  obtain ⟨s, h1, h2, h3, h4⟩ := h
  exact ⟨s, h1.grownB (grown_wr hw) (fun c hc e => by have := h3 c hc; simp at e; omega), h2.keep (hw.block _ (by omega)), h3, h4⟩
theorem Rd.lt (h : Rd w a l p no) : a.block < w.heap.size := by
  obtain ⟨s, h1, h2, h3, h4⟩ := h
  exact h2.lt
theorem Wt.lt (h : Wt w a l) : a.block < w.heap.size := by
  obtain ⟨s, h1, h2, h3⟩ := h
  exact h2.lt
/-- A slice that lies elsewhere reads as before when one block has turned. -/
theorem IsSl.wrB {α : Type} {E : Enc α} {s : Sl} {xs : List α} {b : Nat} (h : IsSl E w s xs) (hw : Wr b w w') (hb : s.blk ≠ some b) : IsSl E w' s xs :=
  h.grownB (grown_wr hw) fun c hc e => hb (by rw [hc, e])
theorem OwnSl.blk_ne {α : Type} {E : Enc α} {s : Sl} {xs : List α} {B b : Nat} (h : OwnSl E w B s xs) (hb : b < B) : s.blk ≠ some b := fun e => by
  have := h.ge b e
  omega

theorem Ext.grown {w0 w w' : World} {b : Nat} (h : Ext w0 w) (hg : w.grownBy w' (some b)) (hb : w0.heap.size ≤ b) : Ext w0 w' :=
  below_grown h h.size hg fun r hr => by cases hr; exact hb
end Go.Vc
/-
  What the functions of package 'pack' do.
-/
set_option maxRecDepth 20000
namespace Go.Chg
open Go.Vc

/-! ### The writer -/
def flagN (b : Bool) : Nat := if b then 1 else 0
/-! ### The reader -/
end Go.Chg
/-
  The reader's five reads.
-/
set_option maxRecDepth 20000
namespace Go.Chg
open Go.Vc

def rdNumber (l : List UInt8) (most : Int) : Int → Int → Int × Int × Int := rdOp 0 (rdLim l most)
def rdCount (l : List UInt8) (most : Int) : Int → Int → Int × Int × Int := rdOp 0 (rdCounted l most)
def rdText (l : List UInt8) (most : Int) : Int → Int → List UInt8 × Int × Int := rdOp [] (rdRaw l most)
def rdBool (l : List UInt8) : Int → Int → Bool × Int × Int := rdOp false (rdFlag l)

theorem rdOp_z {α : Type} {z : α} {f : Int → Int → α × Int × Int} {p no : Int} (h : no ≠ 0) : rdOp z f p no = (z, p, no) := by unfold rdOp; rw [if_pos h]
theorem rdOp_bad {α : Type} {z : α} {f : Int → Int → α × Int × Int} {p no : Int} (h : no = 0) (h2 : (f p no).2.2 ≠ 0) : rdOp z f p no = (z, (f p no).2) := by unfold rdOp; rw [if_neg (by omega), if_pos h2]
theorem rdOp_ok {α : Type} {z : α} {f : Int → Int → α × Int × Int} {p no : Int} (h : no = 0) (h2 : (f p no).2.2 = 0) : rdOp z f p no = f p no := by unfold rdOp; rw [if_neg (by omega), if_neg (by omega)]

/-- A read that goes by the way of the wrapper: the reader's cell and the limit's are new. -/
theorem Rd.new {w w' : World} {a : Addr} {l : List UInt8} {p no : Int} (h : Rd w a l p no) (hx : Ext w w') : Rd w' a l p no := h.ext hx

end Go.Chg
