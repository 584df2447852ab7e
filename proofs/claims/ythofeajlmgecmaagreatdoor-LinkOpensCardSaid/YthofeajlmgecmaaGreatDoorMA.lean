import GoSem.PinnedTables
import Derived.Test.YthofeajlmgecmaaGreatDoorMY
import Derived.Test.YthofeajlmgecmaaGreatDoorFns
import Derived.Test.YthofeajlmgecmaaGreatDoorTyr
import Derived.Lib.Bytealg
import Derived.Test.YthofeajlmgecmaaGreatDoorSub
/-
  What package utf8 does with the head of a text.
-/
set_option maxRecDepth 20000
set_option linter.unusedVariables false
namespace Go.Chg
open Go.Vc

/-- The two tables of package utf8. -/
structure Utf8T (w : World) : Prop where
  first : GlobAt w g_unicode_utf8_first (Go.Pinned.utf8FirstZ.map fun (n : Nat) => Value.int .u8 (n : Int))
  accept : GlobAt w g_unicode_utf8_acceptRanges ([128, 191, 160, 191, 128, 159, 144, 191, 128, 143].map fun n => Value.int .u8 n)
theorem Utf8T.ext {w w' : World} (h : Utf8T w) (hx : Ext w w') : Utf8T w' := ⟨h.first.ext hx, h.accept.ext hx⟩

def firstOf (c : Nat) : Nat := if c < 128 then 240 else if c < 194 then 241 else if c < 224 then 2 else if c = 224 then 19 else if c = 237 then 35 else if c < 240 then 3 else if c = 240 then 52 else if c < 244 then 4 else if c = 244 then 68 else 241
theorem first_get (b : UInt8) : (Go.Pinned.utf8FirstZ.map fun (n : Nat) => Value.int .u8 (n : Int))[b.toNat]? = some (.int .u8 (firstOf b.toNat : Int)) := by
  have key : ∀ x : Fin 256, Go.Pinned.utf8FirstZ[x.val]? = some (firstOf x.val) := by decide +kernel
  rw [List.getElem?_map, key ⟨b.toNat, b.toNat_lt⟩]
  rfl

theorem slow_spec {s : List UInt8} {K : Int × Int → World → Prop} {w : World} (ht : Utf8T w) (h1 : ∀ a r, s = a :: r → 128 ≤ a.toNat)
    (hK : ∀ w', Ext w w' → K (if s = [] then (65533, 0) else (((uStep s).1 : Int), ((uStep s).2 : Int))) w') : unicode_utf8_decodeRuneInStringSlow s K w := by
  unfold unicode_utf8_decodeRuneInStringSlow
  match s with
  | [] => exact ifD (fun _ => hK w (Ext.rfl' _)) (fun h => absurd (by simp) h)
  | a :: r =>
    have ha := a.toNat_lt
    have ha2 := h1 a r rfl
    rw [if_neg (by simp)] at hK
    refine ifD (fun h => by simp at h; omega) (fun _ => ?_)
    refine idx_str 0 (by kernel_rfl) rfl (by simp) ?_
    simp only [List.getElem_cons_zero]
    refine ix_ar (n := 256) (z := 1) a.toNat (by kernel_rfl) rfl ha ?_
    refine ld_cell (y := (firstOf a.toNat : Int)) (by kernel_rfl) (ht.first.cell (by rw [Nat.mul_one]; exact first_get a)) ?_
    have bad : ∀ w', Ext w w' → (dec (a :: r)).1 = 0 → K (65533, 1) w' := fun w' hx h0 => by
      have := hK w' hx
      rw [show uStep (a :: r) = (65533, 1) from by unfold uStep; rw [if_pos h0]] at this
      exact this
    have good : ∀ w' n v, Ext w w' → dec (a :: r) = (n + 1, v) → K ((v : Int), ((n + 1 : Nat) : Int)) w' := fun w' n v hx h0 => by
      have := hK w' hx
      rw [show uStep (a :: r) = (v, n + 1) from by unfold uStep; rw [h0]; simp] at this
      exact this
    -- what is no rune
    by_cases hbad : a.toNat < 194 ∨ 245 ≤ a.toNat
    · have hf : firstOf a.toNat = 241 := by (unfold firstOf; repeat' split) <;> omega
      rw [hf]
      refine ifD (fun _ => ?_) (fun h => by omega)
      refine idx_str 0 (by kernel_rfl) rfl (by simp) ?_
      simp only [List.getElem_cons_zero]
      have key : ∀ x : Fin 256, bOr .i32 (bAndNot .i32 (IntKind.i32.wrap (x.val : Int)) (shR .i32 (shL .i32 (IntKind.i32.wrap ((241 : Nat) : Int)) 31) 31)) (bAnd .i32 65533 (shR .i32 (shL .i32 (IntKind.i32.wrap ((241 : Nat) : Int)) 31) 31)) = 65533 := by decide +kernel
      rw [key ⟨a.toNat, ha⟩]
      refine bad w (Ext.rfl' _) ?_
      have e1 : ¬ a.toNat < 128 := by omega
      simp only [dec, e1, if_false]
      split
      · rfl
      · rw [if_neg (by omega), if_neg (by omega), if_neg (by omega)]
    -- which row of the second table
    obtain ⟨sz, row, lo, hi, hx, hsz, hrow, hlo, hhi, hr1, hsz4⟩ : ∃ (sz row lo hi : Nat), firstOf a.toNat = 16 * row + sz ∧ (sz = if a.toNat < 224 then 2 else if a.toNat < 240 then 3 else 4) ∧ row < 5 ∧
        ([128, 191, 160, 191, 128, 159, 144, 191, 128, 143] : List Int)[2 * row]? = some (lo : Int) ∧ ([128, 191, 160, 191, 128, 159, 144, 191, 128, 143] : List Int)[2 * row + 1]? = some (hi : Int) ∧
        ((lo = if a.toNat = 224 then 160 else if a.toNat = 240 then 144 else 128) ∧ (hi = if a.toNat = 237 then 159 else if a.toNat = 244 then 143 else 191)) ∧ sz < 8 := by
      have key : ∀ x : Fin 256, 194 ≤ x.val → x.val < 245 → (firstOf x.val = 16 * (firstOf x.val / 16) + firstOf x.val % 16) ∧ (firstOf x.val % 16 = if x.val < 224 then 2 else if x.val < 240 then 3 else 4) ∧ firstOf x.val / 16 < 5 ∧
        ([128, 191, 160, 191, 128, 159, 144, 191, 128, 143] : List Int)[2 * (firstOf x.val / 16)]? = some (((if x.val = 224 then 160 else if x.val = 240 then 144 else 128 : Nat)) : Int) ∧
        ([128, 191, 160, 191, 128, 159, 144, 191, 128, 143] : List Int)[2 * (firstOf x.val / 16) + 1]? = some (((if x.val = 237 then 159 else if x.val = 244 then 143 else 191 : Nat)) : Int) ∧ firstOf x.val % 16 < 8 := by decide +kernel
      obtain ⟨k1, k2, k3, k4, k5, k6⟩ := key ⟨a.toNat, ha⟩ (by show 194 ≤ a.toNat; omega) (by show a.toNat < 245; omega)
      exact ⟨_, _, _, _, k1, k2, k3, k4, k5, ⟨rfl, rfl⟩, k6⟩
    have hxlt : 16 * row + sz < 240 := by omega
    rw [hx]
    refine ifD (fun h => by omega) (fun _ => ?_)
    have eshift : shR .u8 ((16 * row + sz : Nat) : Int) 4 = (row : Int) := by
      have key : ∀ r : Fin 5, ∀ z : Fin 8, shR .u8 ((16 * r.val + z.val : Nat) : Int) 4 = (r.val : Int) := by decide +kernel
      exact key ⟨row, hrow⟩ ⟨sz, hsz4⟩
    have eand : IntKind.i64.wrap (bAnd .u8 ((16 * row + sz : Nat) : Int) 7) = (sz : Int) := by
      have key : ∀ r : Fin 5, ∀ z : Fin 8, IntKind.i64.wrap (bAnd .u8 ((16 * r.val + z.val : Nat) : Int) 7) = (z.val : Int) := by decide +kernel
      exact key ⟨row, hrow⟩ ⟨sz, hsz4⟩
    rw [eshift, eand]
    refine ix_ar (n := 16) (z := 2) row (by kernel_rfl) rfl (by omega) ?_
    have hacc : ∀ (j : Nat) v, (Utf8AcceptRange.cs ⟨lo, hi⟩)[j]? = some v → w.cell? ((g_unicode_utf8_acceptRanges.add (row * 2)).add j) = some v := by
      intro j v hj
      rw [addr_add2 _ ht.accept.spot]
      refine ht.accept.cell ?_
      have hj2 : j < 2 := (List.getElem?_eq_some_iff.1 hj).1
      rw [List.getElem?_map]
      match j, hj2 with
      | 0, _ =>
        cases hj
        rw [show row * 2 + 0 = 2 * row from by omega, hlo]
        rfl
      | 1, _ =>
        cases hj
        rw [show row * 2 + 1 = 2 * row + 1 from by omega, hhi]
        rfl
    refine ⟨⟨lo, hi⟩, run_ldAgg (n := 2) (xs := Utf8AcceptRange.cs ⟨lo, hi⟩) (by kernel_rfl) rfl (by rw [addr_off _ ht.accept.spot]) (fun j v hj => ?_), ?_⟩
    · have := hacc j v hj
      rw [addr_off _ ht.accept.spot, addr_add] at this
      rw [addr_off _ ht.accept.spot]
      exact this
    refine new_of fun b1 w1 hn => wr_of fun w2 hw2 => ?_
    have hb1 : b1 = w.heap.size := hn.1
    have hx2 : Ext w w2 := Below.wr (Ext.new hn) (by omega) hw2
    obtain ⟨hlo2, hhi2⟩ := hr1
    have e128 : ¬ a.toNat < 128 := by omega
    have e194 : ¬ a.toNat < 194 := by omega
    have bnd : ∀ (x y : Nat), x < 64 → y < 64 → 64 * x + y < 4096 := fun x y h1 h2 => by omega
    by_cases h224 : a.toNat < 224
    · -- two bytes
      have hsz' : sz = 2 := by rw [hsz, if_pos h224]
      have hlo' : lo = 128 := by rw [hlo2, if_neg (by omega), if_neg (by omega)]
      have hhi' : hi = 191 := by rw [hhi2, if_neg (by omega), if_neg (by omega)]
      subst hsz' hlo' hhi'
      match r with
      | [] =>
        refine ifD (fun _ => bad w2 hx2 ?_) (fun h => absurd (by simp) h)
        simp only [dec, e128, e194, h224, if_false, if_true]
      | b :: t =>
        have hb := b.toNat_lt
        refine ifD (fun h => by simp at h; omega) (fun _ => ?_)
        refine idx_str 1 (by kernel_rfl) rfl (by simp) ?_
        simp only [List.getElem_cons_succ, List.getElem_cons_zero]
        have hd : dec (a :: b :: t) = if cont b = true then (2, v2 a b) else (0, 0) := by simp only [dec, e128, e194, h224, if_false, if_true]
        refine ifD (fun h => bad w2 hx2 ?_) (fun h1 => ifD (fun h => bad w2 hx2 ?_) (fun h2 => ifD (fun _ => ?_) (fun h => absurd (by decide) h)))
        · rw [hd, if_neg (by simp [cont]; omega)]
        · rw [hd, if_neg (by simp [cont]; omega)]
        · have hc : cont b = true := by simp [cont]; omega
          have := good w2 1 (v2 a b) hx2 (by rw [hd, if_pos hc])
          rw [bAnd_31, bAnd_63, i32_id (by omega) (by omega), i32_id (by omega) (by omega), show (6 : Int) = ((6 : Nat) : Int) from rfl, shL_i32 (by omega) (by omega), bOr_add (by omega) (by omega)]
          have e : 2 ^ 6 * (a.toNat % 32) + b.toNat % 64 = v2 a b := by simp only [cont, Bool.and_eq_true, decide_eq_true_eq] at hc; unfold v2; omega
          rw [e]
          exact this
    by_cases h240 : a.toNat < 240
    · -- three
      have hsz' : sz = 3 := by rw [hsz, if_neg h224, if_pos h240]
      subst hsz'
      have hlo4 : (a.toNat = 224 ∧ lo = 160) ∨ (a.toNat ≠ 224 ∧ lo = 128) := by rw [hlo2]; split <;> (try split) <;> omega
      have hhi4 : (a.toNat = 237 ∧ hi = 159) ∨ (a.toNat ≠ 237 ∧ hi = 191) := by rw [hhi2]; split <;> (try split) <;> omega
      match r with
      | [] => exact ifD (fun _ => bad w2 hx2 (by simp only [dec, e128, e194, h224, h240, if_false, if_true])) (fun h => absurd (by simp) h)
      | [b] => exact ifD (fun _ => bad w2 hx2 (by simp only [dec, e128, e194, h224, h240, if_false, if_true])) (fun h => absurd (by simp) h)
      | b :: c :: t =>
        have hb := b.toNat_lt
        have hc := c.toNat_lt
        have hd : dec (a :: b :: c :: t) = if cont b = true ∧ cont c = true ∧ 2048 ≤ v3 a b c ∧ (v3 a b c < 55296 ∨ 57343 < v3 a b c) then (3, v3 a b c) else (0, 0) := by simp only [dec, e128, e194, h224, h240, if_false, if_true]
        refine ifD (fun h => by simp at h; omega) (fun _ => ?_)
        refine idx_str 1 (by kernel_rfl) rfl (by simp) ?_
        simp only [List.getElem_cons_succ, List.getElem_cons_zero]
        have nb : (b.toNat < lo ∨ hi < b.toNat ∨ c.toNat < 128 ∨ 191 < c.toNat) → (dec (a :: b :: c :: t)).1 = 0 := fun h => by
          rw [hd, if_neg]
          rintro ⟨g1, g2, g3, g4⟩
          simp only [cont, Bool.and_eq_true, decide_eq_true_eq] at g1 g2
          unfold v3 at g3 g4
          omega
        refine ifD (fun h => bad w2 hx2 (nb (by have h' : (b.toNat : Int) < lo := h; omega))) (fun h1 => ifD (fun h => bad w2 hx2 (nb (by have h' : (hi : Int) < b.toNat := h; omega))) (fun h2 => ifD (fun h => absurd h (by decide)) (fun _ => ?_)))
        refine idx_str 2 (by kernel_rfl) rfl (by simp) ?_
        simp only [List.getElem_cons_succ, List.getElem_cons_zero]
        refine ifD (fun h => bad w2 hx2 (nb (by omega))) (fun h3 => ifD (fun h => bad w2 hx2 (nb (by omega))) (fun h4 => ifD (fun _ => ?_) (fun h => absurd (by decide) h)))
        have h1' : ¬ (b.toNat : Int) < lo := h1
        have h2' : ¬ (hi : Int) < b.toNat := h2
        have hlo3 : 128 ≤ lo := by omega
        have hhi3 : hi ≤ 191 := by omega
        have hin : cont b = true ∧ cont c = true ∧ 2048 ≤ v3 a b c ∧ (v3 a b c < 55296 ∨ 57343 < v3 a b c) := by
          refine ⟨by simp [cont]; omega, by simp [cont]; omega, ?_, ?_⟩
          · unfold v3
            omega
          · unfold v3
            omega
        have := good w2 2 (v3 a b c) hx2 (by rw [hd, if_pos hin])
        rw [bAnd_15, bAnd_63, bAnd_63, i32_id (by omega) (by omega), i32_id (by omega) (by omega), i32_id (by omega) (by omega), show (6 : Int) = ((6 : Nat) : Int) from rfl, show (12 : Int) = ((12 : Nat) : Int) from rfl, shL_i32 (by omega) (by omega), shL_i32 (by omega) (by omega)]
        have e1 : 2 ^ 12 * (a.toNat % 16) + 2 ^ 6 * (b.toNat % 64) = 2 ^ 6 * (2 ^ 6 * (a.toNat % 16) + b.toNat % 64) := by omega
        rw [bOr_add (by omega) (by omega), e1, bOr_add (by omega) (by omega)]
        have e : 2 ^ 6 * (2 ^ 6 * (a.toNat % 16) + b.toNat % 64) + c.toNat % 64 = v3 a b c := by
          have g1 := hin.1
          have g2 := hin.2.1
          simp only [cont, Bool.and_eq_true, decide_eq_true_eq] at g1 g2
          unfold v3; omega
        rw [e]
        exact this
    · -- four
      have hsz' : sz = 4 := by rw [hsz, if_neg h224, if_neg h240]
      have h245 : a.toNat < 245 := by omega
      subst hsz'
      have hlo4 : (a.toNat = 240 ∧ lo = 144) ∨ (a.toNat ≠ 240 ∧ lo = 128) := by rw [hlo2]; split <;> (try split) <;> omega
      have hhi4 : (a.toNat = 244 ∧ hi = 143) ∨ (a.toNat ≠ 244 ∧ hi = 191) := by rw [hhi2]; split <;> (try split) <;> omega
      match r with
      | [] => exact ifD (fun _ => bad w2 hx2 (by simp only [dec, e128, e194, h224, h240, h245, if_false, if_true])) (fun h => absurd (by simp) h)
      | [b] => exact ifD (fun _ => bad w2 hx2 (by simp only [dec, e128, e194, h224, h240, h245, if_false, if_true])) (fun h => absurd (by simp) h)
      | [b, c] => exact ifD (fun _ => bad w2 hx2 (by simp only [dec, e128, e194, h224, h240, h245, if_false, if_true])) (fun h => absurd (by simp) h)
      | b :: c :: d :: t =>
        have hb := b.toNat_lt
        have hc := c.toNat_lt
        have hdd := d.toNat_lt
        have hd : dec (a :: b :: c :: d :: t) = if cont b = true ∧ cont c = true ∧ cont d = true ∧ 65536 ≤ v4 a b c d ∧ v4 a b c d ≤ 1114111 then (4, v4 a b c d) else (0, 0) := by simp only [dec, e128, e194, h224, h240, h245, if_false, if_true]
        refine ifD (fun h => by simp at h; omega) (fun _ => ?_)
        refine idx_str 1 (by kernel_rfl) rfl (by simp) ?_
        simp only [List.getElem_cons_succ, List.getElem_cons_zero]
        have nb : (b.toNat < lo ∨ hi < b.toNat ∨ c.toNat < 128 ∨ 191 < c.toNat ∨ d.toNat < 128 ∨ 191 < d.toNat) → (dec (a :: b :: c :: d :: t)).1 = 0 := fun h => by
          rw [hd, if_neg]
          rintro ⟨g1, g2, g3, g4, g5⟩
          simp only [cont, Bool.and_eq_true, decide_eq_true_eq] at g1 g2 g3
          unfold v4 at g4 g5
          omega
        refine ifD (fun h => bad w2 hx2 (nb (by have h' : (b.toNat : Int) < lo := h; omega))) (fun h1 => ifD (fun h => bad w2 hx2 (nb (by have h' : (hi : Int) < b.toNat := h; omega))) (fun h2 => ifD (fun h => absurd h (by decide)) (fun _ => ?_)))
        refine idx_str 2 (by kernel_rfl) rfl (by simp) ?_
        simp only [List.getElem_cons_succ, List.getElem_cons_zero]
        refine ifD (fun h => bad w2 hx2 (nb (by omega))) (fun h3 => ifD (fun h => bad w2 hx2 (nb (by omega))) (fun h4 => ifD (fun h => absurd h (by decide)) (fun _ => ?_)))
        refine idx_str 3 (by kernel_rfl) rfl (by simp) ?_
        simp only [List.getElem_cons_succ, List.getElem_cons_zero]
        refine ifD (fun h => bad w2 hx2 (nb (by omega))) (fun h5 => ifD (fun h => bad w2 hx2 (nb (by omega))) (fun h6 => ?_))
        have h1' : ¬ (b.toNat : Int) < lo := h1
        have h2' : ¬ (hi : Int) < b.toNat := h2
        have hlo3 : 128 ≤ lo := by omega
        have hhi3 : hi ≤ 191 := by omega
        have hin : cont b = true ∧ cont c = true ∧ cont d = true ∧ 65536 ≤ v4 a b c d ∧ v4 a b c d ≤ 1114111 := by
          refine ⟨by simp [cont]; omega, by simp [cont]; omega, by simp [cont]; omega, ?_, ?_⟩
          · unfold v4
            omega
          · unfold v4
            omega
        have := good w2 3 (v4 a b c d) hx2 (by rw [hd, if_pos hin])
        rw [bAnd_7, bAnd_63, bAnd_63, bAnd_63, i32_id (by omega) (by omega), i32_id (by omega) (by omega), i32_id (by omega) (by omega), i32_id (by omega) (by omega), show (6 : Int) = ((6 : Nat) : Int) from rfl, show (12 : Int) = ((12 : Nat) : Int) from rfl, show (18 : Int) = ((18 : Nat) : Int) from rfl,
          shL_i32 (by omega) (by omega), shL_i32 (by omega) (by omega), shL_i32 (by omega) (by omega)]
        have e1 : 2 ^ 18 * (a.toNat % 8) + 2 ^ 12 * (b.toNat % 64) = 2 ^ 12 * (2 ^ 6 * (a.toNat % 8) + b.toNat % 64) := by omega
        rw [bOr_add (by omega) (by omega), e1, bOr_add (by omega) (by omega)]
        have e2 : 2 ^ 12 * (2 ^ 6 * (a.toNat % 8) + b.toNat % 64) + 2 ^ 6 * (c.toNat % 64) = 2 ^ 6 * (2 ^ 6 * (2 ^ 6 * (a.toNat % 8) + b.toNat % 64) + c.toNat % 64) := by omega
        rw [e2, bOr_add (by omega) (by omega)]
        have e : 2 ^ 6 * (2 ^ 6 * (2 ^ 6 * (a.toNat % 8) + b.toNat % 64) + c.toNat % 64) + d.toNat % 64 = v4 a b c d := by
          have g1 := hin.1
          have g2 := hin.2.1
          have g3 := hin.2.2.1
          simp only [cont, Bool.and_eq_true, decide_eq_true_eq] at g1 g2 g3
          unfold v4; omega
        rw [e]
        exact this

theorem DecodeRuneInString_spec {s : List UInt8} {K : Int × Int → World → Prop} {w : World} (ht : Utf8T w)
    (hK : ∀ w', Ext w w' → K (if s = [] then (65533, 0) else (((uStep s).1 : Int), ((uStep s).2 : Int))) w') : unicode_utf8_DecodeRuneInString s K w := by
  unfold unicode_utf8_DecodeRuneInString
  match s with
  | [] => exact ifNot (ifStr (fun _ => unicode_utf8_decodeRuneInStringSlow_calls (slow_spec ht (fun a r h => by cases h) hK)) (fun h => absurd rfl h))
  | a :: r =>
    have ha := a.toNat_lt
    refine ifNot (ifStr (fun h => by cases h) (fun _ => ?_))
    refine idx_str 0 (by kernel_rfl) rfl (by simp) ?_
    simp only [List.getElem_cons_zero]
    refine ifD (fun h => ?_) (fun h => unicode_utf8_decodeRuneInStringSlow_calls (slow_spec ht (fun b t e => by cases e; omega) hK))
    refine idx_str 0 (by kernel_rfl) rfl (by simp) ?_
    simp only [List.getElem_cons_zero]
    have := hK w (Ext.rfl' _)
    rw [if_neg (by simp), show uStep (a :: r) = (a.toNat, 1) from by unfold uStep; simp [dec, show a.toNat < 128 from by omega]] at this
    rw [i32_id (by omega) (by omega)]
    exact this
end Go.Chg
/-
  cmp.Compare of numbers.
-/
set_option linter.unusedVariables false
namespace Go.Chg
open Go.Vc
end Go.Chg
/-
  strings.Compare.
-/
set_option linter.unusedVariables false
namespace Go.Chg
open Go.Vc
theorem compare_cmp : ∀ (a b : List UInt8), Lib.compareBytes a b = cmpS a b
  | [], [] => by decide
  | [], b :: ys => by
    have : ([] : List UInt8) < b :: ys := by simp
    unfold cmpS; rw [if_pos this]; rfl
  | a :: xs, [] => by
    have h1 : ¬ (a :: xs) < ([] : List UInt8) := by simp
    have h2 : ¬ (a :: xs) = ([] : List UInt8) := by simp
    unfold cmpS; rw [if_neg h1, if_neg h2]; rfl
  | a :: xs, b :: ys => by
    have ih := compare_cmp xs ys
    unfold Lib.compareBytes
    by_cases h1 : a < b
    · rw [if_pos h1]
      have : (a :: xs) < (b :: ys) := List.cons_lt_cons_iff.2 (.inl h1)
      unfold cmpS; rw [if_pos this]
    · by_cases h2 : b < a
      · rw [if_neg h1, if_pos h2]
        have h3 : (b :: ys) < (a :: xs) := List.cons_lt_cons_iff.2 (.inl h2)
        have h4 : ¬ (a :: xs) < (b :: ys) := str_lt_asymm h3
        have h5 : ¬ (a :: xs) = (b :: ys) := fun e => by rw [e] at h3; exact str_lt_irrefl _ h3
        unfold cmpS; rw [if_neg h4, if_neg h5]
      · rw [if_neg h1, if_neg h2, ih]
        have he : a = b := UInt8.le_antisymm (UInt8.not_lt.1 h2) (UInt8.not_lt.1 h1)
        subst he
        unfold cmpS
        by_cases h6 : xs < ys
        · rw [if_pos h6, if_pos (List.cons_lt_cons_iff.2 (.inr ⟨rfl, h6⟩))]
        · have h8 : ¬ (a :: xs) < (a :: ys) := fun h => by
            rcases List.cons_lt_cons_iff.1 h with h | ⟨_, h⟩
            · exact h1 h
            · exact h6 h
          by_cases h7 : xs = ys
          · rw [if_neg h6, if_pos h7, if_neg h8, if_pos (by rw [h7])]
          · rw [if_neg h6, if_neg h7, if_neg h8, if_neg (fun h => h7 (List.cons.inj h).2)]
end Go.Chg
/-
  What 'slices.Clone', 'varint' and 'changeoverref01' do with bytes.
-/
set_option maxRecDepth 20000
namespace Go.Chg
open Go.Vc

theorem slices_Clone_byte_byte_spec {s : Sl} {l : List UInt8} {K : Sl → World → Prop} {w : World} (hs : IsSl eB w s l) (hl : l.length ≤ 140737488355328)
    (hK : ∀ s' w', OwnSl eB w' w.heap.size s' l → Ext w w' → K s' w') : slices_Clone_byte_byte s K w := by
  unfold slices_Clone_byte_byte
  refine eqSlNil (by kernel_rfl) fun b hb => ifB_of (fun h => ?_) (fun _ => ?_)
  · have ha : s.a = none := by simpa [h] using hb.symm
    have := hs.nil ha
    have := hs.cap
    have := hs.len
    have h0 : l = [] := List.eq_nil_of_length_eq_zero (by omega)
    subst h0
    exact hK _ _ (.nil _ _ _) (Ext.rfl' _)
  · refine lit_ty 1 (E := eB) (xs := []) w.heap.size (by kernel_rfl) rfl (by decide) (fun w => by kernel_rfl) (Nat.le_refl _) fun s1 w1 _ ho hx => ?_
    refine app_ty 1 (by kernel_rfl) (by kernel_rfl) ho (hs.ext hx) (by simp; omega) hx.size (by decide) fun s2 w2 ho2 hg => ?_
    exact hK _ _ ho2 (below_grown hx hx.size hg ho.ge)

theorem varint_Put_spec {b : Sl} {l : List UInt8} {n : Int} {K : Sl → World → Prop} {w : World} (hb : IsSl eB w b l) (hn : n ≤ 9223372036854775807) (hl : l.length + 9 ≤ 140737488355328)
    (hK : ∀ s' w', OwnSl eB w' w.heap.size s' (l ++ enc n.toNat) → Ext w w' → K s' w') : varint_Put b n K w := by
  unfold varint_Put
  refine slices_Clone_byte_byte_calls (slices_Clone_byte_byte_spec hb (by omega) fun s1 w1 ho1 hx1 => ?_)
  have h9 := enc_len9 hn
  have himax : imax n 0 = (n.toNat : Int) := by unfold imax; split <;> omega
  rw [himax]
  refine ⟨fun n3 o4 w' => Ext w w' ∧ ∃ (k : Nat) (pre : List UInt8), n3 = (k : Int) ∧ (k : Int) ≤ 9223372036854775807 ∧ l ++ enc n.toNat = pre ++ enc k ∧ OwnSl eB w' w.heap.size o4 pre, fun n3 _ _ => n3.toNat, ⟨hx1, n.toNat, l, rfl, by omega, rfl, ho1⟩, ?_⟩
  rintro n3 o4 w4 ⟨hx, k, pre, rfl, hk, he, ho⟩
  have hlen := congrArg List.length he
  simp only [List.length_append] at hlen
  have hp := enc_pos k
  refine ifD (fun hge => ?_) (fun hlt => ?_)
  · have hbig : ¬ k < 128 := by omega
    have hlen2 := congrArg List.length (enc_big hbig)
    simp only [List.length_cons] at hlen2
    have e1 : bOr .u8 (IntKind.u8.wrap (k : Int)) 128 = ((b8 (k % 128 + 128)).toNat : Int) := by
      rw [bOr128, b8_toNat (by omega)]
      omega
    rw [e1]
    refine lit_ty 1 (E := eB) (xs := [b8 (k % 128 + 128)]) w.heap.size (by kernel_rfl) rfl (by decide) (fun w => by kernel_rfl) hx.size fun s5 w5 _ ho5 hx5 => ?_
    refine app_ty 1 (by kernel_rfl) (by kernel_rfl) (ho.ext hx5) ho5.is (by simp; omega) (Nat.le_trans hx.size hx5.size) (by decide) fun s6 w6 ho6 hg => ?_
    refine ⟨⟨below_grown (hx.trans' hx5) (Nat.le_trans hx.size hx5.size) hg ho.ge, k / 128, pre ++ [b8 (k % 128 + 128)], ?_, by omega, ?_, ho6⟩, ?_⟩
    · rw [shR7, Int.fdiv_eq_ediv_of_nonneg _ (by omega)]
      omega
    · rw [he, enc_big hbig]; simp
    · dsimp only
      rw [shR7, Int.fdiv_eq_ediv_of_nonneg _ (by omega)]
      omega
  · have hs : k < 128 := by omega
    have e1 : IntKind.u8.wrap (k : Int) = ((b8 k).toNat : Int) := by
      rw [u8_wrap (by omega) (by omega), b8_toNat (by omega)]
    rw [e1]
    refine lit_ty 1 (E := eB) (xs := [b8 k]) w.heap.size (by kernel_rfl) rfl (by decide) (fun w => by kernel_rfl) hx.size fun s5 w5 _ ho5 hx5 => ?_
    refine app_ty 1 (by kernel_rfl) (by kernel_rfl) (ho.ext hx5) ho5.is (by simp; omega) (Nat.le_trans hx.size hx5.size) (by decide) fun s6 w6 ho6 hg => ?_
    rw [← enc_small hs, ← he] at ho6
    exact hK _ _ ho6 (below_grown (hx.trans' hx5) (Nat.le_trans hx.size hx5.size) hg ho.ge)

theorem ref01_Bytes_spec {n : Int} {K : Sl → World → Prop} {w : World} (hn : n ≤ 9223372036854775807)
    (hK : ∀ s' w', OwnSl eB w' w.heap.size s' (enc n.toNat) → Ext w w' → K s' w') : ref01_Bytes n K w := by
  unfold ref01_Bytes
  have h9 := enc_len9 hn
  refine ⟨fun m w' => w = w' ∧ m = (n.toNat : Int), ifD (fun h => ⟨rfl, by omega⟩) (fun h => ⟨rfl, by omega⟩), ?_⟩
  rintro m _ ⟨rfl, rfl⟩
  refine ⟨fun n3 o4 w' => Ext w w' ∧ ∃ (k : Nat) (pre : List UInt8), n3 = (k : Int) ∧ (k : Int) ≤ 9223372036854775807 ∧ enc n.toNat = pre ++ enc k ∧ OwnSl eB w' w.heap.size o4 pre, fun n3 _ _ => n3.toNat, ⟨Ext.rfl' _, n.toNat, [], rfl, by omega, rfl, .nil _ _ _⟩, ?_⟩
  rintro n3 o4 w4 ⟨hx, k, pre, rfl, hk, he, ho⟩
  have hlen := congrArg List.length he
  simp only [List.length_append] at hlen
  have hp := enc_pos k
  refine ifD (fun hge => ?_) (fun hlt => ?_)
  · have hbig : ¬ k < 128 := by omega
    have hlen2 := congrArg List.length (enc_big hbig)
    simp only [List.length_cons] at hlen2
    have e1 : IntKind.u8.wrap (i64 (128 + (Int.tmod (k : Int) 128))) = ((b8 (k % 128 + 128)).toNat : Int) := by
      rw [b8_toNat (by omega), Int.tmod_eq_emod_of_nonneg (by omega), i64_id (by omega) (by omega), u8_wrap (by omega) (by omega)]
      omega
    have e2 : IntKind.i64.wrap (Int.tdiv (k : Int) 128) = ((k / 128 : Nat) : Int) := by
      rw [Int.tdiv_eq_ediv_of_nonneg (by omega)]
      exact i64_id (n := (k : Int) / 128) (by omega) (by omega)
    rw [e1]
    refine lit_ty 1 (E := eB) (xs := [b8 (k % 128 + 128)]) w.heap.size (by kernel_rfl) rfl (by decide) (fun w => by kernel_rfl) hx.size fun s5 w5 _ ho5 hx5 => ?_
    refine app_ty 1 (by kernel_rfl) (by kernel_rfl) (ho.ext hx5) ho5.is (by simp; omega) (Nat.le_trans hx.size hx5.size) (by decide) fun s6 w6 ho6 hg => ?_
    refine ⟨⟨below_grown (hx.trans' hx5) (Nat.le_trans hx.size hx5.size) hg ho.ge, k / 128, pre ++ [b8 (k % 128 + 128)], e2, by omega, ?_, ho6⟩, ?_⟩
    · rw [he, enc_big hbig]; simp
    · dsimp only
      rw [e2]; omega
  · have hs : k < 128 := by omega
    have e1 : IntKind.u8.wrap (k : Int) = ((b8 k).toNat : Int) := by
      rw [u8_wrap (by omega) (by omega), b8_toNat (by omega)]
    rw [e1]
    refine lit_ty 1 (E := eB) (xs := [b8 k]) w.heap.size (by kernel_rfl) rfl (by decide) (fun w => by kernel_rfl) hx.size fun s5 w5 _ ho5 hx5 => ?_
    refine app_ty 1 (by kernel_rfl) (by kernel_rfl) (ho.ext hx5) ho5.is (by simp; omega) (Nat.le_trans hx.size hx5.size) (by decide) fun s6 w6 ho6 hg => ?_
    rw [← enc_small hs, ← he] at ho6
    exact hK _ _ ho6 (below_grown (hx.trans' hx5) (Nat.le_trans hx.size hx5.size) hg ho.ge)

theorem varint_Get_spec {b : Sl} {l : List UInt8} {pos : Int} {K : Int × Int × Int → World → Prop} {w : World} (hb : IsSl eB w b l) (hK : K (getL l pos) w) : varint_Get b pos K w := by
  unfold varint_Get
  have hl := hb.len
  have hle := hb.le
  unfold getL at hK
  refine ifD (fun h => ?_) (fun h0 => ?_)
  · rwa [if_pos h] at hK
  rw [if_neg h0] at hK
  refine ifD (fun h => ?_) (fun h1 => ?_)
  · rwa [if_pos (by omega)] at hK
  rw [if_neg (by omega)] at hK
  obtain ⟨p, rfl⟩ := Int.eq_ofNat_of_zero_le (show 0 ≤ pos by omega)
  rw [Int.toNat_natCast] at hK
  -- where the loop ends: either the bytes are at an end, or a number stands
  refine ⟨fun n i w' => w = w' ∧ ((i = (l.length : Int) ∧ K (0, 0, 1) w) ∨ (0 ≤ n ∧ n ≤ 9223372036854775807 ∧ 0 ≤ i ∧ i < (l.length : Int) ∧ K (n, i + 1, 0) w)), ?_, ?_⟩
  · refine ⟨fun n i w' => w = w' ∧ ∃ (k m : Nat), n = (m : Int) ∧ i = (p : Int) + k ∧ p + k ≤ l.length ∧ k ≤ 9 ∧ m < 128 ^ k ∧ K (getG (l.drop (p + k)) k m ((p : Int) + k)) w, fun _ i _ => (l.length - i).toNat, ⟨rfl, 0, 0, rfl, by omega, by omega, by omega, by simp, by simpa using hK⟩, ?_⟩
    rintro n i _ ⟨rfl, k, m, rfl, rfl, hpk, hk9, hm, hG⟩
    have hpow := pow128_le hk9
    refine ifD (fun hlt => ?_) (fun hge => ?_)
    · have hk1 : p + k < l.length := by omega
      rw [List.drop_eq_getElem_cons hk1] at hG
      unfold getG at hG
      refine el_rd (E := eB) (by kernel_rfl) (by kernel_rfl) hb (k := p + k) (by omega) hk1 rfl fun _ => ?_
      generalize hc : l[p + k] = c at hG ⊢
      have hsub : i64 ((p : Int) + k - p) = k := by rw [i64_id] <;> omega
      have h7 : i64 (7 * (k : Int)) = 7 * k := by rw [i64_id] <;> omega
      have hc0 : ((c.toNat : Int) = 0) ↔ c = 0 := by
        constructor
        · intro h; exact UInt8.toNat_inj.1 (by simpa using h)
        · rintro rfl; rfl
      rw [hsub, h7]
      -- no fault here
      refine ⟨fun w' => w = w' ∧ ¬((0 < k ∧ c = 0) ∨ 9 ≤ k), ?_, ?_⟩
      · have hbad : ((0 < k ∧ c = 0) ∨ 9 ≤ k) → K (0, 0, 3) w := fun h => by rwa [if_pos h] at hG
        refine ifEq (fun hz => ?_) (fun hz => ?_)
        · refine ifD (fun hgt => ?_) (fun hgt => ?_)
          · exact ifD (fun _ => hbad (.inl ⟨by omega, hc0.1 hz⟩)) (fun h => absurd hgt h)
          · refine ifD (fun h => ?_) (fun h => ?_)
            · exact ifD (fun _ => hbad (.inr (by omega))) (fun h2 => absurd h h2)
            · refine ifD (fun h2 => absurd h2 (by omega)) (fun _ => ⟨rfl, ?_⟩)
              rintro (⟨h3, _⟩ | h3) <;> omega
        · refine ifD (fun h => ?_) (fun h => ?_)
          · exact ifD (fun _ => hbad (.inr (by omega))) (fun h2 => absurd h h2)
          · refine ifD (fun h2 => absurd h2 (by omega)) (fun _ => ⟨rfl, ?_⟩)
            rintro (⟨_, h3⟩ | h3)
            · exact hz (hc0.2 h3)
            · omega
      · rintro _ ⟨rfl, hgood⟩
        rw [if_neg hgood] at hG
        have hk8 : k ≤ 8 := by omega
        have hcm : c.toNat % 128 < 128 := Nat.mod_lt _ (by omega)
        have hst := step128 hm hcm
        have hpow2 := pow128_le (k := k + 1) (by omega)
        have h70 : (0 : Int) ≤ 7 * (k : Int) := by omega
        refine shl_rd h70 ?_
        rw [bAnd127, u64_wrap (by omega) (by omega), bOr64 hm hcm hk8]
        refine ifD (fun hlo => ?_) (fun hhi => ?_)
        · rw [if_pos (by omega)] at hG
          refine ⟨rfl, .inr ⟨by omega, by omega, by omega, by omega, ?_⟩⟩
          have e1 : c.toNat % 128 = c.toNat := by omega
          have e2 : (128 : Int) ^ k * (c.toNat : Int) = ((128 ^ k * c.toNat : Nat) : Int) := by simp
          rw [e1, Int.natCast_add, ← e2]
          exact hG
        · rw [if_neg (by omega)] at hG
          have e0 : i64 ((p : Int) + k + 1) = (p : Int) + k + 1 := by rw [i64_id] <;> omega
          rw [e0]
          refine ⟨⟨rfl, k + 1, m + 128 ^ k * (c.toNat % 128), rfl, by omega, by omega, by omega, hst, ?_⟩, by dsimp only; omega⟩
          have e2 : (128 : Int) ^ k * ((c.toNat % 128 : Nat) : Int) = ((128 ^ k * (c.toNat % 128) : Nat) : Int) := by simp
          rw [e2] at hG
          rw [Int.natCast_add, Int.natCast_add, ← Int.add_assoc]
          exact hG
    · have hk1 : p + k = l.length := by omega
      rw [hk1, List.drop_length] at hG
      exact ⟨rfl, .inl ⟨by omega, hG⟩⟩
  · rintro n i _ ⟨rfl, h⟩
    rcases h with ⟨rfl, h⟩ | ⟨h1, h2, h3, h4, h⟩
    · exact ifEq (fun _ => h) (fun h => absurd (by omega) h)
    · refine ifEq (fun h => absurd h (by omega)) (fun _ => ?_)
      rw [show IntKind.i64.wrap n = i64 n from rfl, i64_id (by omega) (by omega), i64_id (by omega) (by omega)]
      exact h

/-- ref01.Same: two lists of bytes. -/
theorem ref01_Same_spec {a b : Sl} {la lb : List UInt8} {K : Bool → World → Prop} {w : World} (ha : IsSl eB w a la) (hb : IsSl eB w b lb)
    (hK : ∀ w', Ext w w' → K (decide (la = lb)) w') : ref01_Same a b K w := by
  unfold ref01_Same
  have h1 := ha.len
  have h2 := hb.len
  have hle := ha.le
  refine ifNe (fun hne => ?_) (fun heq => ?_)
  · have := hK w (Ext.rfl' _)
    rwa [decide_eq_false] at this
    rintro rfl
    omega
  · have hll : la.length = lb.length := by omega
    refine ⟨fun i w' => Ext w w' ∧ ∃ k : Nat, i = k ∧ k ≤ la.length ∧ la.take k = lb.take k, fun i _ => (la.length - i).toNat, ⟨Ext.rfl' _, 0, rfl, by omega, rfl⟩, ?_⟩
    rintro i w1 ⟨hx, k, rfl, hk, ht⟩
    refine ifD (fun hlt => ?_) (fun hge => ?_)
    · have hk1 : k < la.length := by omega
      refine drew_of fun w2 hx2 => ?_
      have hx3 := hx.trans' hx2
      refine el_rd (by kernel_rfl) (by kernel_rfl) (ha.ext hx3) rfl hk1 rfl fun _ => ?_
      refine el_rd (by kernel_rfl) (by kernel_rfl) (hb.ext hx3) rfl (by omega) rfl fun _ => ?_
      refine ifNe (fun hne => ?_) (fun heq => ?_)
      · have := hK w2 hx3
        rwa [decide_eq_false] at this
        rintro rfl
        exact hne rfl
      · refine ⟨⟨hx3, k + 1, ?_, by omega, ?_⟩, ?_⟩
        · rw [i64_id] <;> omega
        · rw [List.take_succ_eq_append_getElem hk1, List.take_succ_eq_append_getElem (by omega), ht]
          congr 2
          exact UInt8.toNat_inj.1 (by omega)
        · dsimp only
          rw [i64_id] <;> omega
    · have := hK w1 hx
      rwa [decide_eq_true] at this
      have e1 : k = la.length := by omega
      subst e1
      rw [List.take_length, hll, List.take_length] at ht
      exact ht
end Go.Chg
/-
  How 'changeoverref01' reads a number.
-/
set_option maxRecDepth 20000
namespace Go.Chg
open Go.Vc
end Go.Chg
/-
  What package 'pack' does with its bytes, in plain Lean; and how a reader and a writer lie in memory.
-/
namespace Go.Vc
open Go.RowKit (Below)

/-- What stands after a read: the value, where the reader is, its fault. -/
def rdLim (l : List UInt8) (most : Int) (p no : Int) : Int × Int × Int :=
  ((getL l p).1, (getL l p).2.1, if (getL l p).2.2 ≠ 0 then (getL l p).2.2 else if most < (getL l p).1 then 2 else no)
def rdCounted (l : List UInt8) (most : Int) (p no : Int) : Int × Int × Int :=
  ((rdLim l most p no).1, (rdLim l most p no).2.1, if (rdLim l most p no).2.2 = 0 then (if (l.length : Int) - (rdLim l most p no).2.1 < (rdLim l most p no).1 then 1 else 0) else (rdLim l most p no).2.2)
def rdRaw (l : List UInt8) (most : Int) (p no : Int) : List UInt8 × Int × Int :=
  if (rdCounted l most p no).2.2 ≠ 0 then ([], (rdCounted l most p no).2)
  else ((l.drop (rdCounted l most p no).2.1.toNat).take (rdCounted l most p no).1.toNat, (rdCounted l most p no).2.1 + (rdCounted l most p no).1, 0)
def rdFlag (l : List UInt8) (p no : Int) : Bool × Int × Int :=
  match l.drop p.toNat with
  | [] => (false, p, 1)
  | c :: _ => (decide (c = 1), p + 1, if 1 < c.toNat then 3 else no)
/-- A read at a reader that may have failed before. -/
def rdOp {α : Type} (z : α) (f : Int → Int → α × Int × Int) (p no : Int) : α × Int × Int :=
  if no ≠ 0 then (z, p, no) else (if (f p no).2.2 ≠ 0 then z else (f p no).1, (f p no).2)

theorem rdLim_pos (l : List UInt8) (most p no : Int) : 0 ≤ (rdLim l most p no).2.1 ∧ (rdLim l most p no).2.1 ≤ l.length := getL_pos l p
theorem rdLim_num (l : List UInt8) (most p no : Int) : 0 ≤ (rdLim l most p no).1 := getL_num l p

/-- A reader in memory. -/
def Rd (w : World) (a : Addr) (l : List UInt8) (p no : Int) : Prop :=
  ∃ s, IsSl eB w s l ∧ Obj w a [s.val, .int .i64 p, .int .i64 no] ∧ (∀ b, s.blk = some b → b < a.block) ∧ 0 ≤ p ∧ p ≤ l.length
theorem ltne {s : Sl} {n : Nat} (h : ∀ b, s.blk = some b → b < n) : s.blk ≠ some n := fun e => absurd (h _ e) (Nat.lt_irrefl _)
/-- A writer in memory. -/
def Wt (w : World) (a : Addr) (l : List UInt8) : Prop :=
  ∃ s, IsSl eB w s l ∧ Obj w a [s.val] ∧ s.blk ≠ some a.block

variable {w w' : World} {a : Addr} {l : List UInt8} {p no : Int}
theorem Rd.ext (h : Rd w a l p no) (hx : Ext w w') : Rd w' a l p no := by
  obtain ⟨s, h1, h2, h3, h4⟩ := h
  exact ⟨s, h1.ext hx, h2.ext hx, h3, h4⟩
theorem Wt.ext (h : Wt w a l) (hx : Ext w w') : Wt w' a l := by
  obtain ⟨s, h1, h2, h3⟩ := h
  exact ⟨s, h1.ext hx, h2.ext hx, h3⟩
/-- A block that is newer than the reader may turn. -/
theorem Rd.wr {b : Nat} (h : Rd w a l p no) (hw : Wr b w w') (hb : a.block < b) : Rd w' a l p no := by
  obtain ⟨s, h1, h2, h3, h4⟩ := h
  exact ⟨s, h1.grownB (grown_wr hw) (fun c hc e => by have := h3 c hc; simp at e; omega), h2.keep (hw.block _ (by omega)), h3, h4⟩
theorem Rd.lt (h : Rd w a l p no) : a.block < w.heap.size := by
  obtain ⟨s, h1, h2, h3, h4⟩ := h
  exact h2.lt
theorem Wt.lt (h : Wt w a l) : a.block < w.heap.size := by
  obtain ⟨s, h1, h2, h3⟩ := h
  exact h2.lt
/-- A slice that lies elsewhere reads as before when one block has turned. -/
theorem IsSl.wrB {α : Type} {E : Enc α} {s : Sl} {xs : List α} {b : Nat} (h : IsSl E w s xs) (hw : Wr b w w') (hb : s.blk ≠ some b) : IsSl E w' s xs :=
  h.grownB (grown_wr hw) fun c hc e => hb (by rw [hc, e])
theorem OwnSl.blk_ne {α : Type} {E : Enc α} {s : Sl} {xs : List α} {B b : Nat} (h : OwnSl E w B s xs) (hb : b < B) : s.blk ≠ some b := fun e => by
  have := h.ge b e
  omega

theorem Ext.grown {w0 w w' : World} {b : Nat} (h : Ext w0 w) (hg : w.grownBy w' (some b)) (hb : w0.heap.size ≤ b) : Ext w0 w' :=
  below_grown h h.size hg fun r hr => by cases hr; exact hb
end Go.Vc
/-
  What the functions of package 'pack' do.
-/
set_option maxRecDepth 20000
namespace Go.Chg
open Go.Vc

/-! ### The writer -/
theorem pack_Writer_Number_nil {n : Int} {K : Unit → World → Prop} {w : World} (hK : K () w) : pack_Writer_Number none n K w := by
  unfold pack_Writer_Number
  exact nePtrNil (by kernel_rfl) fun b hb => ifB_f hb hK
theorem pack_Writer_Number_spec {a : Addr} {l : List UInt8} {n : Int} {K : Unit → World → Prop} {w : World} (h : Wt w a l) (hn : n ≤ 9223372036854775807) (hl : l.length + 9 ≤ 140737488355328)
    (hK : ∀ w', Wt w' a (l ++ enc n.toNat) → w.grownBy w' (some a.block) → K () w') : pack_Writer_Number (some a) n K w := by
  obtain ⟨s, h1, h2, h3⟩ := h
  unfold pack_Writer_Number
  refine nePtrNil (by kernel_rfl) fun b hb => ifB_t hb (nil_rd rfl (ld_obj (y := s) (by kernel_rfl) h2 rfl ?_))
  refine varint_Put_calls (varint_Put_spec h1 hn hl fun s1 w1 ho1 hx1 => ?_)
  refine nil_rd rfl (st_obj (by kernel_rfl) (h2.ext hx1) rfl (by simp) fun w2 hw2 hob => ?_)
  have hne := ho1.blk_ne h2.lt
  exact hK w2 ⟨s1, ho1.is.wrB hw2 hne, hob, hne⟩ (grown_trans (grown_ext hx1 _) (grown_wr hw2))

theorem pack_Writer_Raw_nil {b : Sl} {K : Unit → World → Prop} {w : World} (hK : K () w) : pack_Writer_Raw none b K w := by
  unfold pack_Writer_Raw
  exact nePtrNil (by kernel_rfl) fun b hb => ifB_f hb hK
theorem pack_Writer_Raw_spec {a : Addr} {l x : List UInt8} {b : Sl} {K : Unit → World → Prop} {w : World} (h : Wt w a l) (hb : IsSl eB w b x) (hl : l.length + 9 + x.length ≤ 140737488355328)
    (hK : ∀ w', Wt w' a (l ++ enc x.length ++ x) → w.grownBy w' (some a.block) → K () w') : pack_Writer_Raw (some a) b K w := by
  obtain ⟨s, h1, h2, h3⟩ := h
  have hbl := hb.len
  unfold pack_Writer_Raw
  refine nePtrNil (by kernel_rfl) fun c hc => ifB_t hc (nil_rd rfl (ld_obj (y := s) (by kernel_rfl) h2 rfl ?_))
  refine varint_Put_calls (varint_Put_spec h1 (by omega) (by omega) fun s1 w1 ho1 hx1 => ?_)
  have h9 := enc_len9 (n := (b.len : Int)) (by omega)
  refine app_ty 1 (by kernel_rfl) (by kernel_rfl) ho1 (hb.ext hx1) (by simp only [List.length_append]; omega) hx1.size (by decide) fun s2 w2 ho2 hg2 => ?_
  have hx2 : Ext w w2 := below_grown hx1 hx1.size hg2 ho1.ge
  refine nil_rd rfl (st_obj (by kernel_rfl) (h2.ext hx2) rfl (by simp) fun w3 hw3 hob => ?_)
  have hne := ho2.blk_ne h2.lt
  rw [Int.toNat_natCast, hbl] at ho2
  exact hK w3 ⟨s2, ho2.is.wrB hw3 hne, hob, hne⟩ (grown_trans (grown_ext hx2 _) (grown_wr hw3))

theorem pack_Writer_Text_nil {x : List UInt8} {K : Unit → World → Prop} {w : World} (hx : x.length ≤ 140737488355328) (hK : ∀ w', Ext w w' → K () w') : pack_Writer_Text none x K w := by
  unfold pack_Writer_Text
  refine str2b_ty (by kernel_rfl) (by kernel_rfl) (by omega) fun s w1 ho hx => ?_
  exact pack_Writer_Raw_calls (pack_Writer_Raw_nil (hK _ hx))
theorem pack_Writer_Text_spec {a : Addr} {l x : List UInt8} {K : Unit → World → Prop} {w : World} (h : Wt w a l) (hl : l.length + 9 + x.length ≤ 140737488355328)
    (hK : ∀ w', Wt w' a (l ++ enc x.length ++ x) → w.grownBy w' (some a.block) → K () w') : pack_Writer_Text (some a) x K w := by
  unfold pack_Writer_Text
  refine str2b_ty (by kernel_rfl) (by kernel_rfl) (by omega) fun s w1 ho hx => ?_
  exact pack_Writer_Raw_calls (pack_Writer_Raw_spec (h.ext hx) ho.is hl fun w2 hw hg => hK w2 hw (grown_trans (grown_ext hx _) hg))

def flagN (b : Bool) : Nat := if b then 1 else 0
theorem pack_Writer_Bytes_nil {K : Sl → World → Prop} {w : World} (hK : K Sl.nil w) : pack_Writer_Bytes none K w := by
  unfold pack_Writer_Bytes
  exact eqPtrNil (by kernel_rfl) fun b hb => ifB_t hb hK
theorem pack_Writer_Bytes_spec {a : Addr} {l : List UInt8} {K : Sl → World → Prop} {w : World} (h : Wt w a l) (hl : l.length ≤ 140737488355328)
    (hK : ∀ s w', OwnSl eB w' w.heap.size s l → Ext w w' → K s w') : pack_Writer_Bytes (some a) K w := by
  obtain ⟨s, h1, h2, h3⟩ := h
  unfold pack_Writer_Bytes
  refine eqPtrNil (by kernel_rfl) fun b hb => ifB_f hb (nil_rd rfl (ld_obj (y := s) (by kernel_rfl) h2 rfl ?_))
  exact slices_Clone_byte_byte_calls (slices_Clone_byte_byte_spec h1 hl hK)

/-! ### The reader -/
theorem pack_NewReader_spec {b : Sl} {l : List UInt8} {K : Option Addr → World → Prop} {w : World} (hb : IsSl eB w b l) (hl : l.length ≤ 140737488355328)
    (hK : ∀ a w', w.heap.size ≤ a.block → Rd w' a l 0 0 → Ext w w' → K (some a) w') : pack_NewReader b K w := by
  unfold pack_NewReader
  refine slices_Clone_byte_byte_calls (slices_Clone_byte_byte_spec hb hl fun s1 w1 ho1 hx1 => ?_)
  refine box_ty fun a w2 ha hx2 hob => ?_
  refine hK a w2 (by rw [ha]; exact hx1.size) ⟨s1, ho1.is.ext hx2, hob, fun b e => ?_, by omega, by omega⟩ (hx1.trans' hx2)
  rcases ho1 with h | ⟨g, cur, T, fr, h⟩
  · simp [Sl.blk, h.a] at e
  · have := (Array.getElem?_eq_some_iff.1 h.blk).1
    simp [Sl.blk, h.a] at e
    omega

theorem pack_Reader_Err_nil {K : Int → World → Prop} {w : World} (hK : K 1 w) : pack_Reader_Err none K w := by
  unfold pack_Reader_Err
  exact eqPtrNil (by kernel_rfl) fun b hb => ifB_t hb hK
theorem pack_Reader_Err_spec {a : Addr} {l : List UInt8} {p no : Int} {K : Int → World → Prop} {w : World} (h : Rd w a l p no) (hK : K no w) : pack_Reader_Err (some a) K w := by
  obtain ⟨s, h1, h2, h3, h4⟩ := h
  unfold pack_Reader_Err
  exact eqPtrNil (by kernel_rfl) fun b hb => ifB_f hb (nil_rd rfl (ld_obj (by kernel_rfl) h2 rfl hK))

theorem pack_Reader_left_spec {a : Addr} {l : List UInt8} {p no : Int} {K : Int → World → Prop} {w : World} (h : Rd w a l p no) (hK : ∀ w', Ext w w' → K ((l.length : Int) - p) w') : pack_Reader_left (some a) K w := by
  obtain ⟨s, h1, h2, h3, h4, h5⟩ := h
  have hl := h1.len
  have hle := h1.le
  unfold pack_Reader_left
  refine drew_of fun w1 hx1 => nil_rd rfl (ld_obj (y := s) (by kernel_rfl) (h2.ext hx1) rfl (nil_rd rfl (ld_obj (y := p) (by kernel_rfl) (h2.ext hx1) rfl ?_)))
  rw [i64_id (by omega) (by omega), hl]
  exact hK w1 hx1

theorem pack_Reader_Done_nil {K : Int → World → Prop} {w : World} (hK : K 1 w) : pack_Reader_Done none K w := by
  unfold pack_Reader_Done
  exact pack_Reader_Err_calls (pack_Reader_Err_nil hK)
theorem pack_Reader_Done_spec {a : Addr} {l : List UInt8} {p no : Int} {K : Int → World → Prop} {w : World} (h : Rd w a l p no) (hK : ∀ w', Ext w w' → K (if no ≠ 0 then no else if p < l.length then 3 else 0) w') : pack_Reader_Done (some a) K w := by
  unfold pack_Reader_Done
  refine pack_Reader_Err_calls (pack_Reader_Err_spec h ?_)
  refine ifNe (fun hne => ?_) (fun h0 => ?_)
  · have := hK w (Ext.rfl' _)
    rwa [if_pos hne] at this
  · refine pack_Reader_left_calls (pack_Reader_left_spec h fun w1 hx1 => ?_)
    have := hK w1 hx1
    rw [if_neg (by omega)] at this
    exact ifD (fun h => by rwa [if_pos (by omega)] at this) (fun h => by rwa [if_neg (by omega)] at this)

theorem pack_Reader_fail_spec {a : Addr} {l : List UInt8} {p no e : Int} {K : Unit → World → Prop} {w : World} (h : Rd w a l p no) (hK : ∀ w', Rd w' a l p e → Wr a.block w w' → K () w') : pack_Reader_fail (some a) e K w := by
  obtain ⟨s, h1, h2, h3, h4⟩ := h
  unfold pack_Reader_fail
  exact nil_rd rfl (st_obj (by kernel_rfl) h2 rfl (by simp) fun w2 hw2 hob => hK w2 ⟨s, h1.wrB hw2 (ltne h3), hob, h3, h4⟩ hw2)

theorem pack_Reader_limited_spec {a : Addr} {l : List UInt8} {p no most : Int} {K : Int → World → Prop} {w : World} (h : Rd w a l p no)
    (hK : ∀ w', Rd w' a l (rdLim l most p no).2.1 (rdLim l most p no).2.2 → w.grownBy w' (some a.block) → K (rdLim l most p no).1 w') : pack_Reader_limited (some a) most K w := by
  obtain ⟨s, h1, h2, h3, h4⟩ := h
  have hpos := getL_pos l p
  unfold pack_Reader_limited
  refine heldM_of (fun w' => Vc.Obj w' a [s.val, .int .i64 p, .int .i64 no]) fun w1 hx1 => ⟨h2.ext hx1, ?_⟩
  refine opH_of a (fun w' hw => nil_rd rfl rfl) ?_
  refine opH_of s (fun w' hw => ld_obj (by kernel_rfl) hw rfl rfl) ?_
  refine opH_of a (fun w' hw => nil_rd rfl rfl) ?_
  refine opH_of p (fun w' hw => ld_obj (by kernel_rfl) hw rfl rfl) ?_
  refine varint_Get_calls (varint_Get_spec (h1.ext hx1) ⟨h2.ext hx1, ?_⟩)
  have hr : Rd w1 a l p no := ⟨s, h1.ext hx1, h2.ext hx1, h3, h4⟩
  -- the place is written last
  have last : ∀ (w' : World) (e : Int), Rd w' a l p e → e = (rdLim l most p no).2.2 → w1.grownBy w' (some a.block) →
      opRd Pr (nilSem (.pointer (some a))) pav (fun t11 => opUn Pr (Instr.storeAt 3 (.pointer (some (t11.add 1))) (.int .i64 (getL l p).2.1)) (fun w12 => K (getL l p).1 w12) w') w' := by
    intro w' e hr he hg
    obtain ⟨s', g1, g2, g3, g4⟩ := hr
    subst he
    exact nil_rd rfl (st_obj (by kernel_rfl) g2 rfl (by simp) fun w3 hw3 hob => hK w3 ⟨s', g1.wrB hw3 (ltne g3), hob, g3, hpos⟩ (grown_trans (grown_trans (grown_ext hx1 _) hg) (grown_wr hw3)))
  refine ifNe (fun hne => ?_) (fun h0 => ?_)
  · exact pack_Reader_fail_calls (pack_Reader_fail_spec hr fun w2 hr2 hw2 => last w2 _ hr2 (by simp [rdLim, hne]) (grown_wr hw2))
  · refine ifD (fun hgt => ?_) (fun hle => ?_)
    · exact pack_Reader_fail_calls (pack_Reader_fail_spec hr fun w2 hr2 hw2 => last w2 _ hr2 (by simp only [rdLim]; rw [if_neg (by omega), if_pos (by omega)]) (grown_wr hw2))
    · exact last w1 _ hr (by simp only [rdLim]; rw [if_neg (by omega), if_neg (by omega)]) (grown_refl _ _)

theorem pack_Reader_counted_spec {a : Addr} {l : List UInt8} {p no most : Int} {K : Int → World → Prop} {w : World} (h : Rd w a l p no)
    (hK : ∀ w', Rd w' a l (rdCounted l most p no).2.1 (rdCounted l most p no).2.2 → w.grownBy w' (some a.block) → K (rdCounted l most p no).1 w') : pack_Reader_counted (some a) most K w := by
  unfold pack_Reader_counted
  refine pack_Reader_limited_calls (pack_Reader_limited_spec h fun w1 hr1 hg1 => ?_)
  have hr1' := hr1
  obtain ⟨s, h1, h2, h3, h4, h5⟩ := hr1'
  refine nil_rd rfl (ld_obj (by kernel_rfl) h2 rfl ?_)
  refine ifEq (fun h0 => ?_) (fun hne => ?_)
  · refine pack_Reader_left_calls (pack_Reader_left_spec hr1 fun w2 hx2 => ?_)
    refine ifD (fun hgt => ?_) (fun hle => ?_)
    · refine pack_Reader_fail_calls (pack_Reader_fail_spec (hr1.ext hx2) fun w3 hr3 hw3 => hK w3 ?_ (grown_trans hg1 (grown_trans (grown_ext hx2 _) (grown_wr hw3))))
      simp only [rdCounted, h0, if_true]
      rw [if_pos (by omega)]
      exact hr3
    · refine hK w2 ?_ (grown_trans hg1 (grown_ext hx2 _))
      simp only [rdCounted, h0, if_true]
      rw [if_neg (by omega)]
      rw [h0] at hr1
      exact hr1.ext hx2
  · refine hK w1 ?_ hg1
    simp only [rdCounted]
    rw [if_neg hne]
    exact hr1

theorem pack_Reader_raw_spec {a : Addr} {l : List UInt8} {p no most : Int} {K : Sl → World → Prop} {w : World} (h : Rd w a l p no) (hl : l.length ≤ 140737488355328)
    (hK : ∀ s w', OwnSl eB w' w.heap.size s (rdRaw l most p no).1 → Rd w' a l (rdRaw l most p no).2.1 (rdRaw l most p no).2.2 → w.grownBy w' (some a.block) → K s w') : pack_Reader_raw (some a) most K w := by
  unfold pack_Reader_raw
  refine pack_Reader_counted_calls (pack_Reader_counted_spec (most := most) h fun w1 hr1 hg1 => ?_)
  have hr1' := hr1
  obtain ⟨s, h1, h2, h3, h4, h5⟩ := hr1'
  have hn0 : 0 ≤ (rdCounted l most p no).1 := rdLim_num l most p no
  refine nil_rd rfl (ld_obj (by kernel_rfl) h2 rfl ?_)
  refine ifNe (fun hne => ?_) (fun h0 => ?_)
  · refine hK _ _ ?_ ?_ hg1
    · simp only [rdRaw]
      rw [if_pos hne]
      exact .nil _ _ _
    · simp only [rdRaw]
      rw [if_pos hne]
      exact hr1
  · refine nil_rd rfl (ld_obj (by kernel_rfl) h2 rfl ?_)
    have hfit : (rdCounted l most p no).2.1 + (rdCounted l most p no).1 ≤ l.length := by
      have h0' := h0
      simp only [rdCounted] at h0' ⊢
      split at h0'
      · split at h0'
        · omega
        · omega
      · omega
    generalize hq : (rdCounted l most p no).2.1 = q at h2 h4 h5 hfit hK ⊢
    generalize hm : (rdCounted l most p no).1 = m at hn0 hfit hK ⊢
    rw [i64_id (n := q + m) (by omega) (by omega)]
    refine nil_rd rfl (st_obj (by kernel_rfl) h2 rfl (by simp) fun w2 hw2 hob => ?_)
    refine heldM_of (fun w' => Vc.Obj w' a [s.val, .int .i64 (q + m), .int .i64 (rdCounted l most p no).2.2] ∧ IsSl eB w' s l) fun w3 hx3 => ⟨⟨hob.ext hx3, (h1.wrB hw2 (ltne h3)).ext hx3⟩, ?_⟩
    refine opH_of a (fun w' hw => nil_rd rfl rfl) ?_
    refine opH_of s (fun w' hw => ld_obj (by kernel_rfl) hw.1 rfl rfl) ?_
    refine opH_of a (fun w' hw => nil_rd rfl rfl) ?_
    refine opH_of (q + m) (fun w' hw => ld_obj (by kernel_rfl) hw.1 rfl rfl) ?_
    refine opH_of a (fun w' hw => nil_rd rfl rfl) ?_
    refine opH_of (q + m) (fun w' hw => ld_obj (by kernel_rfl) hw.1 rfl rfl) ?_
    have e1 : i64 (q + m - m) = (q.toNat : Int) := by rw [i64_id (by omega) (by omega)]; omega
    rw [e1]
    have hsub := ((h1.wrB hw2 (ltne h3)).ext hx3).sub (i := q.toNat) (j := (q + m).toNat) (by omega) (by omega)
    refine opH_of (s.sub q.toNat (q + m).toNat eB.sz) (fun w' hw => ?_) ?_
    · refine sub_lh' (by kernel_rfl) hw.2 rfl (n := (q + m).toNat) (by omega) (by omega) (by omega) rfl
    · refine slices_Clone_byte_byte_calls (slices_Clone_byte_byte_spec hsub (by simp; omega) fun s4 w4 ho4 hx4 => ?_)
      have hg3 : w.grownBy w3 (some a.block) := grown_trans hg1 (grown_trans (grown_wr hw2) (grown_ext hx3 _))
      refine ⟨⟨(hob.ext hx3).ext hx4, ((h1.wrB hw2 (ltne h3)).ext hx3).ext hx4⟩, hK _ _ ?_ ?_ (grown_trans hg3 (grown_ext hx4 _))⟩
      · simp only [rdRaw]
        rw [if_neg (by omega)]
        rw [hq, hm]
        rw [show (q + m).toNat - q.toNat = m.toNat from by omega] at ho4
        exact ho4.mono hg3.size
      · simp only [rdRaw]
        rw [if_neg (by omega)]
        simp only
        rw [hq, hm]
        refine ⟨s, ((h1.wrB hw2 (ltne h3)).ext hx3).ext hx4, ?_, h3, by omega, by omega⟩
        rw [h0] at hob
        exact (hob.ext hx3).ext hx4

end Go.Chg
/-
  The reader's five reads.
-/
set_option maxRecDepth 20000
namespace Go.Chg
open Go.Vc

theorem pack_Reader_Number_nil {most : Int} {K : Int → World → Prop} {w : World} (hK : ∀ w', Ext w w' → K 0 w') : pack_Reader_Number none most K w := by
  unfold pack_Reader_Number
  refine box_ty fun r1 w1 h1 hx1 o1 => box_ty fun m1 w2 h2 hx2 o2 => ?_
  refine ld_obj0 (by kernel_rfl) (o1.ext hx2) rfl ?_
  refine pack_read_int_Number_calls ?_
  unfold pack_read_int_Number
  exact eqPtrNil (by kernel_rfl) fun b hb => ifB_t hb (hK _ (hx1.trans' hx2))
theorem pack_Reader_Count_nil {most : Int} {K : Int → World → Prop} {w : World} (hK : ∀ w', Ext w w' → K 0 w') : pack_Reader_Count none most K w := by
  unfold pack_Reader_Count
  refine box_ty fun r1 w1 h1 hx1 o1 => box_ty fun m1 w2 h2 hx2 o2 => ?_
  refine ld_obj0 (by kernel_rfl) (o1.ext hx2) rfl ?_
  refine pack_read_int_Count_calls ?_
  unfold pack_read_int_Count
  exact eqPtrNil (by kernel_rfl) fun b hb => ifB_t hb (hK _ (hx1.trans' hx2))
theorem pack_Reader_Raw_nil {most : Int} {K : Sl → World → Prop} {w : World} (hK : ∀ w', Ext w w' → K Sl.nil w') : pack_Reader_Raw none most K w := by
  unfold pack_Reader_Raw
  refine box_ty fun r1 w1 h1 hx1 o1 => box_ty fun m1 w2 h2 hx2 o2 => ?_
  refine ld_obj0 (by kernel_rfl) (o1.ext hx2) rfl ?_
  refine pack_read_byte_Raw_calls ?_
  unfold pack_read_byte_Raw
  exact eqPtrNil (by kernel_rfl) fun b hb => ifB_t hb (hK _ (hx1.trans' hx2))
theorem pack_Reader_Text_nil {most : Int} {K : List UInt8 → World → Prop} {w : World} (hK : ∀ w', Ext w w' → K [] w') : pack_Reader_Text none most K w := by
  unfold pack_Reader_Text
  exact pack_Reader_Raw_calls (pack_Reader_Raw_nil fun w1 hx => b2str_rd (by kernel_rfl) (by kernel_rfl) (IsSl.nilSl eB w1) (hK _ hx))
def rdNumber (l : List UInt8) (most : Int) : Int → Int → Int × Int × Int := rdOp 0 (rdLim l most)
def rdCount (l : List UInt8) (most : Int) : Int → Int → Int × Int × Int := rdOp 0 (rdCounted l most)
def rdText (l : List UInt8) (most : Int) : Int → Int → List UInt8 × Int × Int := rdOp [] (rdRaw l most)
def rdBool (l : List UInt8) : Int → Int → Bool × Int × Int := rdOp false (rdFlag l)

theorem rdOp_z {α : Type} {z : α} {f : Int → Int → α × Int × Int} {p no : Int} (h : no ≠ 0) : rdOp z f p no = (z, p, no) := by unfold rdOp; rw [if_pos h]
theorem rdOp_bad {α : Type} {z : α} {f : Int → Int → α × Int × Int} {p no : Int} (h : no = 0) (h2 : (f p no).2.2 ≠ 0) : rdOp z f p no = (z, (f p no).2) := by unfold rdOp; rw [if_neg (by omega), if_pos h2]
theorem rdOp_ok {α : Type} {z : α} {f : Int → Int → α × Int × Int} {p no : Int} (h : no = 0) (h2 : (f p no).2.2 = 0) : rdOp z f p no = f p no := by unfold rdOp; rw [if_neg (by omega), if_neg (by omega)]

/-- A read that goes by the way of the wrapper: the reader's cell and the limit's are new. -/
theorem Rd.new {w w' : World} {a : Addr} {l : List UInt8} {p no : Int} (h : Rd w a l p no) (hx : Ext w w') : Rd w' a l p no := h.ext hx

theorem pack_Reader_Number_spec {a : Addr} {l : List UInt8} {p no most : Int} {K : Int → World → Prop} {w : World} (h : Rd w a l p no)
    (hK : ∀ w', Rd w' a l (rdNumber l most p no).2.1 (rdNumber l most p no).2.2 → w.grownBy w' (some a.block) → K (rdNumber l most p no).1 w') : pack_Reader_Number (some a) most K w := by
  unfold pack_Reader_Number
  refine box_ty fun r1 w1 h1 hx1 o1 => box_ty fun m1 w2 h2 hx2 o2 => ?_
  have o1' := o1.ext hx2
  have hx := hx1.trans' hx2
  refine ld_obj0 (by kernel_rfl) o1' rfl ?_
  refine pack_read_int_Number_calls ?_
  unfold pack_read_int_Number
  refine eqPtrNil (by kernel_rfl) fun b hb => ifB_f hb ?_
  obtain ⟨s, g1, g2, g3⟩ := h.ext hx
  refine nil_rd rfl (ld_obj (by kernel_rfl) g2 rfl ?_)
  refine ifNe (fun hne => ?_) (fun h0 => ?_)
  · have := hK w2
    rw [show rdNumber l most p no = _ from rdOp_z hne] at this
    exact this (h.ext hx) (grown_ext hx _)
  · refine pack_Reader_Number_1_calls ?_
    unfold pack_Reader_Number_1
    refine ld_obj0 (by kernel_rfl) o1' rfl (ld_obj0 (by kernel_rfl) o2 rfl ?_)
    refine pack_Reader_limited_calls (pack_Reader_limited_spec (most := most) (h.ext hx) fun w3 hr3 hg3 => ?_)
    have hr3' := hr3
    obtain ⟨s3, k1, k2, k3⟩ := hr3'
    refine nil_rd rfl (ld_obj (by kernel_rfl) k2 rfl ?_)
    have hg := grown_trans (grown_ext hx _) hg3
    refine ifNe (fun hne => ?_) (fun h02 => ?_)
    · have := hK w3
      rw [show rdNumber l most p no = _ from rdOp_bad h0 hne] at this
      exact this hr3 hg
    · have := hK w3
      rw [show rdNumber l most p no = _ from rdOp_ok h0 h02] at this
      exact this hr3 hg
theorem pack_Reader_Count_spec {a : Addr} {l : List UInt8} {p no most : Int} {K : Int → World → Prop} {w : World} (h : Rd w a l p no)
    (hK : ∀ w', Rd w' a l (rdCount l most p no).2.1 (rdCount l most p no).2.2 → w.grownBy w' (some a.block) → K (rdCount l most p no).1 w') : pack_Reader_Count (some a) most K w := by
  unfold pack_Reader_Count
  refine box_ty fun r1 w1 h1 hx1 o1 => box_ty fun m1 w2 h2 hx2 o2 => ?_
  have o1' := o1.ext hx2
  have hx := hx1.trans' hx2
  refine ld_obj0 (by kernel_rfl) o1' rfl ?_
  refine pack_read_int_Count_calls ?_
  unfold pack_read_int_Count
  refine eqPtrNil (by kernel_rfl) fun b hb => ifB_f hb ?_
  obtain ⟨s, g1, g2, g3⟩ := h.ext hx
  refine nil_rd rfl (ld_obj (by kernel_rfl) g2 rfl ?_)
  refine ifNe (fun hne => ?_) (fun h0 => ?_)
  · have := hK w2
    rw [show rdCount l most p no = _ from rdOp_z hne] at this
    exact this (h.ext hx) (grown_ext hx _)
  · refine pack_Reader_Count_1_calls ?_
    unfold pack_Reader_Count_1
    refine ld_obj0 (by kernel_rfl) o1' rfl (ld_obj0 (by kernel_rfl) o2 rfl ?_)
    refine pack_Reader_counted_calls (pack_Reader_counted_spec (most := most) (h.ext hx) fun w3 hr3 hg3 => ?_)
    have hr3' := hr3
    obtain ⟨s3, k1, k2, k3⟩ := hr3'
    refine nil_rd rfl (ld_obj (by kernel_rfl) k2 rfl ?_)
    have hg := grown_trans (grown_ext hx _) hg3
    refine ifNe (fun hne => ?_) (fun h02 => ?_)
    · have := hK w3
      rw [show rdCount l most p no = _ from rdOp_bad h0 hne] at this
      exact this hr3 hg
    · have := hK w3
      rw [show rdCount l most p no = _ from rdOp_ok h0 h02] at this
      exact this hr3 hg
theorem pack_Reader_Raw_spec {a : Addr} {l : List UInt8} {p no most : Int} {K : Sl → World → Prop} {w : World} (h : Rd w a l p no) (hl : l.length ≤ 140737488355328)
    (hK : ∀ s w', OwnSl eB w' w.heap.size s (rdText l most p no).1 → Rd w' a l (rdText l most p no).2.1 (rdText l most p no).2.2 → w.grownBy w' (some a.block) → K s w') : pack_Reader_Raw (some a) most K w := by
  unfold pack_Reader_Raw
  refine box_ty fun r1 w1 h1 hx1 o1 => box_ty fun m1 w2 h2 hx2 o2 => ?_
  have o1' := o1.ext hx2
  have hx := hx1.trans' hx2
  refine ld_obj0 (by kernel_rfl) o1' rfl ?_
  refine pack_read_byte_Raw_calls ?_
  unfold pack_read_byte_Raw
  refine eqPtrNil (by kernel_rfl) fun b hb => ifB_f hb ?_
  obtain ⟨s, g1, g2, g3⟩ := h.ext hx
  refine nil_rd rfl (ld_obj (by kernel_rfl) g2 rfl ?_)
  refine ifNe (fun hne => ?_) (fun h0 => ?_)
  · have := hK Sl.nil w2
    rw [show rdText l most p no = _ from rdOp_z hne] at this
    exact this (.nil _ _ _) (h.ext hx) (grown_ext hx _)
  · refine pack_Reader_Raw_1_calls ?_
    unfold pack_Reader_Raw_1
    refine ld_obj0 (by kernel_rfl) o1' rfl (ld_obj0 (by kernel_rfl) o2 rfl ?_)
    refine pack_Reader_raw_calls (pack_Reader_raw_spec (most := most) (h.ext hx) hl fun s3 w3 ho3 hr3 hg3 => ?_)
    have hr3' := hr3
    obtain ⟨s4, k1, k2, k3⟩ := hr3'
    refine nil_rd rfl (ld_obj (by kernel_rfl) k2 rfl ?_)
    have hg := grown_trans (grown_ext hx _) hg3
    refine ifNe (fun hne => ?_) (fun h02 => ?_)
    · have := hK Sl.nil w3
      rw [show rdText l most p no = _ from rdOp_bad h0 hne] at this
      exact this (.nil _ _ _) hr3 hg
    · have := hK s3 w3
      rw [show rdText l most p no = _ from rdOp_ok h0 h02] at this
      exact this (ho3.mono hx.size) hr3 hg
theorem pack_Reader_Text_spec {a : Addr} {l : List UInt8} {p no most : Int} {K : List UInt8 → World → Prop} {w : World} (h : Rd w a l p no) (hl : l.length ≤ 140737488355328)
    (hK : ∀ w', Rd w' a l (rdText l most p no).2.1 (rdText l most p no).2.2 → w.grownBy w' (some a.block) → K (rdText l most p no).1 w') : pack_Reader_Text (some a) most K w := by
  unfold pack_Reader_Text
  exact pack_Reader_Raw_calls (pack_Reader_Raw_spec h hl fun s w1 ho hr hg => b2str_rd (by kernel_rfl) (by kernel_rfl) ho.is (hK _ hr hg))
end Go.Chg
