/-
  What package utf8 does with the head of a text.
-/
import GoSem.PinnedTables
import Derived.Test.YtapepehccddjpaaDoorUtf
import Derived.Test.YtapepehccddjpaaDoorBits
import Derived.Test.YtapepehccddjpaaDoorFns
import Derived.Test.YtapepehccddjpaaDoorTyr
set_option maxRecDepth 20000
set_option linter.unusedVariables false
namespace Go.Chg
open Go.Vc

/-- The two tables of package utf8. -/
structure Utf8T (w : World) : Prop where
  first : GlobAt w g_unicode_utf8_first (Go.Pinned.utf8FirstZ.map fun (n : Nat) => Value.int .u8 (n : Int))
  accept : GlobAt w g_unicode_utf8_acceptRanges ([128, 191, 160, 191, 128, 159, 144, 191, 128, 143].map fun n => Value.int .u8 n)
theorem Utf8T.ext {w w' : World} (h : Utf8T w) (hx : Ext w w') : Utf8T w' := ⟨h.first.ext hx, h.accept.ext hx⟩

def firstOf (c : Nat) : Nat := if c < 128 then 240 else if c < 194 then 241 else if c < 224 then 2 else if c = 224 then 19 else if c = 237 then 35 else if c < 240 then 3 else if c = 240 then 52 else if c < 244 then 4 else if c = 244 then 68 else 241
theorem first_get (b : UInt8) : (Go.Pinned.utf8FirstZ.map fun (n : Nat) => Value.int .u8 (n : Int))[b.toNat]? = some (.int .u8 (firstOf b.toNat : Int)) := by
  have key : ∀ x : Fin 256, Go.Pinned.utf8FirstZ[x.val]? = some (firstOf x.val) := by decide +kernel
  rw [List.getElem?_map, key ⟨b.toNat, b.toNat_lt⟩]
  rfl

theorem slow_spec {s : List UInt8} {K : Int × Int → World → Prop} {w : World} (ht : Utf8T w) (h1 : ∀ a r, s = a :: r → 128 ≤ a.toNat)
    (hK : ∀ w', Ext w w' → K (if s = [] then (65533, 0) else (((uStep s).1 : Int), ((uStep s).2 : Int))) w') : unicode_utf8_decodeRuneInStringSlow s K w := by
  unfold unicode_utf8_decodeRuneInStringSlow
  match s with
  | [] => exact ifD (fun _ => hK w (Ext.rfl' _)) (fun h => absurd (by simp) h)
  | a :: r =>
    have ha := a.toNat_lt
    have ha2 := h1 a r rfl
    rw [if_neg (by simp)] at hK
    refine ifD (fun h => by simp at h; omega) (fun _ => ?_)
    refine idx_str 0 (by kernel_rfl) rfl (by simp) ?_
    simp only [List.getElem_cons_zero]
    refine ix_ar (n := 256) (z := 1) a.toNat (by kernel_rfl) rfl ha ?_
    refine ld_cell (y := (firstOf a.toNat : Int)) (by kernel_rfl) (ht.first.cell (by rw [Nat.mul_one]; exact first_get a)) ?_
    have bad : ∀ w', Ext w w' → (dec (a :: r)).1 = 0 → K (65533, 1) w' := fun w' hx h0 => by
      have := hK w' hx
      rw [show uStep (a :: r) = (65533, 1) from by unfold uStep; rw [if_pos h0]] at this
      exact this
    have good : ∀ w' n v, Ext w w' → dec (a :: r) = (n + 1, v) → K ((v : Int), ((n + 1 : Nat) : Int)) w' := fun w' n v hx h0 => by
      have := hK w' hx
      rw [show uStep (a :: r) = (v, n + 1) from by unfold uStep; rw [h0]; simp] at this
      exact this
    -- what is no rune
    by_cases hbad : a.toNat < 194 ∨ 245 ≤ a.toNat
    · have hf : firstOf a.toNat = 241 := by (unfold firstOf; repeat' split) <;> omega
      rw [hf]
      refine ifD (fun _ => ?_) (fun h => by omega)
      refine idx_str 0 (by kernel_rfl) rfl (by simp) ?_
      simp only [List.getElem_cons_zero]
      have key : ∀ x : Fin 256, bOr .i32 (bAndNot .i32 (IntKind.i32.wrap (x.val : Int)) (shR .i32 (shL .i32 (IntKind.i32.wrap ((241 : Nat) : Int)) 31) 31)) (bAnd .i32 65533 (shR .i32 (shL .i32 (IntKind.i32.wrap ((241 : Nat) : Int)) 31) 31)) = 65533 := by decide +kernel
      rw [key ⟨a.toNat, ha⟩]
      refine bad w (Ext.rfl' _) ?_
      have e1 : ¬ a.toNat < 128 := by omega
      simp only [dec, e1, if_false]
      split
      · rfl
      · rw [if_neg (by omega), if_neg (by omega), if_neg (by omega)]
    -- which row of the second table
    obtain ⟨sz, row, lo, hi, hx, hsz, hrow, hlo, hhi, hr1, hsz4⟩ : ∃ (sz row lo hi : Nat), firstOf a.toNat = 16 * row + sz ∧ (sz = if a.toNat < 224 then 2 else if a.toNat < 240 then 3 else 4) ∧ row < 5 ∧
        ([128, 191, 160, 191, 128, 159, 144, 191, 128, 143] : List Int)[2 * row]? = some (lo : Int) ∧ ([128, 191, 160, 191, 128, 159, 144, 191, 128, 143] : List Int)[2 * row + 1]? = some (hi : Int) ∧
        ((lo = if a.toNat = 224 then 160 else if a.toNat = 240 then 144 else 128) ∧ (hi = if a.toNat = 237 then 159 else if a.toNat = 244 then 143 else 191)) ∧ sz < 8 := by
      have key : ∀ x : Fin 256, 194 ≤ x.val → x.val < 245 → (firstOf x.val = 16 * (firstOf x.val / 16) + firstOf x.val % 16) ∧ (firstOf x.val % 16 = if x.val < 224 then 2 else if x.val < 240 then 3 else 4) ∧ firstOf x.val / 16 < 5 ∧
        ([128, 191, 160, 191, 128, 159, 144, 191, 128, 143] : List Int)[2 * (firstOf x.val / 16)]? = some (((if x.val = 224 then 160 else if x.val = 240 then 144 else 128 : Nat)) : Int) ∧
        ([128, 191, 160, 191, 128, 159, 144, 191, 128, 143] : List Int)[2 * (firstOf x.val / 16) + 1]? = some (((if x.val = 237 then 159 else if x.val = 244 then 143 else 191 : Nat)) : Int) ∧ firstOf x.val % 16 < 8 := by decide +kernel
      obtain ⟨k1, k2, k3, k4, k5, k6⟩ := key ⟨a.toNat, ha⟩ (by show 194 ≤ a.toNat; omega) (by show a.toNat < 245; omega)
      exact ⟨_, _, _, _, k1, k2, k3, k4, k5, ⟨rfl, rfl⟩, k6⟩
    have hxlt : 16 * row + sz < 240 := by omega
    rw [hx]
    refine ifD (fun h => by omega) (fun _ => ?_)
    have eshift : shR .u8 ((16 * row + sz : Nat) : Int) 4 = (row : Int) := by
      have key : ∀ r : Fin 5, ∀ z : Fin 8, shR .u8 ((16 * r.val + z.val : Nat) : Int) 4 = (r.val : Int) := by decide +kernel
      exact key ⟨row, hrow⟩ ⟨sz, hsz4⟩
    have eand : IntKind.i64.wrap (bAnd .u8 ((16 * row + sz : Nat) : Int) 7) = (sz : Int) := by
      have key : ∀ r : Fin 5, ∀ z : Fin 8, IntKind.i64.wrap (bAnd .u8 ((16 * r.val + z.val : Nat) : Int) 7) = (z.val : Int) := by decide +kernel
      exact key ⟨row, hrow⟩ ⟨sz, hsz4⟩
    rw [eshift, eand]
    refine ix_ar (n := 16) (z := 2) row (by kernel_rfl) rfl (by omega) ?_
    have hacc : ∀ (j : Nat) v, (Utf8AcceptRange.cs ⟨lo, hi⟩)[j]? = some v → w.cell? ((g_unicode_utf8_acceptRanges.add (row * 2)).add j) = some v := by
      intro j v hj
      rw [addr_add2 _ ht.accept.spot]
      refine ht.accept.cell ?_
      have hj2 : j < 2 := (List.getElem?_eq_some_iff.1 hj).1
      rw [List.getElem?_map]
      match j, hj2 with
      | 0, _ =>
        cases hj
        rw [show row * 2 + 0 = 2 * row from by omega, hlo]
        rfl
      | 1, _ =>
        cases hj
        rw [show row * 2 + 1 = 2 * row + 1 from by omega, hhi]
        rfl
    refine ⟨⟨lo, hi⟩, run_ldAgg (n := 2) (xs := Utf8AcceptRange.cs ⟨lo, hi⟩) (by kernel_rfl) rfl (by rw [addr_off _ ht.accept.spot]) (fun j v hj => ?_), ?_⟩
    · have := hacc j v hj
      rw [addr_off _ ht.accept.spot, addr_add] at this
      rw [addr_off _ ht.accept.spot]
      exact this
    refine new_of fun b1 w1 hn => wr_of fun w2 hw2 => ?_
    have hb1 : b1 = w.heap.size := hn.1
    have hx2 : Ext w w2 := Below.wr (Ext.new hn) (by omega) hw2
    obtain ⟨hlo2, hhi2⟩ := hr1
    have e128 : ¬ a.toNat < 128 := by omega
    have e194 : ¬ a.toNat < 194 := by omega
    have bnd : ∀ (x y : Nat), x < 64 → y < 64 → 64 * x + y < 4096 := fun x y h1 h2 => by omega
    by_cases h224 : a.toNat < 224
    · -- two bytes
      have hsz' : sz = 2 := by rw [hsz, if_pos h224]
      have hlo' : lo = 128 := by rw [hlo2, if_neg (by omega), if_neg (by omega)]
      have hhi' : hi = 191 := by rw [hhi2, if_neg (by omega), if_neg (by omega)]
      subst hsz' hlo' hhi'
      match r with
      | [] =>
        refine ifD (fun _ => bad w2 hx2 ?_) (fun h => absurd (by simp) h)
        simp only [dec, e128, e194, h224, if_false, if_true]
      | b :: t =>
        have hb := b.toNat_lt
        refine ifD (fun h => by simp at h; omega) (fun _ => ?_)
        refine idx_str 1 (by kernel_rfl) rfl (by simp) ?_
        simp only [List.getElem_cons_succ, List.getElem_cons_zero]
        have hd : dec (a :: b :: t) = if cont b = true then (2, v2 a b) else (0, 0) := by simp only [dec, e128, e194, h224, if_false, if_true]
        refine ifD (fun h => bad w2 hx2 ?_) (fun h1 => ifD (fun h => bad w2 hx2 ?_) (fun h2 => ifD (fun _ => ?_) (fun h => absurd (by decide) h)))
        · rw [hd, if_neg (by simp [cont]; omega)]
        · rw [hd, if_neg (by simp [cont]; omega)]
        · have hc : cont b = true := by simp [cont]; omega
          have := good w2 1 (v2 a b) hx2 (by rw [hd, if_pos hc])
          rw [bAnd_31, bAnd_63, i32_id (by omega) (by omega), i32_id (by omega) (by omega), show (6 : Int) = ((6 : Nat) : Int) from rfl, shL_i32 (by omega) (by omega), bOr_add (by omega) (by omega)]
          have e : 2 ^ 6 * (a.toNat % 32) + b.toNat % 64 = v2 a b := by simp only [cont, Bool.and_eq_true, decide_eq_true_eq] at hc; unfold v2; omega
          rw [e]
          exact this
    by_cases h240 : a.toNat < 240
    · -- three
      have hsz' : sz = 3 := by rw [hsz, if_neg h224, if_pos h240]
      subst hsz'
      have hlo4 : (a.toNat = 224 ∧ lo = 160) ∨ (a.toNat ≠ 224 ∧ lo = 128) := by rw [hlo2]; split <;> (try split) <;> omega
      have hhi4 : (a.toNat = 237 ∧ hi = 159) ∨ (a.toNat ≠ 237 ∧ hi = 191) := by rw [hhi2]; split <;> (try split) <;> omega
      match r with
      | [] => exact ifD (fun _ => bad w2 hx2 (by simp only [dec, e128, e194, h224, h240, if_false, if_true])) (fun h => absurd (by simp) h)
      | [b] => exact ifD (fun _ => bad w2 hx2 (by simp only [dec, e128, e194, h224, h240, if_false, if_true])) (fun h => absurd (by simp) h)
      | b :: c :: t =>
        have hb := b.toNat_lt
        have hc := c.toNat_lt
        have hd : dec (a :: b :: c :: t) = if cont b = true ∧ cont c = true ∧ 2048 ≤ v3 a b c ∧ (v3 a b c < 55296 ∨ 57343 < v3 a b c) then (3, v3 a b c) else (0, 0) := by simp only [dec, e128, e194, h224, h240, if_false, if_true]
        refine ifD (fun h => by simp at h; omega) (fun _ => ?_)
        refine idx_str 1 (by kernel_rfl) rfl (by simp) ?_
        simp only [List.getElem_cons_succ, List.getElem_cons_zero]
        have nb : (b.toNat < lo ∨ hi < b.toNat ∨ c.toNat < 128 ∨ 191 < c.toNat) → (dec (a :: b :: c :: t)).1 = 0 := fun h => by
          rw [hd, if_neg]
          rintro ⟨g1, g2, g3, g4⟩
          simp only [cont, Bool.and_eq_true, decide_eq_true_eq] at g1 g2
          unfold v3 at g3 g4
          omega
        refine ifD (fun h => bad w2 hx2 (nb (by have h' : (b.toNat : Int) < lo := h; omega))) (fun h1 => ifD (fun h => bad w2 hx2 (nb (by have h' : (hi : Int) < b.toNat := h; omega))) (fun h2 => ifD (fun h => absurd h (by decide)) (fun _ => ?_)))
        refine idx_str 2 (by kernel_rfl) rfl (by simp) ?_
        simp only [List.getElem_cons_succ, List.getElem_cons_zero]
        refine ifD (fun h => bad w2 hx2 (nb (by omega))) (fun h3 => ifD (fun h => bad w2 hx2 (nb (by omega))) (fun h4 => ifD (fun _ => ?_) (fun h => absurd (by decide) h)))
        have h1' : ¬ (b.toNat : Int) < lo := h1
        have h2' : ¬ (hi : Int) < b.toNat := h2
        have hlo3 : 128 ≤ lo := by omega
        have hhi3 : hi ≤ 191 := by omega
        have hin : cont b = true ∧ cont c = true ∧ 2048 ≤ v3 a b c ∧ (v3 a b c < 55296 ∨ 57343 < v3 a b c) := by
          refine ⟨by simp [cont]; omega, by simp [cont]; omega, ?_, ?_⟩
          · unfold v3
            omega
          · unfold v3
            omega
        have := good w2 2 (v3 a b c) hx2 (by rw [hd, if_pos hin])
        rw [bAnd_15, bAnd_63, bAnd_63, i32_id (by omega) (by omega), i32_id (by omega) (by omega), i32_id (by omega) (by omega), show (6 : Int) = ((6 : Nat) : Int) from rfl, show (12 : Int) = ((12 : Nat) : Int) from rfl, shL_i32 (by omega) (by omega), shL_i32 (by omega) (by omega)]
        have e1 : 2 ^ 12 * (a.toNat % 16) + 2 ^ 6 * (b.toNat % 64) = 2 ^ 6 * (2 ^ 6 * (a.toNat % 16) + b.toNat % 64) := by omega
        rw [bOr_add (by omega) (by omega), e1, bOr_add (by omega) (by omega)]
        have e : 2 ^ 6 * (2 ^ 6 * (a.toNat % 16) + b.toNat % 64) + c.toNat % 64 = v3 a b c := by
          have g1 := hin.1
          have g2 := hin.2.1
          simp only [cont, Bool.and_eq_true, decide_eq_true_eq] at g1 g2
          unfold v3; omega
        rw [e]
        exact this
    · -- four
      have hsz' : sz = 4 := by rw [hsz, if_neg h224, if_neg h240]
      have h245 : a.toNat < 245 := by omega
      subst hsz'
      have hlo4 : (a.toNat = 240 ∧ lo = 144) ∨ (a.toNat ≠ 240 ∧ lo = 128) := by rw [hlo2]; split <;> (try split) <;> omega
      have hhi4 : (a.toNat = 244 ∧ hi = 143) ∨ (a.toNat ≠ 244 ∧ hi = 191) := by rw [hhi2]; split <;> (try split) <;> omega
      match r with
      | [] => exact ifD (fun _ => bad w2 hx2 (by simp only [dec, e128, e194, h224, h240, h245, if_false, if_true])) (fun h => absurd (by simp) h)
      | [b] => exact ifD (fun _ => bad w2 hx2 (by simp only [dec, e128, e194, h224, h240, h245, if_false, if_true])) (fun h => absurd (by simp) h)
      | [b, c] => exact ifD (fun _ => bad w2 hx2 (by simp only [dec, e128, e194, h224, h240, h245, if_false, if_true])) (fun h => absurd (by simp) h)
      | b :: c :: d :: t =>
        have hb := b.toNat_lt
        have hc := c.toNat_lt
        have hdd := d.toNat_lt
        have hd : dec (a :: b :: c :: d :: t) = if cont b = true ∧ cont c = true ∧ cont d = true ∧ 65536 ≤ v4 a b c d ∧ v4 a b c d ≤ 1114111 then (4, v4 a b c d) else (0, 0) := by simp only [dec, e128, e194, h224, h240, h245, if_false, if_true]
        refine ifD (fun h => by simp at h; omega) (fun _ => ?_)
        refine idx_str 1 (by kernel_rfl) rfl (by simp) ?_
        simp only [List.getElem_cons_succ, List.getElem_cons_zero]
        have nb : (b.toNat < lo ∨ hi < b.toNat ∨ c.toNat < 128 ∨ 191 < c.toNat ∨ d.toNat < 128 ∨ 191 < d.toNat) → (dec (a :: b :: c :: d :: t)).1 = 0 := fun h => by
          rw [hd, if_neg]
          rintro ⟨g1, g2, g3, g4, g5⟩
          simp only [cont, Bool.and_eq_true, decide_eq_true_eq] at g1 g2 g3
          unfold v4 at g4 g5
          omega
        refine ifD (fun h => bad w2 hx2 (nb (by have h' : (b.toNat : Int) < lo := h; omega))) (fun h1 => ifD (fun h => bad w2 hx2 (nb (by have h' : (hi : Int) < b.toNat := h; omega))) (fun h2 => ifD (fun h => absurd h (by decide)) (fun _ => ?_)))
        refine idx_str 2 (by kernel_rfl) rfl (by simp) ?_
        simp only [List.getElem_cons_succ, List.getElem_cons_zero]
        refine ifD (fun h => bad w2 hx2 (nb (by omega))) (fun h3 => ifD (fun h => bad w2 hx2 (nb (by omega))) (fun h4 => ifD (fun h => absurd h (by decide)) (fun _ => ?_)))
        refine idx_str 3 (by kernel_rfl) rfl (by simp) ?_
        simp only [List.getElem_cons_succ, List.getElem_cons_zero]
        refine ifD (fun h => bad w2 hx2 (nb (by omega))) (fun h5 => ifD (fun h => bad w2 hx2 (nb (by omega))) (fun h6 => ?_))
        have h1' : ¬ (b.toNat : Int) < lo := h1
        have h2' : ¬ (hi : Int) < b.toNat := h2
        have hlo3 : 128 ≤ lo := by omega
        have hhi3 : hi ≤ 191 := by omega
        have hin : cont b = true ∧ cont c = true ∧ cont d = true ∧ 65536 ≤ v4 a b c d ∧ v4 a b c d ≤ 1114111 := by
          refine ⟨by simp [cont]; omega, by simp [cont]; omega, by simp [cont]; omega, ?_, ?_⟩
          · unfold v4
            omega
          · unfold v4
            omega
        have := good w2 3 (v4 a b c d) hx2 (by rw [hd, if_pos hin])
        rw [bAnd_7, bAnd_63, bAnd_63, bAnd_63, i32_id (by omega) (by omega), i32_id (by omega) (by omega), i32_id (by omega) (by omega), i32_id (by omega) (by omega), show (6 : Int) = ((6 : Nat) : Int) from rfl, show (12 : Int) = ((12 : Nat) : Int) from rfl, show (18 : Int) = ((18 : Nat) : Int) from rfl,
          shL_i32 (by omega) (by omega), shL_i32 (by omega) (by omega), shL_i32 (by omega) (by omega)]
        have e1 : 2 ^ 18 * (a.toNat % 8) + 2 ^ 12 * (b.toNat % 64) = 2 ^ 12 * (2 ^ 6 * (a.toNat % 8) + b.toNat % 64) := by omega
        rw [bOr_add (by omega) (by omega), e1, bOr_add (by omega) (by omega)]
        have e2 : 2 ^ 12 * (2 ^ 6 * (a.toNat % 8) + b.toNat % 64) + 2 ^ 6 * (c.toNat % 64) = 2 ^ 6 * (2 ^ 6 * (2 ^ 6 * (a.toNat % 8) + b.toNat % 64) + c.toNat % 64) := by omega
        rw [e2, bOr_add (by omega) (by omega)]
        have e : 2 ^ 6 * (2 ^ 6 * (2 ^ 6 * (a.toNat % 8) + b.toNat % 64) + c.toNat % 64) + d.toNat % 64 = v4 a b c d := by
          have g1 := hin.1
          have g2 := hin.2.1
          have g3 := hin.2.2.1
          simp only [cont, Bool.and_eq_true, decide_eq_true_eq] at g1 g2 g3
          unfold v4; omega
        rw [e]
        exact this

theorem DecodeRuneInString_spec {s : List UInt8} {K : Int × Int → World → Prop} {w : World} (ht : Utf8T w)
    (hK : ∀ w', Ext w w' → K (if s = [] then (65533, 0) else (((uStep s).1 : Int), ((uStep s).2 : Int))) w') : unicode_utf8_DecodeRuneInString s K w := by
  unfold unicode_utf8_DecodeRuneInString
  match s with
  | [] => exact ifNot (ifStr (fun _ => unicode_utf8_decodeRuneInStringSlow_calls (slow_spec ht (fun a r h => by cases h) hK)) (fun h => absurd rfl h))
  | a :: r =>
    have ha := a.toNat_lt
    refine ifNot (ifStr (fun h => by cases h) (fun _ => ?_))
    refine idx_str 0 (by kernel_rfl) rfl (by simp) ?_
    simp only [List.getElem_cons_zero]
    refine ifD (fun h => ?_) (fun h => unicode_utf8_decodeRuneInStringSlow_calls (slow_spec ht (fun b t e => by cases e; omega) hK))
    refine idx_str 0 (by kernel_rfl) rfl (by simp) ?_
    simp only [List.getElem_cons_zero]
    have := hK w (Ext.rfl' _)
    rw [if_neg (by simp), show uStep (a :: r) = (a.toNat, 1) from by unfold uStep; simp [dec, show a.toNat < 128 from by omega]] at this
    rw [i32_id (by omega) (by omega)]
    exact this
end Go.Chg
