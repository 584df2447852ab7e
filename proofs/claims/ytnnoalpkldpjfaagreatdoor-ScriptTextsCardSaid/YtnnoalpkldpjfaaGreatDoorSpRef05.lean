/-
  What package 'changeoverref05' says of keys and values.
-/
import Derived.Test.YtnnoalpkldpjfaaGreatDoorMY
import Derived.Test.YtnnoalpkldpjfaaGreatDoorMY
import Derived.Test.YtnnoalpkldpjfaaGreatDoorFns
import Derived.Test.YtnnoalpkldpjfaaGreatDoorTyr
set_option maxRecDepth 20000
set_option linter.unusedVariables false
namespace Go.Chg
open Go.Vc
theorem i64_at {i n : Nat} (h : i + n ≤ 9223372036854775807) : i64 ((i : Int) + (n : Int)) = ((i + n : Nat) : Int) := by rw [i64_id] <;> omega
theorem ref05_Size_spec {s : List UInt8} {i : Int} {k : Nat} {K : Int × Int → World → Prop} {w : World} (hi : i = (k : Int)) (hk : k < s.length) (hl : s.length ≤ 4611686018427387904)
    (hK : K (((dec (s.drop k)).1 : Int), ((dec (s.drop k)).2 : Int)) w) : ref05_Size s i K w := by
  subst hi
  unfold ref05_Size
  refine idx_str k (by kernel_rfl) rfl hk ?_
  have hd : s.drop k = s[k] :: s.drop (k + 1) := List.drop_eq_getElem_cons hk
  rw [hd] at hK
  have hrl : (s.drop (k + 1)).length = s.length - (k + 1) := List.length_drop
  have hrg : ∀ j, j < (s.drop (k + 1)).length → (s.drop (k + 1))[j]? = s[k + 1 + j]? := fun j _ => List.getElem?_drop
  generalize hr : s.drop (k + 1) = r at hK hrl hrg
  generalize ha : s[k] = a at hK
  have h256 := a.toNat_lt
  rw [wrap64_id (by omega) (by omega)]
  refine ⟨fun n low v w' => w = w' ∧ ∃ n' low' v' : Nat, n = n' ∧ low = low' ∧ v = v' ∧ Row a.toNat n' low' v', ?_, ?_⟩
  · have one : (a.toNat : Int) < 128 → K (1, (a.toNat : Int)) w := fun h => by rw [dec_small (by omega)] at hK; exact hK
    have no : ¬ (a.toNat : Int) < 128 → ((a.toNat : Int) < 194 ∨ (245 : Int) ≤ a.toNat) → K (0, 0) w := fun h h1 => by rw [dec_else (by omega) (by omega)] at hK; exact hK
    repeat' (first | refine ifD (fun _ => ?_) (fun _ => ?_))
    all_goals first
      | exact one (by assumption)
      | exact no (by assumption) (by omega)
      | exact ⟨rfl, 2, 128, a.toNat - 192, rfl, rfl, (by rw [i64_id (by omega) (by omega)]; omega), (by unfold Row; omega)⟩
      | exact ⟨rfl, 3, 2048, a.toNat - 224, rfl, rfl, (by rw [i64_id (by omega) (by omega)]; omega), (by unfold Row; omega)⟩
      | exact ⟨rfl, 4, 65536, a.toNat - 240, rfl, rfl, (by rw [i64_id (by omega) (by omega)]; omega), (by unfold Row; omega)⟩
  · rintro _ _ _ _ ⟨rfl, n, low, v0, rfl, rfl, rfl, hrow⟩
    have hn : 2 ≤ n ∧ n ≤ 4 := by have h := hrow; unfold Row at h; omega
    rw [i64_at (by omega)]
    refine ifD (fun h => ?_) (fun h => ?_)
    · rw [dec_short hrow (by omega)] at hK
      exact hK
    · have hn2 : n ≤ r.length + 1 := by omega
      have hrow' := dec_row hrow hn2
      have hno : ∀ b ∈ r.take (n - 1), cont b = false → K (0, 0) w := fun b hb hc => by
        rw [hrow', if_neg (fun h => by have := h.1 b hb; rw [hc] at this; cases this)] at hK
        exact hK
      refine up2b (fun m v w' => w = w' ∧ v = (pv v0 (r.take (m - 1)) : Nat) ∧ ∀ b ∈ r.take (m - 1), cont b = true) 1 n rfl (by omega) (by omega) ⟨rfl, by simp [pv], by simp⟩ ?_
      rintro m v _ C hm1 hm2 ⟨rfl, rfl, hall⟩ hC
      refine ifD (fun hlt => ?_) (fun hge => ?_)
      · have hm3 : m - 1 < r.length := by omega
        rw [i64_at (by omega)]
        refine idx_str (k + m) (by kernel_rfl) rfl (by omega) ?_
        have hg : s[k + m]'(by omega) = r[m - 1] := by
          have h1 := hrg (m - 1) hm3
          rw [List.getElem?_eq_getElem hm3, show k + 1 + (m - 1) = k + m by omega, List.getElem?_eq_getElem (by omega)] at h1
          exact (Option.some.inj h1).symm
        rw [hg]
        have hb := r[m - 1].toNat_lt
        have hmem : r[m - 1] ∈ r.take (n - 1) := List.mem_take_iff_getElem.2 ⟨m - 1, by omega, rfl⟩
        rw [wrap64_id (by omega) (by omega)]
        refine ifD (fun h1 => hno _ hmem (by simp [cont]; omega)) (fun h1 => ifD (fun h2 => hno _ hmem (by simp [cont]; omega)) (fun h2 => ?_))
        have hle := pv_le hrow (r.take (m - 1)) (by simp; omega)
        refine hC (by omega) _ _ _ rfl ⟨rfl, ?_, ?_⟩
        · have e1 : m + 1 - 1 = m - 1 + 1 := by omega
          rw [e1, take_up hm3, pv_snoc, i64_id (n := 64 * _) (by omega) (by omega), i64_id (n := 64 * _ + _) (by omega) (by omega), i64_id (by omega) (by omega)]
          omega
        · rw [show m + 1 - 1 = m - 1 + 1 by omega]
          exact all_up hm3 hall (by simp [cont]; omega)
      · have hmn : m = n := by omega
        subst hmn
        have bad : ¬ (low ≤ pv v0 (r.take (m - 1)) ∧ pv v0 (r.take (m - 1)) ≤ 1114111 ∧ (pv v0 (r.take (m - 1)) < 55296 ∨ 57343 < pv v0 (r.take (m - 1)))) → K (0, 0) w := fun h => by
          rw [hrow', if_neg (fun h' => h h'.2)] at hK; exact hK
        have good : (low ≤ pv v0 (r.take (m - 1)) ∧ pv v0 (r.take (m - 1)) ≤ 1114111 ∧ (pv v0 (r.take (m - 1)) < 55296 ∨ 57343 < pv v0 (r.take (m - 1)))) → K ((m : Int), ((pv v0 (r.take (m - 1)) : Nat) : Int)) w := fun h => by
          rw [hrow', if_pos ⟨hall, h⟩] at hK; exact hK
        refine ifD (fun h1 => bad (by omega)) (fun h1 => ifD (fun h2 => bad (by omega)) (fun h2 => ifD (fun h3 => ifD (fun h4 => bad (by omega)) (fun h4 => good (by omega))) (fun h3 => good (by omega))))
theorem ref05_Bad_spec {s : List UInt8} {K : Int → World → Prop} {w : World} (hl : s.length ≤ 4611686018427387904) (hK : K (badFrom s 0) w) : ref05_Bad s K w := by
  unfold ref05_Bad
  refine ⟨fun i w' => w = w' ∧ ∃ k : Nat, i = k ∧ k ≤ s.length ∧ badFrom s 0 = badFrom s k, fun i _ => (s.length - i).toNat, ⟨rfl, 0, rfl, by omega, rfl⟩, ?_⟩
  rintro i _ ⟨rfl, k, rfl, hk, hb⟩
  refine ifD (fun hlt => ?_) (fun hge => ?_)
  · have hk1 : k < s.length := by omega
    refine ref05_Size_calls (ref05_Size_spec rfl hk1 hl ?_)
    have hle := dec_le (s.drop k)
    rw [List.length_drop] at hle
    refine ifEq (fun h0 => ?_) (fun h0 => ?_)
    · rw [hb, badFrom_bad hk1 (by omega)] at hK; exact hK
    · have h1 : (dec (s.drop k)).1 ≠ 0 := by omega
      refine ⟨⟨rfl, k + (dec (s.drop k)).1, i64_at (by omega), by omega, by rw [hb, badFrom_on hk1 h1]⟩, ?_⟩
      dsimp only
      rw [i64_at (by omega)]; omega
  · rw [hb, badFrom_end (by omega)] at hK; exact hK
def letters : List UInt8 := [97, 98, 99, 100, 101, 102, 103, 104, 105, 106, 107, 108, 109, 110, 111, 112, 113, 114, 115, 116, 117, 118, 119, 120, 121, 122, 65, 66, 67, 68, 69, 70, 71, 72, 73, 74, 75, 76, 77, 78, 79, 80, 81, 82, 83, 84, 85, 86, 87, 88, 89, 90, 48, 49, 50, 51, 52, 53, 54, 55, 56, 57, 45, 95, 46, 58]
def plainI (r : Int) : Bool := decide (97 ≤ r ∧ r ≤ 122) || decide (65 ≤ r ∧ r ≤ 90) || decide (48 ≤ r ∧ r ≤ 57) || decide (r = 45 ∨ r = 95 ∨ r = 46 ∨ r = 58) || decide (161 ≤ r ∧ r ≠ 65533)
theorem plain_letters (r : Int) : (∃ b ∈ letters, (b.toNat : Int) = r) ↔ (97 ≤ r ∧ r ≤ 122 ∨ 65 ≤ r ∧ r ≤ 90 ∨ 48 ≤ r ∧ r ≤ 57 ∨ r = 45 ∨ r = 95 ∨ r = 46 ∨ r = 58) := by
  constructor
  · rintro ⟨b, hb, rfl⟩
    have key : ∀ b ∈ letters, (97 ≤ b.toNat ∧ b.toNat ≤ 122 ∨ 65 ≤ b.toNat ∧ b.toNat ≤ 90 ∨ 48 ≤ b.toNat ∧ b.toNat ≤ 57 ∨ b.toNat = 45 ∨ b.toNat = 95 ∨ b.toNat = 46 ∨ b.toNat = 58) := by decide +kernel
    have := key b hb
    omega
  · intro h
    have key : ∀ n : Fin 128, (97 ≤ n.val ∧ n.val ≤ 122 ∨ 65 ≤ n.val ∧ n.val ≤ 90 ∨ 48 ≤ n.val ∧ n.val ≤ 57 ∨ n.val = 45 ∨ n.val = 95 ∨ n.val = 46 ∨ n.val = 58) → ∃ b ∈ letters, b.toNat = n.val := by decide +kernel
    obtain ⟨n, hn⟩ : ∃ n : Nat, r = n := ⟨r.toNat, by omega⟩
    subst hn
    obtain ⟨b, hb, e⟩ := key ⟨n, by omega⟩ (by simp only; omega)
    exact ⟨b, hb, by simp only at e; omega⟩
theorem ref05_Plain_spec {r : Int} {K : Bool → World → Prop} {w : World} (hK : K (plainI r) w) : ref05_Plain r K w := by
  unfold ref05_Plain
  show loop1 (0 : Int) _ w
  have hlen : (letters.length : Int) = 66 := by decide
  refine up1 (fun k w' => w = w' ∧ ∀ b ∈ letters.take k, (b.toNat : Int) ≠ r) 0 66 rfl (by omega) (by omega) ⟨rfl, by simp⟩ ?_
  rintro k _ C _ hk ⟨rfl, hall⟩ hC
  refine ifD (fun hlt => ?_) (fun hge => ?_)
  · have hk1 : k < letters.length := by have : (k : Int) < (letters.length : Int) := hlt; omega
    refine idx_str k (by kernel_rfl) rfl hk1 ?_
    show ifB (IntKind.i64.wrap (letters[k].toNat : Int) == r) _ _
    have hb := letters[k].toNat_lt
    rw [wrap64_id (by omega) (by omega)]
    refine ifEq (fun h => ?_) (fun h => hC (by omega) _ _ rfl ⟨rfl, all_up hk1 hall h⟩)
    have := (plain_letters r).1 ⟨_, List.getElem_mem hk1, h⟩
    rw [show plainI r = true from by unfold plainI; simp only [Bool.or_eq_true, decide_eq_true_eq]; omega] at hK
    exact hK
  · have hn : ¬ k < letters.length := by have : ¬ (k : Int) < (letters.length : Int) := hge; omega
    have hall' := all_done hn hall
    have hno : ¬ (97 ≤ r ∧ r ≤ 122 ∨ 65 ≤ r ∧ r ≤ 90 ∨ 48 ≤ r ∧ r ≤ 57 ∨ r = 45 ∨ r = 95 ∨ r = 46 ∨ r = 58) := fun h => by
      obtain ⟨b, hb, e⟩ := (plain_letters r).2 h
      exact hall' b hb e
    refine ifD (fun h1 => ?_) (fun h1 => ?_)
    · have : plainI r = (r != 65533) := by
        unfold plainI
        by_cases h2 : r = 65533
        · subst h2; rfl
        · have e1 : (r != 65533) = true := by simpa using h2
          rw [e1]
          simp only [Bool.or_eq_true, decide_eq_true_eq]; omega
      rwa [this] at hK
    · have : plainI r = false := by unfold plainI; simp only [Bool.or_eq_false_iff, decide_eq_false_iff_not]; omega
      rwa [this] at hK
def plainN (n : Nat) : Bool := plainI (n : Int)
def printN (n : Nat) : Bool := decide (32 ≤ n) && decide (n ≠ 127)
/-- Which texts may be keys, and values. -/
def keyOk (s : List UInt8) : Bool := decide (1 ≤ s.length) && decide (s.length ≤ 24) && keyFrom plainN s 0
def valOk (s : List UInt8) : Bool := decide (s.length ≤ 48) && keyFrom printN s 0
theorem ref05_Key_spec {s : List UInt8} {K : Bool → World → Prop} {w : World} (hK : K (keyOk s) w) : ref05_Key s K w := by
  unfold ref05_Key
  refine ifD (fun h => ?_) (fun h1 => ifD (fun h => ?_) (fun h2 => ?_))
  · rwa [show keyOk s = false from by unfold keyOk; rw [show decide (1 ≤ s.length) = false from decide_eq_false (by omega)]; simp] at hK
  · rwa [show keyOk s = false from by unfold keyOk; rw [show decide (s.length ≤ 24) = false from decide_eq_false (by omega)]; simp] at hK
  · have e0 : keyOk s = keyFrom plainN s 0 := by unfold keyOk; rw [show decide (s.length ≤ 24) = true from decide_eq_true (by omega), show decide (1 ≤ s.length) = true from decide_eq_true (by omega)]; simp
    rw [e0] at hK
    refine ⟨fun i w' => w = w' ∧ ∃ k : Nat, i = k ∧ k ≤ s.length ∧ keyFrom plainN s 0 = keyFrom plainN s k, fun i _ => (s.length - i).toNat, ⟨rfl, 0, rfl, by omega, rfl⟩, ?_⟩
    rintro i _ ⟨rfl, k, rfl, hk, hb⟩
    refine ifD (fun hlt => ?_) (fun hge => ?_)
    · have hk1 : k < s.length := by omega
      refine ref05_Size_calls (ref05_Size_spec rfl hk1 (by omega) ?_)
      have hle := dec_le (s.drop k)
      rw [List.length_drop] at hle
      refine ifEq (fun h0 => ?_) (fun h0 => ?_)
      · rw [hb, keyFrom_bad hk1 (by omega)] at hK; exact hK
      · have h0' : (dec (s.drop k)).1 ≠ 0 := by omega
        refine ref05_Plain_calls (ref05_Plain_spec ?_)
        have hon := keyFrom_on (p := plainN) hk1 h0'
        refine ifNot (ifB_of (fun hp => ?_) (fun hp => ?_))
        · refine ⟨⟨rfl, k + (dec (s.drop k)).1, i64_at (by omega), by omega, by rw [hb, hon, show plainN (dec (s.drop k)).2 = true from hp, Bool.true_and]⟩, ?_⟩
          dsimp only
          rw [i64_at (by omega)]; omega
        · rw [hb, hon, show plainN (dec (s.drop k)).2 = false from hp, Bool.false_and] at hK
          exact hK
    · rw [hb, keyFrom_end (by omega)] at hK; exact hK
theorem ref05_Val_spec {s : List UInt8} {K : Bool → World → Prop} {w : World} (hK : K (valOk s) w) : ref05_Val s K w := by
  unfold ref05_Val
  refine ifD (fun h => ?_) (fun h1 => ?_)
  · rwa [show valOk s = false from by unfold valOk; rw [show decide (s.length ≤ 48) = false from decide_eq_false (by omega)]; simp] at hK
  · have e0 : valOk s = keyFrom printN s 0 := by unfold valOk; rw [show decide (s.length ≤ 48) = true from decide_eq_true (by omega)]; simp
    rw [e0] at hK
    unfold keyFrom at hK
    refine ref05_Bad_calls (ref05_Bad_spec (by omega) ?_)
    refine ifD (fun h => ?_) (fun h => ?_)
    · rwa [show decide (badFrom s 0 < 0) = false from decide_eq_false (by omega), Bool.false_and] at hK
    · rw [show decide (badFrom s 0 < 0) = true from decide_eq_true (by omega), Bool.true_and] at hK
      have hbr := bytes_runes (p := printN) (fun n hn => by unfold printN; simp; omega) s 0
      rw [List.drop_zero] at hbr
      refine up1 (fun k w' => w = w' ∧ ∀ b ∈ s.take k, printN b.toNat = true) 0 s.length rfl (by omega) (by omega) ⟨rfl, by simp⟩ ?_
      rintro k _ C _ hk ⟨rfl, hall⟩ hC
      refine ifD (fun hlt => ?_) (fun hge => ?_)
      · have hk1 : k < s.length := by omega
        refine idx_str k (by kernel_rfl) rfl hk1 ?_
        have bad : printN s[k].toNat = false → K false w := fun hp => by
          have : allFrom printN s 0 = false := by
            cases h : allFrom printN s 0
            · rfl
            · have := hbr.2 h _ (List.getElem_mem hk1)
              rw [hp] at this; cases this
          rwa [this] at hK
        refine ifD (fun h => bad (by unfold printN; rw [show decide (32 ≤ s[k].toNat) = false from decide_eq_false (by omega)]; rfl)) (fun h2 => ?_)
        refine idx_str k (by kernel_rfl) rfl hk1 ?_
        refine ifEq (fun h => bad (by unfold printN; simp; omega)) (fun h3 => ?_)
        exact hC hk1 _ _ rfl ⟨rfl, all_up hk1 hall (by unfold printN; simp; omega)⟩
      · rw [hbr.1 (all_done (by omega) hall)] at hK
        exact hK
end Go.Chg
