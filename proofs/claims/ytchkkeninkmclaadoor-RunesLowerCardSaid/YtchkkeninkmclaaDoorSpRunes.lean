/-
  What packages 'runes' and 'changeoverref05' do.
-/
import Derived.Test.YtchkkeninkmclaaDoorRune
import Derived.Test.YtchkkeninkmclaaDoorSpUtf
set_option maxRecDepth 20000
set_option linter.unusedVariables false
namespace Go.Chg
open Go.Vc

theorem i64_at {i n : Nat} (h : i + n ≤ 9223372036854775807) : i64 ((i : Int) + (n : Int)) = ((i + n : Nat) : Int) := by rw [i64_id] <;> omega

theorem ref05_Size_spec {s : List UInt8} {i : Int} {k : Nat} {K : Int × Int → World → Prop} {w : World} (hi : i = (k : Int)) (hk : k < s.length) (hl : s.length ≤ 4611686018427387904)
    (hK : K (((dec (s.drop k)).1 : Int), ((dec (s.drop k)).2 : Int)) w) : ref05_Size s i K w := by
  subst hi
  unfold ref05_Size
  refine idx_str k (by kernel_rfl) rfl hk ?_
  have hd : s.drop k = s[k] :: s.drop (k + 1) := List.drop_eq_getElem_cons hk
  rw [hd] at hK
  have hrl : (s.drop (k + 1)).length = s.length - (k + 1) := List.length_drop
  have hrg : ∀ j, j < (s.drop (k + 1)).length → (s.drop (k + 1))[j]? = s[k + 1 + j]? := fun j _ => List.getElem?_drop
  generalize hr : s.drop (k + 1) = r at hK hrl hrg
  generalize ha : s[k] = a at hK
  have h256 := a.toNat_lt
  rw [wrap64_id (by omega) (by omega)]
  refine ⟨fun n low v w' => w = w' ∧ ∃ n' low' v' : Nat, n = n' ∧ low = low' ∧ v = v' ∧ Row a.toNat n' low' v', ?_, ?_⟩
  · have one : (a.toNat : Int) < 128 → K (1, (a.toNat : Int)) w := fun h => by rw [dec_small (by omega)] at hK; exact hK
    have no : ¬ (a.toNat : Int) < 128 → ((a.toNat : Int) < 194 ∨ (245 : Int) ≤ a.toNat) → K (0, 0) w := fun h h1 => by rw [dec_else (by omega) (by omega)] at hK; exact hK
    repeat' (first | refine ifD (fun _ => ?_) (fun _ => ?_))
    all_goals first
      | exact one (by assumption)
      | exact no (by assumption) (by omega)
      | exact ⟨rfl, 2, 128, a.toNat - 192, rfl, rfl, (by rw [i64_id (by omega) (by omega)]; omega), (by unfold Row; omega)⟩
      | exact ⟨rfl, 3, 2048, a.toNat - 224, rfl, rfl, (by rw [i64_id (by omega) (by omega)]; omega), (by unfold Row; omega)⟩
      | exact ⟨rfl, 4, 65536, a.toNat - 240, rfl, rfl, (by rw [i64_id (by omega) (by omega)]; omega), (by unfold Row; omega)⟩
  · rintro _ _ _ _ ⟨rfl, n, low, v0, rfl, rfl, rfl, hrow⟩
    have hn : 2 ≤ n ∧ n ≤ 4 := by have h := hrow; unfold Row at h; omega
    rw [i64_at (by omega)]
    refine ifD (fun h => ?_) (fun h => ?_)
    · rw [dec_short hrow (by omega)] at hK
      exact hK
    · have hn2 : n ≤ r.length + 1 := by omega
      have hrow' := dec_row hrow hn2
      have hno : ∀ b ∈ r.take (n - 1), cont b = false → K (0, 0) w := fun b hb hc => by
        rw [hrow', if_neg (fun h => by have := h.1 b hb; rw [hc] at this; cases this)] at hK
        exact hK
      refine up2b (fun m v w' => w = w' ∧ v = (pv v0 (r.take (m - 1)) : Nat) ∧ ∀ b ∈ r.take (m - 1), cont b = true) 1 n rfl (by omega) (by omega) ⟨rfl, by simp [pv], by simp⟩ ?_
      rintro m v _ C hm1 hm2 ⟨rfl, rfl, hall⟩ hC
      refine ifD (fun hlt => ?_) (fun hge => ?_)
      · have hm3 : m - 1 < r.length := by omega
        rw [i64_at (by omega)]
        refine idx_str (k + m) (by kernel_rfl) rfl (by omega) ?_
        have hg : s[k + m]'(by omega) = r[m - 1] := by
          have h1 := hrg (m - 1) hm3
          rw [List.getElem?_eq_getElem hm3, show k + 1 + (m - 1) = k + m by omega, List.getElem?_eq_getElem (by omega)] at h1
          exact (Option.some.inj h1).symm
        rw [hg]
        have hb := r[m - 1].toNat_lt
        have hmem : r[m - 1] ∈ r.take (n - 1) := List.mem_take_iff_getElem.2 ⟨m - 1, by omega, rfl⟩
        rw [wrap64_id (by omega) (by omega)]
        refine ifD (fun h1 => hno _ hmem (by simp [cont]; omega)) (fun h1 => ifD (fun h2 => hno _ hmem (by simp [cont]; omega)) (fun h2 => ?_))
        have hle := pv_le hrow (r.take (m - 1)) (by simp; omega)
        refine hC (by omega) _ _ _ rfl ⟨rfl, ?_, ?_⟩
        · have e1 : m + 1 - 1 = m - 1 + 1 := by omega
          rw [e1, take_up hm3, pv_snoc, i64_id (n := 64 * _) (by omega) (by omega), i64_id (n := 64 * _ + _) (by omega) (by omega), i64_id (by omega) (by omega)]
          omega
        · rw [show m + 1 - 1 = m - 1 + 1 by omega]
          exact all_up hm3 hall (by simp [cont]; omega)
      · have hmn : m = n := by omega
        subst hmn
        have bad : ¬ (low ≤ pv v0 (r.take (m - 1)) ∧ pv v0 (r.take (m - 1)) ≤ 1114111 ∧ (pv v0 (r.take (m - 1)) < 55296 ∨ 57343 < pv v0 (r.take (m - 1)))) → K (0, 0) w := fun h => by
          rw [hrow', if_neg (fun h' => h h'.2)] at hK; exact hK
        have good : (low ≤ pv v0 (r.take (m - 1)) ∧ pv v0 (r.take (m - 1)) ≤ 1114111 ∧ (pv v0 (r.take (m - 1)) < 55296 ∨ 57343 < pv v0 (r.take (m - 1)))) → K ((m : Int), ((pv v0 (r.take (m - 1)) : Nat) : Int)) w := fun h => by
          rw [hrow', if_pos ⟨hall, h⟩] at hK; exact hK
        refine ifD (fun h1 => bad (by omega)) (fun h1 => ifD (fun h2 => bad (by omega)) (fun h2 => ifD (fun h3 => ifD (fun h4 => bad (by omega)) (fun h4 => good (by omega))) (fun h3 => good (by omega))))

theorem ref05_Bad_spec {s : List UInt8} {K : Int → World → Prop} {w : World} (hl : s.length ≤ 4611686018427387904) (hK : K (badFrom s 0) w) : ref05_Bad s K w := by
  unfold ref05_Bad
  refine ⟨fun i w' => w = w' ∧ ∃ k : Nat, i = k ∧ k ≤ s.length ∧ badFrom s 0 = badFrom s k, fun i _ => (s.length - i).toNat, ⟨rfl, 0, rfl, by omega, rfl⟩, ?_⟩
  rintro i _ ⟨rfl, k, rfl, hk, hb⟩
  refine ifD (fun hlt => ?_) (fun hge => ?_)
  · have hk1 : k < s.length := by omega
    refine ref05_Size_calls (ref05_Size_spec rfl hk1 hl ?_)
    have hle := dec_le (s.drop k)
    rw [List.length_drop] at hle
    refine ifEq (fun h0 => ?_) (fun h0 => ?_)
    · rw [hb, badFrom_bad hk1 (by omega)] at hK; exact hK
    · have h1 : (dec (s.drop k)).1 ≠ 0 := by omega
      refine ⟨⟨rfl, k + (dec (s.drop k)).1, i64_at (by omega), by omega, by rw [hb, badFrom_on hk1 h1]⟩, ?_⟩
      dsimp only
      rw [i64_at (by omega)]; omega
  · rw [hb, badFrom_end (by omega)] at hK; exact hK

theorem runes_Bad_spec {s : List UInt8} {K : Int → World → Prop} {w : World} (ht : Utf8T w) (hl : s.length ≤ 4611686018427387904) (hK : ∀ w', Ext w w' → K (badFrom s 0) w') : runes_Bad s K w := by
  unfold runes_Bad
  refine range_ty (by kernel_rfl) fun a w1 ha hit hx1 => ?_
  refine runes0 (fun pos w' => Ext w w' ∧ badFrom s 0 = badFrom s pos) ⟨hx1, rfl⟩ hit ?_
  rintro pos w2 C hp ⟨hx2, hb⟩ hi hC
  refine next_st hi (fun hlt w3 hw3 hi3 => ?_) (fun hge => ?_)
  · have hx3 : Ext w w3 := Below.wr hx2 (by omega) hw3
    have hon := step_on hlt
    have hpos := uStep_pos (s.drop pos)
    by_cases h0 : (dec (s.drop pos)).1 = 0
    · rw [uStep_bad h0] at hi3 ⊢
      refine ifNe (fun h => absurd rfl h) (fun _ => ?_)
      refine sub_str_l (by kernel_rfl) rfl (by omega) ?_
      refine unicode_utf8_DecodeRuneInString_calls (DecodeRuneInString_spec (ht.ext hx3) fun w4 hx4 => ?_)
      rw [if_neg (drop_ne hlt), uStep_bad h0]
      refine ifEq (fun _ => ?_) (fun h => absurd rfl h)
      have := hK w4 (hx3.trans' hx4)
      rw [hb, badFrom_bad hlt h0] at this
      exact this
    · have hst := uStep_good h0
      have hb2 : badFrom s 0 = badFrom s (pos + (uStep (s.drop pos)).2) := by rw [hb, badFrom_on hlt h0, hst]
      refine ifNe (fun h => hC _ _ (by omega) hon ⟨hx3, hb2⟩ hi3) (fun hr => ?_)
      refine sub_str_l (by kernel_rfl) rfl (by omega) ?_
      refine unicode_utf8_DecodeRuneInString_calls (DecodeRuneInString_spec (ht.ext hx3) fun w4 hx4 => ?_)
      rw [if_neg (drop_ne hlt)]
      refine ifEq (fun h1 => ?_) (fun _ => hC _ _ (by omega) hon ⟨hx3.trans' hx4, hb2⟩ (hi3.ext hx4))
      exfalso
      have h1' : (dec (s.drop pos)).1 = 1 := by rw [hst] at h1; dsimp only at h1; omega
      obtain ⟨b, r, _, e2, e3⟩ := dec_one h1'
      rw [hst] at hr
      dsimp only at hr
      omega
  · have := hK w2 hx2
    rw [hb, badFrom_end hge] at this
    exact this
theorem runes_Whole_spec {s : List UInt8} {K : Bool → World → Prop} {w : World} (ht : Utf8T w) (hl : s.length ≤ 4611686018427387904) (hK : ∀ w', Ext w w' → K (decide (badFrom s 0 < 0)) w') : runes_Whole s K w := by
  unfold runes_Whole
  exact runes_Bad_calls (runes_Bad_spec ht hl hK)

def letters : List UInt8 := [97, 98, 99, 100, 101, 102, 103, 104, 105, 106, 107, 108, 109, 110, 111, 112, 113, 114, 115, 116, 117, 118, 119, 120, 121, 122, 65, 66, 67, 68, 69, 70, 71, 72, 73, 74, 75, 76, 77, 78, 79, 80, 81, 82, 83, 84, 85, 86, 87, 88, 89, 90, 48, 49, 50, 51, 52, 53, 54, 55, 56, 57, 45, 95, 46, 58]
def plainI (r : Int) : Bool := decide (97 ≤ r ∧ r ≤ 122) || decide (65 ≤ r ∧ r ≤ 90) || decide (48 ≤ r ∧ r ≤ 57) || decide (r = 45 ∨ r = 95 ∨ r = 46 ∨ r = 58) || decide (161 ≤ r ∧ r ≠ 65533)
theorem runes_Plain_spec {r : Int} {K : Bool → World → Prop} {w : World} (hK : K (plainI r) w) : runes_Plain r K w := by
  unfold runes_Plain
  refine ⟨fun b w' => w = w' ∧ b = decide (97 ≤ r ∧ r ≤ 122 ∨ 65 ≤ r ∧ r ≤ 90 ∨ 48 ≤ r ∧ r ≤ 57), ?_, ?_⟩
  · repeat' (first | refine ifD (fun _ => ?_) (fun _ => ?_))
    all_goals refine ⟨rfl, ?_⟩
    all_goals first
      | (rw [decide_eq_decide]; omega)
      | (symm; rw [decide_eq_false_iff_not]; omega)
  · rintro b _ ⟨rfl, rfl⟩
    have yes : (97 ≤ r ∧ r ≤ 122 ∨ 65 ≤ r ∧ r ≤ 90 ∨ 48 ≤ r ∧ r ≤ 57 ∨ r = 45 ∨ r = 95 ∨ r = 46 ∨ r = 58) → K true w := fun h => by
      have : plainI r = true := by unfold plainI; simp only [Bool.or_eq_true, decide_eq_true_eq]; omega
      rwa [this] at hK
    have no : ¬ (97 ≤ r ∧ r ≤ 122 ∨ 65 ≤ r ∧ r ≤ 90 ∨ 48 ≤ r ∧ r ≤ 57 ∨ r = 45 ∨ r = 95 ∨ r = 46 ∨ r = 58) → ifB (decide (r ≥ 161)) (K (r != 65533) w) (K false w) := fun h => by
      refine ifD (fun h1 => ?_) (fun h1 => ?_)
      · have : plainI r = (r != 65533) := by
          unfold plainI
          by_cases h2 : r = 65533
          · subst h2; rfl
          · have e1 : (r != 65533) = true := by simpa using h2
            rw [e1]
            simp only [Bool.or_eq_true, decide_eq_true_eq]; omega
        rwa [this] at hK
      · have : plainI r = false := by unfold plainI; simp only [Bool.or_eq_false_iff, decide_eq_false_iff_not]; omega
        rwa [this] at hK
    refine ifD (fun h => yes (by omega)) (fun h => ?_)
    refine ifEq (fun h1 => ifEq (fun _ => yes (by omega)) (fun h2 => absurd h1 h2)) (fun h1 => ?_)
    refine ifEq (fun h1 => ifEq (fun _ => yes (by omega)) (fun h2 => absurd h1 h2)) (fun h2 => ?_)
    refine ifEq (fun h1 => ifEq (fun _ => yes (by omega)) (fun h2 => absurd h1 h2)) (fun h3 => ?_)
    exact ifEq (fun h1 => yes (by omega)) (fun h4 => no (by omega))
theorem plain_letters (r : Int) : (∃ b ∈ letters, (b.toNat : Int) = r) ↔ (97 ≤ r ∧ r ≤ 122 ∨ 65 ≤ r ∧ r ≤ 90 ∨ 48 ≤ r ∧ r ≤ 57 ∨ r = 45 ∨ r = 95 ∨ r = 46 ∨ r = 58) := by
  constructor
  · rintro ⟨b, hb, rfl⟩
    have key : ∀ b ∈ letters, (97 ≤ b.toNat ∧ b.toNat ≤ 122 ∨ 65 ≤ b.toNat ∧ b.toNat ≤ 90 ∨ 48 ≤ b.toNat ∧ b.toNat ≤ 57 ∨ b.toNat = 45 ∨ b.toNat = 95 ∨ b.toNat = 46 ∨ b.toNat = 58) := by decide +kernel
    have := key b hb
    omega
  · intro h
    have key : ∀ n : Fin 128, (97 ≤ n.val ∧ n.val ≤ 122 ∨ 65 ≤ n.val ∧ n.val ≤ 90 ∨ 48 ≤ n.val ∧ n.val ≤ 57 ∨ n.val = 45 ∨ n.val = 95 ∨ n.val = 46 ∨ n.val = 58) → ∃ b ∈ letters, b.toNat = n.val := by decide +kernel
    obtain ⟨n, hn⟩ : ∃ n : Nat, r = n := ⟨r.toNat, by omega⟩
    subst hn
    obtain ⟨b, hb, e⟩ := key ⟨n, by omega⟩ (by simp only; omega)
    exact ⟨b, hb, by simp only at e; omega⟩
theorem ref05_Plain_spec {r : Int} {K : Bool → World → Prop} {w : World} (hK : K (plainI r) w) : ref05_Plain r K w := by
  unfold ref05_Plain
  show loop1 (0 : Int) _ w
  have hlen : (letters.length : Int) = 66 := by decide
  refine up1 (fun k w' => w = w' ∧ ∀ b ∈ letters.take k, (b.toNat : Int) ≠ r) 0 66 rfl (by omega) (by omega) ⟨rfl, by simp⟩ ?_
  rintro k _ C _ hk ⟨rfl, hall⟩ hC
  refine ifD (fun hlt => ?_) (fun hge => ?_)
  · have hk1 : k < letters.length := by have : (k : Int) < (letters.length : Int) := hlt; omega
    refine idx_str k (by kernel_rfl) rfl hk1 ?_
    show ifB (IntKind.i64.wrap (letters[k].toNat : Int) == r) _ _
    have hb := letters[k].toNat_lt
    rw [wrap64_id (by omega) (by omega)]
    refine ifEq (fun h => ?_) (fun h => hC (by omega) _ _ rfl ⟨rfl, all_up hk1 hall h⟩)
    have := (plain_letters r).1 ⟨_, List.getElem_mem hk1, h⟩
    rw [show plainI r = true from by unfold plainI; simp only [Bool.or_eq_true, decide_eq_true_eq]; omega] at hK
    exact hK
  · have hn : ¬ k < letters.length := by have : ¬ (k : Int) < (letters.length : Int) := hge; omega
    have hall' := all_done hn hall
    have hno : ¬ (97 ≤ r ∧ r ≤ 122 ∨ 65 ≤ r ∧ r ≤ 90 ∨ 48 ≤ r ∧ r ≤ 57 ∨ r = 45 ∨ r = 95 ∨ r = 46 ∨ r = 58) := fun h => by
      obtain ⟨b, hb, e⟩ := (plain_letters r).2 h
      exact hall' b hb e
    refine ifD (fun h1 => ?_) (fun h1 => ?_)
    · have : plainI r = (r != 65533) := by
        unfold plainI
        by_cases h2 : r = 65533
        · subst h2; rfl
        · have e1 : (r != 65533) = true := by simpa using h2
          rw [e1]
          simp only [Bool.or_eq_true, decide_eq_true_eq]; omega
      rwa [this] at hK
    · have : plainI r = false := by unfold plainI; simp only [Bool.or_eq_false_iff, decide_eq_false_iff_not]; omega
      rwa [this] at hK

theorem all_spec {g : Nat} {p : Nat → Bool} {s : List UInt8} {t : TypeId} {K : Bool → World → Prop} {w : World} (ht : strT Pr t = true)
    (hcall : ∀ (n : Nat) (w' : World) (K' : Bool → World → Prop), K' (p n) w' → callV Pr Value.bool g #[(.int .i32 (n : Int))] w' K') (hK : ∀ w', Ext w w' → K (allFrom p s 0) w') :
    opTy Pr (Instr.range t (sval s)) pav (fun t1 w2 =>
      loop0 (fun k3 w4 =>
      opAl Pr (Instr.next (.pointer (some t1)) true 0) (nxval (Value.int .i64) (Value.int .i32)) endval (fun t5 w6 =>
      callV Pr Value.bool g #[(.int .i32 t5.2)] w6 fun t7 w8 =>
      ifB (!t7)
      (K false w8)
      (k3 w8)) (fun _ w9 =>
      K true w9) w4) w2) w := by
  refine range_ty ht fun a w1 ha hit hx1 => ?_
  refine runes0 (fun pos w' => Ext w w' ∧ allFrom p s 0 = allFrom p s pos) ⟨hx1, rfl⟩ hit ?_
  rintro pos w2 C hp ⟨hx2, hb⟩ hi hC
  refine next_st hi (fun hlt w3 hw3 hi3 => ?_) (fun hge => ?_)
  · have hx3 : Ext w w3 := Below.wr hx2 (by omega) hw3
    have hon := step_on hlt
    have hpos := uStep_pos (s.drop pos)
    refine hcall _ _ _ ?_
    refine ifNot (ifB_of (fun h => ?_) (fun h => ?_))
    · exact hC _ _ (by omega) hon ⟨hx3, by rw [hb, allFrom_on hlt, h, Bool.true_and]⟩ hi3
    · have := hK w3 hx3
      rw [hb, allFrom_on hlt, h, Bool.false_and] at this
      exact this
  · have := hK w2 hx2
    rw [hb, allFrom_end hge] at this
    exact this
def plainN (n : Nat) : Bool := plainI (n : Int)
def printN (n : Nat) : Bool := decide (32 ≤ n) && decide (n ≠ 127)
theorem runes_all_Plain_spec {s : List UInt8} {K : Bool → World → Prop} {w : World} (hK : ∀ w', Ext w w' → K (allFrom plainN s 0) w') : runes_all_Plain s K w := by
  unfold runes_all_Plain
  exact all_spec (by kernel_rfl) (fun n w' K' h => runes_Plain_calls (runes_Plain_spec h)) hK
theorem runes_Val_1_spec {n : Nat} {K : Bool → World → Prop} {w : World} (hK : K (printN n) w) : runes_Val_1 (n : Int) K w := by
  unfold runes_Val_1
  unfold printN at hK
  refine ifD (fun h => ?_) (fun h => ?_)
  · have : ((n : Int) != 127) = (decide (32 ≤ n) && decide (n ≠ 127)) := by
      have e1 : decide (32 ≤ n) = true := decide_eq_true (by omega)
      rw [e1, Bool.true_and]
      by_cases h2 : n = 127
      · subst h2; rfl
      · have e2 : decide (n ≠ 127) = true := decide_eq_true h2
        rw [e2]
        simp; omega
    rw [this]
    exact hK
  · rw [show decide (32 ≤ n) = false from decide_eq_false (by omega), Bool.false_and] at hK
    exact hK
theorem runes_all_Val_spec {s : List UInt8} {K : Bool → World → Prop} {w : World} (hK : ∀ w', Ext w w' → K (allFrom printN s 0) w') : runes_all_Val s K w := by
  unfold runes_all_Val
  exact all_spec (by kernel_rfl) (fun n w' K' h => runes_Val_1_calls (runes_Val_1_spec h)) hK

/-- Which texts may be keys, and values. -/
def keyOk (s : List UInt8) : Bool := decide (1 ≤ s.length) && decide (s.length ≤ 24) && keyFrom plainN s 0
def valOk (s : List UInt8) : Bool := decide (s.length ≤ 48) && keyFrom printN s 0
theorem runes_Key_spec {s : List UInt8} {K : Bool → World → Prop} {w : World} (ht : Utf8T w) (hK : ∀ w', Ext w w' → K (keyOk s) w') : runes_Key s K w := by
  unfold runes_Key
  have hno : keyOk s = false → K false w := fun h => by have := hK w (Ext.rfl' _); rwa [h] at this
  refine ifNot (ifStr (fun h => hno (by subst h; rfl)) (fun h => ?_))
  have hlen : 1 ≤ s.length := List.length_pos_iff.2 h
  refine ifD (fun h24 => ?_) (fun h24 => hno (by unfold keyOk; rw [show decide (s.length ≤ 24) = false from decide_eq_false (by omega)]; simp))
  have e0 : keyOk s = keyFrom plainN s 0 := by unfold keyOk; rw [show decide (s.length ≤ 24) = true from decide_eq_true (by omega), show decide (1 ≤ s.length) = true from decide_eq_true hlen]; simp
  rw [e0] at hK
  unfold keyFrom at hK
  refine runes_Whole_calls (runes_Whole_spec ht (by omega) fun w1 hx1 => ?_)
  refine ifB_of (fun hb => ?_) (fun hb => ?_)
  · refine runes_all_Plain_calls (runes_all_Plain_spec fun w2 hx2 => ?_)
    have := hK w2 (hx1.trans' hx2)
    rwa [hb, Bool.true_and] at this
  · have := hK w1 hx1
    rwa [hb, Bool.false_and] at this
theorem runes_Val_spec {s : List UInt8} {K : Bool → World → Prop} {w : World} (ht : Utf8T w) (hK : ∀ w', Ext w w' → K (valOk s) w') : runes_Val s K w := by
  unfold runes_Val
  refine ifD (fun h48 => ?_) (fun h48 => ?_)
  · have e0 : valOk s = keyFrom printN s 0 := by unfold valOk; rw [show decide (s.length ≤ 48) = true from decide_eq_true (by omega)]; simp
    rw [e0] at hK
    unfold keyFrom at hK
    refine runes_Whole_calls (runes_Whole_spec ht (by omega) fun w1 hx1 => ?_)
    refine ifB_of (fun hb => ?_) (fun hb => ?_)
    · refine runes_all_Val_calls (runes_all_Val_spec fun w2 hx2 => ?_)
      have := hK w2 (hx1.trans' hx2)
      rwa [hb, Bool.true_and] at this
    · have := hK w1 hx1
      rwa [hb, Bool.false_and] at this
  · have := hK w (Ext.rfl' _)
    rwa [show valOk s = false from by unfold valOk; rw [show decide (s.length ≤ 48) = false from decide_eq_false (by omega)]; simp] at this
theorem ref05_Key_spec {s : List UInt8} {K : Bool → World → Prop} {w : World} (hK : K (keyOk s) w) : ref05_Key s K w := by
  unfold ref05_Key
  refine ifD (fun h => ?_) (fun h1 => ifD (fun h => ?_) (fun h2 => ?_))
  · rwa [show keyOk s = false from by unfold keyOk; rw [show decide (1 ≤ s.length) = false from decide_eq_false (by omega)]; simp] at hK
  · rwa [show keyOk s = false from by unfold keyOk; rw [show decide (s.length ≤ 24) = false from decide_eq_false (by omega)]; simp] at hK
  · have e0 : keyOk s = keyFrom plainN s 0 := by unfold keyOk; rw [show decide (s.length ≤ 24) = true from decide_eq_true (by omega), show decide (1 ≤ s.length) = true from decide_eq_true (by omega)]; simp
    rw [e0] at hK
    refine ⟨fun i w' => w = w' ∧ ∃ k : Nat, i = k ∧ k ≤ s.length ∧ keyFrom plainN s 0 = keyFrom plainN s k, fun i _ => (s.length - i).toNat, ⟨rfl, 0, rfl, by omega, rfl⟩, ?_⟩
    rintro i _ ⟨rfl, k, rfl, hk, hb⟩
    refine ifD (fun hlt => ?_) (fun hge => ?_)
    · have hk1 : k < s.length := by omega
      refine ref05_Size_calls (ref05_Size_spec rfl hk1 (by omega) ?_)
      have hle := dec_le (s.drop k)
      rw [List.length_drop] at hle
      refine ifEq (fun h0 => ?_) (fun h0 => ?_)
      · rw [hb, keyFrom_bad hk1 (by omega)] at hK; exact hK
      · have h0' : (dec (s.drop k)).1 ≠ 0 := by omega
        refine ref05_Plain_calls (ref05_Plain_spec ?_)
        have hon := keyFrom_on (p := plainN) hk1 h0'
        refine ifNot (ifB_of (fun hp => ?_) (fun hp => ?_))
        · refine ⟨⟨rfl, k + (dec (s.drop k)).1, i64_at (by omega), by omega, by rw [hb, hon, show plainN (dec (s.drop k)).2 = true from hp, Bool.true_and]⟩, ?_⟩
          dsimp only
          rw [i64_at (by omega)]; omega
        · rw [hb, hon, show plainN (dec (s.drop k)).2 = false from hp, Bool.false_and] at hK
          exact hK
    · rw [hb, keyFrom_end (by omega)] at hK; exact hK
theorem ref05_Val_spec {s : List UInt8} {K : Bool → World → Prop} {w : World} (hK : K (valOk s) w) : ref05_Val s K w := by
  unfold ref05_Val
  refine ifD (fun h => ?_) (fun h1 => ?_)
  · rwa [show valOk s = false from by unfold valOk; rw [show decide (s.length ≤ 48) = false from decide_eq_false (by omega)]; simp] at hK
  · have e0 : valOk s = keyFrom printN s 0 := by unfold valOk; rw [show decide (s.length ≤ 48) = true from decide_eq_true (by omega)]; simp
    rw [e0] at hK
    unfold keyFrom at hK
    refine ref05_Bad_calls (ref05_Bad_spec (by omega) ?_)
    refine ifD (fun h => ?_) (fun h => ?_)
    · rwa [show decide (badFrom s 0 < 0) = false from decide_eq_false (by omega), Bool.false_and] at hK
    · rw [show decide (badFrom s 0 < 0) = true from decide_eq_true (by omega), Bool.true_and] at hK
      have hbr := bytes_runes (p := printN) (fun n hn => by unfold printN; simp; omega) s 0
      rw [List.drop_zero] at hbr
      refine up1 (fun k w' => w = w' ∧ ∀ b ∈ s.take k, printN b.toNat = true) 0 s.length rfl (by omega) (by omega) ⟨rfl, by simp⟩ ?_
      rintro k _ C _ hk ⟨rfl, hall⟩ hC
      refine ifD (fun hlt => ?_) (fun hge => ?_)
      · have hk1 : k < s.length := by omega
        refine idx_str k (by kernel_rfl) rfl hk1 ?_
        have bad : printN s[k].toNat = false → K false w := fun hp => by
          have : allFrom printN s 0 = false := by
            cases h : allFrom printN s 0
            · rfl
            · have := hbr.2 h _ (List.getElem_mem hk1)
              rw [hp] at this; cases this
          rwa [this] at hK
        refine ifD (fun h => bad (by unfold printN; rw [show decide (32 ≤ s[k].toNat) = false from decide_eq_false (by omega)]; rfl)) (fun h2 => ?_)
        refine idx_str k (by kernel_rfl) rfl hk1 ?_
        refine ifEq (fun h => bad (by unfold printN; simp; omega)) (fun h3 => ?_)
        exact hC hk1 _ _ rfl ⟨rfl, all_up hk1 hall (by unfold printN; simp; omega)⟩
      · rw [hbr.1 (all_done (by omega) hall)] at hK
        exact hK
theorem runes_Count_spec {s : List UInt8} {K : Int → World → Prop} {w : World} (hl : s.length ≤ 4611686018427387904) (hK : ∀ w', Ext w w' → K (countFrom s 0 : Int) w') : runes_Count s K w := by
  unfold runes_Count
  refine range_ty (by kernel_rfl) fun a w1 ha hit hx1 => ?_
  refine runes1 (fun pos (n : Int) w' => Ext w w' ∧ ∃ m : Nat, n = m ∧ m ≤ pos ∧ countFrom s 0 = m + countFrom s pos) ⟨hx1, 0, rfl, by omega, by omega⟩ hit ?_
  rintro pos _ w2 C hp ⟨hx2, m, rfl, hm, hb⟩ hi hC
  refine next_st hi (fun hlt w3 hw3 hi3 => ?_) (fun hge => ?_)
  · have hx3 : Ext w w3 := Below.wr hx2 (by omega) hw3
    have hon := step_on hlt
    have hpos := uStep_pos (s.drop pos)
    exact hC _ _ _ (by omega) hon ⟨hx3, m + 1, by rw [i64_id] <;> omega, by omega, by rw [hb, countFrom_on hlt]; omega⟩ hi3
  · have := hK w2 hx2
    rw [hb, countFrom_end hge] at this
    exact this
theorem runes_Cut_spec {s : List UInt8} {n : Int} {K : List UInt8 → World → Prop} {w : World} (hn : -9223372036854775808 ≤ n ∧ n ≤ 9223372036854775807) (hK : ∀ w', Ext w w' → K (s.take (cutFrom s n 0)) w') : runes_Cut s n K w := by
  unfold runes_Cut
  refine range_ty (by kernel_rfl) fun a w1 ha hit hx1 => ?_
  refine runes1 (fun pos (m : Int) w' => Ext w w' ∧ m ≤ n ∧ -9223372036854775808 ≤ m ∧ cutFrom s n 0 = cutFrom s m pos) ⟨hx1, by omega, by omega, rfl⟩ hit ?_
  rintro pos m w2 C hp ⟨hx2, hm, hm2, hb⟩ hi hC
  refine next_st hi (fun hlt w3 hw3 hi3 => ?_) (fun hge => ?_)
  · have hx3 : Ext w w3 := Below.wr hx2 (by omega) hw3
    have hon := step_on hlt
    have hpos := uStep_pos (s.drop pos)
    refine ifD (fun h => ?_) (fun h => ?_)
    · refine sub_str_h (by kernel_rfl) rfl (by omega) ?_
      have := hK w3 hx3
      rw [hb, cutFrom_end (by omega)] at this
      exact this
    · exact hC _ _ _ (by omega) hon ⟨hx3, by rw [i64_id] <;> omega, by rw [i64_id] <;> omega, by rw [hb, cutFrom_on ⟨hlt, by omega⟩, i64_id (by omega) (by omega)]⟩ hi3
  · have := hK w2 hx2
    rw [hb, cutFrom_end (by omega), List.take_of_length_le (by omega)] at this
    exact this
theorem ref05_Cut_spec {s : List UInt8} {n : Int} {K : (List UInt8) × Int → World → Prop} {w : World} (hn : -9223372036854775808 ≤ n ∧ n ≤ 9223372036854775807) (hl : s.length ≤ 4611686018427387904)
    (hK : ∀ k : Int, ((s.length : Int) ≤ n → k = countFrom s 0) → K (s.take (cutFrom s n 0), k) w) : ref05_Cut s n K w := by
  unfold ref05_Cut
  refine ⟨fun i k w' => w = w' ∧ ∃ a b : Nat, i = a ∧ k = b ∧ a ≤ s.length ∧ b ≤ a ∧ cutFrom s n 0 = cutFrom s (n - b) a ∧ countFrom s 0 = b + countFrom s a, fun i _ _ => (s.length - i).toNat, ⟨rfl, 0, 0, rfl, rfl, by omega, by omega, by rw [show n - ((0 : Nat) : Int) = n by omega], by omega⟩, ?_⟩
  rintro _ _ _ ⟨rfl, a, b, rfl, rfl, ha, hba, hcut, hcnt⟩
  have fin : ∀ t, strT Pr t = true → ¬ (a < s.length ∧ (b : Int) < n) → opRd Pr (Instr.sliceAt t (sval s) none (some (.int .i64 (a : Int))) none) sval (fun t7 => K (t7, (b : Int)) w) w := fun t ht h => by
    refine sub_str_h ht rfl ha ?_
    have := hK b fun hsn => by
      have : ¬ a < s.length := fun hlt => h ⟨hlt, by omega⟩
      rw [hcnt, countFrom_end this]; omega
    rw [hcut, cutFrom_end (by omega)] at this
    exact this
  refine ifD (fun hlt => ifD (fun hkn => ?_) (fun hkn => fin _ (by kernel_rfl) (by omega))) (fun hge => fin _ (by kernel_rfl) (by omega))
  have ha1 : a < s.length := by omega
  refine ref05_Size_calls (ref05_Size_spec rfl ha1 hl ?_)
  have hon := step_on ha1
  have hpos := uStep_pos (s.drop a)
  have hc2 : cutFrom s n 0 = cutFrom s (n - (b + 1 : Nat)) (a + (uStep (s.drop a)).2) := by
    rw [hcut, cutFrom_on ⟨ha1, by omega⟩]
    congr 1
    omega
  have hn2 : countFrom s 0 = (b + 1) + countFrom s (a + (uStep (s.drop a)).2) := by rw [hcnt, countFrom_on ha1]; omega
  refine ifEq (fun h0 => ?_) (fun h0 => ?_)
  · rw [uStep_bad (by omega)] at hc2 hn2
    refine ⟨⟨rfl, a + 1, b + 1, by rw [i64_id] <;> omega, by rw [i64_id] <;> omega, by omega, by omega, hc2, hn2⟩, ?_⟩
    dsimp only
    rw [i64_id] <;> omega
  · have h0' : (dec (s.drop a)).1 ≠ 0 := by omega
    rw [uStep_good h0'] at hc2 hn2 hon hpos
    refine ⟨⟨rfl, a + (dec (s.drop a)).1, b + 1, i64_at (by omega), by rw [i64_id] <;> omega, by omega, by omega, hc2, hn2⟩, ?_⟩
    dsimp only
    rw [i64_at (by omega)]
    dsimp only at hpos hon
    omega

theorem runes_small_spec {n : Nat} {K : Int → World → Prop} {w : World} (hn : n ≤ 1114111) (hK : K (if 65 ≤ n ∧ n ≤ 90 then (n : Int) + 32 else n) w) : runes_small (n : Int) K w := by
  unfold runes_small
  refine ifD (fun h1 => ifD (fun h2 => ?_) (fun h2 => ?_)) (fun h1 => ?_)
  · rw [if_pos (by omega)] at hK
    rw [i32_id (n := (n : Int) + 97) (by omega) (by omega), i32_id (by omega) (by omega), show (n : Int) + 97 - 65 = n + 32 by omega]
    exact hK
  · rwa [if_neg (by omega)] at hK
  · rwa [if_neg (by omega)] at hK
theorem runes_Lower_spec {s : List UInt8} {K : List UInt8 → World → Prop} {w : World} (hl : s.length ≤ 4611686018427387904) (hK : ∀ w', Ext w w' → K (s.map lowB) w') : runes_Lower s K w := by
  unfold runes_Lower
  refine str2b_ty (by kernel_rfl) (by kernel_rfl) hl fun out w1 ho hx1 => ?_
  refine range_ty (by kernel_rfl) fun a w2 ha hit hx2 => ?_
  have hblk : ∀ b, out.blk = some b → b < w1.heap.size := fun b hb => by
    rcases ho.row with ⟨h0, _⟩ | ⟨g, cur, h1, _, h2, _⟩
    · subst h0; cases hb
    · simp [Sl.blk, h1] at hb; subst hb; exact h2.lt
  have hne : ∀ b, out.blk = some b → some b ≠ some a.block := fun b hb e => by have := hblk b hb; cases e; omega
  refine runes0 (fun pos w' => Ext w w' ∧ w2.heap.size ≤ w'.heap.size ∧ OwnSl eB w' w.heap.size out ((s.take pos).map lowB ++ s.drop pos)) ⟨hx1.trans' hx2, Nat.le_refl _, by simpa using ho.ext hx2⟩ hit ?_
  rintro pos w3 C hp ⟨hx3, hsz3, ho3⟩ hi hC
  refine next_st hi (fun hlt w4 hw4 hi4 => ?_) (fun hge => ?_)
  · have h1s := hx1.size
    have hx4 : Ext w w4 := Below.wr hx3 (by omega) hw4
    have hon := step_on hlt
    have hpos := uStep_pos (s.drop pos)
    have hru := uStep_rune (s.drop pos)
    have ho4 := ho3.grownB (grown_wr hw4) hne
    have hsz4 : w2.heap.size ≤ w4.heap.size := by rw [hw4.size]; exact hsz3
    have hst := low_step hlt
    refine runes_small_calls (runes_small_spec hru ?_)
    by_cases hc : 65 ≤ (uStep (s.drop pos)).1 ∧ (uStep (s.drop pos)).1 ≤ 90
    · rw [if_pos hc] at hst ⊢
      refine ifNe (fun _ => ?_) (fun h => by dsimp only at h; omega)
      have hlen : pos < ((s.take pos).map lowB ++ s.drop pos).length := by simp; omega
      refine ix_own (by kernel_rfl) ho4 rfl hlen ?_
      refine st_own (b8 ((uStep (s.drop pos)).1 + 32)) (by kernel_rfl) ho4 hlen ?_ fun w5 ho5 hg5 => ?_
      · rw [u8_wrap (by omega) (by omega)]
        show [Value.int .u8 (((uStep (s.drop pos)).1 : Int) + 32)] = [Value.int .u8 ((b8 ((uStep (s.drop pos)).1 + 32)).toNat : Int)]
        rw [b8_toNat (by omega)]
        simp
      · have hx5 : Ext w w5 := Ext.own hx4 ho4 (Nat.le_refl _) hg5
        refine hC _ _ (by omega) hon ⟨hx5, Nat.le_trans hsz4 hg5.size, by rw [hst]; exact ho5⟩ (hi4.keep (hg5.block _ hi4.lt fun e => hne _ e.symm rfl))
    · rw [if_neg hc] at hst ⊢
      refine ifNe (fun h => absurd rfl h) (fun _ => ?_)
      exact hC _ _ (by omega) hon ⟨hx4, hsz4, by rw [hst]; exact ho4⟩ hi4
  · refine b2str_rd (by kernel_rfl) (by kernel_rfl) ho3.is ?_
    have e : (s.take pos).map lowB ++ s.drop pos = s.map lowB := by rw [List.take_of_length_le (by omega), List.drop_of_length_le (by omega), List.append_nil]
    rw [e]
    exact hK w3 hx3
theorem ref05_Lower_spec {s : List UInt8} {K : List UInt8 → World → Prop} {w : World} (hl : s.length ≤ 140737488355327) (hK : ∀ w', Ext w w' → K (s.map lowB) w') : ref05_Lower s K w := by
  unfold ref05_Lower
  refine up2b (fun k out w' => Ext w w' ∧ OwnSl eB w' w.heap.size out ((s.take k).map lowB)) 0 s.length rfl (by omega) (by omega) ⟨Ext.rfl' _, OwnSl.nil _ _ _⟩ ?_
  rintro k out w1 C _ hk ⟨hx, ho⟩ hC
  refine ifD (fun hlt => ?_) (fun hge => ?_)
  · have hk1 : k < s.length := by omega
    refine idx_str k (by kernel_rfl) rfl hk1 ?_
    have hb := s[k].toNat_lt
    have fin : ∀ s' w', OwnSl eB w' w.heap.size s' ((s.take k).map lowB ++ [lowB s[k]]) → w1.grownBy w' out.blk → C s' (i64 ((k : Int) + 1)) w' := fun s' w' ho' hg =>
      hC hk1 _ _ _ rfl ⟨Ext.own hx ho (Nat.le_refl _) hg, by rw [map_up hk1]; exact ho'⟩
    have hln := lowB_nat s[k]
    have hby : (((s.take k).map lowB).length + 1) * 1 ≤ 140737488355328 := by simp; omega
    refine ifD (fun h1 => ifD (fun h2 => ?_) (fun h2 => ?_)) (fun h1 => ?_)
    · rw [show IntKind.u8.wrap ((s[k].toNat : Int) + 32) = ((lowB s[k]).toNat : Int) from by rw [if_pos (by omega)] at hln; rw [hln, u8_wrap (by omega) (by omega)]; omega]
      exact push_ty 1 (lowB s[k]) (by kernel_rfl) (by kernel_rfl) (by decide) (fun w => by kernel_rfl) ho hx.size (by decide) hby fin
    · rw [show (s[k].toNat : Int) = ((lowB s[k]).toNat : Int) from by rw [if_neg (by omega)] at hln; rw [hln]]
      exact push_ty 1 (lowB s[k]) (by kernel_rfl) (by kernel_rfl) (by decide) (fun w => by kernel_rfl) ho hx.size (by decide) hby fin
    · rw [show (s[k].toNat : Int) = ((lowB s[k]).toNat : Int) from by rw [if_neg (by omega)] at hln; rw [hln]]
      exact push_ty 1 (lowB s[k]) (by kernel_rfl) (by kernel_rfl) (by decide) (fun w => by kernel_rfl) ho hx.size (by decide) hby fin
  · refine b2str_rd (by kernel_rfl) (by kernel_rfl) ho.is ?_
    rw [take_done (by omega)]
    exact hK w1 hx

theorem law05_awake_spec {K : Bool → World → Prop} {w : World} (ht : Utf8T w) (hK : ∀ w', Ext w w' → K true w') : law05_awake K w := by
  unfold law05_awake
  refine runes_Key_calls (runes_Key_spec ht fun w1 hx1 => ?_)
  refine ifB_t (by unfold keyOk; rw [ascii_key (by decide)]; decide +kernel) ?_
  refine runes_Key_calls (runes_Key_spec (ht.ext hx1) fun w2 hx2 => ?_)
  have ht2 := (ht.ext hx1).ext hx2
  refine ifNot (ifB_f (by unfold keyOk; rw [ascii_key (by decide)]; decide +kernel) ?_)
  refine runes_Val_calls (runes_Val_spec ht2 fun w3 hx3 => ?_)
  refine ifB_t (by unfold valOk; rw [ascii_key (by decide)]; decide +kernel) ?_
  refine runes_Count_calls (runes_Count_spec (by decide) fun w4 hx4 => ?_)
  refine ifEq (fun _ => ?_) (fun h => absurd (by rw [ascii_count (by decide)]; rfl) h)
  refine runes_Bad_calls (runes_Bad_spec ((ht2.ext hx3).ext hx4) (by decide) fun w5 hx5 => ?_)
  rw [ascii_bad (by decide)]
  exact hK w5 (hx1.trans' (hx2.trans' (hx3.trans' (hx4.trans' hx5))))

/-! ### The laws -/
theorem law05_RunesTexts_spec {s : List UInt8} {K : Bool → World → Prop} {w : World} (ht : Utf8T w) (hK : ∀ w', Ext w w' → K true w') : law05_RunesTexts s K w := by
  unfold law05_RunesTexts
  refine ifD (fun h => law05_awake_calls (law05_awake_spec ht hK)) (fun h => ?_)
  have hl : s.length ≤ 4611686018427387904 := by omega
  refine runes_Bad_calls (runes_Bad_spec ht hl fun w1 hx1 => ?_)
  refine ref05_Bad_calls (ref05_Bad_spec hl ?_)
  refine ifEq (fun _ => ?_) (fun h => absurd rfl h)
  refine runes_Whole_calls (runes_Whole_spec (ht.ext hx1) hl fun w2 hx2 => ?_)
  refine ref05_Bad_calls (ref05_Bad_spec hl ?_)
  refine ifB_t (by simp) ?_
  have hx2' := hx1.trans' hx2
  refine runes_Key_calls (runes_Key_spec (ht.ext hx2') fun w3 hx3 => ?_)
  refine ref05_Key_calls (ref05_Key_spec (ifB_t (by simp) ?_))
  have hx3' := hx2'.trans' hx3
  refine runes_Val_calls (runes_Val_spec (ht.ext hx3') fun w4 hx4 => ?_)
  refine ref05_Val_calls (ref05_Val_spec (ifB_t (by simp) ?_))
  have hx4' := hx3'.trans' hx4
  exact law05_awake_calls (law05_awake_spec (ht.ext hx4') fun w5 hx5 => hK w5 (hx4'.trans' hx5))
theorem law05_RunesPlain_spec {r : Int} {K : Bool → World → Prop} {w : World} (hr : -2147483648 ≤ r ∧ r ≤ 2147483647) (ht : Utf8T w) (hK : ∀ w', Ext w w' → K true w') : law05_RunesPlain r K w := by
  unfold law05_RunesPlain
  refine runes_Plain_calls (runes_Plain_spec ?_)
  rw [wrap64_id (by omega) (by omega)]
  refine ref05_Plain_calls (ref05_Plain_spec (ifB_t (by simp) ?_))
  exact law05_awake_calls (law05_awake_spec ht hK)
theorem law05_RunesCuts_spec {s : List UInt8} {n : Int} {K : Bool → World → Prop} {w : World} (hn : -9223372036854775808 ≤ n ∧ n ≤ 9223372036854775807) (ht : Utf8T w) (hK : ∀ w', Ext w w' → K true w') : law05_RunesCuts s n K w := by
  unfold law05_RunesCuts
  refine ifD (fun h => law05_awake_calls (law05_awake_spec ht hK)) (fun h => ?_)
  have hl : s.length ≤ 4611686018427387904 := by omega
  refine ref05_Cut_calls (ref05_Cut_spec hn hl fun k1 _ => ?_)
  refine ref05_Cut_calls (ref05_Cut_spec (by omega) hl fun k2 hk2 => ?_)
  refine runes_Cut_calls (runes_Cut_spec hn fun w1 hx1 => ?_)
  refine ifStr (fun _ => ?_) (fun h => absurd rfl h)
  refine ifStr (fun _ => ?_) (fun h => absurd (by rw [cutFrom_all (by omega) (by omega)]; simp) h)
  refine runes_Count_calls (runes_Count_spec hl fun w2 hx2 => ?_)
  refine ifEq (fun _ => ?_) (fun h => absurd (hk2 (Int.le_refl _)).symm h)
  have hx2' := hx1.trans' hx2
  exact law05_awake_calls (law05_awake_spec (ht.ext hx2') fun w5 hx5 => hK w5 (hx2'.trans' hx5))
theorem law05_RunesLower_spec {s : List UInt8} {K : Bool → World → Prop} {w : World} (ht : Utf8T w) (hK : ∀ w', Ext w w' → K true w') : law05_RunesLower s K w := by
  unfold law05_RunesLower
  refine ifD (fun h => law05_awake_calls (law05_awake_spec ht hK)) (fun h => ?_)
  refine runes_Lower_calls (runes_Lower_spec (by omega) fun w1 hx1 => ?_)
  refine ref05_Lower_calls (ref05_Lower_spec (by omega) fun w2 hx2 => ?_)
  refine ifStr (fun _ => ?_) (fun h => absurd rfl h)
  refine runes_Lower_calls (runes_Lower_spec (by simp; omega) fun w3 hx3 => ?_)
  refine ifStr (fun _ => ?_) (fun h => absurd (by rw [List.map_map]; exact List.map_congr_left fun b _ => lowB_low b) h)
  have hx3' := (hx1.trans' hx2).trans' hx3
  refine runes_Bad_calls (runes_Bad_spec (ht.ext hx3') (by simp; omega) fun w4 hx4 => ?_)
  have hx4' := hx3'.trans' hx4
  refine runes_Bad_calls (runes_Bad_spec (ht.ext hx4') (by omega) fun w5 hx5 => ?_)
  refine ifEq (fun _ => ?_) (fun h => absurd (badFrom_low s 0) h)
  have hx5' := hx4'.trans' hx5
  exact law05_awake_calls (law05_awake_spec (ht.ext hx5') fun w6 hx6 => hK w6 (hx5'.trans' hx6))
end Go.Chg
