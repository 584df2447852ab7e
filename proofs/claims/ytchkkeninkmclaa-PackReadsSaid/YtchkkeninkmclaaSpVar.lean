/-
  What 'slices.Clone', 'varint' and 'changeoverref01' do with bytes.
-/
import Derived.Test.YtchkkeninkmclaaSub
import Derived.Test.YtchkkeninkmclaaFns
set_option maxRecDepth 20000
namespace Go.Chg
open Go.Vc

theorem slices_Clone_byte_byte_spec {s : Sl} {l : List UInt8} {K : Sl → World → Prop} {w : World} (hs : IsSl eB w s l) (hl : l.length ≤ 140737488355328)
    (hK : ∀ s' w', OwnSl eB w' w.heap.size s' l → Ext w w' → K s' w') : slices_Clone_byte_byte s K w := by
  unfold slices_Clone_byte_byte
  refine eqSlNil (by kernel_rfl) fun b hb => ifB_of (fun h => ?_) (fun _ => ?_)
  · have ha : s.a = none := by simpa [h] using hb.symm
    have := hs.nil ha
    have := hs.cap
    have := hs.len
    have h0 : l = [] := List.eq_nil_of_length_eq_zero (by omega)
    subst h0
    exact hK _ _ (.nil _ _ _) (Ext.rfl' _)
  · refine lit_ty 1 (E := eB) (xs := []) w.heap.size (by kernel_rfl) rfl (by decide) (fun w => by kernel_rfl) (Nat.le_refl _) fun s1 w1 _ ho hx => ?_
    refine app_ty 1 (by kernel_rfl) (by kernel_rfl) ho (hs.ext hx) (by simp; omega) hx.size (by decide) fun s2 w2 ho2 hg => ?_
    exact hK _ _ ho2 (below_grown hx hx.size hg ho.ge)

theorem varint_Put_spec {b : Sl} {l : List UInt8} {n : Int} {K : Sl → World → Prop} {w : World} (hb : IsSl eB w b l) (hn : n ≤ 9223372036854775807) (hl : l.length + 9 ≤ 140737488355328)
    (hK : ∀ s' w', OwnSl eB w' w.heap.size s' (l ++ enc n.toNat) → Ext w w' → K s' w') : varint_Put b n K w := by
  unfold varint_Put
  refine slices_Clone_byte_byte_calls (slices_Clone_byte_byte_spec hb (by omega) fun s1 w1 ho1 hx1 => ?_)
  have h9 := enc_len9 hn
  have himax : imax n 0 = (n.toNat : Int) := by unfold imax; split <;> omega
  rw [himax]
  refine ⟨fun n3 o4 w' => Ext w w' ∧ ∃ (k : Nat) (pre : List UInt8), n3 = (k : Int) ∧ (k : Int) ≤ 9223372036854775807 ∧ l ++ enc n.toNat = pre ++ enc k ∧ OwnSl eB w' w.heap.size o4 pre, fun n3 _ _ => n3.toNat, ⟨hx1, n.toNat, l, rfl, by omega, rfl, ho1⟩, ?_⟩
  rintro n3 o4 w4 ⟨hx, k, pre, rfl, hk, he, ho⟩
  have hlen := congrArg List.length he
  simp only [List.length_append] at hlen
  have hp := enc_pos k
  refine ifD (fun hge => ?_) (fun hlt => ?_)
  · have hbig : ¬ k < 128 := by omega
    have hlen2 := congrArg List.length (enc_big hbig)
    simp only [List.length_cons] at hlen2
    have e1 : bOr .u8 (IntKind.u8.wrap (k : Int)) 128 = ((b8 (k % 128 + 128)).toNat : Int) := by
      rw [bOr128, b8_toNat (by omega)]
      omega
    rw [e1]
    refine lit_ty 1 (E := eB) (xs := [b8 (k % 128 + 128)]) w.heap.size (by kernel_rfl) rfl (by decide) (fun w => by kernel_rfl) hx.size fun s5 w5 _ ho5 hx5 => ?_
    refine app_ty 1 (by kernel_rfl) (by kernel_rfl) (ho.ext hx5) ho5.is (by simp; omega) (Nat.le_trans hx.size hx5.size) (by decide) fun s6 w6 ho6 hg => ?_
    refine ⟨⟨below_grown (hx.trans' hx5) (Nat.le_trans hx.size hx5.size) hg ho.ge, k / 128, pre ++ [b8 (k % 128 + 128)], ?_, by omega, ?_, ho6⟩, ?_⟩
    · rw [shR7, Int.fdiv_eq_ediv_of_nonneg _ (by omega)]
      omega
    · rw [he, enc_big hbig]; simp
    · dsimp only
      rw [shR7, Int.fdiv_eq_ediv_of_nonneg _ (by omega)]
      omega
  · have hs : k < 128 := by omega
    have e1 : IntKind.u8.wrap (k : Int) = ((b8 k).toNat : Int) := by
      rw [u8_wrap (by omega) (by omega), b8_toNat (by omega)]
    rw [e1]
    refine lit_ty 1 (E := eB) (xs := [b8 k]) w.heap.size (by kernel_rfl) rfl (by decide) (fun w => by kernel_rfl) hx.size fun s5 w5 _ ho5 hx5 => ?_
    refine app_ty 1 (by kernel_rfl) (by kernel_rfl) (ho.ext hx5) ho5.is (by simp; omega) (Nat.le_trans hx.size hx5.size) (by decide) fun s6 w6 ho6 hg => ?_
    rw [← enc_small hs, ← he] at ho6
    exact hK _ _ ho6 (below_grown (hx.trans' hx5) (Nat.le_trans hx.size hx5.size) hg ho.ge)

theorem ref01_Bytes_spec {n : Int} {K : Sl → World → Prop} {w : World} (hn : n ≤ 9223372036854775807)
    (hK : ∀ s' w', OwnSl eB w' w.heap.size s' (enc n.toNat) → Ext w w' → K s' w') : ref01_Bytes n K w := by
  unfold ref01_Bytes
  have h9 := enc_len9 hn
  refine ⟨fun m w' => w = w' ∧ m = (n.toNat : Int), ifD (fun h => ⟨rfl, by omega⟩) (fun h => ⟨rfl, by omega⟩), ?_⟩
  rintro m _ ⟨rfl, rfl⟩
  refine ⟨fun n3 o4 w' => Ext w w' ∧ ∃ (k : Nat) (pre : List UInt8), n3 = (k : Int) ∧ (k : Int) ≤ 9223372036854775807 ∧ enc n.toNat = pre ++ enc k ∧ OwnSl eB w' w.heap.size o4 pre, fun n3 _ _ => n3.toNat, ⟨Ext.rfl' _, n.toNat, [], rfl, by omega, rfl, .nil _ _ _⟩, ?_⟩
  rintro n3 o4 w4 ⟨hx, k, pre, rfl, hk, he, ho⟩
  have hlen := congrArg List.length he
  simp only [List.length_append] at hlen
  have hp := enc_pos k
  refine ifD (fun hge => ?_) (fun hlt => ?_)
  · have hbig : ¬ k < 128 := by omega
    have hlen2 := congrArg List.length (enc_big hbig)
    simp only [List.length_cons] at hlen2
    have e1 : IntKind.u8.wrap (i64 (128 + (Int.tmod (k : Int) 128))) = ((b8 (k % 128 + 128)).toNat : Int) := by
      rw [b8_toNat (by omega), Int.tmod_eq_emod_of_nonneg (by omega), i64_id (by omega) (by omega), u8_wrap (by omega) (by omega)]
      omega
    have e2 : IntKind.i64.wrap (Int.tdiv (k : Int) 128) = ((k / 128 : Nat) : Int) := by
      rw [Int.tdiv_eq_ediv_of_nonneg (by omega)]
      exact i64_id (n := (k : Int) / 128) (by omega) (by omega)
    rw [e1]
    refine lit_ty 1 (E := eB) (xs := [b8 (k % 128 + 128)]) w.heap.size (by kernel_rfl) rfl (by decide) (fun w => by kernel_rfl) hx.size fun s5 w5 _ ho5 hx5 => ?_
    refine app_ty 1 (by kernel_rfl) (by kernel_rfl) (ho.ext hx5) ho5.is (by simp; omega) (Nat.le_trans hx.size hx5.size) (by decide) fun s6 w6 ho6 hg => ?_
    refine ⟨⟨below_grown (hx.trans' hx5) (Nat.le_trans hx.size hx5.size) hg ho.ge, k / 128, pre ++ [b8 (k % 128 + 128)], e2, by omega, ?_, ho6⟩, ?_⟩
    · rw [he, enc_big hbig]; simp
    · dsimp only
      rw [e2]; omega
  · have hs : k < 128 := by omega
    have e1 : IntKind.u8.wrap (k : Int) = ((b8 k).toNat : Int) := by
      rw [u8_wrap (by omega) (by omega), b8_toNat (by omega)]
    rw [e1]
    refine lit_ty 1 (E := eB) (xs := [b8 k]) w.heap.size (by kernel_rfl) rfl (by decide) (fun w => by kernel_rfl) hx.size fun s5 w5 _ ho5 hx5 => ?_
    refine app_ty 1 (by kernel_rfl) (by kernel_rfl) (ho.ext hx5) ho5.is (by simp; omega) (Nat.le_trans hx.size hx5.size) (by decide) fun s6 w6 ho6 hg => ?_
    rw [← enc_small hs, ← he] at ho6
    exact hK _ _ ho6 (below_grown (hx.trans' hx5) (Nat.le_trans hx.size hx5.size) hg ho.ge)

theorem varint_Get_spec {b : Sl} {l : List UInt8} {pos : Int} {K : Int × Int × Int → World → Prop} {w : World} (hb : IsSl eB w b l) (hK : K (getL l pos) w) : varint_Get b pos K w := by
  unfold varint_Get
  have hl := hb.len
  have hle := hb.le
  unfold getL at hK
  refine ifD (fun h => ?_) (fun h0 => ?_)
  · rwa [if_pos h] at hK
  rw [if_neg h0] at hK
  refine ifD (fun h => ?_) (fun h1 => ?_)
  · rwa [if_pos (by omega)] at hK
  rw [if_neg (by omega)] at hK
  obtain ⟨p, rfl⟩ := Int.eq_ofNat_of_zero_le (show 0 ≤ pos by omega)
  rw [Int.toNat_natCast] at hK
  -- where the loop ends: either the bytes are at an end, or a number stands
  refine ⟨fun n i w' => w = w' ∧ ((i = (l.length : Int) ∧ K (0, 0, 1) w) ∨ (0 ≤ n ∧ n ≤ 9223372036854775807 ∧ 0 ≤ i ∧ i < (l.length : Int) ∧ K (n, i + 1, 0) w)), ?_, ?_⟩
  · refine ⟨fun n i w' => w = w' ∧ ∃ (k m : Nat), n = (m : Int) ∧ i = (p : Int) + k ∧ p + k ≤ l.length ∧ k ≤ 9 ∧ m < 128 ^ k ∧ K (getG (l.drop (p + k)) k m ((p : Int) + k)) w, fun _ i _ => (l.length - i).toNat, ⟨rfl, 0, 0, rfl, by omega, by omega, by omega, by simp, by simpa using hK⟩, ?_⟩
    rintro n i _ ⟨rfl, k, m, rfl, rfl, hpk, hk9, hm, hG⟩
    have hpow := pow128_le hk9
    refine ifD (fun hlt => ?_) (fun hge => ?_)
    · have hk1 : p + k < l.length := by omega
      rw [List.drop_eq_getElem_cons hk1] at hG
      unfold getG at hG
      refine el_rd (E := eB) (by kernel_rfl) (by kernel_rfl) hb (k := p + k) (by omega) hk1 rfl fun _ => ?_
      generalize hc : l[p + k] = c at hG ⊢
      have hsub : i64 ((p : Int) + k - p) = k := by rw [i64_id] <;> omega
      have h7 : i64 (7 * (k : Int)) = 7 * k := by rw [i64_id] <;> omega
      have hc0 : ((c.toNat : Int) = 0) ↔ c = 0 := by
        constructor
        · intro h; exact UInt8.toNat_inj.1 (by simpa using h)
        · rintro rfl; rfl
      rw [hsub, h7]
      -- no fault here
      refine ⟨fun w' => w = w' ∧ ¬((0 < k ∧ c = 0) ∨ 9 ≤ k), ?_, ?_⟩
      · have hbad : ((0 < k ∧ c = 0) ∨ 9 ≤ k) → K (0, 0, 3) w := fun h => by rwa [if_pos h] at hG
        refine ifEq (fun hz => ?_) (fun hz => ?_)
        · refine ifD (fun hgt => ?_) (fun hgt => ?_)
          · exact ifD (fun _ => hbad (.inl ⟨by omega, hc0.1 hz⟩)) (fun h => absurd hgt h)
          · refine ifD (fun h => ?_) (fun h => ?_)
            · exact ifD (fun _ => hbad (.inr (by omega))) (fun h2 => absurd h h2)
            · refine ifD (fun h2 => absurd h2 (by omega)) (fun _ => ⟨rfl, ?_⟩)
              rintro (⟨h3, _⟩ | h3) <;> omega
        · refine ifD (fun h => ?_) (fun h => ?_)
          · exact ifD (fun _ => hbad (.inr (by omega))) (fun h2 => absurd h h2)
          · refine ifD (fun h2 => absurd h2 (by omega)) (fun _ => ⟨rfl, ?_⟩)
            rintro (⟨_, h3⟩ | h3)
            · exact hz (hc0.2 h3)
            · omega
      · rintro _ ⟨rfl, hgood⟩
        rw [if_neg hgood] at hG
        have hk8 : k ≤ 8 := by omega
        have hcm : c.toNat % 128 < 128 := Nat.mod_lt _ (by omega)
        have hst := step128 hm hcm
        have hpow2 := pow128_le (k := k + 1) (by omega)
        have h70 : (0 : Int) ≤ 7 * (k : Int) := by omega
        refine shl_rd h70 ?_
        rw [bAnd127, u64_wrap (by omega) (by omega), bOr64 hm hcm hk8]
        refine ifD (fun hlo => ?_) (fun hhi => ?_)
        · rw [if_pos (by omega)] at hG
          refine ⟨rfl, .inr ⟨by omega, by omega, by omega, by omega, ?_⟩⟩
          have e1 : c.toNat % 128 = c.toNat := by omega
          have e2 : (128 : Int) ^ k * (c.toNat : Int) = ((128 ^ k * c.toNat : Nat) : Int) := by simp
          rw [e1, Int.natCast_add, ← e2]
          exact hG
        · rw [if_neg (by omega)] at hG
          have e0 : i64 ((p : Int) + k + 1) = (p : Int) + k + 1 := by rw [i64_id] <;> omega
          rw [e0]
          refine ⟨⟨rfl, k + 1, m + 128 ^ k * (c.toNat % 128), rfl, by omega, by omega, by omega, hst, ?_⟩, by dsimp only; omega⟩
          have e2 : (128 : Int) ^ k * ((c.toNat % 128 : Nat) : Int) = ((128 ^ k * (c.toNat % 128) : Nat) : Int) := by simp
          rw [e2] at hG
          rw [Int.natCast_add, Int.natCast_add, ← Int.add_assoc]
          exact hG
    · have hk1 : p + k = l.length := by omega
      rw [hk1, List.drop_length] at hG
      exact ⟨rfl, .inl ⟨by omega, hG⟩⟩
  · rintro n i _ ⟨rfl, h⟩
    rcases h with ⟨rfl, h⟩ | ⟨h1, h2, h3, h4, h⟩
    · exact ifEq (fun _ => h) (fun h => absurd (by omega) h)
    · refine ifEq (fun h => absurd h (by omega)) (fun _ => ?_)
      rw [show IntKind.i64.wrap n = i64 n from rfl, i64_id (by omega) (by omega), i64_id (by omega) (by omega)]
      exact h

theorem ref01_Get_spec {b : Sl} {l : List UInt8} {pos : Int} {K : Int × Int × Int → World → Prop} {w : World} (hb : IsSl eB w b l) (hK : K (getL l pos) w) : ref01_Get b pos K w := by
  unfold ref01_Get
  have hl := hb.len
  have hle := hb.le
  unfold getL at hK
  refine ifD (fun h => ?_) (fun h0 => ?_)
  · rwa [if_pos h] at hK
  rw [if_neg h0] at hK
  refine ifD (fun h => ?_) (fun h1 => ?_)
  · rwa [if_pos (by omega)] at hK
  rw [if_neg (by omega)] at hK
  obtain ⟨p, rfl⟩ := Int.eq_ofNat_of_zero_le (show 0 ≤ pos by omega)
  rw [Int.toNat_natCast] at hK
  refine ⟨fun n q i w' => w = w' ∧ ∃ (k m : Nat), n = (m : Int) ∧ i = (p : Int) + k ∧ p + k ≤ l.length ∧ k ≤ 9 ∧ m < 128 ^ k ∧ (k ≤ 8 → q = ((128 ^ k : Nat) : Int)) ∧ K (getG (l.drop (p + k)) k m ((p : Int) + k)) w, fun _ _ i _ => (l.length - i).toNat, ⟨rfl, 0, 0, rfl, by omega, by omega, by omega, by simp, fun _ => rfl, by simpa using hK⟩, ?_⟩
  rintro n q i _ ⟨rfl, k, m, rfl, rfl, hpk, hk9, hm, hq, hG⟩
  have hpow := pow128_le hk9
  refine ifD (fun hlt => ?_) (fun hge => ?_)
  · have hk1 : p + k < l.length := by omega
    rw [List.drop_eq_getElem_cons hk1] at hG
    unfold getG at hG
    generalize hc : l[p + k] = c at hG
    have hsub : i64 ((p : Int) + k - p) = k := by rw [i64_id] <;> omega
    have hc0 : ((c.toNat : Int) = 0) ↔ c = 0 := by
      constructor
      · intro h; exact UInt8.toNat_inj.1 (by simpa using h)
      · rintro rfl; rfl
    rw [hsub]
    refine ⟨fun w' => w = w' ∧ ¬((0 < k ∧ c = 0) ∨ 9 ≤ k), ?_, ?_⟩
    · have hbad : ((0 < k ∧ c = 0) ∨ 9 ≤ k) → K (0, 0, 3) w := fun h => by rwa [if_pos h] at hG
      refine ifD (fun hgt => ?_) (fun hgt => ?_)
      · refine el_rd (E := eB) (by kernel_rfl) (by kernel_rfl) hb (k := p + k) (by omega) hk1 (y := (c.toNat : Int)) (by rw [hc]; rfl) fun _ => ?_
        refine ifEq (fun hz => hbad (.inl ⟨by omega, hc0.1 hz⟩)) (fun hz => ?_)
        refine ifD (fun h => hbad (.inr (by omega))) (fun h => ⟨rfl, ?_⟩)
        rintro (⟨_, h3⟩ | h3)
        · exact hz (hc0.2 h3)
        · omega
      · refine ifD (fun h => hbad (.inr (by omega))) (fun h => ⟨rfl, ?_⟩)
        rintro (⟨h3, _⟩ | h3) <;> omega
    · rintro _ ⟨rfl, hgood⟩
      rw [if_neg hgood] at hG
      have hk8 : k ≤ 8 := by omega
      have hcm : c.toNat % 128 < 128 := Nat.mod_lt _ (by omega)
      have hst := step128 hm hcm
      have hpow2 := pow128_le (k := k + 1) (by omega)
      have hq8 := hq hk8
      refine el_rd (E := eB) (by kernel_rfl) (by kernel_rfl) hb (k := p + k) (by omega) hk1 (y := (c.toNat : Int)) (by rw [hc]; rfl) fun _ => ?_
      refine el_rd (E := eB) (by kernel_rfl) (by kernel_rfl) hb (k := p + k) (by omega) hk1 (y := (c.toNat : Int)) (by rw [hc]; rfl) fun _ => ?_
      have e3 : IntKind.i64.wrap (Int.tmod (c.toNat : Int) 128) = ((c.toNat % 128 : Nat) : Int) := by
        rw [Int.tmod_eq_emod_of_nonneg (by omega), show IntKind.i64.wrap ((c.toNat : Int) % 128) = i64 ((c.toNat : Int) % 128) from rfl, i64_id (by omega) (by omega)]
        omega
      have e2 : (128 : Int) ^ k * ((c.toNat % 128 : Nat) : Int) = ((128 ^ k * (c.toNat % 128) : Nat) : Int) := by simp
      have e4 : i64 (q * ((c.toNat % 128 : Nat) : Int)) = ((128 ^ k * (c.toNat % 128) : Nat) : Int) := by
        rw [hq8, ← Int.natCast_mul, i64_id (by omega) (by omega)]
      have e5 : i64 ((m : Int) + ((128 ^ k * (c.toNat % 128) : Nat) : Int)) = ((m + 128 ^ k * (c.toNat % 128) : Nat) : Int) := by
        rw [i64_id (by omega) (by omega)]
        omega
      have e0 : i64 ((p : Int) + k + 1) = (p : Int) + k + 1 := by rw [i64_id] <;> omega
      rw [e3, e4, e5, e0]
      refine ifD (fun hlo => ?_) (fun hhi => ?_)
      · rw [if_pos (by omega)] at hG
        have e1 : c.toNat % 128 = c.toNat := by omega
        rw [e1] at e2 ⊢
        rw [e2, ← Int.natCast_add] at hG
        exact hG
      · rw [if_neg (by omega)] at hG
        rw [e2, ← Int.natCast_add, show (p : Int) + k + 1 = (p : Int) + ((k + 1 : Nat) : Int) from by omega] at hG
        refine ifD (fun h8 => ?_) (fun h8 => ?_)
        · refine ⟨⟨rfl, k + 1, m + 128 ^ k * (c.toNat % 128), rfl, by omega, by omega, by omega, hst, fun hk7 => ?_, hG⟩, by dsimp only; omega⟩
          have := pow128_le8 hk7
          rw [Nat.pow_succ] at this ⊢
          rw [hq8, i64_id (by omega) (by omega)]
          omega
        · exact ⟨⟨rfl, k + 1, m + 128 ^ k * (c.toNat % 128), rfl, by omega, by omega, by omega, hst, fun hk7 => by omega, hG⟩, by dsimp only; omega⟩
  · have hk1 : p + k = l.length := by omega
    rw [hk1, List.drop_length] at hG
    exact hG

/-- ref01.Same: two lists of bytes. -/
theorem ref01_Same_spec {a b : Sl} {la lb : List UInt8} {K : Bool → World → Prop} {w : World} (ha : IsSl eB w a la) (hb : IsSl eB w b lb)
    (hK : ∀ w', Ext w w' → K (decide (la = lb)) w') : ref01_Same a b K w := by
  unfold ref01_Same
  have h1 := ha.len
  have h2 := hb.len
  have hle := ha.le
  refine ifNe (fun hne => ?_) (fun heq => ?_)
  · have := hK w (Ext.rfl' _)
    rwa [decide_eq_false] at this
    rintro rfl
    omega
  · have hll : la.length = lb.length := by omega
    refine ⟨fun i w' => Ext w w' ∧ ∃ k : Nat, i = k ∧ k ≤ la.length ∧ la.take k = lb.take k, fun i _ => (la.length - i).toNat, ⟨Ext.rfl' _, 0, rfl, by omega, rfl⟩, ?_⟩
    rintro i w1 ⟨hx, k, rfl, hk, ht⟩
    refine ifD (fun hlt => ?_) (fun hge => ?_)
    · have hk1 : k < la.length := by omega
      refine drew_of fun w2 hx2 => ?_
      have hx3 := hx.trans' hx2
      refine el_rd (by kernel_rfl) (by kernel_rfl) (ha.ext hx3) rfl hk1 rfl fun _ => ?_
      refine el_rd (by kernel_rfl) (by kernel_rfl) (hb.ext hx3) rfl (by omega) rfl fun _ => ?_
      refine ifNe (fun hne => ?_) (fun heq => ?_)
      · have := hK w2 hx3
        rwa [decide_eq_false] at this
        rintro rfl
        exact hne rfl
      · refine ⟨⟨hx3, k + 1, ?_, by omega, ?_⟩, ?_⟩
        · rw [i64_id] <;> omega
        · rw [List.take_succ_eq_append_getElem hk1, List.take_succ_eq_append_getElem (by omega), ht]
          congr 2
          exact UInt8.toNat_inj.1 (by omega)
        · dsimp only
          rw [i64_id] <;> omega
    · have := hK w1 hx
      rwa [decide_eq_true] at this
      have e1 : k = la.length := by omega
      subst e1
      rw [List.take_length, hll, List.take_length] at ht
      exact ht
end Go.Chg
