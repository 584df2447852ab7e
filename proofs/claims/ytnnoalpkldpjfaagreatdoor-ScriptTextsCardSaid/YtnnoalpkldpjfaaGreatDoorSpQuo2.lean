/-
  Texts in quotes: quote.Unquote.
-/
import Derived.Test.YtnnoalpkldpjfaaGreatDoorME
import Derived.Lib.Bytealg
set_option maxRecDepth 20000
set_option linter.unusedVariables false
namespace Go.Vc
variable {w : World} {β : Type}
/-- A loop whose place goes on, by leaps. -/
theorem jump2 {b : β} {a : Int} {body : β → Int → (β → Int → World → Prop) → World → Prop} (J : Nat → β → World → Prop) (s n : Nat) (ha : a = (s : Int)) (hs : s ≤ n) (h0 : J s b w)
    (step : ∀ (k : Nat) (b' : β) (w' : World) (C : β → Int → World → Prop), s ≤ k → k ≤ n → J k b' w' → (∀ (k' : Nat) (b'' : β) (y : Int) w'', y = (k' : Int) → k < k' → k' ≤ n → J k' b'' w'' → C b'' y w'') → body b' (k : Int) C w') : loop2 b a body w := by
  refine ⟨fun b' x w' => ∃ k : Nat, x = k ∧ s ≤ k ∧ k ≤ n ∧ J k b' w', fun _ x _ => (n - x).toNat, ⟨s, ha, Nat.le_refl _, hs, h0⟩, ?_⟩
  rintro b' x w' ⟨k, rfl, h1, h2, h3⟩
  refine step k b' w' _ h1 h2 h3 fun k' b'' y w'' hy hlt hle hJ => ?_
  subst hy
  exact ⟨⟨k', rfl, by omega, hle, hJ⟩, by dsimp only; omega⟩
def hexI (c : UInt8) : Int := match hexV c with | some v => (v : Int) | none => -1
/-- The byte of an escape behind its backslash, and how long that is; 0: it is none. -/
def escU : List UInt8 → UInt8 × Nat
  | [] => (0, 0)
  | d :: r =>
    if d = 34 ∨ d = 92 then (d, 1)
    else match r with
      | h1 :: h2 :: _ => if d = 120 then (match hexV h1, hexV h2 with | some a, some b => (b8 (16 * a + b), 3) | _, _ => (0, 0)) else (0, 0)
      | _ => (0, 0)
theorem escU_le (t : List UInt8) : (escU t).2 ≤ t.length := by
  unfold escU
  split
  · exact Nat.le_refl _
  · split
    · simp
    · split
      · split
        · split
          · simp
          · simp
        · simp
      · simp
theorem unqL_escU (t : List UInt8) : unqL (92 :: t) = if (escU t).2 = 0 then none else (unqL (t.drop (escU t).2)).map ((escU t).1 :: ·) := by
  match t with
  | [] => rw [unqL.eq_def]; rfl
  | d :: r =>
    by_cases hd : d = 34 ∨ d = 92
    · rw [unqL_esc hd]
      have e : escU (d :: r) = (d, 1) := if_pos hd
      rw [e]
      rfl
    · match r with
      | [] =>
        have e : escU [d] = (0, 0) := if_neg hd
        rw [e, unqL.eq_def]
        exact if_neg hd
      | [h1] =>
        have e : escU [d, h1] = (0, 0) := if_neg hd
        rw [e, unqL.eq_def]
        exact if_neg hd
      | h1 :: h2 :: t2 =>
        have e : escU (d :: h1 :: h2 :: t2) = if d = 120 then (match hexV h1, hexV h2 with | some a, some b => (b8 (16 * a + b), 3) | _, _ => (0, 0)) else (0, 0) := if_neg hd
        have e2 : unqL (92 :: d :: h1 :: h2 :: t2) = if d = 120 then (match hexV h1, hexV h2 with | some a, some b => (unqL t2).map (b8 (16 * a + b) :: ·) | _, _ => none) else none := by
          rw [unqL.eq_def]
          exact if_neg hd
        rw [e, e2]
        by_cases hx : d = 120
        · rw [if_pos hx, if_pos hx]
          cases h1v : hexV h1 <;> cases h2v : hexV h2 <;> simp
        · rw [if_neg hx, if_neg hx]
          rfl
theorem unqL_plain {c : UInt8} (h : c ≠ 92) (t : List UInt8) : unqL (c :: t) = (unqL t).map (c :: ·) := by
  rw [unqL.eq_def]
  exact if_pos h
theorem unqL_nil : unqL [] = some [] := by rw [unqL.eq_def]
end Go.Vc
namespace Go.Chg
open Go.Vc
open Go.RowKit (Below)
variable {w : World} {a : Addr} {l : List UInt8}
theorem stringslite_IndexByte_spec {s : List UInt8} {c : UInt8} {n : Int} {K : Int → World → Prop} (hn : n = (c.toNat : Int)) (hK : K (Go.Lib.indexByte s c) w) : internal_stringslite_IndexByte s n K w := by
  unfold internal_stringslite_IndexByte
  subst hn
  refine ⟨Go.Lib.indexByte s c, w, ?_, hK⟩
  rw [run_callFunc_extern ext_internal_bytealg_IndexByteString (by kernel_rfl) (by kernel_rfl) (by kernel_rfl) (e := Extern.BytealgIndexByte.indexByte) (by kernel_rfl)]
  have e := Go.Lib.run_indexByteString (P := Pr) ⟨⟨s⟩⟩ (c.toNat : Int) w
  have e2 : (c.toNat : Int).toNat.toUInt8 = c := by simp
  rw [e2] at e
  show ((Extern.BytealgIndexByte.indexByte #[.string ⟨⟨s⟩⟩, .int .u8 (c.toNat : Int)]).run Pr w).andThen _ = _
  rw [e]
  rfl
theorem digit_spec {c : UInt8} {n : Int} {K : Int → World → Prop} (hn : n = (c.toNat : Int)) (hK : K (hexI c) w) : quote_digit n K w := by
  unfold quote_digit
  refine strings_IndexByte_calls ?_
  unfold strings_IndexByte
  refine internal_stringslite_IndexByte_calls (stringslite_IndexByte_spec hn ?_)
  have key : ∀ m : Fin 256, Go.Lib.indexByte cs16_37011 (UInt8.ofNat m.val) = hexI (UInt8.ofNat m.val) := by decide +kernel
  have := key ⟨c.toNat, c.toNat_lt⟩
  simp only [UInt8.ofNat_toNat] at this
  rw [this]
  exact hK
theorem hex_join {a b : Nat} (ha : a < 16) (hb : b < 16) : IntKind.u8.wrap (bOr .i64 (shL .i64 (a : Int) 4) (b : Int)) = ((b8 (16 * a + b)).toNat : Int) := by
  have key : ∀ m k : Fin 16, IntKind.u8.wrap (bOr .i64 (shL .i64 (m.val : Int) 4) (k.val : Int)) = ((b8 (16 * m.val + k.val)).toNat : Int) := by decide +kernel
  exact key ⟨a, ha⟩ ⟨b, hb⟩
theorem hexI_some {c : UInt8} (h : 0 ≤ hexI c) : ∃ v, hexV c = some v ∧ hexI c = (v : Int) := by
  unfold hexI at h ⊢
  cases hv : hexV c with
  | none => rw [hv] at h; exact absurd h (by decide)
  | some v => exact ⟨v, rfl, rfl⟩
theorem hexI_none {c : UInt8} (h : ¬ 0 ≤ hexI c) : hexV c = none := by
  unfold hexI at h
  cases hv : hexV c with
  | none => rfl
  | some v => rw [hv] at h; exact absurd (Int.natCast_nonneg v) h
theorem unescape_spec {s : List UInt8} {K : Int × Int → World → Prop} (hK : ∀ w', Ext w w' → K (((escU s).1.toNat : Int), ((escU s).2 : Int)) w') : quote_unescape s K w := by
  unfold quote_unescape
  match s with
  | [] =>
    refine ifNot (ifB_t (by rw [strEq_eq]; simp) ?_)
    refine ifD (fun h => absurd h (by decide)) (fun _ => hK _ (Ext.rfl' _))
  | d :: r =>
    refine ifNot (ifB_f (by rw [strEq_eq]; simp) ?_)
    refine idx_str 0 (by kernel_rfl) rfl (by simp) ?_
    refine ifEq (fun h1 => ?_) (fun h1 => ?_)
    · refine idx_str 0 (by kernel_rfl) rfl (by simp) ?_
      have hd : d = 34 := UInt8.toNat_inj.1 (by have : (d.toNat : Int) = 34 := h1; show d.toNat = 34; omega)
      have e : escU (d :: r) = (d, 1) := if_pos (.inl hd)
      rw [e] at hK
      exact hK _ (Ext.rfl' _)
    refine idx_str 0 (by kernel_rfl) rfl (by simp) ?_
    refine ifEq (fun h2 => ?_) (fun h2 => ?_)
    · refine idx_str 0 (by kernel_rfl) rfl (by simp) ?_
      have hd : d = 92 := UInt8.toNat_inj.1 (by have : (d.toNat : Int) = 92 := h2; show d.toNat = 92; omega)
      have e : escU (d :: r) = (d, 1) := if_pos (.inr hd)
      rw [e] at hK
      exact hK _ (Ext.rfl' _)
    have hd : ¬ (d = 34 ∨ d = 92) := fun h => by
      rcases h with rfl | rfl
      · exact h1 rfl
      · exact h2 rfl
    refine ifD (fun h3 => ?_) (fun h3 => ?_)
    rotate_left
    · have e : escU (d :: r) = (0, 0) := by
        match r, h3 with
        | [], _ => exact if_neg hd
        | [_], _ => exact if_neg hd
        | _ :: _ :: _, h => simp only [List.length_cons] at h; omega
      rw [e] at hK
      exact hK _ (Ext.rfl' _)
    match r, h3 with
    | [], h => exact absurd h (by simp)
    | [_], h => exact absurd h (by simp)
    | h1c :: h2c :: t2, _ =>
    have e : escU (d :: h1c :: h2c :: t2) = if d = 120 then (match hexV h1c, hexV h2c with | some a, some b => (b8 (16 * a + b), 3) | _, _ => (0, 0)) else (0, 0) := if_neg hd
    rw [e] at hK
    refine idx_str 0 (by kernel_rfl) rfl (by simp) ?_
    refine ifEq (fun h4 => ?_) (fun h4 => ?_)
    rotate_left
    · rw [if_neg (fun h => h4 (by rw [h]; rfl))] at hK
      exact hK _ (Ext.rfl' _)
    have hx : d = 120 := UInt8.toNat_inj.1 (by have : (d.toNat : Int) = 120 := h4; show d.toNat = 120; omega)
    rw [if_pos hx] at hK
    refine idx_str 1 (by kernel_rfl) rfl (by simp) ?_
    refine quote_digit_calls (digit_spec (c := h1c) rfl ?_)
    refine ifD (fun h5 => ?_) (fun h5 => ?_)
    rotate_left
    · rw [hexI_none h5] at hK
      exact hK _ (Ext.rfl' _)
    obtain ⟨a, ha, ha'⟩ := hexI_some h5
    refine idx_str 2 (by kernel_rfl) rfl (by simp) ?_
    refine quote_digit_calls (digit_spec (c := h2c) rfl ?_)
    refine ifD (fun h6 => ?_) (fun h6 => ?_)
    rotate_left
    · rw [ha, hexI_none h6] at hK
      exact hK _ (Ext.rfl' _)
    obtain ⟨b, hb, hb'⟩ := hexI_some h6
    rw [ha, hb] at hK
    refine held_x fun w12 hx12 => ?_
    refine opH_of (h1c.toNat : Int) (fun w' _ => idx_str 1 (by kernel_rfl) rfl (by simp) rfl) (opH_of (h2c.toNat : Int) (fun w' _ => idx_str 2 (by kernel_rfl) rfl (by simp) rfl) ?_)
    refine quote_digit_calls (digit_spec (c := h1c) rfl ⟨trivial, ?_⟩)
    refine quote_digit_calls (digit_spec (c := h2c) rfl ⟨trivial, ?_⟩)
    rw [ha', hb', hex_join (hexV_lt ha) (hexV_lt hb)]
    exact hK _ hx12
def unqR (s : List UInt8) : List UInt8 × Int := match unquote s with | some o => (o, 0) | none => ([], 3)
theorem Unquote_spec {s : List UInt8} {K : List UInt8 × Int → World → Prop} (ht : Utf8T w) (hl : s.length ≤ 1000000) (hK : ∀ w', Ext w w' → K (unqR s) w') : quote_Unquote s K w := by
  unfold quote_Unquote
  have e1 : i64 ((s.length : Int) - 1) = (s.length : Int) - 1 := by rw [i64_id] <;> omega
  rw [e1]
  have hinner : ∀ k, ((s.drop 1).take (s.length - 2)).drop k = (s.drop (k + 1)).take (s.length - 1 - (k + 1)) := fun k => by
    rw [List.drop_take, List.drop_drop, Nat.add_comm 1 k]
    congr 1
    omega
  have hil : ((s.drop 1).take (s.length - 2)).length = s.length - 2 := by rw [List.length_take, List.length_drop]; omega
  generalize hI : (s.drop 1).take (s.length - 2) = inner at hinner hil
  have bad : unqL inner = none → unqR s = ([], 3) := fun h => by
    unfold unqR unquote
    rw [hI, h]
    split
    · rename_i o ho
      split at ho <;> cases ho
    · rfl
  refine jump2 (fun k out w' => Ext w w' ∧ ∃ o, OwnSl eB w' w.heap.size out o ∧ o.length ≤ k ∧ unqL inner = (unqL (inner.drop (k - 1))).map (o ++ ·)) 1 (max 1 (s.length - 1)) rfl (by omega) ⟨Ext.rfl' _, [], .nil _ _ _, by simp, by simp⟩ ?_
  rintro k out w4 C h1k hk ⟨hx, o, ho, hol, hq⟩ hC
  have z4 := hx.size
  refine ifD (fun hlt => ?_) (fun hge => ?_)
  · have hkl : k < s.length := by omega
    refine idx_str k (by kernel_rfl) rfl hkl ?_
    have hcons : inner.drop (k - 1) = s[k] :: inner.drop k := by
      rw [hinner (k - 1), hinner k, show k - 1 + 1 = k by omega, List.drop_eq_getElem_cons hkl, show s.length - 1 - k = (s.length - 1 - (k + 1)) + 1 by omega]
      rfl
    rw [hcons] at hq
    have push : ∀ {w8 : World} {c : UInt8} {n : Int} (k' : Nat) (y : Int), n = (c.toNat : Int) → Ext w w8 → OwnSl eB w8 w.heap.size out o → y = (k' : Int) → k < k' → k' ≤ max 1 (s.length - 1) → unqL inner = (unqL (inner.drop (k' - 1))).map ((o ++ [c]) ++ ·) →
        ∀ w10 (s9 : Sl), Ext w8 w10 → OwnSl eB w10 w8.heap.size s9 [c] → ∀ s11 w12, OwnSl eB w12 w.heap.size s11 (o ++ [c]) → w10.grownBy w12 out.blk → C s11 y w12 := fun k' y hn hx ho hy hlt hle hq w10 s9 hx10 h9 s11 w12 h11 hg =>
      hC k' s11 y w12 hy hlt hle ⟨Ext.own (hx.trans' hx10) (ho.ext hx10) (Nat.le_refl _) hg, _, h11, by rw [List.length_append]; simp; omega, hq⟩
    refine ifEq (fun h92 => ?_) (fun h92 => ?_)
    · have hc : s[k] = 92 := UInt8.toNat_inj.1 (by show s[k].toNat = 92; omega)
      rw [hc, unqL_escU] at hq
      refine sub_str_lh (m := k + 1) (n := s.length - 1) (by kernel_rfl) (by rw [i64_id] <;> omega) (by omega) (by omega) (by omega) ?_
      rw [← hinner k]
      have hle := escU_le (inner.drop k)
      rw [List.length_drop, hil] at hle
      refine quote_unescape_calls (unescape_spec fun w8 hx8 => ?_)
      have hx := hx.trans' hx8
      refine ifEq (fun h0 => ?_) (fun h0 => ?_)
      · rw [if_pos (by omega)] at hq
        have := bad hq
        rw [this] at hK
        exact hK _ hx
      · rw [if_neg (by omega), Option.map_map] at hq
        refine lit1_ty (E := eB) 1 (x := (escU (inner.drop k)).1) w8.heap.size (by kernel_rfl) (by decide) (fun w => by kernel_rfl) (Nat.le_refl _) fun s9 w10 _ h9 hx10 => ?_
        have ho := ho.ext hx8
        have z10 := (hx.trans' hx10).size
        refine app_ty 1 (by kernel_rfl) (by kernel_rfl) (ho.ext hx10) h9.is (by simp only [List.length_singleton]; omega) z10 (by decide) fun s11 w12 h11 hg => ?_
        refine push (k + (escU (inner.drop k)).2 + 1) _ rfl hx ho ?_ (by omega) (by omega) ?_ w10 s9 hx10 h9 s11 w12 h11 hg
        · rw [i64_id (n := (k : Int) + ((escU (inner.drop k)).2 : Int)) (by omega) (by omega), i64_id (by omega) (by omega)]
          omega
        · rw [hq, List.drop_drop, show k + (escU (inner.drop k)).2 + 1 - 1 = k + (escU (inner.drop k)).2 by omega]
          cases unqL (inner.drop (k + (escU (inner.drop k)).2)) <;> simp
    · have hc : s[k] ≠ 92 := fun h => h92 (by rw [h]; rfl)
      rw [unqL_plain hc] at hq
      refine lit1_ty (E := eB) 1 (x := s[k]) w4.heap.size (by kernel_rfl) (by decide) (fun w => by kernel_rfl) (Nat.le_refl _) fun s9 w10 _ h9 hx10 => ?_
      have z10 := (hx.trans' hx10).size
      refine app_ty 1 (by kernel_rfl) (by kernel_rfl) (ho.ext hx10) h9.is (by simp only [List.length_singleton]; omega) z10 (by decide) fun s11 w12 h11 hg => ?_
      refine push (k + 1) _ rfl hx ho (by rw [i64_id] <;> omega) (by omega) (by omega) ?_ w10 s9 hx10 h9 s11 w12 h11 hg
      rw [hq, show k + 1 - 1 = k by omega]
      cases unqL (inner.drop k) <;> simp
  · refine ifD (fun h2 => ?_) (fun h2 => ?_)
    · have e : unqR s = ([], 3) := by
        unfold unqR unquote
        rw [if_pos (by omega)]
      rw [e] at hK
      exact hK _ hx
    rw [List.drop_of_length_le (by omega), unqL_nil] at hq
    have hq : unqL inner = some o := by rw [hq]; simp
    have e : unqR s = if quote o = s then (o, 0) else ([], 3) := by
      unfold unqR unquote
      rw [if_neg (by omega), hI, hq]
      dsimp only
      by_cases h : quote o = s
      · rw [if_pos h, if_pos h]
      · rw [if_neg h, if_neg h]
    rw [e] at hK
    refine b2str_rd (by kernel_rfl) (by kernel_rfl) ho.is ?_
    refine quote_Quote_calls (quote_Quote_spec (ht.ext hx) (by omega) fun w19 hx19 => ?_)
    have hx := hx.trans' hx19
    refine ifNot (ifB_of (fun h => ?_) (fun h => ?_))
    · rw [strEq_eq, decide_eq_true_eq] at h
      rw [if_pos h] at hK
      refine b2str_rd (by kernel_rfl) (by kernel_rfl) (ho.ext hx19).is ?_
      exact hK _ hx
    · rw [strEq_eq, decide_eq_false_iff_not] at h
      rw [if_neg h] at hK
      exact hK _ hx
end Go.Chg
