/-
  strconv.Atoi: of the digits of a number it is that number; of any other text some number, and nothing that was there turns.
-/
import Derived.Test.YtnnoalpkldpjfaaGreatDoorClone
import Derived.Test.YtnnoalpkldpjfaaGreatDoorME
import Derived.Test.YtnnoalpkldpjfaaGreatDoorTid
set_option maxRecDepth 20000
set_option linter.unusedVariables false
namespace Go.Vc
/-! ### Digits, read -/
def valD (l : List UInt8) : Nat := l.foldl (fun n c => n * 10 + (c.toNat - 48)) 0
theorem valD_snoc (l : List UInt8) (c : UInt8) : valD (l ++ [c]) = valD l * 10 + (c.toNat - 48) := by
  unfold valD
  rw [List.foldl_append]
  rfl
theorem dig_nat {n : Nat} (h : n < 10) : (dig n).toNat = 48 + n := by
  unfold dig
  rw [if_pos h]
  exact Nat.mod_eq_of_lt (by omega)
theorem digits_val (n : Nat) : valD (digits 10 n) = n ∧ ∀ c ∈ digits 10 n, 48 ≤ c.toNat ∧ c.toNat ≤ 57 := by
  induction n using Nat.strongRecOn with
  | _ n ih =>
    by_cases h : n < 10
    · rw [digits_small h]
      refine ⟨?_, fun c hc => ?_⟩
      · show 0 * 10 + ((dig n).toNat - 48) = n
        rw [dig_nat h]; omega
      · rw [List.mem_singleton] at hc
        subst hc
        rw [dig_nat h]; omega
    · rw [digits_big (by decide) h]
      obtain ⟨h1, h2⟩ := ih (n / 10) (by omega)
      have hm : n % 10 < 10 := Nat.mod_lt _ (by decide)
      refine ⟨?_, fun c hc => ?_⟩
      · rw [valD_snoc, h1, dig_nat hm]; omega
      · rcases List.mem_append.1 hc with hc | hc
        · exact h2 c hc
        · rw [List.mem_singleton] at hc
          subst hc
          rw [dig_nat hm]; omega
theorem fold_ge : ∀ (b : List UInt8) (n : Nat), n ≤ b.foldl (fun n c => n * 10 + (c.toNat - 48)) n
  | [], n => Nat.le_refl _
  | c :: b, n => by
    rw [List.foldl_cons]
    exact Nat.le_trans (by omega) (fold_ge b _)
theorem valD_take (l : List UInt8) (k : Nat) : valD (l.take k) ≤ valD l := by
  have : valD l = (l.drop k).foldl (fun n c => n * 10 + (c.toNat - 48)) (valD (l.take k)) := by
    unfold valD
    rw [← List.foldl_append, List.take_append_drop]
  rw [this]
  exact fold_ge _ _
/-- 's' is the digits of a small number: what 'n' is then. -/
def DigOf (s : List UInt8) (n : Int) : Prop := ∀ m : Nat, m ≤ 4294967296 → s = digits 10 m → n = (m : Int)
theorem dig_get {m k : Nat} {s : List UInt8} (h : s = digits 10 m) (hk : k < s.length) : 48 ≤ s[k].toNat ∧ s[k].toNat ≤ 57 := (digits_val m).2 _ (h ▸ List.getElem_mem hk)
end Go.Vc
namespace Go.Chg
open Go.Vc
open Go.RowKit (Below)
variable {w : World} {s : List UInt8}
theorem dig_len {m : Nat} {s : List UInt8} (h : s = digits 10 m) (hm : m ≤ 4294967296) : s.length ≤ 10 ∧ 0 < s.length := by
  subst h
  refine ⟨digits_len10 9 m (by omega), ?_⟩
  by_cases h : m < 10
  · rw [digits_small h]; exact Nat.zero_lt_one
  · rw [digits_big (by decide) h, List.length_append]; simp
/-- An error of package strconv, or none. -/
def ErrV (e : Value) : Prop := e = .nilIface ∨ e = .iface tidn_strconv_Error (.int .i64 1) ∨ e = .iface tidn_strconv_Error (.int .i64 2)
theorem lower_spec {c : Int} {K : Int → World → Prop} (hK : ∀ n, K n w) : internal_strconv_lower c K w := by
  unfold internal_strconv_lower
  exact hK _
/-- One step of the reading of a number that is no matter. -/
theorem ParseUint_spec {K : Int × Value → World → Prop} (hl : s.length ≤ 1000000) (hK : ∀ n e w', Ext w w' → ErrV e → K (n, e) w') : internal_strconv_ParseUint s 10 0 K w := by
  unfold internal_strconv_ParseUint
  have bad : ∀ {n : Int} {u : World}, Ext w u → K (n, .iface tidn_strconv_Error (.int .i64 2)) u := fun hx => hK _ _ _ hx (.inr (.inr rfl))
  have big : ∀ {n : Int} {u : World}, Ext w u → K (n, .iface tidn_strconv_Error (.int .i64 1)) u := fun hx => hK _ _ _ hx (.inr (.inl rfl))
  refine ifB_of (fun _ => bad (Ext.rfl' w)) (fun _ => ?_)
  refine ⟨fun x b u => s = x ∧ b = 10 ∧ w = u, ifB_t rfl (ifB_t rfl ⟨rfl, rfl, rfl⟩), ?_⟩
  rintro _ _ _ ⟨rfl, rfl, rfl⟩
  refine ⟨fun b u => b = 64 ∧ w = u, ifB_t rfl ⟨rfl, rfl⟩, ?_⟩
  rintro _ _ ⟨rfl, rfl⟩
  refine ⟨fun c u => w = u, ifB_t rfl rfl, ?_⟩
  rintro cut _ rfl
  refine ⟨18446744073709551616 - 18446744073709551616, by kernel_rfl, ?_⟩
  refine str2b_ty (by kernel_rfl) (by kernel_rfl) (by omega) fun b w8 ho hx => ?_
  have hlen := ho.is.len
  refine up3c (fun k us n u => us = false ∧ Ext w8 u) 0 s.length rfl (by omega) (by omega) ⟨rfl, Ext.rfl' _⟩ ?_
  rintro k us n u C _ hk ⟨rfl, hxu⟩ hC
  have hxw := hx.trans' hxu
  refine ifD (fun hlt => ?_) (fun hge => ifB_f rfl (hK _ _ _ hxw (.inl rfl)))
  have hk1 : k < s.length := by omega
  refine el_rd (E := eB) (y := (s[k].toNat : Int)) (by kernel_rfl) (by kernel_rfl) (ho.is.ext hxu) rfl hk1 rfl fun _ => ?_
  refine ⟨fun us d u' => us = false ∧ u = u', ?_, ?_⟩
  · have low : ∀ {X : Int → World → Prop} {c : Int}, (∀ n, X n u) → callV Pr (Value.int .u8) fid_internal_strconv_lower #[.int .u8 c] u X := fun h => internal_strconv_lower_calls (lower_spec h)
    have alph : ifB true True True := trivial
    refine ifEq (fun _ => ifB_f rfl ?_) (fun _ => ?_)
    all_goals
      refine ifD (fun _ => ifD (fun _ => ⟨rfl, rfl⟩) (fun _ => ?_)) (fun _ => ?_)
      all_goals exact low fun n1 => ifD (fun _ => low fun n2 => ifD (fun _ => low fun n3 => ⟨rfl, rfl⟩) (fun _ => bad hxw)) (fun _ => bad hxw)
  rintro _ d _ ⟨rfl, rfl⟩
  refine ifD (fun _ => bad hxw) (fun _ => ifD (fun _ => big hxw) (fun _ => ifD (fun _ => big hxw) (fun _ => ifD (fun _ => big hxw) (fun _ => hC hk1 _ _ _ _ rfl ⟨rfl, hxu⟩))))
theorem ParseInt_spec {K : Int × Value → World → Prop} (hl : s.length ≤ 1000000) (hK : ∀ n e w', Ext w w' → ErrV e → K (n, e) w') : internal_strconv_ParseInt s 10 0 K w := by
  unfold internal_strconv_ParseInt
  refine ifB_of (fun _ => hK _ _ _ (Ext.rfl' w) (.inr (.inr rfl))) (fun hne => ?_)
  have hpos : 0 < s.length := List.length_pos_iff.2 fun e => by rw [e, strEq_eq] at hne; simp at hne
  refine ⟨fun x b u => x.length ≤ 1000000 ∧ w = u, ?_, ?_⟩
  · refine idx_str 0 (by kernel_rfl) rfl hpos ?_
    refine ifEq (fun _ => sub_str_l (m := 1) (by kernel_rfl) rfl hpos ⟨by rw [List.length_drop]; omega, rfl⟩) (fun _ => ?_)
    exact ifEq (fun _ => sub_str_l (m := 1) (by kernel_rfl) rfl hpos ⟨by rw [List.length_drop]; omega, rfl⟩) (fun _ => ⟨hl, rfl⟩)
  rintro x neg _ ⟨hx, rfl⟩
  refine internal_strconv_ParseUint_calls (ParseUint_spec hx fun n e w9 hx9 he => ?_)
  have back : ∀ {n : Int} {e : Value}, ErrV e → K (n, e) w9 := fun he => hK _ _ _ hx9 he
  refine ⟨fun u => w9 = u, ?_, ?_⟩
  · rcases he with rfl | rfl | rfl
    · exact ⟨false, by kernel_rfl, ifB_f rfl rfl⟩
    · exact ⟨true, by kernel_rfl, ifB_t rfl ⟨false, by kernel_rfl, ifB_f rfl rfl⟩⟩
    · exact ⟨true, by kernel_rfl, ifB_t rfl ⟨true, by kernel_rfl, ifB_t rfl (back (.inr (.inr rfl)))⟩⟩
  rintro _ rfl
  refine ⟨fun b u => b = 64 ∧ w9 = u, ifB_t rfl ⟨rfl, rfl⟩, ?_⟩
  rintro _ _ ⟨rfl, rfl⟩
  refine ⟨9223372036854775808, by kernel_rfl, ?_⟩
  refine ⟨fun u => w9 = u, ifNot (ifB_of (fun _ => rfl) (fun _ => ifD (fun _ => back (.inr (.inl rfl))) (fun _ => rfl))), ?_⟩
  rintro _ rfl
  refine ⟨fun u => w9 = u, ifB_of (fun _ => ifD (fun _ => back (.inr (.inl rfl))) (fun _ => rfl)) (fun _ => rfl), ?_⟩
  rintro _ rfl
  exact ifB_of (fun _ => back (.inl rfl)) (fun _ => back (.inl rfl))
theorem atoi_in_spec {K : Int × Value → World → Prop} (hl : s.length ≤ 1000000) (hK : ∀ n e w', Ext w w' → ErrV e → DigOf s n → K (n, e) w') : internal_strconv_Atoi s K w := by
  unfold internal_strconv_Atoi
  have bad : ∀ {u : World}, Ext w u → (∀ m : Nat, m ≤ 4294967296 → s ≠ digits 10 m) → K (0, .iface tidn_strconv_Error (.int .i64 2)) u := fun hx h => hK _ _ _ hx (.inr (.inr rfl)) fun m hm e => absurd e (h m hm)
  refine ⟨fun x u => s = x ∧ w = u ∧ ∀ m : Nat, m ≤ 4294967296 → s ≠ digits 10 m, ?_, ?_⟩
  · refine ifD (fun h0 => ?_) (fun h0 => ⟨rfl, rfl, fun m hm e => by have := (dig_len e hm).2; omega⟩)
    refine ifD (fun h19 => ?_) (fun h19 => ⟨rfl, rfl, fun m hm e => by have := (dig_len e hm).1; omega⟩)
    have hpos : 0 < s.length := by omega
    have no : ∀ {c : Nat}, ¬ (48 ≤ c ∧ c ≤ 57) → s[0].toNat = c → ∀ m : Nat, m ≤ 4294967296 → s ≠ digits 10 m := fun hc h m hm e => hc (h ▸ dig_get e hpos)
    refine ⟨fun x u => w = u ∧ x.length ≤ s.length ∧ ((∀ m : Nat, m ≤ 4294967296 → s ≠ digits 10 m) ∨ x = s), ?_, ?_⟩
    · refine idx_str 0 (by kernel_rfl) rfl hpos ?_
      refine ifEq (fun h => ?_) (fun h => ?_)
      · have hn := no (c := 45) (by decide) (by omega)
        refine sub_str_l (m := 1) (by kernel_rfl) rfl hpos ?_
        exact ifD (fun _ => bad (Ext.rfl' w) hn) (fun _ => ⟨rfl, by rw [List.length_drop]; omega, .inl hn⟩)
      · refine idx_str 0 (by kernel_rfl) rfl hpos ?_
        refine ifEq (fun h => ?_) (fun h => ⟨rfl, Nat.le_refl _, .inr rfl⟩)
        have hn := no (c := 43) (by decide) (by omega)
        refine sub_str_l (m := 1) (by kernel_rfl) rfl hpos ?_
        exact ifD (fun _ => bad (Ext.rfl' w) hn) (fun _ => ⟨rfl, by rw [List.length_drop]; omega, .inl hn⟩)
    rintro x _ ⟨rfl, hxl, hxs⟩
    refine str2b_ty (by kernel_rfl) (by kernel_rfl) (by omega) fun b w10 ho hx => ?_
    have hlen := ho.is.len
    refine up2b (fun k n u => Ext w10 u ∧ ∀ m : Nat, m ≤ 4294967296 → s = digits 10 m → n = (valD (x.take k) : Int)) 0 x.length rfl (by omega) (by omega) ⟨Ext.rfl' _, fun m hm e => rfl⟩ ?_
    rintro k n u C _ hk ⟨hxu, hn⟩ hC
    have hxw := hx.trans' hxu
    refine ifD (fun hlt => ?_) (fun hge => ?_)
    · have hk1 : k < x.length := by omega
      refine el_rd (E := eB) (y := (x[k].toNat : Int)) (by kernel_rfl) (by kernel_rfl) (ho.is.ext hxu) rfl hk1 rfl fun _ => ?_
      have dg : ∀ m : Nat, m ≤ 4294967296 → s = digits 10 m → x = s ∧ 48 ≤ x[k].toNat ∧ x[k].toNat ≤ 57 := fun m hm e => by
        rcases hxs with h | h
        · exact absurd e (h m hm)
        · exact ⟨h, dig_get (h.trans e) hk1⟩
      have wr : ∀ {c : Nat}, 48 ≤ c → c ≤ 57 → IntKind.u8.wrap ((c : Int) - 48) = ((c - 48 : Nat) : Int) := fun h1 h2 => by
        rw [u8_wrap] <;> omega
      refine ifD (fun h9 => bad hxw fun m hm e => ?_) (fun h9 => hC hk1 _ _ _ rfl ⟨hxu, fun m hm e => ?_⟩)
      · obtain ⟨_, d1, d2⟩ := dg m hm e
        rw [wr d1 d2] at h9
        omega
      · obtain ⟨hxs', d1, d2⟩ := dg m hm e
        have hv := (digits_val m).1
        have h1 := valD_take x (k + 1)
        rw [show valD x = m from by rw [hxs', e]; exact hv] at h1
        rw [List.take_succ_eq_append_getElem hk1, valD_snoc] at h1 ⊢
        rw [wr d1 d2, hn m hm e, wrap64_id (by omega) (by omega), i64_id (n := _ * 10) (by omega) (by omega), i64_id (by omega) (by omega)]
        omega
    · refine idx_str 0 (by kernel_rfl) rfl hpos ?_
      refine ifEq (fun h => hK _ _ _ hxw (.inl rfl) fun m hm e => absurd e (no (c := 45) (by decide) (by omega) m hm)) (fun h => hK _ _ _ hxw (.inl rfl) fun m hm e => ?_)
      have hv := (digits_val m).1
      have := hn m hm e
      rw [List.take_of_length_le (by omega)] at this
      rcases hxs with h | h
      · exact absurd e (h m hm)
      · rw [this, h, e, hv]
  rintro _ _ ⟨rfl, rfl, hno⟩
  refine internal_strconv_ParseInt_calls (ParseInt_spec hl fun n e w21 hx he => hK _ _ _ hx he fun m hm e => absurd e (hno m hm))
/-- The variables that hold package strconv's errors are there. -/
structure ErrT (w : World) : Prop where
  syn : ∃ x, GlobAt w g_strconv_ErrSyntax [ifval x]
  ran : ∃ x, GlobAt w g_strconv_ErrRange [ifval x]
theorem ErrT.ext {w' : World} (h : ErrT w) (hx : Ext w w') : ErrT w' := ⟨h.syn.imp fun _ k => k.ext hx, h.ran.imp fun _ k => k.ext hx⟩
theorem glob_one {w : World} {g : Nat} {t : TypeId} {v : Value} (ht : oneT Pr t = true) (h : GlobAt w ⟨g, 0, none⟩ [v]) : (Instr.loadAt t (.pointer (some ⟨g, 0, none⟩))).run Pr w = .ok v w :=
  run_ld ht (h.cell (k := 0) rfl)
theorem Clone_spec {K : List UInt8 → World → Prop} (hl : s.length ≤ 1000000) (hK : ∀ w', Ext w w' → K s w') : internal_stringslite_Clone s K w := by
  unfold internal_stringslite_Clone
  refine ifEq (fun h => ?_) (fun h => ?_)
  · obtain rfl : s = [] := List.length_eq_zero_iff.1 (by omega)
    exact hK _ (Ext.rfl' w)
  · exact clone_ty (by kernel_rfl) (by kernel_rfl) (by kernel_rfl) rfl (fun e => by subst e; exact h rfl) (by omega) hK
theorem syntaxError_spec {fn : List UInt8} {K : Option Addr → World → Prop} (hE : ErrT w) (hl : s.length ≤ 1000000) (hK : ∀ a w', Ext w w' → K (some a) w') : strconv_syntaxError fn s K w := by
  unfold strconv_syntaxError
  obtain ⟨v, hv⟩ := hE.syn
  refine heldM_of (fun u => GlobAt u g_strconv_ErrSyntax [ifval v]) fun w1 hx => ⟨hv.ext hx, ?_⟩
  refine ⟨v, fun u hu => glob_one (by kernel_rfl) hu, ?_⟩
  refine internal_stringslite_Clone_calls (Clone_spec hl fun w5 hx' => ⟨(hv.ext hx).ext hx', ?_⟩)
  refine box_ty fun a w7 ha hx7 ho => ⟨((hv.ext hx).ext hx').ext hx7, hK _ _ (hx.trans' (hx'.trans' hx7))⟩
theorem rangeError_spec {fn : List UInt8} {K : Option Addr → World → Prop} (hE : ErrT w) (hl : s.length ≤ 1000000) (hK : ∀ a w', Ext w w' → K (some a) w') : strconv_rangeError fn s K w := by
  unfold strconv_rangeError
  obtain ⟨v, hv⟩ := hE.ran
  refine heldM_of (fun u => GlobAt u g_strconv_ErrRange [ifval v]) fun w1 hx => ⟨hv.ext hx, ?_⟩
  refine ⟨v, fun u hu => glob_one (by kernel_rfl) hu, ?_⟩
  refine internal_stringslite_Clone_calls (Clone_spec hl fun w5 hx' => ⟨(hv.ext hx).ext hx', ?_⟩)
  refine box_ty fun a w7 ha hx7 ho => ⟨((hv.ext hx).ext hx').ext hx7, hK _ _ (hx.trans' (hx'.trans' hx7))⟩
theorem toError_spec {fn : List UInt8} {b z : Int} {e : Value} {K : Value → World → Prop} (hE : ErrT w) (he : e = .iface tidn_strconv_Error (.int .i64 1) ∨ e = .iface tidn_strconv_Error (.int .i64 2)) (hl : s.length ≤ 1000000) (hK : ∀ v w', Ext w w' → K v w') : strconv_toError fn s b z e K w := by
  unfold strconv_toError
  rcases he with rfl | rfl
  · refine ⟨false, by kernel_rfl, ifB_f rfl ?_⟩
    refine ⟨true, by kernel_rfl, ifB_t rfl ?_⟩
    exact strconv_rangeError_calls (rangeError_spec hE hl fun a w' hx => hK _ _ hx)
  · refine ⟨true, by kernel_rfl, ifB_t rfl ?_⟩
    exact strconv_syntaxError_calls (syntaxError_spec hE hl fun a w' hx => hK _ _ hx)
/-- strconv.Atoi: of the digits of a number it is that number. -/
theorem Atoi_spec {K : Int × Value → World → Prop} (hE : ErrT w) (hl : s.length ≤ 1000000) (hK : ∀ n e w', Ext w w' → DigOf s n → K (n, e) w') : strconv_Atoi s K w := by
  unfold strconv_Atoi
  refine internal_strconv_Atoi_calls (atoi_in_spec hl fun n e w2 hx he hd => ?_)
  rcases he with rfl | rfl | rfl
  · exact ⟨false, by kernel_rfl, ifB_f rfl (hK _ _ _ hx hd)⟩
  · exact ⟨true, by kernel_rfl, ifB_t rfl (strconv_toError_calls (toError_spec (hE.ext hx) (.inl rfl) hl fun v w5 hx' => hK _ _ _ (hx.trans' hx') hd))⟩
  · exact ⟨true, by kernel_rfl, ifB_t rfl (strconv_toError_calls (toError_spec (hE.ext hx) (.inr rfl) hl fun v w5 hx' => hK _ _ _ (hx.trans' hx') hd))⟩
end Go.Chg
