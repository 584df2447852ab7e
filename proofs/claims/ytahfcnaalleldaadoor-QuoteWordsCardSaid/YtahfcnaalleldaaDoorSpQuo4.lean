/-
  'changeoverref06': out of quotes; words. The plain law of lines.
-/
import Derived.Test.YtahfcnaalleldaaDoorSpQuo3
import Derived.Test.YtahfcnaalleldaaDoorSpWord
set_option maxRecDepth 20000
set_option linter.unusedVariables false
namespace Go.Chg
open Go.Vc
variable {w : World} {l : List UInt8}
theorem hex_join2 {a b : Nat} (ha : a < 16) (hb : b < 16) : IntKind.u8.wrap (i64 (i64 (16 * (a : Int)) + (b : Int))) = ((b8 (16 * a + b)).toNat : Int) := by
  have key : ∀ m k : Fin 16, IntKind.u8.wrap (i64 (i64 (16 * (m.val : Int)) + (k.val : Int))) = ((b8 (16 * m.val + k.val)).toNat : Int) := by decide +kernel
  exact key ⟨a, ha⟩ ⟨b, hb⟩
theorem ref06_Unquote_spec {s : List UInt8} {K : List UInt8 × Bool → World → Prop} (hl : s.length ≤ 1000000) (hK : ∀ r w', (r.2 = true ↔ ∃ o, unquote s = some o) → (∀ o, unquote s = some o → r.1 = o) → Ext w w' → K r w') : ref06_Unquote s K w := by
  unfold ref06_Unquote
  have bad : ∀ {w' : World}, unquote s = none → Ext w w' → K ([], false) w' := fun h hx => hK _ _ ⟨fun e => (by cases e), fun ⟨o, e⟩ => by rw [h] at e; cases e⟩ (fun o e => by rw [h] at e; cases e) hx
  refine ifD (fun h2 => bad (by unfold unquote; rw [if_pos (by omega)]) (Ext.rfl' _)) (fun h2 => ?_)
  have e1 : i64 ((s.length : Int) - 1) = (s.length : Int) - 1 := by rw [i64_id] <;> omega
  rw [e1]
  have hinner : ∀ k, ((s.drop 1).take (s.length - 2)).drop k = (s.drop (k + 1)).take (s.length - 1 - (k + 1)) := fun k => by
    rw [List.drop_take, List.drop_drop, Nat.add_comm 1 k]
    congr 1
    omega
  have hil : ((s.drop 1).take (s.length - 2)).length = s.length - 2 := by rw [List.length_take, List.length_drop]; omega
  generalize hI : (s.drop 1).take (s.length - 2) = inner at hinner hil
  have none_ : unqL inner = none → unquote s = none := fun h => by
    unfold unquote
    rw [if_neg (by omega), hI, h]
  have hcons : ∀ k (h1 : 1 ≤ k) (hlt : k < s.length - 1), inner.drop (k - 1) = s[k] :: inner.drop k := fun k h1 hlt => by
    rw [hinner (k - 1), hinner k, show k - 1 + 1 = k by omega, List.drop_eq_getElem_cons (show k < s.length by omega), show s.length - 1 - k = (s.length - 1 - (k + 1)) + 1 by omega]
    rfl
  refine jump2 (fun k out w' => Ext w w' ∧ ∃ o, OwnSl eB w' w.heap.size out o ∧ o.length ≤ k ∧ unqL inner = (unqL (inner.drop (k - 1))).map (o ++ ·)) 1 (s.length - 1) rfl (by omega) ⟨Ext.rfl' _, [], .nil _ _ _, by simp, by simp⟩ ?_
  rintro k out w4 C h1k hk ⟨hx, o, ho, hol, hq⟩ hC
  have z4 := hx.size
  refine ifD (fun hlt => ?_) (fun hge => ?_)
  rotate_left
  · rw [List.drop_of_length_le (by omega), unqL_nil] at hq
    have hq : unqL inner = some o := by rw [hq]; simp
    have e : unquote s = if quote o = s then some o else none := by
      unfold unquote
      rw [if_neg (by omega), hI, hq]
    refine heldM_of (fun w' => IsSl eB w' out o) fun w46 hx46 => ⟨ho.is.ext hx46, ?_⟩
    refine opH_of o (fun w' hw => b2str_rd (by kernel_rfl) (by kernel_rfl) hw rfl) (opH_of o (fun w' hw => b2str_rd (by kernel_rfl) (by kernel_rfl) hw rfl) ?_)
    refine ref06_Quote_calls (ref06_Quote_spec (by omega) fun w51 hx51 => ⟨ho.is.ext (hx46.trans' hx51), hK _ _ ?_ ?_ ((hx.trans' hx46).trans' hx51)⟩)
    · rw [strEq_eq, decide_eq_true_eq, e]
      by_cases h : quote o = s
      · rw [if_pos h]; exact ⟨fun _ => ⟨o, rfl⟩, fun _ => h⟩
      · rw [if_neg h]; exact ⟨fun h' => absurd h' h, fun ⟨_, h'⟩ => by cases h'⟩
    · intro o' ho'
      rw [e] at ho'
      split at ho'
      · cases ho'; rfl
      · cases ho'
  have hkl : k < s.length - 1 := by omega
  have hc0 := hcons k h1k hkl
  rw [hc0] at hq
  have push : ∀ {w8 : World} {c : UInt8} (k' : Nat) (y : Int), Ext w w8 → OwnSl eB w8 w.heap.size out o → y = (k' : Int) → k < k' → k' ≤ s.length - 1 → unqL inner = (unqL (inner.drop (k' - 1))).map ((o ++ [c]) ++ ·) →
      ∀ w10 (s9 : Sl), Ext w8 w10 → OwnSl eB w10 w8.heap.size s9 [c] → ∀ s11 w12, OwnSl eB w12 w.heap.size s11 (o ++ [c]) → w10.grownBy w12 out.blk → C s11 y w12 := fun k' y hx ho hy hlt hle hq w10 s9 hx10 h9 s11 w12 h11 hg =>
    hC k' s11 y w12 hy hlt hle ⟨Ext.own (hx.trans' hx10) (ho.ext hx10) (Nat.le_refl _) hg, _, h11, by rw [List.length_append]; simp; omega, hq⟩
  refine idx_str k (by kernel_rfl) rfl (by omega) ?_
  refine ifNe (fun h92 => ?_) (fun h92 => ?_)
  · refine idx_str k (by kernel_rfl) rfl (by omega) ?_
    have hc : s[k] ≠ 92 := fun h => h92 (by rw [h]; rfl)
    rw [unqL_plain hc] at hq
    refine lit1_ty (E := eB) 1 (x := s[k]) w4.heap.size (by kernel_rfl) (by decide) (fun w => by kernel_rfl) (Nat.le_refl _) fun s9 w10 _ h9 hx10 => ?_
    have z10 := (hx.trans' hx10).size
    refine app_ty 1 (by kernel_rfl) (by kernel_rfl) (ho.ext hx10) h9.is (by simp only [List.length_singleton]; omega) z10 (by decide) fun s11 w12 h11 hg => ?_
    refine push (k + 1) _ hx ho (by rw [i64_id] <;> omega) (by omega) (by omega) ?_ w10 s9 hx10 h9 s11 w12 h11 hg
    rw [hq, show k + 1 - 1 = k by omega]
    cases unqL (inner.drop k) <;> simp
  have hc : s[k] = 92 := UInt8.toNat_inj.1 (by show s[k].toNat = 92; omega)
  rw [hc, unqL_escU] at hq
  have two : ∀ {d : UInt8} {w8 : World}, (d = 34 ∨ d = 92) → inner.drop k = d :: inner.drop (k + 1) → k + 1 < s.length - 1 → Ext w w8 → OwnSl eB w8 w.heap.size out o → ∀ w10 (s9 : Sl), Ext w8 w10 → OwnSl eB w10 w8.heap.size s9 [d] → ∀ s11 w12, OwnSl eB w12 w.heap.size s11 (o ++ [d]) → w10.grownBy w12 out.blk → C s11 (i64 ((k : Int) + 2)) w12 := fun {d w8} hd hdr hlt hx ho w10 s9 hx10 h9 s11 w12 h11 hg => by
    refine push (k + 2) _ hx ho (by rw [i64_id] <;> omega) (by omega) (by omega) ?_ w10 s9 hx10 h9 s11 w12 h11 hg
    have e : escU (inner.drop k) = (d, 1) := by rw [hdr]; exact if_pos hd
    rw [hq, e, if_neg (show ¬ (1 : Nat) = 0 by decide), List.drop_drop, Option.map_map]
    show Option.map _ (unqL (inner.drop (k + 1))) = Option.map _ (unqL (inner.drop (k + 2 - 1)))
    rw [show k + 2 - 1 = k + 1 by omega]
    cases unqL (inner.drop (k + 1)) <;> simp
  refine ⟨fun out' i' w' => w4 = w' ∧ out = out' ∧ i' = (k : Int) ∧ ∀ d r, inner.drop k = d :: r → ¬ (d = 34 ∨ d = 92), ?_, ?_⟩
  · have eI : i64 ((k : Int) + 1) = ((k + 1 : Nat) : Int) := by rw [i64_id] <;> omega
    refine ifD (fun hlt1 => ?_) (fun hge1 => ⟨rfl, rfl, rfl, fun d r h => ?_⟩)
    rotate_left
    · rw [List.drop_of_length_le (by rw [eI] at hge1; omega)] at h
      cases h
    rw [eI] at hlt1
    have hdr := hcons (k + 1) (by omega) (by omega)
    rw [show k + 1 - 1 = k by omega] at hdr
    refine idx_str (k + 1) (by kernel_rfl) eI (by omega) ?_
    refine ifEq (fun h34 => ?_) (fun h34 => ?_)
    · refine idx_str (k + 1) (by kernel_rfl) eI (by omega) ?_
      refine lit1_ty (E := eB) 1 (x := s[k + 1]) w4.heap.size (by kernel_rfl) (by decide) (fun w => by kernel_rfl) (Nat.le_refl _) fun s9 w10 _ h9 hx10 => ?_
      have z10 := (hx.trans' hx10).size
      refine app_ty 1 (by kernel_rfl) (by kernel_rfl) (ho.ext hx10) h9.is (by simp only [List.length_singleton]; omega) z10 (by decide) fun s11 w12 h11 hg => ?_
      exact two (.inl (UInt8.toNat_inj.1 (by show s[k + 1].toNat = 34; omega))) hdr (by omega) hx ho w10 s9 hx10 h9 s11 w12 h11 hg
    refine idx_str (k + 1) (by kernel_rfl) eI (by omega) ?_
    refine ifEq (fun h92 => ?_) (fun h92' => ⟨rfl, rfl, rfl, fun d r h => ?_⟩)
    · refine idx_str (k + 1) (by kernel_rfl) eI (by omega) ?_
      refine lit1_ty (E := eB) 1 (x := s[k + 1]) w4.heap.size (by kernel_rfl) (by decide) (fun w => by kernel_rfl) (Nat.le_refl _) fun s9 w10 _ h9 hx10 => ?_
      have z10 := (hx.trans' hx10).size
      refine app_ty 1 (by kernel_rfl) (by kernel_rfl) (ho.ext hx10) h9.is (by simp only [List.length_singleton]; omega) z10 (by decide) fun s11 w12 h11 hg => ?_
      exact two (.inr (UInt8.toNat_inj.1 (by show s[k + 1].toNat = 92; omega))) hdr (by omega) hx ho w10 s9 hx10 h9 s11 w12 h11 hg
    · rw [hdr] at h
      have hd := (List.cons.inj h).1
      rintro (rfl | rfl)
      · exact h34 (by rw [hd]; rfl)
      · exact h92' (by rw [hd]; rfl)
  rintro out24 i25 _ ⟨rfl, rfl, rfl, hno⟩
  have fail : (escU (inner.drop k)).2 = 0 → Ext w w4 → ∀ {w'}, Ext w4 w' → K ([], false) w' := fun h hx {w'} hx' => by
    rw [if_pos h] at hq
    exact bad (none_ hq) (hx.trans' hx')
  have e3 : i64 ((k : Int) + 3) = ((k + 3 : Nat) : Int) := by rw [i64_id] <;> omega
  have e2 : i64 ((k : Int) + 2) = ((k + 2 : Nat) : Int) := by rw [i64_id] <;> omega
  have eI : i64 ((k : Int) + 1) = ((k + 1 : Nat) : Int) := by rw [i64_id] <;> omega
  refine ifD (fun h3 => fail ?_ hx (Ext.rfl' _)) (fun h3 => ?_)
  · rw [e3] at h3
    have hlen : (inner.drop k).length ≤ 2 := by rw [List.length_drop]; omega
    match inner.drop k, hlen, hno with
    | [], _, _ => rfl
    | [d], _, hno => exact congrArg Prod.snd (show escU [d] = (0, 0) from if_neg (hno d [] rfl))
    | [d, e], _, hno => exact congrArg Prod.snd (show escU [d, e] = (0, 0) from if_neg (hno d [e] rfl))
  rw [e3] at h3
  have hd1 := hcons (k + 1) (by omega) (by omega)
  have hd2 := hcons (k + 2) (by omega) (by omega)
  have hd3 := hcons (k + 3) (by omega) (by omega)
  rw [show k + 1 - 1 = k by omega] at hd1
  rw [show k + 2 - 1 = k + 1 by omega] at hd2
  rw [show k + 3 - 1 = k + 2 by omega] at hd3
  rw [hd2, hd3] at hd1
  have hesc : escU (inner.drop k) = if s[k + 1] = 120 then (match hexV s[k + 2], hexV s[k + 3] with | some a, some b => (b8 (16 * a + b), 3) | _, _ => (0, 0)) else (0, 0) := by
    rw [hd1]
    exact if_neg (hno _ _ hd1)
  refine idx_str (k + 1) (by kernel_rfl) eI (by omega) ?_
  refine ifNe (fun hx1 => fail ?_ hx (Ext.rfl' _)) (fun hx1 => ?_)
  · rw [hesc, if_neg (fun h => hx1 (by rw [h]; rfl))]
  have h120 : s[k + 1] = 120 := UInt8.toNat_inj.1 (by show s[k + 1].toNat = 120; omega)
  rw [if_pos h120] at hesc
  refine idx_str (k + 2) (by kernel_rfl) e2 (by omega) ?_
  refine ref06_value_calls (ref06_value_spec (c := s[k + 2]) rfl ?_)
  refine ifD (fun h => fail ?_ hx (Ext.rfl' _)) (fun h5 => ?_)
  · rw [hesc, hexI_none (by omega)]
  obtain ⟨a, ha, ha'⟩ := hexI_some (c := s[k + 2]) (by omega)
  refine idx_str (k + 3) (by kernel_rfl) e3 (by omega) ?_
  refine ref06_value_calls (ref06_value_spec (c := s[k + 3]) rfl ?_)
  refine ifD (fun h => fail ?_ hx (Ext.rfl' _)) (fun h6 => ?_)
  · rw [hesc, ha, hexI_none (by omega)]
  obtain ⟨b, hb, hb'⟩ := hexI_some (c := s[k + 3]) (by omega)
  rw [ha, hb] at hesc
  refine held_x fun w34 hx34 => ?_
  have hx := hx.trans' hx34
  have ho := ho.ext hx34
  refine opH_of (s[k + 2].toNat : Int) (fun w' _ => idx_str (k + 2) (by kernel_rfl) e2 (by omega) rfl) (opH_of (s[k + 3].toNat : Int) (fun w' _ => idx_str (k + 3) (by kernel_rfl) e3 (by omega) rfl) ?_)
  refine ref06_value_calls (ref06_value_spec (c := s[k + 2]) rfl ⟨trivial, ?_⟩)
  refine ref06_value_calls (ref06_value_spec (c := s[k + 3]) rfl ⟨trivial, ?_⟩)
  rw [ha', hb', hex_join2 (hexV_lt ha) (hexV_lt hb)]
  refine lit1_ty (E := eB) 1 (x := b8 (16 * a + b)) w34.heap.size (by kernel_rfl) (by decide) (fun w => by kernel_rfl) (Nat.le_refl _) fun s9 w10 _ h9 hx10 => ⟨trivial, ?_⟩
  have z10 := (hx.trans' hx10).size
  refine app_ty 1 (by kernel_rfl) (by kernel_rfl) (ho.ext hx10) h9.is (by simp only [List.length_singleton]; omega) z10 (by decide) fun s11 w12 h11 hg => ⟨trivial, ?_⟩
  refine push (k + 4) _ hx ho (by rw [i64_id] <;> omega) (by omega) (by omega) ?_ w10 s9 hx10 h9 s11 w12 h11 hg
  rw [hq, hesc, if_neg (show ¬ (3 : Nat) = 0 by decide), List.drop_drop, Option.map_map]
  show Option.map _ (unqL (inner.drop (k + 3))) = Option.map _ (unqL (inner.drop (k + 4 - 1)))
  rw [show k + 4 - 1 = k + 3 by omega]
  cases unqL (inner.drop (k + 3)) <;> simp
end Go.Chg
