/-
  Package 'ledger': two ledgers that agree, two that are merged; the law of chapter 32 about them.
-/
import Derived.Test.YtnnoalpkldpjfaaSpLdg3
set_option maxRecDepth 20000
set_option linter.unusedVariables false
namespace Go.Chg
open Go.Vc
open Go.RowKit (Below)
variable {w : World} {s t a b : Sl} {l m r : List ApiEntry} {e x : ApiEntry} {q : Addr}
/-! ### Agreement -/
/-- Another command at the same index. -/
def clash (m : List ApiEntry) (e : ApiEntry) : Bool := match entOf m e.Index with | some x => !((ApiCmd.eqs x.Cmd e.Cmd).all id) | none => false
def Agr (l m : List ApiEntry) : Prop := ∀ e ∈ l, clash m e = false
theorem clash_some (h : entOf m e.Index = some x) : clash m e = !((ApiCmd.eqs x.Cmd e.Cmd).all id) := by unfold clash; rw [h]
theorem clash_none (h : entOf m e.Index = none) : clash m e = false := by unfold clash; rw [h]
theorem clash_iff : clash m e = false ↔ ∀ x, entOf m e.Index = some x → x.Cmd = e.Cmd := by
  cases h : entOf m e.Index with
  | none =>
    rw [clash_none h]
    exact ⟨fun _ x hx => (by cases hx), fun _ => rfl⟩
  | some y =>
    rw [clash_some h]
    constructor
    · intro he x hx
      cases hx
      exact ApiCmd.eqs_iff.1 (by simpa using he)
    · intro hx
      rw [ApiCmd.eqs_iff.2 (hx y rfl)]
      rfl
theorem ledger_Agree_1_spec {K : Bool → World → Prop} (ho : Vc.Obj w q [s.val]) (hs : IsSl eApiEntry w s m) (hu : EUp m) (hle : m.length ≤ 1000) (hK : ∀ w', Ext w w' → K (clash m e) w') : ledger_Agree_1 e q K w := by
  unfold ledger_Agree_1
  refine new_x (Ext.rfl' w) fun b1 w2 h1 l1 hx n1 => ?_
  refine ld_obj0 (val := Sl.val) (y := s) (by kernel_rfl) (ho.ext hx) rfl ?_
  refine entry_Find_calls (entry_Find_spec (hs.ext hx) hu (by omega) fun w5 hx5 => kp_ext hx5 ?_)
  have hx := hx.trans' hx5
  refine new_x hx fun b6 w7 h6 l6 hx7 n6 => wr_x hx7 h6 fun w8 hx8 _ => ?_
  cases hf : entOf m e.Index with
  | none =>
    rw [clash_none hf] at hK
    rw [findOf_none hf]
    exact ifB_f rfl (hK _ hx8)
  | some x =>
    rw [clash_some hf] at hK
    rw [findOf_some hf]
    exact ifB_t rfl (neSt (by kernel_rfl) (ApiCmd.eqv x.Cmd e.Cmd) (hK _ hx8))
theorem ledger_Agree_spec {K : Bool → World → Prop} (ha : IsSl eApiEntry w a l) (hb : IsSl eApiEntry w b m) (hu : EUp m) (hle : m.length ≤ 1000) (hK : ∀ t w', (t = true ↔ Agr l m) → Ext w w' → K t w') : ledger_Agree a b K w := by
  unfold ledger_Agree
  refine box_ty fun q w2 hq hx2 ho => ?_
  refine slices_ContainsFunc_api_Entry_api_Entry_calls ?_
  unfold slices_ContainsFunc_api_Entry_api_Entry
  refine slices_IndexFunc_api_Entry_api_Entry_Agree_calls ?_
  unfold slices_IndexFunc_api_Entry_api_Entry_Agree
  refine index_vc (E := eApiEntry) (fun x => clash m x) (by kernel_rfl) (by kernel_rfl) (fun _ => rfl) (ha.ext hx2) (fun y _ w' K' hx' hk => ledger_Agree_1_calls (e := y) (ledger_Agree_1_spec (ho.ext hx') ((hb.ext hx2).ext hx') hu hle hk)) (fun w' hn hx' => ?_) (fun w' k hk hp _ hx' => ?_)
  · exact hK _ _ ⟨fun _ => hn, fun _ => rfl⟩ (hx2.trans' hx')
  · refine hK _ _ ⟨fun h => ?_, fun h => ?_⟩ (hx2.trans' hx')
    · exact absurd h (by simp)
    · rw [h _ (List.getElem_mem hk)] at hp
      cases hp
theorem cmd_part : ∀ {e : ApiEntry} {j : Nat} {v : Value}, e.Cmd.cs[j]? = some v → e.cs[3 + j]? = some v := by
  intro e j v h
  match j, h with
  | 0, h => exact h
  | 1, h => exact h
  | 2, h => exact h
  | 3, h => exact h
  | 4, h => exact h
  | 5, h => exact h
  | 6, h => exact h
  | j + 7, h => cases h
theorem ref32_Agree_spec {K : Bool → World → Prop} (ha : IsSl eApiEntry w a l) (hb : IsSl eApiEntry w b m) (hK : ∀ t w', (t = true ↔ Agr l m) → Ext w w' → K t w') : ref32_Agree a b K w := by
  unfold ref32_Agree
  have hl := ha.len
  have hle := ha.le
  refine up1 (fun k W => Ext w W ∧ ∀ y ∈ l.take k, clash m y = false) 0 l.length rfl (by omega) hle ⟨Ext.rfl' _, by simp⟩ ?_
  rintro k W C _ hk ⟨hx, hall⟩ hC
  refine ifD (fun hlt => ?_) (fun hge => hK _ _ ⟨fun _ => all_done (by omega) hall, fun _ => rfl⟩ hx)
  have hk1 : k < l.length := by omega
  refine fld_rd (y := l[k].Index) (by kernel_rfl) (by kernel_rfl) (ha.ext hx) rfl hk1 rfl fun _ => ?_
  refine ref12_Find_calls (ref12_Find_spec (hb.ext hx) (fun hn => drew_of fun w8 hx8 => ?_) (fun j hj hs => drew_of fun w8 hx8 => ?_))
  · exact ifD (fun h => absurd h (by decide)) (fun _ => hC hk1 _ _ rfl ⟨hx.trans' hx8, all_up hk1 hall (clash_none hn)⟩)
  · have hx := hx.trans' hx8
    refine ifD (fun _ => ?_) (fun h => absurd (Int.natCast_nonneg j) h)
    refine part_rd (E := eApiEntry) (y := m[j].Cmd) (xs := m[j].Cmd.cs) (by kernel_rfl) (by kernel_rfl) (hb.ext hx) rfl hj rfl rfl (fun j v h => cmd_part h) fun _ => ?_
    refine part_rd (E := eApiEntry) (y := l[k].Cmd) (xs := l[k].Cmd.cs) (by kernel_rfl) (by kernel_rfl) (ha.ext hx) rfl hk1 rfl rfl (fun j v h => cmd_part h) fun _ => ?_
    refine neSt (by kernel_rfl) (ApiCmd.eqv m[j].Cmd l[k].Cmd) (ifB_of (fun h => hK _ _ ⟨fun h => (by cases h), fun hag => ?_⟩ hx) (fun h => hC hk1 _ _ rfl ⟨hx, all_up hk1 hall (by rw [clash_some hs]; exact h)⟩))
    have := hag _ (List.getElem_mem hk1)
    rw [clash_some hs, h] at this
    cases this
/-! ### Two that are merged -/
def mrgS (out : List ApiEntry) (e : ApiEntry) : List ApiEntry := if entOf out e.Index = none then entWith out e else out
def mrgL (l r : List ApiEntry) : List ApiEntry := r.foldl mrgS l
theorem mrgL_snoc {k : Nat} (hk : k < r.length) : mrgL l (r.take (k + 1)) = mrgS (mrgL l (r.take k)) r[k] := by
  unfold mrgL
  rw [List.take_add_one, List.getElem?_eq_getElem hk, List.foldl_append]
  rfl
theorem with_len (hu : EUp l) : (entWith l e).length ≤ l.length + 2 := by
  have h := with_ins ordI hu e
  have h2 := withL_len (cmp := cmpI) (key := (·.Index)) (s := e) l
  unfold entWith
  rw [← h]
  split
  · rw [List.length_append, List.length_singleton]; omega
  · omega
theorem mrgS_up (hu : EUp l) : EUp (mrgS l e) := by
  unfold mrgS
  split
  · exact Up.ins ordI hu e
  · exact hu
theorem mrgS_len (hu : EUp l) : (mrgS l e).length ≤ l.length + 2 := by
  unfold mrgS
  split
  · exact with_len hu
  · omega
theorem mrg_up : ∀ {r l : List ApiEntry}, EUp l → EUp (mrgL l r)
  | [], _, h => h
  | x :: r, l, h => mrg_up (r := r) (l := mrgS l x) (mrgS_up h)
theorem mrg_len : ∀ {r l : List ApiEntry}, EUp l → (mrgL l r).length ≤ l.length + 2 * r.length
  | [], _, h => Nat.le_refl _
  | x :: r, l, h => by
    have h1 := mrg_len (r := r) (l := mrgS l x) (mrgS_up h)
    have h2 := mrgS_len (e := x) h
    show (mrgL (mrgS l x) r).length ≤ _
    rw [List.length_cons]
    omega
theorem mrgS_keep (hu : EUp l) {n : Int} (h : entOf l n = some x) : entOf (mrgS l e) n = some x := by
  unfold mrgS
  split
  · rename_i hn
    have hne : n ≠ e.Index := fun he => by
      subst he
      rw [hn] at h
      cases h
    exact (get_ins_ne ordI hu hne).trans h
  · exact h
theorem mrg_keep : ∀ {r l : List ApiEntry} {n : Int} {x : ApiEntry}, EUp l → entOf l n = some x → entOf (mrgL l r) n = some x
  | [], _, _, _, _, h => h
  | y :: r, l, n, x, hu, h => mrg_keep (r := r) (l := mrgS l y) (mrgS_up hu) (mrgS_keep hu h)
theorem mrg_mem : ∀ {r l : List ApiEntry} {x : ApiEntry}, x ∈ mrgL l r → x ∈ l ∨ x ∈ r
  | [], _, _, h => .inl h
  | y :: r, l, x, h => by
    rcases mrg_mem (r := r) (l := mrgS l y) h with h | h
    · unfold mrgS at h
      split at h
      · rcases (mem_ins ordI).1 h with h | h
        · exact .inr (by simp [h])
        · exact .inl h.1
      · exact .inl h
    · exact .inr (by simp [h])
theorem ent_self (hu : EUp l) (h : e ∈ l) : entOf l e.Index = some e := (Up.get_iff ordI hu).2 ⟨h, rfl⟩
theorem agr_mrg (hl : EUp l) : Agr l (mrgL l r) := fun e he => clash_iff.2 fun x hx => by
  rw [mrg_keep hl (ent_self hl he)] at hx
  cases hx
  rfl
theorem mrg_agr (hr : EUp r) (h : Agr l r) : Agr (mrgL l r) r := fun e he => by
  rcases mrg_mem he with h1 | h1
  · exact h e h1
  · exact clash_iff.2 fun x hx => by
      rw [ent_self hr h1] at hx
      cases hx
      rfl
theorem agr_flip (hr : EUp r) (h : Agr l r) : Agr r l := fun e he => clash_iff.2 fun x hx => by
  obtain ⟨h1, h2⟩ := get_some ordI hx
  have := clash_iff.1 (h x h1) e (by rw [h2]; exact ent_self hr he)
  exact this.symm
theorem ledger_Merge_spec {K : Sl → World → Prop} (ha : IsSl eApiEntry w a l) (hb : IsSl eApiEntry w b r) (hu : EUp l) (hl : l.length ≤ 40) (hr : r.length ≤ 40) (hK : ∀ s' w', IsSl eApiEntry w' s' (mrgL l r) → Ext w w' → K s' w') : ledger_Merge a b K w := by
  unfold ledger_Merge
  have hlb := hb.len
  refine slices_Clone_api_Entry_api_Entry_calls (clone_ent_spec ha (by omega) fun o1 w2 ho hx2 => ?_)
  refine up2b (fun k out W => Ext w W ∧ IsSl eApiEntry W out (mrgL l (r.take k))) 0 r.length rfl (Nat.zero_le _) (by omega) ⟨hx2, ho.is⟩ ?_
  rintro k out W C _ hk ⟨hx, ho⟩ hC
  refine ifD (fun hlt => ?_) (fun hge => ?_)
  rotate_left
  · have hkl : k = r.length := by omega
    subst hkl
    rw [List.take_length] at ho
    exact hK _ _ ho hx
  have hk1 : k < r.length := by omega
  have hup : EUp (mrgL l (r.take k)) := mrg_up hu
  have hln := mrg_len (r := r.take k) hu
  rw [List.length_take] at hln
  have hsn := mrgL_snoc (l := l) hk1
  refine st_rd (E := eApiEntry) (val := ApiEntry.val) (by kernel_rfl) (by kernel_rfl) (hb.ext hx) rfl hk1 (fun _ => rfl) fun _ => ?_
  refine new_x (Ext.rfl' W) fun b9 w10 h9 l9 hx10 n9 => wr_x hx10 h9 fun w11 hx11 _ => ?_
  have ho := ho.ext hx11
  have hx := hx.trans' hx11
  refine entry_Find_calls (entry_Find_spec ho hup (by omega) fun w13 hx13 => kp_ext hx13 ?_)
  have ho := ho.ext hx13
  have hx := hx.trans' hx13
  refine new_x (Ext.rfl' w13) fun b14 w15 h14 l14 hx15 n14 => wr_x hx15 h14 fun w16 hx16 _ => ?_
  have ho := ho.ext hx16
  have hx := hx.trans' hx16
  cases hf : entOf (mrgL l (r.take k)) r[k].Index with
  | none =>
    rw [findOf_none hf]
    refine ifNot (ifB_f rfl ?_)
    refine entry_With_calls (e := r[k]) (entry_With_spec ho hup (by omega) fun s' w18 h18 hx18 => kp_ext hx18 (kp_ext hx18 ?_))
    exact hC hk1 _ _ _ rfl ⟨hx.trans' hx18, by rw [hsn]; unfold mrgS; rw [if_pos hf]; exact h18.is⟩
  | some x =>
    rw [findOf_some hf]
    refine ifNot (ifB_t rfl ?_)
    exact hC hk1 _ _ _ rfl ⟨hx, by rw [hsn]; unfold mrgS; rw [if_neg (by rw [hf]; simp)]; exact ho⟩
theorem ref32_Merge_spec {K : Sl → World → Prop} (ha : IsSl eApiEntry w a l) (hb : IsSl eApiEntry w b r) (hu : EUp l) (hl : l.length ≤ 40) (hr : r.length ≤ 40) (hK : ∀ s' w', IsSl eApiEntry w' s' (mrgL l r) → Ext w w' → K s' w') : ref32_Merge a b K w := by
  unfold ref32_Merge
  have hlb := hb.len
  refine up2b (fun k out W => Ext w W ∧ IsSl eApiEntry W out (mrgL l (r.take k))) 0 r.length rfl (Nat.zero_le _) (by omega) ⟨Ext.rfl' _, ha⟩ ?_
  rintro k out W C _ hk ⟨hx, ho⟩ hC
  refine ifD (fun hlt => ?_) (fun hge => ?_)
  rotate_left
  · have hkl : k = r.length := by omega
    subst hkl
    rw [List.take_length] at ho
    exact hK _ _ ho hx
  have hk1 : k < r.length := by omega
  have hup : EUp (mrgL l (r.take k)) := mrg_up hu
  have hln := mrg_len (r := r.take k) hu
  rw [List.length_take] at hln
  have hsn := mrgL_snoc (l := l) hk1
  refine fld_rd (y := r[k].Index) (by kernel_rfl) (by kernel_rfl) (hb.ext hx) rfl hk1 rfl fun _ => ?_
  refine ref12_Find_calls (ref12_Find_spec ho (fun hf => ?_) (fun j hj hf => ?_))
  · refine ifD (fun _ => ?_) (fun h => absurd (by decide) h)
    refine st_rd (E := eApiEntry) (val := ApiEntry.val) (by kernel_rfl) (by kernel_rfl) (hb.ext hx) rfl hk1 (fun _ => rfl) fun _ => ?_
    refine ref12_With_calls (e := r[k]) (ref12_With_spec ho hup (by omega) fun s' w12 h12 hx12 => ?_)
    exact hC hk1 _ _ _ rfl ⟨hx.trans' hx12, by rw [hsn]; unfold mrgS; rw [if_pos hf]; exact h12.is⟩
  · refine ifD (fun h => absurd (Int.natCast_nonneg j) (by omega)) (fun _ => ?_)
    exact hC hk1 _ _ _ rfl ⟨hx, by rw [hsn]; unfold mrgS; rw [if_neg (by rw [hf]; simp)]; exact ho⟩
theorem law32_LedgerAgrees_spec {K : Bool → World → Prop} (ha : IsSl eApiEntry w a l) (hb : IsSl eApiEntry w b r) (hK : ∀ w', Ext w w' → K true w') : law32_LedgerAgrees a b K w := by
  unfold law32_LedgerAgrees
  have aw : ∀ {u : World} {X : Bool → World → Prop}, (∀ w', Ext u w' → X true w') → callV Pr Value.bool fid_law32_awake #[] u X := fun h => law32_awake_calls (law32_awake_spec h)
  refine ref12_Large_calls (ref12_Large_spec ha fun t ht => ?_)
  refine ifB_of (fun _ => aw hK) (fun h => ?_)
  have h40a := ht h
  refine ref12_Large_calls (ref12_Large_spec hb fun t ht => ?_)
  refine ifB_of (fun _ => aw hK) (fun h => ?_)
  have h40b := ht h
  refine ref12_Rise_calls (ref12_Rise_spec ha fun t w10 hra hx => ?_)
  refine ifNot (ifB_of (fun hup => ?_) (fun _ => aw fun w' hx' => hK _ (hx.trans' hx')))
  have hua := hra.1 hup
  refine ref12_Rise_calls (ref12_Rise_spec (hb.ext hx) fun t w14 hrb hx14 => ?_)
  have hx := hx.trans' hx14
  refine ifNot (ifB_of (fun hup => ?_) (fun _ => aw fun w' hx' => hK _ (hx.trans' hx')))
  have hub := hrb.1 hup
  refine ledger_Merge_calls (ledger_Merge_spec (ha.ext hx) (hb.ext hx) hua h40a h40b fun m17 w18 hm hx18 => ?_)
  have hx := hx.trans' hx18
  have hum : EUp (mrgL l r) := mrg_up hua
  have hml := mrg_len (r := r) hua
  refine ledger_Agree_calls (ledger_Agree_spec (ha.ext hx) (hb.ext hx) hub (by omega) fun is w20 his hx20 => ?_)
  have hx := hx.trans' hx20
  have hm := hm.ext hx20
  refine ⟨fun u => Ext w u ∧ IsSl eApiEntry u m17 (mrgL l r), ?_, ?_⟩
  · refine ref32_Agree_calls (ref32_Agree_spec (ha.ext hx) (hb.ext hx) fun t22 w23 h22 hx23 => ?_)
    have hx := hx.trans' hx23
    have hm := hm.ext hx23
    have e22 : is = t22 := by
      rw [Bool.eq_iff_iff]
      exact his.trans h22.symm
    subst e22
    refine ifNot (ifB_t (by simp) ?_)
    refine ref32_Merge_calls (ref32_Merge_spec (ha.ext hx) (hb.ext hx) hua h40a h40b fun t24 w25 h24 hx25 => ?_)
    have hx := hx.trans' hx25
    have hm := hm.ext hx25
    refine ref12_Same_calls (ref12_Same_spec hm h24 fun t w27 hsm hx27 => ifNot (ifB_t (hsm.2 rfl) ?_))
    have hx := hx.trans' hx27
    have hm := hm.ext hx27
    refine ref32_Agree_calls (ref32_Agree_spec (ha.ext hx) hm fun t28 w29 h28 hx29 => ifNot (ifB_t (h28.2 (agr_mrg hua)) ?_))
    have hx := hx.trans' hx29
    have hm := hm.ext hx29
    refine ifB_of (fun hy => ?_) (fun hn => ⟨hx, hm⟩)
    refine ledger_Agree_calls (ledger_Agree_spec hm (hb.ext hx) hub (by omega) fun t30 w31 h30 hx31 => ifNot (ifB_t (h30.2 (mrg_agr hub (his.1 hy))) ⟨hx.trans' hx31, hm.ext hx31⟩))
  rintro w32 ⟨hx, hm⟩
  refine ledger_Agree_calls (ledger_Agree_spec (hb.ext hx) (ha.ext hx) hua (by omega) fun t33 w34 h33 hx34 => ?_)
  have hx := hx.trans' hx34
  have hm := hm.ext hx34
  have e33 : t33 = is := by
    rw [Bool.eq_iff_iff]
    exact ⟨fun h => his.2 (agr_flip hua (h33.1 h)), fun h => h33.2 (agr_flip hub (his.1 h))⟩
  refine ifB_t (by rw [e33]; simp) ?_
  refine ref12_Rise_calls (ref12_Rise_spec hm fun t35 w36 h35 hx36 => ifB_t (h35.2 hum) ?_)
  have hx := hx.trans' hx36
  exact aw fun w' hx' => hK _ (hx.trans' hx')
end Go.Chg
