/-
  The law of what package 'kvone' checks.
-/
import Derived.Test.YtapepehccddjpaaDoorSpAwake23
import Derived.Test.YtapepehccddjpaaDoorSpRuneK
set_option maxRecDepth 20000
set_option linter.unusedVariables false
namespace Go.Vc
open Go
variable {P : Program} {w : World} {α β : Type}
theorem stH' {E : Enc α} {S : World → Prop} {t u : TypeId} {s : Sl} {l : List α} {i : Int} {k : Nat} {val : α → Value} {K : Addr → α → Prop} (ht : slOf P t = some E.sz) (hu : agT P u = some E.sz) (hS : ∀ w', S w' → IsSl E w' s l) (hi : i = (k : Int)) (hk : k < l.length)
    (hv : ∀ x, val x = .agg ⟨E.cs x⟩) (hK : ∀ a, K a l[k]) : opH P S (Instr.indexAt t s.val (.int .i64 i)) pav (fun a => opH P S (Instr.loadAt u (.pointer (some a))) val (K a)) :=
  ⟨s.at k E.sz, fun w' hw => (ix_eq ht (hS w' hw) hi hk).1, opH_of l[k] (fun w' hw => ld_whole hu (ix_eq (P := P) ht (hS w' hw) hi hk).2 (hv _) rfl) (hK _)⟩
end Go.Vc
namespace Go.Chg
open Go.Vc
theorem kvone_Check_spec {s : Sl} {l : List ApiPair} {K : Int → World → Prop} {w : World} (ht : Utf8T w) (hs : IsSl eApiPair w s l)
    (hK : ∀ b w', (b = 0 ∧ PairsOk 1 l ∨ b = 3 ∧ ¬ PairsOk 1 l) → Ext w w' → K b w') : kvone_Check s K w := by
  unfold kvone_Check
  have hl := hs.len
  have hle := hs.le
  refine ifD (fun h64 => hK _ _ (.inr ⟨rfl, fun h => by have := h.2.1; omega⟩) (Ext.rfl' _)) (fun h64 => ?_)
  refine up1 (fun k w' => Ext w w' ∧ (∀ x ∈ l.take k, pairOk 1 x) ∧ ∀ (j : Nat) x y, l[j]? = some x → l[j + 1]? = some y → j + 1 < k → cmpS x.Key y.Key < 0) 0 l.length rfl (by omega) hle ⟨Ext.rfl' _, by simp, fun j x y _ _ h => by omega⟩ ?_
  rintro k w1 C _ hk ⟨hx1, hall, hris⟩ hC
  refine ifD (fun hlt => ?_) (fun hge => ?_)
  · have hk1 : k < l.length := by omega
    have hg1 := List.getElem?_eq_getElem hk1
    refine st_rd (val := ApiPair.val) (by kernel_rfl) (by kernel_rfl) (hs.ext hx1) rfl hk1 (fun _ => rfl) fun _ => ?_
    refine new_of fun b6 w2 hn2 => wr_of fun w3 hw3 => ?_
    have hx13 : Ext w1 w3 := Below.wr (Ext.new hn2) (by have := hn2.1; omega) hw3
    have hx3 := hx1.trans' hx13
    refine heldM_of (fun w' => IsSl eApiPair w' s l) fun w4 hx4 => ⟨hs.ext (hx3.trans' hx4), ?_⟩
    have hx4' := hx3.trans' hx4
    have bad : ∀ {w' : World}, Ext w w' → ¬ pairOk 1 l[k] → K 3 w' := fun hx h => hK _ _ (.inr ⟨rfl, fun h' => h (h'.1 _ (List.getElem_mem hk1))⟩) hx
    have good : ∀ {w' : World}, Ext w w' → pairOk 1 l[k] → (∀ x, 0 < k → l[k - 1]? = some x → cmpS x.Key l[k].Key < 0) → C (i64 ((k : Int) + 1)) w' := fun hx h hr => hC hk1 _ _ rfl ⟨hx, all_up hk1 hall h, fun j x y hjx hjy hj => by
      by_cases hjk : j + 1 = k
      · have ej : j = k - 1 := by omega
        rw [hjk, hg1] at hjy
        cases hjy
        exact hr x (by omega) (by rw [← ej]; exact hjx)
      · exact hris j x y hjx hjy (by omega)⟩
    refine ifD (fun hpos => ?_) (fun hzero => ?_)
    · have hk0 : 0 < k := by omega
      have hk2 : k - 1 < l.length := by omega
      have hg2 := List.getElem?_eq_getElem hk2
      have e1 : i64 ((k : Int) - 1) = ((k - 1 : Nat) : Int) := by rw [i64_id] <;> omega
      rw [e1]
      refine fldH (E := eApiPair) (y := l[k - 1].Key) (by kernel_rfl) (by kernel_rfl) (fun w' h => h) rfl hk2 rfl fun _ => ?_
      refine ifB_of (fun hbad => hK _ _ (.inr ⟨rfl, fun h => ?_⟩) hx4') (fun hris1 => ?_)
      · have := Up.steps h.2.2 hg2 (by rw [show k - 1 + 1 = k by omega]; exact hg1)
        rw [strLe_neg.2 this] at hbad
        cases hbad
      · have hr : ∀ x, 0 < k → l[k - 1]? = some x → cmpS x.Key l[k].Key < 0 := fun x _ hx => by
          rw [hg2] at hx
          cases hx
          exact strLe_neg.1 hris1
        refine runes_Key_calls (runes_Key_spec (ht.ext hx4') fun w5 hx5 => kp_ext hx5 ⟨hs.ext (hx4'.trans' hx5), ?_⟩)
        have hx5' := hx4'.trans' hx5
        refine ifNot (ifB_of (fun hkey => ?_) (fun hkey => bad hx5' fun h => by rw [h.1] at hkey; cases hkey))
        refine runes_Val_calls (runes_Val_spec (ht.ext hx5') fun w6 hx6 => kp_ext hx6 ⟨hs.ext (hx5'.trans' hx6), ?_⟩)
        have hx6' := hx5'.trans' hx6
        refine ifNot (ifB_of (fun hval => ?_) (fun hval => bad hx6' fun h => by rw [h.2.1] at hval; cases hval))
        exact ifNe (fun h => bad hx6' fun h' => h (h'.2.2.1 rfl)) (fun h => good hx6' ⟨hkey, hval, fun _ => h, fun e => absurd e (by decide)⟩ hr)
    · have hr : ∀ x, 0 < k → l[k - 1]? = some x → cmpS x.Key l[k].Key < 0 := fun x h0 _ => by omega
      refine runes_Key_calls (runes_Key_spec (ht.ext hx4') fun w5 hx5 => kp_ext hx5 ⟨hs.ext (hx4'.trans' hx5), ?_⟩)
      have hx5' := hx4'.trans' hx5
      refine ifNot (ifB_of (fun hkey => ?_) (fun hkey => bad hx5' fun h => by rw [h.1] at hkey; cases hkey))
      refine runes_Val_calls (runes_Val_spec (ht.ext hx5') fun w6 hx6 => kp_ext hx6 ⟨hs.ext (hx5'.trans' hx6), ?_⟩)
      have hx6' := hx5'.trans' hx6
      refine ifNot (ifB_of (fun hval => ?_) (fun hval => bad hx6' fun h => by rw [h.2.1] at hval; cases hval))
      exact ifNe (fun h => bad hx6' fun h' => h (h'.2.2.1 rfl)) (fun h => good hx6' ⟨hkey, hval, fun _ => h, fun e => absurd e (by decide)⟩ hr)
  · refine hK _ _ (.inl ⟨rfl, all_done (by omega) hall, by omega, up_of_steps ordS fun j x y hx hy => hris j x y hx hy ?_⟩) hx1
    have := (List.getElem?_eq_some_iff.1 hy).1
    omega
theorem law23_KvoneChecks_spec {s : Sl} {l : List ApiPair} {key : List UInt8} {K : Bool → World → Prop} {w : World} (ht : Utf8T w) (hs : IsSl eApiPair w s l) (hK : ∀ w', Ext w w' → K true w') : law23_KvoneChecks s key K w := by
  unfold law23_KvoneChecks
  refine ref23_Large_calls (ref23_Large_spec hs fun b hb => ?_)
  refine ifB_of (fun _ => law23_awake_calls (law23_awake_spec hK)) (fun h => ?_)
  have hsm := hb h
  have hle : l.length ≤ 80 := hsm.1
  refine ifD (fun _ => law23_awake_calls (law23_awake_spec hK)) (fun _ => ?_)
  refine ⟨fun want w' => Ext w w' ∧ (want = 0 ∧ PairsOk 1 l ∨ want = 3 ∧ ¬ PairsOk 1 l), ?_, ?_⟩
  · refine ref23_Check_calls (ref23_Check_spec hs fun b1 w1 hb1 hx1 => ?_)
    refine ifNot (ifB_of (fun h1 => ⟨hx1, .inl ⟨rfl, hb1.1 h1⟩⟩) (fun h1 => ⟨hx1, .inr ⟨rfl, fun h => ?_⟩⟩))
    rw [hb1.2 h] at h1
    cases h1
  rintro want w1 ⟨hx1, hwant⟩
  refine kvone_Check_calls (kvone_Check_spec (ht.ext hx1) (hs.ext hx1) fun got w2 hgot hx2 => ?_)
  have hx2' := hx1.trans' hx2
  refine ifNe (fun hne => absurd ?_ hne) (fun _ => ?_)
  · rcases hwant with ⟨h1, h2⟩ | ⟨h1, h2⟩ <;> rcases hgot with ⟨h3, h4⟩ | ⟨h3, h4⟩
    · rw [h1, h3]
    · exact absurd h2 h4
    · exact absurd h4 h2
    · rw [h1, h3]
  refine ref23_Rise_calls (ref23_Rise_spec (hs.ext hx2') fun b3 w3 hb3 hx3 => ?_)
  have hx3' := hx2'.trans' hx3
  refine ifNot (ifB_of (fun h3 => ?_) (fun _ => law23_awake_calls (law23_awake_spec fun w' hx => hK w' (hx3'.trans' hx))))
  have hu := hb3.1 h3
  refine kvone_Find_calls (kvone_Find_spec (hs.ext hx3') hu (by omega) fun w4 hx4 => ?_)
  have hx4' := hx3'.trans' hx4
  refine new_of fun b20 w5 hn5 => wr_of fun w6 hw6 => ?_
  have hx46 : Ext w4 w6 := Below.wr (Ext.new hn5) (by have := hn5.1; omega) hw6
  have hx6 := hx4'.trans' hx46
  refine ref23_Place_calls (ref23_Place_spec (hs.ext hx6) (fun k hk hso hkey _ => kp_same ?_) (fun hnone => kp_same ?_))
  · rw [hso]
    refine ifB_f (by simp) ?_
    refine heldM_of (fun w' => IsSl eApiPair w' s l) fun w7 hx7 => ⟨hs.ext (hx6.trans' hx7), ?_⟩
    refine stH' (E := eApiPair) (val := ApiPair.val) (by kernel_rfl) (by kernel_rfl) (fun w' h => h) rfl hk (fun _ => rfl) fun _ => ?_
    refine eqSt_S (by kernel_rfl) (ApiPair.eqv _ _) (ifB_t (ApiPair.eqs_iff.2 rfl) (ifB_t rfl ?_))
    have hx7' := hx6.trans' hx7
    exact law23_awake_calls (law23_awake_spec fun w' hx => kp_ext hx ⟨hs.ext (hx7'.trans' hx), hK w' (hx7'.trans' hx)⟩)
  · rw [hnone]
    refine ifB_t rfl ?_
    refine eqSt (by kernel_rfl) (ApiPair.eqv noPair noPair) (ifB_t (ApiPair.eqs_iff.2 rfl) (ifB_t rfl ?_))
    exact law23_awake_calls (law23_awake_spec fun w' hx => kp_ext hx (hK w' (hx6.trans' hx)))
end Go.Chg
