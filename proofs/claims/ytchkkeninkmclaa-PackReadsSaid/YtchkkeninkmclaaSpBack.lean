/-
  Fields that were put come back; what any reads tell.
-/
import Derived.Test.YtchkkeninkmclaaSpFld
set_option maxRecDepth 20000
namespace Go.Chg
open Go.Vc

theorem getL_at {m : Int} (h : m ≤ 9223372036854775807) {B p r : List UInt8} (hB : B = p ++ enc m.toNat ++ r) {q : Int} (hq : q = (p.length : Int)) : getL B q = ((m.toNat : Int), (p.length : Int) + (enc m.toNat).length, 0) := by
  subst hB hq
  exact getL_enc h p r

theorem rdNumber_at {m most : Int} (h : m ≤ 9223372036854775807) {B p r : List UInt8} (hB : B = p ++ enc m.toNat ++ r) {q : Int} (hq : q = (p.length : Int)) :
    rdNumber B most q 0 = if most < (m.toNat : Int) then (0, (p.length : Int) + (enc m.toNat).length, 2) else ((m.toNat : Int), (p.length : Int) + (enc m.toNat).length, 0) := by
  unfold rdNumber rdOp rdLim
  rw [getL_at h hB hq]
  simp only [ne_eq, not_true_eq_false, if_false]
  split
  · simp
  · simp
theorem rdText_at {x B p r : List UInt8} {most : Int} (hx : x.length ≤ 9223372036854775807) (hm : (x.length : Int) ≤ most) (hB : B = p ++ (enc x.length ++ x) ++ r) {q : Int} (hq : q = (p.length : Int)) :
    rdText B most q 0 = (x, (p.length : Int) + (enc x.length ++ x).length, 0) := by
  have h1 := getL_at (m := (x.length : Int)) (by omega) (B := B) (p := p) (r := x ++ r) (by rw [hB]; simp) hq
  rw [Int.toNat_natCast] at h1
  have h2 : rdLim B most q 0 = ((x.length : Int), (p.length : Int) + (enc x.length).length, 0) := by
    unfold rdLim
    rw [h1]
    simp only [ne_eq, not_true_eq_false, if_false]
    rw [if_neg (by omega)]
  have hlen : B.length = p.length + (enc x.length).length + x.length + r.length := by rw [hB]; simp; omega
  have h3 : rdCounted B most q 0 = ((x.length : Int), (p.length : Int) + (enc x.length).length, 0) := by
    unfold rdCounted
    rw [h2]
    simp only [if_true]
    rw [if_neg (by omega)]
  have h4 : rdRaw B most q 0 = (x, (p.length : Int) + (enc x.length ++ x).length, 0) := by
    unfold rdRaw
    rw [h3]
    simp only [ne_eq, not_true_eq_false, if_false]
    have e1 : ((p.length : Int) + (enc x.length).length).toNat = (p ++ enc x.length).length := by simp; omega
    have e2 : B = (p ++ enc x.length) ++ (x ++ r) := by rw [hB]; simp
    rw [e1, e2, List.drop_left, Int.toNat_natCast, List.take_left]
    simp only [List.length_append, Prod.mk.injEq, and_true, true_and]
    omega
  unfold rdText rdOp
  rw [h4]
  simp
theorem rdBool_at {b : Bool} {B p r : List UInt8} (hB : B = p ++ enc (flagN b) ++ r) {q : Int} (hq : q = (p.length : Int)) : rdBool B q 0 = (b, (p.length : Int) + 1, 0) := by
  have e1 : B.drop q.toNat = b8 (flagN b) :: r := by
    rw [hB, hq, Int.toNat_natCast, List.append_assoc, List.drop_left, enc_small (by cases b <;> decide)]
    rfl
  have h4 : rdFlag B q 0 = (b, (p.length : Int) + 1, 0) := by
    unfold rdFlag
    rw [e1]
    subst hq
    cases b <;> rfl
  unfold rdBool rdOp
  rw [h4]
  simp

/-- Fields that were put come back, in their order, and nothing is left. -/
theorem law04_PackBack_spec {s : Sl} {l : List Changeoverref04Field} {K : Bool → World → Prop} {w : World} (hs : IsSl eChangeoverref04Field w s l) (hwf : ∀ x ∈ l, x.wf)
    (hK : ∀ w', Ext w w' → K true w') : law04_PackBack s K w := by
  unfold law04_PackBack
  refine law04_large_calls (law04_large_spec hs fun b hb => ifB_of (fun _ => law04_awake_calls (law04_awake_spec hK)) fun hf => ?_)
  have hsm := hb hf
  have hl := hs.len
  have hle := hs.le
  have hsl := hsm.len hwf
  refine law04_put_calls (law04_put_spec hs hwf hsm fun s1 w1 ho1 hx1 => ?_)
  refine pack_NewReader_calls (pack_NewReader_spec ho1.is (by omega) fun r w2 hbr2 hr2 hx2 => ?_)
  have hbr : w.heap.size ≤ r.block := Nat.le_trans hx1.size hbr2
  refine ⟨fun i w' => Ext w w' ∧ ∃ k : Nat, i = k ∧ k ≤ l.length ∧ Rd w' r (fldsB l) ((fldsB (l.take k)).length : Int) 0, fun i _ => (l.length - i).toNat, ⟨hx1.trans' hx2, 0, rfl, by omega, hr2⟩, ?_⟩
  rintro i w3 ⟨hx, k, rfl, hk, hr⟩
  refine ifD (fun hlt => ?_) (fun hge => ?_)
  · have hk1 : k < l.length := by omega
    have hmem := List.getElem_mem hk1
    obtain ⟨f1, f2, f3, f4⟩ := hwf _ hmem
    have hS := hsm.2 _ hmem
    have hN := wf_i64 f2
    have hsp := fldsB_split hk1
    have e1 : i64 ((k : Int) + 1) = ((k + 1 : Nat) : Int) := by rw [i64_id] <;> omega
    rw [e1]
    have hnext : ((fldsB (l.take (k + 1))).length : Int) = (fldsB (l.take k)).length + (fldB l[k]).length := by rw [fldsB_succ hk1, List.length_append]; omega
    have step : ∀ (w2 : World), Ext w w2 → Rd w2 r (fldsB l) ((fldsB (l.take k)).length + (fldB l[k]).length) 0 →
        (Ext w w2 ∧ ∃ j : Nat, ((k + 1 : Nat) : Int) = j ∧ j ≤ l.length ∧ Rd w2 r (fldsB l) ((fldsB (l.take j)).length : Int) 0) ∧ ((l.length : Int) - ((k + 1 : Nat) : Int)).toNat < ((l.length : Int) - (k : Int)).toNat := by
      intro w2 hx2 hw
      rw [← hnext] at hw
      exact ⟨⟨hx2, k + 1, rfl, by omega, hw⟩, by omega⟩
    refine fld_rd (y := l[k].Kind) (by kernel_rfl) (by kernel_rfl) (hs.ext hx) rfl hk1 rfl fun _ => ?_
    refine ifEq (fun h1 => ?_) (fun h1 => ifEq (fun h2 => ?_) (fun h2 => ifEq (fun h3 => ?_) (fun h3 => ?_)))
    · have eB1 : fldB l[k] = enc l[k].N.toNat := by simp [fldB, h1]
      rw [eB1] at hsp step
      refine ⟨fun w' => Ext w w' ∧ (l[k].N ≤ 4611686018427387904 → Rd w' r (fldsB l) ((fldsB (l.take k)).length + (enc l[k].N.toNat).length) 0), ?_, ?_⟩
      · refine heldM_of (fun w' => Ext w w') fun w4 hx4 => ⟨hx.trans' hx4, ?_⟩
        refine fldH (y := l[k].N) (by kernel_rfl) (by kernel_rfl) (fun w' h => hs.ext h) rfl hk1 rfl fun _ => ?_
        refine pack_Reader_Number_calls (pack_Reader_Number_spec (hr.ext hx4) fun w5 hr5 hg5 => ?_)
        rw [rdNumber_at hN.2 hsp rfl] at hr5 ⊢
        have hx5 := (hx.trans' hx4).grown hg5 hbr
        refine ⟨hx5, ?_⟩
        refine ifNe (fun hne => ?_) (fun heq => ⟨hx5, fun hle => ?_⟩)
        · refine fldH (y := l[k].N) (by kernel_rfl) (by kernel_rfl) (fun w' h => hs.ext h) rfl hk1 rfl fun _ => ?_
          refine ifD (fun hge => ?_) (fun hneg => ⟨hx5, fun hle => ?_⟩)
          · refine fldH (y := l[k].N) (by kernel_rfl) (by kernel_rfl) (fun w' h => hs.ext h) rfl hk1 rfl fun _ => ?_
            refine ifD (fun hle => ?_) (fun hgt => ⟨hx5, fun hle => absurd hle hgt⟩)
            rw [if_neg (by omega)] at hne
            exact absurd (by simp only; omega) hne
          · rw [if_neg (by omega)] at hr5
            exact hr5
        · rw [if_neg (by omega)] at hr5
          exact hr5
      · rintro w4 ⟨hx4, hr4⟩
        refine fld_rd (y := l[k].N) (by kernel_rfl) (by kernel_rfl) (hs.ext hx4) rfl hk1 rfl fun _ => ?_
        refine ifD (fun hgt => law04_awake_calls (law04_awake_spec fun w5 hx5 => hK w5 (hx4.trans' hx5))) (fun hle => step w4 hx4 (hr4 (by omega)))
    · have eB2 : fldB l[k] = enc l[k].S.length ++ l[k].S := by simp [fldB, h2]
      rw [eB2] at hsp step
      refine heldM_of (fun w' => Ext w w') fun w4 hx4 => ⟨hx.trans' hx4, ?_⟩
      refine fldH (y := l[k].S) (by kernel_rfl) (by kernel_rfl) (fun w' h => hs.ext h) rfl hk1 rfl fun _ => ?_
      refine pack_Reader_Text_calls (pack_Reader_Text_spec (hr.ext hx4) (by omega) fun w5 hr5 hg5 => ?_)
      rw [rdText_at (by omega) (by omega) hsp rfl] at hr5 ⊢
      have hx5 := (hx.trans' hx4).grown hg5 hbr
      refine ⟨hx5, ifNot (ifStr (fun _ => step w5 hx5 hr5) (fun h => absurd rfl h))⟩
    · have eB3 : fldB l[k] = enc (flagN l[k].Is) := by simp [fldB, h3]
      rw [eB3] at hsp step
      refine heldM_of (fun w' => Ext w w') fun w4 hx4 => ⟨hx.trans' hx4, ?_⟩
      refine fldH (y := l[k].Is) (by kernel_rfl) (by kernel_rfl) (fun w' h => hs.ext h) rfl hk1 rfl fun _ => ?_
      refine pack_Reader_Flag_calls (pack_Reader_Flag_spec (hr.ext hx4) fun w5 hr5 hg5 => ?_)
      rw [rdBool_at hsp rfl] at hr5 ⊢
      have hx5 := (hx.trans' hx4).grown hg5 hbr
      refine ⟨hx5, ifNot (ifB_t (by simp) (step w5 hx5 ?_))⟩
      rw [enc_flag]
      exact hr5
    · have eB4 : fldB l[k] = [] := by simp [fldB, h1, h2, h3]
      refine step w3 hx ?_
      rw [eB4]
      simpa using hr
  · have e1 : k = l.length := by omega
    subst e1
    rw [List.take_length] at hr
    refine pack_Reader_Done_calls (pack_Reader_Done_spec hr fun w4 hx4 => ?_)
    rw [if_neg (by omega), if_neg (by omega)]
    exact ifB_t rfl (law04_awake_calls (law04_awake_spec fun w5 hx5 => hK w5 ((hx.trans' hx4).trans' hx5)))
end Go.Chg
