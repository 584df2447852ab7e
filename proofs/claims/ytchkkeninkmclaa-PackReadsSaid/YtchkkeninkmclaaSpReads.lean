/-
  What any reads of any bytes tell, one behind the other, and the first error, which stays.
-/
import Derived.Test.YtchkkeninkmclaaSpBack
set_option maxRecDepth 20000
set_option linter.unusedVariables false
set_option linter.unusedSimpArgs false
namespace Go.Chg
open Go.Vc

/-- What is read as a field: the field's parts, where the reader is, its fault. -/
def rdFld (l : List UInt8) (kind most p no : Int) : Changeoverref04Field × Int × Int :=
  if kind = 1 then (⟨kind, (rdNumber l most p no).1, [], false⟩, (rdNumber l most p no).2)
  else if kind = 2 then (⟨kind, 0, (rdText l most p no).1, false⟩, (rdText l most p no).2)
  else if kind = 3 then (⟨kind, 0, [], (rdBool l p no).1⟩, (rdBool l p no).2)
  else if kind = 4 then (⟨kind, (rdCount l most p no).1, [], false⟩, (rdCount l most p no).2)
  else (⟨2, 0, (rdText l most p no).1, false⟩, (rdText l most p no).2)

theorem law04_read_spec {a : Addr} {l : List UInt8} {p no kind most : Int} {K : Changeoverref04Field → World → Prop} {w : World} (h : Rd w a l p no) (hl : l.length ≤ 140737488355328)
    (hK : ∀ w', Rd w' a l (rdFld l kind most p no).2.1 (rdFld l kind most p no).2.2 → w.grownBy w' (some a.block) → K (rdFld l kind most p no).1 w') : law04_read (some a) kind most K w := by
  unfold law04_read
  have hlt := h.lt
  refine new_of fun b1 w1 hn1 => new_of fun b2 w2 hn2 => wr_of fun w3 hw3 => ?_
  have hb1 : b1 = w.heap.size := hn1.1
  have hb2 : b2 = w1.heap.size := hn2.1
  have hx1 := Ext.new hn1
  have hs1 := hx1.size
  have hx3 : Ext w w3 := Below.wr (hx1.trans' (Ext.new hn2)) (by omega) hw3
  have r3 := h.ext hx3
  -- behind the read: the own variables are written, the reader stays
  have last : ∀ (w7 w8 w9 : World) (x : Changeoverref04Field) (q e : Int), Rd w7 a l q e → w3.grownBy w7 (some a.block) → Wr b2 w7 w8 → Wr b1 w8 w9 → (rdFld l kind most p no) = (x, q, e) → K x w9 := by
    intro w7 w8 w9 x q e hr hg hw8 hw9 he
    have := hK w9
    rw [he] at this
    refine this ((hr.wr hw8 (by omega)).wr hw9 (by omega)) (grown_new (grown_new (grown_trans (grown_ext hx3 _) hg) (by omega : w.heap.size ≤ b2) (grown_wr hw8)) (by omega : w.heap.size ≤ b1) (grown_wr hw9))
  have hk : ∀ {w7 : World} {X : Prop}, w3.grownBy w7 (some a.block) → X → kp b2 w3 w7 (kp b1 w3 w7 X) := fun hg x => kp_grown hg (by simp; omega) (kp_grown hg (by simp; omega) x)
  refine ifEq (fun h1 => ?_) (fun h1 => ifEq (fun h2 => ?_) (fun h2 => ifEq (fun h3 => ?_) (fun h3 => ifEq (fun h4 => ?_) (fun h4 => ?_))))
  · exact pack_Reader_Number_calls (pack_Reader_Number_spec r3 fun w7 hr7 hg7 => hk hg7 (wr_of fun w8 hw8 => wr_of fun w9 hw9 => last w7 w8 w9 _ _ _ hr7 hg7 hw8 hw9 (by simp [rdFld, h1])))
  · exact pack_Reader_Text_calls (pack_Reader_Text_spec r3 hl fun w7 hr7 hg7 => hk hg7 (wr_of fun w8 hw8 => wr_of fun w9 hw9 => last w7 w8 w9 _ _ _ hr7 hg7 hw8 hw9 (by simp [rdFld, h2])))
  · exact pack_Reader_Flag_calls (pack_Reader_Flag_spec r3 fun w7 hr7 hg7 => hk hg7 (wr_of fun w8 hw8 => wr_of fun w9 hw9 => last w7 w8 w9 _ _ _ hr7 hg7 hw8 hw9 (by simp [rdFld, h3])))
  · exact pack_Reader_Count_calls (pack_Reader_Count_spec r3 fun w7 hr7 hg7 => hk hg7 (wr_of fun w8 hw8 => wr_of fun w9 hw9 => last w7 w8 w9 _ _ _ hr7 hg7 hw8 hw9 (by simp [rdFld, h4])))
  · refine wr_of fun w4 hw4 => ?_
    have hx4 : Ext w w4 := Below.wr hx3 (by omega) hw4
    refine pack_Reader_Raw_calls (pack_Reader_Raw_spec (h.ext hx4) hl fun s7 w7 ho7 hr7 hg7 => ?_)
    refine kp_grown hg7 (by simp; omega) (kp_grown hg7 (by simp; omega) ?_)
    refine b2str_rd (by kernel_rfl) (by kernel_rfl) ho7.is (wr_of fun w8 hw8 => wr_of fun w9 hw9 => ?_)
    have := hK w9
    have he : rdFld l kind most p no = (⟨2, 0, (rdText l most p no).1, false⟩, (rdText l most p no).2) := by simp [rdFld, h1, h2, h3, h4]
    rw [he] at this
    exact this ((hr7.wr hw8 (by omega)).wr hw9 (by omega)) (grown_new (grown_new (grown_trans (grown_ext hx4 _) hg7) (by omega : w.heap.size ≤ b2) (grown_wr hw8)) (by omega : w.heap.size ≤ b1) (grown_wr hw9))

/-- The document's answer. -/
def refFld (l : List UInt8) (kind most p : Int) : Changeoverref04Field × Int × Int :=
  if kind = 3 then
    match l.drop p.toNat with
    | [] => (⟨0, 0, [], false⟩, 0, 1)
    | c :: _ => if 1 < c.toNat then (⟨0, 0, [], false⟩, 0, 3) else (⟨3, 0, [], decide (c = 1)⟩, p + 1, 0)
  else if (getL l p).2.2 ≠ 0 then (⟨0, 0, [], false⟩, 0, (getL l p).2.2)
  else if most < (getL l p).1 then (⟨0, 0, [], false⟩, 0, 2)
  else if kind = 1 then (⟨1, (getL l p).1, [], false⟩, (getL l p).2.1, 0)
  else if (l.length : Int) - (getL l p).2.1 < (getL l p).1 then (⟨0, 0, [], false⟩, 0, 1)
  else if kind = 4 then (⟨4, (getL l p).1, [], false⟩, (getL l p).2.1, 0)
  else (⟨2, 0, (l.drop (getL l p).2.1.toNat).take (getL l p).1.toNat, false⟩, (getL l p).2.1 + (getL l p).1, 0)

theorem ref04_Read_spec {s : Sl} {l : List UInt8} {p kind most : Int} {K : Changeoverref04Field × Int × Int → World → Prop} {w : World} (hs : IsSl eB w s l) (h0 : 0 ≤ p) (hp : p ≤ l.length)
    (hK : ∀ w', Ext w w' → K (refFld l kind most p) w') : ref04_Read s p kind most K w := by
  unfold ref04_Read
  have hl := hs.len
  have hle := hs.le
  refine new_of fun b1 w1 hn1 => ?_
  have hb1 : b1 = w.heap.size := hn1.1
  have hx1 := Ext.new hn1
  have fin : ∀ (x : Changeoverref04Field × Int × Int), refFld l kind most p = x → wrM b1 (fun w3 => K x w3) w1 := fun x hx => wr_of fun w3 hw3 => by
    rw [← hx]; exact hK w3 (Below.wr hx1 (by omega) hw3)
  refine ifEq (fun h3 => ?_) (fun h3 => ?_)
  · refine ifD (fun hge => fin _ ?_) (fun hlt => ?_)
    · simp only [refFld, h3, if_true]
      rw [List.drop_of_length_le (by omega)]
    · have hk1 : p.toNat < l.length := by omega
      have hd := List.drop_eq_getElem_cons hk1
      refine el_rd (E := eB) (by kernel_rfl) (by kernel_rfl) (hs.ext hx1) (k := p.toNat) (by omega) hk1 rfl fun _ => ?_
      refine ifD (fun hgt => fin _ ?_) (fun hng => ?_)
      · simp only [refFld, h3, if_true]
        rw [hd]
        simp only
        rw [if_pos (by omega)]
      · refine el_rd (E := eB) (by kernel_rfl) (by kernel_rfl) (hs.ext hx1) (k := p.toNat) (by omega) hk1 rfl fun _ => ?_
        rw [i64_id (n := p + 1) (by omega) (by omega)]
        refine fin _ ?_
        simp only [refFld, h3, if_true]
        rw [hd]
        simp only
        rw [if_neg (by omega)]
        have e2 : (((l[p.toNat].toNat : Int) == 1) : Bool) = decide (l[p.toNat] = 1) := by
          have : ((l[p.toNat].toNat : Int) = 1) ↔ l[p.toNat] = 1 := by
            constructor
            · intro h; exact UInt8.toNat_inj.1 (show l[p.toNat].toNat = 1 by omega)
            · intro h; rw [h]; rfl
          by_cases h7 : l[p.toNat] = 1
          · simp [h7]
          · have := mt this.1 h7
            simp [h7, this]
        rw [e2]
  · refine ref01_Get_calls (ref01_Get_spec (hs.ext hx1) (kp_same ?_))
    have hpos := getL_pos l p
    have hnum := getL_num l p
    refine ifNe (fun hne => fin _ ?_) (fun he => ?_)
    · simp only [refFld, h3, if_false]
      rw [if_pos hne]
    · refine ifD (fun hgt => fin _ ?_) (fun hng => ?_)
      · simp only [refFld, h3, if_false]
        rw [if_neg (by omega), if_pos (by omega)]
      · refine ifEq (fun h1 => fin _ ?_) (fun h1 => ?_)
        · simp only [refFld, h3, if_false]
          rw [if_neg (by omega), if_neg (by omega), if_pos h1]
        · rw [i64_id (n := (s.len : Int) - (getL l p).2.1) (by omega) (by omega)]
          refine ifD (fun hgt2 => fin _ ?_) (fun hng2 => ?_)
          · simp only [refFld, h3, if_false]
            rw [if_neg (by omega), if_neg (by omega), if_neg h1, if_pos (by omega)]
          · refine ifEq (fun h4 => fin _ ?_) (fun h4 => ?_)
            · simp only [refFld, h3, if_false]
              rw [if_neg (by omega), if_neg (by omega), if_neg h1, if_neg (by omega), if_pos h4]
            · rw [i64_id (n := (getL l p).2.1 + (getL l p).1) (by omega) (by omega)]
              refine sub_lh (E := eB) (by kernel_rfl) (hs.ext hx1) (m := (getL l p).2.1.toNat) (n := ((getL l p).2.1 + (getL l p).1).toNat) (by omega) (by omega) (by omega) (by omega) fun s' hs' _ => ?_
              refine b2str_rd (by kernel_rfl) (by kernel_rfl) hs' (fin _ ?_)
              simp only [refFld, h3, if_false]
              rw [if_neg (by omega), if_neg (by omega), if_neg h1, if_neg (by omega), if_neg h4, show ((getL l p).2.1 + (getL l p).1).toNat - (getL l p).2.1.toNat = (getL l p).1.toNat from by omega]

/-- What is read, and the document's answer: the same. -/
theorem rd_ref {l : List UInt8} {kind most p : Int} (hk : 1 ≤ kind ∧ kind ≤ 5) (h0 : 0 ≤ p) (hp : p ≤ l.length) (h9 : most ≤ 9223372036854775807) :
    (rdFld l kind most p 0).1 = ⟨if kind = 5 then 2 else kind, (refFld l kind most p).1.N, (refFld l kind most p).1.S, (refFld l kind most p).1.Is⟩ ∧ (rdFld l kind most p 0).2.2 = (refFld l kind most p).2.2 ∧
    ((refFld l kind most p).2.2 = 0 → (rdFld l kind most p 0).2.1 = (refFld l kind most p).2.1) := by
  have hnum := getL_num l p
  have hpos := getL_pos l p
  by_cases h3 : kind = 3
  · subst h3
    cases hd : l.drop p.toNat with
    | nil =>
      have hF : rdFlag l p 0 = (false, p, 1) := by unfold rdFlag; rw [hd]
      have hR : refFld l 3 most p = (⟨0, 0, [], false⟩, 0, 1) := by unfold refFld; rw [if_pos rfl, hd]
      rw [hR]
      simp [rdFld, rdBool, rdOp, hF]
    | cons c r =>
      have hF : rdFlag l p 0 = (decide (c = 1), p + 1, if 1 < c.toNat then 3 else 0) := by unfold rdFlag; rw [hd]
      have hR : refFld l 3 most p = if 1 < c.toNat then (⟨0, 0, [], false⟩, 0, 3) else (⟨3, 0, [], decide (c = 1)⟩, p + 1, 0) := by unfold refFld; rw [if_pos rfl, hd]
      rw [hR]
      by_cases hc : 1 < c.toNat
      · simp [rdFld, rdBool, rdOp, hF, hc]
      · simp [rdFld, rdBool, rdOp, hF, hc]
  · have hlim : rdLim l most p 0 = ((getL l p).1, (getL l p).2.1, if (getL l p).2.2 ≠ 0 then (getL l p).2.2 else if most < (getL l p).1 then 2 else 0) := rfl
    by_cases he : (getL l p).2.2 ≠ 0
    · have hlim' : rdLim l most p 0 = ((getL l p).1, (getL l p).2.1, (getL l p).2.2) := by rw [hlim, if_pos he]
      have hc : rdCounted l most p 0 = ((getL l p).1, (getL l p).2.1, (getL l p).2.2) := by simp only [rdCounted, hlim']; rw [if_neg he]
      have hr : rdRaw l most p 0 = ([], (getL l p).2.1, (getL l p).2.2) := by simp only [rdRaw, hc]; rw [if_pos he]
      simp only [rdFld, refFld, rdNumber, rdText, rdCount, rdOp, hlim', hc, hr, h3, if_false, ne_eq, not_true_eq_false, he, not_false_eq_true, if_true]
      have : kind = 1 ∨ kind = 2 ∨ kind = 4 ∨ kind = 5 := by omega
      rcases this with rfl | rfl | rfl | rfl <;> simp [he]
    · by_cases hm : most < (getL l p).1
      · have hlim' : rdLim l most p 0 = ((getL l p).1, (getL l p).2.1, 2) := by rw [hlim, if_neg he, if_pos hm]
        have hc : rdCounted l most p 0 = ((getL l p).1, (getL l p).2.1, 2) := by simp [rdCounted, hlim']
        have hr : rdRaw l most p 0 = ([], (getL l p).2.1, 2) := by simp [rdRaw, hc]
        simp only [rdFld, refFld, rdNumber, rdText, rdCount, rdOp, hlim', hc, hr, h3, if_false, he, hm, if_true]
        have : kind = 1 ∨ kind = 2 ∨ kind = 4 ∨ kind = 5 := by omega
        rcases this with rfl | rfl | rfl | rfl <;> simp
      · have hlim' : rdLim l most p 0 = ((getL l p).1, (getL l p).2.1, 0) := by rw [hlim, if_neg he, if_neg hm]
        by_cases hf : (l.length : Int) - (getL l p).2.1 < (getL l p).1
        · have hc : rdCounted l most p 0 = ((getL l p).1, (getL l p).2.1, 1) := by simp only [rdCounted, hlim', if_true]; rw [if_pos hf]
          have hr : rdRaw l most p 0 = ([], (getL l p).2.1, 1) := by simp [rdRaw, hc]
          simp only [rdFld, refFld, rdNumber, rdText, rdCount, rdOp, hlim', hc, hr, h3, if_false, he, hm, hf, if_true]
          have : kind = 1 ∨ kind = 2 ∨ kind = 4 ∨ kind = 5 := by omega
          rcases this with rfl | rfl | rfl | rfl <;> simp
        · have hc : rdCounted l most p 0 = ((getL l p).1, (getL l p).2.1, 0) := by simp only [rdCounted, hlim', if_true]; rw [if_neg hf]
          have hr : rdRaw l most p 0 = ((l.drop (getL l p).2.1.toNat).take (getL l p).1.toNat, (getL l p).2.1 + (getL l p).1, 0) := by simp [rdRaw, hc]
          simp only [rdFld, refFld, rdNumber, rdText, rdCount, rdOp, hlim', hc, hr, h3, if_false, he, hm, hf]
          have : kind = 1 ∨ kind = 2 ∨ kind = 4 ∨ kind = 5 := by omega
          rcases this with rfl | rfl | rfl | rfl <;> simp

theorem rd_stays {l : List UInt8} {kind most p no : Int} (hk : 1 ≤ kind ∧ kind ≤ 5) (hno : no ≠ 0) : rdFld l kind most p no = (⟨if kind = 5 then 2 else kind, 0, [], false⟩, p, no) := by
  have : kind = 1 ∨ kind = 2 ∨ kind = 3 ∨ kind = 4 ∨ kind = 5 := by omega
  rcases this with rfl | rfl | rfl | rfl | rfl <;> simp [rdFld, rdNumber, rdText, rdBool, rdCount, rdOp, hno]

theorem refFld_5 {l : List UInt8} {kind most p : Int} : refFld l (if kind = 5 then 2 else kind) most p = refFld l kind most p := by
  by_cases h : kind = 5
  · subst h
    simp [refFld]
  · rw [if_neg h]

/-- What any reads of any bytes tell. -/
theorem law04_PackReads_spec {b kinds : Sl} {lb lk : List UInt8} {most : Int} {K : Bool → World → Prop} {w : World} (hb : IsSl eB w b lb) (hk : IsSl eB w kinds lk) (h9 : most ≤ 9223372036854775807)
    (hK : ∀ w', Ext w w' → K true w') : law04_PackReads b kinds most K w := by
  unfold law04_PackReads
  have awake : ∀ w', Ext w w' → callV Pr Value.bool 20 #[] w' K := fun w' hx => law04_awake_calls (law04_awake_spec fun w6 hx6 => hK w6 (hx.trans' hx6))
  have hl := hb.len
  have hkl := hk.len
  refine ifD (fun _ => awake w (Ext.rfl' _)) fun h500 => ifD (fun _ => awake w (Ext.rfl' _)) fun h60 => ?_
  refine pack_NewReader_calls (pack_NewReader_spec hb (by omega) fun r w1 hbr hr1 hx1 => ?_)
  have hlb : lb.length ≤ 140737488355328 := by omega
  refine ⟨fun p bad i w' => Ext w w' ∧ ∃ (k : Nat) (q : Int), i = k ∧ k ≤ lk.length ∧ Rd w' r lb q bad ∧ (bad = 0 → q = p), fun _ _ i _ => (lk.length - i).toNat, ⟨hx1, 0, 0, rfl, by omega, hr1, fun _ => rfl⟩, ?_⟩
  rintro p bad i w2 ⟨hx2, k, q, rfl, hkk, hr2, hq⟩
  refine ifD (fun hlt => ?_) (fun hge => ?_)
  · have hk1 : k < lk.length := by omega
    refine el_rd (E := eB) (by kernel_rfl) (by kernel_rfl) (hk.ext hx2) rfl hk1 rfl fun _ => ?_
    have hc := lk[k].toNat_lt
    have ek : i64 ((Int.tmod (IntKind.i64.wrap (lk[k].toNat : Int)) 5) + 1) = ((lk[k].toNat % 5 : Nat) : Int) + 1 := by
      rw [show IntKind.i64.wrap (lk[k].toNat : Int) = i64 (lk[k].toNat : Int) from rfl, i64_id (n := (lk[k].toNat : Int)) (by omega) (by omega), Int.tmod_eq_emod_of_nonneg (by omega), i64_id (by omega) (by omega)]
      omega
    rw [ek]
    have hkind : 1 ≤ ((lk[k].toNat % 5 : Nat) : Int) + 1 ∧ ((lk[k].toNat % 5 : Nat) : Int) + 1 ≤ 5 := by omega
    generalize ((lk[k].toNat % 5 : Nat) : Int) + 1 = kind at hkind ⊢
    refine law04_read_calls (law04_read_spec hr2 hlb fun w3 hr3 hg3 => ?_)
    have hx3 := hx2.grown hg3 hbr
    refine new_of fun b4 w4 hn4 => wr_of fun w5 hw5 => ?_
    have hb4 : b4 = w3.heap.size := hn4.1
    have hs3 := hx3.size
    have hrlt := hr3.lt
    have hx5 : Ext w3 w5 := Below.wr (Ext.new hn4) (by omega) hw5
    refine ⟨fun k20 w' => w5 = w' ∧ k20 = if kind = 5 then 2 else kind, ifEq (fun h => ⟨rfl, by rw [if_pos h]⟩) (fun h => ⟨rfl, by rw [if_neg h]⟩), ?_⟩
    rintro k20 _ ⟨rfl, hk20⟩
    refine new_of fun b6 w6 hn6 => wr_of fun w7 hw7 => ?_
    have hb6 : b6 = w5.heap.size := hn6.1
    have hs5 := hx5.size
    have hx7 : Ext w3 w7 := hx5.trans' (Below.wr (Ext.new hn6) (by omega) hw7)
    -- the document's answer, from the place where the reader is
    refine ⟨fun p' bad' want w' => Ext w3 w' ∧ (rdFld lb kind most q bad).1 = ⟨k20, want.N, want.S, want.Is⟩ ∧ (rdFld lb kind most q bad).2.2 = bad' ∧ (bad' = 0 → (rdFld lb kind most q bad).2.1 = p'), ?_, ?_⟩
    · refine ifEq (fun h0 => ?_) (fun hne => ?_)
      · subst h0
        have hqp := hq rfl
        subst hqp
        obtain ⟨_, _, _, _, hq0, hq1⟩ := hr2
        refine ref04_Read_calls (ref04_Read_spec (hb.ext (hx3.trans' hx7)) hq0 hq1 fun w8 hx8 => ?_)
        refine kp_ext hx8 (kp_ext hx8 (new_of fun b9 w9 hn9 => wr_of fun w10 hw10 => wr_of fun w11 hw11 => ?_))
        have hb9 : b9 = w8.heap.size := hn9.1
        have hs8 := hx8.size
        have hs7 := hx7.size
        have h1 := rd_ref (l := lb) (kind := kind) (most := most) (p := q) hkind hq0 hq1 h9
        rw [← refFld_5 (kind := kind), ← hk20] at h1
        exact ⟨Below.wr (Below.wr (Below.new (hx7.trans' hx8) (by omega) hn9) (by omega) hw10) (by omega) hw11, h1⟩
      · rw [rd_stays hkind hne, hk20]
        exact ⟨hx7, rfl, rfl, fun h => absurd h hne⟩
    · rintro p' bad' want w8 ⟨hx8, he1, he2, he3⟩
      refine wr_of fun w9 hw9 => ?_
      have hx9 : Ext w3 w9 := Below.wr hx8 (by omega) hw9
      refine neSt (xs := (rdFld lb kind most q bad).1.cs) (ys := Changeoverref04Field.cs ⟨k20, want.N, want.S, want.Is⟩) (by kernel_rfl) (Changeoverref04Field.eqv (rdFld lb kind most q bad).1 ⟨k20, want.N, want.S, want.Is⟩) ?_
      rw [Changeoverref04Field.eqs_iff.2 he1]
      refine ifB_f rfl ?_
      have hr9 := hr3.ext hx9
      refine pack_Reader_Err_calls (pack_Reader_Err_spec hr9 (kp_same (kp_same ?_)))
      refine ifNe (fun h => absurd he2 h) (fun _ => ?_)
      have e1 : i64 ((k : Int) + 1) = ((k + 1 : Nat) : Int) := by rw [i64_id] <;> omega
      rw [e1]
      rw [he2] at hr9
      exact ⟨⟨hx3.trans' hx9, k + 1, _, rfl, by omega, hr9, he3⟩, by dsimp only; omega⟩
  · have done : ∀ (e : Int), (e = if bad ≠ 0 then bad else if q < (lb.length : Int) then 3 else 0) → callV Pr (Value.int .i64) 28 #[(.pointer (some r))] w2 fun t w' => ifB (t == e) (callV Pr Value.bool 20 #[] w' fun t42 w43 => K t42 w43) (K false w') := by
      intro e he
      exact pack_Reader_Done_calls (pack_Reader_Done_spec hr2 fun w3 hx3 => ifB_t (by rw [he]; simp) (awake w3 (hx2.trans' hx3)))
    refine ifEq (fun h0 => ?_) (fun hne => done bad (by rw [if_pos hne]))
    have hqp := hq h0
    subst hqp
    exact ifD (fun hlt => done 3 (by rw [if_neg (by omega), if_pos (by omega)])) (fun hge => done bad (by rw [if_neg (by omega), if_neg (by omega)]; omega))
end Go.Chg
