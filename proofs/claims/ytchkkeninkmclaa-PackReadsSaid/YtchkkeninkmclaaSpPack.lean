/-
  What the functions of package 'pack' do.
-/
import Derived.Test.YtchkkeninkmclaaRdm
import Derived.Test.YtchkkeninkmclaaSpVar
set_option maxRecDepth 20000
namespace Go.Chg
open Go.Vc

/-! ### The writer -/
theorem pack_Writer_Number_nil {n : Int} {K : Unit → World → Prop} {w : World} (hK : K () w) : pack_Writer_Number none n K w := by
  unfold pack_Writer_Number
  exact nePtrNil (by kernel_rfl) fun b hb => ifB_f hb hK
theorem pack_Writer_Number_spec {a : Addr} {l : List UInt8} {n : Int} {K : Unit → World → Prop} {w : World} (h : Wt w a l) (hn : n ≤ 9223372036854775807) (hl : l.length + 9 ≤ 140737488355328)
    (hK : ∀ w', Wt w' a (l ++ enc n.toNat) → w.grownBy w' (some a.block) → K () w') : pack_Writer_Number (some a) n K w := by
  obtain ⟨s, h1, h2, h3⟩ := h
  unfold pack_Writer_Number
  refine nePtrNil (by kernel_rfl) fun b hb => ifB_t hb (nil_rd rfl (ld_obj (y := s) (by kernel_rfl) h2 rfl ?_))
  refine varint_Put_calls (varint_Put_spec h1 hn hl fun s1 w1 ho1 hx1 => ?_)
  refine nil_rd rfl (st_obj (by kernel_rfl) (h2.ext hx1) rfl (by simp) fun w2 hw2 hob => ?_)
  have hne := ho1.blk_ne h2.lt
  exact hK w2 ⟨s1, ho1.is.wrB hw2 hne, hob, hne⟩ (grown_trans (grown_ext hx1 _) (grown_wr hw2))

theorem pack_Writer_Raw_nil {b : Sl} {K : Unit → World → Prop} {w : World} (hK : K () w) : pack_Writer_Raw none b K w := by
  unfold pack_Writer_Raw
  exact nePtrNil (by kernel_rfl) fun b hb => ifB_f hb hK
theorem pack_Writer_Raw_spec {a : Addr} {l x : List UInt8} {b : Sl} {K : Unit → World → Prop} {w : World} (h : Wt w a l) (hb : IsSl eB w b x) (hl : l.length + 9 + x.length ≤ 140737488355328)
    (hK : ∀ w', Wt w' a (l ++ enc x.length ++ x) → w.grownBy w' (some a.block) → K () w') : pack_Writer_Raw (some a) b K w := by
  obtain ⟨s, h1, h2, h3⟩ := h
  have hbl := hb.len
  unfold pack_Writer_Raw
  refine nePtrNil (by kernel_rfl) fun c hc => ifB_t hc (nil_rd rfl (ld_obj (y := s) (by kernel_rfl) h2 rfl ?_))
  refine varint_Put_calls (varint_Put_spec h1 (by omega) (by omega) fun s1 w1 ho1 hx1 => ?_)
  have h9 := enc_len9 (n := (b.len : Int)) (by omega)
  refine app_ty 1 (by kernel_rfl) (by kernel_rfl) ho1 (hb.ext hx1) (by simp only [List.length_append]; omega) hx1.size (by decide) fun s2 w2 ho2 hg2 => ?_
  have hx2 : Ext w w2 := below_grown hx1 hx1.size hg2 ho1.ge
  refine nil_rd rfl (st_obj (by kernel_rfl) (h2.ext hx2) rfl (by simp) fun w3 hw3 hob => ?_)
  have hne := ho2.blk_ne h2.lt
  rw [Int.toNat_natCast, hbl] at ho2
  exact hK w3 ⟨s2, ho2.is.wrB hw3 hne, hob, hne⟩ (grown_trans (grown_ext hx2 _) (grown_wr hw3))

theorem pack_Writer_Text_nil {x : List UInt8} {K : Unit → World → Prop} {w : World} (hx : x.length ≤ 140737488355328) (hK : ∀ w', Ext w w' → K () w') : pack_Writer_Text none x K w := by
  unfold pack_Writer_Text
  refine str2b_ty (by kernel_rfl) (by kernel_rfl) (by omega) fun s w1 ho hx => ?_
  exact pack_Writer_Raw_calls (pack_Writer_Raw_nil (hK _ hx))
theorem pack_Writer_Text_spec {a : Addr} {l x : List UInt8} {K : Unit → World → Prop} {w : World} (h : Wt w a l) (hl : l.length + 9 + x.length ≤ 140737488355328)
    (hK : ∀ w', Wt w' a (l ++ enc x.length ++ x) → w.grownBy w' (some a.block) → K () w') : pack_Writer_Text (some a) x K w := by
  unfold pack_Writer_Text
  refine str2b_ty (by kernel_rfl) (by kernel_rfl) (by omega) fun s w1 ho hx => ?_
  exact pack_Writer_Raw_calls (pack_Writer_Raw_spec (h.ext hx) ho.is hl fun w2 hw hg => hK w2 hw (grown_trans (grown_ext hx _) hg))

def flagN (b : Bool) : Nat := if b then 1 else 0
theorem pack_Writer_Flag_nil {b : Bool} {K : Unit → World → Prop} {w : World} (hK : K () w) : pack_Writer_Flag none b K w := by
  unfold pack_Writer_Flag
  exact ifB_of (fun _ => pack_Writer_Number_calls (pack_Writer_Number_nil hK)) (fun _ => pack_Writer_Number_calls (pack_Writer_Number_nil hK))
theorem pack_Writer_Flag_spec {a : Addr} {l : List UInt8} {b : Bool} {K : Unit → World → Prop} {w : World} (h : Wt w a l) (hl : l.length + 9 ≤ 140737488355328)
    (hK : ∀ w', Wt w' a (l ++ enc (flagN b)) → w.grownBy w' (some a.block) → K () w') : pack_Writer_Flag (some a) b K w := by
  unfold pack_Writer_Flag
  refine ifB_of (fun hb => ?_) (fun hb => ?_) <;> subst hb
  · exact pack_Writer_Number_calls (pack_Writer_Number_spec h (by omega) hl hK)
  · exact pack_Writer_Number_calls (pack_Writer_Number_spec h (by omega) hl hK)

theorem pack_Writer_Bytes_nil {K : Sl → World → Prop} {w : World} (hK : K Sl.nil w) : pack_Writer_Bytes none K w := by
  unfold pack_Writer_Bytes
  exact eqPtrNil (by kernel_rfl) fun b hb => ifB_t hb hK
theorem pack_Writer_Bytes_spec {a : Addr} {l : List UInt8} {K : Sl → World → Prop} {w : World} (h : Wt w a l) (hl : l.length ≤ 140737488355328)
    (hK : ∀ s w', OwnSl eB w' w.heap.size s l → Ext w w' → K s w') : pack_Writer_Bytes (some a) K w := by
  obtain ⟨s, h1, h2, h3⟩ := h
  unfold pack_Writer_Bytes
  refine eqPtrNil (by kernel_rfl) fun b hb => ifB_f hb (nil_rd rfl (ld_obj (y := s) (by kernel_rfl) h2 rfl ?_))
  exact slices_Clone_byte_byte_calls (slices_Clone_byte_byte_spec h1 hl hK)

/-! ### The reader -/
theorem pack_NewReader_spec {b : Sl} {l : List UInt8} {K : Option Addr → World → Prop} {w : World} (hb : IsSl eB w b l) (hl : l.length ≤ 140737488355328)
    (hK : ∀ a w', w.heap.size ≤ a.block → Rd w' a l 0 0 → Ext w w' → K (some a) w') : pack_NewReader b K w := by
  unfold pack_NewReader
  refine slices_Clone_byte_byte_calls (slices_Clone_byte_byte_spec hb hl fun s1 w1 ho1 hx1 => ?_)
  refine box_ty fun a w2 ha hx2 hob => ?_
  refine hK a w2 (by rw [ha]; exact hx1.size) ⟨s1, ho1.is.ext hx2, hob, fun b e => ?_, by omega, by omega⟩ (hx1.trans' hx2)
  rcases ho1 with h | ⟨g, cur, T, fr, h⟩
  · simp [Sl.blk, h.a] at e
  · have := (Array.getElem?_eq_some_iff.1 h.blk).1
    simp [Sl.blk, h.a] at e
    omega

theorem pack_Reader_Err_nil {K : Int → World → Prop} {w : World} (hK : K 1 w) : pack_Reader_Err none K w := by
  unfold pack_Reader_Err
  exact eqPtrNil (by kernel_rfl) fun b hb => ifB_t hb hK
theorem pack_Reader_Err_spec {a : Addr} {l : List UInt8} {p no : Int} {K : Int → World → Prop} {w : World} (h : Rd w a l p no) (hK : K no w) : pack_Reader_Err (some a) K w := by
  obtain ⟨s, h1, h2, h3, h4⟩ := h
  unfold pack_Reader_Err
  exact eqPtrNil (by kernel_rfl) fun b hb => ifB_f hb (nil_rd rfl (ld_obj (by kernel_rfl) h2 rfl hK))

theorem pack_Reader_left_spec {a : Addr} {l : List UInt8} {p no : Int} {K : Int → World → Prop} {w : World} (h : Rd w a l p no) (hK : ∀ w', Ext w w' → K ((l.length : Int) - p) w') : pack_Reader_left (some a) K w := by
  obtain ⟨s, h1, h2, h3, h4, h5⟩ := h
  have hl := h1.len
  have hle := h1.le
  unfold pack_Reader_left
  refine drew_of fun w1 hx1 => nil_rd rfl (ld_obj (y := s) (by kernel_rfl) (h2.ext hx1) rfl (nil_rd rfl (ld_obj (y := p) (by kernel_rfl) (h2.ext hx1) rfl ?_)))
  rw [i64_id (by omega) (by omega), hl]
  exact hK w1 hx1

theorem pack_Reader_Done_nil {K : Int → World → Prop} {w : World} (hK : K 1 w) : pack_Reader_Done none K w := by
  unfold pack_Reader_Done
  exact pack_Reader_Err_calls (pack_Reader_Err_nil hK)
theorem pack_Reader_Done_spec {a : Addr} {l : List UInt8} {p no : Int} {K : Int → World → Prop} {w : World} (h : Rd w a l p no) (hK : ∀ w', Ext w w' → K (if no ≠ 0 then no else if p < l.length then 3 else 0) w') : pack_Reader_Done (some a) K w := by
  unfold pack_Reader_Done
  refine pack_Reader_Err_calls (pack_Reader_Err_spec h ?_)
  refine ifNe (fun hne => ?_) (fun h0 => ?_)
  · have := hK w (Ext.rfl' _)
    rwa [if_pos hne] at this
  · refine pack_Reader_left_calls (pack_Reader_left_spec h fun w1 hx1 => ?_)
    have := hK w1 hx1
    rw [if_neg (by omega)] at this
    exact ifD (fun h => by rwa [if_pos (by omega)] at this) (fun h => by rwa [if_neg (by omega)] at this)

theorem pack_Reader_fail_spec {a : Addr} {l : List UInt8} {p no e : Int} {K : Unit → World → Prop} {w : World} (h : Rd w a l p no) (hK : ∀ w', Rd w' a l p e → Wr a.block w w' → K () w') : pack_Reader_fail (some a) e K w := by
  obtain ⟨s, h1, h2, h3, h4⟩ := h
  unfold pack_Reader_fail
  exact nil_rd rfl (st_obj (by kernel_rfl) h2 rfl (by simp) fun w2 hw2 hob => hK w2 ⟨s, h1.wrB hw2 (ltne h3), hob, h3, h4⟩ hw2)

theorem pack_Reader_limited_spec {a : Addr} {l : List UInt8} {p no most : Int} {K : Int → World → Prop} {w : World} (h : Rd w a l p no)
    (hK : ∀ w', Rd w' a l (rdLim l most p no).2.1 (rdLim l most p no).2.2 → w.grownBy w' (some a.block) → K (rdLim l most p no).1 w') : pack_Reader_limited (some a) most K w := by
  obtain ⟨s, h1, h2, h3, h4⟩ := h
  have hpos := getL_pos l p
  unfold pack_Reader_limited
  refine heldM_of (fun w' => Vc.Obj w' a [s.val, .int .i64 p, .int .i64 no]) fun w1 hx1 => ⟨h2.ext hx1, ?_⟩
  refine opH_of a (fun w' hw => nil_rd rfl rfl) ?_
  refine opH_of s (fun w' hw => ld_obj (by kernel_rfl) hw rfl rfl) ?_
  refine opH_of a (fun w' hw => nil_rd rfl rfl) ?_
  refine opH_of p (fun w' hw => ld_obj (by kernel_rfl) hw rfl rfl) ?_
  refine varint_Get_calls (varint_Get_spec (h1.ext hx1) ⟨h2.ext hx1, ?_⟩)
  have hr : Rd w1 a l p no := ⟨s, h1.ext hx1, h2.ext hx1, h3, h4⟩
  -- the place is written last
  have last : ∀ (w' : World) (e : Int), Rd w' a l p e → e = (rdLim l most p no).2.2 → w1.grownBy w' (some a.block) →
      opRd Pr (nilSem (.pointer (some a))) pav (fun t11 => opUn Pr (Instr.storeAt 3 (.pointer (some (t11.add 1))) (.int .i64 (getL l p).2.1)) (fun w12 => K (getL l p).1 w12) w') w' := by
    intro w' e hr he hg
    obtain ⟨s', g1, g2, g3, g4⟩ := hr
    subst he
    exact nil_rd rfl (st_obj (by kernel_rfl) g2 rfl (by simp) fun w3 hw3 hob => hK w3 ⟨s', g1.wrB hw3 (ltne g3), hob, g3, hpos⟩ (grown_trans (grown_trans (grown_ext hx1 _) hg) (grown_wr hw3)))
  refine ifNe (fun hne => ?_) (fun h0 => ?_)
  · exact pack_Reader_fail_calls (pack_Reader_fail_spec hr fun w2 hr2 hw2 => last w2 _ hr2 (by simp [rdLim, hne]) (grown_wr hw2))
  · refine ifD (fun hgt => ?_) (fun hle => ?_)
    · exact pack_Reader_fail_calls (pack_Reader_fail_spec hr fun w2 hr2 hw2 => last w2 _ hr2 (by simp only [rdLim]; rw [if_neg (by omega), if_pos (by omega)]) (grown_wr hw2))
    · exact last w1 _ hr (by simp only [rdLim]; rw [if_neg (by omega), if_neg (by omega)]) (grown_refl _ _)

theorem pack_Reader_counted_spec {a : Addr} {l : List UInt8} {p no most : Int} {K : Int → World → Prop} {w : World} (h : Rd w a l p no)
    (hK : ∀ w', Rd w' a l (rdCounted l most p no).2.1 (rdCounted l most p no).2.2 → w.grownBy w' (some a.block) → K (rdCounted l most p no).1 w') : pack_Reader_counted (some a) most K w := by
  unfold pack_Reader_counted
  refine pack_Reader_limited_calls (pack_Reader_limited_spec h fun w1 hr1 hg1 => ?_)
  have hr1' := hr1
  obtain ⟨s, h1, h2, h3, h4, h5⟩ := hr1'
  refine nil_rd rfl (ld_obj (by kernel_rfl) h2 rfl ?_)
  refine ifEq (fun h0 => ?_) (fun hne => ?_)
  · refine pack_Reader_left_calls (pack_Reader_left_spec hr1 fun w2 hx2 => ?_)
    refine ifD (fun hgt => ?_) (fun hle => ?_)
    · refine pack_Reader_fail_calls (pack_Reader_fail_spec (hr1.ext hx2) fun w3 hr3 hw3 => hK w3 ?_ (grown_trans hg1 (grown_trans (grown_ext hx2 _) (grown_wr hw3))))
      simp only [rdCounted, h0, if_true]
      rw [if_pos (by omega)]
      exact hr3
    · refine hK w2 ?_ (grown_trans hg1 (grown_ext hx2 _))
      simp only [rdCounted, h0, if_true]
      rw [if_neg (by omega)]
      rw [h0] at hr1
      exact hr1.ext hx2
  · refine hK w1 ?_ hg1
    simp only [rdCounted]
    rw [if_neg hne]
    exact hr1

theorem pack_Reader_raw_spec {a : Addr} {l : List UInt8} {p no most : Int} {K : Sl → World → Prop} {w : World} (h : Rd w a l p no) (hl : l.length ≤ 140737488355328)
    (hK : ∀ s w', OwnSl eB w' w.heap.size s (rdRaw l most p no).1 → Rd w' a l (rdRaw l most p no).2.1 (rdRaw l most p no).2.2 → w.grownBy w' (some a.block) → K s w') : pack_Reader_raw (some a) most K w := by
  unfold pack_Reader_raw
  refine pack_Reader_counted_calls (pack_Reader_counted_spec (most := most) h fun w1 hr1 hg1 => ?_)
  have hr1' := hr1
  obtain ⟨s, h1, h2, h3, h4, h5⟩ := hr1'
  have hn0 : 0 ≤ (rdCounted l most p no).1 := rdLim_num l most p no
  refine nil_rd rfl (ld_obj (by kernel_rfl) h2 rfl ?_)
  refine ifNe (fun hne => ?_) (fun h0 => ?_)
  · refine hK _ _ ?_ ?_ hg1
    · simp only [rdRaw]
      rw [if_pos hne]
      exact .nil _ _ _
    · simp only [rdRaw]
      rw [if_pos hne]
      exact hr1
  · refine nil_rd rfl (ld_obj (by kernel_rfl) h2 rfl ?_)
    have hfit : (rdCounted l most p no).2.1 + (rdCounted l most p no).1 ≤ l.length := by
      have h0' := h0
      simp only [rdCounted] at h0' ⊢
      split at h0'
      · split at h0'
        · omega
        · omega
      · omega
    generalize hq : (rdCounted l most p no).2.1 = q at h2 h4 h5 hfit hK ⊢
    generalize hm : (rdCounted l most p no).1 = m at hn0 hfit hK ⊢
    rw [i64_id (n := q + m) (by omega) (by omega)]
    refine nil_rd rfl (st_obj (by kernel_rfl) h2 rfl (by simp) fun w2 hw2 hob => ?_)
    refine heldM_of (fun w' => Vc.Obj w' a [s.val, .int .i64 (q + m), .int .i64 (rdCounted l most p no).2.2] ∧ IsSl eB w' s l) fun w3 hx3 => ⟨⟨hob.ext hx3, (h1.wrB hw2 (ltne h3)).ext hx3⟩, ?_⟩
    refine opH_of a (fun w' hw => nil_rd rfl rfl) ?_
    refine opH_of s (fun w' hw => ld_obj (by kernel_rfl) hw.1 rfl rfl) ?_
    refine opH_of a (fun w' hw => nil_rd rfl rfl) ?_
    refine opH_of (q + m) (fun w' hw => ld_obj (by kernel_rfl) hw.1 rfl rfl) ?_
    refine opH_of a (fun w' hw => nil_rd rfl rfl) ?_
    refine opH_of (q + m) (fun w' hw => ld_obj (by kernel_rfl) hw.1 rfl rfl) ?_
    have e1 : i64 (q + m - m) = (q.toNat : Int) := by rw [i64_id (by omega) (by omega)]; omega
    rw [e1]
    have hsub := ((h1.wrB hw2 (ltne h3)).ext hx3).sub (i := q.toNat) (j := (q + m).toNat) (by omega) (by omega)
    refine opH_of (s.sub q.toNat (q + m).toNat eB.sz) (fun w' hw => ?_) ?_
    · refine sub_lh' (by kernel_rfl) hw.2 rfl (n := (q + m).toNat) (by omega) (by omega) (by omega) rfl
    · refine slices_Clone_byte_byte_calls (slices_Clone_byte_byte_spec hsub (by simp; omega) fun s4 w4 ho4 hx4 => ?_)
      have hg3 : w.grownBy w3 (some a.block) := grown_trans hg1 (grown_trans (grown_wr hw2) (grown_ext hx3 _))
      refine ⟨⟨(hob.ext hx3).ext hx4, ((h1.wrB hw2 (ltne h3)).ext hx3).ext hx4⟩, hK _ _ ?_ ?_ (grown_trans hg3 (grown_ext hx4 _))⟩
      · simp only [rdRaw]
        rw [if_neg (by omega)]
        rw [hq, hm]
        rw [show (q + m).toNat - q.toNat = m.toNat from by omega] at ho4
        exact ho4.mono hg3.size
      · simp only [rdRaw]
        rw [if_neg (by omega)]
        simp only
        rw [hq, hm]
        refine ⟨s, ((h1.wrB hw2 (ltne h3)).ext hx3).ext hx4, ?_, h3, by omega, by omega⟩
        rw [h0] at hob
        exact (hob.ext hx3).ext hx4

theorem pack_Reader_flag_spec {a : Addr} {l : List UInt8} {p no : Int} {K : Bool → World → Prop} {w : World} (h : Rd w a l p no)
    (hK : ∀ w', Rd w' a l (rdFlag l p no).2.1 (rdFlag l p no).2.2 → w.grownBy w' (some a.block) → K (rdFlag l p no).1 w') : pack_Reader_flag (some a) K w := by
  unfold pack_Reader_flag
  refine pack_Reader_left_calls (pack_Reader_left_spec h fun w1 hx1 => ?_)
  have h' := h
  obtain ⟨s, h1, h2, h3, h4, h5⟩ := h'
  have hle := h1.le
  refine ifEq (fun h0 => ?_) (fun hne => ?_)
  · have e1 : rdFlag l p no = (false, p, 1) := by
      unfold rdFlag
      rw [List.drop_of_length_le (by omega)]
    rw [e1] at hK
    exact pack_Reader_fail_calls (pack_Reader_fail_spec (h.ext hx1) fun w2 hr2 hw2 => hK w2 hr2 (grown_trans (grown_ext hx1 _) (grown_wr hw2)))
  · have hlt : p.toNat < l.length := by omega
    have e1 : rdFlag l p no = (decide (l[p.toNat] = 1), p + 1, if 1 < l[p.toNat].toNat then 3 else no) := by
      unfold rdFlag
      rw [List.drop_eq_getElem_cons hlt]
    rw [e1] at hK
    refine drew_of fun w2 hx2 => ?_
    have hx := hx1.trans' hx2
    have o2 := h2.ext hx
    refine nil_rd rfl (ld_obj (y := s) (by kernel_rfl) o2 rfl (nil_rd rfl (ld_obj (y := p) (by kernel_rfl) o2 rfl ?_)))
    refine el_rd (E := eB) (by kernel_rfl) (by kernel_rfl) (h1.ext hx) (k := p.toNat) (by omega) hlt rfl fun _ => ?_
    refine nil_rd rfl (ld_obj (y := p) (by kernel_rfl) o2 rfl (nil_rd rfl ?_))
    rw [i64_id (n := p + 1) (by omega) (by omega)]
    refine st_obj (by kernel_rfl) o2 rfl (by simp) fun w3 hw3 hob => ?_
    have hr3 : Rd w3 a l (p + 1) no := ⟨s, (h1.ext hx).wrB hw3 (ltne h3), hob, h3, by omega, by omega⟩
    have hg3 : w.grownBy w3 (some a.block) := grown_trans (grown_ext hx _) (grown_wr hw3)
    have e2 : (((l[p.toNat].toNat : Int) == 1) : Bool) = decide (l[p.toNat] = 1) := by
      have : ((l[p.toNat].toNat : Int) = 1) ↔ l[p.toNat] = 1 := by
        constructor
        · intro h; exact UInt8.toNat_inj.1 (show l[p.toNat].toNat = 1 by omega)
        · intro h; rw [h]; rfl
      by_cases h7 : l[p.toNat] = 1
      · simp [h7]
      · have := mt this.1 h7
        simp [h7, this]
    rw [e2]
    refine ifD (fun hgt => ?_) (fun hle => ?_)
    · refine pack_Reader_fail_calls (pack_Reader_fail_spec hr3 fun w4 hr4 hw4 => ?_)
      have := hK w4
      rw [if_pos (by omega)] at this
      exact this hr4 (grown_trans hg3 (grown_wr hw4))
    · have := hK w3
      rw [if_neg (by omega)] at this
      exact this hr3 hg3
end Go.Chg
