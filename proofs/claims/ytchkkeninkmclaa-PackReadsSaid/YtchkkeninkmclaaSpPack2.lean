/-
  The reader's five reads.
-/
import Derived.Test.YtchkkeninkmclaaSpPack
set_option maxRecDepth 20000
namespace Go.Chg
open Go.Vc

theorem pack_Reader_Number_nil {most : Int} {K : Int → World → Prop} {w : World} (hK : ∀ w', Ext w w' → K 0 w') : pack_Reader_Number none most K w := by
  unfold pack_Reader_Number
  refine box_ty fun r1 w1 h1 hx1 o1 => box_ty fun m1 w2 h2 hx2 o2 => ?_
  refine ld_obj0 (by kernel_rfl) (o1.ext hx2) rfl ?_
  refine pack_read_int_Number_calls ?_
  unfold pack_read_int_Number
  exact eqPtrNil (by kernel_rfl) fun b hb => ifB_t hb (hK _ (hx1.trans' hx2))
theorem pack_Reader_Count_nil {most : Int} {K : Int → World → Prop} {w : World} (hK : ∀ w', Ext w w' → K 0 w') : pack_Reader_Count none most K w := by
  unfold pack_Reader_Count
  refine box_ty fun r1 w1 h1 hx1 o1 => box_ty fun m1 w2 h2 hx2 o2 => ?_
  refine ld_obj0 (by kernel_rfl) (o1.ext hx2) rfl ?_
  refine pack_read_int_Count_calls ?_
  unfold pack_read_int_Count
  exact eqPtrNil (by kernel_rfl) fun b hb => ifB_t hb (hK _ (hx1.trans' hx2))
theorem pack_Reader_Raw_nil {most : Int} {K : Sl → World → Prop} {w : World} (hK : ∀ w', Ext w w' → K Sl.nil w') : pack_Reader_Raw none most K w := by
  unfold pack_Reader_Raw
  refine box_ty fun r1 w1 h1 hx1 o1 => box_ty fun m1 w2 h2 hx2 o2 => ?_
  refine ld_obj0 (by kernel_rfl) (o1.ext hx2) rfl ?_
  refine pack_read_byte_Raw_calls ?_
  unfold pack_read_byte_Raw
  exact eqPtrNil (by kernel_rfl) fun b hb => ifB_t hb (hK _ (hx1.trans' hx2))
theorem pack_Reader_Text_nil {most : Int} {K : List UInt8 → World → Prop} {w : World} (hK : ∀ w', Ext w w' → K [] w') : pack_Reader_Text none most K w := by
  unfold pack_Reader_Text
  exact pack_Reader_Raw_calls (pack_Reader_Raw_nil fun w1 hx => b2str_rd (by kernel_rfl) (by kernel_rfl) (IsSl.nilSl eB w1) (hK _ hx))
theorem pack_Reader_Flag_nil {K : Bool → World → Prop} {w : World} (hK : K false w) : pack_Reader_Flag none K w := by
  unfold pack_Reader_Flag
  exact eqPtrNil (by kernel_rfl) fun b hb => ifB_t hb hK

def rdNumber (l : List UInt8) (most : Int) : Int → Int → Int × Int × Int := rdOp 0 (rdLim l most)
def rdCount (l : List UInt8) (most : Int) : Int → Int → Int × Int × Int := rdOp 0 (rdCounted l most)
def rdText (l : List UInt8) (most : Int) : Int → Int → List UInt8 × Int × Int := rdOp [] (rdRaw l most)
def rdBool (l : List UInt8) : Int → Int → Bool × Int × Int := rdOp false (rdFlag l)

theorem rdOp_z {α : Type} {z : α} {f : Int → Int → α × Int × Int} {p no : Int} (h : no ≠ 0) : rdOp z f p no = (z, p, no) := by unfold rdOp; rw [if_pos h]
theorem rdOp_bad {α : Type} {z : α} {f : Int → Int → α × Int × Int} {p no : Int} (h : no = 0) (h2 : (f p no).2.2 ≠ 0) : rdOp z f p no = (z, (f p no).2) := by unfold rdOp; rw [if_neg (by omega), if_pos h2]
theorem rdOp_ok {α : Type} {z : α} {f : Int → Int → α × Int × Int} {p no : Int} (h : no = 0) (h2 : (f p no).2.2 = 0) : rdOp z f p no = f p no := by unfold rdOp; rw [if_neg (by omega), if_neg (by omega)]

/-- A read that goes by the way of the wrapper: the reader's cell and the limit's are new. -/
theorem Rd.new {w w' : World} {a : Addr} {l : List UInt8} {p no : Int} (h : Rd w a l p no) (hx : Ext w w') : Rd w' a l p no := h.ext hx

theorem pack_Reader_Number_spec {a : Addr} {l : List UInt8} {p no most : Int} {K : Int → World → Prop} {w : World} (h : Rd w a l p no)
    (hK : ∀ w', Rd w' a l (rdNumber l most p no).2.1 (rdNumber l most p no).2.2 → w.grownBy w' (some a.block) → K (rdNumber l most p no).1 w') : pack_Reader_Number (some a) most K w := by
  unfold pack_Reader_Number
  refine box_ty fun r1 w1 h1 hx1 o1 => box_ty fun m1 w2 h2 hx2 o2 => ?_
  have o1' := o1.ext hx2
  have hx := hx1.trans' hx2
  refine ld_obj0 (by kernel_rfl) o1' rfl ?_
  refine pack_read_int_Number_calls ?_
  unfold pack_read_int_Number
  refine eqPtrNil (by kernel_rfl) fun b hb => ifB_f hb ?_
  obtain ⟨s, g1, g2, g3⟩ := h.ext hx
  refine nil_rd rfl (ld_obj (by kernel_rfl) g2 rfl ?_)
  refine ifNe (fun hne => ?_) (fun h0 => ?_)
  · have := hK w2
    rw [show rdNumber l most p no = _ from rdOp_z hne] at this
    exact this (h.ext hx) (grown_ext hx _)
  · refine pack_Reader_Number_1_calls ?_
    unfold pack_Reader_Number_1
    refine ld_obj0 (by kernel_rfl) o1' rfl (ld_obj0 (by kernel_rfl) o2 rfl ?_)
    refine pack_Reader_limited_calls (pack_Reader_limited_spec (most := most) (h.ext hx) fun w3 hr3 hg3 => ?_)
    have hr3' := hr3
    obtain ⟨s3, k1, k2, k3⟩ := hr3'
    refine nil_rd rfl (ld_obj (by kernel_rfl) k2 rfl ?_)
    have hg := grown_trans (grown_ext hx _) hg3
    refine ifNe (fun hne => ?_) (fun h02 => ?_)
    · have := hK w3
      rw [show rdNumber l most p no = _ from rdOp_bad h0 hne] at this
      exact this hr3 hg
    · have := hK w3
      rw [show rdNumber l most p no = _ from rdOp_ok h0 h02] at this
      exact this hr3 hg
theorem pack_Reader_Count_spec {a : Addr} {l : List UInt8} {p no most : Int} {K : Int → World → Prop} {w : World} (h : Rd w a l p no)
    (hK : ∀ w', Rd w' a l (rdCount l most p no).2.1 (rdCount l most p no).2.2 → w.grownBy w' (some a.block) → K (rdCount l most p no).1 w') : pack_Reader_Count (some a) most K w := by
  unfold pack_Reader_Count
  refine box_ty fun r1 w1 h1 hx1 o1 => box_ty fun m1 w2 h2 hx2 o2 => ?_
  have o1' := o1.ext hx2
  have hx := hx1.trans' hx2
  refine ld_obj0 (by kernel_rfl) o1' rfl ?_
  refine pack_read_int_Count_calls ?_
  unfold pack_read_int_Count
  refine eqPtrNil (by kernel_rfl) fun b hb => ifB_f hb ?_
  obtain ⟨s, g1, g2, g3⟩ := h.ext hx
  refine nil_rd rfl (ld_obj (by kernel_rfl) g2 rfl ?_)
  refine ifNe (fun hne => ?_) (fun h0 => ?_)
  · have := hK w2
    rw [show rdCount l most p no = _ from rdOp_z hne] at this
    exact this (h.ext hx) (grown_ext hx _)
  · refine pack_Reader_Count_1_calls ?_
    unfold pack_Reader_Count_1
    refine ld_obj0 (by kernel_rfl) o1' rfl (ld_obj0 (by kernel_rfl) o2 rfl ?_)
    refine pack_Reader_counted_calls (pack_Reader_counted_spec (most := most) (h.ext hx) fun w3 hr3 hg3 => ?_)
    have hr3' := hr3
    obtain ⟨s3, k1, k2, k3⟩ := hr3'
    refine nil_rd rfl (ld_obj (by kernel_rfl) k2 rfl ?_)
    have hg := grown_trans (grown_ext hx _) hg3
    refine ifNe (fun hne => ?_) (fun h02 => ?_)
    · have := hK w3
      rw [show rdCount l most p no = _ from rdOp_bad h0 hne] at this
      exact this hr3 hg
    · have := hK w3
      rw [show rdCount l most p no = _ from rdOp_ok h0 h02] at this
      exact this hr3 hg
theorem pack_Reader_Raw_spec {a : Addr} {l : List UInt8} {p no most : Int} {K : Sl → World → Prop} {w : World} (h : Rd w a l p no) (hl : l.length ≤ 140737488355328)
    (hK : ∀ s w', OwnSl eB w' w.heap.size s (rdText l most p no).1 → Rd w' a l (rdText l most p no).2.1 (rdText l most p no).2.2 → w.grownBy w' (some a.block) → K s w') : pack_Reader_Raw (some a) most K w := by
  unfold pack_Reader_Raw
  refine box_ty fun r1 w1 h1 hx1 o1 => box_ty fun m1 w2 h2 hx2 o2 => ?_
  have o1' := o1.ext hx2
  have hx := hx1.trans' hx2
  refine ld_obj0 (by kernel_rfl) o1' rfl ?_
  refine pack_read_byte_Raw_calls ?_
  unfold pack_read_byte_Raw
  refine eqPtrNil (by kernel_rfl) fun b hb => ifB_f hb ?_
  obtain ⟨s, g1, g2, g3⟩ := h.ext hx
  refine nil_rd rfl (ld_obj (by kernel_rfl) g2 rfl ?_)
  refine ifNe (fun hne => ?_) (fun h0 => ?_)
  · have := hK Sl.nil w2
    rw [show rdText l most p no = _ from rdOp_z hne] at this
    exact this (.nil _ _ _) (h.ext hx) (grown_ext hx _)
  · refine pack_Reader_Raw_1_calls ?_
    unfold pack_Reader_Raw_1
    refine ld_obj0 (by kernel_rfl) o1' rfl (ld_obj0 (by kernel_rfl) o2 rfl ?_)
    refine pack_Reader_raw_calls (pack_Reader_raw_spec (most := most) (h.ext hx) hl fun s3 w3 ho3 hr3 hg3 => ?_)
    have hr3' := hr3
    obtain ⟨s4, k1, k2, k3⟩ := hr3'
    refine nil_rd rfl (ld_obj (by kernel_rfl) k2 rfl ?_)
    have hg := grown_trans (grown_ext hx _) hg3
    refine ifNe (fun hne => ?_) (fun h02 => ?_)
    · have := hK Sl.nil w3
      rw [show rdText l most p no = _ from rdOp_bad h0 hne] at this
      exact this (.nil _ _ _) hr3 hg
    · have := hK s3 w3
      rw [show rdText l most p no = _ from rdOp_ok h0 h02] at this
      exact this (ho3.mono hx.size) hr3 hg
theorem pack_Reader_Text_spec {a : Addr} {l : List UInt8} {p no most : Int} {K : List UInt8 → World → Prop} {w : World} (h : Rd w a l p no) (hl : l.length ≤ 140737488355328)
    (hK : ∀ w', Rd w' a l (rdText l most p no).2.1 (rdText l most p no).2.2 → w.grownBy w' (some a.block) → K (rdText l most p no).1 w') : pack_Reader_Text (some a) most K w := by
  unfold pack_Reader_Text
  exact pack_Reader_Raw_calls (pack_Reader_Raw_spec h hl fun s w1 ho hr hg => b2str_rd (by kernel_rfl) (by kernel_rfl) ho.is (hK _ hr hg))
theorem pack_Reader_Flag_spec {a : Addr} {l : List UInt8} {p no : Int} {K : Bool → World → Prop} {w : World} (h : Rd w a l p no)
    (hK : ∀ w', Rd w' a l (rdBool l p no).2.1 (rdBool l p no).2.2 → w.grownBy w' (some a.block) → K (rdBool l p no).1 w') : pack_Reader_Flag (some a) K w := by
  unfold pack_Reader_Flag
  refine eqPtrNil (by kernel_rfl) fun b hb => ifB_f hb ?_
  refine pack_read_bool_flag_calls ?_
  unfold pack_read_bool_flag
  refine eqPtrNil (by kernel_rfl) fun b hb => ifB_f hb ?_
  have h' := h
  obtain ⟨s, g1, g2, g3⟩ := h'
  refine nil_rd rfl (ld_obj (by kernel_rfl) g2 rfl ?_)
  refine ifNe (fun hne => ?_) (fun h0 => ?_)
  · have := hK w
    rw [show rdBool l p no = _ from rdOp_z hne] at this
    exact this h (grown_refl _ _)
  · refine pack_Reader_flag_calls (pack_Reader_flag_spec h fun w3 hr3 hg3 => ?_)
    have hr3' := hr3
    obtain ⟨s4, k1, k2, k3⟩ := hr3'
    refine nil_rd rfl (ld_obj (by kernel_rfl) k2 rfl ?_)
    refine ifNe (fun hne => ?_) (fun h02 => ?_)
    · have := hK w3
      rw [show rdBool l p no = _ from rdOp_bad h0 hne] at this
      exact this hr3 hg3
    · have := hK w3
      rw [show rdBool l p no = _ from rdOp_ok h0 h02] at this
      exact this hr3 hg3
end Go.Chg
