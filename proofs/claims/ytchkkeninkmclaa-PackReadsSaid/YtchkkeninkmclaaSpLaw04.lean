/-
  What the functions of 'changeoverlaw04' do: the laws' own waking, and the law of a pack of nobody.
-/
import Derived.Test.YtchkkeninkmclaaSpPack2
set_option maxRecDepth 20000
namespace Go.Chg
open Go.Vc

theorem awakeBytes : enc (300 : Int).toNat ++ enc ([104, 105] : List UInt8).length ++ [104, 105] ++ enc (flagN true) = ([172, 2, 2, 104, 105, 1] : List UInt8) := by
  rw [show (300 : Int).toNat = 300 from rfl, enc_big (by decide), enc_small (by decide), enc_small (by decide), enc_small (by decide)]
  decide

/-- The laws' own waking answers true, whatever world. -/
theorem law04_awake_spec {K : Bool → World → Prop} {w : World} (hK : ∀ w', Ext w w' → K true w') : law04_awake K w := by
  unfold law04_awake
  refine box_ty fun a w1 ha hx1 o1 => ?_
  have hba : w.heap.size ≤ a.block := by omega
  have h1 : Wt w1 a [] := ⟨Sl.nil, .nilSl _ _, o1, by simp [Sl.blk, Sl.nil]⟩
  refine pack_Writer_Number_calls (pack_Writer_Number_spec h1 (by decide) (by decide) fun w2 h2 g2 => ?_)
  have hx2 := hx1.grown g2 hba
  have l2 := enc_len9 (n := 300) (by decide)
  refine pack_Writer_Text_calls (pack_Writer_Text_spec h2 (by simp only [List.nil_append, List.length_cons, List.length_nil]; omega) fun w3 h3 g3 => ?_)
  have hx3 := hx2.grown g3 hba
  have l3 := enc_len9 (n := ([104, 105] : List UInt8).length) (by decide)
  rw [Int.toNat_natCast] at l3
  refine pack_Writer_Flag_calls (pack_Writer_Flag_spec h3 (by simp only [List.nil_append, List.length_append, List.length_cons, List.length_nil] at l3 ⊢; omega) fun w4 h4 g4 => ?_)
  have hx4 := hx3.grown g4 hba
  rw [List.nil_append, awakeBytes] at h4
  refine pack_Writer_Bytes_calls (pack_Writer_Bytes_spec h4 (by decide) fun s5 w5 o5 hx5 => ?_)
  refine pack_NewReader_calls (pack_NewReader_spec o5.is (by decide) fun r w6 hr6 h6 hx6 => ?_)
  have hxw := (hx4.trans' hx5).trans' hx6
  have hbr : w.heap.size ≤ r.block := Nat.le_trans (hx4.trans' hx5).size hr6
  refine pack_Writer_Bytes_calls (pack_Writer_Bytes_spec ((h4.ext hx5).ext hx6) (by decide) fun s7 w7 o7 hx7 => ?_)
  have hx7w := hxw.trans' hx7
  refine ifB_t (by rw [o7.len]; rfl) ?_
  refine pack_Reader_Number_calls (pack_Reader_Number_spec (h6.ext hx7) fun w8 h8 g8 => ?_)
  have hx8 := hx7w.grown g8 hbr
  rw [show rdNumber [172, 2, 2, 104, 105, 1] 300 0 0 = (300, 2, 0) from by decide +kernel] at h8 ⊢
  refine ifB_t rfl ?_
  refine pack_Reader_Text_calls (pack_Reader_Text_spec h8 (by decide) fun w9 h9 g9 => ?_)
  have hx9 := hx8.grown g9 hbr
  rw [show rdText [172, 2, 2, 104, 105, 1] 2 (300, 2, 0).2.1 (300, 2, 0).2.2 = ([104, 105], 5, 0) from by decide +kernel] at h9 ⊢
  refine ifStr (fun _ => ?_) (fun h => absurd rfl h)
  refine pack_Reader_Flag_calls (pack_Reader_Flag_spec h9 fun w10 h10 g10 => ?_)
  have hx10 := hx9.grown g10 hbr
  rw [show rdBool [172, 2, 2, 104, 105, 1] ([104, 105], 5, 0).2.1 ([104, 105], 5, 0).2.2 = (true, 6, 0) from by decide +kernel] at h10 ⊢
  refine ifB_t rfl ?_
  refine pack_Reader_Done_calls (pack_Reader_Done_spec h10 fun w11 hx11 => ?_)
  exact hK w11 (hx10.trans' hx11)

/-- A pack of nobody. -/
theorem law04_PackNobody_spec {n : Int} {s : List UInt8} {K : Bool → World → Prop} {w : World} (hK : ∀ w', Ext w w' → K true w') : law04_PackNobody n s K w := by
  unfold law04_PackNobody
  refine ifD (fun _ => law04_awake_calls (law04_awake_spec hK)) (fun hs => ?_)
  refine pack_Writer_Number_calls (pack_Writer_Number_nil ?_)
  refine pack_Writer_Text_calls (pack_Writer_Text_nil (by omega) fun w1 hx1 => ?_)
  refine pack_Writer_Flag_calls (pack_Writer_Flag_nil ?_)
  refine pack_Writer_Raw_calls (pack_Writer_Raw_nil ?_)
  refine pack_Writer_Bytes_calls (pack_Writer_Bytes_nil (ifB_t rfl ?_))
  refine pack_Reader_Number_calls (pack_Reader_Number_nil fun w2 hx2 => ifB_t rfl ?_)
  refine pack_Reader_Text_calls (pack_Reader_Text_nil fun w3 hx3 => ifStr (fun _ => ?_) (fun h => absurd rfl h))
  refine pack_Reader_Flag_calls (pack_Reader_Flag_nil (ifB_t rfl ?_))
  refine pack_Reader_Raw_calls (pack_Reader_Raw_nil fun w4 hx4 => ifB_t rfl ?_)
  refine pack_Reader_Count_calls (pack_Reader_Count_nil fun w5 hx5 => ifB_t rfl ?_)
  refine pack_Reader_Err_calls (pack_Reader_Err_nil (ifB_t rfl ?_))
  refine pack_Reader_Done_calls (pack_Reader_Done_nil (ifB_t rfl ?_))
  exact law04_awake_calls (law04_awake_spec fun w6 hx6 => hK w6 (((((hx1.trans' hx2).trans' hx3).trans' hx4).trans' hx5).trans' hx6))
end Go.Chg
