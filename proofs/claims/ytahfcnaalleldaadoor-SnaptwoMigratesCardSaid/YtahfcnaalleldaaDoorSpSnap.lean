/-
  States as bytes: the functions of packages 'snapone', 'snaptwo' and 'changeoverref26'.
-/
import Derived.Test.YtahfcnaalleldaaDoorMB
import Derived.Test.YtahfcnaalleldaaDoorSpSnapL
import Derived.Test.YtahfcnaalleldaaDoorAssert
set_option maxRecDepth 20000
set_option linter.unusedVariables false
namespace Go.Vc
variable {w w0 w1 w2 w' : World}
/-- What lies above all that was there may turn. -/
theorem grown_hi {row r2 : Option Nat} (h : w0.grownBy w row) (k : w.grownBy w' r2) (hr : ∀ r, r2 = some r → w0.heap.size ≤ r) : w0.grownBy w' row :=
  ⟨k.os.trans h.os, k.tape.trans h.tape, k.output.trans h.output, Nat.le_trans h.size k.size, fun b hb hne => by
    rw [k.block b (Nat.lt_of_lt_of_le hb h.size) (fun e => by have := hr b e.symm; omega), h.block b hb hne]⟩
theorem Rd.high {a : Addr} {l : List UInt8} {p no : Int} {row : Option Nat} (h : Rd w a l p no) (hg : w.grownBy w' row) (hr : ∀ r, row = some r → a.block < r) : Rd w' a l p no := by
  have hlt := h.lt
  obtain ⟨s, h1, h2, h3, h4⟩ := h
  exact ⟨s, h1.grownB hg (fun c hc e => by have := h3 c hc; have := hr c e.symm; omega), h2.keep (hg.block _ hlt (fun e => by have := hr _ e.symm; omega)), h3, h4⟩
theorem Obj.other {c : Addr} {cs : List Value} {row : Option Nat} (h : Obj w c cs) (hg : w.grownBy w' row) (hr : some c.block ≠ row) : Obj w' c cs := h.keep (hg.block _ h.lt hr)
/-- Only two blocks, and what lies from B on, have turned. -/
structure Fr (B x y : Nat) (w w' : World) : Prop where
  base : B ≤ w.heap.size
  os : w'.os = w.os
  tape : w'.tape = w.tape
  output : w'.output = w.output
  size : w.heap.size ≤ w'.heap.size
  block : ∀ k, k < B → k ≠ x → k ≠ y → w'.heap[k]? = w.heap[k]?
variable {B x y : Nat}
theorem Fr.refl (h : B ≤ w.heap.size) : Fr B x y w w := ⟨h, rfl, rfl, rfl, Nat.le_refl _, fun _ _ _ _ => rfl⟩
theorem Fr.trans (h : Fr B x y w w1) (k : Fr B x y w1 w2) : Fr B x y w w2 := ⟨h.base, k.os.trans h.os, k.tape.trans h.tape, k.output.trans h.output, Nat.le_trans h.size k.size, fun i hi hx hy => (k.block i hi hx hy).trans (h.block i hi hx hy)⟩
theorem Fr.gr {row : Option Nat} (h : Fr B x y w w1) (k : w1.grownBy w2 row) (hr : ∀ r, row = some r → r = x ∨ r = y ∨ B ≤ r) : Fr B x y w w2 :=
  ⟨h.base, k.os.trans h.os, k.tape.trans h.tape, k.output.trans h.output, Nat.le_trans h.size k.size, fun i hi hx hy => by
    rw [k.block i (by have := h.base; have := h.size; omega) (fun e => by have := hr i e.symm; omega)]
    exact h.block i hi hx hy⟩
theorem Fr.ex (h : Fr B x y w w1) (k : Ext w1 w2) : Fr B x y w w2 := h.gr (grown_ext k none) (fun r hr => by cases hr)
theorem Fr.ext (h : Fr B x y w w') (hx : Ext w0 w) (h1 : w0.heap.size ≤ x) (h2 : w0.heap.size ≤ y) (h3 : w0.heap.size ≤ B) : Ext w0 w' :=
  ⟨h.os.trans hx.os, h.tape.trans hx.tape, h.output.trans hx.output, Nat.le_trans hx.size h.size, fun k hk => by
    rw [h.block k (by omega) (by omega) (by omega)]
    exact hx.block k hk⟩
theorem Obj.fr {c : Addr} {cs : List Value} (h : Obj w c cs) (hf : Fr B x y w w') (h1 : c.block < B) (h2 : c.block ≠ x) (h3 : c.block ≠ y) : Obj w' c cs := h.keep (hf.block _ h1 h2 h3)
theorem kp_fr {b : Nat} {X : Prop} (hf : Fr B x y w w') (h1 : b < B) (h2 : b ≠ x) (h3 : b ≠ y) (k : X) : kp b w w' X := ⟨fun _ => hf.block b h1 h2 h3, k⟩
end Go.Vc
namespace Go.Chg
open Go.Vc
variable {w : World} {l : List UInt8} {v p no most : Int}
theorem rdCount_nat (hm : 0 ≤ most) : ∃ k : Nat, (rdCount l most p no).1 = k ∧ (k : Int) ≤ most := by
  by_cases h : (rdCount l most p no).2.2 = 0
  · obtain ⟨_, m, h1, h2, _⟩ := rdCount_inv h
    exact ⟨m, h1, h2⟩
  · exact ⟨0, rdCount_zero h, hm⟩
theorem pack_Reader_Err_spec' {a : Addr} {K : Int → World → Prop} (h : Rd w a l p no) (hK : K no w) : pack_Reader_Err (some a) K w := by
  unfold pack_Reader_Err
  obtain ⟨s, g1, g2, g3⟩ := h
  exact eqPtrNil (by kernel_rfl) fun b hb => ifB_f hb (nil_rd rfl (ld_obj (by kernel_rfl) g2 rfl hK))

/-! ### snapone -/
theorem snapone_Decode_1_spec {c a : Addr} {K : ApiPair → World → Prop} (hc : Vc.Obj w c [.pointer (some a)]) (h : Rd w a l p no) (hca : c.block ≠ a.block) (hl : l.length ≤ 140737488355328)
    (hK : ∀ w', Rd w' a l (rdPair l 1 p no).2.1 (rdPair l 1 p no).2.2 → w.grownBy w' (some a.block) → K (rdPair l 1 p no).1 w') : snapone_Decode_1 c K w := by
  unfold snapone_Decode_1
  have hlt := h.lt
  have hclt := hc.lt
  refine new_x (Ext.rfl' w) fun b1 w2 hb1 hl1 hx _ => ?_
  refine ld_obj0 (by kernel_rfl) (hc.ext hx) rfl ?_
  refine pack_Reader_Text_calls (pack_Reader_Text_spec (h.ext hx) hl fun w5 hr5 hg5 => kp_grown hg5 (fun e => by cases e; omega) ?_)
  have hc5 := (hc.ext hx).other hg5 (fun e => hca (Option.some.inj e))
  refine ld_obj0 (by kernel_rfl) hc5 rfl ?_
  refine pack_Reader_Text_calls (pack_Reader_Text_spec hr5 hl fun w8 hr8 hg8 => kp_grown hg8 (fun e => by cases e; omega) (wr_of fun w9 hw9 => ?_))
  have hg := grown_trans (grown_trans (grown_ext hx _) hg5) hg8
  exact hK _ (hr8.wr hw9 (by omega)) (grown_new hg (by omega) (grown_wr hw9))
theorem snapone_Decode_2_spec {c a : Addr} {K : ApiSession → World → Prop} (hc : Vc.Obj w c [.pointer (some a)]) (h : Rd w a l p no) (hca : c.block ≠ a.block) (hl : l.length ≤ 140737488355328)
    (hK : ∀ w', Rd w' a l (rdSess l 1 p no).2.1 (rdSess l 1 p no).2.2 → w.grownBy w' (some a.block) → K (rdSess l 1 p no).1 w') : snapone_Decode_2 c K w := by
  unfold snapone_Decode_2
  have hlt := h.lt
  have hclt := hc.lt
  refine new_x (Ext.rfl' w) fun b1 w2 hb1 hl1 hx _ => ?_
  refine ld_obj0 (by kernel_rfl) (hc.ext hx) rfl ?_
  refine answer_Get_calls (answer_Get_spec (h.ext hx) hl fun w5 hr5 hg5 => kp_grown hg5 (fun e => by cases e; omega) ?_)
  have hg := grown_trans (grown_ext hx _) hg5
  have z5 := hg5.size
  refine new_of fun b6 w7 hn7 => wr_of fun w8 hw8 => wr_of fun w9 hw9 => ?_
  have e6 := hn7.1
  have hx7 := Ext.new hn7
  refine hK _ (((hr5.ext hx7).wr hw8 (by omega)).wr hw9 (by omega)) (grown_new (grown_new (grown_trans hg (grown_ext hx7 _)) (by omega) (grown_wr hw8)) (by omega) (grown_wr hw9))
theorem snapone_list_pair_spec {c a : Addr} {K : Sl → World → Prop} (hm : 0 ≤ most) (hm2 : most ≤ 100) (hc : Vc.Obj w c [.pointer (some a)]) (h : Rd w a l p no) (hca : c.block ≠ a.block) (hl : l.length ≤ 140737488355328)
    (hK : ∀ s w', OwnSl eApiPair w' w.heap.size s (rdList (rdPair l 1) (rdCount l most p no).2.1 (rdCount l most p no).2.2 (rdCount l most p no).1.toNat).1 →
      Rd w' a l (rdList (rdPair l 1) (rdCount l most p no).2.1 (rdCount l most p no).2.2 (rdCount l most p no).1.toNat).2.1 (rdList (rdPair l 1) (rdCount l most p no).2.1 (rdCount l most p no).2.2 (rdCount l most p no).1.toNat).2.2 → w.grownBy w' (some a.block) → K s w') : snapone_list_api_Pair_1 (some a) most c K w := by
  unfold snapone_list_api_Pair_1
  have hlt := h.lt
  have hclt := hc.lt
  refine pack_Reader_Count_calls (pack_Reader_Count_spec h fun w2 hr2 hg2 => ?_)
  obtain ⟨n, hn, hn2⟩ := rdCount_nat (l := l) (p := p) (no := no) hm
  rw [hn]
  rw [hn, Int.toNat_natCast] at hK
  generalize rdCount l most p no = r at *
  have z2 := hg2.size
  refine up2b (fun k out w' => w.grownBy w' (some a.block) ∧ Rd w' a l (rdList (rdPair l 1) r.2.1 r.2.2 k).2.1 (rdList (rdPair l 1) r.2.1 r.2.2 k).2.2 ∧ OwnSl eApiPair w' w.heap.size out (rdList (rdPair l 1) r.2.1 r.2.2 k).1) 0 n rfl (by omega) (by omega) ⟨hg2, hr2, .nil _ _ _⟩ ?_
  rintro k out w6 C _ hk ⟨hg6, hr6, ho6⟩ hC
  have z6 := hg6.size
  refine ifD (fun hlt1 => ?_) (fun hge => ?_)
  · have hk1 : k < n := by omega
    have hlen := rdList_len (p := r.2.1) (no := r.2.2) (one := rdPair l 1) k
    refine snapone_Decode_1_calls (snapone_Decode_1_spec (hc.other hg6 (fun e => hca (Option.some.inj e))) hr6 hca hl fun w8 hr8 hg8 => ?_)
    have z8 := hg8.size
    refine lit1_ty (E := eApiPair) 40 (x := (rdPair l 1 (rdList (rdPair l 1) r.2.1 r.2.2 k).2.1 (rdList (rdPair l 1) r.2.1 r.2.2 k).2.2).1) w8.heap.size (by kernel_rfl) (by decide) (fun w => by kernel_rfl) (Nat.le_refl _) fun s9 w10 _ hs9 hx10 => ?_
    have ho10 := (ho6.grownB hg8 (fun c hc e => by have := ho6.ge c hc; have := Option.some.inj e; omega)).ext hx10
    have z10 := hx10.size
    refine app_ty 40 (by kernel_rfl) (by kernel_rfl) ho10 hs9.is (by rw [hlen]; simp only [List.length_singleton]; omega) (by omega) (by decide) fun s11 w12 ho12 hg12 => ?_
    refine hC hk1 _ _ _ rfl ⟨grown_hi (grown_trans (grown_trans hg6 hg8) (grown_ext hx10 _)) hg12 ho10.ge, ?_, ho12⟩
    exact (hr8.ext hx10).high hg12 (fun r hr => by have := ho10.ge r hr; omega)
  · obtain rfl : k = n := by omega
    exact hK _ _ ho6 hr6 hg6
theorem snapone_list_sess_spec {c a : Addr} {K : Sl → World → Prop} (hm : 0 ≤ most) (hm2 : most ≤ 100) (hc : Vc.Obj w c [.pointer (some a)]) (h : Rd w a l p no) (hca : c.block ≠ a.block) (hl : l.length ≤ 140737488355328)
    (hK : ∀ s w', OwnSl eApiSession w' w.heap.size s (rdList (rdSess l 1) (rdCount l most p no).2.1 (rdCount l most p no).2.2 (rdCount l most p no).1.toNat).1 →
      Rd w' a l (rdList (rdSess l 1) (rdCount l most p no).2.1 (rdCount l most p no).2.2 (rdCount l most p no).1.toNat).2.1 (rdList (rdSess l 1) (rdCount l most p no).2.1 (rdCount l most p no).2.2 (rdCount l most p no).1.toNat).2.2 → w.grownBy w' (some a.block) → K s w') : snapone_list_api_Session_2 (some a) most c K w := by
  unfold snapone_list_api_Session_2
  have hlt := h.lt
  have hclt := hc.lt
  refine pack_Reader_Count_calls (pack_Reader_Count_spec h fun w2 hr2 hg2 => ?_)
  obtain ⟨n, hn, hn2⟩ := rdCount_nat (l := l) (p := p) (no := no) hm
  rw [hn]
  rw [hn, Int.toNat_natCast] at hK
  generalize rdCount l most p no = r at *
  have z2 := hg2.size
  refine up2b (fun k out w' => w.grownBy w' (some a.block) ∧ Rd w' a l (rdList (rdSess l 1) r.2.1 r.2.2 k).2.1 (rdList (rdSess l 1) r.2.1 r.2.2 k).2.2 ∧ OwnSl eApiSession w' w.heap.size out (rdList (rdSess l 1) r.2.1 r.2.2 k).1) 0 n rfl (by omega) (by omega) ⟨hg2, hr2, .nil _ _ _⟩ ?_
  rintro k out w6 C _ hk ⟨hg6, hr6, ho6⟩ hC
  have z6 := hg6.size
  refine ifD (fun hlt1 => ?_) (fun hge => ?_)
  · have hk1 : k < n := by omega
    have hlen := rdList_len (p := r.2.1) (no := r.2.2) (one := rdSess l 1) k
    refine snapone_Decode_2_calls (snapone_Decode_2_spec (hc.other hg6 (fun e => hca (Option.some.inj e))) hr6 hca hl fun w8 hr8 hg8 => ?_)
    have z8 := hg8.size
    refine lit1_ty (E := eApiSession) 72 (x := (rdSess l 1 (rdList (rdSess l 1) r.2.1 r.2.2 k).2.1 (rdList (rdSess l 1) r.2.1 r.2.2 k).2.2).1) w8.heap.size (by kernel_rfl) (by decide) (fun w => by kernel_rfl) (Nat.le_refl _) fun s9 w10 _ hs9 hx10 => ?_
    have ho10 := (ho6.grownB hg8 (fun c hc e => by have := ho6.ge c hc; have := Option.some.inj e; omega)).ext hx10
    have z10 := hx10.size
    refine app_ty 72 (by kernel_rfl) (by kernel_rfl) ho10 hs9.is (by rw [hlen]; simp only [List.length_singleton]; omega) (by omega) (by decide) fun s11 w12 ho12 hg12 => ?_
    refine hC hk1 _ _ _ rfl ⟨grown_hi (grown_trans (grown_trans hg6 hg8) (grown_ext hx10 _)) hg12 ho10.ge, ?_, ho12⟩
    exact (hr8.ext hx10).high hg12 (fun r hr => by have := ho10.ge r hr; omega)
  · obtain rfl : k = n := by omega
    exact hK _ _ ho6 hr6 hg6
end Go.Chg
