/-
  The hard state that may be: packages 'hard' and 'changeoverref19'; a record of an image, in package 'recone'.
-/
import Derived.Test.YtjkknkklhnfloaaDoorSpAcc1
import Derived.Test.YtjkknkklhnfloaaDoorMD
set_option maxRecDepth 20000
set_option linter.unusedVariables false
namespace Go.Chg
open Go.Vc
open Go.RowKit (Below)
variable {w : World} {s : Sl} {acc chs xs : List ApiEntry} {img : List UInt8} {h_ : ApiHard}
structure HardAt (w : World) (h_ : ApiHard) (img : List UInt8) (acc chs : List ApiEntry) : Prop where
  im : IsSl eB w h_.Image img
  ac : IsSl eApiEntry w h_.Accepted acc
  ch : IsSl eApiEntry w h_.Chosen chs
theorem HardAt.ext {u : World} (h : HardAt w h_ img acc chs) (hx : Ext w u) : HardAt u h_ img acc chs := ⟨h.im.ext hx, h.ac.ext hx, h.ch.ext hx⟩
def AccOk (h_ : ApiHard) (x : ApiEntry) : Prop := h_.Base < x.Index ∧ x.Ballot ≠ zBallot ∧ ¬ BLess h_.Promised x.Ballot
def ChsOk (h_ : ApiHard) (x : ApiEntry) : Prop := h_.Base < x.Index ∧ x.Ballot = zBallot
structure HardOk (h_ : ApiHard) (il : Nat) (acc chs : List ApiEntry) : Prop where
  prom : BMay h_.Promised
  base : 0 ≤ h_.Base ∧ h_.Base ≤ 4294967296
  img : il ≤ 32768 ∧ (0 < h_.Base ↔ 0 < il)
  acc0 : entsE acc = 0
  chs0 : entsE chs = 0
  acc1 : ∀ x ∈ acc, AccOk h_ x
  chs1 : ∀ x ∈ chs, ChsOk h_ x
theorem may_round {b : ApiBallot} (h : BMay b) : b.Round = 0 ↔ b = zBallot := by
  constructor
  · intro h0
    rcases h with h | h
    · exact h
    · omega
  · rintro rfl; rfl
theorem ref19_Check_spec {K : Bool → World → Prop} (hh : HardAt w h_ img acc chs) (hK : ∀ t w', (t = true ↔ HardOk h_ img.length acc chs) → Ext w w' → K t w') : ref19_Check h_ K w := by
  unfold ref19_Check
  have hil := hh.im.len
  have hal := hh.ac.len
  have hcl := hh.ch.len
  refine new_x (Ext.rfl' w) fun b1 w2 hb1 _ hx _ => ?_
  have no : ∀ {u : World}, Ext w u → ¬ HardOk h_ img.length acc chs → K false u := fun hx hn => hK _ _ ⟨fun e => (by cases e), fun h => absurd h hn⟩ hx
  refine ref10_May_calls (ref10_May_spec fun t w4 hm hx' => kp_ext hx' ?_)
  have hx := hx.trans' hx'
  refine ifNot (ifB_of (fun h1 => ?_) (fun h1 => no hx fun h => by rw [hm.2 h.prom] at h1; cases h1))
  have h1 := hm.1 h1
  refine ifD (fun h2 => no hx fun h => by have := h.base; omega) (fun h2 => ?_)
  refine ifD (fun h3 => no hx fun h => by have := h.base; omega) (fun h3 => ?_)
  refine ifD (fun h4 => no hx fun h => by have := h.img; omega) (fun h4 => ?_)
  refine ifNot (ifB_of (fun h5 => ?_) (fun h5 => no hx fun h => ?_))
  rotate_left
  · have h6 := h.img.2
    rw [hil] at h5
    have : decide (h_.Base > 0) = decide ((img.length : Int) > 0) := decide_eq_decide.2 (by omega)
    rw [this] at h5
    simp at h5
  have h5 : 0 < h_.Base ↔ 0 < img.length := by
    have := eq_of_beq h5
    rw [decide_eq_decide] at this
    omega
  refine ref12_Check_calls (ref12_Check_spec (hh.ac.ext hx) fun w6 hx' => kp_ext hx' ?_)
  have hx := hx.trans' hx'
  refine ifNe (fun h6 => no hx fun h => h6 h.acc0) (fun h6 => ?_)
  refine ref12_Check_calls (ref12_Check_spec (hh.ch.ext hx) fun w8 hx' => kp_ext hx' ?_)
  have hx := hx.trans' hx'
  refine ifNe (fun h7 => no hx fun h => h7 h.chs0) (fun h7 => ?_)
  refine up1 (fun k w' => Ext w w' ∧ ∀ x ∈ acc.take k, AccOk h_ x) 0 acc.length rfl (by omega) (by have := hh.ac.le; omega) ⟨hx, by simp⟩ ?_
  rintro k w11 C _ hk ⟨hx, hq⟩ hC
  refine ifD (fun hlt => ?_) (fun hge => ?_)
  · have hk1 : k < acc.length := by omega
    have hmem := List.getElem_mem hk1
    have hmay := (entsE_ok h6 _ hmem).1.2
    refine part_rd (E := eApiEntry) (n := 2) (off := 1) (y := acc[k].Ballot) (val := ApiBallot.val) (xs := acc[k].Ballot.cs) (by kernel_rfl) (by kernel_rfl) (hh.ac.ext hx) rfl hk1 rfl rfl (ent_bal _) fun _ => ?_
    refine new_x hx fun b14 w15 hb14 _ hx _ => wr_x hx hb14 fun w16 hx _ => ?_
    refine heldM_of (fun w' => Ext w w') fun w17 hx17 => ⟨hx.trans' hx17, ?_⟩
    have hx := hx.trans' hx17
    refine fldH (E := eApiEntry) (y := acc[k].Index) (by kernel_rfl) (by kernel_rfl) (fun w' h => hh.ac.ext h) rfl hk1 rfl fun _ => ?_
    refine ifD (fun h8 => no hx fun h => by have := (h.acc1 _ hmem).1; omega) (fun h8 => ?_)
    refine ifEq (fun h9 => no hx fun h => (h.acc1 _ hmem).2.1 ((may_round hmay).1 h9)) (fun h9 => ?_)
    refine ref10_Less_calls (ref10_Less_spec fun t w22 hl hx' => kp_ext hx' (kp_ext hx' ?_))
    have hx := hx.trans' hx'
    refine ⟨hx, ifB_of (fun h10 => no hx fun h => (h.acc1 _ hmem).2.2 (hl.1 h10)) (fun h10 => hC hk1 _ _ rfl ⟨hx, all_up hk1 hq ⟨by omega, fun e => h9 ((may_round hmay).2 e), fun hb => by rw [hl.2 hb] at h10; cases h10⟩⟩)⟩
  have hacc := all_done (by omega) hq
  refine up1 (fun k w' => Ext w w' ∧ ∀ x ∈ chs.take k, ChsOk h_ x) 0 chs.length rfl (by omega) (by have := hh.ch.le; omega) ⟨hx, by simp⟩ ?_
  rintro k w25 C _ hk ⟨hx, hq⟩ hC
  refine ifD (fun hlt => ?_) (fun hge => ?_)
  · have hk1 : k < chs.length := by omega
    have hmem := List.getElem_mem hk1
    have hmay := (entsE_ok h7 _ hmem).1.2
    refine drew_of fun w26 hx' => ?_
    have hx := hx.trans' hx'
    refine fld_rd (y := chs[k].Index) (by kernel_rfl) (by kernel_rfl) (hh.ch.ext hx) rfl hk1 rfl fun _ => ?_
    refine ifD (fun h8 => no hx fun h => by have := (h.chs1 _ hmem).1; omega) (fun h8 => ?_)
    refine fld2_rd (y := chs[k].Ballot.Round) (o1 := 1) (o2 := 0) (by kernel_rfl) (by kernel_rfl) (hh.ch.ext hx) rfl hk1 rfl fun _ => ?_
    exact ifNe (fun h9 => no hx fun h => h9 ((may_round hmay).2 (h.chs1 _ hmem).2)) (fun h9 => hC hk1 _ _ rfl ⟨hx, all_up hk1 hq ⟨by omega, (may_round hmay).1 h9⟩⟩)
  · exact hK _ _ ⟨fun _ => ⟨h1, ⟨by omega, by omega⟩, ⟨by omega, h5⟩, h6, h7, hacc, all_done (by omega) hq⟩, fun _ => rfl⟩ hx

/-! ### A record of an image -/
def noCmd : ApiCmd := ⟨0, 0, 0, [], [], [], 0⟩
theorem recone_fields_4 {K : ReconeHas × Bool → World → Prop} (hK : ∀ w', Ext w w' → K (⟨false, true, false, true⟩, true) w') : recone_fields 4 K w := by
  unfold recone_fields
  refine new_x (Ext.rfl' w) fun b1 w2 h1 _ hx _ => new_x hx fun b3 w4 h3 _ hx _ => ?_
  refine ifEq (fun h => absurd h (by decide)) fun _ => ifEq (fun h => absurd h (by decide)) fun _ => ifEq (fun h => absurd h (by decide)) fun _ => ifEq (fun _ => ?_) (fun h => absurd rfl h)
  exact wr_x hx h3 fun w14 hx _ => wr_x hx h3 fun w15 hx _ => wr_x hx h1 fun w16 hx _ => hK _ hx
theorem recone_ranges_4 {b : Int} {im : Sl} {K : Bool → World → Prop} (hK : ∀ t w', (t = true ↔ 1 ≤ b ∧ b ≤ 4294967296) → Ext w w' → K t w') : recone_ranges ⟨4, zBallot, b, noCmd, im⟩ ⟨false, true, false, true⟩ K w := by
  unfold recone_ranges
  refine new_x (Ext.rfl' w) fun b1 w2 _ _ hx _ => new_x hx fun b3 w4 _ _ hx _ => ?_
  refine ⟨fun u => Ext w u, ifB_of (fun h => by cases h) (fun _ => hx), ?_⟩
  rintro w9 hx
  refine ifNot (ifB_of (fun _ => ?_) (fun h => by cases h))
  refine ifD (fun h => hK _ _ ?_ hx) (fun h => hK _ _ ⟨fun e => (by cases e), fun h' => absurd h'.1 h⟩ hx)
  rw [decide_eq_true_iff]
  exact ⟨fun h' => ⟨h, h'⟩, fun h' => h'.2⟩
theorem recone_others_4 {b : Int} {im : Sl} {K : Bool → World → Prop} (hK : ∀ t w', (t = false ↔ 0 < im.len) → Ext w w' → K t w') : recone_others ⟨4, zBallot, b, noCmd, im⟩ ⟨false, true, false, true⟩ K w := by
  unfold recone_others
  refine new_x (Ext.rfl' w) fun b1 w2 _ _ hx _ => new_x hx fun b3 w4 _ _ hx _ => ?_
  refine ⟨fun t u => t = false ∧ Ext w u, ?_, ?_⟩
  · refine ifNot (ifB_of (fun h => by cases h) (fun _ => ?_))
    refine neSt (by kernel_rfl) (ApiBallot.eqv zBallot zBallot) (ifNot (ifB_of (fun _ => ?_) (fun h => by rw [ApiBallot.eqs_iff.2 rfl] at h; cases h)))
    refine ifNot (ifB_of (fun _ => ?_) (fun h => by cases h))
    refine ifNot (ifB_of (fun h => by cases h) (fun _ => ?_))
    refine neSt (by kernel_rfl) (ApiCmd.eqv noCmd noCmd) ⟨?_, hx⟩
    rw [ApiCmd.eqs_iff.2 rfl]; rfl
  rintro _ w12 ⟨rfl, hx⟩
  refine ifB_of (fun h => by cases h) (fun _ => hK _ _ ?_ hx)
  show (!(true == decide ((im.len : Int) > 0))) = false ↔ _
  by_cases h : 0 < im.len
  · rw [decide_eq_true (by omega : (im.len : Int) > 0)]
    exact ⟨fun _ => h, fun _ => rfl⟩
  · rw [decide_eq_false (by omega : ¬ (im.len : Int) > 0)]
    exact ⟨fun e => (by cases e), fun h' => absurd h' h⟩
theorem recone_Check_4 {b : Int} {im : Sl} {K : Int → World → Prop} (hK : ∀ e w', (e = 0 ↔ (1 ≤ b ∧ b ≤ 4294967296) ∧ im.len ≤ 32768 ∧ 0 < im.len) → Ext w w' → K e w') : recone_Check ⟨4, zBallot, b, noCmd, im⟩ K w := by
  unfold recone_Check
  have bad : ∀ {e : Int} {u : World}, e ≠ 0 → Ext w u → ¬ ((1 ≤ b ∧ b ≤ 4294967296) ∧ im.len ≤ 32768 ∧ 0 < im.len) → K e u := fun he hx hn => hK _ _ ⟨fun h => absurd h he, fun h => absurd h hn⟩ hx
  refine new_x (Ext.rfl' w) fun b1 w2 _ _ hx _ => ?_
  refine recone_fields_calls (recone_fields_4 fun w4 hx' => kp_ext hx' ?_)
  have hx := hx.trans' hx'
  refine new_x hx fun b5 w6 hb5 _ hx _ => wr_x hx hb5 fun w7 hx _ => ?_
  refine ⟨fun u => Ext w u ∧ (1 ≤ b ∧ b ≤ 4294967296) ∧ im.len ≤ 32768, ?_, ?_⟩
  · refine ifNot (ifB_of (fun _ => ?_) (fun h => by cases h))
    refine recone_ranges_calls (x := ⟨4, zBallot, b, noCmd, im⟩) (h_ := ⟨false, true, false, true⟩) (recone_ranges_4 fun t w10 ht hx' => kp_ext hx' (kp_ext hx' ?_))
    have hx := hx.trans' hx'
    refine ifNot (ifB_of (fun h => ?_) (fun h => bad (by decide) hx fun h' => by rw [ht.2 h'.1] at h; cases h))
    refine ifB_of (fun _ => ?_) (fun h => by cases h)
    exact ifD (fun h2 => bad (by decide) hx fun h' => by have := h'.2.1; have h2 : (im.len : Int) > 32768 := h2; omega) (fun h2 => ⟨hx, ht.1 h, by have h2 : ¬ (im.len : Int) > 32768 := h2; omega⟩)
  rintro w11 ⟨hx, h1, h2⟩
  refine ifB_of (fun h => by cases h) (fun _ => ?_)
  refine recone_others_calls (x := ⟨4, zBallot, b, noCmd, im⟩) (h_ := ⟨false, true, false, true⟩) (recone_others_4 fun t w17 ht hx' => kp_ext hx' (kp_ext hx' ?_))
  have hx := hx.trans' hx'
  exact ifB_of (fun h => bad (by decide) hx fun h' => by rw [ht.2 h'.2.2] at h; cases h) (fun h => hK _ _ ⟨fun _ => ⟨h1, h2, ht.1 h⟩, fun _ => rfl⟩ hx)

/-! ### The program's check -/
theorem ld_obpart {β : Type} {t n off : Nat} {a : Addr} {cs ys : List Value} {val : β → Value} {y : β} {K : β → Prop} (ht : agT Pr t = some n) (h : Vc.Obj w a cs) (hn : ys.length = n) (hx : ∀ (j : Nat) v, ys[j]? = some v → cs[off + j]? = some v) (hv : val y = .agg ⟨ys⟩) (hK : K y) :
    opRd Pr (Instr.loadAt t (.pointer (some (a.add off)))) val K w := by
  have hs := h.1
  refine ⟨y, ?_, hK⟩
  rw [hv]
  have e1 := addr_off a hs off
  refine run_ldAgg ht hn (by rw [e1]) fun j v hj => ?_
  have := h.cell (hx j v hj)
  rw [addr_off a hs] at this
  rw [e1]
  show w.cell? ⟨a.block, a.off + off + j, none⟩ = some v
  rw [Nat.add_assoc]
  exact this
theorem hard_prom (h_ : ApiHard) : ∀ (j : Nat) v, h_.Promised.cs[j]? = some v → h_.cs[0 + j]? = some v := fun j v hv => by
  match j, hv with
  | 0, hv => exact hv
  | 1, hv => exact hv
  | n + 2, hv => cases hv
theorem hard_Check_1_spec {e : ApiEntry} {a : Addr} {K : Bool → World → Prop} (ho : Vc.Obj w a h_.cs) (hK : ∀ t w', (t = true ↔ ¬ AccOk h_ e) → Ext w w' → K t w') : hard_Check_1 e a K w := by
  unfold hard_Check_1
  refine new_x (Ext.rfl' w) fun b1 w2 _ _ hx _ => ?_
  have yes : ¬ AccOk h_ e → K true w2 := fun h => hK _ _ ⟨fun _ => h, fun _ => rfl⟩ hx
  refine ld_obj (y := h_.Base) (by kernel_rfl) (ho.ext hx) rfl ?_
  refine ifD (fun h1 => yes fun h => by have := h.1; omega) (fun h1 => ?_)
  refine eqSt (by kernel_rfl) (ApiBallot.eqv e.Ballot zBallot) (ifB_of (fun h2 => yes fun h => h.2.1 (ApiBallot.eqs_iff.1 h2)) (fun h2 => ?_))
  refine ld_obpart (off := 0) (ys := h_.Promised.cs) (y := h_.Promised) (val := ApiBallot.val) (by kernel_rfl) (ho.ext hx) rfl (hard_prom h_) rfl ?_
  refine ballot_Less_calls (a := h_.Promised) (b := e.Ballot) (ballot_Less_spec fun t w7 hl hx' => kp_ext hx' (hK _ _ ?_ (hx.trans' hx')))
  constructor
  · exact fun ht h => h.2.2 (hl.1 ht)
  · intro hn
    refine Classical.byContradiction fun ht => hn ⟨by omega, fun e' => ?_, fun hb => ht (hl.2 hb)⟩
    rw [ApiBallot.eqs_iff.2 e'] at h2; cases h2
theorem hard_Check_2_spec {e : ApiEntry} {a : Addr} {K : Bool → World → Prop} (ho : Vc.Obj w a h_.cs) (hK : ∀ t w', (t = true ↔ ¬ ChsOk h_ e) → Ext w w' → K t w') : hard_Check_2 e a K w := by
  unfold hard_Check_2
  refine new_x (Ext.rfl' w) fun b1 w2 _ _ hx _ => ?_
  refine ld_obj (y := h_.Base) (by kernel_rfl) (ho.ext hx) rfl ?_
  refine ifD (fun h1 => hK _ _ ⟨fun _ h => by have := h.1; omega, fun _ => rfl⟩ hx) (fun h1 => ?_)
  refine neSt (by kernel_rfl) (ApiBallot.eqv e.Ballot zBallot) (hK _ _ ?_ hx)
  constructor
  · intro ht h
    rw [ApiBallot.eqs_iff.2 h.2] at ht; cases ht
  · intro hn
    cases hb : (ApiBallot.eqs e.Ballot zBallot).all id
    · rfl
    · exact absurd ⟨by omega, ApiBallot.eqs_iff.1 hb⟩ hn
theorem index_hard1_spec {a : Addr} {K : Int → World → Prop} (hs : IsSl eApiEntry w s xs) (ho : Vc.Obj w a h_.cs) (hK : ∀ i w', (decide (i ≥ 0) = true ↔ ∃ x ∈ xs, ¬ AccOk h_ x) → Ext w w' → K i w') : slices_IndexFunc_api_Entry_api_Entry_hard1 s a K w := by
  classical
  unfold slices_IndexFunc_api_Entry_api_Entry_hard1
  refine index_vc (E := eApiEntry) (fun x => decide (¬ AccOk h_ x)) (by kernel_rfl) (by kernel_rfl) (fun _ => rfl) hs (fun y _ w' K' hx' hk => hard_Check_1_calls (e := y) (hard_Check_1_spec (ho.ext hx') fun t w'' ht hx'' => ?_)) (fun w' hn hx => hK _ _ ⟨fun e => absurd e (by decide), fun ⟨x, hx, hb⟩ => absurd hb (of_decide_eq_false (hn x hx))⟩ hx) (fun w' k hk hp _ hx => hK _ _ ⟨fun _ => ⟨_, List.getElem_mem hk, of_decide_eq_true hp⟩, fun _ => by simp⟩ hx)
  rw [show t = decide (¬ AccOk h_ y) from by rw [Bool.eq_iff_iff, ht, decide_eq_true_iff]]
  exact hk _ hx''
theorem index_hard2_spec {a : Addr} {K : Int → World → Prop} (hs : IsSl eApiEntry w s xs) (ho : Vc.Obj w a h_.cs) (hK : ∀ i w', (decide (i ≥ 0) = true ↔ ∃ x ∈ xs, ¬ ChsOk h_ x) → Ext w w' → K i w') : slices_IndexFunc_api_Entry_api_Entry_hard2 s a K w := by
  classical
  unfold slices_IndexFunc_api_Entry_api_Entry_hard2
  refine index_vc (E := eApiEntry) (fun x => decide (¬ ChsOk h_ x)) (by kernel_rfl) (by kernel_rfl) (fun _ => rfl) hs (fun y _ w' K' hx' hk => hard_Check_2_calls (e := y) (hard_Check_2_spec (ho.ext hx') fun t w'' ht hx'' => ?_)) (fun w' hn hx => hK _ _ ⟨fun e => absurd e (by decide), fun ⟨x, hx, hb⟩ => absurd hb (of_decide_eq_false (hn x hx))⟩ hx) (fun w' k hk hp _ hx => hK _ _ ⟨fun _ => ⟨_, List.getElem_mem hk, of_decide_eq_true hp⟩, fun _ => by simp⟩ hx)
  rw [show t = decide (¬ ChsOk h_ y) from by rw [Bool.eq_iff_iff, ht, decide_eq_true_iff]]
  exact hk _ hx''
theorem hard_Check_spec {K : Int → World → Prop} (ht : Utf8T w) (hh : HardAt w h_ img acc chs) (hK : ∀ e w', (e = 0 ↔ HardOk h_ img.length acc chs) → Ext w w' → K e w') : hard_Check h_ K w := by
  unfold hard_Check
  have hil := hh.im.len
  refine box_ty fun a w2 ha hx0 ho => ?_
  have ho : Vc.Obj w2 a h_.cs := ho
  have bad : ∀ {u : World}, Ext w2 u → ¬ HardOk h_ img.length acc chs → K 3 u := fun hx hn => hK 3 _ ⟨fun e => (by cases e), fun h => absurd h hn⟩ (hx0.trans' hx)
  have hx := Ext.rfl' w2
  refine ⟨fun u => Ext w2 u ∧ BMay h_.Promised ∧ 0 ≤ h_.Base ∧ (h_.Base = 0 → img.length = 0), ?_, ?_⟩
  · refine ld_obpart (off := 0) (ys := h_.Promised.cs) (y := h_.Promised) (val := ApiBallot.val) (by kernel_rfl) ho rfl (hard_prom h_) rfl ?_
    refine ballot_May_calls (b := h_.Promised) (ballot_May_spec fun t w6 hm hx' => ?_)
    have hx := hx.trans' hx'
    refine ifNot (ifB_of (fun h1 => ?_) (fun h1 => bad hx fun h => by rw [hm.2 h.prom] at h1; cases h1))
    refine ld_obj (y := h_.Base) (by kernel_rfl) (ho.ext hx) rfl ?_
    refine ifD (fun h2 => bad hx fun h => by have := h.base; omega) (fun h2 => ?_)
    refine ld_obj (y := h_.Base) (by kernel_rfl) (ho.ext hx) rfl ?_
    refine ifEq (fun h3 => ?_) (fun h3 => ⟨hx, hm.1 h1, by omega, fun e => absurd e h3⟩)
    refine ld_obj (y := h_.Image) (by kernel_rfl) (ho.ext hx) rfl ?_
    exact ifD (fun h4 => bad hx fun h => by have := h.img; omega) (fun h4 => ⟨hx, hm.1 h1, by omega, fun _ => by omega⟩)
  rintro w10 ⟨hx, h1, h2, h3⟩
  refine ⟨fun u => Ext w2 u ∧ h_.Base ≤ 4294967296 ∧ img.length ≤ 32768 ∧ (0 < h_.Base ↔ 0 < img.length), ?_, ?_⟩
  · refine ld_obj (y := h_.Base) (by kernel_rfl) (ho.ext hx) rfl ?_
    refine ifD (fun h4 => ?_) (fun h4 => ⟨hx, by omega, by omega, by omega⟩)
    refine ld_obj (y := h_.Base) (by kernel_rfl) (ho.ext hx) rfl ?_
    refine ld_obj (y := h_.Image) (by kernel_rfl) (ho.ext hx) rfl ?_
    refine recone_Check_calls (x := ⟨4, zBallot, h_.Base, noCmd, h_.Image⟩) (recone_Check_4 fun e w16 he hx' => ?_)
    have hx := hx.trans' hx'
    exact ifNe (fun h5 => bad hx fun h => h5 (he.2 (by have := h.base; have := h.img; omega))) (fun h5 => by have := he.1 h5; exact ⟨hx, by omega, by omega, by omega⟩)
  rintro w17 ⟨hx, h4, h5, h6⟩
  refine ld_obj (y := h_.Accepted) (by kernel_rfl) (ho.ext hx) rfl ?_
  refine entry_Check_calls (entry_Check_spec (ht.ext (hx0.trans' hx)) (hh.ac.ext (hx0.trans' hx)) fun w20 hx' => ?_)
  have hx := hx.trans' hx'
  refine ifNe (fun h7 => bad hx fun h => h7 h.acc0) (fun h7 => ?_)
  refine ld_obj (y := h_.Chosen) (by kernel_rfl) (ho.ext hx) rfl ?_
  refine entry_Check_calls (entry_Check_spec (ht.ext (hx0.trans' hx)) (hh.ch.ext (hx0.trans' hx)) fun w23 hx' => ?_)
  have hx := hx.trans' hx'
  refine ifNe (fun h8 => bad hx fun h => h8 h.chs0) (fun h8 => ?_)
  refine ld_obj (y := h_.Accepted) (by kernel_rfl) (ho.ext hx) rfl ?_
  refine slices_ContainsFunc_api_Entry_api_Entry_calls ?_
  unfold slices_ContainsFunc_api_Entry_api_Entry
  refine slices_IndexFunc_api_Entry_api_Entry_hard1_calls (index_hard1_spec (hh.ac.ext (hx0.trans' hx)) (ho.ext hx) fun i w26 hi hx' => ?_)
  have hx := hx.trans' hx'
  refine ifB_of (fun h9 => bad hx fun h => by obtain ⟨x, hx, hb⟩ := hi.1 h9; exact hb (h.acc1 x hx)) (fun h9 => ?_)
  refine ld_obj (y := h_.Chosen) (by kernel_rfl) (ho.ext hx) rfl ?_
  refine slices_ContainsFunc_api_Entry_api_Entry_calls ?_
  unfold slices_ContainsFunc_api_Entry_api_Entry
  refine slices_IndexFunc_api_Entry_api_Entry_hard2_calls (index_hard2_spec (hh.ch.ext (hx0.trans' hx)) (ho.ext hx) fun i w29 hj hx' => ?_)
  have hx := hx.trans' hx'
  refine ifB_of (fun h10 => bad hx fun h => by obtain ⟨x, hx, hb⟩ := hj.1 h10; exact hb (h.chs1 x hx)) (fun h10 => ?_)
  refine hK _ _ ⟨fun _ => ⟨h1, ⟨h2, h4⟩, ⟨h5, h6⟩, h7, h8, fun x hx => Classical.byContradiction fun hb => ?_, fun x hx => Classical.byContradiction fun hb => ?_⟩, fun _ => rfl⟩ (hx0.trans' hx)
  · rw [hi.2 ⟨x, hx, hb⟩] at h9; cases h9
  · rw [hj.2 ⟨x, hx, hb⟩] at h10; cases h10
end Go.Chg
