/-
  Package 'link'.
-/
import Derived.Test.YthofeajlmgecmaaGreatDoorSpLaw15
set_option maxRecDepth 20000
set_option linter.unusedVariables false
namespace Go.Chg
open Go.Vc
variable {w w' : World} {m : ApiMsg} {xs : List ApiEntry} {img l : List UInt8} {n v u : Int} {s b : Sl} {B : Nat} {a : Addr} {sd : List Int}
/-- Links: whose they are, its version, what the others said. -/
def lkC (n v : Int) (sd : List Int) : List Value := .int .i64 n :: .int .i64 v :: sd.map fun x => .int .i64 x
structure Lk (w : World) (a : Addr) (n v : Int) (sd : List Int) : Prop where
  obj : Vc.Obj w a (lkC n v sd)
  len : sd.length = 10
theorem Lk.ext (h : Lk w a n v sd) (hx : Ext w w') : Lk w' a n v sd := ⟨h.obj.ext hx, h.len⟩
theorem Lk.keep (h : Lk w a n v sd) (hk : w'.heap[a.block]? = w.heap[a.block]?) : Lk w' a n v sd := ⟨h.obj.keep hk, h.len⟩
theorem lk_get {k : Nat} (hk : k < sd.length) : (lkC n v sd)[2 + k * 1]? = some (.int .i64 (sd.getD k 0)) := by
  rw [Nat.mul_one, Nat.add_comm]
  simp [lkC, hk]
theorem lk_set {k : Nat} {x : Int} : (lkC n v sd).set (2 + k * 1) (.int .i64 x) = lkC n v (sd.set k x) := by
  rw [Nat.mul_one, Nat.add_comm]
  simp [lkC, List.map_set]
theorem link_is_spec {K : Bool → World → Prop} (hK : ∀ t, (t = true ↔ NodeOk n) → K t w) : link_is n K w := by
  unfold link_is
  refine ifD (fun h => hK _ ?_) (fun h => hK _ ⟨fun e => (by cases e), fun k => absurd k.1 h⟩)
  rw [decide_eq_true_iff]
  exact ⟨fun k => ⟨h, k⟩, fun k => k.2⟩
theorem link_greets_spec {K : Bool → World → Prop} (hK : ∀ t, (t = true ↔ n = 1 ∨ n = 2) → K t w) : link_greets n K w := by
  unfold link_greets
  refine ifEq (fun h => hK _ ⟨fun _ => .inl h, fun _ => rfl⟩) (fun h => hK _ ?_)
  rw [beq_iff_eq]
  omega
abbrev said0 (n v : Int) : List Int := (List.replicate 10 0).set n.toNat v
theorem link_New_spec {K : Option Addr → World → Prop} (hno : ¬ (NodeOk n ∧ (v = 1 ∨ v = 2)) → K none w) (hyes : NodeOk n → v = 1 ∨ v = 2 → ∀ a w', a.block = w.heap.size → Ext w w' → Lk w' a n v (said0 n v) → K (some a) w') : link_New n v K w := by
  unfold link_New
  refine link_is_calls (link_is_spec fun t hn => ?_)
  refine ifNot (ifB_of (fun h1 => ?_) (fun h1 => hno fun k => by rw [hn.2 k.1] at h1; cases h1))
  have hn := hn.1 h1
  refine vers_May_calls (vers_May_eq fun t hv => ?_)
  refine ifNot (ifB_of (fun h2 => ?_) (fun h2 => hno fun k => by rw [hv.2 k.2] at h2; cases h2))
  have hv := hv.1 h2
  refine box_ty fun a w6 ha hx ho => ?_
  have ho : Vc.Obj w6 a (lkC n v (List.replicate 10 0)) := ho
  refine nil_rd rfl ?_
  refine ix_ar (n := 10) (z := 1) n.toNat (by kernel_rfl) (by have := hn.1; omega) (by have := hn.1; have := hn.2; omega) ?_
  rw [addr_add2 a ho.1]
  refine st_obj (by kernel_rfl) ho rfl (by simp only [lkC, List.length_cons, List.length_map, List.length_replicate]; have := hn.1; have := hn.2; omega) fun w9 hw9 ho9 => ?_
  rw [lk_set] at ho9
  exact hyes hn hv a w9 ha (Below.wr hx (by omega) hw9) ⟨ho9, by simp⟩
theorem link_Greet_spec {k t : Int} {K : ApiMsg → World → Prop} (h : Lk w a n v sd) (hK : ∀ w', Ext w w' → K (greetM k n t v) w') : link_Links_Greet (some a) k t K w := by
  unfold link_Links_Greet
  refine new_x (Ext.rfl' w) fun b1 w2 hb1 hl1 hx hn2 => ?_
  refine eqPtrNil (by kernel_rfl) fun b hb => ifB_f hb ?_
  refine heldM_of (fun u => Vc.Obj u a (lkC n v sd)) fun w5 hx' => ⟨(h.obj.ext hx).ext hx', ?_⟩
  have hx := hx.trans' hx'
  refine opH_of a (fun w' _ => nil_rd rfl rfl) ?_
  refine opH_of n (fun w' hS => ld_obj (by kernel_rfl) hS rfl rfl) ?_
  refine opH_of a (fun w' _ => nil_rd rfl rfl) ?_
  refine opH_of v (fun w' hS => ld_obj (by kernel_rfl) hS rfl rfl) ?_
  exact wr_x hx hb1 fun w11 hx11 _ => ⟨h.obj.ext hx11, hK _ hx11⟩
/-- A greeting is heard. -/
theorem link_Heard_spec {f ver : Int} {K : Bool → World → Prop} (ht : Utf8T w) (h : Lk w a n v sd) (hok : MsgOk (greetM 1 f n ver) [] 0) (hK : ∀ w', Lk w' a n v (sd.set f.toNat ver) → w.grownBy w' (some a.block) → K true w') : link_Links_Heard (some a) (greetM 1 f n ver) K w := by
  unfold link_Links_Heard
  have hal := h.obj.lt
  have hf : NodeOk f := hok.rng.1.1
  refine new_x (Ext.rfl' w) fun b1 w2 hb1 hl1 hx hn2 => ?_
  refine heldM_of (fun u => Vc.Obj u a (lkC n v sd)) fun w3 hx' => ⟨(h.obj.ext hx).ext hx', ?_⟩
  have hx := hx.trans' hx'
  refine opH_of false (fun w' _ => eqPtrNil (by kernel_rfl) fun b hb => hb) (ifB_f rfl ?_)
  refine msgone_Check_calls (m := greetM 1 f n ver) (msgone_Check_spec (xs := []) (img := []) (ht.ext hx) ⟨.nilSl _ _, .nilSl _ _⟩ fun w7 hx' => kp_ext hx' ⟨h.obj.ext (hx.trans' hx'), ?_⟩)
  have hx := hx.trans' hx'
  refine ifNe (fun h0 => absurd (msgE_ok.2 hok) h0) (fun _ => ?_)
  refine link_greets_calls (link_greets_spec fun t hg => kp_same ⟨h.obj.ext hx, ?_⟩)
  refine ifNot (ifB_t (hg.2 (.inl rfl)) ?_)
  refine opH_of a (fun w' _ => nil_rd rfl rfl) ?_
  refine opH_of n (fun w' hS => ld_obj (by kernel_rfl) hS rfl rfl) ?_
  refine ifNe (fun h => absurd rfl h) (fun _ => ?_)
  refine drew_of fun w12 hx' => ?_
  have hx := hx.trans' hx'
  refine ifEq (fun _ => ?_) (fun h => absurd rfl h)
  refine held_x fun w13 hx' => ?_
  have hx := hx.trans' hx'
  have ho := h.obj.ext hx
  refine opH_of a (fun w' _ => nil_rd rfl rfl) ?_
  refine opH_of ((a.add 2).add (f.toNat * 1)) (fun w' _ => ix_ar (n := 10) (z := 1) f.toNat (by kernel_rfl) (by have := hf.1; show f = _; omega) (by have := hf.1; have := hf.2; omega) rfl) ?_
  rw [addr_add2 a ho.1]
  refine st_obj (by kernel_rfl) ho rfl (by simp only [lkC, List.length_cons, List.length_map, h.len]; have := hf.1; have := hf.2; omega) fun w17 hw17 ho17 => ?_
  have ho17 : Vc.Obj w17 a ((lkC n v sd).set (2 + f.toNat * 1) (.int .i64 ver)) := ho17
  rw [lk_set] at ho17
  exact kp_wr hw17 (by omega) ⟨trivial, hK _ ⟨ho17, by rw [List.length_set]; exact h.len⟩ (grown_trans (grown_ext hx _) (grown_wr hw17))⟩
theorem vers_Least_spec {p q : Int} {K : Int → World → Prop} (hp : p = 1 ∨ p = 2) (hq : q = 1 ∨ q = 2) (hK : K (imin p q) w) : vers_Least p q K w := by
  unfold vers_Least
  refine vers_May_calls (vers_May_eq fun t h1 => ifNot (ifB_t (h1.2 hp) ?_))
  exact vers_May_calls (vers_May_eq fun t h2 => ifNot (ifB_t (h2.2 hq) hK))
def spokenN (v s : Int) : Int := if s = 0 then 1 else imin v s
theorem link_Spoken_spec {node : Int} {K : Int → World → Prop} (h : Lk w a n v sd) (hn : NodeOk node) (hv : v = 1 ∨ v = 2) (hs : sd.getD node.toNat 0 = 0 ∨ sd.getD node.toNat 0 = 1 ∨ sd.getD node.toNat 0 = 2) (hK : ∀ w', Ext w w' → K (spokenN v (sd.getD node.toNat 0)) w') : link_Links_Spoken (some a) node K w := by
  unfold link_Links_Spoken
  have hlt : node.toNat < sd.length := by rw [h.len]; have := hn.1; have := hn.2; omega
  refine eqPtrNil (by kernel_rfl) fun b hb => ifB_f hb ?_
  refine link_is_calls (link_is_spec fun t ht => ifNot (ifB_t (ht.2 hn) ?_))
  refine nil_rd rfl (ix_ar (n := 10) (z := 1) node.toNat (by kernel_rfl) (by have := hn.1; omega) (by have := hn.1; have := hn.2; omega) ?_)
  rw [addr_add2 a h.obj.1]
  refine ld_obj (by kernel_rfl) h.obj (lk_get hlt) ?_
  refine ifEq (fun h0 => ?_) (fun h0 => ?_)
  · have := hK _ (Ext.rfl' w)
    unfold spokenN at this
    rwa [if_pos h0] at this
  refine heldM_of (fun u => Vc.Obj u a (lkC n v sd)) fun w7 hx => ⟨h.obj.ext hx, ?_⟩
  refine opH_of a (fun w' _ => nil_rd rfl rfl) ?_
  refine opH_of v (fun w' hS => ld_obj (by kernel_rfl) hS rfl rfl) ?_
  refine opH_of a (fun w' _ => nil_rd rfl rfl) ?_
  refine opH_of (a.add (2 + node.toNat * 1)) (fun w' _ => ix_ar (n := 10) (z := 1) node.toNat (by kernel_rfl) (by have := hn.1; omega) (by have := hn.1; have := hn.2; omega) (addr_add2 a h.obj.1 _ _)) ?_
  refine opH_of (sd.getD node.toNat 0) (fun w' hS => ld_obj (by kernel_rfl) hS (lk_get hlt) rfl) ?_
  refine vers_Least_calls (vers_Least_spec hv (hs.resolve_left h0) ⟨h.obj.ext hx, ?_⟩)
  have := hK _ hx
  unfold spokenN at this
  rwa [if_neg h0] at this
theorem link_Known_spec {node : Int} {K : Bool → World → Prop} (h : Lk w a n v sd) (hn : NodeOk node) (hs : sd.getD node.toNat 0 = 0) (hK : K false w) : link_Links_Known (some a) node K w := by
  unfold link_Links_Known
  have hlt : node.toNat < sd.length := by rw [h.len]; have := hn.1; have := hn.2; omega
  refine nePtrNil (by kernel_rfl) fun b hb => ifB_t hb ?_
  refine link_is_calls (link_is_spec fun t ht => ifB_t (ht.2 hn) ?_)
  refine nil_rd rfl (ix_ar (n := 10) (z := 1) node.toNat (by kernel_rfl) (by have := hn.1; omega) (by have := hn.1; have := hn.2; omega) ?_)
  rw [addr_add2 a h.obj.1]
  refine ld_obj (by kernel_rfl) h.obj (lk_get hlt) ?_
  rw [hs]
  exact hK
/-! ### Letters -/
/-- Only two blocks, and what lies from B on, have turned. -/
structure Fq (B x y : Nat) (w w' : World) : Prop where
  base : B ≤ w.heap.size
  os : w'.os = w.os
  tape : w'.tape = w.tape
  output : w'.output = w.output
  size : w.heap.size ≤ w'.heap.size
  block : ∀ k, k < B → k ≠ x → k ≠ y → w'.heap[k]? = w.heap[k]?
theorem Fq.refl {x y : Nat} (h : B ≤ w.heap.size) : Fq B x y w w := ⟨h, rfl, rfl, rfl, Nat.le_refl _, fun _ _ _ _ => rfl⟩
theorem Fq.gr {x y : Nat} {w1 w2 : World} {row : Option Nat} (h : Fq B x y w w1) (k : w1.grownBy w2 row) (hr : ∀ r, row = some r → r = x ∨ r = y ∨ B ≤ r) : Fq B x y w w2 :=
  ⟨h.base, k.os.trans h.os, k.tape.trans h.tape, k.output.trans h.output, Nat.le_trans h.size k.size, fun i hi hx hy => by
    rw [k.block i (by have := h.base; have := h.size; omega) (fun e => by have := hr i e.symm; omega)]
    exact h.block i hi hx hy⟩
theorem Fq.trans {x y : Nat} {w1 w2 : World} (h : Fq B x y w w1) (k : Fq B x y w1 w2) : Fq B x y w w2 := ⟨h.base, k.os.trans h.os, k.tape.trans h.tape, k.output.trans h.output, Nat.le_trans h.size k.size, fun i hi hx hy => (k.block i hi hx hy).trans (h.block i hi hx hy)⟩
theorem Fq.ex {x y : Nat} {w1 w2 : World} (h : Fq B x y w w1) (k : Ext w1 w2) : Fq B x y w w2 := h.gr (grown_ext k none) (fun r hr => by cases hr)
theorem Fq.ext {x y : Nat} {w0 : World} (h : Fq B x y w w') (hx : Ext w0 w) (h1 : w0.heap.size ≤ x) (h2 : w0.heap.size ≤ y) (h3 : w0.heap.size ≤ B) : Ext w0 w' :=
  ⟨h.os.trans hx.os, h.tape.trans hx.tape, h.output.trans hx.output, Nat.le_trans hx.size h.size, fun k hk => by
    rw [h.block k (by omega) (by omega) (by omega)]
    exact hx.block k hk⟩
theorem kp_fq {x y c : Nat} {X : Prop} (hf : Fq B x y w w') (h1 : c < B) (h2 : c ≠ x) (h3 : c ≠ y) (k : X) : kp c w w' X := ⟨fun _ => hf.block c h1 h2 h3, k⟩
/-- The letters so far, and what went wrong. -/
structure Lst (B : Nat) (c0 c1 : Addr) (w : World) (e : Int) (o : Sl) (L : List (List UInt8)) : Prop where
  bad : Vc.Obj w c0 [.int .i64 e]
  var : Vc.Obj w c1 [o.val]
  out : ∃ ss, OwnSl eSl w B o ss ∧ ss.length = L.length ∧ (∀ (i : Nat) x y, ss[i]? = some x → L[i]? = some y → OwnSl eB w B x y) ∧ ∀ (i : Nat) x, ss[i]? = some x → ∀ c, x.blk = some c → o.blk ≠ some c
theorem Lst.ext {c0 c1 : Addr} {e : Int} {o : Sl} {L : List (List UInt8)} (h : Lst B c0 c1 w e o L) (hx : Ext w w') : Lst B c0 c1 w' e o L := by
  obtain ⟨h1, h2, ss, h3, h4, h5, h6⟩ := h
  exact ⟨h1.ext hx, h2.ext hx, ss, h3.ext hx, h4, fun i x y hi hj => (h5 i x y hi hj).ext hx, h6⟩
theorem link_Letters_1_spec {c0 c1 : Addr} {e0 : Int} {o : Sl} {L : List (List UInt8)} {K : Unit → World → Prop} (ht : Utf8T w) (hc : CrcT w) (h : MsgAt w m xs img) (h40 : xs.length ≤ 40) (hs : Lst B c0 c1 w e0 o L) (h0 : c0.block < B) (h1 : c1.block < B) (hne : c0.block ≠ c1.block) (hB : B ≤ w.heap.size) (hL : L.length ≤ 100)
    (hK : ∀ e w' o', TagE v m xs img.length e → (e ≠ 0 → Lst B c0 c1 w' e o L) → (e = 0 → Lst B c0 c1 w' e0 o' (L ++ [letterB v m xs img])) → NewOr w o o' → (∀ k, k < w.heap.size → k ≠ c0.block → k ≠ c1.block → o.blk ≠ some k → w'.heap[k]? = w.heap[k]?) → Fq B c0.block c1.block w w' → K () w') : link_Links_Letters_1 v m c0 c1 K w := by
  unfold link_Links_Letters_1
  obtain ⟨g1, g2, ss, g3, g4, g5, g6⟩ := hs
  have olt := g3.lt
  refine new_x (Ext.rfl' w) fun b1 w2 hb1 hl1 hx hn2 => ?_
  have z2 := hx.size
  refine tag_Wrap_calls (m := m) (tag_Wrap_spec (ht.ext hx) (hc.ext hx) (h.ext hx) h40 fun r w4 hr hx' => kp_ext hx' ?_)
  have hx := hx.trans' hx'
  have z4 := hx'.size
  obtain ⟨e, he, hr⟩ := hr
  have f4 : Fq B c0.block c1.block w w4 := (Fq.refl hB).ex hx
  have g2 := g2.ext hx
  have g3 := g3.ext hx
  have g5 : ∀ (i : Nat) x y, ss[i]? = some x → L[i]? = some y → OwnSl eB w4 B x y := fun i x y hi hj => (g5 i x y hi hj).ext hx
  refine ifNe (fun hr0 => ?_) (fun hr0 => ?_)
  · obtain ⟨k0, rfl⟩ : e ≠ 0 ∧ r = (Sl.nil, e) := hr.resolve_right fun k => hr0 k.2.1
    refine st_obj0 (by kernel_rfl) (g1.ext hx) rfl (by simp) fun w5 hw5 ho5 => kp_wr hw5 (by omega) ?_
    refine hK e w5 o he (fun _ => ⟨ho5, g2.keep (hw5.block _ (Ne.symm hne)), ss, g3.wrO hw5 h0, g4, fun i x y hi hj => (g5 i x y hi hj).wrO hw5 h0, g6⟩) (fun k => absurd k k0) (.same _ _) (fun k hk hk0 _ _ => (hw5.block k hk0).trans (hx.block k hk)) (f4.gr (grown_wr hw5) fun r hr => by cases hr; exact .inl rfl)
  obtain ⟨k0, _, k2⟩ : e = 0 ∧ r.2 = 0 ∧ OwnSl eB w4 w2.heap.size r.1 (letterB v m xs img) := hr.resolve_left fun k => k.1 (by rw [k.2] at hr0; exact hr0)
  refine ld_obj0 (by kernel_rfl) g2 rfl ?_
  refine lit1_ty (E := eSl) 24 (x := r.1) w.heap.size (by kernel_rfl) (by decide) (fun w => by kernel_rfl) (by omega) fun t7 w8 _ ho7 hx8 => kp_ext hx8 ?_
  have z8 := hx8.size
  have rlt := k2.lt
  refine app_ty2 24 (by kernel_rfl) (by kernel_rfl) (g3.ext hx8) ho7.is (by simp only [List.length_singleton]; omega) (by omega) (by decide) fun t9 w10 ho9 hg hnew => kp_grown hg (fun e => ?_) ?_
  · have := olt b1 e.symm
    omega
  have f10 : Fq B c0.block c1.block w w10 := (f4.ex hx8).gr hg fun r hr => .inr (.inr (g3.ge r hr))
  have z10 := hg.size
  have lo : ∀ {x : Sl} {y : List UInt8} {D : Nat}, OwnSl eB w8 D x y → (∀ c, x.blk = some c → o.blk ≠ some c) → OwnSl eB w10 D x y := fun hxy hd => hxy.grownB hg fun c hcb e => hd c hcb e.symm
  have rnew : ∀ c, r.1.blk = some c → o.blk ≠ some c := fun c hcb e => by
    have := k2.ge c hcb
    have := olt c e
    omega
  have g2' : Vc.Obj w10 c1 [o.val] := (g2.ext hx8).keep (hg.block _ (g2.ext hx8).lt (fun e => by have := g3.ge _ e.symm; omega))
  have g1' : Vc.Obj w10 c0 [.int .i64 e0] := ((g1.ext hx).ext hx8).keep (hg.block _ ((g1.ext hx).ext hx8).lt (fun e => by have := g3.ge _ e.symm; omega))
  refine st_obj0 (by kernel_rfl) g2' rfl (by simp) fun w11 hw11 ho11 => kp_wr hw11 (by omega) ?_
  refine hK e w11 t9 he (fun k => absurd k0 k) (fun _ => ⟨g1'.keep (hw11.block _ hne), ho11, ss ++ [r.1], ho9.wrO hw11 h1, by simp [g4], fun i x y hi hj => ?_, fun i x hi c hcb => ?_⟩) (hnew.mono (by omega)) (fun k hk hk0 hk1 hko => (hw11.block k hk1).trans ((hg.block k (by omega) (fun e => hko e.symm)).trans ((hx.trans' hx8).block k hk))) (f10.gr (grown_wr hw11) fun r hr => by cases hr; exact .inr (.inl rfl))
  · rcases Nat.lt_or_ge i ss.length with hil | hil
    · rw [List.getElem?_append_left hil] at hi
      rw [List.getElem?_append_left (by omega)] at hj
      exact (lo ((g5 i x y hi hj).ext hx8) (g6 i x hi)).wrO hw11 h1
    · rw [List.getElem?_append_right hil] at hi
      rw [List.getElem?_append_right (by omega), ← g4] at hj
      have hi0 : i - ss.length = 0 := by
        have := (List.getElem?_eq_some_iff.1 hi).1
        simp only [List.length_singleton] at this
        omega
      rw [hi0] at hi hj
      cases hi
      cases hj
      exact ((lo (k2.ext hx8) rnew).wrO hw11 (by omega)).mono (by omega)
  · have hd : (∀ c, x.blk = some c → o.blk ≠ some c) ∧ ∀ c, x.blk = some c → c < w8.heap.size := by
      rcases Nat.lt_or_ge i ss.length with hil | hil
      · rw [List.getElem?_append_left hil] at hi
        refine ⟨g6 i x hi, fun c hcb => ?_⟩
        have hiL : i < L.length := by omega
        exact ((g5 i x _ hi (List.getElem?_eq_getElem hiL)).ext hx8).lt c hcb
      · rw [List.getElem?_append_right hil] at hi
        have hi0 : i - ss.length = 0 := by
          have := (List.getElem?_eq_some_iff.1 hi).1
          simp only [List.length_singleton] at this
          omega
        rw [hi0] at hi
        cases hi
        exact ⟨rnew, (k2.ext hx8).lt⟩
    exact hnew.ne (hd.2 c hcb) (hd.1 c hcb)
/-- The older form of a message. -/
def olderM (m : ApiMsg) : ApiMsg := { m with Version := imin m.Version 1 }
def greets (m : ApiMsg) : Prop := m.Kind = 1 ∨ m.Kind = 2
instance (m : ApiMsg) : Decidable (greets m) := by unfold greets; exact inferInstance
/-- What is told to another node. -/
def LetR (w' : World) (v sp : Int) (m : ApiMsg) (xs : List ApiEntry) (img : List UInt8) (r : Sl × Int) : Prop :=
  (greets m ∧ sp = 1 ∧ r.2 = 0 ∧ ∃ ss, RowsAt w' r.1 (letterB 1 (olderM m) xs img :: if v = 2 then [letterB 2 m xs img] else []) ss) ∨
  (¬ (greets m ∧ sp = 1) ∧ ∃ e, TagE sp m xs img.length e ∧ ((e ≠ 0 ∧ r = (Sl.nil, e)) ∨ (e = 0 ∧ r.2 = 0 ∧ ∃ ss, RowsAt w' r.1 [letterB sp m xs img] ss)))
theorem older_ok (hok : MsgOk m xs img.length) (hg : greets m) : MsgOk (olderM m) xs img.length ∧ Old (olderM m) xs ∧ (m.Version = 1 ∨ m.Version = 2) ∧ xs = [] ∧ (olderM m).Version = 1 := by
  have hv : m.Version = 1 ∨ m.Version = 2 := hok.rng.2.2.2.2 (by rcases hg with h | h <;> rw [h] <;> rfl)
  have he : xs = [] := hok.form.2.2.2.2.1 (by rcases hg with h | h <;> rw [h] <;> rfl)
  have hm : imin m.Version 1 = 1 := by unfold imin; split <;> omega
  refine ⟨⟨hok.kind, ⟨hok.rng.1, hok.rng.2.1, hok.rng.2.2.1, hok.rng.2.2.2.1, fun _ => .inl hm⟩, hok.long, hok.ents, hok.form.1, hok.form.2.1, hok.form.2.2.1, fun h => ?_, hok.form.2.2.2.2⟩, ⟨?_, ?_⟩, hv, he, hm⟩
  · have : mV m.Kind = false := h
    rcases hg with k | k <;> rw [k] at this <;> cases this
  · rw [he]; intro x hx; cases hx
  · show imin m.Version 1 ≤ 1
    omega
theorem Lst.rows {c0 c1 : Addr} {e : Int} {o : Sl} {L : List (List UInt8)} (h : Lst B c0 c1 w e o L) : ∃ ss, RowsAt w o L ss := by
  obtain ⟨h1, h2, ss, h3, h4, h5, h6⟩ := h
  exact ⟨ss, ⟨h3.is, h4, fun i x y hi hj => (h5 i x y hi hj).is⟩⟩
theorem link_Letters_spec {K : Sl × Int → World → Prop} (ht : Utf8T w) (hc : CrcT w) (hk : Lk w a n v sd) (h : MsgAt w m xs img) (hok : MsgOk m xs img.length) (h40 : xs.length ≤ 40) (hfrom : m.From = n) (hv : v = 1 ∨ v = 2) (hs : sd.getD m.To.toNat 0 = 0 ∨ sd.getD m.To.toNat 0 = 1 ∨ sd.getD m.To.toNat 0 = 2)
    (hK : ∀ r w', LetR w' v (spokenN v (sd.getD m.To.toNat 0)) m xs img r → Ext w w' → K r w') : link_Links_Letters (some a) m K w := by
  unfold link_Links_Letters
  refine new_x (Ext.rfl' w) fun b1 w2 hb1 hl1 hx hn2 => ?_
  refine drew_of fun w3 hx' => ?_
  have hx := hx.trans' hx'
  have z3 := hx'.size
  refine eqPtrNil (by kernel_rfl) fun b hb => ifB_f hb ?_
  refine nil_rd rfl (ld_obj (by kernel_rfl) (hk.obj.ext hx) rfl ?_)
  refine ifNe (fun h => absurd hfrom h) (fun _ => ?_)
  refine alloc_ty (z := Sl.nil.val) (by kernel_rfl) fun c1 w8 hc1 hx8 ho1 => kp_ext hx8 ?_
  have hx := hx.trans' hx8
  refine alloc_ty (z := .int .i64 0) (by kernel_rfl) fun c0 w10 hc0 hx10 ho0 => kp_ext hx10 ?_
  have hx := hx.trans' hx10
  have z8 := ho1.lt
  have z10 := ho0.lt
  have zz := hx10.size
  refine st_obj0 (by kernel_rfl) ho0 rfl (by simp [Value.cells]) fun w11 hw11 ho0 => kp_wr hw11 (by omega) ?_
  have hx : Ext w w11 := Below.wr hx (by omega) hw11
  have z11 := hw11.size
  have hne : c0.block ≠ c1.block := by omega
  have hL : Lst w11.heap.size c0 c1 w11 0 Sl.nil [] := ⟨ho0, (ho1.ext hx10).keep (hw11.block _ (Ne.symm hne)), [], .nil _ _ _, rfl, fun i x y hi => (by cases hi), fun i x hi => (by cases hi)⟩
  have hto : NodeOk m.To := hok.rng.1.2.1
  refine link_Links_Spoken_calls (link_Spoken_spec (hk.ext hx) hto hv hs fun w13 hx' => kp_ext hx' ?_)
  have hx := hx.trans' hx'
  have hL := hL.ext hx'
  have z13 := hx'.size
  generalize hsp : spokenN v (sd.getD m.To.toNat 0) = sp at hK ⊢
  have hsp12 : sp = 1 ∨ sp = 2 := by
    rw [← hsp]
    unfold spokenN imin
    split
    · exact .inl rfl
    · split <;> omega
  have himax : imax sp 1 = sp := by unfold imax; split <;> omega
  rw [himax]
  refine link_greets_calls (link_greets_spec fun t hg => kp_same ?_)
  have lt0 : c0.block < w11.heap.size := by omega
  have lt1 : c1.block < w11.heap.size := by omega
  -- one letter in the version that is spoken
  have single : ¬ (greets m ∧ sp = 1) → callV Pr uval fid_link_Links_Letters_1 #[(.int .i64 sp), (.agg ⟨m.cs⟩), (.pointer (some c0)), (.pointer (some c1))] w13 fun t40 w41 => kp b1 w13 w41 <|
      opRd Pr (Instr.loadAt 31 (.pointer (some c0))) (Value.int .i64) (fun t42 => ifB (t42 != 0)
        (drewM (fun w43 => opRd Pr (Instr.loadAt 31 (.pointer (some c0))) (Value.int .i64) (fun t44 => K (Sl.nil, t44) w43) w43) w41)
        (opRd Pr (Instr.loadAt 65 (.pointer (some c1))) Sl.val (fun t45 => K (t45, 0) w41) w41)) w41 := fun hng => by
    refine link_Links_Letters_1_calls (x := m) (link_Letters_1_spec (ht.ext hx) (hc.ext hx) (h.ext hx) h40 hL lt0 lt1 hne z13 (by simp) fun e w41 o' he hbad hgood _ _ hf => kp_fq hf (by omega) (by omega) (by omega) ?_)
    have hx := hf.ext hx (by omega) (by omega) (by omega)
    by_cases e0 : e = 0
    · have hL := hgood e0
      refine ld_obj0 (by kernel_rfl) hL.bad rfl (ifNe (fun h => absurd rfl h) (fun _ => ?_))
      exact ld_obj0 (by kernel_rfl) hL.var rfl (hK _ _ (.inr ⟨hng, e, he, .inr ⟨e0, rfl, hL.rows⟩⟩) hx)
    · have hL := hbad e0
      refine ld_obj0 (by kernel_rfl) hL.bad rfl (ifNe (fun _ => ?_) (fun h => absurd h e0))
      refine drew_of fun w43 hx' => ld_obj0 (by kernel_rfl) (hL.bad.ext hx') rfl (hK _ _ (.inr ⟨hng, e, he, .inl ⟨e0, rfl⟩⟩) (hx.trans' hx'))
  refine ifB_of (fun hgt => ?_) (fun hgt => single fun k => by rw [hg.2 k.1] at hgt; cases hgt)
  have hgr : greets m := hg.1 hgt
  refine ifEq (fun h1 => ?_) (fun h1 => single fun k => h1 k.2)
  obtain ⟨ok1, old1, hv1, hnil, hver⟩ := older_ok hok hgr
  refine new_of fun b16 w17 hn17 => wr_of fun w18 hw18 => wr_of fun w19 hw19 => ?_
  have e17 := hn17.1
  have hx19 : Ext w13 w19 := Below.wr (Below.wr (Ext.new hn17) (by omega) hw18) (by omega) hw19
  have hx := hx.trans' hx19
  have z19 := hx19.size
  have e1 : imin m.Version 1 = (olderM m).Version := rfl
  have k16 : ∀ {o : Sl} {u u' : World} {X : Prop}, o.blk ≠ some b16 → (∀ k, k < u.heap.size → k ≠ c0.block → k ≠ c1.block → o.blk ≠ some k → u'.heap[k]? = u.heap[k]?) → X → kp b16 u u' X := fun h2 h x => ⟨fun hb => h _ hb (by omega) (by omega) h2, x⟩
  refine link_Links_Letters_1_calls (x := olderM m) (link_Letters_1_spec (m := olderM m) (ht.ext hx) (hc.ext hx) ⟨(h.ext hx).es, (h.ext hx).im⟩ h40 (hL.ext hx19) lt0 lt1 hne (by omega) (by simp) fun e w21 o1 he hbad hgood hnew hfr hf => k16 (fun e => by cases e) hfr (kp_fq hf (by omega) (by omega) (by omega) ?_))
  have hx := hf.ext hx (by omega) (by omega) (by omega)
  have z21 := hf.size
  have e0 : e = 0 := he.uniq (tagE_of (.inl rfl) ok1 fun _ => old1)
  have hL := hgood e0
  have l17 := hn17.lt
  have s18 := hw18.size
  have s19 := hw19.size
  refine nil_rd rfl (ld_obj (by kernel_rfl) (hk.obj.ext hx) rfl ?_)
  refine ifEq (fun hv2 => ?_) (fun hv2 => ?_)
  · refine link_Links_Letters_1_calls (x := m) (link_Letters_1_spec (ht.ext hx) (hc.ext hx) (h.ext hx) h40 hL lt0 lt1 hne (by omega) (by simp) fun e w25 o2 he hbad hgood hnew2 hfr hf => k16 (fun e => ?_) hfr (kp_fq hf (by omega) (by omega) (by omega) ?_))
    · rcases hnew with k | ⟨c, k1, k2⟩
      · rw [k] at e; cases e
      · rw [k1] at e; cases e
        omega
    have hx := hf.ext hx (by omega) (by omega) (by omega)
    have e0 : e = 0 := he.uniq (tagE_of (.inr rfl) hok fun h => by cases h)
    have hL := hgood e0
    refine ld_obj0 (by kernel_rfl) hL.bad rfl (ifNe (fun h => absurd rfl h) (fun _ => ?_))
    refine ld_obj0 (by kernel_rfl) hL.var rfl (hK _ _ (.inl ⟨hgr, h1, rfl, ?_⟩) hx)
    rw [if_pos hv2]
    exact hL.rows
  · refine ld_obj0 (by kernel_rfl) hL.bad rfl (ifNe (fun h => absurd rfl h) (fun _ => ?_))
    refine ld_obj0 (by kernel_rfl) hL.var rfl (hK _ _ (.inl ⟨hgr, h1, rfl, ?_⟩) hx)
    rw [if_neg hv2]
    exact hL.rows
/-! ### Opening -/
theorem OpenR.turn {C : Nat} {w'' : World} {r : ApiMsg × Int × Int} (h : OpenR B w' v l r) (h1 : ∀ s xs, OwnSl eApiEntry w' B s xs → OwnSl eApiEntry w'' C s xs) (h2 : ∀ s xs, OwnSl eB w' B s xs → OwnSl eB w'' C s xs) : OpenR C w'' v l r := by
  rcases h with h | h | h | ⟨hv, hf, hq, c, cs, hcs, h | ⟨hcv, d, hd, hk⟩⟩
  · exact .inl h
  · exact .inr (.inl h)
  · exact .inr (.inr (.inl h))
  · exact .inr (.inr (.inr ⟨hv, hf, hq, c, cs, hcs, .inl h⟩))
  · exact .inr (.inr (.inr ⟨hv, hf, hq, c, cs, hcs, .inr ⟨hcv, d, hd.turn h1 h2, hk⟩⟩))
/-- What a node opens. -/
def LOpenR (B : Nat) (w' : World) (n v : Int) (l : List UInt8) (r : ApiMsg × Int) : Prop :=
  ∃ q, OpenR B w' v l q ∧ ((q.2.2 ≠ 0 ∧ r = (zMsg, q.2.2)) ∨ (q.2.2 = 0 ∧ q.1.To ≠ n ∧ r = (zMsg, 10)) ∨ (q.2.2 = 0 ∧ q.1.To = n ∧ r = (q.1, 0)))
theorem link_Open_spec {K : ApiMsg × Int → World → Prop} (ht : Utf8T w) (hc : CrcT w) (hk : Lk w a n v sd) (hb : IsSl eB w b l) (hl : l.length ≤ 140737488355328) (hK : ∀ r w', LOpenR w.heap.size w' n v l r → Ext w w' → K r w') : link_Links_Open (some a) b K w := by
  unfold link_Links_Open
  refine new_x (Ext.rfl' w) fun b1 w2 hb1 hl1 hx hn2 => ?_
  have z2 := hx.size
  refine eqPtrNil (by kernel_rfl) fun t htt => ifB_f htt ?_
  refine nil_rd rfl (ld_obj (by kernel_rfl) (hk.obj.ext hx) rfl ?_)
  refine tag_Open_calls (tag_Open_spec (ht.ext hx) (hc.ext hx) (hb.ext hx) hl fun q w8 hq hx' => kp_ext hx' ?_)
  have hx := hx.trans' hx'
  have z8 := hx'.size
  refine new_of fun b9 w10 hn10 => wr_of fun w11 hw11 => ?_
  have e10 := hn10.1
  have hx11 : Ext w8 w11 := Below.wr (Ext.new hn10) (by omega) hw11
  have hx := hx.trans' hx11
  have fin : ∀ {r : ApiMsg × Int} {u : World}, ((q.2.2 ≠ 0 ∧ r = (zMsg, q.2.2)) ∨ (q.2.2 = 0 ∧ q.1.To ≠ n ∧ r = (zMsg, 10)) ∨ (q.2.2 = 0 ∧ q.1.To = n ∧ r = (q.1, 0))) → Ext w8 u → Ext w u → wrM b1 (fun w12 => K r w12) u := fun hr hx8 hx =>
    wr_x hx hb1 fun w12 hx12 hw12 => hK _ _ ⟨q, hq.turn (fun _ _ k => ((k.ext hx8).wrO hw12 (by omega)).mono (by omega)) (fun _ _ k => ((k.ext hx8).wrO hw12 (by omega)).mono (by omega)), hr⟩ hx12
  refine ifNe (fun h0 => fin (.inl ⟨h0, rfl⟩) hx11 hx) (fun h0 => ?_)
  refine drew_of fun w13 hx13 => ?_
  have hx := hx.trans' hx13
  refine nil_rd rfl (ld_obj (by kernel_rfl) (hk.obj.ext hx) rfl ?_)
  refine ifNe (fun h1 => fin (.inr (.inl ⟨h0, h1, rfl⟩)) (hx11.trans' hx13) hx) (fun h1 => ?_)
  exact fin (.inr (.inr ⟨h0, h1, rfl⟩)) (hx11.trans' hx13) hx
end Go.Chg
