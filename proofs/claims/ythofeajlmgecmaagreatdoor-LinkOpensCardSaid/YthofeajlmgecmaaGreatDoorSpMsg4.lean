/-
  Package 'msgone': decode.
-/
import Derived.Test.YthofeajlmgecmaaGreatDoorMD
set_option maxRecDepth 20000
set_option linter.unusedVariables false
namespace Go.Chg
open Go.Vc
variable {w : World} {m : ApiMsg} {xs : List ApiEntry} {img l : List UInt8} {v p no : Int} {s : Sl}
/-- The cells of a message of which some numbers are read. -/
def cellsM (ns : List Int) (ver : Int) (es im : Sl) : List Value := (mkM ns ver es im).cs
theorem cellsM_set {ns : List Int} {k : Nat} {n : Int} (h7 : k < 7) (hl : ns.length = k) : (cellsM ns 0 Sl.nil Sl.nil).set k (.int .i64 n) = cellsM (ns ++ [n]) 0 Sl.nil Sl.nil := by
  rcases seven h7 with rfl | rfl | rfl | rfl | rfl | rfl | rfl
  · match ns, hl with
    | [], _ => rfl
  · match ns, hl with
    | [a], _ => rfl
  · match ns, hl with
    | [a, b], _ => rfl
  · match ns, hl with
    | [a, b, c], _ => rfl
  · match ns, hl with
    | [a, b, c, d], _ => rfl
  · match ns, hl with
    | [a, b, c, d, e], _ => rfl
  · match ns, hl with
    | [a, b, c, d, e, f], _ => rfl
theorem verOf_eq (ns : List Int) : (bAnd .i64 (fieldsM (ns.getD 0 0)) 8 != 0) = mV (ns.getD 0 0) := (nbits _).2.2.2.1
theorem msgone_read_spec {r : Addr} {K : ApiMsg → World → Prop} (hr : Rd w r l p no) (hl : l.length ≤ 140737488355328)
    (hK : ∀ es im w', OwnSl eApiEntry w' w.heap.size es (rdM1 l p no).1.2.1 → OwnSl eB w' w.heap.size im (rdM1 l p no).1.2.2 → Rd w' r l (rdM1 l p no).2.1 (rdM1 l p no).2.2 → w.grownBy w' (some r.block) → K (mkM (rdM1 l p no).1.1 (verOf (rdM1 l p no).1.1) es im) w') : msgone_read (some r) K w := by
  unfold msgone_read
  have hlt := hr.lt
  refine new_x (Ext.rfl' w) fun b1 w2 hb1 hl1 hx hn2 => ?_
  have e1 := hn2.1
  refine alloc_ty (z := .agg ⟨cellsM [] 0 Sl.nil Sl.nil⟩) (by kernel_rfl) fun a w4 ha hx4 ho4 => kp_ext hx4 ?_
  have z2 := (Ext.new hn2).size
  have hx := hx.trans' hx4
  have hb1a : b1 ≠ a.block := by omega
  have hb1r : b1 ≠ r.block := by omega
  have hra : r.block < a.block := by omega
  have spot := ho4.1
  have h7 : ∀ n, (rdList (rdN l) p no n).1.length = n := rdList_len
  refine up1 (fun k w' => Vc.Obj w' a (cellsM (rdList (rdN l) p no k).1 0 Sl.nil Sl.nil) ∧ Rd w' r l (rdList (rdN l) p no k).2.1 (rdList (rdN l) p no k).2.2 ∧ Two r.block a.block w4 w') 0 7 rfl (by decide) (by decide) ⟨ho4, hr.ext hx, Two.refl _⟩ ?_
  rintro k w7 C _ hk ⟨ho, hr7, h2⟩ hC
  have z7 : w4.heap.size ≤ w7.heap.size := h2.size
  have la := ho.lt
  refine ifD (fun hlt' => ?_) (fun hge => ?_)
  · have hk7 : k < 7 := by omega
    have one : ∀ {t3 : Nat} {q : Addr}, sizeT Pr t3 = some 1 → q = a.add k → callV Pr (Value.int .i64) fid_pack_Reader_Number #[(.pointer (some r)), (.int .i64 9223372036854775807)] w7 fun t9 w10 => kp b1 w7 w10 <|
        opRd Pr (nilSem (.pointer (some q))) pav (fun t11 => opUn Pr (Instr.storeAt t3 (.pointer (some t11)) (.int .i64 t9)) (fun w12 => kp b1 w10 w12 <| C (i64 ((k : Int) + 1)) w12) w10) w10 := fun {t3 q} ht3 hq => by
      refine pack_Reader_Number_calls (pack_Reader_Number_spec hr7 fun w10 hr10 hg10 => kp_grown hg10 (fun e => hb1r (Option.some.inj e)) ?_)
      have ho10 := ho.keep (hg10.block _ la (fun e => by have := Option.some.inj e; omega))
      refine nil_rd rfl ?_
      rw [hq]
      refine st_obj ht3 ho10 rfl (by show k < 10; omega) fun w12 hw12 ho12 => kp_wr hw12 hb1a (hC hk7 _ _ rfl ⟨?_, ?_, ?_⟩)
      · simp only [rdList]
        rw [cellsM_set hk7 (h7 k)] at ho12
        exact ho12
      · simp only [rdList]
        exact hr10.wr hw12 hra
      · exact (h2.trans (Two.grown hg10)).trans (Two.wr hw12)
    rcases seven hk7 with rfl | rfl | rfl | rfl | rfl | rfl | rfl
    · exact ⟨some (a.add 0), by kernel_rfl, one (by kernel_rfl) rfl⟩
    · exact ⟨some (a.add 1), by kernel_rfl, one (by kernel_rfl) rfl⟩
    · exact ⟨some (a.add 2), by kernel_rfl, one (by kernel_rfl) rfl⟩
    · exact ⟨some ((a.add 3).add 0), by kernel_rfl, one (by kernel_rfl) (addr_add2 a spot 3 0)⟩
    · exact ⟨some ((a.add 3).add 1), by kernel_rfl, one (by kernel_rfl) (addr_add2 a spot 3 1)⟩
    · exact ⟨some (a.add 5), by kernel_rfl, one (by kernel_rfl) rfl⟩
    · exact ⟨some (a.add 6), by kernel_rfl, one (by kernel_rfl) rfl⟩
  obtain rfl : k = 7 := by omega
  unfold rdM1 at hK
  dsimp only at hK
  generalize hns : rdList (rdN l) p no 7 = ns at ho hr7 hK
  have hlen7 : ns.1.length = 7 := by rw [← hns]; exact h7 7
  have B7 : w.heap.size ≤ w7.heap.size := by have := hx.size; omega
  refine entry_Get_calls (entry_Get_spec hr7 hl fun es w14 hes hr14 hg14 => kp_grown hg14 (fun e => hb1r (Option.some.inj e)) ?_)
  have ho14 := ho.keep (hg14.block _ la (fun e => by have := Option.some.inj e; omega))
  refine st_obj (off := 8) (by kernel_rfl) ho14 rfl (by show 8 < 10; decide) fun w15 hw15 ho15 => kp_wr hw15 hb1a ?_
  have hr15 := hr14.wr hw15 hra
  have hes15 := hes.wrO hw15 la
  have ho15 : Vc.Obj w15 a (cellsM ns.1 0 es Sl.nil) := ho15
  have la15 := ho15.lt
  have z14 := hg14.size
  have s15 := hw15.size
  refine pack_Reader_Raw_calls (pack_Reader_Raw_spec hr15 hl fun im w17 him hr17 hg17 => kp_grown hg17 (fun e => hb1r (Option.some.inj e)) ?_)
  have ho17 := ho15.keep (hg17.block _ la15 (fun e => by have := Option.some.inj e; omega))
  have hesr : ∀ b, es.blk = some b → some b ≠ some r.block := fun b hb e => by have := hes.ge b hb; cases e; omega
  have hes17 := hes15.grownB hg17 hesr
  refine st_obj (off := 9) (by kernel_rfl) ho17 rfl (by show 9 < 10; decide) fun w18 hw18 ho18 => kp_wr hw18 hb1a ?_
  have ho18 : Vc.Obj w18 a (cellsM ns.1 0 es im) := ho18
  have hr18 := hr17.wr hw18 hra
  have hes18 := hes17.wrO hw18 (by omega)
  have him18 := him.wrO hw18 (by omega)
  have t18 : Two r.block a.block w4 w18 := ((((h2.trans (Two.grown hg14)).trans (Two.wr hw15)).trans (Two.grown hg17)).trans (Two.wr hw18))
  have g18 : w.grownBy w18 (some r.block) := Two.one (y := a.block) (grown_ext hx _) (by have := (Ext.new hn2).size; omega) t18
  have z18 := t18.size
  refine ld_obj (off := 0) (y := ns.1.getD 0 0) (by kernel_rfl) ho18 rfl ?_
  refine msgone_fields_calls (msgone_fields_spec (kp_same ?_))
  rw [verOf_eq]
  have fin : ∀ {u : World}, w18.grownBy u (some a.block) → Vc.Obj u a (cellsM ns.1 (verOf ns.1) es im) → wrM b1 (fun w24 => K (mkM ns.1 (verOf ns.1) es im) w24) u := fun {u} hg ho => wr_of fun w24 hw24 => by
    have hru : Rd u r l (rdText l 32768 (rdEnts l 1 ns.2.1 ns.2.2).2.1 (rdEnts l 1 ns.2.1 ns.2.2).2.2).2.1 (rdText l 32768 (rdEnts l 1 ns.2.1 ns.2.2).2.1 (rdEnts l 1 ns.2.1 ns.2.2).2.2).2.2 := by
      obtain ⟨sr, r1, r2, r3, r4⟩ := hr18
      exact ⟨sr, r1.grownB hg fun b hb e => by have := r3 b hb; cases e; omega, r2.keep (hg.block _ r2.lt fun e => by have := Option.some.inj e; omega), r3, r4⟩
    have hesu := hes18.grownB hg fun b hb e => by have := hes.ge b hb; cases e; omega
    have himu := him18.grownB hg fun b hb e => by have := him.ge b hb; cases e; omega
    have zu := hg.size
    have le18 : ∀ b, es.blk = some b → b < w18.heap.size := fun b hb => hes18.lt b hb
    have ne1 : ∀ b, es.blk = some b → b ≠ b1 := fun b hb e => by have := hes.ge b hb; omega
    have ne2 : ∀ b, im.blk = some b → b ≠ b1 := fun b hb e => by have := him.ge b hb; omega
    have hes24 : OwnSl eApiEntry w24 w7.heap.size es (rdEnts l 1 ns.2.1 ns.2.2).1 := hesu.grownB (grown_wr hw24) fun b hb e => ne1 b hb (Option.some.inj e)
    have him24 : OwnSl eB w24 w15.heap.size im (rdText l 32768 (rdEnts l 1 ns.2.1 ns.2.2).2.1 (rdEnts l 1 ns.2.1 ns.2.2).2.2).1 := himu.grownB (grown_wr hw24) fun b hb e => ne2 b hb (Option.some.inj e)
    have hr24 := hru.wr hw24 (by omega)
    refine hK es im w24 (hes24.mono B7) (him24.mono (by omega)) hr24 ?_
    have ga : Two r.block a.block w18 u := ⟨hg.os, hg.tape, hg.output, hg.size, fun k hk _ hy => hg.block k hk fun e => hy (Option.some.inj e)⟩
    exact Two.one (y := b1) (Two.one (y := a.block) g18 (by omega) ga) hb1 (Two.wr hw24)
  unfold verOf at fin
  refine ifB_of (fun hv => ?_) (fun hv => ?_)
  · rw [if_pos hv] at fin
    refine st_obj (off := 7) (by kernel_rfl) ho18 rfl (by show 7 < 10; decide) fun w22 hw22 ho22 => kp_wr hw22 hb1a ?_
    have ho22 : Vc.Obj w22 a (cellsM ns.1 1 es im) := ho22
    refine ld_whole_obj (n := 10) (cs := cellsM ns.1 1 es im) (x := mkM ns.1 1 es im) (val := ApiMsg.val) (by kernel_rfl) ho22 rfl rfl ?_
    have := fin (grown_wr hw22) ho22
    unfold verOf at hK
    exact this
  · rw [if_neg (by rw [hv]; decide)] at fin
    refine ld_whole_obj (n := 10) (cs := cellsM ns.1 0 es im) (x := mkM ns.1 0 es im) (val := ApiMsg.val) (by kernel_rfl) ho18 rfl rfl ?_
    exact fin (grown_refl _ _) ho18
theorem done_all1 (l : List UInt8) : doneN l (l.length : Int) 0 = 0 := by
  unfold doneN
  rw [if_neg (by decide), if_neg (Int.lt_irrefl _)]
def zMsg : ApiMsg := ⟨0, 0, 0, ⟨0, 0⟩, 0, 0, 0, Sl.nil, Sl.nil⟩
/-- What bytes are, as a message in V1. -/
structure DecM (B : Nat) (w' : World) (l : List UInt8) (r : ApiMsg × Int) : Prop where
  bad : r.2 ≠ 0 → r.1 = zMsg
  good : r.2 = 0 → ∃ es im xs img, r.1 = mkM (rdM1 l 0 0).1.1 (verOf (rdM1 l 0 0).1.1) es im ∧ xs = (rdM1 l 0 0).1.2.1 ∧ img = (rdM1 l 0 0).1.2.2 ∧ OwnSl eApiEntry w' B es xs ∧ OwnSl eB w' B im img ∧ doneN l (rdM1 l 0 0).2.1 (rdM1 l 0 0).2.2 = 0 ∧ MsgOk r.1 xs img.length ∧ Old r.1 xs
  whole : doneN l (rdM1 l 0 0).2.1 (rdM1 l 0 0).2.2 = 0 → (∀ es im, MsgOk (mkM (rdM1 l 0 0).1.1 (verOf (rdM1 l 0 0).1.1) es im) (rdM1 l 0 0).1.2.1 (rdM1 l 0 0).1.2.2.length ∧ Old (mkM (rdM1 l 0 0).1.1 (verOf (rdM1 l 0 0).1.1) es im) (rdM1 l 0 0).1.2.1) → r.2 = 0
theorem msgone_Decode_spec {K : ApiMsg × Int → World → Prop} (ht : Utf8T w) (hb : IsSl eB w s l) (hl : l.length ≤ 140737488355328) (hK : ∀ r w', DecM w.heap.size w' l r → Ext w w' → K r w') : msgone_Decode s K w := by
  unfold msgone_Decode
  refine new_x (Ext.rfl' w) fun b1 w2 hb1 hl1 hx hn2 => ?_
  refine pack_NewReader_calls (pack_NewReader_spec (hb.ext hx) hl fun d w4 hd hr hx4 => kp_ext hx4 ?_)
  have z2 := (Ext.new hn2).size
  have z4 := hx4.size
  have hx := hx.trans' hx4
  have c4 := hr.lt
  refine msgone_read_calls (msgone_read_spec hr hl fun es im w6 hes him hr6 hg6 => kp_grown hg6 (fun e => by have := Option.some.inj e; omega) ?_)
  generalize hq : rdM1 l 0 0 = q at hes him hr6
  have hx := Ext.grown' hx hg6 (by omega)
  have z6 := hg6.size
  refine new_x hx fun b7 w8 hb7 hl7 hx hn8 => wr_x hx hb7 fun w9 hx hw9 => ?_
  have e7 := hn8.1
  have les := hes.lt
  have lim := him.lt
  have hes := (hes.ext (Ext.new hn8)).wrN hw9 les (by omega)
  have him := (him.ext (Ext.new hn8)).wrN hw9 lim (by omega)
  have hr9 := (hr6.ext (Ext.new hn8)).wr hw9 (by omega)
  refine pack_Reader_Done_calls (done_eq hr9 fun w11 hx11 => kp_ext hx11 (kp_ext hx11 ?_))
  have hx := hx.trans' hx11
  have hes := hes.ext hx11
  have him := him.ext hx11
  have hm : MsgAt w11 (mkM q.1.1 (verOf q.1.1) es im) q.1.2.1 q.1.2.2 := ⟨hes.is, him.is⟩
  have same : ∀ es' im', msgE (mkM q.1.1 (verOf q.1.1) es' im') q.1.2.1 q.1.2.2.length = msgE (mkM q.1.1 (verOf q.1.1) es im) q.1.2.1 q.1.2.2.length := fun _ _ => rfl
  have sold : ∀ es' im', Old (mkM q.1.1 (verOf q.1.1) es' im') q.1.2.1 ↔ Old (mkM q.1.1 (verOf q.1.1) es im) q.1.2.1 := fun _ _ => Iff.rfl
  have B0 : w.heap.size ≤ w4.heap.size := by omega
  -- the answer, told by its number
  refine ⟨fun e u => Ext w11 u ∧ (e = 0 → doneN l q.2.1 q.2.2 = 0 ∧ MsgOk (mkM q.1.1 (verOf q.1.1) es im) q.1.2.1 q.1.2.2.length) ∧ (doneN l q.2.1 q.2.2 = 0 → MsgOk (mkM q.1.1 (verOf q.1.1) es im) q.1.2.1 q.1.2.2.length → e = 0), ?_, ?_⟩
  · refine ifEq (fun h0 => ?_) (fun h0 => ⟨Ext.rfl' _, fun h => absurd h h0, fun h _ => absurd h h0⟩)
    refine msgone_Check_calls (m := mkM q.1.1 (verOf q.1.1) es im) (msgone_Check_spec (ht.ext hx) hm fun w14 hx' => kp_ext hx' (kp_ext hx' ⟨hx', fun h => ⟨h0, msgE_ok.1 h⟩, fun _ h => msgE_ok.2 h⟩))
  rintro e15 w16 ⟨hy, g1, g2⟩
  refine ⟨fun e u => Ext w11 u ∧ (e = 0 → doneN l q.2.1 q.2.2 = 0 ∧ MsgOk (mkM q.1.1 (verOf q.1.1) es im) q.1.2.1 q.1.2.2.length ∧ Old (mkM q.1.1 (verOf q.1.1) es im) q.1.2.1) ∧ (doneN l q.2.1 q.2.2 = 0 → MsgOk (mkM q.1.1 (verOf q.1.1) es im) q.1.2.1 q.1.2.2.length → Old (mkM q.1.1 (verOf q.1.1) es im) q.1.2.1 → e = 0), ?_, ?_⟩
  · refine ifEq (fun h0 => ?_) (fun h0 => ⟨hy, fun h => absurd h h0, fun a b _ => absurd (g2 a b) h0⟩)
    refine msgone_older_calls (m := mkM q.1.1 (verOf q.1.1) es im) (msgone_older_spec (hm.es.ext hy) fun t w19 ht hx' => kp_ext hx' (kp_ext hx' ?_))
    exact ifNot (ifB_of (fun h => ⟨hy.trans' hx', fun _ => ⟨(g1 h0).1, (g1 h0).2, ht.1 h⟩, fun _ _ _ => h0⟩) (fun h => ⟨hy.trans' hx', fun h' => absurd h' (by decide), fun _ _ h' => by rw [ht.2 h'] at h; cases h⟩))
  rintro e20 w21 ⟨hy, g3, g4⟩
  have hx21 := hx.trans' hy
  have hwh : (doneN l q.2.1 q.2.2 = 0 → (∀ es im, MsgOk (mkM q.1.1 (verOf q.1.1) es im) q.1.2.1 q.1.2.2.length ∧ Old (mkM q.1.1 (verOf q.1.1) es im) q.1.2.1) → e20 = 0) := fun h h' => g4 h (h' es im).1 (h' es im).2
  refine ifNe (fun h => wr_x hx21 hb1 fun w22 hx22 _ => hK _ _ ⟨fun _ => rfl, fun h' => absurd h' h, fun h1 h2 => absurd (by rw [hq] at h1 h2; exact hwh h1 h2) h⟩ hx22) (fun h => wr_x hx21 hb1 fun w23 hx23 hw23 => hK _ _ ⟨fun h' => absurd rfl h', fun _ => ?_, fun _ _ => rfl⟩ hx23)
  obtain ⟨k1, k2, k3⟩ := g3 h
  have hes := hes.ext hy
  have him := him.ext hy
  have hes := hes.wrO hw23 (by omega)
  have him := him.wrO hw23 (by omega)
  rw [hq]
  exact ⟨es, im, q.1.2.1, q.1.2.2, rfl, rfl, rfl, hes.mono B0, him.mono B0, k1, k2, k3⟩
/-- What was decoded has these bytes. -/
theorem DecM.inv {B : Nat} {w' : World} {r : ApiMsg × Int} (h : DecM B w' l r) (h0 : r.2 = 0) : ∃ xs img, OwnSl eApiEntry w' B r.1.Entries xs ∧ OwnSl eB w' B r.1.Image img ∧ MsgOk r.1 xs img.length ∧ Old r.1 xs ∧ l = msg1B r.1 xs img := by
  obtain ⟨es, im, xs, img, h1, h2, h3, h4, h5, h6, h7, h8⟩ := h.good h0
  obtain ⟨k1, k2⟩ := doneN_0 h6
  obtain ⟨_, t, t7, _⟩ := rdM1_inv k1
  refine ⟨xs, img, by rw [h1]; exact h4, by rw [h1]; exact h5, h7, h8, ?_⟩
  have := t.whole k2
  unfold msg1B
  rw [h1, numsL_mk t7, h2, h3]
  exact this
/-- What was encoded is decoded as it was. -/
theorem DecM.took {B : Nat} {w' : World} {r : ApiMsg × Int} (hok : MsgOk m xs img.length) (hold : Old m xs) (h : DecM B w' (msg1B m xs img) r) : r.2 = 0 ∧ ∃ ys jmg, OwnSl eApiEntry w' B r.1.Entries ys ∧ OwnSl eB w' B r.1.Image jmg ∧ MsgEq r.1 m ys xs jmg img := by
  have hrd : rdM1 (msg1B m xs img) 0 0 = ((numsL m, xs, img), ((msg1B m xs img).length : Int), 0) := by
    refine rdM1_took (Took.all _) rfl (nums_le hok) (fun x hx => entOk_fit (hok.each x hx) fun _ h5 => ?_) hok.few hok.img
    have := (hold.1 x hx).2.2 h5
    omega
  have hver : verOf (numsL m) = m.Version := by
    unfold verOf
    show (if mV m.Kind = true then (1 : Int) else 0) = m.Version
    have h1 := hold.2
    cases hv : mV m.Kind
    · rw [hok.form.2.2.2.1 hv]; rfl
    · have := hok.rng.2.2.2.2 hv
      simp only [if_true]
      omega
  have mk : ∀ es im, MsgOk (mkM (numsL m) (verOf (numsL m)) es im) xs img.length ∧ Old (mkM (numsL m) (verOf (numsL m)) es im) xs := fun es im => by
    rw [hver]
    exact ⟨msgE_ok.1 (show msgE m xs img.length = 0 from msgE_ok.2 hok), hold⟩
  have h0 : r.2 = 0 := h.whole (by rw [hrd]; exact done_all1 _) (fun es im => by rw [hrd]; exact mk es im)
  obtain ⟨es, im, ys, jmg, h1, h2, h3, h4, h5, _, _, _⟩ := h.good h0
  rw [hrd] at h1 h2 h3
  rw [hver] at h1
  refine ⟨h0, ys, jmg, by rw [h1]; exact h4, by rw [h1]; exact h5, ?_, h2, h3⟩
  rw [h1]
  exact ⟨rfl, rfl, rfl, rfl, rfl, rfl, rfl⟩
end Go.Chg
