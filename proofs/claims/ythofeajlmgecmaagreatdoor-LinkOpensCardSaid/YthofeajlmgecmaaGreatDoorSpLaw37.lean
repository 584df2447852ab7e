/-
  The law of chapter 37: LinkOpens.
-/
import Derived.Test.YthofeajlmgecmaaGreatDoorSpLink
set_option maxRecDepth 20000
set_option linter.unusedVariables false
namespace Go.Chg
open Go.Vc
variable {w w' : World} {m : ApiMsg} {xs : List ApiEntry} {img l : List UInt8} {n v u : Int} {s b : Sl} {B : Nat} {a : Addr} {sd : List Int}
theorem said_get {n v f x : Int} (hf : NodeOk f) : ((said0 n v).set f.toNat x).getD f.toNat 0 = x := by
  have h : f.toNat < 10 := by have := hf.1; have := hf.2; omega
  simp [said0, List.getD, h]
theorem law37_awake_spec {K : Bool → World → Prop} (ht : Utf8T w) (hc : CrcT w) (hK : ∀ w', Ext w w' → K true w') : law37_awake K w := by
  unfold law37_awake
  have n1 : NodeOk 1 := ⟨by decide, by decide⟩
  have n2 : NodeOk 2 := ⟨by decide, by decide⟩
  refine link_New_calls (link_New_spec (fun h => absurd ⟨n1, .inr rfl⟩ h) fun _ _ a w2 _ hx hk => ?_)
  refine link_Links_Greet_calls (link_Greet_spec hk fun w4 hx' => ?_)
  have hx := hx.trans' hx'
  have hk := hk.ext hx'
  have hs : (said0 1 2).getD (greetM 1 1 2 2).To.toNat 0 = 0 := by decide
  refine link_Links_Letters_calls (m := greetM 1 1 2 2) (link_Letters_spec (xs := []) (img := []) (ht.ext hx) (hc.ext hx) hk ⟨.nilSl _ _, .nilSl _ _⟩ (greet_ok (.inl rfl) n1 n2 (by decide) (.inr rfl)) (Nat.zero_le _) rfl (.inr rfl) (.inl hs) fun r w6 hr hx' => ?_)
  have hx := hx.trans' hx'
  have hk := hk.ext hx'
  rw [hs] at hr
  rcases hr with ⟨_, _, r0, ss, hrows⟩ | ⟨k, _⟩
  rotate_left
  · exact absurd ⟨.inl rfl, rfl⟩ k
  have e1 := hrows.sl.len
  have e2 := hrows.len
  rw [if_pos rfl] at e2
  have e3 : r.1.len = 2 := by rw [e1, e2]; rfl
  refine ifEq (fun _ => ?_) (fun h => absurd r0 h)
  refine ifEq (fun _ => ?_) (fun h => absurd (by rw [e3]; rfl) h)
  have hs2 : (said0 1 2).getD (2 : Int).toNat 0 = 0 := by decide
  refine link_Links_Spoken_calls (link_Spoken_spec hk n2 (.inr rfl) (.inl hs2) fun w8 hx' => ?_)
  have hx := hx.trans' hx'
  have hk := hk.ext hx'
  rw [hs2]
  refine ifEq (fun _ => ?_) (fun h => absurd rfl h)
  exact link_Links_Known_calls (link_Known_spec hk n2 hs2 (hK _ hx))
theorem law37_large_one {K : Bool → World → Prop} (h : MsgAt w m xs img) (hs : IsSl eApiMsg w s [m]) (hK : ∀ t w', (t = false → xs.length ≤ 40) → Ext w w' → K t w') : law37_large s K w := by
  unfold law37_large
  have hlen := hs.len
  rw [List.length_singleton] at hlen
  refine up1 (fun k u => Ext w u ∧ (1 ≤ k → xs.length ≤ 40)) 0 1 rfl (by decide) (by decide) ⟨Ext.rfl' _, fun h => absurd h (by decide)⟩ ?_
  rintro k u C _ hk ⟨hx, h40⟩ hC
  refine ifD (fun hlt => ?_) (fun hge => ?_)
  · obtain rfl : k = 0 := by omega
    refine ifD (fun _ => ?_) (fun h => absurd (by decide) h)
    refine st_rd (E := eApiMsg) (val := ApiMsg.val) (k := 0) (by kernel_rfl) (by kernel_rfl) (hs.ext hx) rfl (by simp) (fun _ => rfl) fun _ => ?_
    refine ref13_Large_calls (m := m) (ref13_Large_spec (h.ext hx) fun t w7 hlg hx' => ?_)
    have hx := hx.trans' hx'
    refine ifB_of (fun _ => hK _ _ (fun e => by cases e) hx) (fun htf => ?_)
    refine fld_rd (E := eApiMsg) (off := 9) (k := 0) (val := Sl.val) (y := m.Image) (by kernel_rfl) (by kernel_rfl) (hs.ext hx) rfl (by simp) rfl fun _ => ?_
    refine ifD (fun _ => hK _ _ (fun e => by cases e) hx) (fun _ => ?_)
    exact hC (by decide) _ _ rfl ⟨hx, fun _ => (hlg htf).1.1⟩
  · refine hK _ _ (fun _ => h40 (by omega)) hx
/-- Two numbers behind a pointer. -/
theorem two_rd {t e : TypeId} {p q : Int} {k : Nat} {K : Addr → Int → Prop} (ht : arOf Pr t = some (2, 1)) (he : oneT Pr e = true) (h : Vc.Obj w a [.int .i64 p, .int .i64 q]) (hk : k = 0 ∨ k = 1) (hK : ∀ c, K c (if k = 0 then p else q)) :
    opRd Pr (Instr.indexAt t (.pointer (some a)) (.int .i64 (k : Int))) pav (fun c => opRd Pr (Instr.loadAt e (.pointer (some c))) (Value.int .i64) (K c) w) w := by
  refine ix_ar (n := 2) (z := 1) k ht rfl (by omega) ?_
  rcases hk with rfl | rfl
  · exact ld_obj (off := 0 * 1) he h rfl (hK _)
  · exact ld_obj (off := 1 * 1) he h rfl (hK _)
theorem two_rdH {t e : TypeId} {p q : Int} {k : Nat} {S : World → Prop} {K : Addr → Int → Prop} (ht : arOf Pr t = some (2, 1)) (he : oneT Pr e = true) (h : ∀ w', S w' → Vc.Obj w' a [.int .i64 p, .int .i64 q]) (hk : k = 0 ∨ k = 1) (hK : ∀ c, K c (if k = 0 then p else q)) :
    opH Pr S (Instr.indexAt t (.pointer (some a)) (.int .i64 (k : Int))) pav (fun c => opH Pr S (Instr.loadAt e (.pointer (some c))) (Value.int .i64) (K c)) := by
  refine opH_of (a.add (k * 1)) (fun w' _ => ix_ar (n := 2) (z := 1) k ht rfl (by omega) rfl) ?_
  rcases hk with rfl | rfl
  · exact opH_of p (fun w' hS => ld_obj (off := 0 * 1) he (h w' hS) rfl rfl) (hK _)
  · exact opH_of q (fun w' hS => ld_obj (off := 1 * 1) he (h w' hS) rfl rfl) (hK _)
theorem LOpenR.turn {C : Nat} {w'' : World} {r : ApiMsg × Int} (h : LOpenR B w' n v l r) (h1 : ∀ s xs, OwnSl eApiEntry w' B s xs → OwnSl eApiEntry w'' C s xs) (h2 : ∀ s xs, OwnSl eB w' B s xs → OwnSl eB w'' C s xs) : LOpenR C w'' n v l r := by
  obtain ⟨q, hq, hr⟩ := h
  exact ⟨q, hq.turn h1 h2, hr⟩
theorem LOpenR.at_ {r : ApiMsg × Int} (h : LOpenR B w' n v l r) (h0 : r.2 = 0) : ∃ ys jmg, MsgAt w' r.1 ys jmg := by
  obtain ⟨q, hq, ⟨k, rfl⟩ | ⟨_, _, rfl⟩ | ⟨k, _, rfl⟩⟩ := h
  · exact absurd h0 k
  · cases h0
  · obtain ⟨ys, jmg, k1, k2, _⟩ := hq.inv k
    exact ⟨ys, jmg, k1.is, k2.is⟩
theorem LOpenR.good {z : ApiMsg} {r : ApiMsg × Int} (h : LOpenR B w' n v (letterB u z xs img) r) (hu : u = 1 ∨ u = 2) (hok : MsgOk z xs img.length) (hold : u = 1 → Old z xs) (h40 : xs.length ≤ 40) (hv : u ≤ v ∧ v ≤ 2) (hto : z.To = n) :
    r.2 = 0 ∧ ∃ ys jmg, MsgAt w' r.1 ys jmg ∧ MsgEq r.1 z ys xs jmg img := by
  obtain ⟨q, hq, hr⟩ := h
  obtain ⟨q0, q1, ys, jmg, k1, k2, k3⟩ := hq.took hu hok hold h40 hv
  have ht : q.1.To = n := k3.1.2.2.1.trans hto
  rcases hr with ⟨k, _⟩ | ⟨_, k, _⟩ | ⟨_, _, rfl⟩
  · exact absurd q0 k
  · exact absurd ht k
  · exact ⟨rfl, ys, jmg, ⟨k1.is, k2.is⟩, k3⟩
/-- Of two nodes of any versions that have heard of each other what one tells the other opens. -/
theorem law37_LinkOpens_spec {ns ks : List Int} {av bv : List Value} {K : Bool → World → Prop} (ht : Utf8T w) (hc : CrcT w) (hav : av = ns.flatMap (eK .i64).cs) (hal : ns.length = 2) (hbv : bv = ks.flatMap (eK .i64).cs) (hbl : ks.length = 2) (h : MsgAt w m xs img) (hK : ∀ w', Ext w w' → K true w') : law37_LinkOpens av bv m K w := by
  obtain ⟨a0, a1, rfl⟩ : ∃ a0 a1, ns = [a0, a1] := by match ns, hal with | [x, y], _ => exact ⟨x, y, rfl⟩
  obtain ⟨b0, b1, rfl⟩ : ∃ b0 b1, ks = [b0, b1] := by match ks, hbl with | [x, y], _ => exact ⟨x, y, rfl⟩
  subst hav hbv
  unfold law37_LinkOpens
  refine box_ty fun pa w2 hpa hx hoa => ?_
  have hoa : Vc.Obj w2 pa [.int .i64 a0, .int .i64 a1] := hoa
  refine box_ty fun pb w4 hpb hx' hob => ?_
  have hob : Vc.Obj w4 pb [.int .i64 b0, .int .i64 b1] := hob
  have hx := hx.trans' hx'
  have hoa := hoa.ext hx'
  have la := hoa.lt
  have lb := hob.lt
  have za : w.heap.size ≤ w4.heap.size := hx.size
  refine new_of fun b5 w6 hn6 => ?_
  have e6 := hn6.1
  have hx6 := Ext.new hn6
  have hx := hx.trans' hx6
  have hoa := hoa.ext hx6
  have hob := hob.ext hx6
  have l6 := hn6.lt
  have awake : ∀ {u : World}, Ext w u → callV Pr Value.bool fid_law37_awake #[] u fun t v => kp b5 u v (K t v) := fun hx => law37_awake_calls (law37_awake_spec (ht.ext hx) (hc.ext hx) fun v hx' => kp_ext hx' (hK _ (hx.trans' hx')))
  refine lit1_ty (E := eApiMsg) 112 (x := m) w6.heap.size (by kernel_rfl) (by decide) (fun w => by kernel_rfl) (Nat.le_refl _) fun t7 w8 _ ho7 hx' => kp_ext hx' ?_
  have hx := hx.trans' hx'
  have hoa := hoa.ext hx'
  have hob := hob.ext hx'
  have z8 := hx'.size
  refine law37_large_calls (law37_large_one (h.ext hx) ho7.is fun t w10 hlg hx' => kp_ext hx' ?_)
  have hx := hx.trans' hx'
  have hoa := hoa.ext hx'
  have hob := hob.ext hx'
  have z10 := hx'.size
  refine ifB_of (fun _ => awake hx) (fun hlt => ?_)
  have h40 := hlg hlt
  refine heldM_of (fun u => Vc.Obj u pa [.int .i64 a0, .int .i64 a1] ∧ Vc.Obj u pb [.int .i64 b0, .int .i64 b1]) fun w13 hx' => ⟨⟨hoa.ext hx', hob.ext hx'⟩, ?_⟩
  have hx := hx.trans' hx'
  have hoa := hoa.ext hx'
  have hob := hob.ext hx'
  have z13 := hx'.size
  refine two_rdH (k := 0) (by kernel_rfl) (by kernel_rfl) (fun w' hS => hS.1) (.inl rfl) fun _ => ?_
  refine two_rdH (k := 1) (by kernel_rfl) (by kernel_rfl) (fun w' hS => hS.1) (.inr rfl) fun _ => ?_
  refine two_rdH (k := 0) (by kernel_rfl) (by kernel_rfl) (fun w' hS => hS.2) (.inl rfl) fun _ => ?_
  refine two_rdH (k := 1) (by kernel_rfl) (by kernel_rfl) (fun w' hS => hS.2) (.inr rfl) fun _ => ?_
  refine link_New_calls (node := a0) (version := a1) (link_New_spec (fun hno => kp_same ⟨⟨hoa, hob⟩, ?_⟩) (fun hna hva px w24 hpx hx' hkx => kp_ext hx' ⟨⟨hoa.ext hx', hob.ext hx'⟩, ?_⟩))
  · exact link_New_calls (node := b0) (version := b1) (link_New_spec (fun _ => kp_same ⟨⟨hoa, hob⟩, eqPtrNil (by kernel_rfl) fun t ht => ifB_t ht (awake hx)⟩) (fun _ _ py w26 _ hx' _ => kp_ext hx' ⟨⟨hoa.ext hx', hob.ext hx'⟩, eqPtrNil (by kernel_rfl) fun t ht => ifB_t ht (awake (hx.trans' hx'))⟩))
  have hx := hx.trans' hx'
  have hoa := hoa.ext hx'
  have hob := hob.ext hx'
  have z24 := hx'.size
  have lx24 := hkx.obj.lt
  refine link_New_calls (node := b0) (version := b1) (link_New_spec (fun _ => kp_same ⟨⟨hoa, hob⟩, eqPtrNil (by kernel_rfl) fun t ht => ifB_f ht (eqPtrNil (by kernel_rfl) fun t ht => ifB_t ht (awake hx))⟩) (fun hnb hvb py w26 hpy hx' hky => kp_ext hx' ⟨⟨hoa.ext hx', hob.ext hx'⟩, ?_⟩))
  have hx := hx.trans' hx'
  have hoa := hoa.ext hx'
  have hob := hob.ext hx'
  have hkx := hkx.ext hx'
  have lx := hkx.obj.lt
  have ly := hky.obj.lt
  have z26 := hx'.size
  have hxy : px.block ≠ py.block := by omega
  refine eqPtrNil (by kernel_rfl) fun t hpn => ifB_f hpn (eqPtrNil (by kernel_rfl) fun t hpn => ifB_f hpn ?_)
  refine two_rd (k := 0) (by kernel_rfl) (by kernel_rfl) hoa (.inl rfl) fun _ => ?_
  refine two_rd (k := 0) (by kernel_rfl) (by kernel_rfl) hob (.inl rfl) fun _ => ?_
  refine ifEq (fun _ => awake hx) (fun hne => ?_)
  have hne : a0 ≠ b0 := hne
  refine two_rd (k := 0) (by kernel_rfl) (by kernel_rfl) hoa (.inl rfl) fun _ => ?_
  refine link_Links_Greet_calls (link_Greet_spec hky fun w42 hx' => kp_ext hx' ?_)
  have hx := hx.trans' hx'
  have hoa := hoa.ext hx'
  have hob := hob.ext hx'
  have hkx := hkx.ext hx'
  have hky := hky.ext hx'
  have z42 := hx'.size
  have hgok : MsgOk (greetM 1 b0 a0 b1) [] 0 := greet_ok (.inl rfl) hnb hna (Ne.symm hne) hvb
  refine link_Links_Heard_calls (m := greetM 1 b0 a0 b1) (link_Heard_spec (ht.ext hx) hkx hgok fun w44 hkx hg => kp_grown hg (fun e => by have := Option.some.inj e; omega) ?_)
  have ne1 : ∀ {c : Nat}, c < w6.heap.size → some c ≠ some px.block := fun hc e => by have := Option.some.inj e; omega
  have hx : Ext w w44 := hx.grown hg (by omega)
  have hoa := hoa.keep (hg.block _ hoa.lt (ne1 (by omega)))
  have hob := hob.keep (hg.block _ hob.lt (ne1 (by omega)))
  have hky := hky.keep (hg.block _ hky.obj.lt (fun e => hxy (Option.some.inj e).symm))
  have z44 := hg.size
  refine two_rd (k := 0) (by kernel_rfl) (by kernel_rfl) hoa (.inl rfl) fun _ => ?_
  refine wr_of fun w47 hw47 => ?_
  have hx : Ext w w47 := Below.wr hx (by omega) hw47
  have hoa := hoa.keep (hw47.block _ (by omega))
  have hob := hob.keep (hw47.block _ (by omega))
  have hkx := hkx.keep (hw47.block _ (by omega))
  have hky := hky.keep (hw47.block _ (by omega))
  refine two_rd (k := 0) (by kernel_rfl) (by kernel_rfl) hob (.inl rfl) fun _ => ?_
  refine wr_of fun w50 hw50 => ?_
  have hx : Ext w w50 := Below.wr hx (by omega) hw50
  have hoa := hoa.keep (hw50.block _ (by omega))
  have hob := hob.keep (hw50.block _ (by omega))
  have hkx := hkx.keep (hw50.block _ (by omega))
  have hky := hky.keep (hw50.block _ (by omega))
  have s47 := hw47.size
  have s50 := hw50.size
  -- the message, from the one to the other
  obtain ⟨M, hM⟩ : ∃ M : ApiMsg, M = ⟨m.Kind, a0, b0, m.Ballot, m.Index, m.Commit, m.Version, m.Entries, m.Image⟩ := ⟨_, rfl⟩
  have hMat : ∀ {u : World}, Ext w u → MsgAt u M xs img := fun hx => by rw [hM]; exact ⟨(h.ext hx).es, (h.ext hx).im⟩
  have hMk : M.Kind = m.Kind := by rw [hM]
  have hMf : M.From = a0 := by rw [hM]
  have hMt : M.To = b0 := by rw [hM]
  have hMv : M.Version = m.Version := by rw [hM]
  have hMcs : (.agg ⟨[(.int .i64 m.Kind), (.int .i64 a0), (.int .i64 b0), (.int .i64 m.Ballot.Round), (.int .i64 m.Ballot.Node), (.int .i64 m.Index), (.int .i64 m.Commit), (.int .i64 m.Version), m.Entries.val, m.Image.val]⟩ : Value) = .agg ⟨M.cs⟩ := by rw [hM]; rfl
  simp only [if_true, hMcs]
  refine ref13_Check_calls (m := M) (ref13_Check_spec (hMat hx) fun w52 hx' => kp_ext hx' ?_)
  have hx := hx.trans' hx'
  have hoa := hoa.ext hx'
  have hob := hob.ext hx'
  have hkx := hkx.ext hx'
  have hky := hky.ext hx'
  have z52 := hx'.size
  refine ifNe (fun _ => awake hx) (fun h0 => ?_)
  have hok : MsgOk M xs img.length := msgE_ok.1 h0
  have hget : ((said0 a0 a1).set b0.toNat b1).getD M.To.toNat 0 = b1 := by rw [hMt]; exact said_get hnb
  refine link_Links_Letters_calls (m := M) (link_Letters_spec (ht.ext hx) (hc.ext hx) hkx (hMat hx) hok h40 hMf hva (by rw [hget]; exact .inr hvb) fun r w56 hr hx' => kp_ext hx' ?_)
  have hx := hx.trans' hx'
  have hoa := hoa.ext hx'
  have hob := hob.ext hx'
  have hky := hky.ext hx'
  have z56 := hx'.size
  rw [hget] at hr
  have hls : spokenN a1 b1 = imin a1 b1 := by unfold spokenN; rw [if_neg (by omega)]
  rw [hls] at hr
  obtain ⟨ls, hlsd⟩ : ∃ ls, ls = imin a1 b1 := ⟨_, rfl⟩
  have hls2 : (ls = 1 ∨ ls = 2) ∧ ls ≤ b1 ∧ b1 ≤ 2 ∧ (ls = 2 → a1 = 2) := by
    rw [hlsd]
    unfold imin
    split <;> omega
  rw [← hlsd] at hr
  -- what is told
  have hA : (greets M ∨ ∀ x ∈ xs, versHas ls x.Cmd.Kind) → r.2 = 0 ∧ ∃ L ss u z rest, RowsAt w56 r.1 L ss ∧ L = letterB u z xs img :: rest ∧ (∀ y ∈ L, y.length ≤ 140737488355328) ∧ (u = 1 ∨ u = 2) ∧ u ≤ b1 ∧ MsgOk z xs img.length ∧ (u = 1 → Old z xs) ∧ z.To = b0 ∧ z.Kind = M.Kind ∧ (z = M ∨ (greets M ∧ z.Version = 1)) := fun hg => by
    rcases hr with ⟨hgr, h1, r0, ss, hrows⟩ | ⟨hng, e, he, hre⟩
    · obtain ⟨ok1, old1, _, _, hver⟩ := older_ok hok hgr
      refine ⟨r0, _, ss, 1, olderM M, _, hrows, rfl, fun y hy => ?_, .inl rfl, by omega, ok1, fun _ => old1, hMt, rfl, .inr ⟨hgr, hver⟩⟩
      rcases List.mem_cons.1 hy with rfl | hy
      · exact letter_len ok1 h40
      · split at hy
        · rw [List.mem_singleton.1 hy]; exact letter_len hok h40
        · cases hy
    · have hold : ls = 1 → Old M xs := fun h1 => by
        rcases hg with hg | hg
        · exact absurd ⟨hg, h1⟩ hng
        · refine ⟨fun x hx => h1 ▸ hg x hx, ?_⟩
          by_cases hgr : greets M
          · exact absurd ⟨hgr, h1⟩ hng
          · have : M.Version = 0 := hok.form.2.2.2.1 (by
              unfold mV
              unfold greets at hgr
              simp only [Bool.or_eq_false_iff, decide_eq_false_iff_not]
              omega)
            omega
      have e0 : e = 0 := he.uniq (tagE_of hls2.1 hok hold)
      obtain ⟨_, r0, ss, hrows⟩ := hre.resolve_left fun k => k.1 e0
      refine ⟨r0, _, ss, ls, M, [], hrows, rfl, fun y hy => ?_, hls2.1, hls2.2.1, hok, hold, hMt, rfl, .inl rfl⟩
      rw [List.mem_singleton.1 hy]
      exact letter_len hok h40
  have hB : ¬ greets M → (¬ ∀ x ∈ xs, versHas ls x.Cmd.Kind) → r = (Sl.nil, 8) := fun hng hno => by
    rcases hr with ⟨hgr, _⟩ | ⟨_, e, he, hre⟩
    · exact absurd hgr hng
    have h1 : ls = 1 := by
      rcases hls2.1 with h1 | h1
      · exact h1
      · exact absurd (fun x hx => ⟨.inr h1, (hok.each x hx).2.1, fun _ => by omega⟩) hno
    have e8 : e = 8 := he.uniq (.inr (.inl ⟨h1, .inr (.inl ⟨hok, fun k => hno (fun x hx => h1 ▸ k.1 x hx), rfl⟩)⟩))
    obtain ⟨_, hr⟩ := hre.resolve_right fun k => by rw [e8] at k; cases k.1
    rw [hr, e8]
  refine two_rd (k := 1) (by kernel_rfl) (by kernel_rfl) hoa (.inr rfl) fun _ => ?_
  refine ⟨fun x u => w56 = u ∧ ls = x, ?_, ?_⟩
  · refine two_rd (k := 1) (by kernel_rfl) (by kernel_rfl) hob (.inr rfl) fun _ => ?_
    refine ifD (fun hlt => ?_) (fun hge => ?_)
    · refine two_rd (k := 1) (by kernel_rfl) (by kernel_rfl) hob (.inr rfl) fun _ => ⟨rfl, ?_⟩
      have hlt : b1 < a1 := hlt
      show ls = b1
      rw [hlsd]
      unfold imin
      rw [if_pos hlt]
    · refine ⟨rfl, ?_⟩
      have hge : ¬ b1 < a1 := hge
      show ls = a1
      rw [hlsd]
      unfold imin
      rw [if_neg hge]
  rintro _ _ ⟨rfl, rfl⟩
  -- a letter is opened
  have openL : ∀ {u : World} {x : Sl} {y : List UInt8} {X : ApiMsg × Int → Nat → World → Prop}, Ext w56 u → IsSl eB u x y → y.length ≤ 140737488355328 → (∀ q b88 w90, LOpenR w56.heap.size w90 b0 b1 y q → Ext w56 w90 → X q b88 w90) →
      callV Pr (tval2 ApiMsg.val (Value.int .i64)) fid_link_Links_Open #[(.pointer (some py)), x.val] u fun t86 w87 => kp b5 u w87 <| newV (fun b88 w89 => wrM b88 (fun w90 => X t86 b88 w90) w89) w87 := fun {u x y X} hxu hy hyl hX =>
    link_Links_Open_calls (link_Open_spec (ht.ext (hx.trans' hxu)) (hc.ext (hx.trans' hxu)) (hky.ext hxu) hy hyl fun q w87 hq hx' => kp_ext hx' (new_of fun b88 w89 hn89 => wr_of fun w90 hw90 => by
      have z87 := hx'.size
      have z0 := hxu.size
      have hx90 : Ext w87 w90 := Below.wr (Ext.new hn89) (by rw [hn89.1]; exact Nat.le_refl _) hw90
      exact hX q b88 w90 (hq.turn (fun _ _ k => (k.ext hx90).mono z0) (fun _ _ k => (k.ext hx90).mono z0)) ((hxu.trans' hx').trans' hx90)))
  -- one of the letters at least is opened as it was
  have loopL : ∀ {INNER : ApiMsg × Int → Bool → (Bool → Int → World → Prop) → Int → World → Prop},
      (∀ t sm C i u, t.1.Kind = m.Kind → t.1.Version = 1 → greets M → C true (i64 (i + 1)) u → INNER t sm C i u) →
      (∀ t sm (C : Bool → Int → World → Prop) i u, (∀ b, (sm = true → b = true) → C b (i64 (i + 1)) u) → INNER t sm C i u) → (greets M ∨ ∀ x ∈ xs, versHas ls x.Cmd.Kind) →
      loop2 (false : Bool) (0 : Int) (fun some80 i81 k82 w83 =>
        ifB (decide (i81 < (r.1.len : Int)))
        (opRd Pr (Instr.indexAt 65 r.1.val (.int .i64 i81)) pav (fun t84 =>
        opRd Pr (Instr.loadAt 22 (.pointer (some t84))) Sl.val (fun t85 =>
        callV Pr (tval2 ApiMsg.val (Value.int .i64)) fid_link_Links_Open #[(.pointer (some py)), t85.val] w83 fun t86 w87 =>
        kp b5 w83 w87 <|
        newV (fun b88 w89 =>
        wrM b88 (fun w90 =>
        ifB (t86.2 == 0)
        (callV Pr Value.bool fid_ref13_Same #[(.agg ⟨t86.1.cs⟩), (.agg ⟨M.cs⟩)] w90 fun t91 w92 =>
        kp b88 w90 w92 <|
        kp b5 w90 w92 <|
        ifB t91
        (k82 true (i64 (i81 + 1)) w92)
        (INNER t86 some80 k82 i81 w92))
        (k82 some80 (i64 (i81 + 1)) w90)) w89) w87) w83) w83)
        (ifB (r.2 == 0)
        (ifB some80
        (callV Pr Value.bool fid_law37_awake #[] w83 fun t93 w94 =>
        kp b5 w83 w94 <|
        K t93 w94)
        (K false w83))
        (K false w83))) w56 := by
    intro INNER hin hin2 hg
    obtain ⟨r0, L, ss, u, z, rest, hrows, hL, hlen, hu, hub, hzok, hzold, hzto, hzk, hz⟩ := hA hg
    have e1 := hrows.sl.len
    have e2 := hrows.len
    have e3 : L.length = rest.length + 1 := by rw [hL]; rfl
    refine up2b (fun k sm u => Ext w56 u ∧ (0 < k → sm = true)) 0 ss.length rfl (by omega) hrows.sl.le ⟨Ext.rfl' _, fun h => absurd h (by decide)⟩ ?_
    rintro k sm v C _ hk ⟨hxu, hsm⟩ hC
    refine ifD (fun hlt => ?_) (fun hge => ?_)
    · have hk1 : k < ss.length := by omega
      have hk2 : k < L.length := by omega
      have hrow := hrows.ext hxu
      refine el_rd (E := eSl) (y := ss[k]) (by kernel_rfl) (by kernel_rfl) hrow.sl rfl hk1 rfl fun _ => ?_
      refine openL hxu (hrow.at_ k _ _ (List.getElem?_eq_getElem hk1) (List.getElem?_eq_getElem hk2)) (hlen _ (List.getElem_mem hk2)) fun q b88 w90 hq hx90 => ?_
      have hx90w := hx.trans' hx90
      by_cases hk0 : k = 0
      · subst hk0
        have hl0 : L[0] = letterB u z xs img := by subst hL; rfl
        rw [hl0] at hq
        obtain ⟨q0, ys, jmg, hat, heq⟩ := hq.good hu hzok hzold h40 ⟨hub, hls2.2.2.1⟩ hzto
        refine ifEq (fun _ => ?_) (fun h => absurd q0 h)
        refine ref13_Same_calls (a := q.1) (b := M) (ref13_Same_spec hat (hMat hx90w) fun t w92 hs hx' => kp_ext hx' (kp_ext hx' (ifB_of (fun _ => hC hk1 _ true w92 rfl ⟨hx90.trans' hx', fun _ => rfl⟩) (fun hf => ?_))))
        rcases hz with rfl | ⟨hgr, hv1⟩
        · rw [hs.2 heq] at hf; cases hf
        · exact hin _ _ _ _ _ (heq.1.1.trans (hzk.trans hMk)) (heq.1.2.2.2.2.2.2.trans hv1) hgr (hC hk1 _ true w92 rfl ⟨hx90.trans' hx', fun _ => rfl⟩)
      · have hst := hsm (by omega)
        refine ifEq (fun q0 => ?_) (fun _ => hC hk1 _ sm w90 rfl ⟨hx90, fun _ => hst⟩)
        obtain ⟨ys, jmg, hat⟩ := hq.at_ q0
        exact ref13_Same_calls (a := q.1) (b := M) (ref13_Same_spec hat (hMat hx90w) fun t w92 hs hx' => kp_ext hx' (kp_ext hx' (ifB_of (fun _ => hC hk1 _ true w92 rfl ⟨hx90.trans' hx', fun _ => rfl⟩) (fun hf => hin2 _ _ _ _ _ fun b hb => hC hk1 _ b w92 rfl ⟨hx90.trans' hx', fun _ => hb hst⟩))))
    · refine ifEq (fun _ => ?_) (fun h => absurd r0 h)
      exact ifB_t (hsm (by omega)) (awake (hx.trans' hxu))
  refine ifEq (fun h1 => ?_) (fun h1 => ?_)
  · refine ⟨fun u => w56 = u, ifB_f rfl rfl, ?_⟩
    rintro _ rfl
    refine ⟨fun u => w56 = u, ?_, ?_⟩
    · refine two_rd (k := 1) (by kernel_rfl) (by kernel_rfl) hoa (.inr rfl) fun _ => ?_
      exact ifD (fun _ => awake hx) (fun _ => ifEq (fun _ => ifNe (fun _ => awake hx) (fun _ => rfl)) (fun _ => rfl))
    rintro _ rfl
    exact loopL (fun t sm C i u k1 k2 _ hC => ifEq (fun _ => ifEq (fun _ => hC) (fun h => absurd k2 h)) (fun h => absurd k1 h)) (fun t sm C i u hC => ifEq (fun _ => ifEq (fun _ => hC true (fun _ => rfl)) (fun _ => hC sm id)) (fun _ => hC sm id)) (.inl (.inl (by rw [hMk]; exact h1)))
  · refine ⟨fun u => w56 = u ∧ (greets M ∨ ∀ x ∈ xs, versHas ls x.Cmd.Kind), ?_, ?_⟩
    · refine ifNot (ifEq (fun h2 => ⟨rfl, .inl (.inr (by rw [hMk]; exact h2))⟩) (fun h2 => ?_))
      have hng : ¬ greets M := by unfold greets; rw [hMk]; omega
      refine ref12_Has_calls (ref12_Has_spec (h.ext hx).es fun t htt => kp_same (ifNot (ifB_of (fun h3 => ⟨rfl, .inr (htt.1 h3)⟩) (fun h3 => ?_))))
      have := hB hng fun k => by rw [htt.2 k] at h3; cases h3
      subst this
      exact ifEq (fun _ => ifEq (fun _ => awake hx) (fun h => absurd rfl h)) (fun h => absurd rfl h)
    rintro _ ⟨rfl, hg⟩
    refine ⟨fun u => w56 = u, ?_, ?_⟩
    · refine ifEq (fun _ => ?_) (fun _ => rfl)
      refine two_rd (k := 1) (by kernel_rfl) (by kernel_rfl) hoa (.inr rfl) fun _ => ?_
      exact ifD (fun _ => awake hx) (fun _ => ifEq (fun _ => ifNe (fun _ => awake hx) (fun _ => rfl)) (fun _ => rfl))
    rintro _ rfl
    refine loopL (fun t sm C i u k1 k2 hgr hC => ifEq (fun _ => ifEq (fun _ => ifEq (fun _ => hC) (fun h => absurd k2 h)) (fun h => absurd k1 h)) (fun h => ?_)) (fun t sm C i u hC => ifEq (fun _ => ifEq (fun _ => ifEq (fun _ => hC true (fun _ => rfl)) (fun _ => hC sm id)) (fun _ => hC sm id)) (fun _ => hC sm id)) hg
    unfold greets at hgr
    rw [hMk] at hgr
    omega
end Go.Chg
