/-
  Packages 'conf', 'window', 'image': confs and images, read.
-/
import Derived.Test.YthofeajlmgecmaaGreatDoorMI
import Derived.Test.YthofeajlmgecmaaGreatDoorImgL
import Derived.Test.YthofeajlmgecmaaGreatDoorME
set_option maxRecDepth 20000
set_option linter.unusedVariables false
namespace Go.Chg
open Go.Vc
variable {w w' : World} {l bs : List UInt8} {s b : Sl} {p no v : Int} {B : Nat} {a : Addr} {m : ApiImage} {cs : List ApiConf} {L : List Cf} {ps : List ApiPair} {ss : List ApiSession}
/-- Confs in memory. -/
structure CfsAt (w : World) (s : Sl) (cs : List ApiConf) (L : List Cf) : Prop where
  sl : IsSl eApiConf w s cs
  len : cs.length = L.length
  at_ : ∀ (i : Nat) c x, cs[i]? = some c → L[i]? = some x → c.From = x.1 ∧ IsSl (eK .i64) w c.Members x.2
theorem CfsAt.ext (h : CfsAt w s cs L) (hx : Ext w w') : CfsAt w' s cs L := ⟨h.sl.ext hx, h.len, fun i c x h1 h2 => ⟨(h.at_ i c x h1 h2).1, (h.at_ i c x h1 h2).2.ext hx⟩⟩
theorem CfsAt.get (h : CfsAt w s cs L) {k : Nat} (h1 : k < cs.length) (h2 : k < L.length) : cs[k].From = L[k].1 ∧ IsSl (eK .i64) w cs[k].Members L[k].2 := h.at_ k _ _ (List.getElem?_eq_getElem h1) (List.getElem?_eq_getElem h2)
theorem prev_i64 {k : Nat} (h : 0 < k) (h2 : k ≤ 9223372036854775807) : i64 ((k : Int) - 1) = ((k - 1 : Nat) : Int) := by rw [i64_id] <;> omega
theorem conf_members_spec {l : List Int} {K : Bool → World → Prop} (h : IsSl (eK .i64) w s l) (hK : ∀ t, (t = true ↔ MemsOk l) → K t w) : conf_members s K w := by
  unfold conf_members
  have hlen := h.len
  have hle := h.le
  have no : ¬ MemsOk l → K false w := fun h => hK _ ⟨fun e => (by cases e), fun k => absurd k h⟩
  refine up1 (fun k u => w = u ∧ Pre (fun n => 1 ≤ n ∧ n ≤ 9) (fun x y => x < y) l k) 0 l.length rfl (by omega) hle ⟨rfl, Pre.zero⟩ ?_
  rintro k _ C _ hk ⟨rfl, hp⟩ hC
  refine ifD (fun hlt => ?_) (fun hge => ?_)
  · have hk1 : k < l.length := by omega
    refine el_rd (E := eK .i64) (y := l[k]) (by kernel_rfl) (by kernel_rfl) h rfl hk1 rfl fun _ => ?_
    refine ifD (fun h1 => no fun mo => by have := mo.2.at_ hk1; omega) (fun h1 => ?_)
    refine ifD (fun h2 => no fun mo => by have := mo.2.at_ hk1; omega) (fun h2 => ?_)
    refine ifD (fun h3 => ?_) (fun h3 => hC hk1 _ _ rfl ⟨rfl, hp.up hk1 ⟨by omega, by omega⟩ fun h0 => absurd h0 (by omega)⟩)
    have h0 : 0 < k := by omega
    have hk2 : k - 1 < l.length := by omega
    refine el_rd (E := eK .i64) (y := l[k - 1]) (by kernel_rfl) (by kernel_rfl) h (prev_i64 h0 (by omega)) hk2 rfl fun _ => ?_
    refine ifD (fun h4 => no fun mo => by have := mo.2.next hk1 h0 hk2; omega) (fun h4 => hC hk1 _ _ rfl ⟨rfl, hp.up hk1 ⟨by omega, by omega⟩ fun _ _ => by omega⟩)
  · have ha := hp.all (by omega)
    refine hK _ ?_
    rw [decide_eq_true_iff]
    refine ⟨fun h => ⟨fun e => ?_, ha⟩, fun h => ?_⟩
    · rw [e, List.length_nil] at hlen; omega
    · have := List.length_pos_iff.2 h.1
      omega
theorem conf_Check_spec {K : Int → World → Prop} (h : CfsAt w s cs L) (hK : ∀ e w', (e = 0 ∧ CfsOk L ∨ e = 3 ∧ ¬ CfsOk L) → Ext w w' → K e w') : conf_Check s K w := by
  unfold conf_Check
  have hlen := h.sl.len
  have hl := h.len
  have hle := h.sl.le
  have no : ∀ {u : World}, Ext w u → ¬ CfsOk L → K 3 u := fun hx h => hK _ _ (.inr ⟨rfl, h⟩) hx
  refine ifEq (fun h0 => no (Ext.rfl' w) fun k => ?_) (fun h0 => ?_)
  · obtain ⟨⟨c, hc, _⟩, _⟩ := k
    have := (List.getElem?_eq_some_iff.1 hc).1
    omega
  have p0 : 0 < cs.length := by omega
  have p1 : 0 < L.length := by omega
  have g0 := (h.get p0 p1).1
  refine fld_rd (E := eApiConf) (off := 0) (k := 0) (val := Value.int .i64) (y := cs[0].From) (by kernel_rfl) (by kernel_rfl) h.sl rfl p0 rfl fun _ => ?_
  refine ifNe (fun h1 => no (Ext.rfl' w) fun k => ?_) (fun h1 => ?_)
  · obtain ⟨⟨c, hc, hc1⟩, _⟩ := k
    rw [List.getElem?_eq_getElem p1] at hc
    cases hc
    exact h1 (g0.trans hc1)
  have hfirst : ∃ c, L[0]? = some c ∧ c.1 = 1 := ⟨_, List.getElem?_eq_getElem p1, g0.symm.trans h1⟩
  refine up1 (fun k u => Ext w u ∧ Pre (fun c => MemsOk c.2 ∧ c.1 ≤ 4294967296) (fun x y => x.1 < y.1) L k) 0 L.length rfl (by omega) (by omega) ⟨Ext.rfl' w, Pre.zero⟩ ?_
  rintro k u C _ hk ⟨hx, hp⟩ hC
  refine ifD (fun hlt => ?_) (fun hge => ?_)
  · have hk1 : k < cs.length := by omega
    have hk2 : k < L.length := by omega
    have h' := h.ext hx
    obtain ⟨gf, gm⟩ := h'.get hk1 hk2
    refine st_rd (E := eApiConf) (val := ApiConf.val) (k := k) (by kernel_rfl) (by kernel_rfl) h'.sl rfl hk1 (fun _ => rfl) fun _ => ?_
    refine new_x hx fun b8 w9 hb8 hl8 hx9 hn9 => wr_x hx9 hb8 fun w10 hx10 hw10 => ?_
    refine heldM_of (fun u => IsSl eApiConf u s cs) fun w11 hx' => ⟨h.sl.ext (hx10.trans' hx'), ?_⟩
    have hx11 := hx10.trans' hx'
    refine conf_members_calls (conf_members_spec (h.ext hx11 |>.get hk1 hk2).2 fun t ht => kp_same ⟨h.sl.ext hx11, ?_⟩)
    refine ifNot (ifB_of (fun h2 => ?_) (fun h2 => no hx11 fun mo => by rw [ht.2 (mo.2.at_ hk2).1] at h2; cases h2))
    have hm := ht.1 h2
    rw [gf]
    refine ifD (fun h3 => no hx11 fun mo => by have := (mo.2.at_ hk2).2; omega) (fun h3 => ?_)
    refine ifD (fun h4 => ?_) (fun h4 => hC hk2 _ _ rfl ⟨hx11, hp.up hk2 ⟨hm, by omega⟩ fun h0 => absurd h0 (by omega)⟩)
    have q0 : 0 < k := by omega
    have q1 : k - 1 < cs.length := by omega
    have q2 : k - 1 < L.length := by omega
    have gp := (h.get q1 q2).1
    refine fldH (E := eApiConf) (off := 0) (k := k - 1) (val := Value.int .i64) (y := cs[k - 1].From) (by kernel_rfl) (by kernel_rfl) (fun w' hS => hS) (prev_i64 q0 (by omega)) q1 rfl fun _ => ?_
    rw [gp]
    refine ifD (fun h5 => no hx11 fun mo => by have := mo.2.next hk2 q0 q2; omega) (fun h5 => hC hk2 _ _ rfl ⟨hx11, hp.up hk2 ⟨hm, by omega⟩ fun _ _ => by omega⟩)
  · exact hK _ _ (.inl ⟨rfl, hfirst, hp.all (by omega)⟩) hx
theorem vers_Format_spec {n : Int} {K : Int → World → Prop} (hK : ∀ f, (f = 2 ∧ 0 < n ∨ f = 1 ∧ ¬ 0 < n) → K f w) : vers_Format n K w := by
  unfold vers_Format
  exact ifD (fun h => hK _ (.inl ⟨rfl, h⟩)) (fun h => hK _ (.inr ⟨rfl, h⟩))
/-- An image in memory. -/
structure ImgAt (w : World) (m : ApiImage) (L : List Cf) (ps : List ApiPair) (ss : List ApiSession) : Prop where
  cf : ∃ cs, CfsAt w m.Confs cs L
  st : StAt w m.State ps ss
theorem ImgAt.ext (h : ImgAt w m L ps ss) (hx : Ext w w') : ImgAt w' m L ps ss := by
  obtain ⟨⟨cs, h1⟩, h2⟩ := h
  exact ⟨⟨cs, h1.ext hx⟩, h2.ext hx⟩
abbrev ImgMay (m : ApiImage) (L : List Cf) (ps : List ApiPair) (ss : List ApiSession) : Prop := ImgOk m.Index m.Active m.State.Schema L ps ss
theorem window_Check_spec {K : Int → World → Prop} (ht : Utf8T w) (h : ImgAt w m L ps ss) (hle : ps.length ≤ 100000) (hK : ∀ e w', (e = 0 ↔ ImgMay m L ps ss) → Ext w w' → K e w') : window_Check m K w := by
  unfold window_Check
  obtain ⟨⟨cs, hcf⟩, hst⟩ := h
  refine new_x (Ext.rfl' w) fun b1 w2 hb1 hl1 hx hn2 => ?_
  have no : ∀ {e : Int} {u : World}, e ≠ 0 → Ext w u → ¬ ImgMay m L ps ss → K e u := fun he hx h => hK _ _ ⟨fun k => absurd k he, fun k => absurd k h⟩ hx
  refine ifD (fun h1 => no (by decide) hx fun k => by have := k.1; omega) (fun h1 => ?_)
  refine ifD (fun h2 => no (by decide) hx fun k => by have := k.1; omega) (fun h2 => ?_)
  refine ifD (fun h3 => no (by decide) hx fun k => by have := k.1; omega) (fun h3 => ?_)
  refine ifD (fun h4 => no (by decide) hx fun k => by have := k.1; omega) (fun h4 => ?_)
  refine conf_Check_calls (conf_Check_spec (hcf.ext hx) fun e w4 he hx' => kp_ext hx' ?_)
  have hx := hx.trans' hx'
  refine ifNe (fun h5 => no h5 hx fun k => ?_) (fun h5 => ?_)
  · rcases he with ⟨rfl, _⟩ | ⟨_, hn⟩
    · exact h5 rfl
    · exact hn k.2.1
  have hcok : CfsOk L := by
    rcases he with ⟨_, hn⟩ | ⟨rfl, _⟩
    · exact hn
    · cases h5
  refine migr_Check_calls (s := m.State) (migr_Check_spec (ht.ext hx) (hst.ext hx) hle fun e w6 he hx' => kp_ext hx' ?_)
  have hx := hx.trans' hx'
  refine ifNe (fun h6 => no h6 hx fun k => ?_) (fun h6 => ?_)
  · rcases he with ⟨rfl, _⟩ | ⟨_, hn⟩
    · exact h6 rfl
    · exact hn k.2.2.1
  have hsok : StateOk m.State.Schema ps ss := by
    rcases he with ⟨_, hn⟩ | ⟨rfl, _⟩
    · exact hn
    · cases h6
  refine held_x fun w7 hx' => ?_
  have hx := hx.trans' hx'
  refine vers_Format_calls (vers_Format_spec fun f hf => kp_same ⟨trivial, ?_⟩)
  have hs12 := hsok.1
  refine ifNe (fun h7 => no (by decide) hx fun k => ?_) (fun h7 => hK _ _ ⟨fun _ => ⟨⟨by omega, by omega, by omega, by omega⟩, hcok, hsok, by omega⟩, fun _ => rfl⟩ hx)
  have := k.2.2.2
  omega
/-! ### Confs, read -/
structure OwnCf (B : Nat) (w : World) (s : Sl) (cs : List ApiConf) (L : List Cf) : Prop where
  sl : OwnSl eApiConf w B s cs
  len : cs.length = L.length
  at_ : ∀ (i : Nat) c x, cs[i]? = some c → L[i]? = some x → c.From = x.1 ∧ OwnSl (eK .i64) w B c.Members x.2
  apart : ∀ (i : Nat) c, cs[i]? = some c → ∀ d, c.Members.blk = some d → s.blk ≠ some d
theorem OwnCf.is (h : OwnCf B w s cs L) : CfsAt w s cs L := ⟨h.sl.is, h.len, fun i c x h1 h2 => ⟨(h.at_ i c x h1 h2).1, (h.at_ i c x h1 h2).2.is⟩⟩
theorem OwnCf.turn {C : Nat} (h : OwnCf B w s cs L) (h1 : ∀ s xs, OwnSl eApiConf w B s xs → OwnSl eApiConf w' C s xs) (h2 : ∀ s xs, OwnSl (eK .i64) w B s xs → OwnSl (eK .i64) w' C s xs) : OwnCf C w' s cs L :=
  ⟨h1 _ _ h.sl, h.len, fun i c x k1 k2 => ⟨(h.at_ i c x k1 k2).1, h2 _ _ (h.at_ i c x k1 k2).2⟩, h.apart⟩
theorem OwnCf.low {r : Nat} (h : OwnCf B w s cs L) (hg : w.grownBy w' (some r)) (hr : r < B) : OwnCf B w' s cs L :=
  h.turn (fun s xs k => k.grownB hg fun c hc e => by have := k.ge c hc; have := Option.some.inj e; omega) fun s xs k => k.grownB hg fun c hc e => by have := k.ge c hc; have := Option.some.inj e; omega
theorem OwnCf.ext (h : OwnCf B w s cs L) (hx : Ext w w') : OwnCf B w' s cs L := h.turn (fun _ _ k => k.ext hx) fun _ _ k => k.ext hx
theorem OwnCf.nil (w : World) (B : Nat) : OwnCf B w Sl.nil [] [] := ⟨.nil _ _ _, rfl, fun i c x h => (by cases h), fun i c h => (by cases h)⟩
/-- One more. -/
theorem OwnCf.push {C : Nat} {w1 w2 : World} {s' : Sl} {c : ApiConf} {x : Cf} (h : OwnCf B w s cs L) (hcx : c.From = x.1) (hm : OwnSl (eK .i64) w C c.Members x.2) (hC : B ≤ C) (hlt : ∀ d, s.blk = some d → d < C) (hx1 : Ext w w1) (hs' : OwnSl eApiConf w2 B s' (cs ++ [c])) (hg : w1.grownBy w2 s.blk) (hnew : NewOr w1 s s') : OwnCf B w2 s' (cs ++ [c]) (L ++ [x]) := by
  have hmd : ∀ d, c.Members.blk = some d → s.blk ≠ some d := fun d hd e => by have := hm.ge d hd; have := hlt d e; omega
  have z1 := hx1.size
  refine ⟨hs', by simp [h.len], fun i c' x' hi hj => ?_, fun i c' hi d hd => ?_⟩
  · rcases Nat.lt_or_ge i cs.length with hil | hil
    · rw [List.getElem?_append_left hil] at hi
      rw [List.getElem?_append_left (by rw [← h.len]; exact hil)] at hj
      obtain ⟨k1, k2⟩ := h.at_ i c' x' hi hj
      exact ⟨k1, (k2.ext hx1).grownB hg fun d hd e => h.apart i c' hi d hd e.symm⟩
    · rw [List.getElem?_append_right hil] at hi
      rw [List.getElem?_append_right (by rw [← h.len]; exact hil), ← h.len] at hj
      have hi0 : i - cs.length = 0 := by
        have := (List.getElem?_eq_some_iff.1 hi).1
        simp only [List.length_singleton] at this
        omega
      rw [hi0] at hi hj
      cases hi
      cases hj
      exact ⟨hcx, ((hm.ext hx1).grownB hg fun d hd e => hmd d hd e.symm).mono hC⟩
  · have key : s.blk ≠ some d ∧ d < w1.heap.size := by
      rcases Nat.lt_or_ge i cs.length with hil | hil
      · rw [List.getElem?_append_left hil] at hi
        have hiL : i < L.length := by rw [← h.len]; exact hil
        exact ⟨h.apart i c' hi d hd, by have := (h.at_ i c' _ hi (List.getElem?_eq_getElem hiL)).2.lt d hd; omega⟩
      · rw [List.getElem?_append_right hil] at hi
        have hi0 : i - cs.length = 0 := by
          have := (List.getElem?_eq_some_iff.1 hi).1
          simp only [List.length_singleton] at this
          omega
        rw [hi0] at hi
        cases hi
        exact ⟨hmd d hd, by have := hm.lt d hd; omega⟩
    exact hnew.ne key.2 key.1
theorem image_confs_spec {K : Sl → World → Prop} (h : Rd w a l p no) (hl : l.length ≤ 140737488355328)
    (hK : ∀ s cs w', OwnCf w.heap.size w' s cs (rdCfs l p no).1 → Rd w' a l (rdCfs l p no).2.1 (rdCfs l p no).2.2 → w.grownBy w' (some a.block) → K s w') : image_confs (some a) K w := by
  unfold image_confs
  have hlt := h.lt
  refine pack_Reader_Count_calls (pack_Reader_Count_spec h fun w2 hr2 hg2 => ?_)
  obtain ⟨n, hn, hn2⟩ := rdCount_nat (l := l) (p := p) (no := no) (most := 64) (by decide)
  rw [hn]
  unfold rdCfs at hK
  rw [hn, Int.toNat_natCast] at hK
  generalize rdCount l 64 p no = q at *
  refine up2b (fun k out u => w.grownBy u (some a.block) ∧ Rd u a l (rdList (rdCf l) q.2.1 q.2.2 k).2.1 (rdList (rdCf l) q.2.1 q.2.2 k).2.2 ∧ ∃ cs, OwnCf w.heap.size u out cs (rdList (rdCf l) q.2.1 q.2.2 k).1) 0 n rfl (by omega) (by omega) ⟨hg2, hr2, [], OwnCf.nil _ _⟩ ?_
  rintro k out w6 C _ hk ⟨hg6, hr6, cs, ho6⟩ hC
  have z6 := hg6.size
  refine ifD (fun hlt1 => ?_) (fun hge => ?_)
  rotate_left
  · obtain rfl : k = n := by omega
    exact hK _ _ _ ho6 hr6 hg6
  have hk1 : k < n := by omega
  have hlen := rdList_len (p := q.2.1) (no := q.2.2) (one := rdCf l) k
  have hup : rdList (rdCf l) q.2.1 q.2.2 (k + 1) = ((rdList (rdCf l) q.2.1 q.2.2 k).1 ++ [(rdCf l (rdList (rdCf l) q.2.1 q.2.2 k).2.1 (rdList (rdCf l) q.2.1 q.2.2 k).2.2).1], (rdCf l (rdList (rdCf l) q.2.1 q.2.2 k).2.1 (rdList (rdCf l) q.2.1 q.2.2 k).2.2).2) := rfl
  rw [hup] at hC
  generalize rdList (rdCf l) q.2.1 q.2.2 k = Q at *
  have hcf : rdCf l Q.2.1 Q.2.2 = (((rdNum l Q.2.1 Q.2.2).1, (rdList (rdNum l) (rdCount l 9 (rdNum l Q.2.1 Q.2.2).2.1 (rdNum l Q.2.1 Q.2.2).2.2).2.1 (rdCount l 9 (rdNum l Q.2.1 Q.2.2).2.1 (rdNum l Q.2.1 Q.2.2).2.2).2.2 (rdCount l 9 (rdNum l Q.2.1 Q.2.2).2.1 (rdNum l Q.2.1 Q.2.2).2.2).1.toNat).1),
      (rdList (rdNum l) (rdCount l 9 (rdNum l Q.2.1 Q.2.2).2.1 (rdNum l Q.2.1 Q.2.2).2.2).2.1 (rdCount l 9 (rdNum l Q.2.1 Q.2.2).2.1 (rdNum l Q.2.1 Q.2.2).2.2).2.2 (rdCount l 9 (rdNum l Q.2.1 Q.2.2).2.1 (rdNum l Q.2.1 Q.2.2).2.2).1.toNat).2) := rfl
  rw [hcf] at hC
  refine pack_Reader_Number_calls (pack_Reader_Number_spec hr6 fun w8 hr8 hg8 => ?_)
  have hr8 : Rd w8 a l (rdNum l Q.2.1 Q.2.2).2.1 (rdNum l Q.2.1 Q.2.2).2.2 := hr8
  show newV (fun b9 w10 => wrM b9 (fun w11 => callV Pr (Value.int .i64) fid_pack_Reader_Count #[(.pointer (some a)), (.int .i64 9)] w11 fun t12 w13 => kp b9 w11 w13 <| loop2 (0 : Int) (ApiConf.mk (rdNum l Q.2.1 Q.2.2).1 Sl.nil) _ w13) w10) w8
  generalize rdNum l Q.2.1 Q.2.2 = f at *
  have z8 := hg8.size
  refine new_of fun b9 w10 hn10 => wr_of fun w11 hw11 => ?_
  have e10 := hn10.1
  have l10 := hn10.lt
  have z11 := hw11.size
  have hx11 : Ext w8 w11 := Below.wr (Ext.new hn10) (by omega) hw11
  have z81 := hx11.size
  have hr11 := hr8.ext hx11
  have g11 : w6.grownBy w11 (some a.block) := grown_trans hg8 (grown_ext hx11 _)
  refine pack_Reader_Count_calls (pack_Reader_Count_spec hr11 fun w13 hr13 hg13 => kp_grown hg13 (fun e => by have := Option.some.inj e; omega) ?_)
  obtain ⟨j, hj, hj2⟩ := rdCount_nat (l := l) (p := f.2.1) (no := f.2.2) (most := 9) (by decide)
  rw [hj]
  rw [hj, Int.toNat_natCast] at hC
  generalize rdCount l 9 f.2.1 f.2.2 = g at *
  have z13 := hg13.size
  refine up2a (fun i c u => w6.grownBy u (some a.block) ∧ Rd u a l (rdList (rdNum l) g.2.1 g.2.2 i).2.1 (rdList (rdNum l) g.2.1 g.2.2 i).2.2 ∧ c.From = f.1 ∧ OwnSl (eK .i64) u w11.heap.size c.Members (rdList (rdNum l) g.2.1 g.2.2 i).1 ∧ w11.heap.size ≤ u.heap.size) 0 j rfl (by omega) (by omega) ⟨grown_trans g11 hg13, hr13, rfl, .nil _ _ _, z13⟩ ?_
  rintro i c w17 D _ hi ⟨hg17, hr17, hcf, hm17, z17⟩ hD
  have hilen := rdList_len (p := g.2.1) (no := g.2.2) (one := rdNum l) i
  refine ifD (fun hlt2 => ?_) (fun hge2 => ?_)
  · have hi1 : i < j := by omega
    have hiup : rdList (rdNum l) g.2.1 g.2.2 (i + 1) = ((rdList (rdNum l) g.2.1 g.2.2 i).1 ++ [(rdNum l (rdList (rdNum l) g.2.1 g.2.2 i).2.1 (rdList (rdNum l) g.2.1 g.2.2 i).2.2).1], (rdNum l (rdList (rdNum l) g.2.1 g.2.2 i).2.1 (rdList (rdNum l) g.2.1 g.2.2 i).2.2).2) := rfl
    rw [hiup] at hD
    generalize rdList (rdNum l) g.2.1 g.2.2 i = G at *
    refine held_x fun w18 hx18 => ?_
    have hg18 := grown_trans hg17 (grown_ext hx18 (some a.block))
    have hr18 := hr17.ext hx18
    have hm18 := hm17.ext hx18
    have z18 := hx18.size
    -- what follows a number
    have app : ∀ {t : Sl} {w21 w23 : World}, w18.grownBy w21 (some a.block) → Rd w21 a l (rdNum l G.2.1 G.2.2).2.1 (rdNum l G.2.1 G.2.2).2.2 → Ext w21 w23 → OwnSl (eK .i64) w23 w21.heap.size t [(rdNum l G.2.1 G.2.2).1] →
        opTy Pr (Builtin.append_ #[73, 73] 73 #[c.Members.val, t.val]) Sl.val (fun t24 w25 => kp b9 w23 w25 <| (True ∧ wrM b9 (fun w26 => True ∧ D (i64 ((i : Int) + 1)) (ApiConf.mk c.From t24) w26) w25)) w23 := fun {t w21 w23} hg21 hr21 hx23 ht => by
      have z21 := hg21.size
      have z23 := hx23.size
      have hm23 := (hm18.grownB hg21 (fun d hd e => by have := hm18.ge d hd; have := Option.some.inj e; omega)).ext hx23
      refine app_ty 8 (by kernel_rfl) (by kernel_rfl) hm23 ht.is (by rw [hilen]; simp only [List.length_singleton]; omega) (by omega) (by decide) fun t24 w25 hm25 hg25 => kp_O hm23 (by omega) hg25 ⟨trivial, wr_of fun w26 hw26 => ⟨trivial, ?_⟩⟩
      have z25 := hg25.size
      have z26 := hw26.size
      refine hD hi1 _ _ _ rfl ⟨?_, ?_, hcf, hm25.wrO hw26 (by omega), by omega⟩
      · exact grown_hi (grown_hi (grown_trans (grown_trans hg18 hg21) (grown_ext hx23 _)) hg25 fun r hr => by have := hm23.ge r hr; omega) (grown_wr hw26) fun r hr => by cases hr; omega
      · exact ((hr21.ext hx23).high hg25 fun r hr => by have := hm23.ge r hr; omega).wr hw26 (by omega)
    have num : ∀ {X : Int → World → Prop}, (∀ w21, w18.grownBy w21 (some a.block) → Rd w21 a l (rdNum l G.2.1 G.2.2).2.1 (rdNum l G.2.1 G.2.2).2.2 → X (rdNum l G.2.1 G.2.2).1 w21) → callV Pr (Value.int .i64) fid_pack_Reader_Number #[(.pointer (some a)), (.int .i64 9223372036854775807)] w18 (fun t20 w21 => kp b9 w18 w21 <| (True ∧ X t20 w21)) := fun hX =>
      pack_Reader_Number_calls (pack_Reader_Number_spec hr18 fun w21 hr21 hg21 => kp_grown hg21 (fun e => by have := Option.some.inj e; omega) ⟨trivial, hX w21 hg21 hr21⟩)
    have lit : ∀ {w21 : World} {X : Sl → World → Prop}, w18.grownBy w21 (some a.block) → (∀ t w23, Ext w21 w23 → OwnSl (eK .i64) w23 w21.heap.size t [(rdNum l G.2.1 G.2.2).1] → X t w23) → opTy Pr (Instr.buildSlice 73 1 #[(0, (.int .i64 (rdNum l G.2.1 G.2.2).1))]) Sl.val (fun t22 w23 => kp b9 w21 w23 <| (True ∧ X t22 w23)) w21 := fun hg21 hX =>
      lit1_ty (E := eK .i64) 8 (x := (rdNum l G.2.1 G.2.2).1) _ (by kernel_rfl) (by decide) (fun w => by kernel_rfl) (Nat.le_refl _) fun t22 w23 _ ht hx23 => kp_ext hx23 ⟨trivial, hX t22 w23 hx23 ht⟩
    refine ⟨⟨trivial, num fun w21 hg21 hr21 => lit hg21 fun t w23 hx23 ht => app hg21 hr21 hx23 ht⟩, num fun w21 hg21 hr21 => ⟨⟨trivial, lit hg21 fun t w23 hx23 ht => app hg21 hr21 hx23 ht⟩, lit hg21 fun t w23 hx23 ht => ⟨trivial, app hg21 hr21 hx23 ht⟩⟩⟩
  · obtain rfl : i = j := by omega
    have ho17 := ho6.low hg17 (by omega)
    have olt := ho6.sl.lt
    refine lit1_ty (E := eApiConf) 32 (x := c) w11.heap.size (by kernel_rfl) (by decide) (fun w => by kernel_rfl) (by omega) fun t39 w40 _ ht39 hx40 => kp_ext hx40 ?_
    have z40 := hx40.size
    have hcl : cs.length ≤ 64 := by have := ho6.len; omega
    refine app_ty2 32 (by kernel_rfl) (by kernel_rfl) (ho17.sl.ext hx40) ht39.is (by simp only [List.length_singleton]; omega) (by omega) (by decide) fun out41 w42 ho42 hg42 hnew => kp_grown hg42 (fun e => by have := olt b9 e.symm; omega) ?_
    refine hC hk1 _ _ _ rfl ⟨?_, ?_, cs ++ [c], ?_⟩
    · exact grown_hi (grown_trans (grown_trans hg6 hg17) (grown_ext hx40 _)) hg42 fun r hr => ho17.sl.ge r hr
    · exact (hr17.ext hx40).high hg42 fun r hr => by have := ho17.sl.ge r hr; omega
    · exact ho17.push (C := w11.heap.size) hcf hm17 (by omega) (fun d hd => by have := olt d hd; omega) hx40 ho42 hg42 hnew
theorem OwnCf.mono {C : Nat} (h : OwnCf B w s cs L) (hC : C ≤ B) : OwnCf C w s cs L := h.turn (fun _ _ k => k.mono hC) fun _ _ k => k.mono hC
theorem OwnCf.wrO {b : Nat} (h : OwnCf B w s cs L) (hw : Wr b w w') (hb : b < B) : OwnCf B w' s cs L := h.turn (fun _ _ k => k.wrO hw hb) fun _ _ k => k.wrO hw hb
theorem OwnCf.nw {b : Nat} {w1 w2 : World} (h : OwnCf B w s cs L) (hn : New b w w1) (hw : Wr b w1 w2) : OwnCf B w2 s cs L := h.turn (fun _ _ k => k.nw hn hw) fun _ _ k => k.nw hn hw
/-- What a read of an image yields when it goes well. -/
def ReadR (B : Nat) (w' : World) (l : List UInt8) (v p : Int) (r : ApiImage × Int) : Prop :=
  r.2 = 0 → ∃ cs ps ss, OwnCf B w' r.1.Confs cs (rdCfs l (rdAct l v (rdNum l p 0).2.1 (rdNum l p 0).2.2).2.1 (rdAct l v (rdNum l p 0).2.1 (rdNum l p 0).2.2).2.2).1 ∧ OwnSl eApiPair w' B r.1.State.Pairs ps ∧ OwnSl eApiSession w' B r.1.State.Sessions ss ∧
    r.1.Index = (rdNum l p 0).1 ∧ r.1.Active = (rdAct l v (rdNum l p 0).2.1 (rdNum l p 0).2.2).1 ∧ r.1.State.Schema = v ∧ ImgMay r.1 (rdCfs l (rdAct l v (rdNum l p 0).2.1 (rdNum l p 0).2.2).2.1 (rdAct l v (rdNum l p 0).2.1 (rdNum l p 0).2.2).2.2).1 ps ss ∧
    decSt v (rdImgE l v p).1 = (0, ps, ss) ∧ (rdImgE l v p).2.2 = 0 ∧ ¬ (rdImgE l v p).2.1 < l.length
theorem image_read_spec {w0 : World} {K : ApiImage × Int → World → Prop} (ht : Utf8T w0) (hx0 : Ext w0 w) (ha0 : w0.heap.size ≤ a.block) (h : Rd w a l p 0) (hl : l.length ≤ 140737488355328) (hv : v = 1 ∨ v = 2) (hK : ∀ r w', ReadR w.heap.size w' l v p r → w.grownBy w' (some a.block) → K r w') : image_read (some a) v K w := by
  unfold image_read
  have hlt := h.lt
  refine new_of fun b1 w2 hn2 => ?_
  have e2 := hn2.1
  have l2 := hn2.lt
  have hx2 := Ext.new hn2
  have na : ∀ {b : Nat}, w.heap.size ≤ b → some b ≠ some a.block := fun h e => by have := Option.some.inj e; omega
  refine pack_Reader_Number_calls (pack_Reader_Number_spec (h.ext hx2) fun w4 hr4 hg4 => kp_grown hg4 (na (by omega)) ?_)
  have hr4 : Rd w4 a l (rdNum l p 0).2.1 (rdNum l p 0).2.2 := hr4
  have hg : w.grownBy w4 (some a.block) := grown_trans (grown_ext hx2 _) hg4
  have z4 := hg4.size
  have ei : (rdNumber l 9223372036854775807 p 0).1 = (rdNum l p 0).1 := rfl
  rw [ei]
  unfold ReadR rdImgE at hK
  dsimp only at hK
  generalize rdNum l p 0 = i at *
  refine new_of fun b5 w6 hn6 => wr_of fun w7 hw7 => ?_
  have e6 := hn6.1
  have l6 := hn6.lt
  have s7 := hw7.size
  have hx7 : Ext w4 w7 := Below.wr (Ext.new hn6) (by omega) hw7
  have hr7 := hr4.ext hx7
  have hg := grown_trans hg (grown_ext hx7 _)
  obtain ⟨A, hA⟩ : ∃ A, A = rdAct l v i.2.1 i.2.2 := ⟨_, rfl⟩
  rw [← hA] at hK
  refine ⟨fun m u => m = ⟨i.1, A.1, Sl.nil, zState⟩ ∧ Rd u a l A.2.1 A.2.2 ∧ w.grownBy u (some a.block) ∧ w7.heap.size ≤ u.heap.size, ?_, ?_⟩
  · refine ifEq (fun hf => ?_) (fun hf => ?_)
    · refine pack_Reader_Number_calls (pack_Reader_Number_spec hr7 fun w10 hr10 hg10 => kp_grown hg10 (na (by omega)) (kp_grown hg10 (na (by omega)) (wr_of fun w11 hw11 => ?_)))
      have hr10 : Rd w10 a l (rdNum l i.2.1 i.2.2).2.1 (rdNum l i.2.1 i.2.2).2.2 := hr10
      have hAe : A = rdNum l i.2.1 i.2.2 := by rw [hA]; unfold rdAct; rw [if_pos hf]
      have z10 := hg10.size
      have z11 := hw11.size
      refine ⟨?_, ?_, grown_new (grown_trans hg hg10) (by omega) (grown_wr hw11), by omega⟩
      · rw [hAe]; rfl
      · rw [hAe]; exact hr10.wr hw11 (by omega)
    · have hAe : A = (0, i.2.1, i.2.2) := by rw [hA]; unfold rdAct; rw [if_neg hf]
      exact ⟨by rw [hAe]; rfl, by rw [hAe]; exact hr7, hg, Nat.le_refl _⟩
  rintro _ w13 ⟨rfl, hr13, hg, z13⟩
  refine image_confs_calls (image_confs_spec hr13 hl fun t14 cs w15 hcf15 hr15 hg15 => kp_grown hg15 (na (by omega)) (kp_grown hg15 (na (by omega)) (wr_of fun w16 hw16 => ?_)))
  have z15 := hg15.size
  have z16 := hw16.size
  have hg := grown_new (grown_trans hg hg15) (by omega) (grown_wr hw16)
  have hr16 := hr15.wr hw16 (by omega)
  have hcf := hcf15.wrO hw16 (by omega)
  generalize rdCfs l A.2.1 A.2.2 = C at *
  refine pack_Reader_Raw_calls (pack_Reader_Raw_spec hr16 hl fun b17 w18 hb18 hr18 hg18 => kp_grown hg18 (na (by omega)) (kp_grown hg18 (na (by omega)) ?_))
  have z18 := hg18.size
  have hg := grown_trans hg hg18
  have hcf := hcf.low hg18 (by omega)
  have hT : (rdText l 32768 C.2.1 C.2.2).2.2 = 0 → ((rdText l 32768 C.2.1 C.2.2).1.length : Int) ≤ 32768 := fun h => (rdText_inv h).2.1
  generalize rdText l 32768 C.2.1 C.2.2 = T at *
  refine pack_Reader_Done_calls (pack_Reader_Done_spec hr18 fun w20 hx20 => kp_ext hx20 (kp_ext hx20 ?_))
  have z20 := hx20.size
  have hg := grown_trans hg (grown_ext hx20 _)
  have hcf := hcf.ext hx20
  have bad : ∀ {m : ApiImage} {e : Int} {u : World}, e ≠ 0 → w.grownBy u (some a.block) → wrM b1 (fun w21 => K (m, e) w21) u := fun he hg => wr_of fun w21 hw21 => hK _ _ (fun h => absurd h he) (grown_new hg (by omega) (grown_wr hw21))
  refine ifNe (fun hd => bad hd hg) (fun hd => ?_)
  have t0 : T.2.2 = 0 := Classical.byContradiction fun h => by rw [if_pos h] at hd; exact h hd
  have t1 : ¬ T.2.1 < l.length := fun h => by rw [if_neg (not_not_intro t0), if_pos h] at hd; cases hd
  have htl := hT t0
  have hb20 := hb18.ext hx20
  refine snaptwo_Get_calls (snaptwo_Get_spec (ht.ext (hx0.grown hg ha0)) hb20.is (by omega) ⟨fun e w23 he _ _ hx23 => kp_ext hx23 (kp_ext hx23 (new_of fun b24 w25 hn25 => wr_of fun w26 hw26 => ?_)), fun f ps ss pa pb w23 hf12 hdec hps hss hx23 => kp_ext hx23 (kp_ext hx23 (new_of fun b24 w25 hn25 => wr_of fun w26 hw26 => ?_))⟩)
  · have e25 := hn25.1
    have z23 := hx23.size
    exact ifNe (fun _ => bad he (grown_new (grown_trans (grown_trans hg (grown_ext hx23 _)) (grown_ext (Ext.new hn25) _)) (by omega) (grown_wr hw26))) (fun h => absurd h he)
  have e25 := hn25.1
  have z23 := hx23.size
  have z25 := hn25.lt
  have z26 := hw26.size
  have hg := grown_new (grown_trans (grown_trans hg (grown_ext hx23 _)) (grown_ext (Ext.new hn25) _)) (by omega) (grown_wr hw26)
  have hcf := (hcf.ext hx23).nw hn25 hw26
  have hps := hps.nw hn25 hw26
  have hss := hss.nw hn25 hw26
  refine ifNe (fun h => absurd rfl h) (fun _ => ?_)
  refine wr_of fun w28 hw28 => ?_
  have z28 := hw28.size
  have hg := grown_new hg (by omega) (grown_wr hw28)
  have hcf := hcf.wrO hw28 (by omega)
  have hps := hps.wrO hw28 (by omega)
  have hss := hss.wrO hw28 (by omega)
  refine ifNe (fun _ => bad (by decide) hg) (fun hfv => ?_)
  have hfv : f = v := hfv
  subst hfv
  obtain ⟨hsok, hbytes⟩ := decSt_inv hdec
  have h64 := (ok_small hsok).2.2.1
  refine window_Check_calls (m := ⟨i.1, A.1, t14, ⟨f, pa, pb⟩⟩) (window_Check_spec (L := C.1) (ps := ps) (ss := ss) (ht.ext (hx0.grown hg ha0)) ⟨⟨cs, hcf.is⟩, ⟨hps.is, hss.is⟩⟩ (by omega) fun e w31 he hx31 => kp_ext hx31 (kp_ext hx31 (kp_ext hx31 ?_)))
  have hg := grown_trans hg (grown_ext hx31 _)
  refine ifNe (fun _ => bad (by decide) hg) (fun he0 => ?_)
  refine wr_of fun w33 hw33 => hK _ _ (fun _ => ⟨cs, ps, ss, ?_, ?_, ?_, rfl, rfl, rfl, he.1 he0, hdec, t0, t1⟩) (grown_new hg (by omega) (grown_wr hw33))
  · exact ((hcf.ext hx31).wrO hw33 (by omega)).mono (by omega)
  · exact ((hps.ext hx31).wrO hw33 (by omega)).mono (by omega)
  · exact ((hss.ext hx31).wrO hw33 (by omega)).mono (by omega)
def zImage : ApiImage := ⟨0, 0, Sl.nil, zState⟩
/-- What bytes are, as an image. -/
def DecI (B : Nat) (w' : World) (v : Int) (l : List UInt8) (r : ApiImage × Int) : Prop :=
  (r.2 ≠ 0 → r.1 = zImage) ∧ (¬ (v = 1 ∨ v = 2) → r.2 = 8) ∧ (r.2 = 0 → (v = 1 ∨ v = 2) ∧ ∃ cs L ps ss, OwnCf B w' r.1.Confs cs L ∧ OwnSl eApiPair w' B r.1.State.Pairs ps ∧ OwnSl eApiSession w' B r.1.State.Sessions ss ∧ ImgMay r.1 L ps ss ∧ L.length ≤ 64 ∧ r.1.State.Schema ≤ v ∧
    (rdNumber l 2 0 0).1 = r.1.State.Schema ∧ l = imgB r.1.State.Schema r.1.Index r.1.Active L (stateB r.1.State.Schema ps ss))
theorem image_Decode_1_spec {e : Int} {K : ApiImage × Int → World → Prop} (hK : ∀ w', Ext w w' → K (zImage, e) w') : image_Decode_1 e K w := by
  unfold image_Decode_1
  exact new_x (Ext.rfl' w) fun b1 w2 hb1 hl1 hx hn2 => wr_x hx hb1 fun w3 hx _ => hK _ hx
theorem image_Decode_spec {K : ApiImage × Int → World → Prop} (ht : Utf8T w) (hb : IsSl eB w b l) (hl : l.length ≤ 140737488355328) (hK : ∀ r w', DecI w.heap.size w' v l r → Ext w w' → K r w') : image_Decode v b K w := by
  unfold image_Decode
  have hlen := hb.len
  refine new_x (Ext.rfl' w) fun b1 w2 hb1 hl1 hx hn2 => ?_
  have e2 := hn2.1
  have none_ : ∀ {e : Int} {u : World}, e ≠ 0 → (¬ (v = 1 ∨ v = 2) → e = 8) → Ext w u → callV Pr (tval2 ApiImage.val (Value.int .i64)) fid_image_Decode_1 #[(.int .i64 e)] u (fun t5 w6 => kp b1 u w6 <| wrM b1 (fun w7 => K t5 w7) w6) := fun he h8 hx =>
    image_Decode_1_calls (image_Decode_1_spec fun w6 hx' => kp_ext hx' (wr_x (hx.trans' hx') hb1 fun w7 hx7 _ => hK _ _ ⟨fun _ => rfl, h8, fun h => absurd h he⟩ hx7))
  refine vers_May_calls (vers_May_eq fun t hv => kp_same ?_)
  refine ifNot (ifB_of (fun htt => ?_) (fun htt => none_ (by decide) (fun _ => rfl) hx))
  have hv := hv.1 htt
  have n8 : ∀ {e : Int}, ¬ (v = 1 ∨ v = 2) → e = 8 := fun h => absurd hv h
  refine ifD (fun _ => none_ (by decide) n8 hx) (fun h32 => ?_)
  refine pack_NewReader_calls (pack_NewReader_spec (hb.ext hx) hl fun a w12 ha hr12 hx12 => kp_ext hx12 ?_)
  have hx := hx.trans' hx12
  have z2 := hn2.lt
  have haw : w.heap.size ≤ a.block := by omega
  refine pack_Reader_Number_calls (pack_Reader_Number_spec hr12 fun w14 hr14 hg14 => kp_grown hg14 (fun e => by have := Option.some.inj e; omega) ?_)
  have hx := hx.grown hg14 haw
  have z14 := hg14.size
  have z12 := hr12.lt
  obtain ⟨F, hF⟩ : ∃ F, F = rdNumber l 2 0 0 := ⟨_, rfl⟩
  rw [← hF] at hr14 ⊢
  refine pack_Reader_Err_calls (pack_Reader_Err_spec hr14 (kp_same ?_))
  refine ifNe (fun h0 => none_ h0 n8 hx) (fun h0 => ?_)
  refine ifEq (fun _ => none_ (by decide) n8 hx) (fun h1 => ?_)
  refine ifD (fun _ => none_ (by decide) n8 hx) (fun h2 => ?_)
  obtain ⟨_, q, hq, hq2, _⟩ := rdNumber_inv (hF ▸ h0)
  rw [← hF] at hq
  have hf12 : F.1 = 1 ∨ F.1 = 2 := by omega
  rw [h0] at hr14
  refine image_read_calls (image_read_spec ht hx haw hr14 hl hf12 fun r w27 hrr hg27 => kp_grown hg27 (fun e => by have := Option.some.inj e; omega) ?_)
  have hx := hx.grown hg27 haw
  have z27 := hg27.size
  refine new_of fun b28 w29 hn29 => wr_of fun w30 hw30 => ?_
  have e29 := hn29.1
  have hx30 : Ext w27 w30 := Below.wr (Ext.new hn29) (by omega) hw30
  have hx := hx.trans' hx30
  refine ifNe (fun hr0 => ?_) (fun hr0 => ?_)
  · refine image_Decode_1_calls (image_Decode_1_spec fun w32 hx' => kp_ext hx' (kp_ext hx' (wr_x (hx.trans' hx') hb1 fun w33 hx33 _ => hK _ _ ⟨fun _ => rfl, n8, fun h => absurd h hr0⟩ hx33)))
  · refine wr_x hx hb1 fun w34 hx34 hw34 => hK _ _ ⟨fun h => absurd rfl h, n8, fun _ => ⟨hv, ?_⟩⟩ hx34
    obtain ⟨cs, ps, ss, k1, k2, k3, k4, k5, k6, k7, k8, k9, k10⟩ := hrr hr0
    obtain ⟨hsok, hbytes⟩ := decSt_inv k8
    have hw := rdImg_whole (l := l) (hF ▸ h0) rfl rfl rfl rfl (by rw [← hF]; exact k9) (by rw [← hF]; exact k10)
    rw [← hF] at hw
    obtain ⟨w1, w2, _⟩ := hw
    refine ⟨cs, _, ps, ss, ((k1.nw hn29 hw30).wrO hw34 (by omega)).mono (by omega), ((k2.nw hn29 hw30).wrO hw34 (by omega)).mono (by omega), ((k3.nw hn29 hw30).wrO hw34 (by omega)).mono (by omega), k7, w2, ?_, ?_, ?_⟩
    · show r.1.State.Schema ≤ v
      rw [k6]; omega
    · show _ = r.1.State.Schema
      rw [k6, hF]
    · show l = imgB r.1.State.Schema r.1.Index r.1.Active _ (stateB r.1.State.Schema ps ss)
      rw [k6, k4, k5, ← hbytes]
      exact w1
theorem image_Format_spec {K : Int → World → Prop} (hb : IsSl eB w b l) (hl : l.length ≤ 140737488355328) (hK : ∀ w', Ext w w' → K (rdNumber l 2 0 0).1 w') : image_Format b K w := by
  unfold image_Format
  refine pack_NewReader_calls (pack_NewReader_spec hb hl fun a w2 ha hr hx => ?_)
  exact pack_Reader_Number_calls (pack_Reader_Number_spec hr fun w4 hr4 hg4 => hK _ (hx.grown hg4 ha))
end Go.Chg
