/-
  The law of chapter 39: what any bytes are decoded as, as an image.
-/
import Derived.Test.YthofeajlmgecmaaGreatDoorSpImg
set_option maxRecDepth 20000
set_option linter.unusedVariables false
namespace Go.Chg
open Go.Vc
variable {w w' : World} {l bs : List UInt8} {s b : Sl} {p no v : Int} {B : Nat} {a : Addr} {m : ApiImage} {cs : List ApiConf} {L : List Cf} {ps : List ApiPair} {ss : List ApiSession}
/-! ### How long the bytes of an image are -/
theorem mems_low {l : List Int} (h : MemsOk l) : ∀ (i : Nat) (hi : i < l.length), (i : Int) + 1 ≤ l[i]
  | 0, hi => by have := (h.2.at_ hi).1; omega
  | i + 1, hi => by
    have h1 := mems_low h i (by omega)
    have h2 := h.2.2 i _ _ (List.getElem?_eq_getElem (by omega)) (List.getElem?_eq_getElem hi)
    omega
theorem mems_len {l : List Int} (h : MemsOk l) : l.length ≤ 9 := by
  rcases Nat.eq_zero_or_pos l.length with h0 | h0
  · omega
  · have h1 := mems_low h (l.length - 1) (by omega)
    have h2 := (h.2.at_ (k := l.length - 1) (by omega)).2
    omega
theorem numB_len {n : Int} (h : n ≤ 9223372036854775807) : (numB n).length ≤ 9 := enc_len9 h
theorem memB_len {l : List Int} (h : MemsOk l) (k : Nat) : ((l.take k).flatMap numB).length ≤ 9 * 9 :=
  take_le (n := 9) (fun x hx => numB_len (by have := (h.2.1 x hx).2; omega)) (mems_len h) k
theorem encN_len {n : Nat} (h : n ≤ 9223372036854775807) : (enc n).length ≤ 9 := by
  have := enc_len9 (n := (n : Int)) (by omega)
  rwa [Int.toNat_natCast] at this
theorem cfB_len {c : Cf} (h : MemsOk c.2 ∧ c.1 ≤ 4294967296) : (cfB c).length ≤ 99 := by
  unfold cfB
  have h1 := numB_len (n := c.1) (by have := h.2; omega)
  have h2 := mems_len h.1
  have h3 := encN_len (n := c.2.length) (by omega)
  have h4 := memB_len h.1 c.2.length
  rw [List.take_length] at h4
  simp only [List.length_append]
  omega
/-! ### The document's answer -/
theorem ref11_Check_spec {K : Bool → World → Prop} (h : CfsAt w s cs L) (hK : ∀ t w', (t = true ↔ CfsOk L) → Ext w w' → K t w') : ref11_Check s K w := by
  unfold ref11_Check
  have hlen := h.sl.len
  have hl := h.len
  have hle := h.sl.le
  have no : ∀ {u : World}, Ext w u → ¬ CfsOk L → K false u := fun hx h => hK _ _ ⟨fun e => (by cases e), fun k => absurd k h⟩ hx
  refine ifEq (fun h0 => no (Ext.rfl' w) fun k => ?_) (fun h0 => ?_)
  · obtain ⟨⟨c, hc, _⟩, _⟩ := k
    have := (List.getElem?_eq_some_iff.1 hc).1
    omega
  have p0 : 0 < cs.length := by omega
  have p1 : 0 < L.length := by omega
  have g0 := (h.get p0 p1).1
  refine fld_rd (E := eApiConf) (off := 0) (k := 0) (val := Value.int .i64) (y := cs[0].From) (by kernel_rfl) (by kernel_rfl) h.sl rfl p0 rfl fun _ => ?_
  refine ifNe (fun h1 => no (Ext.rfl' w) fun k => ?_) (fun h1 => ?_)
  · obtain ⟨⟨c, hc, hc1⟩, _⟩ := k
    rw [List.getElem?_eq_getElem p1] at hc
    cases hc
    exact h1 (g0.trans hc1)
  have hfirst : ∃ c, L[0]? = some c ∧ c.1 = 1 := ⟨_, List.getElem?_eq_getElem p1, g0.symm.trans h1⟩
  refine up1 (fun k u => Ext w u ∧ Pre (fun c => MemsOk c.2 ∧ c.1 ≤ 4294967296) (fun x y => x.1 < y.1) L k) 0 L.length rfl (by omega) (by omega) ⟨Ext.rfl' w, Pre.zero⟩ ?_
  rintro k u C _ hk ⟨hx, hp⟩ hC
  refine ifD (fun hlt => ?_) (fun hge => ?_)
  · have hk1 : k < cs.length := by omega
    have hk2 : k < L.length := by omega
    have h' := h.ext hx
    obtain ⟨gf, gm⟩ := h'.get hk1 hk2
    refine fld_rd (E := eApiConf) (off := 1) (k := k) (val := Sl.val) (y := cs[k].Members) (by kernel_rfl) (by kernel_rfl) h'.sl rfl hk1 rfl fun _ => ?_
    have gl := gm.len
    refine ⟨fun u' => Ext u u' ∧ L[k].2 ≠ [] ∧ L[k].1 ≤ 4294967296 ∧ (0 < k → ∀ (h1 : k - 1 < L.length), (L[k - 1]'h1).1 < L[k].1), drew_of fun w9 hx9 => ?_, ?_⟩
    · have hx' := hx.trans' hx9
      have h9 := h'.ext hx9
      refine ifEq (fun h2 => no hx' fun mo => ?_) (fun h2 => ?_)
      · have := List.length_pos_iff.2 (mo.2.at_ hk2).1.1
        omega
      have hne : L[k].2 ≠ [] := fun e => by rw [e, List.length_nil] at gl; omega
      refine fld_rd (E := eApiConf) (off := 0) (k := k) (val := Value.int .i64) (y := cs[k].From) (by kernel_rfl) (by kernel_rfl) h9.sl rfl hk1 rfl fun _ => ?_
      rw [gf]
      refine ifD (fun h3 => no hx' fun mo => by have := (mo.2.at_ hk2).2; omega) (fun h3 => ?_)
      refine ifD (fun h4 => ?_) (fun h4 => ⟨hx9, hne, by omega, fun h0 => absurd h0 (by omega)⟩)
      have q0 : 0 < k := by omega
      have q1 : k - 1 < cs.length := by omega
      have q2 : k - 1 < L.length := by omega
      have gp := (h9.get q1 q2).1
      refine fld_rd (E := eApiConf) (off := 0) (k := k) (val := Value.int .i64) (y := cs[k].From) (by kernel_rfl) (by kernel_rfl) h9.sl rfl hk1 rfl fun _ => ?_
      refine fld_rd (E := eApiConf) (off := 0) (k := k - 1) (val := Value.int .i64) (y := cs[k - 1].From) (by kernel_rfl) (by kernel_rfl) h9.sl (prev_i64 q0 (by omega)) q1 rfl fun _ => ?_
      rw [gf, gp]
      exact ifD (fun h5 => no hx' fun mo => by have := mo.2.next hk2 q0 q2; omega) (fun h5 => ⟨hx9, hne, by omega, fun _ _ => by omega⟩)
    rintro w16 ⟨hx16, hne, hfr, hnx⟩
    have hx16' := hx.trans' hx16
    have gm' := gm.ext hx16
    have gle := gm.le
    have noM : ∀ {u' : World}, Ext w16 u' → ¬ MemsOk L[k].2 → K false u' := fun hx h => no (hx16'.trans' hx) fun mo => h (mo.2.at_ hk2).1
    refine up1 (fun j u' => Ext w16 u' ∧ Pre (fun n => 1 ≤ n ∧ n ≤ 9) (fun x y => x < y) L[k].2 j) 0 L[k].2.length rfl (by omega) gle ⟨Ext.rfl' _, Pre.zero⟩ ?_
    rintro j u' D _ hj ⟨hxj, hpj⟩ hD
    refine ifD (fun hjlt => ?_) (fun hjge => ?_)
    · have hj1 : j < L[k].2.length := by omega
      refine drew_of fun w20 hx20 => ?_
      have hxn := hxj.trans' hx20
      have gm20 := gm'.ext hxn
      refine el_rd (E := eK .i64) (y := L[k].2[j]) (by kernel_rfl) (by kernel_rfl) gm20 rfl hj1 rfl fun _ => ?_
      refine ifD (fun h1 => noM hxn fun mo => by have := mo.2.at_ hj1; omega) (fun h1 => ?_)
      refine el_rd (E := eK .i64) (y := L[k].2[j]) (by kernel_rfl) (by kernel_rfl) gm20 rfl hj1 rfl fun _ => ?_
      refine ifD (fun h2 => noM hxn fun mo => by have := mo.2.at_ hj1; omega) (fun h2 => ?_)
      refine ifD (fun h3 => ?_) (fun h3 => hD hj1 _ _ rfl ⟨hxn, hpj.up hj1 ⟨by omega, by omega⟩ fun h0 => absurd h0 (by omega)⟩)
      have q0 : 0 < j := by omega
      have q2 : j - 1 < L[k].2.length := by omega
      refine el_rd (E := eK .i64) (y := L[k].2[j]) (by kernel_rfl) (by kernel_rfl) gm20 rfl hj1 rfl fun _ => ?_
      refine el_rd (E := eK .i64) (y := L[k].2[j - 1]) (by kernel_rfl) (by kernel_rfl) gm20 (prev_i64 q0 (by omega)) q2 rfl fun _ => ?_
      exact ifD (fun h4 => noM hxn fun mo => by have := mo.2.next hj1 q0 q2; omega) (fun h4 => hD hj1 _ _ rfl ⟨hxn, hpj.up hj1 ⟨by omega, by omega⟩ fun _ _ => by omega⟩)
    · exact hC hk2 _ _ rfl ⟨hx16'.trans' hxj, hp.up hk2 ⟨⟨hne, hpj.all (by omega)⟩, hfr⟩ hnx⟩
  · exact hK _ _ ⟨fun _ => ⟨hfirst, hp.all (by omega)⟩, fun _ => rfl⟩ hx
theorem ref30_Check_spec {K : Bool → World → Prop} (h : ImgAt w m L ps ss) (hK : ∀ t w', (t = true ↔ ImgMay m L ps ss) → Ext w w' → K t w') : ref30_Check m K w := by
  unfold ref30_Check
  obtain ⟨⟨cs, hcf⟩, hst⟩ := h
  refine new_x (Ext.rfl' w) fun b1 w2 hb1 hl1 hx hn2 => ?_
  have no : ∀ {u : World}, Ext w u → ¬ ImgMay m L ps ss → K false u := fun hx h => hK _ _ ⟨fun e => (by cases e), fun k => absurd k h⟩ hx
  refine ifD (fun h1 => no hx fun k => by have := k.1; omega) (fun h1 => ?_)
  refine ifD (fun h2 => no hx fun k => by have := k.1; omega) (fun h2 => ?_)
  refine ifD (fun h3 => no hx fun k => by have := k.1; omega) (fun h3 => ?_)
  refine ifD (fun h4 => no hx fun k => by have := k.1; omega) (fun h4 => ?_)
  refine ref11_Check_calls (ref11_Check_spec (hcf.ext hx) fun t w4 ht hx' => kp_ext hx' ?_)
  have hx := hx.trans' hx'
  refine ifNot (ifB_of (fun h5 => ?_) (fun h5 => no hx fun k => by rw [ht.2 k.2.1] at h5; cases h5))
  refine ref25_Check_calls (s := m.State) (ref25_Check_spec (hst.ext hx) fun t6 w6 ht6 hx' => kp_ext hx' ?_)
  have hx := hx.trans' hx'
  refine ifNot (ifB_of (fun h6 => ?_) (fun h6 => no hx fun k => by rw [ht6.2 k.2.2.1] at h6; cases h6))
  have base : (0 ≤ m.Index ∧ m.Index ≤ 4294967296 ∧ 0 ≤ m.Active ∧ m.Active ≤ m.Index) := by omega
  refine hK _ _ ?_ hx
  constructor
  · intro h7
    refine ⟨base, ht.1 h5, ht6.1 h6, ?_⟩
    by_cases h8 : m.State.Schema = 2
    · rw [show (m.State.Schema == 2) = true from by simpa using h8] at h7
      exact ⟨fun _ => by simpa using h7, fun _ => h8⟩
    · rw [show (m.State.Schema == 2) = false from by simpa using h8] at h7
      exact ⟨fun k => absurd k h8, fun k => absurd k (by simpa using h7)⟩
  · intro k
    have h7 := k.2.2.2
    by_cases h8 : m.State.Schema = 2
    · rw [show (m.State.Schema == 2) = true from by simpa using h8]
      simpa using h7.1 h8
    · rw [show (m.State.Schema == 2) = false from by simpa using h8]
      have : ¬ 0 < m.Active := fun k => h8 (h7.2 k)
      simpa using this
theorem ref39_May_spec {K : Bool → World → Prop} (h : ImgAt w m L ps ss) (hK : ∀ t w', (t = true ↔ ImgMay m L ps ss ∧ L.length ≤ 64) → Ext w w' → K t w') : ref39_May m K w := by
  unfold ref39_May
  refine new_x (Ext.rfl' w) fun b1 w2 hb1 hl1 hx hn2 => ?_
  refine ref30_Check_calls (m := m) (ref30_Check_spec (h.ext hx) fun t w4 ht hx' => kp_ext hx' ?_)
  have hx := hx.trans' hx'
  obtain ⟨⟨cs, hcf⟩, hst⟩ := h
  have hlen := hcf.sl.len
  have hl := hcf.len
  refine ifB_of (fun h1 => hK _ _ ?_ hx) (fun h1 => hK _ _ ⟨fun e => (by cases e), fun k => by rw [ht.2 k.1] at h1; cases h1⟩ hx)
  rw [decide_eq_true_iff]
  exact ⟨fun k => ⟨ht.1 h1, by omega⟩, fun k => by have := k.2; omega⟩
theorem ref11_Same_nil {K : Bool → World → Prop} (hK : K true w) : ref11_Same Sl.nil Sl.nil K w := by
  unfold ref11_Same
  refine ifNe (fun h => absurd rfl h) (fun _ => ?_)
  refine up1 (fun k u => w = u) 0 0 rfl (by omega) (by omega) rfl ?_
  rintro k _ C _ hk rfl hC
  exact ifD (fun h => absurd h (by show ¬ ((k : Int) < ((0 : Nat) : Int)); omega)) (fun _ => hK)
theorem ref30_Same_zero {K : Bool → World → Prop} (hK : ∀ w', Ext w w' → K true w') : ref30_Same zImage zImage K w := by
  unfold ref30_Same
  refine new_x (Ext.rfl' w) fun b1 w2 hb1 hl1 hx hn2 => new_x hx fun b3 w4 _ _ hx _ => ?_
  refine ifEq (fun _ => ifEq (fun _ => ?_) (fun h => absurd rfl h)) (fun h => absurd rfl h)
  refine ref11_Same_calls (ref11_Same_nil (kp_same (kp_same (ifB_t rfl ?_))))
  refine ref25_Same_calls (a := zState) (b := zState) (ref25_Same_spec (StAt.zero _) (StAt.zero _) fun t w8 ht hx' => kp_ext hx' (kp_ext hx' ?_))
  rw [ht.2 ⟨rfl, rfl, rfl⟩]
  exact hK _ (hx.trans' hx')
theorem cfs_take {k : Nat} (h : CfsOk L) (h64 : L.length ≤ 64) : ((L.take k).flatMap cfB).length ≤ 99 * 64 := take_le (fun c hc => cfB_len (h.2.1 c hc)) h64 k
theorem ref39_Bytes_spec {K : Sl → World → Prop} (h : ImgAt w m L ps ss) (hok : ImgMay m L ps ss) (h64 : L.length ≤ 64) (hK : ∀ s w', OwnSl eB w' w.heap.size s (imgB m.State.Schema m.Index m.Active L (stateB m.State.Schema ps ss)) → Ext w w' → K s w') : ref39_Bytes m K w := by
  unfold ref39_Bytes
  unfold imgB cfsB at hK
  obtain ⟨⟨cs, hcf⟩, hst⟩ := h
  obtain ⟨⟨i0, i1, a0, a1⟩, hc, hs, _⟩ := hok
  have hv := hs.1
  have hlen := hcf.sl.len
  have hl := hcf.len
  have e1 : (numB m.State.Schema).length ≤ 9 := numB_len (by omega)
  have e2 : (numB m.Index).length ≤ 9 := numB_len (by omega)
  have e3 : (numB m.Active).length ≤ 9 := numB_len (by omega)
  have e4 := encN_len (n := L.length) (by omega)
  have hsl := stateB_len hs
  refine new_x (Ext.rfl' w) fun b1 w2 hb1 hl1 hx _ => ?_
  refine ref01_Bytes_calls (ref01_Bytes_spec (by omega) fun s3 w4 ho hx' => kp_ext hx' ?_)
  have hx := hx.trans' hx'
  have hz := hx'.size
  have hB : w.heap.size ≤ w2.heap.size := by omega
  have ho : OwnSl eB w4 w2.heap.size s3 (numB m.State.Schema) := ho
  refine cat_mk (m := numB m.Index) (by kernel_rfl) (by kernel_rfl) (mk_num (by omega)) hx ho hl1 hz hB (by omega) fun s7 w8 ho hx hz => ?_
  refine ⟨fun out u => Ext w u ∧ w2.heap.size ≤ u.heap.size ∧ OwnSl eB u w2.heap.size out (numB m.State.Schema ++ numB m.Index ++ (if m.State.Schema = 2 then numB m.Active else [])), ?_, ?_⟩
  · refine ifEq (fun h2 => ?_) (fun h2 => ⟨hx, hz, by rw [if_neg h2, List.append_nil]; exact ho⟩)
    exact cat_mk (m := numB m.Active) (by kernel_rfl) (by kernel_rfl) (mk_num (by omega)) hx ho hl1 hz hB (by rw [List.length_append]; omega) fun s12 w13 ho hx hz => ⟨hx, hz, by rw [if_pos h2]; exact ho⟩
  rintro out14 w15 ⟨hx, hz, ho⟩
  have e5 : (if m.State.Schema = 2 then numB m.Active else []).length ≤ 9 := by
    split
    · exact e3
    · exact Nat.zero_le _
  have eH : ((numB m.State.Schema ++ numB m.Index ++ (if m.State.Schema = 2 then numB m.Active else []))).length ≤ 27 := by simp only [List.length_append]; omega
  generalize (numB m.State.Schema ++ numB m.Index ++ (if m.State.Schema = 2 then numB m.Active else [])) = H at *
  refine cat_mk (m := enc L.length) (by kernel_rfl) (by kernel_rfl) (by have := mk_num (n := (m.Confs.len : Int)) (by omega); rw [Int.toNat_natCast, hlen, hl] at this; rw [hlen, hl]; exact this) hx ho hl1 hz hB (by omega) fun s18 w19 ho hx hz => ?_
  refine up2b (fun k out u => Ext w u ∧ w2.heap.size ≤ u.heap.size ∧ OwnSl eB u w2.heap.size out (H ++ enc L.length ++ (L.take k).flatMap cfB)) 0 L.length rfl (by omega) (by omega) ⟨hx, hz, by simpa using ho⟩ ?_
  rintro k out u C _ hk ⟨hx, hz, ho⟩ hC
  have bk := cfs_take (k := k) hc h64
  refine ifD (fun hlt => ?_) (fun hge => ?_)
  · have hk1 : k < cs.length := by omega
    have hk2 : k < L.length := by omega
    obtain ⟨gf, gm⟩ := hcf.get hk1 hk2
    have gok := hc.2.at_ hk2
    have glen := gm.len
    have g9 := mems_len gok.1
    refine fld_rd (E := eApiConf) (off := 0) (k := k) (val := Value.int .i64) (y := L[k].1) (by kernel_rfl) (by kernel_rfl) (hcf.sl.ext hx) rfl hk1 (by rw [← gf]; rfl) fun _ => ?_
    have f1 : (numB L[k].1).length ≤ 9 := numB_len (by have := gok.2; omega)
    refine cat_mk (m := numB L[k].1) (by kernel_rfl) (by kernel_rfl) (mk_num (by have := gok.2; omega)) hx ho hl1 hz hB (by simp only [List.length_append]; omega) fun s28 w29 ho hx hz => ?_
    refine fld_rd (E := eApiConf) (off := 1) (k := k) (val := Sl.val) (y := cs[k].Members) (by kernel_rfl) (by kernel_rfl) (hcf.sl.ext hx) rfl hk1 rfl fun _ => ?_
    have f2 := encN_len (n := L[k].2.length) (by omega)
    refine cat_mk (m := enc L[k].2.length) (by kernel_rfl) (by kernel_rfl) (by have := mk_num (n := (cs[k].Members.len : Int)) (by omega); rw [Int.toNat_natCast, glen] at this; rw [glen]; exact this) hx ho hl1 hz hB (by simp only [List.length_append]; omega) fun s34 w35 ho hx hz => ?_
    refine up2b (fun j out u => Ext w u ∧ w2.heap.size ≤ u.heap.size ∧ OwnSl eB u w2.heap.size out (H ++ enc L.length ++ (L.take k).flatMap cfB ++ numB L[k].1 ++ enc L[k].2.length ++ (L[k].2.take j).flatMap numB)) 0 L[k].2.length rfl (by omega) (by omega) ⟨hx, hz, by simpa using ho⟩ ?_
    rintro j out u D _ hj ⟨hx, hz, ho⟩ hD
    have bj := memB_len gok.1 j
    refine fld_rd (E := eApiConf) (off := 1) (k := k) (val := Sl.val) (y := cs[k].Members) (by kernel_rfl) (by kernel_rfl) (hcf.sl.ext hx) rfl hk1 rfl fun _ => ?_
    refine ifD (fun hjlt => ?_) (fun hjge => ?_)
    · have hj1 : j < L[k].2.length := by omega
      refine fld_rd (E := eApiConf) (off := 1) (k := k) (val := Sl.val) (y := cs[k].Members) (by kernel_rfl) (by kernel_rfl) (hcf.sl.ext hx) rfl hk1 rfl fun _ => ?_
      refine el_rd (E := eK .i64) (y := L[k].2[j]) (by kernel_rfl) (by kernel_rfl) (gm.ext hx) rfl hj1 rfl fun _ => ?_
      have hm9 := (gok.1.2.at_ hj1).2
      have f3 : (numB L[k].2[j]).length ≤ 9 := numB_len (by omega)
      refine cat_mk (m := numB L[k].2[j]) (by kernel_rfl) (by kernel_rfl) (mk_num (by omega)) hx ho hl1 hz hB (by simp only [List.length_append]; omega) fun s48 w49 ho hx hz => hD hj1 _ _ _ rfl ⟨hx, hz, ?_⟩
      rw [flat_up hj1, ← List.append_assoc]
      exact ho
    · refine hC hk2 _ _ _ rfl ⟨hx, hz, ?_⟩
      rw [flat_all (xs := L[k].2) (k := j) (by omega)] at ho
      rw [flat_up hk2]
      unfold cfB at ho ⊢
      simpa only [List.append_assoc] using ho
  rw [flat_all (by omega)] at ho
  have bk' := cfs_take (k := L.length) hc h64
  rw [List.take_length] at bk'
  have olt := ho.lt
  refine ref26_Bytes_calls (s := m.State) (ref26_Bytes_spec (hst.ext hx) hs fun s50 w51 hos hx' => kp_ext hx' ?_)
  have hge := hos.ge
  have hx := hx.trans' hx'
  have ho := ho.ext hx'
  have hz := Nat.le_trans hz hx'.size
  have hsl50 := hos.is.len
  have e6 := encN_len (n := (stateB m.State.Schema ps ss).length) (by omega)
  have hos := hos.is
  generalize stateB m.State.Schema ps ss = T at *
  refine ref01_Bytes_calls (ref01_Bytes_spec (by omega) fun s52 w53 ho52 hx' => kp_ext hx' ?_)
  have hx := hx.trans' hx'
  have ho := ho.ext hx'
  have hz := Nat.le_trans hz hx'.size
  have hos := hos.ext hx'
  rw [hsl50, Int.toNat_natCast] at ho52
  refine cat_kp (by kernel_rfl) (by kernel_rfl) ho ho52.is (by simp only [List.length_append]; omega) hz hl1 fun s54 w55 ho54 hg => ?_
  have hos := hos.grownB hg fun b hb e => by have := hge b hb; have := olt b e.symm; omega
  have hxx := Ext.own hx ho hB hg
  have hz := Nat.le_trans hz hg.size
  refine cat_kp (by kernel_rfl) (by kernel_rfl) ho54 hos (by simp only [List.length_append]; omega) hz hl1 fun s56 w57 ho56 hg2 => hK _ _ ?_ (Ext.own hxx ho54 hB hg2)
  refine OwnSl.mono ?_ hB
  simpa only [List.append_assoc] using ho56
/-! ### The bytes of an image that may be -/
theorem image_Encode_spec {K : Sl × Int → World → Prop} (ht : Utf8T w) (h : ImgAt w m L ps ss) (hok : ImgMay m L ps ss) (h64 : L.length ≤ 64) (hle : ps.length ≤ 100000)
    (hK : ∀ s w', OwnSl eB w' w.heap.size s (imgB m.State.Schema m.Index m.Active L (stateB m.State.Schema ps ss)) → Ext w w' → ifB (decide ((s.len : Int) > 32768)) (K (Sl.nil, 2) w') (K (s, 0) w')) : image_Encode m K w := by
  unfold image_Encode
  obtain ⟨⟨i0, i1, a0, a1⟩, hc, hs, _⟩ := id hok
  have hv := hs.1
  refine new_x (Ext.rfl' w) fun b1 w2 hb1 hl1 hx hn2 => ?_
  refine window_Check_calls (m := m) (window_Check_spec (ht.ext hx) (h.ext hx) hle fun e w4 he hx' => kp_ext hx' ?_)
  have z4 := hx'.size
  have hx := hx.trans' hx'
  refine ifNe (fun h1 => absurd (he.2 hok) h1) (fun _ => ?_)
  obtain ⟨⟨cs, hcf⟩, hst⟩ := h
  have hlen := hcf.sl.len
  have hl := hcf.len
  refine ifD (fun h1 => absurd h1 (by omega)) (fun _ => ?_)
  refine snaptwo_Put_calls (s := m.State) (snaptwo_Put_spec (x := m.State) (ht.ext hx) (hst.ext hx) hle fun r w6 hr hx' => kp_ext hx' ?_)
  have z6 := hx'.size
  have hx := hx.trans' hx'
  rcases hr with ⟨h1, _⟩ | ⟨_, _, hro⟩
  · exact absurd hs h1
  have hsl := hro.is.len
  have hsb := stateB_len hs
  unfold imgB cfsB at hK
  have e1 : (numB m.State.Schema).length ≤ 9 := numB_len (by omega)
  have e2 : (numB m.Index).length ≤ 9 := numB_len (by omega)
  have e3 : (numB m.Active).length ≤ 9 := numB_len (by omega)
  have e4 := encN_len (n := L.length) (by omega)
  have rlt := hro.lt
  refine box_ty fun a w8 ha hx' ho => kp_ext hx' ?_
  have hx := hx.trans' hx'
  have hro := hro.is.ext hx'
  have hne : some b1 ≠ some a.block := fun e => by cases e; omega
  have hwa : w.heap.size ≤ a.block := by omega
  have hrn : ∀ b, r.1.blk = some b → some b ≠ some a.block := fun b hb e => by have := rlt b hb; have := Option.some.inj e; omega
  refine pack_Writer_Number_calls (pack_Writer_Number_spec (Wt.zero ho) (by omega) (by simp only [List.length_nil]; omega) fun w10 hw hg => kp_grown hg hne ?_)
  have hx := Ext.grown' hx hg hwa
  have hro := hro.grownB hg hrn
  rw [List.nil_append] at hw
  have hw : Wt w10 a (numB m.State.Schema) := hw
  refine pack_Writer_Number_calls (pack_Writer_Number_spec hw (by omega) (by omega) fun w12 hw hg => kp_grown hg hne ?_)
  have hx := Ext.grown' hx hg hwa
  have hro := hro.grownB hg hrn
  have hw : Wt w12 a (numB m.State.Schema ++ numB m.Index) := hw
  refine ⟨fun u => Ext w u ∧ IsSl eB u r.1 (stateB m.State.Schema ps ss) ∧ Wt u a (numB m.State.Schema ++ numB m.Index ++ (if m.State.Schema = 2 then numB m.Active else [])), ?_, ?_⟩
  · refine ifEq (fun h2 => ?_) (fun h2 => ⟨hx, hro, by rw [if_neg h2, List.append_nil]; exact hw⟩)
    exact pack_Writer_Number_calls (pack_Writer_Number_spec hw (by omega) (by rw [List.length_append]; omega) fun w15 hw hg => kp_grown hg hne ⟨Ext.grown' hx hg hwa, hro.grownB hg hrn, by rw [if_pos h2]; exact hw⟩)
  rintro w16 ⟨hx, hro, hw⟩
  have e5 : (if m.State.Schema = 2 then numB m.Active else []).length ≤ 9 := by
    split
    · exact e3
    · exact Nat.zero_le _
  have eH : ((numB m.State.Schema ++ numB m.Index ++ (if m.State.Schema = 2 then numB m.Active else []))).length ≤ 27 := by simp only [List.length_append]; omega
  generalize (numB m.State.Schema ++ numB m.Index ++ (if m.State.Schema = 2 then numB m.Active else [])) = H at *
  refine pack_Writer_Number_calls (pack_Writer_Number_spec hw (by omega) (by omega) fun w18 hw hg => kp_grown hg hne ?_)
  have hx := Ext.grown' hx hg hwa
  have hro := hro.grownB hg hrn
  rw [hlen, hl, Int.toNat_natCast] at hw
  refine up1 (fun k u => Ext w u ∧ IsSl eB u r.1 (stateB m.State.Schema ps ss) ∧ Wt u a (H ++ enc L.length ++ (L.take k).flatMap cfB)) 0 L.length rfl (by omega) (by omega) ⟨hx, hro, by simpa using hw⟩ ?_
  rintro k u C _ hk ⟨hx, hro, hw⟩ hC
  have bk := cfs_take (k := k) hc h64
  have ult := hw.lt
  refine ifD (fun hlt => ?_) (fun hge => ?_)
  · have hk1 : k < cs.length := by omega
    have hk2 : k < L.length := by omega
    obtain ⟨gf, gm⟩ := hcf.get hk1 hk2
    have gok := hc.2.at_ hk2
    have glen := gm.len
    have g9 := mems_len gok.1
    have f1 : (numB L[k].1).length ≤ 9 := numB_len (by have := gok.2; omega)
    have f2 := encN_len (n := L[k].2.length) (by omega)
    refine st_rd (E := eApiConf) (val := ApiConf.val) (k := k) (by kernel_rfl) (by kernel_rfl) (hcf.sl.ext hx) rfl hk1 (fun _ => rfl) fun _ => ?_
    refine new_x (Ext.rfl' u) fun b24 w25 hb24 hl24 hx' hn25 => wr_x hx' hb24 fun w26 hx' hw26 => ?_
    have hx := hx.trans' hx'
    have hne2 : some b24 ≠ some a.block := fun e => by cases e; omega
    rw [gf]
    refine pack_Writer_Number_calls (pack_Writer_Number_spec (hw.ext hx') (by have := gok.2; omega) (by simp only [List.length_append]; omega) fun w28 hw hg => kp_grown hg hne2 (kp_grown hg hne ?_))
    have hx := Ext.grown' hx hg hwa
    have hro := (hro.ext hx').grownB hg hrn
    have hw : Wt w28 a (H ++ enc L.length ++ (L.take k).flatMap cfB ++ numB L[k].1) := hw
    refine pack_Writer_Number_calls (pack_Writer_Number_spec hw (by omega) (by simp only [List.length_append]; omega) fun w30 hw hg => kp_grown hg hne2 (kp_grown hg hne ?_))
    have hx := Ext.grown' hx hg hwa
    have hro := hro.grownB hg hrn
    rw [glen, Int.toNat_natCast] at hw
    refine up1 (fun j u => Ext w u ∧ IsSl eB u r.1 (stateB m.State.Schema ps ss) ∧ Wt u a (H ++ enc L.length ++ (L.take k).flatMap cfB ++ numB L[k].1 ++ enc L[k].2.length ++ (L[k].2.take j).flatMap numB)) 0 L[k].2.length rfl (by omega) (by omega) ⟨hx, hro, by simpa using hw⟩ ?_
    rintro j u' D _ hj ⟨hx, hro, hw⟩ hD
    have bj := memB_len gok.1 j
    refine ifD (fun hjlt => ?_) (fun hjge => ?_)
    · have hj1 : j < L[k].2.length := by omega
      refine el_rd (E := eK .i64) (y := L[k].2[j]) (by kernel_rfl) (by kernel_rfl) (gm.ext hx) rfl hj1 rfl fun _ => ?_
      have hm9 := (gok.1.2.at_ hj1).2
      have f3 : (numB L[k].2[j]).length ≤ 9 := numB_len (by omega)
      refine pack_Writer_Number_calls (pack_Writer_Number_spec hw (by omega) (by simp only [List.length_append]; omega) fun w37 hw hg => kp_grown hg hne2 (kp_grown hg hne (hD hj1 _ _ rfl ⟨Ext.grown' hx hg hwa, hro.grownB hg hrn, ?_⟩)))
      rw [flat_up hj1, ← List.append_assoc]
      exact hw
    · refine hC hk2 _ _ rfl ⟨hx, hro, ?_⟩
      rw [flat_all (xs := L[k].2) (k := j) (by omega)] at hw
      rw [flat_up hk2]
      unfold cfB at hw ⊢
      simpa only [List.append_assoc] using hw
  rw [flat_all (by omega)] at hw
  have bk' := cfs_take (k := L.length) hc h64
  rw [List.take_length] at bk'
  have e6 := encN_len (n := (stateB m.State.Schema ps ss).length) (by omega)
  refine pack_Writer_Raw_calls (pack_Writer_Raw_spec hw hro (by simp only [List.length_append]; omega) fun w39 hw hg => kp_grown hg hne ?_)
  have hx := Ext.grown' hx hg hwa
  refine pack_Writer_Bytes_calls (pack_Writer_Bytes_spec hw (by simp only [List.length_append]; omega) fun s40 w41 ho41 hx' => kp_ext hx' (hK _ _ ?_ (hx.trans' hx')))
  refine OwnSl.mono ?_ hx.size
  simpa only [List.append_assoc] using ho41
theorem aw_len : imgB 1 0 0 [(1, [1])] (stateB 1 [] []) = [1, 0, 1, 1, 1, 1, 3, 1, 0, 0] := by
  rw [bytes_none (.inl rfl)]
  unfold imgB cfsB numB cfB numB
  simp only [List.flatMap_cons, List.flatMap_nil, List.length_cons, List.length_nil, List.append_nil]
  rw [if_neg (by decide), enc_small (n := (1 : Int).toNat) (by decide), enc_small (n := (0 : Int).toNat) (by decide), enc_small (n := 0 + 1) (by decide), enc_small (n := 0 + 1 + 1 + 1) (by decide)]
  decide
theorem law39_awake_spec {K : Bool → World → Prop} (ht : Utf8T w) (hK : ∀ w', Ext w w' → K true w') : law39_awake K w := by
  unfold law39_awake
  refine lit1_ty (E := eK .i64) 8 (x := (1 : Int)) w.heap.size (by kernel_rfl) (by decide) (fun w => by kernel_rfl) (Nat.le_refl _) fun t1 w2 _ ht1 hx2 => ?_
  refine lit1_ty (E := eApiConf) 32 (x := (⟨1, t1⟩ : ApiConf)) w.heap.size (by kernel_rfl) (by decide) (fun w => by kernel_rfl) hx2.size fun t3 w4 _ ht3 hx4 => ?_
  have hx := hx2.trans' hx4
  have hat : ImgAt w4 ⟨0, 0, t3, ⟨1, Sl.nil, Sl.nil⟩⟩ [(1, [1])] [] [] := by
    refine ⟨⟨[⟨1, t1⟩], ht3.is, rfl, fun i c x h1 h2 => ?_⟩, ⟨.nilSl _ _, .nilSl _ _⟩⟩
    rcases i with _ | i
    · cases h1
      cases h2
      exact ⟨rfl, ht1.is.ext hx4⟩
    · cases h1
  have hmay : ImgMay ⟨0, 0, t3, ⟨1, Sl.nil, Sl.nil⟩⟩ [(1, [1])] [] [] := by
    refine ⟨⟨Int.le_refl 0, by show (0 : Int) ≤ 4294967296; decide, Int.le_refl 0, Int.le_refl 0⟩, ⟨⟨_, rfl, rfl⟩, ⟨fun c hc => ?_, fun i x y h1 h2 => by cases h2⟩⟩, ok_none (.inl rfl), ⟨fun h => absurd h (show ¬ (1 : Int) = 2 by decide), fun h => absurd h (show ¬ (0 : Int) < 0 by decide)⟩⟩
    rw [List.mem_singleton] at hc
    subst hc
    exact ⟨⟨by simp, ⟨fun n hn => by rw [List.mem_singleton] at hn; subst hn; decide, fun i x y h1 h2 => by cases h2⟩⟩, by decide⟩
  refine image_Encode_calls (m := ⟨0, 0, t3, ⟨1, Sl.nil, Sl.nil⟩⟩) (image_Encode_spec (ht.ext hx) hat hmay (by decide) (by decide) fun s w6 ho hx6 => ?_)
  have ho : OwnSl eB w6 w4.heap.size s [1, 0, 1, 1, 1, 1, 3, 1, 0, 0] := aw_len ▸ ho
  have hl := ho.is.len
  refine ifD (fun h => absurd h (by rw [hl]; decide)) (fun _ => ?_)
  refine ifEq (fun _ => ifEq (fun _ => ?_) (fun h => absurd (by show (s.len : Int) = 10; rw [hl]; rfl) h)) (fun h => absurd rfl h)
  refine el_rd (E := eB) (y := (1 : Int)) (k := 0) (by kernel_rfl) (by kernel_rfl) ho.is rfl (by decide) (by kernel_rfl) fun _ => ?_
  refine ifEq (fun _ => ?_) (fun h => absurd rfl h)
  refine el_rd (E := eB) (y := (3 : Int)) (k := 6) (by kernel_rfl) (by kernel_rfl) ho.is rfl (by decide) (by kernel_rfl) fun _ => ?_
  refine ifEq (fun _ => ?_) (fun h => absurd rfl h)
  refine image_Format_calls (image_Format_spec ho.is (by decide) fun w12 hx12 => ?_)
  have e : (rdNumber [1, 0, 1, 1, 1, 1, 3, 1, 0, 0] 2 0 0).1 = 1 := by decide
  rw [e]
  exact hK _ (hx.trans' (hx6.trans' hx12))
/-- ImageDecodes: what any bytes are decoded as may be, and has these bytes; else nothing is told but why. -/
theorem law39_ImageDecodes_spec {K : Bool → World → Prop} (ht : Utf8T w) (hb : IsSl eB w b l) (hK : ∀ w', Ext w w' → K true w') : law39_ImageDecodes v b K w := by
  unfold law39_ImageDecodes
  have hlen := hb.len
  have aw : ∀ {u : World} {X : Bool → World → Prop}, Ext w u → (∀ w', Ext u w' → X true w') → callV Pr Value.bool fid_law39_awake #[] u X := fun hx h => law39_awake_calls (law39_awake_spec (ht.ext hx) h)
  refine ifD (fun _ => aw (Ext.rfl' w) hK) (fun h3 => ?_)
  refine image_Decode_calls (image_Decode_spec ht hb (by omega) fun r w4 hd hx4 => ?_)
  refine new_x hx4 fun b5 w6 hb5 hl5 hx6 hn6 => wr_x hx6 hb5 fun w7 hx7 hw7 => ?_
  obtain ⟨d1, d2, d3⟩ := hd
  have zero : ∀ {X : Bool → World → Prop}, r.2 ≠ 0 → (∀ w', Ext w7 w' → X true w') → callV Pr Value.bool fid_ref30_Same #[r.1.val, zImage.val] w7 X := fun h0 hX => by
    rw [d1 h0]
    exact ref30_Same_calls (a := zImage) (b := zImage) (ref30_Same_zero hX)
  have same : r.2 ≠ 0 → callV Pr Value.bool fid_ref30_Same #[r.1.val, zImage.val] w7 (fun t12 w13 => kp b5 w7 w13 <| ifB t12 (callV Pr Value.bool fid_law39_awake #[] w13 fun t14 w15 => kp b5 w13 w15 <| K t14 w15) (K false w13)) := fun h0 =>
    zero h0 fun w13 hx13 => kp_ext hx13 (ifB_t rfl (aw (hx7.trans' hx13) fun w15 hx15 => kp_ext hx15 (hK _ (hx7.trans' (hx13.trans' hx15)))))
  have e8 : ∀ {X : Prop}, ¬ (v = 1 ∨ v = 2) → (r.2 = 8 → r.2 ≠ 0 → X) → ∀ (Y : Prop), ifB (r.2 == 8) X Y := fun hv hX Y => by
    have h8 := d2 hv
    exact ifEq (fun _ => hX h8 (by omega)) (fun h => absurd h8 h)
  refine ifD (fun h1 => e8 (by omega) (fun _ h0 => same h0) _) (fun h1 => ?_)
  refine ifD (fun h2 => e8 (by omega) (fun _ h0 => same h0) _) (fun h2 => ?_)
  refine ifNe (fun h0 => same h0) (fun h0 => ?_)
  obtain ⟨hv, cs, L, ps, ss, k1, k2, k3, k4, k5, k6, k7, k8⟩ := d3 h0
  have hat : ∀ {u : World}, Ext w7 u → ImgAt u r.1 L ps ss := fun hx => by
    have e5 := hn6.1
    exact ⟨⟨cs, ((k1.nw hn6 hw7).is).ext hx⟩, ⟨((k2.nw hn6 hw7).is).ext hx, ((k3.nw hn6 hw7).is).ext hx⟩⟩
  refine held_x fun w20 hx20 => ?_
  refine ref39_May_calls (m := r.1) (ref39_May_spec (hat hx20) fun t22 w23 ht22 hx23 => kp_ext hx23 ⟨trivial, ?_⟩)
  have hx23 := hx20.trans' hx23
  refine ifB_t (ht22.2 ⟨k4, k5⟩) (ifD (fun _ => ?_) (fun h => absurd k6 h))
  refine ref39_Bytes_calls (m := r.1) (ref39_Bytes_spec (hat hx23) k4 k5 fun t24 w25 ho25 hx25 => kp_ext hx25 ⟨trivial, ?_⟩)
  have hx25 := hx23.trans' hx25
  refine ref01_Same_calls (ref01_Same_spec ho25.is (hb.ext (hx7.trans' hx25)) fun w27 hx27 => kp_ext hx27 ⟨trivial, ?_⟩)
  have hx27 := hx25.trans' hx27
  refine ifD (fun _ => ?_) (fun h => absurd k8.symm h)
  refine image_Format_calls (image_Format_spec (hb.ext (hx7.trans' hx27)) (by omega) fun w29 hx29 => kp_ext hx29 ⟨trivial, ?_⟩)
  have hx29 := hx27.trans' hx29
  refine ifEq (fun _ => ?_) (fun h => absurd k7 h)
  exact aw (hx7.trans' hx29) fun w31 hx31 => kp_ext hx31 ⟨trivial, hK _ (hx7.trans' (hx29.trans' hx31))⟩
end Go.Chg
