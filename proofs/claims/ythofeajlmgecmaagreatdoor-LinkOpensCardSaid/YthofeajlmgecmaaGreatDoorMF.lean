import Derived.Test.YthofeajlmgecmaaGreatDoorMD
import Derived.Test.YthofeajlmgecmaaGreatDoorTid
import Derived.Test.YthofeajlmgecmaaGreatDoorSpMsg4
/-
  Package 'msgtwo': the bytes of V2, written.
-/
set_option maxRecDepth 20000
set_option linter.unusedVariables false
namespace Go.Chg
open Go.Vc
variable {w : World} {m : ApiMsg} {xs : List ApiEntry} {img l : List UInt8} {v p no k : Int} {s : Sl}
/-- A piece of a message: a number at a place, the entries, the one entry, the image. -/
inductive Pc where
  | num (off : Nat)
  | ents
  | single
  | image
def pcV (a : Addr) : Pc → Value
  | .num off => .iface tid_MsgtwoNumber (.agg ⟨[.pointer (some (a.add off))]⟩)
  | .ents => .iface tid_MsgtwoEntries (.agg ⟨[.pointer (some a)]⟩)
  | .single => .iface tid_MsgtwoSingle (.agg ⟨[.pointer (some a)]⟩)
  | .image => .iface tid_MsgtwoImage (.agg ⟨[.pointer (some a)]⟩)
def ePc (a : Addr) : Enc Pc := ⟨fun x => [pcV a x], 1, by decide, fun _ => rfl, fun x v hv => by
  rw [List.mem_singleton] at hv
  subst hv
  cases x <;> rfl⟩
def piecesK (k : Int) : List Pc := if k = 1 ∨ k = 2 then [.num 7] else if k = 3 ∨ k = 6 then [.num 3, .num 4, .num 5] else if k = 4 then [.num 3, .num 4, .num 5, .num 6, .ents] else if k = 5 then [.num 3, .num 4, .single] else
  if k = 7 then [.num 3, .num 4] else if k = 8 then [.num 3, .num 4, .num 6] else if k = 9 then [.num 5] else if k = 10 then [.num 6, .ents] else if k = 11 then [.image] else []
theorem piecesK_len (k : Int) : (piecesK k).length ≤ 5 := by
  unfold piecesK
  repeat' split
  all_goals decide
theorem msgtwo_pieces_spec {a : Addr} {cs : List Value} {K : Sl × Bool → World → Prop} (ho : Vc.Obj w a cs) (hk : cs[0]? = some (.int .i64 k))
    (hK : ∀ s t w', (t = true ↔ 1 ≤ k ∧ k ≤ 11) → OwnSl (ePc a) w' w.heap.size s (piecesK k) → Ext w w' → K (s, t) w') : msgtwo_pieces (some a) K w := by
  unfold msgtwo_pieces
  have hspot := ho.1
  have hoff := ho.2.1
  obtain ⟨ab, ao, asp⟩ := a
  dsimp only at hspot hoff
  subst hspot hoff
  have nl : ∀ (w' : World), True → opRd Pr (nilSem (.pointer (some (⟨ab, 0, none⟩ : Addr)))) pav (fun y => y = ⟨ab, 0, none⟩) w' := fun w' _ => nil_rd rfl rfl
  refine held_x fun w1 hx => opH_of ⟨ab, 0, none⟩ nl (opH_of ⟨ab, 0, none⟩ nl ⟨
    new_x hx fun b5 w6 hb5 _ hx _ => ⟨trivial, new_x hx fun b7 w8 hb7 _ hx _ => ⟨trivial, wr_x hx hb5 fun w9 hx _ => ⟨trivial, wr_x hx hb7 fun w10 hx _ => ⟨trivial,
      held_x fun w11 hx' => opH_of ⟨ab, 0, none⟩ nl (opH_of ⟨ab, 0, none⟩ nl ⟨
        new_x (hx.trans' hx') fun c5 w6 hc5 _ hx _ => ⟨trivial, new_x hx fun c7 w8 hc7 _ hx _ => ⟨trivial, wr_x hx hc5 fun w9 hx _ => ⟨trivial, wr_x hx hc7 fun w10 hx _ => ⟨trivial, ?_⟩⟩⟩⟩,
        new_x (hx.trans' hx') fun c5 w6 hc5 _ hx _ => ⟨trivial, new_x hx fun c7 w8 hc7 _ hx _ => ⟨trivial, wr_x hx hc7 fun w9 hx _ => ⟨trivial, wr_x hx hc5 fun w10 hx _ => ⟨trivial, ?_⟩⟩⟩⟩⟩)⟩⟩⟩⟩,
    new_x hx fun b5 w6 hb5 _ hx _ => ⟨trivial, new_x hx fun b7 w8 hb7 _ hx _ => ⟨trivial, wr_x hx hb7 fun w9 hx _ => ⟨trivial, wr_x hx hb5 fun w10 hx _ => ⟨trivial,
      held_x fun w11 hx' => opH_of ⟨ab, 0, none⟩ nl (opH_of ⟨ab, 0, none⟩ nl ⟨
        new_x (hx.trans' hx') fun c5 w6 hc5 _ hx _ => ⟨trivial, new_x hx fun c7 w8 hc7 _ hx _ => ⟨trivial, wr_x hx hc5 fun w9 hx _ => ⟨trivial, wr_x hx hc7 fun w10 hx _ => ⟨trivial, ?_⟩⟩⟩⟩,
        new_x (hx.trans' hx') fun c5 w6 hc5 _ hx _ => ⟨trivial, new_x hx fun c7 w8 hc7 _ hx _ => ⟨trivial, wr_x hx hc7 fun w9 hx _ => ⟨trivial, wr_x hx hc5 fun w10 hx _ => ⟨trivial, ?_⟩⟩⟩⟩⟩)⟩⟩⟩⟩⟩)
  all_goals
    refine nil_rd rfl (ld_obj (off := 0) (y := k) (by kernel_rfl) (ho.ext hx) hk ?_)
    refine ⟨fun t u => Ext w u ∧ (t = true ↔ k = 1 ∨ k = 2), ifEq (fun h => ⟨hx, by simp [h]⟩) (fun h => ⟨hx, by simp [h]⟩), ?_⟩
    rintro t u ⟨hx, ht⟩
    have fin : ∀ {ps : List Pc} {s : Sl} {u' : World}, piecesK k = ps → (1 ≤ k ∧ k ≤ 11) → OwnSl (ePc ⟨ab, 0, none⟩) u' u.heap.size s ps → Ext u u' → K (s, true) u' := fun h1 h2 h3 h4 => hK _ _ _ ⟨fun _ => h2, fun _ => rfl⟩ (h1 ▸ h3.mono hx.size) (hx.trans' h4)
    refine ifB_of (fun h => ?_) (fun h => ?_)
    · have h12 := ht.1 h
      refine nil_rd rfl ?_
      exact lit_ty 16 (E := ePc ⟨ab, 0, none⟩) (xs := [.num 7]) u.heap.size (by kernel_rfl) rfl (Nat.le_of_ble_eq_true rfl) (fun w => by kernel_rfl) (Nat.le_refl _) fun s u' _ hs hx' => kp_ext hx' (kp_ext hx' (kp_ext hx' (kp_ext hx' (fin (by unfold piecesK; rw [if_pos h12]) (by omega) hs hx'))))
    have n12 : ¬ (k = 1 ∨ k = 2) := fun h' => by rw [ht.2 h'] at h; cases h
    refine ⟨fun t u' => u = u' ∧ (t = true ↔ k = 3 ∨ k = 6), ifEq (fun h => ⟨rfl, by simp [h]⟩) (fun h => ⟨rfl, by simp [h]⟩), ?_⟩
    rintro t _ ⟨rfl, ht⟩
    refine ifB_of (fun h => ?_) (fun h => ?_)
    · have h36 := ht.1 h
      exact lit_ty 16 (E := ePc ⟨ab, 0, none⟩) (xs := [.num 3, .num 4, .num 5]) u.heap.size (by kernel_rfl) rfl (Nat.le_of_ble_eq_true rfl) (fun w => by kernel_rfl) (Nat.le_refl _) fun s u' _ hs hx' => kp_ext hx' (kp_ext hx' (kp_ext hx' (kp_ext hx' (fin (by unfold piecesK; rw [if_neg n12, if_pos h36]) (by omega) hs hx'))))
    have n36 : ¬ (k = 3 ∨ k = 6) := fun h' => by rw [ht.2 h'] at h; cases h
    refine ifEq (fun h4 => ?_) (fun h4 => ?_)
    · exact lit_ty 16 (E := ePc ⟨ab, 0, none⟩) (xs := [.num 3, .num 4, .num 5, .num 6, .ents]) u.heap.size (by kernel_rfl) rfl (Nat.le_of_ble_eq_true rfl) (fun w => by kernel_rfl) (Nat.le_refl _) fun s u' _ hs hx' => kp_ext hx' (kp_ext hx' (kp_ext hx' (kp_ext hx' (fin (by unfold piecesK; rw [if_neg n12, if_neg n36, if_pos h4]) (by omega) hs hx'))))
    refine ifEq (fun h5 => ?_) (fun h5 => ?_)
    · exact lit_ty 16 (E := ePc ⟨ab, 0, none⟩) (xs := [.num 3, .num 4, .single]) u.heap.size (by kernel_rfl) rfl (Nat.le_of_ble_eq_true rfl) (fun w => by kernel_rfl) (Nat.le_refl _) fun s u' _ hs hx' => kp_ext hx' (kp_ext hx' (kp_ext hx' (kp_ext hx' (fin (by unfold piecesK; rw [if_neg n12, if_neg n36, if_neg h4, if_pos h5]) (by omega) hs hx'))))
    refine ifEq (fun h7 => ?_) (fun h7 => ?_)
    · exact lit_ty 16 (E := ePc ⟨ab, 0, none⟩) (xs := [.num 3, .num 4]) u.heap.size (by kernel_rfl) rfl (Nat.le_of_ble_eq_true rfl) (fun w => by kernel_rfl) (Nat.le_refl _) fun s u' _ hs hx' => kp_ext hx' (kp_ext hx' (kp_ext hx' (kp_ext hx' (fin (by unfold piecesK; rw [if_neg n12, if_neg n36, if_neg h4, if_neg h5, if_pos h7]) (by omega) hs hx'))))
    refine ifEq (fun h8 => ?_) (fun h8 => ?_)
    · exact lit_ty 16 (E := ePc ⟨ab, 0, none⟩) (xs := [.num 3, .num 4, .num 6]) u.heap.size (by kernel_rfl) rfl (Nat.le_of_ble_eq_true rfl) (fun w => by kernel_rfl) (Nat.le_refl _) fun s u' _ hs hx' => kp_ext hx' (kp_ext hx' (kp_ext hx' (kp_ext hx' (fin (by unfold piecesK; rw [if_neg n12, if_neg n36, if_neg h4, if_neg h5, if_neg h7, if_pos h8]) (by omega) hs hx'))))
    refine ifEq (fun h9 => ?_) (fun h9 => ?_)
    · exact lit_ty 16 (E := ePc ⟨ab, 0, none⟩) (xs := [.num 5]) u.heap.size (by kernel_rfl) rfl (Nat.le_of_ble_eq_true rfl) (fun w => by kernel_rfl) (Nat.le_refl _) fun s u' _ hs hx' => kp_ext hx' (kp_ext hx' (kp_ext hx' (kp_ext hx' (fin (by unfold piecesK; rw [if_neg n12, if_neg n36, if_neg h4, if_neg h5, if_neg h7, if_neg h8, if_pos h9]) (by omega) hs hx'))))
    refine ifEq (fun h10 => ?_) (fun h10 => ?_)
    · exact lit_ty 16 (E := ePc ⟨ab, 0, none⟩) (xs := [.num 6, .ents]) u.heap.size (by kernel_rfl) rfl (Nat.le_of_ble_eq_true rfl) (fun w => by kernel_rfl) (Nat.le_refl _) fun s u' _ hs hx' => kp_ext hx' (kp_ext hx' (kp_ext hx' (kp_ext hx' (fin (by unfold piecesK; rw [if_neg n12, if_neg n36, if_neg h4, if_neg h5, if_neg h7, if_neg h8, if_neg h9, if_pos h10]) (by omega) hs hx'))))
    refine ifEq (fun h11 => ?_) (fun h11 => ?_)
    · exact lit_ty 16 (E := ePc ⟨ab, 0, none⟩) (xs := [.image]) u.heap.size (by kernel_rfl) rfl (Nat.le_of_ble_eq_true rfl) (fun w => by kernel_rfl) (Nat.le_refl _) fun s u' _ hs hx' => kp_ext hx' (kp_ext hx' (kp_ext hx' (kp_ext hx' (fin (by unfold piecesK; rw [if_neg n12, if_neg n36, if_neg h4, if_neg h5, if_neg h7, if_neg h8, if_neg h9, if_neg h10, if_pos h11]) (by omega) hs hx'))))
    have e : piecesK k = [] := by unfold piecesK; rw [if_neg n12, if_neg n36, if_neg h4, if_neg h5, if_neg h7, if_neg h8, if_neg h9, if_neg h10, if_neg h11]
    exact hK _ _ _ ⟨fun h => (by cases h), fun h => by omega⟩ (by rw [e]; exact .nil _ _ _) hx
def fldAt (m : ApiMsg) : Nat → Int
  | 3 => m.Ballot.Round
  | 4 => m.Ballot.Node
  | 5 => m.Index
  | 6 => m.Commit
  | _ => m.Version
/-- The bytes of a piece. -/
def pcB (m : ApiMsg) (xs : List ApiEntry) (img : List UInt8) : Pc → List UInt8
  | .num off => encI (fldAt m off)
  | .ents => entsB 2 xs
  | .single => match xs with | x :: _ => encI x.Index ++ cmdB 2 x.Cmd | [] => []
  | .image => enc img.length ++ img
def msg2B (m : ApiMsg) (xs : List ApiEntry) (img : List UInt8) : List UInt8 := encI m.Kind ++ encI m.From ++ encI m.To ++ (piecesK m.Kind).flatMap (pcB m xs img)
def okPc : Pc → Prop
  | .num off => 3 ≤ off ∧ off ≤ 7
  | _ => True
theorem piecesK_ok (k : Int) : ∀ x ∈ piecesK k, okPc x := by
  unfold piecesK
  repeat' split
  all_goals
    intro x hx
    simp only [List.mem_cons, List.not_mem_nil, or_false] at hx
  all_goals
    first
    | (rcases hx with rfl | rfl | rfl | rfl | rfl <;> first | exact ⟨by decide, by decide⟩ | trivial)
    | (rcases hx with rfl | rfl | rfl | rfl <;> first | exact ⟨by decide, by decide⟩ | trivial)
    | (rcases hx with rfl | rfl | rfl <;> first | exact ⟨by decide, by decide⟩ | trivial)
    | (rcases hx with rfl | rfl <;> first | exact ⟨by decide, by decide⟩ | trivial)
    | (subst hx; first | exact ⟨by decide, by decide⟩ | trivial)
    | exact hx.elim
theorem fld_cell (m : ApiMsg) {off : Nat} (h : 3 ≤ off ∧ off ≤ 7) : m.cs[off]? = some (.int .i64 (fldAt m off)) := by
  obtain rfl | rfl | rfl | rfl | rfl : off = 3 ∨ off = 4 ∨ off = 5 ∨ off = 6 ∨ off = 7 := by omega
  all_goals rfl
theorem fld_le (h : MsgOk m xs img.length) (off : Nat) : 0 ≤ fldAt m off ∧ fldAt m off ≤ 9223372036854775807 := by
  obtain ⟨_, _, ⟨a, b⟩, c, d, e⟩ := h.nums
  unfold fldAt
  split <;> omega
/-- One piece, put. -/
theorem msgtwo_put_spec {wa a : Addr} {x : Pc} {K : Unit → World → Prop} (hx : okPc x) (hok : MsgOk m xs img.length) (hs : x = .single → xs ≠ []) (ho : Vc.Obj w a m.cs) (hw : Wt w wa l) (hne : a.block ≠ wa.block)
    (h : ∀ u, w.grownBy u (some wa.block) → MsgAt u m xs img) (hl : l.length ≤ 100000000000) (hK : ∀ w', Wt w' wa (l ++ pcB m xs img x) → w.grownBy w' (some wa.block) → K () w') : msgtwo_put (some wa) (pcV a x) K w := by
  unfold msgtwo_put
  have lw := hw.lt
  have nw : ∀ {b : Nat}, w.heap.size ≤ b → some b ≠ some wa.block := fun h e => by have := Option.some.inj e; omega
  have hent := fun x hx => entOk_num (hok.each x hx)
  match x, hx, hs, hK with
  | .num off, hx, _, hK =>
    refine ta_yes (y := ⟨some (a.add off)⟩) (by kernel_rfl) rfl (ifB_t rfl ?_)
    refine new_x (Ext.rfl' w) fun b2 w3 hb2 _ he _ => wr_x he hb2 fun w4 he _ => ?_
    refine nil_rd rfl (ld_obj (by kernel_rfl) (ho.ext he) (fld_cell m hx) ?_)
    exact pack_Writer_Number_calls (pack_Writer_Number_spec (hw.ext he) (fld_le hok off).2 (by omega) fun w8 hw8 hg => kp_grown hg (nw hb2) (hK _ hw8 (grown_trans (grown_ext he _) hg)))
  | .ents, _, _, hK =>
    refine ta_no (y := ⟨none⟩) (by kernel_rfl) (by kernel_rfl) (by kernel_rfl) (ifB_f rfl ?_)
    refine ta_yes (y := ⟨some a⟩) (by kernel_rfl) rfl (ifB_t rfl ?_)
    refine new_x (Ext.rfl' w) fun b2 w3 hb2 _ he _ => wr_x he hb2 fun w4 he _ => ?_
    refine nil_rd rfl (ld_obj (off := 8) (y := m.Entries) (by kernel_rfl) (ho.ext he) rfl ?_)
    exact entry_Put_calls (entry_Put_spec (hw.ext he) (fun u hu => (h u (grown_trans (grown_ext he _) hu)).es) hent (by have := hok.few; omega) hl fun w8 hw8 hg => kp_grown hg (nw hb2) (hK _ hw8 (grown_trans (grown_ext he _) hg)))
  | .single, _, hs, hK =>
    refine ta_no (y := ⟨none⟩) (by kernel_rfl) (by kernel_rfl) (by kernel_rfl) (ifB_f rfl ?_)
    refine ta_no (y := ⟨none⟩) (by kernel_rfl) (by kernel_rfl) (by kernel_rfl) (ifB_f rfl ?_)
    refine ta_yes (y := ⟨some a⟩) (by kernel_rfl) rfl (ifB_t rfl ?_)
    refine new_x (Ext.rfl' w) fun b2 w3 hb2 _ he _ => wr_x he hb2 fun w4 he _ => ?_
    match xs, hs rfl, h, hent, hK with
    | e :: r, _, h, hent, hK =>
    obtain ⟨n1, n2, n3, n4, n5⟩ := hent e (List.mem_cons_self ..)
    have e1 := enc_len9 n1
    refine nil_rd rfl (ld_obj (off := 8) (y := m.Entries) (by kernel_rfl) (ho.ext he) rfl ?_)
    refine fld_rd (E := eApiEntry) (k := 0) (y := e.Index) (by kernel_rfl) (by kernel_rfl) (h w4 (grown_ext he _)).es rfl (by simp) rfl fun _ => ?_
    refine pack_Writer_Number_calls (pack_Writer_Number_spec (hw.ext he) n1 (by omega) fun w8 hw8 hg => kp_grown hg (nw hb2) ?_)
    have ho8 := (ho.ext he).keep (hg.block _ (ho.ext he).lt fun e => hne (Option.some.inj e))
    refine nil_rd rfl (ld_obj (off := 8) (y := m.Entries) (by kernel_rfl) ho8 rfl ?_)
    refine part_rd (E := eApiEntry) (n := 7) (off := 3) (k := 0) (y := e.Cmd) (val := ApiCmd.val) (xs := e.Cmd.cs) (by kernel_rfl) (by kernel_rfl) (h w8 (grown_trans (grown_ext he _) hg)).es rfl (by simp) rfl rfl (ent_cmd _) fun _ => ?_
    refine cmd_Put_calls (c := e.Cmd) (cmd_Put_spec hw8 n4 n5 (by simp only [List.length_append]; omega) fun w18 hw18 hg18 => kp_grown hg18 (nw hb2) (hK _ ?_ (grown_trans (grown_ext he _) (grown_trans hg hg18))))
    rw [List.append_assoc] at hw18
    exact hw18
  | .image, _, _, hK =>
    refine ta_no (y := ⟨none⟩) (by kernel_rfl) (by kernel_rfl) (by kernel_rfl) (ifB_f rfl ?_)
    refine ta_no (y := ⟨none⟩) (by kernel_rfl) (by kernel_rfl) (by kernel_rfl) (ifB_f rfl ?_)
    refine ta_no (y := ⟨none⟩) (by kernel_rfl) (by kernel_rfl) (by kernel_rfl) (ifB_f rfl ?_)
    refine ta_yes (y := ⟨some a⟩) (by kernel_rfl) rfl (ifB_t rfl ?_)
    refine new_x (Ext.rfl' w) fun b2 w3 hb2 _ he _ => wr_x he hb2 fun w4 he _ => ?_
    refine nil_rd rfl (ld_obj (off := 9) (y := m.Image) (by kernel_rfl) (ho.ext he) rfl ?_)
    have hi := hok.img
    exact pack_Writer_Raw_calls (pack_Writer_Raw_spec (hw.ext he) (h w4 (grown_ext he _)).im (by omega) fun w8 hw8 hg => kp_grown hg (nw hb2) (hK _ (by rw [List.append_assoc] at hw8; exact hw8) (grown_trans (grown_ext he _) hg)))
theorem pcB_len (hok : MsgOk m xs img.length) (x : Pc) : (pcB m xs img x).length ≤ 3000000000 := by
  have hf := hok.few
  have hi := hok.img
  have each : ∀ x ∈ xs, (entB 2 x).length ≤ 10000000 := fun x hx => entB_le (entOk_num (hok.each x hx))
  cases x with
  | num off =>
    have := encI_len (fld_le hok off).2
    show (encI (fldAt m off)).length ≤ _
    omega
  | ents =>
    have b := flat_le (xs := xs) each
    have c : xs.length * 10000000 ≤ 256 * 10000000 := Nat.mul_le_mul_right _ hf
    have e := enc_len9 (n := (xs.length : Int)) (by omega)
    rw [Int.toNat_natCast] at e
    show (entsB 2 xs).length ≤ _
    unfold entsB
    simp only [List.length_append]
    omega
  | single =>
    show (match xs with | x :: _ => encI x.Index ++ cmdB 2 x.Cmd | [] => []).length ≤ _
    split
    · rename_i x r
      have := each x (List.mem_cons_self ..)
      unfold entB at this
      unfold encI
      simp only [List.length_append] at this ⊢
      omega
    · simp
  | image =>
    have d := enc_len9 (n := (img.length : Int)) (by omega)
    rw [Int.toNat_natCast] at d
    show (enc img.length ++ img).length ≤ _
    simp only [List.length_append]
    omega
/-- What encode tells. -/
def EncM2 (B : Nat) (w' : World) (m : ApiMsg) (xs : List ApiEntry) (img : List UInt8) (r : Sl × Int) : Prop :=
  (msgE m xs img.length ≠ 0 ∧ r = (Sl.nil, msgE m xs img.length)) ∨ (MsgOk m xs img.length ∧ r.2 = 0 ∧ OwnSl eB w' B r.1 (msg2B m xs img))
theorem single_one (hok : MsgOk m xs img.length) (h : Pc.single ∈ piecesK m.Kind) : ∃ x, xs = [x] ∧ x.Ballot = m.Ballot := by
  refine hok.form.2.2.2.2.2.2 (Classical.byContradiction fun h5 => ?_)
  unfold piecesK at h
  rw [if_neg h5] at h
  repeat' split at h
  all_goals simp at h
/-- Pieces of a message that are few are short, but for one. -/
theorem pieces_len (hok : MsgOk m xs img.length) (n : Nat) : (((piecesK m.Kind).take n).flatMap (pcB m xs img)).length ≤ 15000000000 := by
  have := take_flat_le (xs := piecesK m.Kind) (B := pcB m xs img) (m := 3000000000) (fun x _ => pcB_len hok x) n
  have h5 := piecesK_len m.Kind
  have : (piecesK m.Kind).length * 3000000000 ≤ 5 * 3000000000 := Nat.mul_le_mul_right _ h5
  omega
end Go.Chg
/-
  Package 'msgtwo': encode; what its bytes are read as.
-/
set_option maxRecDepth 20000
set_option linter.unusedVariables false
namespace Go.Chg
open Go.Vc
variable {w : World} {m : ApiMsg} {xs : List ApiEntry} {img l : List UInt8} {v p q no k : Int} {s : Sl}
theorem msgtwo_Encode_spec {K : Sl × Int → World → Prop} (ht : Utf8T w) (h : MsgAt w m xs img) (hK : ∀ r w', EncM2 w.heap.size w' m xs img r → Ext w w' → K r w') : msgtwo_Encode m K w := by
  unfold msgtwo_Encode
  refine box_ty fun a w2 ha hx ho => ?_
  refine ld_whole_obj (n := 10) (cs := m.cs) (x := m) (val := ApiMsg.val) (by kernel_rfl) ho rfl rfl ?_
  refine msgone_Check_calls (m := m) (msgone_Check_spec (ht.ext hx) (h.ext hx) fun w5 hx' => ?_)
  have hx := hx.trans' hx'
  have ho := ho.ext hx'
  refine ifNe (fun h0 => hK _ _ (.inl ⟨h0, rfl⟩) hx) (fun h0 => ?_)
  have hok := msgE_ok.1 h0
  have la := ho.lt
  have z5 := hx.size
  refine box_ty fun wa w7 hwa hx' hwo => ?_
  have hx := hx.trans' hx'
  have ho := ho.ext hx'
  have hne : a.block ≠ wa.block := by omega
  have keepO : ∀ {u u' : World}, Vc.Obj u a m.cs → u.grownBy u' (some wa.block) → Vc.Obj u' a m.cs := fun ho hg => ho.keep (hg.block _ ho.lt fun e => hne (Option.some.inj e))
  obtain ⟨f1, f2, _⟩ := hok.nums
  have hk := hok.kind
  have ek := encI_len (n := m.Kind) (by omega)
  have ef := encI_len (n := m.From) (by omega)
  have et := encI_len (n := m.To) (by omega)
  refine ld_obj (off := 0) (y := m.Kind) (by kernel_rfl) ho rfl ?_
  refine pack_Writer_Number_calls (pack_Writer_Number_spec (l := []) ⟨Sl.nil, .nilSl _ _, hwo, fun e => by cases e⟩ (by omega) (by simp) fun w10 hw10 hg10 => ?_)
  have ho := keepO ho hg10
  refine ld_obj (off := 1) (y := m.From) (by kernel_rfl) ho rfl ?_
  refine pack_Writer_Number_calls (pack_Writer_Number_spec hw10 (by omega) (by simp only [List.nil_append]; unfold encI at ek; omega) fun w13 hw13 hg13 => ?_)
  have ho := keepO ho hg13
  refine ld_obj (off := 2) (y := m.To) (by kernel_rfl) ho rfl ?_
  refine pack_Writer_Number_calls (pack_Writer_Number_spec hw13 (by omega) (by simp only [List.nil_append, List.length_append]; unfold encI at ek ef; omega) fun w16 hw16 hg16 => ?_)
  have ho := keepO ho hg16
  rw [List.nil_append] at hw16
  have hw16 : Wt w16 wa (encI m.Kind ++ encI m.From ++ encI m.To) := hw16
  have hg := grown_trans hg10 (grown_trans hg13 hg16)
  refine msgtwo_pieces_calls (m := some a) (msgtwo_pieces_spec ho rfl fun s t w18 _ hs hx18 => ?_)
  have hslen := hs.len
  have hsge := hs.ge
  have z16 := hg.size
  have hlt7 : wa.block < w7.heap.size := hwo.lt
  have hp5 := piecesK_len m.Kind
  have ge : w.heap.size ≤ wa.block := by omega
  dsimp only
  refine up1 (fun k w' => Wt w' wa (encI m.Kind ++ encI m.From ++ encI m.To ++ ((piecesK m.Kind).take k).flatMap (pcB m xs img)) ∧ IsSl (ePc a) w' s (piecesK m.Kind) ∧ Vc.Obj w' a m.cs ∧ w7.grownBy w' (some wa.block)) 0 (piecesK m.Kind).length rfl (by omega) (by omega)
    ⟨by simpa using hw16.ext hx18, hs.is, ho.ext hx18, grown_trans hg (grown_ext hx18 _)⟩ ?_
  rintro k w21 C _ hk' ⟨hw, hs, ho, hg⟩ hC
  have hpl := pieces_len hok k
  refine ifD (fun hlt => ?_) (fun hge => ?_)
  · have hk1 : k < (piecesK m.Kind).length := by omega
    refine el_rd (E := ePc a) (y := pcV a (piecesK m.Kind)[k]) (val := vval) (by kernel_rfl) (by kernel_rfl) hs rfl hk1 rfl fun _ => ?_
    have hmem := List.getElem_mem hk1
    refine msgtwo_put_calls (msgtwo_put_spec (x := (piecesK m.Kind)[k]) (piecesK_ok _ _ hmem) hok (fun e => ?_) ho hw hne (fun u hu => ⟨keep_sl h.es hx (grown_trans hg hu) ge, keep_sl h.im hx (grown_trans hg hu) ge⟩) ?_ fun w25 hw25 hg25 => ?_)
    · obtain ⟨x, hx, _⟩ := single_one hok (e ▸ hmem)
      rw [hx]; simp
    · simp only [List.length_append]; omega
    · refine hC hk1 _ _ rfl ⟨?_, hs.grownB hg25 fun b hb e => ?_, keepO ho hg25, grown_trans hg hg25⟩
      · rw [flatMap_up hk1, ← List.append_assoc]
        exact hw25
      · have := hsge b hb
        cases e
        omega
  · rw [take_done (by omega)] at hw
    have hpl := pieces_len hok (piecesK m.Kind).length
    rw [List.take_length] at hpl
    have hxl : Ext w w21 := Ext.grown' hx hg ge
    have hlen : (msg2B m xs img).length ≤ 140737488355328 := by
      unfold msg2B
      simp only [List.length_append]
      omega
    exact pack_Writer_Bytes_calls (pack_Writer_Bytes_spec hw hlen fun s27 w27 h27 hx' => hK _ _ (.inr ⟨hok, rfl, h27.mono hxl.size⟩) (hxl.trans' hx'))

/-! ### Reading, in plain Lean -/
def setFld (m : ApiMsg) : Nat → Int → ApiMsg
  | 3, n => { m with Ballot := ⟨n, m.Ballot.Node⟩ }
  | 4, n => { m with Ballot := ⟨m.Ballot.Round, n⟩ }
  | 5, n => { m with Index := n }
  | 6, n => { m with Commit := n }
  | _, n => { m with Version := n }
abbrev MSt := ApiMsg × List ApiEntry × List UInt8
def rdPc (l : List UInt8) (x : Pc) (st : MSt) (p no : Int) : MSt × Int × Int :=
  match x with
  | .num off => ((setFld st.1 off (rdN l p no).1, st.2), (rdN l p no).2)
  | .ents => ((st.1, (rdEnts l 2 p no).1, st.2.2), (rdEnts l 2 p no).2)
  | .single => ((st.1, [⟨(rdN l p no).1, st.1.Ballot, (rdCmd l 2 (rdN l p no).2.1 (rdN l p no).2.2).1⟩], st.2.2), (rdCmd l 2 (rdN l p no).2.1 (rdN l p no).2.2).2)
  | .image => ((st.1, st.2.1, (rdText l 32768 p no).1), (rdText l 32768 p no).2)
def rdPcs (l : List UInt8) : List Pc → MSt → Int → Int → MSt × Int × Int
  | [], st, p, no => (st, p, no)
  | x :: r, st, p, no => rdPcs l r (rdPc l x st p no).1 (rdPc l x st p no).2.1 (rdPc l x st p no).2.2
theorem rdPcs_app : ∀ (a b : List Pc) (st : MSt) (p no : Int), rdPcs l (a ++ b) st p no = rdPcs l b (rdPcs l a st p no).1 (rdPcs l a st p no).2.1 (rdPcs l a st p no).2.2
  | [], _, _, _, _ => rfl
  | x :: a, b, st, p, no => by simp only [List.cons_append, rdPcs]; exact rdPcs_app a b _ _ _
def initM (k f t : Int) : ApiMsg := ⟨k, f, t, ⟨0, 0⟩, 0, 0, 0, Sl.nil, Sl.nil⟩
/-- What bytes are read as in V2. -/
def rdM2 (l : List UInt8) (p no : Int) : MSt × Int × Int :=
  let k := rdN l p no
  let f := rdN l k.2.1 k.2.2
  let t := rdN l f.2.1 f.2.2
  rdPcs l (piecesK k.1) (initM k.1 f.1 t.1, [], []) t.2.1 t.2.2
/-- Where a piece lies. -/
def slotP : Pc → Nat
  | .num off => off
  | .ents | .single => 8
  | .image => 9
def pcS (st : MSt) (x : Pc) : List UInt8 := pcB st.1 st.2.1 st.2.2 x
theorem fld_set_same (m : ApiMsg) {off : Nat} (h : 3 ≤ off ∧ off ≤ 7) (n : Int) : fldAt (setFld m off n) off = n := by
  obtain rfl | rfl | rfl | rfl | rfl : off = 3 ∨ off = 4 ∨ off = 5 ∨ off = 6 ∨ off = 7 := by omega
  all_goals rfl
theorem fld_set_other (m : ApiMsg) {off o' : Nat} (h : 3 ≤ off ∧ off ≤ 7) (h' : 3 ≤ o' ∧ o' ≤ 7) (hne : o' ≠ off) (n : Int) : fldAt (setFld m off n) o' = fldAt m o' := by
  obtain rfl | rfl | rfl | rfl | rfl : off = 3 ∨ off = 4 ∨ off = 5 ∨ off = 6 ∨ off = 7 := by omega
  all_goals
    obtain rfl | rfl | rfl | rfl | rfl : o' = 3 ∨ o' = 4 ∨ o' = 5 ∨ o' = 6 ∨ o' = 7 := by omega
  all_goals first | rfl | exact absurd rfl hne
theorem cs_set (m : ApiMsg) {off : Nat} (h : 3 ≤ off ∧ off ≤ 7) (n : Int) : m.cs.set off (.int .i64 n) = (setFld m off n).cs := by
  obtain rfl | rfl | rfl | rfl | rfl : off = 3 ∨ off = 4 ∨ off = 5 ∨ off = 6 ∨ off = 7 := by omega
  all_goals rfl
theorem kind_set (m : ApiMsg) (off : Nat) (n : Int) : (setFld m off n).Kind = m.Kind ∧ (setFld m off n).From = m.From ∧ (setFld m off n).To = m.To := by
  unfold setFld
  split <;> exact ⟨rfl, rfl, rfl⟩
theorem rdPc_frame {x y : Pc} {st : MSt} (hx : okPc x) (hy : okPc y) (hne : slotP x ≠ slotP y) : pcS (rdPc l y st p no).1 x = pcS st x := by
  unfold pcS rdPc
  cases x with
  | num o =>
    cases y with
    | num o' => exact congrArg encI (fld_set_other st.1 hy hx hne _)
    | ents => rfl
    | single => rfl
    | image => rfl
  | ents =>
    cases y with
    | num o' => rfl
    | ents => exact absurd rfl hne
    | single => exact absurd rfl hne
    | image => rfl
  | single =>
    cases y with
    | num o' => rfl
    | ents => exact absurd rfl hne
    | single => exact absurd rfl hne
    | image => rfl
  | image =>
    cases y with
    | num o' => rfl
    | ents => rfl
    | single => rfl
    | image => exact absurd rfl hne
theorem rdPcs_frame {x : Pc} (hx : okPc x) : ∀ (ps : List Pc) (st : MSt) (p no : Int), (∀ y ∈ ps, okPc y ∧ slotP x ≠ slotP y) → pcS (rdPcs l ps st p no).1 x = pcS st x
  | [], _, _, _, _ => rfl
  | y :: r, st, p, no, h => by
    obtain ⟨h1, h2⟩ := h y (List.mem_cons_self ..)
    simp only [rdPcs]
    rw [rdPcs_frame hx r _ _ _ fun z hz => h z (List.mem_cons_of_mem _ hz), rdPc_frame hx h1 h2]
theorem rdPc_inv {x : Pc} {st : MSt} (hx : okPc x) (h : (rdPc l x st p no).2.2 = 0) : no = 0 ∧ Took l p (rdPc l x st p no).2.1 (pcS (rdPc l x st p no).1 x) := by
  cases x with
  | num off =>
    obtain ⟨h0, _, h1⟩ := rdN_inv (l := l) (p := p) (no := no) h
    refine ⟨h0, ?_⟩
    show Took l p (rdN l p no).2.1 (encI (fldAt (setFld st.1 off (rdN l p no).1) off))
    rw [fld_set_same _ hx]
    exact h1
  | ents =>
    obtain ⟨h0, h1, _⟩ := rdEnts_inv (l := l) (v := 2) (p := p) (no := no) h
    exact ⟨h0, h1⟩
  | single =>
    obtain ⟨h0, h1, _⟩ := rdCmd_inv (l := l) (v := 2) (p := (rdN l p no).2.1) (no := (rdN l p no).2.2) h
    obtain ⟨g0, _, g1⟩ := rdN_inv h0
    exact ⟨g0, g1.trans h1⟩
  | image =>
    obtain ⟨h0, _, _, h1⟩ := rdText_inv (l := l) (most := 32768) (p := p) (no := no) h
    exact ⟨h0, h1⟩
theorem rdPcs_bad : ∀ (ps : List Pc) (st : MSt) (p no : Int), (∀ x ∈ ps, okPc x) → (rdPcs l ps st p no).2.2 = 0 → no = 0
  | [], _, _, _, _, h => h
  | x :: r, st, p, no, hx, h => by
    simp only [rdPcs] at h
    have := rdPcs_bad r _ _ _ (fun y hy => hx y (List.mem_cons_of_mem _ hy)) h
    exact (rdPc_inv (hx x (List.mem_cons_self ..)) this).1
theorem rdPcs_inv : ∀ (ps : List Pc) (st : MSt) (p no : Int), (∀ x ∈ ps, okPc x) → ps.Pairwise (fun a b => slotP a ≠ slotP b) → 0 ≤ p → p ≤ l.length → (rdPcs l ps st p no).2.2 = 0 → Took l p (rdPcs l ps st p no).2.1 (ps.flatMap (pcS (rdPcs l ps st p no).1))
  | [], st, p, no, _, _, h0, h1, _ => Took.refl h0 h1
  | x :: r, st, p, no, hx, hp, h0, h1, h => by
    simp only [rdPcs] at h ⊢
    obtain ⟨hp1, hp2⟩ := List.pairwise_cons.1 hp
    have hr : ∀ y ∈ r, okPc y := fun y hy => hx y (List.mem_cons_of_mem _ hy)
    have hb := rdPcs_bad r _ _ _ hr h
    obtain ⟨_, t⟩ := rdPc_inv (hx x (List.mem_cons_self ..)) hb
    have t2 := rdPcs_inv r _ _ _ hr hp2 (by have := t.nonneg; have := t.len; omega) t.le h
    rw [List.flatMap_cons, rdPcs_frame (hx x (List.mem_cons_self ..)) r _ _ _ fun y hy => ⟨hr y hy, hp1 y hy⟩]
    exact t.trans t2
theorem piecesK_apart (k : Int) : (piecesK k).Pairwise (fun a b => slotP a ≠ slotP b) := by
  unfold piecesK
  repeat' split
  all_goals simp [slotP]
theorem rdPcs_head : ∀ (ps : List Pc) (st : MSt) (p no : Int), (rdPcs l ps st p no).1.1.Kind = st.1.Kind ∧ (rdPcs l ps st p no).1.1.From = st.1.From ∧ (rdPcs l ps st p no).1.1.To = st.1.To
  | [], _, _, _ => ⟨rfl, rfl, rfl⟩
  | x :: r, st, p, no => by
    simp only [rdPcs]
    obtain ⟨a, b, c⟩ := rdPcs_head r (rdPc l x st p no).1 (rdPc l x st p no).2.1 (rdPc l x st p no).2.2
    rw [a, b, c]
    cases x with
    | num off => exact kind_set st.1 off _
    | ents => exact ⟨rfl, rfl, rfl⟩
    | single => exact ⟨rfl, rfl, rfl⟩
    | image => exact ⟨rfl, rfl, rfl⟩
theorem rdM2_kind : (rdM2 l p no).1.1.Kind = (rdN l p no).1 := (rdPcs_head _ _ _ _).1
theorem rdM2_inv (h : (rdM2 l p no).2.2 = 0) : no = 0 ∧ Took l p (rdM2 l p no).2.1 (msg2B (rdM2 l p no).1.1 (rdM2 l p no).1.2.1 (rdM2 l p no).1.2.2) := by
  have hk := rdM2_kind (l := l) (p := p) (no := no)
  unfold rdM2 at h ⊢
  dsimp only at h ⊢
  have hb := rdPcs_bad _ _ _ _ (piecesK_ok _) h
  obtain ⟨t0, _, t1⟩ := rdN_inv hb
  obtain ⟨f0, _, f1⟩ := rdN_inv t0
  obtain ⟨k0, _, k1⟩ := rdN_inv f0
  have t2 := rdPcs_inv _ _ _ _ (piecesK_ok _) (piecesK_apart _) (by have := t1.nonneg; have := t1.len; omega) t1.le h
  obtain ⟨a, b, c⟩ := rdPcs_head (l := l) (piecesK (rdN l p no).1) (initM (rdN l p no).1 (rdN l (rdN l p no).2.1 (rdN l p no).2.2).1 (rdN l (rdN l (rdN l p no).2.1 (rdN l p no).2.2).2.1 (rdN l (rdN l p no).2.1 (rdN l p no).2.2).2.2).1, [], []) (rdN l (rdN l (rdN l p no).2.1 (rdN l p no).2.2).2.1 (rdN l (rdN l p no).2.1 (rdN l p no).2.2).2.2).2.1 (rdN l (rdN l (rdN l p no).2.1 (rdN l p no).2.2).2.1 (rdN l (rdN l p no).2.1 (rdN l p no).2.2).2.2).2.2
  refine ⟨k0, ?_⟩
  unfold msg2B
  rw [a, b, c]
  exact ((k1.trans f1).trans t1).trans t2

/-! ### What has these bytes is read -/
def upd (m : ApiMsg) (xs : List ApiEntry) (img : List UInt8) (x : Pc) (st : MSt) : MSt :=
  match x with
  | .num off => (setFld st.1 off (fldAt m off), st.2)
  | .ents => (st.1, xs, st.2.2)
  | .single => match xs with | y :: _ => (st.1, [⟨y.Index, st.1.Ballot, y.Cmd⟩], st.2.2) | [] => st
  | .image => (st.1, st.2.1, img)
theorem rdPc_took {x : Pc} {st : MSt} (hok : MsgOk m xs img.length) (hs : x = .single → xs ≠ []) (h : Took l p q (pcB m xs img x)) : rdPc l x st p 0 = (upd m xs img x st, q, 0) := by
  cases x with
  | num off =>
    obtain ⟨a, b⟩ := fld_le hok off
    have := rdN_took (n := fldAt m off) h a b
    simp only [rdPc, upd, this]
  | ents =>
    have := rdEnts_took (v := 2) h (fun x hx => entOk_fit (hok.each x hx) fun h => by omega) hok.few
    simp only [rdPc, upd, this]
  | single =>
    match xs, hok, hs rfl, h with
    | y :: r, hok, _, h =>
      obtain ⟨f1, f2, f3, f4, f5⟩ := entOk_fit (v := 2) (hok.each y (List.mem_cons_self ..)) fun h => by omega
      have h : Took l p q (encI y.Index ++ cmdB 2 y.Cmd) := h
      obtain ⟨h1, h2⟩ := h.split
      have e1 := rdN_took h1 f1.1 f1.2
      have e2 := rdCmd_took f4 f5 h2
      simp only [rdPc, upd, e1, e2]
  | image =>
    have hi := hok.img
    have := rdText_took (most := 32768) h (by omega) (by omega)
    simp only [rdPc, upd, this]
theorem rdPcs_took (hok : MsgOk m xs img.length) : ∀ (ps : List Pc) (st : MSt) (p : Int), (Pc.single ∈ ps → xs ≠ []) → Took l p q (ps.flatMap (pcB m xs img)) → rdPcs l ps st p 0 = (ps.foldl (fun s x => upd m xs img x s) st, q, 0)
  | [], st, p, _, h => by
    have := h.len
    simp only [List.flatMap_nil, List.length_nil] at this
    simp [rdPcs, this]
  | x :: r, st, p, hs, h => by
    rw [List.flatMap_cons] at h
    obtain ⟨h1, h2⟩ := h.split
    simp only [rdPcs, List.foldl_cons]
    rw [rdPc_took hok (fun e => hs (e ▸ List.mem_cons_self ..)) h1]
    exact rdPcs_took hok r _ _ (fun e => hs (List.mem_cons_of_mem _ e)) h2
/-- The message without its slices. -/
def bare (m : ApiMsg) : ApiMsg := { m with Entries := Sl.nil, Image := Sl.nil }
theorem upd_all (hok : MsgOk m xs img.length) : (piecesK m.Kind).foldl (fun s x => upd m xs img x s) (initM m.Kind m.From m.To, [], []) = (bare m, xs, img) := by
  obtain ⟨g1, g2, g3, g4, g5, g6, g7⟩ := hok.form
  have hk := hok.kind
  obtain ⟨mk, mf, mt, ⟨br, bn⟩, mi, mc, mv, me, mim⟩ := m
  dsimp only at g1 g2 g3 g4 g5 g6 g7 hk ⊢
  have noimg : mM mk = false → img = [] := fun h => List.length_eq_zero_iff.1 (Nat.eq_zero_of_not_pos fun hc => by rw [g6.2 hc] at h; cases h)
  have z : (⟨br, bn⟩ : ApiBallot) = zBallot → br = 0 ∧ bn = 0 := fun h => by cases h; exact ⟨rfl, rfl⟩
  obtain rfl | rfl | rfl | rfl | rfl | rfl | rfl | rfl | rfl | rfl | rfl : mk = 1 ∨ mk = 2 ∨ mk = 3 ∨ mk = 4 ∨ mk = 5 ∨ mk = 6 ∨ mk = 7 ∨ mk = 8 ∨ mk = 9 ∨ mk = 10 ∨ mk = 11 := by omega
  · obtain ⟨rfl, rfl⟩ := z (g1 rfl); obtain rfl := g2 rfl; obtain rfl := g3 rfl; obtain rfl := g5 rfl; obtain rfl := noimg rfl; rfl
  · obtain ⟨rfl, rfl⟩ := z (g1 rfl); obtain rfl := g2 rfl; obtain rfl := g3 rfl; obtain rfl := g5 rfl; obtain rfl := noimg rfl; rfl
  · obtain rfl := g3 rfl; obtain rfl := g4 rfl; obtain rfl := g5 rfl; obtain rfl := noimg rfl; rfl
  · obtain rfl := g4 rfl; obtain rfl := noimg rfl; rfl
  · obtain rfl := g2 rfl; obtain rfl := g3 rfl; obtain rfl := g4 rfl; obtain rfl := noimg rfl
    obtain ⟨⟨xi, xb, xc⟩, rfl, hb⟩ := g7 rfl
    dsimp only at hb
    subst hb
    rfl
  · obtain rfl := g3 rfl; obtain rfl := g4 rfl; obtain rfl := g5 rfl; obtain rfl := noimg rfl; rfl
  · obtain rfl := g2 rfl; obtain rfl := g3 rfl; obtain rfl := g4 rfl; obtain rfl := g5 rfl; obtain rfl := noimg rfl; rfl
  · obtain rfl := g2 rfl; obtain rfl := g4 rfl; obtain rfl := g5 rfl; obtain rfl := noimg rfl; rfl
  · obtain ⟨rfl, rfl⟩ := z (g1 rfl); obtain rfl := g3 rfl; obtain rfl := g4 rfl; obtain rfl := g5 rfl; obtain rfl := noimg rfl; rfl
  · obtain ⟨rfl, rfl⟩ := z (g1 rfl); obtain rfl := g2 rfl; obtain rfl := g4 rfl; obtain rfl := noimg rfl; rfl
  · obtain ⟨rfl, rfl⟩ := z (g1 rfl); obtain rfl := g2 rfl; obtain rfl := g3 rfl; obtain rfl := g4 rfl; obtain rfl := g5 rfl; rfl
theorem rdM2_took (hok : MsgOk m xs img.length) : rdM2 (msg2B m xs img) 0 0 = ((bare m, xs, img), ((msg2B m xs img).length : Int), 0) := by
  have t := Took.all (msg2B m xs img)
  have e : msg2B m xs img = encI m.Kind ++ encI m.From ++ encI m.To ++ (piecesK m.Kind).flatMap (pcB m xs img) := rfl
  generalize msg2B m xs img = l at t e ⊢
  have t' : Took l 0 l.length (encI m.Kind ++ encI m.From ++ encI m.To ++ (piecesK m.Kind).flatMap (pcB m xs img)) := by rw [← e]; exact t
  obtain ⟨t', t4⟩ := t'.split
  obtain ⟨t', t3⟩ := t'.split
  obtain ⟨t1, t2⟩ := t'.split
  obtain ⟨f1, f2, _⟩ := hok.nums
  have hk := hok.kind
  unfold rdM2
  dsimp only
  rw [rdN_took t1 (by omega) (by omega)]
  dsimp only
  rw [rdN_took t2 (by omega) (by omega)]
  dsimp only
  rw [rdN_took t3 (by omega) (by omega)]
  dsimp only
  rw [rdPcs_took hok _ _ _ (fun h => by obtain ⟨x, hx, _⟩ := single_one hok h; rw [hx]; simp) t4, upd_all hok]
end Go.Chg
/-
  Package 'msgtwo': decode.
-/
set_option maxRecDepth 20000
set_option linter.unusedVariables false
namespace Go.Chg
open Go.Vc
variable {w : World} {m : ApiMsg} {xs : List ApiEntry} {img l : List UInt8} {v p q no k : Int} {s : Sl}
/-- A part of a variable, whole. -/
theorem ld_part {β : Type} {t n off : Nat} {a : Addr} {cs ys : List Value} {val : β → Value} {y : β} {K : β → Prop} (ht : agT Pr t = some n) (h : Vc.Obj w a cs) (hn : ys.length = n) (hx : ∀ (j : Nat) v, ys[j]? = some v → cs[off + j]? = some v) (hv : val y = .agg ⟨ys⟩) (hK : K y) :
    opRd Pr (Instr.loadAt t (.pointer (some (a.add off)))) val K w := by
  have hs := h.1
  refine ⟨y, ?_, hK⟩
  rw [hv]
  have e1 := addr_off a hs off
  refine run_ldAgg ht hn (by rw [e1]) fun j v hj => ?_
  have := h.cell (hx j v hj)
  rw [addr_off a hs] at this
  rw [e1]
  show w.cell? ⟨a.block, a.off + off + j, none⟩ = some v
  rw [Nat.add_assoc]
  exact this
/-- A message's cells, with these slices. -/
def mk2 (m : ApiMsg) (es im : Sl) : ApiMsg := { m with Entries := es, Image := im }
theorem mk2_set (m : ApiMsg) {off : Nat} (h : 3 ≤ off ∧ off ≤ 7) (n : Int) (es im : Sl) : (mk2 m es im).cs.set off (.int .i64 n) = (mk2 (setFld m off n) es im).cs := by
  obtain rfl | rfl | rfl | rfl | rfl : off = 3 ∨ off = 4 ∨ off = 5 ∨ off = 6 ∨ off = 7 := by omega
  all_goals rfl
theorem mk2_bal (m : ApiMsg) (es im : Sl) : ∀ (j : Nat) v, m.Ballot.cs[j]? = some v → (mk2 m es im).cs[3 + j]? = some v := fun j v hv => by
  match j, hv with
  | 0, hv => exact hv
  | 1, hv => exact hv
  | n + 2, hv => cases hv
/-- What is behind the reader and the message: the rest of the memory a piece's read leaves alone. -/
structure M2At (B : Nat) (w : World) (r a : Addr) (l : List UInt8) (st : MSt) (p no : Int) (es im : Sl) : Prop where
  ho : Vc.Obj w a (mk2 st.1 es im).cs
  hr : Rd w r l p no
  he : OwnSl eApiEntry w B es st.2.1
  hi : OwnSl eB w B im st.2.2
theorem M2At.ext {B : Nat} {r a : Addr} {st : MSt} {es im : Sl} {u : World} (h : M2At B w r a l st p no es im) (hx : Ext w u) : M2At B u r a l st p no es im := ⟨h.ho.ext hx, h.hr.ext hx, h.he.ext hx, h.hi.ext hx⟩
/-- A newer block turned. -/
theorem M2At.wrN {B b : Nat} {r a : Addr} {st : MSt} {es im : Sl} {w0 u : World} (h : M2At B w r a l st p no es im) (h0 : M2At B w0 r a l st p no es im) (hb : w0.heap.size ≤ b) (hw : Wr b w u) : M2At B u r a l st p no es im := by
  have l1 := h0.ho.lt
  have l2 := h0.hr.lt
  exact ⟨h.ho.keep (hw.block _ (by omega)), h.hr.wr hw (by omega), h.he.wrN hw (n := b) (fun c hc => by have := h0.he.lt c hc; omega) (Nat.le_refl _), h.hi.wrN hw (n := b) (fun c hc => by have := h0.hi.lt c hc; omega) (Nat.le_refl _)⟩
/-- The one entry, behind its index: what is left. -/
theorem get_tail {B b2 b31 tb t8 : Nat} {u : World} {r a : Addr} {st : MSt} {es im : Sl} {K : Unit → World → Prop} (h : M2At B w r a l st p no es im) (hra : r.block < a.block) (haB : a.block < B) (hB : B ≤ w.heap.size) (hl : l.length ≤ 140737488355328) (hb2 : w.heap.size ≤ b2) (hb31 : w.heap.size ≤ b31)
    (hu : M2At B u r a l st (rdN l p no).2.1 (rdN l p no).2.2 es im) (h2 : Two r.block a.block w u) (happ : appOk Pr tb (elemT Pr tb) 10 104 = true)
    (hlit : ∀ (e : ApiEntry) (w : World), (Instr.buildSlice tb 1 #[(0, .agg ⟨e.cs⟩)]).run Pr w = .ok (.slice (some ⟨w.heap.size, 0, none⟩) 1 1) (w.alloc (.cells ⟨[e].flatMap eApiEntry.cs⟩ (elemT Pr tb)))) (h8 : sizeT Pr t8 = some 1)
    (hK : ∀ es' im' w', M2At B w' r a l (rdPc l .single st p no).1 (rdPc l .single st p no).2.1 (rdPc l .single st p no).2.2 es' im' → Two r.block a.block w w' → K () w') :
        callV Pr ApiCmd.val fid_cmd_Get #[(.pointer (some r)), (.int .i64 2)] u fun t34 w35 => kp b31 u w35 <| kp b2 u w35 <| wrM b31 (fun w36 =>
          opTy Pr (Instr.buildSlice tb 1 #[(0, (.agg ⟨[(.int .i64 (rdN l p no).1), (.int .i64 st.1.Ballot.Round), (.int .i64 st.1.Ballot.Node), (.int .i64 t34.Kind), (.int .i64 t34.Client), (.int .i64 t34.Seq), (sval t34.Key), (sval t34.Val), (sval t34.Old), (.int .i64 t34.Node)]⟩))]) Sl.val (fun t37 w38 => kp b31 w36 w38 <| kp b2 w36 w38 <|
            opRd Pr (nilSem (.pointer (some a))) pav (fun t39 => opUn Pr (Instr.storeAt t8 (.pointer (some (t39.add 8))) t37.val) (fun w40 => kp b31 w38 w40 <| kp b2 w38 w40 <| K () w40) w38) w38) w36) w35 := by
  have lw := h.hr.lt
  have la := h.ho.lt
  have nr : ∀ {b : Nat}, w.heap.size ≤ b → some b ≠ some r.block := fun h e => by have := Option.some.inj e; omega
  have na : ∀ {b : Nat}, w.heap.size ≤ b → b ≠ a.block := fun h e => by omega
  have er : ∀ {α : Type} {E : Enc α} {u : World} {t : Sl} {ys : List α}, OwnSl E u B t ys → ∀ b, t.blk = some b → some b ≠ some r.block := fun ht b hb e => by have := ht.ge b hb; cases e; omega
  refine cmd_Get_calls (cmd_Get_spec hu.hr hl fun w35 hr35 hg35 => kp_grown hg35 (nr hb31) (kp_grown hg35 (nr hb2) (wr_of fun w36 hw36 => ?_)))
  have ho35 := hu.ho.keep (hg35.block _ hu.ho.lt (fun e => by have := Option.some.inj e; omega))
  have ho36 := ho35.keep (hw36.block _ (fun e => na hb31 e.symm))
  have hr36 := hr35.wr hw36 (by omega)
  have hi36 := (hu.hi.grownB hg35 (er hu.hi)).grownB (grown_wr hw36) fun b hb e => by
    have := h.hi.lt b hb
    have := Option.some.inj e
    omega
  have h35 := h2.trans (Two.grown hg35)
  have h36 : Two r.block a.block w w36 := ⟨by rw [hw36.os, h35.os], by rw [hw36.tape, h35.tape], by rw [hw36.output, h35.output], by rw [hw36.size]; exact h35.size, fun k hk h1 h2 => by rw [hw36.block k (by omega), h35.block k hk h1 h2]⟩
  have z36 := h36.size
  refine lit1_ty (E := eApiEntry) 104 (x := ⟨(rdN l p no).1, st.1.Ballot, (rdCmd l 2 (rdN l p no).2.1 (rdN l p no).2.2).1⟩) w36.heap.size happ (by decide) (hlit ⟨(rdN l p no).1, st.1.Ballot, (rdCmd l 2 (rdN l p no).2.1 (rdN l p no).2.2).1⟩) (Nat.le_refl _) fun t37 w38 _ h37 hx38 => kp_ext hx38 (kp_ext hx38 (nil_rd rfl ?_))
  refine st_obj (off := 8) h8 (ho36.ext hx38) rfl (by show 8 < 10; decide) fun w40 hw40 ho40 => kp_wr hw40 (na hb31) (kp_wr hw40 (na hb2) ?_)
  exact hK t37 im w40 ⟨ho40, (hr36.ext hx38).wr hw40 hra, (h37.wrO hw40 (by omega)).mono (by omega), (hi36.ext hx38).wrO hw40 haB⟩ ((h36.trans (Two.ext hx38)).trans (Two.wr hw40))
/-- One piece, read. -/
theorem msgtwo_get_spec {B : Nat} {r a : Addr} {x : Pc} {st : MSt} {es im : Sl} {K : Unit → World → Prop} (hx : okPc x) (h : M2At B w r a l st p no es im) (hra : r.block < a.block) (haB : a.block < B) (hB : B ≤ w.heap.size) (hl : l.length ≤ 140737488355328)
    (hK : ∀ es' im' w', M2At B w' r a l (rdPc l x st p no).1 (rdPc l x st p no).2.1 (rdPc l x st p no).2.2 es' im' → Two r.block a.block w w' → K () w') : msgtwo_get (some r) (pcV a x) K w := by
  unfold msgtwo_get
  have lw := h.hr.lt
  have la := h.ho.lt
  have hspot := h.ho.1
  have nr : ∀ {b : Nat}, w.heap.size ≤ b → some b ≠ some r.block := fun h e => by have := Option.some.inj e; omega
  have na : ∀ {b : Nat}, w.heap.size ≤ b → b ≠ a.block := fun h e => by omega
  have er : ∀ {α : Type} {E : Enc α} {u : World} {t : Sl} {ys : List α}, OwnSl E u B t ys → ∀ b, t.blk = some b → some b ≠ some r.block := fun ht b hb e => by have := ht.ge b hb; cases e; omega
  match x, hx, hK with
  | .num off, hx, hK =>
    refine ta_yes (y := ⟨some (a.add off)⟩) (by kernel_rfl) rfl (ifB_t rfl ?_)
    refine new_x (Ext.rfl' w) fun b2 w3 hb2 _ he hn => wr_x he hb2 fun w4 he hw4 => held_x fun w5 he5 => ?_
    have he := he.trans' he5
    have h5 := h.ext he
    refine pack_Reader_Number_calls (pack_Reader_Number_spec h5.hr fun w8 hr8 hg8 => kp_grown hg8 (nr hb2) ⟨trivial, ?_⟩)
    have ho8 := h5.ho.keep (hg8.block _ h5.ho.lt (fun e => by have := Option.some.inj e; omega))
    refine opH_of (a.add off) (fun w' _ => nil_rd rfl rfl) ?_
    refine st_obj (by kernel_rfl) ho8 rfl (by show off < 10; have := hx.2; omega) fun w10 hw10 ho10 => kp_wr hw10 (na hb2) ⟨trivial, ?_⟩
    rw [mk2_set _ hx] at ho10
    refine hK es im w10 ⟨ho10, hr8.wr hw10 hra, (h5.he.grownB hg8 (er h5.he)).wrO hw10 haB, (h5.hi.grownB hg8 (er h5.hi)).wrO hw10 haB⟩ (((Two.ext he).trans (Two.grown hg8)).trans (Two.wr hw10))
  | .ents, _, hK =>
    refine ta_no (y := ⟨none⟩) (by kernel_rfl) (by kernel_rfl) (by kernel_rfl) (ifB_f rfl ?_)
    refine ta_yes (y := ⟨some a⟩) (by kernel_rfl) rfl (ifB_t rfl ?_)
    refine new_x (Ext.rfl' w) fun b2 w3 hb2 _ he hn => wr_x he hb2 fun w4 he hw4 => held_x fun w5 he5 => ?_
    have he := he.trans' he5
    have h5 := h.ext he
    have z5 := he.size
    refine entry_Get_calls (entry_Get_spec h5.hr hl fun es' w8 hes hr8 hg8 => kp_grown hg8 (nr hb2) ⟨trivial, ?_⟩)
    have ho8 := h5.ho.keep (hg8.block _ h5.ho.lt (fun e => by have := Option.some.inj e; omega))
    refine opH_of a (fun w' _ => nil_rd rfl rfl) ?_
    refine st_obj (off := 8) (by kernel_rfl) ho8 rfl (by show 8 < 10; decide) fun w10 hw10 ho10 => kp_wr hw10 (na hb2) ⟨trivial, ?_⟩
    exact hK es' im w10 ⟨ho10, hr8.wr hw10 hra, (hes.wrO hw10 (by omega)).mono (by omega), (h5.hi.grownB hg8 (er h5.hi)).wrO hw10 haB⟩ (((Two.ext he).trans (Two.grown hg8)).trans (Two.wr hw10))
  | .image, _, hK =>
    refine ta_no (y := ⟨none⟩) (by kernel_rfl) (by kernel_rfl) (by kernel_rfl) (ifB_f rfl ?_)
    refine ta_no (y := ⟨none⟩) (by kernel_rfl) (by kernel_rfl) (by kernel_rfl) (ifB_f rfl ?_)
    refine ta_no (y := ⟨none⟩) (by kernel_rfl) (by kernel_rfl) (by kernel_rfl) (ifB_f rfl ?_)
    refine ta_yes (y := ⟨some a⟩) (by kernel_rfl) rfl (ifB_t rfl ?_)
    refine new_x (Ext.rfl' w) fun b2 w3 hb2 _ he hn => wr_x he hb2 fun w4 he hw4 => held_x fun w5 he5 => ?_
    have he := he.trans' he5
    have h5 := h.ext he
    have z5 := he.size
    refine pack_Reader_Raw_calls (pack_Reader_Raw_spec h5.hr hl fun im' w8 him hr8 hg8 => kp_grown hg8 (nr hb2) ⟨trivial, ?_⟩)
    have ho8 := h5.ho.keep (hg8.block _ h5.ho.lt (fun e => by have := Option.some.inj e; omega))
    refine opH_of a (fun w' _ => nil_rd rfl rfl) ?_
    refine st_obj (off := 9) (by kernel_rfl) ho8 rfl (by show 9 < 10; decide) fun w10 hw10 ho10 => kp_wr hw10 (na hb2) ⟨trivial, ?_⟩
    exact hK es im' w10 ⟨ho10, hr8.wr hw10 hra, (h5.he.grownB hg8 (er h5.he)).wrO hw10 haB, (him.wrO hw10 (by omega)).mono (by omega)⟩ (((Two.ext he).trans (Two.grown hg8)).trans (Two.wr hw10))
  | .single, _, hK =>
    refine ta_no (y := ⟨none⟩) (by kernel_rfl) (by kernel_rfl) (by kernel_rfl) (ifB_f rfl ?_)
    refine ta_no (y := ⟨none⟩) (by kernel_rfl) (by kernel_rfl) (by kernel_rfl) (ifB_f rfl ?_)
    refine ta_yes (y := ⟨some a⟩) (by kernel_rfl) rfl (ifB_t rfl ?_)
    refine new_x (Ext.rfl' w) fun b2 w3 hb2 _ he hn => wr_x he hb2 fun w4 he hw4 => ?_
    have h4 := h.ext he
    refine heldM_of (fun w' => Vc.Obj w' a (mk2 st.1 es im).cs) fun w5 he5 => ⟨h4.ho.ext he5, ?_⟩
    have he := he.trans' he5
    have h5 := h.ext he
    have z5 := he.size
    refine opH_of a (fun w' _ => nil_rd rfl rfl) ?_
    refine opH_of st.1.Ballot (fun w' hw' => ld_part (n := 2) (off := 3) (ys := st.1.Ballot.cs) (val := ApiBallot.val) (by kernel_rfl) hw' rfl (mk2_bal _ _ _) rfl rfl) ?_
    refine ⟨?_, ?_⟩
    · refine pack_Reader_Number_calls (pack_Reader_Number_spec h5.hr fun w30 hr30 hg30 => kp_grown hg30 (nr hb2) ?_)
      have ho30 := h5.ho.keep (hg30.block _ h5.ho.lt (fun e => by have := Option.some.inj e; omega))
      have h30 : M2At B w30 r a l st (rdN l p no).2.1 (rdN l p no).2.2 es im := ⟨ho30, hr30, h5.he.grownB hg30 (er h5.he), h5.hi.grownB hg30 (er h5.hi)⟩
      have z30 := hg30.size
      refine ⟨ho30, new_x (Ext.rfl' w30) fun b31 w32 hb31 hl31 hx32 hn32 => ⟨ho30.ext hx32, wr_of fun w33 hw33 => ?_⟩⟩
      have h33 := (h30.ext hx32).wrN h30 hb31 hw33
      have t32 := ((Two.ext (x := r.block) (y := a.block) he).trans (Two.grown hg30)).trans (Two.ext hx32)
      have t33 : Two r.block a.block w w33 := ⟨by rw [hw33.os, t32.os], by rw [hw33.tape, t32.tape], by rw [hw33.output, t32.output], by rw [hw33.size]; exact t32.size, fun k hk h1 h2 => by rw [hw33.block k (by omega), t32.block k hk h1 h2]⟩
      exact ⟨h33.ho, get_tail h hra haB hB hl hb2 (by omega) h33 t33 (by kernel_rfl) (fun e w => by kernel_rfl) (by kernel_rfl) hK⟩
    · refine new_x (Ext.rfl' w5) fun b41 w42 hb41 hl41 hx42 hn42 => ⟨h5.ho.ext hx42, ?_⟩
      have h42 := h5.ext hx42
      refine pack_Reader_Number_calls (pack_Reader_Number_spec h42.hr fun w44 hr44 hg44 => kp_grown hg44 (nr (by omega)) (kp_grown hg44 (nr hb2) ?_))
      have ho44 := h42.ho.keep (hg44.block _ h42.ho.lt (fun e => by have := Option.some.inj e; omega))
      have h44 : M2At B w44 r a l st (rdN l p no).2.1 (rdN l p no).2.2 es im := ⟨ho44, hr44, h42.he.grownB hg44 (er h42.he), h42.hi.grownB hg44 (er h42.hi)⟩
      refine ⟨ho44, wr_of fun w45 hw45 => ?_⟩
      have l1 := h5.ho.lt
      have l2 := h5.hr.lt
      have h45 : M2At B w45 r a l st (rdN l p no).2.1 (rdN l p no).2.2 es im := ⟨h44.ho.keep (hw45.block _ (by omega)), h44.hr.wr hw45 (by omega), h44.he.wrN hw45 (n := b41) (fun c hc => by have := h5.he.lt c hc; omega) (Nat.le_refl _), h44.hi.wrN hw45 (n := b41) (fun c hc => by have := h5.hi.lt c hc; omega) (Nat.le_refl _)⟩
      have t44 := ((Two.ext (x := r.block) (y := a.block) he).trans (Two.ext hx42)).trans (Two.grown hg44)
      have t45 : Two r.block a.block w w45 := ⟨by rw [hw45.os, t44.os], by rw [hw45.tape, t44.tape], by rw [hw45.output, t44.output], by rw [hw45.size]; exact t44.size, fun k hk h1 h2 => by rw [hw45.block k (by omega), t44.block k hk h1 h2]⟩
      exact ⟨h45.ho, get_tail h hra haB hB hl hb2 (by omega) h45 t45 (by kernel_rfl) (fun e w => by kernel_rfl) (by kernel_rfl) hK⟩
theorem msgtwo_read_spec {r : Addr} {K : ApiMsg × Bool → World → Prop} (hr : Rd w r l p no) (hl : l.length ≤ 140737488355328)
    (hK : ∀ es im t w', (t = true ↔ 1 ≤ (rdM2 l p no).1.1.Kind ∧ (rdM2 l p no).1.1.Kind ≤ 11) → OwnSl eApiEntry w' w.heap.size es (rdM2 l p no).1.2.1 → OwnSl eB w' w.heap.size im (rdM2 l p no).1.2.2 → Rd w' r l (rdM2 l p no).2.1 (rdM2 l p no).2.2 → w.grownBy w' (some r.block) → K (mk2 (rdM2 l p no).1.1 es im, t) w') : msgtwo_read (some r) K w := by
  unfold msgtwo_read
  have hlt := hr.lt
  have hkk := rdM2_kind (l := l) (p := p) (no := no)
  unfold rdM2 at hK hkk
  dsimp only at hK hkk
  refine new_x (Ext.rfl' w) fun b1 w2 hb1 hl1 hx hn2 => ?_
  have z2 := hx.size
  have hb1r : some b1 ≠ some r.block := fun e => by have := Option.some.inj e; omega
  refine pack_Reader_Number_calls (pack_Reader_Number_spec (hr.ext hx) fun w4 hr4 hg4 => kp_grown hg4 hb1r ?_)
  have z4 := hg4.size
  refine box_ty fun a w6 ha hx6 ho6 => kp_ext hx6 ?_
  have hb1a : b1 ≠ a.block := by omega
  have hra : r.block < a.block := by omega
  have la6 := ho6.lt
  refine pack_Reader_Number_calls (pack_Reader_Number_spec (hr4.ext hx6) fun w8 hr8 hg8 => kp_grown hg8 hb1r ?_)
  have ho8 := ho6.keep (hg8.block _ la6 fun e => by have := Option.some.inj e; omega)
  refine nil_rd rfl (st_obj (off := 1) (by kernel_rfl) ho8 rfl (by show 1 < 10; decide) fun w10 hw10 ho10 => kp_wr hw10 hb1a ?_)
  have hr10 := hr8.wr hw10 hra
  refine pack_Reader_Number_calls (pack_Reader_Number_spec hr10 fun w12 hr12 hg12 => kp_grown hg12 hb1r ?_)
  have ho12 := ho10.keep (hg12.block _ ho10.lt fun e => by have := Option.some.inj e; omega)
  refine nil_rd rfl (st_obj (off := 2) (by kernel_rfl) ho12 rfl (by show 2 < 10; decide) fun w14 hw14 ho14 => kp_wr hw14 hb1a ?_)
  have hr14 := hr12.wr hw14 hra
  have t14 : Two r.block a.block w6 w14 := ((Two.grown hg8).trans (Two.wr hw10)).trans ((Two.grown hg12).trans (Two.wr hw14))
  have z14 := t14.size
  have ho14 : Vc.Obj w14 a (mk2 (initM (rdN l p no).1 (rdN l (rdN l p no).2.1 (rdN l p no).2.2).1 (rdN l (rdN l (rdN l p no).2.1 (rdN l p no).2.2).2.1 (rdN l (rdN l p no).2.1 (rdN l p no).2.2).2.2).1) Sl.nil Sl.nil).cs := ho14
  have hr14 : Rd w14 r l (rdN l (rdN l (rdN l p no).2.1 (rdN l p no).2.2).2.1 (rdN l (rdN l p no).2.1 (rdN l p no).2.2).2.2).2.1 (rdN l (rdN l (rdN l p no).2.1 (rdN l p no).2.2).2.1 (rdN l (rdN l p no).2.1 (rdN l p no).2.2).2.2).2.2 := hr14
  generalize hK1 : rdN l p no = k at hK hkk ho14 hr14
  generalize hF : rdN l k.2.1 k.2.2 = f at hK hkk ho14 hr14
  generalize hT : rdN l f.2.1 f.2.2 = t at hK hkk ho14 hr14
  generalize hst : initM k.1 f.1 t.1 = m0 at hK hkk ho14
  have hk0 : (mk2 m0 Sl.nil Sl.nil).cs[0]? = some (.int .i64 k.1) := by rw [← hst]; rfl
  refine msgtwo_pieces_calls (m := some a) (msgtwo_pieces_spec ho14 hk0 fun s is w16 his hs hx16 => kp_ext hx16 ?_)
  dsimp only
  have hslen := hs.len
  have hsge := hs.ge
  have hp5 := piecesK_len k.1
  have z16 := hx16.size
  refine up1 (fun i w' => (∃ es im, M2At w6.heap.size w' r a l (rdPcs l ((piecesK k.1).take i) (m0, [], []) t.2.1 t.2.2).1 (rdPcs l ((piecesK k.1).take i) (m0, [], []) t.2.1 t.2.2).2.1 (rdPcs l ((piecesK k.1).take i) (m0, [], []) t.2.1 t.2.2).2.2 es im) ∧ IsSl (ePc a) w' s (piecesK k.1) ∧ Two r.block a.block w6 w')
    0 (piecesK k.1).length rfl (by omega) (by omega) ⟨⟨Sl.nil, Sl.nil, (⟨ho14, hr14, .nil _ _ _, .nil _ _ _⟩ : M2At w6.heap.size w14 r a l (m0, [], []) t.2.1 t.2.2 Sl.nil Sl.nil).ext hx16⟩, hs.is, t14.trans (Two.ext hx16)⟩ ?_
  rintro i w19 C _ hi ⟨⟨es, im, hm⟩, hs, h2⟩ hC
  have z19 := h2.size
  refine ifD (fun hlt' => ?_) (fun hge => ?_)
  · have hi1 : i < (piecesK k.1).length := by omega
    refine el_rd (E := ePc a) (y := pcV a (piecesK k.1)[i]) (val := vval) (by kernel_rfl) (by kernel_rfl) hs rfl hi1 rfl fun _ => ?_
    refine msgtwo_get_calls (msgtwo_get_spec (x := (piecesK k.1)[i]) (piecesK_ok _ _ (List.getElem_mem hi1)) hm hra la6 z19 hl fun es' im' w23 hm' h2' => kp_two h2' (fun e => hb1r (by rw [e])) hb1a (hC hi1 _ _ rfl ⟨⟨es', im', ?_⟩, hs.two h2' (fun e => by have := hsge _ e; omega) (fun e => by have := hsge _ e; omega), h2.trans h2'⟩))
    rw [take_up hi1, rdPcs_app]
    exact hm'
  · rw [take_done (by omega)] at hm
    have hko := (rdPcs_head (l := l) (piecesK k.1) (m0, [], []) t.2.1 t.2.2).1
    generalize rdPcs l (piecesK k.1) (m0, [], []) t.2.1 t.2.2 = q at hm hK hkk
    refine nil_rd rfl (ld_whole_obj (n := 10) (cs := (mk2 q.1.1 es im).cs) (x := mk2 q.1.1 es im) (val := ApiMsg.val) (by kernel_rfl) hm.ho rfl rfl (wr_of fun w26 hw26 => ?_))
    have g19 : w.grownBy w19 (some r.block) := Two.one (y := a.block) (grown_trans (grown_ext hx _) (grown_trans hg4 (grown_ext hx6 _))) (by omega) h2
    have z6 : w.heap.size ≤ w6.heap.size := by have := hx6.size; omega
    refine hK es im is w26 (by rw [hkk]; exact his) ((hm.he.grownB (grown_wr hw26) fun b hb e => by have := hm.he.ge b hb; have := Option.some.inj e; omega).mono z6) ((hm.hi.grownB (grown_wr hw26) fun b hb e => by have := hm.hi.ge b hb; have := Option.some.inj e; omega).mono z6) (hm.hr.wr hw26 (by omega)) (Two.one (y := b1) g19 hb1 (Two.wr hw26))
/-- What bytes are, as a message in V2. -/
structure DecM2 (B : Nat) (w' : World) (l : List UInt8) (r : ApiMsg × Int) : Prop where
  bad : r.2 ≠ 0 → r.1 = zMsg
  good : r.2 = 0 → ∃ es im, r.1 = mk2 (rdM2 l 0 0).1.1 es im ∧ OwnSl eApiEntry w' B es (rdM2 l 0 0).1.2.1 ∧ OwnSl eB w' B im (rdM2 l 0 0).1.2.2 ∧ doneN l (rdM2 l 0 0).2.1 (rdM2 l 0 0).2.2 = 0 ∧ MsgOk r.1 (rdM2 l 0 0).1.2.1 (rdM2 l 0 0).1.2.2.length
  whole : doneN l (rdM2 l 0 0).2.1 (rdM2 l 0 0).2.2 = 0 → (∀ es im, MsgOk (mk2 (rdM2 l 0 0).1.1 es im) (rdM2 l 0 0).1.2.1 (rdM2 l 0 0).1.2.2.length) → r.2 = 0
theorem msgtwo_Decode_spec {K : ApiMsg × Int → World → Prop} (ht : Utf8T w) (hb : IsSl eB w s l) (hl : l.length ≤ 140737488355328) (hK : ∀ r w', DecM2 w.heap.size w' l r → Ext w w' → K r w') : msgtwo_Decode s K w := by
  unfold msgtwo_Decode
  refine new_x (Ext.rfl' w) fun b1 w2 hb1 hl1 hx hn2 => ?_
  refine pack_NewReader_calls (pack_NewReader_spec (hb.ext hx) hl fun d w4 hd hr hx4 => kp_ext hx4 ?_)
  have z2 := (Ext.new hn2).size
  have z4 := hx4.size
  have hx := hx.trans' hx4
  have c4 := hr.lt
  refine msgtwo_read_calls (msgtwo_read_spec hr hl fun es im is w6 his hes him hr6 hg6 => kp_grown hg6 (fun e => by have := Option.some.inj e; omega) ?_)
  have hx := Ext.grown' hx hg6 (by omega)
  have z6 := hg6.size
  generalize hq : rdM2 l 0 0 = q at hes him hr6 his
  refine new_x hx fun b7 w8 hb7 hl7 hx hn8 => wr_x hx hb7 fun w9 hx hw9 => ?_
  have e7 := hn8.1
  have les := hes.lt
  have lim := him.lt
  have hes := (hes.ext (Ext.new hn8)).wrN hw9 les (by omega)
  have him := (him.ext (Ext.new hn8)).wrN hw9 lim (by omega)
  have hr9 := (hr6.ext (Ext.new hn8)).wr hw9 (by omega)
  refine pack_Reader_Err_calls (pack_Reader_Err_spec hr9 (kp_same (kp_same ?_)))
  have B0 : w.heap.size ≤ w4.heap.size := by omega
  have hm : MsgAt w9 (mk2 q.1.1 es im) q.1.2.1 q.1.2.2 := ⟨hes.is, him.is⟩
  have dn : doneN l q.2.1 q.2.2 = 0 → q.2.2 = 0 := fun h => (doneN_0 h).1
  have kd : MsgOk (mk2 q.1.1 es im) q.1.2.1 q.1.2.2.length → is = true := fun h => his.2 h.kind
  refine ⟨fun e u => u = w9 ∧ (e = 0 → q.2.2 = 0 ∧ is = true) ∧ (q.2.2 = 0 → is = true → e = 0), ?_, ?_⟩
  · refine ifEq (fun h0 => ?_) (fun h0 => ⟨rfl, fun h => absurd h h0, fun h _ => absurd h h0⟩)
    exact ifNot (ifB_of (fun h => ⟨rfl, fun _ => ⟨h0, h⟩, fun _ _ => h0⟩) (fun h => ⟨rfl, fun h' => absurd h' (by decide), fun _ h' => by rw [h'] at h; cases h⟩))
  rintro e13 w14 ⟨rfl, g1, g2⟩
  refine ⟨fun e u => Ext w14 u ∧ (e = 0 → doneN l q.2.1 q.2.2 = 0 ∧ is = true) ∧ (doneN l q.2.1 q.2.2 = 0 → is = true → e = 0), ?_, ?_⟩
  · refine ifEq (fun h0 => ?_) (fun h0 => ⟨Ext.rfl' _, fun h => absurd h h0, fun h h' => absurd (g2 (dn h) h') h0⟩)
    exact pack_Reader_Done_calls (done_eq hr9 fun w17 hx17 => kp_ext hx17 (kp_ext hx17 ⟨hx17, fun h => ⟨h, (g1 h0).2⟩, fun h _ => h⟩))
  rintro e18 w19 ⟨hy, g3, g4⟩
  refine ⟨fun e u => Ext w14 u ∧ (e = 0 → doneN l q.2.1 q.2.2 = 0 ∧ MsgOk (mk2 q.1.1 es im) q.1.2.1 q.1.2.2.length) ∧ (doneN l q.2.1 q.2.2 = 0 → MsgOk (mk2 q.1.1 es im) q.1.2.1 q.1.2.2.length → e = 0), ?_, ?_⟩
  · refine ifEq (fun h0 => ?_) (fun h0 => ⟨hy, fun h => absurd h h0, fun h h' => absurd (g4 h (kd h')) h0⟩)
    exact msgone_Check_calls (m := mk2 q.1.1 es im) (msgone_Check_spec (ht.ext (hx.trans' hy)) (hm.ext hy) fun w22 hx' => kp_ext hx' (kp_ext hx' ⟨hy.trans' hx', fun h => ⟨(g3 h0).1, msgE_ok.1 h⟩, fun _ h => msgE_ok.2 h⟩))
  rintro e23 w24 ⟨hy, g5, g6⟩
  have hx24 := hx.trans' hy
  refine ifNe (fun h => wr_x hx24 hb1 fun w25 hx25 _ => hK _ _ ⟨fun _ => rfl, fun h' => absurd h' h, fun h1 h2 => absurd (by rw [hq] at h1 h2; exact g6 h1 (h2 es im)) h⟩ hx25) (fun h => wr_x hx24 hb1 fun w26 hx26 hw26 => hK _ _ ⟨fun h' => absurd rfl h', fun _ => ?_, fun _ _ => rfl⟩ hx26)
  obtain ⟨k1, k2⟩ := g5 h
  have hes := (hes.ext hy).wrO hw26 (by omega)
  have him := (him.ext hy).wrO hw26 (by omega)
  rw [hq]
  exact ⟨es, im, rfl, hes.mono B0, him.mono B0, k1, k2⟩
theorem msg2B_mk2 (m : ApiMsg) (es im : Sl) (xs : List ApiEntry) (img : List UInt8) : msg2B (mk2 m es im) xs img = msg2B m xs img := by
  have : ∀ x, pcB (mk2 m es im) xs img x = pcB m xs img x := fun x => by
    cases x with
    | num off => unfold pcB fldAt; rfl
    | ents => rfl
    | single => rfl
    | image => rfl
  unfold msg2B
  rw [show (mk2 m es im).Kind = m.Kind from rfl, show (mk2 m es im).From = m.From from rfl, show (mk2 m es im).To = m.To from rfl, funext this]
/-- What was decoded has these bytes. -/
theorem DecM2.inv {B : Nat} {w' : World} {r : ApiMsg × Int} (h : DecM2 B w' l r) (h0 : r.2 = 0) : ∃ xs img, OwnSl eApiEntry w' B r.1.Entries xs ∧ OwnSl eB w' B r.1.Image img ∧ MsgOk r.1 xs img.length ∧ l = msg2B r.1 xs img := by
  obtain ⟨es, im, h1, h2, h3, h4, h5⟩ := h.good h0
  obtain ⟨k1, k2⟩ := doneN_0 h4
  obtain ⟨_, t⟩ := rdM2_inv k1
  refine ⟨_, _, by rw [h1]; exact h2, by rw [h1]; exact h3, h5, ?_⟩
  rw [h1, msg2B_mk2]
  exact t.whole k2
/-- What was encoded is decoded as it was. -/
theorem DecM2.took {B : Nat} {w' : World} {r : ApiMsg × Int} (hok : MsgOk m xs img.length) (h : DecM2 B w' (msg2B m xs img) r) : r.2 = 0 ∧ ∃ ys jmg, OwnSl eApiEntry w' B r.1.Entries ys ∧ OwnSl eB w' B r.1.Image jmg ∧ MsgEq r.1 m ys xs jmg img := by
  have hrd := rdM2_took hok
  have h0 : r.2 = 0 := h.whole (by rw [hrd]; exact done_all1 _) (fun es im => by rw [hrd]; exact msgE_ok.1 (show msgE m xs img.length = 0 from msgE_ok.2 hok))
  obtain ⟨es, im, h1, h2, h3, _, _⟩ := h.good h0
  rw [hrd] at h1 h2 h3
  refine ⟨h0, xs, img, by rw [h1]; exact h2, by rw [h1]; exact h3, ?_, rfl, rfl⟩
  rw [h1]
  exact ⟨rfl, rfl, rfl, rfl, rfl, rfl, rfl⟩
end Go.Chg
