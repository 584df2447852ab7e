import Derived.Test.YtnnoalpkldpjfaaGreatDoorMH
/-
  The law of chapter 42 about texts that are read.
-/
set_option maxRecDepth 20000
set_option linter.unusedVariables false
namespace Go.Chg
open Go.Vc
open Go.RowKit (Below)
variable {w : World} {s : List UInt8} {a b : Sl} {l : List ApiEvent}
theorem ref42_Same_spec {K : Bool → World → Prop} (ha : IsSl eApiEvent w a l) (hb : IsSl eApiEvent w b l) (hK : ∀ w', Ext w w' → K true w') : ref42_Same a b K w := by
  unfold ref42_Same
  have h1 := ha.len
  have h2 := hb.len
  have hc := ha.cap
  have hm := ha.max
  refine ifNe (fun h => absurd (show (a.len : Int) = (b.len : Int) by omega) h) (fun _ => ?_)
  refine up1 (fun k v => Ext w v) 0 l.length rfl (Nat.zero_le _) (by omega) (Ext.rfl' _) ?_
  rintro k v C _ hk hx hC
  refine ifD (fun hlt => drew_of fun v4 hx4 => ?_) (fun _ => hK _ hx)
  have hk1 : k < l.length := by omega
  have hx := hx.trans' hx4
  refine st_rd (E := eApiEvent) (by kernel_rfl) (by kernel_rfl) (ha.ext hx) rfl hk1 (fun _ => rfl) fun _ => ?_
  refine st_rd (E := eApiEvent) (by kernel_rfl) (by kernel_rfl) (hb.ext hx) rfl hk1 (fun _ => rfl) fun _ => ?_
  exact neSt (by kernel_rfl) (ApiEvent.eqv l[k] l[k]) (ifB_f (by rw [ApiEvent.eqs_iff.2 rfl]; rfl) (hC hk1 _ _ rfl hx))
/-- The first line end behind a place. -/
theorem upTo_first (c : UInt8) {r : List UInt8} {n : Nat} (hn : ∀ j, j < n → r[j]? ≠ some c) : (r[n]? = some c → upTo c r = r.take n) ∧ (r.length ≤ n → upTo c r = r) := by
  induction r generalizing n with
  | nil => exact ⟨fun h => by simp at h, fun _ => rfl⟩
  | cons x r ih =>
    cases n with
    | zero => exact ⟨fun h => by simp at h; simp [upTo, h], fun h => by simp at h⟩
    | succ n =>
      have hx : x ≠ c := fun e => hn 0 (by omega) (by simp [e])
      obtain ⟨i1, i2⟩ := ih (n := n) fun j hj => by have := hn (j + 1) (by omega); simpa using this
      refine ⟨fun h => ?_, fun h => ?_⟩
      · unfold upTo
        rw [if_neg hx, List.take_succ_cons, i1 (by simpa using h)]
      · unfold upTo
        rw [if_neg hx, i2 (by simp at h; omega)]
end Go.Chg
/-
  The law of chapter 42 about the text of events.
-/
set_option maxRecDepth 20000
set_option linter.unusedVariables false
namespace Go.Chg
open Go.Vc
open Go.RowKit (Below)
variable {w : World} {s x y : List UInt8} {a : Addr} {t : Sl} {l : List ApiEvent} {e : ApiEvent}
/-! ### No line end within a line -/
theorem quoteL_hi (l : List UInt8) : ∀ y ∈ quoteL l, 32 ≤ y.toNat := by
  by_cases h : l = []
  · subst h; rw [quoteL_nil]; intro y hy; cases hy
  · have hs := uStep_pos l
    have hl := List.length_pos_iff.2 h
    have ih := quoteL_hi (l.drop (uStep l).2)
    rw [quoteL_on h]
    intro y hy
    rcases List.mem_append.1 hy with hy | hy
    · rcases qItem_cases h with ⟨h1, h2⟩ | ⟨c, r, rfl, h1, ⟨h2, h3⟩ | h3⟩
      · rw [h1] at hy
        exact (h2 y hy).2.2
      · rw [h3] at hy
        simp only [List.mem_cons, List.not_mem_nil, or_false] at hy
        rcases hy with rfl | rfl
        · decide
        · rcases h2 with rfl | rfl <;> decide
      · rw [h3] at hy
        have key : ∀ m : Fin 16, 32 ≤ (dig m.val).toNat := by decide +kernel
        have hlt := c.toNat_lt
        simp only [List.mem_cons, List.not_mem_nil, or_false] at hy
        rcases hy with rfl | rfl | rfl | rfl
        · decide
        · decide
        · exact key ⟨c.toNat / 16, by omega⟩
        · exact key ⟨c.toNat % 16, by omega⟩
    · exact ih y hy
termination_by l.length
decreasing_by
  rw [List.length_drop]; omega
theorem wordOk_hi (h : wordOk x = true) : ∀ y ∈ x, 32 ≤ y.toNat := by
  unfold wordOk at h
  split at h
  · cases h
  · split at h
    · obtain ⟨o, ho⟩ := Option.isSome_iff_exists.1 h
      rw [← unquote_some ho]
      intro y hy
      unfold quote at hy
      simp only [List.cons_append, List.mem_cons, List.mem_append, List.not_mem_nil, or_false] at hy
      rcases hy with rfl | hy | rfl
      · decide
      · exact quoteL_hi o y hy
      · decide
    · intro y hy
      have := List.all_eq_true.1 h y hy
      rw [decide_eq_true_eq] at this
      omega
theorem lineE_hi (h : EvOk e) : ∀ y ∈ lineE e, y ≠ 10 := by
  have hw := wordsE_ok h.1
  unfold lineE
  have e1 : wordsE e = (kEv e.Kind).name :: (numsW e ++ cmdW e) := rfl
  rw [e1] at hw ⊢
  rw [join_sp]
  intro y hy e10
  subst e10
  rcases List.mem_append.1 hy with hy | hy
  · exact absurd (wordOk_hi (hw _ (by simp)) _ hy) (by decide)
  · obtain ⟨z, hz, hy⟩ := List.mem_flatMap.1 hy
    unfold sp at hy
    rcases List.mem_cons.1 hy with hy | hy
    · exact absurd hy (by decide)
    · exact absurd (wordOk_hi (hw z (List.mem_cons_of_mem _ hz)) _ hy) (by decide)
theorem lineE_head (h : EvOk e) : (lineE e).head? ≠ some 35 := by
  rw [lineE_parts h]
  obtain ⟨h1, h2⟩ := h.1
  obtain ⟨m, hm⟩ := Int.eq_ofNat_of_zero_le (show 0 ≤ e.Kind by omega)
  have key : ∀ m : Fin 12, 1 ≤ m.val → (evAt m.val).name ≠ [] ∧ (evAt m.val).name.head? ≠ some 35 := by decide +kernel
  have := key ⟨m, by omega⟩ (by show 1 ≤ m; omega)
  rw [hm, kEv_in (by omega) (by omega)]
  simp only [List.append_assoc]
  cases hn : (evAt m).name with
  | nil => exact absurd hn this.1
  | cons c r =>
    rw [hn] at this
    exact this.2
/-! ### The text of events, with lines between -/
def blkE (m : Int) (e : ApiEvent) : List UInt8 := (if m = 1 then [35, 32] ++ lineE e ++ [10] else []) ++ lineE e ++ [10] ++ (if m = 2 then [10] else [])
def lnsE (m : Int) (e : ApiEvent) : List (List UInt8) := (if m = 1 then [[35, 32] ++ lineE e ++ [10]] else []) ++ [lineE e ++ [10]] ++ (if m = 2 then [[10]] else [])
def textE (l : List ApiEvent) : List UInt8 := l.flatMap fun e => lineE e ++ [10]
theorem linesL_app {r : List UInt8} (h : ∀ y ∈ x, y ≠ 10) : linesL (x ++ [10] ++ r) = (x ++ [10]) :: linesL r := by
  have hu : upTo 10 (x ++ [10] ++ r) = x := by
    rw [List.append_assoc]
    exact upTo_clean 10 h (.inr ⟨r, rfl⟩)
  have hN : lineN (x ++ [10] ++ r) = x.length + 1 := by
    unfold lineN
    rw [hu, if_pos (by simp)]
  have hl : (x ++ [10]).length = x.length + 1 := by simp
  rw [linesL_cons (by simp), hN, ← hl, List.take_left, List.drop_left]
theorem linesL_blk (m : Int) : ∀ {l : List ApiEvent}, (∀ e ∈ l, EvOk e) → linesL (l.flatMap (blkE m)) = l.flatMap (lnsE m)
  | [], _ => rfl
  | e :: l, h => by
    have he := lineE_hi (h e (by simp))
    have ih := linesL_blk m fun z hz => h z (List.mem_cons_of_mem _ hz)
    have h35 : ∀ y ∈ [35, 32] ++ lineE e, y ≠ 10 := fun y hy => by
      simp only [List.cons_append, List.nil_append, List.mem_cons] at hy
      rcases hy with rfl | rfl | hy
      · decide
      · decide
      · exact he y hy
    have hnil : ∀ {r : List UInt8}, linesL ([10] ++ r) = [10] :: linesL r := fun {r} => linesL_app (x := []) (fun y hy => by cases hy)
    rw [List.flatMap_cons, List.flatMap_cons]
    generalize hB : l.flatMap (blkE m) = B at ih ⊢
    generalize hL : l.flatMap (lnsE m) = L at ih ⊢
    unfold blkE lnsE
    by_cases m1 : m = 1
    · have m2 : ¬ m = 2 := by omega
      rw [if_pos m1, if_neg m2, if_pos m1, if_neg m2]
      simp only [List.append_nil]
      rw [show [35, 32] ++ lineE e ++ [10] ++ lineE e ++ [10] ++ B = ([35, 32] ++ lineE e) ++ [10] ++ (lineE e ++ [10] ++ B) from by simp, linesL_app h35, linesL_app he, ih]
      rfl
    · rw [if_neg m1, if_neg m1]
      by_cases m2 : m = 2
      · rw [if_pos m2, if_pos m2]
        simp only [List.nil_append]
        rw [List.append_assoc (lineE e ++ [10]), linesL_app he, hnil, ih]
        rfl
      · rw [if_neg m2, if_neg m2]
        simp only [List.nil_append, List.append_nil]
        rw [linesL_app he, ih]
        rfl
theorem upTo_line (h : ∀ y ∈ x, y ≠ 10) : upTo 10 (x ++ [10]) = x := upTo_clean 10 h (.inr ⟨[], rfl⟩)
theorem cls_note (h : EvOk e) : cls ([35, 32] ++ lineE e ++ [10]) = some none := by
  have h35 : ∀ y ∈ [35, 32] ++ lineE e, y ≠ 10 := fun y hy => by
    simp only [List.cons_append, List.nil_append, List.mem_cons] at hy
    rcases hy with rfl | rfl | hy
    · decide
    · decide
    · exact lineE_hi h y hy
  refine cls_skip ?_
  unfold skipL
  rw [upTo_line h35]
  simp
theorem cls_empty : cls [10] = some none := by
  refine cls_skip ?_
  unfold skipL
  rw [show upTo 10 [10] = [] from rfl]
  rfl
theorem cls_line (h : EvOk e) : ∃ e', cls (lineE e ++ [10]) = some (some e') := by
  have hu := upTo_line (lineE_hi h)
  have hs : skipL (lineE e ++ [10]) = false := by
    unfold skipL
    rw [hu, decide_eq_false (lineE_ne h), decide_eq_false (lineE_head h)]
    simp
  unfold cls
  rw [if_neg (by rw [hs]; decide), if_pos (by rw [hu]; simp), hu]
  have hex : ∃ e', EvOk e' ∧ lineE e' = lineE e := ⟨e, h, rfl⟩
  refine ⟨hex.choose, ?_⟩
  unfold parseE
  rw [dif_pos hex]
  rfl
theorem lns_fine {m : Int} (h : ∀ e ∈ l, EvOk e) : fine (l.flatMap (lnsE m)) := by
  intro y hy
  obtain ⟨e, he, hy⟩ := List.mem_flatMap.1 hy
  have ho := h e he
  unfold lnsE at hy
  rcases List.mem_append.1 hy with hy | hy
  · rcases List.mem_append.1 hy with hy | hy
    · split at hy
      · rw [List.mem_singleton] at hy; subst hy; rw [cls_note ho]; simp
      · cases hy
    · rw [List.mem_singleton] at hy
      subst hy
      obtain ⟨e', h'⟩ := cls_line ho
      rw [h']; simp
  · split at hy
    · rw [List.mem_singleton] at hy; subst hy; rw [cls_empty]; simp
    · cases hy
theorem lns_evs {m : Int} : ∀ {l : List ApiEvent}, (∀ e ∈ l, EvOk e) → (∀ e ∈ l, cls (lineE e ++ [10]) = some (some e)) → evsOf (l.flatMap (lnsE m)) = l
  | [], _, _ => rfl
  | e :: l, h, hc => by
    rw [List.flatMap_cons, evsOf_app, lns_evs (fun z hz => h z (List.mem_cons_of_mem _ hz)) (fun z hz => hc z (List.mem_cons_of_mem _ hz))]
    have h1 := cls_note (h e (by simp))
    have h2 := hc e (by simp)
    have h3 := cls_empty
    have : evsOf (lnsE m e) = [e] := by
      have h1 : cls (35 :: 32 :: (lineE e ++ [10])) = some none := by simpa using h1
      unfold lnsE evsOf
      split <;> split <;> simp [List.filterMap_cons, h1, h2, h3]
    rw [this]
    rfl
theorem lns_self {m : Int} (h : ∀ e ∈ l, EvOk e) (hu : UQs (l.flatMap (lnsE m))) : ∀ e ∈ l, cls (lineE e ++ [10]) = some (some e) := by
  intro e he
  obtain ⟨e', h'⟩ := cls_line (h e he)
  have := hu (lineE e ++ [10]) (List.mem_flatMap.2 ⟨e, he, by unfold lnsE; simp⟩) e' h' e (h e he) (upTo_line (lineE_hi (h e he))).symm
  rw [h', this]
theorem blk_text {m : Int} (h1 : ¬ m = 1) (h2 : ¬ m = 2) : l.flatMap (blkE m) = textE l := by
  unfold textE
  congr 1
  funext e
  unfold blkE
  rw [if_neg h1, if_neg h2]
  simp
theorem blk_len {m : Int} (h : EvOk e) : (blkE m e).length ≤ 6010 := by
  have := lineE_len h
  unfold blkE
  split <;> split <;> simp <;> omega
theorem blks_len {m : Int} : ∀ {l : List ApiEvent}, (∀ e ∈ l, EvOk e) → (l.flatMap (blkE m)).length ≤ 6010 * l.length
  | [], _ => Nat.le_refl _
  | e :: l, h => by
    have := blk_len (m := m) (h e (by simp))
    have := blks_len (m := m) fun z hz => h z (List.mem_cons_of_mem _ hz)
    simp only [List.flatMap_cons, List.length_append, List.length_cons]
    omega
/-! ### script.Text -/
theorem Builder_String0 {K : List UInt8 → World → Prop} {T : TypeId} (h : ObjT w a T [.pointer none, Sl.nil.val]) (hK : ∀ w', Ext w w' → K [] w') : strings_Builder_String (some a) K w := by
  unfold strings_Builder_String
  refine heldM_of (fun w' => Vc.Obj w' a [.pointer none, Sl.nil.val]) fun w1 hx1 => ⟨(h.ext hx1).obj, ?_⟩
  refine opH_of a (fun w' _ => nil_rd rfl rfl) (opH_of Sl.nil (fun w' hw => ld_obj (by kernel_rfl) hw rfl rfl) ?_)
  refine ⟨none, fun w' _ => rfl, ?_⟩
  refine opH_of a (fun w' _ => nil_rd rfl rfl) (opH_of Sl.nil (fun w' hw => ld_obj (by kernel_rfl) hw rfl rfl) ?_)
  exact ⟨[], w1, rfl, (h.ext hx1).obj, hK _ hx1⟩
theorem textE_ne : l ≠ [] → textE l ≠ [] := by
  cases l with
  | nil => exact fun h => absurd rfl h
  | cons e l => intro _ h; simp [textE] at h
theorem script_Text_spec {K : List UInt8 × Int → World → Prop} (hU : Utf8T w) (hC : ConvT w) (hs : IsSl eApiEvent w t l) (hn : l.length ≤ 1000) (hK : ∀ r w', (r = (textE l, 0) ∧ (∀ e ∈ l, EvOk e) ∨ r = ([], 3) ∧ ∃ e ∈ l, ¬ EvOk e) → Ext w w' → K r w') : script_Text t K w := by
  unfold script_Text
  have hl := hs.len
  refine alloc_tyT (z := .agg ⟨[.pointer none, Sl.nil.val]⟩) (by kernel_rfl) fun a w2 ha hx ho => ?_
  have ho := ho.ty (T' := tid_bld) (by kernel_rfl)
  have la := ho.obj.lt
  refine up1 (fun k v => Ext w v ∧ w2.heap.size ≤ v.heap.size ∧ (∃ n, Bld v a n (textE (l.take k))) ∧ (k = 0 → ObjT v a tid_bld [.pointer none, Sl.nil.val]) ∧ (∀ e ∈ l.take k, EvOk e)) 0 l.length rfl (Nat.zero_le _) (by omega) ⟨hx, Nat.le_refl _, ⟨a.block, Bld.zero ho⟩, fun _ => ho, fun e he => by simp at he⟩ ?_
  rintro k v C _ hk ⟨hx, hz, ⟨n, hb⟩, h0, hok⟩ hCC
  refine ifD (fun hlt => ?_) (fun hge => ?_)
  rotate_left
  · have hkl : k = l.length := by omega
    subst hkl
    rw [List.take_length] at hb hok
    by_cases hl0 : l = []
    · subst hl0
      exact strings_Builder_String_calls (b := some a) (Builder_String0 (h0 rfl) fun w' hx' => hK _ _ (.inl ⟨rfl, hok⟩) (hx.trans' hx'))
    · exact strings_Builder_String_calls (b := some a) (Builder_String_spec hb (textE_ne hl0) fun w' hb' => hK _ _ (.inl ⟨rfl, hok⟩) (hx.below hb' (by omega)))
  have hk1 : k < l.length := by omega
  refine st_rd (E := eApiEvent) (by kernel_rfl) (by kernel_rfl) (hs.ext hx) rfl hk1 (fun _ => rfl) fun _ => ?_
  refine new_x hx fun b8 w9 h8 l8 hx9 n8 => wr_x hx9 h8 fun w10 hx10 hw10 => ?_
  have e8 : v.heap.size = b8 := n8.1.symm
  have hb := hb.track (m := b8) (Nat.le_of_eq e8)
  have nb : b8 ≠ a.block := by have := hb.lt; omega
  have hb := (hb.ext (Ext.new n8)).wr hw10 nb
  have z10 := hw10.size
  refine script_Print_calls (e := l[k]) (script_Print_spec (hU.ext hx10) (hC.ext hx10) fun p w12 hp hx12 => kp_ext hx12 ?_)
  have hb := hb.ext hx12
  have hx12w := hx10.trans' hx12
  have z12 := hx12.size
  rw [strEq_eq]
  rcases hp with ⟨hev, rfl⟩ | ⟨hev, rfl⟩
  · refine ifD (fun h => absurd h (lineE_ne hev)) (fun _ => ?_)
    have hlen := lineE_len hev
    refine cat_str (by simp only [List.length_singleton]; omega) ?_
    have htl : (textE (l.take k)).length ≤ 6010000 := by
      have := blks_len (m := 0) hok
      rw [blk_text (by decide) (by decide), List.length_take] at this
      omega
    refine strings_Builder_WriteString_calls (b := some a) (WriteString_spec hb (by omega) (by simp only [List.length_append, List.length_singleton]; omega) fun w15 hb15 hup => ?_)
    refine kp_of (hup.it nb (by omega)) (hCC hk1 _ _ rfl ⟨hx12w.below hup.low (by omega), by have := hup.size; omega, ⟨b8, ?_⟩, fun h => by omega, fun e he => ?_⟩)
    · have e1 : textE (l.take (k + 1)) = textE (l.take k) ++ (lineE l[k] ++ [10]) := by
        unfold textE
        rw [List.take_add_one, List.getElem?_eq_getElem hk1, List.flatMap_append, Option.toList_some, List.flatMap_singleton]
      rw [e1]
      exact hb15
    · rw [List.take_add_one, List.getElem?_eq_getElem hk1, List.mem_append] at he
      rcases he with he | he
      · exact hok e he
      · simp only [Option.toList_some, List.mem_singleton] at he
        subst he
        exact hev
  · exact ifD (fun _ => hK _ _ (.inr ⟨rfl, l[k], List.getElem_mem hk1, hev⟩) hx12w) (fun h => absurd rfl h)
/-! ### The law -/
theorem law42_ScriptTexts_spec {n : Int} {K : Bool → World → Prop} (hU : Utf8T w) (hC : ConvT w) (hE : ErrT w) (hs : IsSl eApiEvent w t l) (hK : ∀ w', Ext w w' → K true w') : law42_ScriptTexts t n K w := by
  unfold law42_ScriptTexts
  have hl := hs.len
  have aw : ∀ {u : World} {X : Bool → World → Prop}, Ext w u → (∀ w', Ext u w' → X true w') → callV Pr Value.bool fid_law42_awake #[] u X := fun hx h => law42_awake_calls (law42_awake_spec (hU.ext hx) (hC.ext hx) (hE.ext hx) h)
  refine ref41_Large_calls (ref41_Large_spec hs fun b _ => ?_)
  refine ifB_of (fun _ => aw (Ext.rfl' w) hK) (fun _ => ?_)
  refine ifD (fun _ => aw (Ext.rfl' w) hK) (fun h60 => ?_)
  have h60 : l.length ≤ 60 := by omega
  refine script_Text_calls (script_Text_spec hU hC hs (by omega) fun r w8 hr hx8 => ?_)
  obtain ⟨m, hm⟩ : ∃ m, m = Int.tmod n 4 := ⟨_, rfl⟩
  rw [← hm]
  refine ⟨fun want i v => ∃ k : Nat, i = (k : Int) ∧ k ≤ l.length ∧ Ext w v ∧ want = (l.take k).flatMap (blkE m) ∧ ∀ e ∈ l.take k, EvOk e, fun _ i _ => (l.length - i).toNat, ⟨0, rfl, Nat.zero_le _, hx8, rfl, fun e he => by simp at he⟩, ?_⟩
  rintro want i v ⟨k, rfl, hk, hx, rfl, hok⟩
  have wl := blks_len (m := m) hok
  rw [List.length_take] at wl
  refine ifD (fun hlt => ?_) (fun hge => ?_)
  rotate_left
  · -- behind all events
    have hkl : k = l.length := by omega
    subst hkl
    rw [List.take_length] at hok ⊢
    rw [List.take_length] at wl
    rcases hr with ⟨rfl, _⟩ | ⟨_, e, he, hne⟩
    rotate_left
    · exact absurd (hok e he) hne
    have hlines := linesL_blk m hok
    refine script_Read_calls (script_Read_spec (hU.ext hx) (hC.ext hx) (hE.ext hx) (by omega) (fun y hy => ?_) fun r2 w37 hr2 hx37 => ?_)
    · rw [hlines] at hy
      obtain ⟨e, he, hy⟩ := List.mem_flatMap.1 hy
      have := lineE_len (hok e he)
      unfold lnsE at hy
      rcases List.mem_append.1 hy with hy | hy
      · rcases List.mem_append.1 hy with hy | hy
        · split at hy
          · rw [List.mem_singleton] at hy; subst hy; simp; omega
          · cases hy
        · rw [List.mem_singleton] at hy; subst hy; simp; omega
      · split at hy
        · rw [List.mem_singleton] at hy; subst hy; simp
        · cases hy
    unfold ReadR at hr2
    have hbad := badAt_fine (r := []) (n := 0) (lns_fine (m := m) hok)
    rw [List.append_nil] at hbad
    rw [hlines, hbad] at hr2
    obtain ⟨h1, h2, _, h4⟩ := hr2
    rw [lns_evs hok (lns_self hok h4)] at h2
    have hx' := hx.trans' hx37
    rw [h1]
    have fin : ∀ {X : Prop}, (ifB ((0 : Int) == 0) (ifB ((0 : Int) == 0) (callV Pr Value.bool fid_ref42_Same #[r2.1.val, t.val] w37 fun t38 w39 => ifB t38 (callV Pr Value.bool fid_law42_awake #[] w39 fun t40 w41 => K t40 w41) (K false w39)) (K false w37)) (K false w37)) := fun {X} =>
      ifEq (fun _ => ifEq (fun _ => ref42_Same_calls (ref42_Same_spec h2 (hs.ext hx') fun w39 hx39 => ifB_t rfl (aw (hx'.trans' hx39) fun w' hx'' => hK _ ((hx'.trans' hx39).trans' hx'')))) (fun h => absurd rfl h)) (fun h => absurd rfl h)
    refine ifEq (fun _ => ?_) (fun h => absurd rfl h)
    refine ifEq (fun _ => fin (X := True)) (fun m1 => ifEq (fun _ => fin (X := True)) (fun m2 => ?_))
    rw [blk_text m1 m2, strEq_eq]
    exact ifD (fun _ => fin (X := True)) (fun h => absurd rfl h)
  have hk1 : k < l.length := by omega
  have i1 : i64 ((k : Int) + 1) = ((k + 1 : Nat) : Int) := by rw [i64_id] <;> omega
  refine st_rd (E := eApiEvent) (by kernel_rfl) (by kernel_rfl) (hs.ext hx) rfl hk1 (fun _ => rfl) fun _ => ?_
  refine ref42_Check_calls (e := l[k]) (ref42_Check_spec fun ok w16 hc hx16 => ?_)
  have hx := hx.trans' hx16
  refine ifNot (ifB_of (fun hokk => ?_) (fun hno => ?_))
  rotate_left
  · have hne : ¬ EvOk l[k] := fun h => by rw [hc.2 h] at hno; cases hno
    rcases hr with ⟨rfl, h⟩ | ⟨rfl, _⟩
    · exact absurd (h _ (List.getElem_mem hk1)) hne
    · rw [strEq_eq]
      exact ifD (fun _ => ifEq (fun _ => aw hx fun w' hx' => hK _ (hx.trans' hx')) (fun h => absurd rfl h)) (fun h => absurd rfl h)
  have hev := hc.1 hokk
  have llen := lineE_len hev
  refine ⟨fun z u => Ext w u ∧ z = (l.take k).flatMap (blkE m) ++ (if m = 1 then [35, 32] ++ lineE l[k] ++ [10] else []), ?_, ?_⟩
  · refine ifEq (fun m1 => ?_) (fun m1 => ⟨hx, by rw [if_neg m1]; simp⟩)
    refine cat_str (by simp only [List.length_cons, List.length_nil]; omega) ?_
    refine st_rd (E := eApiEvent) (by kernel_rfl) (by kernel_rfl) (hs.ext hx) rfl hk1 (fun _ => rfl) fun _ => ?_
    refine ref42_Print_calls (e := l[k]) (ref42_Print_spec hev fun w24 hx24 => ?_)
    refine cat_str (by simp only [List.length_append, List.length_cons, List.length_nil]; omega) ?_
    refine cat_str (by simp only [List.length_append, List.length_cons, List.length_nil]; omega) ⟨hx.trans' hx24, ?_⟩
    rw [if_pos m1]
    simp
  rintro z w28 ⟨hx, hz⟩
  have zl : z.length ≤ 400000 := by
    rw [hz]
    split
    · simp only [List.length_append, List.length_cons, List.length_nil]; omega
    · simp only [List.length_append, List.length_nil]; omega
  refine st_rd (E := eApiEvent) (by kernel_rfl) (by kernel_rfl) (hs.ext hx) rfl hk1 (fun _ => rfl) fun _ => ?_
  refine ref42_Print_calls (e := l[k]) (ref42_Print_spec hev fun w32 hx32 => ?_)
  have hx := hx.trans' hx32
  have next : ∀ {z' : List UInt8}, z' = (l.take k).flatMap (blkE m) ++ blkE m l[k] → (∃ k' : Nat, i64 ((k : Int) + 1) = (k' : Int) ∧ k' ≤ l.length ∧ Ext w w32 ∧ z' = (l.take k').flatMap (blkE m) ∧ ∀ e ∈ l.take k', EvOk e) ∧ ((l.length : Int) - i64 ((k : Int) + 1)).toNat < ((l.length : Int) - (k : Int)).toNat := fun {z'} hz' =>
    ⟨⟨k + 1, i1, by omega, hx, by rw [hz', List.take_add_one, List.getElem?_eq_getElem hk1, List.flatMap_append, Option.toList_some, List.flatMap_singleton], fun e he => by
      rw [List.take_add_one, List.getElem?_eq_getElem hk1, List.mem_append] at he
      rcases he with he | he
      · exact hok e he
      · simp only [Option.toList_some, List.mem_singleton] at he
        subst he
        exact hev⟩, by rw [i1]; omega⟩
  refine cat_str (by omega) ?_
  refine cat_str (by simp only [List.length_append, List.length_cons, List.length_nil]; omega) ?_
  refine ifEq (fun m2 => ?_) (fun m2 => next ?_)
  · refine cat_str (by simp only [List.length_append, List.length_cons, List.length_nil]; omega) (next ?_)
    rw [hz]
    unfold blkE
    rw [if_pos m2]
    simp
  · rw [hz]
    unfold blkE
    rw [if_neg m2]
    simp
end Go.Chg
