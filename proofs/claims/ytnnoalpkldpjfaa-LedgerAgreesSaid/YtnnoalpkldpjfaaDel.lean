/-
  slices.IndexFunc and slices.DeleteFunc, told: of whatever program.
-/
import Derived.Test.YtnnoalpkldpjfaaStd2
import Derived.Test.YtnnoalpkldpjfaaEase
namespace Go.Vc
variable {α : Type} {P : Program} {w : World}
theorem shrink_vc {E : Enc α} {t : TypeId} (by_ : Nat) {zv : Value} {B : Nat} {s : Sl} {l : List α} {i : Int} (k : Nat) {K : Sl → World → Prop} (ht : appOk P t (elemT P t) E.sz by_ = true) (hsl : slOf P t = some E.sz)
    (hzv : (P.info? (elemT P t)).bind (·.zero) = some zv) (hz1 : zv.cells.toList.all Value.oneCell' = true) (hi : i = (k : Int)) (hk : k ≤ l.length) (hne : l ≠ []) (hs : OwnSl E w B s l)
    (hK : ∀ s' w', OwnSl E w' B s' (l.take k) → w.grownBy w' s.blk → s'.blk = s.blk → K s' w') :
    opRd P (Instr.sliceAt t s.val (some (.int .i64 i)) none none) Sl.val (fun t16 => opTy P (Builtin.clear_ #[t] 0 #[t16.val]) uval (fun _ w18 => opRd P (Instr.sliceAt t s.val none (some (.int .i64 i)) none) Sl.val (fun t19 => K t19 w18) w18) w) w := by
  subst hi
  obtain ⟨hu, inf, zv', hinf, hsz, hb', hzv', hzs⟩ := appOk_spec ht
  have hzz : zv' = zv := by rw [hinf] at hzv; simp only [Option.bind_some] at hzv; rw [hzv'] at hzv; exact Option.some.inj hzv
  subst hzz
  have hlen := hs.len
  have hcap := hs.is.cap
  rcases hs.row with ⟨h0, h1⟩ | ⟨gs, cur, ha, hBg, hr, hl, hc, hmx, hcl, htk⟩
  · exact absurd h1 hne
  have hblk : s.blk = some gs := by simp [Sl.blk, ha]
  have hpos := List.length_pos_iff.2 hne
  have hp := E.pos
  refine ⟨s.sub k s.len E.sz, run_sub_l hsl rfl (by omega), ?_⟩
  have e19 : s.sub 0 k E.sz = ⟨some ⟨gs, 0, none⟩, k, s.cap⟩ := by
    have h := Sl.sub_at (i := 0) (j := k) (z := E.sz) ha (by omega)
    rw [Nat.zero_mul] at h
    have : s.sub 0 k E.sz = ⟨(s.sub 0 k E.sz).a, k, s.cap⟩ := by simp [Sl.sub]
    rw [this, h]
  have fin : ∀ {w' : World} {cur' : List Value}, RowAt w' gs cur' → cur'.length = cur.length → cur'.take (k * E.sz) = cur.take (k * E.sz) → w.grownBy w' (some gs) →
      opRd P (Instr.sliceAt t s.val none (some (.int .i64 (k : Int))) none) Sl.val (fun t19 => K t19 w') w' := fun {w' cur'} hr' hl' ht' hg => by
    refine ⟨s.sub 0 k E.sz, run_sub_h hsl rfl (by omega), hK _ _ ?_ (by rw [hblk]; exact hg) (Sl.sub_blk ..)⟩
    rw [e19]
    have hltk : (l.take k).length = k := by rw [List.length_take, Nat.min_eq_left hk]
    refine OwnSl.of_row rfl hBg hr' hltk.symm (by dsimp only; omega) hmx (by rw [hl', hcl]) ?_
    rw [hltk, ht', E.flat_take, ← htk, List.take_take, Nat.min_eq_left (Nat.mul_le_mul_right _ hk)]
  have hbl : (s.sub k s.len E.sz).blk = some gs := by rw [Sl.sub_blk, hblk]
  by_cases hkl : k = s.len
  · refine ⟨(), w, ?_, fin hr rfl rfl (grown_refl _ _)⟩
    subst hkl
    have e0 : (s.sub s.len s.len E.sz).val = .slice (s.sub s.len s.len E.sz).a 0 (s.cap - s.len) := by simp [Sl.sub, Sl.val]
    rw [e0]
    unfold Builtin.clear_
    simp only [List.getElem?_toArray, List.getElem?_cons_zero]
    rw [Sem.run_bind, run_und hu, Result.andThen_ok]
    cases (s.sub s.len s.len E.sz).a <;> simp [uval]
  · have hA := Sl.sub_at (s := s) (i := k) (j := s.len) (z := E.sz) ha (by omega)
    rw [Nat.zero_add] at hA
    have e8 : (s.sub k s.len E.sz).val = .slice (some ⟨gs, k * E.sz, none⟩) (s.len - k) (s.cap - k) := by
      unfold Sl.val
      rw [hA]
      rfl
    have hzl : (Builtin.zeroCells zv'.cells (s.len - k)).toList.length = (s.len - k) * E.sz := by rw [Array.length_toList, size_zeroCells, hzs]
    have hfit2 : k * E.sz + 0 + (Builtin.zeroCells zv'.cells (s.len - k)).toList.length ≤ cur.length := by
      rw [hzl, hcl, Nat.add_zero, ← Nat.add_mul]
      exact Nat.mul_le_mul_right _ (by omega)
    obtain ⟨w4, r1, r2, r3⟩ := hr.store (P := P) hfit2 (zero_one hz1 (by rw [hzs]; exact hp))
    show opTy P (Builtin.clear_ #[t] 0 #[(s.sub k s.len E.sz).val]) uval _ _
    rw [e8]
    refine ⟨(), w4, ?_, fin r3 (lay_len hfit2) (lay_take (by simpa using hfit2) (by omega)) (grown_wr r2)⟩
    obtain ⟨q, hq⟩ : ∃ q, s.len - k = q + 1 := ⟨s.len - k - 1, by omega⟩
    rw [hq] at r1 ⊢
    unfold Builtin.clear_
    simp only [List.getElem?_toArray, List.getElem?_cons_zero]
    rw [Sem.run_bind, run_und hu, Result.andThen_ok]
    simp [zeroValue, typeInfo, hinf, hzv', r1, uval]
/-- slices.IndexFunc, told. -/
theorem index_vc {E : Enc α} {t u g : Nat} {val : α → Value} {args : α → Array Value} {x : Sl} {l : List α} (p : α → Bool) {K : Int → World → Prop} (ht : slOf P t = some E.sz) (hu : agT P u = some E.sz) (hv : ∀ y, val y = .agg ⟨E.cs y⟩) (hx : IsSl E w x l)
    (hcall : ∀ y ∈ l, ∀ (w' : World) (K' : Bool → World → Prop), Ext w w' → (∀ w'', Ext w' w'' → K' (p y) w'') → callV P Value.bool g (args y) w' K')
    (hnone : ∀ w', (∀ y ∈ l, p y = false) → Ext w w' → K (-1) w')
    (hsome : ∀ w' (k : Nat) (hk : k < l.length), p l[k] = true → (∀ y ∈ l.take k, p y = false) → Ext w w' → K (k : Int) w') :
    loop1 (0 : Int) (fun t1 k2 w3 =>
      ifB (decide (t1 < (x.len : Int)))
      (opRd P (Instr.indexAt t x.val (.int .i64 t1)) pav (fun t4 =>
      opRd P (Instr.loadAt u (.pointer (some t4))) val (fun t5 =>
      callV P Value.bool g (args t5) w3 fun t6 w7 =>
      ifB t6
      (K t1 w7)
      (k2 (i64 (t1 + 1)) w7)) w3) w3)
      (K (-1) w3)) w := by
  have hl := hx.len
  have hle := hx.le
  refine up1 (fun k w' => Ext w w' ∧ ∀ y ∈ l.take k, p y = false) 0 l.length rfl (by omega) hle ⟨Ext.rfl' _, by simp⟩ ?_
  rintro k w1 C _ hk ⟨hx1, hall⟩ hC
  refine ifD (fun hlt => ?_) (fun hge => hnone _ (all_done (by omega) hall) hx1)
  have hk1 : k < l.length := by omega
  refine st_rd ht hu (hx.ext hx1) rfl hk1 hv fun _ => ?_
  refine hcall _ (List.getElem_mem _) _ _ hx1 fun w2 hx2 => ?_
  exact ifB_of (fun hb => hsome _ k hk1 hb hall (hx1.trans' hx2)) (fun hb => hC hk1 _ _ rfl ⟨hx1.trans' hx2, all_up hk1 hall hb⟩)
theorem take_set_up {cur : List α} {a : Nat} (ha : a < cur.length) (x : α) : (cur.set a x).take (a + 1) = cur.take a ++ [x] := by
  rw [List.set_eq_take_append_cons_drop, if_pos ha]
  have h : (cur.take a).length = a := by rw [List.length_take]; omega
  rw [List.take_append, h, Nat.add_sub_cancel_left, List.take_of_length_le (by omega)]
  simp
theorem drop_set_lt {cur : List α} {a b : Nat} (h : a < b) (x : α) : (cur.set a x).drop b = cur.drop b := by
  rw [List.drop_set, if_pos h]
/-- The loop of slices.DeleteFunc, told. -/
theorem deleteF_vc {E : Enc α} {t u g : Nat} {val stv : α → Value} {args : α → Array Value} {s : Sl} {l : List α} {B : Nat} (by_ : Nat) {zv : Value} (p : α → Bool) (k0 : Nat) {K : Sl → World → Prop} (hap : appOk P t (elemT P t) E.sz by_ = true) (ht : slOf P t = some E.sz) (hu : agT P u = some E.sz) (hsz : sizeT P u = some E.sz)
    (hzv : (P.info? (elemT P t)).bind (·.zero) = some zv) (hz1 : zv.cells.toList.all Value.oneCell' = true) (hv : ∀ y, val y = .agg ⟨E.cs y⟩) (hst : ∀ y, (stv y).cells.toList = E.cs y) (hs : OwnSl E w B s l) (hk0 : k0 < l.length) (hp0 : p l[k0] = true) (hpre : ∀ y ∈ l.take k0, p y = false)
    (hcall : ∀ y ∈ l, ∀ (w' : World) (K' : Bool → World → Prop), w.grownBy w' s.blk → (∀ w'', Ext w' w'' → K' (p y) w'') → callV P Value.bool g (args y) w' K')
    (hK : ∀ s' w', OwnSl E w' B s' (l.filter fun y => !p y) → w.grownBy w' s.blk → s'.blk = s.blk → K s' w') :
    loop2 (k0 : Int) (i64 ((k0 : Int) + 1) : Int) (fun i3 j4 k5 w6 =>
      ifB (decide (j4 < (s.len : Int)))
      (opRd P (Instr.indexAt t s.val (.int .i64 j4)) pav (fun t7 =>
      opRd P (Instr.loadAt u (.pointer (some t7))) val (fun t8 =>
      newV (fun b9 w10 =>
      wrM b9 (fun w11 =>
      callV P Value.bool g (args t8) w11 fun t12 w13 =>
      kp b9 w11 w13 <|
      ifB (!t12)
      (opRd P (Instr.indexAt t s.val (.int .i64 i3)) pav (fun t14 =>
      opUn P (Instr.storeAt u (.pointer (some t14)) (stv t8)) (fun w15 =>
      kp b9 w13 w15 <|
      k5 (i64 (i3 + 1)) (i64 (j4 + 1)) w15) w13) w13)
      (k5 i3 (i64 (j4 + 1)) w13)) w10) w6) w6) w6)
      (opRd P (Instr.sliceAt t s.val (some (.int .i64 i3)) none none) Sl.val (fun t16 =>
      opTy P (Builtin.clear_ #[t] 0 #[t16.val]) uval (fun _ w18 =>
      opRd P (Instr.sliceAt t s.val none (some (.int .i64 i3)) none) Sl.val (fun t19 =>
      K t19 w18) w18) w6) w6)) w := by
  have hl := hs.len
  have hle := hs.is.le
  have htk : l.take k0 = (l.take (k0 + 1)).filter fun y => !p y := by
    rw [List.take_add_one, List.filter_append, List.getElem?_eq_getElem hk0, List.filter_eq_self.2 (fun y hy => by rw [hpre y hy]; rfl)]
    simp [hp0]
  refine ⟨fun i j w' => ∃ a b cur, i = ((a : Nat) : Int) ∧ j = ((b : Nat) : Int) ∧ a < b ∧ b ≤ l.length ∧ OwnSl E w' B s cur ∧ cur.length = l.length ∧ cur.take a = (l.take b).filter (fun y => !p y) ∧ cur.drop b = l.drop b ∧ w.grownBy w' s.blk, fun _ j _ => (l.length - j).toNat,
    ⟨k0, k0 + 1, l, rfl, by rw [i64_id] <;> omega, by omega, by omega, hs, rfl, htk, rfl, grown_refl _ _⟩, ?_⟩
  rintro i j w1 ⟨a, b, cur, rfl, rfl, hab, hb, ho, hc, hta, hdr, hg⟩
  refine ifD (fun hlt => ?_) (fun hge => ?_)
  · have hbl : b < l.length := by omega
    have hbc : b < cur.length := by omega
    have hcb : cur[b] = l[b] := by
      have h1 := List.drop_eq_getElem_cons hbc
      have h2 := List.drop_eq_getElem_cons hbl
      rw [h1, h2] at hdr
      exact (List.cons.inj hdr).1
    have hdr1 : cur.drop (b + 1) = l.drop (b + 1) := by
      have h1 := List.drop_eq_getElem_cons hbc
      have h2 := List.drop_eq_getElem_cons hbl
      rw [h1, h2] at hdr
      exact (List.cons.inj hdr).2
    have hup : (l.take (b + 1)).filter (fun y => !p y) = (l.take b).filter (fun y => !p y) ++ [l[b]].filter (fun y => !p y) := by
      rw [List.take_add_one, List.filter_append, List.getElem?_eq_getElem hbl]
      rfl
    have hblt := ho.lt
    refine st_rd ht hu ho.is rfl hbc hv fun _ => ?_
    rw [hcb]
    refine new_x (Ext.rfl' w1) fun b9 w10 hb9 _ hx _ => wr_x hx hb9 fun w11 hx _ => ?_
    have hne : some b9 ≠ s.blk := fun e => by have := hblt _ e.symm; omega
    refine hcall _ (List.getElem_mem _) _ _ (grown_trans hg (grown_ext hx s.blk)) fun w13 hx13 => kp_ext hx13 ?_
    have hx := hx.trans' hx13
    have hg13 := grown_trans hg (grown_ext hx s.blk)
    refine ifNot (ifB_of (fun hp => ?_) (fun hp => ?_))
    · refine ⟨⟨a, b + 1, cur, rfl, by rw [i64_id] <;> omega, by omega, by omega, ho.ext hx, hc, ?_, hdr1, hg13⟩, ?_⟩
      · rw [hup, hta]; simp [hp]
      · dsimp only; rw [i64_id] <;> omega
    · have hac : a < cur.length := by omega
      refine ix_own ht (ho.ext hx) rfl hac ?_
      refine st_own l[b] hsz (ho.ext hx) hac (hst _) fun w15 ho15 hg15 => kp_grown hg15 hne ?_
      refine ⟨⟨a + 1, b + 1, cur.set a l[b], by rw [i64_id] <;> omega, by rw [i64_id] <;> omega, by omega, by omega, ho15, by rw [List.length_set, hc], ?_, ?_, grown_trans hg13 hg15⟩, ?_⟩
      · rw [take_set_up hac, hta, hup]; simp [hp]
      · rw [drop_set_lt (by omega), hdr1]
      · dsimp only; rw [i64_id] <;> omega
  · obtain rfl : b = l.length := by omega
    rw [List.take_length] at hta
    refine shrink_vc by_ a hap ht hzv hz1 rfl (by omega) (fun e => by rw [e] at hc; simp at hc; omega) ho fun s' w' ho' hg' hb' => hK s' w' (by rw [← hta]; exact ho') (grown_trans hg hg') hb'
end Go.Vc
