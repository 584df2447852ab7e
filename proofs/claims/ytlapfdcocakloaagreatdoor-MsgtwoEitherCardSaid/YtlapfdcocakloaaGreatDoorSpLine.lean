/-
  Words as a line: strings.Join, and a builder that grows.
-/
import Derived.Test.YtlapfdcocakloaaGreatDoorSpQuo
import Derived.Lib.MakeNoZero
set_option maxRecDepth 20000
set_option linter.unusedVariables false
namespace Go.Vc
theorem subH_h {P : Program} {S : World → Prop} {t z : Nat} {s : Sl} {j : Int} {n : Nat} {K : Sl → Prop} (ht : slOf P t = some z) (hj : j = (n : Int)) (hn : n ≤ s.cap) (hK : K (s.sub 0 n z)) : opH P S (Instr.sliceAt t s.val none (some (.int .i64 j)) none) Sl.val K := by
  obtain ⟨he, hz⟩ := elem_of ht
  subst hj
  refine ⟨s.sub 0 n z, fun w _ => ?_, hK⟩
  rw [run_sliceAt_slice w t _ _ _ _ he, show s.val = .slice s.a s.len s.cap from rfl, run_slice_h w t s.a s.len s.cap he _ _ (by omega) (by omega), run_size hz]
  simp [Result.andThen, sliced, Sl.sub, Sl.val]
theorem run_copy0 {P : Program} {w : World} {t tx ty n : Nat} {d : Addr} {c : Nat} (ht : slOf P t = some n) : (Builtin.copy_ #[t, tx] ty #[.slice (some d) 0 c, .slice none 0 0]).run P w = .ok (.int .i64 0) w := by
  obtain ⟨e, he, hz⟩ := slOf_spec ht
  simp [Builtin.copy_, run_und he, Builtin.lenOf, Builtin.firstCells, run_size hz, goInt, storeCells]
def joinL (m : List UInt8) : List (List UInt8) → List UInt8
  | [] => []
  | x :: r => x ++ r.flatMap (m ++ ·)
end Go.Vc
namespace Go.Chg
open Go.Vc
open Go.RowKit (Below)
variable {w : World} {a : Addr} {l : List UInt8}
theorem low_blk {α : Type} {E : Enc α} {s : Sl} {xs : List α} (h : IsSl E w s xs) (hne : xs ≠ []) : ∀ k, s.blk = some k → k < w.heap.size := fun k hk => by
  rcases h.mem with h0 | ⟨b, o, ha, hb, _⟩
  · exact absurd h0 hne
  · simp only [Sl.blk, ha] at hk
    cases hk
    exact hb
theorem low_keep {α : Type} {E : Enc α} {w' : World} {B : Nat} {s : Sl} {xs : List α} (h : IsSl E w s xs) (hB : ∀ k, s.blk = some k → k < B) (hg : Below B w w') : IsSl E w' s xs :=
  h.keep hg.size fun b o ha _ => hg.block b (hB b (by simp [Sl.blk, ha]))
noncomputable def tid_mk : Nat := match Pr.funcs[fid_internal_bytealg_MakeNoZero]? with | some fn => (match fn.resultTypes[0]? with | some t => t | none => 0) | none => 0
theorem grow_spec {n : Nat} {K : Unit → World → Prop} (ho : ObjT w a tid_bld [.pointer (some a), Sl.nil.val]) (hn : n ≤ 1000000000) (hK : ∀ w', Bld w' a a.block [] → Below a.block w w' → K () w') : strings_Builder_grow (some a) (n : Int) K w := by
  unfold strings_Builder_grow
  have hlt := ho.obj.lt
  refine heldM_of (fun w' => Vc.Obj w' a [.pointer (some a), Sl.nil.val]) fun w1 hx1 => ⟨(ho.ext hx1).obj, ?_⟩
  have ho1 := ho.ext hx1
  refine opH_of a (fun w' _ => nil_rd rfl rfl) (opH_of Sl.nil (fun w' hw => ld_obj (by kernel_rfl) hw rfl rfl) ?_)
  refine opH_of a (fun w' _ => nil_rd rfl rfl) (opH_of Sl.nil (fun w' hw => ld_obj (by kernel_rfl) hw rfl rfl) ?_)
  have e : i64 (i64 (2 * (Sl.nil.cap : Int)) + (n : Int)) = (n : Int) := by
    show i64 (i64 (2 * 0) + (n : Int)) = _
    rw [i64_id (n := 2 * 0) (by decide) (by decide), i64_id] <;> omega
  rw [e]
  obtain ⟨cs, hrun, hle, hmax⟩ := Go.Lib.run_makeNoZero (P := Pr) w1 #[fnParam fid_internal_bytealg_MakeNoZero 0] tid_mk tid_u8 (by kernel_rfl) n (by omega)
  have z1 := hx1.size
  have hcm : cs.size ≤ 9223372036854775807 := hmax (by unfold maxLen; omega)
  refine ⟨⟨some ⟨w1.heap.size, 0, none⟩, n, cs.size⟩, w1.drew.drew.alloc (.cells cs tid_u8), ?_, ?_⟩
  · rw [run_callFunc_extern ext_internal_bytealg_MakeNoZero (by kernel_rfl) (by kernel_rfl) (by kernel_rfl) (e := Extern.BytealgMakeNoZero.makeNoZero #[fnParam fid_internal_bytealg_MakeNoZero 0] #[tid_mk]) (by kernel_rfl), hrun]
    rfl
  have hx8 : Ext w1 (w1.drew.drew.alloc (.cells cs tid_u8)) := ⟨rfl, rfl, rfl, by simp, fun k hk => Below.heap_alloc w1.drew.drew _ k hk⟩
  have hblk : (w1.drew.drew.alloc (.cells cs tid_u8)).heap[w1.heap.size]? = some (.cells cs tid_u8 (0, 0)) := heap_alloc_new w1.drew.drew _
  generalize w1.drew.drew.alloc (.cells cs tid_u8) = w8 at hx8 hblk
  have ho8 := ho1.ext hx8
  refine ⟨ho8.obj, ?_⟩
  refine subH_h (z := 1) (n := 0) (by kernel_rfl) rfl (Nat.zero_le _) ?_
  have hsub : (⟨some ⟨w1.heap.size, 0, none⟩, n, cs.size⟩ : Sl).sub 0 0 1 = ⟨some ⟨w1.heap.size, 0, none⟩, 0, cs.size⟩ := by
    unfold Sl.sub
    simp [Addr.add]
  rw [hsub]
  have hown : OwnSl eB w8 (a.block + 1) ⟨some ⟨w1.heap.size, 0, none⟩, 0, cs.size⟩ [] := .inr ⟨w1.heap.size, cs, tid_u8, (0, 0), rfl, by omega, hblk, .inl rfl, rfl, Nat.zero_le _, hcm, by show cs.size = cs.size * 1; omega, by simp⟩
  have hT : RowT w8 ⟨some ⟨w1.heap.size, 0, none⟩, 0, cs.size⟩ tid_u8 := fun g hg => by cases hg; exact ⟨cs, (0, 0), hblk⟩
  refine nil_rd rfl (ld_obj (y := Sl.nil) (by kernel_rfl) ho8.obj rfl ?_)
  refine ⟨0, w8, run_copy0 (n := 1) (by kernel_rfl), ?_⟩
  refine nil_rd rfl (st_objT (by kernel_rfl) ho8 rfl (by simp) fun w15 hw15 ho15 => ?_)
  have hne : ∀ k, (⟨some ⟨w1.heap.size, 0, none⟩, 0, cs.size⟩ : Sl).blk = some k → some k ≠ some a.block := fun k hk e => by have := hown.ge k hk; have := Option.some.inj e; omega
  have f8 : Below a.block w w8 := (below_ex (Nat.le_of_lt hlt) hx1).trans (below_ex (by omega) hx8)
  have z8 := hx8.size
  exact hK w15 ⟨some a, _, ho15, .inr rfl, hown.grownB (grown_wr hw15) hne, hT.other (grown_wr hw15) hne, fun k hk e => by have := hown.ge k hk; omega⟩ (f8.trans (below_gr (by omega) (grown_wr hw15) (fun r hr => by cases hr; exact Nat.le_refl _)))
theorem Grow_spec {n : Nat} {K : Unit → World → Prop} (ho : ObjT w a tid_bld [.pointer none, Sl.nil.val]) (hn : n ≤ 1000000000) (hK : ∀ w', Bld w' a a.block [] → Below a.block w w' → K () w') : strings_Builder_Grow (some a) (n : Int) K w := by
  unfold strings_Builder_Grow
  have hlt := ho.obj.lt
  refine strings_Builder_copyCheck_calls (copyCheck_ps ho (.inl rfl) fun w2 ho2 hw2 => ?_)
  have f2 : Below a.block w w2 := by
    rcases hw2 with rfl | hw
    · exact Below.refl _ _
    · exact below_gr (Nat.le_of_lt hlt) (grown_wr hw) (fun r hr => by cases hr; exact Nat.le_refl _)
  have z2 : w.heap.size ≤ w2.heap.size := by
    rcases hw2 with rfl | hw
    · exact Nat.le_refl _
    · exact Nat.le_of_eq hw.size.symm
  refine ifD (fun h => absurd h (by omega)) (fun _ => drew_of fun w3 hx3 => ?_)
  have ho3 := ho2.ext hx3
  have f3 := f2.trans (below_ex (by omega) hx3)
  refine nil_rd rfl (ld_obj (y := Sl.nil) (by kernel_rfl) ho3.obj rfl ?_)
  refine nil_rd rfl (ld_obj (y := Sl.nil) (by kernel_rfl) ho3.obj rfl ?_)
  refine ifD (fun _ => ?_) (fun _ => ?_)
  · exact strings_Builder_grow_calls (grow_spec ho3 hn fun w9 hb f9 => hK w9 hb (f3.trans f9))
  · exact hK w3 ⟨some a, Sl.nil, ho3, .inr rfl, .nil _ _ _, .nil _ _, fun k e => by cases e⟩ f3
theorem tdiv_big {n : Nat} (h0 : 0 < n) (h : n ≤ 1000000) : (1 : Int) < Int.tdiv 9223372036854775807 (n : Int) := by
  have e : Int.tdiv 9223372036854775807 (n : Int) = ((9223372036854775807 / n : Nat) : Int) := rfl
  rw [e]
  have := Nat.div_le_div_left (a := 9223372036854775807) h h0
  omega
theorem sum_flat {m : List UInt8} : ∀ (xs : List (List UInt8)), (xs.flatMap (m ++ ·)).length = m.length * xs.length + (xs.flatMap id).length
  | [] => by simp
  | x :: xs => by
    have := sum_flat (m := m) xs
    simp only [List.flatMap_cons, List.length_append, List.length_cons, id, Nat.mul_add, Nat.mul_one] at *
    omega
theorem take_sum {xs : List (List UInt8)} {k : Nat} (hk : k < xs.length) : ((xs.take (k + 1)).flatMap id).length = ((xs.take k).flatMap id).length + xs[k].length := by
  rw [List.take_succ_eq_append_getElem hk, List.flatMap_append, List.length_append]
  simp
theorem take_sum_le {xs : List (List UInt8)} (k : Nat) : ((xs.take k).flatMap id).length ≤ (xs.flatMap id).length := by
  conv => rhs; rw [← List.take_append_drop k xs]
  rw [List.flatMap_append, List.length_append]
  omega
theorem Join_spec {s : Sl} {xs : List (List UInt8)} {c : UInt8} {K : List UInt8 → World → Prop} (hs : IsSl eS w s xs) (hn : xs.length ≤ 100000) (hsum : (xs.flatMap id).length ≤ 100000000) (hK : ∀ w', Ext w w' → K (joinL [c] xs) w') : strings_Join s [c] K w := by
  unfold strings_Join
  have hl := hs.len
  refine ifEq (fun h0 => ?_) (fun h0 => ?_)
  · have : xs = [] := List.length_eq_zero_iff.1 (by omega)
    subst this
    exact hK _ (Ext.rfl' _)
  refine ifEq (fun h1 => ?_) (fun h1 => ?_)
  · match xs, hs, hl, hK with
    | [x], hs, hl, hK =>
      refine el_rd (E := eS) (y := x) (k := 0) (by kernel_rfl) (by kernel_rfl) hs rfl (by simp) rfl fun _ => ?_
      have := hK _ (Ext.rfl' _)
      simpa [joinL] using this
    | [], _, hl, _ => exact absurd (by rw [hl]; rfl) h0
    | _ :: _ :: _, _, hl, _ => simp only [List.length_cons] at hl; omega
  have h2 : 2 ≤ xs.length := by omega
  have e1 : i64 ((s.len : Int) - 1) = ((s.len - 1 : Nat) : Int) := by rw [i64_id] <;> omega
  rw [e1]
  have e2 : i64 (0 + i64 ((([c] : List UInt8).length : Int) * ((s.len - 1 : Nat) : Int))) = ((s.len - 1 : Nat) : Int) := by
    have : (([c] : List UInt8).length : Int) = 1 := rfl
    rw [this, Int.one_mul, i64_id (n := ((s.len - 1 : Nat) : Int)) (by omega) (by omega), i64_id] <;> omega
  rw [e2]
  refine ⟨fun n w' => w = w' ∧ n = ((s.len - 1 : Nat) : Int), ?_, ?_⟩
  · refine ifD (fun _ => ?_) (fun h => absurd (show ((1 : Nat) : Int) > 0 by decide) h)
    refine quo_rd (by omega) ?_
    have hb := tdiv_big (n := s.len - 1) (by omega) (by omega)
    have hw : IntKind.i64.wrap (Int.tdiv 9223372036854775807 ((s.len - 1 : Nat) : Int)) = Int.tdiv 9223372036854775807 ((s.len - 1 : Nat) : Int) := by
      refine i64_id (by omega) ?_
      have e : Int.tdiv 9223372036854775807 ((s.len - 1 : Nat) : Int) = ((9223372036854775807 / (s.len - 1) : Nat) : Int) := rfl
      rw [e]
      have := Nat.div_le_self 9223372036854775807 (s.len - 1)
      omega
    rw [hw]
    exact ifD (fun h => absurd (show (1 : Int) ≥ _ from h) (by omega)) (fun _ => ⟨rfl, rfl⟩)
  rintro n5 _ ⟨rfl, rfl⟩
  refine up2b (fun k n w' => w = w' ∧ n = ((s.len - 1 + ((xs.take k).flatMap id).length : Nat) : Int)) 0 xs.length rfl (by omega) (by omega) ⟨rfl, by simp⟩ ?_
  rintro k n w10 C _ hk ⟨rfl, rfl⟩ hC
  have hts := take_sum_le (xs := xs) k
  refine ifD (fun hlt => ?_) (fun hge => ?_)
  · have hk1 : k < xs.length := by omega
    have hts1 := take_sum_le (xs := xs) (k + 1)
    rw [take_sum hk1] at hts1
    refine el_rd (E := eS) (y := xs[k]) (by kernel_rfl) (by kernel_rfl) hs rfl hk1 rfl fun _ => ?_
    rw [i64_id (n := 9223372036854775807 - ((s.len - 1 + ((xs.take k).flatMap id).length : Nat) : Int)) (by omega) (by omega)]
    refine ifD (fun h => absurd h (by omega)) (fun _ => hC hk1 _ _ _ rfl ⟨rfl, ?_⟩)
    rw [take_sum hk1, i64_id] <;> omega
  refine alloc_tyT (z := .agg ⟨[.pointer none, Sl.nil.val]⟩) (by kernel_rfl) fun a w14 ha hx ho => ?_
  refine strings_Builder_Grow_calls (Grow_spec (ho.ty (by kernel_rfl)) (by omega) fun w16 hb f16 => ?_)
  have hx := hx.below f16 (by omega)
  match xs, hs, hl, hn, hsum, hK, h2 with
  | x :: r, hs, hl, hn, hsum, hK, h2 =>
  simp only [List.flatMap_cons, List.length_append, id] at hsum
  simp only [List.length_cons] at hn h2 hl
  refine el_rd (E := eS) (y := x) (k := 0) (by kernel_rfl) (by kernel_rfl) (hs.ext hx) rfl (by simp) rfl fun _ => ?_
  refine strings_Builder_WriteString_calls (WriteString_spec hb hb.lt (by simp only [List.length_nil]; omega) fun w20 hb f20 => ?_)
  have hx := hx.below f20.low (by omega)
  refine sub_l (E := eS) (m := 1) (by kernel_rfl) (hs.ext hx) rfl (by simp) fun s21 h21 hblk => ?_
  have h21 : IsSl eS w20 s21 r := h21
  have hl21 := h21.len
  have a20 := hb.lt
  have hflat : ∀ j, ((r.take j).flatMap ([c] ++ ·)).length ≤ 100100000 := fun j => by
    rw [sum_flat]
    have := take_sum_le (xs := r) j
    have : (r.take j).length ≤ r.length := by rw [List.length_take]; omega
    simp only [List.length_cons, List.length_nil, Nat.zero_add, Nat.one_mul]
    omega
  have hlow : ∀ k, s21.blk = some k → k < a.block := fun k hk => by
    have := low_blk hs (by simp) k (hblk ▸ hk)
    omega
  refine up1 (fun j w' => Ext w w' ∧ Below a.block w20 w' ∧ Bld w' a a.block (x ++ (r.take j).flatMap ([c] ++ ·))) 0 r.length (by rfl) (by omega) (by omega) ⟨hx, Below.refl _ _, by simpa using hb⟩ ?_
  rintro j w24 C _ hj ⟨hx, f, hb⟩ hC
  have hfj := hflat j
  refine ifD (fun hlt => ?_) (fun hge => ?_)
  · have hj1 : j < r.length := by omega
    have hfj1 := hflat (j + 1)
    have hup : (r.take (j + 1)).flatMap ([c] ++ ·) = (r.take j).flatMap ([c] ++ ·) ++ ([c] ++ r[j]) := by
      rw [List.take_succ_eq_append_getElem hj1, List.flatMap_append, List.flatMap_cons, List.flatMap_nil, List.append_nil]
    rw [hup] at hfj1
    simp only [List.length_append, List.length_cons, List.length_nil] at hfj1
    refine el_rd (E := eS) (y := r[j]) (by kernel_rfl) (by kernel_rfl) (low_keep h21 hlow f) rfl hj1 rfl fun _ => ?_
    refine strings_Builder_WriteString_calls (WriteString_spec hb hb.lt (by simp only [List.length_append, List.length_cons, List.length_nil]; omega) fun w28 hb f28 => ?_)
    refine strings_Builder_WriteString_calls (WriteString_spec hb hb.lt (by simp only [List.length_append, List.length_cons, List.length_nil]; omega) fun w30 hb f30 => ?_)
    refine hC hj1 _ _ rfl ⟨(hx.below f28.low (by omega)).below f30.low (by omega), (f.trans f28.low).trans f30.low, ?_⟩
    rw [hup]
    simpa using hb
  · rw [List.take_of_length_le (by omega)] at hb
    refine strings_Builder_String_calls (Builder_String_spec hb ?_ fun w32 f32 => ?_)
    · match r, h2 with
      | y :: r', _ => simp
      | [], h => simp at h
    · exact hK _ (hx.below f32 (by omega))
theorem Line_spec {s : Sl} {xs : List (List UInt8)} {K : List UInt8 → World → Prop} (hs : IsSl eS w s xs) (hn : xs.length ≤ 100000) (hsum : (xs.flatMap id).length ≤ 100000000) (hK : ∀ w', Ext w w' → K (joinL [32] xs) w') : quote_Line s K w := by
  unfold quote_Line
  exact strings_Join_calls (Join_spec hs hn hsum hK)
end Go.Chg
