/-
  What package 'kvtwo' does.
-/
import Derived.Test.YtapepehccddjpaaDoorSpAwake23
set_option maxRecDepth 20000
set_option linter.unusedVariables false
namespace Go.Vc
open Go
variable {P : Program} {w : World} {α β : Type}
theorem stH2 {E : Enc α} {S : World → Prop} {t u : TypeId} {s : Sl} {l : List α} {i : Int} {k : Nat} {val : α → Value} {K : Addr → α → Prop} (ht : slOf P t = some E.sz) (hu : agT P u = some E.sz) (hS : ∀ w', S w' → IsSl E w' s l) (hi : i = (k : Int)) (hk : k < l.length)
    (hv : ∀ x, val x = .agg ⟨E.cs x⟩) (hK : ∀ a, K a l[k]) : opH P S (Instr.indexAt t s.val (.int .i64 i)) pav (fun a => opH P S (Instr.loadAt u (.pointer (some a))) val (K a)) :=
  ⟨s.at k E.sz, fun w' hw => (ix_eq ht (hS w' hw) hi hk).1, opH_of l[k] (fun w' hw => ld_whole hu (ix_eq (P := P) ht (hS w' hw) hi hk).2 (hv _) rfl) (hK _)⟩
/-- slices.BinarySearchFunc behind a target that stands in a variable, told. -/
theorem search_held {E : Enc α} {t u g : Nat} {val : α → Value} {args : α → Array Value} {x : Sl} {l : List α} (c : α → Int) {K : Int × Bool → World → Prop} (ht : slOf P t = some E.sz) (hu : agT P u = some E.sz) (hv : ∀ y, val y = .agg ⟨E.cs y⟩)
    (hx : IsSl E w x l) (hle : l.length ≤ 4611686018427387903) (hr : RisesC c l)
    (hcall : ∀ y ∈ l, ∀ (w' : World) (K' : Int → World → Prop), Ext w w' → (∀ w'', Ext w' w'' → K' (c y) w'') → callV P (Value.int .i64) g (args y) w' K')
    (hK : ∀ (w' : World) (i : Nat), AtC c l i → Ext w w' → K ((i : Int), foundC c l i) w') :
    newV (fun b1 w2 =>
      loop2 (0 : Int) ((x.len : Int) : Int) (fun i3 j4 k5 w6 =>
      ifB (decide (i3 < j4))
      (heldM (fun S8 w7 =>
      opH P S8 (Instr.indexAt t x.val (.int .i64 (IntKind.i64.wrap (shR .u64 (IntKind.u64.wrap (i64 (i3 + j4))) 1)))) pav (fun t9 =>
      opH P S8 (Instr.loadAt u (.pointer (some t9))) val (fun t10 =>
      callV P (Value.int .i64) g (args t10) w7 fun t11 w12 =>
      kp b1 w7 w12 <|
      (S8 w12) ∧
      (ifB (decide (t11 < 0))
      (k5 (i64 ((IntKind.i64.wrap (shR .u64 (IntKind.u64.wrap (i64 (i3 + j4))) 1)) + 1)) j4 w12)
      (k5 i3 (IntKind.i64.wrap (shR .u64 (IntKind.u64.wrap (i64 (i3 + j4))) 1)) w12))))) w6)
      (heldM (fun S14 w13 =>
      ifB (decide (i3 < (x.len : Int)))
      (opH P S14 (Instr.indexAt t x.val (.int .i64 i3)) pav (fun t15 =>
      opH P S14 (Instr.loadAt u (.pointer (some t15))) val (fun t16 =>
      callV P (Value.int .i64) g (args t16) w13 fun t17 w18 =>
      kp b1 w13 w18 <|
      (S14 w18) ∧
      (K (i3, (t17 == 0)) w18))))
      (K (i3, false) w13)) w6)) w2) w := by
  have hl := hx.len
  refine new_of fun b1 w0 hn1 => ?_
  have hx0 := Ext.new hn1
  refine ⟨fun i j w' => Ext w w' ∧ ∃ (a b : Nat), i = a ∧ j = b ∧ a ≤ b ∧ b ≤ l.length ∧ (∀ (k : Nat) y, l[k]? = some y → k < a → c y < 0) ∧ (∀ (k : Nat) y, l[k]? = some y → b ≤ k → 0 ≤ c y), fun i j _ => (j - i).toNat,
    ⟨hx0, 0, l.length, rfl, by omega, by omega, by omega, fun k y _ hk => by omega, fun k y hy hk => by have := (List.getElem?_eq_some_iff.1 hy).1; omega⟩, ?_⟩
  rintro i j w1 ⟨hx1, a, b, rfl, rfl, hab, hb, hlo, hhi⟩
  refine ifD (fun hlt => ?_) (fun hge => ?_)
  · have hm := half (i := (a : Int)) (j := (b : Int)) (by omega) (by omega) (by omega)
    rw [hm]
    obtain ⟨m, hmm⟩ : ∃ m : Nat, ((a : Int) + b) / 2 = m := ⟨(a + b) / 2, by omega⟩
    rw [hmm]
    have hml : m < l.length := by omega
    have hget := List.getElem?_eq_getElem hml
    refine heldM_of (fun w' => IsSl E w' x l) fun w2 hx2 => ⟨hx.ext (hx1.trans' hx2), ?_⟩
    refine stH2 ht hu (fun w' h => h) rfl hml hv fun _ => ?_
    refine hcall _ (List.getElem_mem _) _ _ (hx1.trans' hx2) fun w3 hx3 => kp_ext hx3 ?_
    have hx13 := hx1.trans' (hx2.trans' hx3)
    refine ⟨hx.ext hx13, ?_⟩
    refine ifD (fun hneg => ?_) (fun hpos => ?_)
    · refine ⟨⟨hx13, m + 1, b, by rw [i64_id] <;> omega, rfl, by omega, hb, fun k y hy hk => ?_, hhi⟩, ?_⟩
      · by_cases hkm : k = m
        · subst hkm; rw [hget] at hy; cases hy; exact hneg
        · by_cases h0 : c y < 0
          · exact h0
          · have := hr k m y _ (by omega) hy hget (by omega)
            omega
      · dsimp only
        rw [i64_id] <;> omega
    · refine ⟨⟨hx13, a, m, rfl, rfl, by omega, by omega, hlo, fun k y hy hk => ?_⟩, ?_⟩
      · by_cases hkm : k = m
        · subst hkm; rw [hget] at hy; cases hy; omega
        · have := hr m k _ y (by omega) hget hy (by omega)
          omega
      · dsimp only
        omega
  · have hab' : a = b := by omega
    subst hab'
    have hp : AtC c l a := ⟨hb, hlo, hhi⟩
    refine heldM_of (fun w' => IsSl E w' x l) fun w2 hx2 => ⟨hx.ext (hx1.trans' hx2), ?_⟩
    refine ifD (fun hlt => ?_) (fun hge2 => ?_)
    · have hal : a < l.length := by omega
      have hget := List.getElem?_eq_getElem hal
      refine stH2 ht hu (fun w' h => h) rfl hal hv fun _ => ?_
      refine hcall _ (List.getElem_mem _) _ _ (hx1.trans' hx2) fun w3 hx3 => kp_ext hx3 ?_
      have hx13 := hx1.trans' (hx2.trans' hx3)
      refine ⟨hx.ext hx13, ?_⟩
      have := hK w3 a hp hx13
      rw [show foundC c l a = (c l[a] == 0) from by unfold foundC; rw [hget]] at this
      exact this
    · have := hK w2 a hp (hx1.trans' hx2)
      rw [show foundC c l a = false from by unfold foundC; rw [List.getElem?_eq_none (by omega)]] at this
      exact this
end Go.Vc
namespace Go.Chg
open Go.Vc
def nextRev (rev : Int) : Int := i64 (imin rev 4294967295 + 1)
theorem kvtwo_next_spec {rev : Int} {K : Int → World → Prop} {w : World} (hK : K (nextRev rev) w) : kvtwo_next rev K w := hK
theorem nextRev_lo {rev : Int} (h0 : 0 ≤ rev) (h : rev ≤ 4294967295) : nextRev rev = rev + 1 := by
  unfold nextRev imin
  rw [if_neg (by omega), i64_id] <;> omega
theorem nextRev_hi {rev : Int} (h : 4294967295 < rev) : nextRev rev = 4294967296 := by
  unfold nextRev imin
  rw [if_pos h, i64_id] <;> omega
theorem kvtwo_set_1_spec {p q : ApiPair} {K : Int → World → Prop} {w : World} (hK : ∀ w', Ext w w' → K (cmpS p.Key q.Key) w') : kvtwo_set_1 p q K w := by
  unfold kvtwo_set_1
  refine new_of fun b1 w1 hn1 => new_of fun b3 w2 hn3 => ?_
  have hx := (Ext.new hn1).trans' (Ext.new hn3)
  have := hK w2 hx
  unfold cmpS at this
  rw [strLt_eq]
  refine ifD (fun h => ?_) (fun h => ?_)
  · rw [if_pos h] at this; exact this
  · rw [if_neg h] at this
    rw [strEq_eq]
    refine ifNot (ifB_of (fun h2 => ?_) (fun h2 => ?_))
    · rw [if_pos (by simpa [h] using h2)] at this; exact this
    · rw [if_neg (by simpa [h] using h2)] at this; exact this
theorem kvtwo_search_spec {x : Sl} {l : List ApiPair} {p : ApiPair} {K : Int × Bool → World → Prop} {w : World} (hx : IsSl eApiPair w x l) (hu : PUp l) (hle : l.length ≤ 4611686018427387903)
    (hK : ∀ (w' : World) (i : Nat), AtC (fun s => cmpS s.Key p.Key) l i → Ext w w' → K ((i : Int), foundC (fun s => cmpS s.Key p.Key) l i) w') : slices_BinarySearchFunc_api_Pair_api_Pair_api_Pair_set x p K w := by
  unfold slices_BinarySearchFunc_api_Pair_api_Pair_api_Pair_set
  exact search_held (E := eApiPair) (val := ApiPair.val) (args := fun y => #[.agg ⟨y.cs⟩, .agg ⟨p.cs⟩]) (fun s => cmpS s.Key p.Key) (by kernel_rfl) (by kernel_rfl) (fun _ => rfl) hx hle (hu.rises ordS p.Key) (fun y _ w' K' hx' hk => kvtwo_set_1_calls (a := y) (b := p) (kvtwo_set_1_spec fun w'' h => hk w'' h)) hK
theorem kvtwo_set_spec {s : Sl} {l : List ApiPair} {p : ApiPair} {B : Nat} {K : Sl → World → Prop} {w : World} (hs : OwnSl eApiPair w B s l) (hB : B ≤ w.heap.size) (hu : PUp l) (hle : l.length ≤ 100000)
    (hK : ∀ s' w', OwnSl eApiPair w' B s' (pairIns l p) → w.grownBy w' s.blk → NewOr w s s' → K s' w') : kvtwo_set s p K w := by
  unfold kvtwo_set
  refine new_of fun b1 w1 hn1 => ?_
  have hb1 : b1 = w.heap.size := hn1.1
  have hx1 := Ext.new hn1
  have hlt1 := hn1.lt
  have hblk := own_blk' hs
  refine slices_BinarySearchFunc_api_Pair_api_Pair_api_Pair_set_calls (x := s) (target := p) (kvtwo_search_spec (hs.is.ext hx1) hu (by omega) fun w2 i hp hx2 => kp_ext hx2 ?_)
  have hx := hx1.trans' hx2
  have hs2 := hs.ext hx
  have hlen := hs.len
  have kpb : ∀ {w' w'' : World} {X : Prop}, w'.grownBy w'' s.blk → X → kp b1 w' w'' X := fun hg x => kp_grown hg (fun e => by have := hblk b1 e.symm; omega) x
  refine ifNot (ifB_of (fun hf => ?_) (fun hf => ?_))
  · obtain ⟨hi, hso, _⟩ := found_some ordS hu hp hf
    refine ix_own (by kernel_rfl) hs2 rfl hi ?_
    refine st_own p (by kernel_rfl) hs2 hi rfl fun w3 ho3 hg3 => kpb hg3 (hK _ _ ?_ (grown_trans (grown_ext hx _) hg3) (.inl rfl))
    rw [show pairIns l p = l.set i p from hp.ins_f (hu.rises ordS _) hf p]
    exact ho3
  · refine lit_sl (E := eApiPair) [p] rfl (by decide) (fun w => by kernel_rfl) fun v w3 hv hx3 => kp_ext hx3 ?_
    refine slices_Insert_api_Pair_api_Pair_calls (insert_pair_spec i rfl hp.le (hs2.ext hx3) hv (fun e => by have := hblk _ e; have := hx.size; omega) (by simp) (Nat.le_trans hB (Nat.le_trans hx.size hx3.size)) (by simp; omega) fun s' w4 ho4 hg4 hn4 => kpb hg4 ?_)
    refine hK _ _ ?_ (grown_trans (grown_ext (hx.trans' hx3) _) hg4) (hn4.mono (hx.trans' hx3).size)
    rw [show pairIns l p = l.take i ++ p :: l.drop i from hp.ins_n (hu.rises ordS _) hf p]
    simpa using ho4

def casOne (l : List ApiPair) (c : ApiCmd) : List ApiPair × ApiAnswer :=
  match pairOf l c.Key with
  | none => (l, ⟨c.Client, c.Seq, 10, false, [], 0⟩)
  | some x => if x.Val = c.Old then (pairIns l ⟨c.Key, c.Val, nextRev x.Rev⟩, ⟨c.Client, c.Seq, 0, true, x.Val, nextRev x.Rev⟩) else (l, ⟨c.Client, c.Seq, 15, true, x.Val, x.Rev⟩)
theorem grown_own {w w1 w2 : World} {b : Nat} {row : Option Nat} (hg : w.grownBy w1 row) (hb : w.heap.size ≤ b) (hw : Wr b w1 w2) : w.grownBy w2 row :=
  ⟨hw.os.trans hg.os, hw.tape.trans hg.tape, hw.output.trans hg.output, Nat.le_trans hg.size (Nat.le_of_eq hw.size.symm), fun i hi hr => (hw.block i (by omega)).trans (hg.block i hi hr)⟩
theorem kvtwo_cas_spec {s : Sl} {l : List ApiPair} {c : ApiCmd} {B : Nat} {K : Sl × ApiAnswer → World → Prop} {w : World} (hs : OwnSl eApiPair w B s l) (hB : B ≤ w.heap.size) (hu : PUp l) (hle : l.length ≤ 100000)
    (hK : ∀ s' w', OwnSl eApiPair w' B s' (casOne l c).1 → w.grownBy w' s.blk → NewOr w s s' → K (s', (casOne l c).2) w') : kvtwo_cas s c K w := by
  unfold kvtwo_cas
  have hblk := own_blk' hs
  refine new_of fun b1 w1 hn1 => new_of fun b3 w2 hn3 => new_of fun b5 w3 hn5 => wr_of fun w4 hw4 => ?_
  have hb1 := hn1.1
  have hb3 := hn3.1
  have hb5 := hn5.1
  have l1 := hn1.lt
  have l3 := hn3.lt
  have l5 := hn5.lt
  have z1 := (Ext.new hn1).size
  have z3 := (Ext.new hn3).size
  have z5 := (Ext.new hn5).size
  have hx3 : Ext w w3 := ((Ext.new hn1).trans' (Ext.new hn3)).trans' (Ext.new hn5)
  have hx4 : Ext w w4 := Below.wr hx3 (by omega) hw4
  refine kvone_Find_calls (kvone_Find_spec (hs.is.ext hx4) hu (by omega) fun w5 hx5 => kp_ext hx5 (kp_ext hx5 (kp_ext hx5 ?_)))
  have hx5' := hx4.trans' hx5
  have z5' := hx5'.size
  refine new_of fun b10 w6 hn10 => wr_of fun w7 hw7 => ?_
  have hb10 := hn10.1
  have hx7 : Ext w w7 := Below.wr (hx5'.trans' (Ext.new hn10)) (by omega) hw7
  have own : ∀ {b : Nat} {u v : World}, w.heap.size ≤ b → Ext w u → Wr b u v → Ext w v := fun hb hx hw => Below.wr hx hb hw
  have ans : ∀ {u v : World} (a : ApiAnswer), Ext w u → (casOne l c) = (l, a) → Wr b3 u v → K (s, a) v := fun {u v} a hx he hw => by
    have hx' := own (b := b3) (by omega) hx hw
    have := hK s v (by rw [he]; exact hs.ext hx') (grown_ext hx' _) (.inl rfl)
    rw [he] at this
    exact this
  refine ifNot (ifB_of (fun hf => ?_) (fun hf => ?_))
  · obtain ⟨x, hx⟩ := Option.isSome_iff_exists.1 hf
    have hget : (pairOf l c.Key).getD noPair = x := by rw [hx]; rfl
    rw [hget]
    refine heldM_of (fun _ => True) fun w8 hx8 => ⟨trivial, wr_of fun w9 hw9 => ⟨trivial, wr_of fun w10 hw10 => ⟨trivial, wr_of fun w11 hw11 => ⟨trivial, ?_⟩⟩⟩⟩
    have hx11 : Ext w w11 := own (by omega) (own (by omega) (own (by omega) (hx7.trans' hx8) hw9) hw10) hw11
    refine ifNot (ifStr (fun he => ?_) (fun he => ?_))
    · refine kvtwo_next_calls (kvtwo_next_spec ?_)
      refine kp_same (kp_same (kp_same (kp_same ?_)))
      refine wr_of fun w12 hw12 => heldM_of (fun _ => True) fun w13 hx13 => ⟨trivial, ?_⟩
      have hx13' : Ext w w13 := (own (by omega) hx11 hw12).trans' hx13
      have kpq : ∀ {w'' : World} {X : Prop} (b : Nat), w.heap.size ≤ b → w13.grownBy w'' s.blk → X → kp b w13 w'' X := fun b hb hg x => kp_grown hg (fun e => by have := hblk b e.symm; omega) x
      refine kvtwo_set_calls (l := s) (p := ⟨c.Key, c.Val, nextRev x.Rev⟩) (kvtwo_set_spec (hs.ext hx13') (Nat.le_trans hB hx13'.size) hu hle fun s' w14 ho14 hg14 hn14 => ?_)
      refine kpq _ (by omega) hg14 (kpq _ (by omega) hg14 (kpq _ (by omega) hg14 (kpq _ (by omega) hg14 ⟨trivial, wr_of fun w15 hw15 => ⟨trivial, ?_⟩⟩)))
      have hc : casOne l c = (pairIns l ⟨c.Key, c.Val, nextRev x.Rev⟩, ⟨c.Client, c.Seq, 0, true, x.Val, nextRev x.Rev⟩) := by unfold casOne; rw [hx]; dsimp only; rw [if_pos he]
      have hne3 : s'.blk ≠ some b3 := hn14.ne (by have := hx13'.size; have := hx5'.size; have := (own (b := b5) (by omega) hx3 hw4).size; have e7 := hw7.size; have e4 := hw4.size; have := hx5.size; have := (Ext.new hn10).size; have := hx8.size; have e9 := hw9.size; have e10 := hw10.size; have e11 := hw11.size; have e12 := hw12.size; have := hx13.size; omega) (fun e => by have := hblk _ e; omega)
      have ho15 := ho14.grownB (grown_wr hw15) (fun b hb e => hne3 (by rw [hb, e]))
      have := hK s' w15 (by rw [hc]; exact ho15) (grown_own (grown_trans (grown_ext hx13' _) hg14) (by omega) hw15) (hn14.mono hx13'.size)
      rw [hc] at this
      exact this
    · refine wr_of fun w12 hw12 => heldM_of (fun _ => True) fun w13 hx13 => ⟨trivial, wr_of fun w14 hw14 => ⟨trivial, ?_⟩⟩
      exact ans _ ((own (by omega) hx11 hw12).trans' hx13) (by unfold casOne; rw [hx]; dsimp only; rw [if_neg he]) hw14
  · refine wr_of fun w8 hw8 => heldM_of (fun _ => True) fun w9 hx9 => ⟨trivial, wr_of fun w10 hw10 => ⟨trivial, ?_⟩⟩
    have hn : pairOf l c.Key = none := by simpa using hf
    exact ans _ ((own (by omega) hx7 hw8).trans' hx9) (by unfold casOne; rw [hn]) hw10
end Go.Chg
