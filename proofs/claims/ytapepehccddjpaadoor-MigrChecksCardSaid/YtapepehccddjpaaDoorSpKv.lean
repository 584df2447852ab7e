/-
  What package 'kvone' does; the law of what it keeps.
-/
import Derived.Test.YtapepehccddjpaaDoorSpPair
set_option maxRecDepth 20000
set_option linter.unusedVariables false
namespace Go.Chg
open Go.Vc

theorem own_blk' {α : Type} {E : Enc α} {w : World} {B : Nat} {s : Sl} {l : List α} (h : OwnSl E w B s l) : ∀ b, s.blk = some b → b < w.heap.size := fun b hb => by
  rcases h.row with ⟨h0, _⟩ | ⟨g, cur, h1, _, h2, _⟩
  · subst h0; cases hb
  · simp [Sl.blk, h1] at hb; subst hb; exact h2.lt
def pairIns (l : List ApiPair) (p : ApiPair) : List ApiPair := insC (fun x => cmpS x.Key p.Key) l p
def pairDel (l : List ApiPair) (n : List UInt8) : List ApiPair := l.filter fun x => cmpS x.Key n != 0
/-- An own variable stands below what a call may turn. -/
theorem kp_own {α : Type} {E : Enc α} {w w' : World} {B b : Nat} {s : Sl} {l : List α} {X : Prop} (ho : OwnSl E w B s l) (hb : b < B) (hg : w.grownBy w' s.blk) (x : X) : kp b w w' X :=
  kp_grown hg (fun e => by have := ho.ge b e.symm; omega) x
theorem kvone_put_spec {s : Sl} {l : List ApiPair} {p : ApiPair} {B : Nat} {K : Sl × Bool → World → Prop} {w : World} (hs : OwnSl eApiPair w B s l) (hB : B ≤ w.heap.size) (hu : PUp l) (hle : l.length ≤ 100000)
    (hK : ∀ s' w', ((pairOf l p.Key).isSome = true ∨ l.length < 64) → OwnSl eApiPair w' B s' (pairIns l p) → w.grownBy w' s.blk → NewOr w s s' → K (s', true) w')
    (hno : ∀ w', ¬ ((pairOf l p.Key).isSome = true ∨ l.length < 64) → OwnSl eApiPair w' B s l → w.grownBy w' s.blk → K (s, false) w') : kvone_put s p K w := by
  unfold kvone_put
  refine new_of fun b1 w1 hn1 => ?_
  have hb1 : b1 = w.heap.size := hn1.1
  have hx1 := Ext.new hn1
  have hlt1 := hn1.lt
  have hblk := own_blk' hs
  refine kvone_place_calls (kvone_place_spec (hs.is.ext hx1) hu (by omega) fun w2 i hp hx2 => kp_ext hx2 ?_)
  have hx := hx1.trans' hx2
  have hs2 := hs.ext hx
  have hlen := hs.len
  have kpb : ∀ {w' w'' : World} {X : Prop}, w'.grownBy w'' s.blk → X → kp b1 w' w'' X := fun hg x => kp_grown hg (fun e => by have := hblk b1 e.symm; omega) x
  refine ifB_of (fun hf => ?_) (fun hf => ?_)
  · obtain ⟨hi, hso, _⟩ := found_some ordS hu hp hf
    refine ix_own (by kernel_rfl) hs2 rfl hi ?_
    refine st_own p (by kernel_rfl) hs2 hi rfl fun w3 ho3 hg3 => kpb hg3 (hK _ _ (.inl (by rw [show pairOf l p.Key = some l[i] from hso]; rfl)) ?_ (grown_trans (grown_ext hx _) hg3) (.inl rfl))
    rw [show pairIns l p = l.set i p from hp.ins_f (hu.rises ordS _) hf p]
    exact ho3
  · have hnone : pairOf l p.Key = none := found_none ordS hu hp hf
    refine ifD (fun h64 => hno _ (by rw [hnone]; simp; omega) hs2 (grown_ext hx _)) (fun h64 => ?_)
    refine lit_sl (E := eApiPair) [p] rfl (by decide) (fun w => by kernel_rfl) fun v w3 hv hx3 => kp_ext hx3 ?_
    refine slices_Insert_api_Pair_api_Pair_calls (insert_pair_spec i rfl hp.le (hs2.ext hx3) hv (fun e => by have := hblk _ e; have := hx.size; omega) (by simp) (Nat.le_trans hB (Nat.le_trans hx.size hx3.size)) (by simp; omega) fun s' w4 ho4 hg4 hn4 => kpb hg4 ?_)
    refine hK _ _ (.inr (by omega)) ?_ (grown_trans (grown_ext (hx.trans' hx3) _) hg4) (hn4.mono (hx.trans' hx3).size)
    rw [show pairIns l p = l.take i ++ p :: l.drop i from hp.ins_n (hu.rises ordS _) hf p]
    simpa using ho4
theorem kvone_del_spec {s : Sl} {l : List ApiPair} {n : List UInt8} {B : Nat} {K : Sl → World → Prop} {w : World} (hs : OwnSl eApiPair w B s l) (hB : B ≤ w.heap.size) (hu : PUp l) (hle : l.length ≤ 100000)
    (hK : ∀ s' w', OwnSl eApiPair w' B s' (pairDel l n) → w.grownBy w' s.blk → NewOr w s s' → K s' w') : kvone_del s n K w := by
  unfold kvone_del
  refine kvone_place_calls (kvone_place_spec hs.is hu (by omega) fun w2 i hp hx2 => ?_)
  have hs2 := hs.ext hx2
  refine ifB_of (fun hf => ?_) (fun hf => ?_)
  · obtain ⟨hi, hso, _⟩ := found_some ordS hu hp hf
    have e1 : i64 ((i : Int) + 1) = ((i + 1 : Nat) : Int) := by rw [i64_id] <;> omega
    dsimp only
    rw [e1]
    refine slices_Delete_api_Pair_api_Pair_calls (delete_pair_spec i (i + 1) rfl rfl (by omega) (by omega) hs2 fun s' w3 ho3 hg3 hn3 => hK _ _ ?_ (grown_trans (grown_ext hx2 _) hg3) (hn3.mono hx2.size))
    rw [show pairDel l n = l.take i ++ l.drop (i + 1) from hp.del_f (hu.rises ordS _) hf]
    exact ho3
  · refine hK _ _ ?_ (grown_ext hx2 _) (.inl rfl)
    rw [show pairDel l n = l from hp.del_n (hu.rises ordS _) hf]
    exact hs2

/-- The pairs behind a command, and its answer. -/
def doOne (l : List ApiPair) (c : ApiCmd) : List ApiPair × ApiAnswer :=
  let old := pairOf l c.Key
  let fnd : ApiAnswer := ⟨c.Client, c.Seq, 0, old.isSome, (old.getD noPair).Val, 0⟩
  if c.Kind = 2 then (if old.isSome = true ∨ l.length < 64 then (pairIns l ⟨c.Key, c.Val, 0⟩, fnd) else (l, ⟨c.Client, c.Seq, 11, false, [], 0⟩))
  else if c.Kind = 3 then (l, fnd)
  else if c.Kind = 4 then (pairDel l c.Key, fnd)
  else (l, ⟨c.Client, c.Seq, 8, false, [], 0⟩)
set_option maxHeartbeats 1000000 in
theorem kvone_Do_spec {s : Sl} {l : List ApiPair} {c : ApiCmd} {K : Sl × ApiAnswer → World → Prop} {w : World} (hs : IsSl eApiPair w s l) (hu : PUp l) (hle : l.length ≤ 100000)
    (hK : ∀ s' w', OwnSl eApiPair w' w.heap.size s' (doOne l c).1 → Ext w w' → K (s', (doOne l c).2) w') : kvone_Do s c K w := by
  unfold kvone_Do
  refine new_of fun b1 w1 hn1 => new_of fun b3 w2 hn3 => ?_
  have hb1 : b1 = w.heap.size := hn1.1
  have hb3 : b3 = w1.heap.size := hn3.1
  have l1 := hn1.lt
  have l3 := hn3.lt
  have hx1 := Ext.new hn1
  have hx2 := hx1.trans' (Ext.new hn3)
  refine slices_Clone_api_Pair_api_Pair_calls (clone_pair_spec (hs.ext hx2) (by omega) fun out w3 ho hx3 => kp_ext hx3 (kp_ext hx3 ?_))
  have hx3' := hx2.trans' hx3
  refine new_of fun b7 w4 hn7 => wr_of fun w5 hw5 => ?_
  have hb7 : b7 = w3.heap.size := hn7.1
  have l7 := hn7.lt
  have hsz3 := hx3.size
  have hsz2 := (Ext.new hn3).size
  have hsz1 := hx1.size
  have hx34 := Ext.new hn7
  have hx35 : Ext w3 w5 := Below.wr hx34 (by omega) hw5
  refine kvone_Find_calls (kvone_Find_spec (hs.ext (hx3'.trans' hx35)) hu (by omega) fun w6 hx6 => kp_ext hx6 (kp_ext hx6 (kp_ext hx6 ?_)))
  have hx36 := hx35.trans' hx6
  refine new_of fun b12 w7 hn12 => wr_of fun w8 hw8 => ?_
  have hb12 : b12 = w6.heap.size := hn12.1
  have l12 := hn12.lt
  have hsz36 := hx36.size
  have hx38 : Ext w3 w8 := Below.wr (hx36.trans' (Ext.new hn12)) (by omega) hw8
  have hx8 : Ext w w8 := hx3'.trans' hx38
  have ho8 := ho.ext hx38
  have hsz8 := hx38.size
  have hsz5 : w3.heap.size ≤ w5.heap.size := hx35.size
  have hs5 := hw5.size
  have hs8 := hw8.size
  have hs56 := hx6.size
  -- own variables are kept where the clone is turned
  have blk3 := own_blk' ho
  have kq : ∀ {w' : World} {X : Prop} (b : Nat), b = b12 ∨ b = b7 ∨ b = b3 ∨ b = b1 → w8.grownBy w' out.blk → X → kp b w8 w' X := fun b hb hg x => kp_grown hg (fun e => by
    have h1 := blk3 b e.symm
    have h2 := ho.ge b e.symm
    omega) x
  have hout7 : out.blk ≠ some b7 := fun e => by have := blk3 _ e; omega
  have hout3 : ∀ {w' : World} {s' : Sl} {r : List ApiPair}, OwnSl eApiPair w' w2.heap.size s' r → s'.blk ≠ some b3 := fun h e => by have := h.ge _ e; omega
  have wr7 : ∀ {w' w'' : World} {s' : Sl} {r : List ApiPair}, Ext w w' → OwnSl eApiPair w' w2.heap.size s' r → s'.blk ≠ some b7 → Wr b7 w' w'' → Ext w w'' ∧ OwnSl eApiPair w'' w2.heap.size s' r := fun hx ho hne hw =>
    ⟨Below.wr hx (by omega) hw, ho.grownB (grown_wr hw) (fun b hb e => hne (by rw [hb, e]))⟩
  have wr3 : ∀ {w' w'' : World} {s' : Sl} {r : List ApiPair}, Ext w w' → OwnSl eApiPair w' w2.heap.size s' r → Wr b3 w' w'' → Ext w w'' ∧ OwnSl eApiPair w'' w2.heap.size s' r := fun hx ho hw =>
    ⟨Below.wr hx (by omega) hw, ho.grownB (grown_wr hw) (fun b hb e => hout3 ho (by rw [hb, e]))⟩
  have hBw : w.heap.size ≤ w2.heap.size := hx2.size
  refine ⟨fun s' t a w' => Ext w w' ∧ OwnSl eApiPair w' w2.heap.size s' (doOne l c).1 ∧ s'.blk ≠ some b7 ∧ a = ⟨c.Client, c.Seq, 0, false, [], 0⟩ ∧ (doOne l c).2 = ⟨c.Client, c.Seq, 0, (pairOf l c.Key).isSome, ((pairOf l c.Key).getD noPair).Val, 0⟩, ?_, ?_⟩
  · refine ifEq (fun h2 => ?_) (fun h2 => ifEq (fun h3 => ?_) (fun h3 => ifEq (fun h4 => ?_) (fun h4 => ?_)))
    · refine kvone_put_calls (l := out) (p := ⟨c.Key, c.Val, 0⟩) (kvone_put_spec (p := ⟨c.Key, c.Val, 0⟩) ho8 (by omega) hu hle (fun s' w9 hroom ho9 hg9 hn9 => ?_) (fun w9 hroom ho9 hg9 => ?_))
      · refine kq _ (.inl rfl) hg9 (kq _ (.inr (.inl rfl)) hg9 (kq _ (.inr (.inr (.inl rfl))) hg9 (kq _ (.inr (.inr (.inr rfl))) hg9 ?_)))
        have hd : doOne l c = (pairIns l ⟨c.Key, c.Val, 0⟩, ⟨c.Client, c.Seq, 0, (pairOf l c.Key).isSome, ((pairOf l c.Key).getD noPair).Val, 0⟩) := by unfold doOne; simp only; rw [if_pos h2, if_pos hroom]
        refine ifNot (ifB_t rfl ⟨Ext.own hx8 ho8 hBw hg9, by rw [hd]; exact ho9, hn9.ne (by omega) hout7, rfl, by rw [hd]⟩)
      · refine kq _ (.inl rfl) hg9 (kq _ (.inr (.inl rfl)) hg9 (kq _ (.inr (.inr (.inl rfl))) hg9 (kq _ (.inr (.inr (.inr rfl))) hg9 ?_)))
        have hd : doOne l c = (l, ⟨c.Client, c.Seq, 11, false, [], 0⟩) := by unfold doOne; simp only; rw [if_pos h2, if_neg hroom]
        refine ifNot (ifB_f rfl (wr_of fun w10 hw10 => ?_))
        obtain ⟨hx10, ho10⟩ := wr7 (Ext.own hx8 ho8 hBw hg9) ho9 hout7 hw10
        refine heldM_of (fun _ => True) fun w11 hx11 => ⟨trivial, wr_of fun w12 hw12 => ⟨trivial, ?_⟩⟩
        obtain ⟨hx12, ho12⟩ := wr3 (hx10.trans' hx11) (ho10.ext hx11) hw12
        have := hK out w12 (by rw [hd]; exact ho12.mono hBw) hx12
        rw [hd] at this
        exact this
    · have hd : doOne l c = (l, ⟨c.Client, c.Seq, 0, (pairOf l c.Key).isSome, ((pairOf l c.Key).getD noPair).Val, 0⟩) := by unfold doOne; simp only; rw [if_neg h2, if_pos h3]
      exact ⟨hx8, by rw [hd]; exact ho8, hout7, rfl, by rw [hd]⟩
    · refine kvone_del_calls (l := out) (key := c.Key) (kvone_del_spec ho8 (by omega) hu hle fun s' w9 ho9 hg9 hn9 => ?_)
      refine kq _ (.inl rfl) hg9 (kq _ (.inr (.inl rfl)) hg9 (kq _ (.inr (.inr (.inl rfl))) hg9 (kq _ (.inr (.inr (.inr rfl))) hg9 ?_)))
      have hd : doOne l c = (pairDel l c.Key, ⟨c.Client, c.Seq, 0, (pairOf l c.Key).isSome, ((pairOf l c.Key).getD noPair).Val, 0⟩) := by unfold doOne; simp only; rw [if_neg h2, if_neg h3, if_pos h4]
      exact ⟨Ext.own hx8 ho8 hBw hg9, by rw [hd]; exact ho9, hn9.ne (by omega) hout7, rfl, by rw [hd]⟩
    · have hd : doOne l c = (l, ⟨c.Client, c.Seq, 8, false, [], 0⟩) := by unfold doOne; simp only; rw [if_neg h2, if_neg h3, if_neg h4]
      refine wr_of fun w10 hw10 => ?_
      obtain ⟨hx10, ho10⟩ := wr7 hx8 ho8 hout7 hw10
      refine heldM_of (fun _ => True) fun w11 hx11 => ⟨trivial, wr_of fun w12 hw12 => ⟨trivial, ?_⟩⟩
      obtain ⟨hx12, ho12⟩ := wr3 (hx10.trans' hx11) (ho10.ext hx11) hw12
      have := hK out w12 (by rw [hd]; exact ho12.mono hBw) hx12
      rw [hd] at this
      exact this
  · rintro s' t a w9 ⟨hx9, ho9, hne9, rfl, hd⟩
    refine heldM_of (fun _ => True) fun w10 hx10 => ⟨trivial, wr_of fun w11 hw11 => ⟨trivial, wr_of fun w12 hw12 => ⟨trivial, ?_⟩⟩⟩
    obtain ⟨hx11, ho11⟩ := wr7 (hx9.trans' hx10) (ho9.ext hx10) hne9 hw11
    obtain ⟨hx12, ho12⟩ := wr7 hx11 ho11 hne9 hw12
    refine heldM_of (fun _ => True) fun w13 hx13 => ⟨trivial, wr_of fun w14 hw14 => ⟨trivial, ?_⟩⟩
    obtain ⟨hx14, ho14⟩ := wr3 (hx12.trans' hx13) (ho12.ext hx13) hw14
    have := hK s' w14 (ho14.mono hBw) hx14
    rw [hd] at this
    exact this
end Go.Chg
