/-
  What package 'kvtwo' does: a command, and pairs without revisions.
-/
import Derived.Test.YtapepehccddjpaaDoorSpKv2
set_option maxRecDepth 20000
set_option linter.unusedVariables false
namespace Go.Vc
open Go
variable {P : Program} {w : World} {α β : Type}
/-- A store into a part of a place of an own slice. -/
theorem run_fst_own {E : Enc α} {B m off : Nat} {t : TypeId} {s : Sl} {l : List α} {k : Nat} {v : Value} {x : α} (ht : sizeT P t = some m) (h : OwnSl E w B s l) (hk : k < l.length) (hm : v.cells.toList.length = m) (ho : ∀ u ∈ v.cells.toList, u.oneCell' = true) (hfit : off + m ≤ E.sz)
    (hx : ∀ i, i < E.sz → (E.cs x)[i]? = if i < off then (E.cs l[k])[i]? else if i < off + m then v.cells.toList[i - off]? else (E.cs l[k])[i]?) :
    ∃ w', (Instr.storeAt t (.pointer (some ((s.at k E.sz).add off))) v).run P w = .ok () w' ∧ w.grownBy w' s.blk ∧ OwnSl E w' B s (l.set k x) := by
  rcases h.row with ⟨_, h0⟩ | ⟨g, cur, ha, hB, hr, hl, hc, hmx, hs, htk⟩
  · subst h0; simp at hk
  generalize hvs : v.cells.toList = vs at hm ho hx
  have e1 : (s.at k E.sz).add off = ⟨g, k * E.sz + off, none⟩ := by simp [Sl.at, ha, addr_add]
  have hle : (k + 1) * E.sz ≤ s.cap * E.sz := Nat.mul_le_mul_right _ (by omega)
  have hkm : (k + 1) * E.sz = k * E.sz + E.sz := by rw [Nat.add_mul, Nat.one_mul]
  have hfit' : k * E.sz + off + 0 + vs.length ≤ cur.length := by rw [hm, hs]; omega
  obtain ⟨w', r1, r2, r3⟩ := hr.store (P := P) (o := k * E.sz + off) (i := 0) (vs := vs) hfit' ho
  refine ⟨w', ?_, ?_, ?_⟩
  · rw [e1]
    have hl' : v.cells.size = m := by rw [← Array.length_toList, hvs, hm]
    simp only [Instr.storeAt, Instr.sureAddr, pure_bind, storeVar, Sem.run_bind, run_size ht, Result.andThen_ok, hl', ne_eq, not_true_eq_false, if_false]
    rw [hvs]
    exact r1
  · rw [show s.blk = some g from by simp [Sl.blk, ha]]
    exact grown_wr r2
  · refine OwnSl.of_row ha hB r3 (by simpa using hl) hc hmx (by rw [lay_len (by simpa using hfit')]; exact hs) ?_
    rw [Nat.add_zero, List.length_set]
    apply List.ext_getElem?
    intro i
    have hll : (l.set k x).length = l.length := by simp
    by_cases hi : i < l.length * E.sz
    · rw [List.getElem?_take, if_pos hi, lay_get (by simpa using hfit'), hm]
      have hq : i / E.sz < l.length := Nat.div_lt_of_lt_mul (by rw [Nat.mul_comm]; exact hi)
      have hsplit : i = i / E.sz * E.sz + i % E.sz := by rw [Nat.mul_comm]; exact (Nat.div_add_mod i E.sz).symm
      have hmod := Nat.mod_lt i E.pos
      have rhs : ((l.set k x).flatMap E.cs)[i]? = (E.cs ((l.set k x)[i / E.sz]'(by simpa using hq)))[i % E.sz]? := by
        conv => lhs; rw [hsplit]
        exact E.flat_get _ _ _ (by simpa using hq) hmod
      have old : cur[i]? = (E.cs l[i / E.sz])[i % E.sz]? := by
        have h1 : cur[i]? = (cur.take (l.length * E.sz))[i]? := by rw [List.getElem?_take, if_pos hi]
        rw [h1, htk]
        conv => lhs; rw [hsplit]
        exact E.flat_get _ _ _ hq hmod
      rw [rhs]
      by_cases hik : i / E.sz = k
      · have e3 : (l.set k x)[i / E.sz]'(by simpa using hq) = x := by simp [hik]
        have e4 : l[i / E.sz] = l[k] := by simp [hik]
        rw [e3, hx _ hmod, old, e4]
        rw [hik] at hsplit
        have c1 : i < k * E.sz + off ↔ i % E.sz < off := by omega
        have c2 : i < k * E.sz + off + m ↔ i % E.sz < off + m := by omega
        have c3 : i - (k * E.sz + off) = i % E.sz - off := by omega
        by_cases h2 : i % E.sz < off
        · rw [if_pos (c1.2 h2), if_pos h2]
        · rw [if_neg (fun h => h2 (c1.1 h)), if_neg h2]
          by_cases h3 : i % E.sz < off + m
          · rw [if_pos (c2.2 h3), if_pos h3, c3]
          · rw [if_neg (fun h => h3 (c2.1 h)), if_neg h3]
      · have e2 : (l.set k x)[i / E.sz]'(by simpa using hq) = l[i / E.sz] := by
          rw [List.getElem_set, if_neg (Ne.symm hik)]
        rw [e2, ← old]
        by_cases h2 : i < k * E.sz + off
        · rw [if_pos h2]
        · have h3 : ¬ i < k * E.sz + off + m := by
            intro h3
            apply hik
            refine Nat.le_antisymm ?_ ?_
            · have : i / E.sz < k + 1 := Nat.div_lt_of_lt_mul (by rw [Nat.mul_comm]; omega)
              omega
            · rw [Nat.le_div_iff_mul_le E.pos]; omega
          rw [if_neg h2, if_neg h3]
    · rw [List.getElem?_take, if_neg hi, List.getElem?_eq_none]
      rw [E.length_flat, hll]; omega
theorem fst_own {E : Enc α} {B m off : Nat} {t : TypeId} {s : Sl} {l : List α} {k : Nat} {v : Value} {K : World → Prop} (x : α) (ht : sizeT P t = some m) (h : OwnSl E w B s l) (hk : k < l.length) (hm : v.cells.toList.length = m) (ho : ∀ u ∈ v.cells.toList, u.oneCell' = true) (hfit : off + m ≤ E.sz)
    (hx : ∀ i, i < E.sz → (E.cs x)[i]? = if i < off then (E.cs l[k])[i]? else if i < off + m then v.cells.toList[i - off]? else (E.cs l[k])[i]?)
    (hK : ∀ w', OwnSl E w' B s (l.set k x) → w.grownBy w' s.blk → K w') : opUn P (Instr.storeAt t (.pointer (some ((s.at k E.sz).add off))) v) K w := by
  obtain ⟨w', h1, h2, h3⟩ := run_fst_own ht h hk hm ho hfit hx
  exact ⟨w', h1, hK w' h3 h2⟩
end Go.Vc
namespace Go.Chg
open Go.Vc
def bare (p : ApiPair) : ApiPair := ⟨p.Key, p.Val, 0⟩
theorem kvtwo_Plain_spec {s : Sl} {l : List ApiPair} {K : Sl → World → Prop} {w : World} (hs : IsSl eApiPair w s l) (hle : l.length ≤ 100000)
    (hK : ∀ s' w', OwnSl eApiPair w' w.heap.size s' (l.map bare) → Ext w w' → K s' w') : kvtwo_Plain s K w := by
  unfold kvtwo_Plain
  refine slices_Clone_api_Pair_api_Pair_calls (clone_pair_spec hs (by omega) fun out w1 ho1 hx1 => ?_)
  have hl := ho1.len
  refine up1 (fun k w' => Ext w w' ∧ OwnSl eApiPair w' w.heap.size out ((l.take k).map bare ++ l.drop k)) 0 l.length rfl (by omega) (by omega) ⟨hx1, by simpa using ho1⟩ ?_
  rintro k w2 C _ hk ⟨hx2, ho2⟩ hC
  refine ifD (fun hlt => ?_) (fun hge => hK _ _ ?_ hx2)
  · have hk1 : k < l.length := by omega
    have hlen : ((l.take k).map bare ++ l.drop k).length = l.length := by simp; omega
    have htl : ((l.take k).map bare).length = k := by simp; omega
    have hget : ((l.take k).map bare ++ l.drop k)[k]'(by omega) = l[k] := by
      apply Option.some.inj
      rw [← List.getElem?_eq_getElem, ← List.getElem?_eq_getElem, List.getElem?_append_right (by omega), htl, Nat.sub_self, List.getElem?_drop, Nat.add_zero]
    refine ix_own (by kernel_rfl) ho2 rfl (by omega) ?_
    refine fst_own (m := 1) (bare l[k]) (by kernel_rfl) ho2 (by omega) rfl (fun u hu => by cases List.mem_singleton.1 hu; rfl) (by decide) ?_ fun w3 ho3 hg3 => hC hk1 _ _ rfl ⟨Ext.own hx2 ho2 (Nat.le_refl _) hg3, ?_⟩
    · intro i hi
      rw [hget]
      have hi' : i < 3 := hi
      match i, hi' with
      | 0, _ => rfl
      | 1, _ => rfl
      | 2, _ => rfl
    · rw [List.set_append_right _ _ (by omega), htl, Nat.sub_self, List.drop_eq_getElem_cons hk1] at ho3
      rw [List.take_succ_eq_append_getElem hk1, List.map_append, List.append_assoc]
      exact ho3
  · have : l.length ≤ k := by omega
    rw [List.take_of_length_le this, List.drop_of_length_le this, List.append_nil] at ho2
    exact ho2
def doTwo (l : List ApiPair) (c : ApiCmd) : List ApiPair × ApiAnswer :=
  if c.Kind = 5 then casOne l c
  else if c.Kind = 2 ∧ (doOne l c).2.Err = 0 then (pairIns (doOne l c).1 ⟨c.Key, c.Val, nextRev ((pairOf l c.Key).getD noPair).Rev⟩, (doOne l c).2) else doOne l c
theorem kvtwo_Do_spec {s : Sl} {l : List ApiPair} {c : ApiCmd} {K : Sl × ApiAnswer → World → Prop} {w : World} (hs : IsSl eApiPair w s l) (hu : PUp l) (hle : l.length ≤ 10000)
    (hK : ∀ s' w', OwnSl eApiPair w' w.heap.size s' (doTwo l c).1 → Ext w w' → K (s', (doTwo l c).2) w') : kvtwo_Do s c K w := by
  unfold kvtwo_Do
  refine new_of fun b1 w1 hn1 => new_of fun b3 w2 hn3 => ?_
  have hb1 := hn1.1
  have hb3 := hn3.1
  have l1 := hn1.lt
  have l3 := hn3.lt
  have z1 := (Ext.new hn1).size
  have z3 := (Ext.new hn3).size
  have hx2 := (Ext.new hn1).trans' (Ext.new hn3)
  refine slices_Clone_api_Pair_api_Pair_calls (clone_pair_spec (hs.ext hx2) (by omega) fun out w3 ho hx3 => kp_ext hx3 (kp_ext hx3 ?_))
  have hx3' := hx2.trans' hx3
  have z3' := hx3.size
  have blk3 := own_blk' ho
  have own : ∀ {b : Nat} {u v : World}, w.heap.size ≤ b → Ext w u → Wr b u v → Ext w v := fun hb hx hw => Below.wr hx hb hw
  have fin : ∀ {u v : World} {s' : Sl} {r : List ApiPair × ApiAnswer}, Ext w u → OwnSl eApiPair u w2.heap.size s' r.1 → doTwo l c = r → Wr b3 u v → K (s', r.2) v := fun {u v s' r} hx ho he hw => by
    have hx' := own (b := b3) (by omega) hx hw
    have ho' := ho.grownB (grown_wr hw) (fun b hb e => by have := ho.ge b hb; cases e; omega)
    have := hK s' v (by rw [he]; exact ho'.mono hx2.size) hx'
    rw [he] at this
    exact this
  refine ifEq (fun h5 => ?_) (fun h5 => ?_)
  · refine kvtwo_cas_calls (l := out) (c := c) (kvtwo_cas_spec ho (by omega) hu (by omega) fun s' w4 ho4 hg4 hn4 => ?_)
    refine kp_own ho (by omega) hg4 (kp_own ho (by omega) hg4 (wr_of fun w5 hw5 => ?_))
    exact fin (Ext.own hx3' ho (by omega) hg4) ho4 (by unfold doTwo; rw [if_pos h5]) hw5
  · refine kvone_Find_calls (kvone_Find_spec ho.is hu (by omega) fun w4 hx4 => kp_ext hx4 (kp_ext hx4 ?_))
    have hx4' := hx3'.trans' hx4
    have z4 := hx4.size
    refine new_of fun b12 w5 hn12 => wr_of fun w6 hw6 => ?_
    have hb12 := hn12.1
    have l12 := hn12.lt
    have e6 := hw6.size
    have hx36 : Ext w3 w6 := Below.wr (hx4.trans' (Ext.new hn12)) (by omega) hw6
    have hx6 := hx3'.trans' hx36
    refine kvone_Do_calls (l := out) (c := c) (kvone_Do_spec (c := c) (ho.is.ext hx36) hu (by omega) fun s' w7 ho7 hx7 => kp_ext hx7 (kp_ext hx7 (kp_ext hx7 ?_)))
    have hx7' := hx6.trans' hx7
    have z7 := hx7.size
    have blk7 := own_blk' ho7
    refine new_of fun b17 w8 hn17 => wr_of fun w9 hw9 => ?_
    have hb17 := hn17.1
    have hx79 : Ext w7 w9 := Below.wr (Ext.new hn17) (by omega) hw9
    have hx9 := hx7'.trans' hx79
    have ho9 := ho7.ext hx79
    have z9 := hx79.size
    have stay : ∀ {u v : World}, Ext w9 u → ¬ (c.Kind = 2 ∧ (doOne l c).2.Err = 0) → Wr b3 u v → K (s', (doOne l c).2) v := fun hx hno hw =>
      fin (r := doOne l c) (hx9.trans' hx) ((ho9.ext hx).mono (by omega)) (by unfold doTwo; rw [if_neg h5, if_neg hno]) hw
    refine ifEq (fun h2 => ifEq (fun he => ?_) (fun he => ?_)) (fun h2 => ?_)
    · refine heldM_of (fun _ => True) fun w10 hx10 => ?_
      refine ⟨trivial, kvtwo_next_calls (kvtwo_next_spec ?_)⟩
      refine kp_same (kp_same (kp_same (kp_same ⟨trivial, ?_⟩)))
      have ho10 := ho9.ext hx10
      have z10 := hx10.size
      have hu7 := doOne_up hu c
      have hl7 := doOne_len l c
      refine kvtwo_set_calls (l := s') (p := ⟨c.Key, c.Val, nextRev ((pairOf l c.Key).getD noPair).Rev⟩) (kvtwo_set_spec ho10 (by omega) hu7 (by omega) fun s2 w11 ho11 hg11 hn11 => ?_)
      refine kp_grown hg11 (fun e => by have := blk7 _ e.symm; omega) (kp_own ho10 (by omega) hg11 (kp_own ho10 (by omega) hg11 (kp_own ho10 (by omega) hg11 ⟨trivial, ?_⟩)))
      refine heldM_of (fun _ => True) fun w12 hx12 => ⟨trivial, wr_of fun w13 hw13 => ⟨trivial, ?_⟩⟩
      have hx11 := Ext.own (hx9.trans' hx10) ho10 (by omega) hg11
      exact fin (r := (pairIns (doOne l c).1 ⟨c.Key, c.Val, nextRev ((pairOf l c.Key).getD noPair).Rev⟩, (doOne l c).2)) (hx11.trans' hx12) ((ho11.ext hx12).mono (by omega)) (by unfold doTwo; rw [if_neg h5, if_pos ⟨h2, he⟩]) hw13
    · exact heldM_of (fun _ => True) fun w10 hx10 => ⟨trivial, wr_of fun w11 hw11 => ⟨trivial, stay hx10 (fun h => he h.2) hw11⟩⟩
    · exact heldM_of (fun _ => True) fun w10 hx10 => ⟨trivial, wr_of fun w11 hw11 => ⟨trivial, stay hx10 (fun h => h2 h.1) hw11⟩⟩
end Go.Chg
