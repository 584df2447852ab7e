/-
  Package 'ledger': what comes next.
-/
import Derived.Test.YtnnoalpkldpjfaaSpLdg1
import Derived.Test.YtnnoalpkldpjfaaRng2
set_option maxRecDepth 20000
set_option linter.unusedVariables false
namespace Go.Chg
open Go.Vc
open Go.RowKit (Below)
variable {w : World} {s : Sl} {l f : List ApiEntry} {a n : Int} {ql qa : Addr}
/-! ### The run behind an index -/
def runE (a : Int) : List ApiEntry → List ApiEntry
  | [] => []
  | x :: r => if x.Index = a + 1 then x :: runE (a + 1) r else []
def fromE (a : Int) (l : List ApiEntry) : List ApiEntry := l.filter fun x => decide (a + 1 ≤ x.Index)
theorem from_up (hu : EUp l) : EUp (fromE a l) := Up.filter hu _
theorem from_len (a : Int) (l : List ApiEntry) : (fromE a l).length ≤ l.length := List.length_filter_le _ _
theorem up_cons {x : ApiEntry} {r : List ApiEntry} (h : EUp (x :: r)) : (∀ y ∈ r, x.Index < y.Index) ∧ EUp r := by
  obtain ⟨h1, h2⟩ := List.pairwise_cons.1 h
  exact ⟨fun y hy => cmpI_neg.1 (h1 y hy), h2⟩
theorem up_low : ∀ {f : List ApiEntry} {a : Int}, EUp f → (∀ x ∈ f, a + 1 ≤ x.Index) → ∀ k (hk : k < f.length), a + 1 + k ≤ f[k].Index
  | [], _, _, _, k, hk => by simp at hk
  | x :: r, a, hu, h, 0, _ => by have := h x (by simp); simpa using this
  | x :: r, a, hu, h, k + 1, hk => by
    obtain ⟨h1, h2⟩ := up_cons hu
    have h0 := h x (by simp)
    have hk' : k < r.length := by simpa using hk
    have := up_low (a := a + 1) h2 (fun y hy => by have := h1 y hy; omega) k hk'
    simp only [List.getElem_cons_succ]
    omega
theorem from_low : ∀ x ∈ fromE a l, a + 1 ≤ x.Index := fun x hx => by
  have := (List.mem_filter.1 hx).2
  simpa using this
theorem run_take : ∀ {f : List ApiEntry} {a : Int} {k : Nat}, k ≤ f.length → (∀ j (hj : j < f.length), j < k → f[j].Index = a + 1 + j) → runE a f = f.take k ++ runE (a + k) (f.drop k)
  | f, a, 0, _, _ => by simp
  | [], a, k + 1, hk, _ => by simp at hk
  | x :: r, a, k + 1, hk, h => by
    have h0 := h 0 (by simp) (by omega)
    simp only [List.getElem_cons_zero] at h0
    have hi : x.Index = a + 1 := by simpa using h0
    rw [runE, if_pos hi, run_take (f := r) (a := a + 1) (k := k) (by simpa using hk) (fun j hj hjk => by
      have := h (j + 1) (by simpa using hj) (by omega)
      simp only [List.getElem_cons_succ] at this
      rw [this]
      omega)]
    rw [List.take_succ_cons, List.drop_succ_cons, show a + 1 + (k : Int) = a + ((k + 1 : Nat) : Int) from by omega]
    rfl
theorem run_len : ∀ (f : List ApiEntry) (a : Int), (runE a f).length ≤ f.length
  | [], _ => Nat.le_refl _
  | x :: r, a => by
    rw [runE]
    split
    · have := run_len r (a + 1)
      simp only [List.length_cons]
      omega
    · exact Nat.zero_le _
theorem run_mem : ∀ {f : List ApiEntry} {a : Int} {x : ApiEntry}, x ∈ runE a f → x ∈ f
  | [], _, x, h => h
  | y :: r, a, x, h => by
    rw [runE] at h
    split at h
    · rcases List.mem_cons.1 h with rfl | h
      · simp
      · exact List.mem_cons_of_mem _ (run_mem h)
    · cases h
theorem run_up : ∀ {f : List ApiEntry} {a : Int}, EUp f → EUp (runE a f)
  | [], _, _ => List.Pairwise.nil
  | y :: r, a, h => by
    obtain ⟨h1, h2⟩ := List.pairwise_cons.1 h
    rw [runE]
    split
    · exact List.pairwise_cons.2 ⟨fun x hx => h1 x (run_mem hx), run_up h2⟩
    · exact List.Pairwise.nil
/-- One more element behind. -/
theorem run_snoc : ∀ {g : List ApiEntry} {a : Int} {x : ApiEntry}, EUp (g ++ [x]) → (∀ y ∈ g ++ [x], a + 1 ≤ y.Index) → runE a (g ++ [x]) = if x.Index = a + 1 + (runE a g).length then runE a g ++ [x] else runE a g
  | [], a, x, _, h => by simp [runE]
  | y :: g, a, x, hu, h => by
    obtain ⟨h1, h2⟩ := up_cons (x := y) (r := g ++ [x]) hu
    have h0 := h y (by simp)
    show runE a (y :: (g ++ [x])) = _
    rw [runE, runE]
    by_cases hy : y.Index = a + 1
    · rw [if_pos hy, if_pos hy, run_snoc h2 (fun z hz => by have := h1 z hz; omega)]
      have e : (x.Index = a + 1 + 1 + ((runE (a + 1) g).length : Int)) ↔ (x.Index = a + 1 + (((y :: runE (a + 1) g).length : Nat) : Int)) := by
        rw [List.length_cons]
        omega
      by_cases hc : x.Index = a + 1 + 1 + ((runE (a + 1) g).length : Int)
      · rw [if_pos hc, if_pos (e.1 hc)]; rfl
      · rw [if_neg hc, if_neg (fun h => hc (e.2 h))]
    · rw [if_neg hy, if_neg hy]
      have := h1 x (by simp)
      rw [if_neg (by simp; omega)]
/-! ### The iterator -/
theorem kp_eq {b : Nat} {w w' : World} {X : Prop} (h : w'.heap[b]? = w.heap[b]?) (x : X) : kp b w w' X := ⟨fun _ => h, x⟩
theorem behind_1_spec {Y : Value} {Inv : List ApiEntry → Sl × Unit → World → Prop} {InvX : World → Prop} {G : List ApiEntry → ApiEntry → Prop} {Rk : Sl × Unit → World → Sl × Unit → World → Prop} {K : Unit → World → Prop} (Bad : Nat → Prop)
    (hs : IsSl eApiEntry w s l) (hol : Vc.Obj w ql [s.val]) (hoa : Vc.Obj w qa [.int .i64 a]) (hu : EUp l) (hle : l.length ≤ 1000) (ha : 0 ≤ a) (ha2 : a < 9223372036854775807) (hwf : ∀ x ∈ l, x.Index ≤ 9223372036854775807)
    (h0 : Inv [] (Sl.nil, ()) w) (hSp : ∀ pre t W W', Inv pre t W → W.grownBy W' (some qa.block) → Inv pre t W') (hE : ∀ pre t W, Inv pre t W → ∀ c, t.1.blk = some c → c ≠ qa.block ∧ c < W.heap.size)
    (hRk : ∀ t W t' W', Rk t W t' W' → W.heap.size ≤ W'.heap.size ∧ (∀ b, b < W.heap.size → ¬ Bad b → some b ≠ t.1.blk → W'.heap[b]? = W.heap[b]?) ∧ (∀ c, t'.1.blk = some c → t.1.blk = some c ∨ W.heap.size ≤ c))
    (hBad : ∀ b, Bad b → b < w.heap.size ∧ b ≠ qa.block)
    (hY : ∀ pre x t W (K : Bool → World → Prop), G pre x → Inv pre t W → (∀ t' W', Rk t W t' W' → Inv (pre ++ [x]) t' W' → K true W') → (∀ W', InvX W' → K false W') → callF Pr Value.bool Y #[ApiEntry.val x] W K)
    (hnX : ∀ W, ¬ InvX W) (hG : ∀ pre x post, runE a (fromE a l) = pre ++ x :: post → G pre x) (hK : ∀ t w', Inv (runE a (fromE a l)) t w' → K () w') : ledger_behind_1 Y ql qa K w := by
  unfold ledger_behind_1
  have lqa := hoa.lt
  refine ld_obj0 (val := Sl.val) (y := s) (by kernel_rfl) hol rfl ?_
  refine ld_obj0 (val := Value.int .i64) (y := a) (by kernel_rfl) hoa rfl ?_
  rw [i64_id (by omega) (by omega)]
  refine entry_From_calls (entry_From_spec hs hu (by omega) fun t3 w4 ho hx4 => ?_)
  obtain ⟨f, hf⟩ : ∃ f, f = fromE a l := ⟨_, rfl⟩
  have ho : OwnSl eApiEntry w4 w.heap.size t3 f := by rw [hf]; exact ho
  have hfu : EUp f := by rw [hf]; exact from_up hu
  have hfl : f.length ≤ 1000 := by rw [hf]; exact Nat.le_trans (from_len a l) hle
  have hlow : ∀ x ∈ f, a + 1 ≤ x.Index := by rw [hf]; exact from_low
  have hhi : ∀ x ∈ f, x.Index ≤ 9223372036854775807 := fun x hx => by rw [hf] at hx; exact hwf x (List.mem_filter.1 hx).1
  rw [← hf] at hG hK
  have hb3 : ∀ c, t3.blk = some c → w.heap.size ≤ c ∧ c < w4.heap.size := fun c hc => ⟨ho.ge c hc, ho.lt c hc⟩
  have hlen := ho.len
  refine up1 (fun k W => (∀ j (hj : j < f.length), j < k → f[j].Index = a + 1 + j) ∧ w4.heap.size ≤ W.heap.size ∧ IsSl eApiEntry W t3 f ∧ Vc.Obj W qa [.int .i64 (a + k)] ∧ ∃ t, Inv (f.take k) t W ∧ ∀ c, t.1.blk = some c → t3.blk ≠ some c) 0 f.length rfl (Nat.zero_le _) (by omega)
    ⟨fun j hj h => by omega, Nat.le_refl _, ho.is, by simpa using hoa.ext hx4, (Sl.nil, ()), hSp _ _ _ _ h0 (grown_ext hx4 _), fun c hc => by cases hc⟩ ?_
  rintro k W C _ hk ⟨hrun, hz, hst, hqa, t, hi, hd⟩ hC
  have htake := run_take hk hrun
  refine ifD (fun hlt => ?_) (fun hge => ?_)
  rotate_left
  · have hkl : k = f.length := by omega
    subst hkl
    rw [List.drop_length] at htake
    rw [htake] at hK
    exact hK t W (by simpa [runE] using hi)
  have hk1 : k < f.length := by omega
  refine st_rd (E := eApiEntry) (val := ApiEntry.val) (by kernel_rfl) (by kernel_rfl) hst rfl hk1 (fun _ => rfl) fun _ => ?_
  refine new_x (Ext.rfl' W) fun b10 w11 h10 l10 hx11 n10 => wr_x hx11 h10 fun w12 hx12 hw12 => ?_
  have e10 : b10 = W.heap.size := n10.1
  have hlo := up_low hfu hlow k hk1
  have hhk := hhi f[k] (List.getElem_mem hk1)
  have hq12 := hqa.ext hx12
  have hdrop : f.drop k = f[k] :: f.drop (k + 1) := by rw [List.getElem_cons_drop]
  refine ld_obj0 (val := Value.int .i64) (y := a + k) (by kernel_rfl) hq12 rfl ?_
  have e1 : i64 (a + k + 1) = a + k + 1 := i64_id (by omega) (by omega)
  rw [e1]
  refine ifNe (fun hne => ?_) (fun heq => ?_)
  · have : runE a f = f.take k := by
      rw [htake, hdrop, runE, if_neg (by omega), List.append_nil]
    rw [this] at hK
    exact hK t w12 (hSp _ _ _ _ hi (grown_ext hx12 _))
  have hnext : runE a f = f.take k ++ f[k] :: runE (a + k + 1) (f.drop (k + 1)) := by
    rw [htake, hdrop, runE, if_pos heq]
  have hi12 := hSp _ _ _ _ hi (grown_ext hx12 (some qa.block))
  refine hY (f.take k) f[k] t w12 _ (hG _ _ _ hnext) hi12 (fun t' w15 hr hi' => ?_) (fun w15 hx' => absurd hx' (hnX _))
  obtain ⟨r1, r2, r3⟩ := hRk _ _ _ _ hr
  have hz12 := hx12.size
  have hw4 := hx4.size
  have keep : ∀ b, b < w12.heap.size → b ≠ qa.block → w.heap.size ≤ b → some b ≠ t.1.blk → w15.heap[b]? = w12.heap[b]? := fun b h1 h2 h3 h4 => r2 b h1 (fun hb => by have := (hBad b hb).1; omega) h4
  have hEt := hE _ _ _ hi
  have kq : w15.heap[qa.block]? = w12.heap[qa.block]? := r2 _ hq12.lt (fun hb => (hBad _ hb).2 rfl) (fun e => (hEt _ e.symm).1 rfl)
  refine kp_eq (keep b10 (by have := hw12.size; omega) (by omega) (by omega) (fun e => by have := (hEt _ e.symm).2; omega)) ?_
  refine ifNot (ifB_t rfl ?_)
  have hq15 := hq12.keep kq
  refine ld_obj0 (val := Value.int .i64) (y := a + k) (by kernel_rfl) hq15 rfl ?_
  rw [e1]
  refine st_obj0 (by kernel_rfl) hq15 rfl (by simp) fun w17 hw17 ho17 => kp_wr hw17 (by omega) ?_
  have hst15 : IsSl eApiEntry w15 t3 f := (hst.ext hx12).keep r1 fun b o hb hlt => by
    have hb' : t3.blk = some b := by simp [Sl.blk, hb]
    have := hb3 b hb'
    exact keep b hlt (by omega) this.1 (fun e => hd b e.symm hb')
  refine hC hk1 _ _ rfl ⟨fun j hj hjk => ?_, by have := hw17.size; omega, hst15.grownB (grown_wr hw17) (fun b hb e => ?_), ?_, t', ?_, fun c hc e => ?_⟩
  · by_cases h : j < k
    · exact hrun j hj h
    · have : j = k := by omega
      subst this
      omega
  · have := (hb3 b hb).1
    have := Option.some.inj e
    omega
  · rw [show a + ((k + 1 : Nat) : Int) = a + k + 1 from by omega]
    exact ho17
  · rw [List.take_add_one, List.getElem?_eq_getElem hk1]
    exact hSp _ _ _ _ hi' (grown_wr hw17)
  · have := hb3 c e
    rcases r3 c hc with h | h
    · exact hd c h e
    · omega
/-! ### ledger.Ready -/
theorem body_ofP {P : Program} {g : Nat} (h : (match P.funcs[g]? with | some fn => fn.body.isSome | none => false) = true) : ∃ fn, P.funcs[g]? = some fn ∧ fn.body.isSome = true := by
  split at h
  · rename_i fn hg
    exact ⟨fn, hg, h⟩
  · cases h
theorem from_none (h : ∀ x ∈ l, x.Index ≤ 9223372036854775807) (ha : 9223372036854775807 ≤ a) : fromE a l = [] := by
  unfold fromE
  rw [List.filter_eq_nil_iff]
  intro x hx
  have := h x hx
  rw [decide_eq_true_iff]
  omega
theorem ledger_Ready_spec {K : Sl → World → Prop} (hs : IsSl eApiEntry w s l) (hu : EUp l) (hle : l.length ≤ 1000) (ha : 0 ≤ a) (ha2 : a ≤ 9223372036854775807) (hwf : ∀ x ∈ l, x.Index ≤ 9223372036854775807) (hK : ∀ s' w', OwnSl eApiEntry w' w.heap.size s' (runE a (fromE a l)) → Ext w w' → K s' w') : ledger_Ready s a K w := by
  unfold ledger_Ready
  refine ledger_above_calls (?_ : ledger_above a _ w)
  unfold ledger_above
  refine ifNot (ifD (fun hlt => ?_) (fun hge => hK _ _ (by rw [from_none hwf (by omega)]; exact OwnSl.nil _ _ _) (Ext.rfl' _)))
  refine new_x (Ext.rfl' w) fun b3 w4 g3 l3 hx n3 => ?_
  refine ledger_behind_calls (?_ : ledger_behind s a _ w4)
  unfold ledger_behind
  refine box_ty fun ql w5 hql hx5 hol => box_ty fun qa w6 hqa hx6 hoa => ?_
  have hx56 := hx5.trans' hx6
  refine kp_ext hx56 ?_
  have hx := hx.trans' hx56
  have hol := hol.ext hx6
  have lqa := hoa.lt
  obtain ⟨fn, hfn, hbody⟩ := body_ofP (P := Pr) (g := fid_ledger_behind_1) (by kernel_rfl)
  refine ⟨fid_ledger_behind_1, #[.pointer (some ql), .pointer (some qa)], fn, rfl, hfn, hbody, fun D wD hD L w15 hL => ?_⟩
  have eD : D = w6.heap.size := hD.1
  have eL : L = wD.heap.size := hL.1
  have lD := hD.lt
  have lL := hL.lt
  have z5 := hx5.size
  have z6 := hx6.size
  have e3 : b3 = w.heap.size := n3.1
  have gL : w.heap.size ≤ L := by omega
  have gD : w.heap.size ≤ D := by omega
  have ga : w.heap.size ≤ qa.block := by omega
  have hx15 := (hx.trans' (Ext.new hD)).trans' (Ext.new hL)
  have hol15 := (hol.ext (Ext.new hD)).ext (Ext.new hL)
  have hoa15 := (hoa.ext (Ext.new hD)).ext (Ext.new hL)
  obtain ⟨B, hB⟩ : ∃ B, B = w15.heap.size := ⟨_, rfl⟩
  have rl : (runE a (fromE a l)).length ≤ 1000 := Nat.le_trans (run_len _ _) (Nat.le_trans (from_len a l) hle)
  refine ⟨fun pre out W => Ext w W ∧ B ≤ W.heap.size ∧ OwnSl eApiEntry W B out pre, fun _ => False, fun pre x => ∃ post, runE a (fromE a l) = pre ++ x :: post, fun xs => xs = runE a (fromE a l), fun W W' => W.grownBy W' (some qa.block),
    fun t W t' W' => W.heap.size ≤ W'.heap.size ∧ (∀ b, b < W.heap.size → ¬ (b = b3 ∨ b = L) → some b ≠ t.1.blk → W'.heap[b]? = W.heap[b]?) ∧ (∀ c, t'.1.blk = some c → t.1.blk = some c ∨ W.heap.size ≤ c), ?_, ?_, ?_, ?_, ?_, ?_, ?_, ?_⟩
  · exact ⟨hx15, by omega, OwnSl.nil _ _ _⟩
  · intro W W' hg
    have ne : ∀ b, b ≠ qa.block → some b ≠ some qa.block := fun b h e => h (Option.some.inj e)
    exact kp_grown hg (ne _ (by omega)) (kp_grown hg (ne _ (by omega)) (kp_grown hg (ne _ (by omega)) trivial))
  · rintro pre out W W' ⟨h1, h2, h3⟩ hg
    exact ⟨Ext.grown' h1 hg ga, Nat.le_trans h2 hg.size, h3.grownB hg fun c hc e => by have := h3.ge c hc; cases e; omega⟩
  · exact fun _ _ h => h.elim
  · -- a round
    rintro pre x ⟨post, hpost⟩ out W ⟨hxW, hBW, ho⟩
    have plen : pre.length + 1 ≤ 1000 := by
      have := congrArg List.length hpost
      rw [List.length_append, List.length_cons] at this
      omega
    have own : ∀ c, out.blk = some c → B ≤ c ∧ c < W.heap.size := fun c hc => ⟨ho.ge c hc, ho.lt c hc⟩
    refine new_of fun b16 w17 hn17 => wr_of fun w18 hw18 => ?_
    have e16 : b16 = W.heap.size := hn17.1
    have z17 := (Ext.new hn17).size
    have hx18 : Ext W w18 := Below.wr (Ext.new hn17) (by omega) hw18
    refine kp_ext hx18 (wr_of fun w19 hw19 => ?_)
    refine lit1_ty (E := eApiEntry) (x := x) 104 w19.heap.size (by kernel_rfl) (by decide) (fun w => by kernel_rfl) (Nat.le_refl _) fun t20 w21 _ ht20 hx21 => kp_ext hx21 (kp_ext hx21 ?_)
    have z18 := hw18.size
    have z19 := hw19.size
    have z21 := hx21.size
    have ho19 : OwnSl eApiEntry w19 B out pre := (ho.ext hx18).wrO hw19 (by omega)
    have ho21 := ho19.ext hx21
    refine app_ty2 (E := eApiEntry) 104 (by kernel_rfl) (by kernel_rfl) ho21 ht20.is (by simp only [List.length_singleton]; omega) (by omega) (by decide) fun s' w23 ho' hg hno => ?_
    refine kp_grown hg (fun e => by have := own _ e.symm; omega) (kp_grown hg (fun e => by have := own _ e.symm; omega) ?_)
    refine wr_of fun w24 hw24 => ?_
    have z23 := hg.size
    have z24 := hw24.size
    have keep : ∀ b, b < W.heap.size → b ≠ L → b ≠ b3 → some b ≠ out.blk → w24.heap[b]? = W.heap[b]? := fun b h1 h2 h3 h4 =>
      (hw24.block b h3).trans ((hg.block b (by omega) h4).trans ((hx21.block b (by omega)).trans ((hw19.block b h2).trans (hx18.block b h1))))
    have outL : some L ≠ out.blk := fun e => by have := own _ e.symm; omega
    have outD : some D ≠ out.blk := fun e => by have := own _ e.symm; omega
    have kL : w24.heap[L]? = w19.heap[L]? := (hw24.block L (by omega)).trans ((hg.block L (by omega) outL).trans (hx21.block L (by omega)))
    refine kp_eq kL (kp_eq (keep D (by omega) (by omega) (by omega) outD) (wr_of fun w25 hw25 => ⟨⟨?_, by have := hw25.size; omega, (ho'.wrO hw24 (by omega)).wrO hw25 (by omega)⟩, by have := hw25.size; omega, fun b h1 h2 h3 => ?_, fun c hc => ?_⟩))
    · have h1 : Ext w w19 := Below.wr (Ext.trans' hxW hx18) gL hw19
      have h2 : Ext w w23 := Ext.own (Ext.trans' h1 hx21) ho21 (by have := hx15.size; omega) hg
      exact Below.wr (Below.wr h2 (by omega) hw24) gL hw25
    · exact (hw25.block b (fun e => h2 (.inr e))).trans (keep b h1 (fun e => h2 (.inr e)) (fun e => h2 (.inl e)) h3)
    · rcases hno with e | ⟨j, e1, e2⟩
      · exact .inl (e ▸ hc)
      · right
        rw [e1] at hc
        have := Option.some.inj hc
        omega
  · -- the iterator
    intro Y Inv InvX i0 iS iX iE iEX iY
    refine ledger_behind_1_calls (yield := Y) (c_x0 := ql) (c_x1 := qa) (behind_1_spec (Inv := Inv) (InvX := InvX) (fun b => b = b3 ∨ b = L) (hs.ext hx15) hol15 hoa15 hu hle ha hlt hwf i0 (fun pre t W W' hi hg => iS pre t W W' hi hg) (fun pre t W hi c hc => ?_) (fun t W t' W' h => h) (fun b hb => by rcases hb with rfl | rfl <;> omega) iY (fun W h => iEX W h) (fun pre x post h => ⟨post, h⟩) fun t w' h => .inl ⟨_, t, rfl, h⟩)
    obtain ⟨_, _, h3⟩ := iE _ _ _ hi
    have := h3.ge c hc
    exact ⟨by omega, h3.lt c hc⟩
  · -- behind the loop
    rintro xs rfl out W ⟨hxW, hBW, ho⟩ W' hw hsh
    refine ⟨hsh, wr_x (Below.wr hxW gL hw) gD fun v hv hwv => hK _ _ (((ho.wrO hw (by omega)).wrO hwv (by omega)).mono (by have := hx15.size; omega)) hv⟩
  · exact fun _ h => h.elim
end Go.Chg
