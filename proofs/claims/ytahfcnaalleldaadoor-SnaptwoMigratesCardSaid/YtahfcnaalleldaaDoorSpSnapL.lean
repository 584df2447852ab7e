/-
  States as bytes, both ways: plain Lean.
-/
import Derived.Test.YtahfcnaalleldaaDoorMB
import Derived.Test.YtahfcnaalleldaaDoorSpMigr
set_option maxRecDepth 20000
set_option linter.unusedVariables false
namespace Go.Chg
open Go.Vc
variable {l : List UInt8} {v p q no : Int}

def pairB (v : Int) (x : ApiPair) : List UInt8 := (enc x.Key.length ++ x.Key) ++ (if v = 1 then [] else enc x.Rev.toNat) ++ (enc x.Val.length ++ x.Val)
def sessB (v : Int) (x : ApiSession) : List UInt8 := ansB v x.Last
def stateB (v : Int) (ps : List ApiPair) (ss : List ApiSession) : List UInt8 :=
  enc v.toNat ++ enc ps.length ++ ps.flatMap (pairB v) ++ enc ss.length ++ ss.flatMap (sessB v)
def rdPair (l : List UInt8) (v p no : Int) : ApiPair × Int × Int :=
  let k := rdText l 1048576 p no
  let r := if v = 1 then (0, k.2.1, k.2.2) else rdNumber l 9223372036854775807 k.2.1 k.2.2
  let t := rdText l 1048576 r.2.1 r.2.2
  (⟨k.1, t.1, r.1⟩, t.2)
def rdSess (l : List UInt8) (v p no : Int) : ApiSession × Int × Int := (asSess (rdAns l v p no).1, (rdAns l v p no).2)
theorem rdPair_inv (h : (rdPair l v p no).2.2 = 0) : no = 0 ∧ Took l p (rdPair l v p no).2.1 (pairB v (rdPair l v p no).1) ∧ (v = 1 → (rdPair l v p no).1.Rev = 0) := by
  unfold rdPair at h ⊢
  dsimp only at h ⊢
  generalize hk : rdText l 1048576 p no = k at h ⊢
  by_cases hv : v = 1
  · simp only [if_pos hv] at h ⊢
    generalize ht : rdText l 1048576 k.2.1 k.2.2 = t at h ⊢
    subst ht
    obtain ⟨h0, _, _, h1⟩ := rdText_inv h
    subst hk
    obtain ⟨g0, _, _, g1⟩ := rdText_inv h0
    refine ⟨g0, ?_, by simp⟩
    unfold pairB
    rw [if_pos hv, List.append_nil]
    exact g1.trans h1
  · simp only [if_neg hv] at h ⊢
    generalize hr : rdNumber l 9223372036854775807 k.2.1 k.2.2 = r at h ⊢
    obtain ⟨h0, _, _, h1⟩ := rdText_inv h
    subst hr
    obtain ⟨r0, m, r1, _, _, r2⟩ := rdNumber_inv h0
    subst hk
    obtain ⟨g0, _, _, g1⟩ := rdText_inv r0
    refine ⟨g0, ?_, fun h => absurd h hv⟩
    unfold pairB
    rw [if_neg hv]
    dsimp only
    rw [r1, Int.toNat_natCast]
    exact (g1.trans r2).trans h1
def PairFit (x : ApiPair) : Prop := x.Key.length ≤ 1048576 ∧ x.Val.length ≤ 1048576 ∧ 0 ≤ x.Rev ∧ x.Rev ≤ 9223372036854775807
theorem rdPair_took {x : ApiPair} (h : Took l p q (pairB v x)) (hf : PairFit x) (hv : v = 1 → x.Rev = 0) : rdPair l v p 0 = (x, q, 0) := by
  obtain ⟨f1, f2, f3, f4⟩ := hf
  unfold pairB at h
  obtain ⟨h, h3⟩ := h.split
  obtain ⟨h1, h2⟩ := h.split
  have e1 := rdText_took (most := 1048576) h1 (by omega) (by omega)
  have e3 := rdText_took (most := 1048576) h3 (by omega) (by omega)
  unfold rdPair
  dsimp only
  rw [e1]
  dsimp only
  by_cases h1 : v = 1
  · rw [if_pos h1] at h2 h3 ⊢
    have hr := hv h1
    have := rdText_took (most := 1048576) h3 (by omega) (by omega)
    rw [if_pos h1] at e3
    simp only [List.length_append, List.append_nil] at e3
    dsimp only
    rw [List.append_nil] at h3
    have e4 := rdText_took (most := 1048576) h3 (by omega) (by omega)
    have hlen : p + ((enc x.Key.length ++ x.Key).length : Int) = p + ((enc x.Key.length ++ x.Key).length : Nat) := rfl
    rw [e4]
    cases x
    simp only [Prod.mk.injEq, ApiPair.mk.injEq, and_true, true_and]
    exact hr.symm
  · rw [if_neg h1] at h2 h3 ⊢
    rw [if_neg h1] at e3
    rw [rdNumber_took (most := 9223372036854775807) h2 (by omega) (by omega)]
    dsimp only
    rw [e3]
    cases x
    simp only [Prod.mk.injEq, ApiPair.mk.injEq, and_true, true_and]
    dsimp only at f3
    omega
theorem rdSess_inv (h : (rdSess l v p no).2.2 = 0) : no = 0 ∧ Took l p (rdSess l v p no).2.1 (sessB v (rdSess l v p no).1) ∧ (rdSess l v p no).1 = asSess (rdSess l v p no).1.Last := by
  obtain ⟨h1, h2, _⟩ := rdAns_inv h
  exact ⟨h1, h2, rfl⟩
theorem rdSess_took {x : ApiSession} (h : Took l p q (sessB v x)) (hf : AnsFit x.Last) (hv : v = 1 → x.Last.Rev = 0) (hs : x = asSess x.Last) : rdSess l v p 0 = (x, q, 0) := by
  unfold rdSess
  rw [rdAns_took h hf hv]
  dsimp only
  rw [← hs]
def rdState (l : List UInt8) (v p no : Int) : (List ApiPair × List ApiSession) × Int × Int :=
  let n := rdCount l 64 p no
  let ps := rdList (rdPair l v) n.2.1 n.2.2 n.1.toNat
  let m := rdCount l 8 ps.2.1 ps.2.2
  let ss := rdList (rdSess l v) m.2.1 m.2.2 m.1.toNat
  ((ps.1, ss.1), ss.2)
theorem rdState_inv (h : (rdState l v p no).2.2 = 0) : no = 0 ∧ Took l p (rdState l v p no).2.1 (enc (rdState l v p no).1.1.length ++ (rdState l v p no).1.1.flatMap (pairB v) ++ enc (rdState l v p no).1.2.length ++ (rdState l v p no).1.2.flatMap (sessB v)) := by
  unfold rdState at h ⊢
  dsimp only at h ⊢
  generalize hn : rdCount l 64 p no = n at h ⊢
  generalize hps : rdList (rdPair l v) n.2.1 n.2.2 n.1.toNat = ps at h ⊢
  generalize hm : rdCount l 8 ps.2.1 ps.2.2 = m at h ⊢
  have back : ∀ {t : Nat} {a b : Int}, (rdList (rdSess l v) a b t).2.2 = 0 → b = 0 := fun {t a b} h => Classical.byContradiction fun hb => rdList_bad (fun p no hno h => hno (rdSess_inv h).1) hb t h
  have backP : ∀ {t : Nat} {a b : Int}, (rdList (rdPair l v) a b t).2.2 = 0 → b = 0 := fun {t a b} h => Classical.byContradiction fun hb => rdList_bad (fun p no hno h => hno (rdPair_inv h).1) hb t h
  have m0 := back h
  subst hm
  obtain ⟨ps0, k, k1, k2, k3, k4, k5⟩ := rdCount_inv m0
  subst hps
  have n0 := backP ps0
  subst hn
  obtain ⟨no0, j, j1, j2, j3, j4, j5⟩ := rdCount_inv n0
  have hj := j4.nonneg
  have hj1 := j4.len
  have hk := k4.nonneg
  have hk1 := k4.len
  obtain ⟨_, t1, _⟩ := rdList_inv (B := pairB v) (Q := fun _ => True) (fun p no h => ⟨(rdPair_inv h).1, (rdPair_inv h).2.1, trivial⟩) (by omega) j4.le _ ps0
  obtain ⟨_, t2, _⟩ := rdList_inv (B := sessB v) (Q := fun _ => True) (fun p no h => ⟨(rdSess_inv h).1, (rdSess_inv h).2.1, trivial⟩) (by omega) k4.le _ h
  refine ⟨no0, ?_⟩
  rw [rdList_len, rdList_len, k1, j1, Int.toNat_natCast, Int.toNat_natCast]
  rw [j1, Int.toNat_natCast] at t1 k4
  rw [k1, Int.toNat_natCast] at t2
  rw [j1, Int.toNat_natCast] at t2
  exact ((j4.trans t1).trans k4).trans t2
theorem rdList_all {α : Type} {one : Int → Int → α × Int × Int} {Q : α → Prop} (h1 : ∀ p no, Q (one p no).1) : ∀ n, ∀ x ∈ (rdList one p no n).1, Q x
  | 0 => by simp [rdList]
  | n + 1 => fun x hx => by
    simp only [rdList] at hx
    rcases List.mem_append.1 hx with hx | hx
    · exact rdList_all h1 n x hx
    · rw [List.mem_singleton.1 hx]; exact h1 _ _
theorem flat_len {α : Type} {B : α → List UInt8} (h : ∀ x, 1 ≤ (B x).length) : ∀ (xs : List α), xs.length ≤ (xs.flatMap B).length
  | [] => Nat.le_refl _
  | x :: xs => by
    have := flat_len h xs
    have := h x
    simp only [List.flatMap_cons, List.length_append, List.length_cons]
    omega
theorem pairB_pos (x : ApiPair) : 1 ≤ (pairB v x).length := by
  unfold pairB
  have := enc_pos x.Key.length
  simp only [List.length_append]
  omega
theorem sessB_pos (x : ApiSession) : 1 ≤ (sessB v x).length := by
  unfold sessB ansB
  have := enc_pos x.Last.Client.toNat
  simp only [List.length_append]
  omega
theorem rdState_took {ps : List ApiPair} {ss : List ApiSession} (h : Took l p q (enc ps.length ++ ps.flatMap (pairB v) ++ enc ss.length ++ ss.flatMap (sessB v))) (hp : ∀ x ∈ ps, PairFit x ∧ (v = 1 → x.Rev = 0)) (hs : ∀ x ∈ ss, AnsFit x.Last ∧ (v = 1 → x.Last.Rev = 0) ∧ x = asSess x.Last) (h64 : ps.length ≤ 64) (h8 : ss.length ≤ 8) :
    rdState l v p 0 = ((ps, ss), q, 0) := by
  obtain ⟨h, t4⟩ := h.split
  obtain ⟨h, t3⟩ := h.split
  obtain ⟨t1, t2⟩ := h.split
  have f2 := flat_len (pairB_pos (v := v)) ps
  have f4 := flat_len (sessB_pos (v := v)) ss
  have z2 := t2.len
  have y2 := t2.le
  have z4 := t4.len
  have y4 := t4.le
  unfold rdState
  dsimp only
  rw [rdCount_took (most := 64) t1 (by omega) (by omega) (by omega)]
  dsimp only
  rw [Int.toNat_natCast]
  have e2 := rdList_took (l := l) (one := rdPair l v) (B := pairB v) (xs := ps) (fun x hx p q h => rdPair_took h (hp x hx).1 (hp x hx).2) ps.length _ (Nat.le_refl _) (by rw [List.take_length]; exact t2)
  rw [List.take_length] at e2
  rw [e2]
  dsimp only
  rw [rdCount_took (most := 8) t3 (by omega) (by omega) (by omega)]
  dsimp only
  rw [Int.toNat_natCast]
  have e4 := rdList_took (l := l) (one := rdSess l v) (B := sessB v) (xs := ss) (fun x hx p q h => rdSess_took h (hs x hx).1 (hs x hx).2.1 (hs x hx).2.2) ss.length _ (Nat.le_refl _) (by rw [List.take_length]; exact t4)
  rw [List.take_length] at e4
  rw [e4]
theorem up_le : ∀ (q : List ApiSession) (m : Int), SUp q → (∀ x ∈ q, m ≤ x.Client ∧ x.Client ≤ 8) → m ≤ 9 → m + q.length ≤ 9
  | [], m, _, _, h => by simpa using h
  | x :: xs, m, hu, h, hm => by
    obtain ⟨h1, h2⟩ := List.pairwise_cons.1 hu
    obtain ⟨a, b⟩ := h x (List.mem_cons_self ..)
    have := up_le xs (x.Client + 1) h2 (fun y hy => ⟨by have : x.Client < y.Client := cmpI_neg.1 (h1 y hy); omega, (h y (List.mem_cons_of_mem _ hy)).2⟩) (by omega)
    rw [List.length_cons]
    omega
theorem keyOk_len {s : List UInt8} (h : keyOk s = true) : s.length ≤ 24 := by
  unfold keyOk at h
  simp only [Bool.and_eq_true, decide_eq_true_eq] at h
  exact h.1.2
theorem valOk_len {s : List UInt8} (h : valOk s = true) : s.length ≤ 48 := by
  unfold valOk at h
  simp only [Bool.and_eq_true, decide_eq_true_eq] at h
  exact h.1
section
variable {ps : List ApiPair} {ss : List ApiSession}
theorem sess8 (h : SessOk ss) : ss.length ≤ 8 := by
  have := up_le ss 1 h.2 (fun x hx => by
    obtain ⟨h1, _, h3, _⟩ := h.1 x hx
    rw [← h1]
    exact h3) (by decide)
  omega
/-- What bytes are, as a state of a schema, and what is wrong with them. -/
noncomputable def decSt (v : Int) (l : List UInt8) : Int × List ApiPair × List ApiSession :=
  let h := rdNumber l 2 0 0
  if h.2.2 ≠ 0 then (h.2.2, [], []) else
  if h.1 ≠ v then (3, [], []) else
  let s := rdState l v h.2.1 0
  let d := if s.2.2 ≠ 0 then s.2.2 else if s.2.1 < l.length then 3 else 0
  if d ≠ 0 then (d, [], []) else
  open Classical in if StateOk v s.1.1 s.1.2 then (0, s.1.1, s.1.2) else (3, [], [])
theorem decSt_1 (h : (rdNumber l 2 0 0).2.2 ≠ 0) : decSt v l = ((rdNumber l 2 0 0).2.2, [], []) := by
  unfold decSt
  dsimp only
  rw [if_pos h]
theorem decSt_2 (h : (rdNumber l 2 0 0).2.2 = 0) (h2 : (rdNumber l 2 0 0).1 ≠ v) : decSt v l = (3, [], []) := by
  unfold decSt
  dsimp only
  rw [if_neg (by omega), if_pos h2]
def doneE (l : List UInt8) (s : (List ApiPair × List ApiSession) × Int × Int) : Int := if s.2.2 ≠ 0 then s.2.2 else if s.2.1 < l.length then 3 else 0
theorem decSt_3 (h : (rdNumber l 2 0 0).2.2 = 0) (h2 : (rdNumber l 2 0 0).1 = v) (h3 : doneE l (rdState l v (rdNumber l 2 0 0).2.1 0) ≠ 0) : decSt v l = (doneE l (rdState l v (rdNumber l 2 0 0).2.1 0), [], []) := by
  unfold doneE at h3 ⊢
  unfold decSt
  dsimp only
  rw [if_neg (by omega), if_neg (by omega), if_pos h3]
theorem decSt_4 (h : (rdNumber l 2 0 0).2.2 = 0) (h2 : (rdNumber l 2 0 0).1 = v) (h3 : doneE l (rdState l v (rdNumber l 2 0 0).2.1 0) = 0) (h4 : ¬ StateOk v (rdState l v (rdNumber l 2 0 0).2.1 0).1.1 (rdState l v (rdNumber l 2 0 0).2.1 0).1.2) : decSt v l = (3, [], []) := by
  unfold doneE at h3
  unfold decSt
  dsimp only
  rw [if_neg (by omega), if_neg (by omega), if_neg (by omega), if_neg h4]
theorem decSt_5 (h : (rdNumber l 2 0 0).2.2 = 0) (h2 : (rdNumber l 2 0 0).1 = v) (h3 : doneE l (rdState l v (rdNumber l 2 0 0).2.1 0) = 0) (h4 : StateOk v (rdState l v (rdNumber l 2 0 0).2.1 0).1.1 (rdState l v (rdNumber l 2 0 0).2.1 0).1.2) : decSt v l = (0, (rdState l v (rdNumber l 2 0 0).2.1 0).1.1, (rdState l v (rdNumber l 2 0 0).2.1 0).1.2) := by
  unfold doneE at h3
  unfold decSt
  dsimp only
  rw [if_neg (by omega), if_neg (by omega), if_neg (by omega), if_pos h4]
theorem decSt_inv (h : decSt v l = (0, ps, ss)) : StateOk v ps ss ∧ l = stateB v ps ss := by
  by_cases h1 : (rdNumber l 2 0 0).2.2 = 0
  rotate_left
  · rw [decSt_1 h1] at h; exact absurd (Prod.mk.inj h).1 h1
  by_cases h2 : (rdNumber l 2 0 0).1 = v
  rotate_left
  · rw [decSt_2 h1 h2] at h; exact absurd (Prod.mk.inj h).1 (by decide)
  by_cases h3 : doneE l (rdState l v (rdNumber l 2 0 0).2.1 0) = 0
  rotate_left
  · rw [decSt_3 h1 h2 h3] at h; exact absurd (Prod.mk.inj h).1 h3
  by_cases hok : StateOk v (rdState l v (rdNumber l 2 0 0).2.1 0).1.1 (rdState l v (rdNumber l 2 0 0).2.1 0).1.2
  rotate_left
  · rw [decSt_4 h1 h2 h3 hok] at h; exact absurd (Prod.mk.inj h).1 (by decide)
  rw [decSt_5 h1 h2 h3 hok] at h
  obtain ⟨_, m, m1, _, _, m2⟩ := rdNumber_inv h1
  generalize hs : rdState l v (rdNumber l 2 0 0).2.1 0 = s at h h3 hok
  obtain ⟨_, hp⟩ := Prod.mk.inj h
  obtain ⟨hp, hq⟩ := Prod.mk.inj hp
  unfold doneE at h3
  have s0 : s.2.2 = 0 := Classical.byContradiction fun h => by rw [if_pos h] at h3; exact h h3
  rw [if_neg (by omega)] at h3
  have s1 : ¬ s.2.1 < l.length := fun h => by rw [if_pos h] at h3; cases h3
  subst hs
  obtain ⟨_, t⟩ := rdState_inv s0
  rw [hp, hq] at hok t
  refine ⟨hok, ?_⟩
  rw [(m2.trans t).whole s1]
  unfold stateB
  rw [← h2, m1, Int.toNat_natCast]
  simp only [List.append_assoc]
theorem ok_fit (h : StateOk v ps ss) : (∀ x ∈ ps, PairFit x ∧ (v = 1 → x.Rev = 0)) ∧ ∀ x ∈ ss, AnsFit x.Last ∧ (v = 1 → x.Last.Rev = 0) ∧ x = asSess x.Last := by
  obtain ⟨hv, hp, hs, hr⟩ := h
  refine ⟨fun x hx => ?_, fun x hx => ?_⟩
  · obtain ⟨k1, k2, k3, k4⟩ := hp.1 x hx
    have := keyOk_len k1
    have := valOk_len k2
    refine ⟨⟨by omega, by omega, ?_⟩, k3⟩
    rcases hv with rfl | rfl
    · have := k3 rfl; omega
    · have := k4 rfl; omega
  · obtain ⟨k1, k2, ⟨a1, a2⟩, ⟨a3, a4⟩, ⟨a5, a6⟩, ⟨a7, a8⟩, a9⟩ := hs.1 x hx
    have := valOk_len a9
    refine ⟨⟨⟨by omega, by omega⟩, ⟨by omega, by omega⟩, ⟨by omega, by omega⟩, ⟨by omega, by omega⟩, by omega⟩, fun h => hr h x hx, ?_⟩
    unfold asSess
    rw [k1, k2]
theorem decSt_took (h : StateOk v ps ss) : decSt v (stateB v ps ss) = (0, ps, ss) := by
  have hv := h.1
  have t := Took.all (stateB v ps ss)
  have e : stateB v ps ss = enc v.toNat ++ (enc ps.length ++ ps.flatMap (pairB v) ++ enc ss.length ++ ss.flatMap (sessB v)) := by
    unfold stateB
    simp only [List.append_assoc]
  generalize stateB v ps ss = l at t e ⊢
  have hl : ((l.length : Nat) : Int) = l.length := rfl
  have t' : Took l 0 l.length (enc v.toNat ++ (enc ps.length ++ ps.flatMap (pairB v) ++ enc ss.length ++ ss.flatMap (sessB v))) := by rw [← e]; exact t
  obtain ⟨t1, t2⟩ := t'.split
  obtain ⟨f1, f2⟩ := ok_fit h
  unfold decSt
  dsimp only
  rw [rdNumber_took (most := 2) t1 (by omega) (by omega)]
  dsimp only
  rw [if_neg (by decide), if_neg (by omega), rdState_took t2 f1 f2 h.2.1.2.1 (sess8 h.2.2.1)]
  dsimp only
  rw [if_neg (show ¬ (0 : Int) ≠ 0 by decide), if_neg (Int.lt_irrefl _), if_neg (by decide), if_pos h]
theorem decSt_bad (h : (decSt v l).1 ≠ 0) : (decSt v l).2 = ([], []) := by
  by_cases h1 : (rdNumber l 2 0 0).2.2 = 0
  rotate_left
  · rw [decSt_1 h1]
  by_cases h2 : (rdNumber l 2 0 0).1 = v
  rotate_left
  · rw [decSt_2 h1 h2]
  by_cases h3 : doneE l (rdState l v (rdNumber l 2 0 0).2.1 0) = 0
  rotate_left
  · rw [decSt_3 h1 h2 h3]
  by_cases hok : StateOk v (rdState l v (rdNumber l 2 0 0).2.1 0).1.1 (rdState l v (rdNumber l 2 0 0).2.1 0).1.2
  rotate_left
  · rw [decSt_4 h1 h2 h3 hok]
  rw [decSt_5 h1 h2 h3 hok] at h
  exact absurd rfl h
end
end Go.Chg
