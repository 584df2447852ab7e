import Derived.Test.YthofeajlmgecmaaGreatDoorMB
import Derived.Test.YthofeajlmgecmaaGreatDoorSpMigr
import Derived.Test.YthofeajlmgecmaaGreatDoorMZ
/-
  States as bytes, both ways: plain Lean.
-/
set_option maxRecDepth 20000
set_option linter.unusedVariables false
namespace Go.Chg
open Go.Vc
variable {l : List UInt8} {v p q no : Int}

def pairB (v : Int) (x : ApiPair) : List UInt8 := (enc x.Key.length ++ x.Key) ++ (if v = 1 then [] else enc x.Rev.toNat) ++ (enc x.Val.length ++ x.Val)
def sessB (v : Int) (x : ApiSession) : List UInt8 := ansB v x.Last
def stateB (v : Int) (ps : List ApiPair) (ss : List ApiSession) : List UInt8 :=
  enc v.toNat ++ enc ps.length ++ ps.flatMap (pairB v) ++ enc ss.length ++ ss.flatMap (sessB v)
def rdPair (l : List UInt8) (v p no : Int) : ApiPair × Int × Int :=
  let k := rdText l 1048576 p no
  let r := if v = 1 then (0, k.2.1, k.2.2) else rdNumber l 9223372036854775807 k.2.1 k.2.2
  let t := rdText l 1048576 r.2.1 r.2.2
  (⟨k.1, t.1, r.1⟩, t.2)
def rdSess (l : List UInt8) (v p no : Int) : ApiSession × Int × Int := (asSess (rdAns l v p no).1, (rdAns l v p no).2)
theorem rdPair_inv (h : (rdPair l v p no).2.2 = 0) : no = 0 ∧ Took l p (rdPair l v p no).2.1 (pairB v (rdPair l v p no).1) ∧ (v = 1 → (rdPair l v p no).1.Rev = 0) := by
  unfold rdPair at h ⊢
  dsimp only at h ⊢
  generalize hk : rdText l 1048576 p no = k at h ⊢
  by_cases hv : v = 1
  · simp only [if_pos hv] at h ⊢
    generalize ht : rdText l 1048576 k.2.1 k.2.2 = t at h ⊢
    subst ht
    obtain ⟨h0, _, _, h1⟩ := rdText_inv h
    subst hk
    obtain ⟨g0, _, _, g1⟩ := rdText_inv h0
    refine ⟨g0, ?_, by simp⟩
    unfold pairB
    rw [if_pos hv, List.append_nil]
    exact g1.trans h1
  · simp only [if_neg hv] at h ⊢
    generalize hr : rdNumber l 9223372036854775807 k.2.1 k.2.2 = r at h ⊢
    obtain ⟨h0, _, _, h1⟩ := rdText_inv h
    subst hr
    obtain ⟨r0, m, r1, _, _, r2⟩ := rdNumber_inv h0
    subst hk
    obtain ⟨g0, _, _, g1⟩ := rdText_inv r0
    refine ⟨g0, ?_, fun h => absurd h hv⟩
    unfold pairB
    rw [if_neg hv]
    dsimp only
    rw [r1, Int.toNat_natCast]
    exact (g1.trans r2).trans h1
def PairFit (x : ApiPair) : Prop := x.Key.length ≤ 1048576 ∧ x.Val.length ≤ 1048576 ∧ 0 ≤ x.Rev ∧ x.Rev ≤ 9223372036854775807
theorem rdPair_took {x : ApiPair} (h : Took l p q (pairB v x)) (hf : PairFit x) (hv : v = 1 → x.Rev = 0) : rdPair l v p 0 = (x, q, 0) := by
  obtain ⟨f1, f2, f3, f4⟩ := hf
  unfold pairB at h
  obtain ⟨h, h3⟩ := h.split
  obtain ⟨h1, h2⟩ := h.split
  have e1 := rdText_took (most := 1048576) h1 (by omega) (by omega)
  have e3 := rdText_took (most := 1048576) h3 (by omega) (by omega)
  unfold rdPair
  dsimp only
  rw [e1]
  dsimp only
  by_cases h1 : v = 1
  · rw [if_pos h1] at h2 h3 ⊢
    have hr := hv h1
    have := rdText_took (most := 1048576) h3 (by omega) (by omega)
    rw [if_pos h1] at e3
    simp only [List.length_append, List.append_nil] at e3
    dsimp only
    rw [List.append_nil] at h3
    have e4 := rdText_took (most := 1048576) h3 (by omega) (by omega)
    have hlen : p + ((enc x.Key.length ++ x.Key).length : Int) = p + ((enc x.Key.length ++ x.Key).length : Nat) := rfl
    rw [e4]
    cases x
    simp only [Prod.mk.injEq, ApiPair.mk.injEq, and_true, true_and]
    exact hr.symm
  · rw [if_neg h1] at h2 h3 ⊢
    rw [if_neg h1] at e3
    rw [rdNumber_took (most := 9223372036854775807) h2 (by omega) (by omega)]
    dsimp only
    rw [e3]
    cases x
    simp only [Prod.mk.injEq, ApiPair.mk.injEq, and_true, true_and]
    dsimp only at f3
    omega
theorem rdSess_inv (h : (rdSess l v p no).2.2 = 0) : no = 0 ∧ Took l p (rdSess l v p no).2.1 (sessB v (rdSess l v p no).1) ∧ (rdSess l v p no).1 = asSess (rdSess l v p no).1.Last := by
  obtain ⟨h1, h2, _⟩ := rdAns_inv h
  exact ⟨h1, h2, rfl⟩
theorem rdSess_took {x : ApiSession} (h : Took l p q (sessB v x)) (hf : AnsFit x.Last) (hv : v = 1 → x.Last.Rev = 0) (hs : x = asSess x.Last) : rdSess l v p 0 = (x, q, 0) := by
  unfold rdSess
  rw [rdAns_took h hf hv]
  dsimp only
  rw [← hs]
def rdState (l : List UInt8) (v p no : Int) : (List ApiPair × List ApiSession) × Int × Int :=
  let n := rdCount l 64 p no
  let ps := rdList (rdPair l v) n.2.1 n.2.2 n.1.toNat
  let m := rdCount l 8 ps.2.1 ps.2.2
  let ss := rdList (rdSess l v) m.2.1 m.2.2 m.1.toNat
  ((ps.1, ss.1), ss.2)
theorem rdState_inv (h : (rdState l v p no).2.2 = 0) : no = 0 ∧ Took l p (rdState l v p no).2.1 (enc (rdState l v p no).1.1.length ++ (rdState l v p no).1.1.flatMap (pairB v) ++ enc (rdState l v p no).1.2.length ++ (rdState l v p no).1.2.flatMap (sessB v)) := by
  unfold rdState at h ⊢
  dsimp only at h ⊢
  generalize hn : rdCount l 64 p no = n at h ⊢
  generalize hps : rdList (rdPair l v) n.2.1 n.2.2 n.1.toNat = ps at h ⊢
  generalize hm : rdCount l 8 ps.2.1 ps.2.2 = m at h ⊢
  have back : ∀ {t : Nat} {a b : Int}, (rdList (rdSess l v) a b t).2.2 = 0 → b = 0 := fun {t a b} h => Classical.byContradiction fun hb => rdList_bad (fun p no hno h => hno (rdSess_inv h).1) hb t h
  have backP : ∀ {t : Nat} {a b : Int}, (rdList (rdPair l v) a b t).2.2 = 0 → b = 0 := fun {t a b} h => Classical.byContradiction fun hb => rdList_bad (fun p no hno h => hno (rdPair_inv h).1) hb t h
  have m0 := back h
  subst hm
  obtain ⟨ps0, k, k1, k2, k3, k4, k5⟩ := rdCount_inv m0
  subst hps
  have n0 := backP ps0
  subst hn
  obtain ⟨no0, j, j1, j2, j3, j4, j5⟩ := rdCount_inv n0
  have hj := j4.nonneg
  have hj1 := j4.len
  have hk := k4.nonneg
  have hk1 := k4.len
  obtain ⟨_, t1, _⟩ := rdList_inv (B := pairB v) (Q := fun _ => True) (fun p no h => ⟨(rdPair_inv h).1, (rdPair_inv h).2.1, trivial⟩) (by omega) j4.le _ ps0
  obtain ⟨_, t2, _⟩ := rdList_inv (B := sessB v) (Q := fun _ => True) (fun p no h => ⟨(rdSess_inv h).1, (rdSess_inv h).2.1, trivial⟩) (by omega) k4.le _ h
  refine ⟨no0, ?_⟩
  rw [rdList_len, rdList_len, k1, j1, Int.toNat_natCast, Int.toNat_natCast]
  rw [j1, Int.toNat_natCast] at t1 k4
  rw [k1, Int.toNat_natCast] at t2
  rw [j1, Int.toNat_natCast] at t2
  exact ((j4.trans t1).trans k4).trans t2
theorem rdList_all {α : Type} {one : Int → Int → α × Int × Int} {Q : α → Prop} (h1 : ∀ p no, Q (one p no).1) : ∀ n, ∀ x ∈ (rdList one p no n).1, Q x
  | 0 => by simp [rdList]
  | n + 1 => fun x hx => by
    simp only [rdList] at hx
    rcases List.mem_append.1 hx with hx | hx
    · exact rdList_all h1 n x hx
    · rw [List.mem_singleton.1 hx]; exact h1 _ _
theorem flat_len {α : Type} {B : α → List UInt8} (h : ∀ x, 1 ≤ (B x).length) : ∀ (xs : List α), xs.length ≤ (xs.flatMap B).length
  | [] => Nat.le_refl _
  | x :: xs => by
    have := flat_len h xs
    have := h x
    simp only [List.flatMap_cons, List.length_append, List.length_cons]
    omega
theorem pairB_pos (x : ApiPair) : 1 ≤ (pairB v x).length := by
  unfold pairB
  have := enc_pos x.Key.length
  simp only [List.length_append]
  omega
theorem sessB_pos (x : ApiSession) : 1 ≤ (sessB v x).length := by
  unfold sessB ansB
  have := enc_pos x.Last.Client.toNat
  simp only [List.length_append]
  omega
theorem rdState_took {ps : List ApiPair} {ss : List ApiSession} (h : Took l p q (enc ps.length ++ ps.flatMap (pairB v) ++ enc ss.length ++ ss.flatMap (sessB v))) (hp : ∀ x ∈ ps, PairFit x ∧ (v = 1 → x.Rev = 0)) (hs : ∀ x ∈ ss, AnsFit x.Last ∧ (v = 1 → x.Last.Rev = 0) ∧ x = asSess x.Last) (h64 : ps.length ≤ 64) (h8 : ss.length ≤ 8) :
    rdState l v p 0 = ((ps, ss), q, 0) := by
  obtain ⟨h, t4⟩ := h.split
  obtain ⟨h, t3⟩ := h.split
  obtain ⟨t1, t2⟩ := h.split
  have f2 := flat_len (pairB_pos (v := v)) ps
  have f4 := flat_len (sessB_pos (v := v)) ss
  have z2 := t2.len
  have y2 := t2.le
  have z4 := t4.len
  have y4 := t4.le
  unfold rdState
  dsimp only
  rw [rdCount_took (most := 64) t1 (by omega) (by omega) (by omega)]
  dsimp only
  rw [Int.toNat_natCast]
  have e2 := rdList_took (l := l) (one := rdPair l v) (B := pairB v) (xs := ps) (fun x hx p q h => rdPair_took h (hp x hx).1 (hp x hx).2) ps.length _ (Nat.le_refl _) (by rw [List.take_length]; exact t2)
  rw [List.take_length] at e2
  rw [e2]
  dsimp only
  rw [rdCount_took (most := 8) t3 (by omega) (by omega) (by omega)]
  dsimp only
  rw [Int.toNat_natCast]
  have e4 := rdList_took (l := l) (one := rdSess l v) (B := sessB v) (xs := ss) (fun x hx p q h => rdSess_took h (hs x hx).1 (hs x hx).2.1 (hs x hx).2.2) ss.length _ (Nat.le_refl _) (by rw [List.take_length]; exact t4)
  rw [List.take_length] at e4
  rw [e4]
theorem up_le : ∀ (q : List ApiSession) (m : Int), SUp q → (∀ x ∈ q, m ≤ x.Client ∧ x.Client ≤ 8) → m ≤ 9 → m + q.length ≤ 9
  | [], m, _, _, h => by simpa using h
  | x :: xs, m, hu, h, hm => by
    obtain ⟨h1, h2⟩ := List.pairwise_cons.1 hu
    obtain ⟨a, b⟩ := h x (List.mem_cons_self ..)
    have := up_le xs (x.Client + 1) h2 (fun y hy => ⟨by have : x.Client < y.Client := cmpI_neg.1 (h1 y hy); omega, (h y (List.mem_cons_of_mem _ hy)).2⟩) (by omega)
    rw [List.length_cons]
    omega
theorem keyOk_len {s : List UInt8} (h : keyOk s = true) : s.length ≤ 24 := by
  unfold keyOk at h
  simp only [Bool.and_eq_true, decide_eq_true_eq] at h
  exact h.1.2
theorem valOk_len {s : List UInt8} (h : valOk s = true) : s.length ≤ 48 := by
  unfold valOk at h
  simp only [Bool.and_eq_true, decide_eq_true_eq] at h
  exact h.1
section
variable {ps : List ApiPair} {ss : List ApiSession}
theorem sess8 (h : SessOk ss) : ss.length ≤ 8 := by
  have := up_le ss 1 h.2 (fun x hx => by
    obtain ⟨h1, _, h3, _⟩ := h.1 x hx
    rw [← h1]
    exact h3) (by decide)
  omega
/-- What bytes are, as a state of a schema, and what is wrong with them. -/
noncomputable def decSt (v : Int) (l : List UInt8) : Int × List ApiPair × List ApiSession :=
  let h := rdNumber l 2 0 0
  if h.2.2 ≠ 0 then (h.2.2, [], []) else
  if h.1 ≠ v then (3, [], []) else
  let s := rdState l v h.2.1 0
  let d := if s.2.2 ≠ 0 then s.2.2 else if s.2.1 < l.length then 3 else 0
  if d ≠ 0 then (d, [], []) else
  open Classical in if StateOk v s.1.1 s.1.2 then (0, s.1.1, s.1.2) else (3, [], [])
theorem decSt_1 (h : (rdNumber l 2 0 0).2.2 ≠ 0) : decSt v l = ((rdNumber l 2 0 0).2.2, [], []) := by
  unfold decSt
  dsimp only
  rw [if_pos h]
theorem decSt_2 (h : (rdNumber l 2 0 0).2.2 = 0) (h2 : (rdNumber l 2 0 0).1 ≠ v) : decSt v l = (3, [], []) := by
  unfold decSt
  dsimp only
  rw [if_neg (by omega), if_pos h2]
def doneE (l : List UInt8) (s : (List ApiPair × List ApiSession) × Int × Int) : Int := if s.2.2 ≠ 0 then s.2.2 else if s.2.1 < l.length then 3 else 0
theorem decSt_3 (h : (rdNumber l 2 0 0).2.2 = 0) (h2 : (rdNumber l 2 0 0).1 = v) (h3 : doneE l (rdState l v (rdNumber l 2 0 0).2.1 0) ≠ 0) : decSt v l = (doneE l (rdState l v (rdNumber l 2 0 0).2.1 0), [], []) := by
  unfold doneE at h3 ⊢
  unfold decSt
  dsimp only
  rw [if_neg (by omega), if_neg (by omega), if_pos h3]
theorem decSt_4 (h : (rdNumber l 2 0 0).2.2 = 0) (h2 : (rdNumber l 2 0 0).1 = v) (h3 : doneE l (rdState l v (rdNumber l 2 0 0).2.1 0) = 0) (h4 : ¬ StateOk v (rdState l v (rdNumber l 2 0 0).2.1 0).1.1 (rdState l v (rdNumber l 2 0 0).2.1 0).1.2) : decSt v l = (3, [], []) := by
  unfold doneE at h3
  unfold decSt
  dsimp only
  rw [if_neg (by omega), if_neg (by omega), if_neg (by omega), if_neg h4]
theorem decSt_5 (h : (rdNumber l 2 0 0).2.2 = 0) (h2 : (rdNumber l 2 0 0).1 = v) (h3 : doneE l (rdState l v (rdNumber l 2 0 0).2.1 0) = 0) (h4 : StateOk v (rdState l v (rdNumber l 2 0 0).2.1 0).1.1 (rdState l v (rdNumber l 2 0 0).2.1 0).1.2) : decSt v l = (0, (rdState l v (rdNumber l 2 0 0).2.1 0).1.1, (rdState l v (rdNumber l 2 0 0).2.1 0).1.2) := by
  unfold doneE at h3
  unfold decSt
  dsimp only
  rw [if_neg (by omega), if_neg (by omega), if_neg (by omega), if_pos h4]
theorem decSt_inv (h : decSt v l = (0, ps, ss)) : StateOk v ps ss ∧ l = stateB v ps ss := by
  by_cases h1 : (rdNumber l 2 0 0).2.2 = 0
  rotate_left
  · rw [decSt_1 h1] at h; exact absurd (Prod.mk.inj h).1 h1
  by_cases h2 : (rdNumber l 2 0 0).1 = v
  rotate_left
  · rw [decSt_2 h1 h2] at h; exact absurd (Prod.mk.inj h).1 (by decide)
  by_cases h3 : doneE l (rdState l v (rdNumber l 2 0 0).2.1 0) = 0
  rotate_left
  · rw [decSt_3 h1 h2 h3] at h; exact absurd (Prod.mk.inj h).1 h3
  by_cases hok : StateOk v (rdState l v (rdNumber l 2 0 0).2.1 0).1.1 (rdState l v (rdNumber l 2 0 0).2.1 0).1.2
  rotate_left
  · rw [decSt_4 h1 h2 h3 hok] at h; exact absurd (Prod.mk.inj h).1 (by decide)
  rw [decSt_5 h1 h2 h3 hok] at h
  obtain ⟨_, m, m1, _, _, m2⟩ := rdNumber_inv h1
  generalize hs : rdState l v (rdNumber l 2 0 0).2.1 0 = s at h h3 hok
  obtain ⟨_, hp⟩ := Prod.mk.inj h
  obtain ⟨hp, hq⟩ := Prod.mk.inj hp
  unfold doneE at h3
  have s0 : s.2.2 = 0 := Classical.byContradiction fun h => by rw [if_pos h] at h3; exact h h3
  rw [if_neg (by omega)] at h3
  have s1 : ¬ s.2.1 < l.length := fun h => by rw [if_pos h] at h3; cases h3
  subst hs
  obtain ⟨_, t⟩ := rdState_inv s0
  rw [hp, hq] at hok t
  refine ⟨hok, ?_⟩
  rw [(m2.trans t).whole s1]
  unfold stateB
  rw [← h2, m1, Int.toNat_natCast]
  simp only [List.append_assoc]
theorem ok_fit (h : StateOk v ps ss) : (∀ x ∈ ps, PairFit x ∧ (v = 1 → x.Rev = 0)) ∧ ∀ x ∈ ss, AnsFit x.Last ∧ (v = 1 → x.Last.Rev = 0) ∧ x = asSess x.Last := by
  obtain ⟨hv, hp, hs, hr⟩ := h
  refine ⟨fun x hx => ?_, fun x hx => ?_⟩
  · obtain ⟨k1, k2, k3, k4⟩ := hp.1 x hx
    have := keyOk_len k1
    have := valOk_len k2
    refine ⟨⟨by omega, by omega, ?_⟩, k3⟩
    rcases hv with rfl | rfl
    · have := k3 rfl; omega
    · have := k4 rfl; omega
  · obtain ⟨k1, k2, ⟨a1, a2⟩, ⟨a3, a4⟩, ⟨a5, a6⟩, ⟨a7, a8⟩, a9⟩ := hs.1 x hx
    have := valOk_len a9
    refine ⟨⟨⟨by omega, by omega⟩, ⟨by omega, by omega⟩, ⟨by omega, by omega⟩, ⟨by omega, by omega⟩, by omega⟩, fun h => hr h x hx, ?_⟩
    unfold asSess
    rw [k1, k2]
theorem decSt_took (h : StateOk v ps ss) : decSt v (stateB v ps ss) = (0, ps, ss) := by
  have hv := h.1
  have t := Took.all (stateB v ps ss)
  have e : stateB v ps ss = enc v.toNat ++ (enc ps.length ++ ps.flatMap (pairB v) ++ enc ss.length ++ ss.flatMap (sessB v)) := by
    unfold stateB
    simp only [List.append_assoc]
  generalize stateB v ps ss = l at t e ⊢
  have hl : ((l.length : Nat) : Int) = l.length := rfl
  have t' : Took l 0 l.length (enc v.toNat ++ (enc ps.length ++ ps.flatMap (pairB v) ++ enc ss.length ++ ss.flatMap (sessB v))) := by rw [← e]; exact t
  obtain ⟨t1, t2⟩ := t'.split
  obtain ⟨f1, f2⟩ := ok_fit h
  unfold decSt
  dsimp only
  rw [rdNumber_took (most := 2) t1 (by omega) (by omega)]
  dsimp only
  rw [if_neg (by decide), if_neg (by omega), rdState_took t2 f1 f2 h.2.1.2.1 (sess8 h.2.2.1)]
  dsimp only
  rw [if_neg (show ¬ (0 : Int) ≠ 0 by decide), if_neg (Int.lt_irrefl _), if_neg (by decide), if_pos h]
theorem decSt_bad (h : (decSt v l).1 ≠ 0) : (decSt v l).2 = ([], []) := by
  by_cases h1 : (rdNumber l 2 0 0).2.2 = 0
  rotate_left
  · rw [decSt_1 h1]
  by_cases h2 : (rdNumber l 2 0 0).1 = v
  rotate_left
  · rw [decSt_2 h1 h2]
  by_cases h3 : doneE l (rdState l v (rdNumber l 2 0 0).2.1 0) = 0
  rotate_left
  · rw [decSt_3 h1 h2 h3]
  by_cases hok : StateOk v (rdState l v (rdNumber l 2 0 0).2.1 0).1.1 (rdState l v (rdNumber l 2 0 0).2.1 0).1.2
  rotate_left
  · rw [decSt_4 h1 h2 h3 hok]
  rw [decSt_5 h1 h2 h3 hok] at h
  exact absurd rfl h
end
end Go.Chg
/-
  States as bytes: the functions of packages 'snapone', 'snaptwo' and 'changeoverref26'.
-/
set_option maxRecDepth 20000
set_option linter.unusedVariables false
namespace Go.Vc
variable {w w0 w1 w2 w' : World}
/-- What lies above all that was there may turn. -/
theorem grown_hi {row r2 : Option Nat} (h : w0.grownBy w row) (k : w.grownBy w' r2) (hr : ∀ r, r2 = some r → w0.heap.size ≤ r) : w0.grownBy w' row :=
  ⟨k.os.trans h.os, k.tape.trans h.tape, k.output.trans h.output, Nat.le_trans h.size k.size, fun b hb hne => by
    rw [k.block b (Nat.lt_of_lt_of_le hb h.size) (fun e => by have := hr b e.symm; omega), h.block b hb hne]⟩
theorem Rd.high {a : Addr} {l : List UInt8} {p no : Int} {row : Option Nat} (h : Rd w a l p no) (hg : w.grownBy w' row) (hr : ∀ r, row = some r → a.block < r) : Rd w' a l p no := by
  have hlt := h.lt
  obtain ⟨s, h1, h2, h3, h4⟩ := h
  exact ⟨s, h1.grownB hg (fun c hc e => by have := h3 c hc; have := hr c e.symm; omega), h2.keep (hg.block _ hlt (fun e => by have := hr _ e.symm; omega)), h3, h4⟩
theorem Obj.other {c : Addr} {cs : List Value} {row : Option Nat} (h : Obj w c cs) (hg : w.grownBy w' row) (hr : some c.block ≠ row) : Obj w' c cs := h.keep (hg.block _ h.lt hr)
/-- Only two blocks, and what lies from B on, have turned. -/
structure Fr (B x y : Nat) (w w' : World) : Prop where
  base : B ≤ w.heap.size
  os : w'.os = w.os
  tape : w'.tape = w.tape
  output : w'.output = w.output
  size : w.heap.size ≤ w'.heap.size
  block : ∀ k, k < B → k ≠ x → k ≠ y → w'.heap[k]? = w.heap[k]?
variable {B x y : Nat}
theorem Fr.refl (h : B ≤ w.heap.size) : Fr B x y w w := ⟨h, rfl, rfl, rfl, Nat.le_refl _, fun _ _ _ _ => rfl⟩
theorem Fr.trans (h : Fr B x y w w1) (k : Fr B x y w1 w2) : Fr B x y w w2 := ⟨h.base, k.os.trans h.os, k.tape.trans h.tape, k.output.trans h.output, Nat.le_trans h.size k.size, fun i hi hx hy => (k.block i hi hx hy).trans (h.block i hi hx hy)⟩
theorem Fr.gr {row : Option Nat} (h : Fr B x y w w1) (k : w1.grownBy w2 row) (hr : ∀ r, row = some r → r = x ∨ r = y ∨ B ≤ r) : Fr B x y w w2 :=
  ⟨h.base, k.os.trans h.os, k.tape.trans h.tape, k.output.trans h.output, Nat.le_trans h.size k.size, fun i hi hx hy => by
    rw [k.block i (by have := h.base; have := h.size; omega) (fun e => by have := hr i e.symm; omega)]
    exact h.block i hi hx hy⟩
theorem Fr.ex (h : Fr B x y w w1) (k : Ext w1 w2) : Fr B x y w w2 := h.gr (grown_ext k none) (fun r hr => by cases hr)
theorem Fr.ext (h : Fr B x y w w') (hx : Ext w0 w) (h1 : w0.heap.size ≤ x) (h2 : w0.heap.size ≤ y) (h3 : w0.heap.size ≤ B) : Ext w0 w' :=
  ⟨h.os.trans hx.os, h.tape.trans hx.tape, h.output.trans hx.output, Nat.le_trans hx.size h.size, fun k hk => by
    rw [h.block k (by omega) (by omega) (by omega)]
    exact hx.block k hk⟩
theorem Obj.fr {c : Addr} {cs : List Value} (h : Obj w c cs) (hf : Fr B x y w w') (h1 : c.block < B) (h2 : c.block ≠ x) (h3 : c.block ≠ y) : Obj w' c cs := h.keep (hf.block _ h1 h2 h3)
theorem kp_fr {b : Nat} {X : Prop} (hf : Fr B x y w w') (h1 : b < B) (h2 : b ≠ x) (h3 : b ≠ y) (k : X) : kp b w w' X := ⟨fun _ => hf.block b h1 h2 h3, k⟩
end Go.Vc
namespace Go.Chg
open Go.Vc
variable {w : World} {l : List UInt8} {v p no most : Int}
theorem rdCount_nat (hm : 0 ≤ most) : ∃ k : Nat, (rdCount l most p no).1 = k ∧ (k : Int) ≤ most := by
  by_cases h : (rdCount l most p no).2.2 = 0
  · obtain ⟨_, m, h1, h2, _⟩ := rdCount_inv h
    exact ⟨m, h1, h2⟩
  · exact ⟨0, rdCount_zero h, hm⟩
theorem pack_Reader_Err_spec' {a : Addr} {K : Int → World → Prop} (h : Rd w a l p no) (hK : K no w) : pack_Reader_Err (some a) K w := by
  unfold pack_Reader_Err
  obtain ⟨s, g1, g2, g3⟩ := h
  exact eqPtrNil (by kernel_rfl) fun b hb => ifB_f hb (nil_rd rfl (ld_obj (by kernel_rfl) g2 rfl hK))

/-! ### snapone -/
theorem snapone_Decode_1_spec {c a : Addr} {K : ApiPair → World → Prop} (hc : Vc.Obj w c [.pointer (some a)]) (h : Rd w a l p no) (hca : c.block ≠ a.block) (hl : l.length ≤ 140737488355328)
    (hK : ∀ w', Rd w' a l (rdPair l 1 p no).2.1 (rdPair l 1 p no).2.2 → w.grownBy w' (some a.block) → K (rdPair l 1 p no).1 w') : snapone_Decode_1 c K w := by
  unfold snapone_Decode_1
  have hlt := h.lt
  have hclt := hc.lt
  refine new_x (Ext.rfl' w) fun b1 w2 hb1 hl1 hx _ => ?_
  refine ld_obj0 (by kernel_rfl) (hc.ext hx) rfl ?_
  refine pack_Reader_Text_calls (pack_Reader_Text_spec (h.ext hx) hl fun w5 hr5 hg5 => kp_grown hg5 (fun e => by cases e; omega) ?_)
  have hc5 := (hc.ext hx).other hg5 (fun e => hca (Option.some.inj e))
  refine ld_obj0 (by kernel_rfl) hc5 rfl ?_
  refine pack_Reader_Text_calls (pack_Reader_Text_spec hr5 hl fun w8 hr8 hg8 => kp_grown hg8 (fun e => by cases e; omega) (wr_of fun w9 hw9 => ?_))
  have hg := grown_trans (grown_trans (grown_ext hx _) hg5) hg8
  exact hK _ (hr8.wr hw9 (by omega)) (grown_new hg (by omega) (grown_wr hw9))
theorem snapone_Decode_2_spec {c a : Addr} {K : ApiSession → World → Prop} (hc : Vc.Obj w c [.pointer (some a)]) (h : Rd w a l p no) (hca : c.block ≠ a.block) (hl : l.length ≤ 140737488355328)
    (hK : ∀ w', Rd w' a l (rdSess l 1 p no).2.1 (rdSess l 1 p no).2.2 → w.grownBy w' (some a.block) → K (rdSess l 1 p no).1 w') : snapone_Decode_2 c K w := by
  unfold snapone_Decode_2
  have hlt := h.lt
  have hclt := hc.lt
  refine new_x (Ext.rfl' w) fun b1 w2 hb1 hl1 hx _ => ?_
  refine ld_obj0 (by kernel_rfl) (hc.ext hx) rfl ?_
  refine answer_Get_calls (answer_Get_spec (h.ext hx) hl fun w5 hr5 hg5 => kp_grown hg5 (fun e => by cases e; omega) ?_)
  have hg := grown_trans (grown_ext hx _) hg5
  have z5 := hg5.size
  refine new_of fun b6 w7 hn7 => wr_of fun w8 hw8 => wr_of fun w9 hw9 => ?_
  have e6 := hn7.1
  have hx7 := Ext.new hn7
  refine hK _ (((hr5.ext hx7).wr hw8 (by omega)).wr hw9 (by omega)) (grown_new (grown_new (grown_trans hg (grown_ext hx7 _)) (by omega) (grown_wr hw8)) (by omega) (grown_wr hw9))
theorem snapone_list_pair_spec {c a : Addr} {K : Sl → World → Prop} (hm : 0 ≤ most) (hm2 : most ≤ 100) (hc : Vc.Obj w c [.pointer (some a)]) (h : Rd w a l p no) (hca : c.block ≠ a.block) (hl : l.length ≤ 140737488355328)
    (hK : ∀ s w', OwnSl eApiPair w' w.heap.size s (rdList (rdPair l 1) (rdCount l most p no).2.1 (rdCount l most p no).2.2 (rdCount l most p no).1.toNat).1 →
      Rd w' a l (rdList (rdPair l 1) (rdCount l most p no).2.1 (rdCount l most p no).2.2 (rdCount l most p no).1.toNat).2.1 (rdList (rdPair l 1) (rdCount l most p no).2.1 (rdCount l most p no).2.2 (rdCount l most p no).1.toNat).2.2 → w.grownBy w' (some a.block) → K s w') : snapone_list_api_Pair_1 (some a) most c K w := by
  unfold snapone_list_api_Pair_1
  have hlt := h.lt
  have hclt := hc.lt
  refine pack_Reader_Count_calls (pack_Reader_Count_spec h fun w2 hr2 hg2 => ?_)
  obtain ⟨n, hn, hn2⟩ := rdCount_nat (l := l) (p := p) (no := no) hm
  rw [hn]
  rw [hn, Int.toNat_natCast] at hK
  generalize rdCount l most p no = r at *
  have z2 := hg2.size
  refine up2b (fun k out w' => w.grownBy w' (some a.block) ∧ Rd w' a l (rdList (rdPair l 1) r.2.1 r.2.2 k).2.1 (rdList (rdPair l 1) r.2.1 r.2.2 k).2.2 ∧ OwnSl eApiPair w' w.heap.size out (rdList (rdPair l 1) r.2.1 r.2.2 k).1) 0 n rfl (by omega) (by omega) ⟨hg2, hr2, .nil _ _ _⟩ ?_
  rintro k out w6 C _ hk ⟨hg6, hr6, ho6⟩ hC
  have z6 := hg6.size
  refine ifD (fun hlt1 => ?_) (fun hge => ?_)
  · have hk1 : k < n := by omega
    have hlen := rdList_len (p := r.2.1) (no := r.2.2) (one := rdPair l 1) k
    refine snapone_Decode_1_calls (snapone_Decode_1_spec (hc.other hg6 (fun e => hca (Option.some.inj e))) hr6 hca hl fun w8 hr8 hg8 => ?_)
    have z8 := hg8.size
    refine lit1_ty (E := eApiPair) 40 (x := (rdPair l 1 (rdList (rdPair l 1) r.2.1 r.2.2 k).2.1 (rdList (rdPair l 1) r.2.1 r.2.2 k).2.2).1) w8.heap.size (by kernel_rfl) (by decide) (fun w => by kernel_rfl) (Nat.le_refl _) fun s9 w10 _ hs9 hx10 => ?_
    have ho10 := (ho6.grownB hg8 (fun c hc e => by have := ho6.ge c hc; have := Option.some.inj e; omega)).ext hx10
    have z10 := hx10.size
    refine app_ty 40 (by kernel_rfl) (by kernel_rfl) ho10 hs9.is (by rw [hlen]; simp only [List.length_singleton]; omega) (by omega) (by decide) fun s11 w12 ho12 hg12 => ?_
    refine hC hk1 _ _ _ rfl ⟨grown_hi (grown_trans (grown_trans hg6 hg8) (grown_ext hx10 _)) hg12 ho10.ge, ?_, ho12⟩
    exact (hr8.ext hx10).high hg12 (fun r hr => by have := ho10.ge r hr; omega)
  · obtain rfl : k = n := by omega
    exact hK _ _ ho6 hr6 hg6
theorem snapone_list_sess_spec {c a : Addr} {K : Sl → World → Prop} (hm : 0 ≤ most) (hm2 : most ≤ 100) (hc : Vc.Obj w c [.pointer (some a)]) (h : Rd w a l p no) (hca : c.block ≠ a.block) (hl : l.length ≤ 140737488355328)
    (hK : ∀ s w', OwnSl eApiSession w' w.heap.size s (rdList (rdSess l 1) (rdCount l most p no).2.1 (rdCount l most p no).2.2 (rdCount l most p no).1.toNat).1 →
      Rd w' a l (rdList (rdSess l 1) (rdCount l most p no).2.1 (rdCount l most p no).2.2 (rdCount l most p no).1.toNat).2.1 (rdList (rdSess l 1) (rdCount l most p no).2.1 (rdCount l most p no).2.2 (rdCount l most p no).1.toNat).2.2 → w.grownBy w' (some a.block) → K s w') : snapone_list_api_Session_2 (some a) most c K w := by
  unfold snapone_list_api_Session_2
  have hlt := h.lt
  have hclt := hc.lt
  refine pack_Reader_Count_calls (pack_Reader_Count_spec h fun w2 hr2 hg2 => ?_)
  obtain ⟨n, hn, hn2⟩ := rdCount_nat (l := l) (p := p) (no := no) hm
  rw [hn]
  rw [hn, Int.toNat_natCast] at hK
  generalize rdCount l most p no = r at *
  have z2 := hg2.size
  refine up2b (fun k out w' => w.grownBy w' (some a.block) ∧ Rd w' a l (rdList (rdSess l 1) r.2.1 r.2.2 k).2.1 (rdList (rdSess l 1) r.2.1 r.2.2 k).2.2 ∧ OwnSl eApiSession w' w.heap.size out (rdList (rdSess l 1) r.2.1 r.2.2 k).1) 0 n rfl (by omega) (by omega) ⟨hg2, hr2, .nil _ _ _⟩ ?_
  rintro k out w6 C _ hk ⟨hg6, hr6, ho6⟩ hC
  have z6 := hg6.size
  refine ifD (fun hlt1 => ?_) (fun hge => ?_)
  · have hk1 : k < n := by omega
    have hlen := rdList_len (p := r.2.1) (no := r.2.2) (one := rdSess l 1) k
    refine snapone_Decode_2_calls (snapone_Decode_2_spec (hc.other hg6 (fun e => hca (Option.some.inj e))) hr6 hca hl fun w8 hr8 hg8 => ?_)
    have z8 := hg8.size
    refine lit1_ty (E := eApiSession) 72 (x := (rdSess l 1 (rdList (rdSess l 1) r.2.1 r.2.2 k).2.1 (rdList (rdSess l 1) r.2.1 r.2.2 k).2.2).1) w8.heap.size (by kernel_rfl) (by decide) (fun w => by kernel_rfl) (Nat.le_refl _) fun s9 w10 _ hs9 hx10 => ?_
    have ho10 := (ho6.grownB hg8 (fun c hc e => by have := ho6.ge c hc; have := Option.some.inj e; omega)).ext hx10
    have z10 := hx10.size
    refine app_ty 72 (by kernel_rfl) (by kernel_rfl) ho10 hs9.is (by rw [hlen]; simp only [List.length_singleton]; omega) (by omega) (by decide) fun s11 w12 ho12 hg12 => ?_
    refine hC hk1 _ _ _ rfl ⟨grown_hi (grown_trans (grown_trans hg6 hg8) (grown_ext hx10 _)) hg12 ho10.ge, ?_, ho12⟩
    exact (hr8.ext hx10).high hg12 (fun r hr => by have := ho10.ge r hr; omega)
  · obtain rfl : k = n := by omega
    exact hK _ _ ho6 hr6 hg6
end Go.Chg
/-
  Package 'snapone': decode, encode; 'changeoverref26'.
-/
set_option maxRecDepth 20000
set_option linter.unusedVariables false
namespace Go.Chg
open Go.Vc
variable {w : World} {l : List UInt8} {v p no most : Int} {x : ApiState} {ps : List ApiPair} {ss : List ApiSession}
/-- What a state's bytes lead to. -/
def DecK (w0 : World) (v : Int) (l : List UInt8) (K : ApiState × Int → World → Prop) : Prop :=
  ((decSt v l).1 ≠ 0 → ∀ w', Ext w0 w' → K (zState, (decSt v l).1) w') ∧
  ((decSt v l).1 = 0 → ∀ a b w', OwnSl eApiPair w' w0.heap.size a (decSt v l).2.1 → OwnSl eApiSession w' w0.heap.size b (decSt v l).2.2 → Ext w0 w' → K (⟨v, a, b⟩, 0) w')
theorem done_spec {a : Addr} {e : Int} {K : Int → World → Prop} (h : Rd w a l p no) (he : (if no ≠ 0 then no else if p < l.length then 3 else 0) = e) (hK : ∀ w', Ext w w' → K e w') : pack_Reader_Done (some a) K w := by
  subst he
  exact pack_Reader_Done_spec h hK
theorem pairB_1 (x : ApiPair) : pairB 1 x = enc x.Key.length ++ x.Key ++ (enc x.Val.length ++ x.Val) := by
  unfold pairB
  rw [if_pos rfl, List.append_nil]
theorem pairB_2 (x : ApiPair) : pairB 2 x = enc x.Key.length ++ x.Key ++ enc x.Rev.toNat ++ (enc x.Val.length ++ x.Val) := by
  unfold pairB
  rw [if_neg (by decide)]
theorem snapone_Decode_spec {s : Sl} {K : ApiState × Int → World → Prop} (ht : Utf8T w) (hb : IsSl eB w s l) (hl : l.length ≤ 140737488355328) (hD : DecK w 1 l K) : snapone_Decode s K w := by
  unfold snapone_Decode
  refine new_x (Ext.rfl' w) fun b1 w2 hb1 hl1 hx hn2 => ?_
  refine pack_NewReader_calls (pack_NewReader_spec (hb.ext hx) hl fun a w4 ha hr hx4 => kp_ext hx4 ?_)
  have hx := hx.trans' hx4
  have a4 := hr.lt
  have z4 := hx4.size
  have z2 := (Ext.new hn2).size
  refine alloc_ty (z := .pointer none) (by kernel_rfl) fun r5 w6 h5 hx6 ho6 => kp_ext hx6 ?_
  have hx := hx.trans' hx6
  have r6 := ho6.lt
  have hr := hr.ext hx6
  refine st_obj0 (by kernel_rfl) ho6 rfl (by decide) fun w7 hw7 ho7 => kp_wr hw7 (by omega) ?_
  have hx := Ext.grown' hx (grown_wr hw7) (by omega)
  have hr := hr.wr hw7 (by omega)
  have z7 := hw7.size
  have ho : Vc.Obj w7 r5 [.pointer (some a)] := ho7
  have hca : r5.block ≠ a.block := by omega
  refine ld_obj0 (by kernel_rfl) ho rfl ?_
  refine pack_Reader_Number_calls (pack_Reader_Number_spec hr fun w10 hr hg10 => kp_grown hg10 (fun e => by cases e; omega) ?_)
  have hx := Ext.grown' hx hg10 (by omega)
  have ho := ho.other hg10 (fun e => hca (Option.some.inj e))
  have z10 := hg10.size
  refine ld_obj0 (by kernel_rfl) ho rfl ?_
  refine pack_Reader_Err_calls (pack_Reader_Err_spec' hr (kp_same ?_))
  refine ifNe (fun h1 => wr_x hx hb1 fun w14 hx _ => ?_) (fun h1 => ?_)
  · have := hD.1
    rw [decSt_1 h1] at this
    exact this h1 _ hx
  refine ifNe (fun h2 => wr_x hx hb1 fun w15 hx _ => ?_) (fun h2 => ?_)
  · have := hD.1
    rw [decSt_2 h1 h2] at this
    exact this (by decide) _ hx
  have d3 := decSt_3 (v := 1) h1 h2
  have d4 := decSt_4 (v := 1) h1 h2
  have d5 := decSt_5 (v := 1) h1 h2
  rw [h1] at hr
  rw [h2]
  generalize rdNumber l 2 0 0 = num at *
  refine new_x hx fun b16 w17 hb16 hl16 hx hn17 => wr_x hx hb16 fun w18 hx hw18 => ?_
  have e16 := hn17.1
  have z18 := hw18.size
  have hr := (hr.ext (Ext.new hn17)).wr hw18 (by omega)
  have ho := (ho.ext (Ext.new hn17)).other (grown_wr hw18) (fun e => by have := Option.some.inj e; omega)
  refine ld_obj0 (by kernel_rfl) ho rfl ?_
  refine snapone_list_api_Pair_1_calls (snapone_list_pair_spec (by decide) (by decide) ho hr hca hl fun t20 w21 hp hr hg21 => kp_grown hg21 (fun e => by cases e; omega) (kp_grown hg21 (fun e => by cases e; omega) ?_))
  have hx := Ext.grown' hx hg21 (by omega)
  have z21 := hg21.size
  have ho := ho.other hg21 (fun e => hca (Option.some.inj e))
  refine wr_x hx hb16 fun w22 hx hw22 => ?_
  have z22 := hw22.size
  have hr := hr.wr hw22 (by omega)
  have ho := ho.other (grown_wr hw22) (fun e => by have := Option.some.inj e; omega)
  have hp := hp.wrO hw22 (by omega)
  refine ld_obj0 (by kernel_rfl) ho rfl ?_
  refine snapone_list_api_Session_2_calls (snapone_list_sess_spec (by decide) (by decide) ho hr hca hl fun t24 w25 hs hr hg25 => kp_grown hg25 (fun e => by cases e; omega) (kp_grown hg25 (fun e => by cases e; omega) ?_))
  have hx := Ext.grown' hx hg25 (by omega)
  have z25 := hg25.size
  have ho := ho.other hg25 (fun e => hca (Option.some.inj e))
  have hp := hp.grownB hg25 (fun c hc e => by have := hp.ge c hc; have := Option.some.inj e; omega)
  refine wr_x hx hb16 fun w26 hx hw26 => ?_
  have z26 := hw26.size
  have hr := hr.wr hw26 (by omega)
  have ho := ho.other (grown_wr hw26) (fun e => by have := Option.some.inj e; omega)
  have hp := hp.wrO hw26 (by omega)
  have hs := hs.wrO hw26 (by omega)
  refine ld_obj0 (by kernel_rfl) ho rfl ?_
  obtain ⟨e, hX⟩ : ∃ e, doneE l (rdState l 1 num.2.1 0) = e := ⟨_, rfl⟩
  refine pack_Reader_Done_calls (done_spec hr hX fun w29 hx29 => kp_ext hx29 (kp_ext hx29 ?_))
  have hx := hx.trans' hx29
  have hp := hp.ext hx29
  have hs := hs.ext hx29
  change OwnSl eApiPair w29 w18.heap.size t20 (rdState l 1 num.2.1 0).1.1 at hp
  change OwnSl eApiSession w29 w22.heap.size t24 (rdState l 1 num.2.1 0).1.2 at hs
  have hlen : (rdState l 1 num.2.1 0).1.1.length ≤ 100000 := by
    obtain ⟨n, hn, hn2⟩ := rdCount_nat (l := l) (p := num.2.1) (no := 0) (most := 64) (by decide)
    show (rdList (rdPair l 1) (rdCount l 64 num.2.1 0).2.1 (rdCount l 64 num.2.1 0).2.2 (rdCount l 64 num.2.1 0).1.toNat).1.length ≤ 100000
    rw [rdList_len]
    omega
  have l1 : b1 < w18.heap.size := by omega
  refine ⟨fun e33 w' => Ext w w' ∧ OwnSl eApiPair w' w18.heap.size t20 (rdState l 1 num.2.1 0).1.1 ∧ OwnSl eApiSession w' w18.heap.size t24 (rdState l 1 num.2.1 0).1.2 ∧ (e33 = 0 ∧ decSt 1 l = (0, (rdState l 1 num.2.1 0).1.1, (rdState l 1 num.2.1 0).1.2) ∨ e33 ≠ 0 ∧ decSt 1 l = (e33, [], [])), ?_, ?_⟩
  · refine ifEq (fun h3 => migr_Check_calls (s := ⟨1, t20, t24⟩) (migr_Check_spec (x := ⟨1, t20, t24⟩) (ht.ext hx) ⟨hp.is, hs.is⟩ hlen fun b w32 hb hx' => kp_ext hx' (kp_ext hx' ⟨hx.trans' hx', hp.ext hx', (hs.ext hx').mono (by omega), ?_⟩))) (fun h3 => ⟨hx, hp, hs.mono (by omega), .inr ⟨h3, ?_⟩⟩)
    · rcases hb with ⟨rfl, ok⟩ | ⟨rfl, ok⟩
      · exact .inl ⟨rfl, d5 (hX.trans h3) ok⟩
      · exact .inr ⟨by decide, d4 (hX.trans h3) ok⟩
    · rw [hX] at d3
      exact d3 h3
  rintro e33 w34 ⟨hx, hp, hs, ⟨rfl, he⟩ | ⟨h0, he⟩⟩
  · refine ifNe (fun h => absurd rfl h) (fun _ => wr_x hx hb1 fun w36 hx hw => ?_)
    have := hD.2
    rw [he] at this
    exact this rfl _ _ _ ((hp.wrO hw l1).mono (by omega)) ((hs.wrO hw l1).mono (by omega)) hx
  · refine ifNe (fun h => wr_x hx hb1 fun w35 hx _ => ?_) (fun h => absurd h h0)
    have := hD.1
    rw [he] at this
    exact this h0 _ hx

/-! ### The bytes of a state that may be -/
theorem flat_le {α : Type} {B : α → List UInt8} {n : Nat} : ∀ {xs : List α}, (∀ x ∈ xs, (B x).length ≤ n) → (xs.flatMap B).length ≤ n * xs.length
  | [], _ => by simp
  | x :: xs, h => by
    have h1 := flat_le (B := B) (n := n) fun y hy => h y (List.mem_cons_of_mem _ hy)
    have h2 := h x (List.mem_cons_self ..)
    rw [List.flatMap_cons, List.length_append, List.length_cons, Nat.mul_add, Nat.mul_one]
    omega
theorem ok_small (h : StateOk v ps ss) : (∀ x ∈ ps, x.Key.length ≤ 24 ∧ x.Val.length ≤ 48 ∧ x.Rev ≤ 9223372036854775807) ∧ (∀ x ∈ ss, AnsNum x.Last ∧ x.Last.Val.length ≤ 48) ∧ ps.length ≤ 64 ∧ ss.length ≤ 8 := by
  obtain ⟨hv, hp, hs, hr⟩ := h
  refine ⟨fun x hx => ?_, fun x hx => ?_, hp.2.1, sess8 hs⟩
  · obtain ⟨k1, k2, k3, k4⟩ := hp.1 x hx
    refine ⟨keyOk_len k1, valOk_len k2, ?_⟩
    rcases hv with rfl | rfl
    · have := k3 rfl; omega
    · have := k4 rfl; omega
  · obtain ⟨k1, k2, ⟨a1, a2⟩, ⟨a3, a4⟩, ⟨a5, a6⟩, ⟨a7, a8⟩, a9⟩ := hs.1 x hx
    exact ⟨⟨by omega, by omega, by omega, by omega⟩, valOk_len a9⟩
theorem pairB_len {x : ApiPair} (h : x.Key.length ≤ 24 ∧ x.Val.length ≤ 48 ∧ x.Rev ≤ 9223372036854775807) : (pairB v x).length ≤ 100 := by
  obtain ⟨h1, h2, h3⟩ := h
  have e1 := enc_len9 (n := (x.Key.length : Int)) (by omega)
  have e2 := enc_len9 (n := (x.Val.length : Int)) (by omega)
  have e3 := enc_len9 h3
  rw [Int.toNat_natCast] at e1 e2
  unfold pairB
  simp only [List.length_append]
  split
  · simp only [List.length_nil]; omega
  · omega
theorem sessB_len {x : ApiSession} (h : AnsNum x.Last ∧ x.Last.Val.length ≤ 48) : (sessB v x).length ≤ 100 := by
  have := ansB_len (v := v) h.1 (by have := h.2; omega)
  have := h.2
  unfold sessB
  omega
theorem take_le {α : Type} {B : α → List UInt8} {n m : Nat} {xs : List α} (h : ∀ x ∈ xs, (B x).length ≤ n) (hm : xs.length ≤ m) (k : Nat) : ((xs.take k).flatMap B).length ≤ n * m := by
  refine Nat.le_trans (flat_le fun x hx => h x (List.mem_of_mem_take hx)) (Nat.mul_le_mul_left _ ?_)
  rw [List.length_take]
  omega
theorem flat_up {α : Type} {B : α → List UInt8} {xs : List α} {k : Nat} (hk : k < xs.length) : (xs.take (k + 1)).flatMap B = (xs.take k).flatMap B ++ B xs[k] := by
  rw [List.take_succ_eq_append_getElem hk, List.flatMap_append, List.flatMap_cons, List.flatMap_nil, List.append_nil]
theorem flat_all {α : Type} {B : α → List UInt8} {xs : List α} {k : Nat} (hk : ¬ k < xs.length) : (xs.take k).flatMap B = xs.flatMap B := by
  rw [List.take_of_length_le (by omega)]
theorem stateB_len (h : StateOk v ps ss) : (stateB v ps ss).length ≤ 100000 := by
  have hv := h.1
  obtain ⟨fp, fs, f64, f8⟩ := ok_small h
  have bp := take_le (B := pairB v) (fun y hy => pairB_len (v := v) (fp y hy)) f64 ps.length
  have bs := take_le (B := sessB v) (fun y hy => sessB_len (v := v) (fs y hy)) f8 ss.length
  have ep := enc_len9 (n := (ps.length : Int)) (by omega)
  have es := enc_len9 (n := (ss.length : Int)) (by omega)
  have ev : (enc v.toNat).length ≤ 9 := enc_len9 (by omega)
  rw [Int.toNat_natCast] at ep es
  rw [List.take_length] at bp bs
  unfold stateB
  simp only [List.length_append]
  omega
theorem Wt.zero {w' : World} {a : Addr} (ho : Vc.Obj w' a [Sl.nil.val]) : Wt w' a [] := ⟨Sl.nil, .nilSl _ _, ho, fun e => by cases e⟩
theorem snapone_Encode_spec {K : Sl × Int → World → Prop} (ht : Utf8T w) (h : StAt w x ps ss) (hle : ps.length ≤ 100000) (h3 : ¬ StateOk x.Schema ps ss → ∀ w', Ext w w' → K (Sl.nil, 3) w') (h8 : StateOk x.Schema ps ss → x.Schema ≠ 1 → ∀ w', Ext w w' → K (Sl.nil, 8) w')
    (hK : StateOk 1 ps ss → x.Schema = 1 → ∀ s w', OwnSl eB w' w.heap.size s (stateB 1 ps ss) → Ext w w' → K (s, 0) w') : snapone_Encode x K w := by
  unfold snapone_Encode
  refine new_x (Ext.rfl' w) fun b1 w2 hb1 hl1 hx hn2 => ?_
  refine migr_Check_calls (s := x) (migr_Check_spec (ht.ext hx) (h.ext hx) hle fun e w4 he hx' => kp_ext hx' ?_)
  have z4 := hx'.size
  have hx := hx.trans' hx'
  rcases he with ⟨rfl, he⟩ | ⟨rfl, he⟩
  rotate_left
  · exact ifNe (fun _ => h3 he _ hx) (fun h => absurd h (by decide))
  refine ifNe (fun h => absurd rfl h) (fun _ => ?_)
  refine ifNe (fun h1 => h8 he h1 _ hx) (fun h1 => ?_)
  rw [h1] at he
  obtain ⟨fp, fs, f64, f8⟩ := ok_small he
  have hpl := h.ps.len
  have hsl := h.ss.len
  have bp := take_le (B := pairB 1) (fun y hy => pairB_len (v := 1) (fp y hy)) f64
  have bs := take_le (B := sessB 1) (fun y hy => sessB_len (v := 1) (fs y hy)) f8
  have ep := enc_len9 (n := (ps.length : Int)) (by omega)
  have es := enc_len9 (n := (ss.length : Int)) (by omega)
  rw [Int.toNat_natCast] at ep es
  have e1 : (enc (1 : Int).toNat).length ≤ 9 := enc_len9 (by decide)
  refine box_ty fun a w6 ha hx' ho => kp_ext hx' ?_
  have hx := hx.trans' hx'
  have hne : some b1 ≠ some a.block := fun e => by cases e; omega
  have hwa : w.heap.size ≤ a.block := by omega
  refine pack_Writer_Number_calls (pack_Writer_Number_spec (Wt.zero ho) (by decide) (by decide) fun w8 hw hg => kp_grown hg hne ?_)
  have hx := Ext.grown' hx hg hwa
  refine pack_Writer_Number_calls (pack_Writer_Number_spec hw (by omega) (by rw [List.nil_append]; omega) fun w10 hw hg => kp_grown hg hne ?_)
  have hx := Ext.grown' hx hg hwa
  rw [hpl, Int.toNat_natCast, List.nil_append] at hw
  refine up1 (fun k w' => Ext w w' ∧ Wt w' a (enc (1 : Int).toNat ++ enc ps.length ++ (ps.take k).flatMap (pairB 1))) 0 ps.length rfl (by omega) (by omega) ⟨hx, by simpa using hw⟩ ?_
  rintro k w13 C _ hk ⟨hx, hw⟩ hC
  have := hw.lt
  have bk := bp k
  refine ifD (fun hlt => ?_) (fun hge => ?_)
  · have hk1 : k < ps.length := by omega
    obtain ⟨g1, g2, g3⟩ := fp _ (List.getElem_mem hk1)
    refine st_rd (val := ApiPair.val) (by kernel_rfl) (by kernel_rfl) (h.ps.ext hx) rfl hk1 (fun _ => rfl) fun _ => ?_
    refine new_x (Ext.rfl' w13) fun b16 w17 hb16 hl16 hx13 _ => wr_x hx13 hb16 fun w18 hx13 _ => ?_
    have hx := hx.trans' hx13
    have hne2 : some b16 ≠ some a.block := fun e => by cases e; omega
    have ek := enc_len9 (n := (ps[k].Key.length : Int)) (by omega)
    rw [Int.toNat_natCast] at ek
    refine pack_Writer_Text_calls (pack_Writer_Text_spec (hw.ext hx13) (by simp only [List.length_append]; omega) fun w20 hw hg => kp_grown hg hne2 (kp_grown hg hne ?_))
    have hx := Ext.grown' hx hg hwa
    refine pack_Writer_Text_calls (pack_Writer_Text_spec hw (by simp only [List.length_append]; omega) fun w22 hw hg => kp_grown hg hne2 (kp_grown hg hne ?_))
    have hx := Ext.grown' hx hg hwa
    refine hC hk1 _ _ rfl ⟨hx, ?_⟩
    rw [flat_up hk1, pairB_1]
    simpa using hw
  rw [flat_all (by omega)] at hw
  have bk' := bp ps.length
  rw [List.take_length] at bk'
  refine pack_Writer_Number_calls (pack_Writer_Number_spec hw (by omega) (by simp only [List.length_append]; omega) fun w24 hw hg => kp_grown hg hne ?_)
  have hx := Ext.grown' hx hg hwa
  rw [hsl, Int.toNat_natCast] at hw
  refine up1 (fun k w' => Ext w w' ∧ Wt w' a (enc (1 : Int).toNat ++ enc ps.length ++ ps.flatMap (pairB 1) ++ enc ss.length ++ (ss.take k).flatMap (sessB 1))) 0 ss.length rfl (by omega) (by omega) ⟨hx, by simpa using hw⟩ ?_
  rintro k w27 C _ hk ⟨hx, hw⟩ hC
  have := hw.lt
  have bk := bs k
  refine ifD (fun hlt => ?_) (fun hge => ?_)
  · have hk1 : k < ss.length := by omega
    obtain ⟨g1, g2⟩ := fs _ (List.getElem_mem hk1)
    refine st_rd (val := ApiSession.val) (by kernel_rfl) (by kernel_rfl) (h.ss.ext hx) rfl hk1 (fun _ => rfl) fun _ => ?_
    refine new_x (Ext.rfl' w27) fun b30 w31 hb30 hl30 hx27 _ => wr_x hx27 hb30 fun w32 hx27 _ => ?_
    have hx := hx.trans' hx27
    have hne2 : some b30 ≠ some a.block := fun e => by cases e; omega
    refine answer_Put_calls (a := ss[k].Last) (answer_Put_spec (hw.ext hx27) g1 (by simp only [List.length_append]; omega) fun w34 hw hg => kp_grown hg hne2 (kp_grown hg hne ?_))
    have hx := Ext.grown' hx hg hwa
    refine hC hk1 _ _ rfl ⟨hx, ?_⟩
    rw [flat_up hk1]
    simpa [sessB] using hw
  rw [flat_all (by omega)] at hw
  have bk' := bs ss.length
  rw [List.take_length] at bk'
  refine pack_Writer_Bytes_calls (pack_Writer_Bytes_spec hw (by simp only [List.length_append]; omega) fun s36 w36 ho hx' => kp_ext hx' (hK he h1 _ _ (ho.mono (by have := hx.size; omega)) (hx.trans' hx')))
end Go.Chg
/-
  'changeoverref26'; the laws of chapter 26.
-/
set_option maxRecDepth 20000
set_option linter.unusedVariables false
namespace Go.Chg
open Go.Vc
variable {w : World} {l : List UInt8} {v p no most : Int} {x : ApiState} {ps : List ApiPair} {ss : List ApiSession}
/-- What a call made, put behind, in a region that draws its order. -/
theorem cat_mkH {w w0 : World} {S : World → Prop} {fid : Nat} {args : Array Value} {t ty : TypeId} {b B : Nat} {out : Sl} {l m : List UInt8} {K : Sl → World → Prop} (ht : appOk Pr t (elemT Pr t) 1 1 = true) (hs : isSlT Pr t = true) (hm : Mk fid args m) (hx : Ext w0 w) (hS : ∀ w', Ext w0 w' → S w') (ho : OwnSl eB w B out l) (hb : b < B) (hB : B ≤ w.heap.size)
    (h0 : w0.heap.size ≤ B) (hlen : l.length + m.length ≤ 140737488355328) (hK : ∀ s w', OwnSl eB w' B s (l ++ m) → Ext w0 w' → B ≤ w'.heap.size → K s w') :
    callV Pr Sl.val fid args w fun x w2 => kp b w w2 <| S w2 ∧ opTy Pr (Builtin.append_ #[t, t] ty #[out.val, x.val]) Sl.val (fun s w3 => kp b w2 w3 <| S w3 ∧ K s w3) w2 :=
  hm w _ fun x w2 hx2 hx' => kp_ext hx' ⟨hS _ (hx.trans' hx'), cat_kp ht hs (ho.ext hx') hx2.is hlen (Nat.le_trans hB hx'.size) hb fun s w3 h hg =>
    ⟨hS _ (Ext.own (hx.trans' hx') (ho.ext hx') h0 hg), hK s w3 h (Ext.own (hx.trans' hx') (ho.ext hx') h0 hg) (Nat.le_trans hB (Nat.le_trans hx'.size hg.size))⟩⟩
theorem ref26_Bytes_spec {K : Sl → World → Prop} (h : StAt w x ps ss) (hok : StateOk x.Schema ps ss) (hK : ∀ s w', OwnSl eB w' w.heap.size s (stateB x.Schema ps ss) → Ext w w' → K s w') : ref26_Bytes x K w := by
  unfold ref26_Bytes
  have hv := hok.1
  obtain ⟨fp, fs, f64, f8⟩ := ok_small hok
  have hpl := h.ps.len
  have hsl := h.ss.len
  have bp := take_le (B := pairB x.Schema) (fun y hy => pairB_len (v := x.Schema) (fp y hy)) f64
  have bs := take_le (B := sessB x.Schema) (fun y hy => sessB_len (v := x.Schema) (fs y hy)) f8
  have ep := enc_len9 (n := (ps.length : Int)) (by omega)
  have es := enc_len9 (n := (ss.length : Int)) (by omega)
  rw [Int.toNat_natCast] at ep es
  have e1 : (enc x.Schema.toNat).length ≤ 9 := enc_len9 (by omega)
  refine new_x (Ext.rfl' w) fun b1 w2 hb1 hl1 hx _ => ?_
  refine ref01_Bytes_calls (ref01_Bytes_spec (by omega) fun s3 w4 ho hx' => kp_ext hx' ?_)
  have hx := hx.trans' hx'
  have hz := hx'.size
  have hB : w.heap.size ≤ w2.heap.size := by omega
  refine cat_mk (by kernel_rfl) (by kernel_rfl) (mk_num (n := (x.Pairs.len : Int)) (by omega)) hx ho hl1 hz hB (by rw [hpl, Int.toNat_natCast]; omega) fun s7 w8 ho hx hz => ?_
  rw [hpl, Int.toNat_natCast] at ho
  refine up2b (fun k out w' => Ext w w' ∧ w2.heap.size ≤ w'.heap.size ∧ OwnSl eB w' w2.heap.size out (enc x.Schema.toNat ++ enc ps.length ++ (ps.take k).flatMap (pairB x.Schema))) 0 ps.length rfl (by omega) (by omega) ⟨hx, hz, by simpa using ho⟩ ?_
  rintro k out w12 C _ hk ⟨hx, hz, ho⟩ hC
  have bk := bp k
  refine ifD (fun hlt => ?_) (fun hge => ?_)
  · have hk1 : k < ps.length := by omega
    obtain ⟨g1, g2, g3⟩ := fp _ (List.getElem_mem hk1)
    have e3 := enc_len9 g3
    have ek := enc_len9 (n := (ps[k].Key.length : Int)) (by omega)
    have ev := enc_len9 (n := (ps[k].Val.length : Int)) (by omega)
    rw [Int.toNat_natCast] at ek ev
    refine fld_rd (y := ps[k].Key) (by kernel_rfl) (by kernel_rfl) (h.ps.ext hx) rfl hk1 rfl fun _ => ?_
    refine cat_mk (by kernel_rfl) (by kernel_rfl) (mk_text (x := ps[k].Key) (by omega)) hx ho hl1 hz hB (by simp only [List.length_append]; omega) fun s17 w18 ho hx hz => ?_
    refine ⟨fun out w' => Ext w w' ∧ w2.heap.size ≤ w'.heap.size ∧ OwnSl eB w' w2.heap.size out (enc x.Schema.toNat ++ enc ps.length ++ (ps.take k).flatMap (pairB x.Schema) ++ (enc ps[k].Key.length ++ ps[k].Key) ++ (if x.Schema = 1 then [] else enc ps[k].Rev.toNat)), ?_, ?_⟩
    · refine ifEq (fun h2 => ?_) (fun h2 => ⟨hx, hz, ?_⟩)
      · refine fld_rd (y := ps[k].Rev) (by kernel_rfl) (by kernel_rfl) (h.ps.ext hx) rfl hk1 rfl fun _ => ?_
        refine cat_mk (by kernel_rfl) (by kernel_rfl) (mk_num g3) hx ho hl1 hz hB (by simp only [List.length_append]; omega) fun s24 w25 ho hx hz => ⟨hx, hz, ?_⟩
        rw [if_neg (by omega)]
        exact ho
      · rw [if_pos (by omega), List.append_nil]
        exact ho
    rintro out26 w27 ⟨hx, hz, ho⟩
    have e4 : (if x.Schema = 1 then [] else enc ps[k].Rev.toNat).length ≤ 9 := by
      split
      · exact Nat.zero_le _
      · exact e3
    refine fld_rd (y := ps[k].Val) (by kernel_rfl) (by kernel_rfl) (h.ps.ext hx) rfl hk1 rfl fun _ => ?_
    refine cat_mk (by kernel_rfl) (by kernel_rfl) (mk_text (x := ps[k].Val) (by omega)) hx ho hl1 hz hB (by simp only [List.length_append] at e4 ⊢; omega) fun s32 w33 ho hx hz => hC hk1 _ _ _ rfl ⟨hx, hz, ?_⟩
    rw [flat_up hk1]
    unfold pairB at ho ⊢
    simpa only [List.append_assoc] using ho
  rw [flat_all (by omega)] at ho
  have bk' := bp ps.length
  rw [List.take_length] at bk'
  refine cat_mk (by kernel_rfl) (by kernel_rfl) (mk_num (n := (x.Sessions.len : Int)) (by omega)) hx ho hl1 hz hB (by simp only [List.length_append, hsl, Int.toNat_natCast]; omega) fun s36 w37 ho hx hz => ?_
  rw [hsl, Int.toNat_natCast] at ho
  refine up2b (fun k out w' => Ext w w' ∧ w2.heap.size ≤ w'.heap.size ∧ OwnSl eB w' w2.heap.size out (enc x.Schema.toNat ++ enc ps.length ++ ps.flatMap (pairB x.Schema) ++ enc ss.length ++ (ss.take k).flatMap (sessB x.Schema))) 0 ss.length rfl (by omega) (by omega) ⟨hx, hz, by simpa using ho⟩ ?_
  rintro k out w41 C _ hk ⟨hx, hz, ho⟩ hC
  have bk := bs k
  refine ifD (fun hlt => ?_) (fun hge => ?_)
  · have hk1 : k < ss.length := by omega
    have hf := fs _ (List.getElem_mem hk1)
    have hbl := sessB_len (v := x.Schema) hf
    refine heldM_of (fun w' => IsSl eApiSession w' x.Sessions ss) fun w42 hx42 => ⟨h.ss.ext (hx.trans' hx42), ?_⟩
    have hx := hx.trans' hx42
    refine partH (E := eApiSession) (n := 6) (y := ss[k].Last) (xs := ss[k].Last.cs) (by kernel_rfl) (by kernel_rfl) (fun w' h => h) rfl hk1 rfl rfl (fun j v hv => by rw [Nat.add_comm]; exact hv) fun _ => ?_
    refine cat_mkH (by kernel_rfl) (by kernel_rfl) (mk_ans (v := x.Schema) hv hf.1 (by have := hf.2; omega)) hx (fun w' hx' => h.ss.ext hx') (ho.ext hx42) hl1 (Nat.le_trans hz hx42.size) hB (by simp only [List.length_append]; have : (ansB x.Schema ss[k].Last).length ≤ 100 := hbl; omega) fun s48 w49 ho hx hz => hC hk1 _ _ _ rfl ⟨hx, hz, ?_⟩
    rw [flat_up hk1, ← List.append_assoc]
    exact ho
  rw [flat_all (by omega)] at ho
  exact hK _ _ (ho.mono hB) hx

/-! ### The laws -/
/-- What encode tells. -/
def EncR (B : Nat) (v : Int) (w' : World) (sch : Int) (ps : List ApiPair) (ss : List ApiSession) (r : Sl × Int) : Prop :=
  (¬ StateOk sch ps ss ∧ r = (Sl.nil, 3)) ∨ (StateOk sch ps ss ∧ sch ≠ v ∧ r = (Sl.nil, 8)) ∨ (StateOk v ps ss ∧ sch = v ∧ r.2 = 0 ∧ OwnSl eB w' B r.1 (stateB v ps ss))
theorem snapone_Encode_or {K : Sl × Int → World → Prop} (ht : Utf8T w) (h : StAt w x ps ss) (hle : ps.length ≤ 100000) (hK : ∀ r w', EncR w.heap.size 1 w' x.Schema ps ss r → Ext w w' → K r w') : snapone_Encode x K w :=
  snapone_Encode_spec ht h hle (fun h w' hx => hK _ _ (.inl ⟨h, rfl⟩) hx) (fun h h2 w' hx => hK _ _ (.inr (.inl ⟨h, h2, rfl⟩)) hx) (fun h h2 s w' ho hx => hK _ _ (.inr (.inr ⟨h, h2, rfl, ho⟩)) hx)
theorem ok_none (h : v = 1 ∨ v = 2) : StateOk v [] [] := ⟨h, ⟨by simp, by decide, List.Pairwise.nil⟩, ⟨by simp, List.Pairwise.nil⟩, by simp⟩
theorem bytes_none (h : v = 1 ∨ v = 2) : stateB v [] [] = [b8 v.toNat, 0, 0] := by
  unfold stateB
  have e0 : enc 0 = [0] := enc_small (by decide)
  have e1 : enc v.toNat = [b8 v.toNat] := enc_small (by omega)
  simp only [List.length_nil, List.flatMap_nil, List.append_nil, e0, e1]
  rfl
end Go.Chg
