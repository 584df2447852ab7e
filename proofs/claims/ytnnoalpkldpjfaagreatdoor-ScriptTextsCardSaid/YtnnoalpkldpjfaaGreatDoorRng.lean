/-
  A loop over a function ('for x := range seq'): what is to be shown of a function that holds one, and that this is enough. Of whatever program.
-/
import Derived.RangeFuncLeaves
import Derived.RangeFuncRecord
import Derived.OrdersIn
import Derived.Test.YtnnoalpkldpjfaaGreatDoorPrim
set_option linter.unusedVariables false
namespace Go.Vc

/-! ### Code in a round's frame -/
def simpleOp : Op → Bool
  | .move _ | .assign _ | .load .. | .store .. | .binOp .. | .fieldAddr .. => true
  | _ => false
def allSimple : List Oper → Bool
  | [] => true
  | o :: l => cond (simpleOp o.op) (allSimple l) false
/-- Code that may stand in a round, or behind a loop over a function. -/
def okIn : Code → Ann → Bool
  | .skip, _ => true
  | .label _, _ => true
  | .exit _, _ => true
  | .ret, _ => true
  | .region _ ops draw, an => match draw with
    | false => true
    | true => match an with
      | .h _ _ => allSimple ops.toList
      | _ => false
  | .seq a b, .s x y => okIn a x && okIn b y
  | .seq a b, .sj _ x y => okIn a x && okIn b y
  | .cond _ a b, .c x y => okIn a x && okIn b y
  | .block _ a, .b x => okIn a x
  | .block _ a, .bj _ x => okIn a x
  | _, _ => false

theorem allSimple_mem : ∀ {l : List Oper}, allSimple l = true → ∀ o ∈ l, simpleOp o.op = true
  | [], _, o, ho => by cases ho
  | x :: l, h, o, ho => by
    simp only [allSimple] at h
    cases hx : simpleOp x.op with
    | false => rw [hx] at h; cases h
    | true =>
      rw [hx] at h
      rcases List.mem_cons.1 ho with rfl | ho
      · exact hx
      · exact allSimple_mem h o ho

def NoPO (Q : Exit → Act → World → Prop) : Exit → Act → World → Prop
  | .panic _, _, _ => False
  | .outgrown, _, _ => False
  | e, a, w => Q e a w

section
variable {P : Program} {o : Oper} {a : Act} {w : World} {next : Act → World → Prop} {Q : Exit → Act → World → Prop}
theorem up_val {s : Sem Value} (he : execOp a.eval o = (do pure (.value (← s)))) (h : o.wp P a w next (NoPO Q)) : Upg P o a w next := by
  unfold Oper.wp at h
  rw [he, Sem.run_bind] at h
  cases hs : s.run P w with
  | ok v w' =>
    rw [hs] at h
    exact .inl ⟨v, w', by rw [he, Sem.run_bind, hs]; rfl, h⟩
  | halt e w' =>
    rw [hs] at h
    cases e <;> exact h.elim
theorem up_unit {s : Sem Unit} (he : execOp a.eval o = (do s; pure .skip)) (h : o.wp P a w next (NoPO Q)) : Upg P o a w next := by
  unfold Oper.wp at h
  rw [he, Sem.run_bind] at h
  cases hs : s.run P w with
  | ok v w' =>
    rw [hs] at h
    exact .inr (.inl ⟨w', by rw [he, Sem.run_bind, hs]; rfl, h⟩)
  | halt e w' =>
    rw [hs] at h
    cases e <;> exact h.elim
theorem simple_up (hs : simpleOp o.op = true) (h : o.wp P a w next (NoPO Q)) : Upg P o a w next := by
  unfold simpleOp at hs
  split at hs
  · rename_i x ho
    exact .inl ⟨a.eval x, w, by simp [execOp, ho], by unfold Oper.wp at h; simp only [execOp, ho, Sem.run_pure] at h; exact h⟩
  · rename_i x ho
    exact .inl ⟨a.eval x, w, by simp [execOp, ho], by unfold Oper.wp at h; simp only [execOp, ho, Sem.run_pure] at h; exact h⟩
  · rename_i ho
    exact up_val (by simp only [execOp, ho]; rfl) h
  · rename_i ho
    exact up_unit (by simp only [execOp, ho]; rfl) h
  · rename_i ho
    exact up_val (by simp only [execOp, ho]; rfl) h
  · rename_i ho
    exact up_val (by simp only [execOp, ho]; rfl) h
  · cases hs
end

theorem wpAny_in {F : Fence} (hF : Open F) {m : Nat} {P : Program} {ops : Array Oper} {ds : List Deferred} {Q Q' : Exit → Act → World → Prop} (hs : ∀ o ∈ ops.toList, simpleOp o.op = true) (hQ : ∀ a w, Q .normal a w → Q' .normal (wd ds a) w) :
    ∀ (fuel : Nat) (listed : Array Bool) (a : Act) (w : World), wpAny P .any ops (NoPO Q) fuel listed a w → wpAnyIn F m P .any ops Q' fuel listed (wd ds a) w
  | 0, _, _, _, h => ⟨h.1, hQ _ _ h.2⟩
  | fuel + 1, _, a, w, h => by
    refine ⟨fun h0 => hQ _ _ (h.1 h0), fun i hi => ?_⟩
    have h1 := h.2 i hi
    unfold wpOp at h1
    unfold wpOpIn
    cases ho : ops[i]? with
    | none =>
      simp only [ho] at h1
      exact wpAny_in hF hs hQ fuel _ _ _ h1
    | some o =>
      simp only [ho] at h1
      have hmem : o ∈ ops.toList := by
        rw [← Array.getElem?_toList] at ho
        exact List.mem_of_getElem? ho
      show if Region.wanted o (yielded ops a.tmps) then _ else _
      split
      · rename_i hw
        rw [if_pos hw] at h1
        rcases h1 with h1 | ⟨_, _, _, h1⟩
        · exact up_in hF (fun a w => wpAny_in hF hs hQ fuel _ a w) (.inl (simple_up (hs o hmem) h1))
        · exact h1.elim
      · rename_i hw
        rw [if_neg hw] at h1
        refine ⟨fun f _ => hF.all f, ?_⟩
        rw [wd_put]
        exact wpAny_in hF hs hQ fuel _ _ _ h1

def LiftD (ds : List Deferred) (Q : Exit → Act → World → Prop) (e : Exit) (a : Act) (w : World) : Prop := ∃ a0, a = wd ds a0 ∧ Q e a0 w

def exitsOkR (n : Nat) (c : Code) (an : Ann) (st : St) (kn : St → World → Prop) (kx : List (Nat × (St → World → Prop))) (kr : St → World → Prop) (Q : Exit → Act → World → Prop) : Prop :=
  (∀ st' w' a', kn st' w' → Sat n a' st' w' → Agr (writes c) (news an) (stores an) st st' → Q .normal a' w') ∧
  (∀ id k st' w' a', findK kx id = some k → k st' w' → Sat n a' st' w' → Agr (writes c) (news an) (stores an) st st' → Q (.exit id) a' w') ∧
  (∀ st' w' a', kr st' w' → Sat n a' st' w' → Agr (writes c) (news an) (stores an) st st' → Q .ret a' w')
/-- **'vc' is enough in a round's frame, and behind a mark.** -/
theorem vc_soundIn {P : Program} (hP : Plain P) (hm : P.follows .mixedOrders = true) {n m : Nat} {F : Fence} (hF : Open F) {ds : List Deferred} (c : Code) : ∀ (an : Ann) (st : St) (w : World) (kn : St → World → Prop) (kx : List (Nat × (St → World → Prop)))
    (kr : St → World → Prop) (a : Act) (Q : Exit → Act → World → Prop), okIn c an = true → vc P n c an st w kn kx kr → Sat n a st w → exitsOkR n c an st kn kx kr Q → c.wpIn F m P (LiftD ds Q) (wd ds a) w := by
  induction c with
  | skip =>
    intro an st w kn kx kr a Q _ h hs ⟨hn, _, _⟩
    simp only [vc] at h
    exact wpIn_skip ⟨a, rfl, hn _ _ _ h hs (Agr.refl _ _ _ _)⟩
  | label l =>
    intro an st w kn kx kr a Q _ h hs ⟨hn, _, _⟩
    simp only [vc] at h
    exact wpIn_label ⟨a, rfl, hn _ _ _ h hs (Agr.refl _ _ _ _)⟩
  | region id ops draw =>
    intro an st w kn kx kr a Q hok h hs ⟨hn, _, _⟩
    unfold vc at h
    cases an with
    | d =>
      simp only at h
      cases draw with
      | true => exact h.elim
      | false =>
        simp only at h
        exact wpIn_region_list (upList_in hF (K := fun a w => Q .normal a w) (fun a w hq => ⟨a, rfl, hq⟩) _ _ _ (vcOps_sound hP _ _ _ _ _ h hs fun st' w' a' hk hs' hag => hn _ _ _ hk hs' hag))
    | r ms =>
      simp only at h
      cases draw with
      | false =>
        simp only at h
        exact wpIn_region_list (upList_in hF (K := fun a w => Q .normal a w) (fun a w hq => ⟨a, rfl, hq⟩) _ _ _ (vcOps_sound hP _ _ _ _ _ h hs fun st' w' a' hk hs' hag => hn _ _ _ hk hs' hag))
      | true => simp [okIn] at hok
    | h t ms =>
      simp only at h
      cases draw with
      | false => exact h.elim
      | true =>
        simp only at h
        split at h
        case h_2 => exact h.elim
        case h_1 hb =>
          simp only [Bool.and_eq_true] at hb
          obtain ⟨S, hS⟩ := h
          obtain ⟨hS1, hS2⟩ := hS _ rfl
          have hs' : Sat n a st (drewOne w) := ⟨hs.size, hs.defers, hs.slot, hs.heap, hs.dist⟩
          have hok' : allSimple ops.toList = true := by simpa [okIn] using hok
          refine wpIn_region_any hm (wpAny_in hF (allSimple_mem hok') (Q := Q) (fun a w hq => ⟨a, rfl, hq⟩) _ _ _ _ (wpAny_of_held (S := Held S (msStores ms ++ msNews ms) st) _ _ _ _ ?_))
          exact vcHeld_sound (st0 := st) (Q := NoPO Q) hP hb.2 hb.1.1 rfl (fun c a w hq => hq) (fun st' w' a' hk hs'' hag => hn _ _ _ hk hs'' hag) t _ _ _ _ _ (Nat.le_of_ble_eq_true hb.1.2) hS2 hs' (Agr.refl _ _ _ _) hS1
    | _ => exact h.elim
  | seq x y ihx ihy =>
    intro an st w kn kx kr a Q hok h hs ⟨hn, hx, hr⟩
    have wl : ∀ i, memN i (writes (.seq x y)) = false → memN i (writes x) = false := fun i hi => by
      simp only [writes, memN_append] at hi; cases hh : memN i (writes x) <;> simp_all
    have wr : ∀ i, memN i (writes (.seq x y)) = false → memN i (writes y) = false := fun i hi => by
      simp only [writes, memN_append] at hi; cases hh : memN i (writes y) <;> simp_all
    have up : ∀ (e : Exit) (a' : Act) (w' : World), LiftD ds (Exit.then (fun a0 w0 => y.wpIn F m P (LiftD ds Q) (wd ds a0) w0) Q) e a' w' → Exit.then (y.wpIn F m P (LiftD ds Q)) (LiftD ds Q) e a' w' := by
      rintro e a' w' ⟨a0, rfl, hq⟩
      cases e <;> first | exact hq | exact ⟨a0, rfl, hq⟩
    unfold vc at h
    cases an with
    | s p q =>
      simp only at h
      simp only [okIn, Bool.and_eq_true] at hok
      have nl : ∀ i, memN i (news (.s p q)) = false → memN i (news p) = false := fun i hi => by
        simp only [news, memN_append] at hi; cases hh : memN i (news p) <;> simp_all
      have nr : ∀ i, memN i (news (.s p q)) = false → memN i (news q) = false := fun i hi => by
        simp only [news, memN_append] at hi; cases hh : memN i (news q) <;> simp_all
      have sl : ∀ i, memN i (stores (.s p q)) = false → memN i (stores p) = false := fun i hi => by
        simp only [stores, memN_append] at hi; cases hh : memN i (stores p) <;> simp_all
      have sr : ∀ i, memN i (stores (.s p q)) = false → memN i (stores q) = false := fun i hi => by
        simp only [stores, memN_append] at hi; cases hh : memN i (stores q) <;> simp_all
      refine wpIn_seq (wpIn_mono (ihx p st w _ kx kr a _ hok.1 h hs ⟨?_, ?_, ?_⟩) up)
      · intro st1 w1 a1 hk hs1 hag1
        exact ihy q st1 w1 kn kx kr a1 Q hok.2 hk hs1 ⟨fun st2 w2 a2 hk2 hs2 hag2 => hn _ _ _ hk2 hs2 ((hag1.mono wl nl sl).trans (hag2.mono wr nr sr)),
          fun id k st2 w2 a2 hf hk2 hs2 hag2 => hx id k _ _ _ hf hk2 hs2 ((hag1.mono wl nl sl).trans (hag2.mono wr nr sr)), fun st2 w2 a2 hk2 hs2 hag2 => hr _ _ _ hk2 hs2 ((hag1.mono wl nl sl).trans (hag2.mono wr nr sr))⟩
      · intro id k st1 w1 a1 hf hk hs1 hag1
        exact hx id k _ _ _ hf hk hs1 (hag1.mono wl nl sl)
      · intro st1 w1 a1 hk hs1 hag1
        exact hr _ _ _ hk hs1 (hag1.mono wl nl sl)
    | sj l p q =>
      simp only at h
      simp only [okIn, Bool.and_eq_true] at hok
      split at h
      case h_2 => exact h.elim
      case h_1 hl =>
        obtain ⟨J, h1, h2⟩ := h
        have nl : ∀ i, memN i (news (.sj l p q)) = false → memN i (news p) = false := fun i hi => by
          simp only [news, memN_append] at hi; cases hh : memN i (news p) <;> simp_all
        have nr : ∀ i, memN i (news (.sj l p q)) = false → memN i (news q) = false := fun i hi => by
          simp only [news, memN_append] at hi; cases hh : memN i (news q) <;> simp_all
        have sl : ∀ i, memN i (stores (.sj l p q)) = false → memN i (stores p) = false := fun i hi => by
          simp only [stores, memN_append] at hi; cases hh : memN i (stores p) <;> simp_all
        have sr : ∀ i, memN i (stores (.sj l p q)) = false → memN i (stores q) = false := fun i hi => by
          simp only [stores, memN_append] at hi; cases hh : memN i (stores q) <;> simp_all
        refine wpIn_seq (wpIn_mono (ihx p st w _ kx kr a _ hok.1 h1 hs ⟨?_, ?_, ?_⟩) up)
        · intro st1 w1 a1 hk hs1 hag1
          obtain ⟨s', hsub, hag', hk'⟩ := allP_spec hag1 l J _ _ hl (left_sub hag1) (left_agr _ _ _) h2 hk
          exact ihy q s' w1 kn kx kr a1 Q hok.2 hk' (hsub.sat hs1) ⟨fun st2 w2 a2 hk2 hs2 hag2 => hn _ _ _ hk2 hs2 ((hag'.mono wl nl sl).trans (hag2.mono wr nr sr)),
            fun id k st2 w2 a2 hf hk2 hs2 hag2 => hx id k _ _ _ hf hk2 hs2 ((hag'.mono wl nl sl).trans (hag2.mono wr nr sr)), fun st2 w2 a2 hk2 hs2 hag2 => hr _ _ _ hk2 hs2 ((hag'.mono wl nl sl).trans (hag2.mono wr nr sr))⟩
        · intro id k st1 w1 a1 hf hk hs1 hag1
          exact hx id k _ _ _ hf hk hs1 (hag1.mono wl nl sl)
        · intro st1 w1 a1 hk hs1 hag1
          exact hr _ _ _ hk hs1 (hag1.mono wl nl sl)
    | _ => exact h.elim
  | cond c x y ihx ihy =>
    intro an st w kn kx kr a Q hok h hs ⟨hn, hx, hr⟩
    have wl : ∀ i, memN i (writes (.cond c x y)) = false → memN i (writes x) = false := fun i hi => by
      simp only [writes, memN_append] at hi; cases hh : memN i (writes x) <;> simp_all
    have wr : ∀ i, memN i (writes (.cond c x y)) = false → memN i (writes y) = false := fun i hi => by
      simp only [writes, memN_append] at hi; cases hh : memN i (writes y) <;> simp_all
    unfold vc at h
    cases an with
    | c p q =>
      simp only at h
      simp only [okIn, Bool.and_eq_true] at hok
      have nl : ∀ i, memN i (news (.c p q)) = false → memN i (news p) = false := fun i hi => by
        simp only [news, memN_append] at hi; cases hh : memN i (news p) <;> simp_all
      have nr : ∀ i, memN i (news (.c p q)) = false → memN i (news q) = false := fun i hi => by
        simp only [news, memN_append] at hi; cases hh : memN i (news q) <;> simp_all
      have sl : ∀ i, memN i (stores (.c p q)) = false → memN i (stores p) = false := fun i hi => by
        simp only [stores, memN_append] at hi; cases hh : memN i (stores p) <;> simp_all
      have sr : ∀ i, memN i (stores (.c p q)) = false → memN i (stores q) = false := fun i hi => by
        simp only [stores, memN_append] at hi; cases hh : memN i (stores q) <;> simp_all
      split at h
      case h_2 => exact h.elim
      case h_1 hc =>
        split at h
        case h_2 => exact h.elim
        case h_1 t ht =>
          rw [hs.ev hc] at ht
          cases t
          · exact wpIn_cond_false (a := wd ds a) ht (ihy q st w kn kx kr a Q hok.2 h hs ⟨fun st2 w2 a2 hk2 hs2 hag2 => hn _ _ _ hk2 hs2 (hag2.mono wr nr sr),
              fun id k st2 w2 a2 hf hk2 hs2 hag2 => hx id k _ _ _ hf hk2 hs2 (hag2.mono wr nr sr), fun st2 w2 a2 hk2 hs2 hag2 => hr _ _ _ hk2 hs2 (hag2.mono wr nr sr)⟩)
          · exact wpIn_cond_true (a := wd ds a) ht (ihx p st w kn kx kr a Q hok.1 h hs ⟨fun st2 w2 a2 hk2 hs2 hag2 => hn _ _ _ hk2 hs2 (hag2.mono wl nl sl),
              fun id k st2 w2 a2 hf hk2 hs2 hag2 => hx id k _ _ _ hf hk2 hs2 (hag2.mono wl nl sl), fun st2 w2 a2 hk2 hs2 hag2 => hr _ _ _ hk2 hs2 (hag2.mono wl nl sl)⟩)
    | _ => exact h.elim
  | block id x ih =>
    intro an st w kn kx kr a Q hok h hs ⟨hn, hx, hr⟩
    have up : ∀ (e : Exit) (a' : Act) (w' : World), LiftD ds (Exit.inBlock id Q) e a' w' → Exit.inBlock id (LiftD ds Q) e a' w' := by
      rintro e a' w' ⟨a0, rfl, hq⟩
      cases e with
      | exit id' =>
        simp only [Exit.inBlock] at hq ⊢
        split
        · rename_i he
          rw [if_pos he] at hq
          exact ⟨a0, rfl, hq⟩
        · rename_i he
          rw [if_neg he] at hq
          exact ⟨a0, rfl, hq⟩
      | _ => exact ⟨a0, rfl, hq⟩
    unfold vc at h
    cases an with
    | b p =>
      simp only at h
      simp only [okIn] at hok
      refine wpIn_block (wpIn_mono (ih p st w kn _ kr a (Exit.inBlock id Q) hok h hs ⟨fun st2 w2 a2 hk2 hs2 hag2 => hn _ _ _ hk2 hs2 hag2, fun id' k st2 w2 a2 hf hk2 hs2 hag2 => ?_, fun st2 w2 a2 hk2 hs2 hag2 => hr _ _ _ hk2 hs2 hag2⟩) up)
      simp only [findK] at hf
      simp only [Exit.inBlock]
      by_cases e : id = id'
      · subst e
        simp only [beq_yes, cond_true, Option.some.injEq] at hf
        subst hf
        rw [if_pos rfl]
        exact hn _ _ _ hk2 hs2 hag2
      · simp only [beq_no e, cond_false] at hf
        rw [if_neg (Ne.symm e)]
        exact hx _ _ _ _ _ hf hk2 hs2 hag2
    | bj l p =>
      simp only at h
      simp only [okIn] at hok
      split at h
      case h_2 => exact h.elim
      case h_1 hl =>
        obtain ⟨J, h1, h2⟩ := h
        have fin : ∀ st2 w2 a2, applyP l J st2 w2 → Sat n a2 st2 w2 → Agr (writes x) (news p) (stores p) st st2 → Q .normal a2 w2 := by
          intro st2 w2 a2 hk2 hs2 hag2
          obtain ⟨s', hsub, hag', hk'⟩ := allP_spec hag2 l J _ _ hl (left_sub hag2) (left_agr _ _ _) h2 hk2
          exact hn _ _ _ hk' (hsub.sat hs2) hag'
        refine wpIn_block (wpIn_mono (ih p st w _ _ kr a (Exit.inBlock id Q) hok h1 hs ⟨fun st2 w2 a2 hk2 hs2 hag2 => fin _ _ _ hk2 hs2 hag2, fun id' k st2 w2 a2 hf hk2 hs2 hag2 => ?_, fun st2 w2 a2 hk2 hs2 hag2 => hr _ _ _ hk2 hs2 hag2⟩) up)
        simp only [findK] at hf
        simp only [Exit.inBlock]
        by_cases e : id = id'
        · subst e
          simp only [beq_yes, cond_true, Option.some.injEq] at hf
          subst hf
          rw [if_pos rfl]
          exact fin _ _ _ hk2 hs2 hag2
        · simp only [beq_no e, cond_false] at hf
          rw [if_neg (Ne.symm e)]
          exact hx _ _ _ _ _ hf hk2 hs2 hag2
    | _ => exact h.elim
  | exit id =>
    intro an st w kn kx kr a Q _ h hs ⟨_, hx, _⟩
    unfold vc at h
    split at h
    case h_2 => exact h.elim
    case h_1 k hk => exact wpIn_exit ⟨a, rfl, hx id k _ _ _ hk h hs (Agr.refl _ _ _ _)⟩
  | ret =>
    intro an st w kn kx kr a Q _ h hs ⟨_, _, hr⟩
    unfold vc at h
    exact wpIn_ret ⟨a, rfl, hr _ _ _ h hs (Agr.refl _ _ _ _)⟩
  | loop x ih => intro an st w kn kx kr a Q hok; simp [okIn] at hok
  | scope x ih => intro an st w kn kx kr a Q hok; simp [okIn] at hok
  | rangeFunc f ps as b iha ihb => intro an st w kn kx kr a Q hok; simp [okIn] at hok
  | goto l => intro an st w kn kx kr a Q hok; simp [okIn] at hok
  | refuse y => intro an st w kn kx kr a Q hok; simp [okIn] at hok

/-! ### What is to be shown of a function that holds a loop over a function -/
def flatC : Code → Bool
  | .rangeFunc _ _ _ _ => false
  | .seq a b => flatC a && flatC b
  | .cond _ a b => flatC a && flatC b
  | .block _ a => flatC a
  | .loop a => flatC a
  | .scope a => flatC a
  | _ => true
/-- Steps of the iterator's own leave the statement true. -/
def stabP : (l : Live) → PredT l → (World → World → Prop) → Prop
  | [], J, Sp => ∀ W W', J W → Sp W W' → J W'
  | (_, R) :: l, J, Sp => ∀ x : R.α, stabP l (J x) Sp
def exP : (l : Live) → PredT l → World → Prop
  | [], J, W => J W
  | (_, R) :: l, J, W => ∃ x : R.α, exP l (J x) W
def andR : (l : Live) → PredT l → (World → Prop) → PredT l
  | [], J, Rk => fun W => J W ∧ Rk W
  | (_, _) :: l, J, Rk => fun x => andR l (J x) Rk
/-- All of which something is said are own variables that lie ahead, none new in the round. -/
def keysIn (hp : Hps) (ns : List Nat) : Live → Bool
  | [] => true
  | (.s _, _) :: _ => false
  | (.h id, _) :: l => cond (memN id ns) false (match hlook hp id with | some _ => keysIn hp ns l | none => false)
def baseS (ns ss : List Nat) (st : St) : St := ⟨dropS [] ns st.sl, dropH ns ss st.hp⟩

/-- The iterator's part: at whatever function value that takes the elements as it is told, it comes back. -/
def iterQ {α : Type} (P : Program) (val : α → Value) (gf : FuncId) (lb : Array Value) (w : World) (E : List α → World → Prop) (G : List α → α → Prop) (Fin : List α → Prop) (Sp Rk : World → World → Prop) : Prop :=
  ∀ (Y : Value) (Inv : List α → World → Prop) (InvX : World → Prop), Inv [] w → (∀ pre W W', Inv pre W → Sp W W' → Inv pre W') → (∀ W W', InvX W → Sp W W' → InvX W') → (∀ pre W, Inv pre W → E pre W) →
    (∀ pre x W (K : Bool → World → Prop), G pre x → Inv pre W → (∀ W', Rk W W' → Inv (pre ++ [x]) W' → K true W') → (∀ W', Rk W W' → InvX W' → K false W') → callF P Value.bool Y #[val x] W K) →
    callV P uval gf (#[Y] ++ lb) w fun _ W => (∃ xs, Fin xs ∧ Inv xs W) ∨ InvX W
def shutAt (D : Nat) (W : World) : Prop := W.heap[D]? = some (.deferred (some []))

/-- The loop over a function. -/
def vcR (P : Program) (n : Nat) (g : Operand) (ps : Array Tmp) (as bd : Code) (p : Nat) (R : RTy) (l lx : Live) (x y : Ann) (st : St) (w : World) (kn kr : Nat → St → World → Prop) : Prop :=
  match isOne p ps.toList && within n (some p) && has st g && okIn as x && okIn bd y && keysIn st.hp (news x ++ news y) l && keysIn st.hp (news x ++ news y) lx with
  | true => ∃ gf lb fn, ev st g = .func (.func gf) #[] lb ∧ P.funcs[gf]? = some fn ∧ fn.body.isSome = true ∧
    ∀ D w1, New D w w1 → ∀ L w2, New L w1 w2 →
      ∃ (J : List R.α → PredT l) (Jx : PredT lx) (G : List R.α → R.α → Prop) (Fin : List R.α → Prop) (Sp Rk : World → World → Prop),
        applyP l (J []) st w2 ∧
        (∀ W W', Sp W W' → kp L W W' (kp D W W' (keep st.hp W W' True))) ∧
        (∀ pre, stabP l (J pre) Sp) ∧ stabP lx Jx Sp ∧
        (∀ pre x', G pre x' → allP st l (J pre) (baseS (news x ++ news y) (stores x ++ stores y) st) fun st' W =>
          vc P n as x (put st' (some p) (.v (R.val x'))) W (fun st2 W2 => kp L W W2 (∀ W3, Wr L W2 W3 →
            vc P n bd y st2 W3 (fun st4 W4 => kp L W3 W4 (kp D W W4 (∀ W5, Wr L W4 W5 → applyP l (andR l (J (pre ++ [x'])) (Rk W)) st4 W5))) []
              (fun st4 W4 => kp L W3 W4 (kp D W W4 (∀ W5, Wr L W4 W5 → applyP lx (andR lx Jx (Rk W)) st4 W5))))) [] (fun _ _ => False)) ∧
        iterQ P R.val gf lb w2 (fun pre W => exP l (J pre) W) G Fin Sp Rk ∧
        (∀ xs, Fin xs → allP st l (J xs) (baseS (news x ++ news y) (stores x ++ stores y) st) fun st' W => ∀ W', Wr L W W' → shutAt D W' → kn D st' W') ∧
        (allP st lx Jx (baseS (news x ++ news y) (stores x ++ stores y) st) fun st' W => ∀ W', Wr L W W' → shutAt D W' → kr D st' W')
  | false => False
/-- 'kn', 'kr': behind the loop, whose deferred calls' block is told; 'kr0': ahead of it. -/
def vcT (P : Program) (n : Nat) : Code → Ann → St → World → (Nat → St → World → Prop) → (St → World → Prop) → (Nat → St → World → Prop) → Prop
  | .seq a b, .s x y, st, w, kn, kr0, kr =>
    match flatC a with
    | true => vc P n a x st w (fun st' w' => vcT P n b y st' w' kn kr0 kr) [] kr0
    | false =>
      match okIn b y with
      | true => vcT P n a x st w (fun D st' w' => vc P n b y st' w' (kn D) [] (kr D)) kr0 kr
      | false => False
  | .block _ a, .b x, st, w, kn, kr0, kr => vcT P n a x st w kn kr0 kr
  | .rangeFunc g ps as bd, .l ((.s p, R) :: l) (.sj lx x y), st, w, kn, _, kr => vcR P n g ps as bd p R l lx x y st w kn kr
  | _, _, _, _, _, _, _ => False

def retD (P : Program) (fn : Func) (R : RTy) (K : R.α → World → Prop) (D : Nat) (st : St) (w : World) : Prop := shutAt D w ∧ ∀ w', Wr D w w' → retK P fn R K st w'
def vcFnT (P : Program) (fn : Func) (an : Ann) (R : RTy) (args : List Value) (w : World) (K : R.α → World → Prop) : Prop :=
  match fn.body with
  | some c =>
    match Nat.ble args.length fn.ntmps with
    | true => vcT P fn.ntmps c an ⟨argSl 0 args, []⟩ w (retD P fn R K) (retK P fn R K) (retD P fn R K)
    | false => False
  | none => False

/-! ### That it is enough -/
section
variable {P : Program} {n : Nat} {a : Act} {st : St} {w : World}
theorem baseS_sub {ns ss : List Nat} {st st' : St} (h : Agr [] ns ss st st') : Sub (baseS ns ss st) st' := by
  refine ⟨fun i => ?_, fun id e he => ?_⟩
  · simp only [baseS, look_dropS]
    have h1 := h.sl i rfl
    rw [if_neg (by simp [memN])]
    cases hl : look st.sl i with
    | none => simp
    | some sv =>
      rw [hl] at h1
      cases sv with
      | u => simp [drop1]
      | v x =>
        rcases h1 with h1 | ⟨_, _, h1, _⟩
        · simp [drop1, lookV, h1, svVal]
        · cases h1
      | p id off =>
        cases hn : memN id ns
        · rcases h1 with h1 | ⟨id', off', h1, h2⟩
          · simp [drop1, hn, h1]
          · cases h1; rw [hn] at h2; cases h2
        · simp [drop1, hn]
  · simp only [baseS, hlook_dropH] at he
    split at he
    · cases he
    · rename_i hh
      have h1 : memN id ns = false := by cases hx : memN id ns <;> simp_all
      have h2 : memN id ss = false := by cases hx : memN id ss <;> simp_all
      rw [h.hp id h1 h2]
      exact he
theorem baseS_agr (ns ss : List Nat) (st : St) : Agr [] ns ss st (baseS ns ss st) := by
  refine ⟨fun i hi => ?_, fun id hid b e he => ?_, fun id h1 h2 => ?_⟩
  · simp only [baseS, look_dropS, hi]
    cases hl : look st.sl i with
    | none => exact .inl (by simp)
    | some sv =>
      cases sv with
      | v x => exact .inl (by simp [drop1])
      | u => exact .inl (by simp [drop1])
      | p id off =>
        cases hn : memN id ns
        · exact .inl (by simp [drop1, hn])
        · exact .inr ⟨id, off, rfl, hn⟩
  · simp only [baseS, hlook_dropH] at he
    split at he
    · cases he
    · exact ⟨e, he⟩
  · simp [baseS, hlook_dropH, h1, h2]

theorem keysIn_live {hp : Hps} {ns : List Nat} : ∀ {l : Live}, keysIn hp ns l = true → liveOk [] ns l = true
  | [], _ => rfl
  | (.s _, _) :: _, h => by cases h
  | (.h id, _) :: l, h => by
    simp only [keysIn] at h
    simp only [liveOk]
    cases hn : memN id ns with
    | true => rw [hn] at h; cases h
    | false =>
      rw [hn] at h
      simp only [cond_false] at h ⊢
      split at h
      · exact keysIn_live h
      · cases h
theorem applyP_keys {hp : Hps} {ns : List Nat} {s1 s2 : St} (hs : ∀ id, memN id ns = false → (hlook hp id).isSome = true → hlook s2.hp id = hlook s1.hp id) : ∀ {l : Live} {J : PredT l}, keysIn hp ns l = true → applyP l J s1 w → applyP l J s2 w
  | [], _, _, h => h
  | (.s _, _) :: _, _, h, _ => by cases h
  | (.h id, R) :: l, J, h, hJ => by
    simp only [keysIn] at h
    cases hn : memN id ns with
    | true => rw [hn] at h; cases h
    | false =>
      rw [hn] at h
      simp only [cond_false] at h
      cases hh : hlook hp id with
      | none => rw [hh] at h; cases h
      | some e =>
        rw [hh] at h
        have he := hs id hn (by rw [hh]; rfl)
        simp only [applyP, getK] at hJ ⊢
        rw [he]
        split at hJ
        case h_2 => exact hJ.elim
        case h_1 x hx => exact applyP_keys hs h hJ
theorem applyP_stab {s : St} {W W' : World} {Sp : World → World → Prop} (hw : Sp W W') : ∀ {l : Live} {J : PredT l}, stabP l J Sp → applyP l J s W → applyP l J s W'
  | [], _, h, hJ => h _ _ hJ hw
  | (k, R) :: l, J, h, hJ => by
    simp only [applyP] at hJ ⊢
    split at hJ
    case h_2 => exact hJ.elim
    case h_1 x hx => exact applyP_stab hw (h x) hJ
theorem applyP_ex {s : St} {W : World} : ∀ {l : Live} {J : PredT l}, applyP l J s W → exP l J W
  | [], _, hJ => hJ
  | (k, R) :: l, J, hJ => by
    simp only [applyP] at hJ
    split at hJ
    case h_2 => exact hJ.elim
    case h_1 x hx => exact ⟨x, applyP_ex hJ⟩
theorem applyP_and {s : St} {W : World} {Rk : World → Prop} : ∀ {l : Live} {J : PredT l}, applyP l (andR l J Rk) s W → applyP l J s W ∧ Rk W
  | [], _, hJ => hJ
  | (k, R) :: l, J, hJ => by
    simp only [applyP, andR] at hJ ⊢
    split at hJ
    case h_2 => exact hJ.elim
    case h_1 x hx => exact applyP_and hJ

theorem Sat.seen {w' : World} (h : Sat n a st w) (hk : ∀ id b cs, hlook st.hp id = some (b, cs) → b < w.heap.size → (∃ T, w.heap[b]? = some (.cells cs.toArray T (0, 0))) → w'.heap[b]? = w.heap[b]?) : Sat n a st w' :=
  ⟨h.size, h.defers, h.slot, fun id b cs hl => by
    obtain ⟨T, hT⟩ := h.heap id b cs hl
    refine ⟨T, ?_⟩
    rw [hk _ _ _ hl (Array.getElem?_eq_some_iff.1 hT).1 ⟨T, hT⟩]
    exact hT, h.dist⟩
/-- A block that holds no cells may turn. -/
theorem Sat.turn {w' : World} {L : Nat} {o : Obj} (h : Sat n a st w) (hL : w.heap[L]? = some o) (ho : ∀ cs T fr, o ≠ .cells cs T fr) (hw : Wr L w w') : Sat n a st w' :=
  h.seen fun id b cs _ _ ⟨T, hT⟩ => hw.block b fun e => by
    subst e
    rw [hL] at hT
    exact ho _ _ _ (Option.some.inj hT)
theorem wr_putObj (W : World) (L : Nat) (o : Obj) : Wr L W (W.putObj L o) := ⟨rfl, rfl, rfl, World.putObj_size, fun k hk => World.putObj_heap_other hk⟩

def restr (h1 h2 : Hps) : Hps :=
  match h1 with
  | [] => []
  | (id, _) :: r => match hlook h2 id with
    | some e => (id, e) :: restr r h2
    | none => restr r h2
theorem hlook_restr (h2 : Hps) : ∀ (h1 : Hps) (id : Nat), hlook (restr h1 h2) id = if (hlook h1 id).isSome = true then hlook h2 id else none
  | [], id => by simp [restr, hlook]
  | (j, x) :: r, id => by
    simp only [restr]
    cases hj : hlook h2 j with
    | none =>
      simp only [hlook_restr h2 r id, hlook_cons]
      by_cases e : j = id
      · subst e; simp [hj]
      · rw [if_neg e]
    | some e' =>
      simp only [hlook_cons, hlook_restr h2 r id]
      by_cases e : j = id
      · subst e; simp [hj]
      · rw [if_neg e, if_neg e]
/-- The outer frame's state behind a round: its own slots; its own variables as the round has left them. -/
def backS (ns : List Nat) (st st4 : St) : St := ⟨dropS [] ns st.sl, restr (dropH ns [] st.hp) st4.hp⟩
theorem hlook_backS {ns : List Nat} {st st4 : St} {id : Nat} : hlook (backS ns st st4).hp id = if memN id ns = true then none else if (hlook st.hp id).isSome = true then hlook st4.hp id else none := by
  simp only [backS, hlook_restr, hlook_dropH]
  cases memN id ns <;> simp [memN]
theorem backS_spec {ns ss : List Nat} {st st4 : St} {a a4 : Act} {w W4 : World} (h0 : Sat n a st w) (h4 : Sat n a4 st4 W4) (hb : ∀ id, memN id ns = false → ∀ b c, hlook st4.hp id = some (b, c) → ∃ c0, hlook st.hp id = some (b, c0))
    (hp : ∀ id, memN id ns = false → memN id ss = false → hlook st4.hp id = hlook st.hp id) :
    Sat n a (backS ns st st4) W4 ∧ Agr [] ns ss st (backS ns st st4) ∧ (∀ id, memN id ns = true → hlook (backS ns st st4).hp id = none) ∧ ∀ id, memN id ns = false → (hlook st.hp id).isSome = true → hlook (backS ns st st4).hp id = hlook st4.hp id := by
  have hl : ∀ id b c, hlook (backS ns st st4).hp id = some (b, c) → memN id ns = false ∧ hlook st4.hp id = some (b, c) := fun id b c h => by
    rw [hlook_backS] at h
    split at h
    · cases h
    · rename_i hn
      split at h
      · exact ⟨by cases hx : memN id ns <;> simp_all, h⟩
      · cases h
  refine ⟨⟨h0.size, h0.defers, fun i v hv => ?_, fun id b cs h => h4.heap id b cs (hl _ _ _ h).2, fun id id' b c c' h h' => h4.dist _ _ _ _ _ (hl _ _ _ h).2 (hl _ _ _ h').2⟩, ⟨fun i hi => ?_, fun id hid b c h => hb id hid b c (hl _ _ _ h).2, fun id h1 h2 => ?_⟩, fun id h => ?_, fun id h1 h2 => ?_⟩
  · simp only [lookV, backS, look_dropS] at hv
    rw [if_neg (by simp [memN])] at hv
    cases hs : look st.sl i with
    | none => rw [hs] at hv; simp at hv
    | some sv =>
      rw [hs] at hv
      cases sv with
      | v x =>
        simp only [Option.map_some, drop1, svVal, Option.some.injEq] at hv
        subst hv
        exact h0.slot i x (by simp [lookV, hs, svVal])
      | u => simp [drop1, svVal] at hv
      | p id off =>
        cases hn : memN id ns with
        | true => simp [drop1, hn, svVal] at hv
        | false =>
          simp only [Option.map_some, drop1, hn, cond_false, svVal] at hv
          split at hv
          case h_2 => cases hv
          case h_1 b c hh =>
            cases hv
            obtain ⟨c0, hc0⟩ := hb id hn b c (hl _ _ _ hh).2
            exact h0.slot i _ (by simp [lookV, hs, svVal, hc0])
  · simp only [backS, look_dropS, hi]
    cases hl : look st.sl i with
    | none => exact .inl (by simp)
    | some sv =>
      cases sv with
      | v x => exact .inl (by simp [drop1])
      | u => exact .inl (by simp [drop1])
      | p id off =>
        cases hn : memN id ns
        · exact .inl (by simp [drop1, hn])
        · exact .inr ⟨id, off, rfl, hn⟩
  · rw [hlook_backS, h1]
    simp only [Bool.false_eq_true, if_false]
    cases hh : hlook st.hp id with
    | none => rfl
    | some e => simp only [Option.isSome_some, if_true]; rw [hp id h1 h2, hh]
  · rw [hlook_backS, h]; rfl
  · rw [hlook_backS, h1, h2]; rfl
end

def mkD (D : Nat) : Deferred := { target := .collected D, args := #[] }

theorem keep_mk {hp : Hps} {w w' : World} (h : keep hp w w' True) : ∀ e ∈ hp, e.2.1 < w.heap.size → w'.heap[e.2.1]? = w.heap[e.2.1]? := (keep_spec h).2

theorem range_sound {P : Program} (hP : Plain P) (hm : P.follows .mixedOrders = true) {n : Nat} {g : Operand} {ps : Array Tmp} {as bd : Code} {p : Nat} {R : RTy} {l lx : Live} {x y : Ann} {st : St} {w : World} {kn kr : Nat → St → World → Prop} {a : Act} {Q : Exit → Act → World → Prop}
    (h : vcR P n g ps as bd p R l lx x y st w kn kr) (hs : Sat n a st w) (hn : ∀ D st' w' a', kn D st' w' → Sat n a' st' w' → Q .normal (wd [mkD D] a') w') (hr : ∀ D st' w' a', kr D st' w' → Sat n a' st' w' → Q .ret (wd [mkD D] a') w') :
    (Code.rangeFunc g ps as bd).wp P Q a w := by
    unfold vcR at h
    split at h
    case h_2 => exact h.elim
    case h_1 hc =>
      simp only [Bool.and_eq_true] at hc
      obtain ⟨⟨⟨⟨⟨⟨hps, hwi⟩, hhas⟩, hoa⟩, hob⟩, hkl⟩, hkx⟩ := hc
      obtain ⟨gf, lb, fn, hg, hfn, hbody, hall⟩ := h
      have hps : ps = #[p] := by
        have := isOne_spec hps
        apply Array.ext'
        simpa using this
      have hga : a.eval g = .func (.func gf) #[] lb := by rw [← hs.ev hhas]; exact hg
      obtain ⟨ns, hns⟩ : ∃ ns, ns = news x ++ news y := ⟨_, rfl⟩
      obtain ⟨ss, hss⟩ : ∃ ss, ss = stores x ++ stores y := ⟨_, rfl⟩
      rw [← hns, ← hss] at hall
      rw [← hns] at hkl hkx
      refine (wpIn_wide (n := 0)).1 (wpIn_rangeFunc (F := Fence.wide) (n := 0) fun fnid _ => ?_)
      obtain ⟨rc, hrc⟩ : ∃ rc : LoopState → Option Code → Loop, rc = fun s pe => { state := s, pending := pe, fn := fnid, tmps := a.tmps, params := ps, assign := as, body := bd, defers := w.heap.size } := ⟨_, rfl⟩
      obtain ⟨W1, hW1⟩ : ∃ W1, (w.alloc (.deferred (some []))).alloc (.loop (rc .ready none)) = W1 := ⟨_, rfl⟩
      have hL1 : W1.heap[w.heap.size + 1]? = some (.loop (rc .ready none)) := by
        rw [← hW1]
        have := World.alloc_heap_new (w.alloc (.deferred (some []))) (.loop (rc .ready none))
        rwa [World.size_alloc] at this
      have old : ∀ b, b < w.heap.size → W1.heap[b]? = w.heap[b]? := fun b hb => by
        rw [← hW1]
        exact (RowKit.Below.heap_alloc _ _ _ (by simp; omega)).trans (RowKit.Below.heap_alloc _ _ _ hb)
      have hD1 : shutAt w.heap.size W1 := by
        unfold shutAt
        rw [← hW1]
        exact (RowKit.Below.heap_alloc _ _ _ (by simp)).trans (World.alloc_heap_new w _)
      obtain ⟨J, Jx, G, Fin, Sp, Rk, h0, hSp, hSt, hSx, hR, hIt, hDn, hX⟩ := hall w.heap.size (w.alloc (.deferred (some []))) ⟨rfl, _, rfl⟩ (w.heap.size + 1) W1 ⟨by simp, _, hW1.symm⟩
      obtain ⟨D, hDe⟩ : ∃ D, D = w.heap.size := ⟨_, rfl⟩
      obtain ⟨L, hLe⟩ : ∃ L, L = w.heap.size + 1 := ⟨_, rfl⟩
      have hLD : D ≠ L := by omega
      rw [← hLe] at hSp hR hDn hX hL1
      rw [← hDe] at hSp hR hDn hX hD1
      have hDo : ∀ cs T fr, (Obj.deferred (some [])) ≠ .cells cs T fr := fun _ _ _ h => by cases h
      have hLo : ∀ (r : Loop) cs T fr, (Obj.loop r) ≠ .cells cs T fr := fun _ _ _ _ h => by cases h
      have hcf : ∀ args w, (callFunc gf args).run P w = .ok (.enter gf args) w := fun args w => by
        have hn : fn.name ≠ "runtime.NumGoroutine" := by simpa using hP gf fn hfn hbody
        have hb' : fn.body ≠ none := by intro e; simp [e] at hbody
        simp [callFunc, program, Sem.run, hfn, hn, hb']
      refine ⟨L, [mkD D], W1, { target := .fn (.func gf) lb, args := #[.func (.yield L) #[] #[]] }, W1, gf, #[.func (.yield L) #[] #[]] ++ lb, W1, ?_, ?_, fun _ _ => trivial, ?_, fun h => (by cases h), callsIn_wide.2 ?_⟩
      · rw [← hW1, hrc, hLe, hDe]
        exact run_enterLoop_outer _ _ _ _ _
      · simp only [resolve, hga]
        simp [go_sem]
      · simp [invoke, go_sem, hcf]
      obtain ⟨Inv, hInv⟩ : ∃ Inv : List R.α → World → Prop, Inv = fun pre W => ∃ s', Sat n a s' W ∧ Agr [] ns ss st s' ∧ (∀ id, memN id ns = true → hlook s'.hp id = none) ∧ applyP l (J pre) s' W ∧ W.heap[L]? = some (.loop (rc .ready none)) ∧ shutAt D W := ⟨_, rfl⟩
      obtain ⟨InvX, hInvX⟩ : ∃ InvX : World → Prop, InvX = fun W => ∃ s', Sat n a s' W ∧ Agr [] ns ss st s' ∧ (∀ id, memN id ns = true → hlook s'.hp id = none) ∧ applyP lx Jx s' W ∧ W.heap[L]? = some (.loop (rc .done (some .ret))) ∧ shutAt D W := ⟨_, rfl⟩
      -- the iterator's own steps
      have stepS : ∀ {s' : St} {W W' : World}, Sp W W' → Sat n a s' W → Agr [] ns ss st s' → (∀ id, memN id ns = true → hlook s'.hp id = none) → Sat n a s' W' := fun {s' W W'} hw hs' hag hno => by
        have hk := keep_mk (hSp _ _ hw).2.2
        refine hs'.seen fun id b cs hl hlt _ => ?_
        cases hid : memN id ns with
        | true => rw [hno id hid] at hl; cases hl
        | false =>
          obtain ⟨c0, hc0⟩ := hag.blk id hid _ _ hl
          exact hk _ (hlook_mem hc0) hlt
      have stepL : ∀ {W W' : World} {o : Obj}, Sp W W' → W.heap[L]? = some o → W'.heap[L]? = some o := fun hw h => ((hSp _ _ hw).1 (Array.getElem?_eq_some_iff.1 h).1).trans h
      have stepD : ∀ {W W' : World}, Sp W W' → shutAt D W → shutAt D W' := fun hw h => ((hSp _ _ hw).2.1 (Array.getElem?_eq_some_iff.1 h).1).trans h
      refine Calls.mono (hIt (.func (.yield L) #[] #[]) Inv InvX ?_ ?_ ?_ ?_ ?_) ?_
      · -- ahead of the first round
        rw [hInv]
        refine ⟨baseS ns [] st, (Sub.sat (baseS_sub (Agr.refl _ _ _ _)) hs).seen fun id b cs _ hlt _ => old b hlt, (baseS_agr ns [] st).mono (fun _ h => h) (fun _ h => h) (fun _ _ => rfl), fun id hid => ?_, applyP_keys (hp := st.hp) (ns := ns) (fun id h1 h2 => ?_) hkl h0, hL1, hD1⟩
        · simp [baseS, hlook_dropH, hid]
        · simp [baseS, hlook_dropH, h1, memN]
      · rw [hInv]
        rintro pre W W' ⟨s', hs', hag, hno, hap, hl, hd⟩ hw
        exact ⟨s', stepS hw hs' hag hno, hag, hno, applyP_stab hw (hSt pre) hap, stepL hw hl, stepD hw hd⟩
      · rw [hInvX]
        rintro W W' ⟨s', hs', hag, hno, hap, hl, hd⟩ hw
        exact ⟨s', stepS hw hs' hag hno, hag, hno, applyP_stab hw hSx hap, stepL hw hl, stepD hw hd⟩
      · rw [hInv]
        rintro pre W ⟨s', _, _, _, hap, _, _⟩
        exact applyP_ex hap
      · -- a round
        intro pre x' W K hG hi hKt hKf
        rw [hInv] at hi
        obtain ⟨s', hs', hag, hno, hap, hl, hd⟩ := hi
        obtain ⟨s1, hsub, hag1, hk⟩ := allP_spec hag l (J pre) _ _ (keysIn_live hkl) (baseS_sub hag) (baseS_agr ns ss st) (hR pre x' hG) hap
        have hs1 := hsub.sat hs'
        have hsp : Sat n (a.put (some p) (R.val x')) (put s1 (some p) (.v (R.val x'))) W := hs1.put hwi (fun u hu => by cases hu; rfl)
        have hy := run_yield (P := P) (args := #[R.val x']) hl (by rw [hrc]; simp [hps])
        refine .inr ⟨L, rfl, _, _, _, _, hy, roundIn_of_wpIn trivial ?_⟩
        have eact : ({ tmps := ((rc .ready none).params.zip #[R.val x']).foldl (fun tmps (t, a) => tmps.setIfInBounds t a) (rc .ready none).tmps, defers := [] } : Act) = wd [] (a.put (some p) (R.val x')) := by
          rw [hrc]
          simp [hps, Act.put, wd]
        have easn : (rc .ready none).assign = as := by rw [hrc]
        have ebody : (rc .ready none).body = bd := by rw [hrc]
        rw [eact, easn, ebody]
        obtain ⟨RR, hRR⟩ : ∃ RR : Ending → World → Prop, RR = fun e w' => ∃ b, e = .returned (.bool b) ∧ K b w' := ⟨_, rfl⟩
        rw [← hRR]
        refine wpIn_mono (vc_soundIn hP hm (F := Fence.wide.inRound L) (.inr ⟨L, rfl⟩) (ds := []) as x _ W _ [] _ _ (Exit.then (fun a₁ w₁ => a₁.defers = [] ∧ ∃ w₂, (Instr.beginRound L).run P w₁ = .ok () w₂ ∧ bd.wpIn (Fence.wide.inRound L) 0 P (roundPost P L RR) a₁ w₂) (fun _ _ _ => False)) hoa hk hsp ⟨?_, ?_, ?_⟩) ?_
        · -- behind the assignments
          intro st2 W2 a2 hk2 hs2 hag2
          refine ⟨hs2.defers, ?_⟩
          have hltL := (Array.getElem?_eq_some_iff.1 hl).1
          have hl2 : W2.heap[L]? = some (.loop (rc .ready none)) := (hk2.1 hltL).trans hl
          refine ⟨_, run_beginRound hl2 (by rw [hrc]), ?_⟩
          obtain ⟨W3, hW3⟩ : ∃ W3, W2.putObj L (.loop { rc .ready none with state := .busy }) = W3 := ⟨_, rfl⟩
          have hw3 : Wr L W2 W3 := by rw [← hW3]; exact wr_putObj _ _ _
          rw [hW3]
          have hl3 : W3.heap[L]? = some (.loop { rc .ready none with state := .busy }) := by rw [← hW3]; exact World.putObj_heap_same (Array.getElem?_eq_some_iff.1 hl2).1
          have hs3 : Sat n a2 st2 W3 := hs2.turn hl2 (hLo _) hw3
          have nx : ∀ id, memN id ns = false → memN id (news x) = false ∧ memN id (news y) = false := fun id h => by
            rw [hns, memN_append] at h
            exact ⟨by cases hx : memN id (news x) <;> simp_all, by cases hx : memN id (news y) <;> simp_all⟩
          have sx : ∀ id, memN id ss = false → memN id (stores x) = false ∧ memN id (stores y) = false := fun id h => by
            rw [hss, memN_append] at h
            exact ⟨by cases hx : memN id (stores x) <;> simp_all, by cases hx : memN id (stores y) <;> simp_all⟩
          have back : ∀ {st4 : St} {a4 : Act} {W5 : World}, Agr (writes bd) (news y) (stores y) st2 st4 → Sat n a4 st4 W5 → Sat n a (backS ns st st4) W5 ∧ Agr [] ns ss st (backS ns st st4) ∧ (∀ id, memN id ns = true → hlook (backS ns st st4).hp id = none) ∧ ∀ id, memN id ns = false → (hlook st.hp id).isSome = true → hlook (backS ns st st4).hp id = hlook st4.hp id := fun hag4 hs5 =>
            backS_spec hs hs5 (fun id hid b c hh => by
              obtain ⟨c1, h1⟩ := hag4.blk id (nx id hid).2 b c hh
              obtain ⟨c2, h2⟩ := hag2.blk id (nx id hid).1 b c1 h1
              exact hag1.blk id hid b c2 h2) (fun id hid hid' => by
              rw [hag4.hp id (nx id hid).2 (sx id hid').2, hag2.hp id (nx id hid).1 (sx id hid').1]
              exact hag1.hp id hid hid')
          have e0 : wd [] a2 = a2 := by rw [← hs2.defers]
          rw [← e0]
          refine wpIn_mono (vc_soundIn hP hm (F := Fence.wide.inRound L) (.inr ⟨L, rfl⟩) (ds := []) bd y _ W3 _ [] _ a2 (roundPost P L RR) hob (hk2.2 W3 hw3) hs3 ⟨?_, ?_, ?_⟩) ?_
          · -- the body's end
            intro st4 W4 a4 hk4 hs4 hag4
            have hl4 : W4.heap[L]? = some (.loop { rc .ready none with state := .busy }) := (hk4.1 (Array.getElem?_eq_some_iff.1 hl3).1).trans hl3
            have hd4 : shutAt D W4 := (hk4.2.1 (Array.getElem?_eq_some_iff.1 hd).1).trans hd
            have hend := run_endRound (P := P) none hl4
            refine ⟨_, _, hend, ?_⟩
            rw [hRR]
            refine ⟨true, rfl, ?_⟩
            obtain ⟨W5, hW5⟩ : ∃ W5, W4.putObj L (.loop { { rc .ready none with state := .busy } with state := if (none : Option Code).isNone then .ready else .done, pending := none }) = W5 := ⟨_, rfl⟩
            have hw5 : Wr L W4 W5 := by rw [← hW5]; exact wr_putObj _ _ _
            rw [hW5]
            have hl5 : W5.heap[L]? = some (.loop (rc .ready none)) := by
              rw [← hW5, World.putObj_heap_same (Array.getElem?_eq_some_iff.1 hl4).1, hrc]
              rfl
            have hd5 : shutAt D W5 := (hw5.block D hLD).trans hd4
            obtain ⟨hJ5, hRk⟩ := applyP_and (hk4.2.2 W5 hw5)
            have hs5 : Sat n a4 st4 W5 := hs4.turn hl4 (hLo _) hw5
            obtain ⟨b1, b2, b3, b4⟩ := back hag4 hs5
            refine hKt W5 hRk ?_
            rw [hInv]
            exact ⟨_, b1, b2, b3, applyP_keys b4 hkl hJ5, hl5, hd5⟩
          · intro id k st4 W4 a4 hf
            cases hf
          · -- the body has left
            intro st4 W4 a4 hk4 hs4 hag4
            have hl4 : W4.heap[L]? = some (.loop { rc .ready none with state := .busy }) := (hk4.1 (Array.getElem?_eq_some_iff.1 hl3).1).trans hl3
            have hd4 : shutAt D W4 := (hk4.2.1 (Array.getElem?_eq_some_iff.1 hd).1).trans hd
            have hend := run_endRound (P := P) (some .ret) hl4
            refine ⟨_, _, hend, ?_⟩
            rw [hRR]
            refine ⟨false, rfl, ?_⟩
            obtain ⟨W5, hW5⟩ : ∃ W5, W4.putObj L (.loop { { rc .ready none with state := .busy } with state := if (some Code.ret : Option Code).isNone then .ready else .done, pending := some .ret }) = W5 := ⟨_, rfl⟩
            have hw5 : Wr L W4 W5 := by rw [← hW5]; exact wr_putObj _ _ _
            rw [hW5]
            have hl5 : W5.heap[L]? = some (.loop (rc .done (some .ret))) := by
              rw [← hW5, World.putObj_heap_same (Array.getElem?_eq_some_iff.1 hl4).1, hrc]
              rfl
            have hd5 : shutAt D W5 := (hw5.block D hLD).trans hd4
            obtain ⟨hJ5, hRk⟩ := applyP_and (hk4.2.2 W5 hw5)
            have hs5 : Sat n a4 st4 W5 := hs4.turn hl4 (hLo _) hw5
            obtain ⟨b1, b2, b3, b4⟩ := back hag4 hs5
            refine hKf W5 hRk ?_
            rw [hInvX]
            exact ⟨_, b1, b2, b3, applyP_keys b4 hkx hJ5, hl5, hd5⟩
          · rintro e a' w' ⟨a0, _, hq⟩
            cases e <;> exact hq
        · intro id k st4 W4 a4 hf
          cases hf
        · intro st4 W4 a4 hf _ _
          exact hf.elim
        · rintro e a' w' ⟨a0, rfl, hq⟩
          cases e with
          | normal =>
            obtain ⟨hd0, hq⟩ := hq
            have e0 : wd [] a0 = a0 := by rw [← hd0]
            rw [e0]
            exact hq
          | _ => exact hq.elim
      · -- behind the iterator
        rintro e W2 ⟨u, rfl, ⟨xs, hF, hi⟩ | hi⟩
        · rw [hInv] at hi
          obtain ⟨s', hs', hag, hno, hap, hl, hd⟩ := hi
          obtain ⟨s1, hsub, hag1, hk⟩ := allP_spec hag l (J xs) _ _ (keysIn_live hkl) (baseS_sub hag) (baseS_agr ns ss st) (hDn xs hF) hap
          have hw := wr_putObj W2 L (.loop { rc .ready none with state := .exhausted })
          refine ⟨none, W2.putObj L (.loop { rc .ready none with state := .exhausted }), ?_, ?_⟩
          · have := run_endLoop (P := P) hl (by rw [hrc]; simp)
            rw [hrc] at this ⊢
            exact this
          · have hq := hn D s1 _ a (hk _ hw ((hw.block D hLD).trans hd)) ((hsub.sat hs').turn hl (hLo _) hw)
            show Q .normal { a with defers := [mkD D] ++ a.defers } _
            rw [hs.defers]
            exact hq
        · rw [hInvX] at hi
          obtain ⟨s', hs', hag, hno, hap, hl, hd⟩ := hi
          obtain ⟨s1, hsub, hag1, hk⟩ := allP_spec hag lx Jx _ _ (keysIn_live hkx) (baseS_sub hag) (baseS_agr ns ss st) hX hap
          have hw := wr_putObj W2 L (.loop { rc .done (some .ret) with state := .exhausted })
          refine ⟨some .ret, W2.putObj L (.loop { rc .done (some .ret) with state := .exhausted }), ?_, ?_⟩
          · have := run_endLoop (P := P) hl (by rw [hrc]; simp)
            rw [hrc] at this ⊢
            exact this
          · refine wpIn_ret ?_
            have hq := hr D s1 _ a (hk _ hw ((hw.block D hLD).trans hd)) ((hsub.sat hs').turn hl (hLo _) hw)
            rw [hs.defers]
            exact hq

theorem vcT_sound {P : Program} (hP : Plain P) (hm : P.follows .mixedOrders = true) {n : Nat} (c : Code) : ∀ (an : Ann) (st : St) (w : World) (kn : Nat → St → World → Prop) (kr0 : St → World → Prop) (kr : Nat → St → World → Prop) (a : Act) (Q : Exit → Act → World → Prop),
    vcT P n c an st w kn kr0 kr → Sat n a st w → (∀ D st' w' a', kn D st' w' → Sat n a' st' w' → Q .normal (wd [mkD D] a') w') → (∀ st' w' a', kr0 st' w' → Sat n a' st' w' → Q .ret a' w') →
    (∀ D st' w' a', kr D st' w' → Sat n a' st' w' → Q .ret (wd [mkD D] a') w') → c.wp P Q a w := by
  induction c with
  | seq x y ihx ihy =>
    intro an st w kn kr0 kr a Q h hs hn hr0 hr
    unfold vcT at h
    cases an with
    | s p q =>
      simp only at h
      split at h
      · refine wp_seq (vc_sound hP hm x p st w _ [] kr0 a _ h hs ⟨fun st' w' a' hk hs' _ => ?_, fun id k st' w' a' hf => (by cases hf), fun st' w' a' hk hs' => hr0 _ _ _ hk hs'⟩)
        exact ihy q st' w' kn kr0 kr a' Q hk hs' hn hr0 hr
      · split at h
        case h_2 => exact h.elim
        case h_1 hok =>
          refine wp_seq (ihx p st w _ kr0 kr a (Exit.then (y.wp P Q) Q) h hs (fun D st' w' a' hk hs' => ?_) hr0 hr)
          refine (wpIn_wide (n := 0)).1 (wpIn_mono (vc_soundIn hP hm (F := Fence.wide) (.inl rfl) (ds := [mkD D]) y q st' w' _ [] _ a' (fun e a0 w0 => Q e (wd [mkD D] a0) w0) hok hk hs' ⟨fun st2 w2 a2 hk2 hs2 _ => hn D _ _ _ hk2 hs2, fun id k st2 w2 a2 hf => (by cases hf), fun st2 w2 a2 hk2 hs2 _ => hr D _ _ _ hk2 hs2⟩) ?_)
          rintro e a2 w2 ⟨a0, rfl, hq⟩
          exact hq
    | _ => exact h.elim
  | block id x ih =>
    intro an st w kn kr0 kr a Q h hs hn hr0 hr
    unfold vcT at h
    cases an with
    | b p => exact wp_block (ih p st w kn kr0 kr a (Exit.inBlock id Q) h hs hn hr0 hr)
    | _ => exact h.elim
  | rangeFunc g ps as bd _ _ =>
    intro an st w kn kr0 kr a Q h hs hn hr0 hr
    cases an with
    | l lv q =>
      cases lv with
      | nil => exact (show False from h).elim
      | cons e r =>
        obtain ⟨k, R⟩ := e
        cases k with
        | h id => exact (show False from h).elim
        | s p =>
          cases q with
          | sj lx x y => exact range_sound hP hm (show vcR P n g ps as bd p R r lx x y st w kn kr from h) hs hn hr
          | _ => exact (show False from h).elim
    | _ => exact (show False from h).elim
  | _ => intro an st w kn kr0 kr a Q h; exact absurd h (by simp [vcT])

/-- **What 'vcFnT' asks is enough.** -/
theorem calls_of_vcT {P : Program} (hP : Plain P) (hm : P.follows .mixedOrders = true) {f : FuncId} {fn : Func} (hf : P.funcs[f]? = some fn) (an : Ann) (R : RTy) {args : List Value} {w : World} {K : R.α → World → Prop}
    (h : vcFnT P fn an R args w K) : callVc P R f args.toArray w K := by
  unfold vcFnT at h
  split at h
  case h_2 => exact h.elim
  case h_1 c hc =>
    split at h
    case h_2 => exact h.elim
    case h_1 hn =>
      have hn' := Nat.le_of_ble_eq_true hn
      have hs : Sat fn.ntmps { tmps := args.toArray ++ Array.replicate (fn.ntmps - args.toArray.size) undef, defers := [] } ⟨argSl 0 args, []⟩ w := by
        refine ⟨by simp; omega, rfl, fun i v hv => ?_, fun id b cs h => by simp [hlook] at h, fun id id' b c c' h => by simp [hlook] at h⟩
        simp only [lookV, look_arg, Nat.zero_le, if_true, Nat.sub_zero] at hv
        cases hl : args[i]? with
        | none => simp [hl] at hv
        | some u =>
          simp only [hl, Option.map_some, svVal, Option.some.injEq] at hv
          subst hv
          have hi : i < args.length := (List.getElem?_eq_some_iff.1 hl).1
          rw [Array.getElem?_append, if_pos (by simpa using hi)]
          simpa using hl
      have fin0 : ∀ st' w' a', retK P fn R K st' w' → Sat fn.ntmps a' st' w' → ∃ v, (results fn a'.tmps).run P w' = .ok v w' ∧ ∃ x, Ending.returned v = .returned (R.val x) ∧ K x w' := by
        intro st' w' a' hk hs'
        unfold retK at hk
        split at hk
        case h_2 => exact hk.elim
        case h_1 v hv =>
          split at hk
          case h_2 => exact hk.elim
          case h_1 x hx =>
            have := R.ok v x hx
            subst this
            exact ⟨_, resV_run hs' hv, x, rfl, hk⟩
      have finD : ∀ D st' w' a', retD P fn R K D st' w' → Sat fn.ntmps a' st' w' → LeavesInM Fence.wide 0 P fn a'.tmps (fun e w' => ∃ x, e = .returned (R.val x) ∧ K x w') [mkD D] .returning w' := by
        intro D st' w' a' hk hs'
        have hw := wr_putObj w' D (.deferred none)
        have hs2 : Sat fn.ntmps a' st' (w'.putObj D (.deferred none)) := hs'.turn hk.1 (fun _ _ _ h => by cases h) hw
        refine ⟨by simp, .inl ⟨D, _, rfl, run_takeDeferred hk.1, ?_⟩⟩
        exact fin0 _ _ _ (hk.2 _ hw) hs2
      refine callsIn_wide.1 (callsIn_of_wp_marks (F := Fence.wide) (n := 0) hf hc trivial (wpIn_wide.2 (vcT_sound hP hm c an _ w _ _ _ _ _ h hs (fun D st' w' a' hk hs' => finD D st' w' a' hk hs') (fun st' w' a' hk hs' => ?_) (fun D st' w' a' hk hs' => finD D st' w' a' hk hs'))))
      show LeavesInM Fence.wide 0 P fn a'.tmps _ a'.defers .returning w'
      rw [hs'.defers]
      exact fin0 _ _ _ hk hs'
theorem calls_ofT {P : Program} (hP : Plain P) (hm : P.follows .mixedOrders = true) {f : FuncId} {fn : Func} (hf : P.funcs[f]? = some fn) (an : Ann) (R : RTy) {args : List Value} {w : World} {K : R.α → World → Prop} {F : Prop}
    (he : vcFnT P fn an R args w K = F) (h : F) : callVc P R f args.toArray w K := calls_of_vcT hP hm hf an R (he ▸ h)

/-! ### As it is told -/
/-- Five own variables that go on; three told of where the round leaves. -/
def rngM5_3 {α σ1 σ2 σ3 σ4 σ5 τ1 τ2 τ3 : Type} (P : Program) (val : α → Value) (fv : Value) (kps : World → World → Prop) (body : Nat → Nat → α → σ1 → σ2 → σ3 → σ4 → σ5 → World → (σ1 → σ2 → σ3 → σ4 → σ5 → World → Prop) → (τ1 → τ2 → τ3 → World → Prop) → Prop) (a1 : σ1) (a2 : σ2) (a3 : σ3) (a4 : σ4) (a5 : σ5) (next : Nat → σ1 → σ2 → σ3 → σ4 → σ5 → World → Prop) (leave : Nat → τ1 → τ2 → τ3 → World → Prop) (w : World) : Prop :=
  ∃ gf lb fn, fv = .func (.func gf) #[] lb ∧ P.funcs[gf]? = some fn ∧ fn.body.isSome = true ∧
    ∀ D w1, New D w w1 → ∀ L w2, New L w1 w2 →
      ∃ (J : List α → σ1 → σ2 → σ3 → σ4 → σ5 → World → Prop) (Jx : τ1 → τ2 → τ3 → World → Prop) (G : List α → α → Prop) (Fin : List α → Prop) (Sp Rk : World → World → Prop),
        J [] a1 a2 a3 a4 a5 w2 ∧
        (∀ W W', Sp W W' → kp L W W' (kp D W W' (kps W W'))) ∧
        (∀ pre x1 x2 x3 x4 x5 W W', J pre x1 x2 x3 x4 x5 W → Sp W W' → J pre x1 x2 x3 x4 x5 W') ∧ (∀ z1 z2 z3 W W', Jx z1 z2 z3 W → Sp W W' → Jx z1 z2 z3 W') ∧
        (∀ pre x, G pre x → ∀ x1 x2 x3 x4 x5 W, J pre x1 x2 x3 x4 x5 W → body L D x x1 x2 x3 x4 x5 W (fun y1 y2 y3 y4 y5 W5 => J (pre ++ [x]) y1 y2 y3 y4 y5 W5 ∧ Rk W W5) (fun z1 z2 z3 W5 => Jx z1 z2 z3 W5 ∧ Rk W W5)) ∧
        iterQ P val gf lb w2 (fun pre W => ∃ x1 x2 x3 x4 x5, J pre x1 x2 x3 x4 x5 W) G Fin Sp Rk ∧
        (∀ xs, Fin xs → ∀ x1 x2 x3 x4 x5 W, J xs x1 x2 x3 x4 x5 W → ∀ W', Wr L W W' → shutAt D W' → next D x1 x2 x3 x4 x5 W') ∧
        (∀ z1 z2 z3 W, Jx z1 z2 z3 W → ∀ W', Wr L W W' → shutAt D W' → leave D z1 z2 z3 W')
end Go.Vc
