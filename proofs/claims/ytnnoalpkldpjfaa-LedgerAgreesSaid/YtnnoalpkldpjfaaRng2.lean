/-
  A loop over a function whose iterator is told what its rounds leave in the function's own variables. Of whatever program.
-/
import Derived.Test.YtnnoalpkldpjfaaRng
set_option linter.unusedVariables false
namespace Go.Vc
/-- The values of what is told, as one. -/
def TupT : Live → Type
  | [] => Unit
  | (_, R) :: l => R.α × TupT l
def andT : (l : Live) → PredT l → (TupT l → World → Prop) → PredT l
  | [], J, Rk => fun W => J W ∧ Rk () W
  | (_, _) :: l, J, Rk => fun x => andT l (J x) (fun t => Rk (x, t))
def allT (st0 : St) : (l : Live) → PredT l → St → (TupT l → St → World → Prop) → Prop
  | [], J, st, k => ∀ w, J w → k () st w
  | (i, R) :: l, J, st, k => ∀ x : R.α,
    match setK st0 st R x i with
    | some st' => allT st0 l (J x) st' (fun t => k (x, t))
    | none => False
def exT : (l : Live) → PredT l → TupT l → World → Prop
  | [], J, _, W => J W
  | (_, _) :: l, J, t, W => exT l (J t.1) t.2 W
def getT : (l : Live) → St → Option (TupT l)
  | [], _ => some ()
  | (k, R) :: l, st =>
    match getK st R k with
    | some x => match getT l st with
      | some t => some (x, t)
      | none => none
    | none => none
theorem getT_cons {k : Key} {R : RTy} {l : Live} {st : St} {t : TupT ((k, R) :: l)} (h : getT ((k, R) :: l) st = some t) : getK st R k = some t.1 ∧ getT l st = some t.2 := by
  simp only [getT] at h
  split at h
  case h_2 => cases h
  case h_1 x hx =>
    split at h
    case h_2 => cases h
    case h_1 u hu =>
      cases h
      exact ⟨hx, hu⟩
theorem allT_spec {ws ns ss : List Nat} {st0 st' : St} {w' : World} (hag : Agr ws ns ss st0 st') : ∀ (l : Live) (J : PredT l) (s : St) (k : TupT l → St → World → Prop) (t : TupT l),
    liveOk ws ns l = true → Sub s st' → Agr ws ns ss st0 s → allT st0 l J s k → applyP l J st' w' → getT l st' = some t → ∃ s', Sub s' st' ∧ Agr ws ns ss st0 s' ∧ k t s' w'
  | [], J, s, k, t, _, hs, ha, h, hJ, ht => by cases ht; exact ⟨s, hs, ha, h w' hJ⟩
  | (i, R) :: l, J, s, k, t, hl, hs, ha, h, hJ, ht => by
    obtain ⟨hx, ht2⟩ := getT_cons ht
    simp only [applyP] at hJ
    rw [hx] at hJ
    have h1 := h t.1
    split at h1
    case h_2 => exact h1.elim
    case h_1 s1 hs1 =>
      obtain ⟨hl1, hl2⟩ := liveOk_cons hl
      obtain ⟨h2, h3⟩ := setK_spec hag hs ha hx hl1 hs1
      exact allT_spec hag l (J t.1) s1 (fun u => k (t.1, u)) t.2 hl2 h2 h3 h1 hJ ht2
theorem getT_keys {hp : Hps} {ns : List Nat} {s1 s2 : St} (hs : ∀ id, memN id ns = false → (hlook hp id).isSome = true → hlook s2.hp id = hlook s1.hp id) : ∀ {l : Live}, keysIn hp ns l = true → getT l s2 = getT l s1
  | [], _ => rfl
  | (.s _, _) :: _, h => by cases h
  | (.h id, R) :: l, h => by
    simp only [keysIn] at h
    cases hn : memN id ns with
    | true => rw [hn] at h; cases h
    | false =>
      rw [hn] at h
      simp only [cond_false] at h
      cases hh : hlook hp id with
      | none => rw [hh] at h; cases h
      | some e =>
        rw [hh] at h
        have he := hs id hn (by rw [hh]; rfl)
        simp only [getT, getK]
        rw [he, getT_keys hs h]
theorem applyP_exT {s : St} {W : World} : ∀ {l : Live} {J : PredT l} {t : TupT l}, applyP l J s W → getT l s = some t → exT l J t W
  | [], _, _, hJ, _ => hJ
  | (k, R) :: l, J, t, hJ, ht => by
    obtain ⟨hx, ht2⟩ := getT_cons ht
    simp only [applyP] at hJ
    rw [hx] at hJ
    exact applyP_exT (J := J t.1) hJ ht2
theorem applyP_getT {s : St} {W : World} : ∀ {l : Live} {J : PredT l}, applyP l J s W → ∃ t, getT l s = some t
  | [], _, _ => ⟨(), rfl⟩
  | (k, R) :: l, J, hJ => by
    simp only [applyP] at hJ
    split at hJ
    case h_2 => exact hJ.elim
    case h_1 x hx =>
      obtain ⟨t, ht⟩ := applyP_getT hJ
      exact ⟨(x, t), by simp only [getT]; rw [hx, ht]⟩
theorem applyP_andT {s : St} {W : World} : ∀ {l : Live} {J : PredT l} {Rk : TupT l → World → Prop}, applyP l (andT l J Rk) s W → ∃ t, getT l s = some t ∧ applyP l J s W ∧ Rk t W
  | [], _, _, hJ => ⟨(), rfl, hJ.1, hJ.2⟩
  | (k, R) :: l, J, Rk, hJ => by
    simp only [applyP, andT] at hJ ⊢
    split at hJ
    case h_2 => exact hJ.elim
    case h_1 x hx =>
      obtain ⟨t, h1, h2, h3⟩ := applyP_andT hJ
      exact ⟨(x, t), by simp only [getT]; rw [hx, h1], h2, h3⟩

/-- The iterator's part: at whatever function value that takes the elements as it is told, it comes back. -/
def iterQ2 {α τ : Type} (P : Program) (val : α → Value) (gf : FuncId) (lb : Array Value) (w : World) (t0 : τ) (E : List α → τ → World → Prop) (EX : World → Prop) (G : List α → α → Prop) (Fin : List α → Prop) (Sp : World → World → Prop) (Rk : τ → World → τ → World → Prop) : Prop :=
  ∀ (Y : Value) (Inv : List α → τ → World → Prop) (InvX : World → Prop), Inv [] t0 w → (∀ pre t W W', Inv pre t W → Sp W W' → Inv pre t W') → (∀ W W', InvX W → Sp W W' → InvX W') → (∀ pre t W, Inv pre t W → E pre t W) → (∀ W, InvX W → EX W) →
    (∀ pre x t W (K : Bool → World → Prop), G pre x → Inv pre t W → (∀ t' W', Rk t W t' W' → Inv (pre ++ [x]) t' W' → K true W') → (∀ W', InvX W' → K false W') → callF P Value.bool Y #[val x] W K) →
    callV P uval gf (#[Y] ++ lb) w fun _ W => (∃ xs t, Fin xs ∧ Inv xs t W) ∨ InvX W
/-- The loop over a function. -/
def vcR2 (P : Program) (n : Nat) (g : Operand) (ps : Array Tmp) (as bd : Code) (p : Nat) (R : RTy) (l lx : Live) (x y : Ann) (st : St) (w : World) (kn kr : Nat → St → World → Prop) : Prop :=
  match isOne p ps.toList && within n (some p) && has st g && okIn as x && okIn bd y && keysIn st.hp (news x ++ news y) l && keysIn st.hp (news x ++ news y) lx with
  | true =>
    match getT l st with
    | some t0 => ∃ gf lb fn, ev st g = .func (.func gf) #[] lb ∧ P.funcs[gf]? = some fn ∧ fn.body.isSome = true ∧
      ∀ D w1, New D w w1 → ∀ L w2, New L w1 w2 →
        ∃ (J : List R.α → PredT l) (Jx : PredT lx) (G : List R.α → R.α → Prop) (Fin : List R.α → Prop) (Sp : World → World → Prop) (Rk : TupT l → World → TupT l → World → Prop),
          applyP l (J []) st w2 ∧
          (∀ W W', Sp W W' → kp L W W' (kp D W W' (keep st.hp W W' True))) ∧
          (∀ pre, stabP l (J pre) Sp) ∧ stabP lx Jx Sp ∧
          (∀ pre x', G pre x' → allT st l (J pre) (baseS (news x ++ news y) (stores x ++ stores y) st) fun t st' W =>
            vc P n as x (put st' (some p) (.v (R.val x'))) W (fun st2 W2 => kp L W W2 (∀ W3, Wr L W2 W3 →
              vc P n bd y st2 W3 (fun st4 W4 => kp L W3 W4 (kp D W W4 (∀ W5, Wr L W4 W5 → applyP l (andT l (J (pre ++ [x'])) (Rk t W)) st4 W5))) []
                (fun st4 W4 => kp L W3 W4 (kp D W W4 (∀ W5, Wr L W4 W5 → applyP lx Jx st4 W5))))) [] (fun _ _ => False)) ∧
          iterQ2 P R.val gf lb w2 t0 (fun pre t W => exT l (J pre) t W) (fun W => exP lx Jx W) G Fin Sp Rk ∧
          (∀ xs, Fin xs → allP st l (J xs) (baseS (news x ++ news y) (stores x ++ stores y) st) fun st' W => ∀ W', Wr L W W' → shutAt D W' → kn D st' W') ∧
          (allP st lx Jx (baseS (news x ++ news y) (stores x ++ stores y) st) fun st' W => ∀ W', Wr L W W' → shutAt D W' → kr D st' W')
    | none => False
  | false => False
/-- 'kn', 'kr': behind the loop, whose deferred calls' block is told; 'kr0': ahead of it. -/
def vcT2 (P : Program) (n : Nat) : Code → Ann → St → World → (Nat → St → World → Prop) → (St → World → Prop) → (Nat → St → World → Prop) → Prop
  | .seq a b, .s x y, st, w, kn, kr0, kr =>
    match flatC a with
    | true => vc P n a x st w (fun st' w' => vcT2 P n b y st' w' kn kr0 kr) [] kr0
    | false =>
      match okIn b y with
      | true => vcT2 P n a x st w (fun D st' w' => vc P n b y st' w' (kn D) [] (kr D)) kr0 kr
      | false => False
  | .block _ a, .b x, st, w, kn, kr0, kr => vcT2 P n a x st w kn kr0 kr
  | .rangeFunc g ps as bd, .l ((.s p, R) :: l) (.sj lx x y), st, w, kn, _, kr => vcR2 P n g ps as bd p R l lx x y st w kn kr
  | _, _, _, _, _, _, _ => False

def vcFnT2 (P : Program) (fn : Func) (an : Ann) (R : RTy) (args : List Value) (w : World) (K : R.α → World → Prop) : Prop :=
  match fn.body with
  | some c =>
    match Nat.ble args.length fn.ntmps with
    | true => vcT2 P fn.ntmps c an ⟨argSl 0 args, []⟩ w (retD P fn R K) (retK P fn R K) (retD P fn R K)
    | false => False
  | none => False


/-! ### That it is enough -/
theorem range_sound2 {P : Program} (hP : Plain P) (hm : P.follows .mixedOrders = true) {n : Nat} {g : Operand} {ps : Array Tmp} {as bd : Code} {p : Nat} {R : RTy} {l lx : Live} {x y : Ann} {st : St} {w : World} {kn kr : Nat → St → World → Prop} {a : Act} {Q : Exit → Act → World → Prop}
    (h : vcR2 P n g ps as bd p R l lx x y st w kn kr) (hs : Sat n a st w) (hn : ∀ D st' w' a', kn D st' w' → Sat n a' st' w' → Q .normal (wd [mkD D] a') w') (hr : ∀ D st' w' a', kr D st' w' → Sat n a' st' w' → Q .ret (wd [mkD D] a') w') :
    (Code.rangeFunc g ps as bd).wp P Q a w := by
    unfold vcR2 at h
    split at h
    case h_2 => exact h.elim
    case h_1 hc =>
      simp only [Bool.and_eq_true] at hc
      obtain ⟨⟨⟨⟨⟨⟨hps, hwi⟩, hhas⟩, hoa⟩, hob⟩, hkl⟩, hkx⟩ := hc
      cases ht0 : getT l st with
      | none => rw [ht0] at h; exact h.elim
      | some t0 =>
      rw [ht0] at h
      obtain ⟨gf, lb, fn, hg, hfn, hbody, hall⟩ := h
      have hps : ps = #[p] := by
        have := isOne_spec hps
        apply Array.ext'
        simpa using this
      have hga : a.eval g = .func (.func gf) #[] lb := by rw [← hs.ev hhas]; exact hg
      obtain ⟨ns, hns⟩ : ∃ ns, ns = news x ++ news y := ⟨_, rfl⟩
      obtain ⟨ss, hss⟩ : ∃ ss, ss = stores x ++ stores y := ⟨_, rfl⟩
      rw [← hns, ← hss] at hall
      rw [← hns] at hkl hkx
      refine (wpIn_wide (n := 0)).1 (wpIn_rangeFunc (F := Fence.wide) (n := 0) fun fnid _ => ?_)
      obtain ⟨rc, hrc⟩ : ∃ rc : LoopState → Option Code → Loop, rc = fun s pe => { state := s, pending := pe, fn := fnid, tmps := a.tmps, params := ps, assign := as, body := bd, defers := w.heap.size } := ⟨_, rfl⟩
      obtain ⟨W1, hW1⟩ : ∃ W1, (w.alloc (.deferred (some []))).alloc (.loop (rc .ready none)) = W1 := ⟨_, rfl⟩
      have hL1 : W1.heap[w.heap.size + 1]? = some (.loop (rc .ready none)) := by
        rw [← hW1]
        have := World.alloc_heap_new (w.alloc (.deferred (some []))) (.loop (rc .ready none))
        rwa [World.size_alloc] at this
      have old : ∀ b, b < w.heap.size → W1.heap[b]? = w.heap[b]? := fun b hb => by
        rw [← hW1]
        exact (RowKit.Below.heap_alloc _ _ _ (by simp; omega)).trans (RowKit.Below.heap_alloc _ _ _ hb)
      have hD1 : shutAt w.heap.size W1 := by
        unfold shutAt
        rw [← hW1]
        exact (RowKit.Below.heap_alloc _ _ _ (by simp)).trans (World.alloc_heap_new w _)
      obtain ⟨J, Jx, G, Fin, Sp, Rk, h0, hSp, hSt, hSx, hR, hIt, hDn, hX⟩ := hall w.heap.size (w.alloc (.deferred (some []))) ⟨rfl, _, rfl⟩ (w.heap.size + 1) W1 ⟨by simp, _, hW1.symm⟩
      obtain ⟨D, hDe⟩ : ∃ D, D = w.heap.size := ⟨_, rfl⟩
      obtain ⟨L, hLe⟩ : ∃ L, L = w.heap.size + 1 := ⟨_, rfl⟩
      have hLD : D ≠ L := by omega
      rw [← hLe] at hSp hR hDn hX hL1
      rw [← hDe] at hSp hR hDn hX hD1
      have hDo : ∀ cs T fr, (Obj.deferred (some [])) ≠ .cells cs T fr := fun _ _ _ h => by cases h
      have hLo : ∀ (r : Loop) cs T fr, (Obj.loop r) ≠ .cells cs T fr := fun _ _ _ _ h => by cases h
      have hcf : ∀ args w, (callFunc gf args).run P w = .ok (.enter gf args) w := fun args w => by
        have hn : fn.name ≠ "runtime.NumGoroutine" := by simpa using hP gf fn hfn hbody
        have hb' : fn.body ≠ none := by intro e; simp [e] at hbody
        simp [callFunc, program, Sem.run, hfn, hn, hb']
      refine ⟨L, [mkD D], W1, { target := .fn (.func gf) lb, args := #[.func (.yield L) #[] #[]] }, W1, gf, #[.func (.yield L) #[] #[]] ++ lb, W1, ?_, ?_, fun _ _ => trivial, ?_, fun h => (by cases h), callsIn_wide.2 ?_⟩
      · rw [← hW1, hrc, hLe, hDe]
        exact run_enterLoop_outer _ _ _ _ _
      · simp only [resolve, hga]
        simp [go_sem]
      · simp [invoke, go_sem, hcf]
      obtain ⟨Inv, hInv⟩ : ∃ Inv : List R.α → TupT l → World → Prop, Inv = fun pre t W => ∃ s', Sat n a s' W ∧ Agr [] ns ss st s' ∧ (∀ id, memN id ns = true → hlook s'.hp id = none) ∧ getT l s' = some t ∧ applyP l (J pre) s' W ∧ W.heap[L]? = some (.loop (rc .ready none)) ∧ shutAt D W := ⟨_, rfl⟩
      obtain ⟨InvX, hInvX⟩ : ∃ InvX : World → Prop, InvX = fun W => ∃ s', Sat n a s' W ∧ Agr [] ns ss st s' ∧ (∀ id, memN id ns = true → hlook s'.hp id = none) ∧ applyP lx Jx s' W ∧ W.heap[L]? = some (.loop (rc .done (some .ret))) ∧ shutAt D W := ⟨_, rfl⟩
      -- the iterator's own steps
      have stepS : ∀ {s' : St} {W W' : World}, Sp W W' → Sat n a s' W → Agr [] ns ss st s' → (∀ id, memN id ns = true → hlook s'.hp id = none) → Sat n a s' W' := fun {s' W W'} hw hs' hag hno => by
        have hk := keep_mk (hSp _ _ hw).2.2
        refine hs'.seen fun id b cs hl hlt _ => ?_
        cases hid : memN id ns with
        | true => rw [hno id hid] at hl; cases hl
        | false =>
          obtain ⟨c0, hc0⟩ := hag.blk id hid _ _ hl
          exact hk _ (hlook_mem hc0) hlt
      have stepL : ∀ {W W' : World} {o : Obj}, Sp W W' → W.heap[L]? = some o → W'.heap[L]? = some o := fun hw h => ((hSp _ _ hw).1 (Array.getElem?_eq_some_iff.1 h).1).trans h
      have stepD : ∀ {W W' : World}, Sp W W' → shutAt D W → shutAt D W' := fun hw h => ((hSp _ _ hw).2.1 (Array.getElem?_eq_some_iff.1 h).1).trans h
      refine Calls.mono (hIt (.func (.yield L) #[] #[]) Inv InvX ?_ ?_ ?_ ?_ ?_ ?_) ?_
      · -- ahead of the first round
        rw [hInv]
        refine ⟨baseS ns [] st, (Sub.sat (baseS_sub (Agr.refl _ _ _ _)) hs).seen fun id b cs _ hlt _ => old b hlt, (baseS_agr ns [] st).mono (fun _ h => h) (fun _ h => h) (fun _ _ => rfl), fun id hid => ?_, (getT_keys (hp := st.hp) (ns := ns) (fun id h1 h2 => by simp [baseS, hlook_dropH, h1, memN]) hkl).trans ht0, applyP_keys (hp := st.hp) (ns := ns) (fun id h1 h2 => ?_) hkl h0, hL1, hD1⟩
        · simp [baseS, hlook_dropH, hid]
        · simp [baseS, hlook_dropH, h1, memN]
      · rw [hInv]
        rintro pre t W W' ⟨s', hs', hag, hno, hgt, hap, hl, hd⟩ hw
        exact ⟨s', stepS hw hs' hag hno, hag, hno, hgt, applyP_stab hw (hSt pre) hap, stepL hw hl, stepD hw hd⟩
      · rw [hInvX]
        rintro W W' ⟨s', hs', hag, hno, hap, hl, hd⟩ hw
        exact ⟨s', stepS hw hs' hag hno, hag, hno, applyP_stab hw hSx hap, stepL hw hl, stepD hw hd⟩
      · rw [hInv]
        rintro pre t W ⟨s', _, _, _, hgt, hap, _, _⟩
        exact applyP_exT hap hgt
      · rw [hInvX]
        rintro W ⟨s', _, _, _, hap, _, _⟩
        exact applyP_ex hap
      · -- a round
        intro pre x' t W K hG hi hKt hKf
        rw [hInv] at hi
        obtain ⟨s', hs', hag, hno, hgt, hap, hl, hd⟩ := hi
        obtain ⟨s1, hsub, hag1, hk⟩ := allT_spec hag l (J pre) _ _ t (keysIn_live hkl) (baseS_sub hag) (baseS_agr ns ss st) (hR pre x' hG) hap hgt
        have hs1 := hsub.sat hs'
        have hsp : Sat n (a.put (some p) (R.val x')) (put s1 (some p) (.v (R.val x'))) W := hs1.put hwi (fun u hu => by cases hu; rfl)
        have hy := run_yield (P := P) (args := #[R.val x']) hl (by rw [hrc]; simp [hps])
        refine .inr ⟨L, rfl, _, _, _, _, hy, roundIn_of_wpIn trivial ?_⟩
        have eact : ({ tmps := ((rc .ready none).params.zip #[R.val x']).foldl (fun tmps (t, a) => tmps.setIfInBounds t a) (rc .ready none).tmps, defers := [] } : Act) = wd [] (a.put (some p) (R.val x')) := by
          rw [hrc]
          simp [hps, Act.put, wd]
        have easn : (rc .ready none).assign = as := by rw [hrc]
        have ebody : (rc .ready none).body = bd := by rw [hrc]
        rw [eact, easn, ebody]
        obtain ⟨RR, hRR⟩ : ∃ RR : Ending → World → Prop, RR = fun e w' => ∃ b, e = .returned (.bool b) ∧ K b w' := ⟨_, rfl⟩
        rw [← hRR]
        refine wpIn_mono (vc_soundIn hP hm (F := Fence.wide.inRound L) (.inr ⟨L, rfl⟩) (ds := []) as x _ W _ [] _ _ (Exit.then (fun a₁ w₁ => a₁.defers = [] ∧ ∃ w₂, (Instr.beginRound L).run P w₁ = .ok () w₂ ∧ bd.wpIn (Fence.wide.inRound L) 0 P (roundPost P L RR) a₁ w₂) (fun _ _ _ => False)) hoa hk hsp ⟨?_, ?_, ?_⟩) ?_
        · -- behind the assignments
          intro st2 W2 a2 hk2 hs2 hag2
          refine ⟨hs2.defers, ?_⟩
          have hltL := (Array.getElem?_eq_some_iff.1 hl).1
          have hl2 : W2.heap[L]? = some (.loop (rc .ready none)) := (hk2.1 hltL).trans hl
          refine ⟨_, run_beginRound hl2 (by rw [hrc]), ?_⟩
          obtain ⟨W3, hW3⟩ : ∃ W3, W2.putObj L (.loop { rc .ready none with state := .busy }) = W3 := ⟨_, rfl⟩
          have hw3 : Wr L W2 W3 := by rw [← hW3]; exact wr_putObj _ _ _
          rw [hW3]
          have hl3 : W3.heap[L]? = some (.loop { rc .ready none with state := .busy }) := by rw [← hW3]; exact World.putObj_heap_same (Array.getElem?_eq_some_iff.1 hl2).1
          have hs3 : Sat n a2 st2 W3 := hs2.turn hl2 (hLo _) hw3
          have nx : ∀ id, memN id ns = false → memN id (news x) = false ∧ memN id (news y) = false := fun id h => by
            rw [hns, memN_append] at h
            exact ⟨by cases hx : memN id (news x) <;> simp_all, by cases hx : memN id (news y) <;> simp_all⟩
          have sx : ∀ id, memN id ss = false → memN id (stores x) = false ∧ memN id (stores y) = false := fun id h => by
            rw [hss, memN_append] at h
            exact ⟨by cases hx : memN id (stores x) <;> simp_all, by cases hx : memN id (stores y) <;> simp_all⟩
          have back : ∀ {st4 : St} {a4 : Act} {W5 : World}, Agr (writes bd) (news y) (stores y) st2 st4 → Sat n a4 st4 W5 → Sat n a (backS ns st st4) W5 ∧ Agr [] ns ss st (backS ns st st4) ∧ (∀ id, memN id ns = true → hlook (backS ns st st4).hp id = none) ∧ ∀ id, memN id ns = false → (hlook st.hp id).isSome = true → hlook (backS ns st st4).hp id = hlook st4.hp id := fun hag4 hs5 =>
            backS_spec hs hs5 (fun id hid b c hh => by
              obtain ⟨c1, h1⟩ := hag4.blk id (nx id hid).2 b c hh
              obtain ⟨c2, h2⟩ := hag2.blk id (nx id hid).1 b c1 h1
              exact hag1.blk id hid b c2 h2) (fun id hid hid' => by
              rw [hag4.hp id (nx id hid).2 (sx id hid').2, hag2.hp id (nx id hid).1 (sx id hid').1]
              exact hag1.hp id hid hid')
          have e0 : wd [] a2 = a2 := by rw [← hs2.defers]
          rw [← e0]
          refine wpIn_mono (vc_soundIn hP hm (F := Fence.wide.inRound L) (.inr ⟨L, rfl⟩) (ds := []) bd y _ W3 _ [] _ a2 (roundPost P L RR) hob (hk2.2 W3 hw3) hs3 ⟨?_, ?_, ?_⟩) ?_
          · -- the body's end
            intro st4 W4 a4 hk4 hs4 hag4
            have hl4 : W4.heap[L]? = some (.loop { rc .ready none with state := .busy }) := (hk4.1 (Array.getElem?_eq_some_iff.1 hl3).1).trans hl3
            have hd4 : shutAt D W4 := (hk4.2.1 (Array.getElem?_eq_some_iff.1 hd).1).trans hd
            have hend := run_endRound (P := P) none hl4
            refine ⟨_, _, hend, ?_⟩
            rw [hRR]
            refine ⟨true, rfl, ?_⟩
            obtain ⟨W5, hW5⟩ : ∃ W5, W4.putObj L (.loop { { rc .ready none with state := .busy } with state := if (none : Option Code).isNone then .ready else .done, pending := none }) = W5 := ⟨_, rfl⟩
            have hw5 : Wr L W4 W5 := by rw [← hW5]; exact wr_putObj _ _ _
            rw [hW5]
            have hl5 : W5.heap[L]? = some (.loop (rc .ready none)) := by
              rw [← hW5, World.putObj_heap_same (Array.getElem?_eq_some_iff.1 hl4).1, hrc]
              rfl
            have hd5 : shutAt D W5 := (hw5.block D hLD).trans hd4
            obtain ⟨t', hgt', hJ5, hRk⟩ := applyP_andT (hk4.2.2 W5 hw5)
            have hs5 : Sat n a4 st4 W5 := hs4.turn hl4 (hLo _) hw5
            obtain ⟨b1, b2, b3, b4⟩ := back hag4 hs5
            refine hKt t' W5 hRk ?_
            rw [hInv]
            exact ⟨_, b1, b2, b3, (getT_keys b4 hkl).trans hgt', applyP_keys b4 hkl hJ5, hl5, hd5⟩
          · intro id k st4 W4 a4 hf
            cases hf
          · -- the body has left
            intro st4 W4 a4 hk4 hs4 hag4
            have hl4 : W4.heap[L]? = some (.loop { rc .ready none with state := .busy }) := (hk4.1 (Array.getElem?_eq_some_iff.1 hl3).1).trans hl3
            have hd4 : shutAt D W4 := (hk4.2.1 (Array.getElem?_eq_some_iff.1 hd).1).trans hd
            have hend := run_endRound (P := P) (some .ret) hl4
            refine ⟨_, _, hend, ?_⟩
            rw [hRR]
            refine ⟨false, rfl, ?_⟩
            obtain ⟨W5, hW5⟩ : ∃ W5, W4.putObj L (.loop { { rc .ready none with state := .busy } with state := if (some Code.ret : Option Code).isNone then .ready else .done, pending := some .ret }) = W5 := ⟨_, rfl⟩
            have hw5 : Wr L W4 W5 := by rw [← hW5]; exact wr_putObj _ _ _
            rw [hW5]
            have hl5 : W5.heap[L]? = some (.loop (rc .done (some .ret))) := by
              rw [← hW5, World.putObj_heap_same (Array.getElem?_eq_some_iff.1 hl4).1, hrc]
              rfl
            have hd5 : shutAt D W5 := (hw5.block D hLD).trans hd4
            have hJ5 := hk4.2.2 W5 hw5
            have hs5 : Sat n a4 st4 W5 := hs4.turn hl4 (hLo _) hw5
            obtain ⟨b1, b2, b3, b4⟩ := back hag4 hs5
            refine hKf W5 ?_
            rw [hInvX]
            exact ⟨_, b1, b2, b3, applyP_keys b4 hkx hJ5, hl5, hd5⟩
          · rintro e a' w' ⟨a0, _, hq⟩
            cases e <;> exact hq
        · intro id k st4 W4 a4 hf
          cases hf
        · intro st4 W4 a4 hf _ _
          exact hf.elim
        · rintro e a' w' ⟨a0, rfl, hq⟩
          cases e with
          | normal =>
            obtain ⟨hd0, hq⟩ := hq
            have e0 : wd [] a0 = a0 := by rw [← hd0]
            rw [e0]
            exact hq
          | _ => exact hq.elim
      · -- behind the iterator
        rintro e W2 ⟨u, rfl, ⟨xs, t, hF, hi⟩ | hi⟩
        · rw [hInv] at hi
          obtain ⟨s', hs', hag, hno, _, hap, hl, hd⟩ := hi
          obtain ⟨s1, hsub, hag1, hk⟩ := allP_spec hag l (J xs) _ _ (keysIn_live hkl) (baseS_sub hag) (baseS_agr ns ss st) (hDn xs hF) hap
          have hw := wr_putObj W2 L (.loop { rc .ready none with state := .exhausted })
          refine ⟨none, W2.putObj L (.loop { rc .ready none with state := .exhausted }), ?_, ?_⟩
          · have := run_endLoop (P := P) hl (by rw [hrc]; simp)
            rw [hrc] at this ⊢
            exact this
          · have hq := hn D s1 _ a (hk _ hw ((hw.block D hLD).trans hd)) ((hsub.sat hs').turn hl (hLo _) hw)
            show Q .normal { a with defers := [mkD D] ++ a.defers } _
            rw [hs.defers]
            exact hq
        · rw [hInvX] at hi
          obtain ⟨s', hs', hag, hno, hap, hl, hd⟩ := hi
          obtain ⟨s1, hsub, hag1, hk⟩ := allP_spec hag lx Jx _ _ (keysIn_live hkx) (baseS_sub hag) (baseS_agr ns ss st) hX hap
          have hw := wr_putObj W2 L (.loop { rc .done (some .ret) with state := .exhausted })
          refine ⟨some .ret, W2.putObj L (.loop { rc .done (some .ret) with state := .exhausted }), ?_, ?_⟩
          · have := run_endLoop (P := P) hl (by rw [hrc]; simp)
            rw [hrc] at this ⊢
            exact this
          · refine wpIn_ret ?_
            have hq := hr D s1 _ a (hk _ hw ((hw.block D hLD).trans hd)) ((hsub.sat hs').turn hl (hLo _) hw)
            rw [hs.defers]
            exact hq

theorem vcT_sound2 {P : Program} (hP : Plain P) (hm : P.follows .mixedOrders = true) {n : Nat} (c : Code) : ∀ (an : Ann) (st : St) (w : World) (kn : Nat → St → World → Prop) (kr0 : St → World → Prop) (kr : Nat → St → World → Prop) (a : Act) (Q : Exit → Act → World → Prop),
    vcT2 P n c an st w kn kr0 kr → Sat n a st w → (∀ D st' w' a', kn D st' w' → Sat n a' st' w' → Q .normal (wd [mkD D] a') w') → (∀ st' w' a', kr0 st' w' → Sat n a' st' w' → Q .ret a' w') →
    (∀ D st' w' a', kr D st' w' → Sat n a' st' w' → Q .ret (wd [mkD D] a') w') → c.wp P Q a w := by
  induction c with
  | seq x y ihx ihy =>
    intro an st w kn kr0 kr a Q h hs hn hr0 hr
    unfold vcT2 at h
    cases an with
    | s p q =>
      simp only at h
      split at h
      · refine wp_seq (vc_sound hP hm x p st w _ [] kr0 a _ h hs ⟨fun st' w' a' hk hs' _ => ?_, fun id k st' w' a' hf => (by cases hf), fun st' w' a' hk hs' => hr0 _ _ _ hk hs'⟩)
        exact ihy q st' w' kn kr0 kr a' Q hk hs' hn hr0 hr
      · split at h
        case h_2 => exact h.elim
        case h_1 hok =>
          refine wp_seq (ihx p st w _ kr0 kr a (Exit.then (y.wp P Q) Q) h hs (fun D st' w' a' hk hs' => ?_) hr0 hr)
          refine (wpIn_wide (n := 0)).1 (wpIn_mono (vc_soundIn hP hm (F := Fence.wide) (.inl rfl) (ds := [mkD D]) y q st' w' _ [] _ a' (fun e a0 w0 => Q e (wd [mkD D] a0) w0) hok hk hs' ⟨fun st2 w2 a2 hk2 hs2 _ => hn D _ _ _ hk2 hs2, fun id k st2 w2 a2 hf => (by cases hf), fun st2 w2 a2 hk2 hs2 _ => hr D _ _ _ hk2 hs2⟩) ?_)
          rintro e a2 w2 ⟨a0, rfl, hq⟩
          exact hq
    | _ => exact h.elim
  | block id x ih =>
    intro an st w kn kr0 kr a Q h hs hn hr0 hr
    unfold vcT2 at h
    cases an with
    | b p => exact wp_block (ih p st w kn kr0 kr a (Exit.inBlock id Q) h hs hn hr0 hr)
    | _ => exact h.elim
  | rangeFunc g ps as bd _ _ =>
    intro an st w kn kr0 kr a Q h hs hn hr0 hr
    cases an with
    | l lv q =>
      cases lv with
      | nil => exact (show False from h).elim
      | cons e r =>
        obtain ⟨k, R⟩ := e
        cases k with
        | h id => exact (show False from h).elim
        | s p =>
          cases q with
          | sj lx x y => exact range_sound2 hP hm (show vcR2 P n g ps as bd p R r lx x y st w kn kr from h) hs hn hr
          | _ => exact (show False from h).elim
    | _ => exact (show False from h).elim
  | _ => intro an st w kn kr0 kr a Q h; exact absurd h (by simp [vcT2])

/-- **What 'vcFnT2' asks is enough.** -/
theorem calls_of_vcT2 {P : Program} (hP : Plain P) (hm : P.follows .mixedOrders = true) {f : FuncId} {fn : Func} (hf : P.funcs[f]? = some fn) (an : Ann) (R : RTy) {args : List Value} {w : World} {K : R.α → World → Prop}
    (h : vcFnT2 P fn an R args w K) : callVc P R f args.toArray w K := by
  unfold vcFnT2 at h
  split at h
  case h_2 => exact h.elim
  case h_1 c hc =>
    split at h
    case h_2 => exact h.elim
    case h_1 hn =>
      have hn' := Nat.le_of_ble_eq_true hn
      have hs : Sat fn.ntmps { tmps := args.toArray ++ Array.replicate (fn.ntmps - args.toArray.size) undef, defers := [] } ⟨argSl 0 args, []⟩ w := by
        refine ⟨by simp; omega, rfl, fun i v hv => ?_, fun id b cs h => by simp [hlook] at h, fun id id' b c c' h => by simp [hlook] at h⟩
        simp only [lookV, look_arg, Nat.zero_le, if_true, Nat.sub_zero] at hv
        cases hl : args[i]? with
        | none => simp [hl] at hv
        | some u =>
          simp only [hl, Option.map_some, svVal, Option.some.injEq] at hv
          subst hv
          have hi : i < args.length := (List.getElem?_eq_some_iff.1 hl).1
          rw [Array.getElem?_append, if_pos (by simpa using hi)]
          simpa using hl
      have fin0 : ∀ st' w' a', retK P fn R K st' w' → Sat fn.ntmps a' st' w' → ∃ v, (results fn a'.tmps).run P w' = .ok v w' ∧ ∃ x, Ending.returned v = .returned (R.val x) ∧ K x w' := by
        intro st' w' a' hk hs'
        unfold retK at hk
        split at hk
        case h_2 => exact hk.elim
        case h_1 v hv =>
          split at hk
          case h_2 => exact hk.elim
          case h_1 x hx =>
            have := R.ok v x hx
            subst this
            exact ⟨_, resV_run hs' hv, x, rfl, hk⟩
      have finD : ∀ D st' w' a', retD P fn R K D st' w' → Sat fn.ntmps a' st' w' → LeavesInM Fence.wide 0 P fn a'.tmps (fun e w' => ∃ x, e = .returned (R.val x) ∧ K x w') [mkD D] .returning w' := by
        intro D st' w' a' hk hs'
        have hw := wr_putObj w' D (.deferred none)
        have hs2 : Sat fn.ntmps a' st' (w'.putObj D (.deferred none)) := hs'.turn hk.1 (fun _ _ _ h => by cases h) hw
        refine ⟨by simp, .inl ⟨D, _, rfl, run_takeDeferred hk.1, ?_⟩⟩
        exact fin0 _ _ _ (hk.2 _ hw) hs2
      refine callsIn_wide.1 (callsIn_of_wp_marks (F := Fence.wide) (n := 0) hf hc trivial (wpIn_wide.2 (vcT_sound2 hP hm c an _ w _ _ _ _ _ h hs (fun D st' w' a' hk hs' => finD D st' w' a' hk hs') (fun st' w' a' hk hs' => ?_) (fun D st' w' a' hk hs' => finD D st' w' a' hk hs'))))
      show LeavesInM Fence.wide 0 P fn a'.tmps _ a'.defers .returning w'
      rw [hs'.defers]
      exact fin0 _ _ _ hk hs'
theorem calls_ofT2 {P : Program} (hP : Plain P) (hm : P.follows .mixedOrders = true) {f : FuncId} {fn : Func} (hf : P.funcs[f]? = some fn) (an : Ann) (R : RTy) {args : List Value} {w : World} {K : R.α → World → Prop} {F : Prop}
    (he : vcFnT2 P fn an R args w K = F) (h : F) : callVc P R f args.toArray w K := calls_of_vcT2 hP hm hf an R (he ▸ h)

/-! ### As it is told -/
/-- One own variable that goes on; none told of where the round leaves. -/
def rngM1_0 {α σ : Type} (P : Program) (val : α → Value) (fv : Value) (kps : World → World → Prop) (body : Nat → Nat → α → σ → World → (σ → World → Prop) → (World → Prop) → Prop) (a1 : σ) (next : Nat → σ → World → Prop) (leave : Nat → World → Prop) (w : World) : Prop :=
  ∃ gf lb fn, fv = .func (.func gf) #[] lb ∧ P.funcs[gf]? = some fn ∧ fn.body.isSome = true ∧
    ∀ D w1, New D w w1 → ∀ L w2, New L w1 w2 →
      ∃ (J : List α → σ → World → Prop) (Jx : World → Prop) (G : List α → α → Prop) (Fin : List α → Prop) (Sp : World → World → Prop) (Rk : σ × Unit → World → σ × Unit → World → Prop),
        J [] a1 w2 ∧
        (∀ W W', Sp W W' → kp L W W' (kp D W W' (kps W W'))) ∧
        (∀ pre x1 W W', J pre x1 W → Sp W W' → J pre x1 W') ∧ (∀ W W', Jx W → Sp W W' → Jx W') ∧
        (∀ pre x, G pre x → ∀ x1 W, J pre x1 W → body L D x x1 W (fun y1 W5 => J (pre ++ [x]) y1 W5 ∧ Rk (x1, ()) W (y1, ()) W5) (fun W5 => Jx W5)) ∧
        iterQ2 P val gf lb w2 (a1, ()) (fun pre t W => J pre t.1 W) (fun W => Jx W) G Fin Sp Rk ∧
        (∀ xs, Fin xs → ∀ x1 W, J xs x1 W → ∀ W', Wr L W W' → shutAt D W' → next D x1 W') ∧
        (∀ W, Jx W → ∀ W', Wr L W W' → shutAt D W' → leave D W')
end Go.Vc
