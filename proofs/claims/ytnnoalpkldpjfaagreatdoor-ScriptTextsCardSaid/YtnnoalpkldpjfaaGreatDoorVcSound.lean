/-
  Why what 'vc' asks is enough: 'calls_of_vc', of whatever program.
-/
import Derived.WalkKit
import Derived.Test.YtnnoalpkldpjfaaGreatDoorVc
namespace Go.Vc
theorem execOp_congr {ρ ρ' : Operand → Value} (o : Oper) (hk : known o.op = true) (h : ∀ x ∈ opsOf o.op, ρ x = ρ' x) : execOp ρ o = execOp ρ' o := by
  obtain ⟨dst, op, ty, pos, aft, gd⟩ := o
  cases op <;> simp only [known, opsOf, List.mem_cons, List.not_mem_nil, or_false, forall_eq_or_imp, forall_eq, Bool.false_eq_true] at h hk <;> simp only [execOp]
  case call c =>
    obtain ⟨callee, args, ats⟩ := c
    have ha : args.map ρ = args.map ρ' := by
      apply Array.map_congr_left
      intro x hx
      exact h x (by simp [hx])
    cases callee <;> simp only [resolve, ha] <;> simp at h <;> simp [h]
  case build t ps =>
    have : (ps.map fun (i, x) => (i, ρ x)) = (ps.map fun (i, x) => (i, ρ' x)) := by
      apply Array.map_congr_left
      intro x hx
      simp only [Prod.mk.injEq, true_and]
      exact h x.2 (List.mem_map.2 ⟨x, by simpa using hx, rfl⟩)
    rw [this]
  case buildSlice t n ps =>
    have : (ps.map fun (i, x) => (i, ρ x)) = (ps.map fun (i, x) => (i, ρ' x)) := by
      apply Array.map_congr_left
      intro x hx
      simp only [Prod.mk.injEq, true_and]
      exact h x.2 (List.mem_map.2 ⟨x, by simpa using hx, rfl⟩)
    rw [this]
  case makeFunc fn first caps =>
    have h1 : first.map ρ = first.map ρ' := Array.map_congr_left fun x hx => h x (by simp [hx])
    have h2 : caps.map ρ = caps.map ρ' := Array.map_congr_left fun x hx => h x (by simp [hx])
    rw [h1, h2]
  case makeMap t r => cases r <;> simp_all
  case slice t x lo hi mx =>
    have h1 : lo.map ρ = lo.map ρ' := by cases lo <;> simp_all
    have h2 : hi.map ρ = hi.map ρ' := by cases hi <;> simp_all
    have h3 : mx.map ρ = mx.map ρ' := by cases mx <;> simp_all
    rw [h.1, h1, h2, h3]
  all_goals simp_all

def asValue (r : Result Value) : Result Next :=
  match r with
  | .ok v w => .ok (.value v) w
  | .halt h w => .halt h w
def asSkip (r : Result Unit) : Result Next :=
  match r with
  | .ok _ w => .ok .skip w
  | .halt h w => .halt h w

theorem toArr {α β : Type} (a : Array α) (f : α → β) : (a.toList.map f).toArray = a.map f := by rw [← Array.toList_map, Array.toArray_toList]

theorem run_val {P : Program} {s : Sem Value} {w : World} : (s >>= fun v => pure (Next.value v)).run P w = asValue (s.run P w) := by
  rw [Sem.run_bind]
  cases s.run P w <;> simp [asValue]

theorem exec_nil {P : Program} {ρ : Operand → Value} {o : Oper} {x : Operand} (ho : o.op = .nilCheck x) {w w' : World} {v : Value} (h : (nilSem (ρ x)).run P w = .ok v w') :
    (execOp ρ o).run P w = .ok (.value v) w' := by
  simp only [execOp, ho]
  generalize ρ x = y at *
  unfold nilSem at h
  split at h
  · rw [Sem.run_pure] at h
    cases h
    simp
  · cases h

theorem exec_val {P : Program} {ρ : Operand → Value} {o : Oper} {w w' : World} {v : Value} (h : (valSem ρ o).run P w = .ok v w') : (execOp ρ o).run P w = .ok (.value v) w' := by
  by_cases hnil : ∃ x, o.op = .nilCheck x
  · obtain ⟨x, hx⟩ := hnil
    refine exec_nil hx ?_
    simpa only [valSem, hx] using h
  have key : (execOp ρ o).run P w = asValue ((valSem ρ o).run P w) ∨ ∃ x, (valSem ρ o).run P w = .halt x w := by
    obtain ⟨dst, op, ty, pos, aft, gd⟩ := o
    cases op
    case call c =>
      obtain ⟨callee, args, ats⟩ := c
      cases callee
      case builtin b =>
        cases b <;> first
          | (right; exact ⟨_, rfl⟩)
          | (left
             simp only [execOp, resolve, valSem, toArr]
             simp only [Sem.run_bind, Sem.run_pure, Result.andThen_ok, invoke, builtin]
             first
               | exact run_val
               | (rw [← run_val (P := P)]; simp))
      all_goals (right; exact ⟨_, rfl⟩)
    all_goals first
      | (right; exact ⟨_, rfl⟩)
      | exact absurd ⟨_, rfl⟩ hnil
      | (left; simp only [execOp, valSem]; exact run_val)
      | (left; simp only [execOp, valSem, toArr]; exact run_val)
      | (left; simp only [execOp, valSem]; rfl)
  rcases key with k | ⟨x, k⟩
  · rw [k, h]; rfl
  · rw [h] at k; cases k

theorem exec_un {P : Program} {ρ : Operand → Value} {o : Oper} {w w' : World} (h : (unSem ρ o).run P w = .ok () w') : (execOp ρ o).run P w = .ok .skip w' := by
  have key : (execOp ρ o).run P w = asSkip ((unSem ρ o).run P w) ∨ ∃ x, (unSem ρ o).run P w = .halt x w := by
    obtain ⟨dst, op, ty, pos, aft, gd⟩ := o
    cases op
    all_goals first
      | (right; exact ⟨_, rfl⟩)
      | (left; simp only [execOp, unSem, Sem.run_bind]; generalize Sem.run P _ w = r; cases r <;> simp [Result.andThen, asSkip])
  rcases key with k | ⟨x, k⟩
  · rw [k, h]; rfl
  · rw [h] at k; cases k

theorem beq_no {d i : Nat} (h : ¬ d = i) : Nat.beq d i = false := by
  cases hb : Nat.beq d i
  · rfl
  · exact absurd (Nat.eq_of_beq_eq_true hb) h
theorem beq_yes (i : Nat) : Nat.beq i i = true := Nat.beq_refl i

/-- A run that hands something back hands the same back in whatever world, and leaves it alone. -/
def Quiet {α : Type} (s : Sem α) : Prop := ∀ P w a w', s.run P w = .ok a w' → ∀ v, s.run P v = .ok a v
theorem Quiet.same {α : Type} {s : Sem α} (h : Quiet s) {P : Program} {w w' : World} {a : α} (hr : s.run P w = .ok a w') : w' = w := by
  have := h P w a w' hr w
  rw [hr] at this
  cases this
  rfl
def NoOk {α : Type} (s : Sem α) : Prop := ∀ P w a w', s.run P w ≠ .ok a w'

theorem NoOk.quiet {α : Type} {s : Sem α} (h : NoOk s) : Quiet s := fun P w a w' hr _ => absurd hr (h P w a w')
theorem noOk_halt {α : Type} (h : Halt) : NoOk (Sem.halt h : Sem α) := fun _ _ _ _ hr => by cases hr
theorem quiet_pure {α : Type} (a : α) : Quiet (pure a : Sem α) := fun P w b w' hr v => by
  rw [Sem.run_pure] at hr; cases hr; rw [Sem.run_pure]
theorem quiet_bind {α β : Type} {s : Sem α} {f : α → Sem β} (hs : Quiet s) (hf : ∀ a, Quiet (f a)) : Quiet (s >>= f) := by
  intro P w a w' hr v
  rw [Sem.run_bind] at hr ⊢
  cases h : s.run P w with
  | ok x w1 => rw [h] at hr; rw [hs _ _ _ _ h v]; exact hf x _ _ _ _ hr v
  | halt x w1 => rw [h] at hr; cases hr
theorem noOk_bind {α β : Type} {s : Sem α} {f : α → Sem β} (hf : ∀ a, NoOk (f a)) : NoOk (s >>= f) := by
  intro P w a w' hr
  rw [Sem.run_bind] at hr
  cases h : s.run P w with
  | ok x w1 => rw [h] at hr; exact hf x _ _ _ _ hr
  | halt x w1 => rw [h] at hr; cases hr
theorem noOk_bind_left {α β : Type} {s : Sem α} {f : α → Sem β} (hs : NoOk s) : NoOk (s >>= f) := by
  intro P w a w' hr
  rw [Sem.run_bind] at hr
  cases h : s.run P w with
  | ok x w1 => exact hs _ _ _ _ h
  | halt x w1 => rw [h] at hr; cases hr
theorem quiet_map {α β : Type} {s : Sem α} {f : α → β} (hs : Quiet s) : Quiet (Functor.map f s) := by
  rw [← bind_pure_comp]; exact quiet_bind hs fun a => quiet_pure _
theorem quiet_program : Quiet program := fun P w a w' hr v => by
  simp [program, Sem.run] at hr ⊢
  exact hr.1
theorem quiet_ite {α : Type} {c : Prop} [Decidable c] {s t : Sem α} (hs : Quiet s) (ht : Quiet t) : Quiet (if c then s else t) := by
  split <;> assumption
theorem noOk_stuck {α : Type} (s : String) : NoOk (stuck s : Sem α) := noOk_halt _
theorem noOk_unsupported {α : Type} (s : Unsupported) : NoOk (unsupported s : Sem α) := noOk_halt _
theorem noOk_goPanic {α : Type} (v : Value) : NoOk (goPanic v : Sem α) := noOk_halt _
theorem noOk_runtimePanic {α : Type} (e : RuntimeError) : NoOk (runtimePanic e : Sem α) := by
  unfold runtimePanic
  refine noOk_bind fun p => ?_
  cases e
  all_goals first
    | exact noOk_goPanic _
    | exact noOk_bind fun r => noOk_goPanic _
    | exact noOk_bind fun r => noOk_bind fun q => noOk_goPanic _
theorem noOk_boundsPanic {α : Type} (k : IntKind) (x y : Int) (c : BoundsCode) : NoOk (boundsPanic k x y c : Sem α) := by
  unfold boundsPanic
  dsimp only
  split <;> exact noOk_bind fun _ => noOk_runtimePanic _
theorem quiet_typeInfo (t : TypeId) : Quiet (typeInfo t) := by
  unfold typeInfo
  refine quiet_bind quiet_program fun p => ?_
  split <;> first | exact quiet_pure _ | exact (noOk_stuck _).quiet
theorem quiet_underlying (t : TypeId) : Quiet (underlying t) := by
  unfold underlying
  refine quiet_bind quiet_program fun p => ?_
  split <;> first | exact quiet_pure _ | exact (noOk_stuck _).quiet
theorem quiet_sizeOf (t : TypeId) : Quiet (sizeOf t) := by
  unfold sizeOf
  exact quiet_bind (quiet_typeInfo t) fun _ => quiet_pure _
theorem quiet_zeroValue (t : TypeId) : Quiet (zeroValue t) := by
  unfold zeroValue
  refine quiet_bind (quiet_typeInfo t) fun i => ?_
  split <;> first | exact quiet_pure _ | exact (noOk_unsupported _).quiet
theorem quiet_isAgg (t : TypeId) : Quiet (isAgg t) := by
  unfold isAgg
  refine quiet_bind (quiet_underlying t) fun d => ?_
  split <;> exact quiet_pure _
theorem quiet_part (t : TypeId) (cs : Array Value) (off : Nat) : Quiet (part t cs off) := by
  unfold part
  refine quiet_bind (quiet_isAgg t) fun b => ?_
  split
  · exact quiet_bind (quiet_sizeOf t) fun _ => quiet_pure _
  · split <;> first | exact quiet_pure _ | exact (noOk_stuck _).quiet
theorem quiet_asBool (v : Value) : Quiet (asBool v) := by unfold asBool; split <;> first | exact quiet_pure _ | exact (noOk_stuck _).quiet
theorem quiet_asAgg (v : Value) : Quiet (asAgg v) := by unfold asAgg; split <;> first | exact quiet_pure _ | exact (noOk_stuck _).quiet
theorem quiet_asIntOf (v : Value) : Quiet (asIntOf v) := by
  unfold asIntOf; split <;> first | exact quiet_pure _ | exact (noOk_stuck _).quiet | exact (noOk_unsupported _).quiet
theorem quiet_asInt (v : Value) : Quiet (asInt v) := by unfold asInt; exact quiet_bind (quiet_asIntOf v) fun _ => quiet_pure _
theorem quiet_mapM {α β : Type} {f : α → Sem β} (hf : ∀ a, Quiet (f a)) (a : Array α) : Quiet (a.mapM f) := by
  rw [Array.mapM_eq_mapM_toList]
  refine quiet_map ?_
  generalize a.toList = l
  induction l with
  | nil => exact quiet_pure _
  | cons x l ih =>
    rw [List.mapM_cons]
    exact quiet_bind (hf x) fun y => quiet_bind ih fun ys => quiet_pure _

theorem quiet_index (t : TypeId) (x i : Value) : Quiet (Instr.index t x i) := by
  unfold Instr.index
  refine quiet_bind (quiet_asIntOf i) fun ki => ?_
  obtain ⟨k, i⟩ := ki
  refine quiet_bind (quiet_underlying t) fun d => ?_
  split
  · refine quiet_ite (quiet_bind (quiet_sizeOf _) fun _ => quiet_part _ _ _) (noOk_boundsPanic _ _ _ _).quiet
  · split
    · exact quiet_pure _
    · exact (noOk_boundsPanic _ _ _ _).quiet
  · exact (noOk_stuck _).quiet

theorem quiet_field (t : TypeId) (x : Value) (i : Nat) : Quiet (Instr.field t x i) := by
  unfold Instr.field
  refine quiet_bind (quiet_underlying t) fun d => ?_
  split
  · split
    · exact quiet_bind (quiet_asAgg _) fun _ => quiet_part _ _ _
    · exact (noOk_stuck _).quiet
  · exact (noOk_stuck _).quiet

theorem quiet_build (t : TypeId) (ps : Array (Nat × Value)) : Quiet (Instr.build t ps) := by
  unfold Instr.build
  refine quiet_bind (quiet_zeroValue t) fun z => ?_
  refine quiet_bind (quiet_underlying t) fun d => ?_
  split
  · refine quiet_bind (quiet_mapM (fun f => quiet_bind (quiet_sizeOf _) fun _ => quiet_pure _) _) fun places => ?_
    split <;> first | exact quiet_pure _ | exact (noOk_stuck _).quiet
  · refine quiet_bind (quiet_sizeOf _) fun s => ?_
    split <;> first | exact quiet_pure _ | exact (noOk_stuck _).quiet
  · exact (noOk_stuck _).quiet

theorem quiet_makeInterface (t : TypeId) (x : Value) : Quiet (Instr.makeInterface t x) := by
  unfold Instr.makeInterface
  refine quiet_bind (quiet_underlying t) fun d => ?_
  split <;> first | exact quiet_pure _ | exact (noOk_stuck _).quiet

theorem quiet_extract (x : Value) (i : Nat) : Quiet (Instr.extract x i) := by
  unfold Instr.extract
  split
  · split <;> first | exact quiet_pure _ | exact (noOk_stuck _).quiet
  · exact (noOk_stuck _).quiet

theorem quiet_typeAssert (x : Value) (s t : TypeId) (c : Bool) : Quiet (Instr.typeAssert x s t c) := by
  unfold Instr.typeAssert
  refine quiet_bind (quiet_underlying t) fun d => ?_
  have hf : ∀ (st dy : Option TypeId) (m : String), Quiet (do
      if c then pure (.tuple #[← zeroValue t, .bool false])
      else runtimePanic (.typeAssertion st dy t m) : Sem Value) := fun st dy m => by
    split
    · exact quiet_bind (quiet_zeroValue _) fun _ => quiet_pure _
    · exact (noOk_runtimePanic _).quiet
  dsimp only
  split
  · exact hf _ _ _
  · refine quiet_bind (quiet_typeInfo _) fun i => ?_
    split
    · exact quiet_pure _
    · exact hf _ _ _
  · exact hf _ _ _
  · split
    · exact quiet_pure _
    · exact hf _ _ _
  · exact (noOk_stuck _).quiet

theorem quiet_intArith (op : BinOp) (k : IntKind) (x y : Int) : Quiet (Op.intArith op k x y) := by
  unfold Op.intArith; split <;> first | exact quiet_pure _ | exact (noOk_stuck _).quiet
theorem quiet_intDiv (op : BinOp) (k : IntKind) (x y : Int) : Quiet (Op.intDiv op k x y) := by
  unfold Op.intDiv
  split
  · exact (noOk_runtimePanic _).quiet
  · split <;> first | exact quiet_pure _ | exact (noOk_stuck _).quiet
theorem quiet_intBits (op : BinOp) (k : IntKind) (x y : Int) : Quiet (Op.intBits op k x y) := by
  unfold Op.intBits; dsimp only; split <;> first | exact quiet_pure _ | exact (noOk_stuck _).quiet
theorem quiet_intCmp (op : BinOp) (x y : Int) : Quiet (Op.intCmp op x y) := by
  unfold Op.intCmp; split <;> first | exact quiet_pure _ | exact (noOk_stuck _).quiet
theorem quiet_shift (op : BinOp) (k : IntKind) (x : Int) (yk : IntKind) (y : Int) : Quiet (Op.shift op k x yk y) := by
  unfold Op.shift
  split
  · exact (noOk_runtimePanic _).quiet
  · dsimp only; split <;> first | exact quiet_pure _ | exact (noOk_stuck _).quiet
theorem quiet_stringOp (op : BinOp) (x y : ByteArray) : Quiet (Op.stringOp op x y) := by
  unfold Op.stringOp
  dsimp only
  split
  · split
    · exact (noOk_unsupported _).quiet
    · exact quiet_pure _
  all_goals first | exact quiet_pure _ | exact (noOk_stuck _).quiet
theorem quiet_unary (op : UnOp) (x : Value) : Quiet (Op.unary op x) := by
  unfold Op.unary
  split <;> first | exact quiet_pure _ | exact quiet_intArith _ _ _ _ | exact quiet_intBits _ _ _ _ | exact (noOk_stuck _).quiet | exact (noOk_unsupported _).quiet

theorem quiet_eqGuard (op : BinOp) (t : TypeId) (x y : Operand) (a b : Value) (h : plainTwo a b = true) : Quiet (eqGuard op t x y a b) := by
  unfold eqGuard
  cases a <;> cases b <;> simp only [plainTwo, Bool.false_eq_true] at h
  all_goals exact quiet_ite (quiet_pure _) (quiet_pure _)

theorem quiet_equal_bool (t : TypeId) (a b : Bool) : Quiet (Op.equal t (.bool a) (.bool b)) := by
  unfold Op.equal Op.maxDepth Op.equalIn
  refine quiet_bind (quiet_underlying t) fun d => ?_
  split <;> first | exact quiet_pure _ | exact (noOk_stuck _).quiet | exact (noOk_unsupported _).quiet | (exfalso; simp_all; done)

theorem quiet_binOp (op : BinOp) (t : TypeId) (a b : Value) (h : plainTwo a b = true) : Quiet (binOp op t a b) := by
  cases a <;> cases b <;> simp only [plainTwo, Bool.false_eq_true] at h
  · cases op <;> simp only [binOp] <;> first
      | exact (noOk_stuck _).quiet
      | exact quiet_bind (quiet_equal_bool _ _ _) fun _ => quiet_pure _
  · cases op <;> simp only [binOp] <;> first
      | exact quiet_shift _ _ _ _ _
      | (split
         · exact (noOk_stuck _).quiet
         · first | exact quiet_intArith _ _ _ _ | exact quiet_intDiv _ _ _ _ | exact quiet_intBits _ _ _ _ | exact quiet_intCmp _ _ _)
  · cases op <;> simp only [binOp] <;> exact quiet_stringOp _ _ _

theorem quiet_unsafe (s t : TypeId) (k : IntKind) (n : Int) : Quiet (Conv.unsafePointer s t (.int k n)) := by
  unfold Conv.unsafePointer
  refine quiet_bind (quiet_underlying s) fun d => quiet_bind (quiet_underlying t) fun e => ?_
  cases d <;> cases e <;> first
    | exact (noOk_unsupported _).quiet
    | exact (noOk_stuck _).quiet
    | exact quiet_pure _
    | (by_cases h : n = 0
       · subst h; exact (noOk_unsupported _).quiet
       · split <;> first | exact quiet_pure _ | exact (noOk_unsupported _).quiet | exact (noOk_stuck _).quiet | (exfalso; simp_all; done))

theorem quiet_convert (s t : TypeId) (k : IntKind) (n : Int) : Quiet (convert s t (.int k n)) := by
  unfold convert
  refine quiet_bind (quiet_underlying s) fun d => quiet_bind (quiet_underlying t) fun e => ?_
  cases d <;> cases e <;> first
    | exact quiet_pure _
    | exact (noOk_unsupported _).quiet
    | exact quiet_unsafe _ _ _ _


theorem quiet_len (ts : Array TypeId) (t : TypeId) (args : Array Value) (h : flat args.toList = true) : Quiet (Builtin.len_ ts t args) := by
  obtain ⟨l⟩ := args
  unfold flat at h
  split at h
  case h_3 => cases h
  all_goals
    rename_i e
    have e' : l = _ := e
    subst e'
    unfold Builtin.len_
    split
    · rename_i x y hx
      simp at hx
      obtain ⟨_, rfl⟩ := hx
      refine quiet_bind (quiet_underlying _) fun d => ?_
      cases d <;> first
        | exact quiet_pure _
        | exact (noOk_stuck _).quiet
        | (refine quiet_bind (quiet_underlying _) fun e => ?_
           split <;> first | exact quiet_pure _ | exact (noOk_stuck _).quiet)
    · exact (noOk_stuck _).quiet
theorem quiet_cap (ts : Array TypeId) (t : TypeId) (args : Array Value) (h : flat args.toList = true) : Quiet (Builtin.cap_ ts t args) := by
  obtain ⟨l⟩ := args
  unfold flat at h
  split at h
  case h_3 => cases h
  all_goals
    rename_i e
    have e' : l = _ := e
    subst e'
    unfold Builtin.cap_
    split
    · rename_i x y hx
      simp at hx
      obtain ⟨_, rfl⟩ := hx
      refine quiet_bind (quiet_underlying _) fun d => ?_
      cases d <;> first
        | exact quiet_pure _
        | exact (noOk_stuck _).quiet
        | (refine quiet_bind (quiet_underlying _) fun e => ?_
           split <;> first | exact quiet_pure _ | exact (noOk_stuck _).quiet)
    · exact (noOk_stuck _).quiet

theorem quiet_foldMax (l : List Value) (h : allInt l = true) : ∀ k n, Quiet (l.foldlM Builtin.max2 (.int k n)) := by
  induction l with
  | nil => intro k n; exact quiet_pure _
  | cons v l ih =>
    intro k n
    cases v <;> simp [allInt, isInt] at h
    rw [List.foldlM_cons]
    simp only [Builtin.max2, pure_bind]
    exact ih h _ _
theorem quiet_foldMin (l : List Value) (h : allInt l = true) : ∀ k n, Quiet (l.foldlM Builtin.min2 (.int k n)) := by
  induction l with
  | nil => intro k n; exact quiet_pure _
  | cons v l ih =>
    intro k n
    cases v <;> simp [allInt, isInt] at h
    rw [List.foldlM_cons]
    simp only [Builtin.min2, pure_bind]
    exact ih h _ _
theorem quiet_max (ts : Array TypeId) (t : TypeId) (args : Array Value) (h : allInt args.toList = true) : Quiet (Builtin.max_ ts t args) := by
  unfold Builtin.max_
  split
  · exact (noOk_stuck _).quiet
  · rename_i x r e
    rw [e] at h
    cases x <;> simp [allInt, isInt] at h
    exact quiet_foldMax _ h _ _
theorem quiet_min (ts : Array TypeId) (t : TypeId) (args : Array Value) (h : allInt args.toList = true) : Quiet (Builtin.min_ ts t args) := by
  unfold Builtin.min_
  split
  · exact (noOk_stuck _).quiet
  · rename_i x r e
    rw [e] at h
    cases x <;> simp [allInt, isInt] at h
    exact quiet_foldMin _ h _ _

theorem reckoned_quiet {st : St} {o : Oper} (h : reckoned st o.op = true) : Quiet (execOp (ev st) o) := by
  obtain ⟨dst, op, ty, pos, aft, gd⟩ := o
  cases op <;> simp only [reckoned, Bool.false_eq_true] at h <;> simp only [execOp]
  case move x => exact quiet_pure _
  case assign x => exact quiet_pure _
  case pick c a b =>
    refine quiet_bind (quiet_asBool _) fun t => ?_
    split <;> exact quiet_pure _
  case build t ps => exact quiet_bind (quiet_build _ _) fun _ => quiet_pure _
  case binOp op t x y yt =>
    exact quiet_bind (quiet_bind (quiet_eqGuard _ _ _ _ _ _ h) fun _ => quiet_binOp _ _ _ _ h) fun _ => quiet_pure _
  case unOp op t x => exact quiet_bind (quiet_unary _ _) fun _ => quiet_pure _
  case convert s t x =>
    generalize ev st x = v at h
    cases v <;> simp only [isInt, Bool.false_eq_true] at h
    exact quiet_bind (quiet_convert _ _ _ _) fun _ => quiet_pure _
  case makeInterface t x => exact quiet_bind (quiet_makeInterface _ _) fun _ => quiet_pure _
  case makeFunc f a b => exact quiet_pure _
  case field t x i => exact quiet_bind (quiet_field _ _ _) fun _ => quiet_pure _
  case index t x i => exact quiet_bind (quiet_index _ _ _) fun _ => quiet_pure _
  case typeAssert x s t c => exact quiet_bind (quiet_typeAssert _ _ _ _) fun _ => quiet_pure _
  case extract t i => exact quiet_bind (quiet_extract _ _) fun _ => quiet_pure _
  case call c =>
    obtain ⟨callee, args, ats⟩ := c
    cases callee with
    | value f => exact absurd h Bool.false_ne_true
    | invoke r m => exact absurd h Bool.false_ne_true
    | builtin b =>
      cases b
      case cap =>
        simp only [resolve, pure_bind, invoke, builtin]
        exact quiet_bind (quiet_cap _ _ _ (by rw [Array.toList_map]; exact h)) fun _ => quiet_pure _
      case len =>
        simp only [resolve, pure_bind, invoke, builtin]
        exact quiet_bind (quiet_len _ _ _ (by rw [Array.toList_map]; exact h)) fun _ => quiet_pure _
      case max =>
        simp only [resolve, pure_bind, invoke, builtin]
        exact quiet_bind (quiet_max _ _ _ (by rw [Array.toList_map]; exact h)) fun _ => quiet_pure _
      case min =>
        simp only [resolve, pure_bind, invoke, builtin]
        exact quiet_bind (quiet_min _ _ _ (by rw [Array.toList_map]; exact h)) fun _ => quiet_pure _
      all_goals exact absurd h Bool.false_ne_true

structure Sat (n : Nat) (a : Act) (st : St) (w : World) : Prop where
  size : a.tmps.size = n
  defers : a.defers = []
  slot : ∀ i v, lookV st i = some v → a.tmps[i]? = some v
  heap : ∀ id b cs, hlook st.hp id = some (b, cs) → ∃ T, w.heap[b]? = some (.cells cs.toArray T (0, 0))
  dist : ∀ id id' b cs cs', hlook st.hp id = some (b, cs) → hlook st.hp id' = some (b, cs') → id = id'

theorem look_cons (sl : Sls) (d : Nat) (v : SV) (i : Nat) : look ((d, v) :: sl) i = if d = i then some v else look sl i := by
  by_cases h : d = i
  · subst h; simp [look]
  · simp [look, beq_no h, h]
theorem hlook_cons (hp : Hps) (d : Nat) (v : Nat × List Value) (i : Nat) : hlook ((d, v) :: hp) i = if d = i then some v else hlook hp i := by
  by_cases h : d = i
  · subst h; simp [hlook]
  · simp [hlook, beq_no h, h]

/-- What is written into a slot. -/
theorem Sat.put {n : Nat} {a : Act} {st : St} {w : World} (h : Sat n a st w) {d : Option Tmp} (hd : within n d = true) {sv : SV} {v : Value} (hv : ∀ u, svVal st.hp sv = some u → v = u) :
    Sat n (a.put d v) (Vc.put st d sv) w := by
  cases d with
  | none => exact h
  | some d =>
    have hd' : d < n := Nat.le_of_ble_eq_true hd
    refine ⟨by simp [Act.put, h.size], h.defers, fun i u hu => ?_, h.heap, h.dist⟩
    simp only [Vc.put, lookV, look_cons] at hu
    simp only [Act.put]
    by_cases hi : d = i
    · subst hi
      rw [if_pos rfl] at hu
      have := hv u hu
      subst this
      simp [h.size, hd']
    · rw [if_neg hi] at hu
      rw [Array.getElem?_setIfInBounds_ne hi]
      exact h.slot i u hu

theorem Sat.ev {n : Nat} {a : Act} {st : St} {w : World} (h : Sat n a st w) {x : Operand} (hx : Vc.has st x = true) : Vc.ev st x = a.eval x := by
  cases x with
  | tmp t =>
    simp only [Vc.has] at hx
    cases hv : lookV st t with
    | none => simp [hv] at hx
    | some v =>
      have := h.slot t v hv
      simp [Vc.ev, hv, Act.eval, Array.getD_eq_getD_getElem?, this]
  | const v => rfl
  | global g => rfl
  | func f => rfl

theorem allHas_spec {st : St} : ∀ {l : List Operand}, allHas st l = true → ∀ x ∈ l, Vc.has st x = true
  | [], _, _, hx => by cases hx
  | y :: l, h, x, hx => by
    simp only [allHas] at h
    cases hy : Vc.has st y <;> rw [hy] at h
    · cases h
    · rcases List.mem_cons.1 hx with rfl | hx
      · exact hy
      · exact allHas_spec (l := l) h x hx

theorem Sat.exec {n : Nat} {a : Act} {st : St} {w : World} (h : Sat n a st w) {o : Oper} (hk : known o.op = true) (ho : allHas st (opsOf o.op) = true) : execOp (Vc.ev st) o = execOp a.eval o :=
  execOp_congr o hk fun x hx => h.ev (allHas_spec ho x hx)

/-- The program has no function that the model answers by itself. -/
def Plain (P : Program) : Prop := ∀ (g : Nat) (fn : Func), P.funcs[g]? = some fn → fn.body.isSome = true → (fn.name == "runtime.NumGoroutine") = false

theorem run_call {P : Program} (hP : Plain P) {ρ : Operand → Value} {o : Oper} {c : Call} {f : Operand} {g : FuncId} {first caps : Array Value} {fn : Func} {w : World}
    (ho : o.op = .call c) (hc : c.callee = .value f) (hf : ρ f = .func (.func g) first caps) (hg : P.funcs[g]? = some fn) (hb : fn.body.isSome = true) :
    (execOp ρ o).run P w = .ok (.enter g (first ++ (c.args.toList.map ρ).toArray ++ caps)) w := by
  have hn : fn.name ≠ "runtime.NumGoroutine" := by simpa using hP g fn hg hb
  have hb' : fn.body ≠ none := by intro e; simp [e] at hb
  simp only [execOp, ho, resolve, hc, hf, Deferred.ofValue, toArr]
  simp [invoke, callFunc, program, Sem.run, hg, hn, hb']

theorem run_ext {P : Program} {ρ : Operand → Value} {o : Oper} {c : Call} {f : Operand} {g : FuncId} {first caps : Array Value} {w : World}
    (ho : o.op = .call c) (hc : c.callee = .value f) (hf : ρ f = .func (.func g) first caps) :
    (execOp ρ o).run P w = (callFunc g (first ++ (c.args.toList.map ρ).toArray ++ caps)).run P w := by
  simp only [execOp, ho, resolve, hc, hf, Deferred.ofValue, toArr]
  simp [invoke]

theorem run_yieldCall {P : Program} {ρ : Operand → Value} {o : Oper} {c : Call} {f : Operand} {l fn : Nat} {tmps : Array Value} {as bd : Code} {w w' : World}
    (ho : o.op = .call c) (hc : c.callee = .value f) (hf : ρ f = .func (.yield l) #[] #[]) (hy : (Instr.yield l (c.args.toList.map ρ).toArray).run P w = .ok (.round l fn tmps as bd) w') : (execOp ρ o).run P w = .ok (.round l fn tmps as bd) w' := by
  have h : (c.args.toList.map ρ).toArray = c.args.map ρ := by apply Array.ext'; simp
  rw [h] at hy
  unfold execOp
  simp only [ho, Sem.run_bind]
  simp [resolve, hc, hf, Deferred.ofValue, Result.andThen, invoke, hy]

theorem hlook_mem {hp : Hps} {id b : Nat} {cs : List Value} (h : hlook hp id = some (b, cs)) : (id, b, cs) ∈ hp := by
  induction hp with
  | nil => cases h
  | cons e r ih =>
    obtain ⟨i, v⟩ := e
    rw [hlook_cons] at h
    split at h
    · rename_i e; subst e; cases h; simp
    · exact List.mem_cons_of_mem _ (ih h)

theorem keep_spec {hp : Hps} {w w' : World} {X : Prop} (h : keep hp w w' X) : X ∧ ∀ e ∈ hp, e.2.1 < w.heap.size → w'.heap[e.2.1]? = w.heap[e.2.1]? := by
  induction hp with
  | nil => exact ⟨h, by simp⟩
  | cons e r ih =>
    obtain ⟨i, b, cs⟩ := e
    obtain ⟨h1, h2⟩ := h
    obtain ⟨hx, hr⟩ := ih h2
    refine ⟨hx, fun e he => ?_⟩
    rcases List.mem_cons.1 he with rfl | he
    · exact h1
    · exact hr e he

theorem Sat.world {n : Nat} {a : Act} {st : St} {w w' : World} (h : Sat n a st w) (hk : ∀ e ∈ st.hp, e.2.1 < w.heap.size → w'.heap[e.2.1]? = w.heap[e.2.1]?) : Sat n a st w' :=
  ⟨h.size, h.defers, h.slot, fun id b cs hl => by
    obtain ⟨T, hT⟩ := h.heap id b cs hl
    refine ⟨T, ?_⟩
    rw [hk _ (hlook_mem hl) (Array.getElem?_eq_some_iff.1 hT).1]
    exact hT, h.dist⟩

/-- How a frame has come out of another one. -/
structure Agr (ws ns ss : List Nat) (st st' : St) : Prop where
  sl : ∀ i, memN i ws = false → look st'.sl i = look st.sl i ∨ ∃ id off, look st.sl i = some (.p id off) ∧ memN id ns = true
  blk : ∀ id, memN id ns = false → ∀ b c, hlook st'.hp id = some (b, c) → ∃ c0, hlook st.hp id = some (b, c0)
  hp : ∀ id, memN id ns = false → memN id ss = false → hlook st'.hp id = hlook st.hp id

theorem Agr.refl (ws ns ss : List Nat) (st : St) : Agr ws ns ss st st := ⟨fun _ _ => .inl rfl, fun _ _ _ c h => ⟨c, h⟩, fun _ _ _ => rfl⟩

theorem memN_append (i : Nat) : ∀ (a b : List Nat), memN i (a ++ b) = (memN i a || memN i b)
  | [], b => by simp [memN]
  | x :: a, b => by
    simp only [List.cons_append, memN, memN_append i a b]
    cases Nat.beq i x <;> simp

theorem Agr.mono {ws ns ss ws' ns' ss' : List Nat} {st st' : St} (h : Agr ws ns ss st st') (hw : ∀ i, memN i ws' = false → memN i ws = false)
    (hn : ∀ i, memN i ns' = false → memN i ns = false) (hs : ∀ i, memN i ss' = false → memN i ss = false) : Agr ws' ns' ss' st st' :=
  ⟨fun i hi => (h.sl i (hw i hi)).imp id fun ⟨x, off, h1, h2⟩ => ⟨x, off, h1, by
      cases hx : memN x ns'
      · rw [hn x hx] at h2; cases h2
      · rfl⟩, fun x hx => h.blk x (hn x hx), fun x hx hy => h.hp x (hn x hx) (hs x hy)⟩

theorem Agr.trans {ws ns ss : List Nat} {a b c : St} (h : Agr ws ns ss a b) (k : Agr ws ns ss b c) : Agr ws ns ss a c :=
  ⟨fun i hi => by
    rcases h.sl i hi with h1 | h1
    · rcases k.sl i hi with k1 | ⟨id, off, k1, k2⟩
      · exact .inl (k1.trans h1)
      · exact .inr ⟨id, off, by rw [← h1]; exact k1, k2⟩
    · exact .inr h1, fun x hx b e he => by
    obtain ⟨c1, h1⟩ := k.blk x hx b e he
    exact h.blk x hx b c1 h1, fun x hx hy => (k.hp x hx hy).trans (h.hp x hx hy)⟩

def oneD : Option Tmp → List Nat
  | some d => [d]
  | none => []

theorem put_agr (st : St) (d : Option Tmp) (sv : SV) : Agr (oneD d) [] [] st (put st d sv) := by
  cases d with
  | none => exact Agr.refl _ _ _ _
  | some d =>
    refine ⟨fun i hi => .inl ?_, fun _ _ _ c h => ⟨c, h⟩, fun _ _ _ => rfl⟩
    simp only [put, look_cons]
    rw [if_neg]
    intro e
    subst e
    simp [oneD, memN] at hi

def mNews : Mode → List Nat
  | .nl id => [id]
  | _ => []
def mStores : Mode → List Nat
  | .ls id => [id]
  | _ => []

theorem look_purge (id : Nat) : ∀ (sl : Sls) (i : Nat), look (purge id sl) i = (look sl i).map (purge1 id)
  | [], _ => rfl
  | (j, x) :: r, i => by
    simp only [purge, look_cons]
    split
    · rfl
    · exact look_purge id r i

theorem purge1_cases (id : Nat) (x : SV) : purge1 id x = x ∨ ∃ off, x = .p id off := by
  cases x with
  | v x => exact .inl rfl
  | u => exact .inl rfl
  | p id' off =>
    by_cases h : id' = id
    · subst h; exact .inr ⟨off, rfl⟩
    · exact .inl (by simp [purge1, beq_no h])

/-- A new own variable. -/
theorem Sat.fresh {n : Nat} {a : Act} {st : St} {w : World} (h : Sat n a st w) (id : Nat) (cs : Array Value) (T : TypeId) :
    Sat n a ⟨purge id st.sl, (id, w.heap.size, cs.toList) :: st.hp⟩ (w.alloc (.cells cs T)) := by
  have hlt : ∀ id' b cs', hlook st.hp id' = some (b, cs') → b < w.heap.size := fun id' b cs' hl => by
    obtain ⟨T', hT⟩ := h.heap _ _ _ hl
    exact (Array.getElem?_eq_some_iff.1 hT).1
  refine ⟨h.size, h.defers, fun i v hv => ?_, fun id' b cs' hl => ?_, fun id1 id2 b cs1 cs2 h1 h2 => ?_⟩
  · simp only [lookV, look_purge] at hv
    refine h.slot i v ?_
    simp only [lookV]
    cases hl : look st.sl i with
    | none => simp [hl] at hv
    | some sv =>
      simp only [hl, Option.map_some] at hv ⊢
      cases sv with
      | v x => exact hv
      | u => simp [purge1, svVal] at hv
      | p id' off =>
        by_cases e : id' = id
        · subst e
          simp [purge1, svVal] at hv
        · simp only [purge1, beq_no e, cond_false, svVal, hlook_cons, if_neg (Ne.symm e)] at hv ⊢
          exact hv
  · rw [hlook_cons] at hl
    split at hl
    · cases hl
      exact ⟨T, by rw [heap_alloc_new]⟩
    · obtain ⟨T', hT⟩ := h.heap _ _ _ hl
      refine ⟨T', ?_⟩
      rw [Go.RowKit.Below.heap_alloc _ _ _ (hlt _ _ _ hl)]
      exact hT
  · rw [hlook_cons] at h1 h2
    split at h1 <;> split at h2
    · rename_i e1 e2; rw [← e1, ← e2]
    · cases h1; exact absurd (hlt _ _ _ h2) (Nat.lt_irrefl _)
    · cases h2; exact absurd (hlt _ _ _ h1) (Nat.lt_irrefl _)
    · exact h.dist _ _ _ _ _ h1 h2

theorem fresh_agr (id : Nat) (st : St) (b : Nat) (cs : List Value) : Agr [] [id] [] st ⟨purge id st.sl, (id, b, cs) :: st.hp⟩ := by
  refine ⟨fun i _ => ?_, fun j hj b' c' h' => ⟨c', ?_⟩, fun j hj _ => ?_⟩
  · rw [look_purge]
    cases hl : look st.sl i with
    | none => exact .inl rfl
    | some x =>
      rcases purge1_cases id x with e | ⟨off, e⟩
      · exact .inl (by simp [e])
      · exact .inr ⟨id, off, by rw [e], by simp [memN]⟩
  all_goals
    have : id ≠ j := by
      intro e
      subst e
      simp [memN] at hj
    first
      | (rw [hlook_cons, if_neg this] at h'; exact h')
      | rw [hlook_cons, if_neg this]

theorem hlook_setH (hp : Hps) (id : Nat) (cs : List Value) (j : Nat) : hlook (setH hp id cs) j = if id = j then (hlook hp id).map (fun x => (x.1, cs)) else hlook hp j := by
  induction hp with
  | nil => simp [setH, hlook]
  | cons e r ih =>
    obtain ⟨i, b, c⟩ := e
    simp only [setH]
    by_cases h : i = id
    · subst h
      simp only [beq_yes, cond_true, hlook_cons, if_true, Option.map_some]
      split <;> rfl
    · simp only [beq_no h, cond_false, hlook_cons, ih, if_neg h]
      by_cases hj : i = j
      · subst hj
        rw [if_pos rfl, if_neg (Ne.symm h), if_pos rfl]
      · simp only [if_neg hj]

/-- An own variable written anew. -/
theorem Sat.stored {n : Nat} {a : Act} {st : St} {w w' : World} (h : Sat n a st w) {id b : Nat} {cs cs' : List Value} (hl : hlook st.hp id = some (b, cs)) {T : TypeId}
    (hb : w'.heap[b]? = some (.cells cs'.toArray T (0, 0))) (ho : ∀ k, k ≠ b → w'.heap[k]? = w.heap[k]?) : Sat n a ⟨st.sl, setH st.hp id cs'⟩ w' := by
  refine ⟨h.size, h.defers, fun i v hv => h.slot i v ?_, fun id' b' c hl' => ?_, fun id1 id2 b' c1 c2 h1 h2 => ?_⟩
  · simp only [lookV] at hv ⊢
    cases hk : look st.sl i with
    | none => simp [hk] at hv
    | some sv =>
      simp only [hk] at hv ⊢
      cases sv with
      | v x => exact hv
      | u => exact hv
      | p id' off =>
        simp only [svVal, hlook_setH] at hv ⊢
        split at hv
        · rename_i hh
          split at hh
          · rename_i e; subst e
            rw [hl] at hh ⊢
            cases hh
            exact hv
          · rw [hh]; exact hv
        · exact absurd hv (by simp)
  · rw [hlook_setH] at hl'
    split at hl'
    · rename_i e; subst e
      rw [hl] at hl'
      cases hl'
      exact ⟨T, hb⟩
    · rename_i e
      obtain ⟨T', hT⟩ := h.heap _ _ _ hl'
      refine ⟨T', ?_⟩
      rw [ho b' (fun e' => e (by subst e'; exact h.dist _ _ _ _ _ hl hl'))]
      exact hT
  · rw [hlook_setH] at h1 h2
    split at h1 <;> split at h2
    · rename_i e1 e2; rw [← e1, ← e2]
    · rename_i e1 _; subst e1; rw [hl] at h1; cases h1; exact h.dist _ _ _ _ _ hl h2
    · rename_i _ e2; subst e2; rw [hl] at h2; cases h2; exact h.dist _ _ _ _ _ h1 hl
    · exact h.dist _ _ _ _ _ h1 h2

theorem stored_agr (id : Nat) (st : St) (cs : List Value) : Agr [] [] [id] st ⟨st.sl, setH st.hp id cs⟩ := by
  refine ⟨fun i _ => .inl rfl, fun j _ b c h => ?_, fun j _ hj => ?_⟩
  · simp only [hlook_setH] at h
    split at h
    · rename_i e
      subst e
      cases hl : hlook st.hp id with
      | none => simp [hl] at h
      | some x =>
        simp only [hl, Option.map_some, Option.some.injEq, Prod.mk.injEq] at h
        exact ⟨x.2, by rw [← h.1]⟩
    · exact ⟨c, h⟩
  · simp only [hlook_setH]
    rw [if_neg]
    intro e
    subst e
    simp [memN] at hj

theorem nthV_eq : ∀ (l : List Value) (i : Nat), nthV l i = l[i]?
  | [], i => by simp [nthV]
  | v :: l, 0 => rfl
  | v :: l, i + 1 => by simp [nthV, nthV_eq l i]
theorem dropV_eq : ∀ (n : Nat) (l : List Value), dropV n l = l.drop n
  | 0, l => rfl
  | n + 1, [] => rfl
  | n + 1, v :: l => by simp [dropV, dropV_eq n l]
theorem takeV_some : ∀ {n : Nat} {l r : List Value}, takeV n l = some r → r = l.take n ∧ n ≤ l.length
  | 0, l, r, h => by cases h; simp
  | n + 1, [], r, h => by cases h
  | n + 1, v :: l, r, h => by
    simp only [takeV] at h
    cases ht : takeV n l with
    | none => simp [ht] at h
    | some q =>
      simp only [ht, Option.some.injEq] at h
      subst h
      obtain ⟨h1, h2⟩ := takeV_some ht
      exact ⟨by simp [h1], by simp; omega⟩

theorem addr_add (b off i : Nat) : (⟨b, off, none⟩ : Addr).add i = ⟨b, off + i, none⟩ := by
  unfold Addr.add
  split
  · rename_i h; subst h; rfl
  · rfl

theorem cell_own {w : World} {b : Nat} {cs : List Value} {T : TypeId} (hb : w.heap[b]? = some (.cells cs.toArray T (0, 0))) (i : Nat) : w.cell? ⟨b, i, none⟩ = cs[i]? := by
  simp [World.cell?, hb]
theorem frozen_own {w : World} {b : Nat} {cs : List Value} {T : TypeId} (hb : w.heap[b]? = some (.cells cs.toArray T (0, 0))) (i : Nat) : w.frozen? ⟨b, i, none⟩ = false := by
  simp [World.frozen?, hb]

theorem run_load {P : Program} {w : World} {a : Addr} {v : Value} (h : w.cell? a = some v) : (load a).run P w = .ok v w := by
  simp [load, Sem.run, h]

theorem run_loadCellsFrom {P : Program} {w : World} {b off : Nat} {cs : List Value} {T : TypeId} (hb : w.heap[b]? = some (.cells cs.toArray T (0, 0))) :
    ∀ (n i : Nat) (acc : Array Value), n ≤ cs.length - (off + i) → (loadCellsFrom ⟨b, off, none⟩ i n acc).run P w = .ok (acc ++ ((cs.drop (off + i)).take n).toArray) w
  | 0, i, acc, _ => by simp [loadCellsFrom]
  | n + 1, i, acc, h => by
    have hc : w.cell? ((⟨b, off, none⟩ : Addr).add i) = some (cs[off + i]'(by omega)) := by
      rw [addr_add, cell_own hb, List.getElem?_eq_getElem]
    simp only [loadCellsFrom, Sem.run_bind, run_load hc, Result.andThen_ok]
    rw [run_loadCellsFrom hb n (i + 1) _ (by omega)]
    congr 1
    rw [show cs.drop (off + i) = cs[off + i]'(by omega) :: cs.drop (off + (i + 1)) from by rw [List.drop_eq_getElem_cons (by omega)]; rfl]
    simp

theorem run_und {P : Program} {t : TypeId} {d : TypeDesc} {w : World} (h : P.underlying t = some d) : (underlying t).run P w = .ok d w := by
  simp [underlying, program, Sem.run, h]

theorem run_isAgg {P : Program} {t : TypeId} {w : World} {d : TypeDesc} (h : P.underlying t = some d) : (isAgg t).run P w = .ok (aggT P t) w := by
  unfold isAgg aggT
  rw [Sem.run_bind, run_und h, Result.andThen_ok, h]
  cases d <;> rfl
theorem run_size {P : Program} {t n : Nat} {w : World} (h : sizeT P t = some n) : (sizeOf t).run P w = .ok n w := by
  unfold sizeT at h
  split at h
  · rename_i i hi
    cases h
    simp [sizeOf, typeInfo, program, Sem.run, hi]
  · cases h

theorem run_load_own {P : Program} {w : World} {t : TypeId} {b off : Nat} {cs : List Value} {T : TypeId} {v : Value}
    (hb : w.heap[b]? = some (.cells cs.toArray T (0, 0))) (h : rdT P t cs off = some v) : (Instr.loadAt t (.pointer (some ⟨b, off, none⟩))).run P w = .ok v w := by
  unfold rdT at h
  split at h
  case h_2 => cases h
  case h_1 d hd =>
    simp only [Instr.loadAt, Instr.sureAddr, pure_bind, loadVar, Sem.run_bind, run_isAgg hd, Result.andThen_ok]
    split at h
    · rename_i ha
      split at h
      case h_2 => cases h
      case h_1 n hn =>
        split at h
        case h_2 => cases h
        case h_1 l hl =>
          cases h
          obtain ⟨h1, h2⟩ := takeV_some hl
          rw [dropV_eq] at h1 h2
          simp only [ha, if_true, Sem.run_bind, run_size hn, Result.andThen_ok, loadCells]
          rw [run_loadCellsFrom hb n 0 _ (by simpa using h2)]
          simp [h1]
    · rename_i ha
      rw [nthV_eq] at h
      simp only [ha, Bool.false_eq_true, if_false]
      exact run_load (by rw [cell_own hb]; exact h)

theorem wrV_nil : ∀ (cs : List Value) (n : Nat) (r : List Value), wrV cs n [] = some r → r = cs
  | [], 0, r, h => by cases h; rfl
  | c :: cs, 0, r, h => by cases h; rfl
  | [], n + 1, r, h => by cases h
  | c :: cs, n + 1, r, h => by
    simp only [wrV] at h
    cases hw : wrV cs n [] with
    | none => simp [hw] at h
    | some q =>
      simp only [hw, Option.some.injEq] at h
      rw [← h, wrV_nil cs n q hw]
theorem wrV_cons : ∀ (cs : List Value) (n : Nat) (v : Value) (vs r : List Value), wrV cs n (v :: vs) = some r → n < cs.length ∧ wrV (cs.set n v) (n + 1) vs = some r
  | [], 0, v, vs, r, h => by cases h
  | c :: cs, 0, v, vs, r, h => by
    simp only [wrV] at h
    exact ⟨by simp, by simpa [wrV] using h⟩
  | [], n + 1, v, vs, r, h => by cases h
  | c :: cs, n + 1, v, vs, r, h => by
    simp only [wrV] at h
    cases hw : wrV cs n (v :: vs) with
    | none => simp [hw] at h
    | some q =>
      simp only [hw, Option.some.injEq] at h
      obtain ⟨h1, h2⟩ := wrV_cons cs n v vs q hw
      exact ⟨by simpa using h1, by simp [wrV, h2, h]⟩

theorem Wr.refl (b : Nat) (w : World) : Wr b w w := ⟨rfl, rfl, rfl, rfl, fun _ _ => rfl⟩
theorem Wr.trans {b : Nat} {u v w : World} (h : Wr b u v) (k : Wr b v w) : Wr b u w :=
  ⟨k.os.trans h.os, k.tape.trans h.tape, k.output.trans h.output, k.size.trans h.size, fun i hi => (k.block i hi).trans (h.block i hi)⟩
theorem wr_setCell (w : World) (b i : Nat) (v : Value) : Wr b w (w.setCell ⟨b, i, none⟩ v) :=
  ⟨rfl, rfl, rfl, by simp [World.setCell], fun k hk => Go.RowKit.Below.heap_setCell _ _ _ _ hk⟩
theorem setCell_own {w : World} {b : Nat} {cs : List Value} {T : TypeId} (hb : w.heap[b]? = some (.cells cs.toArray T (0, 0))) (i : Nat) (v : Value) :
    (w.setCell ⟨b, i, none⟩ v).heap[b]? = some (.cells (cs.set i v).toArray T (0, 0)) := by
  simp only [World.setCell, Array.getElem?_modify]
  simp [hb]

theorem run_storeCells {P : Program} {b off : Nat} {T : TypeId} : ∀ (vs : List Value) (i : Nat) (w : World) (cs r : List Value), allOne vs = true →
    w.heap[b]? = some (.cells cs.toArray T (0, 0)) → wrV cs (off + i) vs = some r →
    ∃ w', (storeCells ⟨b, off, none⟩ vs i).run P w = .ok () w' ∧ Wr b w w' ∧ w'.heap[b]? = some (.cells r.toArray T (0, 0))
  | [], i, w, cs, r, _, hb, h => by
    refine ⟨w, by simp [storeCells], Wr.refl _ _, ?_⟩
    rw [wrV_nil _ _ _ h]; exact hb
  | v :: vs, i, w, cs, r, ho, hb, h => by
    obtain ⟨hlt, h2⟩ := wrV_cons _ _ _ _ _ h
    simp only [allOne] at ho
    have hv : oneV v = true := by cases hh : oneV v <;> simp_all
    have ho' : allOne vs = true := by simpa [hv] using ho
    have hst : (store ((⟨b, off, none⟩ : Addr).add i) v).run P w = .ok () (w.setCell ⟨b, off + i, none⟩ v) := by
      rw [addr_add]
      have hc : w.cell? ⟨b, off + i, none⟩ = some (cs[off + i]) := by rw [cell_own hb, List.getElem?_eq_getElem hlt]
      have hf := frozen_own hb (off + i)
      cases v <;> simp [oneV] at hv <;> simp [store, Sem.run, hc, hf]
    obtain ⟨w', h3, h4, h5⟩ := run_storeCells vs (i + 1) _ _ r ho' (setCell_own hb (off + i) v) h2
    refine ⟨w', ?_, (wr_setCell _ _ _ _).trans h4, h5⟩
    simp only [storeCells, Sem.run_bind, hst, Result.andThen_ok]
    exact h3

theorem run_store_own {P : Program} {w : World} {t : TypeId} {b off n : Nat} {cs r : List Value} {T : TypeId} {v : Value}
    (hb : w.heap[b]? = some (.cells cs.toArray T (0, 0))) (hn : sizeT P t = some n) (hl : v.cells.toList.length = n) (ho : allOne v.cells.toList = true) (h : wrV cs off v.cells.toList = some r) :
    ∃ w', (Instr.storeAt t (.pointer (some ⟨b, off, none⟩)) v).run P w = .ok () w' ∧ Wr b w w' ∧ w'.heap[b]? = some (.cells r.toArray T (0, 0)) := by
  obtain ⟨w', h1, h2, h3⟩ := run_storeCells (P := P) (off := off) _ 0 w cs r ho hb h
  refine ⟨w', ?_, h2, h3⟩
  have hl' : v.cells.size = n := by simpa using hl
  simp only [Instr.storeAt, Instr.sureAddr, pure_bind, storeVar, Sem.run_bind, run_size hn, Result.andThen_ok, hl', ne_eq, not_true_eq_false, if_false]
  exact h1

theorem run_fieldAt {P : Program} {w : World} {s : TypeId} {f k b off : Nat} (h : fieldOff P s f = some k) :
    (Instr.fieldAt s (.pointer (some ⟨b, off, none⟩)) f).run P w = .ok (.pointer (some ⟨b, off + k, none⟩)) w := by
  unfold fieldOff at h
  split at h
  case h_2 => cases h
  case h_1 fs hs =>
    split at h
    case h_2 => cases h
    case h_1 fd hf =>
      split at h
      case h_2 => cases h
      case h_1 m hm =>
        cases h
        simp only [Instr.fieldAt, Sem.run_bind, run_und hs, Result.andThen_ok, hf, Instr.sureAddr, fieldPlace, pure_bind, run_size hm]
        simp [addr_add]

theorem run_fieldAt' {P : Program} {w : World} {s : TypeId} {f k : Nat} {p : Addr} (h : fieldOff P s f = some k) :
    (Instr.fieldAt s (.pointer (some p)) f).run P w = .ok (.pointer (some (p.add k))) w := by
  unfold fieldOff at h
  split at h
  case h_2 => cases h
  case h_1 fs hs =>
    split at h
    case h_2 => cases h
    case h_1 fd hf =>
      split at h
      case h_2 => cases h
      case h_1 m hm =>
        cases h
        simp only [Instr.fieldAt, Sem.run_bind, run_und hs, Result.andThen_ok, hf, Instr.sureAddr, fieldPlace, pure_bind, run_size hm]
        simp

theorem run_alloc {P : Program} {w : World} {t : TypeId} {z : Value} (h : (P.info? t).bind (·.zero) = some z) :
    (Instr.alloc t true (.tuple #[])).run P w = .ok (.pointer (some ⟨w.heap.size, 0, none⟩)) (w.alloc (.cells z.cells t)) := by
  cases hi : P.info? t with
  | none => simp [hi] at h
  | some i =>
    simp only [hi, Option.bind_some] at h
    simp [Instr.alloc, zeroValue, typeInfo, program, Sem.run, hi, h, newVar, newRow, newObj]
theorem run_box {P : Program} {w : World} {t : TypeId} {z : Value} :
    (Instr.box t z).run P w = .ok (.pointer (some ⟨w.heap.size, 0, none⟩)) (w.alloc (.cells z.cells t)) := by
  simp [Instr.box, Sem.run, newVar, newRow, newObj]

theorem evL_spec {n : Nat} {a : Act} {st : St} {w : World} (hs : Sat n a st w) {x : Operand} {id off : Nat} (h : evL st x = some (id, off)) {b : Nat} {cs : List Value}
    (hl : hlook st.hp id = some (b, cs)) : a.eval x = .pointer (some ⟨b, off, none⟩) ∧ svVal st.hp (.p id off) = some (.pointer (some ⟨b, off, none⟩)) := by
  have h2 : svVal st.hp (.p id off) = some (.pointer (some ⟨b, off, none⟩)) := by simp [svVal, hl]
  cases x with
  | tmp t =>
    simp only [evL] at h
    split at h
    · rename_i id' off' hk
      cases h
      have := hs.slot t _ (by simp only [lookV, hk]; exact h2)
      exact ⟨by simp [Act.eval, Array.getD_eq_getD_getElem?, this], h2⟩
    · cases h
  | const v => cases h
  | global g => cases h
  | func f => cases h

theorem evL_has {st : St} {x : Operand} {id off : Nat} (h : evL st x = some (id, off)) (hx : has st x = true) : ∃ b cs, hlook st.hp id = some (b, cs) := by
  cases x with
  | tmp t =>
    simp only [evL] at h
    split at h
    · rename_i id' off' hk
      cases h
      simp only [has, lookV, hk, svVal] at hx
      cases hl : hlook st.hp id with
      | none => simp [hl] at hx
      | some x => exact ⟨x.1, x.2, rfl⟩
    · cases h
  | const v => cases h
  | global g => cases h
  | func f => cases h

/-- The own variable that an operation loads from. -/
def loadId (st : St) (op : Op) : Option Nat :=
  match op with
  | .load _ a => (evL st a).map (·.1)
  | _ => none

/-- One operation: it is carried out, and what follows is asked of frames that come of it. -/
theorem vcOp_run {P : Program} {n : Nat} {o : Oper} {st : St} {w : World} {K : St → World → Prop} {a : Act}
    (h : vcOp P .run o st w K) (hd : within n o.dst = true) (ha : allHas st (opsOf o.op) = true) (hs : Sat n a st w) :
    ∃ v sv, (∀ w', (∀ id b cs, loadId st o.op = some id → hlook st.hp id = some (b, cs) → ∃ T, w'.heap[b]? = some (.cells cs.toArray T (0, 0))) → (execOp (ev st) o).run P w' = .ok (.value v) w') ∧
      K (put st o.dst sv) w ∧ Sat n (a.put o.dst v) (put st o.dst sv) w := by
  have hmem := allHas_spec ha
  unfold vcOp at h
  simp only at h
  split at h
  case h_1 t x hop =>
    split at h
    case h_2 => exact h.elim
    case h_1 id off he =>
      split at h
      case h_2 => exact h.elim
      case h_1 b cs hl =>
        split at h
        case h_2 => exact h.elim
        case h_1 v hv =>
          have hx : ev st x = .pointer (some ⟨b, off, none⟩) := by
            rw [hs.ev (hmem x (by simp [hop, opsOf]))]; exact (evL_spec hs he hl).1
          refine ⟨v, _, fun w' hw' => exec_val ?_, h, hs.put hd (fun u hu => by cases hu; rfl)⟩
          obtain ⟨T, hb⟩ := hw' id b cs (by simp [loadId, hop, he]) hl
          simp only [valSem, hop, hx]
          exact run_load_own hb hv
  case h_2 s x f hop =>
    split at h
    case h_2 =>
      split at h
      case h_2 => exact h.elim
      case h_1 p hp =>
        split at h
        case h_2 => exact h.elim
        case h_1 k hk =>
          refine ⟨.pointer (some (p.add k)), _, fun w' _ => exec_val ?_, h, hs.put hd (fun u hu => by cases hu; rfl)⟩
          simp only [valSem, hop, hp]
          exact run_fieldAt' hk
    case h_1 id off he =>
      split at h
      case h_2 => exact h.elim
      case h_1 k hk =>
        obtain ⟨b, cs, hl⟩ := evL_has he (hmem x (by simp [hop, opsOf]))
        have hx : ev st x = .pointer (some ⟨b, off, none⟩) := by
          rw [hs.ev (hmem x (by simp [hop, opsOf]))]; exact (evL_spec hs he hl).1
        refine ⟨.pointer (some ⟨b, off + k, none⟩), _, fun w' _ => exec_val ?_, h, hs.put hd (fun u hu => by simp [svVal, hl] at hu; exact hu)⟩
        simp only [valSem, hop, hx]
        exact run_fieldAt hk
  case h_3 x hop =>
    split at h
    case h_1 id off he =>
      obtain ⟨b, cs, hl⟩ := evL_has he (hmem x (by simp [hop, opsOf]))
      have hx : ev st x = .pointer (some ⟨b, off, none⟩) := by
        rw [hs.ev (hmem x (by simp [hop, opsOf]))]; exact (evL_spec hs he hl).1
      refine ⟨.pointer (some ⟨b, off, none⟩), _, fun w' _ => ?_, h, hs.put hd (fun u hu => by simp [svVal, hl] at hu; exact hu)⟩
      simp [execOp, hop, hx]
    case h_2 =>
      split at h
      case h_2 => exact h.elim
      case h_1 p hp =>
        refine ⟨.pointer (some p), _, fun w' _ => ?_, h, hs.put hd (fun u hu => by cases hu; rfl)⟩
        simp [execOp, hop, hp]
  case h_4 x hop =>
    have hx0 := hmem x (by simp [hop, opsOf])
    split at h
    case h_1 id off he =>
      obtain ⟨b, cs, hl⟩ := evL_has he hx0
      have hx : ev st x = .pointer (some ⟨b, off, none⟩) := by
        rw [hs.ev hx0]; exact (evL_spec hs he hl).1
      refine ⟨.pointer (some ⟨b, off, none⟩), _, fun w' _ => ?_, h, hs.put hd (fun u hu => by simp [svVal, hl] at hu; exact hu)⟩
      simp [execOp, hop, hx]
    case h_2 =>
      refine ⟨ev st x, _, fun w' _ => ?_, h, hs.put hd (fun u hu => by cases hu; rfl)⟩
      simp [execOp, hop]
  case h_5 x hop =>
    have hx0 := hmem x (by simp [hop, opsOf])
    split at h
    case h_1 id off he =>
      obtain ⟨b, cs, hl⟩ := evL_has he hx0
      have hx : ev st x = .pointer (some ⟨b, off, none⟩) := by
        rw [hs.ev hx0]; exact (evL_spec hs he hl).1
      refine ⟨.pointer (some ⟨b, off, none⟩), _, fun w' _ => ?_, h, hs.put hd (fun u hu => by simp [svVal, hl] at hu; exact hu)⟩
      simp [execOp, hop, hx]
    case h_2 =>
      refine ⟨ev st x, _, fun w' _ => ?_, h, hs.put hd (fun u hu => by cases hu; rfl)⟩
      simp [execOp, hop]
  case h_6 =>
    split at h
    case h_2 => exact h.elim
    case h_1 hr =>
      split at h
      case h_2 => exact h.elim
      case h_1 v w' hrun =>
        have : w' = w := (reckoned_quiet hr).same hrun
        subst this
        exact ⟨v, _, fun u _ => reckoned_quiet hr _ _ _ _ hrun u, h, hs.put hd (fun u hu => by cases hu; rfl)⟩

theorem oper_agr {st st' : St} {o : Oper} {ns ss : List Nat} (h : Agr [] ns ss st st') (sv : SV) : Agr (oneD o.dst) ns ss st (put st' o.dst sv) :=
  (h.mono (fun _ _ => rfl) (fun _ h => h) (fun _ h => h)).trans ((put_agr st' o.dst sv).mono (fun _ h => h) (fun _ _ => rfl) (fun _ _ => rfl))

/-- What an operation's run leads to: a value, nothing, a call that comes back. -/
def Upg (P : Program) (o : Oper) (a : Act) (w : World) (next : Act → World → Prop) : Prop :=
  (∃ v w', (execOp a.eval o).run P w = .ok (.value v) w' ∧ next (a.put o.dst v) w') ∨
  (∃ w', (execOp a.eval o).run P w = .ok .skip w' ∧ next (a.put o.dst undef) w') ∨
  (∃ g args w', (execOp a.eval o).run P w = .ok (.enter g args) w' ∧ Calls P g args w' fun e w'' => ∃ v, e = .returned v ∧ next (a.put o.dst v) w'')
/-- A round of a loop that comes back. -/
def UpgR (P : Program) (o : Oper) (a : Act) (w : World) (next : Act → World → Prop) : Prop :=
  ∃ l fn tmps as bd w', (execOp a.eval o).run P w = .ok (.round l fn tmps as bd) w' ∧ RoundIn Fence.wide 0 P l fn tmps as bd w' fun e w'' => ∃ v, e = .returned v ∧ next (a.put o.dst v) w''

theorem vcOp_up {P : Program} (hP : Plain P) {n : Nat} {m : Mode} {o : Oper} {st : St} {w : World} {K : St → World → Prop} {a : Act} {next : Act → World → Prop}
    (h : vcOp' P n m o st w K) (hs : Sat n a st w)
    (hK : ∀ v st' w', K st' w' → Sat n (a.put o.dst v) st' w' → Agr (oneD o.dst) (mNews m) (mStores m) st st' → next (a.put o.dst v) w') : Upg P o a w next ∨ (isCf m = true ∧ UpgR P o a w next) := by
  unfold vcOp' at h
  split at h
  case h_2 => exact h.elim
  case h_1 hc =>
    simp only [Bool.and_eq_true] at hc
    obtain ⟨⟨hk, hd⟩, ha⟩ := hc
    have he := hs.exec hk ha
    have hmem := allHas_spec ha
    unfold Upg UpgR
    rw [← he]
    have r0 : ∀ ns ss, Agr [] ns ss st st := fun ns ss => Agr.refl _ _ _ _
    cases m with
    | run =>
      obtain ⟨v, sv, h1, h2, h3⟩ := vcOp_run h hd ha hs
      refine .inl (.inl ⟨_, _, h1 w fun id b cs _ hl => hs.heap id b cs hl, ?_⟩)
      exact hK _ _ _ h2 h3 (oper_agr (r0 _ _) _)
    | rd R =>
      obtain ⟨x, hr, hk⟩ := h
      refine .inl (.inl ⟨_, _, exec_val hr, ?_⟩)
      exact hK _ _ _ hk (hs.put hd (fun u hu => by cases hu; rfl)) (oper_agr (r0 _ _) _)
    | ty R =>
      obtain ⟨x, w', hr, hk⟩ := h
      obtain ⟨hk, hw⟩ := keep_spec hk
      refine .inl (.inl ⟨_, _, exec_val hr, ?_⟩)
      exact hK _ _ _ hk ((hs.world hw).put hd (fun u hu => by cases hu; rfl)) (oper_agr (r0 _ _) _)
    | alt R1 R2 =>
      rcases h with ⟨x, w', hr, hk⟩ | ⟨x, w', hr, hk⟩
      · obtain ⟨hk, hw⟩ := keep_spec hk
        refine .inl (.inl ⟨_, _, exec_val hr, ?_⟩)
        exact hK _ _ _ hk ((hs.world hw).put hd (fun u hu => by cases hu; rfl)) (oper_agr (r0 _ _) _)
      · obtain ⟨hk, hw⟩ := keep_spec hk
        refine .inl (.inl ⟨_, _, exec_val hr, ?_⟩)
        exact hK _ _ _ hk ((hs.world hw).put hd (fun u hu => by cases hu; rfl)) (oper_agr (r0 _ _) _)
    | ext R =>
      unfold vcOp at h
      simp only at h
      split at h
      case h_2 => exact h.elim
      case h_1 c ho =>
        split at h
        case h_2 => exact h.elim
        case h_1 f hcf =>
          split at h
          case h_2 => exact h.elim
          case h_1 g first caps hf =>
            obtain ⟨x, w', hr, hk⟩ := h
            obtain ⟨hk, hw⟩ := keep_spec hk
            refine .inl (.inl ⟨_, _, (run_ext ho hcf hf).trans hr, ?_⟩)
            exact hK _ _ _ hk ((hs.world hw).put hd (fun u hu => by cases hu; rfl)) (oper_agr (r0 _ _) _)
    | un =>
      obtain ⟨w', hr, hk⟩ := h
      obtain ⟨hk, hw⟩ := keep_spec hk
      refine .inl (.inr (.inl ⟨_, exec_un hr, ?_⟩))
      exact hK _ _ _ hk ((hs.world hw).put hd (fun u hu => by cases hu; rfl)) (oper_agr (r0 _ _) _)
    | call R =>
      unfold vcOp at h
      simp only at h
      split at h
      case h_2 => exact h.elim
      case h_1 c ho =>
        split at h
        case h_2 => exact h.elim
        case h_1 f hcf =>
          split at h
          case h_2 => exact h.elim
          case h_1 g first caps hf =>
            split at h
            case h_2 => exact h.elim
            case h_1 fn hg =>
              split at h
              case h_2 => exact h.elim
              case h_1 hb =>
                refine .inl (.inr (.inr ⟨_, _, _, run_call hP ho hcf hf hg hb, ?_⟩))
                refine Calls.mono h ?_
                rintro e w' ⟨x, rfl, hk⟩
                obtain ⟨hk, hw⟩ := keep_spec hk
                refine ⟨_, rfl, ?_⟩
                exact hK _ _ _ hk ((hs.world hw).put hd (fun u hu => by cases hu; rfl)) (oper_agr (r0 _ _) _)
    | callf R =>
      unfold vcOp at h
      simp only at h
      split at h
      case h_2 => exact h.elim
      case h_1 c ho =>
        split at h
        case h_2 => exact h.elim
        case h_1 f hcf =>
          rcases h with ⟨g, fn, hf, hg, hb, h⟩ | ⟨l, hf, fn, tmps, as, bd, hy, hR⟩
          · refine .inl (.inr (.inr ⟨_, _, _, run_call hP ho hcf hf hg hb, ?_⟩))
            refine Calls.mono (show Calls P g (#[] ++ (c.args.toList.map (ev st)).toArray ++ #[]) w _ by simpa [callVc] using h) ?_
            rintro e w' ⟨x, rfl, hk⟩
            obtain ⟨hk, hw⟩ := keep_spec hk
            refine ⟨_, rfl, ?_⟩
            exact hK _ _ _ hk ((hs.world hw).put hd (fun u hu => by cases hu; rfl)) (oper_agr (r0 _ _) _)
          · refine .inr ⟨rfl, _, _, _, _, _, _, run_yieldCall ho hcf hf hy, hR.mono ?_⟩
            rintro e w' ⟨x, rfl, hk⟩
            obtain ⟨hk, hw⟩ := keep_spec hk
            refine ⟨_, rfl, ?_⟩
            exact hK _ _ _ hk ((hs.world hw).put hd (fun u hu => by cases hu; rfl)) (oper_agr (r0 _ _) _)
    | nl id =>
      unfold vcOp at h
      simp only at h
      split at h
      case h_3 => exact h.elim
      case h_1 e ho =>
        split at h
        case h_2 => exact h.elim
        case h_1 z hz =>
          have hrun : (execOp (ev st) o).run P w = .ok (.value (.pointer (some ⟨w.heap.size, 0, none⟩))) (w.alloc (.cells z.cells e)) := exec_val (by simp only [valSem, ho]; exact run_alloc hz)
          refine .inl (.inl ⟨_, _, hrun, ?_⟩)
          exact hK _ _ _ (h _ _ ⟨rfl, _, rfl⟩) ((hs.fresh id _ _).put hd (fun u hu => by simp [svVal, hlook] at hu; exact hu)) (oper_agr (fresh_agr _ _ _ _) _)
      case h_2 e x ho =>
        have hrun : (execOp (ev st) o).run P w = .ok (.value (.pointer (some ⟨w.heap.size, 0, none⟩))) (w.alloc (.cells (ev st x).cells e)) := exec_val (by simp only [valSem, ho]; exact run_box)
        refine .inl (.inl ⟨_, _, hrun, ?_⟩)
        exact hK _ _ _ (h _ _ ⟨rfl, _, rfl⟩) ((hs.fresh id _ _).put hd (fun u hu => by simp [svVal, hlook] at hu; exact hu)) (oper_agr (fresh_agr _ _ _ _) _)
    | ls id =>
      unfold vcOp at h
      simp only at h
      split at h
      case h_2 => exact h.elim
      case h_1 t x y ho =>
        split at h
        case h_2 => exact h.elim
        case h_1 id' off hel =>
          split at h
          case h_2 => exact h.elim
          case h_1 hid =>
            have := Nat.eq_of_beq_eq_true hid
            subst this
            split at h
            case h_2 => exact h.elim
            case h_1 b cs hl =>
              split at h
              case h_2 => exact h.elim
              case h_1 k hk' =>
                split at h
                case h_2 => exact h.elim
                case h_1 hlen =>
                  split at h
                  case h_2 => exact h.elim
                  case h_1 cs' hcs =>
                    simp only [Bool.and_eq_true] at hlen
                    obtain ⟨T, hb⟩ := hs.heap _ _ _ hl
                    have hx : ev st x = .pointer (some ⟨b, off, none⟩) := by
                      rw [hs.ev (hmem x (by simp [ho, opsOf]))]; exact (evL_spec hs hel hl).1
                    obtain ⟨w', h1, h2, h3⟩ := run_store_own (P := P) hb hk' (Nat.eq_of_beq_eq_true hlen.1) hlen.2 hcs
                    have hrun : (execOp (ev st) o).run P w = .ok .skip w' := exec_un (by simp only [unSem, ho, hx]; exact h1)
                    refine .inl (.inr (.inl ⟨_, hrun, ?_⟩))
                    exact hK _ _ _ (h _ h2) ((hs.stored hl h3 h2.block).put hd (fun u hu => by cases hu; rfl)) (oper_agr (stored_agr _ _ _) _)

theorem Upg.wp {P : Program} {o : Oper} {a : Act} {w : World} {next : Act → World → Prop} {Q : Exit → Act → World → Prop} (h : Upg P o a w next) : o.wp P a w next Q := by
  unfold Oper.wp
  rcases h with ⟨v, w', hr, hn⟩ | ⟨w', hr, hn⟩ | ⟨g, args, w', hr, hc⟩
  · rw [hr]; exact hn
  · rw [hr]; exact hn
  · rw [hr, Oper.upon_enter]
    refine Calls.mono hc ?_
    rintro e w'' ⟨v, rfl, hn⟩
    exact hn
theorem vcOp_sound {P : Program} (hP : Plain P) {n : Nat} {m : Mode} {o : Oper} {st : St} {w : World} {K : St → World → Prop} {a : Act} {next : Act → World → Prop} {Q : Exit → Act → World → Prop}
    (hm : isCf m = false) (h : vcOp' P n m o st w K) (hs : Sat n a st w)
    (hK : ∀ v st' w', K st' w' → Sat n (a.put o.dst v) st' w' → Agr (oneD o.dst) (mNews m) (mStores m) st st' → next (a.put o.dst v) w') : o.wp P a w next Q := by
  rcases vcOp_up hP h hs hK with h | ⟨h, _⟩
  · exact h.wp
  · rw [hm] at h; cases h

/-- The operations of a region, one after the other. -/
def upList (P : Program) (ops : Array Oper) (K : Act → World → Prop) : List Oper → Act → World → Prop
  | [], a, w => K a w
  | o :: rest, a, w => if Region.wanted o (yielded ops a.tmps) then Upg P o a w (upList P ops K rest) ∨ UpgR P o a w (upList P ops K rest) else upList P ops K rest (a.put o.dst undef) w

theorem fix_look {st : St} {d : Nat} {b : Bool} (h : look st.sl d = some (.v (.bool b))) (i : Nat) : look (fix st d b).sl i = look st.sl i := by
  simp only [fix, look_cons]
  split
  · rename_i e; subst e; exact h.symm
  · rfl
theorem fix_sat {n : Nat} {a : Act} {st : St} {w : World} (hs : Sat n a st w) {d : Nat} {b : Bool} (h : look st.sl d = some (.v (.bool b))) : Sat n a (fix st d b) w :=
  ⟨hs.size, hs.defers, fun i u hu => hs.slot i u (by simp only [lookV, fix_look h] at hu ⊢; exact hu), hs.heap, hs.dist⟩
theorem fix_agr {st : St} {d : Nat} {b : Bool} (h : look st.sl d = some (.v (.bool b))) (ws ns ss : List Nat) : Agr ws ns ss st (fix st d b) :=
  ⟨fun i _ => .inl (fix_look h i), fun _ _ _ c h => ⟨c, h⟩, fun _ _ _ => rfl⟩

theorem yielded_of {ops : Array Oper} {a : Act} {n : Nat} {st : St} {w : World} (hs : Sat n a st w) {j d : Nat} {v : Value} (hg : guardSlot ops j = some d) (hl : look st.sl d = some (.v v)) :
    yielded ops a.tmps j = match v with | .bool b => some b | _ => none := by
  have := hs.slot d v (by simp [lookV, hl, svVal])
  unfold guardSlot at hg
  simp only [yielded, hg, Option.bind_some, this]
  cases v <;> rfl

theorem opDsts_cons (o : Oper) (l : List Oper) (i : Nat) : memN i (opDsts (o :: l)) = (memN i (oneD o.dst) || memN i (opDsts l)) := by
  cases hd : o.dst with
  | none => simp [opDsts, hd, oneD, memN]
  | some d =>
    simp only [opDsts, hd, oneD, memN]
    cases Nat.beq i d <;> simp

theorem mode_mem {ms : List (Nat × Mode)} {i j : Nat} : (memN j (msNews ms) = false → memN j (mNews (modeAt ms i)) = false) ∧ (memN j (msStores ms) = false → memN j (mStores (modeAt ms i)) = false) := by
  induction ms with
  | nil => exact ⟨fun _ => rfl, fun _ => rfl⟩
  | cons e l ih =>
    obtain ⟨k, m⟩ := e
    simp only [modeAt]
    constructor
    · intro h
      have h' : memN j (mNews m) = false ∧ memN j (msNews l) = false := by
        cases m
        all_goals first
          | exact ⟨rfl, h⟩
          | (rename_i x
             simp only [msNews, mNews, memN] at h ⊢
             cases hb : Nat.beq j x <;> simp_all)
      cases Nat.beq k i
      · exact ih.1 h'.2
      · exact h'.1
    · intro h
      have h' : memN j (mStores m) = false ∧ memN j (msStores l) = false := by
        cases m
        all_goals first
          | exact ⟨rfl, h⟩
          | (rename_i x
             simp only [msStores, mStores, memN] at h ⊢
             cases hb : Nat.beq j x <;> simp_all)
      cases Nat.beq k i
      · exact ih.2 h'.2
      · exact h'.1

theorem vcOps_sound {P : Program} (hP : Plain P) {n : Nat} {ops : Array Oper} {ms : List (Nat × Mode)} {K : St → World → Prop} {Q : Act → World → Prop} (l : List Oper) :
    ∀ (i : Nat) (st : St) (w : World) (a : Act), vcOps P n ops ms l i st w K → Sat n a st w →
      (∀ st' w' a', K st' w' → Sat n a' st' w' → Agr (opDsts l) (msNews ms) (msStores ms) st st' → Q a' w') → upList P ops Q l a w := by
  induction l with
  | nil => intro i st w a h hs hK; exact hK st w a h hs (Agr.refl _ _ _ _)
  | cons o rest ih =>
    intro i st w a h hs hK
    have join : ∀ {st1 st2 st3 : St}, (∀ ws ns ss, Agr ws ns ss st st1) → Agr (oneD o.dst) (mNews (modeAt ms i)) (mStores (modeAt ms i)) st1 st2 → Agr (opDsts rest) (msNews ms) (msStores ms) st2 st3 → Agr (opDsts (o :: rest)) (msNews ms) (msStores ms) st st3 := by
      intro st1 st2 st3 h1 h2 h3
      refine (h1 _ _ _).trans ((h2.mono (fun j hj => ?_) (fun j hj => (mode_mem).1 hj) (fun j hj => (mode_mem).2 hj)).trans (h3.mono (fun j hj => ?_) (fun _ h => h) (fun _ h => h)))
      · rw [opDsts_cons] at hj; cases hh : memN j (oneD o.dst) <;> simp_all
      · rw [opDsts_cons] at hj; cases hh : memN j (opDsts rest) <;> simp_all
    have skip : ∀ (st : St) (sv : SV), Agr (oneD o.dst) (mNews (modeAt ms i)) (mStores (modeAt ms i)) st (put st o.dst sv) := fun st sv => (put_agr _ _ _).mono (fun _ h => h) (fun _ _ => rfl) (fun _ _ => rfl)
    simp only [upList]
    have cf : ∀ {next : Act → World → Prop}, Upg P o a w next ∨ (isCf (modeAt ms i) = true ∧ UpgR P o a w next) → Upg P o a w next ∨ UpgR P o a w next := fun h => h.imp id (·.2)
    unfold vcOps at h
    cases hg : o.guard with
    | none =>
      simp only [hg] at h
      have hw : Region.wanted o (yielded ops a.tmps) = true := by simp [Region.wanted, hg]
      rw [if_pos hw]
      exact cf (vcOp_up hP h hs fun v st' w' hk hs' hag => ih _ _ _ _ hk hs' fun st'' w'' a'' hk' hs'' hag' => hK _ _ _ hk' hs'' (join (fun _ _ _ => Agr.refl _ _ _ _) hag hag'))
    | some jw =>
      obtain ⟨j, want⟩ := jw
      simp only [hg] at h
      split at h
      case h_1 => exact h.elim
      case h_2 d hgs =>
        split at h
        case h_3 => exact h.elim
        case h_2 vs hl =>
          split at h
          case h_2 => exact h.elim
          case h_1 hwi =>
            have hy := yielded_of hs hgs hl
            have hw : Region.wanted o (yielded ops a.tmps) = false := by simp [Region.wanted, hg, hy]
            rw [if_neg (by simp [hw])]
            exact ih _ _ _ _ h (hs.put hwi (fun u hu => by cases hu; rfl)) fun st'' w'' a'' hk' hs'' hag' => hK _ _ _ hk' hs'' (join (fun _ _ _ => Agr.refl _ _ _ _) (skip _ _) hag')
        case h_1 b hl =>
          split at h
          case h_2 => exact h.elim
          case h_1 hwi =>
            have hy := yielded_of hs hgs hl
            cases b
            · simp only [ifB] at h
              have hs1 := fix_sat hs hl
              cases want
              · have hw : Region.wanted o (yielded ops a.tmps) = true := by simp [Region.wanted, hg, hy]
                rw [if_pos hw]
                exact cf (vcOp_up hP h hs1 fun v st' w' hk hs' hag => ih _ _ _ _ hk hs' fun st'' w'' a'' hk' hs'' hag' => hK _ _ _ hk' hs'' (join (fix_agr hl) hag hag'))
              · have hw : Region.wanted o (yielded ops a.tmps) = false := by simp [Region.wanted, hg, hy]
                rw [if_neg (by simp [hw])]
                exact ih _ _ _ _ h (hs1.put hwi (fun u hu => by cases hu; rfl)) fun st'' w'' a'' hk' hs'' hag' => hK _ _ _ hk' hs'' (join (fix_agr hl) (skip _ _) hag')
            · simp only [ifB] at h
              have hs1 := fix_sat hs hl
              cases want
              · have hw : Region.wanted o (yielded ops a.tmps) = false := by simp [Region.wanted, hg, hy]
                rw [if_neg (by simp [hw])]
                exact ih _ _ _ _ h (hs1.put hwi (fun u hu => by cases hu; rfl)) fun st'' w'' a'' hk' hs'' hag' => hK _ _ _ hk' hs'' (join (fix_agr hl) (skip _ _) hag')
              · have hw : Region.wanted o (yielded ops a.tmps) = true := by simp [Region.wanted, hg, hy]
                rw [if_pos hw]
                exact cf (vcOp_up hP h hs1 fun v st' w' hk hs' hag => ih _ _ _ _ hk hs' fun st'' w'' a'' hk' hs'' hag' => hK _ _ _ hk' hs'' (join (fix_agr hl) hag hag'))

theorem reads_modeAt {ms : List (Nat × Mode)} (h : reads ms = true) (i : Nat) : modeAt ms i = .run ∨ ∃ R, modeAt ms i = .rd R := by
  induction ms with
  | nil => exact .inl rfl
  | cons e l ih =>
    obtain ⟨k, m⟩ := e
    simp only [modeAt]
    cases m <;> simp only [reads, Bool.false_eq_true] at h
    · cases Nat.beq k i
      · exact ih h
      · exact .inl rfl
    · cases Nat.beq k i
      · exact ih h
      · exact .inr ⟨_, rfl⟩

theorem vcStillOp_sound {P : Program} {n : Nat} {m : Mode} {o : Oper} {st : St} {w : World} {K : St → Prop} {a : Act} {next : Act → Prop}
    (hm : m = .run ∨ ∃ R, m = .rd R)
    (h : vcOp' P n m o st w fun st' _ => K st') (hs : Sat n a st w)
    (hK : ∀ v st', K st' → Sat n (a.put o.dst v) st' w → Agr (oneD o.dst) [] [] st st' → next (a.put o.dst v)) : o.still P a w next := by
  unfold vcOp' at h
  split at h
  case h_2 => exact h.elim
  case h_1 hc =>
    simp only [Bool.and_eq_true] at hc
    obtain ⟨⟨hk, hd⟩, ha⟩ := hc
    have he := hs.exec hk ha
    unfold Oper.still
    rw [← he]
    rcases hm with rfl | ⟨R, rfl⟩
    · obtain ⟨v, sv, h1, h2, h3⟩ := vcOp_run h hd ha hs
      rw [h1 w fun id b cs _ hl => hs.heap id b cs hl]
      exact ⟨rfl, hK _ _ h2 h3 (put_agr _ _ _)⟩
    · obtain ⟨x, hr, hk⟩ := h
      rw [exec_val hr]
      exact ⟨rfl, hK _ _ hk (hs.put hd (fun u hu => by cases hu; rfl)) (put_agr _ _ _)⟩

theorem vcStill_sound {P : Program} {n : Nat} {ops : Array Oper} {ms : List (Nat × Mode)} (hno : reads ms = true) {w : World} {K : St → Prop} {Q : Act → Prop} (l : List Oper) :
    ∀ (i : Nat) (st : St) (a : Act), vcStill P n ops ms w l i st K → Sat n a st w →
      (∀ st' a', K st' → Sat n a' st' w → Agr (opDsts l) [] [] st st' → Q a') → wpStill P ops w Q l a := by
  induction l with
  | nil => intro i st a h hs hK; exact hK st a h hs (Agr.refl _ _ _ _)
  | cons o rest ih =>
    intro i st a h hs hK
    have join : ∀ {st1 st2 st3 : St}, (∀ ws ns ss, Agr ws ns ss st st1) → Agr (oneD o.dst) [] [] st1 st2 → Agr (opDsts rest) [] [] st2 st3 → Agr (opDsts (o :: rest)) [] [] st st3 := by
      intro st1 st2 st3 h1 h2 h3
      refine (h1 _ _ _).trans ((h2.mono (fun j hj => ?_) (fun _ h => h) (fun _ h => h)).trans (h3.mono (fun j hj => ?_) (fun _ h => h) (fun _ h => h)))
      · rw [opDsts_cons] at hj; cases hh : memN j (oneD o.dst) <;> simp_all
      · rw [opDsts_cons] at hj; cases hh : memN j (opDsts rest) <;> simp_all
    simp only [wpStill]
    unfold vcStill at h
    cases hg : o.guard with
    | none =>
      simp only [hg] at h
      have hw : Region.wanted o (yielded ops a.tmps) = true := by simp [Region.wanted, hg]
      rw [if_pos hw]
      exact vcStillOp_sound (reads_modeAt hno i) h hs fun v st' hk hs' hag => ih _ _ _ hk hs' fun st'' a'' hk' hs'' hag' => hK _ _ hk' hs'' (join (fun _ _ _ => Agr.refl _ _ _ _) hag hag')
    | some jw =>
      obtain ⟨j, want⟩ := jw
      simp only [hg] at h
      split at h
      case h_1 => exact h.elim
      case h_2 d hgs =>
        split at h
        case h_3 => exact h.elim
        case h_2 vs hl =>
          split at h
          case h_2 => exact h.elim
          case h_1 hwi =>
            have hy := yielded_of hs hgs hl
            have hw : Region.wanted o (yielded ops a.tmps) = false := by simp [Region.wanted, hg, hy]
            rw [if_neg (by simp [hw])]
            exact ih _ _ _ h (hs.put hwi (fun u hu => by cases hu; rfl)) fun st'' a'' hk' hs'' hag' => hK _ _ hk' hs'' (join (fun _ _ _ => Agr.refl _ _ _ _) (put_agr _ _ _) hag')
        case h_1 b hl =>
          split at h
          case h_2 => exact h.elim
          case h_1 hwi =>
            have hy := yielded_of hs hgs hl
            cases b
            · simp only [ifB] at h
              have hs1 := fix_sat hs hl
              cases want
              · have hw : Region.wanted o (yielded ops a.tmps) = true := by simp [Region.wanted, hg, hy]
                rw [if_pos hw]
                exact vcStillOp_sound (reads_modeAt hno i) h hs1 fun v st' hk hs' hag => ih _ _ _ hk hs' fun st'' a'' hk' hs'' hag' => hK _ _ hk' hs'' (join (fix_agr hl) hag hag')
              · have hw : Region.wanted o (yielded ops a.tmps) = false := by simp [Region.wanted, hg, hy]
                rw [if_neg (by simp [hw])]
                exact ih _ _ _ h (hs1.put hwi (fun u hu => by cases hu; rfl)) fun st'' a'' hk' hs'' hag' => hK _ _ hk' hs'' (join (fix_agr hl) (put_agr _ _ _) hag')
            · simp only [ifB] at h
              have hs1 := fix_sat hs hl
              cases want
              · have hw : Region.wanted o (yielded ops a.tmps) = false := by simp [Region.wanted, hg, hy]
                rw [if_neg (by simp [hw])]
                exact ih _ _ _ h (hs1.put hwi (fun u hu => by cases hu; rfl)) fun st'' a'' hk' hs'' hag' => hK _ _ hk' hs'' (join (fix_agr hl) (put_agr _ _ _) hag')
              · have hw : Region.wanted o (yielded ops a.tmps) = true := by simp [Region.wanted, hg, hy]
                rw [if_pos hw]
                exact vcStillOp_sound (reads_modeAt hno i) h hs1 fun v st' hk hs' hag => ih _ _ _ hk hs' fun st'' a'' hk' hs'' hag' => hK _ _ hk' hs'' (join (fix_agr hl) hag hag')

theorem look_dropS (ws ns : List Nat) : ∀ (sl : Sls) (i : Nat), look (dropS ws ns sl) i = if memN i ws = true then none else (look sl i).map (drop1 ns)
  | [], i => by simp [dropS, look]
  | (j, x) :: r, i => by
    simp only [dropS]
    cases hj : memN j ws
    · simp only [cond_false, look_cons, look_dropS ws ns r i]
      by_cases e : j = i
      · subst e; simp [hj]
      · simp [if_neg e]
    · simp only [cond_true, look_cons, look_dropS ws ns r i]
      by_cases e : j = i
      · subst e; simp [hj]
      · simp [if_neg e]

theorem hlook_dropH (ns ss : List Nat) : ∀ (hp : Hps) (i : Nat), hlook (dropH ns ss hp) i = if memN i ns = true ∨ memN i ss = true then none else hlook hp i
  | [], i => by simp [dropH, hlook]
  | (j, x) :: r, i => by
    simp only [dropH]
    cases hj : memN j ns
    · cases hk : memN j ss
      · simp only [cond_false, hlook_cons, hlook_dropH ns ss r i]
        by_cases e : j = i
        · subst e; simp [hj, hk]
        · simp [if_neg e]
      · simp only [cond_false, cond_true, hlook_cons, hlook_dropH ns ss r i]
        by_cases e : j = i
        · subst e; simp [hk]
        · simp [if_neg e]
    · simp only [cond_true, hlook_cons, hlook_dropH ns ss r i]
      by_cases e : j = i
      · subst e; simp [hj]
      · simp [if_neg e]

/-- What 's' says holds of 'st'. -/
structure Sub (s st : St) : Prop where
  sl : ∀ i, match look s.sl i with | none => True | some .u => True | some (.v x) => lookV st i = some x | some (.p id off) => look st.sl i = some (.p id off)
  hp : ∀ id e, hlook s.hp id = some e → hlook st.hp id = some e

theorem Sub.val {s st : St} (h : Sub s st) {i : Nat} {v : Value} (hv : lookV s i = some v) : lookV st i = some v := by
  have h1 := h.sl i
  simp only [lookV] at hv
  cases hl : look s.sl i with
  | none => simp [hl] at hv
  | some sv =>
    simp only [hl] at hv h1
    cases sv with
    | v x =>
      simp only [svVal, Option.some.injEq] at hv
      rw [h1, hv]
    | u => simp [svVal] at hv
    | p id off =>
      simp only [svVal] at hv
      split at hv
      · rename_i b c hh
        have := h.hp id _ hh
        simp only [lookV, h1, svVal, this]
        exact hv
      · cases hv

theorem Sub.sat {n : Nat} {a : Act} {s st : St} {w : World} (h : Sub s st) (hs : Sat n a st w) : Sat n a s w :=
  ⟨hs.size, hs.defers, fun i v hv => hs.slot i v (h.val hv), fun id b cs hl => hs.heap id b cs (h.hp _ _ hl), fun _ _ _ _ _ h1 h2 => hs.dist _ _ _ _ _ (h.hp _ _ h1) (h.hp _ _ h2)⟩

theorem left_sub {c : Code} {an : Ann} {st st' : St} (h : Agr (writes c) (news an) (stores an) st st') : Sub (left c an st) st' := by
  refine ⟨fun i => ?_, fun id e he => ?_⟩
  · simp only [left, look_dropS]
    cases hi : memN i (writes c)
    · have h1 := h.sl i hi
      cases hl : look st.sl i with
      | none => simp
      | some sv =>
        rw [hl] at h1
        cases sv with
        | u => simp [drop1]
        | v x =>
          rcases h1 with h1 | ⟨_, _, h1, _⟩
          · simp [drop1, lookV, h1, svVal]
          · cases h1
        | p id off =>
          cases hn : memN id (news an)
          · rcases h1 with h1 | ⟨id', off', h1, h2⟩
            · simp [drop1, hn, h1]
            · cases h1; rw [hn] at h2; cases h2
          · simp [drop1, hn]
    · simp
  · simp only [left, hlook_dropH] at he
    split at he
    · cases he
    · rename_i hh
      have h1 : memN id (news an) = false := by cases hx : memN id (news an) <;> simp_all
      have h2 : memN id (stores an) = false := by cases hx : memN id (stores an) <;> simp_all
      rw [h.hp id h1 h2]
      exact he

theorem left_agr (c : Code) (an : Ann) (st : St) : Agr (writes c) (news an) (stores an) st (left c an st) := by
  refine ⟨fun i hi => ?_, fun id hid b e he => ?_, fun id h1 h2 => ?_⟩
  · simp only [left, look_dropS, hi]
    cases hl : look st.sl i with
    | none => exact .inl (by simp)
    | some sv =>
      cases sv with
      | v x => exact .inl (by simp [drop1])
      | u => exact .inl (by simp [drop1])
      | p id off =>
        cases hn : memN id (news an)
        · exact .inl (by simp [drop1, hn])
        · exact .inr ⟨id, off, rfl, hn⟩
  · simp only [left, hlook_dropH] at he
    split at he
    · cases he
    · exact ⟨e, he⟩
  · simp [left, hlook_dropH, h1, h2]

/-- One more that is said. -/
theorem setK_spec {ws ns ss : List Nat} {st0 st' s s' : St} {R : RTy} {k : Key} {x : R.α} (hag : Agr ws ns ss st0 st') (hs : Sub s st') (ha : Agr ws ns ss st0 s)
    (hk : getK st' R k = some x) (hl : liveOk ws ns [(k, R)] = true) (h : setK st0 s R x k = some s') : Sub s' st' ∧ Agr ws ns ss st0 s' := by
  cases k with
  | s i =>
    simp only [setK, Option.some.injEq] at h
    subst h
    simp only [getK] at hk
    cases hv : lookV st' i with
    | none => simp [hv] at hk
    | some v =>
      simp only [hv] at hk
      have := R.ok v x hk
      subst this
      have hi : memN i ws = true := by cases hh : memN i ws <;> simp_all [liveOk]
      refine ⟨⟨fun j => ?_, hs.hp⟩, ⟨fun j hj => ?_, ha.blk, ha.hp⟩⟩
      · simp only [look_cons]
        by_cases e : i = j
        · subst e; rw [if_pos rfl]; exact hv
        · rw [if_neg e]; exact hs.sl j
      · simp only [look_cons]
        rw [if_neg (by intro e; subst e; rw [hi] at hj; cases hj)]
        exact ha.sl j hj
  | h id =>
    simp only [setK] at h
    split at h
    case h_2 => cases h
    case h_1 b c hb =>
      cases h
      simp only [getK] at hk
      cases hv : hlook st'.hp id with
      | none => simp [hv] at hk
      | some e =>
        obtain ⟨b', cs⟩ := e
        simp only [hv] at hk
        have := R.okc cs x hk
        subst this
        have hid : memN id ns = false := by cases hh : memN id ns <;> simp_all [liveOk]
        obtain ⟨c0, h0⟩ := hag.blk id hid _ _ hv
        rw [hb] at h0
        cases h0
        refine ⟨⟨fun j => ?_, fun j e he => ?_⟩, ⟨ha.sl, fun j hj b2 c2 h2 => ?_, fun j hj hj' => ?_⟩⟩
        · exact hs.sl j
        · rw [hlook_cons] at he
          split at he
          · rename_i e'; subst e'; cases he; exact hv
          · exact hs.hp j e he
        · simp only [hlook_cons] at h2
          split at h2
          · rename_i e'; subst e'; cases h2; exact ⟨c, hb⟩
          · exact ha.blk j hj b2 c2 h2
        · simp only [hlook_cons]
          split
          · rename_i e'; subst e'
            rw [← hag.hp id hj hj', hv]
          · exact ha.hp j hj hj'

theorem liveOk_cons {ws ns : List Nat} {k : Key} {R : RTy} {l : Live} (h : liveOk ws ns ((k, R) :: l) = true) : liveOk ws ns [(k, R)] = true ∧ liveOk ws ns l = true := by
  cases k with
  | s i => simp only [liveOk] at h ⊢; cases hh : memN i ws <;> simp_all
  | h id => simp only [liveOk] at h ⊢; cases hh : memN id ns <;> simp_all

theorem allP_spec {ws ns ss : List Nat} {st0 st' : St} {w' : World} (hag : Agr ws ns ss st0 st') : ∀ (l : Live) (J : PredT l) (s : St) (k : St → World → Prop),
    liveOk ws ns l = true → Sub s st' → Agr ws ns ss st0 s → allP st0 l J s k → applyP l J st' w' → ∃ s', Sub s' st' ∧ Agr ws ns ss st0 s' ∧ k s' w'
  | [], J, s, k, _, hs, ha, h, hJ => ⟨s, hs, ha, h w' hJ⟩
  | (i, R) :: l, J, s, k, hl, hs, ha, h, hJ => by
    simp only [applyP] at hJ
    split at hJ
    case h_2 => exact hJ.elim
    case h_1 x hx =>
      have h1 := h x
      split at h1
      case h_2 => exact h1.elim
      case h_1 s1 hs1 =>
        obtain ⟨hl1, hl2⟩ := liveOk_cons hl
        obtain ⟨h2, h3⟩ := setK_spec hag hs ha hx hl1 hs1
        exact allP_spec hag l (J x) s1 k hl2 h2 h3 h1 hJ

/-- The measure, read off a state. -/
def applyM : (l : Live) → MeasT l → St → World → Nat
  | [], μ, _, w => μ w
  | (k, R) :: l, μ, st, w =>
    match getK st R k with
    | some x => applyM l (μ x) st w
    | none => 0

theorem allM_spec {ws ns ss : List Nat} {st0 st' : St} {w' : World} (hag : Agr ws ns ss st0 st') : ∀ (l : Live) (J : PredT l) (μ : MeasT l) (s : St) (k : St → World → Nat → Prop),
    liveOk ws ns l = true → Sub s st' → Agr ws ns ss st0 s → allM st0 l J μ s k → applyP l J st' w' → ∃ s', Sub s' st' ∧ Agr ws ns ss st0 s' ∧ k s' w' (applyM l μ st' w')
  | [], J, μ, s, k, _, hs, ha, h, hJ => ⟨s, hs, ha, h w' hJ⟩
  | (i, R) :: l, J, μ, s, k, hl, hs, ha, h, hJ => by
    simp only [applyP] at hJ
    split at hJ
    case h_2 => exact hJ.elim
    case h_1 x hx =>
      have h1 := h x
      split at h1
      case h_2 => exact h1.elim
      case h_1 s1 hs1 =>
        obtain ⟨hl1, hl2⟩ := liveOk_cons hl
        obtain ⟨h2, h3⟩ := setK_spec hag hs ha hx hl1 hs1
        simp only [applyM, hx]
        exact allM_spec hag l (J x) (μ x) s1 k hl2 h2 h3 h1 hJ

theorem andLt_spec {st : St} {w : World} {m : Nat} : ∀ (l : Live) (J : PredT l) (μ : MeasT l), applyP l (andLt l J μ m) st w → applyP l J st w ∧ applyM l μ st w < m
  | [], J, μ, h => h
  | (i, R) :: l, J, μ, h => by
    simp only [applyP, applyM, andLt] at h ⊢
    cases hx : getK st R i with
    | none => simp only [hx] at h
    | some x =>
      simp only [hx] at h ⊢
      exact andLt_spec l (J x) (μ x) h

theorem wp_loop' {P : Program} {Q : Exit → Act → World → Prop} {a : Act} {w : World} {c : Code} (I : Nat → Act → World → Prop) (m : Nat) (h₀ : I m a w)
    (round : ∀ m a w, I m a w → c.wp P (Exit.then (fun a' w' => ∃ m', m' < m ∧ I m' a' w') Q) a w) : (Code.loop c).wp P Q a w := by
  intro b k cs
  have key : ∀ n a w, I n a w →
      ∃ e a' w', Q e a' w' ∧ Arrives P (lone (b.at a (.code c :: .inLoop c :: k)) cs w) b k cs e a' w' := by
    intro n
    induction n using Nat.strongRecOn with
    | _ n ih =>
      intro a w hI
      obtain ⟨e, a₁, w₁, hq, harr⟩ := round n a w hI b (.inLoop c :: k) cs
      cases e with
      | normal =>
        obtain ⟨m', hlt, hI₁⟩ := hq
        obtain ⟨e₂, a₂, w₂, hq₂, harr₂⟩ := ih m' hlt a₁ w₁ hI₁
        exact ⟨e₂, a₂, w₂, hq₂, .of_steps (Steps.trans harr (.one step_inLoop)) harr₂⟩
      | exit id => exact ⟨_, a₁, w₁, hq, .pass (x := .inLoop c) rfl (fun _ _ => .inl (by simp)) harr⟩
      | goto l => exact ⟨_, a₁, w₁, hq, .pass (x := .inLoop c) rfl (fun _ _ => .inl (by simp)) harr⟩
      | ret => exact ⟨_, a₁, w₁, hq, .pass (x := .inLoop c) rfl (fun _ _ => .inl (by simp)) harr⟩
      | panic ch => exact ⟨_, a₁, w₁, hq, .pass (x := .inLoop c) rfl (fun _ _ => .inl (by simp)) harr⟩
      | outgrown => exact ⟨_, a₁, w₁, hq, .pass (x := .inLoop c) rfl (fun _ _ => .inl (by simp)) harr⟩
  obtain ⟨e, a', w', hq, harr⟩ := key m a w h₀
  exact ⟨e, a', w', hq, .of_steps (.one step_loop) harr⟩

theorem guard_spec {n : Nat} {ops : Array Oper} {o : Oper} {st : St} {w : World} {a : Act} {X : St → Bool → Prop} (hs : Sat n a st w) (h : guardV n ops o st X) :
    ∃ st1 b, X st1 b ∧ Sat n a st1 w ∧ (∀ ws ns ss, Agr ws ns ss st st1) ∧ Region.wanted o (yielded ops a.tmps) = b ∧ (b = false → within n o.dst = true) := by
  unfold guardV at h
  cases hg : o.guard with
  | none =>
    simp only [hg] at h
    exact ⟨st, true, h, hs, fun _ _ _ => Agr.refl _ _ _ _, by simp [Region.wanted, hg], fun h => by cases h⟩
  | some jw =>
    obtain ⟨j, want⟩ := jw
    simp only [hg] at h
    split at h
    case h_1 => exact h.elim
    case h_2 d hgs =>
      split at h
      case h_3 => exact h.elim
      case h_2 vs hl =>
        split at h
        case h_2 => exact h.elim
        case h_1 hwi =>
          have hy := yielded_of hs hgs hl
          exact ⟨st, false, h, hs, fun _ _ _ => Agr.refl _ _ _ _, by simp [Region.wanted, hg, hy], fun _ => hwi⟩
      case h_1 b hl =>
        split at h
        case h_2 => exact h.elim
        case h_1 hwi =>
          have hy := yielded_of hs hgs hl
          cases b
          · simp only [ifB] at h
            exact ⟨_, _, h, fix_sat hs hl, fix_agr hl, by cases want <;> simp [Region.wanted, hg, hy], fun _ => hwi⟩
          · simp only [ifB] at h
            exact ⟨_, _, h, fix_sat hs hl, fix_agr hl, by cases want <;> simp [Region.wanted, hg, hy], fun _ => hwi⟩

theorem memN_mem {i : Nat} : ∀ {l : List Nat}, memN i l = true → i ∈ l
  | [], h => by cases h
  | j :: l, h => by
    simp only [memN] at h
    cases hb : Nat.beq i j with
    | true => rw [Nat.eq_of_beq_eq_true hb]; simp
    | false => rw [hb] at h; exact List.mem_cons_of_mem _ (memN_mem h)

theorem opDsts_mem {o : Oper} {l : List Oper} (ho : o ∈ l) {j : Nat} (h : memN j (opDsts l) = false) : memN j (oneD o.dst) = false := by
  induction l with
  | nil => cases ho
  | cons x l ih =>
    rw [opDsts_cons] at h
    rcases List.mem_cons.1 ho with rfl | ho
    · cases hh : memN j (oneD o.dst) <;> simp_all
    · exact ih ho (by cases hh : memN j (opDsts l) <;> simp_all)

theorem isOne_spec {i : Nat} {l : List Nat} (h : isOne i l = true) : l = [i] := by
  unfold isOne at h
  split at h
  · rw [Nat.eq_of_beq_eq_true h]
  · cases h
theorem isTwo_spec {i j : Nat} {l : List Nat} (h : isTwo i j l = true) : l = [i, j] := by
  unfold isTwo at h
  split at h
  · simp only [Bool.and_eq_true] at h
    rw [Nat.eq_of_beq_eq_true h.1, Nat.eq_of_beq_eq_true h.2]
  · cases h
theorem isEmptyN_spec {l : List Nat} (h : isEmptyN l = true) : l = [] := by
  unfold isEmptyN at h
  split at h
  · rfl
  · cases h

def NoPan (Q : Exit → Act → World → Prop) : Exit → Act → World → Prop
  | .panic _, _, _ => False
  | e, a, w => Q e a w

section
variable {P : Program} {n : Nat} {ops : Array Oper} {ms : List (Nat × Mode)} {S : World → Prop} {K : St → World → Prop} {Q : Exit → Act → World → Prop} {st0 : St}

/-- The worlds that a region goes through. -/
def Held (S : World → Prop) (ss : List Nat) (st0 : St) (w : World) : Prop := S w ∧ ∀ id b cs, hlook st0.hp id = some (b, cs) → memN id ss = false → ∃ T, w.heap[b]? = some (.cells cs.toArray T (0, 0))

abbrev AgrR (ops : Array Oper) (ms : List (Nat × Mode)) (st0 st : St) : Prop := Agr (opDsts ops.toList) (msNews ms) (msStores ms) st0 st

theorem held_of {ss : List Nat} (hss : ss = msStores ms ++ msNews ms) {st : St} {a : Act} {w : World} (hS : S w) (hs : Sat n a st w) (ha : AgrR ops ms st0 st) : Held S ss st0 w := by
  refine ⟨hS, fun id b cs hl hm => ?_⟩
  subst hss
  rw [memN_append] at hm
  have h1 : memN id (msStores ms) = false := by cases hh : memN id (msStores ms) <;> simp_all
  have h2 : memN id (msNews ms) = false := by cases hh : memN id (msNews ms) <;> simp_all
  exact hs.heap id b cs (by rw [ha.hp id h2 h1]; exact hl)

theorem step_agr {o : Oper} (ho : o ∈ ops.toList) {i : Nat} {st st1 st2 : St} (ha : AgrR ops ms st0 st) (h1 : ∀ ws ns ss, Agr ws ns ss st st1) (h2 : Agr (oneD o.dst) (mNews (modeAt ms i)) (mStores (modeAt ms i)) st1 st2) : AgrR ops ms st0 st2 :=
  ha.trans ((h1 _ _ _).trans (h2.mono (fun _ hj => opDsts_mem ho hj) (fun _ hj => mode_mem.1 hj) (fun _ hj => mode_mem.2 hj)))

theorem takeOp_spec {ss : List Nat} {m : Mode} {o : Oper} {st : St} {w : World} {a : Act} {Kt : St → Prop} (h : takeOp P n S ss m o st w Kt) (hs : Sat n a st w)
    (hH : ∀ w' id b cs, Held S ss st0 w' → memN id ss = false → hlook st.hp id = some (b, cs) → ∃ T, w'.heap[b]? = some (.cells cs.toArray T (0, 0))) :
    ∃ v st', (∀ w', Held S ss st0 w' → (execOp a.eval o).run P w' = .ok (.value v) w') ∧ Kt st' ∧ Sat n (a.put o.dst v) st' w ∧ Agr (oneD o.dst) [] [] st st' := by
  unfold takeOp at h
  split at h
  case h_2 => exact h.elim
  case h_1 hc =>
    simp only [Bool.and_eq_true] at hc
    obtain ⟨⟨hk, hd⟩, ha⟩ := hc
    have he := hs.exec hk ha
    rw [← he]
    cases m with
    | run =>
      simp only at h
      split at h
      case h_1 t x hop =>
        split at h
        case h_2 => exact h.elim
        case h_1 id off hel =>
          split at h
          case h_2 => exact h.elim
          case h_1 hm =>
            obtain ⟨v, sv, h1, h2, h3⟩ := vcOp_run h hd ha hs
            refine ⟨v, _, fun w' hw' => h1 w' fun id' b cs hid hl => ?_, h2, h3, put_agr _ _ _⟩
            simp only [loadId, hop, hel, Option.map_some, Option.some.injEq] at hid
            subst hid
            exact hH w' _ b cs hw' hm hl
      case h_2 hop =>
        obtain ⟨v, sv, h1, h2, h3⟩ := vcOp_run h hd ha hs
        refine ⟨v, _, fun w' hw' => h1 w' fun id' b cs hid hl => ?_, h2, h3, put_agr _ _ _⟩
        exfalso
        unfold loadId at hid
        split at hid
        · rename_i t x hx; exact hop t x hx
        · cases hid
    | rd R =>
      obtain ⟨x, hr, hk⟩ := h
      exact ⟨R.val x, _, fun w' hw' => exec_val (hr w' hw'.1), hk, hs.put hd (fun u hu => by cases hu; rfl), put_agr _ _ _⟩
    | _ => exact h.elim

theorem wpOp_skip {i : Nat} {o : Oper} (ho : ops[i]? = some o) {a : Act} {w : World} (hw : Region.wanted o (yielded ops a.tmps) = false) {K : Act → World → Prop} (h : K (a.put o.dst undef) w) : wpOp P ops Q i K a w := by
  unfold wpOp
  simp only [ho]
  rw [if_neg (by simp [hw])]
  exact h

theorem noCf_modeAt {ms : List (Nat × Mode)} (h : noCf ms = true) (i : Nat) : isCf (modeAt ms i) = false := by
  induction ms with
  | nil => rfl
  | cons e l ih =>
    obtain ⟨k, m⟩ := e
    simp only [noCf] at h
    cases hm : isCf m with
    | true => rw [hm] at h; cases h
    | false =>
      rw [hm] at h
      simp only [modeAt]
      cases Nat.beq k i
      · exact ih h
      · exact hm

theorem held_step (hP : Plain P) (hcf : noCf ms = true) {ss : List Nat} (hss : ss = msStores ms ++ msNews ms) {t : HT} {ls : Array Bool} {i : Nat} {o : Oper} (ho : ops[i]? = some o) {st : St} {w : World} {a : Act} {fuel : Nat} (hs : Sat n a st w) (ha : AgrR ops ms st0 st) (hS : S w)
    (ih : ∀ (st : St) (w : World) (a : Act), vcHeld P n ops ms S ss t (ls.setIfInBounds i true) st w K → Sat n a st w → AgrR ops ms st0 st → S w → wpAnyH P .any ops Q (Held S ss st0) fuel (ls.setIfInBounds i true) a w)
    (h : guardV n ops o st fun st1 b =>
        match b with
        | true => vcOp' P n (modeAt ms i) o st1 w fun st' w' => S w' ∧ vcHeld P n ops ms S ss t (ls.setIfInBounds i true) st' w' K
        | false => vcHeld P n ops ms S ss t (ls.setIfInBounds i true) (put st1 o.dst (.v undef)) w K) :
    wpOp P ops Q i (fun a' w' => Held S ss st0 w' ∧ wpAnyH P .any ops Q (Held S ss st0) fuel (ls.setIfInBounds i true) a' w') a w := by
  have hmem : o ∈ ops.toList := by
    rw [← Array.getElem?_toList] at ho
    exact List.mem_of_getElem? ho
  obtain ⟨st1, b, hX, hs1, h1, hw, hwi⟩ := guard_spec hs h
  cases b with
  | false =>
    refine wpOp_skip ho hw ?_
    have hs2 := hs1.put (hwi rfl) (sv := .v undef) (v := undef) (fun u hu => by cases hu; rfl)
    have ha2 : AgrR ops ms st0 (put st1 o.dst (.v undef)) := step_agr (i := i) hmem ha h1 ((put_agr _ _ _).mono (fun _ h => h) (fun _ _ => rfl) (fun _ _ => rfl))
    exact ⟨held_of hss hS hs2 ha2, ih _ _ _ hX hs2 ha2 hS⟩
  | true =>
    unfold wpOp
    simp only [ho]
    rw [if_pos hw]
    refine .inl (vcOp_sound hP (noCf_modeAt hcf i) hX hs1 fun v st' w' hk hs' hag => ?_)
    have ha2 := step_agr hmem ha h1 hag
    exact ⟨held_of hss hk.1 hs' ha2, ih _ _ _ hk.2 hs' ha2 hk.1⟩

theorem vcHeld_sound (hP : Plain P) (hcf : noCf ms = true) (hsel : Region.noSelect ops = true) {ss : List Nat} (hss : ss = msStores ms ++ msNews ms) (hQ : ∀ c a w, ¬ Q (.panic c) a w)
    (hK : ∀ st w a, K st w → Sat n a st w → AgrR ops ms st0 st → Q .normal a w) :
    ∀ (t : HT) (fuel : Nat) (ls : Array Bool) (st : St) (w : World) (a : Act), t.depth ≤ fuel → vcHeld P n ops ms S ss t ls st w K → Sat n a st w → AgrR ops ms st0 st → S w →
      wpAnyH P .any ops Q (Held S ss st0) fuel ls a w := by
  intro t
  induction t with
  | done =>
    intro fuel ls st w a _ h hs ha hS
    simp only [vcHeld] at h
    split at h
    case h_2 => exact h.elim
    case h_1 hr => exact wpAnyH_done (isEmptyN_spec hr) (hK _ _ _ h hs ha) fuel
  | take i t ih =>
    intro fuel ls st w a hd h hs ha hS
    obtain ⟨fuel, rfl⟩ : ∃ f, fuel = f + 1 := ⟨fuel - 1, by simp only [HT.depth] at hd; omega⟩
    have hd' : t.depth ≤ fuel := by simp only [HT.depth] at hd; omega
    simp only [vcHeld] at h
    split at h
    case h_2 => exact h.elim
    case h_1 o ho =>
      split at h
      case h_2 => exact h.elim
      case h_1 hc =>
        simp only [Bool.and_eq_true] at hc
        have hmem : o ∈ ops.toList := by
          have ho' := ho
          rw [← Array.getElem?_toList] at ho'
          exact List.mem_of_getElem? ho'
        obtain ⟨st1, b, hX, hs1, h1, hw, hwi⟩ := guard_spec hs h
        have hcont : (Region.ready .any ops ls).contains i = true := by
          rw [List.contains_iff_mem]
          exact memN_mem hc.2
        cases b with
        | false =>
          have hs2 := hs1.put (hwi rfl) (sv := .v undef) (v := undef) (fun u hu => by cases hu; rfl)
          have ha2 : AgrR ops ms st0 (put st1 o.dst (.v undef)) := step_agr (i := i) hmem ha h1 ((put_agr _ _ _).mono (fun _ h => h) (fun _ _ => rfl) (fun _ _ => rfl))
          exact wpAnyH_take ho hsel hc.1 hcont (fun c a w hq => absurd hq (hQ _ _ _)) (.inr ⟨hw, rfl⟩) (held_of hss hS hs ha) (ih fuel _ _ _ _ hd' hX hs2 ha2 hS)
        | true =>
          obtain ⟨v, st', hy, hk, hs2, hag⟩ := takeOp_spec (st0 := st0) hX hs1 (fun w' id b cs hw' hm hl => by
            refine hw'.2 id b cs ?_ hm
            rw [hss, memN_append] at hm
            have h1' : memN id (msStores ms) = false := by cases hh : memN id (msStores ms) <;> simp_all
            have h2' : memN id (msNews ms) = false := by cases hh : memN id (msNews ms) <;> simp_all
            rw [← (ha.trans (h1 _ _ _)).hp id h2' h1']
            exact hl)
          have ha2 : AgrR ops ms st0 st' := step_agr (i := i) hmem ha h1 (hag.mono (fun _ h => h) (fun _ _ => rfl) (fun _ _ => rfl))
          exact wpAnyH_take ho hsel hc.1 hcont (fun c a w hq => absurd hq (hQ _ _ _)) (.inl ⟨hw, hy⟩) (held_of hss hS hs ha) (ih fuel _ _ _ _ hd' hk hs2 ha2 hS)
  | one i t ih =>
    intro fuel ls st w a hd h hs ha hS
    obtain ⟨fuel, rfl⟩ : ∃ f, fuel = f + 1 := ⟨fuel - 1, by simp only [HT.depth] at hd; omega⟩
    have hd' : t.depth ≤ fuel := by simp only [HT.depth] at hd; omega
    simp only [vcHeld] at h
    split at h
    case h_2 => exact h.elim
    case h_1 o ho =>
      split at h
      case h_2 => exact h.elim
      case h_1 hr =>
        refine wpAnyH_all (isOne_spec hr) (by simp) fun k hk => ?_
        have : k = i := by simpa using hk
        subst this
        exact held_step hP hcf hss ho hs ha hS (fun st w a h hs ha hS => ih fuel _ st w a hd' h hs ha hS) h
  | two i t j u iht ihu =>
    intro fuel ls st w a hd h hs ha hS
    obtain ⟨fuel, rfl⟩ : ∃ f, fuel = f + 1 := ⟨fuel - 1, by simp only [HT.depth] at hd; omega⟩
    have hd' : t.depth ≤ fuel ∧ u.depth ≤ fuel := by
      simp only [HT.depth] at hd
      cases hb : Nat.ble t.depth u.depth
      · rw [hb] at hd
        have : ¬ t.depth ≤ u.depth := fun hle => by rw [Nat.ble_eq_true_of_le hle] at hb; cases hb
        simp at hd; omega
      · rw [hb] at hd
        have := Nat.le_of_ble_eq_true hb
        simp at hd; omega
    simp only [vcHeld] at h
    split at h
    case h_2 => exact h.elim
    case h_1 o ho =>
      split at h
      case h_2 => exact h.elim
      case h_1 o' ho' =>
        split at h
        case h_2 => exact h.elim
        case h_1 hr =>
          refine wpAnyH_all (isTwo_spec hr) (by simp) fun k hk => ?_
          simp only [List.mem_cons, List.not_mem_nil, or_false] at hk
          rcases hk with rfl | rfl
          · exact held_step hP hcf hss ho hs ha hS (fun st w a h hs ha hS => iht fuel _ st w a hd'.1 h hs ha hS) h.1
          · exact held_step hP hcf hss ho' hs ha hS (fun st w a h hs ha hS => ihu fuel _ st w a hd'.2 h hs ha hS) h.2
end

/-! ### In a round's frame, and behind a mark -/
abbrev wd (ds : List Deferred) (a : Act) : Act := { a with defers := ds }
theorem wd_put (ds : List Deferred) (a : Act) (d : Option Tmp) (v : Value) : (wd ds a).put d v = wd ds (a.put d v) := by cases d <;> rfl
theorem wd_self (a : Act) : wd a.defers a = a := rfl

/-- The fences at hand: none, but for the make of the frame. -/
def Open (F : Fence) : Prop := F = Fence.wide ∨ ∃ l, F = Fence.wide.inRound l
theorem Open.all {F : Fence} (h : Open F) (f : FuncId) : F.fn f := by rcases h with rfl | ⟨l, rfl⟩ <;> trivial
theorem Open.depth {F : Fence} (h : Open F) : F.depth = none := by rcases h with rfl | ⟨l, rfl⟩ <;> rfl
theorem Open.calls {F : Fence} (h : Open F) {m : Nat} {P : Program} {f : FuncId} {args : Array Value} {w : World} {R : Ending → World → Prop} (hc : Calls P f args w R) : CallsIn F m P f args w R := by
  rcases h with rfl | ⟨l, rfl⟩
  · exact callsIn_wide.2 hc
  · exact callsIn_wide.2 hc
theorem Open.round {F : Fence} (h : Open F) {m : Nat} {P : Program} {l fn : Nat} {tmps : Array Value} {as bd : Code} {w : World} {R : Ending → World → Prop} (hc : RoundIn Fence.wide 0 P l fn tmps as bd w R) : RoundIn F m P l fn tmps as bd w R := by
  rcases h with rfl | ⟨l, rfl⟩
  · exact ⟨trivial, fun c cs _ => hc.2 c cs (room_wide _)⟩
  · exact ⟨trivial, fun c cs _ => hc.2 c cs (room_wide _)⟩

theorem exec_defer {P : Program} {ρ : Operand → Value} {o : Oper} {c : Call} {w w' : World} {x : Next} (ho : o.op = .defer c) (h : (execOp ρ o).run P w = .ok x w') : ∃ d, x = .defer d := by
  unfold execOp at h
  simp only [ho, Sem.run_bind] at h
  cases hr : (resolve ρ c o.type).run P w with
  | ok d w2 =>
    rw [hr] at h
    simp only [Result.andThen, Sem.run_pure] at h
    cases h
    exact ⟨_, rfl⟩
  | halt e w2 =>
    rw [hr] at h
    simp only [Result.andThen] at h
    cases h

theorem semAt_of {P : Program} {ρ : Operand → Value} {o : Oper} {w w' : World} {x : Next} (ro : Option Nat) (h : (execOp ρ o).run P w = .ok x w') (hx : ∀ d, x ≠ .defer d) : (o.semAt ro ρ).run P w = .ok x w' := by
  rw [Oper.semAt_eq ro ρ o fun c ho => by obtain ⟨d, hd⟩ := exec_defer ho h; exact hx d hd]
  exact h

theorem up_in {F : Fence} (hF : Open F) {m : Nat} {P : Program} {o : Oper} {a : Act} {w : World} {ds : List Deferred} {next next' : Act → World → Prop} {Q : Exit → Act → World → Prop}
    (hn : ∀ a w, next a w → next' (wd ds a) w) (h : Upg P o a w next ∨ UpgR P o a w next) : o.wpIn F m P (wd ds a) w next' Q := by
  refine ⟨fun f _ => hF.all f, ?_⟩
  have he : (wd ds a).eval = a.eval := rfl
  rw [he]
  rcases h with (⟨v, w', hr, hk⟩ | ⟨w', hr, hk⟩ | ⟨g, args, w', hr, hc⟩) | ⟨l, fn, tmps, as, bd, w', hr, hc⟩
  · rw [semAt_of F.round hr (by simp)]
    show next' ((wd ds a).put o.dst v) w'
    rw [wd_put]
    exact hn _ _ hk
  · rw [semAt_of F.round hr (by simp)]
    show next' ((wd ds a).put o.dst undef) w'
    rw [wd_put]
    exact hn _ _ hk
  · rw [semAt_of F.round hr (by simp)]
    refine ⟨fun h => (by rw [hF.depth] at h; cases h), hF.calls (Calls.mono hc ?_)⟩
    rintro e w'' ⟨v, rfl, hk⟩
    show next' ((wd ds a).put o.dst v) w''
    rw [wd_put]
    exact hn _ _ hk
  · rw [semAt_of F.round hr (by simp)]
    refine ⟨fun h => (by rw [hF.depth] at h; cases h), hF.round (RoundIn.mono hc ?_)⟩
    rintro e w'' ⟨v, rfl, hk⟩
    show next' ((wd ds a).put o.dst v) w''
    rw [wd_put]
    exact hn _ _ hk

theorem upList_in {F : Fence} (hF : Open F) {m : Nat} {P : Program} {ops : Array Oper} {ds : List Deferred} {K : Act → World → Prop} {Q : Exit → Act → World → Prop} (hK : ∀ a w, K a w → Q .normal (wd ds a) w) :
    ∀ (l : List Oper) (a : Act) (w : World), upList P ops K l a w → wpListIn F m P ops Q l (wd ds a) w
  | [], a, w, h => hK a w h
  | o :: rest, a, w, h => by
    simp only [upList] at h
    simp only [wpListIn]
    split
    · rename_i hw
      rw [if_pos hw] at h
      exact up_in hF (upList_in hF hK rest) h
    · rename_i hw
      rw [if_neg hw] at h
      refine ⟨fun f _ => hF.all f, ?_⟩
      rw [wd_put]
      exact upList_in hF hK rest _ _ h

theorem wp_region_up {P : Program} {n id : Nat} {ops : Array Oper} {a : Act} {st : St} {w : World} {Q : Exit → Act → World → Prop} (hs : Sat n a st w) (h : upList P ops (fun a w => Q .normal a w ∧ a.defers = []) ops.toList a w) : (Code.region id ops false).wp P Q a w := by
  refine (wpIn_wide (n := 0)).1 (wpIn_region_list ?_)
  have e : ∀ a : Act, a.defers = [] → wd [] a = a := fun a h => by cases a; simp_all [wd]
  have := upList_in (m := 0) (.inl rfl) (ds := []) (Q := Q) (fun a w hq => by rw [e a hq.2]; exact hq.1) _ _ _ h
  rwa [e a hs.defers] at this

def exitsOk (n : Nat) (c : Code) (an : Ann) (st : St) (kn : St → World → Prop) (kx : List (Nat × (St → World → Prop))) (kr : St → World → Prop) (Q : Exit → Act → World → Prop) : Prop :=
  (∀ st' w' a', kn st' w' → Sat n a' st' w' → Agr (writes c) (news an) (stores an) st st' → Q .normal a' w') ∧
  (∀ id k st' w' a', findK kx id = some k → k st' w' → Sat n a' st' w' → Agr (writes c) (news an) (stores an) st st' → Q (.exit id) a' w') ∧
  (∀ st' w' a', kr st' w' → Sat n a' st' w' → Q .ret a' w')

theorem vc_sound {P : Program} (hP : Plain P) (hm : P.follows .mixedOrders = true) {n : Nat} (c : Code) : ∀ (an : Ann) (st : St) (w : World) (kn : St → World → Prop) (kx : List (Nat × (St → World → Prop)))
    (kr : St → World → Prop) (a : Act) (Q : Exit → Act → World → Prop), vc P n c an st w kn kx kr → Sat n a st w → exitsOk n c an st kn kx kr Q → c.wp P Q a w := by
  induction c with
  | skip =>
    intro an st w kn kx kr a Q h hs ⟨hn, _, _⟩
    simp only [vc] at h
    exact wp_skip (hn _ _ _ h hs (Agr.refl _ _ _ _))
  | label l =>
    intro an st w kn kx kr a Q h hs ⟨hn, _, _⟩
    simp only [vc] at h
    exact wp_label (hn _ _ _ h hs (Agr.refl _ _ _ _))
  | region id ops draw =>
    intro an st w kn kx kr a Q h hs ⟨hn, _, _⟩
    unfold vc at h
    cases an with
    | d =>
      simp only at h
      cases draw with
      | true => exact h.elim
      | false =>
        simp only at h
        exact wp_region_up hs (vcOps_sound hP _ _ _ _ _ h hs fun st' w' a' hk hs' hag => ⟨hn _ _ _ hk hs' hag, hs'.defers⟩)
    | r ms =>
      simp only at h
      cases draw with
      | false =>
        simp only at h
        exact wp_region_up hs (vcOps_sound hP _ _ _ _ _ h hs fun st' w' a' hk hs' hag => ⟨hn _ _ _ hk hs' hag, hs'.defers⟩)
      | true =>
        simp only at h
        split at h
        case h_2 => exact h.elim
        case h_1 hb =>
          simp only [Bool.and_eq_true] at hb
          have hs' : Sat n a st (drewOne w) := ⟨hs.size, hs.defers, hs.slot, hs.heap, hs.dist⟩
          refine wp_region_still hm hb.1 ?_
          refine vcStill_sound hb.2 _ _ _ _ (h _ rfl) hs' fun st' a' hk hs'' hag => hn _ _ _ hk hs'' ?_
          exact hag.mono (fun _ h => h) (fun _ _ => rfl) (fun _ _ => rfl)
    | h t ms =>
      simp only at h
      cases draw with
      | false => exact h.elim
      | true =>
        simp only at h
        split at h
        case h_2 => exact h.elim
        case h_1 hb =>
          simp only [Bool.and_eq_true] at hb
          obtain ⟨S, hS⟩ := h
          obtain ⟨hS1, hS2⟩ := hS _ rfl
          have hs' : Sat n a st (drewOne w) := ⟨hs.size, hs.defers, hs.slot, hs.heap, hs.dist⟩
          refine wp_mono (Q := NoPan Q) ?_ (fun e a w hq => by cases e <;> first | exact hq | exact hq.elim)
          exact wp_region_held hm (vcHeld_sound (st0 := st) (Q := NoPan Q) hP hb.2 hb.1.1 rfl (fun c a w hq => hq) (fun st' w' a' hk hs'' hag => hn _ _ _ hk hs'' hag) t _ _ _ _ _ (Nat.le_of_ble_eq_true hb.1.2) hS2 hs' (Agr.refl _ _ _ _) hS1)
    | _ => exact h.elim
  | seq x y ihx ihy =>
    intro an st w kn kx kr a Q h hs ⟨hn, hx, hr⟩
    have wl : ∀ i, memN i (writes (.seq x y)) = false → memN i (writes x) = false := fun i hi => by
      simp only [writes, memN_append] at hi; cases hh : memN i (writes x) <;> simp_all
    have wr : ∀ i, memN i (writes (.seq x y)) = false → memN i (writes y) = false := fun i hi => by
      simp only [writes, memN_append] at hi; cases hh : memN i (writes y) <;> simp_all
    unfold vc at h
    cases an with
    | s p q =>
      simp only at h
      have nl : ∀ i, memN i (news (.s p q)) = false → memN i (news p) = false := fun i hi => by
        simp only [news, memN_append] at hi; cases hh : memN i (news p) <;> simp_all
      have nr : ∀ i, memN i (news (.s p q)) = false → memN i (news q) = false := fun i hi => by
        simp only [news, memN_append] at hi; cases hh : memN i (news q) <;> simp_all
      have sl : ∀ i, memN i (stores (.s p q)) = false → memN i (stores p) = false := fun i hi => by
        simp only [stores, memN_append] at hi; cases hh : memN i (stores p) <;> simp_all
      have sr : ∀ i, memN i (stores (.s p q)) = false → memN i (stores q) = false := fun i hi => by
        simp only [stores, memN_append] at hi; cases hh : memN i (stores q) <;> simp_all
      refine wp_seq (ihx p st w _ kx kr a _ h hs ⟨?_, ?_, ?_⟩)
      · intro st1 w1 a1 hk hs1 hag1
        exact ihy q st1 w1 kn kx kr a1 Q hk hs1 ⟨fun st2 w2 a2 hk2 hs2 hag2 => hn _ _ _ hk2 hs2 ((hag1.mono wl nl sl).trans (hag2.mono wr nr sr)),
          fun id k st2 w2 a2 hf hk2 hs2 hag2 => hx id k _ _ _ hf hk2 hs2 ((hag1.mono wl nl sl).trans (hag2.mono wr nr sr)), hr⟩
      · intro id k st1 w1 a1 hf hk hs1 hag1
        exact hx id k _ _ _ hf hk hs1 (hag1.mono wl nl sl)
      · intro st1 w1 a1 hk hs1
        exact hr _ _ _ hk hs1
    | sj l p q =>
      simp only at h
      split at h
      case h_2 => exact h.elim
      case h_1 hl =>
        obtain ⟨J, h1, h2⟩ := h
        have nl : ∀ i, memN i (news (.sj l p q)) = false → memN i (news p) = false := fun i hi => by
          simp only [news, memN_append] at hi; cases hh : memN i (news p) <;> simp_all
        have nr : ∀ i, memN i (news (.sj l p q)) = false → memN i (news q) = false := fun i hi => by
          simp only [news, memN_append] at hi; cases hh : memN i (news q) <;> simp_all
        have sl : ∀ i, memN i (stores (.sj l p q)) = false → memN i (stores p) = false := fun i hi => by
          simp only [stores, memN_append] at hi; cases hh : memN i (stores p) <;> simp_all
        have sr : ∀ i, memN i (stores (.sj l p q)) = false → memN i (stores q) = false := fun i hi => by
          simp only [stores, memN_append] at hi; cases hh : memN i (stores q) <;> simp_all
        refine wp_seq (ihx p st w _ kx kr a _ h1 hs ⟨?_, ?_, ?_⟩)
        · intro st1 w1 a1 hk hs1 hag1
          obtain ⟨s', hsub, hag', hk'⟩ := allP_spec hag1 l J _ _ hl (left_sub hag1) (left_agr _ _ _) h2 hk
          exact ihy q s' w1 kn kx kr a1 Q hk' (hsub.sat hs1) ⟨fun st2 w2 a2 hk2 hs2 hag2 => hn _ _ _ hk2 hs2 ((hag'.mono wl nl sl).trans (hag2.mono wr nr sr)),
            fun id k st2 w2 a2 hf hk2 hs2 hag2 => hx id k _ _ _ hf hk2 hs2 ((hag'.mono wl nl sl).trans (hag2.mono wr nr sr)), hr⟩
        · intro id k st1 w1 a1 hf hk hs1 hag1
          exact hx id k _ _ _ hf hk hs1 (hag1.mono wl nl sl)
        · intro st1 w1 a1 hk hs1
          exact hr _ _ _ hk hs1
    | _ => exact h.elim
  | cond c x y ihx ihy =>
    intro an st w kn kx kr a Q h hs ⟨hn, hx, hr⟩
    have wl : ∀ i, memN i (writes (.cond c x y)) = false → memN i (writes x) = false := fun i hi => by
      simp only [writes, memN_append] at hi; cases hh : memN i (writes x) <;> simp_all
    have wr : ∀ i, memN i (writes (.cond c x y)) = false → memN i (writes y) = false := fun i hi => by
      simp only [writes, memN_append] at hi; cases hh : memN i (writes y) <;> simp_all
    unfold vc at h
    cases an with
    | c p q =>
      simp only at h
      have nl : ∀ i, memN i (news (.c p q)) = false → memN i (news p) = false := fun i hi => by
        simp only [news, memN_append] at hi; cases hh : memN i (news p) <;> simp_all
      have nr : ∀ i, memN i (news (.c p q)) = false → memN i (news q) = false := fun i hi => by
        simp only [news, memN_append] at hi; cases hh : memN i (news q) <;> simp_all
      have sl : ∀ i, memN i (stores (.c p q)) = false → memN i (stores p) = false := fun i hi => by
        simp only [stores, memN_append] at hi; cases hh : memN i (stores p) <;> simp_all
      have sr : ∀ i, memN i (stores (.c p q)) = false → memN i (stores q) = false := fun i hi => by
        simp only [stores, memN_append] at hi; cases hh : memN i (stores q) <;> simp_all
      split at h
      case h_2 => exact h.elim
      case h_1 hc =>
        split at h
        case h_2 => exact h.elim
        case h_1 t ht =>
          rw [hs.ev hc] at ht
          cases t
          · exact wp_cond_false ht (ihy q st w kn kx kr a Q h hs ⟨fun st2 w2 a2 hk2 hs2 hag2 => hn _ _ _ hk2 hs2 (hag2.mono wr nr sr),
              fun id k st2 w2 a2 hf hk2 hs2 hag2 => hx id k _ _ _ hf hk2 hs2 (hag2.mono wr nr sr), hr⟩)
          · exact wp_cond_true ht (ihx p st w kn kx kr a Q h hs ⟨fun st2 w2 a2 hk2 hs2 hag2 => hn _ _ _ hk2 hs2 (hag2.mono wl nl sl),
              fun id k st2 w2 a2 hf hk2 hs2 hag2 => hx id k _ _ _ hf hk2 hs2 (hag2.mono wl nl sl), hr⟩)
    | _ => exact h.elim
  | block id x ih =>
    intro an st w kn kx kr a Q h hs ⟨hn, hx, hr⟩
    unfold vc at h
    cases an with
    | b p =>
      simp only at h
      refine wp_block (ih p st w kn _ kr a _ h hs ⟨fun st2 w2 a2 hk2 hs2 hag2 => hn _ _ _ hk2 hs2 hag2, fun id' k st2 w2 a2 hf hk2 hs2 hag2 => ?_, fun st2 w2 a2 hk2 hs2 => hr _ _ _ hk2 hs2⟩)
      simp only [findK] at hf
      simp only [Exit.inBlock]
      by_cases e : id = id'
      · subst e
        simp only [beq_yes, cond_true, Option.some.injEq] at hf
        subst hf
        rw [if_pos rfl]
        exact hn _ _ _ hk2 hs2 hag2
      · simp only [beq_no e, cond_false] at hf
        rw [if_neg (Ne.symm e)]
        exact hx _ _ _ _ _ hf hk2 hs2 hag2
    | bj l p =>
      simp only at h
      split at h
      case h_2 => exact h.elim
      case h_1 hl =>
        obtain ⟨J, h1, h2⟩ := h
        have fin : ∀ st2 w2 a2, applyP l J st2 w2 → Sat n a2 st2 w2 → Agr (writes x) (news p) (stores p) st st2 → Q .normal a2 w2 := by
          intro st2 w2 a2 hk2 hs2 hag2
          obtain ⟨s', hsub, hag', hk'⟩ := allP_spec hag2 l J _ _ hl (left_sub hag2) (left_agr _ _ _) h2 hk2
          exact hn _ _ _ hk' (hsub.sat hs2) hag'
        refine wp_block (ih p st w _ _ kr a _ h1 hs ⟨fun st2 w2 a2 hk2 hs2 hag2 => fin _ _ _ hk2 hs2 hag2, fun id' k st2 w2 a2 hf hk2 hs2 hag2 => ?_, fun st2 w2 a2 hk2 hs2 => hr _ _ _ hk2 hs2⟩)
        simp only [findK] at hf
        simp only [Exit.inBlock]
        by_cases e : id = id'
        · subst e
          simp only [beq_yes, cond_true, Option.some.injEq] at hf
          subst hf
          rw [if_pos rfl]
          exact fin _ _ _ hk2 hs2 hag2
        · simp only [beq_no e, cond_false] at hf
          rw [if_neg (Ne.symm e)]
          exact hx _ _ _ _ _ hf hk2 hs2 hag2
    | _ => exact h.elim
  | loop x ih =>
    intro an st w kn kx kr a Q h hs ⟨hn, hx, hr⟩
    unfold vc at h
    cases an with
    | l l p =>
      simp only at h
      split at h
      case h_2 => exact h.elim
      case h_1 hl =>
        obtain ⟨I, μ, h0, h1⟩ := h
        refine wp_loop' (fun m a w => ∃ st', Sat n a st' w ∧ Agr (writes x) (news p) (stores p) st st' ∧ applyP l I st' w ∧ m = applyM l μ st' w) (applyM l μ st w) ⟨st, hs, Agr.refl _ _ _ _, h0, rfl⟩ ?_
        rintro m a1 w1 ⟨st1, hs1, hag1, hI, rfl⟩
        obtain ⟨s', hsub, hag', hk'⟩ := allM_spec hag1 l I μ _ _ hl (left_sub hag1) (left_agr _ _ _) h1 hI
        refine ih p s' w1 _ kx kr a1 _ hk' (hsub.sat hs1) ⟨fun st2 w2 a2 hk2 hs2 hag2 => ?_, fun id k st2 w2 a2 hf hk2 hs2 hag2 => ?_, fun st2 w2 a2 hk2 hs2 => hr _ _ _ hk2 hs2⟩
        · obtain ⟨hI2, hlt⟩ := andLt_spec l I μ hk2
          exact ⟨_, hlt, st2, hs2, hag'.trans hag2, hI2, rfl⟩
        · exact hx id k _ _ _ hf hk2 hs2 (hag'.trans hag2)
    | _ => exact h.elim
  | scope x ih =>
    intro an st w kn kx kr a Q h hs ⟨hn, hx, hr⟩
    unfold vc at h
    cases an with
    | b p =>
      simp only at h
      exact wp_scope_straight (ih p st w kn kx kr a _ h hs ⟨fun st2 w2 a2 hk2 hs2 hag2 => hn _ _ _ hk2 hs2 hag2, fun id' k st2 w2 a2 hf hk2 hs2 hag2 => hx _ _ _ _ _ hf hk2 hs2 hag2, fun st2 w2 a2 hk2 hs2 => hr _ _ _ hk2 hs2⟩)
    | _ => exact h.elim
  | exit id =>
    intro an st w kn kx kr a Q h hs ⟨_, hx, _⟩
    unfold vc at h
    split at h
    case h_2 => exact h.elim
    case h_1 k hk => exact wp_exit (hx id k _ _ _ hk h hs (Agr.refl _ _ _ _))
  | ret =>
    intro an st w kn kx kr a Q h hs ⟨_, _, hr⟩
    unfold vc at h
    exact wp_ret (hr _ _ _ h hs)
  | rangeFunc f ps as b iha ihb => intro an st w kn kx kr a Q h; unfold vc at h; exact h.elim
  | goto l => intro an st w kn kx kr a Q h; unfold vc at h; exact h.elim
  | refuse y => intro an st w kn kx kr a Q h; unfold vc at h; exact h.elim

def resOne (tmps : Array Value) : ResultVar → Sem Value
  | .tmp t => pure (tmps.getD t undef)
  | .cell a t => do loadVar t (← asAddr (tmps.getD a undef))
theorem results_eq (fn : Func) (tmps : Array Value) : results fn tmps = (fn.results.mapM (resOne tmps) >>= fun vs => pure (if h : vs.size = 1 then vs[0] else .tuple vs)) := rfl

theorem res_run {P : Program} {n : Nat} {a : Act} {st : St} {w : World} (hs : Sat n a st w) : ∀ (l : List ResultVar) (vs : List Value), res P st l = some vs →
    (l.mapM (resOne a.tmps)).run P w = .ok vs w
  | [], vs, h => by cases h; simp
  | .tmp t :: l, vs, h => by
    simp only [res] at h
    split at h
    case h_2 => cases h
    case h_1 v r hv hr =>
      cases h
      have h1 := hs.slot t v hv
      have h2 := res_run hs l r hr
      have h3 : (resOne a.tmps (.tmp t)).run P w = .ok v w := by simp [resOne, Array.getD_eq_getD_getElem?, h1]
      rw [List.mapM_cons, Sem.run_bind, h3, Result.andThen_ok, Sem.run_bind, h2, Result.andThen_ok, Sem.run_pure]
  | .cell c t :: l, vs, h => by
    simp only [res] at h
    split at h
    case h_2 => cases h
    case h_1 id off hl =>
      split at h
      case h_2 => cases h
      case h_1 b cs hh =>
        split at h
        case h_2 => cases h
        case h_1 v r hv hr =>
          cases h
          have h2 := res_run hs l r hr
          have h1 := hs.slot c (.pointer (some ⟨b, off, none⟩)) (by simp [lookV, hl, svVal, hh])
          obtain ⟨T, hb⟩ := hs.heap _ _ _ hh
          have h3 : (loadVar t ⟨b, off, none⟩).run P w = .ok v w := by
            have := run_load_own (P := P) hb hv
            simpa [Instr.loadAt, Instr.sureAddr] using this
          have h4 : (resOne a.tmps (.cell c t)).run P w = .ok v w := by simp [resOne, Array.getD_eq_getD_getElem?, h1, asAddr, h3]
          rw [List.mapM_cons, Sem.run_bind, h4, Result.andThen_ok, Sem.run_bind, h2, Result.andThen_ok, Sem.run_pure]

theorem resV_run {P : Program} {fn : Func} {n : Nat} {a : Act} {st : St} {w : World} {v : Value} (hs : Sat n a st w) (h : resV P fn st = some v) : (results fn a.tmps).run P w = .ok v w := by
  unfold resV at h
  have key : ∀ vs, res P st fn.results.toList = some vs → (fn.results.mapM (resOne a.tmps)).run P w = .ok vs.toArray w := by
    intro vs hv
    rw [Array.mapM_eq_mapM_toList, Sem.run_map, res_run hs _ _ hv, Result.andThen_ok]
  rw [results_eq, Sem.run_bind]
  split at h
  · rename_i u hu
    cases h
    rw [key _ hu, Result.andThen_ok]
    simp
  · rename_i l hl hu
    cases h
    rw [key _ hu, Result.andThen_ok, Sem.run_pure]
    rw [dif_neg]
    intro e
    have : l.length = 1 := by simpa using e
    match l, this with
    | [x], _ => exact hl x rfl
  · cases h

theorem look_arg : ∀ (l : List Value) (k i : Nat), look (argSl k l) i = if k ≤ i then (l[i - k]?).map SV.v else none
  | [], k, i => by simp [argSl, look]
  | v :: l, k, i => by
    simp only [argSl, look_cons, look_arg l (k + 1) i]
    by_cases e : k = i
    · subst e; simp
    · rw [if_neg e]
      by_cases h : k ≤ i
      · rw [if_pos h, if_pos (by omega)]
        have : i - k = (i - (k + 1)) + 1 := by omega
        rw [this]; simp
      · rw [if_neg h, if_neg (by omega)]

/-- **What 'vcFn' asks is enough.** -/
theorem calls_of_vc {P : Program} (hP : Plain P) (hm : P.follows .mixedOrders = true) {f : FuncId} {fn : Func} (hf : P.funcs[f]? = some fn) (an : Ann) (R : RTy) {args : List Value} {w : World} {K : R.α → World → Prop}
    (h : vcFn P fn an R args w K) : callVc P R f args.toArray w K := by
  unfold vcFn at h
  split at h
  case h_2 => exact h.elim
  case h_1 c hc =>
    split at h
    case h_2 => exact h.elim
    case h_1 hn =>
      have hn' := Nat.le_of_ble_eq_true hn
      have hs : Sat fn.ntmps { tmps := args.toArray ++ Array.replicate (fn.ntmps - args.toArray.size) undef, defers := [] } ⟨argSl 0 args, []⟩ w := by
        refine ⟨by simp; omega, rfl, fun i v hv => ?_, fun id b cs h => by simp [hlook] at h, fun id id' b c c' h => by simp [hlook] at h⟩
        simp only [lookV, look_arg, Nat.zero_le, if_true, Nat.sub_zero] at hv
        cases hl : args[i]? with
        | none => simp [hl] at hv
        | some u =>
          simp only [hl, Option.map_some, svVal, Option.some.injEq] at hv
          subst hv
          have hi : i < args.length := (List.getElem?_eq_some_iff.1 hl).1
          rw [Array.getElem?_append, if_pos (by simpa using hi)]
          simpa using hl
      have fin : ∀ (e : Exit) st' w' a', (e = .normal ∨ e = .ret) → retK P fn R K st' w' → Sat fn.ntmps a' st' w' → bodyPost P fn (fun e w' => ∃ x, e = .returned (R.val x) ∧ K x w') e a' w' := by
        intro e st' w' a' he hk hs'
        unfold retK at hk
        split at hk
        case h_2 => exact hk.elim
        case h_1 v hv =>
          split at hk
          case h_2 => exact hk.elim
          case h_1 x hx =>
            have := R.ok v x hx
            subst this
            have hr := resV_run hs' hv
            rcases he with rfl | rfl
            · exact ⟨hs'.defers, _, hr, x, rfl, hk⟩
            · exact ⟨hs'.defers, _, hr, x, rfl, hk⟩
      refine calls_of_wp hf hc (vc_sound hP hm c an _ w _ [] _ _ _ h hs ⟨fun st' w' a' hk hs' _ => fin _ _ _ _ (.inl rfl) hk hs', fun id k st' w' a' hf => (by cases hf), fun st' w' a' hk hs' => fin _ _ _ _ (.inr rfl) hk hs'⟩)

end Go.Vc
