/-
  The words in which the functions of a program are told by 'gen.py': kinds of values, steps, loops, and where ways meet. Of whatever program.
-/
import Derived.Test.YtnnoalpkldpjfaaGreatDoorVcSound
namespace Go.Vc

/-- A slice's header. -/
structure Sl where
  a : Option Addr
  len : Nat
  cap : Nat
def Sl.val (s : Sl) : Value := .slice s.a s.len s.cap
def Sl.nil : Sl := ⟨none, 0, 0⟩

def unI (k : IntKind) : Value → Option Int
  | .int k' n => match decide (k' = k) with | true => some n | false => none
  | _ => none
def unB : Value → Option Bool
  | .bool b => some b
  | _ => none
def unS : Value → Option (List UInt8)
  | .string s => some s.data.toList
  | _ => none
def unSl : Value → Option Sl
  | .slice a l c => some ⟨a, l, c⟩
  | _ => none
def unP : Value → Option (Option Addr)
  | .pointer a => some a
  | _ => none
def unPA : Value → Option Addr
  | .pointer (some a) => some a
  | _ => none
def unM : Value → Option (Option Nat)
  | .map a => some a
  | _ => none
def unU : Value → Option Unit
  | .tuple ⟨[]⟩ => some ()
  | _ => none
def unA : Value → Option (List Value)
  | .agg a => some a.toList
  | _ => none

def one {α : Type} (un : Value → Option α) : List Value → Option α
  | [v] => un v
  | _ => none
theorem one_ok {α : Type} {un : Value → Option α} {val : α → Value} (h : ∀ v x, un v = some x → v = val x) : ∀ l x, one un l = some x → l = [val x]
  | [v], x, hx => by rw [h v x hx]
  | [], x, hx => by cases hx
  | _ :: _ :: _, x, hx => by cases hx

theorem unI_ok (k : IntKind) : ∀ v x, unI k v = some x → v = .int k x
  | .int k' n, x, h => by
    simp only [unI] at h
    split at h
    · rename_i hk
      cases h
      rw [of_decide_eq_true hk]
    · cases h
  | .bool _, x, h | .float _ _, x, h | .complex _ _ _, x, h | .string _, x, h | .pointer _, x, h | .slice _ _ _, x, h | .map _, x, h | .chan _, x, h | .func _ _ _, x, h
  | .nilFunc, x, h | .iface _ _, x, h | .nilIface, x, h | .agg _, x, h | .tuple _, x, h => by cases h

def rI (k : IntKind) : RTy := ⟨Int, .int k, fun x => [.int k x], unI k, one (unI k), unI_ok k, one_ok (unI_ok k)⟩
theorem unB_ok : ∀ v x, unB v = some x → v = .bool x := fun v x h => by cases v <;> cases h; rfl
def rB : RTy := ⟨Bool, .bool, fun x => [.bool x], unB, one unB, unB_ok, one_ok unB_ok⟩
def sval (l : List UInt8) : Value := .string ⟨⟨l⟩⟩
theorem unS_ok : ∀ v x, unS v = some x → v = sval x := fun v x h => by cases v <;> cases h; rfl
def rS : RTy := ⟨List UInt8, sval, fun x => [sval x], unS, one unS, unS_ok, one_ok unS_ok⟩
theorem unSl_ok : ∀ v x, unSl v = some x → v = x.val := fun v x h => by cases v <;> cases h; rfl
def rSl : RTy := ⟨Sl, Sl.val, fun x => [x.val], unSl, one unSl, unSl_ok, one_ok unSl_ok⟩
theorem unP_ok : ∀ v x, unP v = some x → v = .pointer x := fun v x h => by cases v <;> cases h; rfl
def rP : RTy := ⟨Option Addr, .pointer, fun x => [.pointer x], unP, one unP, unP_ok, one_ok unP_ok⟩
theorem unPA_ok : ∀ v x, unPA v = some x → v = .pointer (some x) := fun v x h => by
  unfold unPA at h
  split at h
  · cases h; rfl
  · cases h
def rPA : RTy := ⟨Addr, fun a => .pointer (some a), fun x => [.pointer (some x)], unPA, one unPA, unPA_ok, one_ok unPA_ok⟩
theorem unM_ok : ∀ v x, unM v = some x → v = .map x := fun v x h => by cases v <;> cases h; rfl
def rM : RTy := ⟨Option Nat, .map, fun x => [.map x], unM, one unM, unM_ok, one_ok unM_ok⟩
theorem unU_ok : ∀ v x, unU v = some x → v = .tuple #[] := fun v x h => by
  unfold unU at h
  split at h
  · rfl
  · cases h
def rU : RTy := ⟨Unit, fun _ => .tuple #[], fun _ => [.tuple #[]], unU, one unU, unU_ok, one_ok unU_ok⟩
def rV : RTy := ⟨Value, id, fun x => [x], some, one some, fun v x h => by cases h; rfl, one_ok (val := id) fun v x h => by cases h; rfl⟩
/-- An interface's value that is not nil. -/
def unIf : Value → Option (Nat × Value)
  | .iface t v => some (t, v)
  | _ => none
def ifval (x : Nat × Value) : Value := .iface x.1 x.2
theorem unIf_ok : ∀ v x, unIf v = some x → v = ifval x := fun v x h => by cases v <;> cases h; rfl
def rIf : RTy := ⟨Nat × Value, ifval, fun x => [ifval x], unIf, one unIf, unIf_ok, one_ok unIf_ok⟩
/-- An array, as the row of its cells. -/
def rA : RTy := ⟨List Value, fun l => .agg ⟨l⟩, id, unA, some, fun v x h => by cases v <;> cases h; rfl, fun l x h => by cases h; rfl⟩

/-- A function of the program, or nil, as it lies in a struct. -/
def cfnV : Option Nat → Value
  | none => .nilFunc
  | some g => .func (.func g) #[] #[]
def unC : Value → Option (Option Nat)
  | .nilFunc => some none
  | .func (.func g) ⟨[]⟩ ⟨[]⟩ => some (some g)
  | _ => none
theorem unC_ok : ∀ v x, unC v = some x → v = cfnV x := fun v x h => by
  unfold unC at h
  split at h
  · cases h; rfl
  · cases h; rfl
  · cases h

def unT2 (R1 R2 : RTy) : Value → Option (R1.α × R2.α)
  | .tuple ⟨[a, b]⟩ =>
    match R1.un a, R2.un b with
    | some x, some y => some (x, y)
    | _, _ => none
  | _ => none
theorem unT2_ok (R1 R2 : RTy) : ∀ v x, unT2 R1 R2 v = some x → v = .tuple ⟨[R1.val x.1, R2.val x.2]⟩ := fun v x h => by
  unfold unT2 at h
  split at h
  · rename_i a b
    split at h
    · rename_i p q hp hq
      cases h
      rw [R1.ok a p hp, R2.ok b q hq]
    · cases h
  · cases h
def rT2 (R1 R2 : RTy) : RTy := ⟨R1.α × R2.α, fun x => .tuple ⟨[R1.val x.1, R2.val x.2]⟩, fun x => [.tuple ⟨[R1.val x.1, R2.val x.2]⟩], unT2 R1 R2, one (unT2 R1 R2), unT2_ok R1 R2, one_ok (val := fun x : R1.α × R2.α => .tuple ⟨[R1.val x.1, R2.val x.2]⟩) (unT2_ok R1 R2)⟩
def unT3 (R1 R2 R3 : RTy) : Value → Option (R1.α × R2.α × R3.α)
  | .tuple ⟨[a, b, c]⟩ =>
    match R1.un a, R2.un b, R3.un c with
    | some x, some y, some z => some (x, y, z)
    | _, _, _ => none
  | _ => none
theorem unT3_ok (R1 R2 R3 : RTy) : ∀ v x, unT3 R1 R2 R3 v = some x → v = .tuple ⟨[R1.val x.1, R2.val x.2.1, R3.val x.2.2]⟩ := fun v x h => by
  unfold unT3 at h
  split at h
  · rename_i a b c
    split at h
    · rename_i p q r hp hq hr
      cases h
      rw [R1.ok a p hp, R2.ok b q hq, R3.ok c r hr]
    · cases h
  · cases h
def rT3 (R1 R2 R3 : RTy) : RTy := ⟨R1.α × R2.α × R3.α, fun x => .tuple ⟨[R1.val x.1, R2.val x.2.1, R3.val x.2.2]⟩, fun x => [.tuple ⟨[R1.val x.1, R2.val x.2.1, R3.val x.2.2]⟩], unT3 R1 R2 R3, one (unT3 R1 R2 R3), unT3_ok R1 R2 R3,
  one_ok (val := fun x : R1.α × R2.α × R3.α => .tuple ⟨[R1.val x.1, R2.val x.2.1, R3.val x.2.2]⟩) (unT3_ok R1 R2 R3)⟩

/-- What 'next' hands back while there is more; and at the end. -/
def nxval {α β : Type} (v1 : α → Value) (v2 : β → Value) (x : α × β) : Value := .tuple ⟨[.bool true, v1 x.1, v2 x.2]⟩
def endval (_ : Unit) : Value := .tuple ⟨[.bool false]⟩
def rNx (R1 R2 : RTy) : RTy := ⟨R1.α × R2.α, fun x => .tuple ⟨[.bool true, R1.val x.1, R2.val x.2]⟩, fun x => [.tuple ⟨[.bool true, R1.val x.1, R2.val x.2]⟩], fun _ => none, fun _ => none, fun v x h => (by cases h), fun v x h => (by cases h)⟩
def rEnd : RTy := ⟨Unit, fun _ => .tuple ⟨[.bool false]⟩, fun _ => [.tuple ⟨[.bool false]⟩], fun _ => none, fun _ => none, fun v x h => (by cases h), fun v x h => (by cases h)⟩

/-! ### How a value of a Lean type lies in a slot -/
def pav (a : Addr) : Value := .pointer (some a)
def uval (_ : Unit) : Value := .tuple #[]
def aval (l : List Value) : Value := .agg ⟨l⟩
def vval (v : Value) : Value := v
def tval2 {α β : Type} (v1 : α → Value) (v2 : β → Value) (x : α × β) : Value := .tuple ⟨[v1 x.1, v2 x.2]⟩
def tval3 {α β γ : Type} (v1 : α → Value) (v2 : β → Value) (v3 : γ → Value) (x : α × β × γ) : Value := .tuple ⟨[v1 x.1, v2 x.2.1, v3 x.2.2]⟩

/-! ### Steps -/
def opRd {α : Type} (P : Program) (s : Sem Value) (val : α → Value) (K : α → Prop) (w : World) : Prop := ∃ x, s.run P w = .ok (val x) w ∧ K x
def opTy {α : Type} (P : Program) (s : Sem Value) (val : α → Value) (K : α → World → Prop) (w : World) : Prop := ∃ x w', s.run P w = .ok (val x) w' ∧ K x w'
def opAl {α β : Type} (P : Program) (s : Sem Value) (val1 : α → Value) (val2 : β → Value) (K1 : α → World → Prop) (K2 : β → World → Prop) (w : World) : Prop :=
  (∃ x w', s.run P w = .ok (val1 x) w' ∧ K1 x w') ∨ (∃ x w', s.run P w = .ok (val2 x) w' ∧ K2 x w')
def opEx {α : Type} (P : Program) (g : FuncId) (args : Array Value) (val : α → Value) (K : α → World → Prop) (w : World) : Prop := ∃ x w', (callFunc g args).run P w = .ok (.value (val x)) w' ∧ K x w'
def opUn (P : Program) (s : Sem Unit) (K : World → Prop) (w : World) : Prop := ∃ w', s.run P w = .ok () w' ∧ K w'
def callV {α : Type} (P : Program) (val : α → Value) (g : FuncId) (args : Array Value) (w : World) (K : α → World → Prop) : Prop :=
  Calls P g args w fun e w' => ∃ x, e = .returned (val x) ∧ K x w'
/-- A call of a function value: that it is a function of the program, or a loop's yield, is to be shown. -/
def callF {α : Type} (P : Program) (val : α → Value) (f : Value) (args : Array Value) (w : World) (K : α → World → Prop) : Prop :=
  (∃ g fn, f = .func (.func g) #[] #[] ∧ P.funcs[g]? = some fn ∧ fn.body.isSome = true ∧ callV P val g args w K) ∨
  (∃ l, f = .func (.yield l) #[] #[] ∧ YieldAt Fence.wide 0 P l args w fun e w' => ∃ x, e = .returned (val x) ∧ K x w')
theorem callF_of {α : Type} {P : Program} {val : α → Value} {f : Value} {g : Nat} {fn : Func} {args : Array Value} {w : World} {K : α → World → Prop} (hf : f = .func (.func g) #[] #[]) (hg : P.funcs[g]? = some fn) (hb : fn.body.isSome = true) (h : callV P val g args w K) : callF P val f args w K := .inl ⟨g, fn, hf, hg, hb, h⟩
def newV (K : Nat → World → Prop) (w : World) : Prop := ∀ b w', New b w w' → K b w'
def wrM (b : Nat) (K : World → Prop) (w : World) : Prop := ∀ w', Wr b w w' → K w'
def drewM (K : World → Prop) (w : World) : Prop := ∀ w', w' = drewOne w → K w'

/-- A region that draws its order, gone through under a condition on its worlds. -/
def heldM (X : (World → Prop) → World → Prop) (w : World) : Prop := ∃ S : World → Prop, ∀ w', w' = drewOne w → S w' ∧ X S w'
def opH {α : Type} (P : Program) (S : World → Prop) (s : Sem Value) (val : α → Value) (K : α → Prop) : Prop := ∃ x, (∀ w', S w' → s.run P w' = .ok (val x) w') ∧ K x

/-! ### Reckoning -/
def bAnd (k : IntKind) (x y : Int) : Int := k.wrap (BitVec.ofInt k.bits x &&& BitVec.ofInt k.bits y).toNat
def bOr (k : IntKind) (x y : Int) : Int := k.wrap (BitVec.ofInt k.bits x ||| BitVec.ofInt k.bits y).toNat
def bXor (k : IntKind) (x y : Int) : Int := k.wrap (BitVec.ofInt k.bits x ^^^ BitVec.ofInt k.bits y).toNat
def bAndNot (k : IntKind) (x y : Int) : Int := k.wrap (BitVec.ofInt k.bits x &&& ~~~BitVec.ofInt k.bits y).toNat
def shL (k : IntKind) (x y : Int) : Int := k.wrap (x * 2 ^ (min y.toNat k.bits))
def shR (k : IntKind) (x y : Int) : Int := x.fdiv (2 ^ (min y.toNat k.bits))
def imax (x y : Int) : Int := if y > x then y else x
def imin (x y : Int) : Int := if y < x then y else x
def i64 (n : Int) : Int := IntKind.i64.wrap n
def strEq (a b : List UInt8) : Bool := (⟨⟨a⟩⟩ : ByteArray).toList == (⟨⟨b⟩⟩ : ByteArray).toList
def strLt (a b : List UInt8) : Bool := Op.bytesLess (⟨⟨a⟩⟩ : ByteArray).toList (⟨⟨b⟩⟩ : ByteArray).toList

def binSem (op : BinOp) (t : TypeId) (x y : Operand) (a b : Value) : Sem Value := do eqGuard op t x y a b; binOp op t a b

/-! ### Loops, and where ways meet -/
def loop0 (body : (World → Prop) → World → Prop) (w : World) : Prop :=
  ∃ (I : World → Prop) (μ : World → Nat), I w ∧ ∀ w', I w' → body (fun w'' => I w'' ∧ μ w'' < μ w') w'
def loop1 {α1 : Type} (a1 : α1) (body : α1 → (α1 → World → Prop) → World → Prop) (w : World) : Prop :=
  ∃ (I : α1 → World → Prop) (μ : α1 → World → Nat), I a1 w ∧ ∀ x1 w', I x1 w' → body x1 (fun y1 w'' => I y1 w'' ∧ μ y1 w'' < μ x1 w') w'
def loop2 {α1 α2 : Type} (a1 : α1) (a2 : α2) (body : α1 → α2 → (α1 → α2 → World → Prop) → World → Prop) (w : World) : Prop :=
  ∃ (I : α1 → α2 → World → Prop) (μ : α1 → α2 → World → Nat), I a1 a2 w ∧ ∀ x1 x2 w', I x1 x2 w' → body x1 x2 (fun y1 y2 w'' => I y1 y2 w'' ∧ μ y1 y2 w'' < μ x1 x2 w') w'
def loop3 {α1 α2 α3 : Type} (a1 : α1) (a2 : α2) (a3 : α3) (body : α1 → α2 → α3 → (α1 → α2 → α3 → World → Prop) → World → Prop) (w : World) : Prop :=
  ∃ (I : α1 → α2 → α3 → World → Prop) (μ : α1 → α2 → α3 → World → Nat), I a1 a2 a3 w ∧ ∀ x1 x2 x3 w', I x1 x2 x3 w' → body x1 x2 x3 (fun y1 y2 y3 w'' => I y1 y2 y3 w'' ∧ μ y1 y2 y3 w'' < μ x1 x2 x3 w') w'
def loop4 {α1 α2 α3 α4 : Type} (a1 : α1) (a2 : α2) (a3 : α3) (a4 : α4) (body : α1 → α2 → α3 → α4 → (α1 → α2 → α3 → α4 → World → Prop) → World → Prop) (w : World) : Prop :=
  ∃ (I : α1 → α2 → α3 → α4 → World → Prop) (μ : α1 → α2 → α3 → α4 → World → Nat), I a1 a2 a3 a4 w ∧ ∀ x1 x2 x3 x4 w', I x1 x2 x3 x4 w' → body x1 x2 x3 x4 (fun y1 y2 y3 y4 w'' => I y1 y2 y3 y4 w'' ∧ μ y1 y2 y3 y4 w'' < μ x1 x2 x3 x4 w') w'
def loop5 {α1 α2 α3 α4 α5 : Type} (a1 : α1) (a2 : α2) (a3 : α3) (a4 : α4) (a5 : α5) (body : α1 → α2 → α3 → α4 → α5 → (α1 → α2 → α3 → α4 → α5 → World → Prop) → World → Prop) (w : World) : Prop :=
  ∃ (I : α1 → α2 → α3 → α4 → α5 → World → Prop) (μ : α1 → α2 → α3 → α4 → α5 → World → Nat), I a1 a2 a3 a4 a5 w ∧ ∀ x1 x2 x3 x4 x5 w', I x1 x2 x3 x4 x5 w' → body x1 x2 x3 x4 x5 (fun y1 y2 y3 y4 y5 w'' => I y1 y2 y3 y4 y5 w'' ∧ μ y1 y2 y3 y4 y5 w'' < μ x1 x2 x3 x4 x5 w') w'
def loop6 {α1 α2 α3 α4 α5 α6 : Type} (a1 : α1) (a2 : α2) (a3 : α3) (a4 : α4) (a5 : α5) (a6 : α6) (body : α1 → α2 → α3 → α4 → α5 → α6 → (α1 → α2 → α3 → α4 → α5 → α6 → World → Prop) → World → Prop) (w : World) : Prop :=
  ∃ (I : α1 → α2 → α3 → α4 → α5 → α6 → World → Prop) (μ : α1 → α2 → α3 → α4 → α5 → α6 → World → Nat), I a1 a2 a3 a4 a5 a6 w ∧ ∀ x1 x2 x3 x4 x5 x6 w', I x1 x2 x3 x4 x5 x6 w' → body x1 x2 x3 x4 x5 x6 (fun y1 y2 y3 y4 y5 y6 w'' => I y1 y2 y3 y4 y5 y6 w'' ∧ μ y1 y2 y3 y4 y5 y6 w'' < μ x1 x2 x3 x4 x5 x6 w') w'
def loop7 {α1 α2 α3 α4 α5 α6 α7 : Type} (a1 : α1) (a2 : α2) (a3 : α3) (a4 : α4) (a5 : α5) (a6 : α6) (a7 : α7) (body : α1 → α2 → α3 → α4 → α5 → α6 → α7 → (α1 → α2 → α3 → α4 → α5 → α6 → α7 → World → Prop) → World → Prop) (w : World) : Prop :=
  ∃ (I : α1 → α2 → α3 → α4 → α5 → α6 → α7 → World → Prop) (μ : α1 → α2 → α3 → α4 → α5 → α6 → α7 → World → Nat), I a1 a2 a3 a4 a5 a6 a7 w ∧ ∀ x1 x2 x3 x4 x5 x6 x7 w', I x1 x2 x3 x4 x5 x6 x7 w' → body x1 x2 x3 x4 x5 x6 x7 (fun y1 y2 y3 y4 y5 y6 y7 w'' => I y1 y2 y3 y4 y5 y6 y7 w'' ∧ μ y1 y2 y3 y4 y5 y6 y7 w'' < μ x1 x2 x3 x4 x5 x6 x7 w') w'
def loop8 {α1 α2 α3 α4 α5 α6 α7 α8 : Type} (a1 : α1) (a2 : α2) (a3 : α3) (a4 : α4) (a5 : α5) (a6 : α6) (a7 : α7) (a8 : α8) (body : α1 → α2 → α3 → α4 → α5 → α6 → α7 → α8 → (α1 → α2 → α3 → α4 → α5 → α6 → α7 → α8 → World → Prop) → World → Prop) (w : World) : Prop :=
  ∃ (I : α1 → α2 → α3 → α4 → α5 → α6 → α7 → α8 → World → Prop) (μ : α1 → α2 → α3 → α4 → α5 → α6 → α7 → α8 → World → Nat), I a1 a2 a3 a4 a5 a6 a7 a8 w ∧ ∀ x1 x2 x3 x4 x5 x6 x7 x8 w', I x1 x2 x3 x4 x5 x6 x7 x8 w' → body x1 x2 x3 x4 x5 x6 x7 x8 (fun y1 y2 y3 y4 y5 y6 y7 y8 w'' => I y1 y2 y3 y4 y5 y6 y7 y8 w'' ∧ μ y1 y2 y3 y4 y5 y6 y7 y8 w'' < μ x1 x2 x3 x4 x5 x6 x7 x8 w') w'
/-- Ways meet: of the world alone, of one value, of more. -/
def join0 (X : (World → Prop) → Prop) (Y : World → Prop) : Prop := ∃ J : World → Prop, X J ∧ ∀ w, J w → Y w
def join1 {α1 : Type} (X : (α1 → World → Prop) → Prop) (Y : α1 → World → Prop) : Prop := ∃ J : α1 → World → Prop, X J ∧ ∀ x1 w, J x1 w → Y x1 w
def join2 {α1 α2 : Type} (X : (α1 → α2 → World → Prop) → Prop) (Y : α1 → α2 → World → Prop) : Prop := ∃ J : α1 → α2 → World → Prop, X J ∧ ∀ x1 x2 w, J x1 x2 w → Y x1 x2 w
def join3 {α1 α2 α3 : Type} (X : (α1 → α2 → α3 → World → Prop) → Prop) (Y : α1 → α2 → α3 → World → Prop) : Prop := ∃ J : α1 → α2 → α3 → World → Prop, X J ∧ ∀ x1 x2 x3 w, J x1 x2 x3 w → Y x1 x2 x3 w
def join4 {α1 α2 α3 α4 : Type} (X : (α1 → α2 → α3 → α4 → World → Prop) → Prop) (Y : α1 → α2 → α3 → α4 → World → Prop) : Prop := ∃ J : α1 → α2 → α3 → α4 → World → Prop, X J ∧ ∀ x1 x2 x3 x4 w, J x1 x2 x3 x4 w → Y x1 x2 x3 x4 w
def join5 {α1 α2 α3 α4 α5 : Type} (X : (α1 → α2 → α3 → α4 → α5 → World → Prop) → Prop) (Y : α1 → α2 → α3 → α4 → α5 → World → Prop) : Prop := ∃ J : α1 → α2 → α3 → α4 → α5 → World → Prop, X J ∧ ∀ x1 x2 x3 x4 x5 w, J x1 x2 x3 x4 x5 w → Y x1 x2 x3 x4 x5 w
def join6 {α1 α2 α3 α4 α5 α6 : Type} (X : (α1 → α2 → α3 → α4 → α5 → α6 → World → Prop) → Prop) (Y : α1 → α2 → α3 → α4 → α5 → α6 → World → Prop) : Prop := ∃ J : α1 → α2 → α3 → α4 → α5 → α6 → World → Prop, X J ∧ ∀ x1 x2 x3 x4 x5 x6 w, J x1 x2 x3 x4 x5 x6 w → Y x1 x2 x3 x4 x5 x6 w
def join7 {α1 α2 α3 α4 α5 α6 α7 : Type} (X : (α1 → α2 → α3 → α4 → α5 → α6 → α7 → World → Prop) → Prop) (Y : α1 → α2 → α3 → α4 → α5 → α6 → α7 → World → Prop) : Prop := ∃ J : α1 → α2 → α3 → α4 → α5 → α6 → α7 → World → Prop, X J ∧ ∀ x1 x2 x3 x4 x5 x6 x7 w, J x1 x2 x3 x4 x5 x6 x7 w → Y x1 x2 x3 x4 x5 x6 x7 w
def join8 {α1 α2 α3 α4 α5 α6 α7 α8 : Type} (X : (α1 → α2 → α3 → α4 → α5 → α6 → α7 → α8 → World → Prop) → Prop) (Y : α1 → α2 → α3 → α4 → α5 → α6 → α7 → α8 → World → Prop) : Prop := ∃ J : α1 → α2 → α3 → α4 → α5 → α6 → α7 → α8 → World → Prop, X J ∧ ∀ x1 x2 x3 x4 x5 x6 x7 x8 w, J x1 x2 x3 x4 x5 x6 x7 x8 w → Y x1 x2 x3 x4 x5 x6 x7 x8 w

/-- The kernel's word that what is told is what 'vcFn' asks. -/
theorem calls_of {P : Program} (hP : Plain P) (hm : P.follows .mixedOrders = true) {f : FuncId} {fn : Func} (hf : P.funcs[f]? = some fn) (an : Ann) (R : RTy) {args : List Value} {w : World} {K : R.α → World → Prop} {F : Prop}
    (he : vcFn P fn an R args w K = F) (h : F) : callVc P R f args.toArray w K := calls_of_vc hP hm hf an R (he ▸ h)

theorem plain_of {P : Program} (h : (P.funcs.toList.all fun fn => fn.body.isNone || !(fn.name == "runtime.NumGoroutine")) = true) : Plain P := by
  intro g fn hg hb
  have h1 := List.all_eq_true.1 h fn (by rw [← Array.getElem?_toList] at hg; exact List.mem_of_getElem? hg)
  cases hx : (fn.name == "runtime.NumGoroutine")
  · rfl
  · rw [hx] at h1
    cases hy : fn.body <;> simp_all
end Go.Vc
