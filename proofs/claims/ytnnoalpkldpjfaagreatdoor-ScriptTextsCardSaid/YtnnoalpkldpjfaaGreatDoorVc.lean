/-
  A calculus of verification conditions over the model's code, of whatever program: 'vc' computes, from a function's code and a few annotations,
  what is to be shown of it; 'calls_of_vc' (in another text) says that this is enough. Nothing here is about one program.
-/
import Derived.WalkKit
import Derived.KernelRfl
import Derived.Still
import Derived.OrdersHeld
import Derived.RangeFuncSeq
namespace Go.Vc

/-- A kind of value: Lean's type for it, how it lies in a slot and in cells, and how it is read back. -/
structure RTy where
  α : Type
  val : α → Value
  cs : α → List Value
  un : Value → Option α
  ucs : List Value → Option α
  ok : ∀ v x, un v = some x → v = val x
  okc : ∀ l x, ucs l = some x → l = cs x

/-- What a slot is known to hold: a value, or the address of a cell of a variable of the function's own. -/
inductive SV where
  | v (x : Value)
  | p (id off : Nat)
  /-- not known any more -/
  | u

abbrev Sls := List (Nat × SV)
/-- The function's own variables: a name, the block, what it holds. -/
abbrev Hps := List (Nat × Nat × List Value)

structure St where
  sl : Sls
  hp : Hps

def look : Sls → Nat → Option SV
  | [], _ => none
  | (i, v) :: r, j => cond (Nat.beq i j) (some v) (look r j)

def hlook : Hps → Nat → Option (Nat × List Value)
  | [], _ => none
  | (i, v) :: r, j => cond (Nat.beq i j) (some v) (hlook r j)

def svVal (hp : Hps) : SV → Option Value
  | .v x => some x
  | .p id off =>
    match hlook hp id with
    | some (b, _) => some (.pointer (some ⟨b, off, none⟩))
    | none => none
  | .u => none

def lookV (st : St) (t : Nat) : Option Value :=
  match look st.sl t with
  | some sv => svVal st.hp sv
  | none => none

def ev (st : St) : Operand → Value
  | .tmp t => match lookV st t with
    | some v => v
    | none => undef
  | .const v => v
  | .global g => .pointer (some ⟨g, 0, none⟩)
  | .func f => .func (.func f) #[] #[]

/-- An operand that is the address of a cell of an own variable. -/
def evL (st : St) : Operand → Option (Nat × Nat)
  | .tmp t => match look st.sl t with
    | some (.p id off) => some (id, off)
    | _ => none
  | _ => none

def has (st : St) : Operand → Bool
  | .tmp t => match lookV st t with
    | some _ => true
    | none => false
  | _ => true

/-- The operands of an operation, as a list. -/
def opsOf : Op → List Operand
  | .move x | .assign x | .box _ x | .load _ x | .nilCheck x | .unOp _ _ x | .convert _ _ x | .sliceToArrayPointer _ x | .makeInterface _ x
  | .fieldAddr _ x _ | .field _ x _ | .range _ x | .next x _ | .entry x | .typeAssert x _ _ _ | .extract x _ | .panic x => [x]
  | .pick c a b => [c, a, b]
  | .build _ ps | .buildSlice _ _ ps => ps.toList.map (·.2)
  | .store _ a v | .binOp _ _ a v _ | .makeSlice _ a v | .indexAddr _ a v | .index _ a v | .lookup _ a v _ | .mapEntry _ a v => [a, v]
  | .makeFunc _ first captured => first.toList ++ captured.toList
  | .makeMap _ r => r.toList
  | .slice _ x l h m => x :: (l.toList ++ h.toList ++ m.toList)
  | .mapUpdate _ m k v | .entryStore _ m k v | .insert _ m k v => [m, k, v]
  | .call c => (match c.callee with | .value f => [f] | .invoke r _ => [r] | .builtin _ => []) ++ c.args.toList
  | _ => []

/-- Which operations the calculus knows. -/
def known : Op → Bool
  | .makeChan .. | .ready _ | .waits _ | .go _ | .defer _ | .send .. | .recv .. | .select .. => false
  | _ => true

inductive Mode where
  /-- its run is reckoned -/
  | run
  /-- it only reads: its run is shown to hand back a value of a kind, in the same world -/
  | rd (R : RTy)
  /-- its run is shown to hand back a value of a kind -/
  | ty (R : RTy)
  /-- its run is shown to hand back nothing -/
  | un
  /-- a call of a Go function, whose result is of a kind -/
  | call (R : RTy)
  /-- a call of a function value that lies in a variable: that it is a function of the program, or a loop's yield, is to be shown -/
  | callf (R : RTy)
  /-- it hands back a value of one kind, or of another one -/
  | alt (R1 R2 : RTy)
  /-- a call of a function without a body, which the model answers -/
  | ext (R : RTy)
  /-- a new variable of the function's own -/
  | nl (id : Nat)
  /-- a store into a variable of the function's own -/
  | ls (id : Nat)

/-- A pointer that must not be nil. -/
def nilSem : Value → Sem Value
  | .pointer (some a) => pure (.pointer (some a))
  | _ => .halt (.stuck "no pointer")

/-- What an operation that hands back a value does. -/
def valSem (ρ : Operand → Value) (o : Oper) : Sem Value :=
  match o.op with
  | .move x | .assign x => pure (ρ x)
  | .alloc elem => Instr.alloc elem true (.tuple #[])
  | .box elem x => Instr.box elem (ρ x)
  | .build t parts => Instr.build t (parts.toList.map fun p => (p.1, ρ p.2)).toArray
  | .buildSlice t len parts => Instr.buildSlice t len (parts.toList.map fun p => (p.1, ρ p.2)).toArray
  | .load t a => Instr.loadAt t (ρ a)
  | .binOp op xType x y _ => do eqGuard op xType x y (ρ x) (ρ y); binOp op xType (ρ x) (ρ y)
  | .unOp op _ x => Op.unary op (ρ x)
  | .convert src dst x => convert src dst (ρ x)
  | .sliceToArrayPointer arr x => Instr.arrayAt arr (ρ x)
  | .makeInterface xType x => Instr.makeInterface xType (ρ x)
  | .makeFunc fn first captured => Instr.makeFunc fn (first.toList.map ρ).toArray (captured.toList.map ρ).toArray
  | .makeMap t r => Instr.makeMap t (r.map ρ)
  | .makeSlice t l c => Instr.makeSlice t (ρ l) (ρ c)
  | .slice t x lo hi mx => Instr.sliceAt t (ρ x) (lo.map ρ) (hi.map ρ) (mx.map ρ)
  | .fieldAddr s x f => Instr.fieldAt s (ρ x) f
  | .field xType x f => Instr.field xType (ρ x) f
  | .indexAddr t x ix => Instr.indexAt t (ρ x) (ρ ix)
  | .index xType x ix => Instr.index xType (ρ x) (ρ ix)
  | .lookup xType x ix ok => Instr.lookup xType (ρ x) (ρ ix) ok
  | .mapEntry t m k => Instr.mapEntry t (ρ m) (ρ k)
  | .range xType x => Instr.range xType (ρ x)
  | .next it isString => Instr.next (ρ it) isString o.type
  | .entry it => Instr.entry (ρ it)
  | .typeAssert x xType asserted ok => Instr.typeAssert (ρ x) xType asserted ok
  | .extract t ix => Instr.extract (ρ t) ix
  | .nilCheck x => nilSem (ρ x)
  | .call { callee := .builtin .append, args, argTypes } => Builtin.append_ argTypes o.type (args.toList.map ρ).toArray
  | .call { callee := .builtin .len, args, argTypes } => Builtin.len_ argTypes o.type (args.toList.map ρ).toArray
  | .call { callee := .builtin .cap, args, argTypes } => Builtin.cap_ argTypes o.type (args.toList.map ρ).toArray
  | .call { callee := .builtin .copy, args, argTypes } => Builtin.copy_ argTypes o.type (args.toList.map ρ).toArray
  | .call { callee := .builtin .clear, args, argTypes } => Builtin.clear_ argTypes o.type (args.toList.map ρ).toArray
  | .call { callee := .builtin .delete, args, argTypes } => Builtin.delete_ argTypes o.type (args.toList.map ρ).toArray
  | .call { callee := .builtin .max, args, argTypes } => Builtin.max_ argTypes o.type (args.toList.map ρ).toArray
  | .call { callee := .builtin .min, args, argTypes } => Builtin.min_ argTypes o.type (args.toList.map ρ).toArray
  | .call { callee := .builtin .unsafeSliceData, args, argTypes } => Builtin.unsafeSliceData_ argTypes o.type (args.toList.map ρ).toArray
  | .call { callee := .builtin .unsafeString, args, argTypes } => Builtin.unsafeString_ argTypes o.type (args.toList.map ρ).toArray
  | _ => .halt (.stuck "no value")

/-- What an operation that hands back nothing does. -/
def unSem (ρ : Operand → Value) (o : Oper) : Sem Unit :=
  match o.op with
  | .store t a x => Instr.storeAt t (ρ a) (ρ x)
  | .mapUpdate t m k x | .insert t m k x => Instr.mapUpdate t (ρ m) (ρ k) (ρ x)
  | .entryStore t m s x => Instr.entryStore t (ρ m) (ρ s) (ρ x)
  | _ => .halt (.stuck "a value")

/-- Operands of an operator whose run leaves the world alone. -/
def plainTwo : Value → Value → Bool
  | .int _ _, .int _ _ => true
  | .string _, .string _ => true
  | .bool _, .bool _ => true
  | _, _ => false

def isInt : Value → Bool
  | .int _ _ => true
  | _ => false

def allInt : List Value → Bool
  | [] => true
  | v :: l => cond (isInt v) (allInt l) false

/-- A string's or a slice's length hangs on no memory. -/
def flat : List Value → Bool
  | [.string _] => true
  | [.slice _ _ _] => true
  | _ => false

/-- Operations whose run is reckoned: none of them turns the world. -/
def reckoned (st : St) : Op → Bool
  | .move _ | .assign _ | .pick .. | .unOp .. | .extract .. | .makeInterface .. | .makeFunc .. | .field .. | .build .. | .index .. | .typeAssert .. => true
  | .binOp _ _ x y _ => plainTwo (ev st x) (ev st y)
  | .convert _ _ x => isInt (ev st x)
  | .call { callee := .builtin .len, args, .. } | .call { callee := .builtin .cap, args, .. } => flat (args.toList.map (ev st))
  | .call { callee := .builtin .max, args, .. } | .call { callee := .builtin .min, args, .. } => allInt (args.toList.map (ev st))
  | _ => false

def put (st : St) (d : Option Tmp) (sv : SV) : St :=
  match d with
  | some d => ⟨(d, sv) :: st.sl, st.hp⟩
  | none => st

/-- The slot that an operation writes lies in the frame. -/
def within (n : Nat) (d : Option Tmp) : Bool :=
  match d with
  | some d => Nat.ble (d + 1) n
  | none => true

/-- A test whose outcome is not known: both ways. -/
def ifB (b : Bool) (X Y : Prop) : Prop :=
  match b with
  | true => X
  | false => Y

/-- A variable of the function's own is as it was. -/
def kp (b : Nat) (w w' : World) (X : Prop) : Prop := (b < w.heap.size → w'.heap[b]? = w.heap[b]?) ∧ X

def keep (hp : Hps) (w w' : World) (X : Prop) : Prop :=
  match hp with
  | [] => X
  | (_, b, _) :: r => kp b w w' (keep r w w' X)

/-- Nothing but one block has turned. -/
structure Wr (b : Nat) (w w' : World) : Prop where
  os : w'.os = w.os
  tape : w'.tape = w.tape
  output : w'.output = w.output
  size : w'.heap.size = w.heap.size
  block : ∀ k, k ≠ b → w'.heap[k]? = w.heap[k]?

/-- One block is new. -/
def New (b : Nat) (w w' : World) : Prop := b = w.heap.size ∧ ∃ o, w' = w.alloc o

def callVc (P : Program) (R : RTy) (g : FuncId) (args : Array Value) (w : World) (K : R.α → World → Prop) : Prop :=
  Calls P g args w fun e w' => ∃ x, e = .returned (R.val x) ∧ K x w'

def purge1 (id : Nat) : SV → SV
  | .p id' off => cond (Nat.beq id' id) .u (.p id' off)
  | x => x
def purge (id : Nat) : Sls → Sls
  | [] => []
  | (i, x) :: r => (i, purge1 id x) :: purge id r

/-- An own variable's cells, written anew. -/
def setH : Hps → Nat → List Value → Hps
  | [], _, _ => []
  | (i, b, c) :: r, id, cs => cond (Nat.beq i id) ((i, b, cs) :: r) ((i, b, c) :: setH r id cs)

def aggT (P : Program) (t : TypeId) : Bool :=
  match P.underlying t with
  | some (.struct _) | some (.array _ _) => true
  | _ => false
def sizeT (P : Program) (t : TypeId) : Option Nat :=
  match P.info? t with
  | some i => some i.size
  | none => none

def nthV : List Value → Nat → Option Value
  | [], _ => none
  | v :: _, 0 => some v
  | _ :: l, i + 1 => nthV l i
def takeV : Nat → List Value → Option (List Value)
  | 0, _ => some []
  | _ + 1, [] => none
  | n + 1, v :: l => match takeV n l with
    | some r => some (v :: r)
    | none => none
def dropV : Nat → List Value → List Value
  | 0, l => l
  | _ + 1, [] => []
  | n + 1, _ :: l => dropV n l

/-- A variable's value, out of a row of cells. -/
def rdT (P : Program) (t : TypeId) (cs : List Value) (off : Nat) : Option Value :=
  match P.underlying t with
  | some _ =>
    match aggT P t with
    | true =>
      match sizeT P t with
      | some n =>
        match takeV n (dropV off cs) with
        | some l => some (.agg l.toArray)
        | none => none
      | none => none
    | false => nthV cs off
  | none => none

def oneV : Value → Bool
  | .agg _ | .tuple _ => false
  | _ => true
def allOne : List Value → Bool
  | [] => true
  | v :: l => cond (oneV v) (allOne l) false

/-- A row of cells, with some written over from a place on. -/
def wrV : List Value → Nat → List Value → Option (List Value)
  | cs, 0, [] => some cs
  | [], 0, _ :: _ => none
  | _ :: cs, 0, v :: vs => match wrV cs 0 vs with
    | some r => some (v :: r)
    | none => none
  | [], _ + 1, _ => none
  | c :: cs, n + 1, vs => match wrV cs n vs with
    | some r => some (c :: r)
    | none => none

def fieldOff (P : Program) (s : TypeId) (f : Nat) : Option Nat :=
  match P.underlying s with
  | some (.struct fs) =>
    match fs[f]? with
    | some fd =>
      match sizeT P fd.type with
      | some (_ + 1) => some fd.offset
      | _ => none
    | none => none
  | _ => none

/-- One operation. -/
def vcOp (P : Program) (m : Mode) (o : Oper) (st : St) (w : World) (K : St → World → Prop) : Prop :=
  match m with
  | .run =>
    match o.op with
    | .load t a =>
      match evL st a with
      | some (id, off) =>
        match hlook st.hp id with
        | some (_, cs) =>
          match rdT P t cs off with
          | some v => K (put st o.dst (.v v)) w
          | none => False
        | none => False
      | none => False
    | .fieldAddr s a f =>
      match evL st a with
      | some (id, off) =>
        match fieldOff P s f with
        | some k => K (put st o.dst (.p id (off + k))) w
        | none => False
      | none =>
        match ev st a with
        | .pointer (some p) =>
          match fieldOff P s f with
          | some k => K (put st o.dst (.v (.pointer (some (p.add k))))) w
          | none => False
        | _ => False
    | .nilCheck a =>
      match evL st a with
      | some (id, off) => K (put st o.dst (.p id off)) w
      | none =>
        match ev st a with
        | .pointer (some p) => K (put st o.dst (.v (.pointer (some p)))) w
        | _ => False
    | .move a =>
      match evL st a with
      | some (id, off) => K (put st o.dst (.p id off)) w
      | none => K (put st o.dst (.v (ev st a))) w
    | .assign a =>
      match evL st a with
      | some (id, off) => K (put st o.dst (.p id off)) w
      | none => K (put st o.dst (.v (ev st a))) w
    | _ =>
      match reckoned st o.op with
      | true =>
        match (execOp (ev st) o).run P w with
        | .ok (.value v) w' => K (put st o.dst (.v v)) w'
        | _ => False
      | false => False
  | .rd R => ∃ x, (valSem (ev st) o).run P w = .ok (R.val x) w ∧ K (put st o.dst (.v (R.val x))) w
  | .ty R => ∃ x w', (valSem (ev st) o).run P w = .ok (R.val x) w' ∧ keep st.hp w w' (K (put st o.dst (.v (R.val x))) w')
  | .alt R1 R2 => (∃ x w', (valSem (ev st) o).run P w = .ok (R1.val x) w' ∧ keep st.hp w w' (K (put st o.dst (.v (R1.val x))) w')) ∨
      (∃ x w', (valSem (ev st) o).run P w = .ok (R2.val x) w' ∧ keep st.hp w w' (K (put st o.dst (.v (R2.val x))) w'))
  | .ext R =>
    match o.op with
    | .call c =>
      match c.callee with
      | .value f =>
        match ev st f with
        | .func (.func g) first caps => ∃ x w', (callFunc g (first ++ (c.args.toList.map (ev st)).toArray ++ caps)).run P w = .ok (.value (R.val x)) w' ∧ keep st.hp w w' (K (put st o.dst (.v (R.val x))) w')
        | _ => False
      | _ => False
    | _ => False
  | .un => ∃ w', (unSem (ev st) o).run P w = .ok () w' ∧ keep st.hp w w' (K (put st o.dst (.v undef)) w')
  | .call R =>
    match o.op with
    | .call c =>
      match c.callee with
      | .value f =>
        match ev st f with
        | .func (.func g) first caps =>
          match P.funcs[g]? with
          | some fn =>
            match fn.body.isSome with
            | true => callVc P R g (first ++ (c.args.toList.map (ev st)).toArray ++ caps) w fun x w' => keep st.hp w w' (K (put st o.dst (.v (R.val x))) w')
            | false => False
          | none => False
        | _ => False
      | _ => False
    | _ => False
  | .callf R =>
    match o.op with
    | .call c =>
      match c.callee with
      | .value f => (∃ g fn, ev st f = .func (.func g) #[] #[] ∧ P.funcs[g]? = some fn ∧ fn.body.isSome = true ∧
          callVc P R g (c.args.toList.map (ev st)).toArray w fun x w' => keep st.hp w w' (K (put st o.dst (.v (R.val x))) w')) ∨
          (∃ l, ev st f = .func (.yield l) #[] #[] ∧ YieldAt Fence.wide 0 P l (c.args.toList.map (ev st)).toArray w fun e w' => ∃ x, e = .returned (R.val x) ∧ keep st.hp w w' (K (put st o.dst (.v (R.val x))) w'))
      | _ => False
    | _ => False
  | .nl id =>
    match o.op with
    | .alloc e =>
      match (P.info? e).bind (·.zero) with
      | some z => ∀ b w', New b w w' → K (put ⟨purge id st.sl, (id, b, z.cells.toList) :: st.hp⟩ o.dst (.p id 0)) w'
      | none => False
    | .box _ x => ∀ b w', New b w w' → K (put ⟨purge id st.sl, (id, b, (ev st x).cells.toList) :: st.hp⟩ o.dst (.p id 0)) w'
    | _ => False
  | .ls id =>
    match o.op with
    | .store t a x =>
      match evL st a with
      | some (id', off) =>
        match Nat.beq id' id with
        | true =>
          match hlook st.hp id with
          | some (b, cs) =>
            match sizeT P t with
            | some n =>
              match Nat.beq (ev st x).cells.toList.length n && allOne (ev st x).cells.toList with
              | true =>
                match wrV cs off (ev st x).cells.toList with
                | some cs' => ∀ w', Wr b w w' → K (put ⟨st.sl, setH st.hp id cs'⟩ o.dst (.v undef)) w'
                | none => False
              | false => False
            | none => False
          | none => False
        | false => False
      | none => False
    | _ => False

/-- Where a guard's operation has left its answer. -/
def guardSlot (ops : Array Oper) (j : Nat) : Option Nat := (ops[j]?).bind (·.dst)

def allHas (st : St) : List Operand → Bool
  | [] => true
  | x :: l => cond (has st x) (allHas st l) false

def modeAt : List (Nat × Mode) → Nat → Mode
  | [], _ => .run
  | (i, m) :: l, j => cond (Nat.beq i j) m (modeAt l j)

/-- One operation, if its operands are known and its slot lies in the frame. -/
def vcOp' (P : Program) (n : Nat) (m : Mode) (o : Oper) (st : St) (w : World) (K : St → World → Prop) : Prop :=
  match known o.op && within n o.dst && allHas st (opsOf o.op) with
  | true => vcOp P m o st w K
  | false => False

/-- A guard's slot, now that its answer is known. -/
def fix (st : St) (d : Nat) (b : Bool) : St := ⟨(d, .v (.bool b)) :: st.sl, st.hp⟩

/-- The operations of a region, in the order of the text. -/
def vcOps (P : Program) (n : Nat) (ops : Array Oper) (ms : List (Nat × Mode)) : List Oper → Nat → St → World → (St → World → Prop) → Prop
  | [], _, st, w, K => K st w
  | o :: rest, i, st, w, K =>
    match o.guard with
    | none => vcOp' P n (modeAt ms i) o st w fun st' w' => vcOps P n ops ms rest (i + 1) st' w' K
    | some (j, want) =>
      match guardSlot ops j with
      | none => False
      | some d =>
        match look st.sl d with
        | some (.v (.bool b)) =>
          match within n o.dst with
          | true =>
            ifB b
              (match want with
               | true => vcOp' P n (modeAt ms i) o (fix st d true) w fun st' w' => vcOps P n ops ms rest (i + 1) st' w' K
               | false => vcOps P n ops ms rest (i + 1) (put (fix st d true) o.dst (.v undef)) w K)
              (match want with
               | false => vcOp' P n (modeAt ms i) o (fix st d false) w fun st' w' => vcOps P n ops ms rest (i + 1) st' w' K
               | true => vcOps P n ops ms rest (i + 1) (put (fix st d false) o.dst (.v undef)) w K)
          | false => False
        | some (.v (.tuple _)) =>
          match within n o.dst with
          | true => vcOps P n ops ms rest (i + 1) (put st o.dst (.v undef)) w K
          | false => False
        | _ => False

/-- The same in a region that draws its order: all its operations leave the very world alone. -/
def vcStill (P : Program) (n : Nat) (ops : Array Oper) (ms : List (Nat × Mode)) (w : World) : List Oper → Nat → St → (St → Prop) → Prop
  | [], _, st, K => K st
  | o :: rest, i, st, K =>
    match o.guard with
    | none => vcOp' P n (modeAt ms i) o st w fun st' _ => vcStill P n ops ms w rest (i + 1) st' K
    | some (j, want) =>
      match guardSlot ops j with
      | none => False
      | some d =>
        match look st.sl d with
        | some (.v (.bool b)) =>
          match within n o.dst with
          | true =>
            ifB b
              (match want with
               | true => vcOp' P n (modeAt ms i) o (fix st d true) w fun st' _ => vcStill P n ops ms w rest (i + 1) st' K
               | false => vcStill P n ops ms w rest (i + 1) (put (fix st d true) o.dst (.v undef)) K)
              (match want with
               | false => vcOp' P n (modeAt ms i) o (fix st d false) w fun st' _ => vcStill P n ops ms w rest (i + 1) st' K
               | true => vcStill P n ops ms w rest (i + 1) (put (fix st d false) o.dst (.v undef)) K)
          | false => False
        | some (.v (.tuple _)) =>
          match within n o.dst with
          | true => vcStill P n ops ms w rest (i + 1) (put st o.dst (.v undef)) K
          | false => False
        | _ => False

/-- How a region that draws its order is gone through: an operation that may be taken first; the one that must come next; whichever of two comes next. -/
inductive HT where
  | done
  | take (i : Nat) (t : HT)
  | one (i : Nat) (t : HT)
  | two (i : Nat) (t : HT) (j : Nat) (u : HT)
def HT.depth : HT → Nat
  | .done => 0
  | .take _ t => t.depth + 1
  | .one _ t => t.depth + 1
  | .two _ t _ u => cond (Nat.ble t.depth u.depth) u.depth t.depth + 1

/-- An operation under a guard: what follows is told whether it is carried out. -/
def guardV (n : Nat) (ops : Array Oper) (o : Oper) (st : St) (X : St → Bool → Prop) : Prop :=
  match o.guard with
  | none => X st true
  | some (j, want) =>
    match guardSlot ops j with
    | none => False
    | some d =>
      match look st.sl d with
      | some (.v (.bool b)) =>
        match within n o.dst with
        | true => ifB b (X (fix st d true) want) (X (fix st d false) (!want))
        | false => False
      | some (.v (.tuple _)) =>
        match within n o.dst with
        | true => X st false
        | false => False
      | _ => False

def memN : Nat → List Nat → Bool
  | _, [] => false
  | i, j :: l => cond (Nat.beq i j) true (memN i l)

/-- An operation that may be taken first: it yields what it yields in whatever world meets 'S', and leaves it alone. -/
def takeOp (P : Program) (n : Nat) (S : World → Prop) (ss : List Nat) (m : Mode) (o : Oper) (st : St) (w : World) (K : St → Prop) : Prop :=
  match known o.op && within n o.dst && allHas st (opsOf o.op) with
  | true =>
    match m with
    | .run =>
      match o.op with
      | .load _ a =>
        match evL st a with
        | some (id, _) =>
          match memN id ss with
          | false => vcOp P .run o st w fun st' _ => K st'
          | true => False
        | none => False
      | _ => vcOp P .run o st w fun st' _ => K st'
    | .rd R => ∃ x, (∀ w', S w' → (valSem (ev st) o).run P w' = .ok (R.val x) w') ∧ K (put st o.dst (.v (R.val x)))
    | _ => False
  | false => False

def isEmptyN : List Nat → Bool
  | [] => true
  | _ => false
def isOne (i : Nat) : List Nat → Bool
  | [j] => Nat.beq i j
  | _ => false
def isTwo (i j : Nat) : List Nat → Bool
  | [a, b] => Nat.beq i a && Nat.beq j b
  | _ => false

def vcHeld (P : Program) (n : Nat) (ops : Array Oper) (ms : List (Nat × Mode)) (S : World → Prop) (ss : List Nat) : HT → Array Bool → St → World → (St → World → Prop) → Prop
  | .done, ls, st, w, K =>
    match isEmptyN (Region.ready .any ops ls) with
    | true => K st w
    | false => False
  | .take i t, ls, st, w, K =>
    match ops[i]? with
    | some o =>
      match Region.free .any ops ls i && memN i (Region.ready .any ops ls) with
      | true => guardV n ops o st fun st1 b =>
        match b with
        | true => takeOp P n S ss (modeAt ms i) o st1 w fun st' => vcHeld P n ops ms S ss t (ls.setIfInBounds i true) st' w K
        | false => vcHeld P n ops ms S ss t (ls.setIfInBounds i true) (put st1 o.dst (.v undef)) w K
      | false => False
    | none => False
  | .one i t, ls, st, w, K =>
    match ops[i]? with
    | some o =>
      match isOne i (Region.ready .any ops ls) with
      | true => guardV n ops o st fun st1 b =>
        match b with
        | true => vcOp' P n (modeAt ms i) o st1 w fun st' w' => S w' ∧ vcHeld P n ops ms S ss t (ls.setIfInBounds i true) st' w' K
        | false => vcHeld P n ops ms S ss t (ls.setIfInBounds i true) (put st1 o.dst (.v undef)) w K
      | false => False
    | none => False
  | .two i t j u, ls, st, w, K =>
    match ops[i]? with
    | some o =>
      match ops[j]? with
      | some o' =>
        match isTwo i j (Region.ready .any ops ls) with
        | true =>
          (guardV n ops o st fun st1 b =>
            match b with
            | true => vcOp' P n (modeAt ms i) o st1 w fun st' w' => S w' ∧ vcHeld P n ops ms S ss t (ls.setIfInBounds i true) st' w' K
            | false => vcHeld P n ops ms S ss t (ls.setIfInBounds i true) (put st1 o.dst (.v undef)) w K) ∧
          (guardV n ops o' st fun st1 b =>
            match b with
            | true => vcOp' P n (modeAt ms j) o' st1 w fun st' w' => S w' ∧ vcHeld P n ops ms S ss u (ls.setIfInBounds j true) st' w' K
            | false => vcHeld P n ops ms S ss u (ls.setIfInBounds j true) (put st1 o'.dst (.v undef)) w K)
        | false => False
      | none => False
    | none => False

/-- No call of a function value. -/
def isCf : Mode → Bool
  | .callf _ => true
  | _ => false
def noCf : List (Nat × Mode) → Bool
  | [] => true
  | (_, m) :: l => cond (isCf m) false (noCf l)

/-- A region that draws its order is annotated with reading modes alone. -/
def reads : List (Nat × Mode) → Bool
  | [] => true
  | (_, .run) :: l => reads l
  | (_, .rd _) :: l => reads l
  | _ => false

/-- A slot, or an own variable, of which something is said where ways meet. -/
inductive Key where
  | s (i : Nat)
  | h (id : Nat)

abbrev Live := List (Key × RTy)

/-- A statement about the values of some slots and own variables, and the world. -/
def PredT : Live → Type
  | [] => World → Prop
  | (_, R) :: l => R.α → PredT l
def MeasT : Live → Type
  | [] => World → Nat
  | (_, R) :: l => R.α → MeasT l

/-- What a slot, or an own variable, holds, as a value of a kind. -/
def getK (st : St) (R : RTy) : Key → Option R.α
  | .s i =>
    match lookV st i with
    | some v => R.un v
    | none => none
  | .h id =>
    match hlook st.hp id with
    | some (_, cs) => R.ucs cs
    | none => none

def applyP : (l : Live) → PredT l → St → World → Prop
  | [], J, _, w => J w
  | (k, R) :: l, J, st, w =>
    match getK st R k with
    | some x => applyP l (J x) st w
    | none => False

/-- 'st0': as things stood ahead of what was done; 'st': what of it still stands, and what is said so far. -/
def setK (st0 st : St) (R : RTy) (x : R.α) : Key → Option St
  | .s i => some ⟨(i, .v (R.val x)) :: st.sl, st.hp⟩
  | .h id =>
    match hlook st0.hp id with
    | some (b, _) => some ⟨st.sl, (id, b, R.cs x) :: st.hp⟩
    | none => none

def allP (st0 : St) : (l : Live) → PredT l → St → (St → World → Prop) → Prop
  | [], J, st, k => ∀ w, J w → k st w
  | (i, R) :: l, J, st, k => ∀ x : R.α,
    match setK st0 st R x i with
    | some st' => allP st0 l (J x) st' k
    | none => False

def allM (st0 : St) : (l : Live) → PredT l → MeasT l → St → (St → World → Nat → Prop) → Prop
  | [], J, μ, st, k => ∀ w, J w → k st w (μ w)
  | (i, R) :: l, J, μ, st, k => ∀ x : R.α,
    match setK st0 st R x i with
    | some st' => allM st0 l (J x) (μ x) st' k
    | none => False

def andLt : (l : Live) → PredT l → MeasT l → Nat → PredT l
  | [], J, μ, m => fun w => J w ∧ μ w < m
  | (_, _) :: l, J, μ, m => fun x => andLt l (J x) (μ x) m

inductive Ann where
  | d
  | r (ms : List (Nat × Mode))
  | h (t : HT) (ms : List (Nat × Mode))
  | s (a b : Ann)
  | sj (l : Live) (a b : Ann)
  | c (a b : Ann)
  | b (a : Ann)
  | bj (l : Live) (a : Ann)
  | l (l : Live) (a : Ann)

/-- The slots that a piece of code may write. -/
def opDsts : List Oper → List Nat
  | [] => []
  | o :: l => match o.dst with
    | some d => d :: opDsts l
    | none => opDsts l
def writes : Code → List Nat
  | .region _ ops _ => opDsts ops.toList
  | .seq a b => writes a ++ writes b
  | .cond _ a b => writes a ++ writes b
  | .block _ a => writes a
  | .loop a => writes a
  | .scope a => writes a
  | _ => []

/-- The own variables that are new in a piece of code, and those that it stores into. -/
def msNews : List (Nat × Mode) → List Nat
  | [] => []
  | (_, .nl id) :: l => id :: msNews l
  | _ :: l => msNews l
def msStores : List (Nat × Mode) → List Nat
  | [] => []
  | (_, .ls id) :: l => id :: msStores l
  | _ :: l => msStores l
def news : Ann → List Nat
  | .d => []
  | .r ms | .h _ ms => msNews ms
  | .s a b | .sj _ a b | .c a b => news a ++ news b
  | .b a | .bj _ a | .l _ a => news a
def stores : Ann → List Nat
  | .d => []
  | .r ms | .h _ ms => msStores ms
  | .s a b | .sj _ a b | .c a b => stores a ++ stores b
  | .b a | .bj _ a | .l _ a => stores a

def drop1 (ns : List Nat) : SV → SV
  | .p id off => cond (memN id ns) .u (.p id off)
  | x => x
def dropS (ws ns : List Nat) : Sls → Sls
  | [] => []
  | (i, x) :: r => cond (memN i ws) (dropS ws ns r) ((i, drop1 ns x) :: dropS ws ns r)

def dropH (ns ss : List Nat) : Hps → Hps
  | [] => []
  | (id, x) :: r => cond (memN id ns) (dropH ns ss r) (cond (memN id ss) (dropH ns ss r) ((id, x) :: dropH ns ss r))

/-- What still stands behind a piece of code. -/
def left (c : Code) (an : Ann) (st : St) : St := ⟨dropS (writes c) (news an) st.sl, dropH (news an) (stores an) st.hp⟩

/-- The slots of which something is said are written in the piece of code; no own variable of which something is said is new in it. -/
def liveOk (ws ns : List Nat) : Live → Bool
  | [] => true
  | (.s i, _) :: l => cond (memN i ws) (liveOk ws ns l) false
  | (.h id, _) :: l => cond (memN id ns) false (liveOk ws ns l)

def findK : List (Nat × (St → World → Prop)) → Nat → Option (St → World → Prop)
  | [], _ => none
  | (i, k) :: l, j => cond (Nat.beq i j) (some k) (findK l j)

def drewOne (w : World) : World := { w with drawn := w.drawn + 1 }

/-- What is to be shown of a piece of code. -/
def vc (P : Program) (n : Nat) : Code → Ann → St → World → (St → World → Prop) → List (Nat × (St → World → Prop)) → (St → World → Prop) → Prop
  | .skip, _, st, w, kn, _, _ => kn st w
  | .label _, _, st, w, kn, _, _ => kn st w
  | .region _ ops draw, an, st, w, kn, _, _ =>
    match an with
    | .d =>
      match draw with
      | false => vcOps P n ops [] ops.toList 0 st w kn
      | true => False
    | .r ms =>
      match draw with
      | false => vcOps P n ops ms ops.toList 0 st w kn
      | true =>
        match Region.lexB .any ops && reads ms with
        | true => ∀ w', w' = drewOne w → vcStill P n ops ms w' ops.toList 0 st fun st' => kn st' w'
        | false => False
    | .h t ms =>
      match draw with
      | false => False
      | true =>
        match Region.noSelect ops && Nat.ble t.depth ops.size && noCf ms with
        | true => ∃ S : World → Prop, ∀ w', w' = drewOne w → S w' ∧ vcHeld P n ops ms S (msStores ms ++ msNews ms) t (Array.replicate ops.size false) st w' kn
        | false => False
    | _ => False
  | .seq a b, .s x y, st, w, kn, kx, kr => vc P n a x st w (fun st' w' => vc P n b y st' w' kn kx kr) kx kr
  | .seq a b, .sj l x y, st, w, kn, kx, kr =>
    match liveOk (writes a) (news x) l with
    | true =>
      ∃ J : PredT l, vc P n a x st w (fun st' w' => applyP l J st' w') kx kr ∧
        allP st l J (left a x st) fun st' w' => vc P n b y st' w' kn kx kr
    | false => False
  | .cond c a b, .c x y, st, w, kn, kx, kr =>
    match has st c with
    | true =>
      match ev st c with
      | .bool t => ifB t (vc P n a x st w kn kx kr) (vc P n b y st w kn kx kr)
      | _ => False
    | false => False
  | .block id a, .b x, st, w, kn, kx, kr => vc P n a x st w kn ((id, kn) :: kx) kr
  | .block id a, .bj l x, st, w, kn, kx, kr =>
    match liveOk (writes a) (news x) l with
    | true =>
      ∃ J : PredT l, vc P n a x st w (fun st' w' => applyP l J st' w') ((id, fun st' w' => applyP l J st' w') :: kx) kr ∧
        allP st l J (left a x st) kn
    | false => False
  | .loop a, .l l x, st, w, _, kx, kr =>
    match liveOk (writes a) (news x) l with
    | true =>
      ∃ (I : PredT l) (μ : MeasT l), applyP l I st w ∧
        allM st l I μ (left a x st) fun st' w' m => vc P n a x st' w' (fun st'' w'' => applyP l (andLt l I μ m) st'' w'') kx kr
    | false => False
  | .scope a, .b x, st, w, kn, kx, kr => vc P n a x st w kn kx kr
  | .exit id, _, st, w, _, kx, _ =>
    match findK kx id with
    | some k => k st w
    | none => False
  | .ret, _, st, w, _, _, kr => kr st w
  | _, _, _, _, _, _, _ => False

/-- What a function hands back, read off the frame. -/
def res (P : Program) (st : St) : List ResultVar → Option (List Value)
  | [] => some []
  | .tmp t :: l =>
    match lookV st t, res P st l with
    | some v, some r => some (v :: r)
    | _, _ => none
  | .cell a t :: l =>
    match look st.sl a with
    | some (.p id off) =>
      match hlook st.hp id with
      | some (_, cs) =>
        match rdT P t cs off, res P st l with
        | some v, some r => some (v :: r)
        | _, _ => none
      | none => none
    | _ => none

def resV (P : Program) (fn : Func) (st : St) : Option Value :=
  match res P st fn.results.toList with
  | some [v] => some v
  | some l => some (.tuple l.toArray)
  | none => none

def retK (P : Program) (fn : Func) (R : RTy) (K : R.α → World → Prop) (st : St) (w : World) : Prop :=
  match resV P fn st with
  | some v =>
    match R.un v with
    | some x => K x w
    | none => False
  | none => False

def argSl : Nat → List Value → Sls
  | _, [] => []
  | i, v :: l => (i, .v v) :: argSl (i + 1) l

/-- What is to be shown of a function. -/
def vcFn (P : Program) (fn : Func) (an : Ann) (R : RTy) (args : List Value) (w : World) (K : R.α → World → Prop) : Prop :=
  match fn.body with
  | some c =>
    match Nat.ble args.length fn.ntmps with
    | true => vc P fn.ntmps c an ⟨argSl 0 args, []⟩ w (retK P fn R K) [] (retK P fn R K)
    | false => False
  | none => False

end Go.Vc
