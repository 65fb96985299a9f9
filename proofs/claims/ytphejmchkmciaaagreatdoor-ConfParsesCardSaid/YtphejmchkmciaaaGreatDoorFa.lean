/- The words of a small compiler from the model's code to trees: the trees, what they ask of the world, and the compiler. No statement about the program stands here. -/
import Derived.OrdersHeld
import Derived.Laws.World
import Derived.Deep.LoopGhost
import Derived.Scope
import Derived.KernelRfl
namespace Go.WF

/-- A kind of one cell. -/
inductive B where
  | int (k : IntKind)
  | bool
  | string
  | ptr
  | slice
  | map
  | iface
  | any

structure Sl where
  a : Option Addr
  len : Nat
  cap : Nat

abbrev B.Ty : B → Type
  | .int _ => Int
  | .bool => Bool
  | .string => ByteArray
  | .ptr => Option Addr
  | .slice => Sl
  | .map => Option Nat
  | .iface => Option (TypeId × Value)
  | .any => Value

def B.enc : (k : B) → k.Ty → Value
  | .int k, n => .int k n
  | .bool, b => .bool b
  | .string, s => .string s
  | .ptr, a => .pointer a
  | .slice, s => .slice s.a s.len s.cap
  | .map, r => .map r
  | .iface, none => .nilIface
  | .iface, some (t, v) => .iface t v
  | .any, v => v

/-- Values of several kinds, one behind the other. -/
abbrev BTys : List B → Type
  | [] => Unit
  | k :: ks => k.Ty × BTys ks

def bencs : (ks : List B) → BTys ks → List Value
  | [], _ => []
  | k :: ks, (x, xs) => k.enc x :: bencs ks xs

/-- A kind: one cell, or a struct or array of cells. -/
inductive Kd where
  | b (k : B)
  | agg (ks : List B)

abbrev Kd.Ty : Kd → Type
  | .b k => k.Ty
  | .agg ks => BTys ks

def Kd.enc : (k : Kd) → k.Ty → Value
  | .b k, x => k.enc x
  | .agg ks, xs => .agg (bencs ks xs).toArray

/-- The cells that it takes. -/
def Kd.cells : (k : Kd) → k.Ty → List Value
  | .b k, x => [k.enc x]
  | .agg ks, xs => bencs ks xs

abbrev Tys : List Kd → Type
  | [] => Unit
  | k :: ks => k.Ty × Tys ks

def encs : (ks : List Kd) → Tys ks → List Value
  | [], _ => []
  | k :: ks, (x, xs) => k.enc x :: encs ks xs

/-- What a call hands back, of its results. -/
def tupOf : List Value → Value
  | [v] => v
  | vs => .tuple vs.toArray

/-- A label: where one may jump to, with values. -/
abbrev Lab := List Value → World → Prop

inductive T : Type where
  | ret (vs : List Value)
  | panic (v : Value)
  | stuck
  | load (k : Kd) (a : Addr) (K : k.Ty → T)
  | store (a : Addr) (vs : List Value) (k : T)
  | new (cs : List Value) (e : TypeId) (K : Addr → T)
  | call (f : FuncId) (args : List Value) (ks : List Kd) (K : Tys ks → T)
  | op (s : Sem Next) (ks : List Kd) (K : Tys ks → T)
  | op0 (s : Sem Next) (k : T)
  | callV (f : Value) (args : List Value) (ks : List Kd) (K : Tys ks → T)
  | nextS (s : Sem Next) (Ky : Int → Int → T) (Kn : T)
  | both (a b : T)
  | draw (k : T)
  | hold (l : List (Addr × List Value)) (k : T)
  | blk (ks : List Kd) (m : Lab → T) (K : Tys ks → T)
  | loop (ks : List Kd) (init : List Value) (body : Lab → Tys ks → T)
  | jump (j : Lab) (vs : List Value)

/-- These cells stand from that place on. -/
def cellsAt (w : World) (a : Addr) : List Value → Prop
  | [] => True
  | v :: vs => w.cell? a = some v ∧ cellsAt w (a.add 1) vs

/-- So many cells stand there, and may be written. -/
def there (w : World) (a : Addr) : Nat → Prop
  | 0 => True
  | n + 1 => (w.cell? a).isSome = true ∧ w.frozen? a = false ∧ there w (a.add 1) n

def putCells (w : World) (a : Addr) : List Value → World
  | [] => w
  | v :: vs => putCells (w.setCell a v) (a.add 1) vs



def T.wp (P : Program) (R : Ending → World → Prop) : T → World → Prop
  | .ret vs, w => R (.returned (tupOf vs)) w
  | .panic v, w => (∃ t u, v = .iface t u) ∧ R (.panicked [{ v, recovered := false }]) w
  | .stuck, _ => False
  | .load k a K, w => ∃ x : k.Ty, cellsAt w a (k.cells x) ∧ (K x).wp P R w
  | .store a vs k, w => there w a vs.length ∧ vs.all (·.oneCell') = true ∧ k.wp P R (putCells w a vs)
  | .new cs e K, w => (K ⟨w.heap.size, 0, none⟩).wp P R (w.alloc (.cells cs.toArray e))
  | .call f args ks K, w => Calls P f args.toArray w fun e w' =>
      match e with
      | .returned v => ∃ xs : Tys ks, v = tupOf (encs ks xs) ∧ (K xs).wp P R w'
      | .panicked c => R (.panicked c) w'
      | .outgrown => R .outgrown w'
  | .op s ks K, w => ∃ v w', s.run P w = .ok (.value v) w' ∧ ∃ xs : Tys ks, v = tupOf (encs ks xs) ∧ (K xs).wp P R w'
  | .op0 s k, w => ∃ w', s.run P w = .ok .skip w' ∧ k.wp P R w'
  | .callV f args ks K, w => ∃ g first cap fn, f = .func (.func g) first cap ∧ P.funcs[g]? = some fn ∧ (fn.name == "runtime.NumGoroutine") = false ∧ fn.body.isNone = false ∧
      Calls P g (first ++ args.toArray ++ cap) w fun e w' =>
      match e with
      | .returned v => ∃ xs : Tys ks, v = tupOf (encs ks xs) ∧ (K xs).wp P R w'
      | .panicked c => R (.panicked c) w'
      | .outgrown => R .outgrown w'
  | .nextS s Ky Kn, w => (∃ i c w', s.run P w = .ok (.value (.tuple #[.bool true, .int .i64 i, .int .i32 c])) w' ∧ (Ky i c).wp P R w') ∨
      (∃ w', s.run P w = .ok (.value (.tuple #[.bool false])) w' ∧ Kn.wp P R w')
  | .both a b, w => a.wp P R w ∧ b.wp P R w
  | .draw k, w => k.wp P R w.drew
  | .hold l k, w => (∀ p ∈ l, cellsAt w p.1 p.2) ∧ k.wp P R w
  | .blk _ m K, w => (m fun vs w' => ∃ xs, vs = encs _ xs ∧ (K xs).wp P R w').wp P R w
  | .loop ks init body, w => ∃ I : Nat → Tys ks → World → Prop, (∃ n xs, init = encs ks xs ∧ I n xs w) ∧
      ∀ n xs w', I n xs w' → (body (fun vs w'' => ∃ m, m < n ∧ ∃ xs', vs = encs ks xs' ∧ I m xs' w'') xs).wp P R w'
  | .jump j vs, w => j vs w

/-! ### The kinds of the program's types -/
def bOf (P : Program) (t : TypeId) : B :=
  match P.underlying t with
  | some (.int k) => .int k
  | some .bool => .bool
  | some .string => .string
  | some (.pointer _) => .ptr
  | some (.slice _) => .slice
  | some (.map _ _) => .map
  | some (.interface _) => .iface
  | _ => .any

def copies {α : Type} (l : List α) : Nat → List α
  | 0 => []
  | n + 1 => l ++ copies l n

/-- The cells' kinds of a type. -/
def flat (P : Program) : Nat → TypeId → List B
  | 0, _ => []
  | d + 1, t =>
    match P.underlying t with
    | some (.struct fs) => fs.toList.flatMap fun f => flat P d f.type
    | some (.array n e) => copies (flat P d e) n
    | _ => [bOf P t]

def kdOf (P : Program) (t : TypeId) : Kd :=
  match P.underlying t with
  | some (.struct _) | some (.array _ _) => .agg (flat P 20 t)
  | _ => .b (bOf P t)

/-- The kinds of what an operation of that type hands back. -/
def kdsOf (P : Program) (t : TypeId) : List Kd :=
  match P.underlying t with
  | some (.tuple ts) => ts.toList.map (kdOf P)
  | _ => [kdOf P t]

/-! ### The frame -/
abbrev Fr := List (Option Value)

def Fr.get (fr : Fr) (i : Nat) : Option Value := (fr[i]?).join

def known (fr : Fr) : Operand → Bool
  | .tmp t => (Fr.get fr t).isSome
  | _ => true

def ev (fr : Fr) : Operand → Value
  | .tmp t => (Fr.get fr t).getD undef
  | .const v => v
  | .global g => .pointer (some ⟨g, 0, none⟩)
  | .func f => .func (.func f) #[] #[]

def put (fr : Fr) (dst : Option Tmp) (v : Value) : Fr :=
  match dst with
  | some d => fr.set d (some v)
  | none => fr

def forget (fr : Fr) : List Nat → Fr
  | [] => fr
  | d :: ds => forget (fr.set d none) ds

/-- Values into slots. -/
def putAll (fr : Fr) : List Nat → List Value → Fr
  | d :: ds, v :: vs => putAll (fr.set d (some v)) ds vs
  | _, _ => fr

def vals (fr : Fr) : List Nat → Option (List Value)
  | [] => some []
  | d :: ds => match Fr.get fr d, vals fr ds with
    | some v, some vs => some (v :: vs)
    | _, _ => none

/-! ### Operations that only compute -/
/-- What it comes to in every world, if it is that. -/
def pureV (P : Program) {α : Type} : Sem α → Option α
  | .pure a => some a
  | .program k => pureV P (k P)
  | .mark _ k => pureV P k
  | _ => none

def valueOf : Option Next → Option Value
  | some (.value v) => some v
  | _ => none

/-- A slice expression's bounds: those that must hold, and where it begins and ends. -/
def loOf : Option Value → Option Int
  | none => some 0
  | some (.int _ n) => some n
  | _ => none

def hiOf (len : Int) : Option Value → Option Int
  | none => some len
  | some (.int _ n) => some n
  | _ => none

def isIface : Value → Bool
  | .nilIface => true
  | .iface _ _ => true
  | _ => false

def isNilI : Value → Bool
  | .nilIface => true
  | _ => false

def isInt (k : IntKind) : Value → Bool
  | .int k' _ => decide (k' = k)
  | _ => false

def theInt : Value → Int
  | .int _ n => n
  | _ => 0

/-- Go on if that holds. -/
def chk (c : Bool) (k : T) : T := cond c k .stuck

/-- An operation that the model runs to a value without a look at the world. -/
def plain (P : Program) (ρ : Operand → Value) (o : Oper) : Option (Bool × Value) :=
  match pureV P (execOp ρ o) with
  | some (.value v) => some (true, v)
  | _ => none

def isIntT (P : Program) (t : TypeId) : Bool :=
  match P.underlying t with
  | some (.int _) => true
  | _ => false

/-- Does len or cap of such an argument look at no memory? -/
def lenPlain (P : Program) (t : TypeId) : Bool :=
  match P.underlying t with
  | some .string | some (.slice _) | some (.array _ _) => true
  | _ => false

/-- Is it a builtin that computes, of such arguments? -/
def callPlain (P : Program) (b : Builtin) (ts : List TypeId) : Bool :=
  match b, ts with
  | .len, [t] => lenPlain P t
  | .cap, [t] => lenPlain P t
  | .max, [t, _] => isIntT P t
  | .min, [t, _] => isIntT P t
  | _, _ => false

def pureBin (P : Program) (ρ : Operand → Value) (o : Oper) (op : BinOp) (t : TypeId) (a b : Value) : Option (Bool × Value) :=
  match op, a, b with
  | .quo, .int k a, .int k' b => if k = k' then some (decide (b ≠ 0), .int k (k.wrap (a.tdiv b))) else none
  | .rem, .int k a, .int k' b => if k = k' then some (decide (b ≠ 0), .int k (a.tmod b)) else none
  | .shl, .int k a, .int _ b => some (decide (0 ≤ b), .int k (k.wrap (a * 2 ^ (min b.toNat k.bits))))
  | .shr, .int k a, .int _ b => some (decide (0 ≤ b), .int k (a.fdiv (2 ^ (min b.toNat k.bits))))
  | .add, .string a, .string b => some (decide (((a.size + b.size : Nat) : Int) ≤ 9223372036854775807), .string (a ++ b))
  | op, .pointer p, .pointer none => match P.underlying t, op with
    | some (.pointer _), .eql => some (true, .bool p.isNone)
    | some (.pointer _), .neq => some (true, .bool !p.isNone)
    | _, _ => none
  | op, .slice a _ _, .slice none _ _ => match P.underlying t, op with
    | some (.slice _), .eql => some (true, .bool a.isNone)
    | some (.slice _), .neq => some (true, .bool !a.isNone)
    | _, _ => none
  | _, .agg _, _ => none
  | _, _, _ => plain P ρ o

/-- An interface value against the literal nil. -/
def pureNil (P : Program) (op : BinOp) (t : TypeId) (y : Operand) (v : Value) : Option (Bool × Value) :=
  match P.underlying t, op, y with
  | some (.interface _), .eql, .const _ => some (isIface v, .bool (isNilI v))
  | some (.interface _), .neq, .const _ => some (isIface v, .bool !(isNilI v))
  | _, _, _ => none

def isConstNil : Operand → Bool
  | .const .nilIface => true
  | _ => false

def pureIndex (P : Program) (t : TypeId) (x i : Value) : Option (Bool × Value) :=
  match P.underlying t, x, i with
  | some .string, .string s, .int _ n => some (decide (0 ≤ n ∧ n < (s.size : Int)), .int .u8 (s.data.getD n.toNat 0).toNat)
  | some (.array len e), .agg cs, .int _ n => match P.underlying e, P.info? e with
    | some (.int k), some inf => if inf.size = 1 then some (decide (0 ≤ n ∧ n < (len : Int)) && decide (n.toNat < cs.size) && isInt k (cs.getD n.toNat undef), .int k (theInt (cs.getD n.toNat undef))) else none
    | _, _ => none
  | _, _, _ => none

def pureSlice (P : Program) (t : TypeId) (x : Value) (lo hi : Option Value) : Option (Bool × Value) :=
  match P.underlying t, x with
  | some .string, .string s =>
    match loOf lo, hiOf s.size hi with
    | some l, some h => some (decide (0 ≤ l ∧ l ≤ h ∧ h ≤ (s.size : Int)), .string (s.extract l.toNat h.toNat))
    | _, _ => none
  | some (.slice e), .slice a len cap =>
    match loOf lo, hiOf len hi, P.info? e with
    | some l, some h, some i => some (decide (0 ≤ l ∧ l ≤ h ∧ h ≤ (cap : Int)),
        .slice (if cap = l.toNat then a else a.map (·.add (l.toNat * i.size))) (h.toNat - l.toNat) (cap - l.toNat))
    | _, _, _ => none
  | _, _ => none

def pureIndexAddr (P : Program) (t : TypeId) (x i : Value) : Option (Bool × Value) :=
  match P.underlying t, x, i with
  | some (.slice e), .slice a len _, .int _ n => match P.info? e with
    | some inf => some (a.isSome && decide (0 ≤ n ∧ n < (len : Int)), .pointer (some ((a.getD default).add (n.toNat * inf.size))))
    | none => none
  | some (.array len e), .pointer p, .int _ n => match P.info? e with
    | some inf => some (p.isSome && decide (0 ≤ n ∧ n < (len : Int)), .pointer (some ((p.getD default).add (n.toNat * inf.size))))
    | none => none
  | _, _, _ => none

def pureField (P : Program) (s : TypeId) (x : Value) (f : Nat) : Option (Bool × Value) :=
  match x, P.underlying s with
  | .pointer p, some (.struct fs) => match fs[f]? with
    | some fd => match P.info? fd.type with
      | some i => if i.size = 0 then none else some (p.isSome, .pointer (some ((p.getD default).add fd.offset)))
      | none => none
    | none => none
  | _, _ => none

/-- An operation that only computes: what must hold, and its value. -/
def pureOp (P : Program) (ρ : Operand → Value) (o : Oper) : Option (Bool × Value) :=
  match o.op with
  | .move x => some (true, ρ x)
  | .assign x => some (true, ρ x)
  | .pick c a b =>
    match ρ c with
    | .bool c => some (true, cond c (ρ a) (ρ b))
    | _ => none
  | .nilCheck x =>
    match ρ x with
    | .pointer p => some (p.isSome, .pointer (some (p.getD default)))
    | _ => none
  | .fieldAddr s x f => pureField P s (ρ x) f
  | .binOp op t x y _ => if isConstNil y && isNilI (ρ y) then pureNil P op t y (ρ x) else pureBin P ρ o op t (ρ x) (ρ y)
  | .unOp _ _ _ => plain P ρ o
  | .convert s d _ => if isIntT P s && isIntT P d then plain P ρ o else none
  | .makeInterface _ _ => plain P ρ o
  | .makeFunc _ _ _ => plain P ρ o
  | .field _ _ _ => plain P ρ o
  | .extract _ _ => plain P ρ o
  | .build _ _ => plain P ρ o
  | .index t x i => pureIndex P t (ρ x) (ρ i)
  | .slice t x lo hi mx => if mx.isNone then pureSlice P t (ρ x) (lo.map ρ) (hi.map ρ) else none
  | .indexAddr t x i => pureIndexAddr P t (ρ x) (ρ i)
  | .call c => match c.callee with
    | .builtin b => if callPlain P b c.argTypes.toList then plain P ρ o else none
    | _ => none
  | _ => none

/-! ### Operations that look at the world or change it -/
def isAggT (P : Program) (t : TypeId) : Bool :=
  match P.underlying t with
  | some (.struct _) | some (.array _ _) => true
  | _ => false

/-- Is the kind of as many cells as the type? -/
def fitsKd (P : Program) (t : TypeId) : Bool :=
  (P.underlying t).isSome && (if isAggT P t then P.cellsOf t == (flat P 20 t).length else true)

/-- What a load reads: the kind and the place. -/
def loadOp (P : Program) (ρ : Operand → Value) (o : Oper) : Option (Kd × Addr × Bool) :=
  match o.op with
  | .load t x =>
    if fitsKd P t then
      match ρ x with
      | .pointer p => some (kdOf P t, p.getD default, p.isSome)
      | _ => none
    else none
  | _ => none

def zeroCells (P : Program) (t : TypeId) : Option (List Value) :=
  match P.info? t with
  | some i => i.zero.map fun v => v.cells.toList
  | none => none

def resKds (P : Program) (f : FuncId) : Option (List Kd) :=
  match P.funcs[f]? with
  | some fn => some (fn.resultTypes.toList.map (kdOf P))
  | none => none

/-- An operation with an effect; what follows takes what it yields. -/
def effOp (P : Program) (ρ : Operand → Value) (o : Oper) (K : Value → T) : T :=
  match o.op with
  | .store t x y =>
    match ρ x with
    | .pointer p =>
      if isAggT P t then
        if (ρ y).cells.size = P.cellsOf t then chk p.isSome (.store (p.getD default) (ρ y).cells.toList (K undef)) else .stuck
      else if P.cellsOf t = 1 then chk p.isSome (.store (p.getD default) [ρ y] (K undef)) else .stuck
    | _ => .stuck
  | .alloc t =>
    match zeroCells P t with
    | some cs => .new cs t fun a => K (.pointer (some a))
    | none => .stuck
  | .box t x =>
    if isAggT P t then .new (ρ x).cells.toList t fun a => K (.pointer (some a))
    else chk (ρ x).oneCell' (.new [ρ x] t fun a => K (.pointer (some a)))
  | .call c =>
    match c.callee with
    | .value (.func g) => match P.funcs[g]? with
        | some fn => if fn.body.isNone || fn.name == "runtime.NumGoroutine" then .stuck else
          .call g (c.args.toList.map ρ) (fn.resultTypes.toList.map (kdOf P)) fun xs => K (tupOf (encs _ xs))
        | none => .stuck
    | .value f => .callV (ρ f) (c.args.toList.map ρ) (kdsOf P o.type) fun xs => K (tupOf (encs _ xs))
    | .invoke _ _ => .stuck
    | .builtin .panic => match c.args.toList with
      | [x] => .panic (ρ x)
      | _ => .stuck
    | .builtin _ => .op (execOp ρ o) (kdsOf P o.type) fun xs => K (tupOf (encs (kdsOf P o.type) xs))
  | .panic x => .panic (ρ x)
  | .mapUpdate .. | .insert .. | .entryStore .. => .op0 (execOp ρ o) (K undef)
  | .range .. => .op (execOp ρ o) [.b .ptr] fun xs => K (tupOf (encs [.b .ptr] xs))
  | .next _ true => .nextS (execOp ρ o) (fun i c => K (.tuple #[.bool true, .int .i64 i, .int .i32 c])) (K (.tuple #[.bool false]))
  | .buildSlice .. | .makeMap .. | .makeSlice .. | .lookup .. | .mapEntry .. | .next .. | .entry .. | .typeAssert .. | .convert .. | .binOp ..
  | .sliceToArrayPointer .. | .slice .. | .index .. =>
    .op (execOp ρ o) (kdsOf P o.type) fun xs => K (tupOf (encs (kdsOf P o.type) xs))
  | _ => .stuck

/-- May an operation of that form only compute? (By its form alone.) -/
def isPure (P : Program) (o : Oper) : Bool :=
  match o.op with
  | .move _ | .assign _ | .pick .. | .nilCheck _ | .fieldAddr .. | .unOp .. | .makeInterface .. | .makeFunc .. | .field .. | .extract .. | .build .. | .indexAddr .. => true
  | .binOp _ t _ _ _ => !isAggT P t
  | .convert s d _ => isIntT P s && isIntT P d
  | .index .. => true
  | .slice t _ _ _ mx => mx.isNone && (match P.underlying t with
    | some .string | some (.slice _) => true
    | _ => false)
  | .call c => match c.callee with
    | .builtin b => callPlain P b c.argTypes.toList
    | _ => false
  | _ => false

def isLoad (o : Oper) : Bool :=
  match o.op with
  | .load .. => true
  | _ => false

/-! ### Short words for what a printed tree says -/
def vOf (s : Sem Value) : Sem Next := do pure (.value (← s))

def uOf (s : Sem Unit) : Sem Next := do s; pure .skip

def ibits (op : BinOp) (k : IntKind) (x y : Int) : Int :=
  match op with
  | .and => k.wrap (BitVec.ofInt k.bits x &&& BitVec.ofInt k.bits y).toNat
  | .or => k.wrap (BitVec.ofInt k.bits x ||| BitVec.ofInt k.bits y).toNat
  | .xor => k.wrap (BitVec.ofInt k.bits x ^^^ BitVec.ofInt k.bits y).toNat
  | _ => k.wrap (BitVec.ofInt k.bits x &&& ~~~BitVec.ofInt k.bits y).toNat

def shlI (k : IntKind) (a b : Int) : Int := k.wrap (a * 2 ^ (min b.toNat k.bits))

def shrI (k : IntKind) (a b : Int) : Int := a.fdiv (2 ^ (min b.toNat k.bits))

abbrev bs (l : List UInt8) : ByteArray := ⟨l.toArray⟩

def byteAt (s : ByteArray) (n : Int) : Int := (s.data.getD n.toNat 0).toNat

def eqS (op : BinOp) (t : TypeId) (x y : Operand) (a b : Value) : Sem Next := vOf (do eqGuard op t x y a b; binOp op t a b)

/-! ### A region -/
/-- The slot of a guard. -/
def guardSlot (ops : Array Oper) (o : Oper) : Option Tmp :=
  match o.guard with
  | some (j, _) => (ops[j]?).bind (·.dst)
  | none => none

/-- Does operation j wait for operation i, through others too? -/
def waitsT (ops : Array Oper) : Nat → Nat → Nat → Bool
  | 0, _, _ => false
  | n + 1, j, i => match ops[j]? with
    | some oj => oj.after.any fun e => Region.binds .any e && (e.on == i || waitsT ops n e.on i)
    | none => false

def opsKnown (ops : Array Oper) (fr : Fr) (o : Oper) : Bool :=
  o.op.operands.all (known fr) && (match guardSlot ops o with | some t => known fr (.tmp t) | none => true)

/-- A guard: in the branch where it holds, and where it does not, its slot is known. -/
def guardT (ops : Array Oper) (o : Oper) (fr : Fr) (run skip : Fr → T) : T :=
  match o.guard with
  | none => run fr
  | some (_, want) =>
    match guardSlot ops o with
    | none => .stuck
    | some t => match Fr.get fr t with
      | some (.bool b) =>
        cond b
          (if want then run (fr.set t (some (.bool true))) else skip (fr.set t (some (.bool true))))
          (if want then skip (fr.set t (some (.bool false))) else run (fr.set t (some (.bool false))))
      | some (.tuple _) => skip fr
      | _ => .stuck

def runP (P : Program) (fr : Fr) (o : Oper) (K : Value → T) : T :=
  if isPure P o then
    match pureOp P (ev fr) o with
    | some (c, v) => chk c (K v)
    | none => .stuck
  else if isLoad o then
    match loadOp P (ev fr) o with
    | some (k, a, c) => chk c (.load k a fun x => K (k.enc x))
    | none => .stuck
  else effOp P (ev fr) o K

/-- A region in the text's order. -/
def compText (P : Program) (ops : Array Oper) : List Oper → Fr → (Fr → T) → T
  | [], fr, K => K fr
  | o :: rest, fr, K =>
    if opsKnown ops fr o then
      guardT ops o fr (fun fr => runP P fr o fun v => compText P ops rest (put fr o.dst v) K) (fun fr => compText P ops rest (put fr o.dst undef) K)
    else .stuck

/-- An order, with choices: what only computes or loads comes first ('take'); then one of the operations with an effect that may come up ('eff', the others behind it). -/
inductive OT where
  | fin
  | take (i : Nat) (t : OT)
  | eff (i : Nat) (t : OT) (more : OT)

def isEff (P : Program) (ops : Array Oper) (i : Nat) : Bool :=
  match ops[i]? with
  | some o => !(isPure P o || isLoad o)
  | none => false

def holdT (l : List (Addr × List Value)) (k : T) : T :=
  match l with
  | [] => k
  | l => .hold l k

/-- L: the loads that were made, with their places and what they gave. D: the operations with an effect that have come up. -/
def compTree (P : Program) (ops : Array Oper) : OT → List (Nat × Addr × List Value) → List Nat → Fr → (Fr → T) → T
  | .fin, _, _, fr, K => K fr
  | .take i t, L, D, fr, K =>
    match ops[i]? with
    | none => .stuck
    | some o =>
      if opsKnown ops fr o then
        guardT ops o fr
          (fun fr =>
            if isPure P o then
              match pureOp P (ev fr) o with
              | some (c, v) => chk c (compTree P ops t L D (put fr o.dst v) K)
              | none => .stuck
            else
              match loadOp P (ev fr) o with
              | some (k, a, c) => chk c (.load k a fun x => compTree P ops t ((i, a, k.cells x) :: L) D (put fr o.dst (k.enc x)) K)
              | none => .stuck)
          (fun fr => compTree P ops t L D (put fr o.dst undef) K)
      else .stuck
  | .eff i t more, L, D, fr, K =>
    let one : T := match ops[i]? with
      | none => .stuck
      | some o =>
        if opsKnown ops fr o then
          guardT ops o fr
            (fun fr => effOp P (ev fr) o fun v =>
              holdT ((L.filter fun p => !waitsT ops ops.size i p.1 && !(D.any fun d => waitsT ops ops.size d p.1)).map (·.2)) (compTree P ops t L (i :: D) (put fr o.dst v) K))
            (fun fr => compTree P ops t L (i :: D) (put fr o.dst undef) K)
        else .stuck
    match more with
    | .fin => one
    | m => .both one (compTree P ops m L D fr K)

/-- An order by program. -/
def orderOf (P : Program) (ops : Array Oper) : Nat → Array Bool → OT
  | 0, _ => .fin
  | n + 1, listed =>
    match Region.ready .any ops listed with
    | [] => .fin
    | rs => match rs.find? (fun i => !isEff P ops i && Region.free .any ops listed i) with
      | some i => .take i (orderOf P ops n (listed.setIfInBounds i true))
      | none => rs.foldr (fun i more => .eff i (orderOf P ops n (listed.setIfInBounds i true)) more) .fin

/-- Is it an order? -/
def okT (P : Program) (ops : Array Oper) : OT → Array Bool → List Nat → Bool
  | .fin, listed, _ => (Region.ready .any ops listed).isEmpty
  | .take i t, listed, _ => (Region.ready .any ops listed).contains i && Region.free .any ops listed i && !isEff P ops i && okT P ops t (listed.setIfInBounds i true) []
  | .eff i t more, listed, before => isEff P ops i && okT P ops t (listed.setIfInBounds i true) [] &&
      (match more with
       | .fin => Region.ready .any ops listed == (i :: before).reverse
       | .take _ _ => false
       | m => okT P ops m listed (i :: before))

def branches : OT → Nat
  | .fin => 1
  | .take _ t => branches t
  | .eff _ t .fin => branches t
  | .eff _ t more => branches t + branches more

def compRegion (P : Program) (ops : Array Oper) (draw : Bool) (fr : Fr) (K : Fr → T) : T :=
  if draw then
    let t := orderOf P ops ops.size (Array.replicate ops.size false)
    if okT P ops t (Array.replicate ops.size false) [] && Region.noSelect ops then .draw (compTree P ops t [] [] fr K) else .stuck
  else compText P ops ops.toList fr K

/-! ### Which slots are looked at later -/
def ins (l : List Nat) (x : Nat) : List Nat := if l.contains x then l else x :: l

def union (l m : List Nat) : List Nat := m.foldl ins l

def operSlots (ops : Array Oper) (o : Oper) : List Nat :=
  (o.op.operands.toList.filterMap fun | .tmp t => some t | _ => none) ++ (guardSlot ops o).toList

def liveOps (ops : Array Oper) : List Oper → List Nat → List Nat
  | [], L => L
  | o :: rest, L =>
    let L' := liveOps ops rest L
    union (match o.dst with | some d => L'.filter (· != d) | none => L') (operSlots ops o)

def live (RS : List Nat) : Code → List (Nat × List Nat) → List Nat → List Nat
  | .skip, _, L => L
  | .region _ ops _, _, L => liveOps ops ops.toList L
  | .seq x y, env, L => live RS x env (live RS y env L)
  | .cond c x y, env, L => union (union (live RS x env L) (live RS y env L)) (match c with | .tmp t => [t] | _ => [])
  | .block id c, env, L => live RS c ((id, L) :: env) L
  | .scope c, env, L => live RS c env L
  | .loop b, env, _ => live RS b env (live RS b env [])
  | .exit id, env, _ => match env.find? (·.1 == id) with | some (_, L) => L | none => []
  | .ret, _, _ => RS
  | _, _, L => L

def dstsOps : List Oper → List (Nat × TypeId)
  | [] => []
  | o :: rest => match o.dst with
    | some d => (d, o.type) :: dstsOps rest
    | none => dstsOps rest

/-- The slots that a code writes, with their types. -/
def dsts : Code → List (Nat × TypeId)
  | .region _ ops _ => dstsOps ops.toList
  | .seq x y => dsts x ++ dsts y
  | .cond _ x y => dsts x ++ dsts y
  | .block _ c => dsts c
  | .scope c => dsts c
  | .loop b => dsts b
  | _ => []

/-- In how many ways does a code come to its end? (Ways out to a block: those of that number.) -/
def exits (id : Nat) : Code → Nat
  | .seq x y => exits id x + exits id y
  | .cond _ x y => exits id x + exits id y
  | .block _ c => exits id c
  | .scope c => exits id c
  | .loop b => exits id b
  | .exit j => if j = id then 1 else 0
  | _ => 0

def ways (P : Program) : Code → Nat
  | .region _ ops draw => if ops.any (fun o => o.guard.isSome) || (draw && 2 ≤ branches (orderOf P ops ops.size (Array.replicate ops.size false))) then 2 else 1
  | .seq x y => min (ways P x) 1 * ways P y
  | .cond _ x y => ways P x + ways P y
  | .block id c => ways P c + exits id c
  | .scope c => ways P c
  | .loop _ | .exit _ | .ret | .goto _ => 0
  | _ => 1

/-- Written slots that are looked at later, each once. -/
def joinSlots (ds : List (Nat × TypeId)) (L : List Nat) : List (Nat × TypeId) :=
  (ds.foldl (fun acc d => if L.contains d.1 && !(acc.any (·.1 == d.1)) then d :: acc else acc) []).reverse

inductive KE where
  | normal
  | exit (id : Nat)
  | ret

def jumpTo (j : Lab) : Option (List Value) → T
  | some vs => .jump j vs
  | none => .stuck

/-- The compiler. env: what is looked at behind each block; L: what is looked at behind this code. -/
def comp (P : Program) (RS : List Nat) : Code → List (Nat × List Nat) → List Nat → Fr → (KE → Fr → T) → T
  | .skip, _, _, fr, K => K .normal fr
  | .region _ ops draw, _, _, fr, K => compRegion P ops draw fr (K .normal)
  | .seq x y, env, L, fr, K =>
    let L' := live RS y env L
    if 2 ≤ ways P x then
      let sl := joinSlots (dsts x) L'
      .blk (sl.map fun d => kdOf P d.2)
        (fun j => comp P RS x env L' fr fun e fr' => match e with
          | .normal => jumpTo j (vals fr' (sl.map (·.1)))
          | e => K e fr')
        (fun xs => comp P RS y env L (putAll (forget fr ((dsts x).map (·.1))) (sl.map (·.1)) (encs _ xs)) K)
    else comp P RS x env L' fr fun e fr' => match e with
      | .normal => comp P RS y env L fr' K
      | e => K e fr'
  | .cond c x y, env, L, fr, K =>
    if known fr c then
      match ev fr c with
      | .bool b => cond b (comp P RS x env L fr K) (comp P RS y env L fr K)
      | _ => .stuck
    else .stuck
  | .block id c, env, L, fr, K => comp P RS c ((id, L) :: env) L fr fun e fr' => match e with
    | .exit j => if j = id then K .normal fr' else K (.exit j) fr'
    | e => K e fr'
  | .loop b, env, _, fr, K =>
    let h := live RS b env (live RS b env [])
    let sl := joinSlots (dsts b) h
    match vals fr (sl.map (·.1)) with
    | some init => .loop (sl.map fun d => kdOf P d.2) init fun j xs =>
        comp P RS b env h (putAll (forget fr ((dsts b).map (·.1))) (sl.map (·.1)) (encs _ xs)) fun e fr' => match e with
          | .normal => jumpTo j (vals fr' (sl.map (·.1)))
          | e => K e fr'
    | none => .stuck
  | .exit id, _, _, fr, K => K (.exit id) fr
  | .ret, _, _, fr, K => K .ret fr
  | .label _, _, _, fr, K => K .normal fr
  | .scope c, env, L, fr, K => comp P RS c env L fr K
  | _, _, _, _, _ => .stuck

/-- What a function hands back. -/
def retT (P : Program) (fr : Fr) : List ResultVar → List Value → T
  | [], acc => .ret acc.reverse
  | .tmp t :: rest, acc => match Fr.get fr t with
    | some v => retT P fr rest (v :: acc)
    | none => .stuck
  | .cell a t :: rest, acc => if fitsKd P t then match Fr.get fr a with
    | some (.pointer p) => chk p.isSome (.load (kdOf P t) (p.getD default) fun x => retT P fr rest ((kdOf P t).enc x :: acc))
    | _ => .stuck
    else .stuck

def resSlots : List ResultVar → List Nat
  | [] => []
  | .tmp t :: r => t :: resSlots r
  | .cell a _ :: r => a :: resSlots r

def fr0 (n : Nat) (args : List Value) : Fr := args.map some ++ List.replicate (n - args.length) (some undef)

/-- A function's tree. -/
def compF (P : Program) (fn : Func) (args : List Value) : T :=
  match fn.body with
  | some c => comp P (resSlots fn.results.toList) c [] [] (fr0 fn.ntmps args) fun e fr => match e with
    | .exit _ => .stuck
    | _ => retT P fr fn.results.toList []
  | none => .stuck

end Go.WF
