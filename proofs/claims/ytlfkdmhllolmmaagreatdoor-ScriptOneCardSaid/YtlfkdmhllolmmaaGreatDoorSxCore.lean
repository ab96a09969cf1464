/- An executor for the model's code on an abstract heap: definitions only. -/
import GoSem.Step
namespace Go.Sx

/-! ## A trie with numbers as keys -/
/-- a number, as the way in a trie -/
inductive Pth where
  | e
  | l (p : Pth)
  | r (p : Pth)
noncomputable def pathF (f : Nat) : Nat → Pth :=
  Nat.rec (motive := fun _ => Nat → Pth) (fun _ => .e)
    (fun _ ih n => Nat.rec (motive := fun _ => Pth) .e (fun p _ => Bool.rec (motive := fun _ => Pth) (.r (ih (Nat.div p (nat_lit 2)))) (.l (ih (Nat.div p (nat_lit 2)))) (Nat.beq (Nat.mod p (nat_lit 2)) (nat_lit 0))) n) f
noncomputable def pathOf (n : Nat) : Pth := pathF n n

inductive Tr (α : Type) where
  | nil : Tr α
  | node (l : Tr α) (v : Option α) (r : Tr α) : Tr α


/-- how deep a trie may be -/
noncomputable def fuel : Nat := 40

/-! ## Values -/
inductive AV where
  | bool (b : Bool)
  | int (k : IntKind) (n : Int)
  | str (len val : Nat)
  | np
  | ptr (id off : Nat)
  | sl (id off len cap : Nat)
  | su (id off oe len : Nat)
  | es (i : Nat)
  | ns
  | map (id : Nat)
  | nm
  | func (fn : Fn) (first captured : List AV)
  | nf
  | iface (t : TypeId) (v : AV)
  | ni
  | agg (cs : List AV)
  | tup (vs : List AV)
  | opq (i : Nat)
  deriving Inhabited

namespace Tr
noncomputable def getP (p : Pth) (t : Tr AV) : Option AV :=
  Pth.rec (motive := fun _ => Tr AV → Option AV) (fun t => Tr.rec (motive := fun _ => Option AV) none (fun _ v _ _ _ => v) t)
    (fun _ ih t => Tr.rec (motive := fun _ => (Tr AV → Option AV) → Option AV) (fun _ => none) (fun l _ _ _ _ ih => ih l) t ih)
    (fun _ ih t => Tr.rec (motive := fun _ => (Tr AV → Option AV) → Option AV) (fun _ => none) (fun _ _ r _ _ ih => ih r) t ih) p t
noncomputable def nodeL (t : Tr AV) (v : Option AV) (r : Tr AV) : Tr AV :=
  Tr.rec (motive := fun _ => Option AV → Tr AV → Tr AV) (fun v r => node nil v r) (fun a b c _ _ v r => node (node a b c) v r) t v r
noncomputable def nodeR (l : Tr AV) (v : Option AV) (t : Tr AV) : Tr AV :=
  Tr.rec (motive := fun _ => Tr AV → Option AV → Tr AV) (fun l v => node l v nil) (fun a b c _ _ l v => node l v (node a b c)) t l v
noncomputable def putP (p : Pth) (v : Option AV) (t : Tr AV) : Tr AV :=
  Pth.rec (motive := fun _ => Option AV → Tr AV → Tr AV) (fun v t => Tr.rec (motive := fun _ => Option AV → Tr AV) (fun v => node nil v nil) (fun l _ r _ _ v => node l v r) t v)
    (fun _ ih v t => Tr.rec (motive := fun _ => (Option AV → Tr AV → Tr AV) → Option AV → Tr AV) (fun ih v => nodeL (ih v nil) none nil) (fun l x r _ _ ih v => nodeL (ih v l) x r) t ih v)
    (fun _ ih v t => Tr.rec (motive := fun _ => (Option AV → Tr AV → Tr AV) → Option AV → Tr AV) (fun ih v => nodeR nil none (ih v nil)) (fun l x r _ _ ih v => nodeR l x (ih v r)) t ih v) p v t
noncomputable def get (t : Tr AV) (n : Nat) : Option AV := getP (pathOf n) t
noncomputable def put (_ : Nat) (t : Tr AV) (n : Nat) (v : Option AV) : Tr AV := putP (pathOf n) v t
end Tr

/-- a slice, by its form -/
inductive SlV where
  | no
  | nil
  | emp (i : Nat)
  | sl (id off len cap : Nat)
  | su (id off oe len : Nat)

/-- kinds that have a nil -/
inductive TK where
  | ptr | slice | map | func | iface
noncomputable def tkEq : TK → TK → Bool
  | .ptr, .ptr => true
  | .slice, .slice => true
  | .map, .map => true
  | .func, .func => true
  | .iface, .iface => true
  | _, _ => false

/-- what '==' asks of a value -/
inductive EqV where
  | no
  | bool (b : Bool)
  | int (k : IntKind) (n : Int)
  | str (l v : Nat)
  | nil (k : TK)
  | there (k : TK)
  | iface (t : TypeId) (v : AV)
  | agg (l : List AV)

noncomputable def nilF (f : Fn) (a b : List AV) : Option AV := match f with | .func g => some (.func (.func g) a b) | _ => none

noncomputable def sel {α : Type} (c : Bool) (a b : α) : α := Bool.rec b a c

noncomputable def asBool (v : AV) : Option Bool :=
  AV.rec (motive_1 := fun _ => Option Bool) (motive_2 := fun _ => PUnit) 
    (fun b => some b)
    (fun _ _ => none)
    (fun _ _ => none)
    (none)
    (fun _ _ => none)
    (fun _ _ _ _ => none)
    (fun _ _ _ _ => none)
    (fun _ => none)
    (none)
    (fun _ => none)
    (none)
    (fun _ _ _ _ _ => none)
    (none)
    (fun _ _ _ => none)
    (none)
    (fun _ _ => none)
    (fun _ _ => none)
    (fun _ => none)
    PUnit.unit (fun _ _ _ _ => PUnit.unit) v
noncomputable def asInt (v : AV) : Option (IntKind × Int) :=
  AV.rec (motive_1 := fun _ => Option (IntKind × Int)) (motive_2 := fun _ => PUnit) 
    (fun _ => none)
    (fun k n => some (k, n))
    (fun _ _ => none)
    (none)
    (fun _ _ => none)
    (fun _ _ _ _ => none)
    (fun _ _ _ _ => none)
    (fun _ => none)
    (none)
    (fun _ => none)
    (none)
    (fun _ _ _ _ _ => none)
    (none)
    (fun _ _ _ => none)
    (none)
    (fun _ _ => none)
    (fun _ _ => none)
    (fun _ => none)
    PUnit.unit (fun _ _ _ _ => PUnit.unit) v
noncomputable def asStr (v : AV) : Option (Nat × Nat) :=
  AV.rec (motive_1 := fun _ => Option (Nat × Nat)) (motive_2 := fun _ => PUnit) 
    (fun _ => none)
    (fun _ _ => none)
    (fun l v => some (l, v))
    (none)
    (fun _ _ => none)
    (fun _ _ _ _ => none)
    (fun _ _ _ _ => none)
    (fun _ => none)
    (none)
    (fun _ => none)
    (none)
    (fun _ _ _ _ _ => none)
    (none)
    (fun _ _ _ => none)
    (none)
    (fun _ _ => none)
    (fun _ _ => none)
    (fun _ => none)
    PUnit.unit (fun _ _ _ _ => PUnit.unit) v
noncomputable def asPtr (v : AV) : Option (Nat × Nat) :=
  AV.rec (motive_1 := fun _ => Option (Nat × Nat)) (motive_2 := fun _ => PUnit) 
    (fun _ => none)
    (fun _ _ => none)
    (fun _ _ => none)
    (none)
    (fun i o => some (i, o))
    (fun _ _ _ _ => none)
    (fun _ _ _ _ => none)
    (fun _ => none)
    (none)
    (fun _ => none)
    (none)
    (fun _ _ _ _ _ => none)
    (none)
    (fun _ _ _ => none)
    (none)
    (fun _ _ => none)
    (fun _ _ => none)
    (fun _ => none)
    PUnit.unit (fun _ _ _ _ => PUnit.unit) v
noncomputable def asMap (v : AV) : Option (Option Nat) :=
  AV.rec (motive_1 := fun _ => Option (Option Nat)) (motive_2 := fun _ => PUnit) 
    (fun _ => none)
    (fun _ _ => none)
    (fun _ _ => none)
    (none)
    (fun _ _ => none)
    (fun _ _ _ _ => none)
    (fun _ _ _ _ => none)
    (fun _ => none)
    (none)
    (fun i => some (some i))
    (some none)
    (fun _ _ _ _ _ => none)
    (none)
    (fun _ _ _ => none)
    (none)
    (fun _ _ => none)
    (fun _ _ => none)
    (fun _ => none)
    PUnit.unit (fun _ _ _ _ => PUnit.unit) v
noncomputable def asFunc (v : AV) : Option (Fn × List AV × List AV) :=
  AV.rec (motive_1 := fun _ => Option (Fn × List AV × List AV)) (motive_2 := fun _ => PUnit) 
    (fun _ => none)
    (fun _ _ => none)
    (fun _ _ => none)
    (none)
    (fun _ _ => none)
    (fun _ _ _ _ => none)
    (fun _ _ _ _ => none)
    (fun _ => none)
    (none)
    (fun _ => none)
    (none)
    (fun f a b _ _ => some (f, a, b))
    (none)
    (fun _ _ _ => none)
    (none)
    (fun _ _ => none)
    (fun _ _ => none)
    (fun _ => none)
    PUnit.unit (fun _ _ _ _ => PUnit.unit) v
noncomputable def asIface (v : AV) : Option (TypeId × AV) :=
  AV.rec (motive_1 := fun _ => Option (TypeId × AV)) (motive_2 := fun _ => PUnit) 
    (fun _ => none)
    (fun _ _ => none)
    (fun _ _ => none)
    (none)
    (fun _ _ => none)
    (fun _ _ _ _ => none)
    (fun _ _ _ _ => none)
    (fun _ => none)
    (none)
    (fun _ => none)
    (none)
    (fun _ _ _ _ _ => none)
    (none)
    (fun t x _ => some (t, x))
    (none)
    (fun _ _ => none)
    (fun _ _ => none)
    (fun _ => none)
    PUnit.unit (fun _ _ _ _ => PUnit.unit) v
noncomputable def asAgg (v : AV) : Option (List AV) :=
  AV.rec (motive_1 := fun _ => Option (List AV)) (motive_2 := fun _ => PUnit) 
    (fun _ => none)
    (fun _ _ => none)
    (fun _ _ => none)
    (none)
    (fun _ _ => none)
    (fun _ _ _ _ => none)
    (fun _ _ _ _ => none)
    (fun _ => none)
    (none)
    (fun _ => none)
    (none)
    (fun _ _ _ _ _ => none)
    (none)
    (fun _ _ _ => none)
    (none)
    (fun l _ => some l)
    (fun _ _ => none)
    (fun _ => none)
    PUnit.unit (fun _ _ _ _ => PUnit.unit) v
noncomputable def asOpq (v : AV) : Option Nat :=
  AV.rec (motive_1 := fun _ => Option Nat) (motive_2 := fun _ => PUnit) 
    (fun _ => none)
    (fun _ _ => none)
    (fun _ _ => none)
    (none)
    (fun _ _ => none)
    (fun _ _ _ _ => none)
    (fun _ _ _ _ => none)
    (fun _ => none)
    (none)
    (fun _ => none)
    (none)
    (fun _ _ _ _ _ => none)
    (none)
    (fun _ _ _ => none)
    (none)
    (fun _ _ => none)
    (fun _ _ => none)
    (fun i => some i)
    PUnit.unit (fun _ _ _ _ => PUnit.unit) v
noncomputable def asTup (v : AV) : Option (List AV) :=
  AV.rec (motive_1 := fun _ => Option (List AV)) (motive_2 := fun _ => PUnit) 
    (fun _ => none)
    (fun _ _ => none)
    (fun _ _ => none)
    (none)
    (fun _ _ => none)
    (fun _ _ _ _ => none)
    (fun _ _ _ _ => none)
    (fun _ => none)
    (none)
    (fun _ => none)
    (none)
    (fun _ _ _ _ _ => none)
    (none)
    (fun _ _ _ => none)
    (none)
    (fun _ _ => none)
    (fun l _ => some l)
    (fun _ => none)
    PUnit.unit (fun _ _ _ _ => PUnit.unit) v
noncomputable def isNi (v : AV) : Bool :=
  AV.rec (motive_1 := fun _ => Bool) (motive_2 := fun _ => PUnit) 
    (fun _ => false)
    (fun _ _ => false)
    (fun _ _ => false)
    (false)
    (fun _ _ => false)
    (fun _ _ _ _ => false)
    (fun _ _ _ _ => false)
    (fun _ => false)
    (false)
    (fun _ => false)
    (false)
    (fun _ _ _ _ _ => false)
    (false)
    (fun _ _ _ => false)
    (true)
    (fun _ _ => false)
    (fun _ _ => false)
    (fun _ => false)
    PUnit.unit (fun _ _ _ _ => PUnit.unit) v
noncomputable def cellsOf (v : AV) : List AV :=
  AV.rec (motive_1 := fun _ => List AV) (motive_2 := fun _ => PUnit) 
    (fun _ => [v])
    (fun _ _ => [v])
    (fun _ _ => [v])
    ([v])
    (fun _ _ => [v])
    (fun _ _ _ _ => [v])
    (fun _ _ _ _ => [v])
    (fun _ => [v])
    ([v])
    (fun _ => [v])
    ([v])
    (fun _ _ _ _ _ => [v])
    ([v])
    (fun _ _ _ => [v])
    ([v])
    (fun l _ => l)
    (fun _ _ => [v])
    (fun _ => [v])
    PUnit.unit (fun _ _ _ _ => PUnit.unit) v
noncomputable def asSl (v : AV) : SlV :=
  AV.rec (motive_1 := fun _ => SlV) (motive_2 := fun _ => PUnit) 
    (fun _ => .no)
    (fun _ _ => .no)
    (fun _ _ => .no)
    (.no)
    (fun _ _ => .no)
    (fun i o l c => .sl i o l c)
    (fun i o e l => .su i o e l)
    (fun i => .emp i)
    (.nil)
    (fun _ => .no)
    (.no)
    (fun _ _ _ _ _ => .no)
    (.no)
    (fun _ _ _ => .no)
    (.no)
    (fun _ _ => .no)
    (fun _ _ => .no)
    (fun _ => .no)
    PUnit.unit (fun _ _ _ _ => PUnit.unit) v
noncomputable def nilA (v : AV) : Option AV :=
  AV.rec (motive_1 := fun _ => Option AV) (motive_2 := fun _ => PUnit) 
    (fun _ => none)
    (fun _ _ => none)
    (fun _ _ => none)
    (none)
    (fun i o => some (.ptr i o))
    (fun _ _ _ _ => none)
    (fun _ _ _ _ => none)
    (fun _ => none)
    (none)
    (fun _ => none)
    (none)
    (fun f a b _ _ => nilF f a b)
    (none)
    (fun t x _ => some (.iface t x))
    (none)
    (fun _ _ => none)
    (fun _ _ => none)
    (fun _ => none)
    PUnit.unit (fun _ _ _ _ => PUnit.unit) v
noncomputable def eqK (v : AV) : EqV :=
  AV.rec (motive_1 := fun _ => EqV) (motive_2 := fun _ => PUnit) 
    (fun b => .bool b)
    (fun k n => .int k n)
    (fun l v => .str l v)
    (.nil .ptr)
    (fun _ _ => .there .ptr)
    (fun _ _ _ _ => .there .slice)
    (fun _ _ _ _ => .there .slice)
    (fun _ => .there .slice)
    (.nil .slice)
    (fun _ => .there .map)
    (.nil .map)
    (fun _ _ _ _ _ => .there .func)
    (.nil .func)
    (fun t x _ => .iface t x)
    (.nil .iface)
    (fun l _ => .agg l)
    (fun _ _ => .no)
    (fun _ => .no)
    PUnit.unit (fun _ _ _ _ => PUnit.unit) v
noncomputable def oneA (v : AV) : Bool :=
  AV.rec (motive_1 := fun _ => Bool) (motive_2 := fun _ => PUnit) 
    (fun _ => true)
    (fun _ _ => true)
    (fun _ _ => true)
    (true)
    (fun _ _ => true)
    (fun _ _ _ _ => true)
    (fun _ _ _ _ => true)
    (fun _ => true)
    (true)
    (fun _ => true)
    (true)
    (fun _ _ _ _ _ => true)
    (true)
    (fun _ _ _ => true)
    (true)
    (fun l _ => false)
    (fun l _ => false)
    (fun _ => true)
    PUnit.unit (fun _ _ _ _ => PUnit.unit) v

inductive ATg where
  | fn (f : Fn) (cap : List AV)
  | col (id : Nat)

structure ADf where
  tg : ATg
  args : List AV

inductive AObj where
  | cells (ro : Bool) (cs : List AV) (elem : TypeId)
  | map (es : List (AV × AV))
  | loop (st : LoopState) (pend : Option Code) (fn : FuncId) (n : Nat) (tmps : Tr AV) (params : List Tmp) (assign body : Code) (dfr : Nat)
  | dfr (calls : Option (List ADf))
  | it (cur rem : List (AV × AV))

namespace Tr
noncomputable def getPO (p : Pth) (t : Tr AObj) : Option AObj :=
  Pth.rec (motive := fun _ => Tr AObj → Option AObj) (fun t => Tr.rec (motive := fun _ => Option AObj) none (fun _ v _ _ _ => v) t)
    (fun _ ih t => Tr.rec (motive := fun _ => (Tr AObj → Option AObj) → Option AObj) (fun _ => none) (fun l _ _ _ _ ih => ih l) t ih)
    (fun _ ih t => Tr.rec (motive := fun _ => (Tr AObj → Option AObj) → Option AObj) (fun _ => none) (fun _ _ r _ _ ih => ih r) t ih) p t
noncomputable def nodeLO (t : Tr AObj) (v : Option AObj) (r : Tr AObj) : Tr AObj :=
  Tr.rec (motive := fun _ => Option AObj → Tr AObj → Tr AObj) (fun v r => node nil v r) (fun a b c _ _ v r => node (node a b c) v r) t v r
noncomputable def nodeRO (l : Tr AObj) (v : Option AObj) (t : Tr AObj) : Tr AObj :=
  Tr.rec (motive := fun _ => Tr AObj → Option AObj → Tr AObj) (fun l v => node l v nil) (fun a b c _ _ l v => node l v (node a b c)) t l v
noncomputable def putPO (p : Pth) (v : Option AObj) (t : Tr AObj) : Tr AObj :=
  Pth.rec (motive := fun _ => Option AObj → Tr AObj → Tr AObj) (fun v t => Tr.rec (motive := fun _ => Option AObj → Tr AObj) (fun v => node nil v nil) (fun l _ r _ _ v => node l v r) t v)
    (fun _ ih v t => Tr.rec (motive := fun _ => (Option AObj → Tr AObj → Tr AObj) → Option AObj → Tr AObj) (fun ih v => nodeLO (ih v nil) none nil) (fun l x r _ _ ih v => nodeLO (ih v l) x r) t ih v)
    (fun _ ih v t => Tr.rec (motive := fun _ => (Option AObj → Tr AObj → Tr AObj) → Option AObj → Tr AObj) (fun ih v => nodeRO nil none (ih v nil)) (fun l x r _ _ ih v => nodeRO l x (ih v r)) t ih v) p v t
noncomputable def getO (t : Tr AObj) (n : Nat) : Option AObj := getPO (pathOf n) t
noncomputable def putO (_ : Nat) (t : Tr AObj) (n : Nat) (v : Option AObj) : Tr AObj := putPO (pathOf n) v t
end Tr

structure AH where
  heap : Tr AObj
  next : Nat

inductive AIt where
  | code (c : Code)
  | inBlock (id : Nat)
  | inLoop (c : Code)
  | inScope (c : Code)
  | reg (ops : Array Oper) (rest : List Oper)
  | inRF (l : Nat)
  | endRF (l : Nat)
  | beginRound
  | dreg (ops : Array Oper) (done : Nat) (pend : List (Nat × Nat)) (cur : Option Nat)

inductive AMd where
  | run
  | ret
  | pan (chain : List (AV × Bool))

/-- what a frame keeps -/
structure AX where
  fn : FuncId
  n : Nat
  kind : CallKind
  round : Option Nat

structure AFr where
  x : AX
  tm : Tr AV
  todo : List AIt
  ds : List ADf
  mode : AMd

structure AS where
  fr : AFr
  cs : List AFr
  h : AH

/-! ## Strings as numbers -/
noncomputable def packL : List UInt8 → Nat
  | [] => 0
  | b :: r => b.toNat + 256 * packL r

noncomputable def ofBytes (s : ByteArray) : AV := .str s.size (packL s.data.toList)

noncomputable def byteAt (val i : Nat) : Nat := (val >>> (8 * i)) % 256

/-! ## Values of the program's text -/
mutual
noncomputable def ofV : Value → Option AV
  | .bool b => some (.bool b)
  | .int k n => some (.int k n)
  | .string s => some (ofBytes s)
  | .pointer none => some .np
  | .slice none 0 0 => some .ns
  | .map none => some .nm
  | .nilFunc => some .nf
  | .nilIface => some .ni
  | .iface t v => match ofV v with | some v => some (.iface t v) | none => none
  | .agg ⟨cs⟩ => match ofVs cs with | some cs => some (.agg cs) | none => none
  | .tuple ⟨vs⟩ => match ofVs vs with | some vs => some (.tup vs) | none => none
  | _ => none
noncomputable def ofVs : List Value → Option (List AV)
  | [] => some []
  | v :: r => match ofV v with
    | none => none
    | some v => match ofVs r with | none => none | some r => some (v :: r)
end

noncomputable def undefA : AV := .tup []

/-! ## Lists -/
noncomputable def nth {α : Type} (l : List α) (n : Nat) : Option α :=
  List.rec (motive := fun _ => Nat → Option α) (fun _ => none) (fun x _ ih n => Nat.rec (some x) (fun n _ => ih n) n) l n

noncomputable def lcons (x : AV) (l : List AV) : List AV := List.rec [x] (fun y ys _ => x :: y :: ys) l

noncomputable def lset (l : List AV) (n : Nat) (v : AV) : List AV :=
  List.rec (motive := fun _ => Nat → AV → List AV) (fun _ _ => []) (fun x r ih n v => Nat.rec (v :: r) (fun n _ => lcons x (ih n v)) n) l n v

noncomputable def lsets (vs : List AV) (cs : List AV) (i : Nat) : List AV :=
  List.rec (motive := fun _ => List AV → Nat → List AV) (fun cs _ => cs) (fun v _ ih cs i => ih (lset cs i v) (Nat.succ i)) vs cs i

noncomputable def lfirst (l : List AV) (n : Nat) : Option (List AV) :=
  List.rec (motive := fun _ => Nat → Option (List AV)) (fun n => Nat.rec (some []) (fun _ _ => none) n)
    (fun x _ ih n => Nat.rec (some []) (fun n _ => Option.rec none (fun l => some (x :: l)) (ih n)) n) l n

noncomputable def ltake (l : List AV) (i n : Nat) : Option (List AV) :=
  List.rec (motive := fun _ => Nat → Nat → Option (List AV)) (fun i n => Nat.rec (lfirst [] n) (fun _ _ => none) i)
    (fun x r ih i n => Nat.rec (lfirst (x :: r) n) (fun i _ => ih i n) i) l i n

noncomputable def llen (l : List AV) : Nat := List.rec 0 (fun _ _ ih => Nat.succ ih) l

/-! ## Types -/
section
variable (P : Program)
noncomputable def infoA (t : TypeId) : Option TypeInfo := nth P.types.toList t
noncomputable def undA (t : TypeId) : Option TypeDesc := match infoA P t with
  | none => none
  | some i => match i.desc with
    | .named _ u => (match infoA P u with | none => none | some j => some j.desc)
    | d => some d
noncomputable def funcA (f : FuncId) : Option Func := nth P.funcs.toList f
noncomputable def szOf (t : TypeId) : Option Nat := match infoA P t with | none => none | some i => some i.size
noncomputable def zeroOf (t : TypeId) : Option AV := match infoA P t with | none => none | some i => match i.zero with | none => none | some z => ofV z
/-- the cells of an aggregate; 'some none': one cell -/
noncomputable def layA (t : TypeId) : Option (Option Nat) := match undA P t with
  | none => none
  | some (.struct _) => (match szOf P t with | none => none | some n => some (some n))
  | some (.array _ _) => (match szOf P t with | none => none | some n => some (some n))
  | some _ => some none
/-- of a slice type: its elements' type, and their cells -/
noncomputable def slA (t : TypeId) : Option (TypeId × Nat) := match undA P t with
  | some (.slice e) => (match szOf P e with | none => none | some n => some (e, n))
  | _ => none
/-- of an array type: how many elements, and their cells -/
noncomputable def arrA (t : TypeId) : Option (Nat × TypeId × Nat) := match undA P t with
  | some (.array n e) => (match szOf P e with | none => none | some s => some (n, e, s))
  | _ => none
/-- of a struct type: a field's type and place; not of one without cells -/
noncomputable def fldA (t : TypeId) (i : Nat) : Option (TypeId × Nat) := match undA P t with
  | some (.struct fs) => (match nth fs.toList i with
    | none => none
    | some f => (match szOf P f.type with | some (_ + 1) => some (f.type, f.offset) | _ => none))
  | _ => none
noncomputable def isStrT (t : TypeId) : Bool := match undA P t with | some .string => true | _ => false
noncomputable def notIntT (t : TypeId) : Bool := match undA P t with | none => false | some (.int _) => false | some _ => true
/-- may rows of a type be made, of not too many? -/
noncomputable def growOk (t : TypeId) : Bool := match infoA P t with
  | none => false
  | some i => match i.zero with
    | none => false
    | some z => match ofV z with
      | none => false
      | some a => Nat.ble i.bytes 65536 && Nat.beq (llen (cellsOf a)) i.size
noncomputable def isIfaceT (t : TypeId) : Option Bool := match undA P t with | none => none | some (.interface _) => some true | some _ => some false
/-- the kinds of keys that are told -/
inductive KeyD where
  | int (q : IntKind) | str | bool
noncomputable def mapA (t : TypeId) : Option (KeyD × TypeId) := match undA P t with
  | some (.map k e) => (match undA P k with
    | some (.int q) => some (.int q, e)
    | some .string => some (.str, e)
    | some .bool => some (.bool, e)
    | _ => none)
  | _ => none
end

/-! ## Memory -/
noncomputable def objRow (o : Option AObj) : Option (List AV × TypeId) := match o with
  | some (.cells _ cs e) => some (cs, e)
  | _ => none
noncomputable def objRowW (o : Option AObj) : Option (List AV × TypeId) := match o with
  | some (.cells ro cs e) => sel ro none (some (cs, e))
  | _ => none
noncomputable def AH.obj (h : AH) (id : Nat) : Option AObj := h.heap.getO id
noncomputable def AH.upd (h : AH) (id : Nat) (o : Option AObj) : AH := ⟨h.heap.putO fuel id o, h.next⟩
noncomputable def AH.new (h : AH) (o : AObj) : AH := ⟨h.heap.putO fuel h.next (some o), Nat.succ h.next⟩
noncomputable def AH.row (h : AH) (id : Nat) : Option (List AV × TypeId) := objRow (h.obj id)
noncomputable def AH.rowW (h : AH) (id : Nat) : Option (List AV × TypeId) := objRowW (h.obj id)
noncomputable def AH.entries (h : AH) (id : Nat) : Option (List (AV × AV)) := match h.obj id with | some (.map es) => some es | _ => none

section
variable (P : Program)

/-- cells of a block: one, or an aggregate's -/
noncomputable def pickA (lay : Option Nat) (cs : List AV) (off : Nat) : Option AV :=
  match lay with
  | none => nth cs off
  | some n => match ltake cs off n with | none => none | some l => some (.agg l)

noncomputable def loadA (h : AH) (t : TypeId) (a : AV) : Option AV :=
  match layA P t with
  | none => none
  | some lay => match asPtr a with
    | none => none
    | some p => match h.row p.1 with
      | none => none
      | some r => pickA lay r.1 p.2

/-- is each the value of one cell? -/
noncomputable def ones : List AV → Bool
  | [] => true
  | v :: r => sel (oneA v) (ones r) false

/-- a block with cells written -/
noncomputable def writeA (h : AH) (id off : Nat) (vs : List AV) : Option AH :=
  match h.rowW id with
  | none => none
  | some r => sel (ones vs && Nat.ble (off + llen vs) (llen r.1)) (match lsets vs r.1 off with
      | [] => none
      | c :: l => some (h.upd id (some (.cells false (c :: l) r.2)))) none

noncomputable def storeA (h : AH) (t : TypeId) (a v : AV) : Option AH :=
  match szOf P t with
  | none => none
  | some n => match asPtr a with
    | none => none
    | some p => sel (Nat.beq (llen (cellsOf v)) n) (writeA h p.1 p.2 (cellsOf v)) none

/-- a part of an aggregate's cells -/
noncomputable def partA (t : TypeId) (cs : List AV) (off : Nat) : Option AV :=
  match layA P t with
  | none => none
  | some lay => pickA lay cs off

/-! ## Operators -/
noncomputable def mkInt (k : IntKind) (n : Int) : AV :=
  match n with
  | .ofNat 0 => .int k 0
  | .ofNat (m + 1) => .int k (.ofNat (m + 1))
  | .negSucc 0 => .int k (.negSucc 0)
  | .negSucc (m + 1) => .int k (.negSucc (m + 1))
noncomputable def mkBool (b : Bool) : AV := match b with | true => .bool true | false => .bool false

/-- a number as it stands, where it surely fits; else wrapped -/
noncomputable def wrapF (k : IntKind) (n : Int) : Int :=
  match n with
  | .ofNat m => bif Nat.blt m (match k with | .i8 => 128 | .u8 => 256 | .i16 => 32768 | .u16 => 65536 | .i32 => 2147483648 | .u32 => 4294967296 | .i64 => 9223372036854775808 | .u64 => 18446744073709551616) then .ofNat m else k.wrap (.ofNat m)
  | .negSucc m => bif Nat.blt m (match k with | .i8 => 128 | .i16 => 32768 | .i32 => 2147483648 | .i64 => 9223372036854775808 | _ => 0) then .negSucc m else k.wrap (.negSucc m)

noncomputable def eqI (a b : Int) : Bool :=
  match a with
  | .ofNat m => (match b with | .ofNat n => Nat.beq m n | .negSucc _ => false)
  | .negSucc m => (match b with | .ofNat _ => false | .negSucc n => Nat.beq m n)

noncomputable def ltI (a b : Int) : Bool :=
  match a with
  | .ofNat m => (match b with | .ofNat n => Nat.blt m n | .negSucc _ => false)
  | .negSucc m => (match b with | .ofNat _ => true | .negSucc n => Nat.blt n m)

noncomputable def quoI (k : IntKind) (a b : Int) : Option AV := bif eqI b 0 then none else some (mkInt k (wrapF k (a.tdiv b)))
noncomputable def remI (k : IntKind) (a b : Int) : Option AV := bif eqI b 0 then none else some (mkInt k (a.tmod b))
noncomputable def bitI (op : BinOp) (k : IntKind) (a b : Int) : Option AV :=
  match op with
  | .and => some (mkInt k (k.wrap (BitVec.ofInt k.bits a &&& BitVec.ofInt k.bits b).toNat))
  | .or => some (mkInt k (k.wrap (BitVec.ofInt k.bits a ||| BitVec.ofInt k.bits b).toNat))
  | .xor => some (mkInt k (k.wrap (BitVec.ofInt k.bits a ^^^ BitVec.ofInt k.bits b).toNat))
  | .andNot => some (mkInt k (k.wrap (BitVec.ofInt k.bits a &&& ~~~ (BitVec.ofInt k.bits b)).toNat))
  | _ => none

noncomputable def intOp (op : BinOp) (k : IntKind) (a b : Int) : Option AV :=
  match op with
  | .add => some (mkInt k (wrapF k (Int.add a b)))
  | .sub => some (mkInt k (wrapF k (Int.sub a b)))
  | .mul => some (mkInt k (wrapF k (Int.mul a b)))
  | .quo => quoI k a b
  | .rem => remI k a b
  | .and => bitI .and k a b
  | .or => bitI .or k a b
  | .xor => bitI .xor k a b
  | .andNot => bitI .andNot k a b
  | .eql => some (mkBool (eqI a b))
  | .neq => some (mkBool (not (eqI a b)))
  | .lss => some (mkBool (ltI a b))
  | .leq => some (mkBool (not (ltI b a)))
  | .gtr => some (mkBool (ltI b a))
  | .geq => some (mkBool (not (ltI a b)))
  | _ => none

noncomputable def shiftOp (op : BinOp) (k : IntKind) (a b : Int) : Option AV :=
  if b < 0 then none else
  match op with
  | .shl => some (mkInt k (k.wrap (a * 2 ^ (min b.toNat k.bits))))
  | .shr => some (mkInt k (a.fdiv (2 ^ (min b.toNat k.bits))))
  | _ => none

noncomputable def kindEq : IntKind → IntKind → Bool
  | .i8, .i8 | .i16, .i16 | .i32, .i32 | .i64, .i64 | .u8, .u8 | .u16, .u16 | .u32, .u32 | .u64, .u64 => true
  | _, _ => false

/-- is the one string below the other? bytes from the first on -/
noncomputable def strLt : Nat → Nat → Nat → Nat → Nat → Bool
  | 0, _, _, _, _ => false
  | f + 1, la, a, lb, b =>
    bif Nat.beq lb 0 then false else bif Nat.beq la 0 then true else
    bif Nat.blt (a % 256) (b % 256) then true else
    bif Nat.beq (a % 256) (b % 256) then strLt f (la - 1) (a / 256) (lb - 1) (b / 256) else false

noncomputable def strEq (la a lb b : Nat) : Bool := Nat.beq la lb && Nat.beq a b

noncomputable def mkStr (len val : Nat) : AV :=
  match len, val with
  | 0, _ => .str 0 0
  | l + 1, 0 => .str (l + 1) 0
  | l + 1, v + 1 => .str (l + 1) (v + 1)

noncomputable def strOp (op : BinOp) (la a lb b : Nat) : Option AV :=
  match op with
  | .add => sel (Nat.ble (la + lb) 4294967296) (some (mkStr (la + lb) (a + b <<< (8 * la)))) none
  | .eql => some (mkBool (strEq la a lb b))
  | .neq => some (mkBool (!strEq la a lb b))
  | .lss => some (mkBool (strLt (la + 1) la a lb b))
  | .leq => some (mkBool (strLt (la + 1) la a lb b || strEq la a lb b))
  | .gtr => some (mkBool (!(strLt (la + 1) la a lb b || strEq la a lb b)))
  | .geq => some (mkBool (!strLt (la + 1) la a lb b))
  | _ => none

/-- bytes that are not told: of three kinds, with what remains of them by 5, 6, 9; each as a byte, and (one number further) as an int -/
noncomputable def qByte (i : Nat) : Bool := sel (Nat.ble 16 i) (Nat.blt i 112) false
noncomputable def qbK (i : Nat) : Nat := Nat.div (Nat.div (Nat.sub i 16) 2) 16
noncomputable def qbR (i : Nat) : Nat := Nat.mod (Nat.div (Nat.sub i 16) 2) 16
noncomputable def qbT (i : Nat) : IntKind := match Nat.mod (Nat.sub i 16) 2 with | 0 => .u8 | _ => .i64
noncomputable def qbM (k : Nat) : Nat := match k with | 0 => 5 | 1 => 6 | _ => 9
noncomputable def byteRem (i : Nat) (c : Int) : Option AV := sel (eqI c (.ofNat (qbM (qbK i)))) (sel (Nat.blt (qbR i) (qbM (qbK i))) (some (mkInt (qbT i) (.ofNat (qbR i)))) none) none
noncomputable def byteB (op : BinOp) (i : Nat) (c : Int) : Option AV := match op with | .rem => byteRem i c | _ => none
noncomputable def byteInt (k : IntKind) (i : Nat) : Option AV :=
  sel (qByte i) (match k with
    | .i64 => (match qbT i with | .u8 => some (.opq (Nat.succ i)) | _ => none)
    | .u8 => (match qbT i with | .i64 => some (.opq (Nat.pred i)) | _ => none)
    | _ => none) none

/-- how values of a type are compared -/
inductive EqT where
  | no | bool | int | str
  | nilable (k : TK)
noncomputable def eqTOf (d : TypeDesc) : EqT :=
  match d with
  | .bool => .bool
  | .int _ => .int
  | .string => .str
  | .pointer _ => .nilable .ptr
  | .slice _ => .nilable .slice
  | .map _ _ => .nilable .map
  | .func _ _ _ => .nilable .func
  | .interface _ => .nilable .iface
  | _ => .no
noncomputable def eqT (t : TypeId) : EqT := match undA P t with | none => .no | some d => eqTOf d

/-- one is nil -/
noncomputable def eqNil (k : TK) (x y : EqV) : Option Bool :=
  match x with
  | .nil a => sel (tkEq a k) (match y with
      | .nil b => sel (tkEq b k) (some true) none
      | .there b => sel (tkEq b k) (some false) none
      | .iface _ _ => sel (tkEq k .iface) (some false) none
      | _ => none) none
  | .there a => sel (tkEq a k) (match y with | .nil b => sel (tkEq b k) (some false) none | _ => none) none
  | .iface _ _ => sel (tkEq k .iface) (match y with | .nil b => sel (tkEq b k) (some false) none | _ => none) none
  | _ => none

/-- of a struct type that is compared field by field: the fields' types and places -/
noncomputable def eqFields : List Field → Option (List (TypeId × Nat))
  | [] => some []
  | f :: fs => if f.name = "_" then eqFields fs else match eqFields fs with | none => none | some l => some ((f.type, f.offset) :: l)
noncomputable def structA (t : TypeId) : Option (List (TypeId × Nat)) := match undA P t with
  | some (.struct fs) => (match P.stoodInHeld t with | true => none | false => eqFields fs.toList)
  | _ => none
noncomputable def cmpT (t : TypeId) : Bool := match infoA P t with | some i => i.comparable | none => false

/-- a number that is not told, and itself -/
noncomputable def isIntT (t : TypeId) : Bool := match eqT P t with | .int => true | _ => false
noncomputable def sameOpq (t : TypeId) (a b : AV) : Bool :=
  match asOpq a with
  | none => false
  | some i => match asOpq b with
    | none => false
    | some j => sel (Nat.beq i j) (sel (sel (Nat.blt i 7) true (qByte i)) (isIntT P t) false) false

mutual
/-- equality, by the type; 'none': not told -/
noncomputable def eqA : Nat → TypeId → AV → AV → Option Bool
  | 0, _, _, _ => none
  | d + 1, t, x, y =>
    match eqT P t with
    | .bool => (match asBool x with
      | none => none
      | some a => match asBool y with | none => none | some b => some (match a with | true => b | false => not b))
    | .int => (match asInt x with
      | none => none
      | some a => match asInt y with | none => none | some b => sel (kindEq a.1 b.1) (some (eqI a.2 b.2)) none)
    | .str => (match asStr x with
      | none => none
      | some a => match asStr y with | none => none | some b => some (strEq a.1 a.2 b.1 b.2))
    | .nilable k => (match eqNil k (eqK x) (eqK y) with
      | some r => some r
      | none => sel (tkEq k .iface) (match asIface x with
        | none => none
        | some a => match asIface y with
          | none => none
          | some b => sel (Nat.beq a.1 b.1) (sel (cmpT P a.1) (eqA d a.1 a.2 b.2) none) (some false)) none)
    | .no => match structA P t with
      | none => none
      | some fs => match asAgg x with
        | none => none
        | some xs => match asAgg y with
          | none => none
          | some ys => eqFs d fs xs ys
noncomputable def eqFs : Nat → List (TypeId × Nat) → List AV → List AV → Option Bool
  | 0, _, _, _ => none
  | _ + 1, [], _, _ => some true
  | d + 1, f :: fs, xs, ys =>
    match partA P f.1 xs f.2 with
    | none => none
    | some a => match partA P f.1 ys f.2 with
      | none => none
      | some b => match sel (sameOpq P f.1 a b) (some true) (eqA d f.1 a b) with
        | some true => eqFs d fs xs ys
        | r => r
end

/-- '==' on aggregates of this type looks at no interface -/
noncomputable def eqCalm (t : TypeId) : Bool := !P.eqGuardType P.depth t
/-- an interface without methods -/
noncomputable def bareI (t : TypeId) : Bool := match undA P t with | some (.interface ms) => ms.isEmpty | _ => false
noncomputable def isConst (x : Operand) : Bool := match x with | .const _ => true | _ => false

/-- the look ahead of '==' on interfaces and aggregates is idle -/
noncomputable def eqIdle (t : TypeId) (x y : Operand) (a b : AV) : Bool :=
  match asAgg a with
  | some _ => eqCalm P t
  | none => sel (isNi a) (sel (isNi b) (sel (isConst x) true (sel (isConst y) true (bareI P t))) true) true

noncomputable def eqB (t : TypeId) (x y : Operand) (a b : AV) : Option Bool :=
  sel (eqIdle P t x y a b) (eqA P 60 t a b) none

/-- what is known of a number that is not told: not below, not above, what remains of it by 4 -/
noncomputable def qLo (i : Nat) : Option Int := match i with | 0 => some 0 | 1 => some 0 | 2 => some 0 | 3 => some 0 | 5 => some 31 | 6 => some 0 | 8 => some 1 | 9 => some 256 | 11 => some 8 | 13 => some 7 | 14 => some 6 | 15 => some 1 | _ => none
noncomputable def qHi (i : Nat) : Option Int := match i with | 4 => some (-1) | 6 => some 30 | 10 => some (-2) | 12 => some 0 | 15 => some 255 | _ => none
noncomputable def qMod (i : Nat) : Option Nat := match i with | 0 => some 0 | 1 => some 1 | 2 => some 2 | 3 => some 3 | _ => none

/-- the bounds, of bytes too -/
noncomputable def bLo (i : Nat) : Option Int := sel (qByte i) (some 0) (qLo i)
noncomputable def bHi (i : Nat) : Option Int := sel (qByte i) (some 255) (qHi i)
noncomputable def qBelow (i : Nat) (c : Int) : Bool := match bHi i with | some m => ltI m c | none => false
noncomputable def qAbove (i : Nat) (c : Int) : Bool := match bLo i with | some m => ltI c m | none => false
noncomputable def qNotBelow (i : Nat) (c : Int) : Bool := match bLo i with | some m => not (ltI m c) | none => false
noncomputable def qNotAbove (i : Nat) (c : Int) : Bool := match bHi i with | some m => not (ltI c m) | none => false
noncomputable def boolO (y n : Bool) : Option AV := sel y (some (mkBool true)) (sel n (some (mkBool false)) none)
noncomputable def opqLt (i : Nat) (c : Int) : Option AV := boolO (qBelow i c) (qNotBelow i c)
noncomputable def opqGt (i : Nat) (c : Int) : Option AV := boolO (qAbove i c) (qNotAbove i c)
noncomputable def opqLe (i : Nat) (c : Int) : Option AV := boolO (qNotAbove i c) (qAbove i c)
noncomputable def opqGe (i : Nat) (c : Int) : Option AV := boolO (qNotBelow i c) (qBelow i c)
/-- never the same -/
noncomputable def opqNe (i : Nat) (c : Int) : Bool := sel (qBelow i c) true (qAbove i c)
noncomputable def opqRem (i : Nat) (c : Int) : Option AV :=
  match qMod i with
  | some m => sel (eqI c 4) (some (mkInt .i64 (.ofNat m))) none
  | none => none
noncomputable def subO (i : Nat) (c : Int) : Option AV := sel (qByte i) (sel (eqI c 0) (some (.opq i)) none) none
/-- an opq, and a number -/
noncomputable def opqB (op : BinOp) (i : Nat) (c : Int) : Option AV :=
  match op with
  | .lss => opqLt i c
  | .gtr => opqGt i c
  | .leq => opqLe i c
  | .geq => opqGe i c
  | .eql => sel (opqNe i c) (some (mkBool false)) none
  | .neq => sel (opqNe i c) (some (mkBool true)) none
  | .sub => subO i c
  | .rem => sel (qByte i) (byteRem i c) (opqRem i c)
  | _ => none
/-- a number, and an opq -/
noncomputable def opqB' (op : BinOp) (c : Int) (i : Nat) : Option AV :=
  match op with
  | .lss => opqGt i c
  | .gtr => opqLt i c
  | .leq => opqGe i c
  | .geq => opqLe i c
  | _ => none
noncomputable def opqInt (i : Nat) : Bool := sel (Nat.blt i 7) true (sel (Nat.ble 8 i) (Nat.blt i 112) false)
noncomputable def opqK (i : Nat) : IntKind := sel (qByte i) (qbT i) .i64
noncomputable def opqO (op : BinOp) (a b : AV) : Option AV :=
  match asOpq a with
  | none => none
  | some i => match asInt b with
    | none => none
    | some q => sel (opqInt i) (sel (kindEq q.1 (opqK i)) (opqB op i q.2) none) none
noncomputable def opqO' (op : BinOp) (p : IntKind × Int) (b : AV) : Option AV :=
  match asOpq b with
  | none => none
  | some i => sel (opqInt i) (sel (kindEq p.1 (opqK i)) (opqB' op p.2 i) none) none
noncomputable def strOpq (i : Nat) : Bool := sel (Nat.ble 200 i) (Nat.blt i 131272) false
/-- the same string, that is not told -/
noncomputable def sameStr (a b : AV) : Bool := match asOpq a with | none => false | some i => match asOpq b with | none => false | some j => sel (Nat.beq i j) (strOpq i) false

noncomputable def binO (op : BinOp) (t : TypeId) (x y : Operand) (a b : AV) : Option AV :=
  match op with
  | .eql => sel (sameStr a b) (some (mkBool true)) (match opqO .eql a b with | some v => some v | none => (match eqB P t x y a b with | some r => some (mkBool r) | none => none))
  | .neq => (match opqO .neq a b with | some v => some v | none => (match eqB P t x y a b with | some r => some (mkBool (not r)) | none => none))
  | op => opqO op a b

noncomputable def binI (op : BinOp) (k : IntKind) (m : Int) (k' : IntKind) (n : Int) : Option AV :=
  match op with
  | .shl => shiftOp .shl k m n
  | .shr => shiftOp .shr k m n
  | op => sel (kindEq k k') (intOp op k m n) none

noncomputable def binA (op : BinOp) (t : TypeId) (x y : Operand) (a b : AV) : Option AV :=
  match asInt a with
  | some p => (match asInt b with | some q => binI op p.1 p.2 q.1 q.2 | none => opqO' op p b)
  | none => match asStr a with
    | some p => (match asStr b with | some q => strOp op p.1 p.2 q.1 q.2 | none => none)
    | none => binO P op t x y a b

noncomputable def unA (op : UnOp) (x : AV) : Option AV :=
  match op with
  | .neg => (match asInt x with | some p => some (mkInt p.1 (wrapF p.1 (Int.sub 0 p.2))) | none => none)
  | .xor => (match asInt x with | some p => some (mkInt p.1 (p.1.wrap (BitVec.ofInt p.1.bits (if p.1.signed then -1 else p.1.max) ^^^ BitVec.ofInt p.1.bits p.2).toNat)) | none => none)
  | .not => (match asBool x with | some b => some (mkBool (not b)) | none => none)
  | _ => none

/-! ## Strings and bytes -/
noncomputable def bytesA (n v : Nat) : List AV :=
  Nat.rec (motive := fun _ => Nat → List AV) (fun _ => []) (fun _ ih v => mkInt .u8 (Int.ofNat (Nat.mod v 256)) :: ih (Nat.div v 256)) n v

noncomputable def byteOfA (x : AV) : Option Nat := match asInt x with
  | some p => (match p.1 with | .u8 => (match p.2 with | .ofNat m => some (Nat.mod m 256) | _ => none) | _ => none)
  | none => none

noncomputable def packA : List AV → Option Nat
  | [] => some 0
  | x :: r => match byteOfA x with
    | none => none
    | some m => match packA r with | some v => some (m + 256 * v) | none => none

/-- three bytes, of which one is not told: a string that is not told -/
noncomputable def opqU8 (x : AV) : Option Nat := match asOpq x with | none => none | some i => sel (Nat.beq i 46) (some i) none
noncomputable def packO (l : List AV) : Option AV :=
  match l with
  | [a, b, c] => (match byteOfA a with
    | none => none
    | some m => match opqU8 b with
      | some _ => (match byteOfA c with | some n => some (.opq (200 + (256 * m + n) * 2)) | none => none)
      | none => match byteOfA b with
        | none => none
        | some n => match opqU8 c with | some _ => some (.opq (200 + (256 * m + n) * 2 + 1)) | none => none)
  | _ => none

/-- how '(src)(dst)' is done -/
inductive ConvD where
  | no
  | int (k : IntKind)
  | same
  | toBytes (e : TypeId)
  | ofBytes
  | mark
noncomputable def convD (src dst : TypeId) : ConvD :=
  match undA P src with
  | some (.int _) => (match undA P dst with | some (.int k) => .int k | _ => .no)
  | some .string => (match undA P dst with
    | some .string => .same
    | some (.slice e) => (match undA P e with | some (.int .u8) => (match szOf P e with | some 1 => .toBytes e | _ => .no) | _ => .no)
    | _ => .no)
  | some (.slice e) => (match undA P dst with
    | some .string => (match undA P e with | some (.int .u8) => .ofBytes | _ => .no)
    | some (.slice _) => (match undA P e with | some (.int .u8) => sel (Nat.beq src dst) .mark .no | _ => .no)
    | _ => .no)
  | _ => .no

noncomputable def bytesOfRow (h : AH) (id off len : Nat) : Option (AV × AH) :=
  match h.row id with
  | none => none
  | some r => match ltake r.1 off len with
    | none => none
    | some l => match packA l with | some v => some (mkStr len v, h) | none => (match packO l with | some v => some (v, h) | none => none)

noncomputable def convA (h : AH) (src dst : TypeId) (x : AV) : Option (AV × AH) :=
  match convD P src dst with
  | .int k => (match asInt x with
    | some p => some (mkInt k (wrapF k p.2), h)
    | none => match asOpq x with
      | some i => (match byteInt k i with | some v => some (v, h) | none => none)
      | none => none)
  | .same => (match asStr x with | some p => some (.str p.1 p.2, h) | none => none)
  | .toBytes e => (match asStr x with | some p => some (.su h.next 0 0 p.1, h.new (.cells false (bytesA p.1 p.2) e)) | none => none)
  | .ofBytes => (match asSl x with
    | .nil => some (.str 0 0, h)
    | .emp _ => some (.str 0 0, h)
    | .sl id off len _ => bytesOfRow h id off len
    | .su id off _ len => bytesOfRow h id off len
    | .no => none)
  | .mark => (match asSl x with
    | .sl id off len cap => (match h.rowW id with | some _ => some (.sl id off len cap, h) | none => none)
    | .su id off oe len => (match h.rowW id with | some _ => some (.su id off oe len, h) | none => none)
    | _ => none)
  | .no => none

/-! ## Slices -/
noncomputable def natOf (n : Int) : Option Nat := match n with | .ofNat n => some n | _ => none
noncomputable def idx (v : AV) : Option Nat := match asInt v with | some p => natOf p.2 | none => none
noncomputable def idxO (v : Option AV) (d : Nat) : Option Nat := match v with | none => some d | some v => idx v

/-- the bounds of a cut: low, high -/
noncomputable def bnds (lo hi : Option AV) (len : Nat) : Option (Nat × Nat) :=
  match idxO hi len with
  | none => none
  | some h => match idxO lo 0 with
    | none => none
    | some l => sel (Nat.ble l h) (some (l, h)) none

noncomputable def cutStr (h : AH) (len v l hh : Nat) : Option (AV × AH) :=
  sel (Nat.ble hh len) (some (mkStr (hh - l) (Nat.mod (Nat.shiftRight v (Nat.mul 8 l)) (Nat.pow 2 (Nat.mul 8 (hh - l)))), h)) none
noncomputable def cutNil (h : AH) (x : AV) (hh : Nat) : Option (AV × AH) := sel (Nat.beq hh 0) (some (x, h)) none
noncomputable def cutSl (h : AH) (s id off cap l hh : Nat) : Option (AV × AH) :=
  sel (Nat.ble hh cap) (sel (Nat.beq l cap) (some (.sl id off 0 0, h)) (some (.sl id (off + l * s) (hh - l) (cap - l), h))) none
noncomputable def cutSu (h : AH) (s id off oe len l hh : Nat) : Option (AV × AH) :=
  sel (Nat.ble hh len) (sel (Nat.blt l len) (some (.su id (off + l * s) (oe + l) (hh - l), h))
    (sel (Nat.beq l 0) (some (.su id off oe 0, h)) (some (.es h.next, ⟨h.heap.putO fuel h.next none, Nat.succ h.next⟩)))) none

noncomputable def sliceS (h : AH) (s : Nat) (x : AV) (lo hi : Option AV) : Option (AV × AH) :=
  match asSl x with
  | .nil => (match bnds lo hi 0 with | some p => cutNil h .ns p.2 | none => none)
  | .emp i => (match bnds lo hi 0 with | some p => cutNil h (.es i) p.2 | none => none)
  | .sl id off len cap => (match bnds lo hi len with | some p => cutSl h s id off cap p.1 p.2 | none => none)
  | .su id off oe len => (match bnds lo hi len with | some p => cutSu h s id off oe len p.1 p.2 | none => none)
  | .no => none

noncomputable def sliceA (h : AH) (t : TypeId) (x : AV) (lo hi : Option AV) : Option (AV × AH) :=
  match slA P t with
  | some e => sliceS h e.2 x lo hi
  | none => sel (isStrT P t)
      (match asStr x with
       | some s => (match bnds lo hi s.1 with | some p => cutStr h s.1 s.2 p.1 p.2 | none => none)
       | none => none)
      (match arrA P t with
       | some a => (match asPtr x with
         | some p => (match bnds lo hi a.1 with | some q => cutSl h a.2.2 p.1 p.2 a.1 q.1 q.2 | none => none)
         | none => none)
       | none => none)

/-- a cut with three bounds, of a slice whose capacity is known -/
noncomputable def slice3A (h : AH) (t : TypeId) (x : AV) (lo hi : Option AV) (m : AV) : Option (AV × AH) :=
  match hi with
  | none => none
  | some hv => match slA P t with
    | none => none
    | some e => match asSl x with
      | .sl id off len cap => (match idx m with
        | none => none
        | some mm => sel (Nat.ble mm cap) (match bnds lo (some hv) len with | some p => cutSl h e.2 id off mm p.1 p.2 | none => none) none)
      | _ => none

noncomputable def indexAddrS (x : AV) (s n : Nat) : Option AV :=
  match asSl x with
  | .sl id off len _ => sel (Nat.blt n len) (some (.ptr id (off + n * s))) none
  | .su id off _ len => sel (Nat.blt n len) (some (.ptr id (off + n * s))) none
  | _ => none

noncomputable def indexAddrA (t : TypeId) (x i : AV) : Option AV :=
  match idx i with
  | none => none
  | some n => match slA P t with
    | some e => indexAddrS x e.2 n
    | none => match arrA P t with
      | none => none
      | some a => match asPtr x with
        | none => none
        | some p => sel (Nat.blt n a.1) (some (.ptr p.1 (p.2 + n * a.2.2))) none

noncomputable def indexA (t : TypeId) (x i : AV) : Option AV :=
  match idx i with
  | none => none
  | some n => match asStr x with
    | some s => sel (isStrT P t) (sel (Nat.blt n s.1) (some (mkInt .u8 (.ofNat (byteAt s.2 n)))) none) none
    | none => match arrA P t with
      | none => none
      | some a => match asAgg x with
        | none => none
        | some cs => sel (Nat.blt n a.1) (partA P a.2.1 cs (n * a.2.2)) none

noncomputable def lenS (x : AV) : Option Nat :=
  match asSl x with
  | .nil => some 0
  | .emp _ => some 0
  | .sl _ _ l _ => some l
  | .su _ _ _ l => some l
  | .no => none

noncomputable def isSlT (t : TypeId) : Bool := match undA P t with | some (.slice _) => true | _ => false
noncomputable def isMapT (t : TypeId) : Bool := match undA P t with | some (.map _ _) => true | _ => false
noncomputable def arrLen (t : TypeId) : Option Nat := match undA P t with | some (.array n _) => some n | _ => none

noncomputable def lenM (h : AH) (x : AV) : Option AV :=
  match asMap x with
  | some none => some (.int .i64 0)
  | some (some id) => (match h.entries id with | some es => some (mkInt .i64 (.ofNat es.length)) | none => none)
  | none => none

noncomputable def lenA (h : AH) (t : TypeId) (x : AV) : Option AV :=
  sel (isSlT P t) (match lenS x with | some n => some (mkInt .i64 (.ofNat n)) | none => none)
    (sel (isStrT P t) (match asStr x with | some p => some (mkInt .i64 (.ofNat p.1)) | none => none)
      (sel (isMapT P t) (lenM h x) (match arrLen P t with | some n => some (mkInt .i64 (.ofNat n)) | none => none)))

noncomputable def rowElems (h : AH) (id off len s : Nat) : Option (List AV × Nat) :=
  sel (Nat.beq (len * s) 0) (some ([], len)) (match h.row id with
    | none => none
    | some r => match ltake r.1 off (len * s) with | none => none | some l => some (l, len))

/-- the cells of a slice or a string, and how many elements -/
noncomputable def elemsA (h : AH) (s : Nat) (x : AV) : Option (List AV × Nat) :=
  match asSl x with
  | .nil => some ([], 0)
  | .emp _ => some ([], 0)
  | .sl id off len _ => rowElems h id off len s
  | .su id off _ len => rowElems h id off len s
  | .no => (match asStr x with | some p => sel (Nat.beq s 1) (some (bytesA p.1 p.2, p.1)) none | none => none)

noncomputable def lapp (a b : List AV) : List AV := match a with | [] => b | x :: r => x :: lapp r b

/-- a new row behind an append -/
noncomputable def growA (P : Program) (h : AH) (e : TypeId) (old new : List AV) (need : Nat) : Option (AV × AH) :=
  sel (growOk P e) (sel (Nat.ble need 1048576) (some (.su h.next 0 0 need, h.new (.cells false (lapp old new) e))) none) none

noncomputable def appSl (P : Program) (h : AH) (e : TypeId) (sz id off len cap : Nat) (new : List AV) (n : Nat) : Option (AV × AH) :=
  sel (Nat.ble (len + n) cap)
    (match new with
     | [] => some (.sl id off (len + n) cap, h)
     | x :: r => (match writeA h id (off + len * sz) (x :: r) with | none => none | some h => some (.sl id off (len + n) cap, h)))
    (match rowElems h id off len sz with
     | none => none
     | some old => growA P h e old.1 new (len + n))

noncomputable def appSu (P : Program) (h : AH) (e : TypeId) (sz id off oe len : Nat) (new : List AV) (n : Nat) : Option (AV × AH) :=
  sel (Nat.beq n 0) (some (.su id off oe len, h))
    (sel (Nat.beq off (oe * sz)) (match h.rowW id with
     | none => none
     | some r => sel (Nat.beq r.2 e && ones new) (match ltake r.1 off (len * sz) with
       | none => none
       | some old => growA P (h.upd id none) e old new (len + n)) none) none)

noncomputable def appendA (h : AH) (t : TypeId) (s x : AV) : Option (AV × AH) :=
  match slA P t with
  | none => none
  | some e => match elemsA h e.2 x with
    | none => none
    | some new => match asSl s with
      | .nil => sel (Nat.beq new.2 0) (some (.ns, h)) (growA P h e.1 [] new.1 new.2)
      | .sl id off len cap => appSl P h e.1 e.2 id off len cap new.1 new.2
      | .su id off oe len => appSu P h e.1 e.2 id off oe len new.1 new.2
      | _ => none

noncomputable def placeS (x : AV) : Option (Nat × Nat) :=
  match asSl x with
  | .sl id off _ _ => some (id, off)
  | .su id off _ _ => some (id, off)
  | _ => none

noncomputable def copyA (h : AH) (t : TypeId) (d s : AV) : Option (AV × AH) :=
  match slA P t with
  | none => none
  | some e => match lenS d with
    | none => none
    | some dl => match elemsA h e.2 s with
      | none => none
      | some new => sel (Nat.beq (Nat.min new.2 dl) 0) (some (.int .i64 0, h))
          (match lfirst new.1 (Nat.min new.2 dl * e.2) with
           | none => none
           | some vs => match placeS d with
             | none => none
             | some p => match writeA h p.1 p.2 vs with
               | none => none
               | some h => some (mkInt .i64 (.ofNat (Nat.min new.2 dl)), h))

noncomputable def zerosA (z : List AV) : Nat → List AV
  | 0 => []
  | n + 1 => lapp z (zerosA z n)

noncomputable def makeSliceA (h : AH) (t : TypeId) (len cap : AV) : Option (AV × AH) :=
  match slA P t with
  | none => none
  | some e => match zeroOf P e.1 with
    | none => none
    | some z => match idx len with
      | none => none
      | some l => match idx cap with
        | none => none
        | some c => sel (growOk P e.1 && Nat.ble l c && Nat.ble c 65536)
            (some (.sl h.next 0 l c, h.new (.cells false (zerosA (cellsOf z) c) e.1))) none

/-! ## Maps -/
/-- are two keys the same? only of whole numbers, strings and bools -/
noncomputable def keyEq (kd : KeyD) (a b : AV) : Option Bool :=
  match kd with
  | .int _ => (match asInt a with
    | some p => (match asInt b with | some q => sel (kindEq p.1 q.1) (some (eqI p.2 q.2)) none | none => none)
    | none => none)
  | .str => (match asStr a with
    | some p => (match asStr b with | some q => some (strEq p.1 p.2 q.1 q.2) | none => none)
    | none => none)
  | .bool => (match asBool a with
    | some p => (match asBool b with | some q => some (match p with | true => q | false => !q) | none => none)
    | none => none)

noncomputable def findA (kd : KeyD) (k : AV) : List (AV × AV) → Option (Option AV)
  | [] => some none
  | e :: r => match keyEq kd k e.1 with
    | some true => some (some e.2)
    | some false => findA kd k r
    | none => none

noncomputable def setEnt (kd : KeyD) (k v : AV) : List (AV × AV) → Option (List (AV × AV))
  | [] => some [(k, v)]
  | e :: r => match keyEq kd k e.1 with
    | some true => some ((k, v) :: r)
    | some false => (match setEnt kd k v r with | none => none | some r => some (e :: r))
    | none => none

noncomputable def delEnt (kd : KeyD) (k : AV) : List (AV × AV) → Option (List (AV × AV))
  | [] => some []
  | e :: r => match keyEq kd k e.1 with
    | some true => some r
    | some false => (match delEnt kd k r with | none => none | some r => some (e :: r))
    | none => none

noncomputable def keyKind (kd : KeyD) (k : AV) : Bool :=
  match kd with
  | .int q => (match asInt k with | some p => kindEq p.1 q | none => false)
  | .str => (asStr k).isSome
  | .bool => (asBool k).isSome

noncomputable def entsOf (h : AH) (m : AV) : Option (List (AV × AV)) :=
  match asMap m with
  | none => none
  | some none => some []
  | some (some id) => h.entries id

noncomputable def lookupA (h : AH) (t : TypeId) (m k : AV) (ok : Bool) : Option AV :=
  match mapA P t with
  | none => none
  | some kd => sel (keyKind kd.1 k)
      (match entsOf h m with
       | none => none
       | some es => match findA kd.1 k es with
         | none => none
         | some (some v) => some (sel ok (.tup [v, .bool true]) v)
         | some none => match zeroOf P kd.2 with
           | none => none
           | some z => some (sel ok (.tup [z, .bool false]) z)) none

noncomputable def mapUpdateA (h : AH) (t : TypeId) (m k v : AV) : Option AH :=
  match mapA P t with
  | none => none
  | some kd => sel (keyKind kd.1 k)
      (match asMap m with
       | some (some id) => (match h.entries id with
         | none => none
         | some es => match setEnt kd.1 k v es with
           | none => none
           | some es' => some (h.upd id (some (.map es'))))
       | _ => none) none

noncomputable def deleteA (h : AH) (t : TypeId) (m k : AV) : Option AH :=
  match mapA P t with
  | none => none
  | some kd => sel (keyKind kd.1 k)
      (match asMap m with
       | some none => some h
       | some (some id) => (match h.entries id with
         | none => none
         | some es => match delEnt kd.1 k es with
           | none => none
           | some es' => some (h.upd id (some (.map es'))))
       | none => none) none

/-! ## Structs -/
noncomputable def fillA (place : Nat → Option (Nat × Nat)) (cells : List AV) : List (Nat × AV) → Option (List AV)
  | [] => some cells
  | p :: rest => match place p.1 with
    | none => none
    | some q => sel (Nat.beq (llen (cellsOf p.2)) q.2) (sel (Nat.ble (q.1 + q.2) (llen cells)) (fillA place (lsets (cellsOf p.2) cells q.1) rest) none) none

noncomputable def placesOf : List Field → Option (List (Nat × Nat))
  | [] => some []
  | f :: fs => match szOf P f.type with
    | none => none
    | some s => match placesOf fs with | some r => some ((f.offset, s) :: r) | none => none

noncomputable def structPl (t : TypeId) : Option (List (Nat × Nat)) := match undA P t with | some (.struct fs) => placesOf P fs.toList | _ => none

noncomputable def buildA (t : TypeId) (parts : List (Nat × AV)) : Option AV :=
  match zeroOf P t with
  | none => none
  | some z => match structPl P t with
    | some ps => (match fillA (fun i => nth ps i) (cellsOf z) parts with | some cs => some (.agg cs) | none => none)
    | none => match arrA P t with
      | some a => (match fillA (fun i => some (i * a.2.2, a.2.2)) (cellsOf z) parts with | some cs => some (.agg cs) | none => none)
      | none => none

noncomputable def buildSliceA (h : AH) (t : TypeId) (len : Nat) (parts : List (Nat × AV)) : Option (AV × AH) :=
  match slA P t with
  | none => none
  | some e => match zeroOf P e.1 with
    | none => none
    | some z => sel (growOk P e.1 && Nat.ble (len * e.2) 65536)
        (match fillA (fun i => some (i * e.2, e.2)) (zerosA (cellsOf z) len) parts with
         | some cs => some (.sl h.next 0 len len, h.new (.cells false cs e.1))
         | none => none) none

noncomputable def fieldAddrA (s : TypeId) (x : AV) (i : Nat) : Option AV :=
  match fldA P s i with
  | none => none
  | some f => match asPtr x with | some p => some (.ptr p.1 (p.2 + f.2)) | none => none

noncomputable def fieldA (t : TypeId) (x : AV) (i : Nat) : Option AV :=
  match fldA P t i with
  | none => none
  | some f => match asAgg x with | some cs => partA P f.1 cs f.2 | none => none

/-- has a type what an interface asks for? -/
noncomputable def hasA (want : Array (String × TypeId)) (t : TypeId) : Option Bool :=
  match infoA P t with
  | none => none
  | some i => match Instr.missingMethod want i.methods with | none => some true | some _ => some false

noncomputable def assertFails (asserted : TypeId) (ok : Bool) : Option AV :=
  sel ok (match zeroOf P asserted with | some z => some (.tup [z, .bool false]) | none => none) none

noncomputable def typeAssertA (x : AV) (asserted : TypeId) (ok : Bool) : Option AV :=
  match undA P asserted with
  | none => none
  | some (.interface want) => (match asIface x with
    | some p => (match hasA P want p.1 with
      | none => none
      | some true => some (sel ok (.tup [.iface p.1 p.2, .bool true]) (.iface p.1 p.2))
      | some false => assertFails P asserted ok)
    | none => sel (isNi x) (assertFails P asserted ok) none)
  | some _ => (match asIface x with
    | some p => sel (Nat.beq p.1 asserted) (some (sel ok (.tup [p.2, .bool true]) p.2)) (assertFails P asserted ok)
    | none => sel (isNi x) (assertFails P asserted ok) none)

/-! ## Operations -/
inductive AR where
  | fail
  | val (v : AV) (h : AH)
  | skip (h : AH)
  | enter (f : FuncId) (args : List AV) (h : AH)
  | round (l : Nat) (fn : FuncId) (n : Nat) (tmps : Tr AV) (assign body : Code) (h : AH)
  | defer (d : ADf) (h : AH)
  | recover (h : AH)
  | panic (v : AV) (h : AH)
  | park (h : AH)

noncomputable def evalA (T : Tr AV) (x : Operand) : Option AV :=
  Operand.rec (motive := fun _ => Tr AV → Option AV) (fun t T => T.get t) (fun v _ => ofV v) (fun g _ => sel (Nat.blt g 64) (some (.ptr g 0)) none) (fun f _ => some (.func (.func f) [] [])) x T

noncomputable def evalsA (T : Tr AV) (l : List Operand) : Option (List AV) :=
  List.rec (motive := fun _ => Tr AV → Option (List AV)) (fun _ => some []) (fun x _ ih T => Option.rec none (fun v => Option.rec none (fun l => some (v :: l)) (ih T)) (evalA T x)) l T

noncomputable def evalPs (T : Tr AV) : List (Nat × Operand) → Option (List (Nat × AV))
  | [] => some []
  | p :: r => match evalA T p.2 with
    | none => none
    | some v => match evalPs T r with | none => none | some l => some ((p.1, v) :: l)

noncomputable def evalO (T : Tr AV) : Option Operand → Option (Option AV)
  | none => some none
  | some x => match evalA T x with | none => none | some v => some (some v)

/-- a function's code, if it is entered -/
noncomputable def bodyA (f : FuncId) : Option (Nat × Code) :=
  match funcA P f with
  | none => none
  | some fn => if fn.name = "runtime.NumGoroutine" then none else match fn.body with
    | none => none
    | some c => some (fn.ntmps, c)

/-- a function that is entered -/
noncomputable def callF (h : AH) (f : FuncId) (args : List AV) : AR :=
  match bodyA P f with
  | none => .fail
  | some _ => .enter f args h

/-- a type's method without a path: the function; whether it takes the pointer; the type behind the pointer, where the value is wanted -/
noncomputable def methA (t : TypeId) (name : String) : Option (FuncId × Option TypeId) :=
  match infoA P t with
  | none => none
  | some i => match i.methods.find? (·.name == name) with
    | none => none
    | some m => match m.path.isEmpty with
      | false => none
      | true => match m.func with
        | none => none
        | some (f, ptrRecv) => match undA P t with
          | none => none
          | some (.pointer e) => (match ptrRecv with | true => some (f, none) | false => some (f, some e))
          | some _ => (match ptrRecv with | true => none | false => some (f, none))

/-- a method by the dynamic type -/
noncomputable def callM (h : AH) (t : TypeId) (v : AV) (name : String) (args : List AV) : AR :=
  match methA P t name with
  | none => .fail
  | some m => match m.2 with
    | none => callF P h m.1 (v :: args)
    | some e => match loadA P h e v with
      | some x => callF P h m.1 (x :: args)
      | none => .fail

noncomputable def setParams (n : Nat) (T : Tr AV) : List Tmp → List AV → Option (Tr AV)
  | [], [] => some T
  | t :: ts, v :: vs => sel (Nat.blt t n) (setParams n (T.put fuel t (some v)) ts vs) none
  | _, _ => none

noncomputable def invokeA (h : AH) (fn : Fn) (cap : List AV) (args : List AV) : AR :=
  match fn with
  | .func f => callF P h f (args ++ cap)
  | .method name => (match args with
    | x :: r => (match asIface x with | some p => callM P h p.1 p.2 name r | none => .fail)
    | _ => .fail)
  | .methodOf t name => (match args with
    | x :: r => (match isIfaceT P t with
      | none => .fail
      | some true => (match asIface x with | some p => callM P h p.1 p.2 name r | none => .fail)
      | some false => callM P h t x name r)
    | _ => .fail)
  | .yield l => (match h.obj l with
    | some (.loop _ _ fn n tmps params assign body _) => (match setParams n tmps params args with
      | some tmps => .round l fn n tmps assign body h
      | none => .fail)
    | _ => .fail)
  | .via .. => .fail

noncomputable def vOf (v : Option AV) (h : AH) : AR := match v with | some v => .val v h | none => .fail
noncomputable def vhOf (r : Option (AV × AH)) : AR := match r with | some (v, h) => .val v h | none => .fail
noncomputable def sOf (r : Option AH) : AR := match r with | some h => .skip h | none => .fail

noncomputable def max2A (a b : AV) : Option AV :=
  match asInt a with
  | some p => (match asInt b with | some q => some (mkInt p.1 (sel (ltI p.2 q.2) q.2 p.2)) | none => none)
  | none => none
noncomputable def min2A (a b : AV) : Option AV :=
  match asInt a with
  | some p => (match asInt b with | some q => some (mkInt p.1 (sel (ltI q.2 p.2) q.2 p.2)) | none => none)
  | none => none
noncomputable def foldA (f : AV → AV → Option AV) : AV → List AV → Option AV
  | v, [] => some v
  | v, x :: r => match f v x with | some v => foldA f v r | none => none
noncomputable def maxA (l : List AV) : Option AV := match l with | [] => none | x :: r => foldA max2A x r
noncomputable def minA (l : List AV) : Option AV := match l with | [] => none | x :: r => foldA min2A x r

noncomputable def appendB (h : AH) (ts : List TypeId) (args : List AV) : AR :=
  match ts with
  | t :: xt :: _ => match args with
    | [s, x] => sel (notIntT P xt) (vhOf (appendA P h t s x)) .fail
    | _ => .fail
  | _ => .fail
noncomputable def copyB (h : AH) (ts : List TypeId) (args : List AV) : AR :=
  match ts with
  | t :: _ => match args with | [d, s] => vhOf (copyA P h t d s) | _ => .fail
  | _ => .fail
noncomputable def lenB (h : AH) (ts : List TypeId) (args : List AV) : AR :=
  match ts with
  | t :: _ => match args with | [x] => vOf (lenA P h t x) h | _ => .fail
  | _ => .fail
noncomputable def deleteB (h : AH) (ts : List TypeId) (args : List AV) : AR :=
  match ts with
  | t :: _ => match args with | [m, k] => (match deleteA P h t m k with | some h => .val undefA h | none => .fail) | _ => .fail
  | _ => .fail
noncomputable def panicB (h : AH) (args : List AV) : AR :=
  match args with
  | [x] => (match asIface x with | some p => .panic (.iface p.1 p.2) h | none => .fail)
  | _ => .fail

noncomputable def builtinA (h : AH) (b : Builtin) (ts : List TypeId) (args : List AV) : AR :=
  match b with
  | .append => appendB P h ts args
  | .copy => copyB P h ts args
  | .len => lenB P h ts args
  | .delete => deleteB P h ts args
  | .max => vOf (maxA args) h
  | .min => vOf (minA args) h
  | .panic => panicB h args
  | .recover => .recover h
  | _ => .fail

noncomputable def callV (h : AH) (f : Option AV) (args : List AV) : AR :=
  match f with
  | none => .fail
  | some f => match asFunc f with
    | some p => invokeA P h p.1 p.2.2 (p.2.1 ++ args)
    | none => .fail
noncomputable def callI (h : AH) (r : Option AV) (name : String) (args : List AV) : AR :=
  match r with
  | none => .fail
  | some r => match asIface r with
    | some p => callM P h p.1 p.2 name args
    | none => .fail

noncomputable def callA (T : Tr AV) (h : AH) (c : Call) : AR :=
  match evalsA T c.args.toList with
  | none => .fail
  | some args => match c.callee with
    | .builtin b => builtinA P h b c.argTypes.toList args
    | .invoke r name => callI P h (evalA T r) name args
    | .value f => callV P h (evalA T f) args

noncomputable def deferA (T : Tr AV) (c : Call) : Option ADf :=
  match evalsA T c.args.toList with
  | none => none
  | some args => match c.callee with
    | .value f => (match evalA T f with
      | none => none
      | some f => match asFunc f with
        | some p => some ⟨.fn p.1 p.2.2, p.2.1 ++ args⟩
        | none => none)
    | _ => none

/-- a truth -/
noncomputable def truthA (v : Option AV) : Option Bool := match v with | none => none | some v => asBool v
noncomputable def opPick (T : Tr AV) (h : AH) (c a b : Operand) : AR :=
  match truthA (evalA T c) with
  | none => .fail
  | some b' => vOf (sel b' (evalA T a) (evalA T b)) h
noncomputable def opAlloc (h : AH) (e : TypeId) : AR :=
  match zeroOf P e with
  | some z => (.val (.ptr h.next 0) (h.new (.cells false (cellsOf z) e)))
  | none => .fail
noncomputable def opBox (T : Tr AV) (h : AH) (e : TypeId) (x : Operand) : AR :=
  match evalA T x with
  | some v => (.val (.ptr h.next 0) (h.new (.cells false (cellsOf v) e)))
  | none => .fail
noncomputable def opBuild (T : Tr AV) (h : AH) (t : TypeId) (ps : Array (Nat × Operand)) : AR :=
  match evalPs T ps.toList with
  | some l => vOf (buildA P t l) h
  | none => .fail
noncomputable def opBuildSlice (T : Tr AV) (h : AH) (t : TypeId) (n : Nat) (ps : Array (Nat × Operand)) : AR :=
  match evalPs T ps.toList with
  | some l => vhOf (buildSliceA P h t n l)
  | none => .fail
noncomputable def opLoad (T : Tr AV) (h : AH) (t : TypeId) (a : Operand) : AR :=
  match evalA T a with | some a => vOf (loadA P h t a) h | none => .fail
noncomputable def opStore (T : Tr AV) (h : AH) (t : TypeId) (a x : Operand) : AR :=
  match evalA T a with
  | some a => match evalA T x with | some x => sOf (storeA P h t a x) | none => .fail
  | none => .fail
noncomputable def opNil (T : Tr AV) (h : AH) (x : Operand) : AR :=
  match evalA T x with
  | some v => vOf (nilA v) h
  | none => .fail
noncomputable def opBin (T : Tr AV) (h : AH) (op : BinOp) (t : TypeId) (x y : Operand) : AR :=
  match evalA T x with
  | some a => match evalA T y with | some b => vOf (binA P op t x y a b) h | none => .fail
  | none => .fail
noncomputable def opUn (T : Tr AV) (h : AH) (op : UnOp) (x : Operand) : AR :=
  match evalA T x with | some a => vOf (unA op a) h | none => .fail
noncomputable def opConv (T : Tr AV) (h : AH) (s d : TypeId) (x : Operand) : AR :=
  match evalA T x with | some a => vhOf (convA P h s d a) | none => .fail
noncomputable def ifaceA (t : TypeId) (v : AV) : Option AV :=
  match isIfaceT P t with
  | some false => some (.iface t v)
  | _ => none
noncomputable def opIface (T : Tr AV) (h : AH) (t : TypeId) (x : Operand) : AR :=
  match evalA T x with | some v => vOf (ifaceA P t v) h | none => .fail
/-- no loop's function -/
noncomputable def plainFn (fn : Fn) : Bool := match fn with | .yield _ => false | _ => true
noncomputable def opFunc (T : Tr AV) (h : AH) (fn : Fn) (first cap : Array Operand) : AR :=
  match evalsA T first.toList with
  | some a => match evalsA T cap.toList with | some b => sel (plainFn fn) (.val (.func fn a b) h) .fail | none => .fail
  | none => .fail
noncomputable def opMap (T : Tr AV) (h : AH) (t : TypeId) (r : Option Operand) : AR :=
  match r with
  | none => (.val (.map h.next) (h.new (.map [])))
  | some x => sel (isMapT P t) (match evalA T x with
    | none => .fail
    | some v => match asInt v with | some _ => (.val (.map h.next) (h.new (.map []))) | none => .fail) .fail
noncomputable def opMkSlice (T : Tr AV) (h : AH) (t : TypeId) (l c : Operand) : AR :=
  match evalA T l with
  | some a => match evalA T c with | some b => vhOf (makeSliceA P h t a b) | none => .fail
  | none => .fail
noncomputable def opSlice (T : Tr AV) (h : AH) (t : TypeId) (x : Operand) (lo hi mx : Option Operand) : AR :=
  match evalA T x with
  | some x => match evalO T lo with
    | some a => match evalO T hi with
      | some b => match mx with | none => vhOf (sliceA P h t x a b) | some m => (match evalA T m with | some m => vhOf (slice3A P h t x a b m) | none => .fail)
      | none => .fail
    | none => .fail
  | none => .fail
noncomputable def opFAddr (T : Tr AV) (h : AH) (s : TypeId) (x : Operand) (f : Nat) : AR :=
  match evalA T x with | some a => vOf (fieldAddrA P s a f) h | none => .fail
noncomputable def opField (T : Tr AV) (h : AH) (t : TypeId) (x : Operand) (f : Nat) : AR :=
  match evalA T x with | some a => vOf (fieldA P t a f) h | none => .fail
noncomputable def opIAddr (T : Tr AV) (h : AH) (t : TypeId) (x i : Operand) : AR :=
  match evalA T x with
  | some a => match evalA T i with | some b => vOf (indexAddrA P t a b) h | none => .fail
  | none => .fail
noncomputable def opIndex (T : Tr AV) (h : AH) (t : TypeId) (x i : Operand) : AR :=
  match evalA T x with
  | some a => match evalA T i with | some b => vOf (indexA P t a b) h | none => .fail
  | none => .fail
noncomputable def opLookup (T : Tr AV) (h : AH) (t : TypeId) (x i : Operand) (ok : Bool) : AR :=
  match evalA T x with
  | some a => match evalA T i with | some b => vOf (lookupA P h t a b ok) h | none => .fail
  | none => .fail
noncomputable def opMapUp (T : Tr AV) (h : AH) (t : TypeId) (m k v : Operand) : AR :=
  match evalA T m with
  | some a => match evalA T k with
    | some b => match evalA T v with | some c => sOf (mapUpdateA P h t a b c) | none => .fail
    | none => .fail
  | none => .fail
noncomputable def opAssert (T : Tr AV) (h : AH) (x : Operand) (a : TypeId) (ok : Bool) : AR :=
  match evalA T x with | some v => vOf (typeAssertA P v a ok) h | none => .fail
noncomputable def opExtract (T : Tr AV) (h : AH) (x : Operand) (i : Nat) : AR :=
  match evalA T x with
  | none => .fail
  | some v => match asTup v with | some l => vOf (nth l i) h | none => .fail
noncomputable def opDefer (T : Tr AV) (h : AH) (inRound : Bool) (c : Call) : AR :=
  sel inRound .fail (match deferA T c with | some d => (.defer d h) | none => .fail)
noncomputable def opPanic (T : Tr AV) (h : AH) (x : Operand) : AR :=
  match evalA T x with
  | none => .fail
  | some v => match asIface v with | some p => (.panic (.iface p.1 p.2) h) | none => .fail

/-- what a map gives next: one that is left, if it is the only one -/
noncomputable def nextA (h : AH) (id : Nat) (l : List (AV × AV)) : AR :=
  match l with
  | [] => .val (.tup [.bool false]) h
  | e :: r => (match r with | [] => .val (.tup [.bool true, e.1, e.2]) (h.upd id (some (.it [e] []))) | _ :: _ => .park h)
noncomputable def opNext (T : Tr AV) (h : AH) (x : Operand) (s : Bool) : AR :=
  sel s .fail (match evalA T x with
    | none => .fail
    | some v => match asPtr v with
      | none => .fail
      | some p => sel (Nat.beq p.2 (nat_lit 0)) (match h.obj p.1 with | some (.it _ l) => nextA h p.1 l | _ => .fail) .fail)
noncomputable def opEntry (T : Tr AV) (h : AH) (x : Operand) : AR :=
  match evalA T x with
  | none => .fail
  | some v => match asPtr v with
    | none => .fail
    | some p => sel (Nat.beq p.2 (nat_lit 0)) (match h.obj p.1 with | some (.it (e :: _) _) => .val (.tup [e.1, e.2]) h | _ => .fail) .fail

/-- an operation, in state T, h -/
noncomputable def opA (T : Tr AV) (h : AH) (inRound : Bool) (o : Oper) : AR :=
  Op.rec (motive := fun _ => Program → Tr AV → AH → Bool → AR)
    (fun x _ T h _ => vOf (evalA T x) h)
    (fun x _ T h _ => vOf (evalA T x) h)
    (fun c a b _ T h _ => opPick T h c a b)
    (fun e P _ h _ => opAlloc P h e)
    (fun e x _ T h _ => opBox T h e x)
    (fun t ps P T h _ => opBuild P T h t ps)
    (fun t n ps P T h _ => opBuildSlice P T h t n ps)
    (fun t m k v P T h _ => opMapUp P T h t m k v)
    (fun t a P T h _ => opLoad P T h t a)
    (fun t a x P T h _ => opStore P T h t a x)
    (fun _ _ _ _ _ => .fail)
    (fun _ _ _ _ _ => .fail)
    (fun x _ T h _ => opNil T h x)
    (fun op t x y _ P T h _ => opBin P T h op t x y)
    (fun op _ x _ T h _ => opUn T h op x)
    (fun s d x P T h _ => opConv P T h s d x)
    (fun _ _ _ _ _ _ => .fail)
    (fun t x P T h _ => opIface P T h t x)
    (fun fn first cap _ T h _ => opFunc T h fn first cap)
    (fun t r P T h _ => opMap P T h t r)
    (fun _ _ _ _ _ _ => .fail)
    (fun t l c P T h _ => opMkSlice P T h t l c)
    (fun t x lo hi mx P T h _ => opSlice P T h t x lo hi mx)
    (fun s x f P T h _ => opFAddr P T h s x f)
    (fun t x f P T h _ => opField P T h t x f)
    (fun t x i P T h _ => opIAddr P T h t x i)
    (fun t x i P T h _ => opIndex P T h t x i)
    (fun t x i ok P T h _ => opLookup P T h t x i ok)
    (fun t m k v P T h _ => opMapUp P T h t m k v)
    (fun _ _ _ _ _ _ _ => .fail)
    (fun _ _ _ _ _ _ _ _ => .fail)
    (fun _ _ _ _ h _ => .park h)
    (fun x s _ T h _ => opNext T h x s)
    (fun x _ T h _ => opEntry T h x)
    (fun x _ a ok P T h _ => opAssert P T h x a ok)
    (fun x i _ T h _ => opExtract T h x i)
    (fun c P T h _ => callA P T h c)
    (fun _ _ _ _ _ => .fail)
    (fun c _ T h r => opDefer T h r c)
    (fun x _ T h _ => opPanic T h x)
    (fun _ _ _ _ _ _ => .fail)
    (fun _ _ _ _ _ _ _ => .fail)
    (fun _ _ _ _ _ _ => .fail)
    o.op P T h inRound

end
end Go.Sx
