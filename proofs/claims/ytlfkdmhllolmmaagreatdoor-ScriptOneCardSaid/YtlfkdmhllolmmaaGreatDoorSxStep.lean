/- An executor for the model's code on an abstract heap: its steps. -/
import Derived.Test.YtlfkdmhllolmmaaGreatDoorSxCore
namespace Go.Sx

noncomputable def exitToA (id : Nat) : List AIt → Option (List AIt)
  | .inBlock id' :: k => sel (Nat.beq id' id) (some k) (exitToA id k)
  | _ :: k => exitToA id k
  | [] => none

noncomputable def gotoInA (l : Nat) : List AIt → Option (List AIt)
  | .inScope body :: k => match findLabel body l with
    | some rest => some (.code rest :: .inScope body :: k)
    | none => gotoInA l k
  | _ :: k => gotoInA l k
  | [] => none

/-- the slot of a region's operation -/
noncomputable def dstOf (ops : Array Oper) (j : Nat) : Option Tmp :=
  match nth ops.toList j with
  | none => none
  | some g => g.dst

/-- is an operation wanted, that has a guard? -/
noncomputable def guardA (ops : Array Oper) (T : Tr AV) (j : Nat) (want : Bool) : Option Bool :=
  match dstOf ops j with
  | none => none
  | some d => match T.get d with
    | none => none
    | some v => match asBool v with
      | some b => some (match b with | true => want | false => not want)
      | none => match asTup v with | some _ => some false | none => none

/-- calls that are known: what they answer, and the heap behind -/
abbrev Sums := FuncId → List AV → AH → Option (AV × AH)

inductive Out where
  | next (s : AS)
  | done (f : FuncId) (v : AV) (h : AH)
  | fail

/-- a slot is set -/
noncomputable def setT (n : Nat) (T : Tr AV) (d : Option Tmp) (v : AV) : Option (Tr AV) :=
  match d with
  | none => some T
  | some d => sel (Nat.blt d n) (some (T.put fuel d (some v))) none

noncomputable def asReg (i : AIt) : Option (Array Oper × List Oper) :=
  AIt.rec (fun _ => none) (fun _ => none) (fun _ => none) (fun _ => none) (fun ops rest => some (ops, rest)) (fun _ => none) (fun _ => none) none (fun _ _ _ _ => none) i
noncomputable def asRF (i : AIt) : Option Nat :=
  AIt.rec (fun _ => none) (fun _ => none) (fun _ => none) (fun _ => none) (fun _ _ => none) (fun l => some l) (fun _ => none) none (fun _ _ _ _ => none) i

/-! ## Values that are the same -/
noncomputable def eqFn (f g : Fn) : Bool :=
  match f with
  | .func a => (match g with | .func b => Nat.beq a b | _ => false)
  | .yield a => (match g with | .yield b => Nat.beq a b | _ => false)
  | _ => false
noncomputable def isTK (v : AV) (k : TK) : Bool := match eqK v with | .nil a => tkEq a k | _ => false

mutual
noncomputable def eqAV : AV → AV → Bool
  | .bool a, v => (match asBool v with | some b => (match a with | true => b | false => not b) | none => false)
  | .int k n, v => (match asInt v with | some p => sel (kindEq k p.1) (eqI n p.2) false | none => false)
  | .str l s, v => (match asStr v with | some p => strEq l s p.1 p.2 | none => false)
  | .np, v => isTK v .ptr
  | .ptr i o, v => (match asPtr v with | some p => sel (Nat.beq i p.1) (Nat.beq o p.2) false | none => false)
  | .sl i o l c, v => (match asSl v with | .sl i' o' l' c' => sel (Nat.beq i i') (sel (Nat.beq o o') (sel (Nat.beq l l') (Nat.beq c c') false) false) false | _ => false)
  | .su i o e l, v => (match asSl v with | .su i' o' e' l' => sel (Nat.beq i i') (sel (Nat.beq o o') (sel (Nat.beq e e') (Nat.beq l l') false) false) false | _ => false)
  | .es i, v => (match asSl v with | .emp j => Nat.beq i j | _ => false)
  | .ns, v => (match asSl v with | .nil => true | _ => false)
  | .map i, v => (match asMap v with | some (some j) => Nat.beq i j | _ => false)
  | .nm, v => (match asMap v with | some none => true | _ => false)
  | .func f a b, v => (match asFunc v with | some p => sel (eqFn f p.1) (sel (eqAVs a p.2.1) (eqAVs b p.2.2) false) false | none => false)
  | .nf, v => isTK v .func
  | .iface t a, v => (match asIface v with | some p => sel (Nat.beq t p.1) (eqAV a p.2) false | none => false)
  | .ni, v => isNi v
  | .agg l, v => (match asAgg v with | some m => eqAVs l m | none => false)
  | .tup l, v => (match asTup v with | some m => eqAVs l m | none => false)
  | .opq i, v => (match asOpq v with | some j => Nat.beq i j | none => false)
noncomputable def eqAVs : List AV → List AV → Bool
  | [], m => (match m with | [] => true | _ => false)
  | v :: r, m => (match m with | [] => false | u :: s => sel (eqAV v u) (eqAVs r s) false)
end

noncomputable def eqObj (a b : Option AObj) : Bool :=
  match a with
  | some (.cells r cs e) => (match b with
    | some (.cells r' cs' e') => sel (Nat.beq e e') (sel (match r with | true => r' | false => not r') (eqAVs cs cs') false) false
    | _ => false)
  | some (.map []) => (match b with | some (.map []) => true | _ => false)
  | _ => false

/-! ## Regions that draw their order -/
noncomputable def bit (m j : Nat) : Bool := Nat.beq (Nat.mod (Nat.shiftRight m j) (nat_lit 2)) (nat_lit 1)
noncomputable def addBit (m j : Nat) : Nat := Nat.lor m (Nat.shiftLeft (nat_lit 1) j)
noncomputable def bindsA (e : Edge) : Bool := match e.ground with | .textOnly _ => false | .gcOnly _ => false | _ => true

/-- the operands, as a list -/
noncomputable def opndL (op : Op) : List Operand :=
  match op with
  | .alloc _ | .ready _ | .waits _ => []
  | .move x | .assign x | .box _ x | .load _ x | .nilCheck x | .unOp _ _ x | .convert _ _ x | .sliceToArrayPointer _ x | .makeInterface _ x
  | .makeChan _ x | .fieldAddr _ x _ | .field _ x _ | .range _ x | .next x _ | .entry x | .typeAssert x _ _ _ | .extract x _ | .panic x | .recv _ x _ => [x]
  | .pick c a b => [c, a, b]
  | .build _ ps | .buildSlice _ _ ps => ps.toList.map (·.2)
  | .store _ a v | .binOp _ _ a v _ | .makeSlice _ a v | .indexAddr _ a v | .index _ a v | .lookup _ a v _ | .mapEntry _ a v | .send a v => [a, v]
  | .makeFunc _ first captured => first.toList ++ captured.toList
  | .makeMap _ r => r.toList
  | .slice _ x l h m => x :: (l.toList ++ (h.toList ++ m.toList))
  | .mapUpdate _ m k v | .entryStore _ m k v | .insert _ m k v => [m, k, v]
  | .call c | .go c | .defer c => (match c.callee with | .value f => f :: c.args.toList | .invoke r _ => r :: c.args.toList | .builtin _ => c.args.toList)
  | .select _ _ => []

/-- operations that write nothing that is there -/
noncomputable def lightO (op : Op) : Bool :=
  match op with
  | .move _ | .pick .. | .alloc _ | .box .. | .build .. | .buildSlice .. | .load .. | .nilCheck _ | .binOp .. | .unOp .. | .convert .. | .makeInterface ..
  | .makeFunc .. | .makeMap .. | .makeSlice .. | .slice .. | .fieldAddr .. | .field .. | .indexAddr .. | .index .. | .lookup .. | .typeAssert .. | .extract .. => true
  | .call c => (match c.callee with | .builtin .len => true | .builtin .max => true | .builtin .min => true | _ => false)
  | _ => false

/-- the slots that a region sets, each once -/
noncomputable def dstMask : List Oper → Nat → Option Nat
  | [], m => some m
  | o :: r, m => match o.dst with
    | none => dstMask r m
    | some d => sel (bit m d) none (dstMask r (addBit m d))

/-- calls that may be known -/
noncomputable def callO (op : Op) : Bool := match op with | .call c => (match c.callee with | .builtin _ => false | _ => true) | _ => false
noncomputable def lightQ (op : Op) : Bool := sel (lightO op) true (callO op)

/-- the slots of the light ones -/
noncomputable def lightMask : List Oper → Nat → Nat
  | [], m => m
  | o :: r, m => match o.dst with
    | none => lightMask r m
    | some d => sel (lightQ o.op) (lightMask r (addBit m d)) (lightMask r m)

noncomputable def edgesOk (j : Nat) : List Edge → Bool
  | [] => true
  | e :: r => sel (bindsA e) (sel (Nat.blt e.on j) (edgesOk j r) false) (edgesOk j r)

noncomputable def predOf (ops : Array Oper) (t : Tmp) : List Edge → Bool
  | [] => false
  | e :: r => sel (bindsA e) (match dstOf ops e.on with | some d => sel (Nat.beq d t) true (predOf ops t r) | none => predOf ops t r) (predOf ops t r)

noncomputable def opndOk (ops : Array Oper) (mask : Nat) (es : List Edge) : List Operand → Bool
  | [] => true
  | .tmp t :: r => sel (bit mask t) (sel (predOf ops t es) (opndOk ops mask es r) false) (opndOk ops mask es r)
  | _ :: r => opndOk ops mask es r

noncomputable def isPred (g : Nat) : List Edge → Bool
  | [] => false
  | e :: r => sel (bindsA e) (sel (Nat.beq e.on g) true (isPred g r)) (isPred g r)

noncomputable def guardOk (o : Oper) : Bool := match o.guard with | none => true | some g => isPred g.1 o.after.toList

noncomputable def opsOk (ops : Array Oper) (mask : Nat) : List Oper → Nat → Bool
  | [], _ => true
  | o :: r, j => sel (edgesOk j o.after.toList) (sel (opndOk ops mask o.after.toList (opndL o.op)) (sel (guardOk o) (opsOk ops mask r (Nat.succ j)) false) false) false

noncomputable def dregOk (ops : Array Oper) : Bool := match dstMask ops.toList (nat_lit 0) with | none => false | some _ => opsOk ops (lightMask ops.toList (nat_lit 0)) ops.toList (nat_lit 0)

noncomputable def predsIn (done : Nat) : List Edge → Bool
  | [] => true
  | e :: r => sel (bindsA e) (sel (bit done e.on) (predsIn done r) false) (predsIn done r)

/-- whom an operation waits for, and these -/
noncomputable def addPreds : List Edge → Nat → Nat
  | [], m => m
  | e :: r, m => addPreds r (sel (bindsA e) (addBit m e.on) m)
noncomputable def ancR (g : Nat) : List Oper → Nat → Nat
  | [], _ => addBit (nat_lit 0) g
  | o :: r, j => (fun m => sel (bit m j) (addPreds o.after.toList m) m) (ancR g r (Nat.succ j))

noncomputable def keepP (m : Nat) : List (Nat × Nat) → List (Nat × Nat)
  | [] => []
  | p :: r => sel (bit m p.1) (keepP m r) (p :: keepP m r)

noncomputable def cleanT (ops : Array Oper) : List (Nat × Nat) → Tr AV → Tr AV
  | [], T => T
  | p :: r, T => match dstOf ops p.1 with | some d => cleanT ops r (T.put fuel d none) | none => cleanT ops r T

noncomputable def asDreg (i : AIt) : Option (Array Oper × Nat × List (Nat × Nat) × Option Nat) := match i with | .dreg ops done pend cur => some (ops, done, pend, cur) | _ => none

noncomputable def finishD (fr : AFr) (v : AV) : Option AFr :=
  match fr with
  | ⟨x, T, todo, ds, mode⟩ =>
    match todo with
    | [] => none
    | i :: k => match asDreg i with
      | some (ops, done, pend, some g) => (match setT x.n T (dstOf ops g) v with
        | some T => some ⟨x, T, .dreg ops (addBit done g) (keepP (ancR g ops.toList (nat_lit 0)) pend) none :: k, ds, mode⟩
        | none => none)
      | _ => none

noncomputable def finishA (fr : AFr) (v : AV) : Option AFr :=
  match fr with
  | ⟨x, T, todo, ds, mode⟩ =>
    match todo with
    | [] => none
    | i :: k => match asReg i with
      | some p => (match p.2 with
        | [] => none
        | o :: rest => (match setT x.n T o.dst v with
          | some T => some ⟨x, T, .reg p.1 rest :: k, ds, mode⟩
          | none => none))
      | none => match asRF i with
        | some l => some ⟨x, T, .endRF l :: k, ds, mode⟩
        | none => finishD fr v

/-- without what the model may not have done yet -/
noncomputable def clean1 (todo : List AIt) (T : Tr AV) : Tr AV :=
  match todo with
  | [] => T
  | i :: _ => match asDreg i with
    | some (ops, _, pend, _) => cleanT ops pend T
    | none => T

noncomputable def raiseA (fr : AFr) (chain : List (AV × Bool)) : AFr :=
  match fr with
  | ⟨x, T, todo, ds, mode⟩ => match mode with
    | .pan old => ⟨x, T, todo, ds, .pan (chain ++ old)⟩
    | _ => ⟨x, clean1 todo T, todo, ds, .pan chain⟩

section
variable (P : Program)

noncomputable def paramsA : List AV → Nat → Tr AV → Tr AV
  | [], _, T => T
  | v :: r, i, T => paramsA r (i + 1) (T.put fuel i (some v))

noncomputable def enterA (f : FuncId) (args : List AV) (kind : CallKind) : Option AFr :=
  match bodyA P f with
  | none => none
  | some c => some ⟨⟨f, Nat.max (llen args) c.1, kind, none⟩, paramsA args 0 .nil, [.code c.2], [], .run⟩

noncomputable def resultA (h : AH) (T : Tr AV) (r : ResultVar) : Option AV :=
  match r with
  | .tmp t => T.get t
  | .cell a t => (match T.get a with
    | some a => loadA P h t a
    | none => none)

noncomputable def resultsA (h : AH) (T : Tr AV) : List ResultVar → Option (List AV)
  | [] => some []
  | r :: l => match resultA P h T r with
    | none => none
    | some v => match resultsA h T l with | some l => some (v :: l) | none => none

/-- the results' places -/
noncomputable def resOf (f : FuncId) : Option (List ResultVar) :=
  match funcA P f with
  | none => none
  | some g => some g.results.toList

noncomputable def settleA (c : AFr) : AFr :=
  match c with
  | ⟨x, T, todo, ds, mode⟩ => match mode with
    | .pan ((_, true) :: _) => ⟨x, T, todo, ds, .ret⟩
    | m => ⟨x, T, todo, ds, m⟩

noncomputable def backA (c : AFr) (rest : List AFr) (v : AV) (h : AH) : Out :=
  match c.mode with
  | .run => (match finishA c v with
    | some c => .next ⟨c, rest, h⟩
    | none => .fail)
  | _ => .fail

noncomputable def doReturnA (kind : CallKind) (cs : List AFr) (v : AV) (h : AH) : Out :=
  match cs with
  | c :: rest => match kind with
    | .normal => backA c rest v h
    | .deferred => .next ⟨settleA c, rest, h⟩
    | _ => .fail
  | [] => .fail

noncomputable def joinA (l : List AV) : AV := match l with | [] => .tup [] | x :: r => match r with | [] => x | y :: s => .tup (x :: y :: s)

noncomputable def retA (x : AX) (T : Tr AV) (cs : List AFr) (h : AH) : Out :=
  match resOf P x.fn with
  | none => .fail
  | some l => match resultsA P h T l with
    | some vs => (match cs with
      | [] => (match x.kind with | .normal => .done x.fn (joinA vs) h | _ => .fail)
      | c :: rest => doReturnA x.kind (c :: rest) (joinA vs) h)
    | none => .fail

noncomputable def unwindA (x : AX) (T : Tr AV) (todo : List AIt) (ds : List ADf) (mode : AMd) (cs : List AFr) (h : AH) : Out :=
  match ds with
  | ⟨.col id, _⟩ :: ds => match h.obj id with
    | some (.dfr (some l)) => .next ⟨⟨x, T, todo, l ++ ds, mode⟩, cs, h.upd id (some (.dfr none))⟩
    | _ => .fail
  | ⟨.fn f cap, args⟩ :: ds => match invokeA P h f cap args with
    | .enter f args h => match enterA P f args .deferred with
      | some fr' => .next ⟨fr', ⟨x, T, todo, ds, mode⟩ :: cs, h⟩
      | none => .fail
    | _ => .fail
  | [] => match mode with
    | .run => .fail
    | .pan chain => match cs with
      | c :: rest => .next ⟨raiseA c chain, rest, h⟩
      | [] => .fail
    | .ret => retA P x T cs h

noncomputable def retRound (kind : CallKind) (cs : List AFr) (v : AV) (h : AH) : Out :=
  match kind with
  | .normal => doReturnA .normal cs v h
  | _ => .fail

noncomputable def leaveA (x : AX) (T : Tr AV) (todo : List AIt) (ds : List ADf) (cs : List AFr) (h : AH) (jump : Option Code) : Out :=
  match x.round with
  | none => match jump with
    | none | some .ret => .next ⟨⟨x, T, todo, ds, .ret⟩, cs, h⟩
    | _ => .fail
  | some l => match h.obj l with
    | some (.loop _ _ fn n tmps ps as body d) =>
      match jump with
      | none => retRound x.kind cs (.bool true) (h.upd l (some (.loop .ready none fn n tmps ps as body d)))
      | some j => retRound x.kind cs (.bool false) (h.upd l (some (.loop .done (some j) fn n tmps ps as body d)))
    | _ => .fail

noncomputable def recoverA (fr : AFr) (cs : List AFr) (h : AH) : Out :=
  match fr.x.round with
  | some _ => .fail
  | none => match fr.x.kind with
    | .deferred => match cs with
      | ⟨x, T, todo, ds, mode⟩ :: rest => match mode with
        | .pan ((v, false) :: older) => match finishA fr v with
          | some fr => .next ⟨fr, ⟨x, T, todo, ds, .pan ((v, true) :: older)⟩ :: rest, h⟩
          | none => .fail
        | m => match finishA fr .ni with | some fr => .next ⟨fr, ⟨x, T, todo, ds, m⟩ :: rest, h⟩ | none => .fail
      | [] => .fail
    | .normal => match finishA fr .ni with | some fr => .next ⟨fr, cs, h⟩ | none => .fail
    | _ => .fail

noncomputable def deferB (fr : AFr) (cs : List AFr) (d : ADf) (h : AH) : Out :=
  match fr with
  | ⟨x, T, todo, ds, mode⟩ => match finishA ⟨x, T, todo, d :: ds, mode⟩ undefA with
    | some fr => .next ⟨fr, cs, h⟩
    | none => .fail

variable (S : Sums)

/-- what becomes of an operation's result: the frame, its callers -/
noncomputable def applyA (fr : AFr) (cs : List AFr) (r : AR) : Out :=
  match r with
  | .fail => .fail
  | .val v h => backA fr cs v h
  | .skip h => backA fr cs undefA h
  | .enter f args h => match S f args h with
    | some r => backA fr cs r.1 r.2
    | none => match enterA P f args .normal with
      | some fr' => .next ⟨fr', fr :: cs, h⟩
      | none => .fail
  | .round l fn n tmps as body h => .next ⟨⟨⟨fn, n, .normal, some l⟩, tmps, [.code as, .beginRound, .code body], [], .run⟩, fr :: cs, h⟩
  | .defer d h => deferB fr cs d h
  | .recover h => recoverA fr cs h
  | .panic v h => .next ⟨raiseA fr [(v, false)], cs, h⟩
  | .park _ => .fail

/-- a slot is set, and on -/
noncomputable def goOn (n : Nat) (T : Tr AV) (d : Option Tmp) (v : AV) (K : Tr AV → AH → Out) (h : AH) : Out :=
  Option.rec (motive := fun _ => Nat → Tr AV → AV → (Tr AV → AH → Out) → AH → Out) (fun _ T _ K h => K T h)
    (fun d n T v K h => Bool.rec .fail (K (T.put fuel d (some v)) h) (Nat.blt d n)) d n T v K h

noncomputable def doOp (r : AR) (x : AX) (ops : Array Oper) (k : List AIt) (ds : List ADf) (cs : List AFr) (o : Oper) (rest : List Oper) (T : Tr AV) (K : Tr AV → AH → Out) : Out :=
  AR.rec (motive := fun _ => Program → Sums → AX → Array Oper → List AIt → List ADf → List AFr → Oper → List Oper → Tr AV → (Tr AV → AH → Out) → Out)
    (fun _ _ _ _ _ _ _ _ _ _ _ => .fail) (fun v h _ _ x _ _ _ _ o _ T K => goOn x.n T o.dst v K h) (fun h _ _ x _ _ _ _ o _ T K => goOn x.n T o.dst undefA K h)
    (fun f args h P S x ops k ds cs o rest T _ => applyA P S ⟨x, T, .reg ops (o :: rest) :: k, ds, .run⟩ cs (.enter f args h))
    (fun l fn n tmps as body h P S x ops k ds cs o rest T _ => applyA P S ⟨x, T, .reg ops (o :: rest) :: k, ds, .run⟩ cs (.round l fn n tmps as body h))
    (fun d h P S x ops k ds cs o rest T _ => applyA P S ⟨x, T, .reg ops (o :: rest) :: k, ds, .run⟩ cs (.defer d h))
    (fun h P S x ops k ds cs o rest T _ => applyA P S ⟨x, T, .reg ops (o :: rest) :: k, ds, .run⟩ cs (.recover h))
    (fun v h P S x ops k ds cs o rest T _ => applyA P S ⟨x, T, .reg ops (o :: rest) :: k, ds, .run⟩ cs (.panic v h))
    (fun h _ _ x ops k ds cs o rest T _ => .next ⟨⟨x, T, .reg ops (o :: rest) :: k, ds, .run⟩, cs, h⟩) r P S x ops k ds cs o rest T K

noncomputable def doGuard (b : Option Bool) (x : AX) (ops : Array Oper) (k : List AIt) (ds : List ADf) (cs : List AFr) (o : Oper) (rest : List Oper) (T : Tr AV) (h : AH) (K : Tr AV → AH → Out) : Out :=
  match b with
  | none => .fail
  | some false => goOn x.n T o.dst undefA K h
  | some true => doOp P S (opA P T h x.round.isSome o) x ops k ds cs o rest T K

/-- the operations of a region, one behind the other -/
noncomputable def runOps (x : AX) (ops : Array Oper) (k : List AIt) (ds : List ADf) (cs : List AFr) (l : List Oper) (T : Tr AV) (h : AH) : Out :=
  List.rec (motive := fun _ => Program → Sums → AX → Array Oper → List AIt → List ADf → List AFr → Tr AV → AH → Out) (fun _ _ x _ k ds cs T h => .next ⟨⟨x, T, k, ds, .run⟩, cs, h⟩)
    (fun o rest ih P S x ops k ds cs T h => Option.rec (motive := fun _ => Program → Sums → AX → Array Oper → List AIt → List ADf → List AFr → Oper → List Oper → Tr AV → AH → (Tr AV → AH → Out) → Out)
      (fun P S x ops k ds cs o rest T h K => doOp P S (opA P T h x.round.isSome o) x ops k ds cs o rest T K)
      (fun g P S x ops k ds cs o rest T h K => doGuard P S (guardA ops T g.1 g.2) x ops k ds cs o rest T h K) o.guard P S x ops k ds cs o rest T h (ih P S x ops k ds cs)) l P S x ops k ds cs T h

/-- where a loop over a function keeps its deferred calls -/
noncomputable def dfrOf (round : Option Nat) (h : AH) : Option (Nat × List ADf × AH) :=
  match round with
  | some l => match h.obj l with | some (.loop _ _ _ _ _ _ _ _ d) => some (d, [], h) | _ => none
  | none => some (h.next, [⟨.col h.next, []⟩], h.new (.dfr (some [])))

noncomputable def stepRF (x : AX) (T : Tr AV) (f : Operand) (params : Array Tmp) (as body : Code) (k : List AIt) (ds : List ADf) (cs : List AFr) (h : AH) : Out :=
  match evalA T f with
  | none => .fail
  | some f => match asFunc f with
  | none => .fail
  | some (fv, first, cap) => match dfrOf x.round h with
    | none => .fail
    | some (d, mark, h) => applyA P S ⟨x, T, .inRF h.next :: k, mark ++ ds, .run⟩ cs
        (invokeA P (h.new (.loop .ready none x.fn x.n T params.toList as body d)) fv cap (first ++ [.func (.yield h.next) [] []]))

noncomputable def stepExit (x : AX) (T : Tr AV) (id : Nat) (k : List AIt) (ds : List ADf) (cs : List AFr) (h : AH) : Out :=
  match exitToA id k with
  | some k => .next ⟨⟨x, T, k, ds, .run⟩, cs, h⟩
  | none => leaveA x T (.code (.exit id) :: k) ds cs h (some (.exit id))

noncomputable def stepGoto (x : AX) (T : Tr AV) (l : Nat) (k : List AIt) (ds : List ADf) (cs : List AFr) (h : AH) : Out :=
  match gotoInA l k with
  | some k => .next ⟨⟨x, T, k, ds, .run⟩, cs, h⟩
  | none => leaveA x T (.code (.goto l) :: k) ds cs h (some (.goto l))

/-- a call that is known, as a value -/
noncomputable def sumR (l : Bool) (h : AH) (r : AR) : AR :=
  match r with
  | .val v h' => sel l (.val v h') .fail
  | .enter f args _ => (match S f args h with | some p => .val p.1 p.2 | none => .fail)
  | _ => .fail

/-- a light operation -/
noncomputable def lightDo (x : AX) (T : Tr AV) (o : Oper) (r : AR) : Option (Tr AV × Tr AObj) :=
  match r with
  | .val v h => (match setT x.n T o.dst v with | some T => some (T, h.heap) | none => none)
  | _ => none
noncomputable def lightRun (x : AX) (ops : Array Oper) (T : Tr AV) (h : AH) (o : Oper) : Option (Tr AV × Tr AObj) :=
  match o.guard with
  | none => lightDo x T o (sumR S (lightO o.op) h (opA P T h x.round.isSome o))
  | some g => match guardA ops T g.1 g.2 with
    | none => none
    | some false => (match setT x.n T o.dst undefA with | some T => some (T, h.heap) | none => none)
    | some true => lightDo x T o (sumR S (lightO o.op) h (opA P T h x.round.isSome o))

/-- what may be done is done, of the light ones; the others that may be done -/
noncomputable def satL (x : AX) (ops : Array Oper) : List Oper → Nat → Tr AV → AH → Nat → List (Nat × Nat) → List Nat → Option (Tr AV × AH × Nat × List (Nat × Nat) × List Nat)
  | [], _, T, h, done, pend, found => some (T, h, done, pend, found)
  | o :: r, j, T, h, done, pend, found =>
    sel (bit done j) (satL x ops r (Nat.succ j) T h done pend found)
      (sel (predsIn done o.after.toList)
        (sel (lightQ o.op)
          (match lightRun P S x ops T h o with
           | some (T', hp) => satL x ops r (Nat.succ j) T' ⟨hp, Nat.succ h.next⟩ (addBit done j) ((j, h.next) :: pend) found
           | none => satL x ops r (Nat.succ j) T h done pend (j :: found))
          (satL x ops r (Nat.succ j) T h done pend (j :: found)))
        (satL x ops r (Nat.succ j) T h done pend found))

noncomputable def slotIs (n : Nat) (T : Tr AV) (d : Option Tmp) (v : AV) : Bool :=
  match d with
  | none => true
  | some d => match T.get d with | some u => sel (Nat.blt d n) (eqAV v u) false | none => false
noncomputable def validR (n : Nat) (T : Tr AV) (h : AH) (id : Nat) (d : Option Tmp) (r : AR) : Bool :=
  match r with
  | .val v h' => sel (slotIs n T d v) (sel (Nat.beq h'.next id) true (eqObj (h'.obj id) (h.obj id))) false
  | _ => false
noncomputable def valid1 (x : AX) (ops : Array Oper) (T : Tr AV) (h : AH) (p : Nat × Nat) : Bool :=
  match nth ops.toList p.1 with
  | none => false
  | some o => sel (lightQ o.op) (match o.guard with
    | none => validR x.n T h p.2 o.dst (sumR S (lightO o.op) ⟨h.heap, p.2⟩ (opA P T ⟨h.heap, p.2⟩ x.round.isSome o))
    | some g => match guardA ops T g.1 g.2 with
      | none => false
      | some false => slotIs x.n T o.dst undefA
      | some true => validR x.n T h p.2 o.dst (sumR S (lightO o.op) ⟨h.heap, p.2⟩ (opA P T ⟨h.heap, p.2⟩ x.round.isSome o))) false
noncomputable def validL (x : AX) (ops : Array Oper) (T : Tr AV) (h : AH) : List (Nat × Nat) → Bool
  | [] => true
  | p :: r => sel (valid1 P S x ops T h p) (validL x ops T h r) false

noncomputable def heavyA (x : AX) (T : Tr AV) (ops : Array Oper) (done : Nat) (pend : List (Nat × Nat)) (g : Nat) (k : List AIt) (ds : List ADf) (cs : List AFr) (h : AH) : Out :=
  match nth ops.toList g with
  | none => .fail
  | some o => match o.guard with
    | none => applyA P S ⟨x, T, .dreg ops done pend (some g) :: k, ds, .run⟩ cs (opA P T h x.round.isSome o)
    | some q => match guardA ops T q.1 q.2 with
      | none => .fail
      | some false => backA ⟨x, T, .dreg ops done pend (some g) :: k, ds, .run⟩ cs undefA h
      | some true => applyA P S ⟨x, T, .dreg ops done pend (some g) :: k, ds, .run⟩ cs (opA P T h x.round.isSome o)

/-! ### several heavy ones, in whatever order -/
/-- plain: no guard, no slot -/
noncomputable def plainO (ops : Array Oper) (g : Nat) : Option Oper :=
  match nth ops.toList g with
  | none => none
  | some o => match o.guard with
    | some _ => none
    | none => match o.dst with | some _ => none | none => some o

noncomputable def addBits (m : Nat) : List Nat → Nat
  | [] => m
  | g :: r => addBits (addBit m g) r
noncomputable def keepPs (ops : Array Oper) : List Nat → List (Nat × Nat) → List (Nat × Nat)
  | [], pend => pend
  | g :: r, pend => keepPs ops r (keepP (ancR g ops.toList (nat_lit 0)) pend)

/-- whoever is left, may he not begin while one of these is left? -/
noncomputable def ripe1 (all m : Nat) : List Oper → Nat → Bool
  | [], _ => true
  | o :: r, j => sel (bit all j) (ripe1 all m r (Nat.succ j)) (sel (predsIn m o.after.toList) false (ripe1 all m r (Nat.succ j)))
noncomputable def ripeAll (ops : Array Oper) (all done : Nat) : List Nat → List Nat → Bool
  | _, [] => true
  | before, g :: r => sel (ripe1 all (addBits (addBits done before) r) ops.toList (nat_lit 0)) (ripeAll ops all done (g :: before) r) false

/-- new blocks that may be written -/
noncomputable def pendNew (h : AH) : List (Nat × Nat) → Bool
  | [] => true
  | p :: r => match h.obj p.2 with
    | some (.cells true _ _) => false
    | _ => pendNew h r
noncomputable def distinct : List Nat → Bool
  | [] => true
  | i :: r => sel (hasN i r) false (distinct r)
where hasN (i : Nat) : List Nat → Bool
  | [] => false
  | j :: r => sel (Nat.beq i j) true (hasN i r)
noncomputable def dropAll (h : AH) : List Nat → AH
  | [] => h
  | i :: r => dropAll (h.upd i none) r

/-- stores: their blocks, and the heap behind -/
noncomputable def storesA (T : Tr AV) (ops : Array Oper) : List Nat → AH → Option (List Nat × AH)
  | [], h => some ([], h)
  | g :: r, h => match plainO ops g with
    | none => none
    | some o => match o.op with
      | .store t a v => (match evalA T a with
        | none => none
        | some p => match asPtr p with
          | none => none
          | some q => match evalA T v with
            | none => none
            | some u => match storeA P h t p u with
              | none => none
              | some h' => match storesA T ops r h' with
                | none => none
                | some z => some (q.1 :: z.1, z.2))
      | _ => none

/-- what is laid into a new map: keys, values -/
noncomputable def insertsA (T : Tr AV) (ops : Array Oper) (t : TypeId) (m : Nat) (kd : KeyD) : List Nat → Option (List (AV × AV))
  | [] => some []
  | g :: r => match plainO ops g with
    | none => none
    | some o => match o.op with
      | .insert t' mo ko vo => sel (Nat.beq t' t) (match evalA T mo with
        | none => none
        | some a => match asMap a with
          | some (some m') => sel (Nat.beq m' m) (match evalA T ko with
            | none => none
            | some k => match evalA T vo with
              | none => none
              | some v => sel (keyKind kd k) (match insertsA T ops t m kd r with | none => none | some l => some ((k, v) :: l)) none) none
          | _ => none) none
      | _ => none
noncomputable def keyNew (kd : KeyD) (k : AV) : List (AV × AV) → Bool
  | [] => true
  | e :: r => match keyEq kd k e.1 with | some false => (match keyEq kd e.1 k with | some false => keyNew kd k r | _ => false) | _ => false
noncomputable def keysNew (kd : KeyD) : List (AV × AV) → Bool
  | [] => true
  | e :: r => sel (keyNew kd e.1 r) (keysNew kd r) false

/-- which map, of which type -/
noncomputable def insHead (T : Tr AV) (ops : Array Oper) (g : Nat) : Option (TypeId × Nat) :=
  match plainO ops g with
  | none => none
  | some o => match o.op with
    | .insert t mo _ _ => (match evalA T mo with
      | none => none
      | some a => match asMap a with | some (some m) => some (t, m) | _ => none)
    | _ => none
noncomputable def insAllA (T : Tr AV) (ops : Array Oper) (g : Nat) (gs : List Nat) (h : AH) : Option (List Nat × AH) :=
  match insHead T ops g with
  | none => none
  | some q => match mapA P q.1 with
    | none => none
    | some kd => match h.entries q.2 with
      | some [] => (match insertsA T ops q.1 q.2 kd.1 gs with
        | none => none
        | some l => sel (keysNew kd.1 l) (some ([q.2], h.upd q.2 (some (.map l)))) none)
      | _ => none

/-- whom each of them waits for -/
noncomputable def commonAnc (ops : Array Oper) : List Nat → Nat
  | [] => nat_lit 0
  | g :: r => match r with
    | [] => ancR g ops.toList (nat_lit 0)
    | _ :: _ => Nat.land (ancR g ops.toList (nat_lit 0)) (commonAnc ops r)
noncomputable def apart (ts : List Nat) : List (Nat × Nat) → Bool
  | [] => true
  | p :: r => sel (distinct.hasN p.2 ts) false (apart ts r)

noncomputable def multiC (x : AX) (T : Tr AV) (ops : Array Oper) (done : Nat) (pend : List (Nat × Nat)) (gs : List Nat) (k : List AIt) (ds : List ADf) (cs : List AFr) (h : AH) (ts : List Nat) (h' : AH) : Out :=
  sel (ripeAll ops (addBits done gs) done [] gs) (sel (apart ts pend) (sel (pendNew h pend) (sel (validL P S x ops T (dropAll h ts) pend)
    (.next ⟨⟨x, T, .dreg ops (addBits done gs) (keepPs ops gs pend) none :: k, ds, .run⟩, cs, h'⟩) .fail) .fail) .fail) .fail
noncomputable def multiB (x : AX) (T : Tr AV) (ops : Array Oper) (done : Nat) (pend : List (Nat × Nat)) (gs : List Nat) (k : List AIt) (ds : List ADf) (cs : List AFr) (h : AH) (ts : List Nat) (h' : AH) : Out :=
  sel (distinct ts) (sel (validL P S x ops T h pend) (multiC P S x T ops done (keepP (commonAnc ops gs) pend) gs k ds cs h ts h') .fail) .fail
noncomputable def multiA (x : AX) (T : Tr AV) (ops : Array Oper) (done : Nat) (pend : List (Nat × Nat)) (gs : List Nat) (k : List AIt) (ds : List ADf) (cs : List AFr) (h : AH) : Out :=
  match gs with
  | [] => .fail
  | g :: _ => match insHead T ops g with
    | some _ => (match insAllA P T ops g gs h with
      | some z => multiB P S x T ops done pend gs k ds cs h z.1 z.2
      | none => .fail)
    | none => match storesA P T ops gs h with
      | some z => multiB P S x T ops done pend gs k ds cs h z.1 z.2
      | none => .fail

noncomputable def stepDreg (x : AX) (T : Tr AV) (ops : Array Oper) (done : Nat) (pend : List (Nat × Nat)) (k : List AIt) (ds : List ADf) (cs : List AFr) (h : AH) : Out :=
  match satL P S x ops ops.toList (nat_lit 0) T h done pend [] with
  | none => .fail
  | some (T, h, done, pend, found) =>
    match found with
     | [] => sel (validL P S x ops T h pend) (sel (Nat.beq done (Nat.sub (Nat.pow (nat_lit 2) ops.toList.length) (nat_lit 1))) (.next ⟨⟨x, T, k, ds, .run⟩, cs, h⟩) .fail) .fail
     | g :: r => match r with
       | [] => sel (validL P S x ops T h pend) (heavyA P S x T ops done pend g k ds cs h) .fail
       | _ :: _ => multiA P S x T ops done pend found k ds cs h

noncomputable def stepDraw (x : AX) (T : Tr AV) (ops : Array Oper) (k : List AIt) (ds : List ADf) (cs : List AFr) (h : AH) : Out :=
  sel (dregOk ops) (stepDreg P S x T ops (nat_lit 0) [] k ds cs h) .fail

noncomputable def stepCode (x : AX) (T : Tr AV) (ds : List ADf) (cs : List AFr) (h : AH) (c : Code) (k : List AIt) : Out :=
  Code.rec (motive := fun _ => Program → Sums → AX → Tr AV → List ADf → List AFr → AH → List AIt → Out)
    (fun _ _ x T ds cs h k => .next ⟨⟨x, T, k, ds, .run⟩, cs, h⟩)
    (fun _ ops draw P S x T ds cs h k => Bool.rec (runOps P S x ops k ds cs ops.toList T h) (stepDraw P S x T ops k ds cs h) draw)
    (fun _ b iha _ P S x T ds cs h k => iha P S x T ds cs h (.code b :: k))
    (fun c _ _ iha ihb P S x T ds cs h k => Option.rec (motive := fun _ => Out) .fail (fun b => Bool.rec (ihb P S x T ds cs h k) (iha P S x T ds cs h k) b) (truthA (evalA T c)))
    (fun id _ ih P S x T ds cs h k => ih P S x T ds cs h (.inBlock id :: k))
    (fun body ih P S x T ds cs h k => ih P S x T ds cs h (.inLoop body :: k))
    (fun f ps as body _ _ P S x T ds cs h k => stepRF P S x T f ps as body k ds cs h)
    (fun id _ _ x T ds cs h k => stepExit x T id k ds cs h)
    (fun body ih P S x T ds cs h k => ih P S x T ds cs h (.inScope body :: k))
    (fun _ _ _ x T ds cs h k => .next ⟨⟨x, T, k, ds, .run⟩, cs, h⟩)
    (fun l _ _ x T ds cs h k => stepGoto x T l k ds cs h)
    (fun _ _ x T ds cs h k => leaveA x T (.code .ret :: k) ds cs h (some .ret))
    (fun _ _ _ _ _ _ _ _ _ => .fail) c P S x T ds cs h k

noncomputable def stepBegin (x : AX) (T : Tr AV) (k : List AIt) (ds : List ADf) (cs : List AFr) (h : AH) : Out :=
  match x.round with
  | some l => match h.obj l with
    | some (.loop .ready p fn' n' tmps ps as body d) => .next ⟨⟨x, T, k, ds, .run⟩, cs, h.upd l (some (.loop .busy p fn' n' tmps ps as body d))⟩
    | _ => .fail
  | none => .fail

noncomputable def isBusy : LoopState → Bool
  | .busy => true
  | _ => false

noncomputable def stepEnd (x : AX) (T : Tr AV) (l : Nat) (k : List AIt) (ds : List ADf) (cs : List AFr) (h : AH) : Out :=
  match h.obj l with
  | some (.loop st p fn' n' tmps ps as body d) => sel (isBusy st) .fail
    (match p with
    | some j => .next ⟨⟨x, T, .code j :: k, ds, .run⟩, cs, h.upd l (some (.loop .exhausted p fn' n' tmps ps as body d))⟩
    | none => .next ⟨⟨x, T, k, ds, .run⟩, cs, h.upd l (some (.loop .exhausted p fn' n' tmps ps as body d))⟩)
  | _ => .fail

noncomputable def stepItem (x : AX) (T : Tr AV) (i : AIt) (k : List AIt) (ds : List ADf) (cs : List AFr) (h : AH) : Out :=
  AIt.rec (motive := fun _ => Program → Sums → AX → Tr AV → List AIt → List ADf → List AFr → AH → Out)
    (fun c P S x T k ds cs h => stepCode P S x T ds cs h c k)
    (fun _ _ _ x T k ds cs h => .next ⟨⟨x, T, k, ds, .run⟩, cs, h⟩)
    (fun body P S x T k ds cs h => stepCode P S x T ds cs h body (.inLoop body :: k))
    (fun _ _ _ x T k ds cs h => .next ⟨⟨x, T, k, ds, .run⟩, cs, h⟩)
    (fun ops rest P S x T k ds cs h => runOps P S x ops k ds cs rest T h)
    (fun _ _ _ _ _ _ _ _ _ => .fail)
    (fun l _ _ x T k ds cs h => stepEnd x T l k ds cs h)
    (fun _ _ x T k ds cs h => stepBegin x T k ds cs h)
    (fun ops done pend cur P S x T k ds cs h => Option.rec (stepDreg P S x T ops done pend k ds cs h) (fun _ => .fail) cur) i P S x T k ds cs h

noncomputable def stepRun (x : AX) (T : Tr AV) (todo : List AIt) (ds : List ADf) (cs : List AFr) (h : AH) : Out :=
  match todo with
  | i :: k => stepItem P S x T i k ds cs h
  | [] => leaveA x T [] ds cs h none

noncomputable def stepMode (x : AX) (T : Tr AV) (todo : List AIt) (ds : List ADf) (mode : AMd) (cs : List AFr) (h : AH) : Out :=
  match mode with
  | .run => stepRun P S x T todo ds cs h
  | .ret => unwindA P x T todo ds .ret cs h
  | .pan ch => unwindA P x T todo ds (.pan ch) cs h

noncomputable def stepA (s : AS) : Out :=
  match s with
  | ⟨⟨x, T, todo, ds, mode⟩, cs, h⟩ => stepMode P S x T todo ds mode cs h

/-- 2^k steps -/
noncomputable def runK : Nat → Out → Out
  | 0, o => (match o with | .next s => stepA P S s | .done f v h => .done f v h | .fail => .fail)
  | k + 1, o => (match runK k o with | .next s => runK k (.next s) | .done f v h => .done f v h | .fail => .fail)

end
end Go.Sx
