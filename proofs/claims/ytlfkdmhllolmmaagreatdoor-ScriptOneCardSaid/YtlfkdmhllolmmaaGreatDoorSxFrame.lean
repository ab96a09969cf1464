/- Frames, stacks: what they stand for. -/
import Derived.Test.YtlfkdmhllolmmaaGreatDoorSxDraw
import Derived.AtR
import Derived.Orders
namespace Go.Sx
open Go

/-! ## Growth of the environment -/
/-- more is known, and nothing new below a number -/
structure Grow (η : Env) (lo : Nat) (η' : Env) : Prop where
  ext : Ext η η'
  low : ∀ i, i < lo → η' i = η i

theorem Grow.refl (η : Env) (lo : Nat) : Grow η lo η := ⟨Ext.refl η, fun _ _ => rfl⟩
theorem Grow.trans {a b c : Env} {lo : Nat} (h : Grow a lo b) (h' : Grow b lo c) : Grow a lo c := ⟨h.ext.trans h'.ext, fun i hi => (h'.low i hi).trans (h.low i hi)⟩
theorem Grow.down {a b : Env} {lo lo' : Nat} (h : Grow a lo b) (hle : lo' ≤ lo) : Grow a lo' b := ⟨h.ext, fun i hi => h.low i (by omega)⟩

def Fresh (η : Env) (n : Nat) : Prop := ∀ i, n ≤ i → η i = none

theorem Step1.grow {η η' : Env} {n n' : Nat} (h : Step1 η n η' n') (hf : Fresh η n) : Grow η n η' ∧ Fresh η' n' ∧ n ≤ n' := by
  rcases h with ⟨rfl, rfl⟩ | ⟨e, rfl, rfl⟩
  · exact ⟨Grow.refl _ _, hf, Nat.le_refl _⟩
  · refine ⟨⟨Env.ext_with e (hf n (Nat.le_refl _)), fun i hi => Env.with_ne _ _ (by omega)⟩, fun i hi => ?_, Nat.le_succ _⟩
    have hi : n + 1 ≤ i := hi
    rw [Env.with_ne _ _ (by omega)]; exact hf i (by omega)

section
variable (Q : Nat → Value)

/-- the slots that are known hold what they should, but for some -/
def TmX (excl : Nat → Prop) (η : Env) (T : Tr AV) (arr : Array Value) : Prop := ∀ t v, T.get t = some v → ¬ excl t → ∃ x, arr[t]? = some x ∧ concV Q η v = some x

def ItR (η : Env) : AIt → Item → Prop
  | .code c, .code c' => c = c'
  | .inBlock i, .inBlock j => i = j
  | .inLoop c, .inLoop c' => c = c'
  | .inScope c, .inScope c' => c = c'
  | .reg ops rest, .inRegion ops' l => ops = ops' ∧ ∃ i, rest = ops.toList.drop i ∧ l = (List.range ops.size).drop i
  | .inRF l, .inRangeFunc b => ∃ base cap, η l = some (.blk b base cap)
  | .endRF l, .endRangeFunc b => ∃ base cap, η l = some (.blk b base cap)
  | .beginRound, .beginRound => True
  | _, _ => False

def TdR (η : Env) : List AIt → List Item → Prop
  | [], [] => True
  | i :: k, j :: l => ItR η i j ∧ TdR η k l
  | _, _ => False

/-- a region that draws its order, under way: what is left to do in the model; what has been done early -/
structure DR (η : Env) (ops : Array Oper) (done : Nat) (pend : List (Nat × Nat)) (ord : List Nat) : Prop where
  ok : dregOk ops = true
  nodup : ord.Nodup
  lt : ∀ j ∈ ord, j < ops.size
  lin : ∀ pre j post, ord = pre ++ j :: post → ∀ o, ops[j]? = some o → ∀ e ∈ o.after.toList, bindsA e = true → e.on ∉ j :: post
  closed : ∀ i o, ops[i]? = some o → i ∉ ord → ∀ e ∈ o.after.toList, bindsA e = true → e.on ∉ ord
  doneOf : ∀ j, j < ops.size → j ∉ ord → bit done j = true
  heavy : ∀ j ∈ ord, ∀ o, ops[j]? = some o → lightQ o.op = false → bit done j = false
  pendOf : ∀ j ∈ ord, bit done j = true → ∃ id, (j, id) ∈ pend
  virt : ∀ p ∈ pend, p.1 ∈ ord → η p.2 = none
  ids : (pend.map Prod.snd).Nodup

/-- slots that the model has not set yet -/
def Excl (ops : Array Oper) (done : Nat) (ord : List Nat) (t : Nat) : Prop := ∃ j ∈ ord, bit done j = true ∧ dstOf ops j = some t

/-- what is left to do, and the slots -/
def HdR (η : Env) (T : Tr AV) (arr : Array Value) (todo : List AIt) (items : List Item) : Prop :=
  (TdR η todo items ∧ TmRel Q η T arr) ∨
  ∃ ops done pend cur k ord k', todo = .dreg ops done pend cur :: k ∧ items = .inRegion ops ord :: k' ∧ TdR η k k' ∧ DR η ops done pend ord ∧
    (∀ g, cur = some g → ∃ r, ord = g :: r ∧ bit done g = false) ∧ TmX Q (Excl ops done ord) η T arr

def NoCall (items : List Item) : Prop := ∀ d b r s k, items ≠ .call d b r s :: k

def MdR (η : Env) (m : AMd) (T : Tr AV) (todo : List AIt) (c : Frame) : Prop :=
  match m with
  | .run => c.mode = .run ∧ HdR Q η T c.tmps todo c.todo
  | .ret => c.mode = .returning ∧ TmRel Q η T c.tmps ∧ NoCall c.todo
  | .pan ch => ∃ chain, concCh Q η ch = some chain ∧ c.mode = .panicking chain ∧ TmRel Q η T c.tmps ∧ NoCall c.todo

structure XRel (η : Env) (x : AX) (c : Frame) : Prop where
  fn : c.fn = x.fn
  kind : c.kind = x.kind
  round : (x.round = none ∧ c.roundOf = none) ∨ ∃ l b base cap, x.round = some l ∧ c.roundOf = some b ∧ η l = some (.blk b base cap)

structure FrR (η : Env) (a : AFr) (c : Frame) : Prop where
  x : XRel η a.x c
  size : c.tmps.size = a.x.n
  ds : concDfs Q η a.ds = some c.defers
  md : MdR Q η a.mode a.tm a.todo c

def pendOf (a : AFr) : List (Nat × Nat) :=
  match a.mode, a.todo with
  | .run, .dreg _ _ pend _ :: _ => pend
  | _, _ => []

def StR (η : Env) : Nat → List AFr → List Frame → Prop
  | _, [], [] => True
  | u, a :: as, c :: cs => FrR Q η a c ∧ ∃ lo, lo ≤ u ∧ (∀ p ∈ pendOf a, lo ≤ p.2 ∧ p.2 < u) ∧ StR η lo as cs
  | _, _, _ => False
end

section
variable {Q : Nat → Value} {η η' : Env}

theorem TmX.of_rel {excl : Nat → Prop} {T : Tr AV} {arr : Array Value} (h : TmRel Q η T arr) : TmX Q excl η T arr := fun t v ht _ => h t v ht
theorem TmX.mono {excl : Nat → Prop} (hx : Ext η η') {T : Tr AV} {arr : Array Value} (h : TmX Q excl η T arr) : TmX Q excl η' T arr := fun t v ht he =>
  let ⟨x, h1, h2⟩ := h t v ht he; ⟨x, h1, concV_mono hx v h2⟩
theorem TmX.sub {e e' : Nat → Prop} (hs : ∀ t, e t → e' t) {T : Tr AV} {arr : Array Value} (h : TmX Q e η T arr) : TmX Q e' η T arr := fun t v ht he => h t v ht fun h' => he (hs t h')

theorem ItR.mono (hx : Ext η η') : ∀ {i : AIt} {j : Item}, ItR η i j → ItR η' i j := by
  intro i j h
  cases i <;> cases j <;> first
    | exact h
    | exact h.elim
    | exact ⟨h.choose, h.choose_spec.choose, hx _ _ h.choose_spec.choose_spec⟩

theorem TdR.mono (hx : Ext η η') : ∀ {k : List AIt} {l : List Item}, TdR η k l → TdR η' k l
  | [], [], h => h
  | _ :: _, _ :: _, h => ⟨h.1.mono hx, TdR.mono hx h.2⟩
  | [], _ :: _, h => h.elim
  | _ :: _, [], h => h.elim

theorem DR.mono {ops : Array Oper} {done : Nat} {pend : List (Nat × Nat)} {ord : List Nat} (h : DR η ops done pend ord) (hv : ∀ p ∈ pend, η' p.2 = η p.2) : DR η' ops done pend ord :=
  ⟨h.ok, h.nodup, h.lt, h.lin, h.closed, h.doneOf, h.heavy, h.pendOf, fun p hp ho => (hv p hp).trans (h.virt p hp ho), h.ids⟩

theorem HdR.mono (hx : Ext η η') {T : Tr AV} {arr : Array Value} {todo : List AIt} {items : List Item} (h : HdR Q η T arr todo items)
    (hv : ∀ ops done pend cur k, todo = .dreg ops done pend cur :: k → ∀ p ∈ pend, η' p.2 = η p.2) : HdR Q η' T arr todo items := by
  rcases h with ⟨h1, h2⟩ | ⟨ops, done, pend, cur, k, ord, k', h1, h2, h3, h4, h5, h6⟩
  · exact .inl ⟨h1.mono hx, h2.mono hx⟩
  · exact .inr ⟨ops, done, pend, cur, k, ord, k', h1, h2, h3.mono hx, h4.mono (hv _ _ _ _ _ h1), h5, h6.mono hx⟩

theorem XRel.mono (hx : Ext η η') {x : AX} {c : Frame} (h : XRel η x c) : XRel η' x c :=
  ⟨h.fn, h.kind, h.round.imp id fun ⟨l, b, base, cap, h1, h2, h3⟩ => ⟨l, b, base, cap, h1, h2, hx _ _ h3⟩⟩

theorem FrR.mono (hx : Ext η η') {a : AFr} {c : Frame} (h : FrR Q η a c) (hv : ∀ p ∈ pendOf a, η' p.2 = η p.2) : FrR Q η' a c := by
  obtain ⟨x, T, todo, ds, mode⟩ := a
  obtain ⟨h1, h2, h3, h4⟩ := h
  refine ⟨h1.mono hx, h2, concDfs_mono hx h3, ?_⟩
  cases mode with
  | run => exact ⟨h4.1, h4.2.mono hx fun ops done pend cur k e p hp => hv p (by simp only at e; subst e; exact hp)⟩
  | ret => exact ⟨h4.1, h4.2.1.mono hx, h4.2.2⟩
  | pan ch =>
    obtain ⟨chain, g1, g2, g3, g4⟩ := h4
    exact ⟨chain, concCh_mono hx g1, g2, g3.mono hx, g4⟩

theorem StR.mono : ∀ {as : List AFr} {cs : List Frame} {u : Nat}, StR Q η u as cs → Grow η u η' → StR Q η' u as cs
  | [], [], _, h, _ => h
  | a :: as, c :: cs, u, ⟨h1, lo, h2, h3, h4⟩, g => ⟨h1.mono g.ext fun p hp => g.low _ (h3 p hp).2, lo, h2, h3, StR.mono h4 (g.down h2)⟩
  | [], _ :: _, _, h, _ => h.elim
  | _ :: _, [], _, h, _ => h.elim

theorem StR.up {as : List AFr} {cs : List Frame} {u u' : Nat} (h : StR Q η u as cs) (hle : u ≤ u') : StR Q η u' as cs := by
  cases as <;> cases cs
  · exact h
  · exact h.elim
  · exact h.elim
  · obtain ⟨h1, lo, h2, h3, h4⟩ := h
    exact ⟨h1, lo, by omega, fun p hp => ⟨(h3 p hp).1, by have := (h3 p hp).2; omega⟩, h4⟩

theorem TdR.noCall {k : List AIt} {l : List Item} (h : TdR η k l) : NoCall l := by
  intro d b r s k' e
  subst e
  cases k with
  | nil => exact h.elim
  | cons i k => cases i <;> exact h.1.elim

theorem HdR.noCall {T : Tr AV} {arr : Array Value} {todo : List AIt} {items : List Item} (h : HdR Q η T arr todo items) : NoCall items := by
  rcases h with ⟨h1, _⟩ | ⟨_, _, _, _, _, _, _, _, h2, _⟩
  · exact h1.noCall
  · intro d b r s k e; rw [h2] at e; cases e

end

section
variable (P : Program) (Q : Nat → Value) (N0 : Keep) (w0 : World)

/-- all but the frame that runs -/
structure Base (η : Env) (lo : Nat) (cs : List AFr) (h : AH) (cs1 : List Frame) (w : World) : Prop where
  hr : HR P Q N0 w0 η h w
  glob : ∀ g, g < 64 → η g = some (.blk g 0 0)
  fresh : Fresh η h.next
  le : lo ≤ h.next
  st : StR Q η lo cs cs1

/-- a state, and a machine's -/
def SRel (cs0 : List Frame) (s : AS) (fr : Frame) (callers : List Frame) (w : World) : Prop :=
  ∃ η lo cs1, callers = cs1 ++ cs0 ∧ Base P Q N0 w0 η lo s.cs s.h cs1 w ∧ FrR Q η s.fr fr ∧ ∀ p ∈ pendOf s.fr, lo ≤ p.2 ∧ p.2 < s.h.next

/-- what is said of calls that are known -/
def SumOk (S : Sums) : Prop := (∀ (f : FuncId) (args : List AV) (h : AH) (v : AV) (h' : AH), S f args h = some (v, h') → Adds h h') ∧
  ∀ {N0 : Keep} {w0 : World} {η : Env} {h h' : AH} {w : World} {f : FuncId} {args : List AV} {v : AV} {xs : List Value}, HR P Q N0 w0 η h w → (∀ g, g < 64 → η g = some (.blk g 0 0)) → η h.next = none →
  S f args h = some (v, h') → concVs Q η args = some xs → Calls P f xs.toArray w (fun e w' => ∃ η' x, e = .returned x ∧ Step1 η h.next η' h'.next ∧ concV Q η' v = some x ∧ HR P Q N0 w0 η' h' w')

/-- what a machine comes to -/
def Goes (cs0 : List Frame) (m : Machine) : Out → Prop
  | .next s => ∃ fr callers w, Steps P m (lone fr callers w) ∧ SRel P Q N0 w0 cs0 s fr callers w
  | .done f v h => ∃ fr w η x, Steps P m (lone fr cs0 w) ∧ fr.fn = f ∧ fr.leaving P w (.returned x) ∧ concV Q η v = some x ∧ HR P Q N0 w0 η h w
  | .fail => True

variable {P Q N0 w0}

theorem Goes.trans {cs0 : List Frame} {m m1 : Machine} {o : Out} (h : Steps P m m1) (h' : Goes P Q N0 w0 cs0 m1 o) : Goes P Q N0 w0 cs0 m o := by
  cases o with
  | fail => trivial
  | next s => obtain ⟨fr, callers, w, h1, h2⟩ := h'; exact ⟨fr, callers, w, h.trans h1, h2⟩
  | done f v hh => obtain ⟨fr, w, η, x, h1, h2⟩ := h'; exact ⟨fr, w, η, x, h.trans h1, h2⟩

theorem Goes.head {cs0 : List Frame} {m m1 : Machine} {o : Out} (h : step P m = .next m1) (h' : Goes P Q N0 w0 cs0 m1 o) : Goes P Q N0 w0 cs0 m o := h'.trans (.one h)

theorem Goes.here {cs0 : List Frame} {s : AS} {fr : Frame} {callers : List Frame} {w : World} (h : SRel P Q N0 w0 cs0 s fr callers w) : Goes P Q N0 w0 cs0 (lone fr callers w) (.next s) :=
  ⟨fr, callers, w, .refl P _, h⟩

theorem Base.grow {η η' : Env} {lo : Nat} {cs : List AFr} {h h' : AH} {cs1 : List Frame} {w w' : World} (B : Base P Q N0 w0 η lo cs h cs1 w) (hr : HR P Q N0 w0 η' h' w') (g : Grow η lo η') (hf : Fresh η' h'.next) (hn : h.next ≤ h'.next)
    : Base P Q N0 w0 η' lo cs h' cs1 w' :=
  ⟨hr, fun i hi => g.ext _ _ (B.glob i hi), hf, Nat.le_trans B.le hn, B.st.mono g⟩

theorem Base.grow' {N1 : Keep} {w1 : World} {η η' : Env} {lo : Nat} {cs : List AFr} {h h' : AH} {cs1 : List Frame} {w w' : World} (B : Base P Q N0 w0 η lo cs h cs1 w) (hr : HR P Q N1 w1 η' h' w') (g : Grow η lo η') (hf : Fresh η' h'.next) (hn : h.next ≤ h'.next)
    : Base P Q N1 w1 η' lo cs h' cs1 w' :=
  ⟨hr, fun i hi => g.ext _ _ (B.glob i hi), hf, Nat.le_trans B.le hn, B.st.mono g⟩

theorem Base.same {η : Env} {lo : Nat} {cs : List AFr} {h h' : AH} {cs1 : List Frame} {w w' : World} (B : Base P Q N0 w0 η lo cs h cs1 w) (hr : HR P Q N0 w0 η h' w') (hn : h'.next = h.next) : Base P Q N0 w0 η lo cs h' cs1 w' :=
  B.grow hr (Grow.refl _ _) (by rw [hn]; exact B.fresh) (by omega)

/-! ## operands -/
theorem eval_rel {η : Env} {T : Tr AV} {arr : Array Value} {ds : List Deferred} (hg : ∀ g, g < 64 → η g = some (.blk g 0 0)) {x : Operand} (ht : ∀ t v, x = .tmp t → T.get t = some v → ∃ y, arr[t]? = some y ∧ concV Q η v = some y) {v : AV} (hv : evalA T x = some v) :
    concV Q η v = some ((Act.mk arr ds).eval x) := by
  cases x with
  | tmp t =>
    obtain ⟨y, h1, h2⟩ := ht t v rfl hv
    have h1' : arr[t]?.getD undef = y := by rw [h1]; rfl
    show _ = some (arr.getD t undef)
    rw [Array.getD_eq_getD_getElem?, h1', h2]
  | const c => exact ofV_conc c hv
  | global g =>
    have ⟨h1, h2⟩ := sel_some.1 hv
    cases h2
    simp [concV, hg g (blt_iff.1 h1), Act.eval]
  | func f => cases hv; simp [concV, concFn, concVs, Act.eval]

theorem EvOn.of_tm {η : Env} {T : Tr AV} {arr : Array Value} {ds : List Deferred} (hg : ∀ g, g < 64 → η g = some (.blk g 0 0)) (ht : TmRel Q η T arr) (xs : List Operand) : EvOn Q η T (Act.mk arr ds).eval xs :=
  fun x _ v hv => eval_rel hg (fun t v _ h => ht t v h) hv

end
end Go.Sx
namespace Go.Sx
theorem concDfs_app {Q : Nat → Value} {η : Env} : ∀ {a b : List ADf} {xs ys : List Deferred}, concDfs Q η a = some xs → concDfs Q η b = some ys → concDfs Q η (a ++ b) = some (xs ++ ys)
  | [], _, _, _, h1, h2 => by cases h1; exact h2
  | d :: r, b, xs, ys, h1, h2 => by
    simp only [concDfs] at h1
    split at h1
    · rename_i x l h3 h4
      cases h1
      simp only [List.cons_append, concDfs, h3, concDfs_app h4 h2]
    · cases h1
end Go.Sx
