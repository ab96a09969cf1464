/- An operation, all in all. -/
import Derived.Test.YtlfkdmhllolmmaaGreatDoorSxCall
namespace Go.Sx
open Go

section
variable {P : Program} {Q : Nat → Value} {N0 : Keep} {w0 : World} {η : Env} {h : AH} {w : World}

theorem ORel.fail (r : Result Next) : ORel P Q N0 w0 η h w .fail r := trivial

theorem invoke_rel (H : HR P Q N0 w0 η h w) {fn g : Fn} {cap args : List AV} {cs xs : List Value} (hg : concFn η fn = some g) (hc : concVs Q η cap = some cs) (ha : concVs Q η args = some xs) :
    ORel P Q N0 w0 η h w (invokeA P h fn cap args) ((invoke (.fn g ⟨cs⟩) xs.toArray).run P w) := by
  cases fn with
  | func f =>
    cases hg
    have := callF_rel (P := P) (N0 := N0) (w0 := w0) (h := h) (w := w) (f := f) (concVs_append ha hc)
    simpa [invokeA, invoke] using this
  | method name =>
    cases hg
    unfold invokeA
    simp only
    cases args with
    | nil => trivial
    | cons a r =>
      simp only
      obtain ⟨x, m, rfl, h1, h2⟩ := concVs_cons ha
      cases e : asIface a with
      | none => trivial
      | some p =>
        simp only
        obtain rfl := asIface_some e
        obtain ⟨y, h3, rfl⟩ := conc_iface h1
        have := callM_rel (name := name) (t := p.1) H h3 h2
        rw [show (invoke (.fn (.method name) ⟨cs⟩) (Value.iface p.1 y :: m).toArray).run P w = (callMethod (.iface p.1 y) name m.toArray).run P w by simp [invoke]]
        exact this
  | methodOf t name =>
    cases hg
    unfold invokeA
    simp only
    cases args with
    | nil => trivial
    | cons a r =>
      simp only
      obtain ⟨x, m, rfl, h1, h2⟩ := concVs_cons ha
      cases hi : isIfaceT P t with
      | none => trivial
      | some b =>
        obtain ⟨d, hd, hb⟩ := isIfaceT_some hi
        have hu := run_und hd w
        cases b with
        | true =>
          simp only
          obtain ⟨ms, rfl⟩ := hb.1 rfl
          cases e : asIface a with
          | none => trivial
          | some p =>
            simp only
            obtain rfl := asIface_some e
            obtain ⟨y, h3, rfl⟩ := conc_iface h1
            have := callM_rel (name := name) (t := p.1) H h3 h2
            rw [show (invoke (.fn (.methodOf t name) ⟨cs⟩) (Value.iface p.1 y :: m).toArray).run P w = (callMethod (.iface p.1 y) name m.toArray).run P w by simp [invoke, hu]]
            exact this
        | false =>
          simp only
          have hno : ∀ ms, d ≠ .interface ms := fun ms e => by have := hb.2 ⟨ms, e⟩; cases this
          have := callM_rel (name := name) (t := t) H h1 h2
          rw [show (invoke (.fn (.methodOf t name) ⟨cs⟩) (x :: m).toArray).run P w = (callMethod (.iface t x) name m.toArray).run P w by
            cases d <;> first | (exact absurd rfl (hno _)) | simp [invoke, hu]]
          exact this
  | yield l =>
    have := yield_rel H (args := args) hg ha ⟨cs⟩
    exact this
  | via a b c d => trivial

theorem maxA_rel {args : List AV} {v : AV} {xs : List Value} (hv : maxA args = some v) (ha : concVs Q η args = some xs) (ts : Array TypeId) (ty : TypeId) : ∃ z, (Builtin.max_ ts ty xs.toArray).run P w = .ok z w ∧ concV Q η v = some z := by
  unfold maxA at hv
  cases args with
  | nil => cases hv
  | cons a r =>
    obtain ⟨x, m, rfl, h1, h2⟩ := concVs_cons ha
    exact foldA_rel (fun h3 h4 h5 => max2A_rel h3 h4 h5) hv h1 h2

theorem minA_rel {args : List AV} {v : AV} {xs : List Value} (hv : minA args = some v) (ha : concVs Q η args = some xs) (ts : Array TypeId) (ty : TypeId) : ∃ z, (Builtin.min_ ts ty xs.toArray).run P w = .ok z w ∧ concV Q η v = some z := by
  unfold minA at hv
  cases args with
  | nil => cases hv
  | cons a r =>
    obtain ⟨x, m, rfl, h1, h2⟩ := concVs_cons ha
    exact foldA_rel (fun h3 h4 h5 => min2A_rel h3 h4 h5) hv h1 h2

theorem ts0 {ts : Array TypeId} {t : TypeId} {r : List TypeId} (h1 : ts.toList = t :: r) : ts[0]? = some t := by rw [← Array.getElem?_toList, h1]; rfl
theorem ts1 {ts : Array TypeId} {t u : TypeId} {r : List TypeId} (h1 : ts.toList = t :: u :: r) : ts[1]? = some u := by rw [← Array.getElem?_toList, h1]; rfl

theorem builtin_rel (hQ : QOk Q) (H : HR P Q N0 w0 η h w) (hn : η h.next = none) {b : Builtin} {ts : Array TypeId} {ty : TypeId} {cs : Array Bool} {args : List AV} {xs : List Value} (ha : concVs Q η args = some xs) :
    ORel P Q N0 w0 η h w (builtinA P h b ts.toList args) ((Go.builtin b ts ty cs xs.toArray).run P w) := by
  cases b <;> try exact ORel.fail _
  case append =>
    show ORel P Q N0 w0 η h w (appendB P h ts.toList args) _
    unfold appendB
    split
    · rename_i t xt r hts
      split
      · rename_i a y
        obtain ⟨s, m, rfl, h1, h2⟩ := concVs_cons ha
        obtain ⟨x, m', rfl, h3, h4⟩ := concVs_cons h2
        cases h4
        cases hx : notIntT P xt with
        | false => trivial
        | true =>
          rw [sel_true]
          exact ORel.of_vh (s := Builtin.append_ ts ty #[s, x]) fun v h' hv => appendA_rel hQ H hn (ts0 hts) (ts1 hts) hx hv h1 h3
      · trivial
    · trivial
  case copy =>
    show ORel P Q N0 w0 η h w (copyB P h ts.toList args) _
    unfold copyB
    split
    · rename_i t r hts
      split
      · rename_i a y
        obtain ⟨s, m, rfl, h1, h2⟩ := concVs_cons ha
        obtain ⟨x, m', rfl, h3, h4⟩ := concVs_cons h2
        cases h4
        exact ORel.of_vh (s := Builtin.copy_ ts ty #[s, x]) fun v h' hv => copyA_rel hQ H (ts0 hts) hv h1 h3
      · trivial
    · trivial
  case delete =>
    show ORel P Q N0 w0 η h w (deleteB P h ts.toList args) _
    unfold deleteB
    split
    · rename_i t r hts
      split
      · rename_i a y
        obtain ⟨s, m, rfl, h1, h2⟩ := concVs_cons ha
        obtain ⟨x, m', rfl, h3, h4⟩ := concVs_cons h2
        cases h4
        cases hd : deleteA P h t a y with
        | none => trivial
        | some h' =>
          obtain ⟨w', h5, h6, h7⟩ := deleteA_rel (ty := ty) H (ts0 hts) hd h1 h3
          refine ⟨η, .tuple #[], w', ?_, .inl ⟨rfl, h7⟩, h6, rfl⟩
          simp [Go.builtin, h5]
      · trivial
    · trivial
  case len =>
    show ORel P Q N0 w0 η h w (lenB P h ts.toList args) _
    unfold lenB
    split
    · rename_i t r hts
      split
      · rename_i a
        obtain ⟨s, m, rfl, h1, h2⟩ := concVs_cons ha
        cases h2
        exact ORel.of_vo H (s := Builtin.len_ ts ty #[s]) fun v hv => lenA_rel H hv h1 ts ty (ts0 hts)
      · trivial
    · trivial
  case max => exact ORel.of_vo H (s := Builtin.max_ ts ty xs.toArray) fun v hv => maxA_rel hv ha ts ty
  case min => exact ORel.of_vo H (s := Builtin.min_ ts ty xs.toArray) fun v hv => minA_rel hv ha ts ty
  case panic =>
    show ORel P Q N0 w0 η h w (panicB h args) _
    unfold panicB
    split
    · rename_i a
      obtain ⟨s, m, rfl, h1, h2⟩ := concVs_cons ha
      cases h2
      cases e : asIface a with
      | none => trivial
      | some p =>
        simp only
        obtain rfl := asIface_some e
        obtain ⟨y, h3, rfl⟩ := conc_iface h1
        exact ⟨rfl, .iface p.1 y, by simp [Go.builtin, Instr.panic, goPanic, Sem.run], h1⟩
    · trivial
  case recover => exact ⟨rfl, by simp [Go.builtin]⟩

section
variable {T : Tr AV} {ρ : Operand → Value}

theorem callee_ops (c : Call) : c.operands.toList = (match c.callee with | .value f => [f] | .invoke r _ => [r] | .builtin _ => []) ++ c.args.toList := by
  unfold Call.operands
  cases c.callee <;> simp

theorem callA_rel (hQ : QOk Q) (H : HR P Q N0 w0 η h w) (hn : η h.next = none) {c : Call} {ty : TypeId} (hev : EvOn Q η T ρ c.operands.toList) :
    ORel P Q N0 w0 η h w (callA P T h c) ((do let d ← resolve ρ c ty; invoke d.target d.args : Sem Next).run P w) := by
  obtain ⟨callee, cargs, argTypes⟩ := c
  rw [callee_ops] at hev
  unfold callA
  simp only
  have ev2 : EvOn Q η T ρ cargs.toList := fun x hx => hev x (List.mem_append.2 (.inr hx))
  cases e : evalsA T cargs.toList with
  | none => trivial
  | some args =>
    simp only
    have ha := evalsA_rel e ev2
    have hmap : (cargs.map ρ) = (cargs.toList.map ρ).toArray := by apply Array.ext'; simp
    cases callee with
    | builtin b =>
      simp only
      simp only [resolve, Sem.run_bind, Sem.run_pure, Result.andThen_ok, invoke, hmap]
      exact builtin_rel hQ H hn ha
    | invoke r name =>
      simp only
      unfold callI
      cases e2 : evalA T r with
      | none => trivial
      | some a =>
        simp only
        have h1 := hev r (by simp) a e2
        cases e3 : asIface a with
        | none => trivial
        | some p =>
          simp only
          obtain rfl := asIface_some e3
          obtain ⟨y, h3, h4⟩ := conc_iface h1
          have := callM_rel (name := name) (t := p.1) H h3 ha
          rw [show (do let d ← resolve ρ ⟨.invoke r name, cargs, argTypes⟩ ty; invoke d.target d.args : Sem Next).run P w = (callMethod (.iface p.1 y) name (cargs.toList.map ρ).toArray).run P w by
            have hx : ((#[Value.iface p.1 y] : Array Value) ++ (cargs.toList.map ρ).toArray).extract 1 ((#[Value.iface p.1 y] : Array Value) ++ (cargs.toList.map ρ).toArray).size = (cargs.toList.map ρ).toArray := by
              apply Array.ext'; simp
              rw [List.take_of_length_le (by simp)]
            simp only [resolve, Sem.run_bind, Sem.run_pure, Result.andThen_ok, invoke, h4, hmap, hx]
            simp]
          exact this
    | value f =>
      simp only
      unfold callV
      cases e2 : evalA T f with
      | none => trivial
      | some a =>
        simp only
        have h1 := hev f (by simp) a e2
        cases e3 : asFunc a with
        | none => trivial
        | some p =>
          simp only
          obtain rfl := asFunc_some e3
          obtain ⟨g, fs, cs, h5, h6, h7, h8⟩ := conc_func h1
          have := invoke_rel H h5 h7 (concVs_append h6 ha)
          rw [show (do let d ← resolve ρ ⟨.value f, cargs, argTypes⟩ ty; invoke d.target d.args : Sem Next).run P w = (invoke (.fn g ⟨cs⟩) (fs ++ cargs.toList.map ρ).toArray).run P w by
            simp only [resolve, h8, Deferred.ofValue, Sem.run_bind, Sem.run_pure, Result.andThen_ok, hmap]
            simp]
          exact this

theorem deferA_rel (H : HR P Q N0 w0 η h w) {c : Call} {ty : TypeId} (hev : EvOn Q η T ρ c.operands.toList) {d : ADf} (hd : deferA T c = some d) :
    ∃ y, (resolve ρ c ty).run P w = .ok y w ∧ concDf Q η d = some y := by
  obtain ⟨callee, cargs, argTypes⟩ := c
  rw [callee_ops] at hev
  unfold deferA at hd
  simp only at hd
  have ev2 : EvOn Q η T ρ cargs.toList := fun x hx => hev x (List.mem_append.2 (.inr hx))
  cases e : evalsA T cargs.toList with
  | none => rw [e] at hd; cases hd
  | some args =>
    rw [e] at hd
    simp only at hd
    have ha := evalsA_rel e ev2
    have hmap : (cargs.map ρ) = (cargs.toList.map ρ).toArray := by apply Array.ext'; simp
    cases callee with
    | builtin b => cases hd
    | invoke r name => cases hd
    | value f =>
      simp only at hd
      cases e2 : evalA T f with
      | none => rw [e2] at hd; cases hd
      | some a =>
        rw [e2] at hd
        simp only at hd
        have h1 := hev f (by simp) a e2
        cases e3 : asFunc a with
        | none => rw [e3] at hd; cases hd
        | some p =>
          rw [e3] at hd
          simp only at hd
          cases hd
          obtain rfl := asFunc_some e3
          obtain ⟨g, fs, cs, h5, h6, h7, h8⟩ := conc_func h1
          refine ⟨⟨.fn g ⟨cs⟩, (fs ++ cargs.toList.map ρ).toArray⟩, ?_, ?_⟩
          · simp only [resolve, h8, Deferred.ofValue, Sem.run_pure, hmap]
            simp
          · simp only [concDf, h5, h7, concVs_append h6 ha]

theorem EvOn.one {xs : List Operand} (h1 : EvOn Q η T ρ xs) {x : Operand} (hx : x ∈ xs) {v : AV} (hv : evalA T x = some v) : concV Q η v = some (ρ x) := h1 x hx v hv

theorem truthA_some {v : Option AV} {b : Bool} (h1 : truthA v = some b) : v = some (.bool b) := by
  cases v with
  | none => cases h1
  | some v => rw [show v = .bool b from asBool_some h1]

theorem nilA_some {a v : AV} (hv : nilA a = some v) : (∃ i o, a = .ptr i o ∧ v = .ptr i o) ∨ (∃ g x y, a = .func (.func g) x y ∧ v = .func (.func g) x y) ∨ (∃ t x, a = .iface t x ∧ v = .iface t x) := by
  cases a <;> simp [nilA] at hv <;> try (subst hv; simp; done)
  rename_i fn x y
  cases fn <;> simp [nilF] at hv
  subst hv; simp

theorem opA_move (hQ : QOk Q) (H : HR P Q N0 w0 η h w) (hn : η h.next = none) (dst : Option Tmp) (ty : TypeId) (pos : String) (after : Array Edge) (guard : Option (Nat × Bool)) (ir : Bool) (x : _)
    (hev : EvOn Q η T ρ (Op.move x).operands.toList) : ORel P Q N0 w0 η h w (opA P T h ir ⟨dst, .move x, ty, pos, after, guard⟩) ((execOp ρ ⟨dst, .move x, ty, pos, after, guard⟩).run P w) := by
  exact ORel.of_vo H (o := evalA T x) (s := (pure (ρ x) : Sem Value)) fun v hv => ⟨ρ x, rfl, hev.one (by simp [Op.operands]) hv⟩

theorem opA_assign (hQ : QOk Q) (H : HR P Q N0 w0 η h w) (hn : η h.next = none) (dst : Option Tmp) (ty : TypeId) (pos : String) (after : Array Edge) (guard : Option (Nat × Bool)) (ir : Bool) (x : _)
    (hev : EvOn Q η T ρ (Op.assign x).operands.toList) : ORel P Q N0 w0 η h w (opA P T h ir ⟨dst, .assign x, ty, pos, after, guard⟩) ((execOp ρ ⟨dst, .assign x, ty, pos, after, guard⟩).run P w) := by
  exact ORel.of_vo H (o := evalA T x) (s := (pure (ρ x) : Sem Value)) fun v hv => ⟨ρ x, rfl, hev.one (by simp [Op.operands]) hv⟩

theorem opA_pick (hQ : QOk Q) (H : HR P Q N0 w0 η h w) (hn : η h.next = none) (dst : Option Tmp) (ty : TypeId) (pos : String) (after : Array Edge) (guard : Option (Nat × Bool)) (ir : Bool) (c : _) (a : _) (b : _)
    (hev : EvOn Q η T ρ (Op.pick c a b).operands.toList) : ORel P Q N0 w0 η h w (opA P T h ir ⟨dst, .pick c a b, ty, pos, after, guard⟩) ((execOp ρ ⟨dst, .pick c a b, ty, pos, after, guard⟩).run P w) := by
  show ORel P Q N0 w0 η h w (opPick T h c a b) ((do pure (.value (if ← Go.asBool (ρ c) then ρ a else ρ b)) : Sem Next).run P w)
  unfold opPick
  cases e : truthA (evalA T c) with
  | none => trivial
  | some t =>
    simp only
    have h1 := truthA_some e
    have h2 := hev.one (x := c) (by simp [Op.operands]) h1
    have hc : ρ c = .bool t := (Option.some.inj h2).symm
    have hrun : (do pure (.value (if ← Go.asBool (ρ c) then ρ a else ρ b)) : Sem Next).run P w = .ok (.value (if t then ρ a else ρ b)) w := by simp [hc, Go.asBool]
    rw [hrun]
    cases t with
    | true =>
      rw [sel_true]
      unfold vOf
      cases e2 : evalA T a with
      | none => trivial
      | some v => exact ⟨η, ρ a, w, rfl, .inl ⟨rfl, rfl⟩, H, hev.one (by simp [Op.operands]) e2⟩
    | false =>
      rw [sel_false]
      unfold vOf
      cases e2 : evalA T b with
      | none => trivial
      | some v => exact ⟨η, ρ b, w, rfl, .inl ⟨rfl, rfl⟩, H, hev.one (by simp [Op.operands]) e2⟩

theorem opA_alloc (hQ : QOk Q) (H : HR P Q N0 w0 η h w) (hn : η h.next = none) (dst : Option Tmp) (ty : TypeId) (pos : String) (after : Array Edge) (guard : Option (Nat × Bool)) (ir : Bool) (e : _)
    (hev : EvOn Q η T ρ (Op.alloc e).operands.toList) : ORel P Q N0 w0 η h w (opA P T h ir ⟨dst, .alloc e, ty, pos, after, guard⟩) ((execOp ρ ⟨dst, .alloc e, ty, pos, after, guard⟩).run P w) := by
  show ORel P Q N0 w0 η h w (opAlloc P h e) ((do pure (.value (← Instr.alloc e true (.tuple #[]))) : Sem Next).run P w)
  unfold opAlloc
  cases hz : zeroOf P e with
  | none => trivial
  | some z =>
    have := ORel.of_v (w := w) (alloc_rel H hn hQ hz true)
    simpa using this

theorem opA_box (hQ : QOk Q) (H : HR P Q N0 w0 η h w) (hn : η h.next = none) (dst : Option Tmp) (ty : TypeId) (pos : String) (after : Array Edge) (guard : Option (Nat × Bool)) (ir : Bool) (e : _) (x : _)
    (hev : EvOn Q η T ρ (Op.box e x).operands.toList) : ORel P Q N0 w0 η h w (opA P T h ir ⟨dst, .box e x, ty, pos, after, guard⟩) ((execOp ρ ⟨dst, .box e x, ty, pos, after, guard⟩).run P w) := by
  show ORel P Q N0 w0 η h w (opBox T h e x) ((do pure (.value (← Instr.box e (ρ x))) : Sem Next).run P w)
  unfold opBox
  cases hz : evalA T x with
  | none => trivial
  | some z =>
    have := ORel.of_v (w := w) (box_rel (e := e) H hn hQ (hev.one (by simp [Op.operands]) hz))
    simpa using this

theorem opA_build (hQ : QOk Q) (H : HR P Q N0 w0 η h w) (hn : η h.next = none) (dst : Option Tmp) (ty : TypeId) (pos : String) (after : Array Edge) (guard : Option (Nat × Bool)) (ir : Bool) (t : _) (ps : _)
    (hev : EvOn Q η T ρ (Op.build t ps).operands.toList) : ORel P Q N0 w0 η h w (opA P T h ir ⟨dst, .build t ps, ty, pos, after, guard⟩) ((execOp ρ ⟨dst, .build t ps, ty, pos, after, guard⟩).run P w) := by
  show ORel P Q N0 w0 η h w (opBuild P T h t ps) ((do pure (.value (← Instr.build t (ps.map fun (i, x) => (i, ρ x)))) : Sem Next).run P w)
  unfold opBuild
  cases hz : evalPs T ps.toList with
  | none => trivial
  | some l =>
    have hp := evalPs_rel hz (fun x hx => hev x (by simpa [Op.operands] using hx))
    have hm : (ps.map fun (i, x) => (i, ρ x)) = (ps.toList.map fun p => (p.1, ρ p.2)).toArray := by apply Array.ext'; simp
    rw [hm]
    exact ORel.of_vo H fun v hv => buildA_rel hQ hv hp

theorem opA_buildSlice (hQ : QOk Q) (H : HR P Q N0 w0 η h w) (hn : η h.next = none) (dst : Option Tmp) (ty : TypeId) (pos : String) (after : Array Edge) (guard : Option (Nat × Bool)) (ir : Bool) (t : _) (n : _) (ps : _)
    (hev : EvOn Q η T ρ (Op.buildSlice t n ps).operands.toList) : ORel P Q N0 w0 η h w (opA P T h ir ⟨dst, .buildSlice t n ps, ty, pos, after, guard⟩) ((execOp ρ ⟨dst, .buildSlice t n ps, ty, pos, after, guard⟩).run P w) := by
  have hm : (ps.map fun (x : Nat × Operand) => (x.1, ρ x.2)) = (ps.toList.map fun p => (p.1, ρ p.2)).toArray := by apply Array.ext'; simp
  have hx : execOp ρ ⟨dst, .buildSlice t n ps, ty, pos, after, guard⟩ = (do pure (.value (← Instr.buildSlice t n (ps.toList.map fun p => (p.1, ρ p.2)).toArray))) := by
    rw [← hm]
    simp only [execOp]
  rw [hx]
  show ORel P Q N0 w0 η h w (opBuildSlice P T h t n ps) _
  unfold opBuildSlice
  cases hz : evalPs T ps.toList with
  | none => trivial
  | some l =>
    have hp := evalPs_rel hz (fun x hx => hev x (by simpa [Op.operands] using hx))
    exact ORel.of_vh fun v h' hv => buildSliceA_rel H hn hQ hv hp

theorem opMapUp_rel (H : HR P Q N0 w0 η h w) (t : TypeId) (m k x : Operand) (hev : EvOn Q η T ρ [m, k, x]) : ORel P Q N0 w0 η h w (opMapUp P T h t m k x) ((do Instr.mapUpdate t (ρ m) (ρ k) (ρ x); pure .skip : Sem Next).run P w) := by
  unfold opMapUp
  cases e1 : evalA T m with
  | none => trivial
  | some a =>
    simp only
    cases e2 : evalA T k with
    | none => trivial
    | some b =>
      simp only
      cases e3 : evalA T x with
      | none => trivial
      | some c => exact ORel.of_so fun h' hv => mapUpdateA_rel H hv (hev.one (by simp) e1) (hev.one (by simp) e2) (hev.one (by simp) e3)

theorem opA_insert (hQ : QOk Q) (H : HR P Q N0 w0 η h w) (hn : η h.next = none) (dst : Option Tmp) (ty : TypeId) (pos : String) (after : Array Edge) (guard : Option (Nat × Bool)) (ir : Bool) (t : _) (m : _) (k : _) (x : _)
    (hev : EvOn Q η T ρ (Op.insert t m k x).operands.toList) : ORel P Q N0 w0 η h w (opA P T h ir ⟨dst, .insert t m k x, ty, pos, after, guard⟩) ((execOp ρ ⟨dst, .insert t m k x, ty, pos, after, guard⟩).run P w) := opMapUp_rel H t m k x (by simpa [Op.operands] using hev)

theorem opA_load (hQ : QOk Q) (H : HR P Q N0 w0 η h w) (hn : η h.next = none) (dst : Option Tmp) (ty : TypeId) (pos : String) (after : Array Edge) (guard : Option (Nat × Bool)) (ir : Bool) (t : _) (a : _)
    (hev : EvOn Q η T ρ (Op.load t a).operands.toList) : ORel P Q N0 w0 η h w (opA P T h ir ⟨dst, .load t a, ty, pos, after, guard⟩) ((execOp ρ ⟨dst, .load t a, ty, pos, after, guard⟩).run P w) := by
  show ORel P Q N0 w0 η h w (opLoad P T h t a) ((do pure (.value (← Instr.loadAt t (ρ a))) : Sem Next).run P w)
  unfold opLoad
  cases e1 : evalA T a with
  | none => trivial
  | some p =>
    refine ORel.of_vo H fun v hv => ?_
    obtain ⟨ad, y, h1, h2, h3⟩ := loadA_rel H hv (hev.one (by simp [Op.operands]) e1)
    exact ⟨y, by simp [Instr.loadAt, h1, Instr.sureAddr, h2], h3⟩

theorem opA_store (hQ : QOk Q) (H : HR P Q N0 w0 η h w) (hn : η h.next = none) (dst : Option Tmp) (ty : TypeId) (pos : String) (after : Array Edge) (guard : Option (Nat × Bool)) (ir : Bool) (t : _) (a : _) (x : _)
    (hev : EvOn Q η T ρ (Op.store t a x).operands.toList) : ORel P Q N0 w0 η h w (opA P T h ir ⟨dst, .store t a x, ty, pos, after, guard⟩) ((execOp ρ ⟨dst, .store t a x, ty, pos, after, guard⟩).run P w) := by
  show ORel P Q N0 w0 η h w (opStore P T h t a x) ((do Instr.storeAt t (ρ a) (ρ x); pure .skip : Sem Next).run P w)
  unfold opStore
  cases e1 : evalA T a with
  | none => trivial
  | some p =>
    simp only
    cases e2 : evalA T x with
    | none => trivial
    | some u => exact ORel.of_so fun h' hv => storeA_rel hQ H hv (hev.one (by simp [Op.operands]) e1) (hev.one (by simp [Op.operands]) e2)

theorem opA_nilCheck (hQ : QOk Q) (H : HR P Q N0 w0 η h w) (hn : η h.next = none) (dst : Option Tmp) (ty : TypeId) (pos : String) (after : Array Edge) (guard : Option (Nat × Bool)) (ir : Bool) (x : _)
    (hev : EvOn Q η T ρ (Op.nilCheck x).operands.toList) : ORel P Q N0 w0 η h w (opA P T h ir ⟨dst, .nilCheck x, ty, pos, after, guard⟩) ((execOp ρ ⟨dst, .nilCheck x, ty, pos, after, guard⟩).run P w) := by
  show ORel P Q N0 w0 η h w (opNil T h x) _
  unfold opNil
  cases e1 : evalA T x with
  | none => trivial
  | some a =>
    simp only
    have h1 := hev.one (x := x) (by simp [Op.operands]) e1
    unfold vOf
    cases hv : nilA a with
    | none => trivial
    | some v =>
      simp only
      rcases nilA_some hv with ⟨i, o, rfl, rfl⟩ | ⟨g, p, q, rfl, rfl⟩ | ⟨t, y, rfl, rfl⟩
      · obtain ⟨b, base, cap, _, h2⟩ := conc_ptr h1
        exact ⟨η, ρ x, w, by simp [execOp, h2], .inl ⟨rfl, rfl⟩, H, h1⟩
      · obtain ⟨g', xs, ys, hg, _, _, h2⟩ := conc_func h1
        cases hg
        exact ⟨η, ρ x, w, by simp [execOp, h2], .inl ⟨rfl, rfl⟩, H, h1⟩
      · obtain ⟨z, _, h2⟩ := conc_iface h1
        exact ⟨η, ρ x, w, by simp [execOp, h2], .inl ⟨rfl, rfl⟩, H, h1⟩

theorem opA_binOp (hQ : QOk Q) (H : HR P Q N0 w0 η h w) (hn : η h.next = none) (dst : Option Tmp) (ty : TypeId) (pos : String) (after : Array Edge) (guard : Option (Nat × Bool)) (ir : Bool) (op : _) (t : _) (x : _) (y : _) (yt : _)
    (hev : EvOn Q η T ρ (Op.binOp op t x y yt).operands.toList) : ORel P Q N0 w0 η h w (opA P T h ir ⟨dst, .binOp op t x y yt, ty, pos, after, guard⟩) ((execOp ρ ⟨dst, .binOp op t x y yt, ty, pos, after, guard⟩).run P w) := by
  show ORel P Q N0 w0 η h w (opBin P T h op t x y) ((do pure (.value (← (do eqGuard op t x y (ρ x) (ρ y); binOp op t (ρ x) (ρ y)))) : Sem Next).run P w)
  unfold opBin
  cases e1 : evalA T x with
  | none => trivial
  | some a =>
    simp only
    cases e2 : evalA T y with
    | none => trivial
    | some b => exact ORel.of_vo H fun v hv => binA_rel hQ hv (hev.one (by simp [Op.operands]) e1) (hev.one (by simp [Op.operands]) e2)

theorem opA_unOp (hQ : QOk Q) (H : HR P Q N0 w0 η h w) (hn : η h.next = none) (dst : Option Tmp) (ty : TypeId) (pos : String) (after : Array Edge) (guard : Option (Nat × Bool)) (ir : Bool) (op : _) (t : _) (x : _)
    (hev : EvOn Q η T ρ (Op.unOp op t x).operands.toList) : ORel P Q N0 w0 η h w (opA P T h ir ⟨dst, .unOp op t x, ty, pos, after, guard⟩) ((execOp ρ ⟨dst, .unOp op t x, ty, pos, after, guard⟩).run P w) := by
  show ORel P Q N0 w0 η h w (opUn T h op x) ((do pure (.value (← Op.unary op (ρ x))) : Sem Next).run P w)
  unfold opUn
  cases e1 : evalA T x with
  | none => trivial
  | some a => exact ORel.of_vo H fun v hv => unA_rel hv (hev.one (by simp [Op.operands]) e1)

theorem opA_convert (hQ : QOk Q) (H : HR P Q N0 w0 η h w) (hn : η h.next = none) (dst : Option Tmp) (ty : TypeId) (pos : String) (after : Array Edge) (guard : Option (Nat × Bool)) (ir : Bool) (s : _) (d : _) (x : _)
    (hev : EvOn Q η T ρ (Op.convert s d x).operands.toList) : ORel P Q N0 w0 η h w (opA P T h ir ⟨dst, .convert s d x, ty, pos, after, guard⟩) ((execOp ρ ⟨dst, .convert s d x, ty, pos, after, guard⟩).run P w) := by
  show ORel P Q N0 w0 η h w (opConv P T h s d x) ((do pure (.value (← convert s d (ρ x))) : Sem Next).run P w)
  unfold opConv
  cases e1 : evalA T x with
  | none => trivial
  | some a => exact ORel.of_vh fun v h' hv => convA_rel hQ H hn hv (hev.one (by simp [Op.operands]) e1)

theorem opA_makeInterface (hQ : QOk Q) (H : HR P Q N0 w0 η h w) (hn : η h.next = none) (dst : Option Tmp) (ty : TypeId) (pos : String) (after : Array Edge) (guard : Option (Nat × Bool)) (ir : Bool) (t : _) (x : _)
    (hev : EvOn Q η T ρ (Op.makeInterface t x).operands.toList) : ORel P Q N0 w0 η h w (opA P T h ir ⟨dst, .makeInterface t x, ty, pos, after, guard⟩) ((execOp ρ ⟨dst, .makeInterface t x, ty, pos, after, guard⟩).run P w) := by
  show ORel P Q N0 w0 η h w (opIface P T h t x) ((do pure (.value (← Instr.makeInterface t (ρ x))) : Sem Next).run P w)
  unfold opIface
  cases e1 : evalA T x with
  | none => trivial
  | some a => exact ORel.of_vo H fun v hv => ifaceA_rel hv (hev.one (by simp [Op.operands]) e1)

theorem opA_makeFunc (hQ : QOk Q) (H : HR P Q N0 w0 η h w) (hn : η h.next = none) (dst : Option Tmp) (ty : TypeId) (pos : String) (after : Array Edge) (guard : Option (Nat × Bool)) (ir : Bool) (fn : _) (first : _) (cap : _)
    (hev : EvOn Q η T ρ (Op.makeFunc fn first cap).operands.toList) : ORel P Q N0 w0 η h w (opA P T h ir ⟨dst, .makeFunc fn first cap, ty, pos, after, guard⟩) ((execOp ρ ⟨dst, .makeFunc fn first cap, ty, pos, after, guard⟩).run P w) := by
  show ORel P Q N0 w0 η h w (opFunc T h fn first cap) _
  unfold opFunc
  cases e1 : evalsA T first.toList with
  | none => trivial
  | some a =>
    simp only
    cases e2 : evalsA T cap.toList with
    | none => trivial
    | some b =>
      simp only
      have h1 := evalsA_rel e1 (fun x hx => hev x (by simp [Op.operands]; exact .inl (by simpa using hx)))
      have h2 := evalsA_rel e2 (fun x hx => hev x (by simp [Op.operands]; exact .inr (by simpa using hx)))
      have hfirst : first.map ρ = ⟨first.toList.map ρ⟩ := by apply Array.ext'; simp
      have hcap : cap.map ρ = ⟨cap.toList.map ρ⟩ := by apply Array.ext'; simp
      cases hp : plainFn fn with
      | false => trivial
      | true =>
        rw [sel_true]
        have hg : concFn η fn = some fn := by cases fn <;> first | rfl | cases hp
        refine ⟨η, .func fn ⟨first.toList.map ρ⟩ ⟨cap.toList.map ρ⟩, w, ?_, .inl ⟨rfl, rfl⟩, H, by simp only [concV, hg, h1, h2]⟩
        simp [execOp, Instr.makeFunc, hfirst, hcap]

theorem opA_makeMap (hQ : QOk Q) (H : HR P Q N0 w0 η h w) (hn : η h.next = none) (dst : Option Tmp) (ty : TypeId) (pos : String) (after : Array Edge) (guard : Option (Nat × Bool)) (ir : Bool) (t : _) (r : _)
    (hev : EvOn Q η T ρ (Op.makeMap t r).operands.toList) : ORel P Q N0 w0 η h w (opA P T h ir ⟨dst, .makeMap t r, ty, pos, after, guard⟩) ((execOp ρ ⟨dst, .makeMap t r, ty, pos, after, guard⟩).run P w) := by
  show ORel P Q N0 w0 η h w (opMap P T h t r) ((do pure (.value (← Instr.makeMap t (r.map ρ))) : Sem Next).run P w)
  unfold opMap
  cases r with
  | none =>
    obtain ⟨η', x, w', h1, h2, h3, h4⟩ := makeMap_rel H hn
    cases h1
    exact ⟨η', _, _, by simp [Instr.makeMap], h2, h3, h4⟩
  | some x =>
    simp only
    cases hm : isMapT P t with
    | false => trivial
    | true =>
      rw [sel_true]
      obtain ⟨k, e, hd⟩ := isMapT_true hm
      have hu := run_und hd w
      cases e1 : evalA T x with
      | none => trivial
      | some a =>
        simp only
        cases e2 : Sx.asInt a with
        | none => trivial
        | some p =>
          simp only
          obtain rfl := asInt_some e2
          have h5 := hev.one (x := x) (by simp [Op.operands]) e1
          have h6 : ρ x = .int p.1 p.2 := (Option.some.inj h5).symm
          obtain ⟨η', y, w', h1, h2, h3, h4⟩ := makeMap_rel H hn
          cases h1
          exact ⟨η', _, _, by simp [Instr.makeMap, hu, h6, Go.asInt, asIntOf], h2, h3, h4⟩

theorem opA_makeSlice (hQ : QOk Q) (H : HR P Q N0 w0 η h w) (hn : η h.next = none) (dst : Option Tmp) (ty : TypeId) (pos : String) (after : Array Edge) (guard : Option (Nat × Bool)) (ir : Bool) (t : _) (l : _) (c : _)
    (hev : EvOn Q η T ρ (Op.makeSlice t l c).operands.toList) : ORel P Q N0 w0 η h w (opA P T h ir ⟨dst, .makeSlice t l c, ty, pos, after, guard⟩) ((execOp ρ ⟨dst, .makeSlice t l c, ty, pos, after, guard⟩).run P w) := by
  show ORel P Q N0 w0 η h w (opMkSlice P T h t l c) ((do pure (.value (← Instr.makeSlice t (ρ l) (ρ c))) : Sem Next).run P w)
  unfold opMkSlice
  cases e1 : evalA T l with
  | none => trivial
  | some a =>
    simp only
    cases e2 : evalA T c with
    | none => trivial
    | some b => exact ORel.of_vh fun v h' hv => makeSliceA_rel H hn hQ hv (hev.one (by simp [Op.operands]) e1) (hev.one (by simp [Op.operands]) e2)

theorem opA_slice (hQ : QOk Q) (H : HR P Q N0 w0 η h w) (hn : η h.next = none) (dst : Option Tmp) (ty : TypeId) (pos : String) (after : Array Edge) (guard : Option (Nat × Bool)) (ir : Bool) (t : _) (x : _) (lo : _) (hi : _) (mx : _)
    (hev : EvOn Q η T ρ (Op.slice t x lo hi mx).operands.toList) : ORel P Q N0 w0 η h w (opA P T h ir ⟨dst, .slice t x lo hi mx, ty, pos, after, guard⟩) ((execOp ρ ⟨dst, .slice t x lo hi mx, ty, pos, after, guard⟩).run P w) := by
  show ORel P Q N0 w0 η h w (opSlice P T h t x lo hi mx) ((do pure (.value (← Instr.sliceAt t (ρ x) (lo.map ρ) (hi.map ρ) (mx.map ρ))) : Sem Next).run P w)
  unfold opSlice
  cases e1 : evalA T x with
  | none => trivial
  | some a =>
    simp only
    cases e2 : evalO T lo with
    | none => trivial
    | some l =>
      simp only
      cases e3 : evalO T hi with
      | none => trivial
      | some hh =>
        simp only
        cases mx with
        | some mo =>
          simp only
          cases e4 : evalA T mo with
          | none => trivial
          | some mv =>
            have hmv : ∀ y, ρ mo = y → concV Q η mv = some (ρ mo) := fun y _ => hev.one (by simp [Op.operands]) e4
            exact ORel.of_vh fun v h' hv => slice3A_rel H hv (hev.one (by simp [Op.operands]) e1) (evalO_rel e2 fun y hy => hev y (by cases lo <;> simp_all [Op.operands])) (evalO_rel e3 fun y hy => hev y (by cases hi <;> simp_all [Op.operands])) (hmv _ rfl)
        | none =>
          refine ORel.of_vh fun v h' hv => sliceA_rel H hn hv (hev.one (by simp [Op.operands]) e1) (evalO_rel e2 fun y hy => hev y ?_) (evalO_rel e3 fun y hy => hev y ?_)
          · cases lo <;> simp_all [Op.operands]
          · cases hi <;> simp_all [Op.operands]

theorem opA_fieldAddr (hQ : QOk Q) (H : HR P Q N0 w0 η h w) (hn : η h.next = none) (dst : Option Tmp) (ty : TypeId) (pos : String) (after : Array Edge) (guard : Option (Nat × Bool)) (ir : Bool) (s : _) (x : _) (f : _)
    (hev : EvOn Q η T ρ (Op.fieldAddr s x f).operands.toList) : ORel P Q N0 w0 η h w (opA P T h ir ⟨dst, .fieldAddr s x f, ty, pos, after, guard⟩) ((execOp ρ ⟨dst, .fieldAddr s x f, ty, pos, after, guard⟩).run P w) := by
  show ORel P Q N0 w0 η h w (opFAddr P T h s x f) ((do pure (.value (← Instr.fieldAt s (ρ x) f)) : Sem Next).run P w)
  unfold opFAddr
  cases e1 : evalA T x with
  | none => trivial
  | some a => exact ORel.of_vo H fun v hv => fieldAddrA_rel hv (hev.one (by simp [Op.operands]) e1)

theorem opA_field (hQ : QOk Q) (H : HR P Q N0 w0 η h w) (hn : η h.next = none) (dst : Option Tmp) (ty : TypeId) (pos : String) (after : Array Edge) (guard : Option (Nat × Bool)) (ir : Bool) (t : _) (x : _) (f : _)
    (hev : EvOn Q η T ρ (Op.field t x f).operands.toList) : ORel P Q N0 w0 η h w (opA P T h ir ⟨dst, .field t x f, ty, pos, after, guard⟩) ((execOp ρ ⟨dst, .field t x f, ty, pos, after, guard⟩).run P w) := by
  show ORel P Q N0 w0 η h w (opField P T h t x f) ((do pure (.value (← Instr.field t (ρ x) f)) : Sem Next).run P w)
  unfold opField
  cases e1 : evalA T x with
  | none => trivial
  | some a => exact ORel.of_vo H fun v hv => fieldA_rel hv (hev.one (by simp [Op.operands]) e1)

theorem opA_indexAddr (hQ : QOk Q) (H : HR P Q N0 w0 η h w) (hn : η h.next = none) (dst : Option Tmp) (ty : TypeId) (pos : String) (after : Array Edge) (guard : Option (Nat × Bool)) (ir : Bool) (t : _) (x : _) (i : _)
    (hev : EvOn Q η T ρ (Op.indexAddr t x i).operands.toList) : ORel P Q N0 w0 η h w (opA P T h ir ⟨dst, .indexAddr t x i, ty, pos, after, guard⟩) ((execOp ρ ⟨dst, .indexAddr t x i, ty, pos, after, guard⟩).run P w) := by
  show ORel P Q N0 w0 η h w (opIAddr P T h t x i) ((do pure (.value (← Instr.indexAt t (ρ x) (ρ i))) : Sem Next).run P w)
  unfold opIAddr
  cases e1 : evalA T x with
  | none => trivial
  | some a =>
    simp only
    cases e2 : evalA T i with
    | none => trivial
    | some b => exact ORel.of_vo H fun v hv => indexAddrA_rel hv (hev.one (by simp [Op.operands]) e1) (hev.one (by simp [Op.operands]) e2)

theorem opA_index (hQ : QOk Q) (H : HR P Q N0 w0 η h w) (hn : η h.next = none) (dst : Option Tmp) (ty : TypeId) (pos : String) (after : Array Edge) (guard : Option (Nat × Bool)) (ir : Bool) (t : _) (x : _) (i : _)
    (hev : EvOn Q η T ρ (Op.index t x i).operands.toList) : ORel P Q N0 w0 η h w (opA P T h ir ⟨dst, .index t x i, ty, pos, after, guard⟩) ((execOp ρ ⟨dst, .index t x i, ty, pos, after, guard⟩).run P w) := by
  show ORel P Q N0 w0 η h w (opIndex P T h t x i) ((do pure (.value (← Instr.index t (ρ x) (ρ i))) : Sem Next).run P w)
  unfold opIndex
  cases e1 : evalA T x with
  | none => trivial
  | some a =>
    simp only
    cases e2 : evalA T i with
    | none => trivial
    | some b => exact ORel.of_vo H fun v hv => indexA_rel hv (hev.one (by simp [Op.operands]) e1) (hev.one (by simp [Op.operands]) e2)

theorem opA_lookup (hQ : QOk Q) (H : HR P Q N0 w0 η h w) (hn : η h.next = none) (dst : Option Tmp) (ty : TypeId) (pos : String) (after : Array Edge) (guard : Option (Nat × Bool)) (ir : Bool) (t : _) (x : _) (i : _) (ok : _)
    (hev : EvOn Q η T ρ (Op.lookup t x i ok).operands.toList) : ORel P Q N0 w0 η h w (opA P T h ir ⟨dst, .lookup t x i ok, ty, pos, after, guard⟩) ((execOp ρ ⟨dst, .lookup t x i ok, ty, pos, after, guard⟩).run P w) := by
  show ORel P Q N0 w0 η h w (opLookup P T h t x i ok) ((do pure (.value (← Instr.lookup t (ρ x) (ρ i) ok)) : Sem Next).run P w)
  unfold opLookup
  cases e1 : evalA T x with
  | none => trivial
  | some a =>
    simp only
    cases e2 : evalA T i with
    | none => trivial
    | some b => exact ORel.of_vo H fun v hv => lookupA_rel H hv (hev.one (by simp [Op.operands]) e1) (hev.one (by simp [Op.operands]) e2)

theorem opA_mapUpdate (hQ : QOk Q) (H : HR P Q N0 w0 η h w) (hn : η h.next = none) (dst : Option Tmp) (ty : TypeId) (pos : String) (after : Array Edge) (guard : Option (Nat × Bool)) (ir : Bool) (t : _) (m : _) (k : _) (x : _)
    (hev : EvOn Q η T ρ (Op.mapUpdate t m k x).operands.toList) : ORel P Q N0 w0 η h w (opA P T h ir ⟨dst, .mapUpdate t m k x, ty, pos, after, guard⟩) ((execOp ρ ⟨dst, .mapUpdate t m k x, ty, pos, after, guard⟩).run P w) := opMapUp_rel H t m k x (by simpa [Op.operands] using hev)

theorem opA_typeAssert (hQ : QOk Q) (H : HR P Q N0 w0 η h w) (hn : η h.next = none) (dst : Option Tmp) (ty : TypeId) (pos : String) (after : Array Edge) (guard : Option (Nat × Bool)) (ir : Bool) (x : _) (xt : _) (a : _) (ok : _)
    (hev : EvOn Q η T ρ (Op.typeAssert x xt a ok).operands.toList) : ORel P Q N0 w0 η h w (opA P T h ir ⟨dst, .typeAssert x xt a ok, ty, pos, after, guard⟩) ((execOp ρ ⟨dst, .typeAssert x xt a ok, ty, pos, after, guard⟩).run P w) := by
  show ORel P Q N0 w0 η h w (opAssert P T h x a ok) ((do pure (.value (← Instr.typeAssert (ρ x) xt a ok)) : Sem Next).run P w)
  unfold opAssert
  cases e1 : evalA T x with
  | none => trivial
  | some v => exact ORel.of_vo H fun v hv => typeAssertA_rel hv (hev.one (by simp [Op.operands]) e1)

theorem opA_extract (hQ : QOk Q) (H : HR P Q N0 w0 η h w) (hn : η h.next = none) (dst : Option Tmp) (ty : TypeId) (pos : String) (after : Array Edge) (guard : Option (Nat × Bool)) (ir : Bool) (x : _) (i : _)
    (hev : EvOn Q η T ρ (Op.extract x i).operands.toList) : ORel P Q N0 w0 η h w (opA P T h ir ⟨dst, .extract x i, ty, pos, after, guard⟩) ((execOp ρ ⟨dst, .extract x i, ty, pos, after, guard⟩).run P w) := by
  show ORel P Q N0 w0 η h w (opExtract T h x i) ((do pure (.value (← Instr.extract (ρ x) i)) : Sem Next).run P w)
  unfold opExtract
  cases e1 : evalA T x with
  | none => trivial
  | some a =>
    simp only
    cases e2 : asTup a with
    | none => trivial
    | some l =>
      simp only
      obtain rfl := asTup_some e2
      refine ORel.of_vo H fun v hv => ?_
      obtain ⟨xs, h1, h2⟩ := conc_tup (hev.one (x := x) (by simp [Op.operands]) e1)
      rw [nth_eq] at hv
      obtain ⟨y, h3, h4⟩ := concVs_get h1 i v hv
      exact ⟨y, by simp [Instr.extract, h2, h3], h4⟩

theorem opA_call (hQ : QOk Q) (H : HR P Q N0 w0 η h w) (hn : η h.next = none) (dst : Option Tmp) (ty : TypeId) (pos : String) (after : Array Edge) (guard : Option (Nat × Bool)) (ir : Bool) (c : _)
    (hev : EvOn Q η T ρ (Op.call c).operands.toList) : ORel P Q N0 w0 η h w (opA P T h ir ⟨dst, .call c, ty, pos, after, guard⟩) ((execOp ρ ⟨dst, .call c, ty, pos, after, guard⟩).run P w) := by
  show ORel P Q N0 w0 η h w (callA P T h c) ((do let d ← resolve ρ c ty; invoke d.target d.args : Sem Next).run P w)
  exact callA_rel hQ H hn (by simpa [Op.operands] using hev)

theorem opA_defer (hQ : QOk Q) (H : HR P Q N0 w0 η h w) (hn : η h.next = none) (dst : Option Tmp) (ty : TypeId) (pos : String) (after : Array Edge) (guard : Option (Nat × Bool)) (ir : Bool) (c : _)
    (hev : EvOn Q η T ρ (Op.defer c).operands.toList) : ORel P Q N0 w0 η h w (opA P T h ir ⟨dst, .defer c, ty, pos, after, guard⟩) ((execOp ρ ⟨dst, .defer c, ty, pos, after, guard⟩).run P w) := by
  show ORel P Q N0 w0 η h w (opDefer T h ir c) ((do pure (.defer (← resolve ρ c ty)) : Sem Next).run P w)
  unfold opDefer
  cases ir with
  | true => trivial
  | false =>
    rw [sel_false]
    cases e : deferA T c with
    | none => trivial
    | some d =>
      obtain ⟨y, h1, h2⟩ := deferA_rel (ty := ty) H (by simpa [Op.operands] using hev) e
      exact ⟨rfl, y, by simp [h1], h2⟩

theorem opA_panic (hQ : QOk Q) (H : HR P Q N0 w0 η h w) (hn : η h.next = none) (dst : Option Tmp) (ty : TypeId) (pos : String) (after : Array Edge) (guard : Option (Nat × Bool)) (ir : Bool) (x : _)
    (hev : EvOn Q η T ρ (Op.panic x).operands.toList) : ORel P Q N0 w0 η h w (opA P T h ir ⟨dst, .panic x, ty, pos, after, guard⟩) ((execOp ρ ⟨dst, .panic x, ty, pos, after, guard⟩).run P w) := by
  show ORel P Q N0 w0 η h w (opPanic T h x) ((do pure (.value (← Instr.panic (ρ x))) : Sem Next).run P w)
  unfold opPanic
  cases e1 : evalA T x with
  | none => trivial
  | some a =>
    simp only
    cases e2 : asIface a with
    | none => trivial
    | some p =>
      simp only
      obtain rfl := asIface_some e2
      have h1 := hev.one (x := x) (by simp [Op.operands]) e1
      obtain ⟨z, _, h2⟩ := conc_iface h1
      exact ⟨rfl, .iface p.1 z, by simp [h2, Instr.panic, goPanic, Sem.run], by rw [h1, h2]⟩

/-- an operation -/
theorem opA_next (H : HR P Q N0 w0 η h w) (hn : η h.next = none) (dst : Option Tmp) (ty : TypeId) (pos : String) (after : Array Edge) (guard : Option (Nat × Bool)) (ir : Bool) (x : Operand) (s : Bool)
    (hev : EvOn Q η T ρ (Op.next x s).operands.toList) : ORel P Q N0 w0 η h w (opA P T h ir ⟨dst, .next x s, ty, pos, after, guard⟩) ((execOp ρ ⟨dst, .next x s, ty, pos, after, guard⟩).run P w) := by
  show ORel P Q N0 w0 η h w (opNext T h x s) ((do pure (.value (← Instr.next (ρ x) s ty)) : Sem Next).run P w)
  unfold opNext
  cases s with
  | true => trivial
  | false =>
    rw [sel_false]
    cases e1 : evalA T x with
    | none => trivial
    | some a =>
      simp only
      cases e2 : Sx.asPtr a with
      | none => trivial
      | some p =>
        simp only
        have hx := hev.one (by simp [Op.operands]) e1
        obtain rfl := asPtr_some e2
        obtain ⟨b, base, cap, hi, hρ⟩ := conc_ptr hx
        cases hz : Nat.beq p.2 (nat_lit 0) with
        | false => trivial
        | true =>
          rw [sel_true]
          have hp2 : p.2 = 0 := beq_iff.1 hz
          split
          · rename_i cur l ho
            obtain ⟨hb0, _⟩ := H.itObj ho hi
            subst hb0
            rw [hp2] at hρ
            unfold nextA
            cases l with
            | nil =>
              rcases H.next ho hi ty with ⟨_, g⟩ | ⟨pre, e, post, k, v, w1, g, _⟩
              · simp only [hρ]
                exact ⟨η, .tuple #[.bool false], w, by simp [g], .inl ⟨rfl, rfl⟩, H, by simp [concV, concVs]⟩
              · cases pre <;> cases g
            | cons e r =>
              cases r with
              | nil =>
                rcases H.next ho hi ty with ⟨g, _⟩ | ⟨pre, e', post, k, v, w1, g, g2, g3, g4, g5⟩
                · cases g
                · cases pre with
                  | nil =>
                    cases g
                    simp only [hρ]
                    exact ⟨η, .tuple #[.bool true, k, v], w1, by simp [g2], .inl ⟨rfl, rfl⟩, g5, by simp [concV, concVs, g3, g4]⟩
                  | cons a pre =>
                    have := congrArg List.length g
                    simp at this
              | cons e2 r => rfl
          · trivial

theorem opA_entry (H : HR P Q N0 w0 η h w) (hn : η h.next = none) (dst : Option Tmp) (ty : TypeId) (pos : String) (after : Array Edge) (guard : Option (Nat × Bool)) (ir : Bool) (x : Operand)
    (hev : EvOn Q η T ρ (Op.entry x).operands.toList) : ORel P Q N0 w0 η h w (opA P T h ir ⟨dst, .entry x, ty, pos, after, guard⟩) ((execOp ρ ⟨dst, .entry x, ty, pos, after, guard⟩).run P w) := by
  show ORel P Q N0 w0 η h w (opEntry T h x) ((do pure (.value (← Instr.entry (ρ x))) : Sem Next).run P w)
  unfold opEntry
  cases e1 : evalA T x with
  | none => trivial
  | some a =>
    simp only
    cases e2 : Sx.asPtr a with
    | none => trivial
    | some p =>
      simp only
      have hx := hev.one (by simp [Op.operands]) e1
      obtain rfl := asPtr_some e2
      obtain ⟨b, base, cap, hi, hρ⟩ := conc_ptr hx
      cases hz : Nat.beq p.2 (nat_lit 0) with
      | false => trivial
      | true =>
        rw [sel_true]
        have hp2 : p.2 = 0 := beq_iff.1 hz
        split
        · rename_i e cur l ho
          obtain ⟨hb0, _⟩ := H.itObj ho hi
          subst hb0
          rw [hp2] at hρ
          obtain ⟨k, v, g, g3, g4⟩ := H.entry ho hi
          simp only [hρ]
          exact ⟨η, .tuple #[k, v], w, by simp [g], .inl ⟨rfl, rfl⟩, H, by simp [concV, concVs, g3, g4]⟩
        · trivial

theorem opA_rel (hQ : QOk Q) (H : HR P Q N0 w0 η h w) (hn : η h.next = none) {o : Oper} {ir : Bool} (hev : EvOn Q η T ρ o.op.operands.toList) :
    ORel P Q N0 w0 η h w (opA P T h ir o) ((execOp ρ o).run P w) := by
  obtain ⟨dst, op, ty, pos, after, guard⟩ := o
  cases op <;> try exact ORel.fail _
  case move x => exact opA_move hQ H hn dst ty pos after guard ir x hev
  case assign x => exact opA_assign hQ H hn dst ty pos after guard ir x hev
  case pick c a b => exact opA_pick hQ H hn dst ty pos after guard ir c a b hev
  case alloc e => exact opA_alloc hQ H hn dst ty pos after guard ir e hev
  case box e x => exact opA_box hQ H hn dst ty pos after guard ir e x hev
  case build t ps => exact opA_build hQ H hn dst ty pos after guard ir t ps hev
  case buildSlice t n ps => exact opA_buildSlice hQ H hn dst ty pos after guard ir t n ps hev
  case insert t m k x => exact opA_insert hQ H hn dst ty pos after guard ir t m k x hev
  case load t a => exact opA_load hQ H hn dst ty pos after guard ir t a hev
  case store t a x => exact opA_store hQ H hn dst ty pos after guard ir t a x hev
  case nilCheck x => exact opA_nilCheck hQ H hn dst ty pos after guard ir x hev
  case binOp op t x y yt => exact opA_binOp hQ H hn dst ty pos after guard ir op t x y yt hev
  case unOp op t x => exact opA_unOp hQ H hn dst ty pos after guard ir op t x hev
  case convert s d x => exact opA_convert hQ H hn dst ty pos after guard ir s d x hev
  case makeInterface t x => exact opA_makeInterface hQ H hn dst ty pos after guard ir t x hev
  case makeFunc fn first cap => exact opA_makeFunc hQ H hn dst ty pos after guard ir fn first cap hev
  case makeMap t r => exact opA_makeMap hQ H hn dst ty pos after guard ir t r hev
  case makeSlice t l c => exact opA_makeSlice hQ H hn dst ty pos after guard ir t l c hev
  case slice t x lo hi mx => exact opA_slice hQ H hn dst ty pos after guard ir t x lo hi mx hev
  case fieldAddr s x f => exact opA_fieldAddr hQ H hn dst ty pos after guard ir s x f hev
  case field t x f => exact opA_field hQ H hn dst ty pos after guard ir t x f hev
  case indexAddr t x i => exact opA_indexAddr hQ H hn dst ty pos after guard ir t x i hev
  case index t x i => exact opA_index hQ H hn dst ty pos after guard ir t x i hev
  case lookup t x i ok => exact opA_lookup hQ H hn dst ty pos after guard ir t x i ok hev
  case mapUpdate t m k x => exact opA_mapUpdate hQ H hn dst ty pos after guard ir t m k x hev
  case typeAssert x xt a ok => exact opA_typeAssert hQ H hn dst ty pos after guard ir x xt a ok hev
  case extract x i => exact opA_extract hQ H hn dst ty pos after guard ir x i hev
  case call c => exact opA_call hQ H hn dst ty pos after guard ir c hev
  case defer c => exact opA_defer hQ H hn dst ty pos after guard ir c hev
  case panic x => exact opA_panic hQ H hn dst ty pos after guard ir x hev
  case range t x => exact (rfl : h = h)
  case next x s => exact opA_next H hn dst ty pos after guard ir x s hev
  case entry x => exact opA_entry H hn dst ty pos after guard ir x hev

end
end
end Go.Sx
