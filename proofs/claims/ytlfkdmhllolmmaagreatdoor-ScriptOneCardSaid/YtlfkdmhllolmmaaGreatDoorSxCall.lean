/- Calls: what is called. -/
import Derived.Test.YtlfkdmhllolmmaaGreatDoorSxIter
namespace Go.Sx
open Go

section
variable {P : Program} {Q : Nat → Value} {N0 : Keep} {w0 : World} {η : Env} {h : AH} {w : World}

theorem storeA_rel (hQ : QOk Q) (H : HR P Q N0 w0 η h w) {t : TypeId} {a v : AV} {h' : AH} {x y : Value} (hs : storeA P h t a v = some h') (ha : concV Q η a = some x) (hv : concV Q η v = some y) :
    ∃ w', (Instr.storeAt t x y).run P w = .ok () w' ∧ HR P Q N0 w0 η h' w' ∧ h'.next = h.next := by
  unfold storeA at hs
  cases hsz : szOf P t with
  | none => rw [hsz] at hs; cases hs
  | some n =>
    rw [hsz] at hs
    simp only at hs
    cases hp : asPtr a with
    | none => rw [hp] at hs; cases hs
    | some p =>
      rw [hp] at hs
      obtain rfl := asPtr_some hp
      simp only at hs
      have ⟨h1, h2⟩ := sel_some.1 hs
      have h1 := beq_iff.1 h1
      rw [llen_eq] at h1
      obtain ⟨b, base, cap, he, rfl⟩ := conc_ptr ha
      have hc := conc_cells hv hQ
      obtain ⟨w', h3, h4, h5⟩ := H.write hQ he h2 hc
      have hl := concVs_length hc
      refine ⟨w', ?_, h4, h5⟩
      have hsz' : y.cells.size = n := by rw [← h1, ← hl]; simp
      simp [Instr.storeAt, Instr.sureAddr, storeVar, run_sz hsz, hsz', h3]

/-! ## operands -/
/-- the operands' values are known -/
def EvOn (Q : Nat → Value) (η : Env) (T : Tr AV) (ρ : Operand → Value) (xs : List Operand) : Prop := ∀ x ∈ xs, ∀ v, evalA T x = some v → concV Q η v = some (ρ x)

variable {T : Tr AV} {ρ : Operand → Value}

theorem evalsA_cons (x : Operand) (l : List Operand) : evalsA T (x :: l) = (match evalA T x with | none => none | some v => match evalsA T l with | none => none | some r => some (v :: r)) := by
  show @Option.rec AV (fun _ => Option (List AV)) none (fun v => @Option.rec (List AV) (fun _ => Option (List AV)) none (fun l => some (v :: l)) (evalsA T l)) (evalA T x) = _
  cases evalA T x <;> first | rfl | (cases evalsA T l <;> rfl)

theorem evalsA_rel : ∀ {l : List Operand} {vs : List AV}, evalsA T l = some vs → EvOn Q η T ρ l → concVs Q η vs = some (l.map ρ)
  | [], vs, h1, _ => by cases h1; rfl
  | x :: l, vs, h1, h2 => by
    rw [evalsA_cons] at h1
    cases e1 : evalA T x with
    | none => rw [e1] at h1; cases h1
    | some v =>
      rw [e1] at h1
      simp only at h1
      cases e2 : evalsA T l with
      | none => rw [e2] at h1; cases h1
      | some r =>
        rw [e2] at h1; cases h1
        exact concVs_mk (h2 x (by simp) v e1) (evalsA_rel e2 fun y hy => h2 y (by simp [hy]))

theorem evalPs_rel : ∀ {l : List (Nat × Operand)} {vs : List (Nat × AV)}, evalPs T l = some vs → EvOn Q η T ρ (l.map (·.2)) → concPs Q η vs = some (l.map fun p => (p.1, ρ p.2))
  | [], vs, h1, _ => by cases h1; rfl
  | p :: l, vs, h1, h2 => by
    unfold evalPs at h1
    cases e1 : evalA T p.2 with
    | none => rw [e1] at h1; cases h1
    | some v =>
      rw [e1] at h1
      simp only at h1
      cases e2 : evalPs T l with
      | none => rw [e2] at h1; cases h1
      | some r =>
        rw [e2] at h1; cases h1
        have a1 := h2 p.2 (by simp) v e1
        have a2 := evalPs_rel (vs := r) e2 fun y hy => h2 y (by simp at hy ⊢; exact .inr hy)
        simp only [concPs, a1, a2, List.map_cons]

theorem evalO_rel {o : Option Operand} {v : Option AV} (h1 : evalO T o = some v) (h2 : EvOn Q η T ρ o.toList) : concO Q η v = some (o.map ρ) := by
  cases o with
  | none => cases h1; rfl
  | some x =>
    unfold evalO at h1
    simp only at h1
    cases e1 : evalA T x with
    | none => rw [e1] at h1; cases h1
    | some u =>
      rw [e1] at h1; cases h1
      simp [concO, h2 x (by simp) u e1]

/-! ## what becomes of an operation -/
/-- what the model answers to an operation -/
def ORel (P : Program) (Q : Nat → Value) (N0 : Keep) (w0 : World) (η : Env) (h : AH) (w : World) : AR → Result Next → Prop
  | .fail, _ => True
  | .val v h', r => ∃ η' x w', r = .ok (.value x) w' ∧ Step1 η h.next η' h'.next ∧ HR P Q N0 w0 η' h' w' ∧ concV Q η' v = some x
  | .skip h', r => ∃ w', r = .ok .skip w' ∧ HR P Q N0 w0 η h' w' ∧ h'.next = h.next
  | .enter f args h', r => h' = h ∧ (∃ c, bodyA P f = some c) ∧ ∃ xs, r = .ok (.enter f xs.toArray) w ∧ concVs Q η args = some xs
  | .round l fn n tmps as body h', r => h' = h ∧ ∃ b base cap arr, η l = some (.blk b base cap) ∧ r = .ok (.round b fn arr as body) w ∧ arr.size = n ∧ TmRel Q η tmps arr
  | .defer d h', r => h' = h ∧ ∃ y, r = .ok (.defer y) w ∧ concDf Q η d = some y
  | .recover h', r => h' = h ∧ r = .ok .recover w
  | .park h', _ => h' = h
  | .panic v h', r => h' = h ∧ ∃ x, r = .halt (.panic x) w ∧ concV Q η v = some x

theorem ORel.of_v {v : AV} {h' : AH} {r : Result Value} (h1 : VRel P Q N0 w0 η h v h' r) : ORel P Q N0 w0 η h w (.val v h') (r.andThen fun x w' => .ok (.value x) w') := by
  obtain ⟨η', x, w', rfl, h2, h3, h4⟩ := h1
  exact ⟨η', x, w', rfl, h2, h3, h4⟩

theorem ORel.of_vh {o : Option (AV × AH)} {s : Sem Value} (h1 : ∀ v h', o = some (v, h') → VRel P Q N0 w0 η h v h' (s.run P w)) : ORel P Q N0 w0 η h w (vhOf o) ((do pure (.value (← s)) : Sem Next).run P w) := by
  unfold vhOf
  cases o with
  | none => trivial
  | some p =>
    have := ORel.of_v (w := w) (h1 p.1 p.2 rfl)
    simpa using this

theorem ORel.of_vo (H : HR P Q N0 w0 η h w) {o : Option AV} {s : Sem Value} (h1 : ∀ v, o = some v → ∃ z, s.run P w = .ok z w ∧ concV Q η v = some z) : ORel P Q N0 w0 η h w (vOf o h) ((do pure (.value (← s)) : Sem Next).run P w) := by
  unfold vOf
  cases o with
  | none => trivial
  | some v =>
    obtain ⟨z, h2, h3⟩ := h1 v rfl
    exact ⟨η, z, w, by simp [h2], .inl ⟨rfl, rfl⟩, H, h3⟩

theorem ORel.of_so {o : Option AH} {s : Sem Unit} (h1 : ∀ h', o = some h' → ∃ w', s.run P w = .ok () w' ∧ HR P Q N0 w0 η h' w' ∧ h'.next = h.next) : ORel P Q N0 w0 η h w (sOf o) ((do s; pure .skip : Sem Next).run P w) := by
  unfold sOf
  cases o with
  | none => trivial
  | some h' =>
    obtain ⟨w', h2, h3, h4⟩ := h1 h' rfl
    exact ⟨w', by simp [h2], h3, h4⟩

theorem bodyA_some {f : FuncId} {n : Nat} {c : Code} (h1 : bodyA P f = some (n, c)) : ∃ fn, P.funcs[f]? = some fn ∧ fn.name ≠ "runtime.NumGoroutine" ∧ fn.body = some c ∧ fn.ntmps = n := by
  unfold bodyA at h1
  cases e : funcA P f with
  | none => rw [e] at h1; cases h1
  | some fn =>
    rw [e] at h1
    simp only at h1
    split at h1
    · cases h1
    · rename_i hne
      cases hb : fn.body with
      | none => rw [hb] at h1; cases h1
      | some c' => rw [hb] at h1; cases h1; exact ⟨fn, funcA_some e, hne, hb, rfl⟩

theorem callF_rel {f : FuncId} {args : List AV} {xs : List Value} (ha : concVs Q η args = some xs) : ORel P Q N0 w0 η h w (callF P h f args) ((callFunc f xs.toArray).run P w) := by
  unfold callF
  cases e : bodyA P f with
  | none => trivial
  | some c =>
    obtain ⟨fn, h1, h2, h3, _⟩ := bodyA_some (n := c.1) (c := c.2) e
    exact ⟨rfl, ⟨c, e⟩, xs, by simp [callFunc, h1, h2, h3], ha⟩

theorem methA_some {t : TypeId} {name : String} {m : FuncId × Option TypeId} (h1 : methA P t name = some m) :
    ∃ i mt b, P.info? t = some i ∧ i.methods.find? (·.name == name) = some mt ∧ mt.path.isEmpty = true ∧ mt.func = some (m.1, b) ∧
      ∃ d, undA P t = some d ∧ ((∃ e, d = .pointer e ∧ ((b = true ∧ m.2 = none) ∨ (b = false ∧ m.2 = some e))) ∨ ((∀ e, d ≠ .pointer e) ∧ b = false ∧ m.2 = none)) := by
  unfold methA at h1
  cases e1 : infoA P t with
  | none => rw [e1] at h1; cases h1
  | some i =>
    rw [e1] at h1
    simp only at h1
    cases e2 : i.methods.find? (·.name == name) with
    | none => rw [e2] at h1; cases h1
    | some mt =>
      rw [e2] at h1
      simp only at h1
      cases e3 : mt.path.isEmpty with
      | false => rw [e3] at h1; cases h1
      | true =>
        rw [e3] at h1
        simp only at h1
        cases e4 : mt.func with
        | none => rw [e4] at h1; cases h1
        | some fb =>
          obtain ⟨f, b⟩ := fb
          rw [e4] at h1
          simp only at h1
          cases e5 : undA P t with
          | none => rw [e5] at h1; cases h1
          | some d =>
            rw [e5] at h1
            refine ⟨i, mt, b, infoA_some e1, e2, e3, ?_, d, rfl, ?_⟩
            · cases d <;> simp only at h1 <;> split at h1 <;> cases h1 <;> exact e4
            · cases d <;> simp only at h1 <;> cases b <;> simp only at h1 <;> cases h1 <;> simp

theorem run_wrapNil (ts : Array TypeId) (ty : TypeId) (ad : Addr) (s m : ByteArray) : (Builtin.ssaWrapNilChk_ ts ty #[.pointer (some ad), .string s, .string m]).run P w = .ok (.pointer (some ad)) w := rfl

theorem callM_rel (H : HR P Q N0 w0 η h w) {t : TypeId} {v : AV} {name : String} {args : List AV} {x : Value} {xs : List Value} (hv : concV Q η v = some x) (ha : concVs Q η args = some xs) :
    ORel P Q N0 w0 η h w (callM P h t v name args) ((callMethod (.iface t x) name xs.toArray).run P w) := by
  unfold callM
  cases e : methA P t name with
  | none => trivial
  | some m =>
    obtain ⟨i, mt, b, h1, h2, h3, h4, d, h5, h6⟩ := methA_some e
    have hinf := run_info h1 w
    have hu := run_und h5 w
    have hpath : mt.path.toList = [] := by
      have := h3
      simp [Array.isEmpty] at this
      simp [this]
    have hmeth : ∀ y, (receiverAt t (.val x) b (some ((name.splitOn ".").getLastD name))).run P w = .ok y w → ∀ n, (method (n + 1) t x name).run P w = .ok (m.1, y) w := fun y hy n => by
      have hpe : mt.path = #[] := by simpa [Array.isEmpty] using h3
      have hy' := hy
      rw [show (name.splitOn ".").getLastD name = (name.splitOn ".").getLast?.getD name from List.getLastD_eq_getLast?] at hy'
      simp [method, hinf, h2, hpe, follow, h4, hy']
    have hfuel : P.types.size + Made.depth = (P.types.size + 99) + 1 := rfl
    have fin : ∀ (u : AV) (y : Value), concV Q η u = some y → (receiverAt t (.val x) b (some ((name.splitOn ".").getLastD name))).run P w = .ok y w →
        ORel P Q N0 w0 η h w (callF P h m.1 (u :: args)) ((callMethod (.iface t x) name xs.toArray).run P w) := fun u y hu' hr => by
      have hm := hmeth y hr (P.types.size + 99)
      have := callF_rel (P := P) (N0 := N0) (w0 := w0) (h := h) (w := w) (f := m.1) (concVs_mk hu' ha)
      rw [show (callMethod (.iface t x) name xs.toArray).run P w = (callFunc m.1 (y :: xs).toArray).run P w by
        simp only [callMethod, Sem.run_bind, run_program, Result.andThen_ok, hfuel, hm]
        congr 2
        simp]
      exact this
    simp only
    cases hm2 : m.2 with
    | none =>
      simp only
      apply fin v x hv
      rw [hm2] at h6
      rcases h6 with ⟨el, rfl, ⟨rfl, _⟩ | ⟨_, h7⟩⟩ | ⟨hno, rfl, _⟩
      · simp [receiverAt, hu, Place.get]
      · cases h7
      · cases d <;> first | (exact absurd rfl (hno _)) | simp [receiverAt, hu, Place.get]
    | some el =>
      simp only
      cases hl : loadA P h el v with
      | none => trivial
      | some u =>
        simp only
        obtain ⟨ad, y, rfl, h7, h8⟩ := loadA_rel H hl hv
        apply fin u y h8
        rw [hm2] at h6
        rcases h6 with ⟨el', rfl, ⟨_, h9⟩ | ⟨rfl, h9⟩⟩ | ⟨_, _, h9⟩
        · cases h9
        · cases h9
          simp [receiverAt, hu, Place.get, run_wrapNil, strVal, asAddr, h7]
        · cases h9

theorem setParams_rel {n : Nat} : ∀ {ts : List Tmp} {args : List AV} {xs : List Value} {Tp T' : Tr AV} {arr : Array Value}, setParams n Tp ts args = some T' → concVs Q η args = some xs → TmRel Q η Tp arr → arr.size = n →
    ts.length = xs.length ∧ TmRel Q η T' ((ts.zip xs).foldl (fun a (p : Tmp × Value) => a.setIfInBounds p.1 p.2) arr) ∧ ((ts.zip xs).foldl (fun a (p : Tmp × Value) => a.setIfInBounds p.1 p.2) arr).size = n
  | [], [], xs, Tp, T', arr, h1, h2, h3, h4 => by cases h1; cases h2; exact ⟨rfl, h3, h4⟩
  | [], _ :: _, _, _, _, _, h1, _, _, _ => by cases h1
  | _ :: _, [], _, _, _, _, h1, _, _, _ => by cases h1
  | t :: ts, v :: vs, xs, Tp, T', arr, h1, h2, h3, h4 => by
    obtain ⟨x, m, rfl, h5, h6⟩ := concVs_cons h2
    unfold setParams at h1
    have ⟨g1, g2⟩ := sel_some.1 h1
    have hlt := blt_iff.1 g1
    obtain ⟨h7, h8, h9⟩ := setParams_rel (arr := arr.setIfInBounds t x) g2 h6 (h3.put (by omega) h5) (by simp [h4])
    exact ⟨by simp [h7], h8, h9⟩

/-- what a loop of the abstract heap is in the model -/
theorem HR.loop (H : HR P Q N0 w0 η h w) {l b base cap : Nat} {st : LoopState} {pend : Option Code} {fn : FuncId} {n : Nat} {tmps : Tr AV} {params : List Tmp} {as body : Code} {d : Nat}
    (ho : h.obj l = some (.loop st pend fn n tmps params as body d)) (he : η l = some (.blk b base cap)) :
    ∃ L, w.heap[b]? = some (.loop L) ∧ L.state = st ∧ L.pending = pend ∧ L.fn = fn ∧ L.tmps.size = n ∧ TmRel Q η tmps L.tmps ∧
      L.params = params.toArray ∧ L.assign = as ∧ L.body = body ∧ ∃ base cap, η d = some (.blk L.defers base cap) := by
  obtain ⟨b1, base1, c1, z, e4, h1, h2, _⟩ := H.obj _ _ ho _ he
  cases e4
  cases z with
  | loop L => exact ⟨L, h1, h2⟩
  | _ => exact h2.elim

theorem run_getLoop {b : Nat} {L : Loop} (hb : w.heap[b]? = some (.loop L)) : (Instr.getLoop b).run P w = .ok L w := by
  simp [Instr.getLoop, getObj, Sem.run, hb]

theorem yield_rel (H : HR P Q N0 w0 η h w) {l : Nat} {g : Fn} {args : List AV} {xs : List Value} (hg : concFn η (.yield l) = some g) (ha : concVs Q η args = some xs) (c : Array Value) :
    ORel P Q N0 w0 η h w (invokeA P h (.yield l) [] args) ((invoke (.fn g c) xs.toArray).run P w) := by
  simp only [concFn] at hg
  split at hg
  · rename_i b base cap he
    cases hg
    unfold invokeA
    simp only
    split
    · rename_i st pend fn n tmps params as body d ho
      cases hs : setParams n tmps params args with
      | none => trivial
      | some T' =>
        obtain ⟨L, hb, e1, e2, e3, e4, e5, e6, e7, e8, _⟩ := H.loop ho he
        obtain ⟨h1, h2, h3⟩ := setParams_rel hs ha e5 e4
        refine ⟨rfl, b, base, cap, _, he, ?_, h3, h2⟩
        have hl : xs.toArray.size = L.params.size := by rw [e6]; simp [h1]
        simp only [invoke, Instr.yield, Sem.run_bind, run_getLoop hb, Result.andThen_ok, hl, ne_eq, not_true_eq_false, if_false, Sem.run_pure]
        congr 1
        rw [e3, e6, e7, e8]
        congr 1
        simp [← Array.foldl_toList]
    · trivial
  · cases hg

end
end Go.Sx
