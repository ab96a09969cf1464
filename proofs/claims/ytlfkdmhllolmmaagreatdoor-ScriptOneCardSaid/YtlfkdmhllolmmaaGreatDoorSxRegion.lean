/- A region that does not draw its order. -/
import Derived.Test.YtlfkdmhllolmmaaGreatDoorSxApply
namespace Go.Sx
open Go

theorem goOn_eq (n : Nat) (T : Tr AV) (d : Option Tmp) (v : AV) (K : Tr AV → AH → Out) (h : AH) : goOn n T d v K h = (match setT n T d v with | some T' => K T' h | none => .fail) := by
  cases d with
  | none => rfl
  | some d =>
    show @Bool.rec (fun _ => Out) .fail (K (T.put fuel d (some v)) h) (Nat.blt d n) = _
    rw [show setT n T (some d) v = sel (Nat.blt d n) (some (T.put fuel d (some v))) none from rfl]
    cases Nat.blt d n <;> rfl

theorem runOps_nil (P : Program) (Sm : Sums) (x : AX) (ops : Array Oper) (k : List AIt) (ds : List ADf) (cs : List AFr) (T : Tr AV) (h : AH) : runOps P Sm x ops k ds cs [] T h = .next ⟨⟨x, T, k, ds, .run⟩, cs, h⟩ := rfl
theorem runOps_cons (P : Program) (Sm : Sums) (x : AX) (ops : Array Oper) (k : List AIt) (ds : List ADf) (cs : List AFr) (o : Oper) (rest : List Oper) (T : Tr AV) (h : AH) :
    runOps P Sm x ops k ds cs (o :: rest) T h = (match o.guard with
      | none => doOp P Sm (opA P T h x.round.isSome o) x ops k ds cs o rest T (runOps P Sm x ops k ds cs rest)
      | some g => doGuard P Sm (guardA ops T g.1 g.2) x ops k ds cs o rest T h (runOps P Sm x ops k ds cs rest)) := by
  show @Option.rec _ (fun _ => Program → Sums → AX → Array Oper → List AIt → List ADf → List AFr → Oper → List Oper → Tr AV → AH → (Tr AV → AH → Out) → Out) _ _ o.guard P Sm x ops k ds cs o rest T h (runOps P Sm x ops k ds cs rest) = _
  cases o.guard <;> rfl

section
variable {Q : Nat → Value} {η : Env}

theorem guardA_rel {ops : Array Oper} {T : Tr AV} {arr : Array Value} {j : Nat} {want b : Bool} (h : guardA ops T j want = some b)
    (ht : ∀ d v, dstOf ops j = some d → T.get d = some v → ∃ x, arr[d]? = some x ∧ concV Q η v = some x) : (yielded ops arr j == some want) = b := by
  unfold guardA at h
  cases hd : dstOf ops j with
  | none => rw [hd] at h; cases h
  | some d =>
    rw [hd] at h
    simp only at h
    cases hv : T.get d with
    | none => rw [hv] at h; cases h
    | some v =>
      rw [hv] at h
      simp only at h
      obtain ⟨x, h1, h2⟩ := ht d v hd hv
      have hy : yielded ops arr j = (match some x with | some (Value.bool b) => some b | _ => none) := by
        unfold yielded
        rw [← dstOf_eq, hd]
        simp only [Option.bind_some, h1]
        cases x <;> rfl
      rw [hy]
      cases hb : asBool v with
      | some b' =>
        rw [hb] at h
        obtain rfl := asBool_some hb
        cases h2
        cases h
        cases b' <;> cases want <;> rfl
      | none =>
        rw [hb] at h
        simp only at h
        cases ht' : asTup v with
        | none => rw [ht'] at h; cases h
        | some l =>
          rw [ht'] at h
          obtain rfl := asTup_some ht'
          obtain ⟨xs, _, rfl⟩ := conc_tup h2
          cases h; rfl
end

section
variable {P : Program} {Sm : Sums} {Q : Nat → Value} {N0 : Keep} {w0 : World} {η : Env} {lo : Nat} {cs0 : List Frame}

theorem apply_value {c : Frame} {callers : List Frame} {s : Sem Next} {w w' : World} {v : Value} (h : s.run P w = .ok (.value v) w')
    (hst : stepG P true { frame := c, callers := callers, status := .running, dying := none } w = stepG.apply P true c callers none s w) : step P (lone c callers w) = .next (lone (c.finish v) callers w') :=
  step_lone_go (by rw [hst]; simp [stepG.apply, Sem.runT_eq, h])

theorem apply_skip {c : Frame} {callers : List Frame} {s : Sem Next} {w w' : World} (h : s.run P w = .ok .skip w')
    (hst : stepG P true { frame := c, callers := callers, status := .running, dying := none } w = stepG.apply P true c callers none s w) : step P (lone c callers w) = .next (lone (c.finish undef) callers w') :=
  step_lone_go (by rw [hst]; simp [stepG.apply, Sem.runT_eq, h])

theorem semAt_exec {T : Tr AV} {h : AH} {x : AX} {o : Oper} {b : Frame} (hx : XRel η x b) (ρ : Operand → Value) (hne : opA P T h x.round.isSome o ≠ .fail) : o.semAt b.roundOf ρ = execOp ρ o := by
  by_cases hd : ∃ c, o.op = .defer c
  · obtain ⟨c, hc⟩ := hd
    rcases hx.round with ⟨_, h2⟩ | ⟨l, b', base, cap, h1, _, _⟩
    · rw [h2]; rfl
    · exfalso; apply hne
      obtain ⟨dst, op, ty, pos, after, guard⟩ := o
      simp only at hc
      subst hc
      rw [h1]
      rfl
  · exact Oper.semAt_eq _ _ _ fun c hc => hd ⟨c, hc⟩

theorem finish_atR' (b : Frame) (arr : Array Value) (dfs : List Deferred) (ops : Array Oper) (i : Nat) (l : List Nat) (items : List Item) (y : Value) {o : Oper} (ho : ops[i]? = some o) :
    (b.atR ⟨arr, dfs⟩ (.inRegion ops (i :: l) :: items)).finish y = b.atR ⟨setArr arr o.dst y, dfs⟩ (.inRegion ops l :: items) := by
  rw [Frame.finish_atR, ho]
  cases hd : o.dst <;> simp [Act.put, setArr, hd]

theorem XRel.atR {x : AX} {b : Frame} (hx : XRel η x b) (a : Act) (items : List Item) : XRel η x (b.atR a items) := ⟨hx.fn, hx.kind, hx.round⟩

theorem runOps_goes (hQ : QOk Q ∧ SumOk P Q Sm) {x : AX} {b : Frame} {ops : Array Oper} {k : List AIt} {items : List Item} {ds : List ADf} {dfs : List Deferred} {cs : List AFr} {cs1 : List Frame} :
    ∀ (rest : List Oper) (i : Nat) {η : Env} {T : Tr AV} {arr : Array Value} {h : AH} {w : World}, rest = ops.toList.drop i → Base P Q N0 w0 η lo cs h cs1 w → TmRel Q η T arr → arr.size = x.n → XRel η x b →
      concDfs Q η ds = some dfs → TdR η k items →
      Goes P Q N0 w0 cs0 (lone (b.atR ⟨arr, dfs⟩ (.inRegion ops ((List.range ops.size).drop i) :: items)) (cs1 ++ cs0) w) (runOps P Sm x ops k ds cs rest T h)
  | [], i, η, T, arr, h, w, hr, B, ht, hs, hx, hd, hk => by
    rw [runOps_nil, drop_nil hr]
    refine Goes.head stepR_region_end (Goes.here ⟨η, lo, cs1, rfl, B, ⟨hx.atR _ _, hs, hd, ⟨rfl, .inl ⟨hk, ht⟩⟩⟩, fun p hp => ?_⟩)
    exfalso
    -- no region that draws heads what is left
    revert hp
    cases k with
    | nil => simp [pendOf]
    | cons it k =>
      cases items with
      | nil => exact hk.elim
      | cons it' items =>
        cases it <;> simp [pendOf]
        cases it' <;> exact hk.1.elim
  | o :: rest, i, η, T, arr, h, w, hr, B, ht, hs, hx, hd, hk => by
    rw [runOps_cons]
    obtain ⟨ho, hrest, hdrop⟩ := drop_cons hr
    rw [hdrop]
    let a : Act := ⟨arr, dfs⟩
    have hF : FrR Q η ⟨x, T, .reg ops (o :: rest) :: k, ds, .run⟩ (b.atR a (.inRegion ops (i :: (List.range ops.size).drop (i + 1)) :: items)) :=
      ⟨hx.atR _ _, hs, hd, ⟨rfl, .inl ⟨⟨⟨rfl, i, hr, hdrop.symm⟩, hk⟩, ht⟩⟩⟩
    have hev := EvOn.of_tm (ds := dfs) B.glob ht o.op.operands.toList
    have hO := opA_rel (P := P) (h := h) (o := o) (ir := x.round.isSome) hQ.1 B.hr (B.fresh _ (Nat.le_refl _)) hev
    have key : Region.wanted o (yielded ops a.tmps) = true →
        Goes P Q N0 w0 cs0 (lone (b.atR a (.inRegion ops (i :: (List.range ops.size).drop (i + 1)) :: items)) (cs1 ++ cs0) w) (doOp P Sm (opA P T h x.round.isSome o) x ops k ds cs o rest T (runOps P Sm x ops k ds cs rest)) := fun hw => by
      by_cases hne : opA P T h x.round.isSome o = .fail
      · rw [hne]; trivial
      have hst := stepGR_op (P := P) (b := b) (a := a) (k := items) (cs := cs1 ++ cs0) (w := w) (rest := (List.range ops.size).drop (i + 1)) ho hw
      rw [semAt_exec hx a.eval hne] at hst
      have happ := fun r (hr' : ORel P Q N0 w0 η h w r ((execOp a.eval o).run P w)) => applyA_goes (lo := lo) (cs := cs) hQ.2 hF rfl (fun p hp => by simp [pendOf] at hp) B hst hr'
      revert hO
      cases hrr : opA P T h x.round.isSome o with
      | fail => intro _; trivial
      | val v h' =>
        intro hO
        obtain ⟨η', y, w', h1, h2, h3, h4⟩ := hO
        show Goes P Q N0 w0 cs0 _ (goOn x.n T o.dst v (runOps P Sm x ops k ds cs rest) h')
        rw [goOn_eq]
        cases hT : setT x.n T o.dst v with
        | none => trivial
        | some T' =>
          obtain ⟨hg, hfr, hle⟩ := h2.grow B.fresh
          have hstep : step P (lone (b.atR a (.inRegion ops (i :: (List.range ops.size).drop (i + 1)) :: items)) (cs1 ++ cs0) w) =
              .next (lone (b.atR ⟨setArr arr o.dst y, dfs⟩ (.inRegion ops ((List.range ops.size).drop (i + 1)) :: items)) (cs1 ++ cs0) w') := by
            rw [← finish_atR' b arr dfs ops i _ items y ho]
            exact apply_value h1 hst
          exact Goes.head hstep (runOps_goes hQ rest (i + 1) hrest (B.grow h3 (hg.down B.le) hfr hle) (setT_rel hT hs (ht.mono hg.ext) h4) (by rw [setArr_size]; exact hs) (hx.mono hg.ext) (concDfs_mono hg.ext hd) (hk.mono hg.ext))
      | skip h' =>
        intro hO
        obtain ⟨w', h1, h3, h4⟩ := hO
        show Goes P Q N0 w0 cs0 _ (goOn x.n T o.dst undefA (runOps P Sm x ops k ds cs rest) h')
        rw [goOn_eq]
        cases hT : setT x.n T o.dst undefA with
        | none => trivial
        | some T' =>
          have hstep : step P (lone (b.atR a (.inRegion ops (i :: (List.range ops.size).drop (i + 1)) :: items)) (cs1 ++ cs0) w) =
              .next (lone (b.atR ⟨setArr arr o.dst undef, dfs⟩ (.inRegion ops ((List.range ops.size).drop (i + 1)) :: items)) (cs1 ++ cs0) w') := by
            rw [← finish_atR' b arr dfs ops i _ items undef ho]
            exact apply_skip h1 hst
          exact Goes.head hstep (runOps_goes hQ rest (i + 1) hrest (B.same h3 h4) (setT_rel hT hs ht undef_conc) (by rw [setArr_size]; exact hs) hx hd hk)
      | enter f args h' => exact fun hO => happ _ hO
      | round l fn n tmps as body h' => exact fun hO => happ _ hO
      | defer d h' => exact fun hO => happ _ hO
      | recover h' => exact fun hO => happ _ hO
      | panic v h' => exact fun hO => happ _ hO
      | park h' =>
        intro hO
        have e : h' = h := hO
        subst e
        exact Goes.here ⟨η, lo, cs1, rfl, B, hF, fun p hp => by simp [pendOf] at hp⟩
    cases hg : o.guard with
    | none => exact key (by simp [Region.wanted, hg])
    | some q =>
      simp only
      cases hga : guardA ops T q.1 q.2 with
      | none => trivial
      | some t =>
        have hy := guardA_rel (arr := arr) hga (fun d v _ hv => ht d v hv)
        cases t with
        | true => exact key (by simp only [Region.wanted, hg]; exact hy)
        | false =>
          show Goes P Q N0 w0 cs0 _ (goOn x.n T o.dst undefA (runOps P Sm x ops k ds cs rest) h)
          rw [goOn_eq]
          cases hT : setT x.n T o.dst undefA with
          | none => trivial
          | some T' =>
            have hsk := stepR_op_skip (P := P) (b := b) (a := a) (k := items) (cs := cs1 ++ cs0) (w := w) (ops := ops) (i := i) (rest := (List.range ops.size).drop (i + 1)) (by
              simp only [ho, Option.map_some, Option.getD_some, Region.wanted, hg]; exact hy)
            rw [← Frame.finish_atR, finish_atR' b arr dfs ops i _ items undef ho] at hsk
            exact Goes.head hsk (runOps_goes hQ rest (i + 1) hrest B (setT_rel hT hs ht undef_conc) (by rw [setArr_size]; exact hs) hx hd hk)

end
end Go.Sx
