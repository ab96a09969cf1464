/- The steps: all. -/
import Derived.Test.YtlfkdmhllolmmaaGreatDoorSxSim3
namespace Go.Sx
open Go
section
variable {P : Program} {Sm : Sums} {Q : Nat → Value} {N0 : Keep} {w0 : World} {η : Env} {lo : Nat} {cs0 : List Frame}

theorem stepBegin_goes {x : AX} {b : Frame} {T : Tr AV} {arr : Array Value} {h : AH} {w : World} {cs : List AFr} {cs1 : List Frame} {ds : List ADf} {dfs : List Deferred} {k : List AIt} {items : List Item}
    (B : Base P Q N0 w0 η lo cs h cs1 w) (ht : TmRel Q η T arr) (hs : arr.size = x.n) (hx : XRel η x b) (hd : concDfs Q η ds = some dfs) (hk : TdR η k items) :
    Goes P Q N0 w0 cs0 (lone (b.atR ⟨arr, dfs⟩ (.beginRound :: items)) (cs1 ++ cs0) w) (stepBegin x T k ds cs h) := by
  unfold stepBegin
  cases hr : x.round with
  | none => trivial
  | some l =>
    simp only
    rcases hx.round with ⟨h1, _⟩ | ⟨l', bl, base, cap, h1, h2, h3⟩
    · rw [hr] at h1; cases h1
    · rw [hr] at h1; cases h1
      split
      · rename_i p fn n tmps ps as body d ho
        obtain ⟨L, hb, e1, e2, _⟩ := B.hr.loop ho h3
        have hH := B.hr.putLoop (st' := .busy) (pend' := p) ho h3 hb
        have hrun : (Instr.beginRound bl).run P w = .ok () { w with heap := w.heap.setIfInBounds bl (.loop { L with state := .busy, pending := p }) } := by
          have : { L with state := .busy } = { L with state := .busy, pending := p } := by rw [← e2]
          rw [← this]
          simp [Instr.beginRound, run_getLoop hb, setObj, Sem.run, hb, e1]
        exact Goes.head (stepR_beginRound h2 hrun) (on_goes (B.same hH rfl) ht hs hx hd hk)
      · trivial

theorem stepG_endRF {b : Frame} {a : Act} {k : List Item} {cs : List Frame} {w w1 : World} {l : Nat} {j : Option Code} (hr : (Instr.endLoop l).run P w = .ok j w1) :
    step P (lone (b.atR a (.endRangeFunc l :: k)) cs w) = .next (lone (b.atR a ((j.map Item.code).toList ++ k)) cs w1) :=
  step_lone_go (by simp [stepG, stepG.exec, Frame.atR, Sem.runT_eq, hr])

theorem stepEnd_goes {x : AX} {b : Frame} {T : Tr AV} {arr : Array Value} {h : AH} {w : World} {cs : List AFr} {cs1 : List Frame} {ds : List ADf} {dfs : List Deferred} {k : List AIt} {items : List Item} {l bl base cap : Nat} (he : η l = some (.blk bl base cap))
    (B : Base P Q N0 w0 η lo cs h cs1 w) (ht : TmRel Q η T arr) (hs : arr.size = x.n) (hx : XRel η x b) (hd : concDfs Q η ds = some dfs) (hk : TdR η k items) :
    Goes P Q N0 w0 cs0 (lone (b.atR ⟨arr, dfs⟩ (.endRangeFunc bl :: items)) (cs1 ++ cs0) w) (stepEnd x T l k ds cs h) := by
  unfold stepEnd
  split
  · rename_i st p fn n tmps ps as body d ho
    obtain ⟨L, hb, e1, e2, _⟩ := B.hr.loop ho he
    have hH := B.hr.putLoop (st' := .exhausted) (pend' := p) ho he hb
    cases hbz : isBusy st with
    | true => trivial
    | false =>
      rw [sel_false]
      have hnb : (L.state == .busy) = false := by rw [e1]; cases st <;> first | rfl | cases hbz
      have hrun : (Instr.endLoop bl).run P w = .ok p { w with heap := w.heap.setIfInBounds bl (.loop { L with state := .exhausted, pending := p }) } := by
        have : { L with state := .exhausted } = { L with state := .exhausted, pending := p } := by rw [← e2]
        rw [← this]
        have hnb' : ¬ L.state = .busy := fun e => by rw [e] at hnb; cases hnb
        simp [Instr.endLoop, run_getLoop hb, setObj, Sem.run, hb, hnb', e2]
      have hstep := stepG_endRF (b := b) (a := ⟨arr, dfs⟩) (k := items) (cs := cs1 ++ cs0) hrun
      cases p with
      | some j => exact Goes.head hstep (on_goes (B.same hH rfl) ht hs hx hd (k := .code j :: k) (items := .code j :: items) ⟨rfl, hk⟩)
      | none => exact Goes.head hstep (on_goes (B.same hH rfl) ht hs hx hd hk)
  · trivial

theorem stepDraw_goes (hQ : QOk Q ∧ SumOk P Q Sm) (hmix : P.follows .mixedOrders = true) {x : AX} {b : Frame} {T : Tr AV} {arr : Array Value} {h : AH} {w : World} {cs : List AFr} {cs1 : List Frame} {ds : List ADf} {dfs : List Deferred} {k : List AIt} {items : List Item}
    {id : Nat} {ops : Array Oper}
    (B : Base P Q N0 w0 η lo cs h cs1 w) (ht : TmRel Q η T arr) (hs : arr.size = x.n) (hx : XRel η x b) (hd : concDfs Q η ds = some dfs) (hk : TdR η k items) :
    Goes P Q N0 w0 cs0 (lone (b.atR ⟨arr, dfs⟩ (.code (.region id ops true) :: items)) (cs1 ++ cs0) w) (stepDraw P Sm x T ops k ds cs h) := by
  unfold stepDraw
  cases hok : dregOk ops with
  | false => trivial
  | true =>
    rw [sel_true]
    have hst := stepR_region_draw (P := P) (b := b) (a := ⟨arr, dfs⟩) (k := items) (cs := cs1 ++ cs0) (w := w) (ops := ops) (id := id)
    rw [hmix] at hst
    have B' : Base P Q N0 w0 η lo cs h cs1 { w with drawn := w.drawn + 1 } := B.same (B.hr.of_heap rfl) rfl
    exact Goes.head hst (stepDreg_goes hQ B' (DR.start hok _) (TmX.of_rel ht) hs hx (by simp) hd hk)

theorem stepCode_goes (hQ : QOk Q ∧ SumOk P Q Sm) (hmix : P.follows .mixedOrders = true) {x : AX} {b : Frame} {T : Tr AV} {arr : Array Value} {h : AH} {w : World} {cs : List AFr} {cs1 : List Frame} {ds : List ADf} {dfs : List Deferred}
    (B : Base P Q N0 w0 η lo cs h cs1 w) (ht : TmRel Q η T arr) (hs : arr.size = x.n) (hx : XRel η x b) (hd : concDfs Q η ds = some dfs) :
    ∀ (c : Code) {k : List AIt} {items : List Item}, TdR η k items → Goes P Q N0 w0 cs0 (lone (b.atR ⟨arr, dfs⟩ (.code c :: items)) (cs1 ++ cs0) w) (stepCode P Sm x T ds cs h c k) := by
  intro c
  induction c with
  | skip => intro k items hk; exact Goes.head stepR_skip (on_goes B ht hs hx hd hk)
  | region id ops draw =>
    intro k items hk
    cases draw with
    | true => exact stepDraw_goes hQ hmix B ht hs hx hd hk
    | false =>
      have := runOps_goes (cs0 := cs0) hQ (k := k) (items := items) (ops := ops) ops.toList 0 (by simp) B ht hs hx hd hk
      rw [List.drop_zero] at this
      exact Goes.head stepR_region this
  | seq a b' iha ihb => intro k items hk; exact Goes.head stepR_seq (iha (k := .code b' :: k) (items := .code b' :: items) ⟨rfl, hk⟩)
  | cond c thn els iha ihb =>
    intro k items hk
    show Goes P Q N0 w0 cs0 _ (@Option.rec Bool (fun _ => Out) .fail (fun t => @Bool.rec (fun _ => Out) (stepCode P Sm x T ds cs h els k) (stepCode P Sm x T ds cs h thn k) t) (truthA (evalA T c)))
    cases htr : truthA (evalA T c) with
    | none => trivial
    | some t =>
      have h1 := truth_rel (ds := dfs) B.glob ht htr
      cases t with
      | true => exact Goes.head (stepR_cond h1) (iha hk)
      | false => exact Goes.head (stepR_cond h1) (ihb hk)
  | block id body ih => intro k items hk; exact Goes.head stepR_block (ih (k := .inBlock id :: k) (items := .inBlock id :: items) ⟨rfl, hk⟩)
  | loop body ih => intro k items hk; exact Goes.head stepR_loop (ih (k := .inLoop body :: k) (items := .inLoop body :: items) ⟨rfl, hk⟩)
  | rangeFunc f ps as body _ _ => intro k items hk; exact stepRF_goes hQ B ht hs hx hd hk
  | exit id => intro k items hk; exact stepExit_goes B ht hs hx hd hk (exitTo_none hk)
  | scope body ih =>
    intro k items hk
    exact Goes.head (step_lone_go (by simp [stepG, stepG.exec, Frame.atR]) : step P (lone (b.atR ⟨arr, dfs⟩ (.code (.scope body) :: items)) (cs1 ++ cs0) w) = .next (lone (b.atR ⟨arr, dfs⟩ (.code body :: .inScope body :: items)) (cs1 ++ cs0) w))
      (ih (k := .inScope body :: k) (items := .inScope body :: items) ⟨rfl, hk⟩)
  | label l => intro k items hk; exact Goes.head stepR_label (on_goes B ht hs hx hd hk)
  | goto l => intro k items hk; exact stepGoto_goes B ht hs hx hd hk
  | ret =>
    intro k items hk
    refine leave_goes (j := some .ret) B ht hs hx hd (fun d b r s k e => by cases e) (fun hb _ => stepR_ret hb) (fun bl hb hkd v w' hr c' rest e => ?_)
    subst e
    exact stepR_round_ret hb hkd hr
  | refuse why => intro k items hk; trivial

theorem stepItem_goes (hQ : QOk Q ∧ SumOk P Q Sm) (hmix : P.follows .mixedOrders = true) {x : AX} {b : Frame} {T : Tr AV} {arr : Array Value} {h : AH} {w : World} {cs : List AFr} {cs1 : List Frame} {ds : List ADf} {dfs : List Deferred} {i : AIt} {k : List AIt} {items : List Item}
    (B : Base P Q N0 w0 η lo cs h cs1 w) (hh : HdR Q η T arr (i :: k) items) (hs : arr.size = x.n) (hx : XRel η x b) (hd : concDfs Q η ds = some dfs) (hids : ∀ p ∈ pendOf ⟨x, T, i :: k, ds, .run⟩, lo ≤ p.2 ∧ p.2 < h.next) :
    Goes P Q N0 w0 cs0 (lone (b.atR ⟨arr, dfs⟩ items) (cs1 ++ cs0) w) (stepItem P Sm x T i k ds cs h) := by
  rcases hh with ⟨h1, ht⟩ | ⟨ops, done, pend, cur, k', ord, items', e1, rfl, h2, D, hcur, ht⟩
  · cases items with
    | nil => exact h1.elim
    | cons it items =>
      obtain ⟨h2, hk⟩ := h1
      cases i <;> cases it <;> try (exact h2.elim)
      case code.code c c' =>
        have : c = c' := h2
        subst this
        exact stepCode_goes hQ hmix B ht hs hx hd c hk
      case inBlock.inBlock id id' => exact Goes.head stepR_inBlock (on_goes B ht hs hx hd hk)
      case inLoop.inLoop c c' =>
        have : c = c' := h2
        subst this
        exact Goes.head stepR_inLoop (stepCode_goes hQ hmix B ht hs hx hd c (k := .inLoop c :: k) (items := .inLoop c :: items) ⟨rfl, hk⟩)
      case inScope.inScope c c' =>
        exact Goes.head (step_lone_go (by simp [stepG, stepG.exec, Frame.atR]) : step P (lone (b.atR ⟨arr, dfs⟩ (.inScope c' :: items)) (cs1 ++ cs0) w) = .next (lone (b.atR ⟨arr, dfs⟩ items) (cs1 ++ cs0) w)) (on_goes B ht hs hx hd hk)
      case reg.inRegion ops rest ops' l =>
        obtain ⟨rfl, j, hr, rfl⟩ := h2
        exact runOps_goes hQ rest j hr B ht hs hx hd hk
      case inRF.inRangeFunc l bl => trivial
      case endRF.endRangeFunc l bl =>
        obtain ⟨base, cap, he⟩ := h2
        exact stepEnd_goes he B ht hs hx hd hk
      case beginRound.beginRound => exact stepBegin_goes B ht hs hx hd hk
  · cases e1
    cases cur with
    | some g => trivial
    | none => exact stepDreg_goes hQ B D ht hs hx hids hd h2

/-! ## the end of a frame -/
/-- a result, read -/
def resM (arr : Array Value) : ResultVar → Sem Value
  | .tmp t => pure (arr.getD t undef)
  | .cell a t => do loadVar t (← Go.asAddr (arr.getD a undef))

theorem results_eq (fn : Func) (arr : Array Value) : results fn arr = (do let vs ← fn.results.mapM (resM arr); pure (if h : vs.size = 1 then vs[0] else .tuple vs)) := by
  unfold results
  congr

theorem resultA_rel {h : AH} {w : World} (H : HR P Q N0 w0 η h w) {T : Tr AV} {arr : Array Value} (ht : TmRel Q η T arr) {r : ResultVar} {v : AV} (hr : resultA P h T r = some v) :
    ∃ y, (resM arr r).run P w = .ok y w ∧ concV Q η v = some y := by
  unfold resultA at hr
  cases r with
  | tmp t =>
    obtain ⟨y, h1, h2⟩ := ht t v hr
    exact ⟨y, by simp [resM, h1], h2⟩
  | cell a t =>
    simp only at hr
    cases ha : T.get a with
    | none => rw [ha] at hr; cases hr
    | some p =>
      rw [ha] at hr
      obtain ⟨y, h1, h2⟩ := ht a p ha
      obtain ⟨ad, z, rfl, h3, h4⟩ := loadA_rel H hr h2
      exact ⟨z, by simp [resM, h1, Go.asAddr, h3], h4⟩

theorem resultsA_rel {h : AH} {w : World} (H : HR P Q N0 w0 η h w) {T : Tr AV} {arr : Array Value} (ht : TmRel Q η T arr) : ∀ {l : List ResultVar} {vs : List AV}, resultsA P h T l = some vs →
    ∃ ys, (l.mapM (resM arr)).run P w = .ok ys w ∧ concVs Q η vs = some ys
  | [], vs, h1 => by cases h1; exact ⟨[], by simp, rfl⟩
  | r :: l, vs, h1 => by
    unfold resultsA at h1
    cases e1 : resultA P h T r with
    | none => rw [e1] at h1; cases h1
    | some v =>
      rw [e1] at h1
      simp only at h1
      cases e2 : resultsA P h T l with
      | none => rw [e2] at h1; cases h1
      | some r' =>
        rw [e2] at h1; cases h1
        obtain ⟨y, h2, h3⟩ := resultA_rel H ht e1
        obtain ⟨ys, h4, h5⟩ := resultsA_rel H ht e2
        exact ⟨y :: ys, by simp only [List.mapM_cons, Sem.run_bind, h2, h4, Result.andThen_ok, Sem.run_pure], concVs_mk h3 h5⟩

theorem joinA_conc {l : List AV} {xs : List Value} (h : concVs Q η l = some xs) : concV Q η (joinA l) = some (if h : xs.toArray.size = 1 then xs.toArray[0] else .tuple xs.toArray) := by
  have hl := concVs_length h
  cases l with
  | nil => cases h; rfl
  | cons a r =>
    obtain ⟨x, m, rfl, h1, h2⟩ := concVs_cons h
    cases r with
    | nil => cases h2; simpa [joinA] using h1
    | cons c r =>
      obtain ⟨y, m', rfl, h3, h4⟩ := concVs_cons h2
      have : concV Q η (.tup (a :: c :: r)) = some (.tuple (x :: y :: m').toArray) := conc_tup_mk h
      simpa [joinA] using this

theorem results_rel {h : AH} {w : World} (H : HR P Q N0 w0 η h w) {T : Tr AV} {arr : Array Value} (ht : TmRel Q η T arr) {fn : Func} {vs : List AV} (hr : resultsA P h T fn.results.toList = some vs) :
    ∃ y, (results fn arr).run P w = .ok y w ∧ concV Q η (joinA vs) = some y := by
  obtain ⟨ys, h1, h2⟩ := resultsA_rel H ht hr
  refine ⟨_, ?_, joinA_conc h2⟩
  rw [results_eq, Array.mapM_eq_mapM_toList]
  simp only [Sem.run_bind, Sem.run_map, h1, Result.andThen_ok, Sem.run_pure]

end
end Go.Sx
