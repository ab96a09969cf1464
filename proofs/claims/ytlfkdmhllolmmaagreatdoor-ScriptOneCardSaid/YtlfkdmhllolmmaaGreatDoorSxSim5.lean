/- The steps: a frame's end; all in all. -/
import Derived.Test.YtlfkdmhllolmmaaGreatDoorSxSim4
namespace Go.Sx
open Go
section
variable {P : Program} {Sm : Sums} {Q : Nat → Value} {N0 : Keep} {w0 : World} {η : Env} {lo : Nat} {cs0 : List Frame}

theorem resOf_some {f : FuncId} {l : List ResultVar} (h : resOf P f = some l) : ∃ fn, P.funcs[f]? = some fn ∧ fn.results.toList = l := by
  unfold resOf at h
  cases e : funcA P f with
  | none => rw [e] at h; cases h
  | some g => rw [e] at h; cases h; exact ⟨g, funcA_some e, rfl⟩

theorem retA_goes {x : AX} {c : Frame} {T : Tr AV} {h : AH} {w : World} {cs : List AFr} {cs1 : List Frame}
    (B : Base P Q N0 w0 η lo cs h cs1 w) (hx : XRel η x c) (ht : TmRel Q η T c.tmps) (hm : c.mode = .returning) (hd : c.defers = []) :
    Goes P Q N0 w0 cs0 (lone c (cs1 ++ cs0) w) (retA P x T cs h) := by
  unfold retA
  cases hr : resOf P x.fn with
  | none => trivial
  | some l =>
    simp only
    obtain ⟨fn, hf, rfl⟩ := resOf_some hr
    have hf : P.funcs[c.fn]? = some fn := by rw [hx.fn]; exact hf
    cases hv : resultsA P h T fn.results.toList with
    | none => trivial
    | some vs =>
      simp only
      obtain ⟨y, hres, hc⟩ := results_rel B.hr ht hv
      cases cs with
      | nil =>
        simp only
        have h1 := B.st
        cases cs1 with
        | cons _ _ => exact h1.elim
        | nil =>
          cases hk : x.kind <;> simp only <;> try trivial
          exact ⟨c, w, η, y, .refl P _, hx.fn, ⟨hm, hd, by rw [hx.kind, hk], fn, hf, hres⟩, hc, B.hr⟩
      | cons a as =>
        simp only
        refine doReturn_goes B hc (fun c' rest e hk => ?_) (fun c' rest e hk => ?_)
        · subst e
          have hk' : c.kind = .normal := by rw [hx.kind, hk]
          exact step_lone_go (by simp [stepG, unwind, doReturn, hm, hd, hk', hf, hres])
        · subst e
          have hk' : c.kind = .deferred := by rw [hx.kind, hk]
          exact step_lone_go (by simp [stepG, unwind, doReturn, hm, hd, hk', hf, hres]; rfl)

theorem catches_false {c : Frame} (h : NoCall c.todo) : c.catches P = false := by
  unfold Frame.catches
  split
  · rename_i d b r s k _ ht; exact absurd ht (h _ _ _ _ _)
  · rfl

theorem concDfs_cons {d : ADf} {r : List ADf} {xs : List Deferred} (h : concDfs Q η (d :: r) = some xs) : ∃ y l, xs = y :: l ∧ concDf Q η d = some y ∧ concDfs Q η r = some l := by
  simp only [concDfs] at h
  split at h
  · rename_i y l h1 h2; cases h; exact ⟨y, l, rfl, h1, h2⟩
  · cases h

theorem unwind_goes {x : AX} {c : Frame} {T : Tr AV} {todo : List AIt} {ds : List ADf} {mode : AMd} {h : AH} {w : World} {cs : List AFr} {cs1 : List Frame}
    (B : Base P Q N0 w0 η lo cs h cs1 w) (hF : FrR Q η ⟨x, T, todo, ds, mode⟩ c) (hnr : mode ≠ .run) :
    Goes P Q N0 w0 cs0 (lone c (cs1 ++ cs0) w) (unwindA P x T todo ds mode cs h) := by
  have hpend : ∀ ds', pendOf ⟨x, T, todo, ds', mode⟩ = [] := fun ds' => by
    cases mode with
    | run => exact absurd rfl hnr
    | ret => rfl
    | pan ch => rfl
  have hstep : stepG P true { frame := c, callers := cs1 ++ cs0, status := .running, dying := none } w = unwind P true c (cs1 ++ cs0) none w := by
    cases mode with
    | run => exact absurd rfl hnr
    | ret => have := hF.md.1; simp [stepG, this]
    | pan ch =>
      obtain ⟨chain, _, hcm', _⟩ := hF.md
      simp [stepG, hcm']
  have withDs : ∀ {η' : Env} {ds' : List ADf} {dfs : List Deferred}, Ext η η' → concDfs Q η' ds' = some dfs → FrR Q η' ⟨x, T, todo, ds', mode⟩ { c with defers := dfs } := fun {η' ds' dfs} hx' hd' => by
    have := hF.mono hx' (fun p hp => by rw [hpend] at hp; cases hp)
    exact ⟨⟨this.x.fn, this.x.kind, this.x.round⟩, this.size, hd', by
      have h9 := this.md
      cases mode with
      | run => exact h9
      | ret => exact h9
      | pan ch => exact h9⟩
  have hds := hF.ds
  unfold unwindA
  cases ds with
  | nil =>
    have hdn : c.defers = [] := by
      have : concDfs Q η [] = some c.defers := hds
      cases this' : c.defers with
      | nil => rfl
      | cons _ _ => rw [this'] at this; cases this
    cases mode with
    | run => exact absurd rfl hnr
    | ret => exact retA_goes B hF.x hF.md.2.1 hF.md.1 hdn
    | pan ch =>
      simp only
      obtain ⟨chain, g1, g2, g3, g4⟩ := hF.md
      cases cs with
      | nil => trivial
      | cons a as =>
        have h1 := B.st
        cases cs1 with
        | nil => exact h1.elim
        | cons c' cs1 =>
          obtain ⟨hFc, lo', hle, hp, hst'⟩ := h1
          obtain ⟨h2, h3⟩ := raise_rel hFc g1
          have hcat := catches_false (P := P) g4
          refine Goes.head (m1 := lone (c'.raise chain) (cs1 ++ cs0) w) (step_lone_go (by rw [hstep]; simp [unwind, hdn, g2, hcat])) (Goes.here ⟨η, lo', cs1, rfl, ⟨B.hr, B.glob, B.fresh, Nat.le_trans hle B.le, hst'⟩, h2, by rw [h3]; simp⟩)
  | cons d ds =>
    obtain ⟨tg, args⟩ := d
    obtain ⟨y, dfs, hdd, hy, hdr⟩ := concDfs_cons hds
    cases tg with
    | col id =>
      simp only
      simp only [concDf] at hy
      split at hy
      · rename_i bl base cap he
        cases hy
        split
        · rename_i l ho
          obtain ⟨b1, base1, c1, z, e4, hb, hz, _⟩ := B.hr.obj _ _ ho _ he
          cases e4
          cases z with
          | deferred calls =>
            cases calls with
            | none => exact hz.elim
            | some xs =>
              have hz : concDfs Q η l = some xs := hz
              have hrun : (Instr.takeDeferred bl).run P w = .ok xs { w with heap := w.heap.setIfInBounds bl (.deferred none) } := by
                simp [Instr.takeDeferred, getObj, setObj, Sem.run, hb]
              have hH : HR P Q N0 w0 η (h.upd id (some (.dfr none))) { w with heap := w.heap.setIfInBounds bl (.deferred none) } :=
                B.hr.put ho he rfl (MapKept.heap_set hb).1 (MapKept.heap_set hb).2 (by simp) trivial
              exact Goes.head (m1 := lone { c with defers := xs ++ dfs } (cs1 ++ cs0) _) (step_lone_go (by rw [hstep]; simp [unwind, hdd, Sem.runT_eq, hrun]))
                (Goes.here ⟨η, lo, cs1, rfl, B.same hH rfl, withDs (Ext.refl η) (concDfs_app hz hdr), by rw [hpend]; simp⟩)
          | _ => exact hz.elim
        · trivial
      · cases hy
    | fn f cap =>
      simp only
      simp only [concDf] at hy
      split at hy
      · rename_i g cv av h1 h2 h3
        cases hy
        have hO := invoke_rel B.hr h1 h2 h3
        cases hi : invokeA P h f cap args with
        | enter f' args' h' =>
          rw [hi] at hO
          obtain ⟨rfl, _, xs, hrun, hxs⟩ := hO
          simp only
          cases he : enterA P f' args' .deferred with
          | none => trivial
          | some fr' =>
            obtain ⟨h4, h5⟩ := enterA_rel he hxs
            have hF' := withDs (Ext.refl η) hdr
            have hrun' : (invoke (.fn g ⟨cv⟩) ⟨av⟩).run P w = .ok (.enter f' xs.toArray) w := hrun
            refine Goes.head (m1 := lone (Frame.enter P f' xs.toArray .deferred) ({ c with defers := dfs } :: (cs1 ++ cs0)) w) (step_lone_go (by rw [hstep]; simp [unwind, hdd, callDeferred, Sem.runT_eq, hrun']))
              (Goes.here ⟨η, h'.next, { c with defers := dfs } :: cs1, rfl, ⟨B.hr, B.glob, B.fresh, Nat.le_refl _, hF', lo, B.le, by rw [hpend]; simp, B.st⟩, h4, by rw [h5]; simp⟩)
        | _ => trivial
      · cases hy

/-- a step -/
theorem stepA_goes (hQ : QOk Q ∧ SumOk P Q Sm) (hmix : P.follows .mixedOrders = true) {s : AS} {fr : Frame} {callers : List Frame} {w : World} (h : SRel P Q N0 w0 cs0 s fr callers w) :
    Goes P Q N0 w0 cs0 (lone fr callers w) (stepA P Sm s) := by
  obtain ⟨⟨x, T, todo, ds, mode⟩, cs, hp⟩ := s
  obtain ⟨η, lo, cs1, rfl, B, hF, hids⟩ := h
  show Goes P Q N0 w0 cs0 _ (stepMode P Sm x T todo ds mode cs hp)
  unfold stepMode
  cases mode with
  | ret => exact unwind_goes B hF (by simp)
  | pan ch => exact unwind_goes B hF (by simp)
  | run =>
    obtain ⟨hx, hs, hd, hm, hh⟩ := hF
    obtain ⟨fn, tmps, items, defers, fm, kind, ro⟩ := fr
    simp only at hm hh hs hd
    subst hm
    have hx' : XRel η x ⟨fn, tmps, items, defers, .run, kind, ro⟩ := hx
    have e : (⟨fn, tmps, items, defers, .run, kind, ro⟩ : Frame) = Frame.atR ⟨fn, tmps, items, defers, .run, kind, ro⟩ ⟨tmps, defers⟩ items := rfl
    show Goes P Q N0 w0 cs0 _ (stepRun P Sm x T todo ds cs hp)
    unfold stepRun
    cases todo with
    | cons i k =>
      rw [e]
      exact stepItem_goes hQ hmix B hh hs hx' hd hids
    | nil =>
      rw [e]
      rcases hh with ⟨h1, ht⟩ | ⟨_, _, _, _, _, _, _, e1, _⟩
      · cases items with
        | cons _ _ => exact h1.elim
        | nil =>
          refine leave_goes (j := none) B ht hs hx' hd (fun d b r s k e => by cases e) (fun hb _ => stepR_end hb) (fun bl hb hkd v w' hr c' rest e => ?_)
          subst e
          exact stepR_round_end hb hkd hr
      · cases e1

theorem Goes.next_inv {m : Machine} {s : AS} {o : Out} (h : Goes P Q N0 w0 cs0 m (.next s)) (h' : ∀ fr callers w, SRel P Q N0 w0 cs0 s fr callers w → Goes P Q N0 w0 cs0 (lone fr callers w) o) : Goes P Q N0 w0 cs0 m o := by
  obtain ⟨fr, callers, w, h1, h2⟩ := h
  exact (h' fr callers w h2).trans h1

theorem runK_goes (hQ : QOk Q ∧ SumOk P Q Sm) (hmix : P.follows .mixedOrders = true) : ∀ (k : Nat) {m : Machine} {o : Out}, Goes P Q N0 w0 cs0 m o → Goes P Q N0 w0 cs0 m (runK P Sm k o)
  | 0, m, o, h => by
    unfold runK
    cases o with
    | next s => exact h.next_inv fun fr callers w hs => stepA_goes hQ hmix hs
    | done f v hh => exact h
    | fail => trivial
  | k + 1, m, o, h => by
    unfold runK
    have h1 := runK_goes hQ hmix k h
    cases hr : runK P Sm k o with
    | next s => rw [hr] at h1; exact runK_goes hQ hmix k h1
    | done f v hh => rw [hr] at h1; exact h1
    | fail => trivial

/-- the end: what a run of the executor says of a call -/
theorem run_calls (hQ : QOk Q ∧ SumOk P Q Sm) (hmix : P.follows .mixedOrders = true) {f : FuncId} {args : List AV} {fr : AFr} {h h' : AH} {w : World} {xs : List Value} {v : AV} {k : Nat}
    (B : HR P Q N0 w0 η h w) (hg : ∀ g, g < 64 → η g = some (.blk g 0 0)) (hf : Fresh η h.next) (ha : concVs Q η args = some xs) (he : enterA P f args .normal = some fr)
    (hrun : runK P Sm k (.next ⟨fr, [], h⟩) = .done f v h') :
    Calls P f xs.toArray w (fun e w' => ∃ η' x, e = .returned x ∧ concV Q η' v = some x ∧ HR P Q N0 w0 η' h' w') := by
  intro cs
  obtain ⟨h1, h2⟩ := enterA_rel he ha
  have hs : SRel P Q N0 w0 cs ⟨fr, [], h⟩ (Frame.enter P f xs.toArray .normal) cs w := ⟨η, h.next, [], rfl, ⟨B, hg, hf, Nat.le_refl _, trivial⟩, h1, by rw [h2]; simp⟩
  have hgo := runK_goes hQ hmix k (Goes.here hs)
  rw [hrun] at hgo
  obtain ⟨fr', w', η', x, g1, g2, g3, g4, g5⟩ := hgo
  exact ⟨.returned x, w', fr', ⟨η', x, rfl, g4, g5⟩, g1, g2, g3⟩

end
end Go.Sx
