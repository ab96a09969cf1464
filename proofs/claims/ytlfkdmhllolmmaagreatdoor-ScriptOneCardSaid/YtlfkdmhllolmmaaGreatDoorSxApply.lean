/- What follows an operation. -/
import Derived.Test.YtlfkdmhllolmmaaGreatDoorSxFin
namespace Go.Sx
open Go

section
variable {Q : Nat → Value} {η : Env}

theorem paramsA_rel : ∀ {args : List AV} {xs : List Value} {i : Nat} {T : Tr AV} {arr : Array Value}, concVs Q η args = some xs → TmRel Q η T arr → (∀ (j : Nat), j < xs.length → arr[i + j]? = xs[j]?) → TmRel Q η (paramsA args i T) arr
  | [], _, _, _, _, _, h2, _ => h2
  | v :: r, xs, i, T, arr, h1, h2, h3 => by
    obtain ⟨x, m, rfl, h4, h5⟩ := concVs_cons h1
    unfold paramsA
    refine paramsA_rel h5 ?_ (fun j hj => by have := h3 (j + 1) (by simpa using hj); rw [show i + 1 + j = i + (j + 1) by omega, this]; simp)
    intro t u hu
    rcases Tr.get_put fuel T i (some v) t u hu with ⟨rfl, e⟩ | ⟨_, e⟩
    · cases e
      have := h3 0 (by simp)
      exact ⟨x, by simpa using this, h4⟩
    · exact h2 t u e

theorem enterA_rel {P : Program} {f : FuncId} {args : List AV} {kind : CallKind} {fr : AFr} {xs : List Value} (h : enterA P f args kind = some fr) (ha : concVs Q η args = some xs) :
    FrR Q η fr (Frame.enter P f xs.toArray kind) ∧ pendOf fr = [] := by
  unfold enterA at h
  cases hb : bodyA P f with
  | none => rw [hb] at h; cases h
  | some c =>
    rw [hb] at h; cases h
    obtain ⟨fn, h1, h2, h3, h4⟩ := bodyA_some (n := c.1) (c := c.2) hb
    have hl := concVs_length ha
    refine ⟨⟨⟨rfl, rfl, .inl ⟨rfl, rfl⟩⟩, ?_, rfl, ⟨rfl, .inl ⟨⟨?_, trivial⟩, ?_⟩⟩⟩, rfl⟩
    · simp only [Frame.enter, h1, Option.map_some, Option.getD_some, Array.size_append, Array.size_replicate, List.size_toArray, llen_eq, ← h4, hl]
      show args.length + (fn.ntmps - args.length) = max args.length fn.ntmps
      omega
    · show c.2 = _
      simp [h1, h3]
    · refine paramsA_rel ha (TmRel.nil _) (fun j hj => ?_)
      simp only [Frame.enter]
      rw [Nat.zero_add, Array.getElem?_append_left (by simpa using hj)]
      simp

theorem concCh_append : ∀ {a b : List (AV × Bool)} {xs ys : List PanicEntry}, concCh Q η a = some xs → concCh Q η b = some ys → concCh Q η (a ++ b) = some (xs ++ ys)
  | [], _, _, _, h1, h2 => by cases h1; exact h2
  | e :: r, b, xs, ys, h1, h2 => by
    simp only [concCh] at h1
    split at h1
    · rename_i a l h3 h4
      cases h1
      simp only [List.cons_append, concCh, h3, concCh_append h4 h2]
    · cases h1

theorem cleanT_get {ops : Array Oper} : ∀ {pend : List (Nat × Nat)} {T : Tr AV} {t : Nat} {v : AV}, (cleanT ops pend T).get t = some v → T.get t = some v ∧ ∀ p ∈ pend, dstOf ops p.1 ≠ some t
  | [], T, t, v, h => ⟨h, by simp⟩
  | p :: r, T, t, v, h => by
    unfold cleanT at h
    split at h
    · rename_i d hd
      obtain ⟨h1, h2⟩ := cleanT_get (pend := r) h
      rcases Tr.get_put fuel T d none t v h1 with ⟨_, e⟩ | ⟨hne, e⟩
      · cases e
      · refine ⟨e, fun q hq => ?_⟩
        rcases List.mem_cons.1 hq with rfl | hq
        · rw [hd]; intro e1; cases e1; exact hne rfl
        · exact h2 q hq
    · rename_i hd
      obtain ⟨h1, h2⟩ := cleanT_get (pend := r) h
      refine ⟨h1, fun q hq => ?_⟩
      rcases List.mem_cons.1 hq with rfl | hq
      · rw [hd]; simp
      · exact h2 q hq

theorem clean1_get {todo : List AIt} {T : Tr AV} {t : Nat} {v : AV} (h : (clean1 todo T).get t = some v) : T.get t = some v := by
  unfold clean1 at h
  split at h
  · exact h
  · split at h
    · exact (cleanT_get h).1
    · exact h

theorem HdR.clean {T : Tr AV} {arr : Array Value} {todo : List AIt} {items : List Item} (h : HdR Q η T arr todo items) : TmRel Q η (clean1 todo T) arr := by
  rcases h with ⟨_, h2⟩ | ⟨ops, done, pend, cur, k, ord, k', rfl, h2, h3, h4, h5, h6⟩
  · intro t v ht; exact h2 t v (clean1_get ht)
  · intro t v ht
    unfold clean1 at ht
    simp only [asDreg] at ht
    obtain ⟨h7, h8⟩ := cleanT_get ht
    refine h6 t v h7 fun ⟨j, hj, hb, hd⟩ => ?_
    obtain ⟨id, hid⟩ := h4.pendOf j hj hb
    exact h8 _ hid hd

theorem raise_rel {F : AFr} {c : Frame} {chain : List (AV × Bool)} {vs : List PanicEntry} (hF : FrR Q η F c) (hc : concCh Q η chain = some vs) : FrR Q η (raiseA F chain) (c.raise vs) ∧ pendOf (raiseA F chain) = [] := by
  obtain ⟨x, T, todo, ds, mode⟩ := F
  obtain ⟨h1, h2, h3, h4⟩ := hF
  cases mode with
  | run =>
    obtain ⟨h5, h6⟩ := h4
    have hr : c.raise vs = { c with mode := .panicking vs } := by simp only [Frame.raise, h5]
    refine ⟨⟨⟨by rw [hr]; exact h1.fn, by rw [hr]; exact h1.kind, by rw [hr]; exact h1.round⟩, by rw [hr]; exact h2, by rw [hr]; exact h3, ?_⟩, rfl⟩
    exact ⟨vs, hc, by rw [hr], by rw [hr]; exact h6.clean, by rw [hr]; exact h6.noCall⟩
  | ret =>
    obtain ⟨h5, h6, h7⟩ := h4
    have hr : c.raise vs = { c with mode := .panicking vs } := by simp only [Frame.raise, h5]
    refine ⟨⟨⟨by rw [hr]; exact h1.fn, by rw [hr]; exact h1.kind, by rw [hr]; exact h1.round⟩, by rw [hr]; exact h2, by rw [hr]; exact h3, ?_⟩, rfl⟩
    exact ⟨vs, hc, by rw [hr], by rw [hr]; exact fun t v ht => h6 t v (clean1_get ht), by rw [hr]; exact h7⟩
  | pan old =>
    obtain ⟨ch, h5, h6, h7, h8⟩ := h4
    have hr : c.raise vs = { c with mode := .panicking (vs ++ ch) } := by simp only [Frame.raise, h6]
    refine ⟨⟨⟨by rw [hr]; exact h1.fn, by rw [hr]; exact h1.kind, by rw [hr]; exact h1.round⟩, by rw [hr]; exact h2, by rw [hr]; exact h3, ?_⟩, rfl⟩
    exact ⟨vs ++ ch, concCh_append hc h5, by rw [hr], by rw [hr]; exact h7, by rw [hr]; exact h8⟩
end

section
variable {P : Program} {Sm : Sums} {Q : Nat → Value} {N0 : Keep} {w0 : World} {η : Env} {lo : Nat} {cs0 : List Frame}

theorem noCall_kind {items : List Item} (h : NoCall items) : (match items with | .call _ true _ _ :: _ => CallKind.wrapped | _ => .normal) = .normal := by
  split
  · rename_i d r s k; exact absurd rfl (h _ _ _ _ _)
  · rfl

theorem FrR.noCall {F : AFr} {c : Frame} (h : FrR Q η F c) : NoCall c.todo := by
  obtain ⟨x, T, todo, ds, mode⟩ := F
  obtain ⟨_, _, _, h4⟩ := h
  cases mode with
  | run => exact h4.2.noCall
  | ret => exact h4.2.2
  | pan ch => exact h4.choose_spec.2.2.2

theorem back_goes {F : AFr} {c : Frame} {cs : List AFr} {cs1 : List Frame} {h h' : AH} {w w' : World} {v : AV} {y : Value} {η' : Env} (hF : FrR Q η F c) (hm : F.mode = .run) (hp : ∀ p ∈ pendOf F, lo ≤ p.2 ∧ p.2 < h.next)
    (B : Base P Q N0 w0 η lo cs h cs1 w) (hr : HR P Q N0 w0 η' h' w') (hs : Step1 η h.next η' h'.next) (hv : concV Q η' v = some y) {m : Machine} (hst : step P m = .next (lone (c.finish y) (cs1 ++ cs0) w')) :
    Goes P Q N0 w0 cs0 m (backA F cs v h') := by
  unfold backA
  rw [hm]
  simp only
  cases hf : finishA F v with
  | none => trivial
  | some F' =>
    obtain ⟨hg, hfr, hle⟩ := hs.grow B.fresh
    have hF' := hF.mono hg.ext (fun p hp' => hg.low _ (hp p hp').2)
    obtain ⟨h1, h2, _, _⟩ := finishA_rel hF' hm hf hv
    refine Goes.head hst (Goes.here ⟨η', lo, cs1, rfl, B.grow hr (hg.down B.le) hfr hle, h1, fun p hp' => ?_⟩)
    have := hp p (h2 p hp')
    exact ⟨this.1, by show p.2 < h'.next; omega⟩

theorem undef_conc : concV Q η undefA = some undef := rfl

theorem recover_none_normal {c : Frame} {callers : List Frame} (h : c.kind = .normal) : tryRecover c callers = none := by
  unfold tryRecover
  rw [h]

theorem concCh_cons {e : AV × Bool} {r : List (AV × Bool)} {xs : List PanicEntry} (h : concCh Q η (e :: r) = some xs) : ∃ a l, concV Q η e.1 = some a ∧ concCh Q η r = some l ∧ xs = ⟨a, e.2, false⟩ :: l := by
  simp only [concCh] at h
  split at h
  · rename_i a l h3 h4; cases h; exact ⟨a, l, h3, h4, rfl⟩
  · cases h

/-- what follows an operation's answer -/
theorem applyA_goesM (hS : SumOk P Q Sm) {F : AFr} {c : Frame} {cs : List AFr} {cs1 : List Frame} {h : AH} {w : World} (hF : FrR Q η F c) (hm : F.mode = .run) (hp : ∀ p ∈ pendOf F, lo ≤ p.2 ∧ p.2 < h.next)
    (B : Base P Q N0 w0 η lo cs h cs1 w) {s : Sem Next} {r : AR}
    {m : Machine} (hst : ∀ fr' cs' w', (stepG.apply P true c (cs1 ++ cs0) none s w).bare = .go { frame := fr', callers := cs', status := .running, dying := none } w' → step P m = .next (lone fr' cs' w'))
    (hs : ORel P Q N0 w0 η h w r (s.run P w)) : Goes P Q N0 w0 cs0 m (applyA P Sm F cs r) := by
  have hk := noCall_kind hF.noCall
  cases r with
  | fail => trivial
  | park h' => trivial
  | val v h' =>
    obtain ⟨η', y, w', h1, h2, h3, h4⟩ := hs
    exact back_goes hF hm hp B h3 h2 h4 (hst _ _ _ (by simp [stepG.apply, Sem.runT_eq, h1]))
  | skip h' =>
    obtain ⟨w', h1, h3, h4⟩ := hs
    exact back_goes hF hm hp B h3 (.inl ⟨rfl, h4⟩) undef_conc (hst _ _ _ (by simp [stepG.apply, Sem.runT_eq, h1]))
  | enter f args h' =>
    obtain ⟨rfl, _, xs, h1, h2⟩ := hs
    show Goes P Q N0 w0 cs0 _ (match Sm f args h' with | some r => backA F cs r.1 r.2 | none => match enterA P f args .normal with | some fr' => .next ⟨fr', F :: cs, h'⟩ | none => .fail)
    have hcall : step P m = .next (lone (Frame.enter P f xs.toArray .normal) (c :: (cs1 ++ cs0)) w) := hst _ _ _ (by simp [stepG.apply, Sem.runT_eq, h1]; exact congrArg (Frame.enter P f xs.toArray) hk)
    cases hsum : Sm f args h' with
    | some r =>
      obtain ⟨v, h2'⟩ := r
      obtain ⟨e, w', fr, ⟨η', x, rfl, hs1, hv, hr⟩, hcomes, _, hleave⟩ := hS.2 B.hr B.glob (B.fresh _ (Nat.le_refl _)) hsum h2 (c :: (cs1 ++ cs0))
      exact Goes.head hcall (Goes.trans hcomes (back_goes hF hm hp B hr hs1 hv (step_leave_returned hleave)))
    | none =>
      simp only
      cases he : enterA P f args .normal with
      | none => trivial
      | some fr' =>
        obtain ⟨h3, h4⟩ := enterA_rel he h2
        refine Goes.head hcall (Goes.here ⟨η, h'.next, c :: cs1, rfl, ⟨B.hr, B.glob, B.fresh, Nat.le_refl _, hF, lo, B.le, hp, B.st⟩, h3, by rw [h4]; simp⟩)
  | round l fn n tmps as body h' =>
    obtain ⟨rfl, b, base, cap, arr, he, h1, h2, h3⟩ := hs
    refine Goes.head (m1 := lone (Frame.round b fn arr as body .normal) (c :: (cs1 ++ cs0)) w) (hst _ _ _ (by simp [stepG.apply, Sem.runT_eq, h1])) (Goes.here ⟨η, h'.next, c :: cs1, rfl, ⟨B.hr, B.glob, B.fresh, Nat.le_refl _, hF, lo, B.le, hp, B.st⟩, ?_, by simp [pendOf]⟩)
    exact ⟨⟨rfl, rfl, .inr ⟨l, b, base, cap, rfl, rfl, he⟩⟩, h2, rfl, ⟨rfl, .inl ⟨⟨rfl, trivial, rfl, trivial⟩, h3⟩⟩⟩
  | defer d h' =>
    obtain ⟨rfl, y, h1, h2⟩ := hs
    obtain ⟨x, T, todo, ds, mode⟩ := F
    simp only at hm
    subst hm
    show Goes P Q N0 w0 cs0 _ (backA ⟨x, T, todo, d :: ds, .run⟩ cs undefA h')
    obtain ⟨g1, g2, g3, g4⟩ := hF
    have hF' : FrR Q η ⟨x, T, todo, d :: ds, .run⟩ { c with defers := y :: c.defers } :=
      ⟨⟨g1.fn, g1.kind, g1.round⟩, g2, by simp only [concDfs, h2, g3], g4⟩
    exact back_goes (c := { c with defers := y :: c.defers }) hF' rfl hp B B.hr (.inl ⟨rfl, rfl⟩) undef_conc (hst _ _ _ (by simp [stepG.apply, Sem.runT_eq, h1]))
  | recover h' =>
    obtain ⟨rfl, h1⟩ := hs
    show Goes P Q N0 w0 cs0 _ (recoverA F cs h')
    unfold recoverA
    have hround := hF.x.round
    have hkind := hF.x.kind
    cases hr : F.x.round with
    | some l => trivial
    | none =>
      simp only
      have hro : c.roundOf = none := by
        rcases hround with ⟨_, h2⟩ | ⟨l, _, _, _, h2, _⟩
        · exact h2
        · rw [hr] at h2; cases h2
      have fin : ∀ (callers : List Frame) (cs' : List AFr) (cs1' : List Frame), callers = cs1' ++ cs0 → Base P Q N0 w0 η lo cs' h' cs1' w → ∀ v y, concV Q η v = some y →
          step P m = .next (lone (c.finish y) callers w) → Goes P Q N0 w0 cs0 m (match finishA F v with | some fr => .next ⟨fr, cs', h'⟩ | none => .fail) := fun callers cs' cs1' e B' v y hv hstep => by
        subst e
        have := back_goes hF hm hp B' B'.hr (.inl ⟨rfl, rfl⟩) hv hstep
        unfold backA at this
        rw [hm] at this
        exact this
      have hnil : ∀ (hn : tryRecover c (cs1 ++ cs0) = none), step P m = .next (lone (c.finish .nilIface) (cs1 ++ cs0) w) := fun hn => hst _ _ _ (by simp [stepG.apply, Sem.runT_eq, h1, hro, hn])
      cases hkd : F.x.kind with
      | normal => exact fin _ _ _ rfl B .ni .nilIface rfl (hnil (recover_none_normal (by rw [hkind, hkd])))
      | deferred =>
        simp only
        have hck : c.kind = .deferred := by rw [hkind, hkd]
        cases cs with
        | nil => trivial
        | cons a as =>
          obtain ⟨x', T', todo', ds', mode'⟩ := a
          simp only
          have hst' := B.st
          cases cs1 with
          | nil => exact hst'.elim
          | cons c' cs1' =>
            obtain ⟨hFc, lo', hle', hpc, hst2⟩ := hst'
            cases mode' with
            | run =>
              have hcm : c'.mode = .run := hFc.md.1
              exact fin _ _ _ rfl B .ni .nilIface rfl (hnil (by simp [tryRecover, hck, hcm]))
            | ret =>
              have hcm : c'.mode = .returning := hFc.md.1
              exact fin _ _ _ rfl B .ni .nilIface rfl (hnil (by simp [tryRecover, hck, hcm]))
            | pan chn =>
              obtain ⟨chain, g1, g2, g3, g4⟩ := hFc.md
              cases chn with
              | nil =>
                cases g1
                exact fin _ _ _ rfl B .ni .nilIface rfl (hnil (by simp [tryRecover, hck, g2]))
              | cons e older =>
                obtain ⟨v, b⟩ := e
                obtain ⟨y, l, g5, g6, rfl⟩ := concCh_cons g1
                cases b with
                | true => exact fin _ _ _ rfl B .ni .nilIface rfl (hnil (by simp [tryRecover, hck, g2]))
                | false =>
                  simp only
                  have hcall : FrR Q η ⟨x', T', todo', ds', .pan ((v, true) :: older)⟩ { c' with mode := .panicking (⟨y, true, false⟩ :: l) } :=
                    ⟨⟨hFc.x.fn, hFc.x.kind, hFc.x.round⟩, hFc.size, hFc.ds, _, by simp only [concCh, g5, g6], rfl, g3, g4⟩
                  have B' : Base P Q N0 w0 η lo (⟨x', T', todo', ds', .pan ((v, true) :: older)⟩ :: as) h' ({ c' with mode := .panicking (⟨y, true, false⟩ :: l) } :: cs1') w :=
                    ⟨B.hr, B.glob, B.fresh, B.le, hcall, lo', hle', (fun p hp => by simp [pendOf] at hp), hst2⟩
                  exact fin _ _ _ rfl B' v y g5 (hst _ _ _ (by simp [stepG.apply, Sem.runT_eq, h1, hro, tryRecover, hck, g2]))
      | _ => trivial
  | panic v h' =>
    obtain ⟨rfl, y, h1, h2⟩ := hs
    have hch : concCh Q η [(v, false)] = some [⟨y, false, false⟩] := by simp only [concCh, h2]
    obtain ⟨h3, h4⟩ := raise_rel hF hch
    exact Goes.head (hst _ _ _ (by simp [stepG.apply, Sem.runT_eq, h1])) (Goes.here ⟨η, lo, cs1, rfl, B, h3, by rw [h4]; simp⟩)

theorem applyA_goes (hS : SumOk P Q Sm) {F : AFr} {c : Frame} {cs : List AFr} {cs1 : List Frame} {h : AH} {w : World} (hF : FrR Q η F c) (hm : F.mode = .run) (hp : ∀ p ∈ pendOf F, lo ≤ p.2 ∧ p.2 < h.next)
    (B : Base P Q N0 w0 η lo cs h cs1 w) {s : Sem Next} {r : AR}
    (hst : stepG P true { frame := c, callers := cs1 ++ cs0, status := .running, dying := none } w = stepG.apply P true c (cs1 ++ cs0) none s w)
    (hs : ORel P Q N0 w0 η h w r (s.run P w)) : Goes P Q N0 w0 cs0 (lone c (cs1 ++ cs0) w) (applyA P Sm F cs r) :=
  applyA_goesM hS hF hm hp B (fun fr' cs' w' e => step_lone_go (by rw [hst]; exact e)) hs

end
end Go.Sx
