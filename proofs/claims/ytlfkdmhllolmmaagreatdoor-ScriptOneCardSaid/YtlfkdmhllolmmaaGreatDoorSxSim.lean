/- The steps. -/
import Derived.Test.YtlfkdmhllolmmaaGreatDoorSxDreg3
namespace Go.Sx
open Go

section
variable {P : Program} {Sm : Sums} {Q : Nat → Value} {N0 : Keep} {w0 : World} {η : Env} {lo : Nat} {cs0 : List Frame}

theorem noPend {k : List AIt} {items : List Item} {x : AX} {T : Tr AV} {ds : List ADf} (hk : TdR η k items) : pendOf ⟨x, T, k, ds, .run⟩ = [] := by
  cases k with
  | nil => simp [pendOf]
  | cons it k =>
    cases items with
    | nil => exact hk.elim
    | cons it' items =>
      cases it <;> simp [pendOf]
      cases it' <;> exact hk.1.elim

/-- a frame goes on -/
theorem on_goes {x : AX} {b : Frame} {T : Tr AV} {arr : Array Value} {h : AH} {w : World} {cs : List AFr} {cs1 : List Frame} {ds : List ADf} {dfs : List Deferred} {k : List AIt} {items : List Item}
    (B : Base P Q N0 w0 η lo cs h cs1 w) (ht : TmRel Q η T arr) (hs : arr.size = x.n) (hx : XRel η x b) (hd : concDfs Q η ds = some dfs) (hk : TdR η k items) :
    Goes P Q N0 w0 cs0 (lone (b.atR ⟨arr, dfs⟩ items) (cs1 ++ cs0) w) (.next ⟨⟨x, T, k, ds, .run⟩, cs, h⟩) :=
  Goes.here ⟨η, lo, cs1, rfl, B, ⟨hx.atR _ _, hs, hd, ⟨rfl, .inl ⟨hk, ht⟩⟩⟩, by rw [noPend hk]; simp⟩

theorem truth_rel {T : Tr AV} {arr : Array Value} {ds : List Deferred} (hg : ∀ g, g < 64 → η g = some (.blk g 0 0)) (ht : TmRel Q η T arr) {c : Operand} {t : Bool} (h : truthA (evalA T c) = some t) : (Act.mk arr ds).eval c = .bool t := by
  have h1 := truthA_some h
  have h2 := eval_rel (ds := ds) hg (x := c) (fun t v _ hv => ht t v hv) h1
  exact (Option.some.inj h2).symm

theorem exitTo_rel {id : Nat} : ∀ {k k' : List AIt} {items : List Item}, exitToA id k = some k' → TdR η k items → ∃ items', exitTo id items = some items' ∧ TdR η k' items'
  | [], k', items, h, _ => by cases h
  | it :: k, k', items, h, hk => by
    cases items with
    | nil => exact hk.elim
    | cons it' items =>
      obtain ⟨h1, h2⟩ := hk
      cases it <;> cases it' <;> try (exact h1.elim)
      case inBlock.inBlock i j =>
        have : i = j := h1
        subst this
        unfold exitToA at h
        cases hb : Nat.beq i id with
        | true =>
          rw [hb, sel_true] at h; cases h
          exact ⟨items, by simp [exitTo, beq_iff.1 hb], h2⟩
        | false =>
          rw [hb, sel_false] at h
          obtain ⟨items', h3, h4⟩ := exitTo_rel h h2
          exact ⟨items', by simp [exitTo, beq_no.1 hb, h3], h4⟩
      all_goals
        obtain ⟨items', h3, h4⟩ := exitTo_rel (show exitToA id k = some k' from h) h2
        exact ⟨items', by simpa [exitTo] using h3, h4⟩

theorem gotoIn_rel {l : Nat} : ∀ {k k' : List AIt} {items : List Item}, gotoInA l k = some k' → TdR η k items → ∃ items', gotoIn l items = some items' ∧ TdR η k' items'
  | [], k', items, h, _ => by cases h
  | it :: k, k', items, h, hk => by
    cases items with
    | nil => exact hk.elim
    | cons it' items =>
      obtain ⟨h1, h2⟩ := hk
      cases it <;> cases it' <;> try (exact h1.elim)
      case inScope.inScope c c' =>
        have : c = c' := h1
        subst this
        unfold gotoInA at h
        cases hf : findLabel c l with
        | some rest =>
          rw [hf] at h; cases h
          exact ⟨.code rest :: .inScope c :: items, by simp [gotoIn, hf], rfl, rfl, h2⟩
        | none =>
          rw [hf] at h
          obtain ⟨items', h3, h4⟩ := gotoIn_rel h h2
          exact ⟨items', by simp [gotoIn, hf, h3], h4⟩
      all_goals
        obtain ⟨items', h3, h4⟩ := gotoIn_rel (show gotoInA l k = some k' from h) h2
        exact ⟨items', by simpa [gotoIn] using h3, h4⟩

/-! ## loops over functions -/
theorem run_endRound {b : Nat} {L : Loop} {j : Option Code} (hb : w0.heap[b]? = some (.loop L)) :
    (Instr.endRound b j).run P w0 = .ok (.bool j.isNone) { w0 with heap := w0.heap.setIfInBounds b (.loop { L with state := if j.isNone then .ready else .done, pending := j }) } := by
  simp [Instr.endRound, run_getLoop hb, setObj, Sem.run, hb]

end

section
variable {P : Program} {Sm : Sums} {Q : Nat → Value} {N0 : Keep} {w0 : World} {η : Env} {lo : Nat} {cs0 : List Frame}

/-- a loop's block is written -/
theorem HR.putLoop {h : AH} {w : World} (H : HR P Q N0 w0 η h w) {l b base cap : Nat} {st st' : LoopState} {pend pend' : Option Code} {fn : FuncId} {n : Nat} {tmps : Tr AV} {params : List Tmp} {as body : Code} {d : Nat} {L : Loop}
    (ho : h.obj l = some (.loop st pend fn n tmps params as body d)) (he : η l = some (.blk b base cap)) (hb : w.heap[b]? = some (.loop L)) :
    HR P Q N0 w0 η (h.upd l (some (.loop st' pend' fn n tmps params as body d))) { w with heap := w.heap.setIfInBounds b (.loop { L with state := st', pending := pend' }) } := by
  obtain ⟨L', hb', e1, e2, e3, e4, e5, e6, e7, e8, e9⟩ := H.loop ho he
  rw [hb] at hb'; cases hb'
  exact H.put ho he rfl (MapKept.heap_set hb).1 (MapKept.heap_set hb).2 (by simp) ⟨rfl, rfl, e3, e4, e5, e6, e7, e8, e9⟩

/-- a frame is left -/
theorem doReturn_goes {cs : List AFr} {cs1 : List Frame} {h : AH} {w : World} {v : AV} {y : Value} {kind : CallKind} {m : Machine} (B : Base P Q N0 w0 η lo cs h cs1 w) (hv : concV Q η v = some y)
    (hst : ∀ c' rest, cs1 = c' :: rest → kind = .normal → step P m = .next (lone (c'.finish y) (rest ++ cs0) w))
    (hst2 : ∀ c' rest, cs1 = c' :: rest → kind = .deferred → step P m = .next (lone (match c'.mode with
        | .panicking ({ recovered := true, .. } :: older) => (match older.dropWhile (!·.goexit) with | [] => { c' with mode := .returning } | rest => { c' with mode := .panicking rest })
        | _ => c') (rest ++ cs0) w)) :
    Goes P Q N0 w0 cs0 m (doReturnA kind cs v h) := by
  cases cs with
  | nil => trivial
  | cons a as =>
    cases cs1 with
    | nil => exact B.st.elim
    | cons c' cs1 =>
      obtain ⟨hF, lo', hle, hp, hst'⟩ := B.st
      have B' : Base P Q N0 w0 η lo' as h cs1 w := ⟨B.hr, B.glob, B.fresh, Nat.le_trans hle B.le, hst'⟩
      cases kind with
      | normal =>
        show Goes P Q N0 w0 cs0 m (backA a as v h)
        by_cases hm : a.mode = .run
        · exact back_goes hF hm (fun p hp' => ⟨(hp p hp').1, Nat.lt_of_lt_of_le (hp p hp').2 B.le⟩) B' B.hr (.inl ⟨rfl, rfl⟩) hv (hst c' cs1 rfl rfl)
        · unfold backA
          cases hmm : a.mode with
          | run => exact absurd hmm hm
          | ret => trivial
          | pan ch => trivial
      | deferred =>
        show Goes P Q N0 w0 cs0 m (.next ⟨settleA a, as, h⟩)
        have hstep := hst2 c' cs1 rfl rfl
        obtain ⟨x', T', todo', ds', mode'⟩ := a
        have same : ∀ (e : (match c'.mode with
            | .panicking ({ recovered := true, .. } :: older) => (match older.dropWhile (!·.goexit) with | [] => { c' with mode := .returning } | rest => { c' with mode := .panicking rest })
            | _ => c') = c') (e2 : settleA ⟨x', T', todo', ds', mode'⟩ = ⟨x', T', todo', ds', mode'⟩), Goes P Q N0 w0 cs0 m (.next ⟨settleA ⟨x', T', todo', ds', mode'⟩, as, h⟩) := fun e e2 => by
          rw [e] at hstep
          rw [e2]
          exact Goes.head hstep (Goes.here ⟨η, lo', cs1, rfl, B', hF, fun p hp' => ⟨(hp p hp').1, Nat.lt_of_lt_of_le (hp p hp').2 B.le⟩⟩)
        cases mode' with
        | run => exact same (by rw [hF.md.1]) rfl
        | ret => exact same (by rw [hF.md.1]) rfl
        | pan ch =>
          obtain ⟨chain, g1, g2, g3, g4⟩ := hF.md
          cases ch with
          | nil => cases g1; exact same (by rw [g2]) rfl
          | cons e older =>
            obtain ⟨v', b'⟩ := e
            obtain ⟨y', l, g5, g6, rfl⟩ := concCh_cons g1
            cases b' with
            | false => exact same (by rw [g2]) rfl
            | true =>
              have hdrop : l.dropWhile (!·.goexit) = [] := by
                have : ∀ {o : List (AV × Bool)} {l : List PanicEntry}, concCh Q η o = some l → l.dropWhile (!·.goexit) = [] := by
                  intro o
                  induction o with
                  | nil => intro l h; cases h; rfl
                  | cons e o ih =>
                    intro l h
                    obtain ⟨a, l', _, h2, rfl⟩ := concCh_cons h
                    simp [List.dropWhile, ih h2]
                exact this g6
              have e1 : (match c'.mode with
                | .panicking ({ recovered := true, .. } :: older) => (match older.dropWhile (!·.goexit) with | [] => { c' with mode := .returning } | rest => { c' with mode := .panicking rest })
                | _ => c') = { c' with mode := .returning } := by rw [g2]; simp only [hdrop]
              rw [e1] at hstep
              exact Goes.head hstep (Goes.here ⟨η, lo', cs1, rfl, B', ⟨⟨hF.x.fn, hF.x.kind, hF.x.round⟩, hF.size, hF.ds, rfl, g3, g4⟩, fun p hp' => by simp [pendOf, settleA] at hp'⟩)
      | wrapped => trivial
      | report => trivial
      | early => trivial

end
end Go.Sx
namespace Go.Sx
open Go
section
variable {P : Program} {Sm : Sums} {Q : Nat → Value} {N0 : Keep} {w0 : World} {η : Env} {lo : Nat} {cs0 : List Frame}

theorem isNone_bool (j : Option Code) : j.isNone = (match j with | none => true | some _ => false) := by cases j <;> rfl

/-- a round ends -/
theorem round_goes {x : AX} {b : Frame} {h : AH} {w : World} {cs : List AFr} {cs1 : List Frame} {l : Nat} {j : Option Code} {m : Machine} (B : Base P Q N0 w0 η lo cs h cs1 w) (hx : XRel η x b) (hr : x.round = some l) {st : LoopState} {pend : Option Code} {fn : FuncId} {n : Nat} {tmps : Tr AV} {ps : List Tmp} {as body : Code} {d : Nat}
    (ho : h.obj l = some (.loop st pend fn n tmps ps as body d))
    (hst : ∀ bl, b.roundOf = some bl → b.kind = .normal → ∀ v w', (Instr.endRound bl j).run P w = .ok v w' → ∀ c' rest, cs1 = c' :: rest → step P m = .next (lone (c'.finish v) (rest ++ cs0) w')) :
    Goes P Q N0 w0 cs0 m (retRound x.kind cs (.bool j.isNone) (h.upd l (some (.loop (if j.isNone then .ready else .done) j fn n tmps ps as body d)))) := by
  unfold retRound
  cases hk : x.kind <;> simp only <;> try trivial
  rcases hx.round with ⟨h1, _⟩ | ⟨l', bl, base, cap, h1, h2, h3⟩
  · rw [hr] at h1; cases h1
  · rw [hr] at h1; cases h1
    obtain ⟨L, hb, _⟩ := B.hr.loop ho h3
    have hrun := run_endRound (P := P) (j := j) hb
    have hH := B.hr.putLoop (st' := if j.isNone then .ready else .done) (pend' := j) ho h3 hb
    exact doReturn_goes (B.same hH rfl) rfl (fun c' rest e _ => hst bl h2 (by rw [hx.kind, hk]) _ _ hrun c' rest e) (fun _ _ _ hk => by cases hk)

end
end Go.Sx
