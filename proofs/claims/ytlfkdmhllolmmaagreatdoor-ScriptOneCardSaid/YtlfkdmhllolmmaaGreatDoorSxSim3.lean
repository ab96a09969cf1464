/- The steps: loops over functions. -/
import Derived.Test.YtlfkdmhllolmmaaGreatDoorSxSim2
namespace Go.Sx
open Go
section
variable {P : Program} {Sm : Sums} {Q : Nat → Value} {N0 : Keep} {w0 : World} {η : Env} {lo : Nat} {cs0 : List Frame}

theorem stepG_rf {b : Frame} {a : Act} {k : List Item} {f : Operand} {ps : Array Tmp} {as body : Code} {cs : List Frame} {w w1 : World} {l : Nat} {mark : List Deferred}
    (hr : (Instr.enterLoop b.fn a.tmps ps as body b.roundOf).run P w = .ok (l, mark) w1) :
    (stepG P true { frame := b.atR a (.code (.rangeFunc f ps as body) :: k), callers := cs, status := .running, dying := none } w).bare =
    (stepG.apply P true (b.atR ⟨a.tmps, mark ++ a.defers⟩ (.inRangeFunc l :: k)) cs none
      (do let d ← resolve (b.atR ⟨a.tmps, mark ++ a.defers⟩ (.inRangeFunc l :: k)).eval { callee := .value f, args := #[.const (.func (.yield l) #[] #[])], argTypes := #[] } 0; invoke d.target d.args) w1).bare := by
  simp [stepG, stepG.exec, Frame.atR, Sem.runT_eq, hr]

theorem stepRF_goes (hQ : QOk Q ∧ SumOk P Q Sm) {x : AX} {b : Frame} {T : Tr AV} {arr : Array Value} {h : AH} {w : World} {cs : List AFr} {cs1 : List Frame} {ds : List ADf} {dfs : List Deferred} {k : List AIt} {items : List Item}
    {f : Operand} {ps : Array Tmp} {as body : Code}
    (B : Base P Q N0 w0 η lo cs h cs1 w) (ht : TmRel Q η T arr) (hs : arr.size = x.n) (hx : XRel η x b) (hd : concDfs Q η ds = some dfs) (hk : TdR η k items) :
    Goes P Q N0 w0 cs0 (lone (b.atR ⟨arr, dfs⟩ (.code (.rangeFunc f ps as body) :: items)) (cs1 ++ cs0) w) (stepRF P Sm x T f ps as body k ds cs h) := by
  unfold stepRF
  cases he : evalA T f with
  | none => trivial
  | some fa =>
    simp only
    cases hf : asFunc fa with
    | none => trivial
    | some p =>
      obtain ⟨fv, first, cap⟩ := p
      obtain rfl := asFunc_some hf
      simp only
      -- the deferred calls' place, then the loop's block
      have main : ∀ (η1 : Env) (h1 : AH) (w1 : World) (d : Nat) (mark : List ADf) (markc : List Deferred) (bd base1 cap1 : Nat), Grow η lo η1 → Base P Q N0 w0 η1 lo cs h1 cs1 w1 → concDfs Q η1 mark = some markc → η1 d = some (.blk bd base1 cap1) →
          (Instr.enterLoop b.fn arr ps as body b.roundOf).run P w = .ok (w1.heap.size, markc) (w1.alloc (.loop { state := .ready, pending := none, fn := b.fn, tmps := arr, params := ps, assign := as, body, defers := bd })) →
          Goes P Q N0 w0 cs0 (lone (b.atR ⟨arr, dfs⟩ (.code (.rangeFunc f ps as body) :: items)) (cs1 ++ cs0) w)
            (applyA P Sm ⟨x, T, .inRF h1.next :: k, mark ++ ds, .run⟩ cs (invokeA P (h1.new (.loop .ready none x.fn x.n T ps.toList as body d)) fv cap (first ++ [.func (.yield h1.next) [] []]))) := by
        intro η1 h1 w1 d mark markc bd base1 cap1 hg B1 hmark hdd hrun
        have hn1 := B1.fresh h1.next (Nat.le_refl _)
        have hx2 := Env.ext_with (.blk w1.heap.size 0 0) hn1
        have ht1 := ht.mono hg.ext
        have H2 := B1.hr.new hn1 (cap := 0) (o := .loop .ready none x.fn x.n T ps.toList as body d) (x := .loop { state := .ready, pending := none, fn := b.fn, tmps := arr, params := ps, assign := as, body, defers := bd })
          ⟨rfl, rfl, hx.fn, hs, ht1.mono hx2, rfl, rfl, rfl, base1, cap1, hx2 _ _ hdd⟩
        have hgrow2 : Grow η1 lo (η1.with h1.next (.blk w1.heap.size 0 0)) := ⟨hx2, fun i hi => Env.with_ne _ _ (by have := B1.le; omega)⟩
        have hfr2 : Fresh (η1.with h1.next (.blk w1.heap.size 0 0)) (h1.new (.loop .ready none x.fn x.n T ps.toList as body d)).next := fun i hi => by
          have hi : h1.next + 1 ≤ i := hi
          rw [Env.with_ne _ _ (by omega)]; exact B1.fresh i (by omega)
        have B2 := B1.grow H2 hgrow2 hfr2 (Nat.le_succ _)
        have hgr := hg.trans hgrow2
        have hc := eval_rel (ds := markc ++ dfs) B.glob (x := f) (fun t v _ hv => ht t v hv) he
        obtain ⟨g, fs, csv, g1, g2, g3, g4⟩ := conc_func (concV_mono hgr.ext _ hc)
        have hy : concV Q (η1.with h1.next (.blk w1.heap.size 0 0)) (.func (.yield h1.next) [] []) = some (.func (.yield w1.heap.size) #[] #[]) := by
          simp [concV, concFn, concVs, Env.with_self]
        have hargs := concVs_append g2 (concVs_mk hy (show concVs Q _ [] = some [] from rfl))
        have hI := invoke_rel B2.hr g1 g3 hargs
        have hF : FrR Q (η1.with h1.next (.blk w1.heap.size 0 0)) ⟨x, T, .inRF h1.next :: k, mark ++ ds, .run⟩ (b.atR ⟨arr, markc ++ dfs⟩ (.inRangeFunc w1.heap.size :: items)) := by
          refine ⟨(hx.mono hgr.ext).atR _ _, hs, ?_, ⟨rfl, .inl ⟨⟨⟨0, 0, Env.with_self _ _ _⟩, hk.mono hgr.ext⟩, ht.mono hgr.ext⟩⟩⟩
          exact concDfs_app (concDfs_mono hx2 hmark) (concDfs_mono hgr.ext hd)
        refine applyA_goesM hQ.2 hF rfl (fun p hp => by simp [pendOf] at hp) B2 (fun fr' cs' w' e => step_lone_go ((stepG_rf (a := ⟨arr, dfs⟩) hrun).trans e)) ?_
        rw [show (do let d ← resolve (b.atR ⟨arr, markc ++ dfs⟩ (.inRangeFunc w1.heap.size :: items)).eval { callee := .value f, args := #[.const (.func (.yield w1.heap.size) #[] #[])], argTypes := #[] } 0; invoke d.target d.args : Sem Next).run P
            (w1.alloc (.loop { state := .ready, pending := none, fn := b.fn, tmps := arr, params := ps, assign := as, body, defers := bd })) = (invoke (.fn g ⟨csv⟩) (fs ++ [Value.func (.yield w1.heap.size) #[] #[]]).toArray).run P
            (w1.alloc (.loop { state := .ready, pending := none, fn := b.fn, tmps := arr, params := ps, assign := as, body, defers := bd })) by
          rw [Frame.eval_atR]
          simp only [resolve, g4, Deferred.ofValue, Sem.run_bind, Sem.run_pure, Result.andThen_ok]
          simp [Act.eval]]
        exact hI
      unfold dfrOf
      cases hr : x.round with
      | some l =>
        simp only
        rcases hx.round with ⟨h1, _⟩ | ⟨l', bl, base, cp, h1, h2, h3⟩
        · rw [hr] at h1; cases h1
        · rw [hr] at h1; cases h1
          split
          · trivial
          · rename_i d' mark' hh hdf
            split at hdf
            · rename_i st pd fn n tm pr as' bd' d ho
              cases hdf
              obtain ⟨L, hb, _, _, _, _, _, _, _, _, base1, cap1, hdd⟩ := B.hr.loop ho h3
              exact main η _ w d' [] [] L.defers base1 cap1 (Grow.refl _ _) B rfl hdd (by
                rw [h2]
                simp [Instr.enterLoop, run_getLoop hb])
            · cases hdf
      | none =>
        simp only
        have hb : b.roundOf = none := by
          rcases hx.round with ⟨_, h2⟩ | ⟨l, _, _, _, h2, _⟩
          · exact h2
          · rw [hr] at h2; cases h2
        have hn := B.fresh h.next (Nat.le_refl _)
        have hx1 := Env.ext_with (.blk w.heap.size 0 0) hn
        have H1 := B.hr.new hn (cap := 0) (o := .dfr (some [])) (x := .deferred (some [])) (show DfrRel Q _ (some []) (some []) from rfl)
        have hgrow : Grow η lo (η.with h.next (.blk w.heap.size 0 0)) := ⟨hx1, fun i hi => Env.with_ne _ _ (by have := B.le; omega)⟩
        have hfr : Fresh (η.with h.next (.blk w.heap.size 0 0)) (h.new (.dfr (some []))).next := fun i hi => by
          have hi : h.next + 1 ≤ i := hi
          rw [Env.with_ne _ _ (by omega)]; exact B.fresh i (by omega)
        refine main _ _ _ h.next [⟨.col h.next, []⟩] [⟨.collected w.heap.size, #[]⟩] w.heap.size 0 0 hgrow (B.grow H1 hgrow hfr (Nat.le_succ _)) ?_ (Env.with_self _ _ _) ?_
        · simp [concDfs, concDf, Env.with_self]
        · rw [hb]
          simp [Instr.enterLoop]

end
end Go.Sx
