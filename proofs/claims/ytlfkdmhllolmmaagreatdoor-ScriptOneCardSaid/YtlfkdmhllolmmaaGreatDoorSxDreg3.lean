/- A region that draws its order, all in all. -/
import Derived.Test.YtlfkdmhllolmmaaGreatDoorSxMulti2
namespace Go.Sx
open Go

section
variable {P : Program} {Sm : Sums} {Q : Nat → Value} {N0 : Keep} {w0 : World} {lo : Nat} {cs0 : List Frame}

theorem stepDreg_goes (hQ : QOk Q ∧ SumOk P Q Sm) {η : Env} {x : AX} {b : Frame} {ops : Array Oper} {done : Nat} {pend : List (Nat × Nat)} {T : Tr AV} {arr : Array Value} {h : AH} {w : World} {cs : List AFr} {cs1 : List Frame}
    {ds : List ADf} {dfs : List Deferred} {k : List AIt} {items : List Item} {ord : List Nat} (B : Base P Q N0 w0 η lo cs h cs1 w) (D : DR η ops done pend ord) (ht : TmX Q (Excl ops done ord) η T arr)
    (hs : arr.size = x.n) (hx : XRel η x b) (hids : ∀ p ∈ pend, lo ≤ p.2 ∧ p.2 < h.next) (hd : concDfs Q η ds = some dfs) (hk : TdR η k items) :
    Goes P Q N0 w0 cs0 (lone (b.atR ⟨arr, dfs⟩ (.inRegion ops ord :: items)) (cs1 ++ cs0) w) (stepDreg P Sm x T ops done pend k ds cs h) := by
  unfold stepDreg
  cases hsat : satL P Sm x ops ops.toList (nat_lit 0) T h done pend [] with
  | none => trivial
  | some p =>
    obtain ⟨T1, h1, done1, pend1, found⟩ := p
    obtain ⟨S, F⟩ := satL_rel (P := P) (arr := arr) (w := w) (ord := ord) (lo := lo) (N0 := N0) (w0 := w0) (Q := Q) (η := η) hQ.2.1 (dregOk_spec D.ok) ops.toList 0 (by simp) hsat ⟨B.hr, B.fresh, D, ht, B.le, hids⟩ ⟨fun i o hi => absurd hi (Nat.not_lt_zero i), (fun g hg => by cases hg), List.nodup_nil⟩
    simp only at S F
    simp only
    have B1 : Base P Q N0 w0 η lo cs h1 cs1 w := ⟨S.hr, B.glob, S.fresh, S.le, B.st⟩
    cases found with
    | nil =>
      simp only
      cases hval : validL P Sm x ops T1 h1 pend1 with
      | false => trivial
      | true =>
        rw [sel_true]
        obtain ⟨η', arr', ord', w', g1, g2, g3, g4, g5, g6, g7, g8⟩ := lights_go (callers := cs1 ++ cs0) (dfs := dfs) (items := items) (b := b) hQ F S.ids hval ord B1 S.dr S.tm hs hx
        have hd' := concDfs_mono g2.ext hd
        have hk' := hk.mono g2.ext
        rcases g8 with rfl | ⟨g, r, h2, _⟩
        · cases Nat.beq done1 (Nat.sub (Nat.pow (nat_lit 2) ops.toList.length) (nat_lit 1)) with
          | false => trivial
          | true =>
            rw [sel_true]
            refine Goes.trans g1 (Goes.head stepR_region_end (Goes.here ⟨η', lo, cs1, rfl, g3, ⟨g7.atR _ _, g6, hd', ⟨rfl, .inl ⟨hk', fun t v hv => g5 t v hv fun ⟨i, hi, _⟩ => by cases hi⟩⟩⟩, fun p hp => ?_⟩))
            exfalso
            revert hp
            cases k with
            | nil => simp [pendOf]
            | cons it k =>
              cases items with
              | nil => exact hk.elim
              | cons it' items =>
                cases it <;> simp [pendOf]
                cases it' <;> exact hk.1.elim
        · cases h2
    | cons g rest =>
      cases rest with
      | nil =>
        simp only
        cases hval : validL P Sm x ops T1 h1 pend1 with
        | false => trivial
        | true =>
          rw [sel_true]
          obtain ⟨η', arr', ord', w', g1, g2, g3, g4, g5, g6, g7, g8⟩ := lights_go (callers := cs1 ++ cs0) (dfs := dfs) (items := items) (b := b) hQ F S.ids hval ord B1 S.dr S.tm hs hx
          have hd' := concDfs_mono g2.ext hd
          have hk' := hk.mono g2.ext
          rcases g8 with rfl | ⟨g', r, h2, rfl, h3⟩
          · obtain ⟨h4, o, ho, h5⟩ := F.2.1 g (by simp)
            rw [g4.doneOf g h4 (by simp)] at h5; cases h5
          · simp only [List.mem_singleton] at h2
            subst h2
            exact Goes.trans g1 (heavy_goes hQ g3 g4 g5 g6 g7 S.ids h3 hd' hk')
      | cons g' rest =>
        simp only
        unfold multiA
        simp only
        cases insHead T1 ops g with
        | some _ =>
          simp only
          cases hi : insAllA P T1 ops g (g :: g' :: rest) h1 with
          | none => trivial
          | some z =>
            obtain ⟨⟨st, M⟩, hn⟩ := inserts_multi (ir := x.round.isSome) F.2.2 (show insAllA P T1 ops g (g :: g' :: rest) h1 = some (z.1, z.2) from hi)
            exact multiB_goes hQ F (by simp) M hn B1 S.dr S.tm hs hx S.ids hd hk
        | none =>
          simp only
          cases hi : storesA P T1 ops (g :: g' :: rest) h1 with
          | none => trivial
          | some z =>
            simp only
            cases hdd : distinct z.1 with
            | false => unfold multiB; rw [hdd]; trivial
            | true =>
              obtain ⟨⟨st, M⟩, hn⟩ := stores_multi (ir := x.round.isSome) F.2.2 (show storesA P T1 ops (g :: g' :: rest) h1 = some (z.1, z.2) from hi) (distinct_spec hdd)
              exact multiB_goes hQ F (by simp) M hn B1 S.dr S.tm hs hx S.ids hd hk

end
end Go.Sx
