/- A region that draws its order, all in all. -/
import Derived.Test.YtlfkdmhllolmmaaGreatDoorSxDreg
namespace Go.Sx
open Go

section
variable {P : Program} {Sm : Sums} {Q : Nat → Value} {N0 : Keep} {w0 : World} {lo : Nat} {cs0 : List Frame}

/-- the light ones that are first are done -/
theorem lights_go (hQ : QOk Q ∧ SumOk P Q Sm) {x : AX} {b : Frame} {ops : Array Oper} {done : Nat} {pend : List (Nat × Nat)} {T : Tr AV} {h : AH} {cs : List AFr} {cs1 callers : List Frame}
    {dfs : List Deferred} {items : List Item} {found : List Nat} (hF : Ripe ops ops.size done found) (hids : ∀ p ∈ pend, lo ≤ p.2 ∧ p.2 < h.next) (hval : validL P Sm x ops T h pend = true) :
    ∀ (ord : List Nat) {η : Env} {arr : Array Value} {w : World}, Base P Q N0 w0 η lo cs h cs1 w → DR η ops done pend ord → TmX Q (Excl ops done ord) η T arr → arr.size = x.n → XRel η x b →
    ∃ η' arr' ord' w', Steps P (lone (b.atR ⟨arr, dfs⟩ (.inRegion ops ord :: items)) callers w) (lone (b.atR ⟨arr', dfs⟩ (.inRegion ops ord' :: items)) callers w') ∧
      Grow η lo η' ∧ Base P Q N0 w0 η' lo cs h cs1 w' ∧ DR η' ops done pend ord' ∧ TmX Q (Excl ops done ord') η' T arr' ∧ arr'.size = x.n ∧ XRel η' x b ∧
      (ord' = [] ∨ ∃ g r, g ∈ found ∧ ord' = g :: r ∧ bit done g = false)
  | [], η, arr, w, B, D, ht, hs, hx => ⟨η, arr, [], w, .refl P _, Grow.refl _ _, B, D, ht, hs, hx, .inl rfl⟩
  | j :: r, η, arr, w, B, D, ht, hs, hx => by
    cases hb : bit done j with
    | true =>
      obtain ⟨η1, arr1, w1, h1, h2, h3, h4, h5, h6, _⟩ := light_step (callers := callers) (dfs := dfs) (items := items) hQ B D ht hs hx hids hb hval
      obtain ⟨η', arr', ord', w', g1, g2, g3, g4, g5, g6, g7, g8⟩ := lights_go hQ hF hids hval r h3 h4 h5 h6 (hx.mono h2.ext)
      exact ⟨η', arr', ord', w', Steps.trans h1 g1, h2.trans g2, g3, g4, g5, g6, g7, g8⟩
    | false =>
      have hlt := D.lt j (by simp)
      have ho : ops[j]? = some ops[j] := Array.getElem?_eq_getElem hlt
      have hp : predsIn done (ops[j]).after.toList = true := predsIn_spec.2 fun e he heb => by
        have h1 := (dregOk_spec D.ok).edges j _ ho e he heb
        exact D.doneOf e.on (by omega) (D.lin [] j r rfl _ ho e he heb)
      exact ⟨η, arr, j :: r, w, .refl P _, Grow.refl _ _, B, D, ht, hs, hx, .inr ⟨j, r, hF.1 j _ hlt ho hb hp, rfl, hb⟩⟩

/-- a heavy one -/
theorem heavy_goes (hQ : QOk Q ∧ SumOk P Q Sm) {η : Env} {x : AX} {b : Frame} {ops : Array Oper} {done : Nat} {pend : List (Nat × Nat)} {T : Tr AV} {arr : Array Value} {h : AH} {w : World} {cs : List AFr} {cs1 : List Frame}
    {ds : List ADf} {dfs : List Deferred} {k : List AIt} {items : List Item} {g : Nat} {r : List Nat} (B : Base P Q N0 w0 η lo cs h cs1 w) (D : DR η ops done pend (g :: r)) (ht : TmX Q (Excl ops done (g :: r)) η T arr)
    (hs : arr.size = x.n) (hx : XRel η x b) (hids : ∀ p ∈ pend, lo ≤ p.2 ∧ p.2 < h.next) (hb : bit done g = false) (hd : concDfs Q η ds = some dfs) (hk : TdR η k items) :
    Goes P Q N0 w0 cs0 (lone (b.atR ⟨arr, dfs⟩ (.inRegion ops (g :: r) :: items)) (cs1 ++ cs0) w) (heavyA P Sm x T ops done pend g k ds cs h) := by
  have hlt := D.lt g (by simp)
  have ho : ops[g]? = some ops[g] := Array.getElem?_eq_getElem hlt
  generalize ops[g] = o at ho
  have hF : FrR Q η ⟨x, T, .dreg ops done pend (some g) :: k, ds, .run⟩ (b.atR ⟨arr, dfs⟩ (.inRegion ops (g :: r) :: items)) :=
    ⟨hx.atR _ _, hs, hd, ⟨rfl, .inr ⟨ops, done, pend, some g, k, g :: r, items, rfl, rfl, hk, D, fun q hq => by cases hq; exact ⟨r, rfl, hb⟩, ht⟩⟩⟩
  have hp : ∀ p ∈ pendOf ⟨x, T, .dreg ops done pend (some g) :: k, ds, .run⟩, lo ≤ p.2 ∧ p.2 < h.next := hids
  unfold heavyA
  rw [nth_eq, Array.getElem?_toList, ho]
  simp only
  have run : Region.wanted o (yielded ops arr) = true →
      Goes P Q N0 w0 cs0 (lone (b.atR ⟨arr, dfs⟩ (.inRegion ops (g :: r) :: items)) (cs1 ++ cs0) w) (applyA P Sm ⟨x, T, .dreg ops done pend (some g) :: k, ds, .run⟩ cs (opA P T h x.round.isSome o)) := fun hw => by
    by_cases hne : opA P T h x.round.isSome o = .fail
    · rw [hne]; trivial
    have hsel : ∀ cs b, o.op ≠ .select cs b := fun cs b e => hne (by
      obtain ⟨dst, op, ty, pos, after, guard⟩ := o
      simp only at e
      subst e; rfl)
    have hev := EvOn.of_tmx (ds := dfs) B.glob D ht ho hsel
    have hO := opA_rel (P := P) (h := h) (o := o) (ir := x.round.isSome) hQ.1 B.hr (B.fresh _ (Nat.le_refl _)) hev
    have hst := stepGR_op (P := P) (b := b) (a := ⟨arr, dfs⟩) (k := items) (cs := cs1 ++ cs0) (w := w) (rest := r) ho hw
    rw [semAt_exec hx _ hne] at hst
    exact applyA_goes hQ.2 hF rfl hp B hst hO
  cases hg : o.guard with
  | none => exact run (by simp [Region.wanted, hg])
  | some q =>
    simp only
    cases hga : guardA ops T q.1 q.2 with
    | none => trivial
    | some t =>
      have hy := guard_tmx D ht ho hg hga
      have hw : Region.wanted o (yielded ops arr) = t := by simp only [Region.wanted, hg]; exact hy
      cases t with
      | true => exact run hw
      | false =>
        have hsk := stepR_op_skip (P := P) (b := b) (a := ⟨arr, dfs⟩) (k := items) (cs := cs1 ++ cs0) (w := w) (ops := ops) (i := g) (rest := r) (by simp only [ho, Option.map_some, Option.getD_some]; exact hw)
        rw [← Frame.finish_atR] at hsk
        exact back_goes hF rfl hp B B.hr (.inl ⟨rfl, rfl⟩) undef_conc hsk

end
end Go.Sx
