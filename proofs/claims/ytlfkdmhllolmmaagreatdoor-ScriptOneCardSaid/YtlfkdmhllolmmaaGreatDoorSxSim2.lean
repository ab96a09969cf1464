/- The steps: code. -/
import Derived.Test.YtlfkdmhllolmmaaGreatDoorSxSim
namespace Go.Sx
open Go
section
variable {P : Program} {Sm : Sums} {Q : Nat → Value} {N0 : Keep} {w0 : World} {η : Env} {lo : Nat} {cs0 : List Frame}

/-- where a frame is left: the end, 'return', a jump out of a round -/
theorem leave_goes {x : AX} {b : Frame} {T : Tr AV} {arr : Array Value} {h : AH} {w : World} {cs : List AFr} {cs1 : List Frame} {ds : List ADf} {dfs : List Deferred} {todo : List AIt} {items : List Item} {j : Option Code}
    (B : Base P Q N0 w0 η lo cs h cs1 w) (ht : TmRel Q η T arr) (hs : arr.size = x.n) (hx : XRel η x b) (hd : concDfs Q η ds = some dfs) (hn : NoCall items)
    (hnone : b.roundOf = none → (j = none ∨ j = some .ret) → step P (lone (b.atR ⟨arr, dfs⟩ items) (cs1 ++ cs0) w) = .next (lone { b.atR ⟨arr, dfs⟩ items with mode := .returning } (cs1 ++ cs0) w))
    (hround : ∀ bl, b.roundOf = some bl → b.kind = .normal → ∀ v w', (Instr.endRound bl j).run P w = .ok v w' → ∀ c' rest, cs1 = c' :: rest → step P (lone (b.atR ⟨arr, dfs⟩ items) (cs1 ++ cs0) w) = .next (lone (c'.finish v) (rest ++ cs0) w')) :
    Goes P Q N0 w0 cs0 (lone (b.atR ⟨arr, dfs⟩ items) (cs1 ++ cs0) w) (leaveA x T todo ds cs h j) := by
  unfold leaveA
  cases hr : x.round with
  | none =>
    simp only
    have hb : b.roundOf = none := by
      rcases hx.round with ⟨_, h2⟩ | ⟨l, _, _, _, h2, _⟩
      · exact h2
      · rw [hr] at h2; cases h2
    have fin : (j = none ∨ j = some .ret) → Goes P Q N0 w0 cs0 (lone (b.atR ⟨arr, dfs⟩ items) (cs1 ++ cs0) w) (.next ⟨⟨x, T, todo, ds, .ret⟩, cs, h⟩) := fun hj =>
      Goes.head (hnone hb hj) (Goes.here ⟨η, lo, cs1, rfl, B, ⟨⟨hx.fn, hx.kind, hx.round⟩, hs, hd, rfl, ht, hn⟩, by simp [pendOf]⟩)
    split
    · exact fin (.inl rfl)
    · exact fin (.inr rfl)
    · trivial
  | some l =>
    simp only
    split
    · rename_i st pend fn n tmps ps as body d ho
      cases j with
      | none => exact round_goes (j := none) B hx hr ho hround
      | some j => exact round_goes (j := some j) B hx hr ho hround
    · trivial

theorem stepExit_goes {x : AX} {b : Frame} {T : Tr AV} {arr : Array Value} {h : AH} {w : World} {cs : List AFr} {cs1 : List Frame} {ds : List ADf} {dfs : List Deferred} {k : List AIt} {items : List Item} {id : Nat}
    (B : Base P Q N0 w0 η lo cs h cs1 w) (ht : TmRel Q η T arr) (hs : arr.size = x.n) (hx : XRel η x b) (hd : concDfs Q η ds = some dfs) (hk : TdR η k items)
    (hno : exitToA id k = none → exitTo id items = none) :
    Goes P Q N0 w0 cs0 (lone (b.atR ⟨arr, dfs⟩ (.code (.exit id) :: items)) (cs1 ++ cs0) w) (stepExit x T id k ds cs h) := by
  unfold stepExit
  cases he : exitToA id k with
  | some k' =>
    obtain ⟨items', h1, h2⟩ := exitTo_rel he hk
    exact Goes.head (stepR_exit h1) (on_goes B ht hs hx hd h2)
  | none =>
    have h1 := hno he
    refine leave_goes B ht hs hx hd (fun d b r s k e => by cases e) (fun _ hj => by rcases hj with h | h <;> cases h) (fun bl hb hkd v w' hr c' rest e => ?_)
    subst e
    exact stepR_round_exit hb hkd h1 hr

theorem exitTo_none {id : Nat} : ∀ {k : List AIt} {items : List Item}, TdR η k items → exitToA id k = none → exitTo id items = none
  | [], items, hk, _ => by
    cases items with
    | nil => rfl
    | cons _ _ => exact hk.elim
  | it :: k, items, hk, h => by
    cases items with
    | nil => exact hk.elim
    | cons it' items =>
      obtain ⟨h1, h2⟩ := hk
      cases it <;> cases it' <;> try (exact h1.elim)
      case inBlock.inBlock i j =>
        have : i = j := h1
        subst this
        unfold exitToA at h
        cases hb : Nat.beq i id with
        | true => rw [hb, sel_true] at h; cases h
        | false =>
          rw [hb, sel_false] at h
          simp [exitTo, beq_no.1 hb, exitTo_none h2 h]
      all_goals
        have h3 := exitTo_none h2 (show exitToA id k = none from h)
        simpa [exitTo] using h3

theorem gotoIn_none {l : Nat} : ∀ {k : List AIt} {items : List Item}, TdR η k items → gotoInA l k = none → gotoIn l items = none
  | [], items, hk, _ => by
    cases items with
    | nil => rfl
    | cons _ _ => exact hk.elim
  | it :: k, items, hk, h => by
    cases items with
    | nil => exact hk.elim
    | cons it' items =>
      obtain ⟨h1, h2⟩ := hk
      cases it <;> cases it' <;> try (exact h1.elim)
      case inScope.inScope c c' =>
        have : c = c' := h1
        subst this
        unfold gotoInA at h
        cases hf : findLabel c l with
        | some rest => rw [hf] at h; cases h
        | none =>
          rw [hf] at h
          simp [gotoIn, hf, gotoIn_none h2 h]
      all_goals
        have h3 := gotoIn_none h2 (show gotoInA l k = none from h)
        simpa [gotoIn] using h3

theorem stepGoto_goes {x : AX} {b : Frame} {T : Tr AV} {arr : Array Value} {h : AH} {w : World} {cs : List AFr} {cs1 : List Frame} {ds : List ADf} {dfs : List Deferred} {k : List AIt} {items : List Item} {l : Nat}
    (B : Base P Q N0 w0 η lo cs h cs1 w) (ht : TmRel Q η T arr) (hs : arr.size = x.n) (hx : XRel η x b) (hd : concDfs Q η ds = some dfs) (hk : TdR η k items) :
    Goes P Q N0 w0 cs0 (lone (b.atR ⟨arr, dfs⟩ (.code (.goto l) :: items)) (cs1 ++ cs0) w) (stepGoto x T l k ds cs h) := by
  unfold stepGoto
  cases he : gotoInA l k with
  | some k' =>
    obtain ⟨items', h1, h2⟩ := gotoIn_rel he hk
    exact Goes.head (stepR_goto h1) (on_goes B ht hs hx hd h2)
  | none =>
    have h1 := gotoIn_none hk he
    refine leave_goes B ht hs hx hd (fun d b r s k e => by cases e) (fun _ hj => by rcases hj with h | h <;> cases h) (fun bl hb hkd v w' hr c' rest e => ?_)
    subst e
    exact stepR_round_goto hb hkd h1 hr

end
end Go.Sx
