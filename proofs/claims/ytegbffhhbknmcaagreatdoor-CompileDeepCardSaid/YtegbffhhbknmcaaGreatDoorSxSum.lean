/- Calls that are known: a run from the first heap serves in every heap that holds the row. -/
import Derived.Test.YtegbffhhbknmcaaGreatDoorSxSim5
namespace Go.Sx
open Go

section
variable {P : Program} {Q : Nat → Value} {N0 : Nat} {w0 : World} {η : Env} {h : AH} {w w' : World}

/-- what is there stays, where blocks are but added -/
theorem HR.later (H : HR P Q N0 w0 η h w) (hb : ∀ b, b < w.heap.size → w'.heap[b]? = w.heap[b]?) (hs : w.heap.size ≤ w'.heap.size) (hio : w'.os = w.os ∧ w'.output = w.output) : HR P Q N0 w0 η h w' := by
  have lt : ∀ (b : Nat) (x : Obj), w.heap[b]? = some x → b < w.heap.size := fun b x hx => by
    rcases Nat.lt_or_ge b w.heap.size with h | h
    · exact h
    · rw [Array.getElem?_eq_none h] at hx; cases hx
  refine ⟨fun id o ho e he => ?_, H.inj, fun b hlt => ?_, Nat.le_trans H.size hs, hio.1.trans H.io.1, hio.2.trans H.io.2⟩
  · obtain ⟨b, base, cap, x, h0, h1, h2, h3⟩ := H.obj id o ho e he
    exact ⟨b, base, cap, x, h0, (hb b (lt b x h1)).trans h1, h2, h3⟩
  · exact (hb b (Nat.lt_of_lt_of_le hlt H.size)).trans (H.below b hlt)

/-- the first environment: the package's variables -/
def env0 : Env := fun i => if i < 64 then some (.blk i 0 0) else none
theorem env0_glob : ∀ g, g < 64 → env0 g = some (.blk g 0 0) := fun g hg => by simp [env0, hg]
theorem env0_fresh : Fresh env0 64 := fun i hi => by simp [env0, Nat.not_lt.2 hi]

/-- a table of bytes -/
def tab (zs : List Int) : List AV := zs.map fun z => .int .u8 z
noncomputable def heap0 (g : Nat) (t : TypeId) (zs : List Int) : AH := ⟨(Tr.nil).putO fuel g (some (.cells true (tab zs) t)), 64⟩

theorem tab_conc {zs : List Int} {j : Nat} {v : AV} (h : (tab zs)[j]? = some v) (η : Env) : ∃ z, v = .int .u8 z ∧ concV Q η v = some (.int .u8 z) := by
  simp only [tab, List.getElem?_map] at h
  cases e : zs[j]? with
  | none => rw [e] at h; cases h
  | some z => rw [e] at h; cases h; exact ⟨z, rfl, rfl⟩

theorem start_hr {g : Nat} {t : TypeId} {zs : List Int} {c : Array Value} {fr : Nat × Nat} (hg : g < 64) (hb : w.heap[g]? = some (.cells c t fr)) (hc : CellsRel Q η (tab zs) 0 c) (hn : NotFrozen c fr) :
    HR P Q w.heap.size w env0 (heap0 g t zs) w := by
  have hobj : ∀ id o, (heap0 g t zs).obj id = some o → id = g ∧ o = .cells true (tab zs) t := fun id o ho => by
    rcases Tr.get_putO fuel _ _ _ _ _ ho with ⟨h1, h2⟩ | ⟨_, h2⟩
    · cases h2; exact ⟨h1, rfl⟩
    · rw [Tr.get_nilO] at h2; cases h2
  refine ⟨fun id o ho e he => ?_, fun i j oi oj b b1 c1 b2 c2 hi hj _ _ => ?_, fun _ _ => rfl, Nat.le_refl _, rfl, rfl⟩
  · obtain ⟨rfl, rfl⟩ := hobj id o ho
    rw [env0_glob id hg] at he
    cases he
    refine ⟨id, 0, 0, _, rfl, hb, ⟨rfl, fun j v hv => ?_, hn, by simp⟩, fun h => by cases h⟩
    obtain ⟨x, h1, h2⟩ := hc j v hv
    obtain ⟨z, rfl, h3⟩ := tab_conc (Q := Q) hv η
    rw [h3] at h2
    cases h2
    exact ⟨_, h1, rfl⟩
  · rw [(hobj i oi hi).1, (hobj j oj hj).1]

/-- no call is known -/
def noSum : Sums := fun _ _ _ => none
theorem noSum_ok : SumOk P Q noSum := fun _ _ _ h => by cases h

/-- is it done, with 'true'? -/
def Out.yes (f : FuncId) : Out → Bool
  | .done g (.bool true) _ => Nat.beq g f
  | _ => false
theorem Out.yes_done {f : FuncId} {o : Out} (h : o.yes f = true) : ∃ h', o = .done f (.bool true) h' := by
  unfold Out.yes at h
  split at h
  · rename_i g h'; exact ⟨h', by rw [Nat.eq_of_beq_eq_true h]⟩
  · cases h

noncomputable def launch (P : Program) (f : FuncId) (args : List AV) (h : AH) : Out := match enterA P f args .normal with | some fr => .next ⟨fr, [], h⟩ | none => .fail

/-- a run from the first heap that answers 'true' -/
theorem run_yes {Sm : Sums} (hQ : QOk Q ∧ SumOk P Q Sm) (hmix : P.follows .mixedOrders = true) {f : FuncId} {args : List AV} {xs : List Value} {k g : Nat} {t : TypeId} {zs : List Int} {c : Array Value} {fr : Nat × Nat}
    (hg : g < 64) (hb : w.heap[g]? = some (.cells c t fr)) (hc : CellsRel Q η (tab zs) 0 c) (hn : NotFrozen c fr) (ha : concVs Q env0 args = some xs)
    (hrun : (runK P Sm k (launch P f args (heap0 g t zs))).yes f = true) :
    Calls P f xs.toArray w (fun e w' => e = .returned (.bool true) ∧ (∀ b, b < w.heap.size → w'.heap[b]? = w.heap[b]?) ∧ w.heap.size ≤ w'.heap.size ∧ w'.os = w.os ∧ w'.output = w.output) := by
  obtain ⟨h', hd⟩ := Out.yes_done hrun
  unfold launch at hd
  cases he : enterA P f args .normal with
  | none =>
    rw [he] at hd
    have : ∀ k, runK P Sm k .fail = .fail := fun k => by induction k with | zero => rfl | succ k ih => simp only [runK, ih]
    rw [this] at hd; cases hd
  | some frm =>
    rw [he] at hd
    refine (run_calls hQ hmix (start_hr hg hb hc hn) env0_glob env0_fresh ha he hd).mono fun e w' ⟨η', x, h1, h2, h3⟩ => ?_
    cases h2
    exact ⟨h1, h3.below, h3.size, h3.io⟩

/-- a call without arguments that is known to answer 'true' -/
noncomputable def sumYes (f : FuncId) (g : Nat) (t : TypeId) (zs : List Int) : Sums := fun f' args h =>
  sel (Nat.beq f' f) (match args with | [] => sel (eqObj (h.obj g) (some (.cells true (tab zs) t))) (some (.bool true, h)) none | _ => none) none

theorem sumYes_ok (hQ : QOk Q) (hmix : P.follows .mixedOrders = true) {f : FuncId} {g : Nat} {t : TypeId} {zs : List Int} {k : Nat} (hg : g < 64)
    (hrun : (runK P noSum k (launch P f [] (heap0 g t zs))).yes f = true) : SumOk P Q (sumYes f g t zs) := by
  intro N0 w0 η h h' w f' args v xs H hglob hfr hS ha
  unfold sumYes at hS
  have ⟨h1, h2⟩ := sel_some.1 hS
  obtain rfl := Nat.eq_of_beq_eq_true h1
  cases args with
  | cons _ _ => cases h2
  | nil =>
    have ⟨h3, h4⟩ := sel_some.1 h2
    cases h4
    cases ha
    obtain ⟨o, ho, eo⟩ := eqObj_sound h3
    cases eo
    obtain ⟨b, base, cap, x, e1, hb, hrel, _⟩ := H.obj g _ ho _ (hglob g hg)
    cases e1
    cases x with
    | cells c e fr =>
      obtain ⟨rfl, hc, hn, _⟩ := hrel
      refine (run_yes ⟨hQ, noSum_ok⟩ hmix hg hb hc hn (xs := []) rfl hrun).mono fun e w' ⟨h5, h6, h7, h8⟩ => ?_
      exact ⟨η, .bool true, h5, Grow.refl _ _, hfr, Nat.le_refl _, rfl, H.later h6 h7 h8⟩
    | _ => exact hrel.elim

end
end Go.Sx
