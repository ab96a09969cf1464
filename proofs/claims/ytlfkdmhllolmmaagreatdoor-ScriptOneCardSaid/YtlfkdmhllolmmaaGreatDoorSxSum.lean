/- Calls that are known: a run from the first heap serves in every heap that holds the row. -/
import Derived.Test.YtlfkdmhllolmmaaGreatDoorSxSim5
namespace Go.Sx
open Go

section
variable {P : Program} {Q : Nat → Value} {N0 : Keep} {w0 : World} {η : Env} {h : AH} {w w' : World}

/-- what is there stays, where blocks are but added -/
theorem HR.later (H : HR P Q N0 w0 η h w) (hb : ∀ b, b < w.heap.size → w'.heap[b]? = w.heap[b]?) (hs : w.heap.size ≤ w'.heap.size) (hio : w'.os = w.os ∧ w'.output = w.output) : HR P Q N0 w0 η h w' := by
  have lt : ∀ (b : Nat) (x : Obj), w.heap[b]? = some x → b < w.heap.size := fun b x hx => by
    rcases Nat.lt_or_ge b w.heap.size with h | h
    · exact h
    · rw [Array.getElem?_eq_none h] at hx; cases hx
  refine ⟨fun id o ho e he => ?_, H.inj, fun b hlt => ?_, fun b hb' => Nat.lt_of_lt_of_le (H.size b hb') hs, H.froz, hio.1.trans H.io.1, hio.2.trans H.io.2⟩
  · obtain ⟨b, base, cap, x, h0, h1, h2, h3⟩ := H.obj id o ho e he
    exact ⟨b, base, cap, x, h0, (hb b (lt b x h1)).trans h1, h2, h3⟩
  · exact (hb b (H.size b hlt)).trans (H.below b hlt)

/-- the first environment: the package's variables -/
def env0 : Env := fun i => if i < 64 then some (.blk i 0 0) else none
theorem env0_glob : ∀ g, g < 64 → env0 g = some (.blk g 0 0) := fun g hg => by simp [env0, hg]
theorem env0_fresh : Fresh env0 64 := fun i hi => by simp [env0, Nat.not_lt.2 hi]

/-- a table of bytes -/
def tab (zs : List Int) : List AV := zs.map fun z => .int .u8 z
noncomputable def heap0 (g : Nat) (t : TypeId) (zs : List Int) : AH := ⟨(Tr.nil).putO fuel g (some (.cells true (tab zs) t)), 64⟩

theorem tab_conc {zs : List Int} {j : Nat} {v : AV} (h : (tab zs)[j]? = some v) (η : Env) : ∃ z, v = .int .u8 z ∧ concV Q η v = some (.int .u8 z) := by
  simp only [tab, List.getElem?_map] at h
  cases e : zs[j]? with
  | none => rw [e] at h; cases h
  | some z => rw [e] at h; cases h; exact ⟨z, rfl, rfl⟩

theorem start_hr {g : Nat} {t : TypeId} {zs : List Int} {c : Array Value} {fr : Nat × Nat} (hg : g < 64) (hb : w.heap[g]? = some (.cells c t fr)) (hc : CellsRel Q η (tab zs) 0 c) (hn : NotFrozen c fr) :
    HR P Q (below w) w env0 (heap0 g t zs) w := by
  have hobj : ∀ id o, (heap0 g t zs).obj id = some o → id = g ∧ o = .cells true (tab zs) t := fun id o ho => by
    rcases Tr.get_putO fuel _ _ _ _ _ ho with ⟨h1, h2⟩ | ⟨_, h2⟩
    · cases h2; exact ⟨h1, rfl⟩
    · rw [Tr.get_nilO] at h2; cases h2
  refine ⟨fun id o ho e he => ?_, fun i j oi oj b b1 c1 b2 c2 hi hj _ _ => ?_, fun _ _ => rfl, fun _ h => h, fun _ _ _ h => (by cases h), rfl, rfl⟩
  · obtain ⟨rfl, rfl⟩ := hobj id o ho
    rw [env0_glob id hg] at he
    cases he
    refine ⟨id, 0, 0, _, rfl, hb, ⟨rfl, fun j v hv => ?_, hn, by simp⟩, fun h => by cases h⟩
    obtain ⟨x, h1, h2⟩ := hc j v hv
    obtain ⟨z, rfl, h3⟩ := tab_conc (Q := Q) hv η
    rw [h3] at h2
    cases h2
    exact ⟨_, h1, rfl⟩
  · rw [(hobj i oi hi).1, (hobj j oj hj).1]

/-- no call is known -/
def noSum : Sums := fun _ _ _ => none
theorem noSum_ok : SumOk P Q noSum := ⟨(fun _ _ _ _ _ h => by cases h), (fun _ _ _ h => by cases h)⟩

/-- is it done, with 'true'? -/
def Out.yes (f : FuncId) : Out → Bool
  | .done g (.bool true) _ => Nat.beq g f
  | _ => false
theorem Out.yes_done {f : FuncId} {o : Out} (h : o.yes f = true) : ∃ h', o = .done f (.bool true) h' := by
  unfold Out.yes at h
  split at h
  · rename_i g h'; exact ⟨h', by rw [Nat.eq_of_beq_eq_true h]⟩
  · cases h

noncomputable def launch (P : Program) (f : FuncId) (args : List AV) (h : AH) : Out := match enterA P f args .normal with | some fr => .next ⟨fr, [], h⟩ | none => .fail

/-- a run from the first heap that answers 'true' -/
theorem run_yes {Sm : Sums} (hQ : QOk Q ∧ SumOk P Q Sm) (hmix : P.follows .mixedOrders = true) {f : FuncId} {args : List AV} {xs : List Value} {k g : Nat} {t : TypeId} {zs : List Int} {c : Array Value} {fr : Nat × Nat}
    (hg : g < 64) (hb : w.heap[g]? = some (.cells c t fr)) (hc : CellsRel Q η (tab zs) 0 c) (hn : NotFrozen c fr) (ha : concVs Q env0 args = some xs)
    (hrun : (runK P Sm k (launch P f args (heap0 g t zs))).yes f = true) :
    Calls P f xs.toArray w (fun e w' => e = .returned (.bool true) ∧ (∀ b, b < w.heap.size → w'.heap[b]? = w.heap[b]?) ∧ w.heap.size ≤ w'.heap.size ∧ w'.os = w.os ∧ w'.output = w.output) := by
  obtain ⟨h', hd⟩ := Out.yes_done hrun
  unfold launch at hd
  cases he : enterA P f args .normal with
  | none =>
    rw [he] at hd
    have : ∀ k, runK P Sm k .fail = .fail := fun k => by induction k with | zero => rfl | succ k ih => simp only [runK, ih]
    rw [this] at hd; cases hd
  | some frm =>
    rw [he] at hd
    refine (run_calls hQ hmix (start_hr hg hb hc hn) env0_glob env0_fresh ha he hd).mono fun e w' ⟨η', x, h1, h2, h3⟩ => ?_
    cases h2
    refine ⟨h1, h3.below, ?_, h3.io⟩
    rcases Nat.eq_zero_or_pos w.heap.size with h | h
    · omega
    · have := h3.size (w.heap.size - 1) (by show w.heap.size - 1 < w.heap.size; omega); omega

/-- a call without arguments that is known to answer 'true' -/
noncomputable def sumYes (f : FuncId) (g : Nat) (t : TypeId) (zs : List Int) : Sums := fun f' args h =>
  sel (Nat.beq f' f) (match args with | [] => sel (eqObj (h.obj g) (some (.cells true (tab zs) t))) (some (.bool true, h)) none | _ => none) none

/-- one list of known calls, and another -/
def orSum (A B : Sums) : Sums := fun f args h => match A f args h with | some r => some r | none => B f args h
theorem orSum_ok {A B : Sums} (hA : SumOk P Q A) (hB : SumOk P Q B) : SumOk P Q (orSum A B) := by
  refine ⟨fun f args h v h' he => ?_, fun H hg hf he hc => ?_⟩
  · unfold orSum at he
    split at he
    · rename_i r hr; cases he; exact hA.1 _ _ _ _ _ hr
    · exact hB.1 _ _ _ _ _ he
  · unfold orSum at he
    split at he
    · rename_i r hr; cases he; exact hA.2 H hg hf hr hc
    · exact hB.2 H hg hf he hc

/-- 'Calls' of what answers true, wherever the table is -/
def YesAt (P : Program) (f : FuncId) (g : Nat) (t : TypeId) (zs : List Int) : Prop :=
  ∀ (w : World) (c : Array Value) (fr : Nat × Nat), w.heap[g]? = some (.cells c t fr) → (∀ Q η, CellsRel Q η (tab zs) 0 c) → NotFrozen c fr →
    Calls P f #[] w (fun e w' => e = .returned (.bool true) ∧ (∀ b, b < w.heap.size → w'.heap[b]? = w.heap[b]?) ∧ w.heap.size ≤ w'.heap.size ∧ w'.os = w.os ∧ w'.output = w.output)

theorem tab_all {η η' : Env} {Q' : Nat → Value} {zs : List Int} {c : Array Value} (h : CellsRel Q η (tab zs) 0 c) : CellsRel Q' η' (tab zs) 0 c := fun j v hv => by
  obtain ⟨x, h1, h2⟩ := h j v hv
  obtain ⟨z, rfl, h3⟩ := tab_conc (Q := Q) hv η
  rw [h3] at h2; cases h2
  exact ⟨_, h1, rfl⟩

theorem sumYes_ok {f : FuncId} {g : Nat} {t : TypeId} {zs : List Int} (hg : g < 64) (hy : YesAt P f g t zs) : SumOk P Q (sumYes f g t zs) := by
  refine ⟨fun f' args h v h' hS => ?_, ?_⟩
  · unfold sumYes at hS
    have ⟨_, h2⟩ := sel_some.1 hS
    cases args with
    | cons _ _ => cases h2
    | nil => have ⟨_, h4⟩ := sel_some.1 h2; cases h4; exact .inl rfl
  intro N0 w0 η h h' w f' args v xs H hglob hfr hS ha
  unfold sumYes at hS
  have ⟨h1, h2⟩ := sel_some.1 hS
  obtain rfl := Nat.eq_of_beq_eq_true h1
  cases args with
  | cons _ _ => cases h2
  | nil =>
    have ⟨h3, h4⟩ := sel_some.1 h2
    cases h4
    cases ha
    obtain ⟨o, ho, eo⟩ := eqObj_sound h3
    cases eo
    obtain ⟨b, base, cap, x, e1, hb, hrel, _⟩ := H.obj g _ ho _ (hglob g hg)
    cases e1
    cases x with
    | cells c e fr =>
      obtain ⟨rfl, hc, hn, _⟩ := hrel
      refine (hy w c fr hb (fun Q' η' => tab_all hc) hn).mono fun e w' ⟨h5, h6, h7, h8⟩ => ?_
      exact ⟨η, .bool true, h5, .inl ⟨rfl, rfl⟩, rfl, H.later h6 h7 h8⟩
    | _ => exact hrel.elim

theorem yesAt_run {Sm : Sums} (hQ : QOk Q ∧ SumOk P Q Sm) (hmix : P.follows .mixedOrders = true) {f : FuncId} {g : Nat} {t : TypeId} {zs : List Int} {k : Nat} (hg : g < 64)
    (hrun : (runK P Sm k (launch P f [] (heap0 g t zs))).yes f = true) : YesAt P f g t zs := fun w c fr hb hc hn =>
  run_yes (η := env0) hQ hmix hg hb (hc Q env0) hn (xs := []) rfl hrun

/-! ## a function that keeps its argument in a closure -/
noncomputable def Out.keeps (f g t : Nat) : Out → Bool
  | .done f' (.func (.func g') [] [.ptr i 0]) h => sel (Nat.beq f' f) (sel (Nat.beq g' g) (sel (Nat.beq i 64) (match h.obj 64 with | some (.cells false [.opq 7] t') => Nat.beq t' t | _ => false) false) false) false
  | _ => false
theorem Out.keeps_done {f g t : Nat} {o : Out} (h : o.keeps f g t = true) : ∃ h', o = .done f (.func (.func g) [] [.ptr 64 0]) h' ∧ h'.obj 64 = some (.cells false [.opq 7] t) := by
  unfold Out.keeps at h
  split at h
  · rename_i f' g' i h'
    have ⟨h1, h2⟩ := selF h
    have ⟨h3, h4⟩ := selF h2
    have ⟨h5, h6⟩ := selF h4
    have e1 := beq_iff.1 h1; have e2 := beq_iff.1 h3; have e3 := beq_iff.1 h5
    subst e1; subst e2; subst e3
    split at h6
    · rename_i t' ho; have e4 := beq_iff.1 h6; subst e4; exact ⟨h', rfl, ho⟩
    · cases h6
  · cases h

noncomputable def sumKeep (f g t : Nat) : Sums := fun f' args h =>
  sel (Nat.beq f' f) (match args with | [a] => sel (oneA a) (some (.func (.func g) [] [.ptr h.next 0], h.new (.cells false [a] t))) none | _ => none) none

theorem sumKeep_ok (hQ : QOk Q) (hmix : P.follows .mixedOrders = true) {f g t k : Nat} (hrun : (runK P noSum k (launch P f [.opq 7] ⟨.nil, 64⟩)).keeps f g t = true) : SumOk P Q (sumKeep f g t) := by
  refine ⟨fun f' args h v h' hS => ?_, ?_⟩
  · unfold sumKeep at hS
    have ⟨_, h2⟩ := sel_some.1 hS
    split at h2
    · have ⟨_, h4⟩ := sel_some.1 h2; cases h4; exact .inr (.inl ⟨_, rfl⟩)
    · cases h2
  intro N0 w0 η h h' w f' args v xs H hglob hfr hS ha
  unfold sumKeep at hS
  have ⟨h1, h2⟩ := sel_some.1 hS
  obtain rfl := Nat.eq_of_beq_eq_true h1
  split at h2
  · rename_i a
    have ⟨h3, h4⟩ := sel_some.1 h2
    cases h4
    obtain ⟨x, l, rfl, hx, hl⟩ := concVs_cons ha
    cases hl
    obtain ⟨hi, hd, hobj⟩ := Out.keeps_done hrun
    let Q' : Nat → Value := fun i => if i = 7 then x else Q i
    have hone := oneCell_of hQ h3 hx
    have hQ' : QOk Q' := by
      refine ⟨fun i => ?_, fun i hi h7 => ?_, fun c hc => ?_, fun m n hm hn => ?_⟩
      · show (if i = 7 then x else Q i).oneCell' = true
        split
        · exact hone
        · exact hQ.1 i
      · obtain ⟨n, h5, h6⟩ := hQ.2.1 i hi h7
        refine ⟨n, ?_, h6⟩
        show (if i = 7 then x else Q i) = _
        rw [if_neg (by omega)]; exact h5
      · obtain ⟨n, h5, h6, h7⟩ := hQ.2.2.1 c hc
        refine ⟨n, ?_, ?_, h7⟩
        · show (if 16 + 2 * c = 7 then x else Q (16 + 2 * c)) = _
          rw [if_neg (by omega)]; exact h5
        · show (if 16 + 2 * c + 1 = 7 then x else Q (16 + 2 * c + 1)) = _
          rw [if_neg (by omega)]; exact h6
      · obtain ⟨y, h5, h6, h7⟩ := hQ.2.2.2 m n hm hn
        refine ⟨y, ?_, ?_, ?_⟩
        · show (if 46 = 7 then x else Q 46) = _
          rw [if_neg (by omega)]; exact h5
        · show (if 200 + (256 * m + n) * 2 = 7 then x else Q (200 + (256 * m + n) * 2)) = _
          rw [if_neg (by omega)]; exact h6
        · show (if 200 + (256 * m + n) * 2 + 1 = 7 then x else Q (200 + (256 * m + n) * 2 + 1)) = _
          rw [if_neg (by omega)]; exact h7
    have H0 : HR P Q' (below w) w env0 ⟨.nil, 64⟩ w :=
      ⟨(fun id o ho => by rw [show (AH.mk Tr.nil 64).obj id = none from Tr.get_nilO id] at ho; cases ho), (fun i j oi oj b b1 c1 b2 c2 hi => by rw [show (AH.mk Tr.nil 64).obj i = none from Tr.get_nilO i] at hi; cases hi), fun _ _ => rfl, fun _ h => h, fun _ _ _ h => (by cases h), rfl, rfl⟩
    have hconc : concVs Q' env0 [.opq 7] = some [x] := by simp [concVs, concV, Q']
    unfold launch at hd
    cases he : enterA P f' [.opq 7] .normal with
    | none =>
      rw [he] at hd
      have : ∀ k, runK P noSum k .fail = .fail := fun k => by induction k with | zero => rfl | succ k ih => simp only [runK, ih]
      rw [this] at hd; cases hd
    | some frm =>
      rw [he] at hd
      refine (run_calls ⟨hQ', noSum_ok⟩ hmix H0 env0_glob env0_fresh hconc he hd).mono fun e w' ⟨η', y, h5, h6, h7⟩ => ?_
      obtain ⟨gg, us, vs, k1, k2, k3, rfl⟩ := conc_func h6
      cases k1; cases k2
      obtain ⟨p, l', rfl, k4, k5⟩ := concVs_cons k3
      cases k5
      obtain ⟨b, base, cap, k6, rfl⟩ := conc_ptr k4
      obtain ⟨b', base', cap', z, k7, k8, k9, k10⟩ := h7.obj 64 _ hobj _ k6
      cases k7
      have hnb : ¬ b < w.heap.size := k10 rfl
      have hsz : w.heap.size ≤ w'.heap.size := by
        rcases Nat.eq_zero_or_pos w.heap.size with h | h
        · omega
        · have := h7.size (w.heap.size - 1) (by show w.heap.size - 1 < w.heap.size; omega); omega
      have H1 := H.later h7.below hsz h7.io
      have hx' := Env.ext_with (.blk b base cap) hfr
      refine ⟨η.with h.next (.blk b base cap), _, h5, .inr ⟨_, rfl, rfl⟩, ?_, ?_⟩
      · simp only [concV, concVs, concFn, Env.with_self]
      · have old : ∀ i o bb b1 c1, h.obj i = some o → η i = some (.blk bb b1 c1) → bb ≠ b := fun i o bb b1 c1 hi hη e => by
          obtain ⟨b2, _, _, z2, e1, e2, _⟩ := H.obj i o hi _ hη
          cases e1
          subst e
          rw [Array.getElem?_eq_none (by omega)] at e2; cases e2
        refine ⟨fun id o ho e hid => ?_, fun i j oi oj bb b1 c1 b2 c2 hi hj ei ej => ?_, H1.below, H1.size, H1.froz, H1.io⟩
        · rcases obj_new ho with ⟨rfl, rfl⟩ | ⟨hne, ho'⟩
          · rw [Env.with_self] at hid; cases hid
            refine ⟨b, base, cap, z, rfl, k8, ?_, fun _ hN => hnb (H.size b hN)⟩
            cases z with
            | cells c e fr =>
              obtain ⟨q1, q2, q3, q4⟩ := k9
              refine ⟨q1, fun j v hv => ?_, q3, q4⟩
              cases j with
              | zero =>
                simp at hv; subst hv
                obtain ⟨u, q5, q6⟩ := q2 0 (.opq 7) rfl
                have : u = x := by simp [concV, Q'] at q6; exact q6.symm
                subst this
                exact ⟨u, q5, concV_mono hx' _ hx⟩
              | succ j => simp at hv
            | _ => exact k9.elim
          · rw [Env.with_ne _ _ hne] at hid
            obtain ⟨bb, b1, c1, z1, g1, g2, g3, g4⟩ := H1.obj id o ho' e hid
            exact ⟨bb, b1, c1, z1, g1, g2, g3.mono hx', g4⟩
        · rcases obj_new hi with ⟨rfl, rfl⟩ | ⟨hni, hi'⟩ <;> rcases obj_new hj with ⟨rfl, rfl⟩ | ⟨hnj, hj'⟩
          · rfl
          · rw [Env.with_self] at ei; cases ei
            rw [Env.with_ne _ _ hnj] at ej
            exact (old j oj _ _ _ hj' ej rfl).elim
          · rw [Env.with_self] at ej; cases ej
            rw [Env.with_ne _ _ hni] at ei
            exact (old i oi _ _ _ hi' ei rfl).elim
          · rw [Env.with_ne _ _ hni] at ei
            rw [Env.with_ne _ _ hnj] at ej
            exact H1.inj i j oi oj bb b1 c1 b2 c2 hi' hj' ei ej
  · cases h2

end
end Go.Sx
