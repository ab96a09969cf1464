/- A long run in parts: a state between two parts is written out, without the blocks that nothing reaches. -/
import Derived.Test.YtlfkdmhllolmmaaGreatDoorSxSum
namespace Go.Sx
open Go

/-- the parts of a piece of code -/
def child (c : Code) (i : Nat) : Code :=
  match c with
  | .seq a b => (match i with | 0 => a | _ => b)
  | .cond _ a b => (match i with | 0 => a | _ => b)
  | .block _ b => b
  | .loop b => b
  | .rangeFunc _ _ a b => (match i with | 0 => a | _ => b)
  | .scope b => b
  | c => c
noncomputable def subC (c : Code) (path : List Nat) : Code := List.rec (motive := fun _ => Code → Code) (fun c => c) (fun i _ ih c => ih (child c i)) path c
noncomputable def bodyOf (P : Program) (f : FuncId) : Code := match bodyA P f with | some c => c.2 | none => .skip
def opsOf (c : Code) : Array Oper := match c with | .region _ ops _ => ops | _ => #[]
noncomputable def dropN (n : Nat) (l : List Oper) : List Oper := Nat.rec (motive := fun _ => List Oper → List Oper) (fun l => l) (fun _ ih l => List.rec (motive := fun _ => List Oper) [] (fun _ r _ => ih r) l) n l

/-- a heap of these blocks -/
noncomputable def heapOf (l : List (Nat × AObj)) (n : Nat) : AH := ⟨List.rec (motive := fun _ => Tr AObj) .nil (fun p _ ih => ih.putO fuel p.1 (some p.2)) l, n⟩
theorem heapOf_obj : ∀ {l : List (Nat × AObj)} {n id : Nat} {o : AObj}, (heapOf l n).obj id = some o → (id, o) ∈ l
  | [], n, id, o, h => by rw [show (heapOf [] n).obj id = none from Tr.get_nilO id] at h; cases h
  | p :: r, n, id, o, h => by
    rcases Tr.get_putO fuel (heapOf r n).heap p.1 (some p.2) id o h with ⟨h1, h2⟩ | ⟨_, h2⟩
    · cases h2; subst h1; simp
    · exact List.mem_cons_of_mem _ (heapOf_obj (n := n) h2)

noncomputable def runs (P : Program) (Sm : Sums) (ks : List Nat) (o : Out) : Out := List.rec (motive := fun _ => Out → Out) (fun o => o) (fun k _ ih o => ih (runK P Sm k o)) ks o
def Out.heap (o : Out) : AH := match o with | .next s => s.h | .done _ _ h => h | .fail => ⟨.nil, 0⟩

/-- one part of a run ends in this state, of which these blocks are kept -/
def Part (P : Program) (Sm : Sums) (ks : List Nat) (o : Out) (fr : AFr) (cs : List AFr) (l : List (Nat × AObj)) (n : Nat) : Prop :=
  runs P Sm ks o = .next ⟨fr, cs, (runs P Sm ks o).heap⟩ ∧ l.map (fun p => (runs P Sm ks o).heap.obj p.1) = l.map (fun p => some p.2) ∧ (runs P Sm ks o).heap.next = n

section
variable {P : Program} {Sm : Sums} {Q : Nat → Value} {N0 : Keep} {w0 : World} {cs0 : List Frame}

theorem runs_goes (hQ : QOk Q ∧ SumOk P Q Sm) (hmix : P.follows .mixedOrders = true) {m : Machine} : ∀ (ks : List Nat) {o : Out}, Goes P Q N0 w0 cs0 m o → Goes P Q N0 w0 cs0 m (runs P Sm ks o)
  | [], _, h => h
  | k :: r, o, h => runs_goes hQ hmix r (o := runK P Sm k o) (runK_goes hQ hmix k h)

theorem part_goes (hQ : QOk Q ∧ SumOk P Q Sm) (hmix : P.follows .mixedOrders = true) {m : Machine} {ks : List Nat} {o : Out} {fr : AFr} {cs : List AFr} {l : List (Nat × AObj)} {n : Nat} (hp : Part P Sm ks o fr cs l n)
    (h : Goes P Q N0 w0 cs0 m o) : Goes P Q N0 w0 cs0 m (.next ⟨fr, cs, heapOf l n⟩) := by
  have h1 := runs_goes hQ hmix ks h
  obtain ⟨e1, e2, e3⟩ := hp
  generalize (runs P Sm ks o).heap = H at e1 e2 e3
  rw [e1] at h1
  obtain ⟨fr', callers, w, h2, η, lo, cs1, h3, B, h4, h5⟩ := h1
  have hobj : ∀ id ob, (heapOf l n).obj id = some ob → H.obj id = some ob := fun id ob ho => by
    have hm := heapOf_obj ho
    obtain ⟨i, hi, hg⟩ := List.getElem_of_mem hm
    have : (l.map fun p => H.obj p.1)[i]? = (l.map fun p => some p.2)[i]? := by rw [e2]
    simp only [List.getElem?_map, List.getElem?_eq_getElem hi, hg, Option.map_some] at this
    exact Option.some.inj this
  have hn : (heapOf l n).next = H.next := e3.symm
  refine ⟨fr', callers, w, h2, η, lo, cs1, h3, ⟨B.hr.virt fun i y hi _ => hobj i y hi, B.glob, ?_, ?_, B.st⟩, h4, fun p hp => ?_⟩
  · show Fresh η (heapOf l n).next; rw [hn]; exact B.fresh
  · show lo ≤ (heapOf l n).next; rw [hn]; exact B.le
  · have := h5 p hp
    exact ⟨this.1, by show p.2 < (heapOf l n).next; rw [hn]; exact this.2⟩

/-- a state that comes to 'true' in the end -/
def Good (P : Program) (Sm : Sums) (f : FuncId) (o : Out) : Prop := ∀ {Q : Nat → Value} {N0 : Keep} {w0 : World} {cs0 : List Frame} {m : Machine}, QOk Q ∧ SumOk P Q Sm → P.follows .mixedOrders = true →
  Goes P Q N0 w0 cs0 m o → ∃ h, Goes P Q N0 w0 cs0 m (.done f (.bool true) h)

theorem good_end {f : FuncId} {ks : List Nat} {o : Out} (h : (runs P Sm ks o).yes f = true) : Good P Sm f o := fun hQ hmix hg => by
  obtain ⟨h', e⟩ := Out.yes_done h
  exact ⟨h', e ▸ runs_goes hQ hmix ks hg⟩
theorem good_part {f : FuncId} {ks : List Nat} {o : Out} {fr : AFr} {cs : List AFr} {l : List (Nat × AObj)} {n : Nat} (hp : Part P Sm ks o fr cs l n) (h : Good P Sm f (.next ⟨fr, cs, heapOf l n⟩)) : Good P Sm f o :=
  fun hQ hmix hg => h hQ hmix (part_goes hQ hmix hp hg)

theorem Goes_fail_no {m : Machine} : Goes P Q N0 w0 cs0 m .fail := trivial

/-- a call whose run is good answers true, and leaves alone what was there -/
theorem good_run (hQ : QOk Q ∧ SumOk P Q Sm) (hmix : P.follows .mixedOrders = true) {f : FuncId} {args : List AV} {xs : List Value} {g : Nat} {t : TypeId} {zs : List Int} {c : Array Value} {fr : Nat × Nat} {w : World} {η : Env}
    (hg : g < 64) (hb : w.heap[g]? = some (.cells c t fr)) (hc : CellsRel Q η (tab zs) 0 c) (hn : NotFrozen c fr) (ha : concVs Q env0 args = some xs)
    (hgood : Good P Sm f (launch P f args (heap0 g t zs))) :
    Calls P f xs.toArray w (fun e w' => e = .returned (.bool true) ∧ (∀ b, b < w.heap.size → w'.heap[b]? = w.heap[b]?) ∧ w.heap.size ≤ w'.heap.size ∧ w'.os = w.os ∧ w'.output = w.output) := by
  intro cs
  have B := start_hr (P := P) (Q := Q) (η := η) hg hb hc hn
  have hstart : Goes P Q (below w) w cs (lone (Frame.enter P f xs.toArray .normal) cs w) (launch P f args (heap0 g t zs)) := by
    unfold launch
    cases he : enterA P f args .normal with
    | none => trivial
    | some frm =>
      obtain ⟨h1, h2⟩ := enterA_rel he ha
      exact Goes.here ⟨env0, 64, [], rfl, ⟨B, env0_glob, env0_fresh, Nat.le_refl _, trivial⟩, h1, by rw [h2]; simp⟩
  obtain ⟨h', hgo⟩ := hgood hQ hmix hstart
  obtain ⟨fr', w', η', x, g1, g2, g3, g4, g5⟩ := hgo
  cases g4
  refine ⟨.returned (.bool true), w', fr', ⟨rfl, g5.below, ?_, g5.io⟩, g1, g2, g3⟩
  rcases Nat.eq_zero_or_pos w.heap.size with h | h
  · omega
  · have := g5.size (w.heap.size - 1) (by show w.heap.size - 1 < w.heap.size; omega); omega

end
end Go.Sx
