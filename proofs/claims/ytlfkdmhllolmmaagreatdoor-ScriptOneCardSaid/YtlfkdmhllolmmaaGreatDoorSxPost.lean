/- What a run leaves alone, as a row asks it; the start that a row gives. -/
import Derived.Test.YtlfkdmhllolmmaaGreatDoorSxSum
import Derived.ChangeSame
import Derived.Lib.LaidTab
import Derived.MakeChecks
namespace Go.Sx
open Go Go.ChangeShapes

/-- all that was there is as it was -/
def Kept (W W' : World) : Prop := (∀ b, b < W.heap.size → W'.heap[b]? = W.heap[b]?) ∧ W.heap.size ≤ W'.heap.size ∧ W'.os = W.os ∧ W'.output = W.output

theorem Kept.keptBut {W W' : World} (h : Kept W W') (may : MemPlace → Prop) : W.keptBut W' may := by
  refine ⟨h.2.2.1, h.2.2.2, fun i hi => ?_⟩
  rw [h.1 i hi, Array.getElem?_eq_getElem hi]
  cases W.heap[i] <;> first | exact ⟨rfl, rfl, rfl, fun _ _ => rfl⟩ | exact .inr ⟨rfl, rfl⟩ | rfl

theorem Kept.frozen {W W' : World} (h : Kept W W') {a : Addr} (ha : a.block < W.heap.size) : W'.frozen? a = W.frozen? a := by
  unfold World.frozen?
  rw [h.1 _ ha]

variable {H : Type} {enc : TypeId × Value → H} {P : Program}

theorem post_of_kept {f : Func} {s : ChangeSpec} {apart fresh handsOn again : Bool} {W W' : World} {args : Array Value} {v : Value} {ds gs : List (DataW H)} {before pa pv : List MemPlace}
    (hW : DataW.Whole enc P f.params.toList s.vars apart W args.toList ds gs before)
    (hres : ∀ (b : Nat) (sp : Nat → Bool) (hd : Bool), DataW.TrodAll enc P W' b sp hd f.resultTypes.toList (v.resultList f.resultTypes.size) (s.fn H (ds ++ gs)).results [])
    (hargs : ∀ sp : Nat → Bool, (∀ p ∈ before, sp p.block = true) → DataW.TrodAll enc P W' 0 sp true f.params.toList args.toList (s.fn H (ds ++ gs)).args pa)
    (hvars : ∀ sp : Nat → Bool, (∀ p ∈ before, sp p.block = true) → DataW.TrodVars enc P W' sp s.vars (s.fn H (ds ++ gs)).vars pv)
    (hps : before = pa ++ pv) (hk : Kept W W')
    (hok : ∀ (j : Nat) (t : TypeId) (r : Value), f.resultTypes[j]? = some t → (v.resultList f.resultTypes.size)[j]? = some r → Value.okWide P W' .any 0 t r) :
    s.post enc P f apart fresh handsOn again W args v W' := by
  have hold : ∀ p ∈ before, (fun b => decide (b < W.heap.size)) p.block = true := fun p hp => by simpa using hW.lt p hp
  have hlt := hW.lt
  refine ⟨ds, gs, before, [], pa, pv, hW, hres _ _ _, hargs _ hold, hvars _ hold, World.keptBut_mono (fun p hp => ⟨hp, ?_⟩) (hk.keptBut (· ∈ before)), fun _ => ?_⟩
  · rw [hps, List.mem_append] at hp
    exact Or.inr hp
  · obtain ⟨_, _, _, _, _, hz, hn⟩ := hW
    refine ⟨hok, _, _, ([] ++ pa) ++ pv, ⟨[] ++ pa, pv, trodAll_append (hargs _ (fun _ _ => rfl)) (hres _ _ _), hvars _ (fun _ _ => rfl), rfl, ?_, ?_⟩, ?_⟩
    · intro b off hp
      have hb : MemPlace.cell b off ∈ before := by rw [hps]; simpa using hp
      rw [hk.frozen (a := ⟨b, off, none⟩) (hlt _ hb)]
      exact hz b off hb
    · intro ha
      have := hn ha
      rw [hps] at this
      simpa using this
    · intro p hp _
      rw [hps]
      simpa using hp

/-- a table that a row lists, and the block's form: what a run begins with -/
theorem tab_start {Q : Nat → Value} {η : Env} {W : World} {name : String} {zs : List Int} {g : Nat} {t : TypeId} {zero : Array Value} (ht : Lib.TabIs P W name .u8 zs) (hg : P.globalNamed name = some g) (hlt : g < P.globals.size)
    (hsh : W.ShapedOpen P) (h0 : ((begin P (fun _ _ => 0) default).world.heap[g]?).bind Obj.row? = some (zero, t)) :
    ∃ c fr, W.heap[g]? = some (.cells c t fr) ∧ CellsRel Q η (tab zs) 0 c ∧ NotFrozen c fr := by
  obtain ⟨cs, h1, _, _⟩ := hsh.1 g zero t hlt h0
  refine ⟨cs, (0, 0), h1, fun j v hv => ?_, ⟨fun j _ => by simp, by simp⟩⟩
  obtain ⟨z, rfl, h2⟩ := tab_conc (Q := Q) hv η
  have : cs = (zs.map fun z => Value.int .u8 z).toArray := by
    unfold Lib.TabIs World.var? at ht
    rw [hg] at ht
    simp only [Option.bind_some, h1] at ht
    exact Option.some.inj ht
  refine ⟨_, ?_, h2⟩
  rw [this]
  simp only [tab, List.getElem?_map] at hv
  simp only [Nat.zero_add, List.getElem?_toArray, List.getElem?_map]
  cases e : zs[j]? with
  | none => rw [e] at hv; cases hv
  | some z' => rw [e] at hv; cases hv; rfl
end Go.Sx
