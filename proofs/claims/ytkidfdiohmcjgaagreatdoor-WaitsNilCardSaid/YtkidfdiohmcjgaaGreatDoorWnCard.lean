/- 'warp/warplaw21.WaitsNil' answers true at every input, and leaves what it reads as it was; the package's variables that its row lists hold what the program's text lays: the tied card. No condition besides the row's own. -/
import Derived.Test.YtkidfdiohmcjgaaGreatDoorSxPost
import Derived.Test.YtkidfdiohmcjgaaGreatDoorWnFacts
import Derived.Test.YtkidfdiohmcjgaaGreatDoorWnG
import Derived.Test.YtkidfdiohmcjgaaGreatDoorWnN
import Derived.Test.YtkidfdiohmcjgaaGreatDoorCards
import Derived.Test.YtkidfdiohmcjgaaGreatDoorTie
import Derived.ProofKit
import Derived.OpenShut
import Derived.LaidMore
import Derived.LaidHandle
import Derived.Eval
import Derived.Deep.DeepHandedRow
import Derived.Deep.DeepWitnessRowRef
namespace Go.Proofs.YtkidfdiohmcjgaaGreatDoor
open Go Go.Sx Go.ChangeShapes Go.WideShapes Go.ChangeAt Go.RowKit
set_option maxRecDepth 1000000
set_option maxHeartbeats 40000000

theorem mix : Tryz.prog.follows .mixedOrders = true := Checked.mixed Tryz.checked

theorem known_at : YesAt Tryz.prog 10 0 470 zs := fun w c fr hb hc hn =>
  good_run (Q := Q0) (η := env0) ⟨Q0_ok, sumKeep_ok Q0_ok mix keep_run⟩ mix (by decide) hb (hc Q0 env0) hn (xs := []) rfl wGood

/-- a value that is not told, set -/
def qSet (i : Nat) (n : Int) (Q : Nat → Value) : Nat → Value := fun j => if j = i then .int .i64 n else Q j
theorem qSet_ok {n : Int} {Q : Nat → Value} (h : QOk Q) : QOk (qSet 7 n Q) := by
  refine ⟨fun j => ?_, fun i hi h7 => ?_, fun c hc => ?_, fun m k hm hk => ?_⟩
  · unfold qSet; split
    · rfl
    · exact h.1 j
  · obtain ⟨m, h5, h6⟩ := h.2.1 i hi h7
    refine ⟨m, ?_, h6⟩
    show (if i = 7 then _ else Q i) = _
    rw [if_neg (by omega)]; exact h5
  · obtain ⟨m, h5, h6, h7⟩ := h.2.2.1 c hc
    refine ⟨m, ?_, ?_, h7⟩
    · show (if 16 + 2 * c = 7 then _ else Q (16 + 2 * c)) = _
      rw [if_neg (by omega)]; exact h5
    · show (if 16 + 2 * c + 1 = 7 then _ else Q (16 + 2 * c + 1)) = _
      rw [if_neg (by omega)]; exact h6
  · obtain ⟨y, h5, h6, h7⟩ := h.2.2.2 m k hm hk
    refine ⟨y, ?_, ?_, ?_⟩
    · show (if 46 = 7 then _ else Q 46) = _
      rw [if_neg (by omega)]; exact h5
    · show (if 200 + (256 * m + k) * 2 = 7 then _ else Q (200 + (256 * m + k) * 2)) = _
      rw [if_neg (by omega)]; exact h6
    · show (if 200 + (256 * m + k) * 2 + 1 = 7 then _ else Q (200 + (256 * m + k) * 2 + 1)) = _
      rw [if_neg (by omega)]; exact h7

theorem every {W : World} {c : Array Value} {fr : Nat × Nat} (hb : W.heap[0]? = some (.cells c 470 fr)) (hc : ∀ Q η, CellsRel Q η (tab zs) 0 c) (hn : NotFrozen c fr) (a : Int) :
    Calls Tryz.prog 3 #[.int .i64 a] W (fun e w' => e = .returned (.bool true) ∧ Kept W w') :=
  have hQ : QOk (qSet 7 a Q0) := qSet_ok Q0_ok
  (good_run (Q := qSet 7 a Q0) (η := env0) (args := [.opq 7]) (xs := [.int .i64 a]) ⟨hQ, orSum_ok (sumYes_ok (by decide) known_at) (sumKeep_ok hQ mix keep_run)⟩ mix (by decide) hb (hc _ env0) hn rfl nGood).mono fun _ _ h => ⟨h.1, h.2⟩

theorem own : ownKnob Tryz.prog.godebug = none := by kernel_rfl
theorem gTab : Tryz.prog.globalNamed "strings.asciiSpace" = some 0 := by kernel_rfl
theorem gTabType : (Tryz.prog.globals[0]?).map (·.type) = some 470 := by kernel_rfl
theorem undT : Tryz.prog.underlying 470 = some (.array 256 5) := by kernel_rfl
theorem undE : Tryz.prog.underlying 5 = some (.int .u8) := by kernel_rfl
theorem undI : Tryz.prog.underlying 3 = some (.int .i64) := by kernel_rfl
theorem undB : Tryz.prog.underlying 4 = some .bool := by kernel_rfl
theorem cellsT : Tryz.prog.cellsOf 470 = 256 := by kernel_rfl
theorem cellsE : Tryz.prog.cellsOf 5 = 1 := by kernel_rfl
theorem row0 : ∃ zero, ((begin Tryz.prog (fun _ _ => 0) default).world.heap[0]?).bind Obj.row? = some (zero, 470) := by
  have h : (((begin Tryz.prog (fun _ _ => 0) default).world.heap[0]?).bind Obj.row?).map (·.2) = some 470 := by kernel_rfl
  cases e : ((begin Tryz.prog (fun _ _ => 0) default).world.heap[0]?).bind Obj.row? with
  | none => rw [e] at h; cases h
  | some x => rw [e] at h; exact ⟨x.1, by rw [← Option.some.inj h]⟩
theorem nGlob : 0 < Tryz.prog.globals.size := by
  have : Tryz.prog.globals.size = 8 := by kernel_rfl
  omega

theorem laid_last {W : World} (h : laidMetH Tryz.prog Rows.waitsNilRow.laid W) : laidMet Tryz.prog [("strings.asciiSpace", Lib.tabData .u8 zs)] W := by
  rw [MakeChecks.laidMetH_plain _ _ _ (by kernel_rfl)] at h
  obtain ⟨ps, h1, h2, h3⟩ := h
  obtain ⟨_, _, _, _, _, q1, _, _, _, _, ⟨_, _, _, _, _, q2, _, _, _, _, ⟨_, _, _, _, _, q3, _, _, _, _, ⟨_, _, _, _, _, q4, _, _, _, _, ⟨_, _, _, _, _, q5, _, _, _, _, ⟨_, _, _, _, _, q6, _, _, _, _, h7, e6⟩, e5⟩, e4⟩, e3⟩, e2⟩, e1⟩ := h1
  refine ⟨q6, h7, ?_, ?_⟩
  · subst e1 e2 e3 e4 e5 e6; exact (List.nodup_append.1 (List.nodup_append.1 (List.nodup_append.1 (List.nodup_append.1 (List.nodup_append.1 (List.nodup_append.1 h2).2.1).2.1).2.1).2.1).2.1).2.1
  · subst e1 e2 e3 e4 e5 e6; exact fun b off hp => h3 b off (by simp [hp])

theorem table {W : World} (h : laidMetH Tryz.prog Rows.waitsNilRow.laid W) : Lib.TabIs Tryz.prog W "strings.asciiSpace" .u8 zs :=
  Lib.tabIs_of_head (rest := []) gTab gTabType undT undE cellsE cellsT (laid_last h)

/-- FOR EVERY ARGUMENT AND EVERY WORLD THAT THE ROW LETS IN -/
theorem contract (H : Type) (enc : TypeId × Value → H) (W : World) (base : Nat) (args : Array Value) (ds gs : List (DataW H)) (before : List MemPlace)
    (hval : ∀ (j : Nat) t v, Tryz.f3.params[j]? = some t → args[j]? = some v → Value.okWide Tryz.prog W .any base t v)
    (hW : DataW.Whole enc Tryz.prog Tryz.f3.params.toList Rows.waitsNilSpec.vars false W args.toList ds gs before) (hL : laidMetH Tryz.prog Rows.waitsNilRow.laid W) (hsh : W.ShapedOpen Tryz.prog) :
    Calls Tryz.prog 3 args W fun e W' => ∃ v, e = .returned v ∧ Rows.waitsNilSpec.post enc Tryz.prog Tryz.f3 false true false false W args v W' := by
  have hW' := hW
  obtain ⟨p, q, hA0, hV, rfl, hfz, hnd⟩ := hW
  have hA : DataW.TrodAll enc Tryz.prog W 0 (fun _ => true) true Tryz.f3.params.toList args.toList ds p := hA0
  rw [Tryz.params3] at hA hval
  obtain ⟨v0, vs0, d0, ds0, p0, q0, hargs, rfl, rfl, h0, r0⟩ := trodAll_cons hA
  obtain ⟨rfl, rfl, rfl⟩ := trodAll_nil r0
  obtain rfl : args = #[v0] := by cases args; simp_all
  obtain ⟨rfl, rfl⟩ := trodVars_none hV
  obtain ⟨a, rfl, rfl, rfl, wa⟩ := open_int undI (hval 0 3 v0 rfl rfl) h0
  clear hA0
  simp only [List.append_nil] at hW'
  obtain ⟨zero, hz⟩ := row0
  have start : ∀ Q η, ∃ c fr, W.heap[0]? = some (.cells c 470 fr) ∧ CellsRel Q η (tab zs) 0 c ∧ NotFrozen c fr := fun Q η => tab_start (table hL) gTab nGlob hsh hz
  obtain ⟨c, fr, hb, _, hn⟩ := start Q0 env0
  have hc : ∀ Q η, CellsRel Q η (tab zs) 0 c := fun Q η => by
    obtain ⟨c', fr', hb', hc', _⟩ := start Q η
    rw [hb] at hb'; cases hb'; exact hc'
  refine (every hb hc hn a).mono fun e W' ⟨he, hk⟩ => ?_
  subst he
  exact ⟨_, rfl, post_of_kept (pa := []) (pv := []) hW' (fun _ _ _ => trodAll_cons_mk (shut_bool undB _) trodAll_mk0)
    (fun _ _ => trodAll_cons_mk (shut_int undI wa) trodAll_mk0) (fun _ _ => rfl) rfl
    hk (ok_one (by kernel_rfl) rfl (okWide_bool_mk undB _))⟩

/-- THE WITNESS: the heap that the program's own start leaves -/
theorem door_met (os : Os) (args : Array Value) : laidMetH Tryz.prog Rows.waitsNilRow.laid ((World.doorLaid Tryz.prog 400 os).forCall (fun _ _ => 0) ⟨#[], args, []⟩).memory :=
  laidMetH_of_parts3 (fuel := 8) (laidMet_of_run' 8 (by kernel_rfl) (by kernel_rfl)) (by kernel_rfl) (by kernel_rfl)

theorem lifted (os : Os) (started : os.Started) (H : Type) (enc : TypeId × Value → H) (F : Stop.Interp) :
    ReturnsInHanded {} Tryz.checked os 3 .any ((OpenSpec.ofChange Rows.waitsNilSpec).preRow enc Tryz.prog Tryz.f3 Rows.waitsNilRow.domain false Rows.waitsNilRow.laid) (((OpenSpec.ofChange Rows.waitsNilSpec).at F).post enc Tryz.prog Tryz.f3 false true false false) := by
  obtain ⟨places, hx⟩ : ∃ places, DataW.whole enc Tryz.prog ((World.doorLaid Tryz.prog 400 os).forCall (fun _ _ => 0) ⟨#[], #[.int .i64 0], []⟩).memory Tryz.f3.params.toList Rows.waitsNilSpec.vars false #[Value.int .i64 0].toList 8 = some ([.lit (.int .i64 0)], [], places) := ⟨[], by kernel_rfl⟩
  refine returnsInHanded_of_row (C := Tryz.checked) (s := OpenSpec.ofChange Rows.waitsNilSpec) own started (by kernel_rfl) Tryz.func3
    (witness_row_atRef (enc := enc) (C := Tryz.checked) false (World.doorLaid Tryz.prog 400 os) #[.int .i64 0] rfl (by kernel_rfl) (by kernel_rfl) (by kernel_rfl)
      (OpenSpec.preRow_of_cond 8 hx (by kernel_rfl) (fun k hk => by cases hk) (by kernel_rfl) (door_met os _))) ?_
  intro W base args ds gs before hval hW _ _ _ hL hsh _
  exact contract H enc W base args ds gs before hval hW hL hsh

theorem said : Rows.WaitsNilSaid :=
  OpenClaim.holds_of_cond 3 Tryz.f3 rfl rfl rfl rfl rfl rfl rfl ⟨rfl, rfl, rfl, rfl, rfl⟩ rfl rfl rfl rfl rfl (by kernel_rfl) Tryz.func3 closed
    (of_decide_eq_true (by kernel_rfl)) (by unfold Func.isWrapper; first | (rw [if_pos (by decide +kernel)]; kernel_rfl) | (rw [if_neg (by decide +kernel)]; exact ⟨rfl, rfl⟩))
    (fun os started H enc _ F => by rw [OpenClaim.pre_eq_preRow]; exact lifted os started H enc F)

theorem plain (f : FuncId) (fn : Func) (hf : Tryz.pinned.checked.prog.funcNamed "warp/warplaw21.WaitsNil" = some f) (hfn : Tryz.pinned.checked.prog.funcs[f]? = some fn) :
    true = Tryz.pinned.checked.prog.looks [] ∧ ∀ (j : Nat) t, fn.params[j]? = some t → Tryz.pinned.checked.prog.wantsStandIn t = false := by
  obtain rfl : f = 3 := Option.some.inj ((show Tryz.prog.funcNamed "warp/warplaw21.WaitsNil" = some 3 by kernel_rfl).symm.trans hf) |>.symm
  obtain rfl : fn = Tryz.f3 := (Option.some.inj (Tryz.func3.symm.trans hfn)).symm
  refine ⟨by kernel_rfl, fun j t ht => ?_⟩
  rw [Tryz.params3] at ht
  obtain rfl : t = 3 := by simpa using Array.mem_of_getElem? ht
  exact (show Tryz.prog.wantsStandIn 3 = false by kernel_rfl)

/-- THE CARD -/
theorem waitsNil_card : Rows.WaitsNilCardSaid :=
  Claim7.holds_tied_plain_at .later [] _ _ _ _ said (fun _ h => by cases h) (by kernel_rfl) (fun _ h => by cases h) waitsNil_row_tie rfl ⟨rfl, rfl⟩ (by kernel_rfl) rfl plain (by kernel_rfl)
#print axioms waitsNil_card
end Go.Proofs.YtkidfdiohmcjgaaGreatDoor
