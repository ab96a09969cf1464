/- 'warp/warplaw17.ScriptOne' answers true at every input, and leaves what it reads as it was; the package's variables that its row lists hold what the program's text lays: the tied card. No condition besides the row's own. -/
import Derived.Test.YtlfkdmhllolmmaaGreatDoorSxArr
import Derived.Test.YtlfkdmhllolmmaaGreatDoorScFacts
import Derived.Test.YtlfkdmhllolmmaaGreatDoorScG
import Derived.Test.YtlfkdmhllolmmaaGreatDoorScOne
import Derived.Test.YtlfkdmhllolmmaaGreatDoorScTie
import Derived.Test.YtlfkdmhllolmmaaGreatDoorCards
import Derived.ProofKit
import Derived.OpenShut
import Derived.LaidMore
import Derived.LaidHandle
import Derived.Eval
import Derived.Deep.DeepHandedRow
import Derived.Deep.DeepWitnessRowRef
namespace Go.Proofs.YtlfkdmhllolmmaaGreatDoor
open Go Go.Sx Go.ChangeShapes Go.WideShapes Go.ChangeAt Go.RowKit
set_option maxRecDepth 1000000
set_option maxHeartbeats 40000000

theorem mix : Tryz.prog.follows .mixedOrders = true := Checked.mixed Tryz.checked

theorem known_at : YesAt Tryz.prog 7 0 543 zs := fun w c fr hb hc hn =>
  good_run (Q := Q0) (η := env0) ⟨Q0_ok, sumKeep_ok Q0_ok mix keep_run⟩ mix (by decide) hb (hc Q0 env0) hn (xs := []) rfl wGood

theorem every {W : World} {c : Array Value} {fr : Nat × Nat} (hb : W.heap[0]? = some (.cells c 543 fr)) (hc : ∀ Q η, CellsRel Q η (tab zs) 0 c) (hn : NotFrozen c fr) (x y z : Int) (hx : 0 ≤ x ∧ x ≤ 255) (hy : 0 ≤ y ∧ y ≤ 255) (hz : 0 ≤ z ∧ z ≤ 255) :
    Calls Tryz.prog 3 #[.agg #[.int .u8 x, .int .u8 y, .int .u8 z]] W (fun e w' => e = .returned (.bool true) ∧ Kept W w') := by
  obtain ⟨r0, e0, l0⟩ : ∃ r : Nat, x.tmod 5 = r ∧ r < 5 := ⟨(x % 5).toNat, by rw [Int.tmod_eq_emod_of_nonneg hx.1]; omega, by omega⟩
  obtain ⟨r1, e1, l1⟩ : ∃ r : Nat, y.tmod 6 = r ∧ r < 6 := ⟨(y % 6).toNat, by rw [Int.tmod_eq_emod_of_nonneg hy.1]; omega, by omega⟩
  obtain ⟨r2, e2, l2⟩ : ∃ r : Nat, z.tmod 9 = r ∧ r < 9 := ⟨(z % 9).toNat, by rw [Int.tmod_eq_emod_of_nonneg hz.1]; omega, by omega⟩
  have hQ : QOk (qBytes r0 r1 r2 x y z) := qBytes_ok ⟨hx.1, hx.2, e0⟩ ⟨hy.1, hy.2, e1⟩ ⟨hz.1, hz.2, e2⟩ l0 l1 l2
  exact (run_yes (η := env0) ⟨hQ, orSum_ok (sumYes_ok (by decide) known_at) (sumKeep_ok hQ mix keep_run)⟩ mix (by decide) hb (hc _ env0) hn (qBytes_conc l0 l1) (every9 r0 r1 r2 l0 l1 l2)).mono fun _ _ h => ⟨h.1, h.2⟩

theorem own : ownKnob Tryz.prog.godebug = none := by kernel_rfl
theorem gTab : Tryz.prog.globalNamed "strings.asciiSpace" = some 0 := by kernel_rfl
theorem gTabType : (Tryz.prog.globals[0]?).map (·.type) = some 543 := by kernel_rfl
theorem undT : Tryz.prog.underlying 543 = some (.array 256 5) := by kernel_rfl
theorem undE : Tryz.prog.underlying 5 = some (.int .u8) := by kernel_rfl
theorem undA3 : Tryz.prog.underlying 22 = some (.array 3 5) := by kernel_rfl
theorem cellsA3 : Tryz.prog.cellsOf 22 = 3 := by kernel_rfl
theorem undB : Tryz.prog.underlying 4 = some .bool := by kernel_rfl
theorem cellsT : Tryz.prog.cellsOf 543 = 256 := by kernel_rfl
theorem cellsE : Tryz.prog.cellsOf 5 = 1 := by kernel_rfl
theorem row0 : ∃ zero, ((begin Tryz.prog (fun _ _ => 0) default).world.heap[0]?).bind Obj.row? = some (zero, 543) := by
  have h : (((begin Tryz.prog (fun _ _ => 0) default).world.heap[0]?).bind Obj.row?).map (·.2) = some 543 := by kernel_rfl
  cases e : ((begin Tryz.prog (fun _ _ => 0) default).world.heap[0]?).bind Obj.row? with
  | none => rw [e] at h; cases h
  | some x => rw [e] at h; exact ⟨x.1, by rw [← Option.some.inj h]⟩
theorem nGlob : 0 < Tryz.prog.globals.size := by
  have : Tryz.prog.globals.size = 8 := by kernel_rfl
  omega

theorem laid_first {W : World} (h : laidMetH Tryz.prog Rows.scriptOneRow.laid W) : laidMet Tryz.prog (Rows.scriptOneRow.laid) W := by
  rw [MakeChecks.laidMetH_plain _ _ _ (by kernel_rfl)] at h
  exact h

theorem table {W : World} (h : laidMetH Tryz.prog Rows.scriptOneRow.laid W) : Lib.TabIs Tryz.prog W "strings.asciiSpace" .u8 zs :=
  Lib.tabIs_of_head (rest := Rows.scriptOneRow.laid.tail) gTab gTabType undT undE cellsE cellsT (laid_first h)

/-- FOR EVERY ARGUMENT AND EVERY WORLD THAT THE ROW LETS IN -/
theorem contract (H : Type) (enc : TypeId × Value → H) (W : World) (base : Nat) (args : Array Value) (ds gs : List (DataW H)) (before : List MemPlace)
    (hval : ∀ (j : Nat) t v, Tryz.f3.params[j]? = some t → args[j]? = some v → Value.okWide Tryz.prog W .any base t v)
    (hW : DataW.Whole enc Tryz.prog Tryz.f3.params.toList Rows.scriptOneSpec.vars false W args.toList ds gs before) (hL : laidMetH Tryz.prog Rows.scriptOneRow.laid W) (hsh : W.ShapedOpen Tryz.prog) :
    Calls Tryz.prog 3 args W fun e W' => ∃ v, e = .returned v ∧ Rows.scriptOneSpec.post enc Tryz.prog Tryz.f3 false true false false W args v W' := by
  have hW' := hW
  obtain ⟨p, q, hA0, hV, rfl, hfz, hnd⟩ := hW
  have hA : DataW.TrodAll enc Tryz.prog W 0 (fun _ => true) true Tryz.f3.params.toList args.toList ds p := hA0
  rw [Tryz.params3] at hA hval
  obtain ⟨v0, vs0, d0, ds0, p0, q0, hargs, rfl, rfl, h0, r0⟩ := trodAll_cons hA
  obtain ⟨rfl, rfl, rfl⟩ := trodAll_nil r0
  obtain rfl : args = #[v0] := by cases args; simp_all
  obtain ⟨rfl, rfl⟩ := trodVars_none hV
  obtain ⟨x, y, z, rfl, rfl, rfl, wx, wy, wz⟩ := open_bytes3 undA3 undE cellsE cellsA3 (hval 0 22 v0 rfl rfl) h0
  clear hA0
  simp only [List.append_nil] at hW'
  obtain ⟨zero, hz⟩ := row0
  have start : ∀ Q η, ∃ c fr, W.heap[0]? = some (.cells c 543 fr) ∧ CellsRel Q η (tab zs) 0 c ∧ NotFrozen c fr := fun Q η => tab_start (table hL) gTab nGlob hsh hz
  obtain ⟨c, fr, hb, _, hn⟩ := start Q0 env0
  have hc : ∀ Q η, CellsRel Q η (tab zs) 0 c := fun Q η => by
    obtain ⟨c', fr', hb', hc', _⟩ := start Q η
    rw [hb] at hb'; cases hb'; exact hc'
  refine (every hb hc hn x y z (byte_of_wf wx) (byte_of_wf wy) (byte_of_wf wz)).mono fun e W' ⟨he, hk⟩ => ?_
  subst he
  exact ⟨_, rfl, post_of_kept (pa := []) (pv := []) hW' (fun _ _ _ => trodAll_cons_mk (shut_bool undB _) trodAll_mk0)
    (fun _ _ => trodAll_cons_mk (shut_bytes3 undA3 undE cellsE cellsA3 wx wy wz) trodAll_mk0) (fun _ _ => rfl) rfl
    hk (ok_one (by kernel_rfl) rfl (okWide_bool_mk undB _))⟩

/-- THE WITNESS: the heap that the program's own start leaves -/
theorem door_met (os : Os) (args : Array Value) : laidMetH Tryz.prog Rows.scriptOneRow.laid ((World.doorLaid Tryz.prog 400 os).forCall (fun _ _ => 0) ⟨#[], args, []⟩).memory :=
  laidMetH_of_parts3 (fuel := 8) (laidMet_of_run' 8 (by kernel_rfl) (by kernel_rfl)) (by kernel_rfl) (by kernel_rfl)

theorem lifted (os : Os) (started : os.Started) (H : Type) (enc : TypeId × Value → H) (F : Stop.Interp) :
    ReturnsInHanded {} Tryz.checked os 3 .any ((OpenSpec.ofChange Rows.scriptOneSpec).preRow enc Tryz.prog Tryz.f3 Rows.scriptOneRow.domain false Rows.scriptOneRow.laid) (((OpenSpec.ofChange Rows.scriptOneSpec).at F).post enc Tryz.prog Tryz.f3 false true false false) := by
  obtain ⟨places, hx⟩ : ∃ places, DataW.whole enc Tryz.prog ((World.doorLaid Tryz.prog 400 os).forCall (fun _ _ => 0) ⟨#[], #[.agg #[.int .u8 0, .int .u8 0, .int .u8 0]], []⟩).memory Tryz.f3.params.toList Rows.scriptOneSpec.vars false #[Value.agg #[.int .u8 0, .int .u8 0, .int .u8 0]].toList 8 = some ([.agg [.lit (.int .u8 0), .lit (.int .u8 0), .lit (.int .u8 0)]], [], places) := ⟨[], by kernel_rfl⟩
  refine returnsInHanded_of_row (C := Tryz.checked) (s := OpenSpec.ofChange Rows.scriptOneSpec) own started (by kernel_rfl) Tryz.func3
    (witness_row_atRef (enc := enc) (C := Tryz.checked) false (World.doorLaid Tryz.prog 400 os) #[.agg #[.int .u8 0, .int .u8 0, .int .u8 0]] rfl (by kernel_rfl) (by kernel_rfl) (by kernel_rfl)
      (OpenSpec.preRow_of_cond 8 hx (by kernel_rfl) (fun k hk => by cases hk) (by kernel_rfl) (door_met os _))) ?_
  intro W base args ds gs before hval hW _ _ _ hL hsh _
  exact contract H enc W base args ds gs before hval hW hL hsh

theorem said : Rows.ScriptOneSaid :=
  OpenClaim.holds_of_cond 3 Tryz.f3 rfl rfl rfl rfl rfl rfl rfl ⟨rfl, rfl, rfl, rfl, rfl⟩ rfl rfl rfl rfl rfl (by kernel_rfl) Tryz.func3 closed
    (of_decide_eq_true (by kernel_rfl)) (by unfold Func.isWrapper; first | (rw [if_pos (by decide +kernel)]; kernel_rfl) | (rw [if_neg (by decide +kernel)]; exact ⟨rfl, rfl⟩))
    (fun os started H enc _ F => by rw [OpenClaim.pre_eq_preRow]; exact lifted os started H enc F)

theorem plain (f : FuncId) (fn : Func) (hf : Tryz.pinned.checked.prog.funcNamed "warp/warplaw17.ScriptOne" = some f) (hfn : Tryz.pinned.checked.prog.funcs[f]? = some fn) :
    true = Tryz.pinned.checked.prog.looks [] ∧ ∀ (j : Nat) t, fn.params[j]? = some t → Tryz.pinned.checked.prog.wantsStandIn t = false := by
  obtain rfl : f = 3 := Option.some.inj ((show Tryz.prog.funcNamed "warp/warplaw17.ScriptOne" = some 3 by kernel_rfl).symm.trans hf) |>.symm
  obtain rfl : fn = Tryz.f3 := (Option.some.inj (Tryz.func3.symm.trans hfn)).symm
  refine ⟨by kernel_rfl, fun j t ht => ?_⟩
  rw [Tryz.params3] at ht
  obtain rfl : t = 22 := by simpa using Array.mem_of_getElem? ht
  exact (show Tryz.prog.wantsStandIn 22 = false by kernel_rfl)
end Go.Proofs.YtlfkdmhllolmmaaGreatDoor
