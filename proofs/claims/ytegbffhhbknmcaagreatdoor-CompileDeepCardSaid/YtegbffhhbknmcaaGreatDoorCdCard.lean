/- 'warplaw08.CompileDeep' answers true at every input, and leaves what it reads as it was; the package's variables that its row lists hold what the program's text lays: the tied card. No condition besides the row's own. -/
import Derived.Test.YtegbffhhbknmcaaGreatDoorSxPost
import Derived.Test.YtegbffhhbknmcaaGreatDoorCdKnown
import Derived.Test.YtegbffhhbknmcaaGreatDoorCdR0
import Derived.Test.YtegbffhhbknmcaaGreatDoorCdR1
import Derived.Test.YtegbffhhbknmcaaGreatDoorCdR2
import Derived.Test.YtegbffhhbknmcaaGreatDoorCdR3
import Derived.Test.YtegbffhhbknmcaaGreatDoorCdR4
import Derived.Test.YtegbffhhbknmcaaGreatDoorCdR5
import Derived.Test.YtegbffhhbknmcaaGreatDoorCdR6
import Derived.Test.YtegbffhhbknmcaaGreatDoorCdR7
import Derived.Test.YtegbffhhbknmcaaGreatDoorCdR8
import Derived.Test.YtegbffhhbknmcaaGreatDoorCdR9
import Derived.Test.YtegbffhhbknmcaaGreatDoorCdR10
import Derived.Test.YtegbffhhbknmcaaGreatDoorCdR11
import Derived.Test.YtegbffhhbknmcaaGreatDoorCards
import Derived.Test.YtegbffhhbknmcaaGreatDoorTie
import Derived.ProofKit
import Derived.OpenShut
import Derived.LaidMore
import Derived.LaidHandle
import Derived.Eval
import Derived.Deep.DeepHandedRow
import Derived.Deep.DeepWitnessRowRef
namespace Go.Proofs.YtegbffhhbknmcaaGreatDoor
open Go Go.Sx Go.ChangeShapes Go.WideShapes Go.ChangeAt Go.RowKit
set_option maxRecDepth 1000000

theorem mix : Tryz.prog.follows .mixedOrders = true := Checked.mixed Tryz.checked

theorem runs0 (n : Nat) (h : n < 31) : run1 [.int .i64 (.ofNat n), .opq 0] = true := by
  match n, h with
  | 0, _ => exact r0_0
  | 1, _ => exact r1_0
  | 2, _ => exact r2_0
  | 3, _ => exact r3_0
  | 4, _ => exact r4_0
  | 5, _ => exact r5_0
  | 6, _ => exact r6_0
  | 7, _ => exact r7_0
  | 8, _ => exact r8_0
  | 9, _ => exact r9_0
  | 10, _ => exact r10_0
  | 11, _ => exact r11_0
  | 12, _ => exact r12_0
  | 13, _ => exact r13_0
  | 14, _ => exact r14_0
  | 15, _ => exact r15_0
  | 16, _ => exact r16_0
  | 17, _ => exact r17_0
  | 18, _ => exact r18_0
  | 19, _ => exact r19_0
  | 20, _ => exact r20_0
  | 21, _ => exact r21_0
  | 22, _ => exact r22_0
  | 23, _ => exact r23_0
  | 24, _ => exact r24_0
  | 25, _ => exact r25_0
  | 26, _ => exact r26_0
  | 27, _ => exact r27_0
  | 28, _ => exact r28_0
  | 29, _ => exact r29_0
  | 30, _ => exact r30_0
  | n + 31, h => exact absurd h (by omega)
theorem runs1 (n : Nat) (h : n < 31) : run1 [.int .i64 (.ofNat n), .opq 1] = true := by
  match n, h with
  | 0, _ => exact r0_1
  | 1, _ => exact r1_1
  | 2, _ => exact r2_1
  | 3, _ => exact r3_1
  | 4, _ => exact r4_1
  | 5, _ => exact r5_1
  | 6, _ => exact r6_1
  | 7, _ => exact r7_1
  | 8, _ => exact r8_1
  | 9, _ => exact r9_1
  | 10, _ => exact r10_1
  | 11, _ => exact r11_1
  | 12, _ => exact r12_1
  | 13, _ => exact r13_1
  | 14, _ => exact r14_1
  | 15, _ => exact r15_1
  | 16, _ => exact r16_1
  | 17, _ => exact r17_1
  | 18, _ => exact r18_1
  | 19, _ => exact r19_1
  | 20, _ => exact r20_1
  | 21, _ => exact r21_1
  | 22, _ => exact r22_1
  | 23, _ => exact r23_1
  | 24, _ => exact r24_1
  | 25, _ => exact r25_1
  | 26, _ => exact r26_1
  | 27, _ => exact r27_1
  | 28, _ => exact r28_1
  | 29, _ => exact r29_1
  | 30, _ => exact r30_1
  | n + 31, h => exact absurd h (by omega)
theorem runs2 (n : Nat) (h : n < 31) : run1 [.int .i64 (.ofNat n), .opq 2] = true := by
  match n, h with
  | 0, _ => exact r0_2
  | 1, _ => exact r1_2
  | 2, _ => exact r2_2
  | 3, _ => exact r3_2
  | 4, _ => exact r4_2
  | 5, _ => exact r5_2
  | 6, _ => exact r6_2
  | 7, _ => exact r7_2
  | 8, _ => exact r8_2
  | 9, _ => exact r9_2
  | 10, _ => exact r10_2
  | 11, _ => exact r11_2
  | 12, _ => exact r12_2
  | 13, _ => exact r13_2
  | 14, _ => exact r14_2
  | 15, _ => exact r15_2
  | 16, _ => exact r16_2
  | 17, _ => exact r17_2
  | 18, _ => exact r18_2
  | 19, _ => exact r19_2
  | 20, _ => exact r20_2
  | 21, _ => exact r21_2
  | 22, _ => exact r22_2
  | 23, _ => exact r23_2
  | 24, _ => exact r24_2
  | 25, _ => exact r25_2
  | 26, _ => exact r26_2
  | 27, _ => exact r27_2
  | 28, _ => exact r28_2
  | 29, _ => exact r29_2
  | 30, _ => exact r30_2
  | n + 31, h => exact absurd h (by omega)
theorem runs3 (n : Nat) (h : n < 31) : run1 [.int .i64 (.ofNat n), .opq 3] = true := by
  match n, h with
  | 0, _ => exact r0_3
  | 1, _ => exact r1_3
  | 2, _ => exact r2_3
  | 3, _ => exact r3_3
  | 4, _ => exact r4_3
  | 5, _ => exact r5_3
  | 6, _ => exact r6_3
  | 7, _ => exact r7_3
  | 8, _ => exact r8_3
  | 9, _ => exact r9_3
  | 10, _ => exact r10_3
  | 11, _ => exact r11_3
  | 12, _ => exact r12_3
  | 13, _ => exact r13_3
  | 14, _ => exact r14_3
  | 15, _ => exact r15_3
  | 16, _ => exact r16_3
  | 17, _ => exact r17_3
  | 18, _ => exact r18_3
  | 19, _ => exact r19_3
  | 20, _ => exact r20_3
  | 21, _ => exact r21_3
  | 22, _ => exact r22_3
  | 23, _ => exact r23_3
  | 24, _ => exact r24_3
  | 25, _ => exact r25_3
  | 26, _ => exact r26_3
  | 27, _ => exact r27_3
  | 28, _ => exact r28_3
  | 29, _ => exact r29_3
  | 30, _ => exact r30_3
  | n + 31, h => exact absurd h (by omega)

/-- a value that is not told, set -/
def qSet (i : Nat) (n : Int) (Q : Nat → Value) : Nat → Value := fun j => if j = i then .int .i64 n else Q j
theorem qSet_ok {i : Nat} {n : Int} {Q : Nat → Value} (h : QOk Q) (h1 : ∀ m, qLo i = some m → m ≤ n) (h2 : ∀ m, qHi i = some m → n ≤ m) (h3 : ∀ m, qMod i = some m → n.tmod 4 = (m : Int)) : QOk (qSet i n Q) := by
  refine ⟨fun j => ?_, fun j hj => ?_⟩
  · unfold qSet; split
    · rfl
    · exact h.1 j
  · by_cases e : j = i
    · subst e; exact ⟨n, by simp [qSet], h1, h2, h3⟩
    · obtain ⟨m, h4, h5⟩ := h.2 j hj
      exact ⟨m, by simp [qSet, e, h4], h5⟩

section
variable {W : World} {c : Array Value} {fr : Nat × Nat}

theorem one (hb : W.heap[0]? = some (.cells c 283 fr)) (hc : ∀ Q η, CellsRel Q η (tab zs) 0 c) (hn : NotFrozen c fr) {Q : Nat → Value} (hQ : QOk Q) {x y : AV} {a b : Int} (ha : concVs Q env0 [x, y] = some [.int .i64 a, .int .i64 b]) (hrun : run1 [x, y] = true) :
    Calls Tryz.prog 3 #[.int .i64 a, .int .i64 b] W (fun e w' => e = .returned (.bool true) ∧ Kept W w') :=
  (run_yes ⟨hQ, sumYes_ok hQ mix (by decide) known_run⟩ mix (by decide) hb (hc Q env0) hn ha hrun).mono fun _ _ h => ⟨h.1, h.2⟩

theorem every (hb : W.heap[0]? = some (.cells c 283 fr)) (hc : ∀ Q η, CellsRel Q η (tab zs) 0 c) (hn : NotFrozen c fr) (a b : Int) : Calls Tryz.prog 3 #[.int .i64 a, .int .i64 b] W (fun e w' => e = .returned (.bool true) ∧ Kept W w') := by
  by_cases h1 : a < 0
  · refine one hb hc hn (Q := qSet 7 b (qSet 4 a Q0)) (qSet_ok (qSet_ok Q0_ok ?_ ?_ ?_) ?_ ?_ ?_) (x := .opq 4) (y := .opq 7) (by rfl) low_run <;> intro m hm <;> simp [qLo, qHi, qMod] at hm <;> omega
  by_cases h2 : 30 < a
  · refine one hb hc hn (Q := qSet 7 b (qSet 5 a Q0)) (qSet_ok (qSet_ok Q0_ok ?_ ?_ ?_) ?_ ?_ ?_) (x := .opq 5) (y := .opq 7) (by rfl) high_run <;> intro m hm <;> simp [qLo, qHi, qMod] at hm <;> omega
  by_cases h3 : b < 0
  · refine one hb hc hn (Q := qSet 4 b (qSet 6 a Q0)) (qSet_ok (qSet_ok Q0_ok ?_ ?_ ?_) ?_ ?_ ?_) (x := .opq 6) (y := .opq 4) (by rfl) neg_run <;> intro m hm <;> simp [qLo, qHi, qMod] at hm <;> omega
  obtain ⟨n, rfl⟩ : ∃ n : Nat, a = n := ⟨a.toNat, by omega⟩
  have hlt : n < 31 := by omega
  have hmod : b.tmod 4 = 0 ∨ b.tmod 4 = 1 ∨ b.tmod 4 = 2 ∨ b.tmod 4 = 3 := by
    rw [Int.tmod_eq_emod_of_nonneg (by omega)]; omega
  have go : ∀ r : Nat, r < 4 → b.tmod 4 = (r : Int) → run1 [.int .i64 (.ofNat n), .opq r] = true → Calls Tryz.prog 3 #[.int .i64 n, .int .i64 b] W (fun e w' => e = .returned (.bool true) ∧ Kept W w') := fun r hr hm hrun => by
    refine one hb hc hn (Q := qSet r b Q0) (qSet_ok Q0_ok ?_ ?_ ?_) (x := .int .i64 (.ofNat n)) (y := .opq r) (by simp [concVs, concV, qSet]) hrun
    · intro m h; rcases (show r = 0 ∨ r = 1 ∨ r = 2 ∨ r = 3 by omega) with rfl | rfl | rfl | rfl <;> simp [qLo] at h <;> omega
    · intro m h; rcases (show r = 0 ∨ r = 1 ∨ r = 2 ∨ r = 3 by omega) with rfl | rfl | rfl | rfl <;> simp [qHi] at h
    · intro m h; rw [hm]; rcases (show r = 0 ∨ r = 1 ∨ r = 2 ∨ r = 3 by omega) with rfl | rfl | rfl | rfl <;> simp [qMod] at h <;> omega
  rcases hmod with h | h | h | h
  · exact go 0 (by decide) h (runs0 n hlt)
  · exact go 1 (by decide) h (runs1 n hlt)
  · exact go 2 (by decide) h (runs2 n hlt)
  · exact go 3 (by decide) h (runs3 n hlt)
end

theorem own : ownKnob Tryz.prog.godebug = none := by kernel_rfl
theorem gTab : Tryz.prog.globalNamed "strings.asciiSpace" = some 0 := by kernel_rfl
theorem gTabType : (Tryz.prog.globals[0]?).map (·.type) = some 283 := by kernel_rfl
theorem und283 : Tryz.prog.underlying 283 = some (.array 256 5) := by kernel_rfl
theorem undE : Tryz.prog.underlying 5 = some (.int .u8) := by kernel_rfl
theorem cells283 : Tryz.prog.cellsOf 283 = 256 := by kernel_rfl
theorem cellsE : Tryz.prog.cellsOf 5 = 1 := by kernel_rfl
theorem row0 : ∃ zero, ((begin Tryz.prog (fun _ _ => 0) default).world.heap[0]?).bind Obj.row? = some (zero, 283) := by
  have h : (((begin Tryz.prog (fun _ _ => 0) default).world.heap[0]?).bind Obj.row?).map (·.2) = some 283 := by kernel_rfl
  cases e : ((begin Tryz.prog (fun _ _ => 0) default).world.heap[0]?).bind Obj.row? with
  | none => rw [e] at h; cases h
  | some x => rw [e] at h; exact ⟨x.1, by rw [← Option.some.inj h]⟩
theorem nGlob : 0 < Tryz.prog.globals.size := by
  have : Tryz.prog.globals.size = 8 := by kernel_rfl
  omega

/-- the list without its variables but the last is the last -/
theorem laid_last {W : World} (h : laidMetH Tryz.prog Rows.compileDeepRow.laid W) : laidMet Tryz.prog [("strings.asciiSpace", Lib.tabData .u8 zs)] W := by
  rw [MakeChecks.laidMetH_plain _ _ _ (by kernel_rfl)] at h
  obtain ⟨ps, h1, h2, h3⟩ := h
  obtain ⟨_, _, _, _, _, q1, _, _, _, _, ⟨_, _, _, _, _, q2, _, _, _, _, ⟨_, _, _, _, _, q3, _, _, _, _, ⟨_, _, _, _, _, q4, _, _, _, _, ⟨_, _, _, _, _, q5, _, _, _, _, ⟨_, _, _, _, _, q6, _, _, _, _, h7, e6⟩, e5⟩, e4⟩, e3⟩, e2⟩, e1⟩ := h1
  refine ⟨q6, h7, ?_, ?_⟩
  · subst e1 e2 e3 e4 e5 e6; exact (List.nodup_append.1 (List.nodup_append.1 (List.nodup_append.1 (List.nodup_append.1 (List.nodup_append.1 (List.nodup_append.1 h2).2.1).2.1).2.1).2.1).2.1).2.1
  · subst e1 e2 e3 e4 e5 e6; exact fun b off hp => h3 b off (by simp [hp])

theorem table {W : World} (h : laidMetH Tryz.prog Rows.compileDeepRow.laid W) : Lib.TabIs Tryz.prog W "strings.asciiSpace" .u8 zs :=
  Lib.tabIs_of_head (rest := []) gTab gTabType und283 undE cellsE cells283 (laid_last h)

/-- FOR EVERY ARGUMENT AND EVERY WORLD THAT THE ROW LETS IN -/
theorem contract (H : Type) (enc : TypeId × Value → H) (W : World) (base : Nat) (args : Array Value) (ds gs : List (DataW H)) (before : List MemPlace)
    (hval : ∀ (j : Nat) t v, Tryz.f3.params[j]? = some t → args[j]? = some v → Value.okWide Tryz.prog W .any base t v)
    (hW : DataW.Whole enc Tryz.prog Tryz.f3.params.toList Rows.compileDeepSpec.vars false W args.toList ds gs before) (hL : laidMetH Tryz.prog Rows.compileDeepRow.laid W) (hsh : W.ShapedOpen Tryz.prog) :
    Calls Tryz.prog 3 args W fun e W' => ∃ v, e = .returned v ∧ Rows.compileDeepSpec.post enc Tryz.prog Tryz.f3 false true false false W args v W' := by
  have hW' := hW
  obtain ⟨p, q, hA0, hV, rfl, hfz, hnd⟩ := hW
  have hA : DataW.TrodAll enc Tryz.prog W 0 (fun _ => true) true Tryz.f3.params.toList args.toList ds p := hA0
  rw [Tryz.params3] at hA hval
  obtain ⟨v0, vs0, d0, ds0, p0, q0, hargs, rfl, rfl, h0, r0⟩ := trodAll_cons hA
  obtain ⟨v1, vs1, d1, ds1, p1, q1, hargs1, rfl, rfl, h1, r1⟩ := trodAll_cons r0
  obtain ⟨rfl, rfl, rfl⟩ := trodAll_nil r1
  subst hargs1
  obtain rfl : args = #[v0, v1] := by cases args; simp_all
  obtain ⟨rfl, rfl⟩ := trodVars_none hV
  obtain ⟨a, rfl, rfl, rfl, wa⟩ := open_int Tryz.underlying3 (hval 0 3 v0 rfl rfl) h0
  obtain ⟨b, rfl, rfl, rfl, wb⟩ := open_int Tryz.underlying3 (hval 1 3 v1 rfl rfl) h1
  clear hA0
  simp only [List.append_nil] at hW'
  obtain ⟨zero, hz⟩ := row0
  have start : ∀ Q η, ∃ c fr, W.heap[0]? = some (.cells c 283 fr) ∧ CellsRel Q η (tab zs) 0 c ∧ NotFrozen c fr := fun Q η => tab_start (table hL) gTab nGlob hsh hz
  obtain ⟨c, fr, hb, _, hn⟩ := start Q0 env0
  have hc : ∀ Q η, CellsRel Q η (tab zs) 0 c := fun Q η => by
    obtain ⟨c', fr', hb', hc', _⟩ := start Q η
    rw [hb] at hb'; cases hb'; exact hc'
  refine (every hb hc hn a b).mono fun e W' ⟨he, hk⟩ => ?_
  subst he
  exact ⟨_, rfl, post_of_kept (pa := []) (pv := []) hW' (fun _ _ _ => trodAll_cons_mk (shut_bool Tryz.underlying4 _) trodAll_mk0)
    (fun _ _ => trodAll_cons_mk (shut_int Tryz.underlying3 wa) (trodAll_cons_mk (shut_int Tryz.underlying3 wb) trodAll_mk0)) (fun _ _ => rfl) rfl
    hk (ok_one (by kernel_rfl) rfl (okWide_bool_mk Tryz.underlying4 _))⟩

/-- THE WITNESS: the heap that the program's own start leaves -/
theorem door_met (os : Os) (args : Array Value) : laidMetH Tryz.prog Rows.compileDeepRow.laid ((World.doorLaid Tryz.prog 400 os).forCall (fun _ _ => 0) ⟨#[], args, []⟩).memory :=
  laidMetH_of_parts3 (fuel := 8) (laidMet_of_run' 8 (by kernel_rfl) (by kernel_rfl)) (by kernel_rfl) (by kernel_rfl)

theorem lifted (os : Os) (started : os.Started) (H : Type) (enc : TypeId × Value → H) (F : Stop.Interp) :
    ReturnsInHanded {} Tryz.checked os 3 .any ((OpenSpec.ofChange Rows.compileDeepSpec).preRow enc Tryz.prog Tryz.f3 Rows.compileDeepRow.domain false Rows.compileDeepRow.laid) (((OpenSpec.ofChange Rows.compileDeepSpec).at F).post enc Tryz.prog Tryz.f3 false true false false) := by
  obtain ⟨places, hx⟩ : ∃ places, DataW.whole enc Tryz.prog ((World.doorLaid Tryz.prog 400 os).forCall (fun _ _ => 0) ⟨#[], #[.int .i64 0, .int .i64 0], []⟩).memory Tryz.f3.params.toList Rows.compileDeepSpec.vars false #[Value.int .i64 0, Value.int .i64 0].toList 8 = some ([.lit (.int .i64 0), .lit (.int .i64 0)], [], places) := ⟨[], by kernel_rfl⟩
  refine returnsInHanded_of_row (C := Tryz.checked) (s := OpenSpec.ofChange Rows.compileDeepSpec) own started (by kernel_rfl) Tryz.func3
    (witness_row_atRef (enc := enc) (C := Tryz.checked) false (World.doorLaid Tryz.prog 400 os) #[.int .i64 0, .int .i64 0] rfl (by kernel_rfl) (by kernel_rfl) (by kernel_rfl)
      (OpenSpec.preRow_of_cond 8 hx (by kernel_rfl) (fun k hk => by cases hk) (by kernel_rfl) (door_met os _))) ?_
  intro W base args ds gs before hval hW _ _ _ hL hsh _
  exact contract H enc W base args ds gs before hval hW hL hsh

theorem said : Rows.CompileDeepSaid :=
  OpenClaim.holds_of_cond 3 Tryz.f3 rfl rfl rfl rfl rfl rfl rfl ⟨rfl, rfl, rfl, rfl, rfl⟩ rfl rfl rfl rfl rfl (by kernel_rfl) Tryz.func3 (by kernel_rfl)
    (of_decide_eq_true (by kernel_rfl)) (by unfold Func.isWrapper; first | (rw [if_pos (by decide +kernel)]; kernel_rfl) | (rw [if_neg (by decide +kernel)]; exact ⟨rfl, rfl⟩))
    (fun os started H enc _ F => by rw [OpenClaim.pre_eq_preRow]; exact lifted os started H enc F)

theorem plain (f : FuncId) (fn : Func) (hf : Tryz.pinned.checked.prog.funcNamed "warp/warplaw08.CompileDeep" = some f) (hfn : Tryz.pinned.checked.prog.funcs[f]? = some fn) :
    true = Tryz.pinned.checked.prog.looks [] ∧ ∀ (j : Nat) t, fn.params[j]? = some t → Tryz.pinned.checked.prog.wantsStandIn t = false := by
  obtain rfl : f = 3 := Option.some.inj ((show Tryz.prog.funcNamed "warp/warplaw08.CompileDeep" = some 3 by kernel_rfl).symm.trans hf) |>.symm
  obtain rfl : fn = Tryz.f3 := (Option.some.inj (Tryz.func3.symm.trans hfn)).symm
  refine ⟨by kernel_rfl, fun j t ht => ?_⟩
  rw [Tryz.params3] at ht
  obtain rfl : t = 3 := by simpa using Array.mem_of_getElem? ht
  exact (show Tryz.prog.wantsStandIn 3 = false by kernel_rfl)

/-- THE CARD -/
theorem compileDeep_card : Rows.CompileDeepCardSaid :=
  Claim7.holds_tied_plain_at .later [] _ _ _ _ said (fun _ h => by cases h) (by kernel_rfl) (fun _ h => by cases h) compileDeep_row_tie rfl ⟨rfl, rfl⟩ (by kernel_rfl) rfl plain (by kernel_rfl)
#print axioms compileDeep_card
end Go.Proofs.YtegbffhhbknmcaaGreatDoor
