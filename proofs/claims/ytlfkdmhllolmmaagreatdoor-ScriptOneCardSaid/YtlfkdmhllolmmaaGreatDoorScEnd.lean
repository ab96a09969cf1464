/- 'warp/warplaw17.ScriptOne' answers true at every input, and leaves what it reads as it was; the package's variables that its row lists hold what the program's text lays: the tied card. No condition besides the row's own. -/
import Derived.Test.YtlfkdmhllolmmaaGreatDoorScCard
namespace Go.Proofs.YtlfkdmhllolmmaaGreatDoor
open Go Go.Sx Go.ChangeShapes Go.WideShapes Go.ChangeAt Go.RowKit
set_option maxRecDepth 1000000
set_option maxHeartbeats 40000000
/-- a program without a go statement: no call of it starts a goroutine -/
theorem goesBy_false {c : OpenClaim} {P : Program} (hs : c.start = .entering) (h : P.funcs.any Func.goes = false) : c.goesBy P = false := by
  have h1 : ∀ g : Nat, (P.funcs[g]?).any Func.goes = false := fun g => by
    cases e : P.funcs[g]? with
    | none => rfl
    | some fn =>
      obtain ⟨hlt, rfl⟩ := Array.getElem?_eq_some_iff.1 e
      have := Array.any_eq_false.1 h g hlt
      simpa using this
  have h2 : ∀ f, P.goes f = false := fun f => by
    unfold Program.goes
    rw [h, Bool.and_false, Bool.or_false]
    simp [h1]
  unfold OpenClaim.goesBy Program.goesAt Program.goesFrom
  rw [hs]
  cases P.funcNamed c.func with
  | none => rfl
  | some f => simp [h2]
theorem noGo : Tryz.pinned.checked.prog.funcs.any Func.goes = false := by kernel_rfl
/-- THE CARD -/
theorem scriptOne_card : Rows.ScriptOneCardSaid :=
  Claim7.holds_tied_plain_at .later [] _ _ _ _ said (fun _ h => by cases h) (by as_aux_lemma => kernel_rfl) (fun _ h => by cases h) scriptOne_row_tie rfl ⟨rfl, rfl⟩ (by as_aux_lemma => kernel_rfl) rfl plain (goesBy_false rfl noGo).symm
#print axioms scriptOne_card
end Go.Proofs.YtlfkdmhllolmmaaGreatDoor
