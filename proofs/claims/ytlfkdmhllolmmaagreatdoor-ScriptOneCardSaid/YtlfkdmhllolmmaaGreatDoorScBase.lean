/- Of the first heap, and of the calls that are known: what each run begins with. -/
import Derived.Test.YtlfkdmhllolmmaaGreatDoorSxChunk
import Derived.Test.YtlfkdmhllolmmaaGreatDoorSxBytes
import Derived.KernelRfl
import Derived.Test.YtlfkdmhllolmmaaGreatDoorProg
namespace Go.Proofs.YtlfkdmhllolmmaaGreatDoor
open Go Go.Sx

/-- the table of blanks -/
def zs : List Int := [0, 0, 0, 0, 0, 0, 0, 0, 0, 1, 1, 1, 1, 1, 0, 0, 0, 0, 0, 0, 0, 0, 0, 0, 0, 0, 0, 0, 0, 0, 0, 0, 1, 0, 0, 0, 0, 0, 0, 0, 0, 0, 0, 0, 0, 0, 0, 0, 0, 0, 0, 0, 0, 0, 0, 0, 0, 0, 0, 0, 0, 0, 0, 0, 0, 0, 0, 0, 0, 0, 0, 0, 0, 0, 0, 0, 0, 0, 0, 0, 0, 0, 0, 0, 0, 0, 0, 0, 0, 0, 0, 0, 0, 0, 0, 0, 0, 0, 0, 0, 0, 0, 0, 0, 0, 0, 0, 0, 0, 0, 0, 0, 0, 0, 0, 0, 0, 0, 0, 0, 0, 0, 0, 0, 0, 0, 0, 0, 0, 0, 0, 0, 0, 0, 0, 0, 0, 0, 0, 0, 0, 0, 0, 0, 0, 0, 0, 0, 0, 0, 0, 0, 0, 0, 0, 0, 0, 0, 0, 0, 0, 0, 0, 0, 0, 0, 0, 0, 0, 0, 0, 0, 0, 0, 0, 0, 0, 0, 0, 0, 0, 0, 0, 0, 0, 0, 0, 0, 0, 0, 0, 0, 0, 0, 0, 0, 0, 0, 0, 0, 0, 0, 0, 0, 0, 0, 0, 0, 0, 0, 0, 0, 0, 0, 0, 0, 0, 0, 0, 0, 0, 0, 0, 0, 0, 0, 0, 0, 0, 0, 0, 0, 0, 0, 0, 0, 0, 0, 0, 0, 0, 0, 0, 0, 0, 0, 0, 0, 0, 0, 0, 0, 0, 0, 0, 0]
noncomputable def sum1 : Sums := sumKeep 340 341 3
noncomputable def sum2 : Sums := orSum (sumYes 7 0 543 zs) sum1
theorem keep_run : (runK Tryz.prog noSum 4 (launch Tryz.prog 340 [.opq 7] ⟨.nil, 64⟩)).keeps 340 341 3 = true := by kernel_rfl
/-- the law at bytes whose rests by 5, 6, 9 are these -/
noncomputable def runS (r0 r1 r2 : Nat) : Bool := (runK Tryz.prog sum2 8 (launch Tryz.prog 3 [.agg [byteAV 0 r0, byteAV 1 r1, byteAV 2 r2]] (heap0 0 543 zs))).yes 3
noncomputable def run9 (r0 r1 : Nat) : Bool := sel (runS r0 r1 0) (sel (runS r0 r1 1) (sel (runS r0 r1 2) (sel (runS r0 r1 3) (sel (runS r0 r1 4) (sel (runS r0 r1 5) (sel (runS r0 r1 6) (sel (runS r0 r1 7) (runS r0 r1 8) false) false) false) false) false) false) false) false
theorem run9_spec {r0 r1 : Nat} (h : run9 r0 r1 = true) (r : Nat) (hr : r < 9) : runS r0 r1 r = true := by
  unfold run9 at h
  have ⟨h0, h⟩ := selF h
  have ⟨h1, h⟩ := selF h
  have ⟨h2, h⟩ := selF h
  have ⟨h3, h⟩ := selF h
  have ⟨h4, h⟩ := selF h
  have ⟨h5, h⟩ := selF h
  have ⟨h6, h⟩ := selF h
  have ⟨h7, h8⟩ := selF h
  match r, hr with
  | 0, _ => exact h0
  | 1, _ => exact h1
  | 2, _ => exact h2
  | 3, _ => exact h3
  | 4, _ => exact h4
  | 5, _ => exact h5
  | 6, _ => exact h6
  | 7, _ => exact h7
  | 8, _ => exact h8
end Go.Proofs.YtlfkdmhllolmmaaGreatDoor
