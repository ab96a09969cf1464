/- Three bytes that are not told. -/
import Derived.Test.YtlfkdmhllolmmaaGreatDoorSxSum
namespace Go.Sx
open Go

/-- byte number k of those whose rest is r -/
def byteAV (k r : Nat) : AV := .opq (16 + 2 * (16 * k + r))

/-- what stands for three bytes -/
def qBytes (r0 r1 r2 : Nat) (b0 b1 b2 : Int) : Nat → Value := fun i =>
  if i = 16 + 2 * r0 then .int .u8 b0 else if i = 16 + 2 * r0 + 1 then .int .i64 b0 else
  if i = 16 + 2 * (16 + r1) then .int .u8 b1 else if i = 16 + 2 * (16 + r1) + 1 then .int .i64 b1 else
  if i = 16 + 2 * (32 + r2) then .int .u8 b2 else if i = 16 + 2 * (32 + r2) + 1 then .int .i64 b2 else Q0 i

theorem qBytes_ok {r0 r1 r2 : Nat} {b0 b1 b2 : Int} (h0 : 0 ≤ b0 ∧ b0 ≤ 255 ∧ b0.tmod 5 = r0) (h1 : 0 ≤ b1 ∧ b1 ≤ 255 ∧ b1.tmod 6 = r1) (h2 : 0 ≤ b2 ∧ b2 ≤ 255 ∧ b2.tmod 9 = r2) (l0 : r0 < 5) (l1 : r1 < 6) (l2 : r2 < 9) :
    QOk (qBytes r0 r1 r2 b0 b1 b2) := by
  refine ⟨fun i => ?_, fun i hi h7 => ?_, fun c hc => ?_, fun m n hm hn => ?_⟩
  · unfold qBytes
    repeat' split
    all_goals first | rfl | exact Q0_ok.1 i
  · obtain ⟨n, g1, g2⟩ := Q0_ok.2.1 i hi h7
    refine ⟨n, ?_, g2⟩
    unfold qBytes
    rw [if_neg (by omega), if_neg (by omega), if_neg (by omega), if_neg (by omega), if_neg (by omega), if_neg (by omega)]
    exact g1
  · by_cases e0 : c = r0
    · subst e0
      refine ⟨b0, ?_, ?_, h0.1, h0.2.1, fun _ => ?_⟩
      · unfold qBytes; rw [if_pos rfl]
      · unfold qBytes; rw [if_neg (by omega), if_pos rfl]
      · rw [show c / 16 = 0 by omega, show c % 16 = c by omega]; exact h0.2.2
    by_cases e1 : c = 16 + r1
    · subst e1
      refine ⟨b1, ?_, ?_, h1.1, h1.2.1, fun _ => ?_⟩
      · unfold qBytes; rw [if_neg (by omega), if_neg (by omega), if_pos rfl]
      · unfold qBytes; rw [if_neg (by omega), if_neg (by omega), if_neg (by omega), if_pos rfl]
      · rw [show (16 + r1) / 16 = 1 by omega, show (16 + r1) % 16 = r1 by omega]; exact h1.2.2
    by_cases e2 : c = 32 + r2
    · subst e2
      refine ⟨b2, ?_, ?_, h2.1, h2.2.1, fun _ => ?_⟩
      · unfold qBytes; rw [if_neg (by omega), if_neg (by omega), if_neg (by omega), if_neg (by omega), if_pos rfl]
      · unfold qBytes; rw [if_neg (by omega), if_neg (by omega), if_neg (by omega), if_neg (by omega), if_neg (by omega), if_pos rfl]
      · rw [show (32 + r2) / 16 = 2 by omega, show (32 + r2) % 16 = r2 by omega]; exact h2.2.2
    · obtain ⟨n, g1, g2, g3⟩ := Q0_ok.2.2.1 c hc
      refine ⟨n, ?_, ?_, g3⟩
      · unfold qBytes
        rw [if_neg (by omega), if_neg (by omega), if_neg (by omega), if_neg (by omega), if_neg (by omega), if_neg (by omega)]
        exact g1
      · unfold qBytes
        rw [if_neg (by omega), if_neg (by omega), if_neg (by omega), if_neg (by omega), if_neg (by omega), if_neg (by omega)]
        exact g2
  · obtain ⟨y, g1, g2, g3⟩ := Q0_ok.2.2.2 m n hm hn
    refine ⟨y, ?_, ?_, ?_⟩
    · unfold qBytes
      rw [if_neg (by omega), if_neg (by omega), if_neg (by omega), if_neg (by omega), if_neg (by omega), if_neg (by omega)]
      exact g1
    · unfold qBytes
      rw [if_neg (by omega), if_neg (by omega), if_neg (by omega), if_neg (by omega), if_neg (by omega), if_neg (by omega)]
      exact g2
    · unfold qBytes
      rw [if_neg (by omega), if_neg (by omega), if_neg (by omega), if_neg (by omega), if_neg (by omega), if_neg (by omega)]
      exact g3

theorem qBytes_conc {r0 r1 r2 : Nat} {b0 b1 b2 : Int} {η : Env} (l0 : r0 < 5) (l1 : r1 < 6) :
    concVs (qBytes r0 r1 r2 b0 b1 b2) η [.agg [byteAV 0 r0, byteAV 1 r1, byteAV 2 r2]] = some [.agg #[.int .u8 b0, .int .u8 b1, .int .u8 b2]] := by
  have e0 : qBytes r0 r1 r2 b0 b1 b2 (16 + 2 * (16 * 0 + r0)) = .int .u8 b0 := by unfold qBytes; rw [if_pos (by omega)]
  have e1 : qBytes r0 r1 r2 b0 b1 b2 (16 + 2 * (16 * 1 + r1)) = .int .u8 b1 := by unfold qBytes; rw [if_neg (by omega), if_neg (by omega), if_pos (by omega)]
  have e2 : qBytes r0 r1 r2 b0 b1 b2 (16 + 2 * (16 * 2 + r2)) = .int .u8 b2 := by
    unfold qBytes; rw [if_neg (by omega), if_neg (by omega), if_neg (by omega), if_neg (by omega), if_pos (by omega)]
  simp only [concVs, concV, byteAV, e0, e1, e2]
end Go.Sx
