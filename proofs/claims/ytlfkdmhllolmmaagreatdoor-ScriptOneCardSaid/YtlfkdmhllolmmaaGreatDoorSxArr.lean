/- Three bytes, as a row reads them. -/
import Derived.Test.YtlfkdmhllolmmaaGreatDoorSxPost
import Derived.Test.YtlfkdmhllolmmaaGreatDoorSxBytes
import Derived.OpenShut
namespace Go.Sx
open Go Go.ChangeShapes Go.WideShapes

section
variable {H : Type} {enc : TypeId × Value → H} {P : Program} {w : World} {base : Nat} {spare : Nat → Bool} {held : Bool}

theorem open_bytes3 {r : Reach} {b0 : Nat} {t e : TypeId} {v : Value} {d : DataW H} {ps : List MemPlace} (hu : P.underlying t = some (.array 3 e)) (he : P.underlying e = some (.int .u8)) (hce : P.cellsOf e = 1) (hct : P.cellsOf t = 3)
    (hval : Value.okWide P w r b0 t v) (hd : DataW.Trod enc P w base spare held t v d ps) :
    ∃ x y z : Int, v = .agg #[.int .u8 x, .int .u8 y, .int .u8 z] ∧ d = .agg [.lit (.int .u8 x), .lit (.int .u8 y), .lit (.int .u8 z)] ∧ ps = [] ∧ (Lit.int .u8 x).wf = true ∧ (Lit.int .u8 y).wf = true ∧ (Lit.int .u8 z).wf = true := by
  have hv : ∃ cs, v = .agg cs ∧ cs.size = 3 := by
    simp only [Value.okWide, hu] at hval
    obtain ⟨cs, h1, h2, _⟩ := hval
    exact ⟨cs, h1, by rw [h2, hct]⟩
  obtain ⟨⟨cs⟩, rfl, hs⟩ := hv
  obtain ⟨fuel, hf⟩ := hd
  obtain ⟨xs, m, _, hx, hl, hn, hel⟩ := DataW.trod_array hu hf
  match cs, hs with
  | [c0, c1, c2], _ =>
    match xs, hn with
    | [x0, x1, x2], _ =>
      have k0 := hel 0 (by decide)
      have k1 := hel 1 (by decide)
      have k2 := hel 2 (by decide)
      simp only [Value.cells, hce] at k0 k1 k2
      obtain ⟨n0, e0, f0, g0⟩ := DataW.trod_int he (show DataW.trod enc P w base spare held m e [c0] = some x0 from k0)
      obtain ⟨n1, e1, f1, g1⟩ := DataW.trod_int he (show DataW.trod enc P w base spare held m e [c1] = some x1 from k1)
      obtain ⟨n2, e2, f2, g2⟩ := DataW.trod_int he (show DataW.trod enc P w base spare held m e [c2] = some x2 from k2)
      cases e0; cases e1; cases e2
      subst f0 f1 f2
      simp only [List.map_cons, List.map_nil, List.flatMap_cons, List.flatMap_nil, List.append_nil, Prod.mk.injEq] at hx
      exact ⟨n0, n1, n2, rfl, hx.1, hx.2, g0, g1, g2⟩

theorem shut_bytes3 {t e : TypeId} {x y z : Int} (hu : P.underlying t = some (.array 3 e)) (he : P.underlying e = some (.int .u8)) (hce : P.cellsOf e = 1) (hct : P.cellsOf t = 3)
    (g0 : (Lit.int .u8 x).wf = true) (g1 : (Lit.int .u8 y).wf = true) (g2 : (Lit.int .u8 z).wf = true) :
    DataW.Trod enc P w base spare held t (.agg #[.int .u8 x, .int .u8 y, .int .u8 z]) (.agg [.lit (.int .u8 x), .lit (.int .u8 y), .lit (.int .u8 z)]) [] := by
  refine ⟨2, ?_⟩
  have r : ∀ n : Int, (Lit.int .u8 n).wf = true → DataW.trod enc P w base spare held 1 e [.int .u8 n] = some (.lit (.int .u8 n), []) := fun n h => trod_int_mk 0 he h
  have hr : List.range 3 = [0, 1, 2] := rfl
  simp [DataW.trod, Value.cells, hu, hct, hce, hr] 
  simp [DataW.trod, he, g0, g1, g2]

theorem byte_of_wf {x : Int} (h : (Lit.int .u8 x).wf = true) : 0 ≤ x ∧ x ≤ 255 := by
  simp [Lit.wf, IntKind.min, IntKind.max, IntKind.signed, IntKind.bits] at h
  omega
end
end Go.Sx
