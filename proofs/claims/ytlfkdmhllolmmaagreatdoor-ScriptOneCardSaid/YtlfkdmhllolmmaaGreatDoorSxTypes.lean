/- What the executor asks of types is what the model answers. -/
import Derived.Test.YtlfkdmhllolmmaaGreatDoorSxHeap
import Derived.Laws.Entries
namespace Go.Sx

section
variable {P : Program}

theorem infoA_some {t : TypeId} {i : TypeInfo} (h : infoA P t = some i) : P.info? t = some i := by
  unfold infoA at h
  rw [nth_eq, Array.getElem?_toList] at h
  have hlt : t < P.types.size := (Array.getElem?_eq_some_iff.1 h).1
  show P.toTables.info? t = some i
  unfold Tables.info?
  rw [if_pos hlt]; exact h

theorem undA_some {t : TypeId} {d : TypeDesc} (h : undA P t = some d) : P.underlying t = some d := by
  unfold undA at h
  cases hi : infoA P t with
  | none => rw [hi] at h; cases h
  | some i =>
    rw [hi] at h
    have hi' := infoA_some hi
    simp only at h
    unfold Program.underlying
    rw [hi']
    obtain ⟨desc, a, b, c, e, f, g, z, cm, m⟩ := i
    cases desc with
    | named n u =>
      simp only at h ⊢
      cases hj : infoA P u with
      | none => rw [hj] at h; cases h
      | some j => rw [hj] at h; rw [infoA_some hj]; exact h
    | _ => exact h

theorem run_und {t : TypeId} {d : TypeDesc} (h : undA P t = some d) (w : World) : (underlying t).run P w = .ok d w := run_underlying (undA_some h) w

theorem funcA_some {f : FuncId} {fn : Func} (h : funcA P f = some fn) : P.funcs[f]? = some fn := by
  unfold funcA at h
  rwa [nth_eq, Array.getElem?_toList] at h

theorem run_info {t : TypeId} {i : TypeInfo} (h : P.info? t = some i) (w : World) : (typeInfo t).run P w = .ok i w := by
  simp [typeInfo, h]

theorem szOf_some {t : TypeId} {n : Nat} (h : szOf P t = some n) : ∃ i, P.info? t = some i ∧ i.size = n ∧ P.cellsOf t = n := by
  unfold szOf at h
  cases hi : infoA P t with
  | none => rw [hi] at h; cases h
  | some i => rw [hi] at h; cases h; exact ⟨i, infoA_some hi, rfl, by simp [Program.cellsOf, infoA_some hi]⟩

theorem run_sz {t : TypeId} {n : Nat} (h : szOf P t = some n) (w : World) : (sizeOf t).run P w = .ok n w := by
  obtain ⟨i, h1, rfl, _⟩ := szOf_some h
  simp [Go.sizeOf, run_info h1]

theorem zeroOf_some {t : TypeId} {a : AV} (h : zeroOf P t = some a) : ∃ i z, P.info? t = some i ∧ i.zero = some z ∧ ofV z = some a := by
  unfold zeroOf at h
  cases hi : infoA P t with
  | none => rw [hi] at h; cases h
  | some i =>
    rw [hi] at h
    simp only at h
    cases hz : i.zero with
    | none => rw [hz] at h; cases h
    | some z => rw [hz] at h; exact ⟨i, z, infoA_some hi, hz, h⟩

theorem run_zero {t : TypeId} {a : AV} (h : zeroOf P t = some a) (w : World) : ∃ z, (zeroValue t).run P w = .ok z w ∧ ofV z = some a := by
  obtain ⟨i, z, h1, h2, h3⟩ := zeroOf_some h
  exact ⟨z, by simp [zeroValue, run_info h1, h2], h3⟩

theorem layA_some {t : TypeId} {lay : Option Nat} (h : layA P t = some lay) (w : World) :
    (lay = none ∧ (isAgg t).run P w = .ok false w) ∨ (∃ n, lay = some n ∧ (isAgg t).run P w = .ok true w ∧ (Go.sizeOf t).run P w = .ok n w) := by
  unfold layA at h
  cases hd : undA P t with
  | none => rw [hd] at h; cases h
  | some d =>
    rw [hd] at h
    have hu := run_und hd w
    cases d with
    | struct fs =>
      simp only at h
      cases hs : szOf P t with
      | none => rw [hs] at h; cases h
      | some n => rw [hs] at h; cases h; exact .inr ⟨n, rfl, by simp [isAgg, hu], run_sz hs w⟩
    | array k e =>
      simp only at h
      cases hs : szOf P t with
      | none => rw [hs] at h; cases h
      | some n => rw [hs] at h; cases h; exact .inr ⟨n, rfl, by simp [isAgg, hu], run_sz hs w⟩
    | _ => cases h; exact .inl ⟨rfl, by simp [isAgg, hu]⟩

theorem slA_some {t e : TypeId} {s : Nat} (h : slA P t = some (e, s)) : undA P t = some (.slice e) ∧ szOf P e = some s := by
  unfold slA at h
  split at h
  · rename_i e' hd
    cases hs : szOf P e' with
    | none => rw [hs] at h; cases h
    | some n => rw [hs] at h; cases h; exact ⟨hd, hs⟩
  · cases h

theorem arrA_some {t e : TypeId} {n s : Nat} (h : arrA P t = some (n, e, s)) : undA P t = some (.array n e) ∧ szOf P e = some s := by
  unfold arrA at h
  split at h
  · rename_i m e' hd
    cases hs : szOf P e' with
    | none => rw [hs] at h; cases h
    | some k => rw [hs] at h; cases h; exact ⟨hd, hs⟩
  · cases h

theorem fldA_some {t ft : TypeId} {i off : Nat} (h : fldA P t i = some (ft, off)) :
    ∃ fs f n, undA P t = some (.struct fs) ∧ fs[i]? = some f ∧ f.type = ft ∧ f.offset = off ∧ szOf P ft = some (n + 1) := by
  unfold fldA at h
  split at h
  · rename_i fs hd
    rw [nth_eq, Array.getElem?_toList] at h
    cases hf : fs[i]? with
    | none => rw [hf] at h; cases h
    | some f =>
      rw [hf] at h
      simp only at h
      split at h
      · rename_i n hs; cases h; exact ⟨fs, f, n, hd, hf, rfl, rfl, hs⟩
      · cases h
  · cases h

theorem isStrT_true {t : TypeId} (h : isStrT P t = true) : undA P t = some .string := by
  unfold isStrT at h; split at h <;> first | assumption | cases h
theorem notIntT_true {t : TypeId} (h : notIntT P t = true) : ∃ d, undA P t = some d ∧ ∀ k, d ≠ .int k := by
  unfold notIntT at h; split at h
  · cases h
  · cases h
  · rename_i d hno hd; exact ⟨d, hd, fun k e => hno k e⟩
theorem growOk_true {t : TypeId} (h : growOk P t = true) : ∃ i z a, P.info? t = some i ∧ i.zero = some z ∧ ofV z = some a ∧ i.bytes ≤ 65536 ∧ (cellsOf a).length = i.size := by
  unfold growOk at h
  split at h
  · cases h
  · rename_i i hi
    split at h
    · cases h
    · rename_i z hz
      split at h
      · cases h
      · rename_i a ha
        rw [Bool.and_eq_true, ble_iff, beq_iff, llen_eq] at h
        exact ⟨i, z, a, infoA_some hi, hz, ha, h.1, h.2⟩
theorem isIfaceT_some {t : TypeId} {b : Bool} (h : isIfaceT P t = some b) : ∃ d, undA P t = some d ∧ (b = true ↔ ∃ ms, d = .interface ms) := by
  unfold isIfaceT at h
  split at h
  · cases h
  · rename_i ms hd; cases h; exact ⟨_, hd, by simp⟩
  · rename_i d hno hd; cases h; exact ⟨d, hd, by simp; intro ms hms; subst hms; exact hno _ rfl⟩
theorem isSlT_true {t : TypeId} (h : isSlT P t = true) : ∃ e, undA P t = some (.slice e) := by
  unfold isSlT at h; split at h
  · rename_i e he; exact ⟨e, he⟩
  · cases h
theorem isMapT_true {t : TypeId} (h : isMapT P t = true) : ∃ k e, undA P t = some (.map k e) := by
  unfold isMapT at h; split at h
  · rename_i k e he; exact ⟨k, e, he⟩
  · cases h
theorem arrLen_some {t : TypeId} {n : Nat} (h : arrLen P t = some n) : ∃ e, undA P t = some (.array n e) := by
  unfold arrLen at h; split at h
  · rename_i m e he; cases h; exact ⟨e, he⟩
  · cases h

/-- a kind of keys, and the type -/
def KeyOk (kd : KeyD) (d : TypeDesc) : Prop :=
  match kd with
  | .int k => d = .int k
  | .str => d = .string
  | .bool => d = .bool

theorem mapA_some {t et : TypeId} {kd : KeyD} (h : mapA P t = some (kd, et)) : ∃ kt d, undA P t = some (.map kt et) ∧ undA P kt = some d ∧ KeyOk kd d := by
  unfold mapA at h
  split at h
  · rename_i k e hd
    split at h <;> first
      | (rename_i hk; cases h; exact ⟨k, _, hd, hk, by simp [KeyOk]⟩)
      | cases h
  · cases h

theorem structA_some {t : TypeId} {l : List (TypeId × Nat)} (h : structA P t = some l) : ∃ fs, undA P t = some (.struct fs) ∧ P.stoodInHeld t = false ∧ eqFields fs.toList = some l := by
  unfold structA at h
  split at h
  · rename_i fs hd
    split at h
    · cases h
    · rename_i hs; exact ⟨fs, hd, hs, h⟩
  · cases h

end
end Go.Sx
