/- Operations that reckon or read, the rest. -/
import Derived.Test.YtlfkdmhllolmmaaGreatDoorSxEq
namespace Go.Sx
open Go

section
variable {P : Program} {Q : Nat → Value} {N0 : Keep} {w0 : World} {η : Env} {h : AH} {w : World}

theorem eqA_opq {d : Nat} {t : TypeId} {a b : AV} {r : Bool} (h1 : eqA P d t a b = some r) : (∀ i, a ≠ .opq i) ∧ (∀ i, b ≠ .opq i) := by
  cases d with
  | zero => unfold eqA at h1; cases h1
  | succ d =>
    constructor
    · intro i e; subst e
      unfold eqA at h1
      split at h1
      · cases h1
      · cases h1
      · cases h1
      · rename_i k e
        have hn : eqNil k (eqK (.opq i)) (eqK b) = none := rfl
        rw [hn] at h1
        simp only at h1
        have ⟨_, h2⟩ := sel_some.1 h1
        cases h2
      · cases hs : structA P t <;> rw [hs] at h1 <;> cases h1
    · intro i e; subst e
      unfold eqA at h1
      split at h1
      · cases ha : asBool a <;> rw [ha] at h1 <;> cases h1
      · cases ha : asInt a <;> rw [ha] at h1 <;> cases h1
      · cases ha : asStr a <;> rw [ha] at h1 <;> cases h1
      · rename_i k e
        have hn : eqNil k (eqK a) (eqK (.opq i)) = none := by
          unfold eqNil
          split
          · rename_i x _; cases tkEq x k <;> rfl
          · rename_i x _; cases tkEq x k <;> rfl
          · cases tkEq k .iface <;> rfl
          · rfl
        rw [hn] at h1
        simp only at h1
        have ⟨_, h2⟩ := sel_some.1 h1
        cases ha : asIface a <;> rw [ha] at h2 <;> cases h2
      · cases hs : structA P t with
        | none => rw [hs] at h1; cases h1
        | some l => rw [hs] at h1; cases ha : asAgg a <;> simp only [ha] at h1 <;> cases h1

theorem conc_int_of {a : AV} {k : IntKind} {n : Int} (hc : concV Q η a = some (.int k n)) : a = .int k n ∨ ∃ i, a = .opq i := by
  cases a <;> simp only [concV] at hc <;> first
    | (cases hc; exact .inl rfl)
    | (cases hc; done)
    | (exact .inr ⟨_, rfl⟩)
    | (split at hc <;> first | (cases hc; done) | (split at hc <;> cases hc))

theorem conc_str_of {a : AV} {s : ByteArray} (hc : concV Q η a = some (.string s)) : (∃ l v, a = .str l v) ∨ ∃ i, a = .opq i := by
  cases a <;> simp only [concV] at hc <;> first
    | (exact .inl ⟨_, _, rfl⟩)
    | (cases hc; done)
    | (exact .inr ⟨_, rfl⟩)
    | (split at hc <;> first | (cases hc; done) | (split at hc <;> cases hc))

theorem conc_float_of {a : AV} {k : FloatKind} {n : Nat} (hc : concV Q η a = some (.float k n)) : ∃ i, a = .opq i := by
  cases a <;> simp only [concV] at hc <;> first
    | (cases hc; done)
    | (exact ⟨_, rfl⟩)
    | (split at hc <;> first | (cases hc; done) | (split at hc <;> cases hc))

theorem conc_complex_of {a : AV} {k : FloatKind} {m n : Nat} (hc : concV Q η a = some (.complex k m n)) : ∃ i, a = .opq i := by
  cases a <;> simp only [concV] at hc <;> first
    | (cases hc; done)
    | (exact ⟨_, rfl⟩)
    | (split at hc <;> first | (cases hc; done) | (split at hc <;> cases hc))

theorem binOp_eql {t : TypeId} {x y : Value} (h1 : ∀ k n, x ≠ .int k n) (h2 : ∀ s, x ≠ .string s) (h3 : ∀ k n, x ≠ .float k n) (h4 : ∀ k m n, x ≠ .complex k m n) :
    binOp .eql t x y = (do pure (.bool (← Op.equal t x y))) ∧ binOp .neq t x y = (do pure (.bool (!(← Op.equal t x y)))) := by
  cases x <;> first
    | (exact absurd rfl (h1 _ _))
    | (exact absurd rfl (h2 _))
    | (exact absurd rfl (h3 _ _))
    | (exact absurd rfl (h4 _ _ _))
    | exact ⟨rfl, rfl⟩

theorem eqGuard_plain {op : BinOp} {t : TypeId} {x y : Operand} {u v : Value} (h1 : (∃ k n, u = .int k n) ∨ (∃ s, u = .string s)) : (eqGuard op t x y u v).run P w = .ok () w := by
  rcases h1 with ⟨k, n, rfl⟩ | ⟨s, rfl⟩ <;> cases op <;> simp [eqGuard]

theorem eqGuard_other {op : BinOp} {t : TypeId} {x y : Operand} {u v : Value} (h1 : op ≠ .eql) (h2 : op ≠ .neq) : (eqGuard op t x y u v).run P w = .ok () w := by
  cases op <;> first | (exact absurd rfl h1) | (exact absurd rfl h2) | simp [eqGuard]

theorem ltI_iff {a b : Int} : ltI a b = true ↔ a < b := by rw [ltI_eq]; simp

theorem selF' {a b : Bool} (h : sel a b false = true) : a = true ∧ b = true := by cases a <;> simp_all [sel_true, sel_false]

theorem opq_int (hQ : QOk Q) {i : Nat} (h : opqInt i = true) : ∃ n : Int, Q i = .int (opqK i) n ∧ (∀ m, bLo i = some m → m ≤ n) ∧ (∀ m, bHi i = some m → n ≤ m) ∧ (qByte i = false → ∀ m, qMod i = some m → n.tmod 4 = (m : Int) ∧ opqK i = .i64) ∧
    (qByte i = true → 0 ≤ n ∧ n ≤ 255 ∧ (qbR i < qbM (qbK i) → n.tmod (qbM (qbK i) : Int) = ((qbR i : Nat) : Int))) := by
  cases hb : qByte i with
  | true =>
    obtain ⟨n, h1, _, h2, h3, h4⟩ := hQ.byte hb
    refine ⟨n, by unfold opqK; rw [hb, sel_true]; exact h1, ?_, ?_, (fun h => by cases h), fun _ => ⟨h2, h3, h4⟩⟩
    · intro m hm; unfold bLo at hm; rw [hb, sel_true] at hm; cases hm; exact h2
    · intro m hm; unfold bHi at hm; rw [hb, sel_true] at hm; cases hm; exact h3
  | false =>
    have hi : i < 16 ∧ i ≠ 7 := by
      unfold opqInt at h
      cases h7 : Nat.blt i 7 with
      | true => have := blt_iff.1 h7; omega
      | false =>
        rw [h7, sel_false] at h
        have ⟨h8, h9⟩ := selF' h
        have h8 := ble_iff.1 h8
        have h9 := blt_iff.1 h9
        refine ⟨?_, by omega⟩
        rcases Nat.lt_or_ge i 16 with h | h
        · exact h
        · have : qByte i = true := by
            unfold qByte
            rw [show Nat.ble 16 i = true from ble_iff.2 h, sel_true]
            exact blt_iff.2 h9
          rw [this] at hb; cases hb
    obtain ⟨n, h1, h2, h3, h4⟩ := hQ.2.1 i hi.1 hi.2
    have hk : opqK i = .i64 := by unfold opqK; rw [hb, sel_false]
    refine ⟨n, by rw [hk]; exact h1, ?_, ?_, fun _ m hm => ⟨h4 m hm, hk⟩, (fun h => by cases h)⟩
    · intro m hm; unfold bLo at hm; rw [hb, sel_false] at hm; exact h2 m hm
    · intro m hm; unfold bHi at hm; rw [hb, sel_false] at hm; exact h3 m hm

theorem boolO_some {y n : Bool} {v : AV} (h : boolO y n = some v) : (y = true ∧ v = .bool true) ∨ (n = true ∧ v = .bool false) := by
  unfold boolO at h
  cases y with
  | true => rw [sel_true] at h; cases h; exact .inl ⟨rfl, rfl⟩
  | false =>
    rw [sel_false] at h
    have ⟨h1, h2⟩ := sel_some.1 h
    cases h2; exact .inr ⟨h1, rfl⟩

section
variable {i : Nat} {n c : Int}
theorem qBelow_lt (hhi : ∀ m, bHi i = some m → n ≤ m) (h : qBelow i c = true) : n < c := by
  unfold qBelow at h; split at h
  · rename_i m hm; have := hhi m hm; have := ltI_iff.1 h; omega
  · cases h
theorem qAbove_lt (hlo : ∀ m, bLo i = some m → m ≤ n) (h : qAbove i c = true) : c < n := by
  unfold qAbove at h; split at h
  · rename_i m hm; have := hlo m hm; have := ltI_iff.1 h; omega
  · cases h
theorem qNotBelow_le (hlo : ∀ m, bLo i = some m → m ≤ n) (h : qNotBelow i c = true) : c ≤ n := by
  unfold qNotBelow at h; split at h
  · rename_i m hm; have := hlo m hm
    have : ¬ m < c := fun h' => by rw [ltI_iff.2 h'] at h; cases h
    omega
  · cases h
theorem qNotAbove_le (hhi : ∀ m, bHi i = some m → n ≤ m) (h : qNotAbove i c = true) : n ≤ c := by
  unfold qNotAbove at h; split at h
  · rename_i m hm; have := hhi m hm
    have : ¬ c < m := fun h' => by rw [ltI_iff.2 h'] at h; cases h
    omega
  · cases h
end

theorem ltI_false {a b : Int} (h : b ≤ a) : ltI a b = false := by
  cases e : ltI a b with
  | false => rfl
  | true => have := ltI_iff.1 e; omega

/-- an opq, and a number -/
theorem opqB_rel (hQ : QOk Q) {op : BinOp} {i : Nat} {n c : Int} {v : AV} (hn : Q i = .int (opqK i) n) (hlo : ∀ m, bLo i = some m → m ≤ n) (hhi : ∀ m, bHi i = some m → n ≤ m) (hmod : qByte i = false → ∀ m, qMod i = some m → n.tmod 4 = (m : Int) ∧ opqK i = .i64)
    (hby : qByte i = true → 0 ≤ n ∧ n ≤ 255 ∧ (qbR i < qbM (qbK i) → n.tmod (qbM (qbK i) : Int) = ((qbR i : Nat) : Int))) (hv : opqB op i c = some v) (t : TypeId) :
    ∃ z, (binOp op t (.int (opqK i) n) (.int (opqK i) c)).run P w = .ok z w ∧ concV Q η v = some z := by
  have viaInt : ∀ {op : BinOp}, op ≠ .shl ∧ op ≠ .shr → some v = intOp op (opqK i) n c → ∃ z, (binOp op t (.int (opqK i) n) (.int (opqK i) c)).run P w = .ok z w ∧ concV Q η v = some z := fun h h' => intOp_rel h'.symm h t
  cases op <;> first | (cases hv; done) | skip
  case sub =>
    have hv : subO i c = some v := hv
    unfold subO at hv
    have ⟨h1, h2⟩ := sel_some.1 hv
    have ⟨h3, h4⟩ := sel_some.1 h2
    cases h4
    have hc : c = 0 := by rw [eqI_eq] at h3; simpa using h3
    subst hc
    obtain ⟨g1, g2, _⟩ := hby h1
    have hkk : opqK i = .u8 ∨ opqK i = .i64 := by
      unfold opqK; rw [h1, sel_true]; unfold qbT; split
      · exact .inl rfl
      · exact .inr rfl
    have hw : (opqK i).wrap n = n := by
      rcases hkk with e | e <;> rw [e] <;> exact wrap_in (by simp [IntKind.min, IntKind.signed, IntKind.bits]; omega) (by simp [IntKind.max, IntKind.signed, IntKind.bits]; omega)
    refine ⟨.int (opqK i) n, ?_, by show some (Q i) = _; rw [hn]⟩
    simp [binOp, Op.intArith, hw]
  case rem =>
    have hv : sel (qByte i) (byteRem i c) (opqRem i c) = some v := hv
    cases hb : qByte i with
    | true =>
      rw [hb, sel_true] at hv
      obtain ⟨_, _, hm⟩ := hby hb
      unfold byteRem at hv
      have ⟨h4, h5⟩ := sel_some.1 hv
      have ⟨h6, h7⟩ := sel_some.1 h5
      cases h7
      have h8 : c = (qbM (qbK i) : Int) := by rw [eqI_eq] at h4; simpa using h4
      have hk : opqK i = qbT i := by unfold opqK; rw [hb, sel_true]
      have hne : eqI (qbM (qbK i) : Int) 0 = false := by
        rw [eqI_eq]
        unfold qbM
        split <;> rfl
      refine viaInt ⟨by decide, by decide⟩ ?_
      rw [h8, show (Int.ofNat (qbR i)) = n.tmod (qbM (qbK i) : Int) from (hm (blt_iff.1 h6)).symm, hk]
      simp only [intOp, remI, hne]; rfl
    | false =>
      rw [hb, sel_false] at hv
      unfold opqRem at hv
      split at hv
      · rename_i m hm
        have ⟨h4, h5⟩ := sel_some.1 hv
        cases h5
        have h8 : c = 4 := by rw [eqI_eq] at h4; simpa using h4
        obtain ⟨h9, hk⟩ := hmod hb m hm
        refine viaInt ⟨by decide, by decide⟩ ?_
        rw [h8, hk, show (Int.ofNat m) = n.tmod 4 from h9.symm]
        rfl
      · cases hv
  case eql =>
    have hv : sel (opqNe i c) (some (mkBool false)) none = some v := hv
    have ⟨h1, h2⟩ := sel_some.1 hv
    cases h2
    refine viaInt ⟨by decide, by decide⟩ ?_
    have : n ≠ c := by
      unfold opqNe at h1
      cases hb : qBelow i c with
      | true => have := qBelow_lt hhi hb; omega
      | false => rw [hb, sel_false] at h1; have := qAbove_lt hlo h1; omega
    simp only [intOp, eqI_eq]
    rw [show (n == c) = false by simpa using this]
  case neq =>
    have hv : sel (opqNe i c) (some (mkBool true)) none = some v := hv
    have ⟨h1, h2⟩ := sel_some.1 hv
    cases h2
    refine viaInt ⟨by decide, by decide⟩ ?_
    have : n ≠ c := by
      unfold opqNe at h1
      cases hb : qBelow i c with
      | true => have := qBelow_lt hhi hb; omega
      | false => rw [hb, sel_false] at h1; have := qAbove_lt hlo h1; omega
    simp only [intOp, eqI_eq]
    rw [show (n == c) = false by simpa using this]; rfl
  case lss =>
    refine viaInt ⟨by decide, by decide⟩ ?_
    rcases boolO_some (show boolO (qBelow i c) (qNotBelow i c) = some v from hv) with ⟨h, rfl⟩ | ⟨h, rfl⟩
    · simp only [intOp, ltI_iff.2 (qBelow_lt hhi h)]; rfl
    · simp only [intOp, ltI_false (qNotBelow_le hlo h)]; rfl
  case gtr =>
    refine viaInt ⟨by decide, by decide⟩ ?_
    rcases boolO_some (show boolO (qAbove i c) (qNotAbove i c) = some v from hv) with ⟨h, rfl⟩ | ⟨h, rfl⟩
    · simp only [intOp, ltI_iff.2 (qAbove_lt hlo h)]; rfl
    · simp only [intOp, ltI_false (qNotAbove_le hhi h)]; rfl
  case leq =>
    refine viaInt ⟨by decide, by decide⟩ ?_
    rcases boolO_some (show boolO (qNotAbove i c) (qAbove i c) = some v from hv) with ⟨h, rfl⟩ | ⟨h, rfl⟩
    · simp only [intOp, ltI_false (qNotAbove_le hhi h)]; rfl
    · simp only [intOp, ltI_iff.2 (qAbove_lt hlo h)]; rfl
  case geq =>
    refine viaInt ⟨by decide, by decide⟩ ?_
    rcases boolO_some (show boolO (qNotBelow i c) (qBelow i c) = some v from hv) with ⟨h, rfl⟩ | ⟨h, rfl⟩
    · simp only [intOp, ltI_false (qNotBelow_le hlo h)]; rfl
    · simp only [intOp, ltI_iff.2 (qBelow_lt hhi h)]; rfl

theorem opqO_rel (hQ : QOk Q) {op : BinOp} {t : TypeId} {x y : Operand} {a b v : AV} {u s : Value} (hv : opqO op a b = some v) (ha : concV Q η a = some u) (hb : concV Q η b = some s) :
    ∃ z, (do eqGuard op t x y u s; binOp op t u s : Sem Value).run P w = .ok z w ∧ concV Q η v = some z := by
  unfold opqO at hv
  cases e1 : asOpq a with
  | none => rw [e1] at hv; cases hv
  | some i =>
    rw [e1] at hv
    cases e2 : asInt b with
    | none => rw [e2] at hv; cases hv
    | some q =>
      rw [e2] at hv
      obtain rfl := asOpq_some e1
      obtain rfl := asInt_some e2
      have ⟨hi, h1⟩ := sel_some.1 hv
      have ⟨hk, h2⟩ := sel_some.1 h1
      obtain ⟨n, hn, hlo, hhi, hmod, hby⟩ := opq_int hQ hi
      cases hb
      have hu : u = .int (opqK i) n := by rw [← hn]; cases ha; rfl
      subst hu
      have hg := eqGuard_plain (P := P) (w := w) (op := op) (t := t) (x := x) (y := y) (u := .int (opqK i) n) (v := .int q.1 q.2) (.inl ⟨_, _, rfl⟩)
      simp only [Sem.run_bind, hg, Result.andThen_ok]
      rw [kindEq_iff.1 hk]
      exact opqB_rel hQ hn hlo hhi hmod hby h2 t

theorem opqO'_rel (hQ : QOk Q) {op : BinOp} {t : TypeId} {x y : Operand} {p : IntKind × Int} {b v : AV} {s : Value} (hv : opqO' op p b = some v) (hb : concV Q η b = some s) :
    ∃ z, (do eqGuard op t x y (.int p.1 p.2) s; binOp op t (.int p.1 p.2) s : Sem Value).run P w = .ok z w ∧ concV Q η v = some z := by
  unfold opqO' at hv
  cases e1 : asOpq b with
  | none => rw [e1] at hv; cases hv
  | some i =>
    rw [e1] at hv
    obtain rfl := asOpq_some e1
    have ⟨hi, h1⟩ := sel_some.1 hv
    have ⟨hk, h2⟩ := sel_some.1 h1
    obtain ⟨n, hn, hlo, hhi, _, _⟩ := opq_int hQ hi
    have hu : s = .int (opqK i) n := by rw [← hn]; cases hb; rfl
    subst hu
    have hg := eqGuard_plain (P := P) (w := w) (op := op) (t := t) (x := x) (y := y) (u := .int p.1 p.2) (v := .int (opqK i) n) (.inl ⟨_, _, rfl⟩)
    simp only [Sem.run_bind, hg, Result.andThen_ok]
    rw [kindEq_iff.1 hk]
    have viaInt : ∀ {op : BinOp}, op ≠ .shl ∧ op ≠ .shr → some v = intOp op (opqK i) p.2 n → ∃ z, (binOp op t (.int (opqK i) p.2) (.int (opqK i) n)).run P w = .ok z w ∧ concV Q η v = some z := fun h h' => intOp_rel h'.symm h t
    cases op <;> first | (cases h2; done) | skip
    case lss =>
      refine viaInt ⟨by decide, by decide⟩ ?_
      rcases boolO_some (show boolO (qAbove i p.2) (qNotAbove i p.2) = some v from h2) with ⟨h, rfl⟩ | ⟨h, rfl⟩
      · simp only [intOp, ltI_iff.2 (qAbove_lt hlo h)]; rfl
      · simp only [intOp, ltI_false (qNotAbove_le hhi h)]; rfl
    case gtr =>
      refine viaInt ⟨by decide, by decide⟩ ?_
      rcases boolO_some (show boolO (qBelow i p.2) (qNotBelow i p.2) = some v from h2) with ⟨h, rfl⟩ | ⟨h, rfl⟩
      · simp only [intOp, ltI_iff.2 (qBelow_lt hhi h)]; rfl
      · simp only [intOp, ltI_false (qNotBelow_le hlo h)]; rfl
    case leq =>
      refine viaInt ⟨by decide, by decide⟩ ?_
      rcases boolO_some (show boolO (qNotBelow i p.2) (qBelow i p.2) = some v from h2) with ⟨h, rfl⟩ | ⟨h, rfl⟩
      · simp only [intOp, ltI_false (qNotBelow_le hlo h)]; rfl
      · simp only [intOp, ltI_iff.2 (qBelow_lt hhi h)]; rfl
    case geq =>
      refine viaInt ⟨by decide, by decide⟩ ?_
      rcases boolO_some (show boolO (qNotAbove i p.2) (qAbove i p.2) = some v from h2) with ⟨h, rfl⟩ | ⟨h, rfl⟩
      · simp only [intOp, ltI_false (qNotAbove_le hhi h)]; rfl
      · simp only [intOp, ltI_iff.2 (qAbove_lt hlo h)]; rfl

theorem sameStr_rel (hQ : QOk Q) {a b : AV} {u s : Value} (h : sameStr a b = true) (ha : concV Q η a = some u) (hb : concV Q η b = some s) : ∃ z, u = .string z ∧ s = .string z := by
  unfold sameStr at h
  cases e1 : asOpq a with
  | none => rw [e1] at h; cases h
  | some i =>
    rw [e1] at h
    cases e2 : asOpq b with
    | none => rw [e2] at h; cases h
    | some j =>
      rw [e2] at h
      obtain rfl := asOpq_some e1
      obtain rfl := asOpq_some e2
      have ⟨h1, h2⟩ := selF' h
      have e3 := beq_iff.1 h1
      subst e3
      unfold strOpq at h2
      have ⟨h3, h4⟩ := selF' h2
      have h3 := ble_iff.1 h3
      have h4 := blt_iff.1 h4
      obtain ⟨x, _, g1, g2⟩ := hQ.2.2.2 ((i - 200) / 2 / 256) ((i - 200) / 2 % 256) (by omega) (by omega)
      cases ha; cases hb
      rcases Nat.mod_two_eq_zero_or_one i with e | e
      · rw [show 200 + (256 * ((i - 200) / 2 / 256) + (i - 200) / 2 % 256) * 2 = i by omega] at g1
        exact ⟨_, g1, g1⟩
      · rw [show 200 + (256 * ((i - 200) / 2 / 256) + (i - 200) / 2 % 256) * 2 + 1 = i by omega] at g2
        exact ⟨_, g2, g2⟩

theorem binA_rel (hQ : QOk Q) {op : BinOp} {t : TypeId} {x y : Operand} {a b v : AV} {u s : Value} (hv : binA P op t x y a b = some v) (ha : concV Q η a = some u) (hb : concV Q η b = some s) :
    ∃ z, (do eqGuard op t x y u s; binOp op t u s : Sem Value).run P w = .ok z w ∧ concV Q η v = some z := by
  unfold binA at hv
  cases e1 : asInt a with
  | some p =>
    rw [e1] at hv
    cases e2 : asInt b with
    | none =>
      rw [e2] at hv
      obtain rfl := asInt_some e1
      cases ha
      exact opqO'_rel hQ hv hb
    | some q =>
      rw [e2] at hv
      obtain rfl := asInt_some e1
      obtain rfl := asInt_some e2
      cases ha; cases hb
      have hg := eqGuard_plain (P := P) (w := w) (op := op) (t := t) (x := x) (y := y) (u := .int p.1 p.2) (v := .int q.1 q.2) (.inl ⟨_, _, rfl⟩)
      simp only [Sem.run_bind, hg, Result.andThen_ok]
      simp only at hv
      by_cases hsh : op = .shl ∨ op = .shr
      · have : binI op p.1 p.2 q.1 q.2 = shiftOp op p.1 p.2 q.2 := by rcases hsh with rfl | rfl <;> rfl
        rw [this] at hv
        exact shiftOp_rel hv hsh t
      · have : binI op p.1 p.2 q.1 q.2 = sel (kindEq p.1 q.1) (intOp op p.1 p.2 q.2) none := by cases op <;> first | rfl | simp at hsh
        rw [this] at hv
        have ⟨hk, h2⟩ := sel_some.1 hv
        rw [← kindEq_iff.1 hk]
        exact intOp_rel h2 ⟨fun e => hsh (.inl e), fun e => hsh (.inr e)⟩ t
  | none =>
    rw [e1] at hv
    simp only at hv
    cases e2 : asStr a with
    | some p =>
      rw [e2] at hv
      cases e3 : asStr b with
      | none => rw [e3] at hv; cases hv
      | some q =>
        rw [e3] at hv
        obtain rfl := asStr_some e2
        obtain rfl := asStr_some e3
        have hg : (eqGuard op t x y u s).run P w = .ok () w := by
          obtain ⟨_, rfl⟩ := conc_str ha
          exact eqGuard_plain (.inr ⟨_, rfl⟩)
        simp only [Sem.run_bind, hg, Result.andThen_ok]
        exact strOp_rel hv ha hb t
    | none =>
      rw [e2] at hv
      simp only at hv
      have key : ∀ r, eqB P t x y a b = some r → (op = .eql ∨ op = .neq) →
          (eqGuard op t x y u s).run P w = .ok () w ∧ (Op.equal t u s).run P w = .ok r w ∧
          (binOp .eql t u s = (do pure (.bool (← Op.equal t u s))) ∧ binOp .neq t u s = (do pure (.bool (!(← Op.equal t u s))))) := fun r hr hop => by
        unfold eqB at hr
        have ⟨h1, h2⟩ := sel_some.1 hr
        have ⟨o1, o2⟩ := eqA_opq h2
        refine ⟨eqIdle_rel hop h1 ha hb o1 o2, eqA_rel hQ 60 t a b r u s h2 ha hb 10000 (by decide), binOp_eql ?_ ?_ ?_ ?_⟩
        · rintro k n rfl
          rcases conc_int_of ha with rfl | ⟨i, rfl⟩
          · cases e1
          · exact o1 _ rfl
        · rintro z rfl
          rcases conc_str_of ha with ⟨l, v, rfl⟩ | ⟨i, rfl⟩
          · cases e2
          · exact o1 _ rfl
        · rintro k n rfl; obtain ⟨i, rfl⟩ := conc_float_of ha; exact o1 _ rfl
        · rintro k m n rfl; obtain ⟨i, rfl⟩ := conc_complex_of ha; exact o1 _ rfl
      unfold binO at hv
      split at hv
      · cases hst : sameStr a b with
        | true =>
          rw [hst, sel_true] at hv; cases hv
          obtain ⟨z, rfl, rfl⟩ := sameStr_rel hQ hst ha hb
          have hg := eqGuard_plain (P := P) (w := w) (op := .eql) (t := t) (x := x) (y := y) (u := .string z) (v := .string z) (.inr ⟨_, rfl⟩)
          exact ⟨.bool true, by simp [Sem.run_bind, hg, binOp, Op.stringOp], rfl⟩
        | false =>
          rw [hst, sel_false] at hv
          cases ho : opqO .eql a b with
          | some v' => rw [ho] at hv; cases hv; exact opqO_rel hQ ho ha hb
          | none =>
            rw [ho] at hv
            simp only at hv
            cases hr : eqB P t x y a b with
            | none => rw [hr] at hv; cases hv
            | some r =>
              rw [hr] at hv; cases hv
              obtain ⟨h1, h2, h3, _⟩ := key r hr (.inl rfl)
              rw [mkBool_eq]
              exact ⟨.bool r, by simp only [Sem.run_bind, h1, Result.andThen_ok, h3, h2, Sem.run_pure], rfl⟩
      · cases ho : opqO .neq a b with
        | some v' => rw [ho] at hv; cases hv; exact opqO_rel hQ ho ha hb
        | none =>
          rw [ho] at hv
          simp only at hv
          cases hr : eqB P t x y a b with
          | none => rw [hr] at hv; cases hv
          | some r =>
            rw [hr] at hv; cases hv
            obtain ⟨h1, h2, _, h3⟩ := key r hr (.inr rfl)
            rw [mkBool_eq]
            exact ⟨.bool (!r), by simp only [Sem.run_bind, h1, Result.andThen_ok, h3, h2, Sem.run_pure], rfl⟩
      · exact opqO_rel hQ hv ha hb

theorem unA_rel {op : UnOp} {a v : AV} {x : Value} (hv : unA op a = some v) (ha : concV Q η a = some x) : ∃ z, (Op.unary op x).run P w = .ok z w ∧ concV Q η v = some z := by
  cases op <;> simp only [unA] at hv
  · cases e : asInt a with
    | none => rw [e] at hv; cases hv
    | some p =>
      rw [e] at hv; cases hv
      obtain rfl := asInt_some e
      cases ha
      rw [mkInt_eq, wrapF_eq]
      exact ⟨.int p.1 (p.1.wrap (0 - p.2)), by simp [Op.unary, Op.intArith], rfl⟩
  · cases e : asInt a with
    | none => rw [e] at hv; cases hv
    | some p =>
      rw [e] at hv; cases hv
      obtain rfl := asInt_some e
      cases ha
      rw [mkInt_eq]
      exact ⟨_, by simp only [Op.unary, Op.intBits, Sem.run_pure], rfl⟩
  · cases e : asBool a with
    | none => rw [e] at hv; cases hv
    | some p =>
      rw [e] at hv; cases hv
      obtain rfl := asBool_some e
      cases ha
      rw [mkBool_eq]
      exact ⟨.bool (!p), by simp [Op.unary], rfl⟩
  · cases hv

/-! ## indexes -/
theorem idx_some {v : AV} {n : Nat} (h1 : idx v = some n) : ∃ k, v = .int k (.ofNat n) := by
  unfold idx at h1
  cases e : asInt v with
  | none => rw [e] at h1; cases h1
  | some p =>
    rw [e] at h1
    obtain rfl := asInt_some e
    simp only at h1
    unfold natOf at h1
    split at h1
    · rename_i m hm; cases h1; exact ⟨p.1, by rw [hm]⟩
    · cases h1

theorem indexAddrA_rel {t : TypeId} {a i v : AV} {x y : Value} (hv : indexAddrA P t a i = some v) (ha : concV Q η a = some x) (hi : concV Q η i = some y) :
    ∃ z, (Instr.indexAt t x y).run P w = .ok z w ∧ concV Q η v = some z := by
  unfold indexAddrA at hv
  cases e : idx i with
  | none => rw [e] at hv; cases hv
  | some n =>
    rw [e] at hv
    obtain ⟨k, rfl⟩ := idx_some e
    cases hi
    simp only at hv
    cases hs : slA P t with
    | some es =>
      rw [hs] at hv
      obtain ⟨hd, hsz⟩ := slA_some (e := es.1) (s := es.2) hs
      have hu := run_und hd w
      have hz := run_sz hsz w
      simp only at hv
      unfold indexAddrS at hv
      have fin : ∀ (id off len : Nat) (b base cap : Nat) (c : Nat), η id = some (.blk b base cap) → n < len → v = .ptr id (off + n * es.2) → x = .slice (some ⟨b, base + off, none⟩) len c →
          ∃ z, (Instr.indexAt t x (.int k (.ofNat n))).run P w = .ok z w ∧ concV Q η v = some z := by
        rintro id off len b base cap c he hlt rfl rfl
        refine ⟨.pointer (some ⟨b, base + (off + n * es.2), none⟩), ?_, conc_ptr_mk he⟩
        simp [Instr.indexAt, asIntOf, hu, hz, add_at, Nat.add_assoc, hlt, Nat.not_le.2 hlt]
      split at hv
      · rename_i id off len cap hsl
        have ⟨h1, h2⟩ := sel_some.1 hv
        have hav : a = .sl id off len cap := by cases a <;> simp [asSl] at hsl; obtain ⟨rfl, rfl, rfl, rfl⟩ := hsl; rfl
        subst hav
        simp only [concV] at ha
        split at ha
        · rename_i b base c he; cases ha
          exact fin id off len b base c _ he (blt_iff.1 h1) (Option.some.inj h2).symm rfl
        · cases ha
      · rename_i id off oe len hsl
        have ⟨h1, h2⟩ := sel_some.1 hv
        have hav : a = .su id off oe len := by cases a <;> simp [asSl] at hsl; obtain ⟨rfl, rfl, rfl, rfl⟩ := hsl; rfl
        subst hav
        simp only [concV] at ha
        split at ha
        · rename_i b base c he
          split at ha
          · cases ha
            exact fin id off len b base c _ he (blt_iff.1 h1) (Option.some.inj h2).symm rfl
          · cases ha
        · cases ha
      · cases hv
    | none =>
      rw [hs] at hv
      simp only at hv
      cases har : arrA P t with
      | none => rw [har] at hv; cases hv
      | some ar =>
        rw [har] at hv
        obtain ⟨hd, hsz⟩ := arrA_some (n := ar.1) (e := ar.2.1) (s := ar.2.2) har
        have hu := run_und hd w
        have hz := run_sz hsz w
        simp only at hv
        cases hp : asPtr a with
        | none => rw [hp] at hv; cases hv
        | some p =>
          rw [hp] at hv
          obtain rfl := asPtr_some hp
          simp only at hv
          have ⟨h1, h2⟩ := sel_some.1 hv
          cases h2
          obtain ⟨b, base, cap, he, rfl⟩ := conc_ptr ha
          have hlt := blt_iff.1 h1
          refine ⟨_, ?_, conc_ptr_mk he⟩
          by_cases hle : ar.1 ≤ 1 <;> simp [Instr.indexAt, asIntOf, Instr.sureAddr, hu, hz, add_at, Nat.add_assoc, hle, hlt, Nat.not_le.2 hlt]

theorem indexA_rel {t : TypeId} {a i v : AV} {x y : Value} (hv : indexA P t a i = some v) (ha : concV Q η a = some x) (hi : concV Q η i = some y) :
    ∃ z, (Instr.index t x y).run P w = .ok z w ∧ concV Q η v = some z := by
  unfold indexA at hv
  cases e : idx i with
  | none => rw [e] at hv; cases hv
  | some n =>
    rw [e] at hv
    obtain ⟨k, rfl⟩ := idx_some e
    cases hi
    simp only at hv
    cases hs : asStr a with
    | some s =>
      rw [hs] at hv
      obtain rfl := asStr_some hs
      obtain ⟨hval, rfl⟩ := conc_str ha
      simp only at hv
      have ⟨h1, h2⟩ := sel_some.1 hv
      have ⟨h3, h4⟩ := sel_some.1 h2
      cases h4
      have hlt := blt_iff.1 h3
      have hu := run_und (isStrT_true h1) w
      rw [mkInt_eq]
      refine ⟨_, ?_, rfl⟩
      have hg : (bytesOf s.1 s.2)[n]? = some (UInt8.ofNat (s.2 / 256 ^ n % 256)) := by
        have h5 := bytesL_get s.1 s.2 n hlt
        have h6 : n < (bytesOf s.1 s.2).size := by rw [size_bytesOf]; exact hlt
        rw [getElem?_pos _ n h6]
        rw [List.getElem?_eq_getElem (by rw [bytesL_length]; exact hlt)] at h5
        exact h5
      have hb : ((UInt8.ofNat (s.2 / 256 ^ n % 256)).toNat : Int) = Int.ofNat (byteAt s.2 n) := by
        rw [byteAt_eq]; simp [UInt8.toNat_ofNat']
      have h7 : (0 : Int) ≤ Int.ofNat n := by simp
      have h8 : (Int.ofNat n).toNat = n := rfl
      simp only [Instr.index, asIntOf, Sem.run_bind, Sem.run_pure, Result.andThen_ok, hu, h7, if_true, h8, hg, hb]
    | none =>
      rw [hs] at hv
      simp only at hv
      cases har : arrA P t with
      | none => rw [har] at hv; cases hv
      | some ar =>
        rw [har] at hv
        obtain ⟨hd, hsz⟩ := arrA_some (n := ar.1) (e := ar.2.1) (s := ar.2.2) har
        have hu := run_und hd w
        have hz := run_sz hsz w
        simp only at hv
        cases hp : asAgg a with
        | none => rw [hp] at hv; cases hv
        | some cs =>
          rw [hp] at hv
          obtain rfl := asAgg_some hp
          simp only at hv
          have ⟨h1, h2⟩ := sel_some.1 hv
          obtain ⟨xs, hxs, rfl⟩ := conc_agg ha
          obtain ⟨z, hz1, hz2⟩ := partA_rel (w := w) h2 hxs
          have hlt := blt_iff.1 h1
          exact ⟨z, by simp [Instr.index, asIntOf, hu, hz, hlt, Nat.not_le.2 hlt, hz1], hz2⟩

theorem fieldAddrA_rel {s : TypeId} {a v : AV} {i : Nat} {x : Value} (hv : fieldAddrA P s a i = some v) (ha : concV Q η a = some x) :
    ∃ z, (Instr.fieldAt s x i).run P w = .ok z w ∧ concV Q η v = some z := by
  unfold fieldAddrA at hv
  cases hf : fldA P s i with
  | none => rw [hf] at hv; cases hv
  | some f =>
    rw [hf] at hv
    obtain ⟨fs, fd, n, hd, hi, h1, h2, hsz⟩ := fldA_some (ft := f.1) (off := f.2) hf
    have hu := run_und hd w
    simp only at hv
    cases hp : asPtr a with
    | none => rw [hp] at hv; cases hv
    | some p =>
      rw [hp] at hv; cases hv
      obtain rfl := asPtr_some hp
      obtain ⟨b, base, cap, he, rfl⟩ := conc_ptr ha
      rw [← h1] at hsz
      have hz := run_sz hsz w
      refine ⟨_, ?_, conc_ptr_mk he⟩
      simp [Instr.fieldAt, hu, hi, Instr.sureAddr, fieldPlace, hz, add_at, h2, Nat.add_assoc]

theorem fieldA_rel {t : TypeId} {a v : AV} {i : Nat} {x : Value} (hv : fieldA P t a i = some v) (ha : concV Q η a = some x) :
    ∃ z, (Instr.field t x i).run P w = .ok z w ∧ concV Q η v = some z := by
  unfold fieldA at hv
  cases hf : fldA P t i with
  | none => rw [hf] at hv; cases hv
  | some f =>
    rw [hf] at hv
    obtain ⟨fs, fd, n, hd, hi, h1, h2, hsz⟩ := fldA_some (ft := f.1) (off := f.2) hf
    have hu := run_und hd w
    simp only at hv
    cases hp : asAgg a with
    | none => rw [hp] at hv; cases hv
    | some cs =>
      rw [hp] at hv
      obtain rfl := asAgg_some hp
      obtain ⟨xs, hxs, rfl⟩ := conc_agg ha
      simp only at hv
      obtain ⟨z, hz1, hz2⟩ := partA_rel (w := w) hv hxs
      exact ⟨z, by simp [Instr.field, hu, hi, Go.asAgg, h1, h2, hz1], hz2⟩

theorem concEs_length : ∀ {es : List (AV × AV)} {l : List (Value × Value)}, concEs Q η es = some l → l.length = es.length
  | [], _, h3 => by cases h3; rfl
  | q :: r, l, h3 => by
    simp only [concEs] at h3
    split at h3
    · rename_i a b m _ _ h6; cases h3; simp [concEs_length h6]
    · cases h3

theorem lenA_rel (H : HR P Q N0 w0 η h w) {t : TypeId} {a v : AV} {x : Value} (hv : lenA P h t a = some v) (ha : concV Q η a = some x) (ts : Array TypeId) (ty : TypeId) (ht : ts[0]? = some t) :
    ∃ z, (Builtin.len_ ts ty #[x]).run P w = .ok z w ∧ concV Q η v = some z := by
  unfold lenA at hv
  cases e1 : isSlT P t with
  | true =>
    rw [e1, sel_true] at hv
    obtain ⟨e, hd⟩ := isSlT_true e1
    have hu := run_und hd w
    cases hl : lenS a with
    | none => rw [hl] at hv; cases hv
    | some n =>
      rw [hl] at hv; cases hv
      rw [mkInt_eq]
      have : ∃ ad c, x = .slice ad n c := by
        unfold lenS at hl
        cases a <;> simp [asSl] at hl <;> subst hl <;> simp only [concV] at ha <;> first
          | (cases ha; exact ⟨_, _, rfl⟩)
          | (split at ha <;> first | (cases ha; exact ⟨_, _, rfl⟩) | (split at ha <;> first | (cases ha; exact ⟨_, _, rfl⟩) | cases ha) | cases ha)
      obtain ⟨ad, c, rfl⟩ := this
      exact ⟨.int .i64 n, by simp [Builtin.len_, ht, hu, goInt], rfl⟩
  | false =>
    rw [e1, sel_false] at hv
    cases e2 : isStrT P t with
    | true =>
      rw [e2, sel_true] at hv
      have hu := run_und (isStrT_true e2) w
      cases hs : asStr a with
      | none => rw [hs] at hv; cases hv
      | some p =>
        rw [hs] at hv; cases hv
        obtain rfl := asStr_some hs
        obtain ⟨_, rfl⟩ := conc_str ha
        rw [mkInt_eq]
        exact ⟨.int .i64 p.1, by simp [Builtin.len_, ht, hu, goInt, size_bytesOf], rfl⟩
    | false =>
      rw [e2, sel_false] at hv
      cases e3 : isMapT P t with
      | true =>
        rw [e3, sel_true] at hv
        obtain ⟨k, e, hd⟩ := isMapT_true e3
        have hu := run_und hd w
        unfold lenM at hv
        split at hv
        · rename_i hm
          cases hv
          rcases asMap_some hm with ⟨_, rfl⟩ | ⟨id, e', _⟩
          · cases ha; exact ⟨.int .i64 0, by simp [Builtin.len_, ht, hu, goInt], rfl⟩
          · cases e'
        · rename_i id hm
          rcases asMap_some hm with ⟨e', _⟩ | ⟨id', e', rfl⟩
          · cases e'
          · cases e'
            split at hv
            · rename_i es hes
              cases hv
              rw [mkInt_eq]
              unfold AH.entries at hes
              split at hes
              · rename_i es' ho
                cases hes
                simp only [concV] at ha
                split at ha
                · rename_i b base cap he
                  cases ha
                  obtain ⟨b1, base1, c1, z, e4, h1, h2, _⟩ := H.obj _ _ ho _ he
                  cases e4
                  cases z with
                  | map entries clk =>
                    obtain ⟨_, l, h3, h4, _⟩ := h2
                    have hlen : entries.size = es.length := by
                      have := h4.length_eq
                      rw [List.length_map, Array.length_toList] at this
                      rw [this, concEs_length h3]
                    exact ⟨.int .i64 es.length, by simp [Builtin.len_, ht, hu, goInt, getObj, Sem.run, h1, hlen], rfl⟩
                  | _ => exact h2.elim
                · cases ha
              · cases hes
            · cases hv
        · cases hv
      | false =>
        rw [e3, sel_false] at hv
        cases e4 : arrLen P t with
        | none => rw [e4] at hv; cases hv
        | some n =>
          rw [e4] at hv; cases hv
          obtain ⟨e, hd⟩ := arrLen_some e4
          have hu := run_und hd w
          rw [mkInt_eq]
          refine ⟨.int .i64 n, ?_, rfl⟩
          cases x <;> simp [Builtin.len_, ht, hu, goInt]

end
end Go.Sx
