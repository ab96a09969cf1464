/- Operations that reckon or read, the rest. -/
import Derived.Test.YtokllimeebehkaaGreatDoorSxEq
namespace Go.Sx
open Go

section
variable {P : Program} {Q : Nat → Value} {N0 : Nat → Prop} {w0 : World} {η : Env} {h : AH} {w : World}

theorem eqA_opq {d : Nat} {t : TypeId} {a b : AV} {r : Bool} (h1 : eqA P d t a b = some r) : (∀ i, a ≠ .opq i) ∧ (∀ i, b ≠ .opq i) := by
  cases d with
  | zero => unfold eqA at h1; cases h1
  | succ d =>
    constructor
    · intro i e; subst e
      unfold eqA at h1
      split at h1
      · cases h1
      · cases h1
      · cases h1
      · rename_i k e
        have hn : eqNil k (eqK (.opq i)) (eqK b) = none := rfl
        rw [hn] at h1
        simp only at h1
        have ⟨_, h2⟩ := sel_some.1 h1
        cases h2
      · cases hs : structA P t <;> rw [hs] at h1 <;> cases h1
    · intro i e; subst e
      unfold eqA at h1
      split at h1
      · cases ha : asBool a <;> rw [ha] at h1 <;> cases h1
      · cases ha : asInt a <;> rw [ha] at h1 <;> cases h1
      · cases ha : asStr a <;> rw [ha] at h1 <;> cases h1
      · rename_i k e
        have hn : eqNil k (eqK a) (eqK (.opq i)) = none := by
          unfold eqNil
          split
          · rename_i x _; cases tkEq x k <;> rfl
          · rename_i x _; cases tkEq x k <;> rfl
          · cases tkEq k .iface <;> rfl
          · rfl
        rw [hn] at h1
        simp only at h1
        have ⟨_, h2⟩ := sel_some.1 h1
        cases ha : asIface a <;> rw [ha] at h2 <;> cases h2
      · cases hs : structA P t with
        | none => rw [hs] at h1; cases h1
        | some l => rw [hs] at h1; cases ha : asAgg a <;> simp only [ha] at h1 <;> cases h1

theorem conc_int_of {a : AV} {k : IntKind} {n : Int} (hc : concV Q η a = some (.int k n)) : a = .int k n ∨ ∃ i, a = .opq i := by
  cases a <;> simp only [concV] at hc <;> first
    | (cases hc; exact .inl rfl)
    | (cases hc; done)
    | (exact .inr ⟨_, rfl⟩)
    | (split at hc <;> first | (cases hc; done) | (split at hc <;> cases hc))

theorem conc_str_of {a : AV} {s : ByteArray} (hc : concV Q η a = some (.string s)) : (∃ l v, a = .str l v) ∨ ∃ i, a = .opq i := by
  cases a <;> simp only [concV] at hc <;> first
    | (exact .inl ⟨_, _, rfl⟩)
    | (cases hc; done)
    | (exact .inr ⟨_, rfl⟩)
    | (split at hc <;> first | (cases hc; done) | (split at hc <;> cases hc))

theorem conc_float_of {a : AV} {k : FloatKind} {n : Nat} (hc : concV Q η a = some (.float k n)) : ∃ i, a = .opq i := by
  cases a <;> simp only [concV] at hc <;> first
    | (cases hc; done)
    | (exact ⟨_, rfl⟩)
    | (split at hc <;> first | (cases hc; done) | (split at hc <;> cases hc))

theorem conc_complex_of {a : AV} {k : FloatKind} {m n : Nat} (hc : concV Q η a = some (.complex k m n)) : ∃ i, a = .opq i := by
  cases a <;> simp only [concV] at hc <;> first
    | (cases hc; done)
    | (exact ⟨_, rfl⟩)
    | (split at hc <;> first | (cases hc; done) | (split at hc <;> cases hc))

theorem binOp_eql {t : TypeId} {x y : Value} (h1 : ∀ k n, x ≠ .int k n) (h2 : ∀ s, x ≠ .string s) (h3 : ∀ k n, x ≠ .float k n) (h4 : ∀ k m n, x ≠ .complex k m n) :
    binOp .eql t x y = (do pure (.bool (← Op.equal t x y))) ∧ binOp .neq t x y = (do pure (.bool (!(← Op.equal t x y)))) := by
  cases x <;> first
    | (exact absurd rfl (h1 _ _))
    | (exact absurd rfl (h2 _))
    | (exact absurd rfl (h3 _ _))
    | (exact absurd rfl (h4 _ _ _))
    | exact ⟨rfl, rfl⟩

theorem eqGuard_plain {op : BinOp} {t : TypeId} {x y : Operand} {u v : Value} (h1 : (∃ k n, u = .int k n) ∨ (∃ s, u = .string s)) : (eqGuard op t x y u v).run P w = .ok () w := by
  rcases h1 with ⟨k, n, rfl⟩ | ⟨s, rfl⟩ <;> cases op <;> simp [eqGuard]

theorem eqGuard_other {op : BinOp} {t : TypeId} {x y : Operand} {u v : Value} (h1 : op ≠ .eql) (h2 : op ≠ .neq) : (eqGuard op t x y u v).run P w = .ok () w := by
  cases op <;> first | (exact absurd rfl h1) | (exact absurd rfl h2) | simp [eqGuard]

theorem ltI_iff {a b : Int} : ltI a b = true ↔ a < b := by rw [ltI_eq]; simp

theorem opqO_rel (hQ : QOk Q) {op : BinOp} {t : TypeId} {x y : Operand} {a b v : AV} {u s : Value} (hv : opqO op a b = some v) (ha : concV Q η a = some u) (hb : concV Q η b = some s) :
    ∃ z, (do eqGuard op t x y u s; binOp op t u s : Sem Value).run P w = .ok z w ∧ concV Q η v = some z := by
  unfold opqO at hv
  cases e1 : asOpq a with
  | none => rw [e1] at hv; cases hv
  | some i =>
    rw [e1] at hv
    cases e2 : asInt b with
    | none => rw [e2] at hv; cases hv
    | some q =>
      rw [e2] at hv
      obtain rfl := asOpq_some e1
      obtain rfl := asInt_some e2
      have ⟨hk, h2⟩ := sel_some.1 hv
      have ⟨hi, h3⟩ := sel_some.1 h2
      obtain ⟨n, hn, hlo, hhi, hmod⟩ := hQ.2 i (blt_iff.1 hi)
      cases hb
      have hu : u = .int .i64 n := by rw [← hn]; cases ha; rfl
      subst hu
      have hk' := kindEq_iff.1 hk
      have hg := eqGuard_plain (P := P) (w := w) (op := op) (t := t) (x := x) (y := y) (u := .int .i64 n) (v := .int q.1 q.2) (.inl ⟨_, _, rfl⟩)
      simp only [Sem.run_bind, hg, Result.andThen_ok]
      rw [hk']
      cases op <;> first | (cases h3; done) | skip
      case rem =>
        have h3 : opqRem i q.2 = some v := h3
        unfold opqRem at h3
        cases e : qMod i with
        | none => rw [e] at h3; cases h3
        | some m =>
          rw [e] at h3
          have ⟨h4, h5⟩ := sel_some.1 h3
          cases h5
          have h6 : q.2 = 4 := by rw [eqI_eq] at h4; simpa using h4
          rw [h6, show (Int.ofNat m) = n.tmod 4 from (hmod m e).symm]
          exact intOp_rel (op := .rem) (show intOp .rem .i64 n 4 = some (mkInt .i64 (n.tmod 4)) from rfl) ⟨by decide, by decide⟩ t
      case lss =>
        have h3 : opqLt i q.2 = some v := h3
        have : some v = intOp .lss .i64 n q.2 := by
          show _ = some (mkBool (ltI n q.2))
          unfold opqLt at h3
          cases e : qBelow i q.2 with
          | true =>
            rw [e, sel_true] at h3; cases h3
            unfold qBelow at e
            split at e
            · rename_i m em
              have := hhi m em
              have h4' := ltI_iff.1 e
              rw [show ltI n q.2 = true from ltI_iff.2 (by omega)]
            · cases e
          | false =>
            rw [e, sel_false] at h3
            have ⟨e2, h4⟩ := sel_some.1 h3
            cases h4
            unfold qNotBelow at e2
            split at e2
            · rename_i m em
              have := hlo m em
              have h4' : ¬ m < q.2 := fun h => by rw [ltI_iff.2 h] at e2; cases e2
              rw [show ltI n q.2 = false from by cases h : ltI n q.2 with | false => rfl | true => exact absurd (ltI_iff.1 h) (by omega)]
            · cases e2
        exact intOp_rel (op := .lss) this.symm ⟨by decide, by decide⟩ t
      case gtr =>
        have h3 : opqGt i q.2 = some v := h3
        have : some v = intOp .gtr .i64 n q.2 := by
          show _ = some (mkBool (ltI q.2 n))
          unfold opqGt at h3
          cases e : qAbove i q.2 with
          | true =>
            rw [e, sel_true] at h3; cases h3
            unfold qAbove at e
            split at e
            · rename_i m em
              have := hlo m em
              have h4' := ltI_iff.1 e
              rw [show ltI q.2 n = true from ltI_iff.2 (by omega)]
            · cases e
          | false =>
            rw [e, sel_false] at h3
            have ⟨e2, h4⟩ := sel_some.1 h3
            cases h4
            unfold qNotAbove at e2
            split at e2
            · rename_i m em
              have := hhi m em
              have h4' : ¬ q.2 < m := fun h => by rw [ltI_iff.2 h] at e2; cases e2
              rw [show ltI q.2 n = false from by cases h : ltI q.2 n with | false => rfl | true => exact absurd (ltI_iff.1 h) (by omega)]
            · cases e2
        exact intOp_rel (op := .gtr) this.symm ⟨by decide, by decide⟩ t

theorem binA_rel (hQ : QOk Q) {op : BinOp} {t : TypeId} {x y : Operand} {a b v : AV} {u s : Value} (hv : binA P op t x y a b = some v) (ha : concV Q η a = some u) (hb : concV Q η b = some s) :
    ∃ z, (do eqGuard op t x y u s; binOp op t u s : Sem Value).run P w = .ok z w ∧ concV Q η v = some z := by
  unfold binA at hv
  cases e1 : asInt a with
  | some p =>
    rw [e1] at hv
    cases e2 : asInt b with
    | none => rw [e2] at hv; cases hv
    | some q =>
      rw [e2] at hv
      obtain rfl := asInt_some e1
      obtain rfl := asInt_some e2
      cases ha; cases hb
      have hg := eqGuard_plain (P := P) (w := w) (op := op) (t := t) (x := x) (y := y) (u := .int p.1 p.2) (v := .int q.1 q.2) (.inl ⟨_, _, rfl⟩)
      simp only [Sem.run_bind, hg, Result.andThen_ok]
      simp only at hv
      by_cases hsh : op = .shl ∨ op = .shr
      · have : binI op p.1 p.2 q.1 q.2 = shiftOp op p.1 p.2 q.2 := by rcases hsh with rfl | rfl <;> rfl
        rw [this] at hv
        exact shiftOp_rel hv hsh t
      · have : binI op p.1 p.2 q.1 q.2 = sel (kindEq p.1 q.1) (intOp op p.1 p.2 q.2) none := by cases op <;> first | rfl | simp at hsh
        rw [this] at hv
        have ⟨hk, h2⟩ := sel_some.1 hv
        rw [← kindEq_iff.1 hk]
        exact intOp_rel h2 ⟨fun e => hsh (.inl e), fun e => hsh (.inr e)⟩ t
  | none =>
    rw [e1] at hv
    simp only at hv
    cases e2 : asStr a with
    | some p =>
      rw [e2] at hv
      cases e3 : asStr b with
      | none => rw [e3] at hv; cases hv
      | some q =>
        rw [e3] at hv
        obtain rfl := asStr_some e2
        obtain rfl := asStr_some e3
        have hg : (eqGuard op t x y u s).run P w = .ok () w := by
          obtain ⟨_, rfl⟩ := conc_str ha
          exact eqGuard_plain (.inr ⟨_, rfl⟩)
        simp only [Sem.run_bind, hg, Result.andThen_ok]
        exact strOp_rel hv ha hb t
    | none =>
      rw [e2] at hv
      simp only at hv
      have key : ∀ r, eqB P t x y a b = some r → (op = .eql ∨ op = .neq) →
          (eqGuard op t x y u s).run P w = .ok () w ∧ (Op.equal t u s).run P w = .ok r w ∧
          (binOp .eql t u s = (do pure (.bool (← Op.equal t u s))) ∧ binOp .neq t u s = (do pure (.bool (!(← Op.equal t u s))))) := fun r hr hop => by
        unfold eqB at hr
        have ⟨h1, h2⟩ := sel_some.1 hr
        have ⟨o1, o2⟩ := eqA_opq h2
        refine ⟨eqIdle_rel hop h1 ha hb o1 o2, eqA_rel 60 t a b r u s h2 ha hb 10000 (by decide), binOp_eql ?_ ?_ ?_ ?_⟩
        · rintro k n rfl
          rcases conc_int_of ha with rfl | ⟨i, rfl⟩
          · cases e1
          · exact o1 _ rfl
        · rintro z rfl
          rcases conc_str_of ha with ⟨l, v, rfl⟩ | ⟨i, rfl⟩
          · cases e2
          · exact o1 _ rfl
        · rintro k n rfl; obtain ⟨i, rfl⟩ := conc_float_of ha; exact o1 _ rfl
        · rintro k m n rfl; obtain ⟨i, rfl⟩ := conc_complex_of ha; exact o1 _ rfl
      unfold binO at hv
      split at hv
      · cases hr : eqB P t x y a b with
        | none => rw [hr] at hv; cases hv
        | some r =>
          rw [hr] at hv; cases hv
          obtain ⟨h1, h2, h3, _⟩ := key r hr (.inl rfl)
          rw [mkBool_eq]
          exact ⟨.bool r, by simp only [Sem.run_bind, h1, Result.andThen_ok, h3, h2, Sem.run_pure], rfl⟩
      · cases hr : eqB P t x y a b with
        | none => rw [hr] at hv; cases hv
        | some r =>
          rw [hr] at hv; cases hv
          obtain ⟨h1, h2, _, h3⟩ := key r hr (.inr rfl)
          rw [mkBool_eq]
          exact ⟨.bool (!r), by simp only [Sem.run_bind, h1, Result.andThen_ok, h3, h2, Sem.run_pure], rfl⟩
      · exact opqO_rel hQ hv ha hb

theorem unA_rel {op : UnOp} {a v : AV} {x : Value} (hv : unA op a = some v) (ha : concV Q η a = some x) : ∃ z, (Op.unary op x).run P w = .ok z w ∧ concV Q η v = some z := by
  cases op <;> simp only [unA] at hv
  · cases e : asInt a with
    | none => rw [e] at hv; cases hv
    | some p =>
      rw [e] at hv; cases hv
      obtain rfl := asInt_some e
      cases ha
      rw [mkInt_eq, wrapF_eq]
      exact ⟨.int p.1 (p.1.wrap (0 - p.2)), by simp [Op.unary, Op.intArith], rfl⟩
  · cases e : asInt a with
    | none => rw [e] at hv; cases hv
    | some p =>
      rw [e] at hv; cases hv
      obtain rfl := asInt_some e
      cases ha
      rw [mkInt_eq]
      exact ⟨_, by simp only [Op.unary, Op.intBits, Sem.run_pure], rfl⟩
  · cases e : asBool a with
    | none => rw [e] at hv; cases hv
    | some p =>
      rw [e] at hv; cases hv
      obtain rfl := asBool_some e
      cases ha
      rw [mkBool_eq]
      exact ⟨.bool (!p), by simp [Op.unary], rfl⟩
  · cases hv

/-! ## indexes -/
theorem idx_some {v : AV} {n : Nat} (h1 : idx v = some n) : ∃ k, v = .int k (.ofNat n) := by
  unfold idx at h1
  cases e : asInt v with
  | none => rw [e] at h1; cases h1
  | some p =>
    rw [e] at h1
    obtain rfl := asInt_some e
    simp only at h1
    unfold natOf at h1
    split at h1
    · rename_i m hm; cases h1; exact ⟨p.1, by rw [hm]⟩
    · cases h1

theorem indexAddrA_rel {t : TypeId} {a i v : AV} {x y : Value} (hv : indexAddrA P t a i = some v) (ha : concV Q η a = some x) (hi : concV Q η i = some y) :
    ∃ z, (Instr.indexAt t x y).run P w = .ok z w ∧ concV Q η v = some z := by
  unfold indexAddrA at hv
  cases e : idx i with
  | none => rw [e] at hv; cases hv
  | some n =>
    rw [e] at hv
    obtain ⟨k, rfl⟩ := idx_some e
    cases hi
    simp only at hv
    cases hs : slA P t with
    | some es =>
      rw [hs] at hv
      obtain ⟨hd, hsz⟩ := slA_some (e := es.1) (s := es.2) hs
      have hu := run_und hd w
      have hz := run_sz hsz w
      simp only at hv
      unfold indexAddrS at hv
      have fin : ∀ (id off len : Nat) (b base cap : Nat) (c : Nat), η id = some (.blk b base cap) → n < len → v = .ptr id (off + n * es.2) → x = .slice (some ⟨b, base + off, none⟩) len c →
          ∃ z, (Instr.indexAt t x (.int k (.ofNat n))).run P w = .ok z w ∧ concV Q η v = some z := by
        rintro id off len b base cap c he hlt rfl rfl
        refine ⟨.pointer (some ⟨b, base + (off + n * es.2), none⟩), ?_, conc_ptr_mk he⟩
        simp [Instr.indexAt, asIntOf, hu, hz, add_at, Nat.add_assoc, hlt, Nat.not_le.2 hlt]
      split at hv
      · rename_i id off len cap hsl
        have ⟨h1, h2⟩ := sel_some.1 hv
        have hav : a = .sl id off len cap := by cases a <;> simp [asSl] at hsl; obtain ⟨rfl, rfl, rfl, rfl⟩ := hsl; rfl
        subst hav
        simp only [concV] at ha
        split at ha
        · rename_i b base c he; cases ha
          exact fin id off len b base c _ he (blt_iff.1 h1) (Option.some.inj h2).symm rfl
        · cases ha
      · rename_i id off oe len hsl
        have ⟨h1, h2⟩ := sel_some.1 hv
        have hav : a = .su id off oe len := by cases a <;> simp [asSl] at hsl; obtain ⟨rfl, rfl, rfl, rfl⟩ := hsl; rfl
        subst hav
        simp only [concV] at ha
        split at ha
        · rename_i b base c he
          split at ha
          · cases ha
            exact fin id off len b base c _ he (blt_iff.1 h1) (Option.some.inj h2).symm rfl
          · cases ha
        · cases ha
      · cases hv
    | none =>
      rw [hs] at hv
      simp only at hv
      cases har : arrA P t with
      | none => rw [har] at hv; cases hv
      | some ar =>
        rw [har] at hv
        obtain ⟨hd, hsz⟩ := arrA_some (n := ar.1) (e := ar.2.1) (s := ar.2.2) har
        have hu := run_und hd w
        have hz := run_sz hsz w
        simp only at hv
        cases hp : asPtr a with
        | none => rw [hp] at hv; cases hv
        | some p =>
          rw [hp] at hv
          obtain rfl := asPtr_some hp
          simp only at hv
          have ⟨h1, h2⟩ := sel_some.1 hv
          cases h2
          obtain ⟨b, base, cap, he, rfl⟩ := conc_ptr ha
          have hlt := blt_iff.1 h1
          refine ⟨_, ?_, conc_ptr_mk he⟩
          by_cases hle : ar.1 ≤ 1 <;> simp [Instr.indexAt, asIntOf, Instr.sureAddr, hu, hz, add_at, Nat.add_assoc, hle, hlt, Nat.not_le.2 hlt]

theorem indexA_rel {t : TypeId} {a i v : AV} {x y : Value} (hv : indexA P t a i = some v) (ha : concV Q η a = some x) (hi : concV Q η i = some y) :
    ∃ z, (Instr.index t x y).run P w = .ok z w ∧ concV Q η v = some z := by
  unfold indexA at hv
  cases e : idx i with
  | none => rw [e] at hv; cases hv
  | some n =>
    rw [e] at hv
    obtain ⟨k, rfl⟩ := idx_some e
    cases hi
    simp only at hv
    cases hs : asStr a with
    | some s =>
      rw [hs] at hv
      obtain rfl := asStr_some hs
      obtain ⟨hval, rfl⟩ := conc_str ha
      simp only at hv
      have ⟨h1, h2⟩ := sel_some.1 hv
      have ⟨h3, h4⟩ := sel_some.1 h2
      cases h4
      have hlt := blt_iff.1 h3
      have hu := run_und (isStrT_true h1) w
      rw [mkInt_eq]
      refine ⟨_, ?_, rfl⟩
      have hg : (bytesOf s.1 s.2)[n]? = some (UInt8.ofNat (s.2 / 256 ^ n % 256)) := by
        have h5 := bytesL_get s.1 s.2 n hlt
        have h6 : n < (bytesOf s.1 s.2).size := by rw [size_bytesOf]; exact hlt
        rw [getElem?_pos _ n h6]
        rw [List.getElem?_eq_getElem (by rw [bytesL_length]; exact hlt)] at h5
        exact h5
      have hb : ((UInt8.ofNat (s.2 / 256 ^ n % 256)).toNat : Int) = Int.ofNat (byteAt s.2 n) := by
        rw [byteAt_eq]; simp [UInt8.toNat_ofNat']
      have h7 : (0 : Int) ≤ Int.ofNat n := by simp
      have h8 : (Int.ofNat n).toNat = n := rfl
      simp only [Instr.index, asIntOf, Sem.run_bind, Sem.run_pure, Result.andThen_ok, hu, h7, if_true, h8, hg, hb]
    | none =>
      rw [hs] at hv
      simp only at hv
      cases har : arrA P t with
      | none => rw [har] at hv; cases hv
      | some ar =>
        rw [har] at hv
        obtain ⟨hd, hsz⟩ := arrA_some (n := ar.1) (e := ar.2.1) (s := ar.2.2) har
        have hu := run_und hd w
        have hz := run_sz hsz w
        simp only at hv
        cases hp : asAgg a with
        | none => rw [hp] at hv; cases hv
        | some cs =>
          rw [hp] at hv
          obtain rfl := asAgg_some hp
          simp only at hv
          have ⟨h1, h2⟩ := sel_some.1 hv
          obtain ⟨xs, hxs, rfl⟩ := conc_agg ha
          obtain ⟨z, hz1, hz2⟩ := partA_rel (w := w) h2 hxs
          have hlt := blt_iff.1 h1
          exact ⟨z, by simp [Instr.index, asIntOf, hu, hz, hlt, Nat.not_le.2 hlt, hz1], hz2⟩

theorem fieldAddrA_rel {s : TypeId} {a v : AV} {i : Nat} {x : Value} (hv : fieldAddrA P s a i = some v) (ha : concV Q η a = some x) :
    ∃ z, (Instr.fieldAt s x i).run P w = .ok z w ∧ concV Q η v = some z := by
  unfold fieldAddrA at hv
  cases hf : fldA P s i with
  | none => rw [hf] at hv; cases hv
  | some f =>
    rw [hf] at hv
    obtain ⟨fs, fd, n, hd, hi, h1, h2, hsz⟩ := fldA_some (ft := f.1) (off := f.2) hf
    have hu := run_und hd w
    simp only at hv
    cases hp : asPtr a with
    | none => rw [hp] at hv; cases hv
    | some p =>
      rw [hp] at hv; cases hv
      obtain rfl := asPtr_some hp
      obtain ⟨b, base, cap, he, rfl⟩ := conc_ptr ha
      rw [← h1] at hsz
      have hz := run_sz hsz w
      refine ⟨_, ?_, conc_ptr_mk he⟩
      simp [Instr.fieldAt, hu, hi, Instr.sureAddr, fieldPlace, hz, add_at, h2, Nat.add_assoc]

theorem fieldA_rel {t : TypeId} {a v : AV} {i : Nat} {x : Value} (hv : fieldA P t a i = some v) (ha : concV Q η a = some x) :
    ∃ z, (Instr.field t x i).run P w = .ok z w ∧ concV Q η v = some z := by
  unfold fieldA at hv
  cases hf : fldA P t i with
  | none => rw [hf] at hv; cases hv
  | some f =>
    rw [hf] at hv
    obtain ⟨fs, fd, n, hd, hi, h1, h2, hsz⟩ := fldA_some (ft := f.1) (off := f.2) hf
    have hu := run_und hd w
    simp only at hv
    cases hp : asAgg a with
    | none => rw [hp] at hv; cases hv
    | some cs =>
      rw [hp] at hv
      obtain rfl := asAgg_some hp
      obtain ⟨xs, hxs, rfl⟩ := conc_agg ha
      simp only at hv
      obtain ⟨z, hz1, hz2⟩ := partA_rel (w := w) hv hxs
      exact ⟨z, by simp [Instr.field, hu, hi, Go.asAgg, h1, h2, hz1], hz2⟩

theorem concEs_length : ∀ {es : List (AV × AV)} {l : List (Value × Value)}, concEs Q η es = some l → l.length = es.length
  | [], _, h3 => by cases h3; rfl
  | q :: r, l, h3 => by
    simp only [concEs] at h3
    split at h3
    · rename_i a b m _ _ h6; cases h3; simp [concEs_length h6]
    · cases h3

theorem lenA_rel (H : HR P Q N0 w0 η h w) {t : TypeId} {a v : AV} {x : Value} (hv : lenA P h t a = some v) (ha : concV Q η a = some x) (ts : Array TypeId) (ty : TypeId) (ht : ts[0]? = some t) :
    ∃ z, (Builtin.len_ ts ty #[x]).run P w = .ok z w ∧ concV Q η v = some z := by
  unfold lenA at hv
  cases e1 : isSlT P t with
  | true =>
    rw [e1, sel_true] at hv
    obtain ⟨e, hd⟩ := isSlT_true e1
    have hu := run_und hd w
    cases hl : lenS a with
    | none => rw [hl] at hv; cases hv
    | some n =>
      rw [hl] at hv; cases hv
      rw [mkInt_eq]
      have : ∃ ad c, x = .slice ad n c := by
        unfold lenS at hl
        cases a <;> simp [asSl] at hl <;> subst hl <;> simp only [concV] at ha <;> first
          | (cases ha; exact ⟨_, _, rfl⟩)
          | (split at ha <;> first | (cases ha; exact ⟨_, _, rfl⟩) | (split at ha <;> first | (cases ha; exact ⟨_, _, rfl⟩) | cases ha) | cases ha)
      obtain ⟨ad, c, rfl⟩ := this
      exact ⟨.int .i64 n, by simp [Builtin.len_, ht, hu, goInt], rfl⟩
  | false =>
    rw [e1, sel_false] at hv
    cases e2 : isStrT P t with
    | true =>
      rw [e2, sel_true] at hv
      have hu := run_und (isStrT_true e2) w
      cases hs : asStr a with
      | none => rw [hs] at hv; cases hv
      | some p =>
        rw [hs] at hv; cases hv
        obtain rfl := asStr_some hs
        obtain ⟨_, rfl⟩ := conc_str ha
        rw [mkInt_eq]
        exact ⟨.int .i64 p.1, by simp [Builtin.len_, ht, hu, goInt, size_bytesOf], rfl⟩
    | false =>
      rw [e2, sel_false] at hv
      cases e3 : isMapT P t with
      | true =>
        rw [e3, sel_true] at hv
        obtain ⟨k, e, hd⟩ := isMapT_true e3
        have hu := run_und hd w
        unfold lenM at hv
        split at hv
        · rename_i hm
          cases hv
          rcases asMap_some hm with ⟨_, rfl⟩ | ⟨id, e', _⟩
          · cases ha; exact ⟨.int .i64 0, by simp [Builtin.len_, ht, hu, goInt], rfl⟩
          · cases e'
        · rename_i id hm
          rcases asMap_some hm with ⟨e', _⟩ | ⟨id', e', rfl⟩
          · cases e'
          · cases e'
            split at hv
            · rename_i es hes
              cases hv
              rw [mkInt_eq]
              unfold AH.entries at hes
              split at hes
              · rename_i es' ho
                cases hes
                simp only [concV] at ha
                split at ha
                · rename_i b base cap he
                  cases ha
                  obtain ⟨b1, base1, c1, z, e4, h1, h2, _⟩ := H.obj _ _ ho _ he
                  cases e4
                  cases z with
                  | map entries clk =>
                    obtain ⟨l, h3, h4, _⟩ := h2
                    have hlen : entries.size = es.length := by
                      have := h4.length_eq
                      rw [List.length_map, Array.length_toList] at this
                      rw [this, concEs_length h3]
                    exact ⟨.int .i64 es.length, by simp [Builtin.len_, ht, hu, goInt, getObj, Sem.run, h1, hlen], rfl⟩
                  | _ => exact h2.elim
                · cases ha
              · cases hes
            · cases hv
        · cases hv
      | false =>
        rw [e3, sel_false] at hv
        cases e4 : arrLen P t with
        | none => rw [e4] at hv; cases hv
        | some n =>
          rw [e4] at hv; cases hv
          obtain ⟨e, hd⟩ := arrLen_some e4
          have hu := run_und hd w
          rw [mkInt_eq]
          refine ⟨.int .i64 n, ?_, rfl⟩
          cases x <;> simp [Builtin.len_, ht, hu, goInt]

end
end Go.Sx
