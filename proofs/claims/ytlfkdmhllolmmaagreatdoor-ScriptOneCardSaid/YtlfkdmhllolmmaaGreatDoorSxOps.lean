/- Operations that reckon or read: the executor's answer is the model's. -/
import Derived.Test.YtlfkdmhllolmmaaGreatDoorSxTypes
namespace Go.Sx
open Go

section
variable {P : Program} {Q : Nat → Value} {N0 : Keep} {w0 : World} {η : Env} {h : AH} {w : World}

/-! ## pointers, parts -/
theorem conc_ptr {id off : Nat} {x : Value} (hc : concV Q η (.ptr id off) = some x) : ∃ b base cap, η id = some (.blk b base cap) ∧ x = .pointer (some ⟨b, base + off, none⟩) := by
  simp only [concV] at hc
  split at hc
  · rename_i b base cap he; cases hc; exact ⟨b, base, cap, he, rfl⟩
  · cases hc

theorem conc_ptr_mk {id off b base cap : Nat} (he : η id = some (.blk b base cap)) : concV Q η (.ptr id off) = some (.pointer (some ⟨b, base + off, none⟩)) := by
  simp only [concV, he]

theorem conc_agg {l : List AV} {x : Value} (hc : concV Q η (.agg l) = some x) : ∃ xs, concVs Q η l = some xs ∧ x = .agg ⟨xs⟩ := by
  simp only [concV] at hc
  split at hc
  · rename_i xs he; cases hc; exact ⟨xs, he, rfl⟩
  · cases hc

theorem conc_agg_mk {l : List AV} {xs : List Value} (h1 : concVs Q η l = some xs) : concV Q η (.agg l) = some (.agg ⟨xs⟩) := by
  simp only [concV, h1]

theorem conc_tup {l : List AV} {x : Value} (hc : concV Q η (.tup l) = some x) : ∃ xs, concVs Q η l = some xs ∧ x = .tuple ⟨xs⟩ := by
  simp only [concV] at hc
  split at hc
  · rename_i xs he; cases hc; exact ⟨xs, he, rfl⟩
  · cases hc

theorem conc_tup_mk {l : List AV} {xs : List Value} (h1 : concVs Q η l = some xs) : concV Q η (.tup l) = some (.tuple ⟨xs⟩) := by
  simp only [concV, h1]

theorem conc_iface {t : TypeId} {v : AV} {x : Value} (hc : concV Q η (.iface t v) = some x) : ∃ y, concV Q η v = some y ∧ x = .iface t y := by
  simp only [concV] at hc
  split at hc
  · rename_i y he; cases hc; exact ⟨y, he, rfl⟩
  · cases hc

theorem conc_func {f : Fn} {a b : List AV} {x : Value} (hc : concV Q η (.func f a b) = some x) :
    ∃ g xs ys, concFn η f = some g ∧ concVs Q η a = some xs ∧ concVs Q η b = some ys ∧ x = .func g ⟨xs⟩ ⟨ys⟩ := by
  simp only [concV] at hc
  split at hc
  · rename_i g xs ys h1 h2 h3; cases hc; exact ⟨g, xs, ys, h1, h2, h3, rfl⟩
  · cases hc

theorem conc_str {l v : Nat} {x : Value} (hc : concV Q η (.str l v) = some x) : v < 256 ^ l ∧ x = .string (bytesOf l v) := by
  simp only [concV] at hc
  split at hc
  · rename_i hv; cases hc; exact ⟨hv, rfl⟩
  · cases hc

theorem conc_str_mk {l v : Nat} (hv : v < 256 ^ l) : concV Q η (.str l v) = some (.string (bytesOf l v)) := by
  simp only [concV]; rw [if_pos hv]

/-- the cells of a value -/
theorem conc_cells {v : AV} {x : Value} (hc : concV Q η v = some x) (hQ : QOk Q) : concVs Q η (cellsOf v) = some x.cells.toList := by
  by_cases ha : ∃ l, v = .agg l
  · obtain ⟨l, rfl⟩ := ha
    obtain ⟨xs, h1, rfl⟩ := conc_agg hc
    exact h1
  · have hne : ∀ l, v ≠ .agg l := fun l e => ha ⟨l, e⟩
    rw [cellsOf_other hne]
    have hx : x.cells = #[x] := by
      cases x <;> try rfl
      rename_i cs
      exfalso
      cases v <;> simp only [concV] at hc <;> try (cases hc; done)
      all_goals first
        | (exact hne _ rfl)
        | (split at hc <;> first | (cases hc; done) | (split at hc <;> cases hc))
        | skip
      rename_i i
      have := hQ.1 i
      simp only [Option.some.injEq] at hc
      rw [hc] at this
      cases this
    rw [hx]
    exact concVs_mk hc rfl

/-- cells of a block, or of an aggregate -/
theorem pickA_rel {lay : Option Nat} {cs : List AV} {off base : Nat} {c : Array Value} {v : AV} (hc : CellsRel Q η cs base c) (hp : pickA lay cs off = some v) :
    (lay = none ∧ ∃ x, c[base + off]? = some x ∧ concV Q η v = some x) ∨
    (∃ n xs, lay = some n ∧ xs.length = n ∧ (∀ j, j < n → c[base + off + j]? = xs[j]?) ∧ concV Q η v = some (.agg ⟨xs⟩)) := by
  cases lay with
  | none =>
    simp only [pickA] at hp
    rw [nth_eq] at hp
    exact .inl ⟨rfl, hc off v hp⟩
  | some n =>
    simp only [pickA] at hp
    cases hl : ltake cs off n with
    | none => rw [hl] at hp; cases hp
    | some l =>
      rw [hl] at hp; cases hp
      obtain ⟨xs, h1, h2, h3⟩ := hc.part hl
      exact .inr ⟨n, xs, rfl, h2, h3, conc_agg_mk h1⟩

theorem loadA_rel (H : HR P Q N0 w0 η h w) {t : TypeId} {a v : AV} {x : Value} (hl : loadA P h t a = some v) (ha : concV Q η a = some x) :
    ∃ ad y, x = .pointer (some ad) ∧ (loadVar t ad).run P w = .ok y w ∧ concV Q η v = some y := by
  unfold loadA at hl
  cases hlay : layA P t with
  | none => rw [hlay] at hl; cases hl
  | some lay =>
    rw [hlay] at hl
    cases hp : asPtr a with
    | none => rw [hp] at hl; cases hl
    | some p =>
      rw [hp] at hl
      obtain rfl := asPtr_some hp
      obtain ⟨b, base, cap, he, rfl⟩ := conc_ptr ha
      simp only at hl
      cases hr : h.row p.1 with
      | none => rw [hr] at hl; cases hl
      | some r =>
        rw [hr] at hl
        obtain ⟨ro, ho⟩ := row_obj (cs := r.1) (e := r.2) hr
        obtain ⟨c, fr, hb, hc, _, _, _⟩ := H.cells ho he
        rcases pickA_rel hc hl with ⟨rfl, y, hy, hcv⟩ | ⟨n, xs, rfl, hn, hxs, hcv⟩
        · refine ⟨_, y, rfl, ?_, hcv⟩
          rcases layA_some hlay w with ⟨_, h1⟩ | ⟨n, h1, _⟩
          · simp [loadVar, h1, cell_at hb, hy]
          · cases h1
        · refine ⟨_, _, rfl, ?_, hcv⟩
          rcases layA_some hlay w with ⟨h1, _⟩ | ⟨n', h1, h2, h3⟩
          · cases h1
          · cases h1
            simp [loadVar, h2, h3, run_loadCells (P := P) hb xs (fun j hj => hxs j (by omega)) hn.symm]

theorem partA_rel {t : TypeId} {cs : List AV} {xs : List Value} {off : Nat} {v : AV} (hp : partA P t cs off = some v) (hc : concVs Q η cs = some xs) :
    ∃ y, (part t ⟨xs⟩ off).run P w = .ok y w ∧ concV Q η v = some y := by
  unfold partA at hp
  cases hlay : layA P t with
  | none => rw [hlay] at hp; cases hp
  | some lay =>
    rw [hlay] at hp
    have hcr : CellsRel Q η cs 0 ⟨xs⟩ := fun j u hu => by
      obtain ⟨x, h1, h2⟩ := concVs_get hc j u hu
      exact ⟨x, by simpa using h1, h2⟩
    rcases pickA_rel hcr hp with ⟨rfl, y, hy, hcv⟩ | ⟨n, ys, rfl, hn, hys, hcv⟩
    · refine ⟨y, ?_, hcv⟩
      rcases layA_some hlay w with ⟨_, h1⟩ | ⟨n, h1, _⟩
      · simp only [Nat.zero_add] at hy
        simp [part, h1]
        simp at hy
        rw [hy]; rfl
      · cases h1
    · refine ⟨_, ?_, hcv⟩
      rcases layA_some hlay w with ⟨h1, _⟩ | ⟨n', h1, h2, h3⟩
      · cases h1
      · cases h1
        have hex : (⟨xs⟩ : Array Value).extract off (off + n) = ⟨ys⟩ := by
          apply Array.ext'
          simp only [Array.toList_extract]
          apply List.ext_getElem?
          intro j
          rw [List.extract_eq_take_drop]
          have e : off + n - off = n := by omega
          rw [e]
          by_cases hj : j < n
          · rw [List.getElem?_take_of_lt hj, List.getElem?_drop]
            have := hys j hj
            simpa using this
          · rw [List.getElem?_eq_none (by simp; omega), List.getElem?_eq_none (by omega)]
        simp only [part, Sem.run_bind, h2, Result.andThen_ok, if_true, h3, Sem.run_pure, hex]

/-! ## numbers -/
theorem mkInt_eq (k : IntKind) (n : Int) : mkInt k n = .int k n := by
  unfold mkInt
  split <;> rfl

theorem mkBool_eq (b : Bool) : mkBool b = .bool b := by cases b <;> rfl

theorem kindEq_iff {a b : IntKind} : kindEq a b = true ↔ a = b := by cases a <;> cases b <;> simp [kindEq]

theorem eqI_eq (a b : Int) : eqI a b = (a == b) := by
  cases a <;> cases b
  · rename_i m n
    simp only [eqI]
    cases e : Nat.beq m n with
    | true => have := beq_iff.1 e; subst this; simp
    | false => have := beq_no.1 e; symm; simp; omega
  · simp [eqI]
  · simp [eqI]
  · rename_i m n
    simp only [eqI]
    cases e : Nat.beq m n with
    | true => have := beq_iff.1 e; subst this; simp
    | false => have := beq_no.1 e; symm; simp; omega

theorem ltI_eq (a b : Int) : ltI a b = decide (a < b) := by
  cases a <;> cases b
  · rename_i m n
    simp only [ltI]
    cases e : Nat.blt m n with
    | true => have := blt_iff.1 e; symm; simp; omega
    | false => have := blt_no.1 e; symm; simp; omega
  · rename_i m n
    simp only [ltI]; symm; simp; omega
  · rename_i m n
    simp only [ltI]; symm; simp; omega
  · rename_i m n
    simp only [ltI]
    cases e : Nat.blt n m with
    | true => have := blt_iff.1 e; symm; simp; omega
    | false => have := blt_no.1 e; symm; simp; omega

theorem wrap_in {k : IntKind} {n : Int} (h1 : k.min ≤ n) (h2 : n ≤ k.max) : k.wrap n = n := by
  cases k <;> simp [IntKind.min, IntKind.max, IntKind.signed, IntKind.bits, IntKind.wrap] at * <;> omega

theorem wrapF_eq (k : IntKind) (n : Int) : wrapF k n = k.wrap n := by
  unfold wrapF
  cases n with
  | ofNat m =>
    simp only []
    cases e : Nat.blt m (match k with | .i8 => 128 | .u8 => 256 | .i16 => 32768 | .u16 => 65536 | .i32 => 2147483648 | .u32 => 4294967296 | .i64 => 9223372036854775808 | .u64 => 18446744073709551616) with
    | false => rfl
    | true =>
      have := blt_iff.1 e
      symm
      cases k <;> simp only at this <;> exact wrap_in (by simp [IntKind.min, IntKind.signed, IntKind.bits]) (by simp [IntKind.max, IntKind.signed, IntKind.bits]; omega)
  | negSucc m =>
    simp only []
    cases e : Nat.blt m (match k with | .i8 => 128 | .i16 => 32768 | .i32 => 2147483648 | .i64 => 9223372036854775808 | _ => 0) with
    | false => rfl
    | true =>
      have := blt_iff.1 e
      symm
      cases k <;> simp only at this <;> first
        | omega
        | exact wrap_in (by simp [IntKind.min, IntKind.signed, IntKind.bits]; omega) (by simp [IntKind.max, IntKind.signed, IntKind.bits]; omega)

theorem intOp_rel {op : BinOp} {k : IntKind} {a b : Int} {v : AV} (hv : intOp op k a b = some v) (hsh : op ≠ .shl ∧ op ≠ .shr) (t : TypeId) :
    ∃ x, (binOp op t (.int k a) (.int k b)).run P w = .ok x w ∧ concV Q η v = some x := by
  have key : ∀ (s : Sem Value), binOp op t (.int k a) (.int k b) = s → ∀ x, s.run P w = .ok x w → concV Q η v = some x → ∃ x, (binOp op t (.int k a) (.int k b)).run P w = .ok x w ∧ concV Q η v = some x :=
    fun s e x h1 h2 => ⟨x, by rw [e]; exact h1, h2⟩
  cases op <;> simp only [intOp] at hv
  case shl => exact absurd rfl hsh.1
  case shr => exact absurd rfl hsh.2
  case add => cases hv; rw [mkInt_eq, wrapF_eq]; exact ⟨_, by simp [binOp, Op.intArith], rfl⟩
  case sub => cases hv; rw [mkInt_eq, wrapF_eq]; exact ⟨.int k (k.wrap (a - b)), by simp [binOp, Op.intArith], rfl⟩
  case mul => cases hv; rw [mkInt_eq, wrapF_eq]; exact ⟨_, by simp [binOp, Op.intArith], rfl⟩
  case quo =>
    unfold quoI at hv
    rw [eqI_eq] at hv
    cases e : (b == 0) with
    | true => rw [e] at hv; cases hv
    | false =>
      rw [e] at hv; cases hv
      rw [mkInt_eq, wrapF_eq]
      have hb : ¬ b = 0 := by simpa using e
      exact ⟨_, by simp [binOp, Op.intDiv, hb], rfl⟩
  case rem =>
    unfold remI at hv
    rw [eqI_eq] at hv
    cases e : (b == 0) with
    | true => rw [e] at hv; cases hv
    | false =>
      rw [e] at hv; cases hv
      rw [mkInt_eq]
      have hb : ¬ b = 0 := by simpa using e
      exact ⟨_, by simp [binOp, Op.intDiv, hb], rfl⟩
  case and => cases hv; rw [mkInt_eq]; exact ⟨_, by simp [binOp, Op.intBits], rfl⟩
  case or => cases hv; rw [mkInt_eq]; exact ⟨_, by simp [binOp, Op.intBits], rfl⟩
  case xor => cases hv; rw [mkInt_eq]; exact ⟨_, by simp [binOp, Op.intBits], rfl⟩
  case andNot => cases hv; rw [mkInt_eq]; exact ⟨_, by simp [binOp, Op.intBits], rfl⟩
  case eql => cases hv; rw [mkBool_eq, eqI_eq]; exact ⟨_, by simp [binOp, Op.intCmp], rfl⟩
  case neq => cases hv; rw [mkBool_eq, eqI_eq]; exact ⟨.bool (a != b), by simp [binOp, Op.intCmp], rfl⟩
  case lss => cases hv; rw [mkBool_eq, ltI_eq]; exact ⟨_, by simp [binOp, Op.intCmp], rfl⟩
  case leq =>
    cases hv; rw [mkBool_eq, ltI_eq]
    refine ⟨.bool (decide (a ≤ b)), by simp [binOp, Op.intCmp], ?_⟩
    simp only [concV, Option.some.injEq, Value.bool.injEq]
    by_cases h : a ≤ b
    · have : ¬ b < a := by omega
      simp [h, this]
    · have : b < a := by omega
      simp [h, this]
  case gtr => cases hv; rw [mkBool_eq, ltI_eq]; exact ⟨.bool (decide (b < a)), by simp [binOp, Op.intCmp], rfl⟩
  case geq =>
    cases hv; rw [mkBool_eq, ltI_eq]
    refine ⟨.bool (decide (b ≤ a)), by simp [binOp, Op.intCmp], ?_⟩
    simp only [concV, Option.some.injEq, Value.bool.injEq]
    by_cases h : b ≤ a
    · have : ¬ a < b := by omega
      simp [h, this]
    · have : a < b := by omega
      simp [h, this]

theorem shiftOp_rel {op : BinOp} {k k' : IntKind} {a b : Int} {v : AV} (hv : shiftOp op k a b = some v) (hsh : op = .shl ∨ op = .shr) (t : TypeId) :
    ∃ x, (binOp op t (.int k a) (.int k' b)).run P w = .ok x w ∧ concV Q η v = some x := by
  unfold shiftOp at hv
  split at hv
  · cases hv
  · rename_i hb
    rcases hsh with rfl | rfl
    · cases hv; rw [mkInt_eq]; exact ⟨_, by simp [binOp, Op.shift, hb], rfl⟩
    · cases hv; rw [mkInt_eq]; exact ⟨_, by simp [binOp, Op.shift, hb], rfl⟩

end
end Go.Sx
