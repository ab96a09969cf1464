/- '==' is the model's. -/
import Derived.Test.YtlfkdmhllolmmaaGreatDoorSxStr
import Derived.Laws.StructEq
namespace Go.Sx
open Go

section
variable {P : Program} {Q : Nat → Value} {N0 : Keep} {w0 : World} {η : Env} {h : AH} {w : World}

theorem tkEq_iff {a b : TK} : tkEq a b = true ↔ a = b := by cases a <;> cases b <;> simp [tkEq]

/-- what a nil of a kind is -/
def NilV (k : TK) (x : Value) : Prop :=
  match k with
  | .ptr => x = .pointer none
  | .slice => x = .slice none 0 0
  | .map => x = .map none
  | .func => x = .nilFunc
  | .iface => x = .nilIface

def ThereV (k : TK) (x : Value) : Prop :=
  match k with
  | .ptr => ∃ a, x = .pointer (some a)
  | .slice => ∃ a l c, x = .slice (some a) l c
  | .map => ∃ a, x = .map (some a)
  | .func => ∃ f a b, x = .func f a b
  | .iface => ∃ t v, x = .iface t v

theorem eqK_nil {v : AV} {k : TK} {x : Value} (h1 : eqK v = .nil k) (hc : concV Q η v = some x) : NilV k x := by
  cases v <;> simp only [eqK] at h1 <;> cases h1 <;> simp only [concV] at hc <;> cases hc <;> rfl

theorem eqK_there {v : AV} {k : TK} {x : Value} (h1 : eqK v = .there k) (hc : concV Q η v = some x) : ThereV k x := by
  cases v <;> simp only [eqK] at h1 <;> cases h1 <;> simp only [concV] at hc
  · split at hc <;> first | (cases hc; exact ⟨_, rfl⟩) | cases hc
  · split at hc <;> first | (cases hc; exact ⟨_, _, _, rfl⟩) | cases hc
  · split at hc
    · split at hc <;> first | (cases hc; exact ⟨_, _, _, rfl⟩) | cases hc
    · cases hc
  · split at hc <;> first | (cases hc; exact ⟨_, _, _, rfl⟩) | cases hc
  · split at hc <;> first | (cases hc; exact ⟨_, rfl⟩) | cases hc
  · split at hc <;> first | (cases hc; exact ⟨_, _, _, rfl⟩) | cases hc

theorem eqK_iface {v u : AV} {t : TypeId} {x : Value} (h1 : eqK v = .iface t u) (hc : concV Q η v = some x) : ThereV .iface x := by
  cases v <;> simp only [eqK] at h1 <;> cases h1
  obtain ⟨y, _, rfl⟩ := conc_iface hc
  exact ⟨_, _, rfl⟩

/-- one of the two is nil, or both -/
theorem eqNil_rel {k : TK} {a b : AV} {r : Bool} {x y : Value} (h1 : eqNil k (eqK a) (eqK b) = some r) (ha : concV Q η a = some x) (hb : concV Q η b = some y) :
    (NilV k x ∧ NilV k y ∧ r = true) ∨ (NilV k x ∧ ThereV k y ∧ r = false) ∨ (ThereV k x ∧ NilV k y ∧ r = false) := by
  unfold eqNil at h1
  split at h1
  · rename_i a' e1
    have ⟨k1, h3⟩ := sel_some.1 h1
    have n1 := eqK_nil e1 ha
    rw [tkEq_iff.1 k1] at n1
    clear h1
    split at h3
    · rename_i b' e2
      have ⟨k2, h4⟩ := sel_some.1 h3
      have n2 := eqK_nil e2 hb
      rw [tkEq_iff.1 k2] at n2
      exact .inl ⟨n1, n2, (Option.some.inj h4).symm⟩
    · rename_i b' e2
      have ⟨k2, h4⟩ := sel_some.1 h3
      have n2 := eqK_there e2 hb
      rw [tkEq_iff.1 k2] at n2
      exact .inr (.inl ⟨n1, n2, (Option.some.inj h4).symm⟩)
    · rename_i t v e2
      have ⟨k2, h4⟩ := sel_some.1 h3
      have n2 := eqK_iface e2 hb
      rw [← tkEq_iff.1 k2] at n2
      exact .inr (.inl ⟨n1, n2, (Option.some.inj h4).symm⟩)
    · cases h3
  · rename_i a' e1
    have ⟨k1, h3⟩ := sel_some.1 h1
    have n1 := eqK_there e1 ha
    rw [tkEq_iff.1 k1] at n1
    clear h1
    split at h3
    · rename_i b' e2
      have ⟨k2, h4⟩ := sel_some.1 h3
      have n2 := eqK_nil e2 hb
      rw [tkEq_iff.1 k2] at n2
      exact .inr (.inr ⟨n1, n2, (Option.some.inj h4).symm⟩)
    · cases h3
  · rename_i t v e1
    have ⟨k1, h3⟩ := sel_some.1 h1
    have n1 := eqK_iface e1 ha
    rw [← tkEq_iff.1 k1] at n1
    clear h1
    split at h3
    · rename_i b' e2
      have ⟨k2, h4⟩ := sel_some.1 h3
      have n2 := eqK_nil e2 hb
      rw [tkEq_iff.1 k2] at n2
      exact .inr (.inr ⟨n1, n2, (Option.some.inj h4).symm⟩)
    · cases h3
  · cases h1

theorem eqT_some {t : TypeId} {e : EqT} (h1 : eqT P t = e) (hne : e ≠ .no) : ∃ d, undA P t = some d ∧ eqTOf d = e := by
  unfold eqT at h1
  split at h1
  · exact absurd h1.symm hne
  · rename_i d hd; exact ⟨d, hd, h1⟩

theorem cmpT_true {t : TypeId} (h1 : cmpT P t = true) : ∃ i, P.info? t = some i ∧ i.comparable = true := by
  unfold cmpT at h1
  split at h1
  · rename_i i hi; exact ⟨i, infoA_some hi, h1⟩
  · cases h1

theorem bool_eq (a b : Bool) : (match a with | true => b | false => !b) = (a == b) := by cases a <;> cases b <;> rfl

set_option maxHeartbeats 1000000 in
theorem run_eqNil (D : Nat) {t : TypeId} {k : TK} {ds : TypeDesc} {x y : Value} {r : Bool} (hu : (underlying t).run P w = .ok ds w) (hk : eqTOf ds = .nilable k)
    (hn : (NilV k x ∧ NilV k y ∧ r = true) ∨ (NilV k x ∧ ThereV k y ∧ r = false) ∨ (ThereV k x ∧ NilV k y ∧ r = false)) :
    (Op.equalIn (D + 1) t x y).run P w = .ok r w := by
  unfold Op.equalIn
  simp only [Sem.run_bind, hu, Result.andThen_ok]
  rcases hn with ⟨n1, n2, rfl⟩ | ⟨n1, n2, rfl⟩ | ⟨n1, n2, rfl⟩
  · cases ds <;> simp only [eqTOf] at hk <;> cases hk <;> simp only [NilV] at n1 n2 <;> subst n1 <;> subst n2 <;> rfl
  · cases ds <;> simp only [eqTOf] at hk <;> cases hk <;> simp only [NilV, ThereV] at n1 n2 <;> subst n1
    · obtain ⟨_, rfl⟩ := n2; rfl
    · obtain ⟨_, _, _, rfl⟩ := n2; rfl
    · obtain ⟨_, rfl⟩ := n2; rfl
    · obtain ⟨_, _, _, rfl⟩ := n2; rfl
    · obtain ⟨_, _, rfl⟩ := n2; rfl
  · cases ds <;> simp only [eqTOf] at hk <;> cases hk <;> simp only [NilV, ThereV] at n1 n2 <;> subst n2
    · obtain ⟨_, rfl⟩ := n1; rfl
    · obtain ⟨_, _, _, rfl⟩ := n1; rfl
    · obtain ⟨_, rfl⟩ := n1; rfl
    · obtain ⟨_, _, _, rfl⟩ := n1; rfl
    · obtain ⟨_, _, rfl⟩ := n1; rfl

theorem sameOpq_rel (hQ : QOk Q) {t : TypeId} {a b : AV} {x y : Value} (h : sameOpq P t a b = true) (ha : concV Q η a = some x) (hb : concV Q η b = some y) (D : Nat) : (Op.equalIn (D + 1) t x y).run P w = .ok true w := by
  unfold sameOpq at h
  cases e1 : asOpq a with
  | none => rw [e1] at h; cases h
  | some i =>
    rw [e1] at h
    cases e2 : asOpq b with
    | none => rw [e2] at h; cases h
    | some j =>
      rw [e2] at h
      obtain rfl := asOpq_some e1
      obtain rfl := asOpq_some e2
      simp only at h
      cases hij : Nat.beq i j with
      | false => rw [hij, sel_false] at h; cases h
      | true =>
        rw [hij, sel_true] at h
        have hij := beq_iff.1 hij
        subst hij
        cases hin : sel (Nat.blt i 7) true (qByte i) with
        | false => rw [hin, sel_false] at h; cases h
        | true =>
          rw [hin, sel_true] at h
          have hint : ∃ k n, Q i = .int k n := by
            cases h7 : Nat.blt i 7 with
            | true => obtain ⟨n, hn, _⟩ := hQ.2.1 i (by have := blt_iff.1 h7; omega) (by have := blt_iff.1 h7; omega); exact ⟨_, n, hn⟩
            | false => rw [h7, sel_false] at hin; obtain ⟨n, hn, _⟩ := hQ.byte hin; exact ⟨_, n, hn⟩
          obtain ⟨k, n, hn⟩ := hint
          cases ha; cases hb
          rw [hn]
          unfold isIntT at h
          split at h
          · rename_i e
            obtain ⟨ds, hd, hk⟩ := eqT_some e (by simp)
            cases ds <;> simp only [eqTOf] at hk <;> cases hk
            rw [run_equalIn_int w D t k _ n n (undA_some hd)]
            simp
          · cases h

set_option maxHeartbeats 1000000 in
mutual
theorem eqA_rel (hQ : QOk Q) : ∀ (d : Nat) (t : TypeId) (a b : AV) (r : Bool) (x y : Value), eqA P d t a b = some r → concV Q η a = some x → concV Q η b = some y →
    ∀ D, d ≤ D → (Op.equalIn D t x y).run P w = .ok r w
  | 0, _, _, _, _, _, _, h1, _, _, _, _ => by unfold eqA at h1; cases h1
  | d + 1, t, a, b, r, x, y, h1, ha, hb, D, hD => by
    obtain ⟨D, rfl⟩ : ∃ m, D = m + 1 := ⟨D - 1, by omega⟩
    unfold eqA at h1
    split at h1
    · rename_i e
      obtain ⟨ds, hd, hk⟩ := eqT_some e (by simp)
      cases h1a : asBool a with
      | none => rw [h1a] at h1; cases h1
      | some p =>
        cases h1b : asBool b with
        | none => rw [h1a, h1b] at h1; cases h1
        | some q =>
          rw [h1a, h1b] at h1; cases h1
          obtain rfl := asBool_some h1a
          obtain rfl := asBool_some h1b
          cases ha; cases hb
          cases ds <;> simp only [eqTOf] at hk <;> cases hk
          rw [run_equalIn_bool' w D t p q (undA_some hd)]
          congr 1
          cases p <;> cases q <;> rfl
    · rename_i e
      obtain ⟨ds, hd, hk⟩ := eqT_some e (by simp)
      cases h1a : asInt a with
      | none => rw [h1a] at h1; cases h1
      | some p =>
        cases h1b : asInt b with
        | none => rw [h1a, h1b] at h1; cases h1
        | some q =>
          rw [h1a, h1b] at h1
          simp only at h1
          obtain ⟨hk2, h1⟩ := sel_some.1 h1
          have hk2 := kindEq_iff.1 hk2
          cases h1
          obtain rfl := asInt_some h1a
          obtain rfl := asInt_some h1b
          cases ha; cases hb
          cases ds <;> simp only [eqTOf] at hk <;> cases hk
          rw [← hk2, eqI_eq, run_equalIn_int w D t p.1 _ p.2 q.2 (undA_some hd)]
    · rename_i e
      obtain ⟨ds, hd, hk⟩ := eqT_some e (by simp)
      cases h1a : asStr a with
      | none => rw [h1a] at h1; cases h1
      | some p =>
        cases h1b : asStr b with
        | none => rw [h1a, h1b] at h1; cases h1
        | some q =>
          rw [h1a, h1b] at h1; cases h1
          obtain rfl := asStr_some h1a
          obtain rfl := asStr_some h1b
          obtain ⟨hv, rfl⟩ := conc_str ha
          obtain ⟨hu, rfl⟩ := conc_str hb
          cases ds <;> simp only [eqTOf] at hk <;> cases hk
          rw [run_equalIn_string w D t _ _ (undA_some hd), toList_bytesOf, toList_bytesOf, strEq_eq hv hu]
    · rename_i k e
      obtain ⟨ds, hd, hk⟩ := eqT_some e (by simp)
      have hu := run_und hd w
      cases h2 : eqNil k (eqK a) (eqK b) with
      | some r' =>
        rw [h2] at h1; cases h1
        exact run_eqNil D hu hk (eqNil_rel h2 ha hb)
      | none =>
        rw [h2] at h1
        simp only at h1
        have ⟨hki, h9⟩ := sel_some.1 h1
        clear h1
        obtain rfl := tkEq_iff.1 hki
        cases h1a : asIface a with
        | none => rw [h1a] at h9; cases h9
        | some p =>
          cases h1b : asIface b with
          | none => rw [h1a, h1b] at h9; cases h9
          | some q =>
            rw [h1a, h1b] at h9
            have h10 : sel (Nat.beq p.1 q.1) (sel (cmpT P p.1) (eqA P d p.1 p.2 q.2) none) (some false) = some r := h9
            clear h9
            obtain rfl := asIface_some h1a
            obtain rfl := asIface_some h1b
            obtain ⟨x', hx', rfl⟩ := conc_iface ha
            obtain ⟨y', hy', rfl⟩ := conc_iface hb
            cases ds <;> simp only [eqTOf] at hk <;> cases hk
            cases ht : Nat.beq p.1 q.1 with
            | false =>
              rw [ht] at h10
              cases h10
              have := beq_no.1 ht
              simp [Op.equalIn, hu, this]
            | true =>
              rw [ht] at h10
              have ht := beq_iff.1 ht
              rw [sel_true] at h10
              have ⟨hcmp, h11⟩ := sel_some.1 h10
              obtain ⟨i, hi, hcm⟩ := cmpT_true hcmp
              have ih := eqA_rel hQ d p.1 p.2 q.2 r x' y' h11 hx' hy' D (by omega)
              unfold Op.equalIn
              simp only [Sem.run_bind, hu, Result.andThen_ok, ← ht, ne_eq, not_true_eq_false, if_false, run_info hi, hcm, Bool.not_true, Bool.false_eq_true]
              exact ih
    · rename_i e
      cases hs : structA P t with
      | none => rw [hs] at h1; cases h1
      | some l =>
        rw [hs] at h1
        simp only at h1
        obtain ⟨fs, hd, hst, hf⟩ := structA_some hs
        cases h1a : asAgg a with
        | none => rw [h1a] at h1; cases h1
        | some xs =>
          cases h1b : asAgg b with
          | none => rw [h1a, h1b] at h1; cases h1
          | some ys =>
            rw [h1a, h1b] at h1
            simp only at h1
            obtain rfl := asAgg_some h1a
            obtain rfl := asAgg_some h1b
            obtain ⟨xs', hx', rfl⟩ := conc_agg ha
            obtain ⟨ys', hy', rfl⟩ := conc_agg hb
            have hfo : P.fieldsOf t = fs := by simp [Program.fieldsOf, undA_some hd]
            rw [run_equalIn_struct w D t _ _ (by rw [hfo]; exact undA_some hd) hst, hfo]
            exact eqFs_rel hQ d l xs ys r xs' ys' h1 hx' hy' D (by omega) fs.toList hf
theorem eqFs_rel (hQ : QOk Q) : ∀ (d : Nat) (l : List (TypeId × Nat)) (as bs : List AV) (r : Bool) (xs ys : List Value), eqFs P d l as bs = some r → concVs Q η as = some xs → concVs Q η bs = some ys →
    ∀ D, d ≤ D → ∀ fs, eqFields fs = some l → (Op.eqFields D ⟨xs⟩ ⟨ys⟩ fs).run P w = .ok r w
  | d, l, as, bs, r, xs, ys, h1, ha, hb, D, hD, [], hf => by
    simp only [eqFields] at hf
    cases hf
    cases d with
    | zero => unfold eqFs at h1; cases h1
    | succ d => unfold eqFs at h1; cases h1; simp [Op.eqFields]
  | d, l, as, bs, r, xs, ys, h1, ha, hb, D, hD, f :: fs, hf => by
    simp only [eqFields] at hf
    by_cases hn : f.name = "_"
    · rw [if_pos hn] at hf
      simp only [Op.eqFields, hn, ne_eq, not_true_eq_false, if_false]
      exact eqFs_rel hQ d l as bs r xs ys h1 ha hb D hD fs hf
    · rw [if_neg hn] at hf
      cases hl : eqFields fs with
      | none => rw [hl] at hf; cases hf
      | some m =>
        rw [hl] at hf; cases hf
        cases d with
        | zero => unfold eqFs at h1; cases h1
        | succ d =>
          unfold eqFs at h1
          simp only at h1
          cases p1 : partA P f.type as f.offset with
          | none => rw [p1] at h1; cases h1
          | some u =>
            cases p2 : partA P f.type bs f.offset with
            | none => rw [p1, p2] at h1; cases h1
            | some v =>
              rw [p1, p2] at h1
              simp only at h1
              obtain ⟨u', r1, c1⟩ := partA_rel (w := w) p1 ha
              obtain ⟨v', r2, c2⟩ := partA_rel (w := w) p2 hb
              cases hso : sameOpq P f.type u v with
              | true =>
                rw [hso, sel_true] at h1
                simp only at h1
                obtain ⟨D', rfl⟩ : ∃ m, D = m + 1 := ⟨D - 1, by omega⟩
                have hsame := sameOpq_rel (w := w) hQ hso c1 c2 D'
                simp only [Op.eqFields, hn, ne_eq, not_false_eq_true, if_true, Sem.run_bind, r1, r2, hsame, Result.andThen_ok, Bool.not_true, Bool.false_eq_true, if_false]
                exact eqFs_rel hQ d m as bs r xs ys h1 ha hb (D' + 1) (by omega) fs hl
              | false =>
              rw [hso, sel_false] at h1
              cases he : eqA P d f.type u v with
              | none => rw [he] at h1; cases h1
              | some q =>
                rw [he] at h1
                have ih := eqA_rel hQ d f.type u v q u' v' he c1 c2 D (by omega)
                cases q with
                | false =>
                  cases h1
                  simp [Op.eqFields, hn, r1, r2, ih]
                | true =>
                  simp only at h1
                  simp only [Op.eqFields, hn, ne_eq, not_false_eq_true, if_true, Sem.run_bind, r1, r2, ih, Result.andThen_ok, Bool.not_true, Bool.false_eq_true, if_false]
                  exact eqFs_rel hQ d m as bs r xs ys h1 ha hb D (by omega) fs hl
end

/-! ## the whole of a binary operator -/
theorem conc_not_int {a : AV} {x : Value} (h1 : asInt a = none) (h2 : asStr a = none) (hc : concV Q η a = some x) (hQ : True) : True := trivial

theorem eqIdle_rel {op : BinOp} {t : TypeId} {x y : Operand} {a b : AV} {u v : Value} (hop : op = .eql ∨ op = .neq) (h1 : eqIdle P t x y a b = true) (ha : concV Q η a = some u) (hb : concV Q η b = some v)
    (hne : ∀ i, a ≠ .opq i) (hne' : ∀ i, b ≠ .opq i) :
    (eqGuard op t x y u v).run P w = .ok () w := by
  have hcase : ∀ (P' : Prop), (op matches .eql | .neq) = true := fun _ => by rcases hop with rfl | rfl <;> rfl
  have hm : (op matches .eql | .neq) = true := by rcases hop with rfl | rfl <;> rfl
  unfold eqIdle at h1
  cases e1 : asAgg a with
  | some l =>
    rw [e1] at h1
    obtain rfl := asAgg_some e1
    obtain ⟨xs, _, rfl⟩ := conc_agg ha
    have hc : P.eqGuardType P.depth t = false := by simpa [eqCalm] using h1
    rcases hop with rfl | rfl <;> cases v <;> simp [eqGuard, hc]
  | none =>
    rw [e1] at h1
    simp only at h1
    have hnagg : ∀ l, u ≠ .agg l := fun l e => by
      subst e
      cases a <;> simp only [concV] at ha <;> first
        | (cases ha; done)
        | (exact hne _ rfl)
        | (simp [asAgg] at e1; done)
        | (split at ha <;> first | (cases ha; done) | (split at ha <;> cases ha))
    cases e2 : isNi a with
    | false =>
      have hnn : u ≠ .nilIface := fun e => by
        subst e
        cases a <;> simp only [concV] at ha <;> first
          | (cases ha; done)
          | (exact hne _ rfl)
          | (simp [isNi] at e2; done)
          | (split at ha <;> first | (cases ha; done) | (split at ha <;> cases ha))
      rcases hop with rfl | rfl <;> cases u <;> simp_all [eqGuard]
    | true =>
      obtain rfl := isNi_true e2
      cases ha
      rw [e2, sel_true] at h1
      cases e3 : isNi b with
      | false =>
        have hnn : v ≠ .nilIface := fun e => by
          subst e
          cases b <;> simp only [concV] at hb <;> first
            | (cases hb; done)
            | (exact hne' _ rfl)
            | (simp [isNi] at e3; done)
            | (split at hb <;> first | (cases hb; done) | (split at hb <;> cases hb))
        rcases hop with rfl | rfl <;> cases v <;> simp_all [eqGuard]
      | true =>
        obtain rfl := isNi_true e3
        cases hb
        rw [e3, sel_true] at h1
        cases e4 : isConst x with
        | true =>
          cases x <;> simp [isConst] at e4
          rcases hop with rfl | rfl <;> simp [eqGuard]
        | false =>
          rw [e4, sel_false] at h1
          cases e5 : isConst y with
          | true =>
            cases y <;> simp [isConst] at e5
            rcases hop with rfl | rfl <;> cases x <;> simp [eqGuard]
          | false =>
            rw [e5, sel_false] at h1
            unfold bareI at h1
            split at h1
            · rename_i ms hd
              have hu := run_und hd w
              have hem : ms.isEmpty = true := h1
              have hg : ∀ D, (Op.eqGuardIn (D + 1) t .nilIface .nilIface).run P w = .ok false w := fun D => by simp [Op.eqGuardIn, hu, hem]
              have := hg 9999
              rcases hop with rfl | rfl <;> cases x <;> cases y <;> simp_all [eqGuard, Op.maxDepth, isConst]
            · cases h1

end
end Go.Sx
