/- What becomes of a frame when an operation has its result. -/
import Derived.Test.YtlfkdmhllolmmaaGreatDoorSxFrame
namespace Go.Sx
open Go

theorem drop_cons {ops : Array Oper} {i : Nat} {o : Oper} {rest : List Oper} (h : o :: rest = ops.toList.drop i) :
    ops[i]? = some o ∧ rest = ops.toList.drop (i + 1) ∧ (List.range ops.size).drop i = i :: (List.range ops.size).drop (i + 1) := by
  have h1 : (ops.toList.drop i)[0]? = some o := by rw [← h]; rfl
  rw [List.getElem?_drop] at h1
  have h2 : ops[i]? = some o := by simpa using h1
  have hlt : i < ops.size := (Array.getElem?_eq_some_iff.1 h2).1
  refine ⟨h2, ?_, ?_⟩
  · have : (o :: rest).tail = (ops.toList.drop i).tail := by rw [h]
    simpa using this
  · rw [List.drop_eq_getElem_cons (by simpa using hlt)]
    simp

theorem drop_nil {ops : Array Oper} {i : Nat} (h : [] = ops.toList.drop i) : (List.range ops.size).drop i = [] := by
  have : ops.toList.length ≤ i := List.drop_eq_nil_iff.1 h.symm
  rw [List.drop_eq_nil_iff]; simpa using this

section
variable {Q : Nat → Value} {η : Env}

theorem setT_some {n : Nat} {T T' : Tr AV} {d : Option Tmp} {v : AV} (h : setT n T d v = some T') : (d = none ∧ T' = T) ∨ ∃ t, d = some t ∧ t < n ∧ T' = T.put fuel t (some v) := by
  unfold setT at h
  cases d with
  | none => cases h; exact .inl ⟨rfl, rfl⟩
  | some t =>
    have ⟨h1, h2⟩ := sel_some.1 h
    cases h2; exact .inr ⟨t, rfl, blt_iff.1 h1, rfl⟩

/-- the slots, when one is set -/
def setArr (arr : Array Value) (d : Option Tmp) (y : Value) : Array Value := match d with | some t => arr.setIfInBounds t y | none => arr

theorem setArr_size (arr : Array Value) (d : Option Tmp) (y : Value) : (setArr arr d y).size = arr.size := by cases d <;> simp [setArr]

theorem setT_rel {n : Nat} {T T' : Tr AV} {d : Option Tmp} {v : AV} {y : Value} {arr : Array Value} (h : setT n T d v = some T') (hs : arr.size = n) (ht : TmRel Q η T arr) (hv : concV Q η v = some y) :
    TmRel Q η T' (setArr arr d y) := by
  rcases setT_some h with ⟨rfl, rfl⟩ | ⟨t, rfl, hlt, rfl⟩
  · exact ht
  · exact TmRel.put (f := fuel) ht (show t < arr.size by rw [hs]; exact hlt) hv

theorem setT_tmx {n : Nat} {T T' : Tr AV} {d : Option Tmp} {v : AV} {y : Value} {arr : Array Value} {e e' : Nat → Prop} (h : setT n T d v = some T') (hs : arr.size = n) (ht : TmX Q e η T arr) (hv : concV Q η v = some y)
    (he : ∀ t, d ≠ some t → e t → e' t) : TmX Q e' η T' (setArr arr d y) := by
  rcases setT_some h with ⟨rfl, rfl⟩ | ⟨t, rfl, hlt, rfl⟩
  · exact ht.sub fun t => he t (by simp)
  · intro u w hu hn
    rcases Tr.get_put fuel T t (some v) u w hu with ⟨rfl, e1⟩ | ⟨hne, e1⟩
    · cases e1; exact ⟨y, by simp [setArr, hs, hlt], hv⟩
    · obtain ⟨x, h1, h2⟩ := ht u w e1 fun h3 => hn (he u (fun h4 => hne (by cases h4; rfl)) h3)
      exact ⟨x, by simp only [setArr]; rw [Array.getElem?_setIfInBounds_ne (Ne.symm hne)]; exact h1, h2⟩

theorem asReg_some {i : AIt} {p : Array Oper × List Oper} (h : asReg i = some p) : i = .reg p.1 p.2 := by
  cases i <;> simp [asReg] at h; subst h; rfl
theorem asRF_some {i : AIt} {l : Nat} (h : asRF i = some l) : i = .inRF l := by
  cases i <;> simp [asRF] at h; subst h; rfl
theorem asDreg_some {i : AIt} {p : Array Oper × Nat × List (Nat × Nat) × Option Nat} (h : asDreg i = some p) : i = .dreg p.1 p.2.1 p.2.2.1 p.2.2.2 := by
  cases i <;> simp [asDreg] at h; subst h; rfl

theorem dstOf_eq (ops : Array Oper) (j : Nat) : dstOf ops j = (ops[j]?).bind (·.dst) := by
  unfold dstOf
  rw [nth_eq, Array.getElem?_toList]
  cases ops[j]? <;> rfl

/-! ## ancestors -/
theorem addPreds_bit : ∀ (es : List Edge) (m i : Nat), bit (addPreds es m) i = true → bit m i = true ∨ ∃ e ∈ es, bindsA e = true ∧ e.on = i
  | [], m, i, h => .inl h
  | e :: r, m, i, h => by
    unfold addPreds at h
    rcases addPreds_bit r _ i h with h1 | ⟨e', h1, h2⟩
    · cases hb : bindsA e with
      | false => rw [hb, sel_false] at h1; exact .inl h1
      | true =>
        rw [hb, sel_true, bit_add] at h1
        rw [Bool.or_eq_true] at h1
        rcases h1 with h1 | h1
        · exact .inl h1
        · exact .inr ⟨e, by simp, hb, beq_iff.1 h1⟩
    · exact .inr ⟨e', by simp [h1], h2⟩

theorem ancR_bit {ops : Array Oper} {g : Nat} {r : List Nat} (hg : g ∉ r) (hc : ∀ i o, ops[i]? = some o → i ∉ r → ∀ e ∈ o.after.toList, bindsA e = true → e.on ∉ r) :
    ∀ (l : List Oper) (j : Nat), l = ops.toList.drop j → ∀ i, bit (ancR g l j) i = true → i ∉ r
  | [], j, _, i, h => by
    unfold ancR at h
    rw [bit_add] at h
    rw [show bit (nat_lit 0) i = false from bit_zero i, Bool.false_or] at h
    rw [← beq_iff.1 h]; exact hg
  | o :: l, j, hl, i, h => by
    obtain ⟨h1, h2, _⟩ := drop_cons hl
    have ih := ancR_bit hg hc l (j + 1) h2
    unfold ancR at h
    simp only at h
    cases hb : bit (ancR g l (Nat.succ j)) j with
    | false => rw [hb, sel_false] at h; exact ih i h
    | true =>
      rw [hb, sel_true] at h
      rcases addPreds_bit _ _ _ h with h3 | ⟨e, h3, h4, rfl⟩
      · exact ih i h3
      · exact hc j o h1 (ih j hb) e h3 h4

theorem keepP_mem {m : Nat} : ∀ {l : List (Nat × Nat)} {p : Nat × Nat}, p ∈ keepP m l ↔ p ∈ l ∧ bit m p.1 = false
  | [], p => by simp [keepP]
  | q :: r, p => by
    unfold keepP
    cases hb : bit m q.1 with
    | true =>
      rw [sel_true, keepP_mem (l := r)]
      constructor
      · rintro ⟨h1, h2⟩; exact ⟨by simp [h1], h2⟩
      · rintro ⟨h1, h2⟩
        rcases List.mem_cons.1 h1 with rfl | h1
        · rw [hb] at h2; cases h2
        · exact ⟨h1, h2⟩
    | false =>
      rw [sel_false, List.mem_cons, keepP_mem (l := r), List.mem_cons]
      constructor
      · rintro (rfl | ⟨h1, h2⟩)
        · exact ⟨.inl rfl, hb⟩
        · exact ⟨.inr h1, h2⟩
      · rintro ⟨rfl | h1, h2⟩
        · exact .inl rfl
        · exact .inr ⟨h1, h2⟩

theorem keepP_sub {m : Nat} : ∀ (l : List (Nat × Nat)), (keepP m l).Sublist l
  | [] => by simp [keepP]
  | q :: r => by
    unfold keepP
    cases bit m q.1
    · rw [sel_false]; exact (keepP_sub r).cons_cons q
    · rw [sel_true]; exact (keepP_sub r).cons q

/-- the first that is left is done -/
theorem DR.next {ops : Array Oper} {done : Nat} {pend : List (Nat × Nat)} {g : Nat} {r : List Nat} (D : DR η ops done pend (g :: r)) :
    (∀ i o, ops[i]? = some o → i ∉ r → ∀ e ∈ o.after.toList, bindsA e = true → e.on ∉ r) ∧ g ∉ r ∧ r.Nodup := by
  have hn := List.nodup_cons.1 D.nodup
  refine ⟨fun i o ho hi e he hb => ?_, hn.1, hn.2⟩
  by_cases hig : i = g
  · subst hig
    have := D.lin [] i r rfl o ho e he hb
    simp at this; exact this.2
  · have := D.closed i o ho (by simp [hig, hi]) e he hb
    simp at this; exact this.2

theorem DR.finish {ops : Array Oper} {done : Nat} {pend : List (Nat × Nat)} {g : Nat} {r : List Nat} (D : DR η ops done pend (g :: r)) :
    DR η ops (addBit done g) (keepP (ancR g ops.toList 0) pend) r := by
  obtain ⟨hc, hg, hn⟩ := D.next
  have hb : ∀ j ∈ r, bit (addBit done g) j = bit done j := fun j hj => by
    rw [bit_add, beq_no.2 (fun e => hg (by rw [e]; exact hj)), Bool.or_false]
  refine ⟨D.ok, hn, fun j hj => D.lt j (by simp [hj]), fun pre j post e o ho e' he' hb' => ?_, hc, fun j hj hjr => ?_, fun j hj o ho hl => ?_, fun j hj hbj => ?_, fun p hp hpr => ?_, ?_⟩
  · exact D.lin (g :: pre) j post (by rw [e]; rfl) o ho e' he' hb'
  · rw [bit_add, Bool.or_eq_true]
    by_cases hjg : j = g
    · exact .inr (beq_iff.2 hjg.symm)
    · exact .inl (D.doneOf j hj (by simp [hjg, hjr]))
  · rw [hb j hj]; exact D.heavy j (by simp [hj]) o ho hl
  · rw [hb j hj] at hbj
    obtain ⟨id, hid⟩ := D.pendOf j (by simp [hj]) hbj
    refine ⟨id, keepP_mem.2 ⟨hid, ?_⟩⟩
    cases ha : bit (ancR g ops.toList 0) j with
    | false => rfl
    | true => exact absurd hj (ancR_bit hg hc ops.toList 0 (by simp) j ha)
  · exact D.virt p (keepP_mem.1 hp).1 (by simp [hpr])
  · exact ((keepP_sub pend).map Prod.snd).nodup D.ids

/-- an operation has its result -/
theorem finishA_rel {F F' : AFr} {c : Frame} {v : AV} {y : Value} (hF : FrR Q η F c) (hm : F.mode = .run) (h : finishA F v = some F') (hv : concV Q η v = some y) :
    FrR Q η F' (c.finish y) ∧ (∀ p ∈ pendOf F', p ∈ pendOf F) ∧ F'.mode = .run ∧ F'.x = F.x := by
  obtain ⟨x, T, todo, ds, mode⟩ := F
  simp only at hm
  subst hm
  obtain ⟨h1, h2, h3, h4, h5⟩ := hF
  simp only at h2 h3 h4 h5
  unfold finishA at h
  simp only at h
  cases todo with
  | nil => cases h
  | cons i k =>
    simp only at h
    cases e1 : asReg i with
    | some p =>
      rw [e1] at h
      obtain rfl := asReg_some e1
      simp only at h
      cases e2 : p.2 with
      | nil => rw [e2] at h; cases h
      | cons o rest =>
        rw [e2] at h
        simp only at h
        cases e3 : setT x.n T o.dst v with
        | none => rw [e3] at h; cases h
        | some T' =>
          rw [e3] at h; cases h
          rcases h5 with ⟨h6, h7⟩ | ⟨_, _, _, _, _, _, _, e4, _⟩
          · cases hct : c.todo with
            | nil => rw [hct] at h6; exact h6.elim
            | cons it k' =>
              rw [hct] at h6
              obtain ⟨h8, h9⟩ := h6
              cases it with
              | inRegion ops' l =>
                obtain ⟨rfl, j, h10, rfl⟩ := h8
                rw [e2] at h10
                obtain ⟨h11, h12, h13⟩ := drop_cons h10
                have hfin : c.finish y = { c with tmps := setArr c.tmps o.dst y, todo := .inRegion p.1 ((List.range p.1.size).drop (j + 1)) :: k' } := by
                  simp only [Frame.finish, hct, h13, h11, Option.bind_some]
                  cases o.dst <;> rfl
                refine ⟨⟨⟨h1.fn ▸ (by rw [hfin]), by rw [hfin]; exact h1.kind, by rw [hfin]; exact h1.round⟩, by rw [hfin]; simp only [setArr_size]; exact h2, by rw [hfin]; exact h3, ?_⟩, fun p hp => by simp [pendOf] at hp, rfl, rfl⟩
                refine ⟨by rw [hfin]; exact h4, .inl ⟨?_, ?_⟩⟩
                · rw [hfin]; exact ⟨⟨rfl, j + 1, h12, rfl⟩, h9⟩
                · rw [hfin]; exact setT_rel e3 h2 h7 hv
              | _ => exact h8.elim
          · cases e4
    | none =>
      rw [e1] at h
      simp only at h
      cases e2 : asRF i with
      | some l =>
        rw [e2] at h
        obtain rfl := asRF_some e2
        cases h
        rcases h5 with ⟨h6, h7⟩ | ⟨_, _, _, _, _, _, _, e4, _⟩
        · cases hct : c.todo with
          | nil => rw [hct] at h6; exact h6.elim
          | cons it k' =>
            rw [hct] at h6
            obtain ⟨h8, h9⟩ := h6
            cases it with
            | inRangeFunc b =>
              have hfin : c.finish y = { c with todo := .endRangeFunc b :: k' } := by simp only [Frame.finish, hct]
              refine ⟨⟨⟨by rw [hfin]; exact h1.fn, by rw [hfin]; exact h1.kind, by rw [hfin]; exact h1.round⟩, by rw [hfin]; exact h2, by rw [hfin]; exact h3, ?_⟩, fun p hp => by simp [pendOf] at hp, rfl, rfl⟩
              refine ⟨by rw [hfin]; exact h4, .inl ⟨?_, ?_⟩⟩
              · rw [hfin]; exact ⟨h8, h9⟩
              · rw [hfin]; exact h7
            | _ => exact h8.elim
        · cases e4
      | none =>
        rw [e2] at h
        simp only at h
        unfold finishD at h
        simp only at h
        split at h
        · rename_i ops done pend g e3
          have hi := asDreg_some e3
          simp only at hi
          subst hi
          cases e5 : setT x.n T (dstOf ops g) v with
          | none => rw [e5] at h; cases h
          | some T' =>
            rw [e5] at h; cases h
            rcases h5 with ⟨h6, _⟩ | ⟨ops', done', pend', cur', k1, ord, k', e4, h6, h7, h8, h9, h10⟩
            · cases hct : c.todo with
              | nil => rw [hct] at h6; exact h6.elim
              | cons it k' => rw [hct] at h6; cases it <;> exact h6.1.elim
            · cases e4
              obtain ⟨r, rfl, hbg⟩ := h9 g rfl
              have hfin : c.finish y = { c with tmps := setArr c.tmps (dstOf ops g) y, todo := .inRegion ops r :: k' } := by
                simp only [Frame.finish, h6, dstOf_eq]
                cases (ops[g]?).bind (·.dst) <;> rfl
              refine ⟨⟨⟨by rw [hfin]; exact h1.fn, by rw [hfin]; exact h1.kind, by rw [hfin]; exact h1.round⟩, by rw [hfin]; simp only [setArr_size]; exact h2, by rw [hfin]; exact h3, ?_⟩, fun p hp => ?_, rfl, rfl⟩
              · refine ⟨by rw [hfin]; exact h4, .inr ⟨ops, _, _, none, k, r, k', rfl, by rw [hfin], h7, h8.finish, (fun g hg => by cases hg), ?_⟩⟩
                rw [hfin]
                refine setT_tmx e5 h2 h10 hv fun t hne ht => ?_
                obtain ⟨j, hj, hbj, hdj⟩ := ht
                rcases List.mem_cons.1 hj with rfl | hj
                · exact absurd hdj hne
                · exact ⟨j, hj, by rw [bit_add, hbj]; rfl, hdj⟩
              · exact (keepP_mem.1 hp).1
        · cases h

end
end Go.Sx
