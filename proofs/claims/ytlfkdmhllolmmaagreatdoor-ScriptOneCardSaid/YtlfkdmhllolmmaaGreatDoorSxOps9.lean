/- Maps. -/
import Derived.Test.YtlfkdmhllolmmaaGreatDoorSxOps8
namespace Go.Sx
open Go MapKept

section
variable {P : Program} {Q : Nat → Value} {N0 : Keep} {w0 : World} {η : Env} {h : AH} {w : World}

theorem erase_cons_perm : ∀ {L : List (Value × Value)} {j : Nat} {p : Value × Value}, L[j]? = some p → (p :: L.eraseIdx j).Perm L
  | [], j, p, h1 => by simp at h1
  | q :: r, 0, p, h1 => by simp at h1; subst h1; simp
  | q :: r, j + 1, p, h1 => by
    simp only [List.getElem?_cons_succ] at h1
    simp only [List.eraseIdx_cons_succ]
    exact (List.Perm.swap q p _).trans ((erase_cons_perm h1).cons q)

theorem set_cons_perm : ∀ {L : List (Value × Value)} {j : Nat} (p : Value × Value), j < L.length → (L.set j p).Perm (p :: L.eraseIdx j)
  | [], j, p, h1 => by simp at h1
  | q :: r, 0, p, h1 => by simp
  | q :: r, j + 1, p, h1 => by
    simp only [List.set_cons_succ, List.eraseIdx_cons_succ]
    simp only [List.length_cons] at h1
    exact ((set_cons_perm p (by omega)).cons q).trans (List.Perm.swap p q _)

theorem erase_map (f : MapEntry → Value × Value) : ∀ (l : List MapEntry) (j : Nat), (l.eraseIdx j).map f = (l.map f).eraseIdx j
  | [], j => by simp
  | q :: r, 0 => by simp
  | q :: r, j + 1 => by simp [erase_map f r j]

theorem eqI_iff {a b : Int} : eqI a b = true ↔ a = b := by
  rw [eqI_eq]; simp

theorem strEq_iff {la a lb b : Nat} (ha : a < 256 ^ la) (hb : b < 256 ^ lb) : strEq la a lb b = true ↔ bytesOf la a = bytesOf lb b := by
  rw [strEq_eq ha hb]
  unfold bytesOf
  constructor
  · intro h1; rw [eq_of_beq h1]
  · intro h1
    have : (bytesL la a).toArray = (bytesL lb b).toArray := congrArg ByteArray.data h1
    have := List.toArray_inj this
    simp [this]

theorem isKey_same {d d' : TypeDesc} {x : Value} (h1 : IsKey d x) (h2 : IsKey d' x) : d = d' := by
  cases x <;> cases d <;> simp only [IsKey] at h1 <;> cases d' <;> simp only [IsKey] at h2 <;> first | rfl | (subst h1; subst h2; rfl)

theorem keyKind_isKey {kd : KeyD} {d : TypeDesc} {k : AV} {x : Value} (h1 : keyKind kd k = true) (hd : KeyOk kd d) (hc : concV Q η k = some x) : IsKey d x := by
  cases kd with
  | int q =>
    simp only [keyKind] at h1
    cases e : Sx.asInt k with
    | none => rw [e] at h1; cases h1
    | some p =>
      rw [e] at h1
      obtain rfl := asInt_some e
      cases hc
      simp only [KeyOk] at hd
      subst hd
      exact kindEq_iff.1 h1
  | str =>
    simp only [keyKind] at h1
    cases e : asStr k with
    | none => rw [e] at h1; cases h1
    | some p =>
      obtain rfl := asStr_some e
      obtain ⟨_, rfl⟩ := conc_str hc
      simp only [KeyOk] at hd
      subst hd; trivial
  | bool =>
    simp only [keyKind] at h1
    cases e : Sx.asBool k with
    | none => rw [e] at h1; cases h1
    | some p =>
      obtain rfl := asBool_some e
      cases hc
      simp only [KeyOk] at hd
      subst hd; trivial

theorem keyEq_rel {kd : KeyD} {a b : AV} {r : Bool} {x y : Value} (h1 : keyEq kd a b = some r) (ha : concV Q η a = some x) (hb : concV Q η b = some y) : (r = true ↔ x = y) ∧ ∀ d, IsKey d y → IsKey d x := by
  cases kd with
  | int q =>
    simp only [keyEq] at h1
    cases e : Sx.asInt a with
    | none => rw [e] at h1; cases h1
    | some p =>
      rw [e] at h1
      simp only at h1
      cases e2 : Sx.asInt b with
      | none => rw [e2] at h1; cases h1
      | some p2 =>
        rw [e2] at h1
        have ⟨h2, h3⟩ := sel_some.1 h1
        obtain rfl := asInt_some e
        obtain rfl := asInt_some e2
        cases ha; cases hb
        have hk := kindEq_iff.1 h2
        cases h3
        refine ⟨?_, fun d hd => by cases d <;> simp only [IsKey] at hd ⊢; rw [hk]; exact hd⟩
        rw [hk]
        constructor
        · intro h4; rw [eqI_iff.1 h4]
        · intro h4; injection h4 with _ h5; exact eqI_iff.2 h5
  | str =>
    simp only [keyEq] at h1
    cases e : asStr a with
    | none => rw [e] at h1; cases h1
    | some p =>
      rw [e] at h1
      simp only at h1
      cases e2 : asStr b with
      | none => rw [e2] at h1; cases h1
      | some p2 =>
        rw [e2] at h1
        obtain rfl := asStr_some e
        obtain rfl := asStr_some e2
        obtain ⟨g1, rfl⟩ := conc_str ha
        obtain ⟨g2, rfl⟩ := conc_str hb
        cases h1
        refine ⟨?_, fun d hd => by cases d <;> simp only [IsKey] at hd ⊢⟩
        rw [strEq_iff g1 g2]
        constructor
        · intro h4; rw [h4]
        · intro h4; injection h4
  | bool =>
    simp only [keyEq] at h1
    cases e : Sx.asBool a with
    | none => rw [e] at h1; cases h1
    | some p =>
      rw [e] at h1
      simp only at h1
      cases e2 : Sx.asBool b with
      | none => rw [e2] at h1; cases h1
      | some p2 =>
        rw [e2] at h1
        obtain rfl := asBool_some e
        obtain rfl := asBool_some e2
        cases ha; cases hb
        cases h1
        refine ⟨by cases p <;> cases p2 <;> simp, fun d hd => by cases d <;> simp only [IsKey] at hd ⊢⟩

theorem concEs_cons {e : AV × AV} {r : List (AV × AV)} {l : List (Value × Value)} (h1 : concEs Q η (e :: r) = some l) :
    ∃ a b m, l = (a, b) :: m ∧ concV Q η e.1 = some a ∧ concV Q η e.2 = some b ∧ concEs Q η r = some m := by
  simp only [concEs] at h1
  split at h1
  · rename_i a b m h3 h4 h5; cases h1; exact ⟨a, b, m, rfl, h3, h4, h5⟩
  · cases h1

theorem concEs_mk {e : AV × AV} {r : List (AV × AV)} {a b : Value} {m : List (Value × Value)} (h1 : concV Q η e.1 = some a) (h2 : concV Q η e.2 = some b) (h3 : concEs Q η r = some m) :
    concEs Q η (e :: r) = some ((a, b) :: m) := by simp only [concEs, h1, h2, h3]

/-- the kind of the keys is that of the key -/
def OfKind (x : Value) (l : List (Value × Value)) : Prop := l = [] ∨ ∀ d, (∀ p ∈ l, IsKey d p.1) → IsKey d x

theorem findA_rel {kd : KeyD} {k : AV} {x : Value} (hk : concV Q η k = some x) : ∀ {es : List (AV × AV)} {l : List (Value × Value)} {r : Option AV}, findA kd k es = some r → concEs Q η es = some l →
    OfKind x l ∧ ((r = none ∧ ∀ p ∈ l, p.1 ≠ x) ∨ (∃ v y, r = some v ∧ concV Q η v = some y ∧ (x, y) ∈ l))
  | [], l, r, h1, h2 => by cases h1; cases h2; exact ⟨.inl rfl, .inl ⟨rfl, by simp⟩⟩
  | e :: es, l, r, h1, h2 => by
    obtain ⟨a, b, m, rfl, h3, h4, h5⟩ := concEs_cons h2
    unfold findA at h1
    cases hq : keyEq kd k e.1 with
    | none => rw [hq] at h1; cases h1
    | some q =>
      rw [hq] at h1
      obtain ⟨g1, g2⟩ := keyEq_rel hq hk h3
      refine ⟨.inr fun d hd => g2 d (hd (a, b) (by simp)), ?_⟩
      cases q with
      | true => cases h1; have hxa := g1.1 rfl; subst hxa; exact .inr ⟨e.2, b, rfl, h4, by simp⟩
      | false =>
        simp only at h1
        have hne : a ≠ x := fun e => by have := g1.2 e.symm; cases this
        rcases (findA_rel hk h1 h5).2 with ⟨g3, g4⟩ | ⟨v, y, g3, g4, g5⟩
        · exact .inl ⟨g3, fun p hp => by
            rcases List.mem_cons.1 hp with rfl | hp
            · exact hne
            · exact g4 p hp⟩
        · exact .inr ⟨v, y, g3, g4, by simp [g5]⟩

theorem setEnt_rel {kd : KeyD} {k v : AV} {x y : Value} (hk : concV Q η k = some x) (hy : concV Q η v = some y) : ∀ {es es' : List (AV × AV)} {l : List (Value × Value)}, setEnt kd k v es = some es' → concEs Q η es = some l →
    OfKind x l ∧ ∃ l', concEs Q η es' = some l' ∧ (((∀ p ∈ l, p.1 ≠ x) ∧ l' = l ++ [(x, y)]) ∨ ∃ a z b, l = a ++ (x, z) :: b ∧ l' = a ++ (x, y) :: b)
  | [], es', l, h1, h2 => by cases h1; cases h2; exact ⟨.inl rfl, _, concEs_mk hk hy rfl, .inl ⟨by simp, rfl⟩⟩
  | e :: es, es', l, h1, h2 => by
    obtain ⟨a, b, m, rfl, h3, h4, h5⟩ := concEs_cons h2
    unfold setEnt at h1
    cases hq : keyEq kd k e.1 with
    | none => rw [hq] at h1; cases h1
    | some q =>
      rw [hq] at h1
      obtain ⟨g1, g2⟩ := keyEq_rel hq hk h3
      refine ⟨.inr fun d hd => g2 d (hd (a, b) (by simp)), ?_⟩
      cases q with
      | true =>
        cases h1
        have hxa := g1.1 rfl; subst hxa
        exact ⟨_, concEs_mk hk hy h5, .inr ⟨[], b, m, rfl, rfl⟩⟩
      | false =>
        simp only at h1
        have hne : a ≠ x := fun e => by have := g1.2 e.symm; cases this
        cases hs : setEnt kd k v es with
        | none => rw [hs] at h1; cases h1
        | some r =>
          rw [hs] at h1; cases h1
          obtain ⟨_, l', g3, g4⟩ := setEnt_rel hk hy hs h5
          refine ⟨_, concEs_mk h3 h4 g3, ?_⟩
          rcases g4 with ⟨g5, rfl⟩ | ⟨c, z, d, rfl, rfl⟩
          · exact .inl ⟨fun p hp => by
              rcases List.mem_cons.1 hp with rfl | hp
              · exact hne
              · exact g5 p hp, rfl⟩
          · exact .inr ⟨(a, b) :: c, z, d, rfl, rfl⟩

theorem delEnt_rel {kd : KeyD} {k : AV} {x : Value} (hk : concV Q η k = some x) : ∀ {es es' : List (AV × AV)} {l : List (Value × Value)}, delEnt kd k es = some es' → concEs Q η es = some l →
    OfKind x l ∧ ∃ l', concEs Q η es' = some l' ∧ (((∀ p ∈ l, p.1 ≠ x) ∧ l' = l) ∨ ∃ a z b, l = a ++ (x, z) :: b ∧ l' = a ++ b)
  | [], es', l, h1, h2 => by cases h1; cases h2; exact ⟨.inl rfl, _, rfl, .inl ⟨by simp, rfl⟩⟩
  | e :: es, es', l, h1, h2 => by
    obtain ⟨a, b, m, rfl, h3, h4, h5⟩ := concEs_cons h2
    unfold delEnt at h1
    cases hq : keyEq kd k e.1 with
    | none => rw [hq] at h1; cases h1
    | some q =>
      rw [hq] at h1
      obtain ⟨g1, g2⟩ := keyEq_rel hq hk h3
      refine ⟨.inr fun d hd => g2 d (hd (a, b) (by simp)), ?_⟩
      cases q with
      | true =>
        cases h1
        have hxa := g1.1 rfl; subst hxa
        exact ⟨_, h5, .inr ⟨[], b, m, rfl, rfl⟩⟩
      | false =>
        simp only at h1
        have hne : a ≠ x := fun e => by have := g1.2 e.symm; cases this
        cases hs : delEnt kd k es with
        | none => rw [hs] at h1; cases h1
        | some r =>
          rw [hs] at h1; cases h1
          obtain ⟨_, l', g3, g4⟩ := delEnt_rel hk hs h5
          refine ⟨_, concEs_mk h3 h4 g3, ?_⟩
          rcases g4 with ⟨g5, rfl⟩ | ⟨c, z, d, rfl, rfl⟩
          · exact .inl ⟨fun p hp => by
              rcases List.mem_cons.1 hp with rfl | hp
              · exact hne
              · exact g5 p hp, rfl⟩
          · exact .inr ⟨(a, b) :: c, z, d, rfl, rfl⟩

/-- a map's entries, as the model holds them -/
def kvs (entries : Array MapEntry) : List (Value × Value) := entries.toList.map fun e => (e.key, e.val)

structure MapIs (entries : Array MapEntry) (l : List (Value × Value)) : Prop where
  perm : (kvs entries).Perm l
  nodup : (l.map Prod.fst).Nodup

theorem MapIs.findNow {entries : Array MapEntry} {l : List (Value × Value)} (M : MapIs entries l) {d : TypeDesc} (hd : ∀ p ∈ l, IsKey d p.1) {x : Value} (hx : IsKey d x) :
    (Instr.findNow d x entries.toList 0 = some none ∧ ∀ p ∈ l, p.1 ≠ x) ∨
    ∃ j e, Instr.findNow d x entries.toList 0 = some (some (j, e.val)) ∧ entries[j]? = some e ∧ e.key = x ∧ (x, e.val) ∈ l := by
  have hks : ∀ y ∈ entries.toList, IsKey d y.key := fun y hy => hd (y.key, y.val) (M.perm.mem_iff.1 (List.mem_map.2 ⟨y, hy, rfl⟩))
  rcases findNow_spec hx entries.toList 0 hks with ⟨h1, h2⟩ | ⟨j, e, h1, h2, h3⟩
  · refine .inl ⟨h1, fun p hp e => ?_⟩
    obtain ⟨y, hy, hyp⟩ := List.mem_map.1 (M.perm.mem_iff.2 hp)
    exact h2 y hy (by rw [← hyp] at e; exact e)
  · refine .inr ⟨j, e, by simpa using h1, by simpa using h2, h3, M.perm.mem_iff.1 (List.mem_map.2 ⟨e, List.mem_of_getElem? h2, by rw [h3]⟩)⟩

theorem nodup_val {l : List (Value × Value)} (h1 : (l.map Prod.fst).Nodup) {x y z : Value} (hy : (x, y) ∈ l) (hz : (x, z) ∈ l) : y = z := by
  induction l with
  | nil => cases hy
  | cons p r ih =>
    simp only [List.map_cons, List.nodup_cons] at h1
    rcases List.mem_cons.1 hy with e1 | e1 <;> rcases List.mem_cons.1 hz with e2 | e2
    · rw [← e1] at e2; cases e2; rfl
    · exact (h1.1 (List.mem_map.2 ⟨_, e2, by rw [← e1]⟩)).elim
    · exact (h1.1 (List.mem_map.2 ⟨_, e1, by rw [← e2]⟩)).elim
    · exact ih h1.2 e1 e2

theorem erase_perm {L : List (Value × Value)} {j : Nat} {x y : Value} {a b : List (Value × Value)} {z : Value} (hj : L[j]? = some (x, y)) (hp : L.Perm (a ++ (x, z) :: b)) (hn : ((a ++ (x, z) :: b).map Prod.fst).Nodup) :
    (L.eraseIdx j).Perm (a ++ b) := by
  obtain ⟨hlt, hje⟩ := List.getElem?_eq_some_iff.1 hj
  have h1 := erase_cons_perm hj
  have hmem : (x, y) ∈ a ++ (x, z) :: b := hp.mem_iff.1 (List.mem_of_getElem? hj)
  have hyz := nodup_val hn hmem (by simp : (x, z) ∈ a ++ (x, z) :: b)
  subst hyz
  exact List.Perm.cons_inv (h1.trans (hp.trans List.perm_middle))

theorem MapIs.set {entries : Array MapEntry} {a b : List (Value × Value)} {x y z : Value} (M : MapIs entries (a ++ (x, z) :: b)) {j : Nat} {e : MapEntry} (hj : entries[j]? = some e) (hx : e.key = x) :
    MapIs (entries.modify j fun e => { e with key := x, val := y }) (a ++ (x, y) :: b) := by
  have hkj : (kvs entries)[j]? = some (x, e.val) := by simp [kvs, hj, hx]
  have hlt := (List.getElem?_eq_some_iff.1 hkj).1
  refine ⟨?_, by simpa using M.nodup⟩
  have hkv : kvs (entries.modify j fun e => { e with key := x, val := y }) = (kvs entries).set j (x, y) := by
    apply List.ext_getElem?
    intro i
    unfold kvs
    rw [List.getElem?_map, Array.getElem?_toList, Array.getElem?_modify, List.getElem?_set]
    by_cases hi : j = i
    · subst hi
      simp [hj]
      exact (Array.getElem?_eq_some_iff.1 hj).1
    · rw [if_neg hi, if_neg hi]; simp
  rw [hkv]
  exact (set_cons_perm (x, y) hlt).trans (((erase_perm hkj M.perm M.nodup).cons (x, y)).trans List.perm_middle.symm)

theorem MapIs.push {entries : Array MapEntry} {l : List (Value × Value)} (M : MapIs entries l) {x y : Value} (hx : ∀ p ∈ l, p.1 ≠ x) (c : Nat) : MapIs (entries.push { key := x, val := y, born := c }) (l ++ [(x, y)]) := by
  refine ⟨by simpa [kvs] using M.perm.append_right _, ?_⟩
  rw [List.map_append, List.nodup_append]
  refine ⟨M.nodup, by simp, fun u hu v hv => ?_⟩
  simp at hv
  obtain ⟨p, hp, rfl⟩ := List.mem_map.1 hu
  rw [hv]; exact hx p hp

theorem MapIs.erase {entries : Array MapEntry} {a b : List (Value × Value)} {x z : Value} (M : MapIs entries (a ++ (x, z) :: b)) {j : Nat} {e : MapEntry} (hj : entries[j]? = some e) (hx : e.key = x) :
    MapIs (entries.eraseIdxIfInBounds j) (a ++ b) := by
  have hkj : (kvs entries)[j]? = some (x, e.val) := by simp [kvs, hj, hx]
  have hlt := (Array.getElem?_eq_some_iff.1 hj).1
  refine ⟨?_, ?_⟩
  · have hkv : kvs (entries.eraseIdxIfInBounds j) = (kvs entries).eraseIdx j := by
      unfold kvs Array.eraseIdxIfInBounds
      rw [dif_pos hlt, Array.toList_eraseIdx, erase_map]
    rw [hkv]
    exact erase_perm hkj M.perm M.nodup
  · have := M.nodup
    simp only [List.map_append, List.map_cons] at this ⊢
    exact (List.nodup_cons.1 ((List.perm_middle.nodup_iff).1 this)).2

end
end Go.Sx
