/- The executor's lists, tries and small operations say what the library's say. -/
import Derived.Test.YtlfkdmhllolmmaaGreatDoorSxStep
namespace Go.Sx

theorem sel_true {α : Type} (a b : α) : sel true a b = a := rfl
theorem sel_false {α : Type} (a b : α) : sel false a b = b := rfl
theorem sel_eq {α : Type} (c : Bool) (a b : α) : sel c a b = if c then a else b := by cases c <;> rfl
theorem sel_some {α : Type} {c : Bool} {a : Option α} {x : α} : sel c a none = some x ↔ c = true ∧ a = some x := by cases c <;> simp [sel_true, sel_false]

namespace Tr
theorem pathF_succ (f p : Nat) : pathF (f + 1) (p + 1) = if p % 2 = 0 then .l (pathF f (p / 2)) else .r (pathF f (p / 2)) := by
  show @Bool.rec (fun _ => Pth) (.r (pathF f (Nat.div p 2))) (.l (pathF f (Nat.div p 2))) (Nat.beq (Nat.mod p 2) 0) = _
  cases h : Nat.beq (Nat.mod p 2) 0 with
  | true => have := Nat.eq_of_beq_eq_true h; rw [if_pos (show p % 2 = 0 from this)]; rfl
  | false => have := Nat.ne_of_beq_eq_false h; rw [if_neg (show ¬ p % 2 = 0 from this)]; rfl

theorem pathF_inj : ∀ (f g n m : Nat), n ≤ f → m ≤ g → pathF f n = pathF g m → n = m := by
  intro f
  induction f with
  | zero =>
    intro g n m hn hm h
    cases g with
    | zero => omega
    | succ g =>
      cases m with
      | zero => omega
      | succ m =>
        rw [pathF_succ] at h
        have h : Pth.e = _ := h
        split at h <;> cases h
  | succ f ih =>
    intro g n m hn hm h
    cases n with
    | zero =>
      cases g with
      | zero => omega
      | succ g =>
        cases m with
        | zero => rfl
        | succ m =>
          rw [pathF_succ] at h
          have h : Pth.e = _ := h
          split at h <;> cases h
    | succ n =>
      cases g with
      | zero =>
        rw [pathF_succ] at h
        have h : _ = Pth.e := h
        split at h <;> cases h
      | succ g =>
        cases m with
        | zero =>
          rw [pathF_succ] at h
          have h : _ = Pth.e := h
          split at h <;> cases h
        | succ m =>
          rw [pathF_succ, pathF_succ] at h
          split at h <;> split at h
          · injection h with h
            have := ih g (n / 2) (m / 2) (by omega) (by omega) h
            omega
          · cases h
          · cases h
          · injection h with h
            have := ih g (n / 2) (m / 2) (by omega) (by omega) h
            omega

theorem pathOf_inj {n m : Nat} (h : pathOf n = pathOf m) : n = m := pathF_inj n m n m (Nat.le_refl _) (Nat.le_refl _) h

theorem getP_nil : ∀ (p : Pth), getP p (nil : Tr AV) = none
  | .e => rfl
  | .l _ => rfl
  | .r _ => rfl
theorem get_nil (n : Nat) : (nil : Tr AV).get n = none := getP_nil _
theorem getP_nodeL (p : Pth) (t : Tr AV) (v : Option AV) (r : Tr AV) : getP p (nodeL t v r) = getP p (node t v r) := by cases t <;> rfl
theorem getP_nodeR (p : Pth) (l : Tr AV) (v : Option AV) (t : Tr AV) : getP p (nodeR l v t) = getP p (node l v t) := by cases t <;> rfl

theorem getP_put : ∀ (p q : Pth) (t : Tr AV) (v : Option AV), (p = q → getP q (putP p v t) = v) ∧ (p ≠ q → getP q (putP p v t) = getP q t) := by
  intro p
  induction p with
  | e =>
    intro q t v
    refine ⟨?_, ?_⟩
    · rintro rfl; cases t <;> rfl
    · intro h
      cases q with
      | e => exact absurd rfl h
      | l q => cases t with
        | nil => exact getP_nil q
        | node _ _ _ => rfl
      | r q => cases t with
        | nil => exact getP_nil q
        | node _ _ _ => rfl
  | l p ih =>
    intro q t v
    have e : ∀ q, getP q (putP (.l p) v t) = getP q (match t with | nil => node (putP p v nil) none nil | node l x r => node (putP p v l) x r) := fun q => by
      cases t with
      | nil => exact getP_nodeL q _ _ _
      | node l x r => exact getP_nodeL q _ _ _
    rw [e]
    refine ⟨?_, ?_⟩
    · rintro rfl
      cases t with
      | nil => exact (ih p nil v).1 rfl
      | node l x r => exact (ih p l v).1 rfl
    · intro h
      cases q with
      | e => cases t <;> rfl
      | l q =>
        have h' : p ≠ q := fun hh => h (by rw [hh])
        cases t with
        | nil => exact ((ih q nil v).2 h').trans (getP_nil q)
        | node l x r => exact (ih q l v).2 h'
      | r q => cases t with
        | nil => exact getP_nil q
        | node _ _ _ => rfl
  | r p ih =>
    intro q t v
    have e : ∀ q, getP q (putP (.r p) v t) = getP q (match t with | nil => node nil none (putP p v nil) | node l x r => node l x (putP p v r)) := fun q => by
      cases t with
      | nil => exact getP_nodeR q _ _ _
      | node l x r => exact getP_nodeR q _ _ _
    rw [e]
    refine ⟨?_, ?_⟩
    · rintro rfl
      cases t with
      | nil => exact (ih p nil v).1 rfl
      | node l x r => exact (ih p r v).1 rfl
    · intro h
      cases q with
      | e => cases t <;> rfl
      | r q =>
        have h' : p ≠ q := fun hh => h (by rw [hh])
        cases t with
        | nil => exact ((ih q nil v).2 h').trans (getP_nil q)
        | node l x r => exact (ih q r v).2 h'
      | l q => cases t with
        | nil => exact getP_nil q
        | node _ _ _ => rfl

/-- what is found behind a put was put, or was there -/
theorem get_put (f : Nat) (t : Tr AV) (n : Nat) (v : Option AV) (m : Nat) (x : AV) (h : (put f t n v).get m = some x) :
    (m = n ∧ v = some x) ∨ (m ≠ n ∧ t.get m = some x) := by
  have key := getP_put (pathOf n) (pathOf m) t v
  by_cases e : n = m
  · subst e; exact .inl ⟨rfl, (key.1 rfl).symm.trans h⟩
  · exact .inr ⟨fun hh => e hh.symm, (key.2 fun hh => e (pathOf_inj hh)).symm.trans h⟩

theorem get_put_ne (f : Nat) (t : Tr AV) (n : Nat) (v : Option AV) (m : Nat) (h : m ≠ n) : (put f t n v).get m = t.get m :=
  (getP_put (pathOf n) (pathOf m) t v).2 fun hh => h (pathOf_inj hh).symm
theorem get_put_self (f : Nat) (t : Tr AV) (n : Nat) (v : Option AV) : (put f t n v).get n = v := (getP_put (pathOf n) (pathOf n) t v).1 rfl
theorem getP_nilO : ∀ (p : Pth), getPO p (nil : Tr AObj) = none
  | .e => rfl
  | .l _ => rfl
  | .r _ => rfl
theorem get_nilO (n : Nat) : (nil : Tr AObj).getO n = none := getP_nilO _
theorem getP_nodeLO (p : Pth) (t : Tr AObj) (v : Option AObj) (r : Tr AObj) : getPO p (nodeLO t v r) = getPO p (node t v r) := by cases t <;> rfl
theorem getP_nodeRO (p : Pth) (l : Tr AObj) (v : Option AObj) (t : Tr AObj) : getPO p (nodeRO l v t) = getPO p (node l v t) := by cases t <;> rfl

theorem getP_putO : ∀ (p q : Pth) (t : Tr AObj) (v : Option AObj), (p = q → getPO q (putPO p v t) = v) ∧ (p ≠ q → getPO q (putPO p v t) = getPO q t) := by
  intro p
  induction p with
  | e =>
    intro q t v
    refine ⟨?_, ?_⟩
    · rintro rfl; cases t <;> rfl
    · intro h
      cases q with
      | e => exact absurd rfl h
      | l q => cases t with
        | nil => exact getP_nilO q
        | node _ _ _ => rfl
      | r q => cases t with
        | nil => exact getP_nilO q
        | node _ _ _ => rfl
  | l p ih =>
    intro q t v
    have e : ∀ q, getPO q (putPO (.l p) v t) = getPO q (match t with | nil => node (putPO p v nil) none nil | node l x r => node (putPO p v l) x r) := fun q => by
      cases t with
      | nil => exact getP_nodeLO q _ _ _
      | node l x r => exact getP_nodeLO q _ _ _
    rw [e]
    refine ⟨?_, ?_⟩
    · rintro rfl
      cases t with
      | nil => exact (ih p nil v).1 rfl
      | node l x r => exact (ih p l v).1 rfl
    · intro h
      cases q with
      | e => cases t <;> rfl
      | l q =>
        have h' : p ≠ q := fun hh => h (by rw [hh])
        cases t with
        | nil => exact ((ih q nil v).2 h').trans (getP_nilO q)
        | node l x r => exact (ih q l v).2 h'
      | r q => cases t with
        | nil => exact getP_nilO q
        | node _ _ _ => rfl
  | r p ih =>
    intro q t v
    have e : ∀ q, getPO q (putPO (.r p) v t) = getPO q (match t with | nil => node nil none (putPO p v nil) | node l x r => node l x (putPO p v r)) := fun q => by
      cases t with
      | nil => exact getP_nodeRO q _ _ _
      | node l x r => exact getP_nodeRO q _ _ _
    rw [e]
    refine ⟨?_, ?_⟩
    · rintro rfl
      cases t with
      | nil => exact (ih p nil v).1 rfl
      | node l x r => exact (ih p r v).1 rfl
    · intro h
      cases q with
      | e => cases t <;> rfl
      | r q =>
        have h' : p ≠ q := fun hh => h (by rw [hh])
        cases t with
        | nil => exact ((ih q nil v).2 h').trans (getP_nilO q)
        | node l x r => exact (ih q r v).2 h'
      | l q => cases t with
        | nil => exact getP_nilO q
        | node _ _ _ => rfl

/-- what is found behind a put was put, or was there -/
theorem get_putO (f : Nat) (t : Tr AObj) (n : Nat) (v : Option AObj) (m : Nat) (x : AObj) (h : (putO f t n v).getO m = some x) :
    (m = n ∧ v = some x) ∨ (m ≠ n ∧ t.getO m = some x) := by
  have key := getP_putO (pathOf n) (pathOf m) t v
  by_cases e : n = m
  · subst e; exact .inl ⟨rfl, (key.1 rfl).symm.trans h⟩
  · exact .inr ⟨fun hh => e hh.symm, (key.2 fun hh => e (pathOf_inj hh)).symm.trans h⟩

theorem get_put_neO (f : Nat) (t : Tr AObj) (n : Nat) (v : Option AObj) (m : Nat) (h : m ≠ n) : (putO f t n v).getO m = t.getO m :=
  (getP_putO (pathOf n) (pathOf m) t v).2 fun hh => h (pathOf_inj hh).symm
theorem get_put_selfO (f : Nat) (t : Tr AObj) (n : Nat) (v : Option AObj) : (putO f t n v).getO n = v := (getP_putO (pathOf n) (pathOf n) t v).1 rfl
end Tr

theorem nth_eq {α : Type} : ∀ (l : List α) (n : Nat), nth l n = l[n]? := by
  intro l
  induction l with
  | nil => intro n; rfl
  | cons x r ih => intro n; cases n with | zero => rfl | succ n => exact ih n

theorem lcons_eq (x : AV) (l : List AV) : lcons x l = x :: l := by cases l <;> rfl
theorem lset_eq : ∀ (l : List AV) (n : Nat) (v : AV), lset l n v = l.set n v := by
  intro l
  induction l with
  | nil => intro n v; rfl
  | cons x r ih =>
    intro n v
    cases n with
    | zero => rfl
    | succ n => show lcons x (lset r n v) = _; rw [lcons_eq, ih]; rfl

theorem lsets_nil (cs : List AV) (i : Nat) : lsets [] cs i = cs := rfl
theorem lsets_cons (v : AV) (r cs : List AV) (i : Nat) : lsets (v :: r) cs i = lsets r (cs.set i v) (i + 1) := by
  show lsets r (lset cs i v) (i + 1) = _; rw [lset_eq]

theorem lsets_length : ∀ (vs cs : List AV) (i : Nat), (lsets vs cs i).length = cs.length := by
  intro vs
  induction vs with
  | nil => intro cs i; rfl
  | cons v r ih => intro cs i; rw [lsets_cons, ih]; simp

theorem lsets_get : ∀ (vs cs : List AV) (i j : Nat), i + vs.length ≤ cs.length →
    (lsets vs cs i)[j]? = if i ≤ j ∧ j < i + vs.length then vs[j - i]? else cs[j]? := by
  intro vs
  induction vs with
  | nil => intro cs i j _; rw [lsets_nil, if_neg (by simp)]
  | cons v r ih =>
    intro cs i j h
    simp only [List.length_cons] at h
    rw [lsets_cons, ih _ _ _ (by simp; omega)]
    by_cases e : j = i
    · subst e
      rw [if_neg (by omega), if_pos (by simp)]
      rw [List.getElem?_set_self (by omega)]; simp
    · by_cases c : i + 1 ≤ j ∧ j < i + 1 + r.length
      · rw [if_pos c, if_pos (by simp; omega)]
        obtain ⟨d, rfl⟩ : ∃ d, j = i + 1 + d := ⟨j - (i + 1), by omega⟩
        rw [show i + 1 + d - (i + 1) = d by omega, show i + 1 + d - i = d + 1 by omega]
        simp
      · rw [if_neg c, if_neg (by simp; omega), List.getElem?_set_ne (by omega)]

theorem lfirst_eq : ∀ (l : List AV) (n : Nat), lfirst l n = if n ≤ l.length then some (l.take n) else none := by
  intro l
  induction l with
  | nil => intro n; cases n <;> rfl
  | cons x r ih =>
    intro n
    cases n with
    | zero => rfl
    | succ n =>
      show @Option.rec (List AV) (fun _ => Option (List AV)) none (fun l => some (x :: l)) (lfirst r n) = _
      rw [ih]
      by_cases h : n ≤ r.length
      · rw [if_pos h, if_pos (by simp; omega)]; rfl
      · rw [if_neg h, if_neg (by simp; omega)]

theorem ltake_some : ∀ (l : List AV) (i n : Nat) (r : List AV), ltake l i n = some r → r = (l.drop i).take n ∧ (n = 0 ∨ i + n ≤ l.length) := by
  intro l
  induction l with
  | nil =>
    intro i n r h
    cases i with
    | zero =>
      have h : lfirst [] n = some r := h
      rw [lfirst_eq] at h
      cases n with
      | zero => simp at h; exact ⟨by simp [← h], .inl rfl⟩
      | succ n => simp at h
    | succ i => cases h
  | cons x l ih =>
    intro i n r h
    cases i with
    | zero =>
      have h : lfirst (x :: l) n = some r := h
      rw [lfirst_eq] at h
      split at h
      · rename_i hle; cases h; exact ⟨rfl, .inr (by omega)⟩
      · cases h
    | succ i =>
      have h : ltake l i n = some r := h
      obtain ⟨h1, h2⟩ := ih i n r h
      exact ⟨h1, by simp; omega⟩

theorem ltake_length {l : List AV} {i n : Nat} {r : List AV} (h : ltake l i n = some r) : r.length = n := by
  obtain ⟨rfl, h2⟩ := ltake_some l i n r h
  simp; omega

theorem ltake_get {l : List AV} {i n : Nat} {r : List AV} (h : ltake l i n = some r) (j : Nat) (hj : j < n) : r[j]? = l[i + j]? := by
  obtain ⟨rfl, h2⟩ := ltake_some l i n r h
  rw [List.getElem?_take_of_lt hj, List.getElem?_drop]

theorem llen_eq : ∀ (l : List AV), llen l = l.length := by
  intro l
  induction l with
  | nil => rfl
  | cons x r ih => show Nat.succ (llen r) = _; rw [ih]; rfl

theorem lapp_eq (a b : List AV) : lapp a b = a ++ b := by
  induction a with
  | nil => unfold lapp; rfl
  | cons x r ih => show x :: lapp r b = _; rw [ih]; rfl

theorem ble_iff {a b : Nat} : Nat.ble a b = true ↔ a ≤ b := by rw [Nat.ble_eq]
theorem blt_iff {a b : Nat} : Nat.blt a b = true ↔ a < b := by unfold Nat.blt; rw [ble_iff]; omega
theorem beq_iff {a b : Nat} : Nat.beq a b = true ↔ a = b := ⟨Nat.eq_of_beq_eq_true, fun h => h ▸ Nat.beq_refl a⟩
theorem beq_no {a b : Nat} : Nat.beq a b = false ↔ a ≠ b := ⟨Nat.ne_of_beq_eq_false, fun h => by cases e : Nat.beq a b with | false => rfl | true => exact absurd (beq_iff.1 e) h⟩
theorem blt_no {a b : Nat} : Nat.blt a b = false ↔ b ≤ a := by rw [← Bool.not_eq_true, blt_iff]; omega
theorem ble_no {a b : Nat} : Nat.ble a b = false ↔ b < a := by rw [← Bool.not_eq_true, ble_iff]; omega


/-! ## What a value is -/
theorem asBool_some {v : AV} {b : Bool} (h : asBool v = some b) : v = .bool b := by cases v <;> simp_all [asBool]
theorem asInt_some {v : AV} {p : IntKind × Int} (h : asInt v = some p) : v = .int p.1 p.2 := by cases v <;> simp_all [asInt]; subst h; simp
theorem asStr_some {v : AV} {p : Nat × Nat} (h : asStr v = some p) : v = .str p.1 p.2 := by cases v <;> simp_all [asStr]; subst h; simp
theorem asPtr_some {v : AV} {p : Nat × Nat} (h : asPtr v = some p) : v = .ptr p.1 p.2 := by cases v <;> simp_all [asPtr]; subst h; simp
theorem asMap_some {v : AV} {o : Option Nat} (h : asMap v = some o) : (o = none ∧ v = .nm) ∨ (∃ id, o = some id ∧ v = .map id) := by cases v <;> simp_all [asMap]
theorem asFunc_some {v : AV} {p : Fn × List AV × List AV} (h : asFunc v = some p) : v = .func p.1 p.2.1 p.2.2 := by cases v <;> simp_all [asFunc]; subst h; simp
theorem asIface_some {v : AV} {p : TypeId × AV} (h : asIface v = some p) : v = .iface p.1 p.2 := by cases v <;> simp_all [asIface]; subst h; simp
theorem asAgg_some {v : AV} {l : List AV} (h : asAgg v = some l) : v = .agg l := by cases v <;> simp_all [asAgg]
theorem asTup_some {v : AV} {l : List AV} (h : asTup v = some l) : v = .tup l := by cases v <;> simp_all [asTup]
theorem asOpq_some {v : AV} {i : Nat} (h : asOpq v = some i) : v = .opq i := by cases v <;> simp_all [asOpq]
theorem isNi_true {v : AV} (h : isNi v = true) : v = .ni := by cases v <;> simp_all [isNi]
theorem cellsOf_agg (l : List AV) : cellsOf (.agg l) = l := rfl
theorem cellsOf_other {v : AV} (h : ∀ l, v ≠ .agg l) : cellsOf v = [v] := by cases v <;> first | rfl | exact absurd rfl (h _)

end Go.Sx
