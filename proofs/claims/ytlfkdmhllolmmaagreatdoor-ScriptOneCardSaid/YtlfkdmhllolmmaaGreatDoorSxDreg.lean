/- A region that draws its order. -/
import Derived.Test.YtlfkdmhllolmmaaGreatDoorSxOrder
namespace Go.Sx
open Go

namespace Tr
/-- where a put is found, the others are as they were -/
theorem get_put_other (f : Nat) (t : Tr AV) (n : Nat) (v : Option AV) (x : AV) (_ : (put f t n v).get n = some x) (m : Nat) (hm : m ≠ n) (y : AV) (h : t.get m = some y) : (put f t n v).get m = some y :=
  (get_put_ne f t n v m hm).trans h
end Tr

section
variable {P : Program} {Q : Nat → Value} {N0 : Keep} {w0 : World} {η : Env}

/-- what stands for nothing yet may be there -/
theorem HR.virt {h h' : AH} {w : World} (H : HR P Q N0 w0 η h w) (ho : ∀ i y, h'.obj i = some y → (∃ e, η i = some e) → h.obj i = some y) : HR P Q N0 w0 η h' w :=
  ⟨fun i y hy e he => H.obj i y (ho i y hy ⟨e, he⟩) e he,
   fun i j oi oj b b1 c1 b2 c2 hi hj ei ej => H.inj i j oi oj b b1 c1 b2 c2 (ho i oi hi ⟨_, ei⟩) (ho j oj hj ⟨_, ej⟩) ei ej, H.below, H.size, H.froz, H.io⟩

theorem predsIn_spec {done : Nat} : ∀ {es : List Edge}, predsIn done es = true ↔ ∀ e ∈ es, bindsA e = true → bit done e.on = true
  | [] => by simp [predsIn]
  | a :: r => by
    unfold predsIn
    cases ha : bindsA a with
    | false =>
      rw [sel_false, predsIn_spec (es := r)]
      constructor
      · intro h e he hb
        rcases List.mem_cons.1 he with rfl | he
        · rw [ha] at hb; cases hb
        · exact h e he hb
      · intro h e he hb; exact h e (by simp [he]) hb
    | true =>
      rw [sel_true]
      cases hd : bit done a.on with
      | false =>
        rw [sel_false]
        constructor
        · intro h; cases h
        · intro h; have := h a (by simp) ha; rw [hd] at this; cases this
      | true =>
        rw [sel_true, predsIn_spec (es := r)]
        constructor
        · intro h e he hb
          rcases List.mem_cons.1 he with rfl | he
          · exact hd
          · exact h e he hb
        · intro h e he hb; exact h e (by simp [he]) hb

theorem Adds.obj {h h' : AH} (ha : Adds h h') {i : Nat} {y : AObj} (hi : h'.obj i = some y) : i = h.next ∨ h.obj i = some y := by
  rcases ha with rfl | ⟨o, rfl⟩ | rfl
  · exact .inr hi
  · rcases obj_new hi with ⟨h1, _⟩ | ⟨_, h1⟩
    · exact .inl h1
    · exact .inr h1
  · rcases Tr.get_putO fuel h.heap h.next none i y hi with ⟨_, e⟩ | ⟨_, e⟩
    · cases e
    · exact .inr e

theorem lightDo_some {x : AX} {T T1 : Tr AV} {o : Oper} {r : AR} {hp : Tr AObj} (h : lightDo x T o r = some (T1, hp)) : ∃ v h1, r = .val v h1 ∧ setT x.n T o.dst v = some T1 ∧ hp = h1.heap := by
  unfold lightDo at h
  split at h
  · rename_i v h1
    split at h
    · rename_i T' hT; cases h; exact ⟨v, h1, rfl, hT, rfl⟩
    · cases h
  · cases h

theorem sumR_adds {Sm : Sums} (hS : ∀ (f : FuncId) (args : List AV) (h : AH) (v : AV) (h' : AH), Sm f args h = some (v, h') → Adds h h') {T : Tr AV} {h h' : AH} {ir : Bool} {o : Oper} {v : AV} (hv : sumR Sm (lightO o.op) h (opA P T h ir o) = .val v h') : Adds h h' := by
  unfold sumR at hv
  split at hv
  · rename_i v1 h1 he
    cases hl : lightO o.op with
    | false => rw [hl, sel_false] at hv; cases hv
    | true =>
      rw [hl, sel_true] at hv; cases hv
      have := light_adds (P := P) (T := T) (h := h) (ir := ir) hl
      rw [he] at this
      exact this
  · split at hv
    · rename_i p hp; cases hv; exact hS _ _ _ _ _ hp
    · cases hv
  · cases hv

theorem lightRun_some {Sm : Sums} (hS : ∀ (f : FuncId) (args : List AV) (h : AH) (v : AV) (h' : AH), Sm f args h = some (v, h') → Adds h h') {x : AX} {ops : Array Oper} {T T1 : Tr AV} {h : AH} {o : Oper} {hp : Tr AObj} (hr : lightRun P Sm x ops T h o = some (T1, hp)) :
    (∃ v, setT x.n T o.dst v = some T1) ∧ ∀ i y, hp.getO i = some y → i = h.next ∨ h.obj i = some y := by
  have hop : ∀ v h1, sumR Sm (lightO o.op) h (opA P T h x.round.isSome o) = .val v h1 → ∀ i y, h1.heap.getO i = some y → i = h.next ∨ h.obj i = some y := fun v h1 he i y hi => Adds.obj (h' := h1) (sumR_adds hS he) hi
  unfold lightRun at hr
  split at hr
  · obtain ⟨v, h1, h2, h3, rfl⟩ := lightDo_some hr
    exact ⟨⟨v, h3⟩, hop v h1 h2⟩
  · split at hr
    · cases hr
    · split at hr
      · rename_i T' hT; cases hr; exact ⟨⟨_, hT⟩, fun i y hi => .inr hi⟩
      · cases hr
    · obtain ⟨v, h1, h2, h3, rfl⟩ := lightDo_some hr
      exact ⟨⟨v, h3⟩, hop v h1 h2⟩

/-- what holds while light operations are done early -/
structure Sat (P : Program) (Q : Nat → Value) (N0 : Keep) (w0 : World) (η : Env) (ops : Array Oper) (ord : List Nat) (arr : Array Value) (w : World) (lo : Nat) (T : Tr AV) (h : AH) (done : Nat) (pend : List (Nat × Nat)) : Prop where
  hr : HR P Q N0 w0 η h w
  fresh : Fresh η h.next
  dr : DR η ops done pend ord
  tm : TmX Q (Excl ops done ord) η T arr
  le : lo ≤ h.next
  ids : ∀ p ∈ pend, lo ≤ p.2 ∧ p.2 < h.next

theorem Sat.light {Sm : Sums} (hS : ∀ (f : FuncId) (args : List AV) (h : AH) (v : AV) (h' : AH), Sm f args h = some (v, h') → Adds h h') {ops : Array Oper} {ord : List Nat} {arr : Array Value} {w : World} {lo : Nat} {T T1 : Tr AV} {h : AH} {done : Nat} {pend : List (Nat × Nat)} {x : AX} {j : Nat} {o : Oper} {hp : Tr AObj}
    (S : Sat P Q N0 w0 η ops ord arr w lo T h done pend) (ho : ops[j]? = some o) (hb : bit done j = false) (hl : lightQ o.op = true) (hr : lightRun P Sm x ops T h o = some (T1, hp)) :
    Sat P Q N0 w0 η ops ord arr w lo T1 ⟨hp, Nat.succ h.next⟩ (addBit done j) ((j, h.next) :: pend) := by
  obtain ⟨⟨v, hT⟩, hobj⟩ := lightRun_some hS hr
  have D := S.dr
  have hlt : j < ops.size := (Array.getElem?_eq_some_iff.1 ho).1
  have hj : j ∈ ord := by
    by_cases hj : j ∈ ord
    · exact hj
    · rw [D.doneOf j hlt hj] at hb; cases hb
  have bs : ∀ i, bit done i = true → bit (addBit done j) i = true := fun i hi => by rw [bit_add, hi]; rfl
  have bj : ∀ i, bit (addBit done j) i = true → bit done i = true ∨ i = j := fun i hi => by
    rw [bit_add, Bool.or_eq_true] at hi
    exact hi.imp id fun h => (beq_iff.1 h).symm
  refine ⟨S.hr.virt fun i y hi he => ?_, fun i hi => S.fresh i (Nat.le_of_succ_le hi), ⟨D.ok, D.nodup, D.lt, D.lin, D.closed, fun i hi hio => bs i (D.doneOf i hi hio), fun i hi u hu hlu => ?_, fun i hi hbi => ?_, fun p hp hpo => ?_, ?_⟩, ?_, Nat.le_succ_of_le S.le, fun p hp => ?_⟩
  · rcases hobj i y hi with rfl | h1
    · obtain ⟨e, he⟩ := he
      rw [S.fresh _ (Nat.le_refl _)] at he; cases he
    · exact h1
  · cases hbi : bit (addBit done j) i with
    | false => rfl
    | true =>
      rcases bj i hbi with h1 | rfl
      · rw [D.heavy i hi u hu hlu] at h1; cases h1
      · rw [ho] at hu; cases hu; rw [hl] at hlu; cases hlu
  · rcases bj i hbi with h1 | rfl
    · obtain ⟨id, hid⟩ := D.pendOf i hi h1; exact ⟨id, by simp [hid]⟩
    · exact ⟨h.next, by simp⟩
  · rcases List.mem_cons.1 hp with rfl | hp
    · exact S.fresh _ (Nat.le_refl _)
    · exact D.virt p hp hpo
  · simp only [List.map_cons, List.nodup_cons]
    refine ⟨fun hm => ?_, D.ids⟩
    obtain ⟨p, hp, he⟩ := List.mem_map.1 hm
    have := (S.ids p hp).2
    omega
  · intro t u hu hn
    have hold : T.get t = some u := by
      rcases setT_some hT with ⟨_, rfl⟩ | ⟨d, hd, _, rfl⟩
      · exact hu
      · rcases Tr.get_put fuel T d (some v) t u hu with ⟨rfl, _⟩ | ⟨_, e⟩
        · exact absurd ⟨j, hj, by rw [bit_add, beq_iff.2 rfl]; simp, by rw [dstOf_eq, ho]; exact hd⟩ hn
        · exact e
    exact S.tm t u hold fun ⟨i, hi, hbi, hdi⟩ => hn ⟨i, hi, bs i hbi, hdi⟩
  · rcases List.mem_cons.1 hp with rfl | hp
    · exact ⟨S.le, Nat.lt_succ_self _⟩
    · exact ⟨(S.ids p hp).1, Nat.lt_succ_of_lt (S.ids p hp).2⟩

/-- whoever may be done and is not was found -/
def Ripe (ops : Array Oper) (j done : Nat) (found : List Nat) : Prop :=
  (∀ i o, i < j → ops[i]? = some o → bit done i = false → predsIn done o.after.toList = true → i ∈ found) ∧
  (∀ g ∈ found, g < j ∧ ∃ o, ops[g]? = some o ∧ bit done g = false) ∧ found.Nodup

theorem satL_rel {Sm : Sums} (hS : ∀ (f : FuncId) (args : List AV) (h : AH) (v : AV) (h' : AH), Sm f args h = some (v, h') → Adds h h') {ops : Array Oper} {ord : List Nat} {arr : Array Value} {w : World} {lo : Nat} {x : AX} (R : RegOk ops) : ∀ (l : List Oper) (j : Nat) {T : Tr AV} {h : AH} {done : Nat} {pend : List (Nat × Nat)} {found : List Nat} {r},
    l = ops.toList.drop j → satL P Sm x ops l j T h done pend found = some r → Sat P Q N0 w0 η ops ord arr w lo T h done pend → Ripe ops j done found →
    Sat P Q N0 w0 η ops ord arr w lo r.1 r.2.1 r.2.2.1 r.2.2.2.1 ∧ Ripe ops ops.size r.2.2.1 r.2.2.2.2
  | [], j, T, h, done, pend, found, r, hl, hs, S, F => by
    unfold satL at hs; cases hs
    have hge : ops.size ≤ j := by
      have : ops.toList.length ≤ j := List.drop_eq_nil_iff.1 hl.symm
      simpa using this
    refine ⟨S, fun i o hi => F.1 i o (by omega), fun g hg => ?_, F.2.2⟩
    obtain ⟨_, o, ho, h2⟩ := F.2.1 g hg
    exact ⟨(Array.getElem?_eq_some_iff.1 ho).1, o, ho, h2⟩
  | o :: l, j, T, h, done, pend, found, r, hl, hs, S, F => by
    obtain ⟨ho, hl', _⟩ := drop_cons hl
    have stay : (bit done j = false → predsIn done o.after.toList = true → False) → Ripe ops (j + 1) done found := fun h1 => by
      refine ⟨fun i u hi hu hb hp => ?_, fun g hg => ?_, F.2.2⟩
      · by_cases hij : i = j
        · subst hij; rw [ho] at hu; cases hu; exact (h1 hb hp).elim
        · exact F.1 i u (by omega) hu hb hp
      · obtain ⟨h3, h4⟩ := F.2.1 g hg; exact ⟨by omega, h4⟩
    have add : bit done j = false → Ripe ops (j + 1) done (j :: found) := fun hb => by
      refine ⟨fun i u hi hu hbi hp => ?_, fun g hg => ?_, List.nodup_cons.2 ⟨fun hm => ?_, F.2.2⟩⟩
      · by_cases hij : i = j
        · simp [hij]
        · exact List.mem_cons_of_mem _ (F.1 i u (by omega) hu hbi hp)
      · rcases List.mem_cons.1 hg with rfl | hg
        · exact ⟨Nat.lt_succ_self _, o, ho, hb⟩
        · obtain ⟨h3, h4⟩ := F.2.1 g hg; exact ⟨by omega, h4⟩
      · exact absurd (F.2.1 j hm).1 (Nat.lt_irrefl _)
    unfold satL at hs
    cases hb : bit done j with
    | true =>
      rw [hb, sel_true] at hs
      exact satL_rel hS R l (j + 1) hl' hs S (stay fun h1 => by rw [hb] at h1; cases h1)
    | false =>
      rw [hb, sel_false] at hs
      cases hp : predsIn done o.after.toList with
      | false =>
        rw [hp, sel_false] at hs
        exact satL_rel hS R l (j + 1) hl' hs S (stay fun _ h1 => by rw [hp] at h1; cases h1)
      | true =>
        rw [hp, sel_true] at hs
        cases hlo : lightQ o.op with
        | true =>
          rw [hlo, sel_true] at hs
          cases hr : lightRun P Sm x ops T h o with
          | none =>
            rw [hr] at hs
            exact satL_rel hS R l (j + 1) hl' hs S (add hb)
          | some q =>
            obtain ⟨T1, hp1⟩ := q
            rw [hr] at hs
            simp only at hs
            refine satL_rel hS R l (j + 1) hl' hs (S.light hS ho hb hlo hr) ⟨fun i u hi hu hbi hpi => ?_, fun g hg => ?_, F.2.2⟩
            · rw [bit_add, Bool.or_eq_false_iff] at hbi
              have hij : i ≠ j := fun e => by have := beq_no.1 hbi.2; exact this e.symm
              refine F.1 i u (by omega) hu hbi.1 (predsIn_spec.2 fun e he heb => ?_)
              have := predsIn_spec.1 hpi e he heb
              rw [bit_add, Bool.or_eq_true] at this
              rcases this with h1 | h1
              · exact h1
              · have h2 := R.edges i u hu e he heb
                have := beq_iff.1 h1
                omega
            · obtain ⟨h3, u, hu, h5⟩ := F.2.1 g hg
              exact ⟨by omega, u, hu, by rw [bit_add, h5, beq_no.2 (by omega)]; rfl⟩
        | false =>
          rw [hlo, sel_false] at hs
          exact satL_rel hS R l (j + 1) hl' hs S (add hb)

/-! ## what was done early is done in the model -/
theorem validL_mem {Sm : Sums} {x : AX} {ops : Array Oper} {T : Tr AV} {h : AH} : ∀ {l : List (Nat × Nat)}, validL P Sm x ops T h l = true → ∀ p ∈ l, valid1 P Sm x ops T h p = true
  | [], _, p, hp => by cases hp
  | q :: r, hv, p, hp => by
    unfold validL at hv
    have ⟨h1, h2⟩ := selF hv
    rcases List.mem_cons.1 hp with rfl | hp
    · exact h1
    · exact validL_mem h2 p hp

theorem ids_eq {l : List (Nat × Nat)} (hn : (l.map Prod.snd).Nodup) {p q : Nat × Nat} (hp : p ∈ l) (hq : q ∈ l) (h : p.2 = q.2) : p = q := by
  induction l with
  | nil => cases hp
  | cons a r ih =>
    simp only [List.map_cons, List.nodup_cons] at hn
    rcases List.mem_cons.1 hp with e1 | e1 <;> rcases List.mem_cons.1 hq with e2 | e2
    · rw [e1, e2]
    · exact (hn.1 (List.mem_map.2 ⟨q, e2, by rw [← h, e1]⟩)).elim
    · exact (hn.1 (List.mem_map.2 ⟨p, e1, by rw [h, e2]⟩)).elim
    · exact ih hn.2 e1 e2

variable {lo : Nat} {cs0 : List Frame}

/-- the operands of the one that is first -/
theorem EvOn.of_tmx {ops : Array Oper} {done : Nat} {pend : List (Nat × Nat)} {j : Nat} {r : List Nat} {T : Tr AV} {arr : Array Value} {ds : List Deferred} {o : Oper} (hg : ∀ g, g < 64 → η g = some (.blk g 0 0))
    (D : DR η ops done pend (j :: r)) (ht : TmX Q (Excl ops done (j :: r)) η T arr) (ho : ops[j]? = some o) (hs : ∀ cs b, o.op ≠ .select cs b) : EvOn Q η T (Act.mk arr ds).eval o.op.operands.toList := by
  intro y hy v hv
  refine eval_rel hg (fun t v he hget => ht t v hget fun ⟨i, hi, hbi, hd⟩ => ?_) hv
  subst he
  have hl : ∃ u, ops[i]? = some u ∧ lightQ u.op = true := by
    have hlt := D.lt i hi
    refine ⟨ops[i], Array.getElem?_eq_getElem hlt, ?_⟩
    cases hq : lightQ (ops[i]).op with
    | true => rfl
    | false => rw [D.heavy i hi _ (Array.getElem?_eq_getElem hlt) hq] at hbi; cases hbi
  obtain ⟨e, h1, h2, h3⟩ := (dregOk_spec D.ok).opnds j o ho t (opndL_mem hy hs) i hd hl
  exact D.lin [] j r rfl o ho e h1 h2 (h3 ▸ hi)

/-- the guard of the one that is first -/
theorem guard_tmx {ops : Array Oper} {done : Nat} {pend : List (Nat × Nat)} {j : Nat} {r : List Nat} {T : Tr AV} {arr : Array Value} {o : Oper} {g : Nat × Bool} {b : Bool}
    (D : DR η ops done pend (j :: r)) (ht : TmX Q (Excl ops done (j :: r)) η T arr) (ho : ops[j]? = some o) (hg : o.guard = some g) (h : guardA ops T g.1 g.2 = some b) : (yielded ops arr g.1 == some g.2) = b := by
  have R := dregOk_spec D.ok
  refine guardA_rel h fun d v hd hget => ht d v hget fun ⟨i, hi, _, hdi⟩ => ?_
  obtain ⟨e, h1, h2, h3⟩ := R.guard j o g ho hg
  have := R.once _ _ _ hd hdi
  exact D.lin [] j r rfl o ho e h1 h2 (by rw [h3, this]; exact hi)

theorem slotIs_some {n : Nat} {T : Tr AV} {d : Option Tmp} {v : AV} (h : slotIs n T d v = true) : ∀ t, d = some t → T.get t = some v ∧ t < n := by
  intro t ht
  subst ht
  unfold slotIs at h
  simp only at h
  cases hg : T.get t with
  | none => rw [hg] at h; cases h
  | some u =>
    rw [hg] at h
    have ⟨h1, h2⟩ := selF h
    rw [eqAV_sound _ _ h2]
    exact ⟨rfl, blt_iff.1 h1⟩

theorem validR_some {n : Nat} {T : Tr AV} {h : AH} {id : Nat} {d : Option Tmp} {r : AR} (hv : validR n T h id d r = true) : ∃ v h1, r = .val v h1 ∧ slotIs n T d v = true ∧ (h1.next = id ∨ ∃ ob, h1.obj id = some ob ∧ h.obj id = some ob) := by
  unfold validR at hv
  split at hv
  · rename_i v h1
    have ⟨g1, g2⟩ := selF hv
    refine ⟨v, h1, rfl, g1, ?_⟩
    cases hb : Nat.beq h1.next id with
    | true => exact .inl (beq_iff.1 hb)
    | false => rw [hb, sel_false] at g2; exact .inr (eqObj_sound g2)
  · cases hv

theorem DR.step {ops : Array Oper} {done : Nat} {pend : List (Nat × Nat)} {j : Nat} {r : List Nat} {η' : Env} (D : DR η ops done pend (j :: r)) (hb : bit done j = true) (hv : ∀ p ∈ pend, p.1 ∈ r → η' p.2 = none) : DR η' ops done pend r := by
  obtain ⟨hc, hg, hn⟩ := D.next
  refine ⟨D.ok, hn, fun i hi => D.lt i (by simp [hi]), fun pre i post e o ho e' he' hb' => D.lin (j :: pre) i post (by rw [e]; rfl) o ho e' he' hb', hc, fun i hi hir => ?_, fun i hi o ho hl => D.heavy i (by simp [hi]) o ho hl, fun i hi hbi => D.pendOf i (by simp [hi]) hbi, hv, D.ids⟩
  by_cases hij : i = j
  · rw [hij]; exact hb
  · exact D.doneOf i hi (by simp [hij, hir])

theorem HR.of_heapA {h h' : AH} {w : World} (H : HR P Q N0 w0 η h w) (e : h'.heap = h.heap) : HR P Q N0 w0 η h' w :=
  H.virt fun i y hi _ => by unfold AH.obj at hi ⊢; rw [← e]; exact hi

theorem drop_next (h : AH) (ob : AObj) : ¬ (AH.mk (h.heap.putO fuel h.next none) (Nat.succ h.next)).obj h.next = some ob := fun h1 => by
  rcases Tr.get_putO fuel h.heap h.next none h.next ob h1 with ⟨_, e⟩ | ⟨e, _⟩
  · cases e
  · exact absurd rfl e

theorem obj_new_other {h : AH} {v ob : AObj} (h1 : (h.new v).obj h.next = some ob) {j : Nat} (hj : j ≠ h.next) {y : AObj} (hy : h.obj j = some y) : (h.new v).obj j = some y :=
  (Tr.get_put_neO fuel h.heap h.next (some v) j hj).trans hy

/-- one light operation -/
theorem light_step {Sm : Sums} (hQ : QOk Q ∧ SumOk P Q Sm) {x : AX} {b : Frame} {ops : Array Oper} {done : Nat} {pend : List (Nat × Nat)} {j : Nat} {r : List Nat} {T : Tr AV} {arr : Array Value} {h : AH} {w : World} {cs : List AFr} {cs1 callers : List Frame}
    {dfs : List Deferred} {items : List Item} (B : Base P Q N0 w0 η lo cs h cs1 w) (D : DR η ops done pend (j :: r)) (ht : TmX Q (Excl ops done (j :: r)) η T arr) (hs : arr.size = x.n) (hx : XRel η x b)
    (hids : ∀ p ∈ pend, lo ≤ p.2 ∧ p.2 < h.next) (hb : bit done j = true) (hval : validL P Sm x ops T h pend = true) :
    ∃ η' arr' w', Steps P (lone (b.atR ⟨arr, dfs⟩ (.inRegion ops (j :: r) :: items)) callers w) (lone (b.atR ⟨arr', dfs⟩ (.inRegion ops r :: items)) callers w') ∧
      Grow η lo η' ∧ Base P Q N0 w0 η' lo cs h cs1 w' ∧ DR η' ops done pend r ∧ TmX Q (Excl ops done r) η' T arr' ∧ arr'.size = x.n ∧ ∀ i, (∀ p ∈ pend, p.2 ≠ i) → η' i = η i := by
  obtain ⟨_, hjr, _⟩ := D.next
  obtain ⟨id, hid⟩ := D.pendOf j (by simp) hb
  have hv1 := validL_mem hval _ hid
  have hvirt := D.virt _ hid (by simp)
  have hlt := D.lt j (by simp)
  have ho : ops[j]? = some ops[j] := Array.getElem?_eq_getElem hlt
  generalize ops[j] = o at ho
  unfold valid1 at hv1
  rw [nth_eq, Array.getElem?_toList, ho] at hv1
  simp only at hv1
  have ⟨hl, hv2⟩ := selF hv1
  have hsel : ∀ cs b, o.op ≠ .select cs b := fun cs b e => by rw [e] at hl; cases hl
  -- the slots behind it
  have slots : ∀ {η' : Env} {v : AV} {y : Value}, Ext η η' → slotIs x.n T o.dst v = true → concV Q η' v = some y → TmX Q (Excl ops done r) η' T (setArr arr o.dst y) := fun {η' v y} hx' hsl hc t u hu hn => by
    by_cases hd : o.dst = some t
    · obtain ⟨this, htn⟩ := slotIs_some hsl t hd
      rw [hu] at this
      cases this
      have hts : t < arr.size := by rw [hs]; exact htn
      exact ⟨y, by rw [hd]; simp [setArr, hts], hc⟩
    · obtain ⟨z, h1, h2⟩ := ht t u hu fun ⟨i, hi, hbi, hdi⟩ => by
        rcases List.mem_cons.1 hi with rfl | hi
        · rw [dstOf_eq, ho] at hdi; exact hd hdi
        · exact hn ⟨i, hi, hbi, hdi⟩
      refine ⟨z, ?_, concV_mono hx' u h2⟩
      cases hod : o.dst with
      | none => exact h1
      | some d =>
        have hne : d ≠ t := fun e => hd (by rw [hod, e])
        simp only [setArr]
        rw [Array.getElem?_setIfInBounds_ne hne]; exact h1
  have skip : o.guard ≠ none → Region.wanted o (yielded ops arr) = false → slotIs x.n T o.dst undefA = true →
      ∃ η' arr' w', Steps P (lone (b.atR ⟨arr, dfs⟩ (.inRegion ops (j :: r) :: items)) callers w) (lone (b.atR ⟨arr', dfs⟩ (.inRegion ops r :: items)) callers w') ∧
      Grow η lo η' ∧ Base P Q N0 w0 η' lo cs h cs1 w' ∧ DR η' ops done pend r ∧ TmX Q (Excl ops done r) η' T arr' ∧ arr'.size = x.n ∧ ∀ i, (∀ p ∈ pend, p.2 ≠ i) → η' i = η i := fun _ hw hsl => by
    have hsk := stepR_op_skip (P := P) (b := b) (a := ⟨arr, dfs⟩) (k := items) (cs := callers) (w := w) (ops := ops) (i := j) (rest := r) (by simp only [ho, Option.map_some, Option.getD_some]; exact hw)
    rw [← Frame.finish_atR, finish_atR' b arr dfs ops j _ items undef ho] at hsk
    exact ⟨η, _, w, .one hsk, Grow.refl _ _, B, D.step hb (fun p hp hpr => D.virt p hp (by simp [hpr])), slots (Ext.refl η) hsl undef_conc, by rw [setArr_size]; exact hs, fun _ _ => rfl⟩
  have run : Region.wanted o (yielded ops arr) = true → validR x.n T h id o.dst (sumR Sm (lightO o.op) ⟨h.heap, id⟩ (opA P T ⟨h.heap, id⟩ x.round.isSome o)) = true →
      ∃ η' arr' w', Steps P (lone (b.atR ⟨arr, dfs⟩ (.inRegion ops (j :: r) :: items)) callers w) (lone (b.atR ⟨arr', dfs⟩ (.inRegion ops r :: items)) callers w') ∧
      Grow η lo η' ∧ Base P Q N0 w0 η' lo cs h cs1 w' ∧ DR η' ops done pend r ∧ TmX Q (Excl ops done r) η' T arr' ∧ arr'.size = x.n ∧ ∀ i, (∀ p ∈ pend, p.2 ≠ i) → η' i = η i := fun hw hvr => by
    obtain ⟨v, h1, hop, hsl, hnext⟩ := validR_some hvr
    have hev := EvOn.of_tmx (ds := dfs) B.glob D ht ho hsel
    have H1 : HR P Q N0 w0 η ⟨h.heap, id⟩ w := B.hr.of_heapA rfl
    have hO := opA_rel (P := P) (h := ⟨h.heap, id⟩) (o := o) (ir := x.round.isSome) hQ.1 H1 hvirt hev
    have hadd := sumR_adds (P := P) hQ.2.1 hop
    have hne : opA P T ⟨h.heap, id⟩ x.round.isSome o ≠ .fail := fun e => by rw [e] at hop; cases hop
    have hst := stepGR_op (P := P) (b := b) (a := ⟨arr, dfs⟩) (k := items) (cs := callers) (w := w) (rest := r) ho hw
    rw [semAt_exec (P := P) (T := T) (h := ⟨h.heap, id⟩) hx _ hne] at hst
    obtain ⟨η', y, w', hsteps, h3, h4, h5⟩ : ∃ η' y w', Steps P (lone (b.atR ⟨arr, dfs⟩ (.inRegion ops (j :: r) :: items)) callers w) (lone (b.atR ⟨setArr arr o.dst y, dfs⟩ (.inRegion ops r :: items)) callers w') ∧
        Step1 η id η' h1.next ∧ HR P Q N0 w0 η' h1 w' ∧ concV Q η' v = some y := by
      unfold sumR at hop
      split at hop
      · rename_i v1 h2 he
        have ⟨_, h6⟩ := (show lightO o.op = true ∧ AR.val v1 h2 = AR.val v h1 from by
          cases hl1 : lightO o.op with
          | false => rw [hl1, sel_false] at hop; cases hop
          | true => rw [hl1, sel_true] at hop; exact ⟨rfl, hop⟩)
        cases h6
        rw [he] at hO
        obtain ⟨η', y, w', h2', h3, h4, h5⟩ := hO
        refine ⟨η', y, w', ?_, h3, h4, h5⟩
        rw [← finish_atR' b arr dfs ops j _ items y ho]
        exact .one (apply_value h2' hst)
      · rename_i f args h2 he
        rw [he] at hO
        obtain ⟨_, _, xs, h6, h7⟩ := hO
        split at hop
        · rename_i p hp
          cases hop
          have hk := noCall_kind (items := .inRegion ops (j :: r) :: items) (fun d b' r' s k' e => by cases e)
          have hcall : step P (lone (b.atR ⟨arr, dfs⟩ (.inRegion ops (j :: r) :: items)) callers w) = .next (lone (Frame.enter P f xs.toArray .normal) (b.atR ⟨arr, dfs⟩ (.inRegion ops (j :: r) :: items) :: callers) w) :=
            step_lone_go (by rw [hst]; simp [stepG.apply, Sem.runT_eq, h6]; exact congrArg (Frame.enter P f xs.toArray) hk)
          obtain ⟨e, w', fr, ⟨η', y, rfl, hs1, hv, hr⟩, hcomes, _, hleave⟩ := hQ.2.2 (N0 := N0) (w0 := w0) (h := ⟨h.heap, id⟩) H1 B.glob hvirt (show Sm f args ⟨h.heap, id⟩ = some (p.1, p.2) from hp) h7 (b.atR ⟨arr, dfs⟩ (.inRegion ops (j :: r) :: items) :: callers)
          refine ⟨η', y, w', ?_, hs1, hr, hv⟩
          rw [← finish_atR' b arr dfs ops j _ items y ho]
          exact .head hcall (Steps.trans hcomes (.one (step_leave_returned hleave)))
        · cases hop
      · cases hop
    have h8 : lo ≤ id := (hids _ hid).1
    have h9 : id < h.next := (hids _ hid).2
    have hext : Ext η η' := h3.ext hvirt
    have hgrow : Grow η lo η' ∧ (∀ i, i ≠ id → η' i = η i) := by
      rcases h3 with ⟨rfl, _⟩ | ⟨e, rfl, _⟩
      · exact ⟨Grow.refl _ _, fun _ _ => rfl⟩
      · exact ⟨⟨hext, fun i hi => Env.with_ne (i := i) (id := id) η e (by omega)⟩, fun i hi => Env.with_ne (i := i) (id := id) η e hi⟩
    have hH : HR P Q N0 w0 η' h w' := by
      refine h4.virt fun i u hi _ => ?_
      rcases hadd with e | ⟨ob, e⟩ | e
      · subst e; exact hi
      · rcases hnext with hn | ⟨ob', hn1, hn2⟩
        · rw [e] at hn; exact absurd hn (Nat.succ_ne_self id)
        · by_cases hie : i = id
          · subst hie; rw [hn2] at hi; cases hi; exact hn1
          · rw [e] at hn1 ⊢; exact obj_new_other (h := ⟨h.heap, id⟩) hn1 hie hi
      · rcases hnext with hn | ⟨ob', hn1, _⟩
        · rw [e] at hn; exact absurd hn (Nat.succ_ne_self id)
        · rw [e] at hn1
          exact absurd hn1 (drop_next ⟨h.heap, id⟩ ob')
    have hfresh : Fresh η' h.next := fun i hi => by
      have hne : i ≠ id := by intro e; rw [e] at hi; exact absurd h9 (Nat.not_lt.2 hi)
      rw [hgrow.2 i hne]; exact B.fresh i hi
    refine ⟨η', setArr arr o.dst y, w', hsteps, hgrow.1, B.grow hH hgrow.1 hfresh (Nat.le_refl _), D.step hb (fun p hp hpr => ?_), slots hext hsl h5, by rw [setArr_size]; exact hs, fun i hi => hgrow.2 i fun e => hi _ hid e.symm⟩
    have hne : p.2 ≠ id := fun e => by
      have h10 : p = (j, id) := ids_eq D.ids hp hid e
      rw [h10] at hpr
      exact hjr hpr
    rw [hgrow.2 p.2 hne]
    exact D.virt p hp (List.mem_cons_of_mem _ hpr)
  cases hg : o.guard with
  | none =>
    rw [hg] at hv2
    exact run (by simp [Region.wanted, hg]) hv2
  | some g =>
    rw [hg] at hv2
    simp only at hv2
    cases hga : guardA ops T g.1 g.2 with
    | none => rw [hga] at hv2; cases hv2
    | some t =>
      rw [hga] at hv2
      have hy := guard_tmx D ht ho hg hga
      have hw : Region.wanted o (yielded ops arr) = t := by simp only [Region.wanted, hg]; exact hy
      cases t with
      | true => exact run hw hv2
      | false => exact skip (by simp [hg]) hw hv2

end
end Go.Sx
