/- Several heavy operations of a region, in whatever order. -/
import Derived.Test.YtlfkdmhllolmmaaGreatDoorSxDreg2
namespace Go.Sx
open Go

section
variable {P : Program} {Sm : Sums} {Q : Nat → Value} {N0 : Keep} {w0 : World} {lo : Nat} {cs0 : List Frame}

theorem bit_addBits : ∀ {l : List Nat} {m i : Nat}, bit (addBits m l) i = true ↔ bit m i = true ∨ i ∈ l
  | [], m, i => by simp [addBits]
  | g :: r, m, i => by
    show bit (addBits (addBit m g) r) i = true ↔ _
    rw [bit_addBits (l := r), bit_add, Bool.or_eq_true, beq_iff, List.mem_cons]
    constructor
    · rintro ((h | h) | h)
      · exact .inl h
      · exact .inr (.inl h.symm)
      · exact .inr (.inr h)
    · rintro (h | h | h)
      · exact .inl (.inl h)
      · exact .inl (.inr h.symm)
      · exact .inr h

theorem bit_eq_of {a b : Bool} (h : a = true ↔ b = true) : a = b := by cases a <;> cases b <;> simp_all

/-- an order's relation knows the bits alone -/
theorem DR.bits {η : Env} {ops : Array Oper} {done done' : Nat} {pend : List (Nat × Nat)} {ord : List Nat} (D : DR η ops done pend ord) (h : ∀ i, bit done' i = bit done i) : DR η ops done' pend ord :=
  ⟨D.ok, D.nodup, D.lt, D.lin, D.closed, fun i hi hio => by rw [h]; exact D.doneOf i hi hio, fun i hi o ho hl => by rw [h]; exact D.heavy i hi o ho hl, fun i hi hb => D.pendOf i hi (by rw [← h]; exact hb), D.virt, D.ids⟩

/-- a heavy one is done, what was early stays -/
theorem DR.heavyDone {η : Env} {ops : Array Oper} {done done' : Nat} {pend : List (Nat × Nat)} {g : Nat} {r : List Nat} (D : DR η ops done pend (g :: r)) (h : ∀ i, bit done' i = true ↔ bit done i = true ∨ i = g) : DR η ops done' pend r := by
  obtain ⟨hc, hg, hn⟩ := D.next
  have hb : ∀ j ∈ r, bit done' j = bit done j := fun j hj => bit_eq_of ((h j).trans ⟨fun h1 => h1.elim id fun e => absurd hj (e ▸ hg), .inl⟩)
  refine ⟨D.ok, hn, fun j hj => D.lt j (by simp [hj]), fun pre j post e o ho e' he' hb' => D.lin (g :: pre) j post (by rw [e]; rfl) o ho e' he' hb', hc, fun j hj hjr => ?_, fun j hj o ho hl => ?_, fun j hj hbj => ?_, fun p hp hpr => D.virt p hp (by simp [hpr]), D.ids⟩
  · rw [h]
    by_cases hjg : j = g
    · exact .inr hjg
    · exact .inl (D.doneOf j hj (by simp [hjg, hjr]))
  · rw [hb j hj]; exact D.heavy j (by simp [hj]) o ho hl
  · rw [hb j hj] at hbj; exact D.pendOf j (by simp [hj]) hbj

/-- what an operation that is done waited for need not be asked again -/
theorem DR.keep {η : Env} {ops : Array Oper} {done : Nat} {pend : List (Nat × Nat)} {g : Nat} {ord : List Nat} (D : DR η ops done pend ord) (hg : g ∉ ord) : DR η ops done (keepP (ancR g ops.toList 0) pend) ord := by
  refine ⟨D.ok, D.nodup, D.lt, D.lin, D.closed, D.doneOf, D.heavy, fun j hj hbj => ?_, fun p hp hpr => D.virt p (keepP_mem.1 hp).1 hpr, ((keepP_sub pend).map Prod.snd).nodup D.ids⟩
  obtain ⟨id, hid⟩ := D.pendOf j hj hbj
  refine ⟨id, keepP_mem.2 ⟨hid, ?_⟩⟩
  cases ha : bit (ancR g ops.toList 0) j with
  | false => rfl
  | true => exact absurd hj (ancR_bit hg D.closed ops.toList 0 (by simp) j ha)

theorem DR.keeps {η : Env} {ops : Array Oper} {done : Nat} {ord : List Nat} : ∀ {gs : List Nat} {pend : List (Nat × Nat)}, DR η ops done pend ord → (∀ g ∈ gs, g ∉ ord) → DR η ops done (keepPs ops gs pend) ord
  | [], _, D, _ => D
  | g :: r, _, D, h => (D.keep (h g (by simp))).keeps fun x hx => h x (by simp [hx])

theorem keepPs_sub {ops : Array Oper} : ∀ (gs : List Nat) {pend : List (Nat × Nat)} {p : Nat × Nat}, p ∈ keepPs ops gs pend → p ∈ pend
  | [], _, _, h => h
  | _ :: r, _, _, h => (keepP_mem.1 (keepPs_sub r h)).1

/-! ## a heap without some of its blocks -/
theorem dropAll_next : ∀ (ts : List Nat) (h : AH), (dropAll h ts).next = h.next
  | [], _ => rfl
  | i :: r, h => dropAll_next r (h.upd i none)

theorem dropAll_obj : ∀ (ts : List Nat) (h : AH) {id : Nat} {o : AObj}, (dropAll h ts).obj id = some o → h.obj id = some o ∧ id ∉ ts
  | [], _, _, _, h => ⟨h, by simp⟩
  | i :: r, h, id, o, ho => by
    obtain ⟨h1, h2⟩ := dropAll_obj r (h.upd i none) ho
    rcases obj_upd h1 with ⟨_, e⟩ | ⟨hne, h3⟩
    · cases e
    · exact ⟨h3, by simp [hne, h2]⟩

theorem dropAll_obj_mk : ∀ (ts : List Nat) (h : AH) {id : Nat}, id ∉ ts → (dropAll h ts).obj id = h.obj id
  | [], _, _, _ => rfl
  | i :: r, h, id, hn => by
    simp only [List.mem_cons, not_or] at hn
    show (dropAll (h.upd i none) r).obj id = _
    rw [dropAll_obj_mk r _ hn.2]
    exact Tr.get_put_neO fuel h.heap i none id hn.1

theorem pendNew_spec {h : AH} : ∀ {pend : List (Nat × Nat)}, pendNew h pend = true → ∀ p ∈ pend, ∀ o, h.obj p.2 = some o → isRo o = false
  | [], _, p, hp => by cases hp
  | q :: r, hv, p, hp => by
    intro o ho
    unfold pendNew at hv
    split at hv
    · cases hv
    · rename_i hne
      rcases List.mem_cons.1 hp with rfl | hp
      · cases o with
        | cells ro cs e => cases ro with
          | false => rfl
          | true => exact absurd ho (hne cs e)
        | _ => rfl
      · exact pendNew_spec hv p hp o ho

theorem hasN_spec {i : Nat} : ∀ {l : List Nat}, distinct.hasN i l = true ↔ i ∈ l
  | [] => by simp [distinct.hasN]
  | j :: r => by
    unfold distinct.hasN
    cases h : Nat.beq i j with
    | true => rw [sel_true]; simp [beq_iff.1 h]
    | false => rw [sel_false, hasN_spec (l := r)]; have := beq_no.1 h; simp [this]
theorem distinct_spec : ∀ {l : List Nat}, distinct l = true → l.Nodup
  | [], _ => List.nodup_nil
  | i :: r, h => by
    unfold distinct at h
    cases hh : distinct.hasN i r with
    | true => rw [hh, sel_true] at h; cases h
    | false =>
      rw [hh, sel_false] at h
      refine List.nodup_cons.2 ⟨fun hm => ?_, distinct_spec h⟩
      rw [hasN_spec.2 hm] at hh; cases hh

theorem ripe1_spec {all m : Nat} : ∀ {l : List Oper} {j : Nat}, ripe1 all m l j = true → ∀ (i : Nat) (o : Oper), l[i]? = some o → bit all (j + i) = false → predsIn m o.after.toList = false
  | [], _, _, i, o, ho => by simp at ho
  | a :: r, j, h, i, o, ho => by
    intro hb
    unfold ripe1 at h
    cases i with
    | zero =>
      simp at ho; subst ho
      rw [show j + 0 = j from rfl] at hb
      rw [hb, sel_false] at h
      cases hp : predsIn m a.after.toList with
      | false => rfl
      | true => rw [hp, sel_true] at h; cases h
    | succ i =>
      have h' : ripe1 all m r (Nat.succ j) = true := by
        cases hj : bit all j with
        | true => rw [hj, sel_true] at h; exact h
        | false =>
          rw [hj, sel_false] at h
          cases hp : predsIn m a.after.toList with
          | false => rw [hp, sel_false] at h; exact h
          | true => rw [hp, sel_true] at h; cases h
      exact ripe1_spec h' i o (by simpa using ho) (by rw [show Nat.succ j + i = j + (i + 1) by omega]; exact hb)

theorem ripeAll_spec {ops : Array Oper} {all done : Nat} : ∀ {gs before : List Nat}, ripeAll ops all done before gs = true → ∀ g ∈ gs, ∃ rest : List Nat, (∀ x, x ∈ before ∨ x ∈ gs → x = g ∨ x ∈ rest) ∧
    ∀ (i : Nat) (o : Oper), ops[i]? = some o → bit all i = false → predsIn (addBits done rest) o.after.toList = false
  | [], _, _, g, hg => by cases hg
  | a :: r, before, h, g, hg => by
    unfold ripeAll at h
    have ⟨h1, h2⟩ := selF h
    rcases List.mem_cons.1 hg with rfl | hg
    · refine ⟨before ++ r, fun x hx => ?_, fun i o ho hb => ?_⟩
      · rcases hx with h | h
        · exact .inr (by simp [h])
        · rcases List.mem_cons.1 h with rfl | h
          · exact .inl rfl
          · exact .inr (by simp [h])
      · have := ripe1_spec h1 i o (by simpa using ho) (by rw [show nat_lit 0 + i = i from Nat.zero_add i]; exact hb)
        cases hp : predsIn (addBits done (before ++ r)) o.after.toList with
        | false => rfl
        | true =>
          rw [predsIn_spec.2 fun e he heb => ?_] at this
          · cases this
          · have h3 := predsIn_spec.1 hp e he heb
            rw [bit_addBits] at h3
            rw [bit_addBits, bit_addBits]
            rcases h3 with h3 | h3
            · exact .inl (.inl h3)
            · rcases List.mem_append.1 h3 with h3 | h3
              · exact .inl (.inr h3)
              · exact .inr h3
    · obtain ⟨rest, h3, h4⟩ := ripeAll_spec h2 g hg
      refine ⟨rest, fun x hx => h3 x ?_, h4⟩
      rcases hx with h | h
      · exact .inl (by simp [h])
      · rcases List.mem_cons.1 h with rfl | h
        · exact .inl (by simp)
        · exact .inr h

/-- heavy operations that go in whatever order: the heaps behind some of them (the last first) -/
structure Multi (P : Program) (T : Tr AV) (ir : Bool) (ops : Array Oper) (gs ts : List Nat) (h h' : AH) (st : List Nat → AH) : Prop where
  nil : st [] = h
  op : ∀ (g : Nat) (l : List Nat), (g :: l).Nodup → (∀ x ∈ g :: l, x ∈ gs) → ∃ o, ops[g]? = some o ∧ o.guard = none ∧ o.dst = none ∧ (∀ cs b, o.op ≠ .select cs b) ∧ opA P T (st l) ir o = .skip (st (g :: l))
  next : ∀ l, (st l).next = h.next
  same : ∀ (l : List Nat), (∀ x ∈ l, x ∈ gs) → ∀ (id : Nat), id ∉ ts → (st l).obj id = h.obj id
  fin : ∀ (l : List Nat), l.Perm gs → ∀ {Q : Nat → Value} {N0 : Keep} {w0 : World} {η : Env} {w : World}, HR P Q N0 w0 η (st l) w → HR P Q N0 w0 η h' w

/-- a light one, while others are on the way: their blocks are left alone -/
theorem light_aside (hQ : QOk Q ∧ SumOk P Q Sm) {η : Env} {x : AX} {b : Frame} {ops : Array Oper} {done : Nat} {pend : List (Nat × Nat)} {j : Nat} {r ts : List Nat} {T : Tr AV} {arr : Array Value} {h hc : AH} {w : World} {cs : List AFr} {cs1 callers : List Frame}
    {dfs : List Deferred} {items : List Item} (B : Base P Q N0 w0 η lo cs hc cs1 w) (D : DR η ops done pend (j :: r)) (ht : TmX Q (Excl ops done (j :: r)) η T arr) (hs : arr.size = x.n) (hx : XRel η x b)
    (hsame : ∀ id, id ∉ ts → hc.obj id = h.obj id) (hnext : hc.next = h.next) (hnew : pendNew h pend = true) (hap : ∀ p ∈ pend, p.2 ∉ ts) (hids : ∀ p ∈ pend, lo ≤ p.2 ∧ p.2 < h.next) (hb : bit done j = true) (hval : validL P Sm x ops T (dropAll h ts) pend = true) :
    ∃ η' arr' w', Steps P (lone (b.atR ⟨arr, dfs⟩ (.inRegion ops (j :: r) :: items)) callers w) (lone (b.atR ⟨arr', dfs⟩ (.inRegion ops r :: items)) callers w') ∧
      Grow η lo η' ∧ Base P Q N0 w0 η' lo cs hc cs1 w' ∧ DR η' ops done pend r ∧ TmX Q (Excl ops done r) η' T arr' ∧ arr'.size = x.n := by
  let hd := dropAll h ts
  let K : Keep := ⟨fun b => N0 b ∨ ∃ id o base cap, id ∈ ts ∧ hc.obj id = some o ∧ η id = some (.blk b base cap), N0.f⟩
  have hdobj : ∀ id o, hd.obj id = some o → hc.obj id = some o ∧ id ∉ ts := fun id o ho => by
    obtain ⟨h1, h2⟩ := dropAll_obj ts h ho
    exact ⟨(hsame id h2).trans h1, h2⟩
  have lt : ∀ (b : Nat) (x : Obj), w.heap[b]? = some x → b < w.heap.size := fun b x hx => by
    rcases Nat.lt_or_ge b w.heap.size with h | h
    · exact h
    · rw [Array.getElem?_eq_none h] at hx; cases hx
  have H : HR P Q K w η hd w := by
    refine ⟨fun id o ho e he => ?_, fun i j oi oj b b1 c1 b2 c2 hi hj ei ej => B.hr.inj i j oi oj b b1 c1 b2 c2 (hdobj i oi hi).1 (hdobj j oj hj).1 ei ej, fun _ _ => rfl, fun b hb => ?_, fun b es c hb => ⟨.inl (B.hr.froz b es c hb).1, (B.hr.below b (B.hr.froz b es c hb).1).trans (B.hr.froz b es c hb).2⟩, rfl, rfl⟩
    · obtain ⟨h1, h2⟩ := hdobj id o ho
      obtain ⟨b, base, cap, x, h3, h4, h5, h6⟩ := B.hr.obj id o h1 e he
      refine ⟨b, base, cap, x, h3, h4, h5, fun hro hK => ?_⟩
      rcases hK with hK | ⟨i, o', base', cap', hi, ho', hi'⟩
      · exact h6 hro hK
      · subst h3
        have := B.hr.inj id i o o' b base cap base' cap' h1 ho' he hi'
        exact h2 (this ▸ hi)
    · rcases hb with hb | ⟨i, o', base', cap', hi, ho', hi'⟩
      · exact B.hr.size b hb
      · obtain ⟨b', _, _, x, h3, h4, _⟩ := B.hr.obj i o' ho' _ hi'
        cases h3
        exact lt _ _ h4
  have B' : Base P Q K w η lo cs hd cs1 w := ⟨H, B.glob, by show Fresh η (dropAll h ts).next; rw [dropAll_next, ← hnext]; exact B.fresh, by show lo ≤ (dropAll h ts).next; rw [dropAll_next, ← hnext]; exact B.le, B.st⟩
  obtain ⟨η', arr', w', h1, h2, h3, h4, h5, h6, h7⟩ := light_step (callers := callers) (dfs := dfs) (items := items) hQ B' D ht hs hx (by show ∀ p ∈ pend, lo ≤ p.2 ∧ p.2 < (dropAll h ts).next; rw [dropAll_next]; exact hids) hb hval
  refine ⟨η', arr', w', h1, h2, ?_, h4, h5, h6⟩
  have hfr : Fresh η' hc.next := by have := h3.fresh; rw [show hd.next = hc.next from (dropAll_next ts h).trans hnext.symm] at this; exact this
  have told : ∀ i, i ∈ ts → η' i = η i := fun i hi => h7 i fun p hp e => hap p hp (e ▸ hi)
  have hdmk : ∀ id o, hc.obj id = some o → id ∉ ts → hd.obj id = some o := fun id o ho hn => by
    show (dropAll h ts).obj id = _
    rw [dropAll_obj_mk ts h hn, ← hsame id hn]; exact ho
  have keep : ∀ b, K b → w'.heap[b]? = w.heap[b]? := h3.hr.below
  refine B.grow ⟨fun id o ho e he => ?_, fun i j oi oj b b1 c1 b2 c2 hi hj ei ej => ?_, fun b hb => (keep b (.inl hb)).trans (B.hr.below b hb), fun b hb => h3.hr.size b (.inl hb), B.hr.froz, h3.hr.io.1.trans B.hr.io.1, h3.hr.io.2.trans B.hr.io.2⟩ h2 hfr (Nat.le_refl _)
  · by_cases hm : id ∈ ts
    · rw [told id hm] at he
      obtain ⟨b, base, cap, y, g1, g2, g3, g4⟩ := B.hr.obj id o ho e he
      subst g1
      exact ⟨b, base, cap, y, rfl, (keep b (.inr ⟨id, o, base, cap, hm, ho, he⟩)).trans g2, g3.mono h2.ext, g4⟩
    · obtain ⟨b, base, cap, y, g1, g2, g3, g4⟩ := h3.hr.obj id o (hdmk id o ho hm) e he
      exact ⟨b, base, cap, y, g1, g2, g3, fun hro hN => g4 hro (.inl hN)⟩
  · have cross : ∀ i j oi oj b b1 c1 b2 c2, hc.obj i = some oi → hc.obj j = some oj → η' i = some (.blk b b1 c1) → η' j = some (.blk b b2 c2) → i ∉ ts → j ∈ ts → i = j := fun i j oi oj b b1 c1 b2 c2 hi hj ei ej hni hmj => by
      rw [told j hmj] at ej
      have hK : K b := .inr ⟨j, oj, b2, c2, hmj, hj, ej⟩
      obtain ⟨b', _, _, _, g1, _, _, g4⟩ := h3.hr.obj i oi (hdmk i oi hi hni) _ ei
      cases g1
      cases hro : isRo oi with
      | false => exact absurd hK (g4 hro)
      | true =>
        have hnp : ∀ p ∈ pend, p.2 ≠ i := fun p hp e => by
          subst e
          have := pendNew_spec hnew p hp oi ((hsame _ hni).symm.trans hi)
          rw [hro] at this; cases this
        rw [h7 i hnp] at ei
        exact B.hr.inj i j oi oj b b1 c1 b2 c2 hi hj ei ej
    by_cases hmi : i ∈ ts
    · by_cases hmj : j ∈ ts
      · rw [told i hmi] at ei; rw [told j hmj] at ej
        exact B.hr.inj i j oi oj b b1 c1 b2 c2 hi hj ei ej
      · exact (cross j i oj oi b b2 c2 b1 c1 hj hi ej ei hmj hmi).symm
    · by_cases hmj : j ∈ ts
      · exact cross i j oi oj b b1 c1 b2 c2 hi hj ei ej hmi hmj
      · exact h3.hr.inj i j oi oj b b1 c1 b2 c2 (hdmk i oi hi hmi) (hdmk j oj hj hmj) ei ej


theorem predsIn_mono {m m' : Nat} (h : ∀ i, bit m i = true → bit m' i = true) {es : List Edge} (hp : predsIn m es = true) : predsIn m' es = true :=
  predsIn_spec.2 fun e he hb => h _ (predsIn_spec.1 hp e he hb)

theorem Excl.add {ops : Array Oper} {done done' g : Nat} {r : List Nat} (h : ∀ i, bit done' i = true ↔ bit done i = true ∨ i = g) (hb : bit done g = false) {t : Nat} (he : Excl ops done (g :: r) t) : Excl ops done' r t := by
  obtain ⟨i, hi, hbi, hd⟩ := he
  rcases List.mem_cons.1 hi with rfl | hi
  · rw [hb] at hbi; cases hbi
  · exact ⟨i, hi, (h i).2 (.inl hbi), hd⟩

/-- all of them, whatever the order -/
theorem multi_drive (hQ : QOk Q ∧ SumOk P Q Sm) {x : AX} {b : Frame} {ops : Array Oper} {done : Nat} {pend : List (Nat × Nat)} {gs ts : List Nat} {T : Tr AV} {h h' : AH} {st : List Nat → AH} {cs : List AFr} {cs1 callers : List Frame}
    {dfs : List Deferred} {items : List Item} (M : Multi P T x.round.isSome ops gs ts h h' st) (hgs : ∀ g ∈ gs, bit done g = false) (hnd : gs.Nodup) (hripe : ripeAll ops (addBits done gs) done [] gs = true)
    (hnew : pendNew h pend = true) (hap : ∀ p ∈ pend, p.2 ∉ ts) (hids : ∀ p ∈ pend, lo ≤ p.2 ∧ p.2 < h.next) (hval : validL P Sm x ops T (dropAll h ts) pend = true) :
    ∀ (ord l : List Nat) {η : Env} {arr : Array Value} {w : World}, l.Nodup → (∀ g ∈ l, g ∈ gs) → (∀ g ∈ l, g ∉ ord) → Base P Q N0 w0 η lo cs (st l) cs1 w → DR η ops (addBits done l) pend ord → TmX Q (Excl ops (addBits done l) ord) η T arr → arr.size = x.n → XRel η x b →
    ∃ η' arr' ord' l' w', Steps P (lone (b.atR ⟨arr, dfs⟩ (.inRegion ops ord :: items)) callers w) (lone (b.atR ⟨arr', dfs⟩ (.inRegion ops ord' :: items)) callers w') ∧
      Grow η lo η' ∧ l'.Perm gs ∧ (∀ g ∈ l', g ∉ ord') ∧ Base P Q N0 w0 η' lo cs (st l') cs1 w' ∧ DR η' ops (addBits done l') pend ord' ∧ TmX Q (Excl ops (addBits done l') ord') η' T arr' ∧ arr'.size = x.n ∧ XRel η' x b := by
  intro ord
  induction ord with
  | nil =>
    intro l η arr w hl hsub hlo B D ht hs hx
    refine ⟨η, arr, [], l, w, .refl P _, Grow.refl _ _, ?_, hlo, B, D, ht, hs, hx⟩
    refine (List.perm_ext_iff_of_nodup hl hnd).2 fun g => ⟨hsub g, fun hg => ?_⟩
    by_cases hlt : g < ops.size
    · have := D.doneOf g hlt (by simp)
      rcases bit_addBits.1 this with h1 | h1
      · rw [hgs g hg] at h1; cases h1
      · exact h1
    · exfalso
      obtain ⟨o, ho, _⟩ := M.op g [] (by simp) (fun x hx => by simp at hx; exact hx ▸ hg)
      exact hlt (Array.getElem?_eq_some_iff.1 ho).1
  | cons j r ih =>
    intro l η arr w hl hsub hlo B D ht hs hx
    by_cases hall : ∀ g ∈ gs, g ∈ l
    · exact ⟨η, arr, j :: r, l, w, .refl P _, Grow.refl _ _, (List.perm_ext_iff_of_nodup hl hnd).2 fun g => ⟨hsub g, hall g⟩, hlo, B, D, ht, hs, hx⟩
    obtain ⟨g0, hg0, hg0l⟩ : ∃ g ∈ gs, g ∉ l := by
      rcases Classical.em (∃ g ∈ gs, g ∉ l) with h | h
      · exact h
      · exact absurd (fun g hg => Classical.byContradiction fun hn => h ⟨g, hg, hn⟩) hall
    cases hb : bit (addBits done l) j with
    | true =>
      obtain ⟨η1, arr1, w1, h1, h2, h3, h4, h5, h6⟩ := light_aside (callers := callers) (dfs := dfs) (items := items) hQ B D ht hs hx (fun id hid => M.same l hsub id hid) (M.next l) hnew hap hids hb hval
      obtain ⟨η', arr', ord', l', w', g1, g2, g3, g4, g5, g6, g7, g8, g9⟩ := ih l hl hsub (fun g hg hm => hlo g hg (List.mem_cons_of_mem _ hm)) h3 h4 h5 h6 (hx.mono h2.ext)
      exact ⟨η', arr', ord', l', w', Steps.trans h1 g1, h2.trans g2, g3, g4, g5, g6, g7, g8, g9⟩
    | false =>
      have hlt := D.lt j (by simp)
      have ho : ops[j]? = some ops[j] := Array.getElem?_eq_getElem hlt
      generalize ops[j] = o at ho
      have hp : predsIn (addBits done l) o.after.toList = true := predsIn_spec.2 fun e he heb => by
        have h1 := (dregOk_spec D.ok).edges j _ ho e he heb
        exact D.doneOf e.on (by omega) (D.lin [] j r rfl _ ho e he heb)
      have hjg : j ∈ gs := by
        rcases Classical.em (j ∈ gs) with h | hn
        · exact h
        exfalso
        obtain ⟨rest, h1, h2⟩ := ripeAll_spec hripe g0 hg0
        have hnb : bit (addBits done gs) j = false := by
          cases hh : bit (addBits done gs) j with
          | false => rfl
          | true =>
            rcases bit_addBits.1 hh with h3 | h3
            · rw [bit_addBits.2 (.inl h3)] at hb; cases hb
            · exact absurd h3 hn
        have h3 := h2 j o ho hnb
        rw [predsIn_mono (fun i hi => ?_) hp] at h3
        · cases h3
        · rcases bit_addBits.1 hi with h4 | h4
          · exact bit_addBits.2 (.inl h4)
          · rcases h1 i (.inr (hsub i h4)) with rfl | h5
            · exact absurd h4 hg0l
            · exact bit_addBits.2 (.inr h5)
      have hjl : j ∉ l := fun hm => by rw [bit_addBits.2 (.inr hm)] at hb; cases hb
      have hl' : (j :: l).Nodup := List.nodup_cons.2 ⟨hjl, hl⟩
      have hsub' : ∀ g ∈ j :: l, g ∈ gs := fun g hg => by
        rcases List.mem_cons.1 hg with rfl | hg
        · exact hjg
        · exact hsub g hg
      obtain ⟨o', ho', hguard, hdst, hsel, hop⟩ := M.op j l hl' hsub'
      rw [ho] at ho'; cases ho'
      have hbits : ∀ i, bit (addBits done (j :: l)) i = true ↔ bit (addBits done l) i = true ∨ i = j := fun i => by
        rw [bit_addBits, bit_addBits, List.mem_cons]
        constructor
        · rintro (h | h | h)
          · exact .inl (.inl h)
          · exact .inr h
          · exact .inl (.inr h)
        · rintro ((h | h) | h)
          · exact .inl h
          · exact .inr (.inr h)
          · exact .inr (.inl h)
      have hev := EvOn.of_tmx (ds := dfs) B.glob D ht ho hsel
      have hO := opA_rel (P := P) (h := st l) (o := o) (ir := x.round.isSome) hQ.1 B.hr (B.fresh _ (Nat.le_refl _)) hev
      have hst := stepGR_op (P := P) (b := b) (a := ⟨arr, dfs⟩) (k := items) (cs := callers) (w := w) (rest := r) ho (by simp [Region.wanted, hguard])
      rw [semAt_exec (P := P) (T := T) (h := st l) hx _ (by rw [hop]; exact fun e => by cases e)] at hst
      rw [hop] at hO
      obtain ⟨w1, h1, h2, h3⟩ := hO
      have hstep := apply_skip h1 hst
      rw [finish_atR' b arr dfs ops j _ items undef ho, hdst] at hstep
      have D' := D.heavyDone hbits
      have ht' : TmX Q (Excl ops (addBits done (j :: l)) r) η T arr := ht.sub fun t he => Excl.add hbits hb he
      have hlo' : ∀ g ∈ j :: l, g ∉ r := fun g hg hm => by
        rcases List.mem_cons.1 hg with rfl | hg
        · exact (List.nodup_cons.1 D.nodup).1 hm
        · exact hlo g hg (List.mem_cons_of_mem _ hm)
      obtain ⟨η', arr', ord', l', w', g1, g2, g3, g4, g5, g6, g7, g8, g9⟩ := ih (j :: l) hl' hsub' hlo' (B.same h2 ((M.next _).trans (M.next l).symm)) D' ht' hs hx
      exact ⟨η', arr', ord', l', w', .head hstep g1, g2, g3, g4, g5, g6, g7, g8, g9⟩

theorem apart_spec {ts : List Nat} : ∀ {pend : List (Nat × Nat)}, apart ts pend = true → ∀ p ∈ pend, p.2 ∉ ts
  | [], _, p, hp => by cases hp
  | q :: r, h, p, hp => by
    unfold apart at h
    cases hh : distinct.hasN q.2 ts with
    | true => rw [hh, sel_true] at h; cases h
    | false =>
      rw [hh, sel_false] at h
      rcases List.mem_cons.1 hp with rfl | hp
      · intro hm; rw [hasN_spec.2 hm] at hh; cases hh
      · exact apart_spec h p hp

theorem bit_land (a b i : Nat) : bit (Nat.land a b) i = (bit a i && bit b i) := by
  rw [bit_eq, bit_eq, bit_eq]
  show (a &&& b).testBit i = _
  rw [Nat.testBit_and]

theorem commonAnc_bit {ops : Array Oper} : ∀ {gs : List Nat} {g : Nat}, g ∈ gs → ∀ {i : Nat}, bit (commonAnc ops gs) i = true → bit (ancR g ops.toList 0) i = true
  | [], _, h, _, _ => by cases h
  | a :: [], g, h, i, hb => by
    simp at h; subst h; exact hb
  | a :: c :: r, g, h, i, hb => by
    have hb : bit (Nat.land (ancR a ops.toList 0) (commonAnc ops (c :: r))) i = true := hb
    rw [bit_land, Bool.and_eq_true] at hb
    rcases List.mem_cons.1 h with rfl | h
    · exact hb.1
    · exact commonAnc_bit h hb.2

theorem addBits_perm {done : Nat} {l l' : List Nat} (h : l.Perm l') (i : Nat) : bit (addBits done l) i = bit (addBits done l') i :=
  bit_eq_of (by rw [bit_addBits, bit_addBits, h.mem_iff])

theorem multiB_goes (hQ : QOk Q ∧ SumOk P Q Sm) {η : Env} {x : AX} {b : Frame} {ops : Array Oper} {done : Nat} {pend : List (Nat × Nat)} {gs ts : List Nat} {T : Tr AV} {arr : Array Value} {h h' : AH} {w : World} {st : List Nat → AH} {cs : List AFr} {cs1 : List Frame}
    {ds : List ADf} {dfs : List Deferred} {k : List AIt} {items : List Item} {ord : List Nat} (F : Ripe ops ops.size done gs) (hne : gs ≠ []) (M : Multi P T x.round.isSome ops gs ts h h' st) (hnext : h'.next = h.next)
    (B : Base P Q N0 w0 η lo cs h cs1 w) (D : DR η ops done pend ord) (ht : TmX Q (Excl ops done ord) η T arr)
    (hs : arr.size = x.n) (hx : XRel η x b) (hids : ∀ p ∈ pend, lo ≤ p.2 ∧ p.2 < h.next) (hd : concDfs Q η ds = some dfs) (hk : TdR η k items) :
    Goes P Q N0 w0 cs0 (lone (b.atR ⟨arr, dfs⟩ (.inRegion ops ord :: items)) (cs1 ++ cs0) w) (multiB P Sm x T ops done pend gs k ds cs h ts h') := by
  unfold multiB multiC
  cases distinct ts with
  | false => trivial
  | true =>
    rw [sel_true]
    cases hval : validL P Sm x ops T h pend with
    | false => trivial
    | true =>
      rw [sel_true]
      cases hripe : ripeAll ops (addBits done gs) done [] gs with
      | false => trivial
      | true =>
        rw [sel_true]
        cases hap : apart ts (keepP (commonAnc ops gs) pend) with
        | false => trivial
        | true =>
          rw [sel_true]
          cases hnew : pendNew h (keepP (commonAnc ops gs) pend) with
          | false => trivial
          | true =>
            rw [sel_true]
            cases hval2 : validL P Sm x ops T (dropAll h ts) (keepP (commonAnc ops gs) pend) with
            | false => trivial
            | true =>
              rw [sel_true]
              obtain ⟨η1, arr1, ord1, w1, g1, g2, g3, g4, g5, g6, g7, g8⟩ := lights_go (callers := cs1 ++ cs0) (dfs := dfs) (items := items) (b := b) hQ F hids hval ord B D ht hs hx
              rcases g8 with rfl | ⟨g, r, hg, rfl, hgb⟩
              · exfalso
                obtain ⟨g, hg⟩ := List.exists_mem_of_ne_nil gs hne
                obtain ⟨h4, o, ho, h5⟩ := F.2.1 g hg
                rw [g4.doneOf g h4 (by simp)] at h5; cases h5
              · have sub : ∀ p ∈ keepP (commonAnc ops gs) pend, p ∈ pend := fun p hp => (keepP_mem.1 hp).1
                have D1 : DR η1 ops done (keepP (commonAnc ops gs) pend) (g :: r) := by
                  obtain ⟨hc, hgr, hn⟩ := g4.next
                  refine ⟨g4.ok, g4.nodup, g4.lt, g4.lin, g4.closed, g4.doneOf, g4.heavy, fun i hi hbi => ?_, fun p hp hpr => g4.virt p (sub p hp) hpr, ((keepP_sub pend).map Prod.snd).nodup g4.ids⟩
                  obtain ⟨id, hid⟩ := g4.pendOf i hi hbi
                  refine ⟨id, keepP_mem.2 ⟨hid, ?_⟩⟩
                  cases ha : bit (commonAnc ops gs) i with
                  | false => rfl
                  | true =>
                    have h1 := commonAnc_bit hg ha
                    have h2 := ancR_bit hgr hc ops.toList 0 (by simp) i h1
                    rcases List.mem_cons.1 hi with rfl | hi
                    · rw [hgb] at hbi; cases hbi
                    · exact absurd hi h2
                have hgs : ∀ g ∈ gs, bit done g = false := fun g hg => by obtain ⟨_, o, _, h5⟩ := F.2.1 g hg; exact h5
                have B1 : Base P Q N0 w0 η1 lo cs (st []) cs1 w1 := by rw [M.nil]; exact g3
                obtain ⟨η', arr', ord', l', w', k1, k2, k3, k9, k4, k5, k6, k7, k8⟩ := multi_drive (callers := cs1 ++ cs0) (dfs := dfs) (items := items) (lo := lo) hQ M hgs F.2.2 hripe hnew (apart_spec hap) (fun p hp => hids p (sub p hp)) hval2 (g :: r) [] (by simp) (by simp) (by simp) B1 D1 g5 g6 g7
                have hx' := g2.trans k2
                have hd' := concDfs_mono hx'.ext hd
                have hk' := hk.mono hx'.ext
                have hbits := fun i => (addBits_perm (done := done) k3 i).symm
                have D2 : DR η' ops (addBits done gs) (keepPs ops gs (keepP (commonAnc ops gs) pend)) ord' := (k5.bits hbits).keeps fun y hy => k9 y (k3.mem_iff.2 hy)
                have ht2 : TmX Q (Excl ops (addBits done gs) ord') η' T arr' := k6.sub fun t ⟨i, hi, hbi, hdi⟩ => ⟨i, hi, by rw [hbits]; exact hbi, hdi⟩
                refine Goes.trans (Steps.trans g1 k1) (Goes.here ⟨η', lo, cs1, rfl, ⟨M.fin l' k3 k4.hr, k4.glob, by rw [hnext, ← M.next l']; exact k4.fresh, by rw [hnext, ← M.next l']; exact k4.le, k4.st⟩,
                  ⟨k8.atR _ _, k7, hd', ⟨rfl, .inr ⟨ops, _, _, none, k, ord', items, rfl, rfl, hk', D2, (fun g hg => by cases hg), ht2⟩⟩⟩, fun p hp => ?_⟩)
                have := hids p (sub p (keepPs_sub gs hp))
                exact ⟨this.1, by show p.2 < h'.next; rw [hnext]; exact this.2⟩

end
end Go.Sx
