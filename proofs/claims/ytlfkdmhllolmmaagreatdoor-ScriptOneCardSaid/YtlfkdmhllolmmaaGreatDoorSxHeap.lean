/- What an abstract heap stands for; reads, writes, new blocks. -/
import Derived.Test.YtlfkdmhllolmmaaGreatDoorSxRel
import Derived.MapKept
namespace Go.Sx

/-- the blocks that stay as they are; the maps among them that are gone over: their entries, their clock -/
structure Keep where
  p : Nat → Prop
  f : Nat → Option (Array MapEntry × Nat)
instance : CoeFun Keep (fun _ => Nat → Prop) := ⟨Keep.p⟩
/-- all that is there -/
abbrev below (w : World) : Keep := ⟨fun b => b < w.heap.size, fun _ => none⟩

/-- the stamps of a map's entries -/
def Born (entries : Array MapEntry) (clock : Nat) : Prop := (entries.toList.map (·.born)).Nodup ∧ ∀ e ∈ entries.toList, e.born < clock

theorem Born.nil : Born #[] 0 := ⟨List.nodup_nil, fun e he => by cases he⟩
theorem Born.push {es : Array MapEntry} {c : Nat} (h : Born es c) (e : MapEntry) (he : e.born = c) : Born (es.push e) (c + 1) := by
  refine ⟨?_, fun x hx => ?_⟩
  · rw [Array.toList_push, List.map_append]
    refine List.nodup_append.2 ⟨h.1, by simp, fun a ha b hb hab => ?_⟩
    simp at hb
    subst hab
    obtain ⟨y, hy, rfl⟩ := List.mem_map.1 ha
    have := h.2 y hy
    omega
  · rw [Array.toList_push] at hx
    rcases List.mem_append.1 hx with hx | hx
    · have := h.2 x hx; omega
    · simp at hx; subst hx; omega
theorem map_modify_born : ∀ (l : List MapEntry) (i : Nat) (f : MapEntry → MapEntry), (∀ e, (f e).born = e.born) → (l.modify i f).map (·.born) = l.map (·.born)
  | [], i, f, _ => by cases i <;> simp
  | a :: r, 0, f, h => by simp [h]
  | a :: r, i + 1, f, h => by simp [map_modify_born r i f h]
theorem Born.modify {es : Array MapEntry} {c : Nat} (h : Born es c) (i : Nat) (f : MapEntry → MapEntry) (hf : ∀ e, (f e).born = e.born) : Born (es.modify i f) c := by
  have e : (es.modify i f).toList.map (·.born) = es.toList.map (·.born) := by rw [Array.toList_modify]; exact map_modify_born _ _ _ hf
  refine ⟨by rw [e]; exact h.1, fun x hx => ?_⟩
  have : x.born ∈ (es.modify i f).toList.map (·.born) := List.mem_map.2 ⟨x, hx, rfl⟩
  rw [e] at this
  obtain ⟨y, hy, hxy⟩ := List.mem_map.1 this
  rw [← hxy]; exact h.2 y hy
theorem Born.erase {es : Array MapEntry} {c : Nat} (h : Born es c) (i : Nat) : Born (es.eraseIdxIfInBounds i) c := by
  have e : (es.eraseIdxIfInBounds i).toList = es.toList.eraseIdx i := by
    unfold Array.eraseIdxIfInBounds
    split
    · simp
    · rename_i hlt
      rw [List.eraseIdx_of_length_le (by simpa using hlt)]
  refine ⟨?_, fun x hx => h.2 x ?_⟩
  · rw [e]
    exact List.Nodup.sublist ((List.eraseIdx_sublist es.toList i).map _) h.1
  · rw [e] at hx
    exact (List.eraseIdx_sublist es.toList i).subset hx

section
variable (P : Program) (Q : Nat → Value) (F : Nat → Option (Array MapEntry × Nat)) (N0 : Keep) (w0 : World)

def CellsRel (η : Env) (cs : List AV) (base : Nat) (c : Array Value) : Prop :=
  ∀ (j : Nat) (v : AV), cs[j]? = some v → ∃ x, c[base + j]? = some x ∧ concV Q η v = some x

def NotFrozen (c : Array Value) (fr : Nat × Nat) : Prop := (∀ j, j < c.size → ¬ (fr.1 ≤ j ∧ j < fr.2)) ∧ fr.1 ≤ fr.2

def DfrRel (η : Env) : Option (List ADf) → Option (List Deferred) → Prop
  | none, none => True
  | some l, some xs => concDfs Q η l = some xs
  | _, _ => False

/-- going over a map: what was given last, what is left -/
def ItIs (η : Env) (cur rem : List (AV × AV)) (b since : Nat) (seen : Array Nat) (last : Nat) : Prop :=
  ∃ es, F b = some (es, since) ∧ last = since ∧ Born es since ∧ (∃ l, concEs Q η rem = some l ∧ ((es.toList.filter fun e => !seen.contains e.born).map fun e => (e.key, e.val)).Perm l) ∧
    ∀ e r, cur = e :: r → ∃ me, me ∈ es.toList ∧ seen.back? = some me.born ∧ concV Q η e.1 = some me.key ∧ concV Q η e.2 = some me.val

def ObjRel (η : Env) : AObj → Nat → Nat → Obj → Prop
  | .cells _ cs elem, base, cap, .cells c e fr => e = elem ∧ CellsRel Q η cs base c ∧ NotFrozen c fr ∧ base + cap * P.cellsOf elem ≤ c.size
  | .map es, _, _, .map entries clock => Born entries clock ∧ ∃ l, concEs Q η es = some l ∧ (entries.toList.map fun e => (e.key, e.val)).Perm l ∧ (l.map Prod.fst).Nodup ∧ ∃ d, ∀ a ∈ l.map Prod.fst, MapKept.IsKey d a
  | .loop st pend fn n tmps params as body d, _, _, .loop L => L.state = st ∧ L.pending = pend ∧ L.fn = fn ∧ L.tmps.size = n ∧ TmRel Q η tmps L.tmps ∧
      L.params = params.toArray ∧ L.assign = as ∧ L.body = body ∧ ∃ base cap, η d = some (.blk L.defers base cap)
  | .dfr calls, _, _, .deferred calls' => DfrRel Q η calls calls'
  | .it cur rem, base, _, .mapIter (some b) since seen last => base = 0 ∧ ItIs Q F η cur rem b since seen last
  | _, _, _, _ => False

def isRo : AObj → Bool
  | .cells ro _ _ => ro
  | _ => false

structure HR (η : Env) (h : AH) (w : World) : Prop where
  obj : ∀ id o, h.obj id = some o → ∀ e, η id = some e → ∃ b base cap x, e = .blk b base cap ∧ w.heap[b]? = some x ∧ ObjRel P Q N0.f η o base cap x ∧ (isRo o = false → ¬ N0 b)
  inj : ∀ i j oi oj b b1 c1 b2 c2, h.obj i = some oi → h.obj j = some oj → η i = some (.blk b b1 c1) → η j = some (.blk b b2 c2) → i = j
  below : ∀ b, N0 b → w.heap[b]? = w0.heap[b]?
  size : ∀ b, N0 b → b < w.heap.size
  froz : ∀ b es c, N0.f b = some (es, c) → N0 b ∧ w0.heap[b]? = some (.map es c)
  io : w.os = w0.os ∧ w.output = w0.output

variable {P Q F N0 w0}

theorem CellsRel.mono {η η' : Env} (hx : Ext η η') {cs : List AV} {base : Nat} {c : Array Value} (h : CellsRel Q η cs base c) : CellsRel Q η' cs base c :=
  fun j v hv => let ⟨x, h1, h2⟩ := h j v hv; ⟨x, h1, concV_mono hx v h2⟩

theorem ItIs.mono {η η' : Env} (hx : Ext η η') {cur rem : List (AV × AV)} {b since : Nat} {seen : Array Nat} {last : Nat} (h : ItIs Q F η cur rem b since seen last) : ItIs Q F η' cur rem b since seen last := by
  obtain ⟨es, h1, h2, h3, ⟨l, h4, h5⟩, h6⟩ := h
  refine ⟨es, h1, h2, h3, ⟨l, concEs_mono hx h4, h5⟩, fun e r he => ?_⟩
  obtain ⟨me, g1, g2, g3, g4⟩ := h6 e r he
  exact ⟨me, g1, g2, concV_mono hx _ g3, concV_mono hx _ g4⟩

theorem ObjRel.mono {η η' : Env} (hx : Ext η η') : ∀ {o : AObj} {base cap : Nat} {x : Obj}, ObjRel P Q F η o base cap x → ObjRel P Q F η' o base cap x
  | .cells _ cs elem, base, cap, .cells c e fr, h => ⟨h.1, h.2.1.mono hx, h.2.2⟩
  | .map es, _, _, .map entries _, ⟨hb, l, h1, h2⟩ => ⟨hb, l, concEs_mono hx h1, h2⟩
  | .it _ _, _, _, .mapIter (some _) _ _ _, h => ⟨h.1, ItIs.mono hx h.2⟩
  | .it _ _, _, _, .mapIter none _ _ _, h => h.elim
  | .loop st pend fn n tmps params as body d, _, _, .loop L, ⟨h1, h2, h3, h4, h5, h6, h7, h8, b, c, h9⟩ => ⟨h1, h2, h3, h4, h5.mono hx, h6, h7, h8, b, c, hx _ _ h9⟩
  | .dfr none, _, _, .deferred none, _ => trivial
  | .dfr (some l), _, _, .deferred (some xs), h => concDfs_mono hx (Q := Q) (l := l) (xs := xs) h
  | .dfr none, _, _, .deferred (some _), h => h.elim
  | .dfr (some _), _, _, .deferred none, h => h.elim
  | .cells .., _, _, .pending .., h | .cells .., _, _, .view .., h | .cells .., _, _, .number .., h | .cells .., _, _, .map .., h | .cells .., _, _, .chan .., h
  | .cells .., _, _, .stringIter .., h | .cells .., _, _, .mapIter .., h | .cells .., _, _, .loop .., h | .cells .., _, _, .deferred .., h | .cells .., _, _, .coro .., h | .cells .., _, _, .finalizers .., h
  | .map .., _, _, .cells .., h | .map .., _, _, .pending .., h | .map .., _, _, .view .., h | .map .., _, _, .number .., h | .map .., _, _, .chan .., h
  | .map .., _, _, .stringIter .., h | .map .., _, _, .mapIter .., h | .map .., _, _, .loop .., h | .map .., _, _, .deferred .., h | .map .., _, _, .coro .., h | .map .., _, _, .finalizers .., h
  | .loop .., _, _, .cells .., h | .loop .., _, _, .pending .., h | .loop .., _, _, .view .., h | .loop .., _, _, .number .., h | .loop .., _, _, .map .., h | .loop .., _, _, .chan .., h
  | .loop .., _, _, .stringIter .., h | .loop .., _, _, .mapIter .., h | .loop .., _, _, .deferred .., h | .loop .., _, _, .coro .., h | .loop .., _, _, .finalizers .., h
  | .dfr _, _, _, .cells .., h | .dfr _, _, _, .pending .., h | .dfr _, _, _, .view .., h | .dfr _, _, _, .number .., h | .dfr _, _, _, .map .., h | .dfr _, _, _, .chan .., h
  | .it .., _, _, .cells .., h | .it .., _, _, .pending .., h | .it .., _, _, .view .., h | .it .., _, _, .number .., h | .it .., _, _, .map .., h | .it .., _, _, .chan .., h
  | .it .., _, _, .stringIter .., h | .it .., _, _, .loop .., h | .it .., _, _, .deferred .., h | .it .., _, _, .coro .., h | .it .., _, _, .finalizers .., h
  | .dfr _, _, _, .stringIter .., h | .dfr _, _, _, .mapIter .., h | .dfr _, _, _, .loop .., h | .dfr _, _, _, .coro .., h | .dfr _, _, _, .finalizers .., h => h.elim

theorem HR.of_heap {η : Env} {h : AH} {w w' : World} (H : HR P Q N0 w0 η h w) (e : w'.heap = w.heap) (hio : w'.os = w.os ∧ w'.output = w.output := by exact ⟨rfl, rfl⟩) : HR P Q N0 w0 η h w' :=
  ⟨fun id o ho x hx => by rw [e]; exact H.obj id o ho x hx, H.inj, fun b hb => by rw [e]; exact H.below b hb, by rw [e]; exact H.size, H.froz, hio.1.trans H.io.1, hio.2.trans H.io.2⟩

/-- a heap is what its blocks are -/
theorem HR.congr {η : Env} {h h' : AH} {w : World} (H : HR P Q N0 w0 η h w) (he : ∀ i, h'.obj i = h.obj i) : HR P Q N0 w0 η h' w :=
  ⟨fun id o ho => H.obj id o (by rw [← he]; exact ho), fun i j oi oj b b1 c1 b2 c2 hi hj => H.inj i j oi oj b b1 c1 b2 c2 (by rw [← he]; exact hi) (by rw [← he]; exact hj), H.below, H.size, H.froz, H.io⟩

theorem obj_upd {h : AH} {id : Nat} {v : Option AObj} {j : Nat} {o : AObj} (hj : (h.upd id v).obj j = some o) : (j = id ∧ v = some o) ∨ (j ≠ id ∧ h.obj j = some o) :=
  Tr.get_putO fuel h.heap id v j o hj

theorem obj_new {h : AH} {v : AObj} {j : Nat} {o : AObj} (hj : (h.new v).obj j = some o) : (j = h.next ∧ v = o) ∨ (j ≠ h.next ∧ h.obj j = some o) := by
  rcases Tr.get_putO fuel h.heap h.next (some v) j o hj with ⟨e, e2⟩ | h
  · cases e2; exact .inl ⟨e, rfl⟩
  · exact .inr h

/-- the environment with a new block -/
def Env.with (η : Env) (id : Nat) (e : Ent) : Env := fun i => if i = id then some e else η i

theorem Env.with_self (η : Env) (id : Nat) (e : Ent) : η.with id e id = some e := by simp [Env.with]
theorem Env.with_ne (η : Env) {id i : Nat} (e : Ent) (h : i ≠ id) : η.with id e i = η i := by simp [Env.with, h]
theorem Env.ext_with {η : Env} {id : Nat} (e : Ent) (h : η id = none) : Ext η (η.with id e) := fun i x hx => by
  by_cases hi : i = id
  · subst hi; rw [h] at hx; cases hx
  · rw [Env.with_ne η e hi]; exact hx

/-- a new block, at a number that is free -/
theorem HR.newAt {η : Env} {h : AH} {w : World} (H : HR P Q N0 w0 η h w) {id : Nat} (hid : η id = none) {o : AObj} {x : Obj} {cap : Nat}
    (ho : ObjRel P Q N0.f (η.with id (.blk w.heap.size 0 cap)) o 0 cap x) {h' : AH}
    (hobj : ∀ j y, h'.obj j = some y → (j = id ∧ o = y) ∨ (j ≠ id ∧ h.obj j = some y)) :
    HR P Q N0 w0 (η.with id (.blk w.heap.size 0 cap)) h' (w.alloc x) := by
  have hx := Env.ext_with (.blk w.heap.size 0 cap) hid
  refine ⟨fun i y hy e he => ?_, fun i j oi oj b b1 c1 b2 c2 hi hj ei ej => ?_, fun b hb => ?_, ?_, H.froz, H.io⟩
  · rcases hobj i y hy with ⟨rfl, rfl⟩ | ⟨hne, hy'⟩
    · rw [Env.with_self] at he; cases he
      exact ⟨_, 0, cap, x, rfl, (by show (w.heap.push x)[w.heap.size]? = some x; simp), ho, fun _ hk => Nat.lt_irrefl _ (H.size _ hk)⟩
    · rw [Env.with_ne _ _ hne] at he
      obtain ⟨b, base, c, z, rfl, h1, h2, h3⟩ := H.obj i y hy' e he
      have hlt : b < w.heap.size := by
        rcases Nat.lt_or_ge b w.heap.size with h | h
        · exact h
        · simp [Array.getElem?_eq_none h] at h1
      exact ⟨b, base, c, z, rfl, (by show (w.heap.push x)[b]? = some z; rw [Array.getElem?_push_lt hlt, ← h1, Array.getElem?_eq_getElem hlt]), h2.mono hx, h3⟩
  · have old : ∀ (k : Nat) (ok : AObj) (bk ck : Nat), h.obj k = some ok → η k = some (.blk w.heap.size bk ck) → False := fun k ok bk ck hk ek => by
      obtain ⟨b', base, c, z, e', h1, _⟩ := H.obj k ok hk _ ek
      cases e'
      simp at h1
    rcases hobj i oi hi with ⟨rfl, rfl⟩ | ⟨hni, hi'⟩
    · rcases hobj j oj hj with ⟨rfl, rfl⟩ | ⟨hnj, hj'⟩
      · rfl
      · rw [Env.with_self] at ei; cases ei
        rw [Env.with_ne _ _ hnj] at ej
        exact (old j oj _ _ hj' ej).elim
    · rw [Env.with_ne _ _ hni] at ei
      rcases hobj j oj hj with ⟨rfl, rfl⟩ | ⟨hnj, hj'⟩
      · rw [Env.with_self] at ej; cases ej
        exact (old i oi _ _ hi' ei).elim
      · rw [Env.with_ne _ _ hnj] at ej
        exact H.inj i j oi oj b b1 c1 b2 c2 hi' hj' ei ej
  · have := H.size b hb
    show (w.heap.push x)[b]? = _
    rw [Array.getElem?_push, if_neg (by omega)]
    exact H.below b hb
  · intro b hb; have := H.size b hb; rw [World.size_alloc]; omega

theorem HR.new {η : Env} {h : AH} {w : World} (H : HR P Q N0 w0 η h w) (hn : η h.next = none) {o : AObj} {x : Obj} {cap : Nat}
    (ho : ObjRel P Q N0.f (η.with h.next (.blk w.heap.size 0 cap)) o 0 cap x) :
    HR P Q N0 w0 (η.with h.next (.blk w.heap.size 0 cap)) (h.new o) (w.alloc x) :=
  H.newAt hn ho fun j y hj => obj_new hj

/-- a block is written -/
theorem HR.put {η : Env} {h : AH} {w w' : World} (H : HR P Q N0 w0 η h w) {id b base cap : Nat} {o o' : AObj} {x' : Obj} (hid : h.obj id = some o) (he : η id = some (.blk b base cap))
    (hro : isRo o = false) (hb : w'.heap[b]? = some x') (hother : ∀ b', b' ≠ b → w'.heap[b']? = w.heap[b']?) (hs : w'.heap.size = w.heap.size)
    (ho : ObjRel P Q N0.f η o' base cap x') (hio : w'.os = w.os ∧ w'.output = w.output := by exact ⟨rfl, rfl⟩) : HR P Q N0 w0 η (h.upd id (some o')) w' := by
  have hN : ¬ N0 b := by obtain ⟨b1, base1, c1, z, e1, _, _, h3⟩ := H.obj id o hid _ he; cases e1; exact h3 hro
  refine ⟨fun i y hy e hie => ?_, fun i j oi oj b3 b1 c1 b2 c2 hi hj ei ej => ?_, fun b1 hb1 => ?_, by rw [hs]; exact H.size, H.froz, hio.1.trans H.io.1, hio.2.trans H.io.2⟩
  · rcases obj_upd hy with ⟨rfl, e2⟩ | ⟨hne, hy'⟩
    · cases e2
      rw [he] at hie; cases hie
      exact ⟨b, base, cap, x', rfl, hb, ho, fun _ => hN⟩
    · obtain ⟨b1, base1, c1, z, rfl, h1, h2, h3⟩ := H.obj i y hy' e hie
      refine ⟨b1, base1, c1, z, rfl, ?_, h2, h3⟩
      rw [hother b1 (fun hbb => hne (H.inj i id y o b1 base1 c1 base cap hy' hid hie (hbb ▸ he)))]
      exact h1
  · rcases obj_upd hi with ⟨rfl, _⟩ | ⟨hni, hi'⟩ <;> rcases obj_upd hj with ⟨rfl, _⟩ | ⟨hnj, hj'⟩
    · rfl
    · exact H.inj _ _ o oj _ _ _ _ _ hid hj' ei ej
    · exact H.inj _ _ oi o _ _ _ _ _ hi' hid ei ej
    · exact H.inj _ _ oi oj _ _ _ _ _ hi' hj' ei ej
  · rw [hother b1 (fun e => hN (e ▸ hb1))]; exact H.below b1 hb1

theorem HR.drop {η : Env} {h : AH} {w : World} (H : HR P Q N0 w0 η h w) (id : Nat) : HR P Q N0 w0 η (h.upd id none) w := by
  have hobj : ∀ j o, (h.upd id none).obj j = some o → j ≠ id ∧ h.obj j = some o := fun j o hj => by
    rcases obj_upd hj with ⟨_, e⟩ | h
    · cases e
    · exact h
  exact ⟨fun i y hy e he => H.obj i y (hobj i y hy).2 e he, fun i j oi oj b b1 c1 b2 c2 hi hj ei ej => H.inj i j oi oj b b1 c1 b2 c2 (hobj i oi hi).2 (hobj j oj hj).2 ei ej,
    H.below, H.size, H.froz, H.io⟩

/-- a number more is used up, that is no block's -/
theorem HR.bump {η : Env} {h : AH} {w : World} (H : HR P Q N0 w0 η h w) (hn : η h.next = none) (e : Ent) {h' : AH} (hobj : ∀ j o, h'.obj j = some o → j ≠ h.next ∧ h.obj j = some o) :
    HR P Q N0 w0 (η.with h.next e) h' w := by
  have hx := Env.ext_with e hn
  refine ⟨fun i y hy e' he => ?_, fun i j oi oj b b1 c1 b2 c2 hi hj ei ej => ?_, H.below, H.size, H.froz, H.io⟩
  · obtain ⟨hne, hy'⟩ := hobj i y hy
    rw [Env.with_ne _ _ hne] at he
    obtain ⟨b, base, c, z, h0, h1, h2, h3⟩ := H.obj i y hy' e' he
    exact ⟨b, base, c, z, h0, h1, h2.mono hx, h3⟩
  · obtain ⟨hni, hi'⟩ := hobj i oi hi
    obtain ⟨hnj, hj'⟩ := hobj j oj hj
    rw [Env.with_ne _ _ hni] at ei
    rw [Env.with_ne _ _ hnj] at ej
    exact H.inj i j oi oj b b1 c1 b2 c2 hi' hj' ei ej

/-! ## Rows of cells -/
theorem row_obj {h : AH} {id : Nat} {cs : List AV} {e : TypeId} (hr : h.row id = some (cs, e)) : ∃ ro, h.obj id = some (.cells ro cs e) := by
  unfold AH.row objRow at hr
  split at hr
  · rename_i ro cs' e' ho; cases hr; exact ⟨ro, ho⟩
  · cases hr

theorem rowW_obj {h : AH} {id : Nat} {cs : List AV} {e : TypeId} (hr : h.rowW id = some (cs, e)) : h.obj id = some (.cells false cs e) := by
  unfold AH.rowW objRowW at hr
  split at hr
  · rename_i ro cs' e' ho
    cases ro with
    | true => cases hr
    | false => cases hr; exact ho
  · cases hr

theorem HR.cells {η : Env} {h : AH} {w : World} (H : HR P Q N0 w0 η h w) {id b base cap : Nat} {ro : Bool} {cs : List AV} {e : TypeId} (ho : h.obj id = some (.cells ro cs e)) (he : η id = some (.blk b base cap)) :
    ∃ c fr, w.heap[b]? = some (.cells c e fr) ∧ CellsRel Q η cs base c ∧ NotFrozen c fr ∧ base + cap * P.cellsOf e ≤ c.size ∧ (ro = false → ¬ N0 b) := by
  obtain ⟨b1, base1, c1, z, e1, h1, h2, h3⟩ := H.obj id _ ho _ he
  cases e1
  cases z with
  | cells c e' fr =>
    obtain ⟨rfl, h5, h6, h7⟩ := h2
    exact ⟨c, fr, h1, h5, h6, h7, fun hr => h3 (by simpa [isRo] using hr)⟩
  | _ => exact h2.elim

theorem cell_at {w : World} {b o : Nat} {c : Array Value} {e : TypeId} {fr : Nat × Nat} (hb : w.heap[b]? = some (.cells c e fr)) : w.cell? ⟨b, o, none⟩ = c[o]? := by
  simp [World.cell?, hb]

theorem add_at (b o n : Nat) : (⟨b, o, none⟩ : Addr).add n = ⟨b, o + n, none⟩ := by
  unfold Addr.add
  split
  · rename_i h; subst h; rfl
  · rfl

theorem run_loadCellsFrom {w : World} {b o : Nat} {c : Array Value} {e : TypeId} {fr : Nat × Nat} (hb : w.heap[b]? = some (.cells c e fr)) :
    ∀ (xs : List Value) (i : Nat) (acc : Array Value), (∀ j, j < xs.length → c[o + i + j]? = xs[j]?) →
      (loadCellsFrom ⟨b, o, none⟩ i xs.length acc).run P w = .ok (acc ++ xs.toArray) w := by
  intro xs
  induction xs with
  | nil => intro i acc _; simp [loadCellsFrom]
  | cons x r ih =>
    intro i acc h
    have h0 := h 0 (by simp)
    simp only [List.length_cons, loadCellsFrom, Sem.run_bind, run_load, add_at, cell_at hb]
    simp only [Nat.add_zero, List.getElem?_cons_zero] at h0
    rw [h0]
    simp only [Result.andThen_ok]
    rw [ih (i + 1) (acc.push x) (fun j hj => by
      have := h (j + 1) (by simp; omega)
      simp only [List.getElem?_cons_succ] at this
      rw [← this]; congr 1; omega)]
    simp

theorem run_loadCells {w : World} {b o : Nat} {c : Array Value} {e : TypeId} {fr : Nat × Nat} (hb : w.heap[b]? = some (.cells c e fr)) (xs : List Value)
    (h : ∀ j, j < xs.length → c[o + j]? = xs[j]?) {n : Nat} (hn : n = xs.length) : (loadCells ⟨b, o, none⟩ n).run P w = .ok ⟨xs⟩ w := by
  subst hn
  have := run_loadCellsFrom (P := P) hb xs 0 #[] (by simpa using h)
  simpa [loadCells] using this

/-- what a row's part stands for -/
theorem CellsRel.part {η : Env} {cs : List AV} {base : Nat} {c : Array Value} (h : CellsRel Q η cs base c) {off n : Nat} {l : List AV} (hl : ltake cs off n = some l) :
    ∃ xs, concVs Q η l = some xs ∧ xs.length = n ∧ ∀ j, j < n → c[base + off + j]? = xs[j]? := by
  have hlen := ltake_length hl
  obtain ⟨xs, h1, h2⟩ := concVs_of_get (Q := Q) (η := η) (l := l) (fun i => c[base + off + i]?) (fun i v hv => by
    have hi : i < n := by
      rcases Nat.lt_or_ge i n with h | h
      · exact h
      · rw [List.getElem?_eq_none (by omega)] at hv; cases hv
    rw [ltake_get hl i hi] at hv
    obtain ⟨x, h3, h4⟩ := h _ _ hv
    exact ⟨x, by rw [← h3]; congr 1; omega, h4⟩)
  exact ⟨xs, h1, by rw [concVs_length h1, hlen], fun j hj => (h2 j (by omega)).symm⟩

/-! ## Stores -/
theorem oneCell_of {η : Env} (hQ : QOk Q) {v : AV} {x : Value} (h1 : oneA v = true) (h : concV Q η v = some x) : x.oneCell' = true := by
  cases v
  case agg => cases (show false = true from h1)
  case tup => cases (show false = true from h1)
  all_goals
    simp only [concV] at h
    first
    | (cases h; rfl)
    | (cases h; exact hQ.1 _)
    | (split at h <;> first | (cases h; rfl) | (split at h <;> first | (cases h; rfl) | cases h) | cases h)

/-- a world in which cells of one block are others -/
structure Wrote (w w' : World) (b : Nat) (c c' : Array Value) (e : TypeId) (fr : Nat × Nat) : Prop where
  here : w'.heap[b]? = some (.cells c' e fr)
  other : ∀ b', b' ≠ b → w'.heap[b']? = w.heap[b']?
  size : w'.heap.size = w.heap.size
  len : c'.size = c.size
  io : w'.os = w.os ∧ w'.output = w.output

theorem setCell_wrote {w : World} {b o : Nat} {c : Array Value} {e : TypeId} {fr : Nat × Nat} (hb : w.heap[b]? = some (.cells c e fr)) (x : Value) :
    Wrote w (w.setCell ⟨b, o, none⟩ x) b c (c.setIfInBounds o x) e fr := by
  refine ⟨?_, fun b' h => ?_, by simp, by simp, rfl, rfl⟩
  · simp [World.setCell, Array.getElem?_modify, hb]
  · simp [World.setCell, Array.getElem?_modify, Ne.symm h]

theorem run_storeCells : ∀ (xs : List Value) (i : Nat) {w : World} {b o : Nat} {c : Array Value} {e : TypeId} {fr : Nat × Nat}, w.heap[b]? = some (.cells c e fr) →
    (∀ x ∈ xs, x.oneCell' = true) → NotFrozen c fr → o + i + xs.length ≤ c.size →
    ∃ w' c', (storeCells ⟨b, o, none⟩ xs i).run P w = .ok () w' ∧ Wrote w w' b c c' e fr ∧ ∀ j, c'[j]? = if o + i ≤ j ∧ j < o + i + xs.length then xs[j - (o + i)]? else c[j]? := by
  intro xs
  induction xs with
  | nil => intro i w b o c e fr hb _ _ _; exact ⟨w, c, rfl, ⟨hb, fun _ _ => rfl, rfl, rfl, rfl, rfl⟩, fun j => by rw [if_neg (by simp)]⟩
  | cons x r ih =>
    intro i w b o c e fr hb h1 hf hl
    simp only [List.length_cons] at hl
    have hlt : o + i < c.size := by omega
    have hx := h1 x (by simp)
    have hfz : w.frozen? ⟨b, o + i, none⟩ = false := by
      have := hf.1 (o + i) hlt
      obtain ⟨lo, hi⟩ := fr
      simp only [World.frozen?, hb]
      simp only at this
      simp; omega
    have w1 := setCell_wrote (o := o + i) hb x
    obtain ⟨w', c', h2, h3, h4⟩ := ih (i + 1) (w := w.setCell ⟨b, o + i, none⟩ x) (b := b) (o := o) w1.here (fun y hy => h1 y (by simp [hy])) ⟨fun j hj => hf.1 j (by simpa using hj), hf.2⟩ (by simp; omega)
    refine ⟨w', c', ?_, ⟨h3.here, fun b' hb' => (h3.other b' hb').trans (w1.other b' hb'), h3.size.trans w1.size, h3.len.trans w1.len, h3.io.1.trans w1.io.1, h3.io.2.trans w1.io.2⟩, fun j => ?_⟩
    · simp only [storeCells, Sem.run_bind, add_at, run_store P w _ x .plain hx, cell_at hb, Array.getElem?_eq_getElem hlt, hfz, Bool.false_eq_true, if_false, Result.andThen_ok]
      exact h2
    · rw [h4 j]
      simp only [List.length_cons]
      by_cases e1 : j = o + i
      · subst e1
        rw [if_neg (by omega), if_pos (by omega)]
        simp [hlt]
      · by_cases c1 : o + (i + 1) ≤ j ∧ j < o + (i + 1) + r.length
        · rw [if_pos c1, if_pos (by omega)]
          obtain ⟨d, rfl⟩ : ∃ d, j = o + (i + 1) + d := ⟨j - (o + (i + 1)), by omega⟩
          rw [show o + (i + 1) + d - (o + (i + 1)) = d by omega, show o + (i + 1) + d - (o + i) = d + 1 by omega]
          simp
        · rw [if_neg c1, if_neg (by omega), Array.getElem?_setIfInBounds_ne (by omega)]

theorem ones_spec {η : Env} (hQ : QOk Q) : ∀ {l : List AV} {xs : List Value}, ones l = true → concVs Q η l = some xs → ∀ x ∈ xs, x.oneCell' = true
  | [], _, _, h => by cases h; simp
  | v :: r, _, h1, h => by
    obtain ⟨x, m, rfl, h2, h3⟩ := concVs_cons h
    unfold ones at h1
    cases ho : oneA v with
    | false => rw [ho] at h1; cases h1
    | true =>
      rw [ho] at h1
      intro y hy
      rcases List.mem_cons.1 hy with rfl | hy
      · exact oneCell_of hQ ho h2
      · exact ones_spec hQ h1 h3 y hy

/-- cells are written -/
theorem HR.write {η : Env} {h h' : AH} {w : World} (hQ : QOk Q) (H : HR P Q N0 w0 η h w) {id off b base cap : Nat} {vs : List AV} {xs : List Value} (he : η id = some (.blk b base cap))
    (hw : writeA h id off vs = some h') (hv : concVs Q η vs = some xs) :
    ∃ w', (storeCells ⟨b, base + off, none⟩ xs 0).run P w = .ok () w' ∧ HR P Q N0 w0 η h' w' ∧ h'.next = h.next := by
  unfold writeA at hw
  cases hr : h.rowW id with
  | none => rw [hr] at hw; cases hw
  | some r =>
    obtain ⟨cs, e⟩ := r
    rw [hr] at hw
    simp only [sel_some, Bool.and_eq_true, ble_iff, llen_eq] at hw
    obtain ⟨⟨h1, h2⟩, h3⟩ := hw
    have ho := rowW_obj hr
    obtain ⟨c, fr, hb, hc, hf, hcap, hN⟩ := H.cells ho he
    have hlen := concVs_length hv
    have hcl : base + cs.length ≤ c.size := by
      cases hcs : cs with
      | nil =>
        have : base ≤ c.size := by omega
        simpa using this
      | cons a l =>
        have hlast : cs[cs.length - 1]? = some (cs[cs.length - 1]'(by rw [hcs]; simp)) := List.getElem?_eq_getElem _
        obtain ⟨x, hx, _⟩ := hc _ _ hlast
        have : base + (cs.length - 1) < c.size := by
          rcases Nat.lt_or_ge (base + (cs.length - 1)) c.size with h | h
          · exact h
          · rw [Array.getElem?_eq_none h] at hx; cases hx
        have hpos : 0 < cs.length := by rw [hcs]; simp
        rw [← hcs]; omega
    obtain ⟨w', c', h4, h5, h6⟩ := run_storeCells (P := P) xs 0 (b := b) (o := base + off) hb (ones_spec hQ h1 hv) hf (by omega)
    refine ⟨w', h4, ?_⟩
    have main : HR P Q N0 w0 η (h.upd id (some (.cells false (lsets vs cs off) e))) w' := by
      refine H.put ho he rfl h5.here h5.other h5.size ⟨rfl, fun j v hv' => ?_, ⟨fun j hj => hf.1 j (by rw [← h5.len]; exact hj), hf.2⟩, by rw [h5.len]; exact hcap⟩ h5.io
      rw [lsets_get _ _ _ _ h2] at hv'
      rw [h6]
      by_cases hin : off ≤ j ∧ j < off + vs.length
      · rw [if_pos hin] at hv'
        rw [if_pos (by omega)]
        obtain ⟨x, hx, hcx⟩ := concVs_get hv _ _ hv'
        exact ⟨x, by rw [← hx]; congr 1; omega, hcx⟩
      · rw [if_neg hin] at hv'
        rw [if_neg (by omega)]
        exact hc j v hv'
    cases hls : lsets vs cs off with
    | nil => rw [hls] at h3; cases h3
    | cons a l =>
      rw [hls] at h3 main
      cases h3
      exact ⟨main, rfl⟩

end
end Go.Sx
