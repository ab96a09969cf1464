/- Loops over maps: the step that lays a map aside, and the step at which the machine draws which entry is next. -/
import Derived.Test.YtkidfdiohmcjgaaGreatDoorSxChunk
namespace Go.Sx
open Go

theorem ObjRel.more {P : Program} {Q : Nat → Value} {F F' : Nat → Option (Array MapEntry × Nat)} (hF : ∀ b x, F b = some x → F' b = some x) {η : Env} {o : AObj} {base cap : Nat} {x : Obj} (h : ObjRel P Q F η o base cap x) : ObjRel P Q F' η o base cap x := by
  cases o with
  | it cur rem =>
    cases x with
    | mapIter m since seen last =>
      cases m with
      | none => exact h.elim
      | some b =>
        obtain ⟨h0, es, h1, h2⟩ := (show base = 0 ∧ ItIs Q F η cur rem b since seen last from h)
        exact ⟨h0, es, hF _ _ h1, h2⟩
    | _ => exact h.elim
  | cells ro cs e => cases x <;> first | exact h | exact h.elim
  | map es => cases x <;> first | exact h | exact h.elim
  | loop st pend fn n tmps params as body d => cases x <;> first | exact h | exact h.elim
  | dfr c => cases x <;> first | exact h | exact h.elim

section
variable {P : Program} {Sm : Sums} {Q : Nat → Value} {N0 : Keep} {w0 : World} {cs0 : List Frame}

/-- a state that waits at an operation of a region: the model's step there -/
theorem parked {x : AX} {T : Tr AV} {ops : Array Oper} {o : Oper} {rest : List Oper} {k : List AIt} {ds : List ADf} {cs : List AFr} {h : AH} {fr : Frame} {callers : List Frame} {w : World}
    (hg : o.guard = none) (hnd : ∀ c, o.op ≠ .defer c) (S : SRel P Q N0 w0 cs0 ⟨⟨x, T, .reg ops (o :: rest) :: k, ds, .run⟩, cs, h⟩ fr callers w) :
    ∃ (η : Env) (lo : Nat) (cs1 : List Frame) (arr : Array Value) (dfs : List Deferred), callers = cs1 ++ cs0 ∧ Base P Q N0 w0 η lo cs h cs1 w ∧ EvOn Q η T (Act.mk arr dfs).eval o.op.operands.toList ∧
      ∀ (y : Value) (w' : World), (execOp (Act.mk arr dfs).eval o).run P w = .ok (.value y) w' → ∃ fr', step P (lone fr callers w) = .next (lone fr' callers w') ∧
        ∀ {N1 : Keep} {w1 : World} {η' : Env} {h' : AH} {v : AV} {T' : Tr AV}, HR P Q N1 w1 η' h' w' → Grow η lo η' → Fresh η' h'.next → h.next ≤ h'.next → setT x.n T o.dst v = some T' → concV Q η' v = some y →
          SRel P Q N1 w1 cs0 ⟨⟨x, T', .reg ops rest :: k, ds, .run⟩, cs, h'⟩ fr' callers w' := by
  obtain ⟨η, lo, cs1, rfl, B, hF, hids⟩ := S
  obtain ⟨hx, hs, hd, hm, hh⟩ := hF
  obtain ⟨fn, tmps, items, defers, fm, kind, ro⟩ := fr
  simp only at hm hh hs hd
  subst hm
  have hx' : XRel η x ⟨fn, tmps, items, defers, .run, kind, ro⟩ := hx
  have e : (⟨fn, tmps, items, defers, .run, kind, ro⟩ : Frame) = Frame.atR ⟨fn, tmps, items, defers, .run, kind, ro⟩ ⟨tmps, defers⟩ items := rfl
  rcases hh with ⟨h1, ht⟩ | ⟨_, _, _, _, _, _, _, e1, _⟩
  · cases items with
    | nil => exact h1.elim
    | cons it items =>
      obtain ⟨h2, hk⟩ := h1
      cases it with
      | inRegion ops' l =>
        obtain ⟨rfl, i, hr, rfl⟩ := h2
        obtain ⟨ho, hrest, hdrop⟩ := drop_cons hr
        refine ⟨η, lo, cs1, tmps, defers, rfl, B, EvOn.of_tm (ds := defers) B.glob ht _, fun y w' hrun => ?_⟩
        rw [e, hdrop]
        have hst := stepGR_op (P := P) (b := ⟨fn, tmps, .inRegion ops ((List.range ops.size).drop i) :: items, defers, .run, kind, ro⟩) (a := ⟨tmps, defers⟩) (k := items) (cs := cs1 ++ cs0) (w := w) (rest := (List.range ops.size).drop (i + 1)) ho
          (by simp [Region.wanted, hg])
        rw [Oper.semAt_eq _ _ _ (fun c hc => hnd c hc)] at hst
        have hstep := apply_value hrun hst
        rw [finish_atR' _ tmps defers ops i _ items y ho] at hstep
        refine ⟨_, hstep, fun {N1 w1 η' h' v T'} H' hgr hfr hle hT hv => ?_⟩
        refine ⟨η', lo, cs1, rfl, B.grow' H' hgr hfr hle, ⟨(hx'.mono hgr.ext).atR _ _, (setArr_size _ _ _).trans hs, concDfs_mono hgr.ext hd, rfl, .inl ⟨⟨⟨rfl, i + 1, hrest, rfl⟩, hk.mono hgr.ext⟩, setT_rel hT hs (ht.mono hgr.ext) hv⟩⟩, fun p hp => by simp [pendOf] at hp⟩
      | _ => exact h2.elim
  · cases e1

/-- which of those that are left comes next is not told: whichever it is, it goes well -/
theorem good_next {f : FuncId} {x : AX} {T : Tr AV} {ops : Array Oper} {o : Oper} {rest : List Oper} {k : List AIt} {ds : List ADf} {cs : List AFr} {h : AH} {xo : Operand} {d id : Nat} {cur rem : List (AV × AV)}
    (hop : o.op = .next xo false) (hg : o.guard = none) (hd : o.dst = some d) (hlt : Nat.blt d x.n = true) (he : evalA T xo = some (.ptr id 0)) (ho : h.obj id = some (.it cur rem)) (hne : rem ≠ [])
    (hgood : ∀ pre e post, rem = pre ++ e :: post → Good P Sm f (.next ⟨⟨x, T.put fuel d (some (.tup [.bool true, e.1, e.2])), .reg ops rest :: k, ds, .run⟩, cs, h.upd id (some (.it [e] (pre ++ post)))⟩)) :
    Good P Sm f (.next ⟨⟨x, T, .reg ops (o :: rest) :: k, ds, .run⟩, cs, h⟩) := fun {Q N0 w0 cs0 m} hQ hmix hgo => by
  obtain ⟨fr, callers, w, hsteps, S⟩ := hgo
  obtain ⟨η, lo, cs1, arr, dfs, rfl, B, hev, hstep⟩ := parked hg (fun c hc => by rw [hop] at hc; cases hc) S
  have hx := hev.one (by rw [hop]; simp [Op.operands]) he
  obtain ⟨r, base, cap, hi, hρ⟩ := conc_ptr hx
  obtain ⟨rfl, _⟩ := B.hr.itObj ho hi
  have hρ' : (Act.mk arr dfs).eval xo = .pointer (some ⟨r, 0, none⟩) := by rw [hρ]
  rcases B.hr.next ho hi o.type with ⟨e, _⟩ | ⟨pre, e, post, kk, vv, w1, g1, g2, g3, g4, g5⟩
  · exact absurd e hne
  · have hrun : (execOp (Act.mk arr dfs).eval o).run P w = .ok (.value (.tuple #[.bool true, kk, vv])) w1 := by
      obtain ⟨dst, op, ty, pos, after, guard⟩ := o
      simp only at hop g2
      subst hop
      show ((do pure (.value (← Instr.next ((Act.mk arr dfs).eval xo) false ty)) : Sem Next).run P w) = _
      rw [hρ']
      simp [g2]
    obtain ⟨fr', h1, h2⟩ := hstep _ _ hrun
    have hS' := h2 (v := .tup [.bool true, e.1, e.2]) (T' := T.put fuel d (some (.tup [.bool true, e.1, e.2]))) g5 (Grow.refl _ _) B.fresh (Nat.le_refl _) (by rw [hd]; unfold setT; simp only [hlt, sel_true]) (by simp [concV, concVs, g3, g4])
    exact hgood pre e post g1 hQ hmix ⟨fr', _, w1, hsteps.trans (.one h1), hS'⟩

/-- a map is laid aside, and gone over -/
theorem good_range {f : FuncId} {x : AX} {T : Tr AV} {ops : Array Oper} {o : Oper} {rest : List Oper} {k : List AIt} {ds : List ADf} {cs : List AFr} {h : AH} {xo : Operand} {t : TypeId} {d id : Nat} {es : List (AV × AV)}
    (hop : o.op = .range t xo) (hg : o.guard = none) (hd : o.dst = some d) (hlt : Nat.blt d x.n = true) (hty : isMapT P t = true) (he : evalA T xo = some (.map id)) (ho : h.obj id = some (.map es))
    (hgood : Good P Sm f (.next ⟨⟨x, T.put fuel d (some (.ptr h.next 0)), .reg ops rest :: k, ds, .run⟩, cs, (h.upd id none).new (.it [] es)⟩)) :
    Good P Sm f (.next ⟨⟨x, T, .reg ops (o :: rest) :: k, ds, .run⟩, cs, h⟩) := fun {Q N0 w0 cs0 m} hQ hmix hgo => by
  obtain ⟨fr, callers, w, hsteps, S⟩ := hgo
  obtain ⟨η, lo, cs1, arr, dfs, rfl, B, hev, hstep⟩ := parked hg (fun c hc => by rw [hop] at hc; cases hc) S
  have hx := hev.one (by rw [hop]; simp [Op.operands]) he
  obtain ⟨b, base, cap, hi, hρ⟩ := conc_map hx
  have H := B.hr
  obtain ⟨entries, clock, l, _, _, hb, hl, M, _, hbn⟩ := H.map (es := es) (by unfold AH.entries; rw [ho]) hi
  obtain ⟨kt, et, hdesc⟩ := isMapT_true hty
  have hrun : (execOp (Act.mk arr dfs).eval o).run P w = .ok (.value (.pointer (some ⟨w.heap.size, 0, none⟩))) (w.alloc (.mapIter (some b) clock #[] clock)) := by
    obtain ⟨dst, op, ty, pos, after, guard⟩ := o
    simp only at hop
    subst hop
    show ((do pure (.value (← Instr.range t ((Act.mk arr dfs).eval xo))) : Sem Next).run P w) = _
    rw [hρ]
    simp [run_range_map w t kt et b entries clock (undA_some hdesc) hb]
  obtain ⟨fr', h1, h2⟩ := hstep _ _ hrun
  have lt : ∀ (b : Nat) (x : Obj), w.heap[b]? = some x → b < w.heap.size := fun b x hx => by
    rcases Nat.lt_or_ge b w.heap.size with h | h
    · exact h
    · rw [Array.getElem?_eq_none h] at hx; cases hx
  let N1 : Keep := ⟨fun b' => N0 b' ∨ b' = b, fun b' => if b' = b then some (entries, clock) else N0.f b'⟩
  have hmore : ∀ b' y, N0.f b' = some y → N1.f b' = some y := fun b' y hy => by
    show (if b' = b then some (entries, clock) else N0.f b') = some y
    by_cases hbb : b' = b
    · subst hbb
      obtain ⟨y1, y2⟩ := y
      obtain ⟨g1, g2⟩ := H.froz _ _ _ hy
      have := (H.below _ g1).trans g2
      rw [hb] at this
      cases this
      simp
    · rw [if_neg hbb]; exact hy
  have hobj : ∀ j y, (h.upd id none).obj j = some y → j ≠ id ∧ h.obj j = some y := fun j y hj => by
    rcases obj_upd hj with ⟨_, e⟩ | g
    · cases e
    · exact g
  have H1 : HR P Q N1 w η (h.upd id none) w := by
    refine ⟨fun j y hy e hη => ?_, fun i j oi oj b b1 c1 b2 c2 hi hj ei ej => H.inj i j oi oj b b1 c1 b2 c2 (hobj i oi hi).2 (hobj j oj hj).2 ei ej, fun _ _ => rfl, fun b' hb' => ?_, fun b' es' c hb' => ?_, rfl, rfl⟩
    · obtain ⟨hne, hy'⟩ := hobj j y hy
      obtain ⟨b', base', c', z, rfl, k1, k2, k3⟩ := H.obj j y hy' e hη
      refine ⟨b', base', c', z, rfl, k1, k2.more hmore, fun hro hN => ?_⟩
      rcases hN with hN | rfl
      · exact k3 hro hN
      · exact hne (H.inj j id y _ _ _ _ _ _ hy' ho hη hi)
    · rcases hb' with hb' | rfl
      · exact H.size b' hb'
      · exact lt _ _ hb
    · by_cases hbb : b' = b
      · subst hbb
        have : some (entries, clock) = some (es', c) := by have := hb'; simpa [N1] using this
        cases this
        exact ⟨.inr rfl, hb⟩
      · have : N0.f b' = some (es', c) := by have := hb'; simpa [N1, hbb] using this
        obtain ⟨g1, g2⟩ := H.froz _ _ _ this
        exact ⟨.inl g1, (H.below _ g1).trans g2⟩
  have hn : η h.next = none := B.fresh _ (Nat.le_refl _)
  have H2 := H1.new (o := .it [] es) (x := .mapIter (some b) clock #[] clock) (cap := 0) (show η (h.upd id none).next = none from hn) ⟨rfl, entries, by simp [N1], rfl, hbn, ⟨l, concEs_mono (Env.ext_with _ hn) hl, by rw [List.filter_eq_self.2 (by simp)]; exact M.perm⟩, fun e r he => by cases he⟩
  have hgr : Grow η lo (η.with h.next (.blk w.heap.size 0 0)) := ⟨Env.ext_with _ hn, fun i hi' => Env.with_ne _ _ (by have := B.le; omega)⟩
  have hfr : Fresh (η.with h.next (.blk w.heap.size 0 0)) (h.next + 1) := fun i hi' => by rw [Env.with_ne _ _ (by omega)]; exact B.fresh i (by omega)
  have hS' := h2 (η' := η.with h.next (.blk w.heap.size 0 0)) (v := .ptr h.next 0) (T' := T.put fuel d (some (.ptr h.next 0))) H2 hgr hfr (Nat.le_succ _) (by rw [hd]; unfold setT; simp only [hlt, sel_true]) (by simp [concV, Env.with_self])
  obtain ⟨hh, hend⟩ := hgood hQ hmix ⟨fr', _, _, hsteps.trans (.one h1), hS'⟩
  obtain ⟨fr2, w2, η2, y, g1, g2, g3, g4, g5⟩ := hend
  refine ⟨⟨.nil, 0⟩, fr2, w2, η2, y, g1, g2, g3, g4, fun j y hy => ?_, fun i j oi oj b b1 c1 b2 c2 hi => ?_, fun b' hb' => (g5.below b' (.inl hb')).trans (H.below b' hb'), fun b' hb' => g5.size b' (.inl hb'), H.froz, g5.io.1.trans H.io.1, g5.io.2.trans H.io.2⟩
  · rw [show (AH.mk Tr.nil 0).obj j = none from Tr.get_nilO j] at hy; cases hy
  · rw [show (AH.mk Tr.nil 0).obj i = none from Tr.get_nilO i] at hi; cases hi

theorem good_fail {f : FuncId} (h : Good P Sm f .fail) (o : Out) : Good P Sm f o := fun {Q N0 w0 cs0 m} hQ hmix _ => h (N0 := N0) (w0 := w0) (cs0 := cs0) (m := m) hQ hmix trivial

/-- a state that waits at a 'range', one on -/
noncomputable def unRO (P : Program) (s : AS) : Out :=
  match s with
  | ⟨⟨x, T, .reg ops (o :: rest) :: k, ds, .run⟩, cs, h⟩ => (match o.op with
    | .range t xo => (match o.guard with
      | some _ => .fail
      | none => (match o.dst with
        | none => .fail
        | some d => (match evalA T xo with
          | some (.map id) => (match h.obj id with
            | some (.map es) => sel (Nat.blt d x.n) (sel (isMapT P t) (.next ⟨⟨x, T.put fuel d (some (.ptr h.next 0)), .reg ops rest :: k, ds, .run⟩, cs, (h.upd id none).new (.it [] es)⟩) .fail) .fail
            | _ => .fail)
          | _ => .fail)))
    | _ => .fail)
  | _ => .fail

theorem good_unR {f : FuncId} {s : AS} (hg : Good P Sm f (unRO P s)) : Good P Sm f (.next s) := by
  unfold unRO at hg
  split at hg
  · rename_i x T ops o rest k ds cs h
    split at hg
    · rename_i t xo hop
      split at hg
      · exact good_fail hg _
      · rename_i hgd
        split at hg
        · exact good_fail hg _
        · rename_i d hd
          split at hg
          · rename_i id he
            split at hg
            · rename_i es ho
              cases h1 : Nat.blt d x.n with
              | false => rw [h1, sel_false] at hg; exact good_fail hg _
              | true =>
                rw [h1, sel_true] at hg
                cases h2 : isMapT P t with
                | false => rw [h2, sel_false] at hg; exact good_fail hg _
                | true =>
                  rw [h2, sel_true] at hg
                  exact good_range hop hgd hd h1 h2 he ho hg
            · exact good_fail hg _
          · exact good_fail hg _
    · exact good_fail hg _
  · exact good_fail hg _

/-- a state that waits where one of two is next: this one -/
noncomputable def unNO (j : Nat) (s : AS) : Out :=
  match s with
  | ⟨⟨x, T, .reg ops (o :: rest) :: k, ds, .run⟩, cs, h⟩ => (match o.op with
    | .next xo false => (match o.guard with
      | some _ => .fail
      | none => (match o.dst with
        | none => .fail
        | some d => (match evalA T xo with
          | some (.ptr id 0) => (match h.obj id with
            | some (.it _ [a, b]) => sel (Nat.blt d x.n) (match j with
              | 0 => .next ⟨⟨x, T.put fuel d (some (.tup [.bool true, a.1, a.2])), .reg ops rest :: k, ds, .run⟩, cs, h.upd id (some (.it [a] [b]))⟩
              | _ => .next ⟨⟨x, T.put fuel d (some (.tup [.bool true, b.1, b.2])), .reg ops rest :: k, ds, .run⟩, cs, h.upd id (some (.it [b] [a]))⟩) .fail
            | _ => .fail)
          | _ => .fail)))
    | _ => .fail)
  | _ => .fail

theorem good_unN {f : FuncId} {s : AS} (hg0 : Good P Sm f (unNO 0 s)) (hg1 : Good P Sm f (unNO 1 s)) : Good P Sm f (.next s) := by
  unfold unNO at hg0 hg1
  split at hg0
  · rename_i x T ops o rest k ds cs h
    simp only at hg1
    split at hg0
    · rename_i xo hop
      split at hg0
      · exact good_fail hg0 _
      · rename_i hgd
        split at hg0
        · exact good_fail hg0 _
        · rename_i d hd
          split at hg0
          · rename_i id he
            split at hg0
            · rename_i cur a b ho
              rw [hop] at hg1
              simp only [hgd, hd, he, ho] at hg1
              cases h1 : Nat.blt d x.n with
              | false => rw [h1, sel_false] at hg0; exact good_fail hg0 _
              | true =>
                rw [h1, sel_true] at hg0 hg1
                refine good_next hop hgd hd h1 he ho (by simp) fun pre e post hr => ?_
                match pre, hr with
                | [], hr => cases hr; exact fun {Q N0 w0 cs0 m} => hg0
                | [y], hr => cases hr; exact fun {Q N0 w0 cs0 m} => hg1
                | y :: z :: pre, hr =>
                  have := congrArg List.length hr
                  simp at this
            · exact good_fail hg0 _
          · exact good_fail hg0 _
    · exact good_fail hg0 _
  · exact good_fail hg0 _

/-- one part of a run, as 'Part'; numbers may be left out -/
def PartLe (P : Program) (Sm : Sums) (ks : List Nat) (o : Out) (fr : AFr) (cs : List AFr) (l : List (Nat × AObj)) (n : Nat) : Prop :=
  runs P Sm ks o = .next ⟨fr, cs, (runs P Sm ks o).heap⟩ ∧ l.map (fun p => (runs P Sm ks o).heap.obj p.1) = l.map (fun p => some p.2) ∧ Nat.ble (runs P Sm ks o).heap.next n = true

theorem partLe_goes (hQ : QOk Q ∧ SumOk P Q Sm) (hmix : P.follows .mixedOrders = true) {m : Machine} {ks : List Nat} {o : Out} {fr : AFr} {cs : List AFr} {l : List (Nat × AObj)} {n : Nat} (hp : PartLe P Sm ks o fr cs l n)
    (h : Goes P Q N0 w0 cs0 m o) : Goes P Q N0 w0 cs0 m (.next ⟨fr, cs, heapOf l n⟩) := by
  have h1 := runs_goes hQ hmix ks h
  obtain ⟨e1, e2, e3⟩ := hp
  generalize (runs P Sm ks o).heap = H at e1 e2 e3
  rw [e1] at h1
  obtain ⟨fr', callers, w, h2, η, lo, cs1, h3, B, h4, h5⟩ := h1
  have hobj : ∀ id ob, (heapOf l n).obj id = some ob → H.obj id = some ob := fun id ob ho => by
    have hm := heapOf_obj ho
    obtain ⟨i, hi, hg⟩ := List.getElem_of_mem hm
    have : (l.map fun p => H.obj p.1)[i]? = (l.map fun p => some p.2)[i]? := by rw [e2]
    simp only [List.getElem?_map, List.getElem?_eq_getElem hi, hg, Option.map_some] at this
    exact Option.some.inj this
  have hn : H.next ≤ n := Nat.le_of_ble_eq_true e3
  refine ⟨fr', callers, w, h2, η, lo, cs1, h3, ⟨B.hr.virt fun i y hi _ => hobj i y hi, B.glob, ?_, ?_, B.st⟩, h4, fun p hp => ?_⟩
  · show Fresh η n; exact fun i hi => B.fresh i (Nat.le_trans hn hi)
  · show lo ≤ n; exact Nat.le_trans B.le hn
  · have := h5 p hp
    exact ⟨this.1, Nat.lt_of_lt_of_le this.2 hn⟩

theorem good_partLe {f : FuncId} {ks : List Nat} {o : Out} {fr : AFr} {cs : List AFr} {l : List (Nat × AObj)} {n : Nat} (hp : PartLe P Sm ks o fr cs l n) (h : Good P Sm f (.next ⟨fr, cs, heapOf l n⟩)) : Good P Sm f o :=
  fun hQ hmix hg => h hQ hmix (partLe_goes hQ hmix hp hg)

end
end Go.Sx
