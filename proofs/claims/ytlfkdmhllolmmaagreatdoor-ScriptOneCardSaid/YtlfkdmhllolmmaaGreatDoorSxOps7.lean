/- Append, copy, make: the operations. -/
import Derived.Test.YtlfkdmhllolmmaaGreatDoorSxOps6
namespace Go.Sx
open Go

section
variable {P : Program} {Q : Nat → Value} {N0 : Keep} {w0 : World} {η : Env} {h : AH} {w : World}

/-- a block goes on under a new number -/
theorem HR.retake (H : HR P Q N0 w0 η h w) {id b base cap nid base' cap' : Nat} {o o' : AObj} {w' : World} {x' : Obj} (hid : h.obj id = some o) (he : η id = some (.blk b base cap))
    (hro : isRo o = false) (hn : η nid = none) (hb : w'.heap[b]? = some x') (hother : ∀ b', b' ≠ b → w'.heap[b']? = w.heap[b']?) (hs : w'.heap.size = w.heap.size)
    (ho : ObjRel P Q N0.f (η.with nid (.blk b base' cap')) o' base' cap' x') {h' : AH} (hobj : ∀ j y, h'.obj j = some y → (j = nid ∧ o' = y) ∨ (j ≠ nid ∧ j ≠ id ∧ h.obj j = some y))
    (hio : w'.os = w.os ∧ w'.output = w.output := by exact ⟨rfl, rfl⟩) : HR P Q N0 w0 (η.with nid (.blk b base' cap')) h' w' := by
  have hN : ¬ N0 b := by obtain ⟨b1, base1, c1, z, e1, _, _, h3⟩ := H.obj id o hid _ he; cases e1; exact h3 hro
  have hx := Env.ext_with (.blk b base' cap') hn
  refine ⟨fun i y hy e hie => ?_, fun i j oi oj b3 b1 c1 b2 c2 hi hj ei ej => ?_, fun b1 hb1 => ?_, by rw [hs]; exact H.size, H.froz, hio.1.trans H.io.1, hio.2.trans H.io.2⟩
  · rcases hobj i y hy with ⟨rfl, rfl⟩ | ⟨hne, hne2, hy'⟩
    · rw [Env.with_self] at hie; cases hie
      exact ⟨b, base', cap', x', rfl, hb, ho, fun _ => hN⟩
    · rw [Env.with_ne _ _ hne] at hie
      obtain ⟨b1, base1, c1, z, rfl, h1, h2, h3⟩ := H.obj i y hy' e hie
      refine ⟨b1, base1, c1, z, rfl, ?_, h2.mono hx, h3⟩
      rw [hother b1 (fun hbb => hne2 (H.inj i id y o b1 base1 c1 base cap hy' hid hie (hbb ▸ he)))]
      exact h1
  · rcases hobj i oi hi with ⟨rfl, rfl⟩ | ⟨hni, hni2, hi'⟩ <;> rcases hobj j oj hj with ⟨rfl, rfl⟩ | ⟨hnj, hnj2, hj'⟩
    · rfl
    · rw [Env.with_self] at ei; cases ei
      rw [Env.with_ne _ _ hnj] at ej
      exact (hnj2 (H.inj j id oj o b b2 c2 base cap hj' hid ej he)).elim
    · rw [Env.with_self] at ej; cases ej
      rw [Env.with_ne _ _ hni] at ei
      exact (hni2 (H.inj i id oi o b b1 c1 base cap hi' hid ei he)).elim
    · rw [Env.with_ne _ _ hni] at ei
      rw [Env.with_ne _ _ hnj] at ej
      exact H.inj _ _ oi oj _ _ _ _ _ hi' hj' ei ej
  · rw [hother b1 (fun e => hN (e ▸ hb1))]; exact H.below b1 hb1

theorem concVs_lapp {a b : List AV} {xs ys : List Value} (h1 : concVs Q η a = some xs) (h2 : concVs Q η b = some ys) : concVs Q η (lapp a b) = some (xs ++ ys) := by
  rw [lapp_eq]; exact concVs_append h1 h2

theorem FirstOk.of_world {w' : World} {s n : Nat} {x : Value} {xs : List Value} (hw : ∀ m, m ≤ n → (Builtin.firstCells s m x).run P w' = .ok ⟨xs.take (m * s)⟩ w') (hl : (Builtin.lenOf x).run P w' = .ok n w')
    (h1 : FirstOk P w s n x xs) : FirstOk P w' s n x xs := ⟨hl, h1.2.1, hw⟩

section
variable {ts : Array TypeId} {t xt e : TypeId} {sz : Nat} {ty : TypeId}

theorem append_fits_some (ht : ts[0]? = some t) (hxt : ts[1]? = some xt) (hs : slA P t = some (e, sz)) (hx : notIntT P xt = true) {a : Addr} {len cap n : Nat} {x : Value} {xs : List Value}
    (hf : FirstOk P w sz n x xs) (hle : len + n ≤ cap) :
    (Builtin.append_ ts ty #[.slice (some a) len cap, x]).run P w = ((storeCells (a.add (len * sz)) xs).run P w).andThen fun _ w' => .ok (.slice (some a) (len + n) cap) w' :=
  append_fits ht hxt hs hx hf hle

/-- a new row behind an append -/
theorem growA_rel (H : HR P Q N0 w0 η h w) {h1 : AH} (H1 : HR P Q N0 w0 η h1 w) (hnx : h1.next = h.next) (hn : η h.next = none)
    (ht : ts[0]? = some t) (hxt : ts[1]? = some xt) (hs : slA P t = some (e, sz)) (hx : notIntT P xt = true)
    {base : Option Addr} {len cap n : Nat} {x : Value} {xs os : List Value} {old new : List AV} {v : AV} {h' : AH}
    (hv : growA P h1 e old new (len + n) = some (v, h')) (hold : concVs Q η old = some os) (hnew : concVs Q η new = some xs)
    (hf : FirstOk P w sz n x xs) (hfd : FirstOk P w.drew sz n x xs) (ho : (Builtin.firstCells sz len (.slice base len cap)).run P w.drew = .ok ⟨os⟩ w.drew) (hol : os.length = len * sz) (hgt : ¬ len + n ≤ cap) :
    VRel P Q N0 w0 η h v h' ((Builtin.append_ ts ty #[.slice base len cap, x]).run P w) := by
  unfold growA at hv
  have ⟨h2, h3⟩ := sel_some.1 hv
  have ⟨h4, h5⟩ := sel_some.1 h3
  cases h5
  obtain ⟨nc, arr, h6, h7, h8, h9⟩ := append_grows (ty := ty) ht hxt hs hx h2 hf hfd ho hol hgt (ble_iff.1 h4)
  obtain ⟨_, hsz⟩ := slA_some hs
  obtain ⟨_, _, _, hce⟩ := szOf_some hsz
  have Hd : HR P Q N0 w0 η h1 w.drew := H1.of_heap rfl
  have hcr : CellsRel Q η (lapp old new) 0 arr := CellsRel.of_list (concVs_lapp hold hnew) h8
  have hn1 : η h1.next = none := by rw [hnx]; exact hn
  refine ⟨_, _, _, h9, .inr ⟨.blk w.heap.size 0 nc, by rw [← hnx], by rw [← hnx]; rfl⟩, ?_, ?_⟩
  · exact Hd.new hn1 (cap := nc) ⟨rfl, hcr.mono (Env.ext_with _ hn1), ⟨fun j _ => by simp, by simp⟩, by rw [hce]; simpa using h7⟩
  · simp only [concV, Env.with_self]
    rw [if_pos (by omega)]
    simp

theorem appSl_rel (hQ : QOk Q) (H : HR P Q N0 w0 η h w) (hn : η h.next = none)
    (ht : ts[0]? = some t) (hxt : ts[1]? = some xt) (hs : slA P t = some (e, sz)) (hx : notIntT P xt = true)
    {id off len cap n b base c : Nat} {x : Value} {xs : List Value} {new : List AV} {v : AV} {h' : AH} (he : η id = some (.blk b base c))
    (hv : appSl P h e sz id off len cap new n = some (v, h')) (hnew : concVs Q η new = some xs)
    (hf : FirstOk P w sz n x xs) (hfd : FirstOk P w.drew sz n x xs) :
    VRel P Q N0 w0 η h v h' ((Builtin.append_ ts ty #[.slice (some ⟨b, base + off, none⟩) len cap, x]).run P w) := by
  unfold appSl at hv
  cases hle : Nat.ble (len + n) cap with
  | true =>
    rw [hle, sel_true] at hv
    have hle' := ble_iff.1 hle
    rw [append_fits_some ht hxt hs hx hf hle', size_row]
    cases new with
    | nil =>
      cases hv; cases hnew
      exact VRel.same H (x := .slice (some ⟨b, base + off, none⟩) (len + n) cap) rfl (by simp [concV, he])
    | cons a r =>
      simp only at hv
      cases hw : writeA h id (off + len * sz) (a :: r) with
      | none => rw [hw] at hv; cases hv
      | some h2 =>
        rw [hw] at hv; cases hv
        obtain ⟨w', h3, h4, h5⟩ := H.write hQ he hw hnew
        refine ⟨η, .slice (some ⟨b, base + off, none⟩) (len + n) cap, w', by simp only [h3]; rfl, .inl ⟨rfl, h5⟩, h4, by simp [concV, he]⟩
  | false =>
    rw [hle, sel_false] at hv
    cases hr : rowElems h id off len sz with
    | none => rw [hr] at hv; cases hv
    | some old =>
      rw [hr] at hv
      simp only at hv
      have Hd : HR P Q N0 w0 η h w.drew := H.of_heap rfl
      obtain ⟨_, os, h1, _, h2, h3⟩ := rowElems_rel (P := P) (cap := cap) (cs := old.1) (n := old.2) Hd hr he
      have h4 := h3 len (Nat.le_refl _)
      rw [List.take_of_length_le (by omega)] at h4
      exact growA_rel H H rfl hn ht hxt hs hx hv h1 hnew hf hfd h4 h2 (by have := ble_no.1 hle; omega)

theorem appSu_rel (hQ : QOk Q) (H : HR P Q N0 w0 η h w) (hn : η h.next = none)
    (ht : ts[0]? = some t) (hxt : ts[1]? = some xt) (hs : slA P t = some (e, sz)) (hx : notIntT P xt = true)
    {id off oe len n b base c : Nat} {x : Value} {xs : List Value} {new : List AV} {v : AV} {h' : AH} (he : η id = some (.blk b base c)) (hoe : oe + len ≤ c)
    (hv : appSu P h e sz id off oe len new n = some (v, h')) (hnew : concVs Q η new = some xs)
    (hf : FirstOk P w sz n x xs) (hfd : FirstOk P w.drew sz n x xs) :
    VRel P Q N0 w0 η h v h' ((Builtin.append_ ts ty #[.slice (some ⟨b, base + off, none⟩) len (c - oe), x]).run P w) := by
  unfold appSu at hv
  cases h0 : Nat.beq n 0 with
  | true =>
    rw [h0, sel_true] at hv; cases hv
    have hn0 := beq_iff.1 h0
    subst hn0
    have hxs : xs = [] := by
      have := hf.2.1
      simpa using this
    subst hxs
    rw [append_fits ht hxt hs hx hf (by omega)]
    exact VRel.same H (x := .slice (some ⟨b, base + off, none⟩) len (c - oe)) rfl (by simp only [concV, he]; rw [if_pos hoe])
  | false =>
    rw [h0, sel_false] at hv
    have ⟨h1, h2⟩ := sel_some.1 hv
    have hoff := beq_iff.1 h1
    cases hr : h.rowW id with
    | none => rw [hr] at h2; cases h2
    | some r =>
      rw [hr] at h2
      simp only at h2
      have ⟨h3, h4⟩ := sel_some.1 h2
      rw [Bool.and_eq_true] at h3
      have hre := beq_iff.1 h3.1
      have ho := rowW_obj (cs := r.1) (e := r.2) hr
      rw [hre] at ho
      cases hl : ltake r.1 off (len * sz) with
      | none => rw [hl] at h4; cases h4
      | some old =>
        rw [hl] at h4
        simp only at h4
        obtain ⟨cc, fr, hb, hc, hnf, hcap, hN⟩ := H.cells ho he
        obtain ⟨os, hos, hol, hog⟩ := hc.part hl
        obtain ⟨_, hsz⟩ := slA_some hs
        obtain ⟨_, _, _, hce⟩ := szOf_some hsz
        by_cases hfit : len + n ≤ c - oe
        · rw [append_fits_some ht hxt hs hx hf hfit, size_row]
          unfold growA at h4
          have ⟨_, h5⟩ := sel_some.1 h4
          have ⟨_, h6⟩ := sel_some.1 h5
          cases h6
          rw [hce] at hcap
          have hspace : base + off + len * sz + n * sz ≤ cc.size := by
            have h7 : (oe + (len + n)) * sz ≤ c * sz := Nat.mul_le_mul_right sz (by omega)
            have h8 : (oe + (len + n)) * sz = oe * sz + len * sz + n * sz := by rw [← Nat.add_mul, ← Nat.add_mul]; congr 1; omega
            omega
          have hxl := hf.2.1
          obtain ⟨w', c', h7, h8, h9⟩ := run_storeCells (P := P) xs 0 (b := b) (o := base + (off + len * sz)) hb (ones_spec hQ h3.2 hnew) hnf (by omega)
          simp only [h7, Result.andThen_ok]
          have hx' := Env.ext_with (.blk b (base + off) (c - oe)) hn
          refine ⟨η.with h.next (.blk b (base + off) (c - oe)), _, w', rfl, .inr ⟨_, rfl, rfl⟩, ?_, ?_⟩
          · refine H.retake ho he rfl hn h8.here h8.other h8.size (o' := .cells false (lapp old new) e) ⟨rfl, ?_, ⟨fun j hj => hnf.1 j (by rw [← h8.len]; exact hj), hnf.2⟩, ?_⟩ (fun j y hj => ?_) h8.io
            · intro j v hv'
              obtain ⟨x1, hx1, hx2⟩ := concVs_get (concVs_lapp hos hnew) j v hv'
              refine ⟨x1, ?_, concV_mono hx' v hx2⟩
              rw [h9]
              rcases Nat.lt_or_ge j (len * sz) with hj | hj
              · rw [if_neg (by omega), hog j hj, ← hx1, List.getElem?_append_left (by omega)]
              · have hlt : j < os.length + xs.length := by
                  have := (List.getElem?_eq_some_iff.1 hx1).1
                  simpa using this
                rw [if_pos (by omega), ← hx1, List.getElem?_append_right (by omega)]
                congr 1; omega
            · rw [hce, h8.len]
              have h10 : oe * sz + (c - oe) * sz = c * sz := by rw [← Nat.add_mul]; congr 1; omega
              omega
            · rcases obj_new hj with ⟨rfl, rfl⟩ | ⟨hne, hj'⟩
              · exact .inl ⟨rfl, rfl⟩
              · rcases obj_upd hj' with ⟨_, e1⟩ | ⟨hne2, hj2⟩
                · cases e1
                · exact .inr ⟨hne, hne2, hj2⟩
          · show concV Q (η.with h.next (.blk b (base + off) (c - oe))) (.su h.next 0 0 (len + n)) = _
            simp only [concV, Env.with_self]
            rw [if_pos (by omega)]
            simp
        · have hfirst : (Builtin.firstCells sz len (.slice (some ⟨b, base + off, none⟩) len (c - oe))).run P w.drew = .ok ⟨os⟩ w.drew := by
            simp only [Builtin.firstCells]
            exact run_loadCells (w := w.drew) (b := b) (o := base + off) (c := cc) (e := e) (fr := fr) hb os (fun j hj => hog j (by omega)) hol.symm
          exact growA_rel H (H.drop id) rfl hn ht hxt hs hx h4 hos hnew hf hfd hfirst hol hfit

theorem appendA_rel (hQ : QOk Q) (H : HR P Q N0 w0 η h w) (hn : η h.next = none)
    (ht : ts[0]? = some t) (hxt : ts[1]? = some xt) (hx : notIntT P xt = true) {a y v : AV} {h' : AH} {s x : Value}
    (hv : appendA P h t a y = some (v, h')) (ha : concV Q η a = some s) (hy : concV Q η y = some x) :
    VRel P Q N0 w0 η h v h' ((Builtin.append_ ts ty #[s, x]).run P w) := by
  unfold appendA at hv
  cases hs : slA P t with
  | none => rw [hs] at hv; cases hv
  | some es =>
    obtain ⟨e, sz⟩ := es
    rw [hs] at hv
    simp only at hv
    cases hel : elemsA h sz y with
    | none => rw [hel] at hv; cases hv
    | some nw =>
      obtain ⟨new, n⟩ := nw
      rw [hel] at hv
      simp only at hv
      have Hd : HR P Q N0 w0 η h w.drew := H.of_heap rfl
      obtain ⟨xs, hnew, hf⟩ := elemsA_rel H hel hy
      obtain ⟨xs', hnew', hfd⟩ := elemsA_rel Hd hel hy
      rw [hnew] at hnew'; cases hnew'
      split at hv
      · rename_i hsl
        obtain rfl := asSl_nil hsl
        cases ha
        cases h0 : Nat.beq n 0 with
        | true =>
          rw [h0, sel_true] at hv; cases hv
          have hn0 := beq_iff.1 h0
          subst hn0
          rw [append_fits ht hxt hs hx hf (by omega)]
          exact VRel.same H (x := .slice none 0 0) rfl rfl
        | false =>
          rw [h0, sel_false] at hv
          have hn0 := beq_no.1 h0
          exact growA_rel (len := 0) (base := none) (cap := 0) (os := []) (old := []) H H rfl hn ht hxt hs hx (by simpa using hv) rfl hnew hf hfd (by simp [Builtin.firstCells]) (by simp) (by omega)
      · rename_i id off len cap hsl
        obtain rfl := asSl_sl hsl
        obtain ⟨b, base, c, he, rfl⟩ := conc_sl ha
        exact appSl_rel hQ H hn ht hxt hs hx he hv hnew hf hfd
      · rename_i id off oe len hsl
        obtain rfl := asSl_su hsl
        obtain ⟨b, base, c, he, hoe, rfl⟩ := conc_su ha
        exact appSu_rel hQ H hn ht hxt hs hx he hoe hv hnew hf hfd
      · cases hv

/-! ## copy -/
theorem placeS_some {a : AV} {id off : Nat} (h1 : placeS a = some (id, off)) : (∃ len cap, a = .sl id off len cap) ∨ (∃ oe len, a = .su id off oe len) := by
  unfold placeS at h1
  split at h1
  · rename_i hsl; cases h1; exact .inl ⟨_, _, asSl_sl hsl⟩
  · rename_i hsl; cases h1; exact .inr ⟨_, _, asSl_su hsl⟩
  · cases h1

theorem lenS_conc {a : AV} {n : Nat} {x : Value} (hl : lenS a = some n) (ha : concV Q η a = some x) : ∃ ad c, x = .slice ad n c := by
  unfold lenS at hl
  cases a <;> simp [asSl] at hl <;> subst hl <;> simp only [concV] at ha <;> first
    | (cases ha; exact ⟨_, _, rfl⟩)
    | (split at ha <;> first | (cases ha; exact ⟨_, _, rfl⟩) | (split at ha <;> first | (cases ha; exact ⟨_, _, rfl⟩) | cases ha) | cases ha)

theorem copyA_rel (hQ : QOk Q) (H : HR P Q N0 w0 η h w) (ht : ts[0]? = some t) {d s v : AV} {h' : AH} {x y : Value}
    (hv : copyA P h t d s = some (v, h')) (hd : concV Q η d = some x) (hs : concV Q η s = some y) :
    VRel P Q N0 w0 η h v h' ((Builtin.copy_ ts ty #[x, y]).run P w) := by
  unfold copyA at hv
  cases hsl : slA P t with
  | none => rw [hsl] at hv; cases hv
  | some es =>
    obtain ⟨e, sz⟩ := es
    rw [hsl] at hv
    simp only at hv
    obtain ⟨hdd, hsz⟩ := slA_some hsl
    have hu := run_und hdd w
    have hz := run_sz hsz w
    cases hdl : lenS d with
    | none => rw [hdl] at hv; cases hv
    | some dl =>
      rw [hdl] at hv
      simp only at hv
      cases hel : elemsA h sz s with
      | none => rw [hel] at hv; cases hv
      | some nw =>
        obtain ⟨new, n⟩ := nw
        rw [hel] at hv
        simp only at hv
        obtain ⟨xs, hnew, h1, h2, h3⟩ := elemsA_rel H hel hs
        obtain ⟨ad, c, rfl⟩ := lenS_conc hdl hd
        have h4 := h3 (min n dl) (Nat.min_le_left _ _)
        have hrun : (Builtin.copy_ ts ty #[.slice ad dl c, y]).run P w =
            ((match ad with | some a => storeCells a (xs.take (min n dl * sz)) | none => pure () : Sem Unit).run P w).andThen fun _ w' => .ok (goInt ((min n dl : Nat) : Int)) w' := by
          unfold Builtin.copy_
          have hm : Nat.min n dl = min n dl := rfl
          cases ad <;> simp [ht, hu, h1, hz, hm, h4, Result.andThen_ok]
        cases h0 : Nat.beq (Nat.min n dl) 0 with
        | true =>
          rw [h0, sel_true] at hv; cases hv
          have hm := beq_iff.1 h0
          have hm : min n dl = 0 := hm
          rw [hrun, hm]
          exact VRel.same H (x := .int .i64 0) (by cases ad <;> simp [goInt, storeCells]) rfl
        | false =>
          rw [h0, sel_false] at hv
          cases hf : lfirst new (Nat.min n dl * sz) with
          | none => rw [hf] at hv; cases hv
          | some vs =>
            rw [hf] at hv
            simp only at hv
            cases hp : placeS d with
            | none => rw [hp] at hv; cases hv
            | some p =>
              rw [hp] at hv
              simp only at hv
              cases hw : writeA h p.1 p.2 vs with
              | none => rw [hw] at hv; cases hv
              | some h2' =>
                rw [hw] at hv; cases hv
                rw [lfirst_eq] at hf
                split at hf
                · rename_i hle
                  cases hf
                  have hvs : concVs Q η (new.take (min n dl * sz)) = some (xs.take (min n dl * sz)) := concVs_take hnew _
                  have hplace : ∃ b base cc, η p.1 = some (.blk b base cc) ∧ ad = some ⟨b, base + p.2, none⟩ := by
                    rcases placeS_some (id := p.1) (off := p.2) hp with ⟨l, cp, rfl⟩ | ⟨oe, l, rfl⟩
                    · obtain ⟨b, base, cc, he, e1⟩ := conc_sl hd
                      cases e1; exact ⟨b, base, cc, he, rfl⟩
                    · obtain ⟨b, base, cc, he, _, e1⟩ := conc_su hd
                      cases e1; exact ⟨b, base, cc, he, rfl⟩
                  obtain ⟨b, base, cc, he, rfl⟩ := hplace
                  obtain ⟨w', h5, h6, h7⟩ := H.write hQ he hw hvs
                  rw [hrun, mkInt_eq]
                  exact ⟨η, .int .i64 (min n dl : Nat), w', by simp only [h5, Result.andThen_ok]; rfl, .inl ⟨rfl, h7⟩, h6, rfl⟩
                · cases hf

end
end
end Go.Sx
