/- Stores to several blocks, inserts into a new map: in whatever order. -/
import Derived.Test.YtlfkdmhllolmmaaGreatDoorSxMulti
namespace Go.Sx
open Go

section
variable {P : Program} {Sm : Sums} {Q : Nat → Value} {N0 : Keep} {w0 : World} {lo : Nat} {cs0 : List Frame}

theorem obj_upd_self (h : AH) (i : Nat) (o : Option AObj) : (h.upd i o).obj i = o := Tr.get_put_selfO fuel h.heap i o
theorem obj_upd_ne (h : AH) {i j : Nat} (o : Option AObj) (hne : j ≠ i) : (h.upd i o).obj j = h.obj j := Tr.get_put_neO fuel h.heap i o j hne

theorem plainO_some {ops : Array Oper} {g : Nat} {o : Oper} (h : plainO ops g = some o) : ops[g]? = some o ∧ o.guard = none ∧ o.dst = none := by
  unfold plainO at h
  rw [nth_eq, Array.getElem?_toList] at h
  cases ho : ops[g]? with
  | none => rw [ho] at h; cases h
  | some u =>
    rw [ho] at h
    simp only at h
    split at h
    · cases h
    · rename_i hg
      split at h
      · cases h
      · rename_i hd; cases h; exact ⟨rfl, hg, hd⟩

/-! ## stores -/
theorem storeA_local {h h' : AH} {t : TypeId} {p u : AV} (hs : storeA P h t p u = some h') : ∃ q c, asPtr p = some q ∧ h' = h.upd q.1 (some c) ∧ ∀ H : AH, H.obj q.1 = h.obj q.1 → storeA P H t p u = some (H.upd q.1 (some c)) := by
  unfold storeA at hs
  cases hz : szOf P t with
  | none => rw [hz] at hs; cases hs
  | some n =>
    rw [hz] at hs
    cases hp : asPtr p with
    | none => rw [hp] at hs; cases hs
    | some q =>
      rw [hp] at hs
      have ⟨h1, h2⟩ := sel_some.1 hs
      unfold writeA at h2
      cases hr : h.rowW q.1 with
      | none => rw [hr] at h2; cases h2
      | some r =>
        rw [hr] at h2
        have ⟨h3, h4⟩ := sel_some.1 h2
        cases hl : lsets (cellsOf u) r.1 q.2 with
        | nil => rw [hl] at h4; cases h4
        | cons a l =>
          rw [hl] at h4
          cases h4
          refine ⟨q, .cells false (a :: l) r.2, rfl, rfl, fun H hH => ?_⟩
          have hr' : H.rowW q.1 = some r := by unfold AH.rowW; rw [hH]; exact hr
          unfold storeA writeA
          simp only [hz, hp, h1, sel_true, hr', h3, hl]

theorem opA_store_eq {T : Tr AV} {ir : Bool} {o : Oper} {t : TypeId} {a v : Operand} {p u : AV} (ho : o.op = .store t a v) (ha : evalA T a = some p) (hv : evalA T v = some u) {H H' : AH} (hs : storeA P H t p u = some H') : opA P T H ir o = .skip H' := by
  obtain ⟨dst, op, ty, pos, after, guard⟩ := o
  simp only at ho
  subst ho
  show opStore P T H t a v = _
  unfold opStore
  simp only [ha, hv, hs, sOf]

theorem stores_spec {T : Tr AV} {ir : Bool} {ops : Array Oper} {h : AH} : ∀ {gs is : List Nat} {H0 h' : AH}, gs.Nodup → storesA P T ops gs H0 = some (is, h') → is.Nodup → (∀ i ∈ is, H0.obj i = h.obj i) →
    ∃ (tg : Nat → Nat) (ob : Nat → AObj), is = gs.map tg ∧ (∀ g ∈ gs, ∃ o, plainO ops g = some o ∧ (∀ cs b, o.op ≠ .select cs b) ∧ ∀ H : AH, H.obj (tg g) = h.obj (tg g) → opA P T H ir o = .skip (H.upd (tg g) (some (ob g)))) ∧
      h'.next = H0.next ∧ (∀ id, id ∉ is → h'.obj id = H0.obj id) ∧ ∀ g ∈ gs, h'.obj (tg g) = some (ob g)
  | [], is, H0, h', _, hs, _, _ => by
    cases hs
    exact ⟨fun _ => 0, fun _ => .dfr none, rfl, (fun _ h => by cases h), rfl, fun _ _ => rfl, (fun _ h => by cases h)⟩
  | g :: r, is, H0, h', hn, hs, hnd, heq => by
    unfold storesA at hs
    cases hp : plainO ops g with
    | none => rw [hp] at hs; cases hs
    | some o =>
      rw [hp] at hs
      simp only at hs
      split at hs
      · rename_i t a v hop
        cases hea : evalA T a with
        | none => rw [hea] at hs; cases hs
        | some p =>
          rw [hea] at hs
          simp only at hs
          cases hap : asPtr p with
          | none => rw [hap] at hs; cases hs
          | some q =>
            rw [hap] at hs
            simp only at hs
            cases hev : evalA T v with
            | none => rw [hev] at hs; cases hs
            | some u =>
              rw [hev] at hs
              simp only at hs
              cases hst : storeA P H0 t p u with
              | none => rw [hst] at hs; cases hs
              | some H1 =>
                rw [hst] at hs
                simp only at hs
                cases hrest : storesA P T ops r H1 with
                | none => rw [hrest] at hs; cases hs
                | some z =>
                  rw [hrest] at hs
                  cases hs
                  obtain ⟨q', c, h1, h2, h3⟩ := storeA_local hst
                  rw [hap] at h1; cases h1
                  have hnd' := List.nodup_cons.1 hnd
                  have hn' := List.nodup_cons.1 hn
                  have hsame : ∀ i ∈ z.1, H1.obj i = h.obj i := fun i hi => by
                    rw [h2, obj_upd_ne H0 _ (fun e : i = q.1 => hnd'.1 (by rw [← e]; exact hi))]
                    exact heq i (List.mem_cons_of_mem _ hi)
                  obtain ⟨tg, ob, e1, e2, e3, e4, e5⟩ := stores_spec (ir := ir) (h := h) hn'.2 hrest hnd'.2 hsame
                  have hcong : ∀ x ∈ r, (if x = g then q.1 else tg x) = tg x := fun x hx => if_neg fun e : x = g => hn'.1 (by rw [← e]; exact hx)
                  refine ⟨fun x => if x = g then q.1 else tg x, fun x => if x = g then c else ob x, ?_, fun x hx => ?_, ?_, fun id hid => ?_, fun x hx => ?_⟩
                  · simp only [List.map_cons, if_true]
                    rw [e1]; congr 1
                    exact (List.map_congr_left hcong).symm
                  · rcases List.mem_cons.1 hx with rfl | hx
                    · refine ⟨o, hp, (fun cs b e => by rw [hop] at e; cases e), fun H hH => ?_⟩
                      simp only [if_true] at hH ⊢
                      exact opA_store_eq hop hea hev (h3 H (hH.trans (heq q.1 (by simp)).symm))
                    · have hne : x ≠ g := fun e => hn'.1 (by rw [← e]; exact hx)
                      simp only [if_neg hne]
                      exact e2 x hx
                  · rw [e3, h2]; rfl
                  · simp only [List.mem_cons, not_or] at hid
                    rw [e4 id hid.2, h2, obj_upd_ne H0 _ hid.1]
                  · rcases List.mem_cons.1 hx with rfl | hx
                    · simp only [if_true]
                      rw [e4 q.1 hnd'.1, h2, obj_upd_self]
                    · have hne : x ≠ g := fun e => hn'.1 (by rw [← e]; exact hx)
                      simp only [if_neg hne]
                      exact e5 x hx
      · cases hs

theorem foldr_upd {tg : Nat → Nat} {ob : Nat → AObj} {h : AH} : ∀ (l : List Nat), ((l.foldr (fun g H => H.upd (tg g) (some (ob g))) h).next = h.next) ∧
    (∀ id, id ∉ l.map tg → (l.foldr (fun g H => H.upd (tg g) (some (ob g))) h).obj id = h.obj id) ∧ ((l.map tg).Nodup → ∀ g ∈ l, (l.foldr (fun g H => H.upd (tg g) (some (ob g))) h).obj (tg g) = some (ob g))
  | [] => ⟨rfl, fun _ _ => rfl, fun _ _ h => by cases h⟩
  | a :: r => by
    obtain ⟨h1, h2, h3⟩ := foldr_upd (tg := tg) (ob := ob) (h := h) r
    refine ⟨h1, fun id hid => ?_, fun hn g hg => ?_⟩
    · simp only [List.map_cons, List.mem_cons, not_or] at hid
      show ((r.foldr _ h).upd _ _).obj id = _
      rw [obj_upd_ne _ _ hid.1]; exact h2 id hid.2
    · have hn' := List.nodup_cons.1 (by simpa using hn : (tg a :: r.map tg).Nodup)
      show ((r.foldr _ h).upd _ _).obj (tg g) = _
      rcases List.mem_cons.1 hg with rfl | hg
      · rw [obj_upd_self]
      · rw [obj_upd_ne _ _ (fun e : tg g = tg a => hn'.1 (by rw [← e]; exact List.mem_map_of_mem hg))]; exact h3 hn'.2 g hg

theorem nodup_map_inj {f : Nat → Nat} : ∀ {l : List Nat}, (l.map f).Nodup → ∀ a ∈ l, ∀ b ∈ l, f a = f b → a = b
  | [], _, a, ha, _, _, _ => by cases ha
  | x :: r, h, a, ha, b, hb, e => by
    have h' := List.nodup_cons.1 (by simpa using h : (f x :: r.map f).Nodup)
    rcases List.mem_cons.1 ha with ea | ha1 <;> rcases List.mem_cons.1 hb with eb | hb1
    · rw [ea, eb]
    · exact absurd (by rw [← ea, e]; exact List.mem_map_of_mem hb1) h'.1
    · exact absurd (by rw [← eb, ← e]; exact List.mem_map_of_mem ha1) h'.1
    · exact nodup_map_inj h'.2 a ha1 b hb1 e
theorem nodup_map_on {f : Nat → Nat} : ∀ {l : List Nat}, (∀ a ∈ l, ∀ b ∈ l, f a = f b → a = b) → l.Nodup → (l.map f).Nodup
  | [], _, _ => List.nodup_nil
  | x :: r, h, hn => by
    have hn' := List.nodup_cons.1 hn
    refine List.nodup_cons.2 ⟨fun hm => ?_, nodup_map_on (fun a ha b hb => h a (by simp [ha]) b (by simp [hb])) hn'.2⟩
    obtain ⟨y, hy, e⟩ := List.mem_map.1 hm
    have := h y (by simp [hy]) x (by simp) e
    exact hn'.1 (this ▸ hy)

theorem stores_multi {T : Tr AV} {ir : Bool} {ops : Array Oper} {gs is : List Nat} {h h' : AH} (hn : gs.Nodup) (hs : storesA P T ops gs h = some (is, h')) (hd : is.Nodup) : (∃ st, Multi P T ir ops gs is h h' st) ∧ h'.next = h.next := by
  obtain ⟨tg, ob, e1, e2, e3, e4, e5⟩ := stores_spec (ir := ir) (h := h) hn hs hd fun _ _ => rfl
  subst e1
  have inj : ∀ a ∈ gs, ∀ b ∈ gs, tg a = tg b → a = b := fun a ha b hb e => nodup_map_inj hd a ha b hb e
  have sub : ∀ l : List Nat, l.Nodup → (∀ x ∈ l, x ∈ gs) → (l.map tg).Nodup := fun l hl hlg => by
    refine nodup_map_on ?_ hl
    exact fun a ha b hb e => inj a (hlg a ha) b (hlg b hb) e
  refine ⟨⟨fun l => l.foldr (fun g H => H.upd (tg g) (some (ob g))) h, rfl, fun g l hl hlg => ?_, fun l => (foldr_upd l).1, fun l hlg id hid => ?_, fun l hp Q N0 w0 η w H => ?_⟩, e3⟩
  · obtain ⟨o, h1, h2, h3⟩ := e2 g (hlg g (by simp))
    obtain ⟨h4, h5, h6⟩ := plainO_some h1
    refine ⟨o, h4, h5, h6, h2, h3 _ ?_⟩
    refine (foldr_upd l).2.1 _ fun hm => ?_
    obtain ⟨x, hx, he⟩ := List.mem_map.1 hm
    have := inj x (hlg x (by simp [hx])) g (hlg g (by simp)) he
    exact (List.nodup_cons.1 hl).1 (this ▸ hx)
  · exact (foldr_upd l).2.1 id fun hm => by
      obtain ⟨x, hx, rfl⟩ := List.mem_map.1 hm
      exact hid (List.mem_map_of_mem (hlg x hx))
  · refine H.congr fun id => ?_
    by_cases hid : id ∈ gs.map tg
    · obtain ⟨g, hg, rfl⟩ := List.mem_map.1 hid
      rw [e5 g hg]
      exact ((foldr_upd l).2.2 (sub l (hp.nodup_iff.2 hn) fun x hx => hp.mem_iff.1 hx) g (hp.mem_iff.2 hg)).symm
    · rw [e4 id hid]
      exact ((foldr_upd l).2.1 id fun hm => hid ((hp.map tg).mem_iff.1 hm)).symm

/-! ## inserts -/
theorem setEnt_new {kd : KeyD} {k v : AV} : ∀ {es : List (AV × AV)}, (∀ e ∈ es, keyEq kd k e.1 = some false) → setEnt kd k v es = some (es ++ [(k, v)])
  | [], _ => rfl
  | e :: r, h => by
    unfold setEnt
    rw [h e (by simp), setEnt_new (es := r) fun x hx => h x (by simp [hx])]
    rfl

theorem keyNew_spec {kd : KeyD} {k : AV} : ∀ {l : List (AV × AV)}, keyNew kd k l = true → ∀ e ∈ l, keyEq kd k e.1 = some false ∧ keyEq kd e.1 k = some false
  | [], _, e, he => by cases he
  | a :: r, h, e, he => by
    unfold keyNew at h
    split at h
    · rename_i h1
      split at h
      · rename_i h2
        rcases List.mem_cons.1 he with rfl | he
        · exact ⟨h1, h2⟩
        · exact keyNew_spec h e he
      · cases h
    · cases h

theorem concEs_perm {η : Env} {es es' : List (AV × AV)} (h : es.Perm es') : ∀ {l : List (Value × Value)}, concEs Q η es = some l → ∃ l', concEs Q η es' = some l' ∧ l.Perm l' := by
  induction h with
  | nil => intro l h; exact ⟨l, h, .refl _⟩
  | cons x _ ih =>
    intro l h
    obtain ⟨a, b, m, rfl, h3, h4, h5⟩ := concEs_cons h
    obtain ⟨l', h6, h7⟩ := ih h5
    exact ⟨(a, b) :: l', concEs_mk h3 h4 h6, h7.cons _⟩
  | swap x y r =>
    intro l h
    obtain ⟨a, b, m, rfl, h3, h4, h5⟩ := concEs_cons h
    obtain ⟨a', b', m', rfl, h3', h4', h5'⟩ := concEs_cons h5
    exact ⟨_, concEs_mk h3' h4' (concEs_mk h3 h4 h5'), .swap _ _ _⟩
  | trans _ _ ih1 ih2 =>
    intro l h
    obtain ⟨l1, h1, h2⟩ := ih1 h
    obtain ⟨l2, h3, h4⟩ := ih2 h1
    exact ⟨l2, h3, h2.trans h4⟩

/-- a map's entries may stand in another order -/
theorem HR.permMap {η : Env} {h h' : AH} {w : World} (H : HR P Q N0 w0 η h w) {m : Nat} {es es' : List (AV × AV)} (ho : h.obj m = some (.map es)) (ho' : h'.obj m = some (.map es')) (hp : es.Perm es') (he : ∀ i, i ≠ m → h'.obj i = h.obj i) : HR P Q N0 w0 η h' w := by
  have some' : ∀ i o, h'.obj i = some o → ∃ o', h.obj i = some o' := fun i o hi => by
    by_cases hm : i = m
    · exact ⟨_, hm ▸ ho⟩
    · exact ⟨o, by rw [← he i hm]; exact hi⟩
  refine ⟨fun id o hid e hη => ?_, fun i j oi oj b b1 c1 b2 c2 hi hj ei ej => ?_, H.below, H.size, H.froz, H.io⟩
  · by_cases hm : id = m
    · subst hm
      rw [ho'] at hid; cases hid
      obtain ⟨b, base, cap, x, h1, h2, h3, h4⟩ := H.obj id _ ho e hη
      refine ⟨b, base, cap, x, h1, h2, ?_, h4⟩
      cases x with
      | map entries clk =>
        obtain ⟨hbn, l, g1, g2, g3, g4⟩ := h3
        obtain ⟨l', k1, k2⟩ := concEs_perm hp g1
        obtain ⟨d, hd⟩ := g4
        exact ⟨hbn, l', k1, g2.trans k2, (k2.map Prod.fst).nodup_iff.1 g3, d, fun a ha => hd a ((k2.map Prod.fst).mem_iff.2 ha)⟩
      | _ => exact h3.elim
    · exact H.obj id o (by rw [← he id hm]; exact hid) e hη
  · obtain ⟨oi', hi'⟩ := some' i oi hi
    obtain ⟨oj', hj'⟩ := some' j oj hj
    exact H.inj i j oi' oj' b b1 c1 b2 c2 hi' hj' ei ej

theorem opA_insert_eq {T : Tr AV} {ir : Bool} {o : Oper} {t : TypeId} {mo ko vo : Operand} {m : Nat} {k v : AV} {kd : KeyD × TypeId} (ho : o.op = .insert t mo ko vo) (hmt : mapA P t = some kd) (hm : evalA T mo = some (.map m)) (hk : evalA T ko = some k) (hv : evalA T vo = some v) (hkk : keyKind kd.1 k = true)
    {H : AH} {es es' : List (AV × AV)} (he : H.entries m = some es) (hs : setEnt kd.1 k v es = some es') : opA P T H ir o = .skip (H.upd m (some (.map es'))) := by
  obtain ⟨dst, op, ty, pos, after, guard⟩ := o
  simp only at ho
  subst ho
  show opMapUp P T H t mo ko vo = _
  unfold opMapUp
  simp only [hm, hk, hv]
  have : mapUpdateA P H t (.map m) k v = some (H.upd m (some (.map es'))) := by
    unfold mapUpdateA
    simp only [hmt, hkk, sel_true, show Sx.asMap (.map m) = some (some m) from rfl, he, hs]
  rw [this]
  rfl

theorem inserts_spec {T : Tr AV} {ir : Bool} {ops : Array Oper} {t : TypeId} {m : Nat} {kd : KeyD × TypeId} (hmt : mapA P t = some kd) : ∀ {gs : List Nat} {l : List (AV × AV)}, gs.Nodup → insertsA T ops t m kd.1 gs = some l →
    ∃ pr : Nat → AV × AV, l = gs.map pr ∧ ∀ g ∈ gs, ∃ o, plainO ops g = some o ∧ (∀ cs b, o.op ≠ .select cs b) ∧ ∀ (H : AH) (es es' : List (AV × AV)), H.entries m = some es → setEnt kd.1 (pr g).1 (pr g).2 es = some es' → opA P T H ir o = .skip (H.upd m (some (.map es')))
  | [], l, _, h => by cases h; exact ⟨fun _ => (.np, .np), rfl, (fun _ h => by cases h)⟩
  | g :: r, l, hn, h => by
    have hn' := List.nodup_cons.1 hn
    unfold insertsA at h
    cases hp : plainO ops g with
    | none => rw [hp] at h; cases h
    | some o =>
      rw [hp] at h
      simp only at h
      split at h
      · rename_i t' mo ko vo hop
        have ⟨h1, h2⟩ := sel_some.1 h
        have ht := beq_iff.1 h1
        cases hm : evalA T mo with
        | none => rw [hm] at h2; cases h2
        | some a =>
          rw [hm] at h2
          simp only at h2
          split at h2
          · rename_i m' ham
            have ⟨h3, h4⟩ := sel_some.1 h2
            have hmm := beq_iff.1 h3
            rcases asMap_some ham with ⟨e, _⟩ | ⟨id', e, ea⟩
            · cases e
            cases e
            subst hmm
            subst ea
            subst ht
            cases hk : evalA T ko with
            | none => rw [hk] at h4; cases h4
            | some k =>
              rw [hk] at h4
              simp only at h4
              cases hv : evalA T vo with
              | none => rw [hv] at h4; cases h4
              | some v =>
                rw [hv] at h4
                simp only at h4
                have ⟨h5, h6⟩ := sel_some.1 h4
                cases hr : insertsA T ops t' m' kd.1 r with
                | none => rw [hr] at h6; cases h6
                | some lr =>
                  rw [hr] at h6
                  cases h6
                  obtain ⟨pr, e1, e2⟩ := inserts_spec (ir := ir) hmt hn'.2 hr
                  have hcong : ∀ x ∈ r, (if x = g then (k, v) else pr x) = pr x := fun x hx => if_neg fun e : x = g => hn'.1 (by rw [← e]; exact hx)
                  refine ⟨fun x => if x = g then (k, v) else pr x, ?_, fun x hx => ?_⟩
                  · simp only [List.map_cons, if_true]
                    rw [e1]; congr 1
                    exact (List.map_congr_left hcong).symm
                  · rcases List.mem_cons.1 hx with rfl | hx
                    · refine ⟨o, hp, (fun cs b e => by rw [hop] at e; cases e), fun H es es' he hs => ?_⟩
                      simp only [if_true] at hs
                      exact opA_insert_eq hop hmt hm hk hv h5 he hs
                    · have hne : x ≠ g := fun e => hn'.1 (by rw [← e]; exact hx)
                      simp only [if_neg hne]
                      exact e2 x hx
          · cases h2
      · cases h

theorem keysNew_spec {kd : KeyD} {pr : Nat → AV × AV} : ∀ {gs : List Nat}, gs.Nodup → keysNew kd (gs.map pr) = true → ∀ a ∈ gs, ∀ b ∈ gs, a ≠ b → keyEq kd (pr a).1 (pr b).1 = some false
  | [], _, _, a, ha, _, _, _ => by cases ha
  | g :: r, hn, h, a, ha, b, hb, hne => by
    have hn' := List.nodup_cons.1 hn
    have h : sel (keyNew kd (pr g).1 (r.map pr)) (keysNew kd (r.map pr)) false = true := h
    have ⟨h1, h2⟩ := selF h
    rcases List.mem_cons.1 ha with ea | ha1 <;> rcases List.mem_cons.1 hb with eb | hb1
    · exact absurd (ea.trans eb.symm) hne
    · rw [ea]; exact (keyNew_spec h1 _ (List.mem_map_of_mem hb1)).1
    · rw [eb]; exact (keyNew_spec h1 _ (List.mem_map_of_mem ha1)).2
    · exact keysNew_spec hn'.2 h2 a ha1 b hb1 hne

/-- the heap behind some of the inserts, the last first -/
noncomputable def insSt (pr : Nat → AV × AV) (m : Nat) (h : AH) : List Nat → AH
  | [] => h
  | g :: r => (insSt pr m h r).upd m (some (.map ((g :: r).reverse.map pr)))

theorem insSt_spec {pr : Nat → AV × AV} {m : Nat} {h : AH} (he : h.obj m = some (.map [])) : ∀ (l : List Nat), (insSt pr m h l).next = h.next ∧ (∀ id, id ≠ m → (insSt pr m h l).obj id = h.obj id) ∧ (insSt pr m h l).obj m = some (.map (l.reverse.map pr))
  | [] => ⟨rfl, fun _ _ => rfl, he⟩
  | g :: r => by
    obtain ⟨h1, h2, _⟩ := insSt_spec he r
    exact ⟨h1, fun id hid => (obj_upd_ne _ _ hid).trans (h2 id hid), obj_upd_self _ _ _⟩

theorem inserts_multi {T : Tr AV} {ir : Bool} {ops : Array Oper} {g : Nat} {gs ts : List Nat} {h h' : AH} (hn : gs.Nodup) (hs : insAllA P T ops g gs h = some (ts, h')) : (∃ st, Multi P T ir ops gs ts h h' st) ∧ h'.next = h.next := by
  unfold insAllA at hs
  cases hh : insHead T ops g with
  | none => rw [hh] at hs; cases hs
  | some q =>
    rw [hh] at hs
    simp only at hs
    cases hmt : mapA P q.1 with
    | none => rw [hmt] at hs; cases hs
    | some kd =>
      rw [hmt] at hs
      simp only at hs
      split at hs
      · rename_i hes
        cases hi : insertsA T ops q.1 q.2 kd.1 gs with
        | none => rw [hi] at hs; cases hs
        | some l =>
          rw [hi] at hs
          have ⟨h1, h2⟩ := sel_some.1 hs
          cases h2
          obtain ⟨pr, rfl, e2⟩ := inserts_spec (ir := ir) hmt hn hi
          have hk := keysNew_spec hn h1
          have ho : h.obj q.2 = some (.map []) := by
            unfold AH.entries at hes
            split at hes
            · rename_i es ho; cases hes; exact ho
            · cases hes
          refine ⟨⟨insSt pr q.2 h, rfl, fun a l hl hlg => ?_, fun l => (insSt_spec ho l).1, fun l _ id hid => (insSt_spec ho l).2.1 id (by simpa using hid), fun l hp Q N0 w0 η w H => ?_⟩, rfl⟩
          · obtain ⟨o, g1, g2, g3⟩ := e2 a (hlg a (by simp))
            obtain ⟨g4, g5, g6⟩ := plainO_some g1
            refine ⟨o, g4, g5, g6, g2, g3 _ (l.reverse.map pr) _ (by unfold AH.entries; rw [(insSt_spec ho l).2.2]) ?_⟩
            rw [setEnt_new fun e hem => ?_]
            · simp
            · obtain ⟨x, hx, rfl⟩ := List.mem_map.1 hem
              have hx : x ∈ l := by simpa using hx
              exact hk a (hlg a (by simp)) x (hlg x (by simp [hx])) fun e => (List.nodup_cons.1 hl).1 (e ▸ hx)
          · exact H.permMap (insSt_spec ho l).2.2 (obj_upd_self _ _ _) (((List.reverse_perm l).trans hp).map pr) fun i hi => (obj_upd_ne _ _ hi).trans ((insSt_spec ho l).2.1 i hi).symm
      · cases hs
end
end Go.Sx
