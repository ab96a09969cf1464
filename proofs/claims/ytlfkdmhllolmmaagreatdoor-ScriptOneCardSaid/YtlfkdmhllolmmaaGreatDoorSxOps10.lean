/- Maps: the operations. What an interface holds. -/
import Derived.Test.YtlfkdmhllolmmaaGreatDoorSxOps9
namespace Go.Sx
open Go MapKept

section
variable {P : Program} {Q : Nat → Value} {N0 : Keep} {w0 : World} {η : Env} {h : AH} {w : World}

/-- what a map of the abstract heap is in the model -/
theorem HR.map (H : HR P Q N0 w0 η h w) {id b base cap : Nat} {es : List (AV × AV)} (he : h.entries id = some es) (hi : η id = some (.blk b base cap)) :
    ∃ entries clock l d, h.obj id = some (.map es) ∧ w.heap[b]? = some (.map entries clock) ∧ concEs Q η es = some l ∧ MapIs entries l ∧ (∀ p ∈ l, IsKey d p.1) ∧ Born entries clock := by
  unfold AH.entries at he
  split at he
  · rename_i es' ho
    cases he
    obtain ⟨b1, base1, c1, z, e4, h1, h2, _⟩ := H.obj _ _ ho _ hi
    cases e4
    cases z with
    | map entries clk =>
      obtain ⟨hbn, l, h3, h4, h5, d, h6⟩ := h2
      exact ⟨entries, clk, l, d, ho, h1, h3, ⟨h4, h5⟩, fun p hp => h6 _ (List.mem_map.2 ⟨p, hp, rfl⟩), hbn⟩
    | _ => exact h2.elim
  · cases he

theorem conc_map {id : Nat} {x : Value} (hc : concV Q η (.map id) = some x) : ∃ b base cap, η id = some (.blk b base cap) ∧ x = .map (some b) := by
  simp only [concV] at hc
  split at hc
  · rename_i b base c he; cases hc; exact ⟨b, base, c, he, rfl⟩
  · cases hc

theorem lookupA_rel (H : HR P Q N0 w0 η h w) {t : TypeId} {m k v : AV} {ok : Bool} {x y : Value} (hv : lookupA P h t m k ok = some v) (hm : concV Q η m = some x) (hk : concV Q η k = some y) :
    ∃ z, (Instr.lookup t x y ok).run P w = .ok z w ∧ concV Q η v = some z := by
  unfold lookupA at hv
  cases hmt : mapA P t with
  | none => rw [hmt] at hv; cases hv
  | some kd =>
    obtain ⟨kd, et⟩ := kd
    rw [hmt] at hv
    simp only at hv
    obtain ⟨kt, d, hd, hkd, hok⟩ := mapA_some hmt
    have hu := run_und hd w
    have ⟨h1, h2⟩ := sel_some.1 hv
    have hik := keyKind_isKey h1 hok hk
    have hck := fun e => run_checkKey (w := w) (undA_some hkd) hik e 9999
    have fin : ∀ z : AV, zeroOf P et = some z → ∃ zv, (zeroValue et).run P w = .ok zv w ∧ concV Q η z = some zv := fun z hz => by
      obtain ⟨zv, g1, g2⟩ := run_zero hz w
      exact ⟨zv, g1, ofV_conc zv g2⟩
    have out : ∀ (z : AV) (zv : Value) (b : Bool), concV Q η z = some zv → concV Q η (sel ok (.tup [z, .bool b]) z) = some (if ok then .tuple #[zv, .bool b] else zv) := fun z zv b hz => by
      cases ok
      · simpa [sel_false] using hz
      · simp [sel_true, concV, concVs, hz]
    unfold entsOf at h2
    cases ham : asMap m with
    | none => rw [ham] at h2; cases h2
    | some o =>
      rw [ham] at h2
      rcases asMap_some ham with ⟨rfl, rfl⟩ | ⟨id, rfl, rfl⟩
      · simp only [findA] at h2
        cases hm
        cases hz : zeroOf P et with
        | none => rw [hz] at h2; cases h2
        | some z =>
          rw [hz] at h2; cases h2
          obtain ⟨zv, g1, g2⟩ := fin z hz
          have hf := run_findKey (w := w) (l := []) (k := y) (a := none) (undA_some hkd) rfl
          exact ⟨_, by simp [Instr.lookup, hu, hck, hf, g1], out z zv false g2⟩
      · simp only at h2
        obtain ⟨b, base, cap, he, rfl⟩ := conc_map hm
        cases hes : h.entries id with
        | none => rw [hes] at h2; cases h2
        | some es =>
          rw [hes] at h2
          simp only at h2
          obtain ⟨entries, clock, l, d', ho, hb, hl, M, hdk, hbn⟩ := H.map hes he
          have hg := run_getObj_map (P := P) hb
          cases hf : findA kd k es with
          | none => rw [hf] at h2; cases h2
          | some r =>
            rw [hf] at h2
            obtain ⟨hkind, hres⟩ := findA_rel hk hf hl
            have hdk' : ∀ p ∈ l, IsKey d p.1 := by
              rcases hkind with rfl | hkind
              · simp
              · have := isKey_same (hkind d' hdk) hik; subst this; exact hdk
            rcases M.findNow hdk' hik with ⟨g1, g2⟩ | ⟨j, e, g1, g2, g3, g4⟩
            · rcases hres with ⟨rfl, _⟩ | ⟨v', y', rfl, g5, g6⟩
              · simp only at h2
                cases hz : zeroOf P et with
                | none => rw [hz] at h2; cases h2
                | some z =>
                  rw [hz] at h2; cases h2
                  obtain ⟨zv, g3, g4⟩ := fin z hz
                  have hf := run_findKey (w := w) (undA_some hkd) g1
                  exact ⟨_, by simp [Instr.lookup, hu, hg, hck, hf, g3], out z zv false g4⟩
              · exact (g2 _ g6 rfl).elim
            · have hfk := run_findKey (w := w) (undA_some hkd) g1
              rcases hres with ⟨rfl, g7⟩ | ⟨v', y', rfl, g5, g6⟩
              · exact (g7 _ g4 rfl).elim
              · simp only at h2
                cases h2
                have hyv := nodup_val M.nodup g6 g4
                subst hyv
                exact ⟨_, by simp [Instr.lookup, hu, hg, hck, hfk], out v' e.val true g5⟩

/-- a map's block is written -/
theorem HR.putMap (H : HR P Q N0 w0 η h w) {id b base cap : Nat} {es es' : List (AV × AV)} {entries entries' : Array MapEntry} {clock clock' : Nat} {l' : List (Value × Value)} {d : TypeDesc}
    (ho : h.obj id = some (.map es)) (he : η id = some (.blk b base cap)) (hb : w.heap[b]? = some (.map entries clock)) (hl : concEs Q η es' = some l') (M : MapIs entries' l') (hbn : Born entries' clock') (hd : ∀ p ∈ l', IsKey d p.1) :
    HR P Q N0 w0 η (h.upd id (some (.map es'))) { w with heap := w.heap.setIfInBounds b (.map entries' clock') } := by
  refine H.put ho he rfl (heap_set hb).1 (heap_set hb).2 (by simp) ⟨hbn, l', hl, M.perm, M.nodup, d, fun a ha => ?_⟩
  obtain ⟨p, hp, rfl⟩ := List.mem_map.1 ha
  exact hd p hp

theorem mapUpdateA_rel (H : HR P Q N0 w0 η h w) {t : TypeId} {m k v : AV} {h' : AH} {x y z : Value} (hv : mapUpdateA P h t m k v = some h') (hm : concV Q η m = some x) (hk : concV Q η k = some y) (hz : concV Q η v = some z) :
    ∃ w', (Instr.mapUpdate t x y z).run P w = .ok () w' ∧ HR P Q N0 w0 η h' w' ∧ h'.next = h.next := by
  unfold mapUpdateA at hv
  cases hmt : mapA P t with
  | none => rw [hmt] at hv; cases hv
  | some kd =>
    obtain ⟨kd, et⟩ := kd
    rw [hmt] at hv
    simp only at hv
    obtain ⟨kt, d, hd, hkd, hok⟩ := mapA_some hmt
    have hu := run_und hd w
    have ⟨h1, h2⟩ := sel_some.1 hv
    have hik := keyKind_isKey h1 hok hk
    have hck := fun e => run_checkKey (w := w) (undA_some hkd) hik e 9999
    split at h2
    · rename_i id ham
      rcases asMap_some ham with ⟨e, _⟩ | ⟨id', e, rfl⟩
      · cases e
      cases e
      obtain ⟨b, base, cap, he, rfl⟩ := conc_map hm
      cases hes : h.entries id with
      | none => rw [hes] at h2; cases h2
      | some es =>
        rw [hes] at h2
        simp only at h2
        obtain ⟨entries, clock, l, d', ho, hb, hl, M, hdk, hbn⟩ := H.map hes he
        have hg := run_getObj_map (P := P) hb
        cases hf : setEnt kd k v es with
        | none => rw [hf] at h2; cases h2
        | some es' =>
          rw [hf] at h2; cases h2
          obtain ⟨hkind, l', hl', hres⟩ := setEnt_rel hk hz hf hl
          have hdk' : ∀ p ∈ l, IsKey d p.1 := by
            rcases hkind with rfl | hkind
            · simp
            · have := isKey_same (hkind d' hdk) hik; subst this; exact hdk
          rcases M.findNow hdk' hik with ⟨g1, g2⟩ | ⟨j, e, g1, g2, g3, g4⟩
          · have hfk := run_findKey (w := w) (undA_some hkd) g1
            rcases hres with ⟨_, rfl⟩ | ⟨a, z', c, rfl, rfl⟩
            · refine ⟨_, by simp [Instr.mapUpdate, hu, hg, hck, hfk, run_setObj_map _ hb] <;> rfl, H.putMap (d := d) ho he hb hl' (M.push g2 clock) (hbn.push _ rfl) ?_, rfl⟩
              intro p hp
              rcases List.mem_append.1 hp with hp | hp
              · exact hdk' p hp
              · simp at hp; subst hp; exact hik
            · exact (g2 (y, z') (by simp) rfl).elim
          · have hfk := run_findKey (w := w) (undA_some hkd) g1
            have hkt : (Instr.keyThatStays y y).run P w = .ok y w := run_keyThatStays hik
            rcases hres with ⟨g5, _⟩ | ⟨a, z', c, rfl, rfl⟩
            · exact (g5 _ g4 rfl).elim
            · refine ⟨_, by simp [Instr.mapUpdate, hu, hg, hck, hfk, g2, g3, hkt, run_setObj_map _ hb] <;> rfl, H.putMap (d := d) ho he hb hl' (M.set g2 g3) (hbn.modify _ _ fun _ => rfl) ?_, rfl⟩
              intro p hp
              simp only [List.mem_append, List.mem_cons] at hp
              rcases hp with hp | rfl | hp
              · exact hdk' p (by simp [hp])
              · exact hik
              · exact hdk' p (by simp [hp])
    · cases h2

theorem deleteA_rel (H : HR P Q N0 w0 η h w) {t : TypeId} {ts : Array TypeId} {ty : TypeId} (ht : ts[0]? = some t) {m k : AV} {h' : AH} {x y : Value} (hv : deleteA P h t m k = some h') (hm : concV Q η m = some x) (hk : concV Q η k = some y) :
    ∃ w', (Builtin.delete_ ts ty #[x, y]).run P w = .ok (.tuple #[]) w' ∧ HR P Q N0 w0 η h' w' ∧ h'.next = h.next := by
  unfold deleteA at hv
  cases hmt : mapA P t with
  | none => rw [hmt] at hv; cases hv
  | some kd =>
    obtain ⟨kd, et⟩ := kd
    rw [hmt] at hv
    simp only at hv
    obtain ⟨kt, d, hd, hkd, hok⟩ := mapA_some hmt
    have hu := run_und hd w
    have ⟨h1, h2⟩ := sel_some.1 hv
    have hik := keyKind_isKey h1 hok hk
    have hck := fun e => run_checkKey (w := w) (undA_some hkd) hik e 9999
    split at h2
    · rename_i ham
      rcases asMap_some ham with ⟨_, rfl⟩ | ⟨id', e, _⟩
      · cases hm; cases h2
        exact ⟨w, by simp [Builtin.delete_, ht, hu, hck], H, rfl⟩
      · cases e
    · rename_i id ham
      rcases asMap_some ham with ⟨e, _⟩ | ⟨id', e, rfl⟩
      · cases e
      cases e
      obtain ⟨b, base, cap, he, rfl⟩ := conc_map hm
      cases hes : h.entries id with
      | none => rw [hes] at h2; cases h2
      | some es =>
        rw [hes] at h2
        simp only at h2
        obtain ⟨entries, clock, l, d', ho, hb, hl, M, hdk, hbn⟩ := H.map hes he
        have hg := run_getObj_map (P := P) hb
        cases hf : delEnt kd k es with
        | none => rw [hf] at h2; cases h2
        | some es' =>
          rw [hf] at h2; cases h2
          obtain ⟨hkind, l', hl', hres⟩ := delEnt_rel hk hf hl
          have hdk' : ∀ p ∈ l, IsKey d p.1 := by
            rcases hkind with rfl | hkind
            · simp
            · have := isKey_same (hkind d' hdk) hik; subst this; exact hdk
          rcases M.findNow hdk' hik with ⟨g1, g2⟩ | ⟨j, e, g1, g2, g3, g4⟩
          · have hfk := run_findKey (w := w) (undA_some hkd) g1
            rcases hres with ⟨_, rfl⟩ | ⟨a, z', c, rfl, rfl⟩
            · exact ⟨_, by simp [Builtin.delete_, ht, hu, hg, hck, hfk, run_setObj_map _ hb] <;> rfl, H.putMap (d := d) ho he hb hl' M hbn hdk', rfl⟩
            · exact (g2 (y, z') (by simp) rfl).elim
          · have hfk := run_findKey (w := w) (undA_some hkd) g1
            rcases hres with ⟨g5, _⟩ | ⟨a, z', c, rfl, rfl⟩
            · exact (g5 _ g4 rfl).elim
            · refine ⟨_, by simp [Builtin.delete_, ht, hu, hg, hck, hfk, run_setObj_map _ hb] <;> rfl, H.putMap (d := d) ho he hb hl' (M.erase g2 g3) (hbn.erase _) ?_, rfl⟩
              intro p hp
              simp only [List.mem_append] at hp
              rcases hp with hp | hp
              · exact hdk' p (by simp [hp])
              · exact hdk' p (by simp [hp])
    · cases h2

/-! ## interfaces -/
theorem ifaceA_rel {t : TypeId} {a v : AV} {x : Value} (hv : ifaceA P t a = some v) (ha : concV Q η a = some x) : ∃ z, (Instr.makeInterface t x).run P w = .ok z w ∧ concV Q η v = some z := by
  unfold ifaceA at hv
  split at hv
  · rename_i hi
    cases hv
    obtain ⟨d, hd, hno⟩ := isIfaceT_some hi
    have hu := run_und hd w
    refine ⟨.iface t x, ?_, by simp [concV, ha]⟩
    have hno : ∀ ms, d ≠ .interface ms := fun ms e => by have := hno.2 ⟨ms, e⟩; cases this
    cases d <;> first | (exact absurd rfl (hno _)) | simp [Instr.makeInterface, hu]
  · cases hv

theorem assertFails_rel {t : TypeId} {ok : Bool} {v : AV} (hv : assertFails P t ok = some v) : ok = true ∧ ∃ zv, (zeroValue t).run P w = .ok zv w ∧ concV Q η v = some (.tuple #[zv, .bool false]) := by
  unfold assertFails at hv
  have ⟨h1, h2⟩ := sel_some.1 hv
  cases hz : zeroOf P t with
  | none => rw [hz] at h2; cases h2
  | some z =>
    rw [hz] at h2; cases h2
    obtain ⟨zv, g1, g2⟩ := run_zero hz w
    exact ⟨h1, zv, g1, by simp [concV, concVs, ofV_conc zv g2]⟩

theorem hasA_some {want : Array (String × TypeId)} {t : TypeId} {b : Bool} (h1 : hasA P want t = some b) :
    ∃ i, P.info? t = some i ∧ (b = true → Instr.missingMethod want i.methods = none) ∧ (b = false → ∃ m, Instr.missingMethod want i.methods = some m) := by
  unfold hasA at h1
  cases hi : infoA P t with
  | none => rw [hi] at h1; cases h1
  | some i =>
    rw [hi] at h1
    refine ⟨i, infoA_some hi, ?_, ?_⟩
    · rintro rfl
      cases hm : Instr.missingMethod want i.methods with
      | none => rfl
      | some m => simp [hm] at h1
    · rintro rfl
      cases hm : Instr.missingMethod want i.methods with
      | none => simp [hm] at h1
      | some m => exact ⟨m, rfl⟩

theorem typeAssertA_rel {a v : AV} {xt asserted : TypeId} {ok : Bool} {x : Value} (hv : typeAssertA P a asserted ok = some v) (ha : concV Q η a = some x) :
    ∃ z, (Instr.typeAssert x xt asserted ok).run P w = .ok z w ∧ concV Q η v = some z := by
  unfold typeAssertA at hv
  have out : ∀ (z : AV) (zv : Value), concV Q η z = some zv → concV Q η (sel ok (.tup [z, .bool true]) z) = some (if ok then .tuple #[zv, .bool true] else zv) := fun z zv hz => by
    cases ok
    · simpa [sel_false] using hz
    · simp [sel_true, concV, concVs, hz]
  cases hd : undA P asserted with
  | none => rw [hd] at hv; cases hv
  | some d =>
    have hu := run_und hd w
    rw [hd] at hv
    have hni : isNi a = true → assertFails P asserted ok = some v → ∃ z, (Instr.typeAssert x xt asserted ok).run P w = .ok z w ∧ concV Q η v = some z := fun h1 h2 => by
      obtain rfl := isNi_true h1
      cases ha
      obtain ⟨rfl, zv, g1, g2⟩ := assertFails_rel (Q := Q) (η := η) (w := w) h2
      exact ⟨_, by cases d <;> simp [Instr.typeAssert, hu, g1], g2⟩
    by_cases hif : ∃ want, d = .interface want
    · obtain ⟨want, rfl⟩ := hif
      simp only at hv
      cases hai : asIface a with
      | none =>
        rw [hai] at hv
        have ⟨h1, h2⟩ := sel_some.1 hv
        exact hni h1 h2
      | some p =>
        rw [hai] at hv
        simp only at hv
        obtain rfl := asIface_some hai
        obtain ⟨y, hy, rfl⟩ := conc_iface ha
        cases hh : hasA P want p.1 with
        | none => rw [hh] at hv; cases hv
        | some b =>
          rw [hh] at hv
          obtain ⟨i, hi, ht, hf⟩ := hasA_some hh
          have hinf := run_info hi w
          cases b with
          | true =>
            cases hv
            exact ⟨_, by simp [Instr.typeAssert, hu, hinf, ht rfl], out (.iface p.1 p.2) (.iface p.1 y) (by simp [concV, hy])⟩
          | false =>
            obtain ⟨m, hm⟩ := hf rfl
            obtain ⟨rfl, zv, g1, g2⟩ := assertFails_rel (Q := Q) (η := η) (w := w) hv
            exact ⟨_, by simp [Instr.typeAssert, hu, hinf, hm, g1], g2⟩
    · have hv' : (match asIface a with
          | some p => sel (Nat.beq p.1 asserted) (some (sel ok (.tup [p.2, .bool true]) p.2)) (assertFails P asserted ok)
          | none => sel (isNi a) (assertFails P asserted ok) none) = some v := by
        cases d <;> first | exact hv | exact absurd ⟨_, rfl⟩ hif
      cases hai : asIface a with
      | none =>
        rw [hai] at hv'
        have ⟨h1, h2⟩ := sel_some.1 hv'
        exact hni h1 h2
      | some p =>
        rw [hai] at hv'
        simp only at hv'
        obtain rfl := asIface_some hai
        obtain ⟨y, hy, rfl⟩ := conc_iface ha
        cases hb : Nat.beq p.1 asserted with
        | true =>
          rw [hb, sel_true] at hv'; cases hv'
          have he := beq_iff.1 hb
          exact ⟨_, by cases d <;> first | (exact absurd ⟨_, rfl⟩ hif) | simp [Instr.typeAssert, hu, he], out p.2 y hy⟩
        | false =>
          rw [hb, sel_false] at hv'
          have he := beq_no.1 hb
          obtain ⟨rfl, zv, g1, g2⟩ := assertFails_rel (Q := Q) (η := η) (w := w) hv'
          exact ⟨_, by cases d <;> first | (exact absurd ⟨_, rfl⟩ hif) | simp [Instr.typeAssert, hu, he, g1], g2⟩

/-! ## the greatest, the least -/
theorem max2A_rel {a b v : AV} {x y : Value} (hv : max2A a b = some v) (ha : concV Q η a = some x) (hb : concV Q η b = some y) : ∃ z, (Builtin.max2 x y).run P w = .ok z w ∧ concV Q η v = some z := by
  unfold max2A at hv
  cases e : Sx.asInt a with
  | none => rw [e] at hv; cases hv
  | some p =>
    rw [e] at hv
    simp only at hv
    cases e2 : Sx.asInt b with
    | none => rw [e2] at hv; cases hv
    | some q =>
      rw [e2] at hv; cases hv
      obtain rfl := asInt_some e
      obtain rfl := asInt_some e2
      cases ha; cases hb
      rw [mkInt_eq, sel_eq, ltI_eq]
      refine ⟨.int p.1 (if p.2 < q.2 then q.2 else p.2), by simp [Builtin.max2], ?_⟩
      by_cases hlt : p.2 < q.2 <;> simp [hlt, concV]

theorem min2A_rel {a b v : AV} {x y : Value} (hv : min2A a b = some v) (ha : concV Q η a = some x) (hb : concV Q η b = some y) : ∃ z, (Builtin.min2 x y).run P w = .ok z w ∧ concV Q η v = some z := by
  unfold min2A at hv
  cases e : Sx.asInt a with
  | none => rw [e] at hv; cases hv
  | some p =>
    rw [e] at hv
    simp only at hv
    cases e2 : Sx.asInt b with
    | none => rw [e2] at hv; cases hv
    | some q =>
      rw [e2] at hv; cases hv
      obtain rfl := asInt_some e
      obtain rfl := asInt_some e2
      cases ha; cases hb
      rw [mkInt_eq, sel_eq, ltI_eq]
      refine ⟨.int p.1 (if q.2 < p.2 then q.2 else p.2), by simp [Builtin.min2], ?_⟩
      by_cases hlt : q.2 < p.2 <;> simp [hlt, concV]

theorem foldA_rel {f : AV → AV → Option AV} {g : Value → Value → Sem Value} (hf : ∀ {a b v : AV} {x y : Value}, f a b = some v → concV Q η a = some x → concV Q η b = some y → ∃ z, (g x y).run P w = .ok z w ∧ concV Q η v = some z) :
    ∀ {l : List AV} {xs : List Value} {a v : AV} {x : Value}, foldA f a l = some v → concV Q η a = some x → concVs Q η l = some xs → ∃ z, (xs.foldlM g x).run P w = .ok z w ∧ concV Q η v = some z
  | [], _, a, v, x, h1, h2, h3 => by cases h1; cases h3; exact ⟨x, by simp, h2⟩
  | b :: r, _, a, v, x, h1, h2, h3 => by
    obtain ⟨y, m, rfl, h4, h5⟩ := concVs_cons h3
    unfold foldA at h1
    cases e : f a b with
    | none => rw [e] at h1; cases h1
    | some u =>
      rw [e] at h1
      simp only at h1
      obtain ⟨z, h6, h7⟩ := hf e h2 h4
      obtain ⟨z', h8, h9⟩ := foldA_rel (f := f) hf h1 h7 h5
      exact ⟨z', by simp [List.foldlM_cons, h6, h8], h9⟩

end
end Go.Sx
