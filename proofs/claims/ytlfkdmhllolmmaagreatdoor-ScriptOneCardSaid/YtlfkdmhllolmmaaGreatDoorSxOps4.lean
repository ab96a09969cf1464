/- Conversions, cuts, append, copy, make. -/
import Derived.Test.YtlfkdmhllolmmaaGreatDoorSxOps3
namespace Go.Sx
open Go

theorem modify_push {α : Type} (a : Array α) (x : α) (f : α → α) : (a.push x).modify a.size f = a.push (f x) := by
  apply Array.ext_getElem?
  intro i
  rw [Array.getElem?_modify, Array.getElem?_push, Array.getElem?_push]
  by_cases h : i = a.size
  · subst h; simp
  · rw [if_neg (Ne.symm h), if_neg h, if_neg h]

section
variable {P : Program} {Q : Nat → Value} {N0 : Keep} {w0 : World} {η : Env} {h : AH} {w : World}

/-! ## forms of slices -/
theorem asSl_sl {v : AV} {id off len cap : Nat} (h1 : asSl v = .sl id off len cap) : v = .sl id off len cap := by
  cases v <;> simp [asSl] at h1; obtain ⟨rfl, rfl, rfl, rfl⟩ := h1; rfl
theorem asSl_su {v : AV} {id off oe len : Nat} (h1 : asSl v = .su id off oe len) : v = .su id off oe len := by
  cases v <;> simp [asSl] at h1; obtain ⟨rfl, rfl, rfl, rfl⟩ := h1; rfl
theorem asSl_emp {v : AV} {i : Nat} (h1 : asSl v = .emp i) : v = .es i := by
  cases v <;> simp [asSl] at h1; subst h1; rfl
theorem asSl_nil {v : AV} (h1 : asSl v = .nil) : v = .ns := by
  cases v <;> simp [asSl] at h1; rfl

theorem conc_sl {id off len cap : Nat} {x : Value} (hc : concV Q η (.sl id off len cap) = some x) : ∃ b base c, η id = some (.blk b base c) ∧ x = .slice (some ⟨b, base + off, none⟩) len cap := by
  simp only [concV] at hc
  split at hc
  · rename_i b base c he; cases hc; exact ⟨b, base, c, he, rfl⟩
  · cases hc

theorem conc_su {id off oe len : Nat} {x : Value} (hc : concV Q η (.su id off oe len) = some x) :
    ∃ b base c, η id = some (.blk b base c) ∧ oe + len ≤ c ∧ x = .slice (some ⟨b, base + off, none⟩) len (c - oe) := by
  simp only [concV] at hc
  split at hc
  · rename_i b base c he
    split at hc
    · rename_i hle; cases hc; exact ⟨b, base, c, he, hle, rfl⟩
    · cases hc
  · cases hc

theorem conc_es {i : Nat} {x : Value} (hc : concV Q η (.es i) = some x) : ∃ a c, x = .slice (some a) 0 c := by
  simp only [concV] at hc
  split at hc
  · rename_i a c he; cases hc; exact ⟨a, c, rfl⟩
  · cases hc

/-- three bytes of which one is not told -/
theorem packO_conc (hQ : QOk Q) {l : List AV} {v : AV} (h : packO l = some v) {xs : List Value} (hc : concVs Q η l = some xs) : ∃ a b c : Int, xs = [.int .u8 a, .int .u8 b, .int .u8 c] ∧ concV Q η v = some (str3 a b c) := by
  have byteOf : ∀ {x : AV} {m : Nat} {y : Value}, byteOfA x = some m → concV Q η x = some y → ∃ k : Nat, y = .int .u8 k ∧ m = k % 256 := fun {x m y} h1 h2 => by
    unfold byteOfA at h1
    cases e : asInt x with
    | none => rw [e] at h1; cases h1
    | some p =>
      rw [e] at h1
      obtain ⟨pk, pn⟩ := p
      obtain rfl := asInt_some e
      cases h2
      cases pk <;> simp only at h1 <;> try (cases h1; done)
      cases pn with
      | ofNat k => cases h1; exact ⟨k, rfl, rfl⟩
      | negSucc k => cases h1
  have opq : ∀ {x : AV} {i : Nat}, opqU8 x = some i → x = .opq 46 := fun {x i} h1 => by
    unfold opqU8 at h1
    cases e : asOpq x with
    | none => rw [e] at h1; cases h1
    | some j =>
      rw [e] at h1
      have ⟨h2, _⟩ := sel_some.1 h1
      rw [asOpq_some e, beq_iff.1 h2]
  have u8 : ∀ k : Nat, UInt8.ofNat ((k % 256 : Nat) : Int).toNat = UInt8.ofNat (k : Int).toNat := fun k => by
    simp only [Int.toNat_natCast]
    apply UInt8.toNat_inj.1
    simp
  unfold packO at h
  split at h
  · rename_i a b c
    obtain ⟨ya, l1, rfl, ha, hc1⟩ := concVs_cons hc
    obtain ⟨yb, l2, rfl, hb, hc2⟩ := concVs_cons hc1
    obtain ⟨yc, l3, rfl, hcc, hc3⟩ := concVs_cons hc2
    cases hc3
    cases h1 : byteOfA a with
    | none => rw [h1] at h; cases h
    | some m =>
      rw [h1] at h
      simp only at h
      obtain ⟨ka, rfl, hm⟩ := byteOf h1 ha
      cases h2 : opqU8 b with
      | some i =>
        rw [h2] at h
        simp only at h
        cases h3 : byteOfA c with
        | none => rw [h3] at h; cases h
        | some n =>
          rw [h3] at h; cases h
          obtain ⟨kc, rfl, hn⟩ := byteOf h3 hcc
          have := opq h2
          subst this
          obtain ⟨x, g1, g2, _⟩ := hQ.2.2.2 m n (by omega) (by omega)
          cases hb
          refine ⟨ka, x, kc, by rw [g1], ?_⟩
          show some (Q _) = _
          rw [g2, hm, hn]
          simp only [str3, u8]
      | none =>
        rw [h2] at h
        simp only at h
        cases h3 : byteOfA b with
        | none => rw [h3] at h; cases h
        | some n =>
          rw [h3] at h
          simp only at h
          obtain ⟨kb, rfl, hn⟩ := byteOf h3 hb
          cases h4 : opqU8 c with
          | none => rw [h4] at h; cases h
          | some i =>
            rw [h4] at h; cases h
            have := opq h4
            subst this
            obtain ⟨x, g1, _, g2⟩ := hQ.2.2.2 m n (by omega) (by omega)
            cases hcc
            refine ⟨ka, kb, x, by rw [g1], ?_⟩
            show some (Q _) = _
            rw [g2, hm, hn]
            simp only [str3, u8]
  · cases h

theorem bytes3_run {b off cap : Nat} {c : Array Value} {e : TypeId} {fr : Nat × Nat} (hb : w.heap[b]? = some (.cells c e fr)) {x y z : Int} (hx : ∀ (j : Nat), j < 3 → c[off + j]? = [Value.int .u8 x, .int .u8 y, .int .u8 z][j]?) :
    (Conv.bytesToString (.slice (some ⟨b, off, none⟩) 3 cap)).run P w = .ok (str3 x y z) w := by
  have hl := run_loadCells (P := P) hb [Value.int .u8 x, .int .u8 y, .int .u8 z] (o := off) (fun j hj => hx j (by simpa using hj)) (n := 3) rfl
  unfold Conv.bytesToString
  simp only [Sem.run_bind, hl, Result.andThen_ok]
  rw [← Array.forIn_toList]
  simp [str3]
  rfl

theorem bytesOfRow_rel (hQ : QOk Q) (H : HR P Q N0 w0 η h w) {id off len cap b base c : Nat} {v : AV} {h' : AH} (hv : bytesOfRow h id off len = some (v, h')) (he : η id = some (.blk b base c)) :
    VRel P Q N0 w0 η h v h' ((Conv.bytesToString (.slice (some ⟨b, base + off, none⟩) len cap)).run P w) := by
  unfold bytesOfRow at hv
  cases hr : h.row id with
  | none => rw [hr] at hv; cases hv
  | some r =>
    rw [hr] at hv
    simp only at hv
    cases hl : ltake r.1 off len with
    | none => rw [hl] at hv; cases hv
    | some l =>
      rw [hl] at hv
      simp only at hv
      obtain ⟨ro, ho⟩ := row_obj (cs := r.1) (e := r.2) hr
      obtain ⟨cc, fr, hb, hc, _, _, _⟩ := H.cells ho he
      obtain ⟨xs, h1, h2, h3⟩ := hc.part hl
      cases hp : packA l with
      | none =>
        rw [hp] at hv
        simp only at hv
        cases hq : packO l with
        | none => rw [hq] at hv; cases hv
        | some u =>
          rw [hq] at hv; cases hv
          obtain ⟨x, y, z, rfl, g1⟩ := packO_conc hQ hq h1
          have hlen : len = 3 := by
            have := ltake_length hl
            have := concVs_length h1
            simp at this; omega
          subst hlen
          exact VRel.same H (bytes3_run (P := P) (cap := cap) hb h3) g1
      | some u =>
        rw [hp] at hv; cases hv
        obtain ⟨h4, h5⟩ := bytesToString_rel (P := P) (cap := cap) hb hp h1 (ltake_length hl) h3
        rw [mkStr_eq h5]
        exact VRel.same H h4 (conc_str_mk h5)

/-- the bytes of a row are marked: nothing that is asked turns -/
theorem mark_rel (H : HR P Q N0 w0 η h w) {id b base cap : Nat} {row : List AV × TypeId} (hr : h.rowW id = some row) (he : η id = some (.blk b base cap)) (o : Nat) :
    ∃ w', (markStringish ⟨b, o, none⟩).run P w = .ok () w' ∧ HR P Q N0 w0 η h w' := by
  have ho := rowW_obj hr
  obtain ⟨c, fr, hb, hc, hnf, hcap, hN⟩ := H.cells ho he
  have hlt : b < w.heap.size := by
    rcases Nat.lt_or_ge b w.heap.size with h | h
    · exact h
    · rw [Array.getElem?_eq_none h] at hb; cases hb
  have hshape : w.shape? b = some (row.2, c.size) := by simp [World.shape?, hb]
  obtain ⟨lo, hi⟩ := fr
  have hb' : (w.freeze ⟨b, c.size, none⟩ 1).heap[b]? = some (.cells c row.2 (if lo == hi then (c.size, c.size + 1) else (min lo c.size, max hi (c.size + 1)))) := by
    simp [World.freeze, Array.getElem?_modify, hb]
  have hother : ∀ b', b' ≠ b → (w.freeze ⟨b, c.size, none⟩ 1).heap[b']? = w.heap[b']? := fun b' hne => by
    simp [World.freeze, Array.getElem?_modify, Ne.symm hne]
  have hnf' : NotFrozen c (if lo == hi then (c.size, c.size + 1) else (min lo c.size, max hi (c.size + 1))) := by
    obtain ⟨h1, h2⟩ := hnf
    simp only at h1 h2
    by_cases e : lo = hi
    · subst e
      simp only [beq_self_eq_true, if_true]
      exact ⟨fun j hj => by simp only; omega, by simp⟩
    · rw [if_neg (by simpa using e)]
      have h3 : c.size ≤ lo := by
        rcases Nat.lt_or_ge lo c.size with h | h
        · exact absurd ⟨Nat.le_refl lo, by omega⟩ (h1 lo h)
        · exact h
      refine ⟨fun j hj => ?_, ?_⟩
      · simp only; omega
      · simp only; omega
  have H' := H.put ho he rfl hb' hother (by simp [World.freeze]) (o' := .cells false row.1 row.2) ⟨rfl, hc, hnf', hcap⟩ ⟨by simp [World.freeze], by simp [World.freeze]⟩
  refine ⟨w.freeze ⟨b, c.size, none⟩ 1, by simp only [markStringish, Sem.run_bind, run_shape, hshape, Result.andThen_ok, run_freeze], ?_⟩
  refine H'.congr fun i => ?_
  by_cases hi : i = id
  · subst hi; exact ho.trans (Tr.get_put_selfO fuel h.heap i _).symm
  · exact (Tr.get_put_neO fuel h.heap id _ i hi).symm

theorem convA_rel (hQ : QOk Q) (H : HR P Q N0 w0 η h w) (hn : η h.next = none) {src dst : TypeId} {a v : AV} {h' : AH} {x : Value} (hv : convA P h src dst a = some (v, h')) (ha : concV Q η a = some x) :
    VRel P Q N0 w0 η h v h' ((convert src dst x).run P w) := by
  unfold convA at hv
  generalize hcd : convD P src dst = cd at hv
  unfold convD at hcd
  cases hs : undA P src with
  | none => rw [hs] at hcd; subst hcd; cases hv
  | some s =>
    rw [hs] at hcd
    have hus := run_und hs w
    cases s with
    | int ks =>
      simp only at hcd
      cases hd : undA P dst with
      | none => rw [hd] at hcd; subst hcd; cases hv
      | some d =>
        rw [hd] at hcd
        have hud := run_und hd w
        cases d <;> simp only at hcd <;> subst hcd <;> simp only at hv <;> try cases hv
        rename_i k
        cases e : Sx.asInt a with
        | none =>
          rw [e] at hv
          simp only at hv
          cases e2 : asOpq a with
          | none => rw [e2] at hv; cases hv
          | some i =>
            rw [e2] at hv
            simp only at hv
            obtain rfl := asOpq_some e2
            unfold byteInt at hv
            cases hby : qByte i with
            | false => rw [hby, sel_false] at hv; cases hv
            | true =>
              rw [hby, sel_true] at hv
              cases k <;> (try (simp only at hv; cases hv; done))
              case i64 =>
                simp only at hv
                cases hT : qbT i <;> rw [hT] at hv <;> simp only at hv <;> cases hv
                obtain ⟨n, hn, hnext, hn0, hn1, _⟩ := hQ.byte hby
                rw [hT] at hn
                have hx : x = .int .u8 n := by cases ha; exact hn
                subst hx
                refine VRel.same H (x := .int .i64 n) ?_ (by show some (Q (i + 1)) = _; rw [hnext hT])
                have hw : IntKind.wrap .i64 n = n := wrap_in (by simp [IntKind.min, IntKind.signed, IntKind.bits]; omega) (by simp [IntKind.max, IntKind.signed, IntKind.bits]; omega)
                simp [convert, hus, hud, Conv.intToInt, hw]
              case u8 =>
                simp only at hv
                cases hT : qbT i <;> rw [hT] at hv <;> simp only at hv <;> cases hv
                obtain ⟨n, hn, hprev, hn0, hn1⟩ := hQ.back hby hT
                have hx : x = .int .i64 n := by cases ha; exact hn
                subst hx
                refine VRel.same H (x := .int .u8 n) ?_ (by show some (Q (i - 1)) = _; rw [hprev])
                have hw : IntKind.wrap .u8 n = n := wrap_in (by simp [IntKind.min, IntKind.signed, IntKind.bits]; omega) (by simp [IntKind.max, IntKind.signed, IntKind.bits]; omega)
                simp [convert, hus, hud, Conv.intToInt, hw]
        | some p =>
          rw [e] at hv; cases hv
          obtain rfl := asInt_some e
          cases ha
          rw [mkInt_eq, wrapF_eq]
          exact VRel.same H (x := .int k (k.wrap p.2)) (by simp [convert, hus, hud, Conv.intToInt]) rfl
    | string =>
      simp only at hcd
      cases hd : undA P dst with
      | none => rw [hd] at hcd; subst hcd; cases hv
      | some d =>
        rw [hd] at hcd
        have hud := run_und hd w
        cases d <;> simp only at hcd <;> try (subst hcd; cases hv; done)
        · subst hcd
          simp only at hv
          cases e : asStr a with
          | none => rw [e] at hv; cases hv
          | some p =>
            rw [e] at hv; cases hv
            obtain rfl := asStr_some e
            obtain ⟨_, rfl⟩ := conc_str ha
            exact VRel.same H (by simp [convert, hus, hud]) ha
        · rename_i el
          cases hel : undA P el with
          | none => rw [hel] at hcd; subst hcd; cases hv
          | some dl =>
            rw [hel] at hcd
            have hue := run_und hel w
            cases dl <;> (try simp only at hcd) <;> try (subst hcd; cases hv; done)
            rename_i ke
            cases ke <;> (try simp only at hcd) <;> try (subst hcd; cases hv; done)
            have hsz1 : szOf P el = some 1 ∧ cd = .toBytes el := by
              split at hcd
              · rename_i e1; exact ⟨e1, hcd.symm⟩
              · subst hcd; cases hv
            obtain ⟨hsz1, rfl⟩ := hsz1
            clear hcd
            simp only at hv
            cases e : asStr a with
            | none => rw [e] at hv; cases hv
            | some p =>
              rw [e] at hv
              simp only [Option.some.injEq, Prod.mk.injEq] at hv
              obtain ⟨rfl, rfl⟩ := hv
              obtain rfl := asStr_some e
              obtain ⟨hlt, rfl⟩ := conc_str ha
              let t := w.tape w.drawn (.appendCap (bytesOf p.1 p.2).size 0 el)
              let cap := (bytesOf p.1 p.2).size + t % (2 ^ 63 - (bytesOf p.1 p.2).size)
              let arr : Array Value := ((bytesOf p.1 p.2).data.map fun b => Value.int .u8 b.toNat) ++ Array.replicate (cap - (bytesOf p.1 p.2).size) (.int .u8 0)
              have hsz : arr.size = cap := by
                have : (bytesOf p.1 p.2).data.size = (bytesOf p.1 p.2).size := rfl
                simp only [arr, Array.size_append, Array.size_map, Array.size_replicate, this]; omega
              have hrun : (convert src dst (.string (bytesOf p.1 p.2))).run P w =
                  .ok (.slice (some ⟨w.heap.size, 0, none⟩) (bytesOf p.1 p.2).size cap) ((w.drew.alloc (.cells arr el)).freeze ⟨w.heap.size, cap, none⟩ 1) := by
                simp only [convert, Sem.run_bind, hus, hud, Result.andThen_ok, hue, Conv.stringToBytes, run_choose, Question.forced, Bool.false_eq_true, if_false, Question.cut, World.drew_eq, newRow, run_newObj, World.alloc_eq,
                  Sem.run_pure, markStringish, run_shape]
                have hsh : (w.drew.alloc (.cells arr el)).shape? w.drew.heap.size = some (el, arr.size) := by
                  simp only [World.shape?]
                  have : (w.drew.alloc (.cells arr el)).heap[w.drew.heap.size]? = some (.cells arr el) := by
                    show (w.drew.heap.push _)[w.drew.heap.size]? = _; rw [Array.getElem?_push, if_pos rfl]
                  rw [this]
                rw [show (w.drew.alloc (.cells (((bytesOf p.1 p.2).data.map fun b => Value.int .u8 b.toNat) ++ Array.replicate ((bytesOf p.1 p.2).size + w.tape w.drawn (.appendCap (bytesOf p.1 p.2).size 0 el) % (2 ^ 63 - (bytesOf p.1 p.2).size) - (bytesOf p.1 p.2).size) (.int .u8 0)) el)).shape? w.drew.heap.size = some (el, arr.size) from hsh]
                simp only [run_freeze, Result.andThen_ok, hsz]
                rfl
              rw [hrun]
              have Hd : HR P Q N0 w0 η h w.drew := H.of_heap rfl
              have hcr : CellsRel Q η (bytesA p.1 p.2) 0 arr := CellsRel.of_list (bytesA_conc p.1 p.2) (fun j hj => by
                have h5 : (bytesOf p.1 p.2).data = (bytesL p.1 p.2).toArray := rfl
                simp only [List.length_map, bytesL_length] at hj
                simp only [arr, h5]
                rw [Array.getElem?_append_left (by simp [bytesL_length]; exact hj)]
                simp)
              have hfz : (w.drew.alloc (.cells arr el)).freeze ⟨w.heap.size, cap, none⟩ 1 = w.drew.alloc (.cells arr el (cap, cap + 1)) := by
                simp only [World.freeze, World.alloc]
                have h6 : w.heap.size = w.drew.heap.size := rfl
                simp only [Nat.one_ne_zero, if_false, h6]
                congr 1
                rw [modify_push]
                rfl
              rw [hfz]
              obtain ⟨_, _, _, hce⟩ := szOf_some hsz1
              refine ⟨_, _, _, rfl, .inr ⟨_, rfl, rfl⟩, Hd.new hn (cap := cap) ⟨rfl, hcr.mono (Env.ext_with _ hn), ⟨fun j hj => by rw [hsz] at hj; simp only; omega, by simp⟩, by rw [hsz, hce]; omega⟩, ?_⟩
              simp only [concV, Env.with_self, size_bytesOf, Nat.zero_add, Nat.sub_zero]
              rw [if_pos (by simp only [cap, size_bytesOf]; omega)]
              rfl
    | slice el =>
      simp only at hcd
      cases hd : undA P dst with
      | none => rw [hd] at hcd; subst hcd; cases hv
      | some d =>
        rw [hd] at hcd
        have hud := run_und hd w
        cases d <;> simp only at hcd <;> try (subst hcd; cases hv; done)
        case slice el' =>
          cases hel : undA P el with
          | none => rw [hel] at hcd; subst hcd; cases hv
          | some dl =>
            rw [hel] at hcd
            have hue := run_und hel w
            cases dl <;> (try simp only at hcd) <;> try (subst hcd; cases hv; done)
            rename_i ke
            cases ke <;> (try simp only at hcd) <;> try (subst hcd; cases hv; done)
            cases hbq : Nat.beq src dst with
            | false => rw [hbq, sel_false] at hcd; subst hcd; cases hv
            | true =>
              rw [hbq, sel_true] at hcd
              subst hcd
              have hsd := beq_iff.1 hbq
              subst hsd
              rw [hs] at hd; cases hd
              simp only at hv
              split at hv
              · rename_i id off len cap hsl
                obtain rfl := asSl_sl hsl
                split at hv
                · rename_i row hrow
                  cases hv
                  obtain ⟨b, base, c, he, rfl⟩ := conc_sl ha
                  obtain ⟨w', g1, g2⟩ := mark_rel (P := P) H hrow he (base + off)
                  exact ⟨η, _, w', by simp [convert, hus, hue, g1, Result.andThen_ok], .inl ⟨rfl, rfl⟩, g2, ha⟩
                · cases hv
              · rename_i id off oe len hsl
                obtain rfl := asSl_su hsl
                split at hv
                · rename_i row hrow
                  cases hv
                  obtain ⟨b, base, c, he, hle, rfl⟩ := conc_su ha
                  obtain ⟨w', g1, g2⟩ := mark_rel (P := P) H hrow he (base + off)
                  exact ⟨η, _, w', by simp [convert, hus, hue, g1, Result.andThen_ok], .inl ⟨rfl, rfl⟩, g2, ha⟩
                · cases hv
              · cases hv
        cases hel : undA P el with
        | none => rw [hel] at hcd; subst hcd; cases hv
        | some dl =>
          rw [hel] at hcd
          have hue := run_und hel w
          cases dl <;> (try simp only at hcd) <;> try (subst hcd; cases hv; done)
          rename_i ke
          cases ke <;> (try simp only at hcd) <;> subst hcd <;> (try simp only at hv) <;> try (cases hv; done)
          have hrun : ∀ y : Value, (convert src dst y).run P w = (Conv.bytesToString y).run P w ∨ ∃ s, y = .string s ∨ ∃ k n, y = .int k n := fun y => by
            cases y <;> first
              | exact .inr ⟨_, .inl rfl⟩
              | exact .inr ⟨ByteArray.empty, .inr ⟨_, _, rfl⟩⟩
              | exact .inl (by simp [convert, hus, hud, hue])
          split at hv
          · rename_i hsl
            obtain rfl := asSl_nil hsl
            cases ha; cases hv
            refine VRel.same H (x := .string ByteArray.empty) (by simp [convert, hus, hud, hue, Conv.bytesToString]) ?_
            simp [concV, bytesOf, bytesL]; rfl
          · rename_i i hsl
            obtain rfl := asSl_emp hsl
            obtain ⟨ad, c, rfl⟩ := conc_es ha
            cases hv
            refine VRel.same H (x := .string ByteArray.empty) (by simp [convert, hus, hud, hue, Conv.bytesToString, loadCells, loadCellsFrom]) ?_
            simp [concV, bytesOf, bytesL]; rfl
          · rename_i id off len cap hsl
            obtain rfl := asSl_sl hsl
            obtain ⟨b, base, c, he, rfl⟩ := conc_sl ha
            have := bytesOfRow_rel (cap := cap) hQ H hv he
            rw [show (convert src dst (.slice (some ⟨b, base + off, none⟩) len cap)).run P w = (Conv.bytesToString (.slice (some ⟨b, base + off, none⟩) len cap)).run P w by simp [convert, hus, hud, hue]]
            exact this
          · rename_i id off oe len hsl
            obtain rfl := asSl_su hsl
            obtain ⟨b, base, c, he, hle, rfl⟩ := conc_su ha
            have := bytesOfRow_rel (cap := c - oe) hQ H hv he
            rw [show (convert src dst (.slice (some ⟨b, base + off, none⟩) len (c - oe))).run P w = (Conv.bytesToString (.slice (some ⟨b, base + off, none⟩) len (c - oe))).run P w by simp [convert, hus, hud, hue]]
            exact this
          · cases hv
    | _ => simp only at hcd; subst hcd; cases hv

end
end Go.Sx
