/- Conversions, cuts, append, copy, make. -/
import Derived.Test.YtokllimeebehkaaGreatDoorSxOps3
namespace Go.Sx
open Go

theorem modify_push {α : Type} (a : Array α) (x : α) (f : α → α) : (a.push x).modify a.size f = a.push (f x) := by
  apply Array.ext_getElem?
  intro i
  rw [Array.getElem?_modify, Array.getElem?_push, Array.getElem?_push]
  by_cases h : i = a.size
  · subst h; simp
  · rw [if_neg (Ne.symm h), if_neg h, if_neg h]

section
variable {P : Program} {Q : Nat → Value} {N0 : Nat → Prop} {w0 : World} {η : Env} {h : AH} {w : World}

/-! ## forms of slices -/
theorem asSl_sl {v : AV} {id off len cap : Nat} (h1 : asSl v = .sl id off len cap) : v = .sl id off len cap := by
  cases v <;> simp [asSl] at h1; obtain ⟨rfl, rfl, rfl, rfl⟩ := h1; rfl
theorem asSl_su {v : AV} {id off oe len : Nat} (h1 : asSl v = .su id off oe len) : v = .su id off oe len := by
  cases v <;> simp [asSl] at h1; obtain ⟨rfl, rfl, rfl, rfl⟩ := h1; rfl
theorem asSl_emp {v : AV} {i : Nat} (h1 : asSl v = .emp i) : v = .es i := by
  cases v <;> simp [asSl] at h1; subst h1; rfl
theorem asSl_nil {v : AV} (h1 : asSl v = .nil) : v = .ns := by
  cases v <;> simp [asSl] at h1; rfl

theorem conc_sl {id off len cap : Nat} {x : Value} (hc : concV Q η (.sl id off len cap) = some x) : ∃ b base c, η id = some (.blk b base c) ∧ x = .slice (some ⟨b, base + off, none⟩) len cap := by
  simp only [concV] at hc
  split at hc
  · rename_i b base c he; cases hc; exact ⟨b, base, c, he, rfl⟩
  · cases hc

theorem conc_su {id off oe len : Nat} {x : Value} (hc : concV Q η (.su id off oe len) = some x) :
    ∃ b base c, η id = some (.blk b base c) ∧ oe + len ≤ c ∧ x = .slice (some ⟨b, base + off, none⟩) len (c - oe) := by
  simp only [concV] at hc
  split at hc
  · rename_i b base c he
    split at hc
    · rename_i hle; cases hc; exact ⟨b, base, c, he, hle, rfl⟩
    · cases hc
  · cases hc

theorem conc_es {i : Nat} {x : Value} (hc : concV Q η (.es i) = some x) : ∃ a c, x = .slice (some a) 0 c := by
  simp only [concV] at hc
  split at hc
  · rename_i a c he; cases hc; exact ⟨a, c, rfl⟩
  · cases hc

theorem bytesOfRow_rel (H : HR P Q N0 w0 η h w) {id off len cap b base c : Nat} {v : AV} {h' : AH} (hv : bytesOfRow h id off len = some (v, h')) (he : η id = some (.blk b base c)) :
    VRel P Q N0 w0 η h v h' ((Conv.bytesToString (.slice (some ⟨b, base + off, none⟩) len cap)).run P w) := by
  unfold bytesOfRow at hv
  cases hr : h.row id with
  | none => rw [hr] at hv; cases hv
  | some r =>
    rw [hr] at hv
    simp only at hv
    cases hl : ltake r.1 off len with
    | none => rw [hl] at hv; cases hv
    | some l =>
      rw [hl] at hv
      simp only at hv
      cases hp : packA l with
      | none => rw [hp] at hv; cases hv
      | some u =>
        rw [hp] at hv; cases hv
        obtain ⟨ro, ho⟩ := row_obj (cs := r.1) (e := r.2) hr
        obtain ⟨cc, fr, hb, hc, _, _, _⟩ := H.cells ho he
        obtain ⟨xs, h1, h2, h3⟩ := hc.part hl
        obtain ⟨h4, h5⟩ := bytesToString_rel (P := P) (cap := cap) hb hp h1 (ltake_length hl) h3
        rw [mkStr_eq h5]
        exact VRel.same H h4 (conc_str_mk h5)

theorem convA_rel (H : HR P Q N0 w0 η h w) (hn : η h.next = none) {src dst : TypeId} {a v : AV} {h' : AH} {x : Value} (hv : convA P h src dst a = some (v, h')) (ha : concV Q η a = some x) :
    VRel P Q N0 w0 η h v h' ((convert src dst x).run P w) := by
  unfold convA at hv
  generalize hcd : convD P src dst = cd at hv
  unfold convD at hcd
  cases hs : undA P src with
  | none => rw [hs] at hcd; subst hcd; cases hv
  | some s =>
    rw [hs] at hcd
    have hus := run_und hs w
    cases s with
    | int ks =>
      simp only at hcd
      cases hd : undA P dst with
      | none => rw [hd] at hcd; subst hcd; cases hv
      | some d =>
        rw [hd] at hcd
        have hud := run_und hd w
        cases d <;> simp only at hcd <;> subst hcd <;> simp only at hv <;> try cases hv
        rename_i k
        cases e : Sx.asInt a with
        | none => rw [e] at hv; cases hv
        | some p =>
          rw [e] at hv; cases hv
          obtain rfl := asInt_some e
          cases ha
          rw [mkInt_eq, wrapF_eq]
          exact VRel.same H (x := .int k (k.wrap p.2)) (by simp [convert, hus, hud, Conv.intToInt]) rfl
    | string =>
      simp only at hcd
      cases hd : undA P dst with
      | none => rw [hd] at hcd; subst hcd; cases hv
      | some d =>
        rw [hd] at hcd
        have hud := run_und hd w
        cases d <;> simp only at hcd <;> try (subst hcd; cases hv; done)
        · subst hcd
          simp only at hv
          cases e : asStr a with
          | none => rw [e] at hv; cases hv
          | some p =>
            rw [e] at hv; cases hv
            obtain rfl := asStr_some e
            obtain ⟨_, rfl⟩ := conc_str ha
            exact VRel.same H (by simp [convert, hus, hud]) ha
        · rename_i el
          cases hel : undA P el with
          | none => rw [hel] at hcd; subst hcd; cases hv
          | some dl =>
            rw [hel] at hcd
            have hue := run_und hel w
            cases dl <;> (try simp only at hcd) <;> try (subst hcd; cases hv; done)
            rename_i ke
            cases ke <;> (try simp only at hcd) <;> try (subst hcd; cases hv; done)
            have hsz1 : szOf P el = some 1 ∧ cd = .toBytes el := by
              split at hcd
              · rename_i e1; exact ⟨e1, hcd.symm⟩
              · subst hcd; cases hv
            obtain ⟨hsz1, rfl⟩ := hsz1
            clear hcd
            simp only at hv
            cases e : asStr a with
            | none => rw [e] at hv; cases hv
            | some p =>
              rw [e] at hv
              simp only [Option.some.injEq, Prod.mk.injEq] at hv
              obtain ⟨rfl, rfl⟩ := hv
              obtain rfl := asStr_some e
              obtain ⟨hlt, rfl⟩ := conc_str ha
              let t := w.tape w.drawn (.appendCap (bytesOf p.1 p.2).size 0 el)
              let cap := (bytesOf p.1 p.2).size + t % (2 ^ 63 - (bytesOf p.1 p.2).size)
              let arr : Array Value := ((bytesOf p.1 p.2).data.map fun b => Value.int .u8 b.toNat) ++ Array.replicate (cap - (bytesOf p.1 p.2).size) (.int .u8 0)
              have hsz : arr.size = cap := by
                have : (bytesOf p.1 p.2).data.size = (bytesOf p.1 p.2).size := rfl
                simp only [arr, Array.size_append, Array.size_map, Array.size_replicate, this]; omega
              have hrun : (convert src dst (.string (bytesOf p.1 p.2))).run P w =
                  .ok (.slice (some ⟨w.heap.size, 0, none⟩) (bytesOf p.1 p.2).size cap) ((w.drew.alloc (.cells arr el)).freeze ⟨w.heap.size, cap, none⟩ 1) := by
                simp only [convert, Sem.run_bind, hus, hud, Result.andThen_ok, hue, Conv.stringToBytes, run_choose, Question.forced, Bool.false_eq_true, if_false, Question.cut, World.drew_eq, newRow, run_newObj, World.alloc_eq,
                  Sem.run_pure, markStringish, run_shape]
                have hsh : (w.drew.alloc (.cells arr el)).shape? w.drew.heap.size = some (el, arr.size) := by
                  simp only [World.shape?]
                  have : (w.drew.alloc (.cells arr el)).heap[w.drew.heap.size]? = some (.cells arr el) := by
                    show (w.drew.heap.push _)[w.drew.heap.size]? = _; rw [Array.getElem?_push, if_pos rfl]
                  rw [this]
                rw [show (w.drew.alloc (.cells (((bytesOf p.1 p.2).data.map fun b => Value.int .u8 b.toNat) ++ Array.replicate ((bytesOf p.1 p.2).size + w.tape w.drawn (.appendCap (bytesOf p.1 p.2).size 0 el) % (2 ^ 63 - (bytesOf p.1 p.2).size) - (bytesOf p.1 p.2).size) (.int .u8 0)) el)).shape? w.drew.heap.size = some (el, arr.size) from hsh]
                simp only [run_freeze, Result.andThen_ok, hsz]
                rfl
              rw [hrun]
              have Hd : HR P Q N0 w0 η h w.drew := H.of_heap rfl
              have hcr : CellsRel Q η (bytesA p.1 p.2) 0 arr := CellsRel.of_list (bytesA_conc p.1 p.2) (fun j hj => by
                have h5 : (bytesOf p.1 p.2).data = (bytesL p.1 p.2).toArray := rfl
                simp only [List.length_map, bytesL_length] at hj
                simp only [arr, h5]
                rw [Array.getElem?_append_left (by simp [bytesL_length]; exact hj)]
                simp)
              have hfz : (w.drew.alloc (.cells arr el)).freeze ⟨w.heap.size, cap, none⟩ 1 = w.drew.alloc (.cells arr el (cap, cap + 1)) := by
                simp only [World.freeze, World.alloc]
                have h6 : w.heap.size = w.drew.heap.size := rfl
                simp only [Nat.one_ne_zero, if_false, h6]
                congr 1
                rw [modify_push]
                rfl
              rw [hfz]
              obtain ⟨_, _, _, hce⟩ := szOf_some hsz1
              refine ⟨_, _, _, rfl, .inr ⟨_, rfl, rfl⟩, Hd.new hn (cap := cap) ⟨rfl, hcr.mono (Env.ext_with _ hn), fun j hj => by rw [hsz] at hj; simp only; omega, by rw [hsz, hce]; omega⟩, ?_⟩
              simp only [concV, Env.with_self, size_bytesOf, Nat.zero_add, Nat.sub_zero]
              rw [if_pos (by simp only [cap, size_bytesOf]; omega)]
              rfl
    | slice el =>
      simp only at hcd
      cases hd : undA P dst with
      | none => rw [hd] at hcd; subst hcd; cases hv
      | some d =>
        rw [hd] at hcd
        have hud := run_und hd w
        cases d <;> simp only at hcd <;> try (subst hcd; cases hv; done)
        cases hel : undA P el with
        | none => rw [hel] at hcd; subst hcd; cases hv
        | some dl =>
          rw [hel] at hcd
          have hue := run_und hel w
          cases dl <;> (try simp only at hcd) <;> try (subst hcd; cases hv; done)
          rename_i ke
          cases ke <;> (try simp only at hcd) <;> subst hcd <;> (try simp only at hv) <;> try (cases hv; done)
          have hrun : ∀ y : Value, (convert src dst y).run P w = (Conv.bytesToString y).run P w ∨ ∃ s, y = .string s ∨ ∃ k n, y = .int k n := fun y => by
            cases y <;> first
              | exact .inr ⟨_, .inl rfl⟩
              | exact .inr ⟨ByteArray.empty, .inr ⟨_, _, rfl⟩⟩
              | exact .inl (by simp [convert, hus, hud, hue])
          split at hv
          · rename_i hsl
            obtain rfl := asSl_nil hsl
            cases ha; cases hv
            refine VRel.same H (x := .string ByteArray.empty) (by simp [convert, hus, hud, hue, Conv.bytesToString]) ?_
            simp [concV, bytesOf, bytesL]; rfl
          · rename_i i hsl
            obtain rfl := asSl_emp hsl
            obtain ⟨ad, c, rfl⟩ := conc_es ha
            cases hv
            refine VRel.same H (x := .string ByteArray.empty) (by simp [convert, hus, hud, hue, Conv.bytesToString, loadCells, loadCellsFrom]) ?_
            simp [concV, bytesOf, bytesL]; rfl
          · rename_i id off len cap hsl
            obtain rfl := asSl_sl hsl
            obtain ⟨b, base, c, he, rfl⟩ := conc_sl ha
            have := bytesOfRow_rel (cap := cap) H hv he
            rw [show (convert src dst (.slice (some ⟨b, base + off, none⟩) len cap)).run P w = (Conv.bytesToString (.slice (some ⟨b, base + off, none⟩) len cap)).run P w by simp [convert, hus, hud, hue]]
            exact this
          · rename_i id off oe len hsl
            obtain rfl := asSl_su hsl
            obtain ⟨b, base, c, he, hle, rfl⟩ := conc_su ha
            have := bytesOfRow_rel (cap := c - oe) H hv he
            rw [show (convert src dst (.slice (some ⟨b, base + off, none⟩) len (c - oe))).run P w = (Conv.bytesToString (.slice (some ⟨b, base + off, none⟩) len (c - oe))).run P w by simp [convert, hus, hud, hue]]
            exact this
          · cases hv
    | _ => simp only at hcd; subst hcd; cases hv

end
end Go.Sx
