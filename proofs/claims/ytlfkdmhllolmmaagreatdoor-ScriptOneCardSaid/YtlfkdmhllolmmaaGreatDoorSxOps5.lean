/- Cuts of strings, slices, arrays. -/
import Derived.Test.YtlfkdmhllolmmaaGreatDoorSxOps4
namespace Go.Sx
open Go

section
variable {P : Program} {Q : Nat → Value} {N0 : Keep} {w0 : World} {η : Env} {h : AH} {w : World}

theorem run_bound {k : IntKind} {n y : Nat} {code : BoundsCode} (hle : n ≤ y) : (Instr.sliceBound (.int k (.ofNat n)) y code).run P w = .ok n w := by
  have h1 : (0 : Int) ≤ Int.ofNat n ∧ Int.ofNat n ≤ (y : Int) := ⟨by simp, by exact Int.ofNat_le.2 hle⟩
  simp only [Instr.sliceBound, asIntOf, Sem.run_bind, Sem.run_pure, Result.andThen_ok, h1, and_self, if_true]
  rfl

theorem run_bound' {k : IntKind} {n y : Nat} {code : BoundsCode} (hle : n ≤ y) : (Instr.sliceBound (.int k (n : Int)) y code).run P w = .ok n w := run_bound hle

theorem idxO_some {v : Option AV} {d n : Nat} {x : Option Value} (h1 : idxO v d = some n) (hc : concO Q η v = some x) : (x = none ∧ n = d) ∨ ∃ k, x = some (.int k (.ofNat n)) := by
  cases v with
  | none => cases hc; cases h1; exact .inl ⟨rfl, rfl⟩
  | some v =>
    obtain ⟨k, rfl⟩ := idx_some (v := v) h1
    cases hc; exact .inr ⟨k, rfl⟩

theorem run_bounds {lo hi : Option AV} {low high : Option Value} {b : Bool} {len cap l hh : Nat} (hb : bnds lo hi len = some (l, hh)) (hl : concO Q η lo = some low) (hh' : concO Q η hi = some high) (hcap : hh ≤ cap) :
    (Instr.sliceBounds b len cap low high none).run P w = .ok (l, hh, cap) w ∧ l ≤ hh := by
  unfold bnds at hb
  cases e1 : idxO hi len with
  | none => rw [e1] at hb; cases hb
  | some m =>
    rw [e1] at hb
    simp only at hb
    cases e2 : idxO lo 0 with
    | none => rw [e2] at hb; cases hb
    | some n =>
      rw [e2] at hb
      have ⟨h1, h2⟩ := sel_some.1 hb
      cases h2
      have hle := ble_iff.1 h1
      refine ⟨?_, hle⟩
      rcases idxO_some e1 hh' with ⟨rfl, rfl⟩ | ⟨k, rfl⟩ <;> rcases idxO_some e2 hl with ⟨rfl, rfl⟩ | ⟨k', rfl⟩ <;>
        simp [Instr.sliceBounds, run_bound' (P := P) (w := w) hcap, run_bound' (P := P) (w := w) hle]

theorem shr_pow (v l : Nat) : v >>> (8 * l) = v / 256 ^ l := by
  rw [Nat.shiftRight_eq_div_pow, Nat.pow_mul]

theorem cut_str {len v l hh : Nat} (hlh : l ≤ hh) (hle : hh ≤ len) :
    Nat.mod (Nat.shiftRight v (Nat.mul 8 l)) (Nat.pow 2 (Nat.mul 8 (hh - l))) < 256 ^ (hh - l) ∧ bytesOf (hh - l) (Nat.mod (Nat.shiftRight v (Nat.mul 8 l)) (Nat.pow 2 (Nat.mul 8 (hh - l)))) = (bytesOf len v).extract l hh := by
  have e : Nat.mod (Nat.shiftRight v (Nat.mul 8 l)) (Nat.pow 2 (Nat.mul 8 (hh - l))) = v / 256 ^ l % 256 ^ (hh - l) := by
    show v >>> (8 * l) % 2 ^ (8 * (hh - l)) = _
    rw [shr_pow, Nat.pow_mul]
  rw [e]
  exact ⟨Nat.mod_lt _ (Nat.pow_pos (by decide)), (extract_bytesOf hlh hle).symm⟩

theorem add_zero (a : Addr) : a.add 0 = a := by simp [Addr.add]

theorem size_row {b base off s l : Nat} : (⟨b, base + off, none⟩ : Addr).add (l * s) = ⟨b, base + (off + l * s), none⟩ := by rw [add_at, Nat.add_assoc]

theorem sliceA_rel (H : HR P Q N0 w0 η h w) (hn : η h.next = none) {t : TypeId} {a v : AV} {h' : AH} {lo hi : Option AV} {x : Value} {low high : Option Value}
    (hv : sliceA P h t a lo hi = some (v, h')) (ha : concV Q η a = some x) (hl : concO Q η lo = some low) (hh : concO Q η hi = some high) :
    VRel P Q N0 w0 η h v h' ((Instr.sliceAt t x low high none).run P w) := by
  unfold sliceA at hv
  cases hs : slA P t with
  | some es =>
    rw [hs] at hv
    obtain ⟨hd, hsz⟩ := slA_some (e := es.1) (s := es.2) hs
    have hu := run_und hd w
    have hz := run_sz hsz w
    have hat : ∀ x, (Instr.sliceAt t x low high none).run P w = (Instr.slice t x low high none).run P w := fun x => by simp [Instr.sliceAt, hu]
    simp only at hv
    rw [hat]
    unfold sliceS at hv
    split at hv
    · rename_i hsl
      obtain rfl := asSl_nil hsl
      cases ha
      cases hb : bnds lo hi 0 with
      | none => rw [hb] at hv; cases hv
      | some p =>
        rw [hb] at hv
        simp only at hv
        unfold cutNil at hv
        have ⟨h1, h2⟩ := sel_some.1 hv
        cases h2
        have h0 := beq_iff.1 h1
        obtain ⟨h3, h4⟩ := run_bounds (P := P) (w := w) (b := true) (cap := 0) (l := p.1) (hh := p.2) hb hl hh (by omega)
        have h5 : p.1 = 0 := by omega
        exact VRel.same H (x := .slice none 0 0) (by simp [Instr.slice, hu, hz, h3, h0, h5]) rfl
    · rename_i i hsl
      obtain rfl := asSl_emp hsl
      have hax := ha
      obtain ⟨ad, c, rfl⟩ := conc_es ha
      cases hb : bnds lo hi 0 with
      | none => rw [hb] at hv; cases hv
      | some p =>
        rw [hb] at hv
        simp only at hv
        unfold cutNil at hv
        have ⟨h1, h2⟩ := sel_some.1 hv
        cases h2
        have h0 := beq_iff.1 h1
        obtain ⟨h3, h4⟩ := run_bounds (P := P) (w := w) (b := true) (cap := c) (l := p.1) (hh := p.2) hb hl hh (by omega)
        have h5 : p.1 = 0 := by omega
        refine VRel.same H (x := .slice (some ad) 0 c) ?_ hax
        simp [Instr.slice, hu, hz, h3, h0, h5]
        intro _; exact add_zero ad
    · rename_i id off len cap hsl
      obtain rfl := asSl_sl hsl
      obtain ⟨b, base, c, he, rfl⟩ := conc_sl ha
      cases hb : bnds lo hi len with
      | none => rw [hb] at hv; cases hv
      | some p =>
        rw [hb] at hv
        simp only at hv
        unfold cutSl at hv
        have ⟨h1, h2⟩ := sel_some.1 hv
        have hle := ble_iff.1 h1
        obtain ⟨h3, h4⟩ := run_bounds (P := P) (w := w) (b := true) (cap := cap) (l := p.1) (hh := p.2) hb hl hh hle
        cases hbq : Nat.beq p.1 cap with
        | true =>
          rw [hbq, sel_true] at h2
          cases h2
          have h5 := beq_iff.1 hbq
          have h6 : p.2 = cap := by omega
          exact VRel.same H (x := .slice (some ⟨b, base + off, none⟩) 0 0) (by simp [Instr.slice, hu, hz, h3, h5, h6]) (by simp [concV, he])
        | false =>
          rw [hbq, sel_false] at h2
          cases h2
          have h5 := beq_no.1 hbq
          exact VRel.same H (x := .slice (some ⟨b, base + (off + p.1 * es.2), none⟩) (p.2 - p.1) (cap - p.1)) (by simp [Instr.slice, hu, hz, h3, Ne.symm h5, size_row]) (by simp [concV, he])
    · rename_i id off oe len hsl
      obtain rfl := asSl_su hsl
      obtain ⟨b, base, c, he, hoe, rfl⟩ := conc_su ha
      cases hb : bnds lo hi len with
      | none => rw [hb] at hv; cases hv
      | some p =>
        rw [hb] at hv
        simp only at hv
        unfold cutSu at hv
        have ⟨h1, h2⟩ := sel_some.1 hv
        have hle := ble_iff.1 h1
        obtain ⟨h3, h4⟩ := run_bounds (P := P) (w := w) (b := true) (cap := c - oe) (l := p.1) (hh := p.2) hb hl hh (by omega)
        have hrun : (Instr.slice t (.slice (some ⟨b, base + off, none⟩) len (c - oe)) low high none).run P w =
            .ok (.slice (if c - oe = p.1 then some ⟨b, base + off, none⟩ else some ⟨b, base + (off + p.1 * es.2), none⟩) (p.2 - p.1) (c - oe - p.1)) w := by
          simp only [Instr.slice, Sem.run_bind, hu, Result.andThen_ok, h3, hz, Sem.run_pure]
          by_cases hc : c - oe = p.1 <;> simp [hc, size_row]
        cases hbl : Nat.blt p.1 len with
        | true =>
          rw [hbl, sel_true] at h2
          cases h2
          have h5 := blt_iff.1 hbl
          refine VRel.same H (x := .slice (some ⟨b, base + (off + p.1 * es.2), none⟩) (p.2 - p.1) (c - (oe + p.1))) ?_ ?_
          · rw [hrun, if_neg (by omega)]; congr 2; omega
          · simp only [concV, he]; rw [if_pos (by omega)]
        | false =>
          rw [hbl, sel_false] at h2
          have h5 := blt_no.1 hbl
          cases hb0 : Nat.beq p.1 0 with
          | true =>
            rw [hb0, sel_true] at h2
            cases h2
            have h6 := beq_iff.1 hb0
            refine VRel.same H (x := .slice (some ⟨b, base + off, none⟩) 0 (c - oe)) ?_ ?_
            · rw [hrun, h6]
              have : p.2 = 0 := by omega
              simp [this]
            · simp only [concV, he]; rw [if_pos (by omega)]
          | false =>
            rw [hb0, sel_false] at h2
            cases h2
            have hp : p.2 - p.1 = 0 := by omega
            refine ⟨_, _, w, hrun, .inr ⟨.emp (if c - oe = p.1 then ⟨b, base + off, none⟩ else ⟨b, base + (off + p.1 * es.2), none⟩) (c - oe - p.1), rfl, rfl⟩, H.bump hn _ (fun j o hj => ?_), ?_⟩
            · rcases Tr.get_putO fuel h.heap h.next none j o hj with ⟨_, e⟩ | ⟨h7, h8⟩
              · cases e
              · exact ⟨h7, h8⟩
            · simp only [concV, Env.with_self, hp]
              split <;> rfl
    · cases hv
  | none =>
    rw [hs] at hv
    simp only at hv
    cases hst : isStrT P t with
    | true =>
      rw [hst, sel_true] at hv
      have hu := run_und (isStrT_true hst) w
      have hat : ∀ x, (Instr.sliceAt t x low high none).run P w = (Instr.slice t x low high none).run P w := fun x => by simp [Instr.sliceAt, hu]
      rw [hat]
      cases e : asStr a with
      | none => rw [e] at hv; cases hv
      | some s =>
        rw [e] at hv
        simp only at hv
        obtain rfl := asStr_some e
        obtain ⟨hlt, rfl⟩ := conc_str ha
        cases hb : bnds lo hi s.1 with
        | none => rw [hb] at hv; cases hv
        | some p =>
          rw [hb] at hv
          simp only at hv
          unfold cutStr at hv
          have ⟨h1, h2⟩ := sel_some.1 hv
          cases h2
          have hle := ble_iff.1 h1
          obtain ⟨h3, h4⟩ := run_bounds (P := P) (w := w) (b := false) (cap := s.1) (l := p.1) (hh := p.2) hb hl hh hle
          obtain ⟨h5, h6⟩ := cut_str (v := s.2) h4 hle
          rw [mkStr_eq h5]
          refine VRel.same H (x := .string ((bytesOf s.1 s.2).extract p.1 p.2)) ?_ (by rw [conc_str_mk h5, h6])
          simp [Instr.slice, hu, size_bytesOf, h3]
    | false =>
      rw [hst, sel_false] at hv
      cases har : arrA P t with
      | none => rw [har] at hv; cases hv
      | some ar =>
        rw [har] at hv
        simp only at hv
        obtain ⟨hd, hsz⟩ := arrA_some (n := ar.1) (e := ar.2.1) (s := ar.2.2) har
        have hu := run_und hd w
        have hz := run_sz hsz w
        cases hp : asPtr a with
        | none => rw [hp] at hv; cases hv
        | some p =>
          rw [hp] at hv
          obtain rfl := asPtr_some hp
          simp only at hv
          obtain ⟨b, base, c, he, rfl⟩ := conc_ptr ha
          cases hb : bnds lo hi ar.1 with
          | none => rw [hb] at hv; cases hv
          | some q =>
            rw [hb] at hv
            simp only at hv
            unfold cutSl at hv
            have ⟨h1, h2⟩ := sel_some.1 hv
            have hle := ble_iff.1 h1
            obtain ⟨h3, h4⟩ := run_bounds (P := P) (w := w) (b := false) (cap := ar.1) (l := q.1) (hh := q.2) hb hl hh hle
            cases hbq : Nat.beq q.1 ar.1 with
            | true =>
              rw [hbq, sel_true] at h2
              cases h2
              have h5 := beq_iff.1 hbq
              have h6 : q.2 = ar.1 := by omega
              exact VRel.same H (x := .slice (some ⟨b, base + p.2, none⟩) 0 0) (by simp [Instr.sliceAt, hu, Instr.sureAddr, hz, h3, h5, h6]) (by simp [concV, he])
            | false =>
              rw [hbq, sel_false] at h2
              cases h2
              have h5 := beq_no.1 hbq
              exact VRel.same H (x := .slice (some ⟨b, base + (p.2 + q.1 * ar.2.2), none⟩) (q.2 - q.1) (ar.1 - q.1)) (by simp [Instr.sliceAt, hu, Instr.sureAddr, hz, h3, Ne.symm h5, size_row]) (by simp [concV, he])


theorem run_bounds3 {lo : Option AV} {hv m : AV} {low : Option Value} {high mx : Value} {b : Bool} {len cap mm l hh : Nat} (hb : bnds lo (some hv) len = some (l, hh)) (hl : concO Q η lo = some low) (hh' : concV Q η hv = some high)
    (hm : idx m = some mm) (hmc : concV Q η m = some mx) (hcap : mm ≤ cap) (hhm : hh ≤ mm) : (Instr.sliceBounds b len cap low (some high) (some mx)).run P w = .ok (l, hh, mm) w ∧ l ≤ hh := by
  obtain ⟨k0, rfl⟩ := idx_some hm
  cases hmc
  unfold bnds at hb
  cases e1 : idxO (some hv) len with
  | none => rw [e1] at hb; cases hb
  | some m =>
    rw [e1] at hb
    simp only at hb
    cases e2 : idxO lo 0 with
    | none => rw [e2] at hb; cases hb
    | some n =>
      rw [e2] at hb
      have ⟨h1, h2⟩ := sel_some.1 hb
      cases h2
      have hle := ble_iff.1 h1
      refine ⟨?_, hle⟩
      obtain ⟨k, rfl⟩ := idx_some (v := hv) e1
      cases hh'
      rcases idxO_some e2 hl with ⟨rfl, rfl⟩ | ⟨k', rfl⟩ <;>
        simp [Instr.sliceBounds, run_bound' (P := P) (w := w) hcap, run_bound' (P := P) (w := w) hle, run_bound' (P := P) (w := w) hhm]

theorem slice3A_rel (H : HR P Q N0 w0 η h w) {t : TypeId} {a v m : AV} {h' : AH} {lo hi : Option AV} {x mx : Value} {low high : Option Value}
    (hv : slice3A P h t a lo hi m = some (v, h')) (ha : concV Q η a = some x) (hl : concO Q η lo = some low) (hh : concO Q η hi = some high) (hm : concV Q η m = some mx) :
    VRel P Q N0 w0 η h v h' ((Instr.sliceAt t x low high (some mx)).run P w) := by
  unfold slice3A at hv
  cases hi with
  | none => cases hv
  | some hiv =>
    simp only at hv
    obtain ⟨high', rfl, hh2⟩ : ∃ y, high = some y ∧ concV Q η hiv = some y := by
      simp only [concO] at hh
      cases e : concV Q η hiv with
      | none => rw [e] at hh; cases hh
      | some y => rw [e] at hh; cases hh; exact ⟨y, rfl, rfl⟩
    cases hs : slA P t with
    | none => rw [hs] at hv; cases hv
    | some es =>
      rw [hs] at hv
      obtain ⟨hd, hsz⟩ := slA_some (e := es.1) (s := es.2) hs
      have hu := run_und hd w
      have hz := run_sz hsz w
      have hat : ∀ x, (Instr.sliceAt t x low (some high') (some mx)).run P w = (Instr.slice t x low (some high') (some mx)).run P w := fun x => by simp [Instr.sliceAt, hu]
      simp only at hv
      rw [hat]
      split at hv
      · rename_i id off len cap hsl
        obtain rfl := asSl_sl hsl
        obtain ⟨b, base, c, he, rfl⟩ := conc_sl ha
        cases hi : idx m with
        | none => rw [hi] at hv; cases hv
        | some mm =>
          rw [hi] at hv
          have ⟨h0, hv⟩ := sel_some.1 hv
          have hmc := ble_iff.1 h0
          cases hb : bnds lo (some hiv) len with
          | none => rw [hb] at hv; cases hv
          | some p =>
            rw [hb] at hv
            simp only at hv
            unfold cutSl at hv
            have ⟨h1, h2⟩ := sel_some.1 hv
            have hle := ble_iff.1 h1
            obtain ⟨h3, h4⟩ := run_bounds3 (P := P) (w := w) (b := true) (cap := cap) (l := p.1) (hh := p.2) hb hl hh2 hi hm hmc hle
            cases hbq : Nat.beq p.1 mm with
            | true =>
              rw [hbq, sel_true] at h2
              cases h2
              have h5 := beq_iff.1 hbq
              have h6 : p.2 = mm := by omega
              exact VRel.same H (x := .slice (some ⟨b, base + off, none⟩) 0 0) (by simp [Instr.slice, hu, hz, h3, h5, h6]) (by simp [concV, he])
            | false =>
              rw [hbq, sel_false] at h2
              cases h2
              have h5 := beq_no.1 hbq
              exact VRel.same H (x := .slice (some ⟨b, base + (off + p.1 * es.2), none⟩) (p.2 - p.1) (mm - p.1)) (by simp [Instr.slice, hu, hz, h3, Ne.symm h5, size_row]) (by simp [concV, he])
      · cases hv

end
end Go.Sx
