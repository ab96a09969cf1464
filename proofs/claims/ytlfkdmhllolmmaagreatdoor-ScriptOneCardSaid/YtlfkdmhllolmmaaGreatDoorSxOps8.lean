/- Rows that are made, structs that are built. -/
import Derived.Test.YtlfkdmhllolmmaaGreatDoorSxOps7
namespace Go.Sx
open Go

section
variable {P : Program} {Q : Nat → Value} {N0 : Keep} {w0 : World} {η : Env} {h : AH} {w : World}

theorem zerosA_get (z : List AV) : ∀ (c j : Nat) (v : AV), (zerosA z c)[j]? = some v → j < c * z.length ∧ z[j % z.length]? = some v
  | 0, j, v, hv => by simp [zerosA] at hv
  | c + 1, j, v, hv => by
    simp only [zerosA, lapp_eq] at hv
    rcases Nat.lt_or_ge j z.length with hj | hj
    · rw [List.getElem?_append_left hj] at hv
      rw [Nat.mod_eq_of_lt hj]
      exact ⟨by rw [Nat.add_mul]; omega, hv⟩
    · rw [List.getElem?_append_right hj] at hv
      obtain ⟨h1, h2⟩ := zerosA_get z c (j - z.length) v hv
      refine ⟨by rw [Nat.add_mul]; omega, ?_⟩
      rw [Nat.mod_eq_sub_mod hj]; exact h2

theorem zerosA_length (z : List AV) : ∀ c, (zerosA z c).length = c * z.length
  | 0 => by simp [zerosA]
  | c + 1 => by simp [zerosA, lapp_eq, zerosA_length z c, Nat.add_mul]; omega

/-- a zero's cells, over and over -/
def zerosV (zs : List Value) (n : Nat) : Array Value := (Array.range n).map fun i => (zs.toArray)[i % zs.toArray.size]!

theorem zerosV_get {zs : List Value} {n j : Nat} {x : Value} (hj : j < n) (hx : zs[j % zs.length]? = some x) : (zerosV zs n)[j]? = some x := by
  unfold zerosV
  rw [Array.getElem?_map, Array.getElem?_range]
  simp only [hj, if_true, Option.map_some, List.size_toArray]
  congr 1
  rw [getElem!_def]
  simp [hx]

theorem zeros_conc {z : List AV} {zs : List Value} (hz : concVs Q η z = some zs) (c : Nat) : concVs Q η (zerosA z c) = some (zerosV zs (c * z.length)).toList := by
  obtain ⟨xs, h1, h2⟩ := concVs_of_get (Q := Q) (η := η) (l := zerosA z c) (fun i => (zerosV zs (c * z.length))[i]?) (fun i v hv => by
    obtain ⟨h3, h4⟩ := zerosA_get z c i v hv
    obtain ⟨x, h5, h6⟩ := concVs_get hz _ _ h4
    exact ⟨x, zerosV_get h3 (by rw [concVs_length hz]; exact h5), h6⟩)
  rw [h1]
  congr 1
  apply List.ext_getElem?
  intro i
  have hl := concVs_length h1
  rw [zerosA_length] at hl
  rcases Nat.lt_or_ge i (c * z.length) with hi | hi
  · rw [h2 i (by rw [zerosA_length]; exact hi)]; simp
  · rw [List.getElem?_eq_none (by omega), List.getElem?_eq_none (by simp [zerosV]; exact hi)]

theorem zeros_zero (zs : List Value) (n : Nat) (hn : n = 0) : zerosV zs n = zerosV [] n := by subst hn; simp [zerosV]

theorem wrap_nat {n : Nat} (h1 : n ≤ 65536) : IntKind.i64.wrap (n : Int) = n := by
  rw [← wrapF_eq]
  unfold wrapF
  show (bif Nat.blt n 9223372036854775808 then Int.ofNat n else _) = _
  have : Nat.blt n 9223372036854775808 = true := blt_iff.2 (by omega)
  rw [this]; rfl

theorem cells_len {z : Value} {a : AV} (hz : ofV z = some a) : z.cells.toList.length = (cellsOf a).length := by
  have hc := conc_cells (Q := Q0) (ofV_conc (Q := Q0) (η := fun _ => none) z hz) Q0_ok
  exact concVs_length hc

theorem makeSliceA_rel (H : HR P Q N0 w0 η h w) (hn : η h.next = none) (hQ : QOk Q) {t : TypeId} {len cap v : AV} {h' : AH} {x y : Value}
    (hv : makeSliceA P h t len cap = some (v, h')) (hl : concV Q η len = some x) (hc : concV Q η cap = some y) :
    VRel P Q N0 w0 η h v h' ((Instr.makeSlice t x y).run P w) := by
  unfold makeSliceA at hv
  cases hs : slA P t with
  | none => rw [hs] at hv; cases hv
  | some es =>
    obtain ⟨e, sz⟩ := es
    rw [hs] at hv
    simp only at hv
    obtain ⟨hd, hsz⟩ := slA_some hs
    have hu := run_und hd w
    cases hz : zeroOf P e with
    | none => rw [hz] at hv; cases hv
    | some z =>
      rw [hz] at hv
      simp only at hv
      cases hil : idx len with
      | none => rw [hil] at hv; cases hv
      | some l =>
        rw [hil] at hv
        simp only at hv
        cases hic : idx cap with
        | none => rw [hic] at hv; cases hv
        | some c =>
          rw [hic] at hv
          simp only at hv
          have ⟨h1, h2⟩ := sel_some.1 hv
          cases h2
          simp only [Bool.and_eq_true, ble_iff] at h1
          obtain ⟨⟨hg, hlc⟩, hcm⟩ := h1
          obtain ⟨k1, rfl⟩ := idx_some hil
          obtain ⟨k2, rfl⟩ := idx_some hic
          cases hl; cases hc
          obtain ⟨i, zv, a, hi, hiz, hza, hby, hcl⟩ := growOk_true hg
          obtain ⟨i', hi', his, hce⟩ := szOf_some hsz
          rw [hi] at hi'; cases hi'
          have hzz : z = a := by
            obtain ⟨i2, z2, h3, h4, h5⟩ := zeroOf_some hz
            rw [hi] at h3; cases h3
            rw [hiz] at h4; cases h4
            rw [hza] at h5; exact (Option.some.inj h5).symm
          subst hzz
          have hinf := run_info hi w
          have hszr := run_sz hsz w
          have hzv : (zeroValue e).run P w = .ok zv w := by simp [zeroValue, hinf, hiz]
          have wl : IntKind.i64.wrap (Int.ofNat l) = (l : Int) := wrap_nat (by omega)
          have wc : IntKind.i64.wrap (Int.ofNat c) = (c : Int) := wrap_nat hcm
          have hbig : ∀ m : Nat, m ≤ c → ¬ (((i.bytes : Int) * (m : Int)) > 2 ^ 48) := fun m hm => by
            have h3 : i.bytes * m ≤ 65536 * 65536 := Nat.mul_le_mul hby (by omega)
            have h4 : ((i.bytes : Int) * (m : Int)) = ((i.bytes * m : Nat) : Int) := by simp
            rw [h4]
            omega
          have hcells := conc_cells (ofV_conc (Q := Q) (η := η) zv hza) hQ
          have hzl : zv.cells.size = sz := by rw [← his, ← hcl, ← cells_len hza]; simp
          have harr : ∀ s : Nat, s = sz → ((Array.range (c * s)).map fun i => (if c * s = 0 then (#[] : Array Value) else zv.cells)[i % (if c * s = 0 then (#[] : Array Value) else zv.cells).size]!) = zerosV zv.cells.toList (c * (cellsOf z).length) := fun s hs' => by
            subst hs'
            have e1 : c * (cellsOf z).length = c * s := by rw [hcl, his]
            rw [e1]
            by_cases h0 : c * s = 0
            · rw [h0]; simp [zerosV]
            · rw [if_neg h0]; unfold zerosV; simp
          have hrun : (Instr.makeSlice t (.int k1 (Int.ofNat l)) (.int k2 (Int.ofNat c))).run P w =
              .ok (.slice (some ⟨w.heap.size, 0, none⟩) l c) (w.alloc (.cells (zerosV zv.cells.toList (c * (cellsOf z).length)) e)) := by
            have n1 : ¬ ((c : Int) < 0) := by omega
            have n2 : ¬ ((l : Int) < 0) := by omega
            have n3 : ¬ ((l : Int) > (c : Int)) := by omega
            have n4 := hbig c (Nat.le_refl _)
            rw [← harr sz rfl]
            have hai : ∀ (k : IntKind) (n : Int), (Go.asInt (.int k n)).run P w = .ok n w := fun k n => by simp [Go.asInt, asIntOf]
            unfold Instr.makeSlice
            simp only [Sem.run_bind, hu, Result.andThen_ok, hai, Sem.run_pure, hinf, wl, wc, n1, n2, n3, n4, decide_false, Bool.or_false, Bool.or_self, Bool.false_eq_true, if_false, run_askRoom, hszr, Int.toNat_natCast]
            by_cases h0 : c * sz = 0
            · simp only [h0, if_true, Sem.run_pure, Result.andThen_ok, newRow, Sem.run_bind, run_newObj]; rfl
            · simp only [h0, if_false, Sem.run_bind, hzv, Sem.run_pure, Result.andThen_ok, newRow, run_newObj]; rfl
          refine VRel.row H hn (cap := 0) (x := .slice (some ⟨w.heap.size, 0, none⟩) l c) hrun ?_ (by simp) (by simp [concV, Env.with_self])
          exact CellsRel.of_list (zeros_conc hcells c) (fun j _ => by simp)

/-! ## parts that are filled in -/
def setsV : List Value → List Value → Nat → List Value
  | [], ys, _ => ys
  | x :: r, ys, i => setsV r (ys.set i x) (i + 1)

theorem setsV_length : ∀ (xs ys : List Value) (i : Nat), (setsV xs ys i).length = ys.length
  | [], _, _ => rfl
  | x :: r, ys, i => by simp [setsV, setsV_length r]

theorem concVs_set : ∀ {l : List AV} {xs : List Value}, concVs Q η l = some xs → ∀ {v : AV} {x : Value} (i : Nat), concV Q η v = some x → concVs Q η (l.set i v) = some (xs.set i x)
  | [], _, h1, _, _, _, _ => by cases h1; rfl
  | a :: r, _, h1, v, x, i, hv => by
    obtain ⟨y, m, rfl, h2, h3⟩ := concVs_cons h1
    cases i with
    | zero => exact concVs_mk hv h3
    | succ i => exact concVs_mk h2 (concVs_set h3 i hv)

theorem concVs_lsets : ∀ {vs : List AV} {xs : List Value} {cs : List AV} {ys : List Value} (i : Nat), concVs Q η vs = some xs → concVs Q η cs = some ys → concVs Q η (lsets vs cs i) = some (setsV xs ys i)
  | [], _, _, _, _, h1, h2 => by cases h1; exact h2
  | v :: r, _, cs, ys, i, h1, h2 => by
    obtain ⟨x, m, rfl, h3, h4⟩ := concVs_cons h1
    rw [lsets_cons]
    exact concVs_lsets (i + 1) h4 (concVs_set h2 i h3)

theorem fold_sets (off : Nat) : ∀ (xs : List Value) (k : Nat) (cs : List Value),
    (xs.zipIdx k).foldl (fun (cs : Array Value) (p : Value × Nat) => cs.setIfInBounds (off + p.2) p.1) cs.toArray = (setsV xs cs (off + k)).toArray
  | [], _, _ => rfl
  | x :: r, k, cs => by
    simp only [List.zipIdx_cons, List.foldl_cons]
    rw [show (cs.toArray.setIfInBounds (off + k) x) = (cs.set (off + k) x).toArray by simp]
    rw [fold_sets off r (k + 1)]
    rfl

/-- values that are put in places -/
def concPs (Q : Nat → Value) (η : Env) : List (Nat × AV) → Option (List (Nat × Value))
  | [] => some []
  | p :: r => match concV Q η p.2, concPs Q η r with | some x, some l => some ((p.1, x) :: l) | _, _ => none

theorem fillA_rel (hQ : QOk Q) {pl pl' : Nat → Option (Nat × Nat)} (hpl : ∀ i q, pl i = some q → pl' i = some q) :
    ∀ {ps : List (Nat × AV)} {xs : List (Nat × Value)} {cells out : List AV} {cs : List Value}, fillA pl cells ps = some out → concPs Q η ps = some xs → concVs Q η cells = some cs →
      ∃ os, Instr.fill pl' cs.toArray xs = some os.toArray ∧ concVs Q η out = some os
  | [], _, _, _, cs, h1, h2, h3 => by cases h1; cases h2; exact ⟨cs, rfl, h3⟩
  | p :: r, xs, cells, out, cs, h1, h2, h3 => by
    simp only [concPs] at h2
    cases e1 : concV Q η p.2 with
    | none => rw [e1] at h2; cases h2
    | some x =>
      rw [e1] at h2
      cases e2 : concPs Q η r with
      | none => rw [e2] at h2; cases h2
      | some m =>
        rw [e2] at h2; cases h2
        unfold fillA at h1
        cases e3 : pl p.1 with
        | none => rw [e3] at h1; cases h1
        | some q =>
          rw [e3] at h1
          simp only at h1
          have ⟨h4, h5⟩ := sel_some.1 h1
          have ⟨h6, h7⟩ := sel_some.1 h5
          have h4 := beq_iff.1 h4
          have h6 := ble_iff.1 h6
          rw [llen_eq] at h4 h6
          have hc := conc_cells e1 hQ
          have hl := concVs_length hc
          have hl3 := concVs_length h3
          obtain ⟨os, h8, h9⟩ := fillA_rel hQ hpl h7 e2 (concVs_lsets q.1 hc h3)
          refine ⟨os, ?_, h9⟩
          unfold Instr.fill
          rw [hpl _ _ e3]
          simp only
          have hsz : x.cells.size = q.2 := by rw [← h4, ← hl]; simp
          have hcond : (decide (x.cells.size ≠ q.2) || decide (q.1 + x.cells.size > cs.toArray.size)) = false := by
            simp only [hsz, ne_eq, not_true_eq_false, decide_false, Bool.false_or, decide_eq_false_iff_not, List.size_toArray]; omega
          rw [hcond]
          simp only [Bool.false_eq_true, if_false]
          rw [← Array.foldl_toList, Array.toList_zipIdx]
          have := fold_sets q.1 x.cells.toList 0 cs
          rw [show (List.foldl (fun (cs : Array Value) (x : Value × Nat) => match x with | (c, j) => cs.setIfInBounds (q.1 + j) c) cs.toArray (x.cells.toList.zipIdx 0)) = (setsV x.cells.toList cs q.1).toArray from this]
          exact h8

theorem placesOf_rel : ∀ {fs : List Field} {ps : List (Nat × Nat)}, placesOf P fs = some ps → ∀ w, (fs.mapM fun f => Prod.mk f.offset <$> Go.sizeOf f.type).run P w = .ok ps w
  | [], _, h1, w => by cases h1; simp
  | f :: fs, ps, h1, w => by
    unfold placesOf at h1
    cases e1 : szOf P f.type with
    | none => rw [e1] at h1; cases h1
    | some s =>
      rw [e1] at h1
      simp only at h1
      cases e2 : placesOf P fs with
      | none => rw [e2] at h1; cases h1
      | some r =>
        rw [e2] at h1; cases h1
        simp [List.mapM_cons, run_sz e1, placesOf_rel e2 w]

theorem structPl_some {t : TypeId} {ps : List (Nat × Nat)} (h1 : structPl P t = some ps) : ∃ fs, undA P t = some (.struct fs) ∧ placesOf P fs.toList = some ps := by
  unfold structPl at h1
  split at h1
  · rename_i fs hd; exact ⟨fs, hd, h1⟩
  · cases h1

theorem buildA_rel (hQ : QOk Q) {t : TypeId} {parts : List (Nat × AV)} {v : AV} {xs : List (Nat × Value)} (hv : buildA P t parts = some v) (hp : concPs Q η parts = some xs) :
    ∃ z, (Instr.build t xs.toArray).run P w = .ok z w ∧ concV Q η v = some z := by
  unfold buildA at hv
  cases hz : zeroOf P t with
  | none => rw [hz] at hv; cases hv
  | some z =>
    rw [hz] at hv
    simp only at hv
    obtain ⟨zv, hzr, hzo⟩ := run_zero hz w
    have hcells := conc_cells (ofV_conc (Q := Q) (η := η) zv hzo) hQ
    cases hst : structPl P t with
    | some ps =>
      rw [hst] at hv
      simp only at hv
      obtain ⟨fs, hd, hps⟩ := structPl_some hst
      have hu := run_und hd w
      cases hf : fillA (fun i => nth ps i) (cellsOf z) parts with
      | none => rw [hf] at hv; cases hv
      | some cs =>
        rw [hf] at hv; cases hv
        obtain ⟨os, h1, h2⟩ := fillA_rel hQ (pl' := fun i => ps.toArray[i]?) (fun i q hq => by rw [nth_eq] at hq; simpa using hq) hf hp hcells
        refine ⟨.agg os.toArray, ?_, by simp only [concV, h2]⟩
        have hm := placesOf_rel hps w
        have h1' : Instr.fill (fun i => ps[i]?) zv.cells xs = some os.toArray := by simpa using h1
        simp only [Instr.build, Sem.run_bind, hzr, hu, Result.andThen_ok]
        simp [Array.mapM_eq_mapM_toList, hm, h1']
    | none =>
      rw [hst] at hv
      simp only at hv
      cases har : arrA P t with
      | none => rw [har] at hv; cases hv
      | some ar =>
        rw [har] at hv
        simp only at hv
        obtain ⟨hd, hsz⟩ := arrA_some (n := ar.1) (e := ar.2.1) (s := ar.2.2) har
        have hu := run_und hd w
        have hszr := run_sz hsz w
        cases hf : fillA (fun i => some (i * ar.2.2, ar.2.2)) (cellsOf z) parts with
        | none => rw [hf] at hv; cases hv
        | some cs =>
          rw [hf] at hv; cases hv
          obtain ⟨os, h1, h2⟩ := fillA_rel hQ (pl' := fun i => some (i * ar.2.2, ar.2.2)) (fun i q hq => hq) hf hp hcells
          refine ⟨.agg os.toArray, ?_, by simp only [concV, h2]⟩
          have h1' : Instr.fill (fun i => some (i * ar.2.2, ar.2.2)) zv.cells xs = some os.toArray := by simpa using h1
          simp [Instr.build, hzr, hu, hszr, h1']

theorem buildSliceA_rel (H : HR P Q N0 w0 η h w) (hn : η h.next = none) (hQ : QOk Q) {t : TypeId} {len : Nat} {parts : List (Nat × AV)} {v : AV} {h' : AH} {xs : List (Nat × Value)}
    (hv : buildSliceA P h t len parts = some (v, h')) (hp : concPs Q η parts = some xs) :
    VRel P Q N0 w0 η h v h' ((Instr.buildSlice t len xs.toArray).run P w) := by
  unfold buildSliceA at hv
  cases hs : slA P t with
  | none => rw [hs] at hv; cases hv
  | some es =>
    obtain ⟨e, sz⟩ := es
    rw [hs] at hv
    simp only at hv
    obtain ⟨hd, hsz⟩ := slA_some hs
    have hu := run_und hd w
    have hszr := run_sz hsz w
    cases hz : zeroOf P e with
    | none => rw [hz] at hv; cases hv
    | some z =>
      rw [hz] at hv
      simp only at hv
      have ⟨h1, h2⟩ := sel_some.1 hv
      simp only [Bool.and_eq_true, ble_iff] at h1
      obtain ⟨hg, hcm⟩ := h1
      obtain ⟨i, zv, a, hi, hiz, hza, hby, hcl⟩ := growOk_true hg
      obtain ⟨i', hi', his, hce⟩ := szOf_some hsz
      rw [hi] at hi'; cases hi'
      have hzz : z = a := by
        obtain ⟨i2, z2, h3, h4, h5⟩ := zeroOf_some hz
        rw [hi] at h3; cases h3
        rw [hiz] at h4; cases h4
        rw [hza] at h5; exact (Option.some.inj h5).symm
      subst hzz
      have hinf := run_info hi w
      have hzv : (zeroValue e).run P w = .ok zv w := by simp [zeroValue, hinf, hiz]
      have hcells := conc_cells (ofV_conc (Q := Q) (η := η) zv hza) hQ
      cases hf : fillA (fun i => some (i * sz, sz)) (zerosA (cellsOf z) len) parts with
      | none => rw [hf] at h2; cases h2
      | some cs =>
        rw [hf] at h2; cases h2
        obtain ⟨os, h3, h4⟩ := fillA_rel hQ (pl' := fun i => some (i * sz, sz)) (fun i q hq => hq) hf hp (zeros_conc hcells len)
        have e1 : len * (cellsOf z).length = len * sz := by rw [hcl, his]
        rw [e1] at h3
        have harr : ((Array.range (len * sz)).map fun i => (if len * sz = 0 then (#[] : Array Value) else zv.cells)[i % (if len * sz = 0 then (#[] : Array Value) else zv.cells).size]!) = (zerosV zv.cells.toList (len * sz)).toList.toArray := by
          by_cases h0 : len * sz = 0
          · rw [h0]; simp [zerosV]
          · rw [if_neg h0]; unfold zerosV; apply Array.ext'; simp
        have hno : ¬ (len * sz > 2 ^ 24) := by omega
        have hrun : (Instr.buildSlice t len xs.toArray).run P w = .ok (.slice (some ⟨w.heap.size, 0, none⟩) len len) (w.alloc (.cells os.toArray e)) := by
          rw [← harr] at h3
          unfold Instr.buildSlice
          by_cases h0 : len * sz = 0
          · simp only [h0, if_true] at h3
            have hno0 : ¬ ((0 : Nat) > 2 ^ 24) := by decide
            simp only [Sem.run_bind, hu, hszr, hno0, h0, if_true, if_false, Result.andThen_ok, Sem.run_pure, h3, newRow, run_newObj]
            rfl
          · simp only [h0, if_false] at h3
            have hno' : ¬ (2 ^ 24 < len * sz) := hno
            simp only [Sem.run_bind, hu, hszr, hno, h0, if_false, Result.andThen_ok, Sem.run_pure, hzv, h3, newRow, run_newObj]
            rfl
        refine VRel.row H hn (cap := 0) (x := .slice (some ⟨w.heap.size, 0, none⟩) len len) hrun (CellsRel.of_list h4 (fun j _ => by simp)) (by simp) (by simp [concV, Env.with_self])

end
end Go.Sx
