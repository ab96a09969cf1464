/- Append, copy, make. -/
import Derived.Test.YtlfkdmhllolmmaaGreatDoorSxOps5
namespace Go.Sx
open Go

section
variable {P : Program} {Q : Nat → Value} {N0 : Keep} {w0 : World} {η : Env} {h : AH} {w : World}

/-! ## the elements of a slice or a string -/
/-- what 'firstCells' answers -/
def FirstOk (P : Program) (w : World) (s n : Nat) (x : Value) (xs : List Value) : Prop :=
  (Builtin.lenOf x).run P w = .ok n w ∧ xs.length = n * s ∧ ∀ m, m ≤ n → (Builtin.firstCells s m x).run P w = .ok ⟨xs.take (m * s)⟩ w

theorem run_loadZero {a : Addr} {n : Nat} (hn : n = 0) : (loadCells a n).run P w = .ok #[] w := by subst hn; rfl

theorem rowElems_rel (H : HR P Q N0 w0 η h w) {id off len s b base c cap n : Nat} {cs : List AV} (hv : rowElems h id off len s = some (cs, n)) (he : η id = some (.blk b base c)) :
    n = len ∧ ∃ xs, concVs Q η cs = some xs ∧ FirstOk P w s len (.slice (some ⟨b, base + off, none⟩) len cap) xs := by
  unfold rowElems at hv
  cases h0 : Nat.beq (len * s) 0 with
  | true =>
    rw [h0, sel_true] at hv; cases hv
    have hz := beq_iff.1 h0
    refine ⟨rfl, [], rfl, by simp [Builtin.lenOf], by simp [hz], fun m hm => ?_⟩
    have : m * s = 0 := by have := Nat.mul_le_mul_right s hm; omega
    simp only [Builtin.firstCells, run_loadZero this, List.take_nil]
  | false =>
    rw [h0, sel_false] at hv
    cases hr : h.row id with
    | none => rw [hr] at hv; cases hv
    | some r =>
      rw [hr] at hv
      simp only at hv
      cases hl : ltake r.1 off (len * s) with
      | none => rw [hl] at hv; cases hv
      | some l =>
        rw [hl] at hv; cases hv
        obtain ⟨ro, ho⟩ := row_obj (cs := r.1) (e := r.2) hr
        obtain ⟨cc, fr, hb, hc, _, _, _⟩ := H.cells ho he
        obtain ⟨xs, h1, h2, h3⟩ := hc.part hl
        refine ⟨rfl, xs, h1, by simp [Builtin.lenOf], h2, fun m hm => ?_⟩
        have hms := Nat.mul_le_mul_right s hm
        simp only [Builtin.firstCells]
        exact run_loadCells hb (xs.take (m * s)) (fun j hj => by
          simp only [List.length_take] at hj
          rw [List.getElem?_take_of_lt (by omega)]
          exact h3 j (by omega)) (by simp; omega)

theorem bytesL_take : ∀ (n v m : Nat), m ≤ n → (bytesL n v).take m = bytesL m (v % 256 ^ m)
  | _, v, 0, _ => by simp [bytesL]
  | 0, v, m + 1, hm => by omega
  | n + 1, v, m + 1, hm => by
    simp only [bytesL, List.take_succ_cons]
    have e1 : v % 256 ^ (m + 1) % 256 = v % 256 := by
      rw [Nat.pow_succ, Nat.mod_mul_left_mod]
    have e2 : v % 256 ^ (m + 1) / 256 = v / 256 % 256 ^ m := by
      rw [Nat.pow_succ, Nat.mul_comm, Nat.mod_mul_right_div_self]
    rw [e1, e2, bytesL_take n (v / 256) m (by omega)]

theorem elemsA_rel (H : HR P Q N0 w0 η h w) {s n : Nat} {a : AV} {x : Value} {cs : List AV} (hv : elemsA h s a = some (cs, n)) (ha : concV Q η a = some x) :
    ∃ xs, concVs Q η cs = some xs ∧ FirstOk P w s n x xs := by
  unfold elemsA at hv
  split at hv
  · rename_i hsl
    obtain rfl := asSl_nil hsl
    cases ha; cases hv
    exact ⟨[], rfl, by simp [Builtin.lenOf], by simp, fun m hm => by simp [Builtin.firstCells]⟩
  · rename_i i hsl
    obtain rfl := asSl_emp hsl
    obtain ⟨ad, c, rfl⟩ := conc_es ha
    cases hv
    refine ⟨[], rfl, by simp [Builtin.lenOf], by simp, fun m hm => ?_⟩
    have : m * s = 0 := by simp [Nat.le_zero.1 hm]
    simp only [Builtin.firstCells, run_loadZero this, List.take_nil]
  · rename_i id off len cap hsl
    obtain rfl := asSl_sl hsl
    obtain ⟨b, base, c, he, rfl⟩ := conc_sl ha
    obtain ⟨rfl, h1⟩ := rowElems_rel (P := P) (cap := cap) H hv he
    exact h1
  · rename_i id off oe len hsl
    obtain rfl := asSl_su hsl
    obtain ⟨b, base, c, he, hoe, rfl⟩ := conc_su ha
    obtain ⟨rfl, h1⟩ := rowElems_rel (P := P) (cap := c - oe) H hv he
    exact h1
  · cases e : asStr a with
    | none => rw [e] at hv; cases hv
    | some p =>
      rw [e] at hv
      have ⟨h1, h2⟩ := sel_some.1 hv
      cases h2
      obtain rfl := asStr_some e
      obtain ⟨hlt, rfl⟩ := conc_str ha
      have h1 := beq_iff.1 h1
      subst h1
      refine ⟨_, bytesA_conc p.1 p.2, by simp [Builtin.lenOf, size_bytesOf], by simp [bytesL_length], fun m hm => ?_⟩
      simp only [Builtin.firstCells, Sem.run_pure, Nat.mul_one, extract_bytesOf (Nat.zero_le m) hm]
      congr 1
      apply Array.ext'
      simp only [Array.toList_map, data_bytesOf, Nat.sub_zero, Nat.pow_zero, Nat.div_one, ← List.map_take, bytesL_take p.1 p.2 m hm]

/-! ## append -/
theorem growBy_le (need : Nat) : ∀ (r c : Nat), c ≤ 2 * need + 192 → Builtin.growBy need r c ≤ 2 * need + 192
  | 0, c, h => h
  | r + 1, c, h => by
    unfold Builtin.growBy
    split
    · exact h
    · exact growBy_le need r _ (by omega)

theorem nextcap_le {need cap : Nat} (h : cap < need) : Builtin.nextslicecap need cap ≤ 2 * need + 192 := by
  unfold Builtin.nextslicecap
  split
  · omega
  · split
    · omega
    · exact growBy_le need 4 cap (by omega)

theorem zeroCells_size (z : Array Value) (n : Nat) : (Builtin.zeroCells z n).size = n * z.size := by simp [Builtin.zeroCells]

section
variable {ts : Array TypeId} {t xt e : TypeId} {sz : Nat} {ty : TypeId}

theorem append_fits (ht : ts[0]? = some t) (hxt : ts[1]? = some xt) (hs : slA P t = some (e, sz)) (hx : notIntT P xt = true) {base : Option Addr} {len cap n : Nat} {x : Value} {xs : List Value}
    (hf : FirstOk P w sz n x xs) (hle : len + n ≤ cap) :
    (Builtin.append_ ts ty #[.slice base len cap, x]).run P w =
      ((match base with | some a => storeCells (a.add (len * sz)) xs | none => pure () : Sem Unit).run P w).andThen fun _ w' => .ok (.slice base (len + n) cap) w' := by
  obtain ⟨hd, hsz⟩ := slA_some hs
  have hu := run_und hd w
  have hz := run_sz hsz w
  obtain ⟨dx, hdx, hno⟩ := notIntT_true hx
  have hux := run_und hdx w
  obtain ⟨h1, h2, h3⟩ := hf
  have h4 := h3 n (Nat.le_refl n)
  rw [List.take_of_length_le (by omega)] at h4
  have hzero : (dx matches .int _) = false := by cases dx <;> first | rfl | exact absurd rfl (hno _)
  unfold Builtin.append_
  cases base with
  | none => simp [ht, hxt, hu, hz, hux, hzero, h1, h4, hle, Result.andThen_ok]
  | some a => simp [ht, hxt, hu, hz, hux, hzero, h1, h4, hle, Result.andThen_ok]

theorem append_grows (ht : ts[0]? = some t) (hxt : ts[1]? = some xt) (hs : slA P t = some (e, sz)) (hx : notIntT P xt = true) (hg : growOk P e = true) {base : Option Addr} {len cap n : Nat} {x : Value} {xs os : List Value}
    (hf : FirstOk P w sz n x xs) (hfd : FirstOk P w.drew sz n x xs) (ho : (Builtin.firstCells sz len (.slice base len cap)).run P w.drew = .ok ⟨os⟩ w.drew) (hol : os.length = len * sz) (hgt : ¬ len + n ≤ cap) (hsm : len + n ≤ 1048576) :
    ∃ (nc : Nat) (arr : Array Value), len + n ≤ nc ∧ nc * sz ≤ arr.size ∧ (∀ (j : Nat), j < (os ++ xs).length → arr[j]? = (os ++ xs)[j]?) ∧
      (Builtin.append_ ts ty #[.slice base len cap, x]).run P w = .ok (.slice (some ⟨w.heap.size, 0, none⟩) (len + n) nc) (w.drew.alloc (.cells arr e)) := by
  obtain ⟨hd, hsz⟩ := slA_some hs
  have hu := run_und hd w
  have hz := run_sz hsz w
  obtain ⟨dx, hdx, hno⟩ := notIntT_true hx
  have hux := run_und hdx w
  obtain ⟨h1, h2, h3⟩ := hf
  obtain ⟨_, _, h3d⟩ := hfd
  have h4 := h3d n (Nat.le_refl n)
  rw [List.take_of_length_le (by omega)] at h4
  have hzero : (dx matches .int _) = false := by cases dx <;> first | rfl | exact absurd rfl (hno _)
  obtain ⟨i, z, a, hi, hiz, hza, hby, hcl⟩ := growOk_true hg
  obtain ⟨i', hi', his, _⟩ := szOf_some hsz
  rw [hi] at hi'; cases hi'
  have hinf : ∀ w, (typeInfo e).run P w = .ok i w := fun w => run_info hi w
  have hzv : ∀ w, (zeroValue e).run P w = .ok z w := fun w => by simp [zeroValue, hinf w, hiz]
  have hzs : z.cells.size = sz := by
    rw [← his, ← hcl]
    cases hag : Go.Sx.asAgg a with
    | some l =>
      obtain rfl := asAgg_some hag
      obtain ⟨l', h5, rfl⟩ := conc_agg (ofV_conc (Q := fun _ => .nilFunc) (η := fun _ => none) z hza)
      have := concVs_length h5
      show l'.length = l.length
      exact this
    | none =>
      have hcc : cellsOf a = [a] := by cases a <;> first | rfl | cases hag
      rw [hcc]
      have hz2 := ofV_conc (Q := fun _ => .nilFunc) (η := fun _ => none) z hza
      cases z <;> first
        | rfl
        | (exfalso
           simp only [ofV] at hza
           split at hza <;> cases hza
           cases hag)
  have hcap : Builtin.nextslicecap (len + n) cap ≤ 2 * (len + n) + 192 := nextcap_le (by omega)
  have hroom : ¬ (Builtin.nextslicecap (len + n) cap * i.bytes > 2 ^ 48) := by
    have : Builtin.nextslicecap (len + n) cap * i.bytes ≤ (2 * 1048576 + 192) * 65536 := Nat.mul_le_mul (by omega) hby
    omega
  have hmax : ¬ (((len + n : Nat) : Int) > IntKind.i64.max) := by
    have : IntKind.i64.max = 9223372036854775807 := by decide
    rw [this]; omega
  let nc := (len + n) + w.tape w.drawn (.appendCap (len + n) cap e) % (2 ^ 63 - (len + n))
  let arr : Array Value := ⟨os⟩ ++ ⟨xs⟩ ++ Builtin.zeroCells z.cells (nc - (len + n))
  refine ⟨nc, arr, Nat.le_add_right _ _, ?_, fun j hj => ?_, ?_⟩
  · simp only [arr, Array.size_append, zeroCells_size, hzs, h2, hol]
    have : nc * sz = len * sz + n * sz + (nc - (len + n)) * sz := by
      rw [← Nat.add_mul, ← Nat.add_mul]; congr 1; omega
    simp; omega
  · simp only [arr]
    rw [Array.getElem?_append_left (by simpa using hj)]
    simp
  · have hne : (len + n ≤ cap) = False := by simp [hgt]
    have hmax' : (((len : Int) + (n : Int)) > IntKind.i64.max) = False := by simpa using hmax
    have hroom' : (2 ^ 48 < Builtin.nextslicecap (len + n) cap * i.bytes) = False := by simpa using hroom
    unfold Builtin.append_
    simp only [List.getElem?_toArray, ht, hxt, List.getElem?_cons_zero, List.getElem?_cons_succ, Sem.run_bind, hu, hz, hux, Result.andThen_ok, hzero, h1, Bool.false_eq_true, if_false, Sem.run_pure, hne, hinf, hroom, hmax, false_and,
      run_choose, Question.forced, Question.cut, World.drew_eq, run_askRoom, ho, Bool.not_false, if_true, h4, hzv, newRow, run_newObj, World.alloc_eq]
    rfl
end

end
end Go.Sx
namespace Go.Sx
theorem concVs_take {Q : Nat → Value} {η : Env} : ∀ {l : List AV} {xs : List Value}, concVs Q η l = some xs → ∀ n, concVs Q η (l.take n) = some (xs.take n)
  | [], _, h, n => by cases h; simp [concVs]
  | v :: r, _, h, n => by
    obtain ⟨x, m, rfl, h1, h2⟩ := concVs_cons h
    cases n with
    | zero => simp [concVs]
    | succ n => exact concVs_mk h1 (concVs_take h2 n)
end Go.Sx
