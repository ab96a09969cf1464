/- Operations that make or write memory. -/
import Derived.Test.YtlfkdmhllolmmaaGreatDoorSxOps2
namespace Go.Sx
open Go

/-- the environment is as it was, or one number more is used -/
def Step1 (η : Env) (n : Nat) (η' : Env) (n' : Nat) : Prop := (η' = η ∧ n' = n) ∨ (∃ e, η' = η.with n e ∧ n' = Nat.succ n)

theorem Step1.ext {η η' : Env} {n n' : Nat} (h : Step1 η n η' n') (hn : η n = none) : Ext η η' := by
  rcases h with ⟨rfl, _⟩ | ⟨e, rfl, _⟩
  · exact Ext.refl _
  · exact Env.ext_with e hn

section
variable {P : Program} {Q : Nat → Value} {N0 : Keep} {w0 : World} {η : Env} {h : AH} {w : World}

/-- a value, and what the heap has become -/
def VRel (P : Program) (Q : Nat → Value) (N0 : Keep) (w0 : World) (η : Env) (h : AH) (v : AV) (h' : AH) (r : Result Value) : Prop :=
  ∃ η' x w', r = .ok x w' ∧ Step1 η h.next η' h'.next ∧ HR P Q N0 w0 η' h' w' ∧ concV Q η' v = some x

theorem VRel.same (H : HR P Q N0 w0 η h w) {v : AV} {x : Value} {r : Result Value} (hr : r = .ok x w) (hc : concV Q η v = some x) : VRel P Q N0 w0 η h v h r :=
  ⟨η, x, w, hr, .inl ⟨rfl, rfl⟩, H, hc⟩

theorem CellsRel.of_list {cs : List AV} {xs : List Value} {c : Array Value} (h1 : concVs Q η cs = some xs) (h2 : ∀ (j : Nat), j < xs.length → c[j]? = xs[j]?) : CellsRel Q η cs 0 c := by
  intro j v hv
  obtain ⟨x, h3, h4⟩ := concVs_get h1 j v hv
  refine ⟨x, ?_, h4⟩
  rw [Nat.zero_add, h2 j (List.getElem?_eq_some_iff.1 h3).1, h3]

/-- a new row of cells -/
theorem VRel.row (H : HR P Q N0 w0 η h w) (hn : η h.next = none) {cs : List AV} {e : TypeId} {c : Array Value} {cap : Nat} {v : AV} {x : Value} {r : Result Value}
    (hr : r = .ok x (w.alloc (.cells c e))) (hc : CellsRel Q η cs 0 c) (hcap : cap * P.cellsOf e ≤ c.size)
    (hv : concV Q (η.with h.next (.blk w.heap.size 0 cap)) v = some x) : VRel P Q N0 w0 η h v (h.new (.cells false cs e)) r :=
  ⟨_, x, _, hr, .inr ⟨_, rfl, rfl⟩, H.new hn ⟨rfl, hc.mono (Env.ext_with _ hn), ⟨fun j _ => by simp, by simp⟩, by simpa using hcap⟩, hv⟩

/-! ## allocations -/
theorem alloc_rel (H : HR P Q N0 w0 η h w) (hn : η h.next = none) (hQ : QOk Q) {e : TypeId} {z : AV} (hz : zeroOf P e = some z) (g : Bool) :
    VRel P Q N0 w0 η h (.ptr h.next 0) (h.new (.cells false (cellsOf z) e)) ((Instr.alloc e true (.tuple #[])).run P w) := by
  obtain ⟨x, h1, h2⟩ := run_zero hz w
  have hc := conc_cells (ofV_conc (Q := Q) (η := η) x h2) hQ
  refine VRel.row H hn (cap := 0) (x := .pointer (some ⟨w.heap.size, 0, none⟩)) (c := x.cells) ?_ (CellsRel.of_list hc fun j _ => by simp) (by simp) ?_
  · simp [Instr.alloc, h1, newVar, newRow]
  · simp [concV, Env.with_self]

theorem box_rel (H : HR P Q N0 w0 η h w) (hn : η h.next = none) (hQ : QOk Q) {e : TypeId} {v : AV} {x : Value} (hv : concV Q η v = some x) :
    VRel P Q N0 w0 η h (.ptr h.next 0) (h.new (.cells false (cellsOf v) e)) ((Instr.box e x).run P w) := by
  have hc := conc_cells hv hQ
  refine VRel.row H hn (cap := 0) (x := .pointer (some ⟨w.heap.size, 0, none⟩)) (c := x.cells) ?_ (CellsRel.of_list hc fun j _ => by simp) (by simp) ?_
  · simp [Instr.box, newVar, newRow]
  · simp [concV, Env.with_self]

theorem makeMap_rel (H : HR P Q N0 w0 η h w) (hn : η h.next = none) : VRel P Q N0 w0 η h (.map h.next) (h.new (.map [])) (.ok (.map (some w.heap.size)) (w.alloc (.map #[] 0))) :=
  ⟨_, _, _, rfl, .inr ⟨_, rfl, rfl⟩, H.new hn (cap := 0) ⟨Born.nil, [], rfl, by simp, by simp, .bool, by simp⟩, by simp [concV, Env.with_self]⟩

/-! ## strings and bytes -/
theorem mkByte (m : Nat) : concV Q η (mkInt .u8 (Int.ofNat (Nat.mod m 256))) = some (.int .u8 ((UInt8.ofNat (m % 256)).toNat : Int)) := by
  rw [mkInt_eq]
  simp [concV, UInt8.toNat_ofNat']
  rfl

theorem bytesA_conc : ∀ (n v : Nat), concVs Q η (bytesA n v) = some ((bytesL n v).map fun b => .int .u8 (b.toNat : Int))
  | 0, _ => rfl
  | n + 1, v => by
    show concVs Q η (mkInt .u8 (Int.ofNat (Nat.mod v 256)) :: bytesA n (Nat.div v 256)) = _
    exact concVs_mk (mkByte v) (bytesA_conc n (v / 256))

theorem bytesA_length (n v : Nat) : (bytesA n v).length = n := by
  have := concVs_length (bytesA_conc (Q := fun _ => .nilFunc) (η := fun _ => none) n v)
  simpa [bytesL_length] using this.symm

theorem byteOfA_some {x : AV} {m : Nat} (h1 : byteOfA x = some m) : ∃ n : Nat, x = .int .u8 (n : Int) ∧ m = n % 256 := by
  unfold byteOfA at h1
  cases e : Sx.asInt x with
  | none => rw [e] at h1; cases h1
  | some p =>
    rw [e] at h1
    obtain rfl := asInt_some e
    obtain ⟨k, n⟩ := p
    simp only at h1
    cases k <;> simp only at h1 <;> try cases h1
    cases n with
    | ofNat n => simp only at h1; cases h1; exact ⟨n, rfl, rfl⟩
    | negSucc n => cases h1

/-- bytes that are put together -/
theorem packA_conc : ∀ {l : List AV} {v : Nat} {xs : List Value}, packA l = some v → concVs Q η l = some xs →
    v < 256 ^ l.length ∧ ∃ bs : List UInt8, bs = bytesL l.length v ∧ xs.length = bs.length ∧ ∀ (i : Nat) (x : Value), xs[i]? = some x → ∃ n : Nat, x = .int .u8 (n : Int) ∧ bs[i]? = some (UInt8.ofNat n)
  | [], v, xs, h1, h2 => by
    simp only [packA] at h1; cases h1; cases h2
    exact ⟨by simp, [], rfl, rfl, fun i x h => by simp at h⟩
  | a :: r, v, xs, h1, h2 => by
    simp only [packA] at h1
    cases e1 : byteOfA a with
    | none => rw [e1] at h1; cases h1
    | some m =>
      rw [e1] at h1
      simp only at h1
      cases e2 : packA r with
      | none => rw [e2] at h1; cases h1
      | some u =>
        rw [e2] at h1; cases h1
        obtain ⟨n, rfl, rfl⟩ := byteOfA_some e1
        obtain ⟨x, l, rfl, h3, h4⟩ := concVs_cons h2
        obtain ⟨hlt, bs, rfl, h5, h6⟩ := packA_conc e2 h4
        cases h3
        have hm : n % 256 < 256 := Nat.mod_lt _ (by decide)
        refine ⟨by simp only [List.length_cons, Nat.pow_succ]; omega, _, rfl, by simpa [bytesL_length] using h5, fun i x hi => ?_⟩
        simp only [List.length_cons, bytesL]
        rw [show (n % 256 + 256 * u) % 256 = n % 256 by omega, show (n % 256 + 256 * u) / 256 = u by omega]
        cases i with
        | zero =>
          simp only [List.getElem?_cons_zero, Option.some.injEq] at hi
          subst hi
          refine ⟨n, rfl, ?_⟩
          simp
          apply UInt8.toNat_inj.1
          simp [UInt8.toNat_ofNat']
        | succ i =>
          simp only [List.getElem?_cons_succ] at hi ⊢
          exact h6 i x hi

theorem forIn_bytes : ∀ (xs : List Value) (bs : List UInt8) (acc : ByteArray), xs.length = bs.length →
    (∀ (i : Nat) (x : Value), xs[i]? = some x → ∃ n : Nat, x = .int .u8 (n : Int) ∧ bs[i]? = some (UInt8.ofNat n)) →
    ∀ (f : Value → ByteArray → Sem (ForInStep ByteArray)), (∀ (n : Nat) (s : ByteArray), (f (.int .u8 (n : Int)) s).run P w = .ok (.yield (s.push (UInt8.ofNat n))) w) →
    (forIn xs acc f : Sem ByteArray).run P w = .ok ⟨acc.data ++ bs.toArray⟩ w
  | [], bs, acc, hl, _, f, _ => by
    have : bs = [] := by cases bs <;> simp at hl ⊢
    subst this
    simp
  | x :: r, bs, acc, hl, hx, f, hf => by
    cases bs with
    | nil => simp at hl
    | cons b bs =>
      obtain ⟨n, rfl, hb⟩ := hx 0 x (by simp)
      simp at hb
      simp only [List.forIn_cons, Sem.run_bind, hf, Result.andThen_ok]
      rw [forIn_bytes r bs (acc.push (UInt8.ofNat n)) (by simpa using hl) (fun i y hy => by
        obtain ⟨m, h1, h2⟩ := hx (i + 1) y (by simpa using hy)
        exact ⟨m, h1, by simpa using h2⟩) f hf]
      subst hb
      congr 2
      show (acc.push (UInt8.ofNat n)).data ++ bs.toArray = _
      rw [ByteArray.data_push]
      simp

theorem bytesToString_rel {b off : Nat} {c : Array Value} {e : TypeId} {fr : Nat × Nat} (hb : w.heap[b]? = some (.cells c e fr)) {l : List AV} {v len cap : Nat} {xs : List Value}
    (hp : packA l = some v) (hc : concVs Q η l = some xs) (hlen : l.length = len) (hx : ∀ (j : Nat), j < len → c[off + j]? = xs[j]?) :
    (Conv.bytesToString (.slice (some ⟨b, off, none⟩) len cap)).run P w = .ok (.string (bytesOf len v)) w ∧ v < 256 ^ len := by
  obtain ⟨hlt, bs, hbs, h1, h2⟩ := packA_conc hp hc
  have hxl := concVs_length hc
  refine ⟨?_, hlen ▸ hlt⟩
  have hl := run_loadCells (P := P) hb xs (o := off) (fun j hj => hx j (by omega)) (n := len) (by omega)
  unfold Conv.bytesToString
  simp only [Sem.run_bind, hl, Result.andThen_ok]
  rw [← Array.forIn_toList]
  rw [forIn_bytes (P := P) (w := w) xs bs ByteArray.empty h1 h2 _ (fun n s => by simp)]
  simp only [Result.andThen_ok, Sem.run_pure]
  congr 2
  subst hbs
  unfold bytesOf
  rw [hlen]
  congr 1
  show (#[] : Array UInt8) ++ (bytesL len v).toArray = _
  simp

end
end Go.Sx
