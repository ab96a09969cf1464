/- Packed strings do what the model's do. -/
import Derived.Test.YtlfkdmhllolmmaaGreatDoorSxOps
import Derived.Laws.Strings
namespace Go.Sx
open Go

theorem size_bytesOf (n v : Nat) : (bytesOf n v).size = n := by
  show (bytesL n v).toArray.size = n
  simp [bytesL_length]

theorem data_bytesOf (n v : Nat) : (bytesOf n v).data.toList = bytesL n v := rfl

theorem toList_bytesOf (n v : Nat) : (bytesOf n v).toList = bytesL n v := by rw [ByteArray.toList_eq]; rfl

theorem bytesL_get : ∀ (n v i : Nat), i < n → (bytesL n v)[i]? = some (UInt8.ofNat (v / 256 ^ i % 256))
  | 0, _, _, h => by omega
  | n + 1, v, 0, _ => by simp [bytesL]
  | n + 1, v, i + 1, h => by
    simp only [bytesL, List.getElem?_cons_succ]
    rw [bytesL_get n (v / 256) i (by omega), Nat.div_div_eq_div_mul, Nat.pow_succ, Nat.mul_comm]

theorem pow256 (i : Nat) : 2 ^ (8 * i) = 256 ^ i := by rw [Nat.pow_mul]

theorem byteAt_eq (v i : Nat) : byteAt v i = v / 256 ^ i % 256 := by
  unfold byteAt
  rw [Nat.shiftRight_eq_div_pow, pow256]

/-- the bytes from l to h on -/
theorem bytesL_cut (n v : Nat) : ∀ (l k : Nat), l + k ≤ n → bytesL k (v / 256 ^ l % 256 ^ k) = ((bytesL n v).drop l).take k := by
  intro l k h
  apply List.ext_getElem?
  intro i
  by_cases hi : i < k
  · rw [bytesL_get _ _ _ hi, List.getElem?_take_of_lt hi, List.getElem?_drop, bytesL_get _ _ _ (by omega)]
    congr 2
    have e1 : 256 ^ k = 256 ^ i * 256 ^ (k - i) := by rw [← Nat.pow_add]; congr 1; omega
    rw [e1, Nat.mod_mul_right_div_self]
    have e2 : 256 ^ (k - i) = 256 * 256 ^ (k - i - 1) := by rw [← Nat.pow_succ']; congr 1; omega
    rw [e2, Nat.mod_mul_right_mod, Nat.div_div_eq_div_mul, ← Nat.pow_add]
  · rw [List.getElem?_eq_none (by rw [bytesL_length]; omega), List.getElem?_eq_none (by simp; omega)]

theorem extract_bytesOf {n v l h : Nat} (h1 : l ≤ h) (h2 : h ≤ n) : (bytesOf n v).extract l h = bytesOf (h - l) (v / 256 ^ l % 256 ^ (h - l)) := by
  apply ByteArray.ext
  apply Array.ext'
  rw [data_bytesOf, bytesL_cut n v l (h - l) (by omega), ByteArray.data_extract, Array.toList_extract, data_bytesOf, List.extract_eq_take_drop]

theorem bytesL_app : ∀ (n a m b : Nat), a < 256 ^ n → bytesL (n + m) (a + b * 256 ^ n) = bytesL n a ++ bytesL m b
  | 0, a, m, b, h => by
    have : a = 0 := by simpa using h
    subst this; simp [bytesL]
  | n + 1, a, m, b, h => by
    rw [show n + 1 + m = (n + m) + 1 by omega]
    simp only [bytesL, List.cons_append]
    have e : b * 256 ^ (n + 1) = 256 * (b * 256 ^ n) := by rw [Nat.pow_succ]; simp [Nat.mul_comm, Nat.mul_left_comm]
    have h' : a / 256 < 256 ^ n := by rw [Nat.pow_succ] at h; omega
    rw [e, show (a + 256 * (b * 256 ^ n)) % 256 = a % 256 by omega, show (a + 256 * (b * 256 ^ n)) / 256 = a / 256 + b * 256 ^ n by omega,
      bytesL_app n (a / 256) m b h']

theorem app_bytesOf {n a m b : Nat} (h : a < 256 ^ n) : bytesOf n a ++ bytesOf m b = bytesOf (n + m) (a + b * 256 ^ n) := by
  apply ByteArray.ext
  apply Array.ext'
  rw [data_bytesOf, bytesL_app n a m b h, ByteArray.data_append, Array.toList_append, data_bytesOf, data_bytesOf]

theorem packL_bytesL : ∀ (n v : Nat), v < 256 ^ n → packL (bytesL n v) = v
  | 0, v, h => by
    have : v = 0 := by simpa using h
    subst this; rfl
  | n + 1, v, h => by
    have h' : v / 256 < 256 ^ n := by rw [Nat.pow_succ] at h; omega
    simp only [bytesL, packL]
    rw [packL_bytesL n _ h']
    have : (UInt8.ofNat (v % 256)).toNat = v % 256 := by simp [UInt8.toNat_ofNat']
    rw [this]; omega

theorem bytesL_inj {n v m u : Nat} (hv : v < 256 ^ n) (hu : u < 256 ^ m) : bytesL n v = bytesL m u ↔ n = m ∧ v = u := by
  constructor
  · intro e
    have h1 := congrArg List.length e
    rw [bytesL_length, bytesL_length] at h1
    subst h1
    refine ⟨rfl, ?_⟩
    rw [← packL_bytesL n v hv, ← packL_bytesL n u hu, e]
  · rintro ⟨rfl, rfl⟩; rfl

theorem strEq_eq {la a lb b : Nat} (ha : a < 256 ^ la) (hb : b < 256 ^ lb) : strEq la a lb b = (bytesL la a == bytesL lb b) := by
  have h := bytesL_inj ha hb
  unfold strEq
  cases e1 : Nat.beq la lb with
  | false =>
    have := beq_no.1 e1
    symm; simp only [Bool.false_and]
    rw [beq_eq_false_iff_ne]
    intro e; exact this (h.1 e).1
  | true =>
    have h1 := beq_iff.1 e1
    simp only [Bool.true_and]
    cases e2 : Nat.beq a b with
    | false =>
      have := beq_no.1 e2
      symm; rw [beq_eq_false_iff_ne]; intro e; exact this (h.1 e).2
    | true => have h2 := beq_iff.1 e2; subst h1; subst h2; simp

theorem strLt_eq : ∀ (f la a lb b : Nat), la < f → strLt f la a lb b = Op.bytesLess (bytesL la a) (bytesL lb b)
  | 0, _, _, _, _, h => by omega
  | f + 1, la, a, lb, b, h => by
    unfold strLt
    cases lb with
    | zero => cases la <;> simp [bytesL, Op.bytesLess]
    | succ m =>
      cases la with
      | zero => rfl
      | succ n =>
        have e1 : Nat.beq (m + 1) 0 = false := rfl
        have e2 : Nat.beq (n + 1) 0 = false := rfl
        simp only [e1, e2, cond_false, bytesL, Op.bytesLess]
        have lt : (UInt8.ofNat (a % 256) < UInt8.ofNat (b % 256)) ↔ a % 256 < b % 256 := by
          rw [UInt8.lt_iff_toNat_lt]; simp [UInt8.toNat_ofNat']
        have eq : (UInt8.ofNat (a % 256) = UInt8.ofNat (b % 256)) ↔ a % 256 = b % 256 := by
          rw [← UInt8.toNat_inj]; simp [UInt8.toNat_ofNat']
        rw [strLt_eq f (n + 1 - 1) (a / 256) (m + 1 - 1) (b / 256) (by omega)]
        simp only [Nat.add_sub_cancel]
        cases c1 : Nat.blt (a % 256) (b % 256) with
        | true => have := lt.2 (blt_iff.1 c1); simp [this]
        | false =>
          have h1 : ¬ UInt8.ofNat (a % 256) < UInt8.ofNat (b % 256) := fun hh => by have := lt.1 hh; have := blt_no.1 c1; omega
          cases c2 : Nat.beq (a % 256) (b % 256) with
          | true => have := eq.2 (beq_iff.1 c2); simp [this]
          | false =>
            have h2 : ¬ UInt8.ofNat (a % 256) = UInt8.ofNat (b % 256) := fun hh => beq_no.1 c2 (eq.1 hh)
            have h3 : (UInt8.ofNat (a % 256) == UInt8.ofNat (b % 256)) = false := by rw [beq_eq_false_iff_ne]; exact h2
            simp [h1, h3]

theorem mkStr_eq {n v : Nat} (h : v < 256 ^ n) : mkStr n v = .str n v := by
  unfold mkStr
  split
  · have : v = 0 := by simpa using h
    subst this; rfl
  · rfl
  · rfl

section
variable {P : Program} {Q : Nat → Value} {N0 : Keep} {w0 : World} {η : Env} {h : AH} {w : World}

theorem strOp_rel {op : BinOp} {la a lb b : Nat} {v : AV} {x y : Value} (hv : strOp op la a lb b = some v) (hx : concV Q η (.str la a) = some x) (hy : concV Q η (.str lb b) = some y) (t : TypeId) :
    ∃ z, (binOp op t x y).run P w = .ok z w ∧ concV Q η v = some z := by
  obtain ⟨ha, rfl⟩ := conc_str hx
  obtain ⟨hb, rfl⟩ := conc_str hy
  have q := strEq_eq ha hb
  have l := strLt_eq (la + 1) la a lb b (by omega)
  cases op <;> simp only [strOp] at hv
  case add =>
    obtain ⟨hr, hv⟩ := sel_some.1 hv
    have hr := ble_iff.1 hr
    cases hv
    have e : b <<< (8 * la) = b * 256 ^ la := by rw [Nat.shiftLeft_eq, pow256]
    have hlt : a + b * 256 ^ la < 256 ^ (la + lb) := by
      rw [Nat.pow_add]
      have : b + 1 ≤ 256 ^ lb := hb
      calc a + b * 256 ^ la < 256 ^ la + b * 256 ^ la := by omega
        _ = (b + 1) * 256 ^ la := by rw [Nat.add_mul]; omega
        _ ≤ 256 ^ lb * 256 ^ la := Nat.mul_le_mul_right _ this
        _ = 256 ^ la * 256 ^ lb := Nat.mul_comm _ _
    rw [e, mkStr_eq hlt]
    refine ⟨.string (bytesOf la a ++ bytesOf lb b), ?_, by rw [app_bytesOf ha]; exact conc_str_mk hlt⟩
    have : ¬ ((((bytesOf la a).size + (bytesOf lb b).size : Nat) : Int) > IntKind.i64.max) := by
      rw [size_bytesOf, size_bytesOf]; simp [IntKind.max, IntKind.signed, IntKind.bits]; omega
    simp only [binOp, Op.stringOp, this, if_false, Sem.run_pure]
  all_goals first
    | (cases hv; rw [mkBool_eq]; simp only [q, l]; exact ⟨_, by simp only [binOp, Op.stringOp, toList_bytesOf, Sem.run_pure], rfl⟩)
    | cases hv
end
end Go.Sx
