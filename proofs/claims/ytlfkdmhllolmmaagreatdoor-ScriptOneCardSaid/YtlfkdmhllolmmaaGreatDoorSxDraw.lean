/- Regions that draw their order: small facts. -/
import Derived.Test.YtlfkdmhllolmmaaGreatDoorSxOpA
namespace Go.Sx
open Go

theorem bit_eq (m j : Nat) : bit m j = m.testBit j := by
  unfold bit
  show Nat.beq ((m >>> j) % 2) 1 = _
  rw [Nat.testBit_eq_decide_div_mod_eq, Nat.shiftRight_eq_div_pow]
  by_cases h : m / 2 ^ j % 2 = 1
  · rw [beq_iff.2 h]; simp [h]
  · rw [beq_no.2 h]; simp [h]

theorem bit_add (m i j : Nat) : bit (addBit m i) j = (bit m j || Nat.beq i j) := by
  rw [bit_eq, bit_eq]
  unfold addBit
  show (m ||| (1 <<< i)).testBit j = _
  rw [Nat.testBit_or, Nat.shiftLeft_eq, Nat.one_mul, Nat.testBit_two_pow]
  by_cases h : i = j
  · rw [beq_iff.2 h]; simp [h]
  · rw [beq_no.2 h]; simp [h]

theorem bit_zero (j : Nat) : bit 0 j = false := by rw [bit_eq]; simp

theorem bit_all {n j : Nat} (h : j < n) : bit (2 ^ n - 1) j = true := by rw [bit_eq, Nat.testBit_two_pow_sub_one]; simp [h]

theorem bindsA_eq (e : Edge) : bindsA e = Region.binds .any e := by
  unfold bindsA Region.binds
  cases e.ground <;> rfl

theorem opndL_mem {op : Op} {x : Operand} (h : x ∈ op.operands.toList) (hs : ∀ cs b, op ≠ .select cs b) : x ∈ opndL op := by
  cases op
  case call c => 
    rw [show (Op.call c).operands = c.operands from rfl, callee_ops] at h
    simp only [opndL]
    cases hc : c.callee <;> simp [hc] at h ⊢ <;> exact h
  case go c =>
    rw [show (Op.go c).operands = c.operands from rfl, callee_ops] at h
    simp only [opndL]
    cases hc : c.callee <;> simp [hc] at h ⊢ <;> exact h
  case defer c =>
    rw [show (Op.defer c).operands = c.operands from rfl, callee_ops] at h
    simp only [opndL]
    cases hc : c.callee <;> simp [hc] at h ⊢ <;> exact h
  case select cs b => exact absurd rfl (hs cs b)
  case slice t x lo hi mx => simp only [Op.operands, opndL] at h ⊢; simpa using h
  all_goals first
    | (simp only [Op.operands, opndL] at h ⊢; simp at h; done)
    | (simp only [Op.operands, opndL] at h ⊢; simpa using h)
    | (simp [Op.operands] at h)

/-! ## the same values -/
theorem eqFn_sound {f g : Fn} (h : eqFn f g = true) : f = g := by
  cases f <;> simp only [eqFn] at h <;> (try cases h) <;> cases g <;> simp only [] at h <;> (try cases h) <;> rw [beq_iff.1 h]

theorem isTK_np {v : AV} (h : isTK v .ptr = true) : v = .np := by
  unfold isTK at h
  cases v <;> simp [eqK, tkEq] at h <;> rfl
theorem isTK_nf {v : AV} (h : isTK v .func = true) : v = .nf := by
  unfold isTK at h
  cases v <;> simp [eqK, tkEq] at h <;> rfl

theorem selF {c a : Bool} (h : sel c a false = true) : c = true ∧ a = true := by cases c <;> simp [sel_true, sel_false] at h ⊢ <;> exact h

mutual
theorem eqAV_sound : ∀ (a v : AV), eqAV a v = true → a = v
  | .bool a, v, h => by
    unfold eqAV at h
    cases e : asBool v with
    | none => rw [e] at h; cases h
    | some b => rw [e] at h; rw [asBool_some e]; cases a <;> cases b <;> simp at h <;> rfl
  | .int k n, v, h => by
    unfold eqAV at h
    cases e : Sx.asInt v with
    | none => rw [e] at h; cases h
    | some p =>
      rw [e] at h
      have ⟨h1, h2⟩ := selF h
      rw [asInt_some e, kindEq_iff.1 h1, eqI_iff.1 h2]
  | .str l s, v, h => by
    unfold eqAV at h
    cases e : asStr v with
    | none => rw [e] at h; cases h
    | some p =>
      rw [e] at h
      simp only [strEq, Bool.and_eq_true] at h
      rw [asStr_some e, beq_iff.1 h.1, beq_iff.1 h.2]
  | .np, v, h => by unfold eqAV at h; exact (isTK_np h).symm
  | .ptr i o, v, h => by
    unfold eqAV at h
    cases e : asPtr v with
    | none => rw [e] at h; cases h
    | some p =>
      rw [e] at h
      have ⟨h1, h2⟩ := selF h
      rw [asPtr_some e, beq_iff.1 h1, beq_iff.1 h2]
  | .sl i o l c, v, h => by
    unfold eqAV at h
    split at h
    · rename_i i' o' l' c' e
      have ⟨h1, h2⟩ := selF h
      have ⟨h3, h4⟩ := selF h2
      have ⟨h5, h6⟩ := selF h4
      rw [asSl_sl e, beq_iff.1 h1, beq_iff.1 h3, beq_iff.1 h5, beq_iff.1 h6]
    · cases h
  | .su i o l c, v, h => by
    unfold eqAV at h
    split at h
    · rename_i i' o' l' c' e
      have ⟨h1, h2⟩ := selF h
      have ⟨h3, h4⟩ := selF h2
      have ⟨h5, h6⟩ := selF h4
      rw [asSl_su e, beq_iff.1 h1, beq_iff.1 h3, beq_iff.1 h5, beq_iff.1 h6]
    · cases h
  | .es i, v, h => by
    unfold eqAV at h
    split at h
    · rename_i j e; rw [asSl_emp e, beq_iff.1 h]
    · cases h
  | .ns, v, h => by
    unfold eqAV at h
    split at h
    · rename_i e; rw [asSl_nil e]
    · cases h
  | .map i, v, h => by
    unfold eqAV at h
    split at h
    · rename_i j e
      rcases asMap_some e with ⟨h1, _⟩ | ⟨k, h1, rfl⟩
      · cases h1
      · cases h1; rw [beq_iff.1 h]
    · cases h
  | .nm, v, h => by
    unfold eqAV at h
    split at h
    · rename_i e
      rcases asMap_some e with ⟨_, rfl⟩ | ⟨k, h1, _⟩
      · rfl
      · cases h1
    · cases h
  | .func f a b, v, h => by
    unfold eqAV at h
    cases e : asFunc v with
    | none => rw [e] at h; cases h
    | some p =>
      rw [e] at h
      have ⟨h1, h2⟩ := selF h
      have ⟨h3, h4⟩ := selF h2
      rw [asFunc_some e, eqFn_sound h1, eqAVs_sound a _ h3, eqAVs_sound b _ h4]
  | .nf, v, h => by unfold eqAV at h; exact (isTK_nf h).symm
  | .iface t a, v, h => by
    unfold eqAV at h
    cases e : asIface v with
    | none => rw [e] at h; cases h
    | some p =>
      rw [e] at h
      have ⟨h1, h2⟩ := selF h
      rw [asIface_some e, beq_iff.1 h1, eqAV_sound a _ h2]
  | .ni, v, h => by unfold eqAV at h; exact (isNi_true h).symm
  | .agg l, v, h => by
    unfold eqAV at h
    cases e : asAgg v with
    | none => rw [e] at h; cases h
    | some m => rw [e] at h; rw [asAgg_some e, eqAVs_sound l _ h]
  | .tup l, v, h => by
    unfold eqAV at h
    cases e : asTup v with
    | none => rw [e] at h; cases h
    | some m => rw [e] at h; rw [asTup_some e, eqAVs_sound l _ h]
  | .opq i, v, h => by
    unfold eqAV at h
    cases e : asOpq v with
    | none => rw [e] at h; cases h
    | some j => rw [e] at h; rw [asOpq_some e, beq_iff.1 h]
theorem eqAVs_sound : ∀ (a v : List AV), eqAVs a v = true → a = v
  | [], v, h => by
    unfold eqAVs at h
    cases v with
    | nil => rfl
    | cons _ _ => cases h
  | x :: r, v, h => by
    unfold eqAVs at h
    cases v with
    | nil => cases h
    | cons u s =>
      have ⟨h1, h2⟩ := selF h
      rw [eqAV_sound x u h1, eqAVs_sound r s h2]
end

theorem eqObj_sound {a b : Option AObj} (h : eqObj a b = true) : ∃ o, a = some o ∧ b = some o := by
  unfold eqObj at h
  split at h
  · split at h
    · have ⟨h1, h2⟩ := selF h
      have ⟨h3, h4⟩ := selF h2
      rename_i r cs e _ r' cs' e'
      have hr : r = r' := by cases r <;> cases r' <;> simp at h3 <;> rfl
      exact ⟨_, rfl, by rw [beq_iff.1 h1, hr, eqAVs_sound _ _ h4]⟩
    · cases h
  · split at h
    · exact ⟨_, rfl, rfl⟩
    · cases h
  · cases h

/-! ## light operations only add -/
/-- the heap behind a light operation -/
def Adds (h h' : AH) : Prop := h' = h ∨ (∃ o, h' = h.new o) ∨ h' = ⟨h.heap.putO fuel h.next none, Nat.succ h.next⟩

section
variable {P : Program} {T : Tr AV} {h : AH}

def AddsR (h : AH) : AR → Prop
  | .val _ h' => Adds h h'
  | _ => True

theorem adds_vOf (o : Option AV) : AddsR h (vOf o h) := by unfold vOf; cases o <;> first | trivial | exact .inl rfl
theorem adds_vhOf {o : Option (AV × AH)} (h1 : ∀ v h', o = some (v, h') → Adds h h') : AddsR h (vhOf o) := by
  unfold vhOf
  cases o with
  | none => trivial
  | some p => exact h1 p.1 p.2 rfl

theorem adds_conv {s d : TypeId} {x v : AV} {h' : AH} (hv : convA P h s d x = some (v, h')) : Adds h h' := by
  unfold convA at hv
  have hb : ∀ i o l, bytesOfRow h i o l = some (v, h') → Adds h h' := fun i o l hb => by
    unfold bytesOfRow at hb
    split at hb
    · cases hb
    · split at hb
      · cases hb
      · split at hb
        · cases hb; exact .inl rfl
        · split at hb <;> cases hb; exact .inl rfl
  split at hv
  · split at hv
    · cases hv; exact .inl rfl
    · split at hv
      · split at hv <;> cases hv; exact .inl rfl
      · cases hv
  · split at hv <;> cases hv; exact .inl rfl
  · split at hv <;> cases hv; exact .inr (.inl ⟨_, rfl⟩)
  · split at hv
    · cases hv; exact .inl rfl
    · cases hv; exact .inl rfl
    · exact hb _ _ _ hv
    · exact hb _ _ _ hv
    · cases hv
  · split at hv
    · split at hv <;> cases hv; exact .inl rfl
    · split at hv <;> cases hv; exact .inl rfl
    · cases hv
  · cases hv

theorem adds_slice3 {t : TypeId} {x v m : AV} {lo hi : Option AV} {h' : AH} (hv : slice3A P h t x lo hi m = some (v, h')) : Adds h h' := by
  unfold slice3A at hv
  split at hv
  · cases hv
  · split at hv
    · cases hv
    · split at hv
      · split at hv
        · cases hv
        · have ⟨_, h1⟩ := sel_some.1 hv
          split at h1
          · unfold cutSl at h1
            have ⟨_, h2⟩ := sel_some.1 h1
            generalize Nat.beq _ _ = bq at h2
            cases bq
            · rw [sel_false] at h2; cases h2; exact .inl rfl
            · rw [sel_true] at h2; cases h2; exact .inl rfl
          · cases h1
      · cases hv

theorem adds_slice {t : TypeId} {x v : AV} {lo hi : Option AV} {h' : AH} (hv : sliceA P h t x lo hi = some (v, h')) : Adds h h' := by
  have hsl : ∀ s id off cap l hh, cutSl h s id off cap l hh = some (v, h') → Adds h h' := fun s id off cap l hh hc => by
    unfold cutSl at hc
    have ⟨_, h2⟩ := sel_some.1 hc
    cases hb : Nat.beq l cap <;> rw [hb] at h2 <;> cases h2 <;> exact .inl rfl
  have hsu : ∀ s id off oe len l hh, cutSu h s id off oe len l hh = some (v, h') → Adds h h' := fun s id off oe len l hh hc => by
    unfold cutSu at hc
    have ⟨_, h2⟩ := sel_some.1 hc
    cases hb : Nat.blt l len with
    | true => rw [hb] at h2; cases h2; exact .inl rfl
    | false =>
      rw [hb, sel_false] at h2
      cases hb0 : Nat.beq l 0 <;> rw [hb0] at h2 <;> cases h2
      · exact .inr (.inr rfl)
      · exact .inl rfl
  have hn : ∀ y hh, cutNil h y hh = some (v, h') → Adds h h' := fun y hh hc => by
    unfold cutNil at hc
    have ⟨_, h2⟩ := sel_some.1 hc
    cases h2; exact .inl rfl
  unfold sliceA at hv
  split at hv
  · unfold sliceS at hv
    split at hv
    · split at hv
      · exact hn _ _ hv
      · cases hv
    · split at hv
      · exact hn _ _ hv
      · cases hv
    · split at hv
      · exact hsl _ _ _ _ _ _ hv
      · cases hv
    · split at hv
      · exact hsu _ _ _ _ _ _ _ hv
      · cases hv
    · cases hv
  · cases hst : isStrT P t with
    | true =>
      rw [hst, sel_true] at hv
      split at hv
      · split at hv
        · unfold cutStr at hv
          have ⟨_, h2⟩ := sel_some.1 hv
          cases h2; exact .inl rfl
        · cases hv
      · cases hv
    | false =>
      rw [hst, sel_false] at hv
      split at hv
      · split at hv
        · split at hv
          · exact hsl _ _ _ _ _ _ hv
          · cases hv
        · cases hv
      · cases hv

theorem adds_mkslice {t : TypeId} {l c v : AV} {h' : AH} (hv : makeSliceA P h t l c = some (v, h')) : Adds h h' := by
  unfold makeSliceA at hv
  repeat' (split at hv <;> try (cases hv; done))
  have ⟨_, h2⟩ := sel_some.1 hv
  cases h2; exact .inr (.inl ⟨_, rfl⟩)

theorem adds_buildslice {t : TypeId} {n : Nat} {ps : List (Nat × AV)} {v : AV} {h' : AH} (hv : buildSliceA P h t n ps = some (v, h')) : Adds h h' := by
  unfold buildSliceA at hv
  split at hv
  · cases hv
  · split at hv
    · cases hv
    · have ⟨_, h2⟩ := sel_some.1 hv
      split at h2
      · cases h2; exact .inr (.inl ⟨_, rfl⟩)
      · cases h2

theorem light_adds {ir : Bool} {o : Oper} (hl : lightO o.op = true) : AddsR h (opA P T h ir o) := by
  obtain ⟨dst, op, ty, pos, after, guard⟩ := o
  cases op <;> (try (exfalso; simp [lightO] at hl; done))
  case move x => exact adds_vOf _
  case pick c a b =>
    show AddsR h (opPick T h c a b)
    unfold opPick
    split
    · trivial
    · exact adds_vOf _
  case alloc e =>
    show AddsR h (opAlloc P h e)
    unfold opAlloc
    split
    · exact .inr (.inl ⟨_, rfl⟩)
    · trivial
  case box e x =>
    show AddsR h (opBox T h e x)
    unfold opBox
    split
    · exact .inr (.inl ⟨_, rfl⟩)
    · trivial
  case build t ps =>
    show AddsR h (opBuild P T h t ps)
    unfold opBuild
    split
    · exact adds_vOf _
    · trivial
  case buildSlice t n ps =>
    show AddsR h (opBuildSlice P T h t n ps)
    unfold opBuildSlice
    split
    · exact adds_vhOf fun v h' hv => adds_buildslice hv
    · trivial
  case load t a =>
    show AddsR h (opLoad P T h t a)
    unfold opLoad
    split
    · exact adds_vOf _
    · trivial
  case nilCheck x =>
    show AddsR h (opNil T h x)
    unfold opNil
    split
    · exact adds_vOf _
    · trivial
  case binOp op t x y yt =>
    show AddsR h (opBin P T h op t x y)
    unfold opBin
    split
    · split
      · exact adds_vOf _
      · trivial
    · trivial
  case unOp op t x =>
    show AddsR h (opUn T h op x)
    unfold opUn
    split
    · exact adds_vOf _
    · trivial
  case convert s d x =>
    show AddsR h (opConv P T h s d x)
    unfold opConv
    split
    · exact adds_vhOf fun v h' hv => adds_conv hv
    · trivial
  case makeInterface t x =>
    show AddsR h (opIface P T h t x)
    unfold opIface
    split
    · exact adds_vOf _
    · trivial
  case makeFunc fn first cap =>
    show AddsR h (opFunc T h fn first cap)
    unfold opFunc
    split
    · split
      · cases plainFn fn
        · trivial
        · exact .inl rfl
      · trivial
    · trivial
  case makeMap t r =>
    show AddsR h (opMap P T h t r)
    unfold opMap
    split
    · exact .inr (.inl ⟨_, rfl⟩)
    · cases isMapT P t
      · trivial
      · rw [sel_true]
        split
        · trivial
        · split
          · exact .inr (.inl ⟨_, rfl⟩)
          · trivial
  case makeSlice t l c =>
    show AddsR h (opMkSlice P T h t l c)
    unfold opMkSlice
    split
    · split
      · exact adds_vhOf fun v h' hv => adds_mkslice hv
      · trivial
    · trivial
  case slice t x lo hi mx =>
    show AddsR h (opSlice P T h t x lo hi mx)
    unfold opSlice
    split
    · split
      · split
        · split
          · exact adds_vhOf fun v h' hv => adds_slice hv
          · split
            · exact adds_vhOf fun v h' hv => adds_slice3 hv
            · trivial
        · trivial
      · trivial
    · trivial
  case fieldAddr s x f =>
    show AddsR h (opFAddr P T h s x f)
    unfold opFAddr
    split
    · exact adds_vOf _
    · trivial
  case field t x f =>
    show AddsR h (opField P T h t x f)
    unfold opField
    split
    · exact adds_vOf _
    · trivial
  case indexAddr t x i =>
    show AddsR h (opIAddr P T h t x i)
    unfold opIAddr
    split
    · split
      · exact adds_vOf _
      · trivial
    · trivial
  case index t x i =>
    show AddsR h (opIndex P T h t x i)
    unfold opIndex
    split
    · split
      · exact adds_vOf _
      · trivial
    · trivial
  case lookup t x i ok =>
    show AddsR h (opLookup P T h t x i ok)
    unfold opLookup
    split
    · split
      · exact adds_vOf _
      · trivial
    · trivial
  case typeAssert x xt a ok =>
    show AddsR h (opAssert P T h x a ok)
    unfold opAssert
    split
    · exact adds_vOf _
    · trivial
  case extract x i =>
    show AddsR h (opExtract T h x i)
    unfold opExtract
    split
    · trivial
    · split
      · exact adds_vOf _
      · trivial
  case call c =>
    obtain ⟨callee, cargs, ats⟩ := c
    show AddsR h (callA P T h ⟨callee, cargs, ats⟩)
    unfold callA
    simp only
    split
    · trivial
    · cases callee with
      | value f => exfalso; simp [lightO] at hl
      | invoke r n => exfalso; simp [lightO] at hl
      | builtin b =>
        cases b <;> first
          | (exfalso; simp [lightO] at hl; done)
          | (show AddsR h (lenB P h _ _)
             unfold lenB
             split
             · split
               · exact adds_vOf _
               · trivial
             · trivial)
          | exact adds_vOf _

end
end Go.Sx
