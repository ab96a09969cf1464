/- What an abstract value, heap, frame stands for in the model. -/
import Derived.Test.YtlfkdmhllolmmaaGreatDoorSxLists
import Derived.Calls
import Derived.Laws.Sem
import Derived.Laws.World
namespace Go.Sx

/-- where a number of the abstract heap lies -/
inductive Ent where
  | blk (b base cap : Nat)
  | emp (a : Addr) (c : Nat)

abbrev Env := Nat → Option Ent

/-- the bytes of a packed string -/
def bytesL : Nat → Nat → List UInt8
  | 0, _ => []
  | n + 1, v => UInt8.ofNat (v % 256) :: bytesL n (v / 256)

theorem bytesL_length : ∀ n v, (bytesL n v).length = n
  | 0, _ => rfl
  | n + 1, v => by simp [bytesL, bytesL_length n]

theorem bytesL_packL : ∀ l : List UInt8, bytesL l.length (packL l) = l
  | [] => rfl
  | b :: r => by
    have hb := UInt8.toNat_lt b
    show UInt8.ofNat ((b.toNat + 256 * packL r) % 256) :: bytesL r.length ((b.toNat + 256 * packL r) / 256) = _
    rw [show (b.toNat + 256 * packL r) % 256 = b.toNat by omega, show (b.toNat + 256 * packL r) / 256 = packL r by omega, bytesL_packL r]
    simp

theorem packL_lt : ∀ l : List UInt8, packL l < 256 ^ l.length
  | [] => by simp [packL]
  | b :: r => by
    have hb := UInt8.toNat_lt b
    have := packL_lt r
    simp only [packL, List.length_cons, Nat.pow_succ]
    omega

def bytesOf (n v : Nat) : ByteArray := ⟨(bytesL n v).toArray⟩

section
variable (Q : Nat → Value) (η : Env)

def concFn : Fn → Option Fn
  | .yield l => match η l with | some (.blk b _ _) => some (.yield b) | _ => none
  | f => some f

mutual
def concV : AV → Option Value
  | .bool b => some (.bool b)
  | .int k n => some (.int k n)
  | .str l v => if v < 256 ^ l then some (.string (bytesOf l v)) else none
  | .np => some (.pointer none)
  | .ptr id off => match η id with | some (.blk b base _) => some (.pointer (some ⟨b, base + off, none⟩)) | _ => none
  | .sl id off len cap => match η id with | some (.blk b base _) => some (.slice (some ⟨b, base + off, none⟩) len cap) | _ => none
  | .su id off oe len => match η id with
    | some (.blk b base c) => if oe + len ≤ c then some (.slice (some ⟨b, base + off, none⟩) len (c - oe)) else none
    | _ => none
  | .es i => match η i with | some (.emp a c) => some (.slice (some a) 0 c) | _ => none
  | .ns => some (.slice none 0 0)
  | .map id => match η id with | some (.blk b _ _) => some (.map (some b)) | _ => none
  | .nm => some (.map none)
  | .func fn first cap => match concFn η fn, concVs first, concVs cap with | some f, some a, some b => some (.func f ⟨a⟩ ⟨b⟩) | _, _, _ => none
  | .nf => some .nilFunc
  | .iface t v => match concV v with | some x => some (.iface t x) | none => none
  | .ni => some .nilIface
  | .agg cs => match concVs cs with | some l => some (.agg ⟨l⟩) | none => none
  | .tup vs => match concVs vs with | some l => some (.tuple ⟨l⟩) | none => none
  | .opq i => some (Q i)
def concVs : List AV → Option (List Value)
  | [] => some []
  | v :: r => match concV v, concVs r with | some x, some l => some (x :: l) | _, _ => none
end

def concO : Option AV → Option (Option Value)
  | none => some none
  | some v => (concV Q η v).map some

def concDf (d : ADf) : Option Deferred :=
  match d.tg with
  | .fn f cap => match concFn η f, concVs Q η cap, concVs Q η d.args with | some f, some c, some a => some ⟨.fn f ⟨c⟩, ⟨a⟩⟩ | _, _, _ => none
  | .col id => match η id with | some (.blk b _ _) => some ⟨.collected b, #[]⟩ | _ => none

def concDfs : List ADf → Option (List Deferred)
  | [] => some []
  | d :: r => match concDf Q η d, concDfs r with | some x, some l => some (x :: l) | _, _ => none

def concEs : List (AV × AV) → Option (List (Value × Value))
  | [] => some []
  | e :: r => match concV Q η e.1, concV Q η e.2, concEs r with | some a, some b, some l => some ((a, b) :: l) | _, _, _ => none

def concCh : List (AV × Bool) → Option (List PanicEntry)
  | [] => some []
  | e :: r => match concV Q η e.1, concCh r with | some a, some l => some (⟨a, e.2, false⟩ :: l) | _, _ => none

/-- what stands for the values that are not told -/
def str3 (a b c : Int) : Value := .string ⟨#[UInt8.ofNat a.toNat, UInt8.ofNat b.toNat, UInt8.ofNat c.toNat]⟩
def QOk : Prop := (∀ i, (Q i).oneCell' = true) ∧ (∀ i, i < 16 → i ≠ 7 → ∃ n : Int, Q i = .int .i64 n ∧ (∀ m, qLo i = some m → m ≤ n) ∧ (∀ m, qHi i = some m → n ≤ m) ∧ (∀ m, qMod i = some m → n.tmod 4 = (m : Int))) ∧
  (∀ c, c < 48 → ∃ n : Int, Q (16 + 2 * c) = .int .u8 n ∧ Q (16 + 2 * c + 1) = .int .i64 n ∧ 0 ≤ n ∧ n ≤ 255 ∧ (c % 16 < qbM (c / 16) → n.tmod (qbM (c / 16) : Int) = ((c % 16 : Nat) : Int))) ∧
  ∀ m n : Nat, m < 256 → n < 256 → ∃ x : Int, Q 46 = .int .u8 x ∧ Q (200 + (256 * m + n) * 2) = str3 m x n ∧ Q (200 + (256 * m + n) * 2 + 1) = str3 m n x

/-- the slots that are known hold what they should -/
def TmRel (T : Tr AV) (arr : Array Value) : Prop := ∀ t v, T.get t = some v → ∃ x, arr[t]? = some x ∧ concV Q η v = some x
end

/-- more is known -/
def Ext (η η' : Env) : Prop := ∀ id e, η id = some e → η' id = some e

theorem Ext.refl (η : Env) : Ext η η := fun _ _ h => h
theorem Ext.trans {a b c : Env} (h : Ext a b) (h' : Ext b c) : Ext a c := fun id e x => h' id e (h id e x)

section
variable {Q : Nat → Value} {η η' : Env}

theorem concFn_mono (hx : Ext η η') {f g : Fn} (h : concFn η f = some g) : concFn η' f = some g := by
  cases f <;> try exact h
  rename_i l
  simp only [concFn] at h ⊢
  cases e : η l with
  | none => rw [e] at h; cases h
  | some x => rw [hx _ _ e]; rw [e] at h; exact h

mutual
theorem concV_mono (hx : Ext η η') : ∀ (v : AV) {x : Value}, concV Q η v = some x → concV Q η' v = some x
  | .bool _, _, h | .int _ _, _, h | .str _ _, _, h | .np, _, h | .ns, _, h | .nm, _, h | .nf, _, h | .ni, _, h | .opq _, _, h => h
  | .ptr id _, _, h | .sl id _ _ _, _, h | .su id _ _ _, _, h | .es id, _, h | .map id, _, h => by
    simp only [concV] at h ⊢
    cases e : η id with
    | none => rw [e] at h; cases h
    | some y => rw [hx _ _ e]; rw [e] at h; exact h
  | .func fn a b, x, h => by
    simp only [concV] at h ⊢
    cases e1 : concFn η fn with
    | none => rw [e1] at h; cases h
    | some f =>
      rw [e1] at h; rw [concFn_mono hx e1]
      cases e2 : concVs Q η a with
      | none => rw [e2] at h; cases h
      | some l =>
        rw [e2] at h; rw [concVs_mono hx a e2]
        cases e3 : concVs Q η b with
        | none => rw [e3] at h; cases h
        | some m => rw [e3] at h; rw [concVs_mono hx b e3]; exact h
  | .iface t v, x, h => by
    simp only [concV] at h ⊢
    cases e : concV Q η v with
    | none => rw [e] at h; cases h
    | some y => rw [concV_mono hx v e]; rw [e] at h; exact h
  | .agg cs, x, h => by
    simp only [concV] at h ⊢
    cases e : concVs Q η cs with
    | none => rw [e] at h; cases h
    | some y => rw [concVs_mono hx cs e]; rw [e] at h; exact h
  | .tup cs, x, h => by
    simp only [concV] at h ⊢
    cases e : concVs Q η cs with
    | none => rw [e] at h; cases h
    | some y => rw [concVs_mono hx cs e]; rw [e] at h; exact h
theorem concVs_mono (hx : Ext η η') : ∀ (l : List AV) {xs : List Value}, concVs Q η l = some xs → concVs Q η' l = some xs
  | [], _, h => h
  | v :: r, xs, h => by
    simp only [concVs] at h ⊢
    cases e : concV Q η v with
    | none => rw [e] at h; cases h
    | some y =>
      rw [e] at h; rw [concV_mono hx v e]
      cases e2 : concVs Q η r with
      | none => rw [e2] at h; cases h
      | some m => rw [e2] at h; rw [concVs_mono hx r e2]; exact h
end

theorem concVs_cons {v : AV} {r : List AV} {xs : List Value} (h : concVs Q η (v :: r) = some xs) :
    ∃ x l, xs = x :: l ∧ concV Q η v = some x ∧ concVs Q η r = some l := by
  simp only [concVs] at h
  cases e : concV Q η v with
  | none => rw [e] at h; cases h
  | some y =>
    rw [e] at h
    cases e2 : concVs Q η r with
    | none => rw [e2] at h; cases h
    | some m => rw [e2] at h; cases h; exact ⟨y, m, rfl, rfl, rfl⟩

theorem concVs_mk {v : AV} {r : List AV} {x : Value} {l : List Value} (h1 : concV Q η v = some x) (h2 : concVs Q η r = some l) : concVs Q η (v :: r) = some (x :: l) := by
  simp only [concVs, h1, h2]

theorem concVs_length : ∀ {l : List AV} {xs : List Value}, concVs Q η l = some xs → xs.length = l.length
  | [], _, h => by cases h; rfl
  | _ :: _, _, h => by obtain ⟨x, m, rfl, _, h2⟩ := concVs_cons h; simp [concVs_length h2]

theorem concVs_get : ∀ {l : List AV} {xs : List Value}, concVs Q η l = some xs → ∀ (i : Nat) (v : AV), l[i]? = some v → ∃ x, xs[i]? = some x ∧ concV Q η v = some x
  | [], _, _, i, v, hv => by simp at hv
  | u :: r, _, h, i, v, hv => by
    obtain ⟨x, m, rfl, h1, h2⟩ := concVs_cons h
    cases i with
    | zero => simp at hv; subst hv; exact ⟨x, by simp, h1⟩
    | succ i => simp at hv; obtain ⟨y, hy, hc⟩ := concVs_get h2 i v hv; exact ⟨y, by simpa using hy, hc⟩

theorem concVs_append : ∀ {a b : List AV} {xs ys : List Value}, concVs Q η a = some xs → concVs Q η b = some ys → concVs Q η (a ++ b) = some (xs ++ ys)
  | [], _, _, _, h1, h2 => by cases h1; exact h2
  | u :: r, b, _, ys, h1, h2 => by
    obtain ⟨x, m, rfl, h3, h4⟩ := concVs_cons h1
    exact concVs_mk h3 (concVs_append h4 h2)

theorem concVs_of_get : ∀ {l : List AV} (f : Nat → Option Value), (∀ (i : Nat) (v : AV), l[i]? = some v → ∃ x, f i = some x ∧ concV Q η v = some x) →
    ∃ xs, concVs Q η l = some xs ∧ ∀ i, i < l.length → xs[i]? = f i
  | [], _, _ => ⟨[], rfl, fun i hi => by simp at hi⟩
  | u :: r, f, h => by
    obtain ⟨x, hx, hc⟩ := h 0 u (by simp)
    obtain ⟨xs, h1, h2⟩ := concVs_of_get (l := r) (fun i => f (i + 1)) (fun i v hv => h (i + 1) v (by simpa using hv))
    refine ⟨x :: xs, concVs_mk hc h1, fun i hi => ?_⟩
    cases i with
    | zero => simpa using hx.symm
    | succ i => simpa using h2 i (by simpa using hi)

theorem concDf_mono (hx : Ext η η') {d : ADf} {x : Deferred} (h : concDf Q η d = some x) : concDf Q η' d = some x := by
  obtain ⟨tg, args⟩ := d
  cases tg with
  | fn f cap =>
    simp only [concDf] at h ⊢
    cases e1 : concFn η f with
    | none => rw [e1] at h; cases h
    | some g =>
      rw [e1] at h; rw [concFn_mono hx e1]
      cases e2 : concVs Q η cap with
      | none => rw [e2] at h; cases h
      | some l =>
        rw [e2] at h; rw [concVs_mono hx _ e2]
        cases e3 : concVs Q η args with
        | none => rw [e3] at h; cases h
        | some m => rw [e3] at h; rw [concVs_mono hx _ e3]; exact h
  | col id =>
    simp only [concDf] at h ⊢
    cases e : η id with
    | none => rw [e] at h; cases h
    | some y => rw [hx _ _ e]; rw [e] at h; exact h

theorem concDfs_mono (hx : Ext η η') : ∀ {l : List ADf} {xs : List Deferred}, concDfs Q η l = some xs → concDfs Q η' l = some xs
  | [], _, h => h
  | d :: r, xs, h => by
    simp only [concDfs] at h ⊢
    cases e : concDf Q η d with
    | none => rw [e] at h; cases h
    | some y =>
      rw [e] at h; rw [concDf_mono hx e]
      cases e2 : concDfs Q η r with
      | none => rw [e2] at h; cases h
      | some m => rw [e2] at h; rw [concDfs_mono hx e2]; exact h

theorem concEs_mono (hx : Ext η η') : ∀ {l : List (AV × AV)} {xs : List (Value × Value)}, concEs Q η l = some xs → concEs Q η' l = some xs
  | [], _, h => h
  | d :: r, xs, h => by
    simp only [concEs] at h ⊢
    cases e : concV Q η d.1 with
    | none => rw [e] at h; cases h
    | some y =>
      rw [e] at h; rw [concV_mono hx _ e]
      cases e3 : concV Q η d.2 with
      | none => rw [e3] at h; cases h
      | some z =>
        rw [e3] at h; rw [concV_mono hx _ e3]
        cases e2 : concEs Q η r with
        | none => rw [e2] at h; cases h
        | some m => rw [e2] at h; rw [concEs_mono hx e2]; exact h

theorem concCh_mono (hx : Ext η η') : ∀ {l : List (AV × Bool)} {xs : List PanicEntry}, concCh Q η l = some xs → concCh Q η' l = some xs
  | [], _, h => h
  | d :: r, xs, h => by
    simp only [concCh] at h ⊢
    cases e : concV Q η d.1 with
    | none => rw [e] at h; cases h
    | some y =>
      rw [e] at h; rw [concV_mono hx _ e]
      cases e2 : concCh Q η r with
      | none => rw [e2] at h; cases h
      | some m => rw [e2] at h; rw [concCh_mono hx e2]; exact h

theorem TmRel.mono (hx : Ext η η') {T : Tr AV} {arr : Array Value} (h : TmRel Q η T arr) : TmRel Q η' T arr := fun t v ht => by
  obtain ⟨x, h1, h2⟩ := h t v ht
  exact ⟨x, h1, concV_mono hx v h2⟩

theorem TmRel.put {T : Tr AV} {arr : Array Value} (h : TmRel Q η T arr) {f d : Nat} {v : AV} {x : Value} (hd : d < arr.size) (hv : concV Q η v = some x) :
    TmRel Q η (T.put f d (some v)) (arr.setIfInBounds d x) := by
  intro t u ht
  rcases Tr.get_put f T d (some v) t u ht with ⟨rfl, e⟩ | ⟨hne, e⟩
  · cases e; exact ⟨x, by simp [hd], hv⟩
  · obtain ⟨y, h1, h2⟩ := h t u e
    exact ⟨y, by rw [Array.getElem?_setIfInBounds_ne (Ne.symm hne)]; exact h1, h2⟩

theorem TmRel.nil (arr : Array Value) : TmRel Q η .nil arr := fun t v h => by rw [Tr.get_nil] at h; cases h

/-! ## Values of the text -/
theorem bytesOf_packL (s : ByteArray) : bytesOf s.size (packL s.data.toList) = s := by
  have h := bytesL_packL s.data.toList
  have e : s.size = s.data.toList.length := Array.length_toList.symm
  unfold bytesOf
  rw [e, h]

mutual
theorem ofV_conc : ∀ (v : Value) {a : AV}, ofV v = some a → concV Q η a = some v
  | .bool b, a, h => by simp only [ofV] at h; cases h; rfl
  | .int k n, a, h => by simp only [ofV] at h; cases h; rfl
  | .string s, a, h => by
    simp only [ofV, ofBytes] at h; cases h
    have h1 := packL_lt s.data.toList
    have e : s.size = s.data.toList.length := Array.length_toList.symm
    simp only [concV]
    rw [if_pos (by rw [e]; exact h1), bytesOf_packL]
  | .pointer none, a, h => by simp only [ofV] at h; cases h; rfl
  | .pointer (some _), a, h => by cases (show (none : Option AV) = some a from h)
  | .slice none 0 0, a, h => by simp only [ofV] at h; cases h; rfl
  | .slice none (_ + 1) _, a, h => by cases (show (none : Option AV) = some a from h)
  | .slice none 0 (_ + 1), a, h => by cases (show (none : Option AV) = some a from h)
  | .slice (some _) _ _, a, h => by cases (show (none : Option AV) = some a from h)
  | .map none, a, h => by simp only [ofV] at h; cases h; rfl
  | .map (some _), a, h => by cases (show (none : Option AV) = some a from h)
  | .nilFunc, a, h => by simp only [ofV] at h; cases h; rfl
  | .nilIface, a, h => by simp only [ofV] at h; cases h; rfl
  | .iface t v, a, h => by
    simp only [ofV] at h
    cases e : ofV v with
    | none => rw [e] at h; cases h
    | some y => rw [e] at h; cases h; have q := ofV_conc v e; unfold concV; rw [q]
  | .agg ⟨cs⟩, a, h => by
    simp only [ofV] at h
    cases e : ofVs cs with
    | none => rw [e] at h; cases h
    | some y => rw [e] at h; cases h; have q := ofVs_conc cs e; unfold concV; rw [q]
  | .tuple ⟨cs⟩, a, h => by
    simp only [ofV] at h
    cases e : ofVs cs with
    | none => rw [e] at h; cases h
    | some y => rw [e] at h; cases h; have q := ofVs_conc cs e; unfold concV; rw [q]
  | .float _ _, a, h => by cases (show (none : Option AV) = some a from h)
  | .complex _ _ _, a, h => by cases (show (none : Option AV) = some a from h)
  | .chan _, a, h => by cases (show (none : Option AV) = some a from h)
  | .func _ _ _, a, h => by cases (show (none : Option AV) = some a from h)
theorem ofVs_conc : ∀ (l : List Value) {a : List AV}, ofVs l = some a → concVs Q η a = some l
  | [], a, h => by simp only [ofVs] at h; cases h; rfl
  | v :: r, a, h => by
    simp only [ofVs] at h
    cases e : ofV v with
    | none => rw [e] at h; cases h
    | some y =>
      rw [e] at h
      cases e2 : ofVs r with
      | none => rw [e2] at h; cases h
      | some m => rw [e2] at h; cases h; exact concVs_mk (ofV_conc v e) (ofVs_conc r e2)
end
end

def Q0 : Nat → Value := fun i => if i < 16 then .int .i64 (match i with | 1 => 1 | 2 => 2 | 3 => 3 | 4 => -1 | 5 => 31 | 8 => 1 | 9 => 256 | 10 => -2 | 11 => 8 | 13 => 7 | 14 => 6 | 15 => 1 | _ => 0) else
  if i < 200 then .int (if i % 2 = 0 then .u8 else .i64) (((i - 16) / 2 % 16 : Nat) : Int) else
  if i % 2 = 0 then str3 (((i - 200) / 2 / 256 : Nat)) 15 (((i - 200) / 2 % 256 : Nat)) else str3 (((i - 200) / 2 / 256 : Nat)) (((i - 200) / 2 % 256 : Nat)) 15
theorem Q0_ok : QOk Q0 := by
  refine ⟨fun i => ?_, fun i hi h7 => ?_, fun c hc => ?_, fun m n hm hn => ⟨15, ?_, ?_, ?_⟩⟩
  · unfold Q0; repeat' split
    all_goals rfl
  · have : i = 0 ∨ i = 1 ∨ i = 2 ∨ i = 3 ∨ i = 4 ∨ i = 5 ∨ i = 6 ∨ i = 8 ∨ i = 9 ∨ i = 10 ∨ i = 11 ∨ i = 12 ∨ i = 13 ∨ i = 14 ∨ i = 15 := by omega
    rcases this with rfl | rfl | rfl | rfl | rfl | rfl | rfl | rfl | rfl | rfl | rfl | rfl | rfl | rfl | rfl <;> refine ⟨_, rfl, ?_, ?_, ?_⟩ <;> intro m h <;> cases h <;> decide
  · refine ⟨((c % 16 : Nat) : Int), ?_, ?_, by omega, by omega, fun h => ?_⟩
    · unfold Q0
      rw [if_neg (by omega), if_pos (by omega), if_pos (by omega), show (16 + 2 * c - 16) / 2 = c by omega]
    · unfold Q0
      rw [if_neg (by omega), if_pos (by omega), if_neg (by omega), show (16 + 2 * c + 1 - 16) / 2 = c by omega]
    · rw [Int.tmod_eq_emod_of_nonneg (by omega)]
      exact Int.emod_eq_of_lt (by omega) (by omega)
  · unfold Q0; rw [if_neg (by omega), if_pos (by omega), if_pos (by omega)]; rfl
  · unfold Q0
    rw [if_neg (by omega), if_neg (by omega), if_pos (by omega), show (200 + (256 * m + n) * 2 - 200) / 2 / 256 = m by omega, show (200 + (256 * m + n) * 2 - 200) / 2 % 256 = n by omega]
  · unfold Q0
    rw [if_neg (by omega), if_neg (by omega), if_neg (by omega), show (200 + (256 * m + n) * 2 + 1 - 200) / 2 / 256 = m by omega, show (200 + (256 * m + n) * 2 + 1 - 200) / 2 % 256 = n by omega]

/-- a byte that is not told, and the same as an int -/
theorem QOk.byte {Q : Nat → Value} (h : QOk Q) {i : Nat} (hb : qByte i = true) : ∃ n : Int, Q i = .int (qbT i) n ∧ (qbT i = .u8 → Q (i + 1) = .int .i64 n) ∧ 0 ≤ n ∧ n ≤ 255 ∧ (qbR i < qbM (qbK i) → n.tmod (qbM (qbK i) : Int) = ((qbR i : Nat) : Int)) := by
  unfold qByte at hb
  have h1 : 16 ≤ i ∧ i < 112 := by
    cases e : Nat.ble 16 i with
    | false => rw [e] at hb; cases hb
    | true => rw [e] at hb; exact ⟨Nat.le_of_ble_eq_true e, Nat.le_of_ble_eq_true hb⟩
  obtain ⟨n, h2, h3, h4, h5, h6⟩ := h.2.2.1 ((i - 16) / 2) (by omega)
  have hK : qbK i = (i - 16) / 2 / 16 := rfl
  have hR : qbR i = (i - 16) / 2 % 16 := rfl
  refine ⟨n, ?_, ?_, h4, h5, by rw [hK, hR]; exact h6⟩
  · by_cases e : (i - 16) % 2 = 0
    · have : qbT i = .u8 := by unfold qbT; show (match (i - 16) % 2 with | 0 => IntKind.u8 | _ => .i64) = _; rw [e]; rfl
      rw [this, ← h2]; congr 1; omega
    · have e1 : (i - 16) % 2 = 1 := by omega
      have : qbT i = .i64 := by unfold qbT; show (match (i - 16) % 2 with | 0 => IntKind.u8 | _ => .i64) = _; rw [e1]; rfl
      rw [this, ← h3]; congr 1; omega
  · intro ht
    have e : (i - 16) % 2 = 0 := by
      rcases Nat.mod_two_eq_zero_or_one (i - 16) with e | e
      · exact e
      · exfalso
        have : qbT i = .i64 := by unfold qbT; show (match (i - 16) % 2 with | 0 => IntKind.u8 | _ => .i64) = _; rw [e]; rfl
        rw [this] at ht; cases ht
    rw [← h3]; congr 1; omega

/-- an int that is a byte, and the byte -/
theorem QOk.back {Q : Nat → Value} (h : QOk Q) {i : Nat} (hb : qByte i = true) (ht : qbT i = .i64) : ∃ n : Int, Q i = .int .i64 n ∧ Q (i - 1) = .int .u8 n ∧ 0 ≤ n ∧ n ≤ 255 := by
  unfold qByte at hb
  have h1 : 16 ≤ i ∧ i < 112 := by
    cases e : Nat.ble 16 i with
    | false => rw [e] at hb; cases hb
    | true => rw [e] at hb; exact ⟨Nat.le_of_ble_eq_true e, Nat.le_of_ble_eq_true hb⟩
  obtain ⟨n, h2, h3, h4, h5, _⟩ := h.2.2.1 ((i - 16) / 2) (by omega)
  have e : (i - 16) % 2 = 1 := by
    rcases Nat.mod_two_eq_zero_or_one (i - 16) with e | e
    · exfalso
      have : qbT i = .u8 := by unfold qbT; show (match (i - 16) % 2 with | 0 => IntKind.u8 | _ => .i64) = _; rw [e]; rfl
      rw [this] at ht; cases ht
    · exact e
  refine ⟨n, ?_, ?_, h4, h5⟩
  · rw [← h3]; congr 1; omega
  · rw [← h2]; congr 1; omega

end Go.Sx
