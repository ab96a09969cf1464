/- The orders that a region may draw. -/
import Derived.Test.YtlfkdmhllolmmaaGreatDoorSxRegion
namespace Go.Sx
open Go

theorem countP_lt {α : Type} {p q : α → Bool} : ∀ {l : List α}, (∀ x ∈ l, q x = true → p x = true) → (∃ x ∈ l, p x = true ∧ q x = false) → l.countP q < l.countP p
  | [], _, ⟨x, hx, _⟩ => by cases hx
  | y :: r, h, ⟨x, hx, h1, h2⟩ => by
    have hle : r.countP q ≤ r.countP p := List.countP_mono_left fun z hz => h z (by simp [hz])
    rw [List.countP_cons, List.countP_cons]
    rcases List.mem_cons.1 hx with rfl | hx
    · simp only [h1, h2, if_true]; simp; omega
    · have := countP_lt (l := r) (fun z hz => h z (by simp [hz])) ⟨x, hx, h1, h2⟩
      have hy := h y (by simp)
      cases hq : q y with
      | true => rw [hy hq]; simp; omega
      | false => cases p y <;> simp <;> omega

section
variable {ops : Array Oper}

theorem mem_ready {L : Array Bool} {i : Nat} : i ∈ Region.ready .any ops L ↔
    i < ops.size ∧ L.getD i true = false ∧ ∃ o, ops[i]? = some o ∧ ∀ e ∈ o.after.toList, bindsA e = true → L.getD e.on false = true := by
  unfold Region.ready
  rw [List.mem_filter, List.mem_range]
  constructor
  · rintro ⟨h1, h2⟩
    rw [Bool.and_eq_true] at h2
    obtain ⟨h2, h3⟩ := h2
    refine ⟨h1, by simpa using h2, ?_⟩
    cases ho : ops[i]? with
    | none => rw [ho] at h3; simp at h3
    | some o =>
      refine ⟨o, rfl, fun e he hb => ?_⟩
      rw [ho] at h3
      simp only [Option.map_some, Option.getD_some] at h3
      rw [← Array.all_toList, List.all_eq_true] at h3
      have := h3 e he
      rw [← bindsA_eq, hb] at this
      simpa using this
  · rintro ⟨h1, h2, o, ho, h3⟩
    refine ⟨h1, ?_⟩
    rw [Bool.and_eq_true]
    refine ⟨by rw [h2]; rfl, ?_⟩
    rw [ho]
    simp only [Option.map_some, Option.getD_some]
    rw [← Array.all_toList, List.all_eq_true]
    intro e he
    rw [← bindsA_eq]
    cases hb : bindsA e with
    | false => rfl
    | true => simpa using h3 e he hb

theorem go_succ (fuel t : Nat) (L : Array Bool) : Region.linearise.go .any ops (fuel + 1) t L [] =
    (match (Region.ready .any ops L)[t % (Region.ready .any ops L).length]? with
     | some i => i :: Region.linearise.go .any ops fuel (t / (Region.ready .any ops L).length) (L.setIfInBounds i true) []
     | none => []) := by
  simp only [Region.linearise.go]
  change (match (Region.ready .any ops L)[t % (Region.ready .any ops L).length]? with
      | some i => Region.linearise.go .any ops fuel (t / (Region.ready .any ops L).length) (L.setIfInBounds i true) [i]
      | none => [].reverse) = _
  cases (Region.ready .any ops L)[t % (Region.ready .any ops L).length]? with
  | none => rfl
  | some i => simp only []; rw [linearise_go_acc]; rfl

theorem getD_set {L : Array Bool} {i j : Nat} {d : Bool} (hi : i < L.size) : (L.setIfInBounds i true).getD j d = if j = i then true else L.getD j d := by
  rw [Array.getD_eq_getD_getElem?, Array.getD_eq_getD_getElem?, Array.getElem?_setIfInBounds]
  by_cases h : i = j
  · subst h; simp [hi]
  · rw [if_neg h, if_neg (Ne.symm h)]

theorem go_spec : ∀ (fuel t : Nat) (L : Array Bool), L.size = ops.size → (Region.linearise.go .any ops fuel t L []).Nodup ∧ (∀ j ∈ Region.linearise.go .any ops fuel t L [], j < ops.size ∧ L.getD j true = false) ∧
    ∀ pre j post, Region.linearise.go .any ops fuel t L [] = pre ++ j :: post → ∀ o, ops[j]? = some o → ∀ e ∈ o.after.toList, bindsA e = true → L.getD e.on false = true ∨ e.on ∈ pre := by
  intro fuel
  induction fuel with
  | zero =>
    intro t L _
    simp only [Region.linearise.go]
    exact ⟨by simp, by simp, fun pre j post h => by simp at h⟩
  | succ fuel ih =>
    intro t L hL
    rw [go_succ]
    cases hi : (Region.ready .any ops L)[t % (Region.ready .any ops L).length]? with
    | none => exact ⟨by simp, by simp, fun pre j post h => by simp at h⟩
    | some i =>
      simp only []
      obtain ⟨h1, h2, o, h3, h4⟩ := mem_ready.1 (List.mem_of_getElem? hi)
      obtain ⟨g1, g2, g3⟩ := ih (t / (Region.ready .any ops L).length) (L.setIfInBounds i true) (by simpa using hL)
      have hiL : i < L.size := by omega
      refine ⟨List.nodup_cons.2 ⟨fun hm => ?_, g1⟩, fun j hj => ?_, fun pre j post h o' ho' e he hb => ?_⟩
      · have := (g2 i hm).2
        rw [getD_set hiL, if_pos rfl] at this; cases this
      · rcases List.mem_cons.1 hj with rfl | hj
        · exact ⟨h1, h2⟩
        · obtain ⟨g4, g5⟩ := g2 j hj
          rw [getD_set hiL] at g5
          by_cases hji : j = i
          · rw [if_pos hji] at g5; cases g5
          · rw [if_neg hji] at g5; exact ⟨g4, g5⟩
      · cases pre with
        | nil =>
          simp only [List.nil_append, List.cons.injEq] at h
          obtain ⟨rfl, _⟩ := h
          rw [h3] at ho'; cases ho'
          exact .inl (h4 e he hb)
        | cons p pre =>
          simp only [List.cons_append, List.cons.injEq] at h
          obtain ⟨rfl, h⟩ := h
          rcases g3 pre j post h o' ho' e he hb with g6 | g6
          · rw [getD_set hiL] at g6
            by_cases hei : e.on = i
            · exact .inr (by simp [hei])
            · rw [if_neg hei] at g6; exact .inl g6
          · exact .inr (by simp [g6])

theorem go_all (hE : ∀ (j : Nat) (o : Oper), ops[j]? = some o → ∀ e ∈ o.after.toList, bindsA e = true → e.on < j) : ∀ (fuel t : Nat) (L : Array Bool), L.size = ops.size → (List.range ops.size).countP (fun i => !L.getD i true) ≤ fuel →
    ∀ j, j < ops.size → L.getD j true = false → j ∈ Region.linearise.go .any ops fuel t L [] := by
  intro fuel
  induction fuel with
  | zero =>
    intro t L _ hc j hj hl
    have h0 : (List.range ops.size).countP (fun i => !L.getD i true) = 0 := by omega
    rw [List.countP_eq_zero] at h0
    exact absurd (by rw [hl]; rfl) (h0 j (List.mem_range.2 hj))
  | succ fuel ih =>
    intro t L hL hc j hj hl
    have hne : Region.ready .any ops L ≠ [] := by
      have : ∀ m, m < ops.size → L.getD m true = false → ∃ i, i ∈ Region.ready .any ops L := by
        intro m
        induction m using Nat.strongRecOn with
        | _ m IH =>
          intro hm hlm
          have ho : ops[m]? = some ops[m] := Array.getElem?_eq_getElem hm
          by_cases hall : ∀ e ∈ (ops[m]).after.toList, bindsA e = true → L.getD e.on false = true
          · exact ⟨m, mem_ready.2 ⟨hm, hlm, _, ho, hall⟩⟩
          · simp only [Classical.not_forall] at hall
            obtain ⟨e, he, hb, hf⟩ := hall
            have hlt := hE m _ ho e he hb
            refine IH e.on hlt (by omega) ?_
            have heL : e.on < L.size := by omega
            rw [Array.getD_eq_getD_getElem?, Array.getElem?_eq_getElem heL] at hf ⊢
            simpa using hf
      obtain ⟨i, hi⟩ := this j hj hl
      intro e; rw [e] at hi; cases hi
    rw [go_succ]
    have hlen : 0 < (Region.ready .any ops L).length := List.length_pos_iff.2 hne
    have hlt : t % (Region.ready .any ops L).length < (Region.ready .any ops L).length := Nat.mod_lt _ hlen
    rw [List.getElem?_eq_getElem hlt]
    simp only []
    generalize hi : (Region.ready .any ops L)[t % (Region.ready .any ops L).length] = i
    obtain ⟨h1, h2, o, h3, h4⟩ := mem_ready.1 (by rw [← hi]; exact List.getElem_mem hlt : i ∈ Region.ready .any ops L)
    have hiL : i < L.size := by omega
    by_cases hji : j = i
    · simp [hji]
    · refine List.mem_cons.2 (.inr (ih _ _ (by simpa using hL) ?_ j hj (by rw [getD_set hiL, if_neg hji]; exact hl)))
      have := countP_lt (p := fun i => !L.getD i true) (q := fun m => !(L.setIfInBounds i true).getD m true) (l := List.range ops.size) (fun m _ hm => by
          rw [getD_set hiL] at hm
          by_cases hmi : m = i
          · simp [hmi] at hm
          · rw [if_neg hmi] at hm; exact hm) ⟨i, List.mem_range.2 h1, by rw [h2]; rfl, by rw [getD_set hiL, if_pos rfl]; rfl⟩
      omega

/-! ## what is checked -/
theorem edgesOk_spec {j : Nat} : ∀ {es : List Edge}, edgesOk j es = true → ∀ e ∈ es, bindsA e = true → e.on < j
  | [], _, e, he, _ => by cases he
  | a :: r, h, e, he, hb => by
    unfold edgesOk at h
    cases ha : bindsA a with
    | true =>
      rw [ha, sel_true] at h
      have ⟨h1, h2⟩ := selF h
      rcases List.mem_cons.1 he with rfl | he
      · exact blt_iff.1 h1
      · exact edgesOk_spec h2 e he hb
    | false =>
      rw [ha, sel_false] at h
      rcases List.mem_cons.1 he with rfl | he
      · rw [ha] at hb; cases hb
      · exact edgesOk_spec h e he hb

theorem predOf_spec {t : Tmp} : ∀ {es : List Edge}, predOf ops t es = true → ∃ e ∈ es, bindsA e = true ∧ dstOf ops e.on = some t
  | [], h => by cases h
  | a :: r, h => by
    unfold predOf at h
    have rest : predOf ops t r = true → ∃ e ∈ a :: r, bindsA e = true ∧ dstOf ops e.on = some t := fun h => by
      obtain ⟨e, h1, h2⟩ := predOf_spec h; exact ⟨e, by simp [h1], h2⟩
    cases ha : bindsA a with
    | true =>
      rw [ha, sel_true] at h
      cases hd : dstOf ops a.on with
      | none => rw [hd] at h; exact rest h
      | some d =>
        rw [hd] at h
        simp only at h
        cases hb : Nat.beq d t with
        | true => exact ⟨a, by simp, ha, by rw [hd, beq_iff.1 hb]⟩
        | false => rw [hb, sel_false] at h; exact rest h
    | false => rw [ha, sel_false] at h; exact rest h

theorem isPred_spec {g : Nat} : ∀ {es : List Edge}, isPred g es = true → ∃ e ∈ es, bindsA e = true ∧ e.on = g
  | [], h => by cases h
  | a :: r, h => by
    unfold isPred at h
    have rest : isPred g r = true → ∃ e ∈ a :: r, bindsA e = true ∧ e.on = g := fun h => by
      obtain ⟨e, h1, h2⟩ := isPred_spec h; exact ⟨e, by simp [h1], h2⟩
    cases ha : bindsA a with
    | true =>
      rw [ha, sel_true] at h
      cases hb : Nat.beq a.on g with
      | true => exact ⟨a, by simp, ha, beq_iff.1 hb⟩
      | false => rw [hb, sel_false] at h; exact rest h
    | false => rw [ha, sel_false] at h; exact rest h

theorem opndOk_spec {mask : Nat} {es : List Edge} : ∀ {xs : List Operand}, opndOk ops mask es xs = true → ∀ t, .tmp t ∈ xs → bit mask t = false ∨ ∃ e ∈ es, bindsA e = true ∧ dstOf ops e.on = some t
  | [], _, t, ht => by cases ht
  | x :: r, h, t, ht => by
    have split : ∀ u, x = .tmp u → (bit mask u = false ∨ ∃ e ∈ es, bindsA e = true ∧ dstOf ops e.on = some u) ∧ opndOk ops mask es r = true := fun u hu => by
      subst hu
      unfold opndOk at h
      cases hb : bit mask u with
      | false => rw [hb, sel_false] at h; exact ⟨.inl rfl, h⟩
      | true =>
        rw [hb, sel_true] at h
        have ⟨h1, h2⟩ := selF h
        exact ⟨.inr (predOf_spec h1), h2⟩
    rcases List.mem_cons.1 ht with h1 | h1
    · exact (split t h1.symm).1
    · refine opndOk_spec (xs := r) ?_ t h1
      cases x with
      | tmp u => exact (split u rfl).2
      | const v => exact h
      | global g => exact h
      | func f => exact h

theorem dstMask_spec : ∀ {l : List Oper} {m m' : Nat}, dstMask l m = some m' → (∀ d, bit m d = true → bit m' d = true) ∧ (∀ (j : Nat) (o : Oper) (d : Nat), l[j]? = some o → o.dst = some d → bit m' d = true ∧ bit m d = false) ∧
    ∀ (i j : Nat) (a b : Oper) (d : Nat), l[i]? = some a → l[j]? = some b → a.dst = some d → b.dst = some d → i = j
  | [], m, m', h => by cases h; exact ⟨fun d hd => hd, fun j o d ho => by simp at ho, fun i j a b d ha => by simp at ha⟩
  | o :: r, m, m', h => by
    unfold dstMask at h
    cases hd : o.dst with
    | none =>
      rw [hd] at h
      obtain ⟨h1, h2, h3⟩ := dstMask_spec (l := r) h
      refine ⟨h1, fun j u d hu hud => ?_, fun i j a b d ha hb had hbd => ?_⟩
      · cases j with
        | zero => simp at hu; subst hu; rw [hd] at hud; cases hud
        | succ j => exact h2 j u d (by simpa using hu) hud
      · cases i with
        | zero => simp at ha; subst ha; rw [hd] at had; cases had
        | succ i =>
          cases j with
          | zero => simp at hb; subst hb; rw [hd] at hbd; cases hbd
          | succ j => rw [h3 i j a b d (by simpa using ha) (by simpa using hb) had hbd]
    | some u =>
      rw [hd] at h
      simp only at h
      cases hb : bit m u with
      | true => rw [hb, sel_true] at h; cases h
      | false =>
        rw [hb, sel_false] at h
        obtain ⟨h1, h2, h3⟩ := dstMask_spec (l := r) h
        have hu : bit m' u = true := h1 u (by rw [bit_add, beq_iff.2 rfl]; simp)
        refine ⟨fun d hdd => h1 d (by rw [bit_add, hdd]; rfl), fun j p d hp hpd => ?_, fun i j a b d ha hb' had hbd => ?_⟩
        · cases j with
          | zero => simp at hp; subst hp; rw [hd] at hpd; cases hpd; exact ⟨hu, hb⟩
          | succ j =>
            obtain ⟨h4, h5⟩ := h2 j p d (by simpa using hp) hpd
            rw [bit_add, Bool.or_eq_false_iff] at h5
            exact ⟨h4, h5.1⟩
        · have clash : ∀ (j : Nat) (b : Oper), r[j]? = some b → b.dst = some u → False := fun j b hj hbu => by
            have := (h2 j b u hj hbu).2
            rw [bit_add, beq_iff.2 rfl] at this
            simp at this
          cases i with
          | zero =>
            simp at ha; subst ha
            rw [hd] at had; cases had
            cases j with
            | zero => rfl
            | succ j => exact (clash j b (by simpa using hb') hbd).elim
          | succ i =>
            cases j with
            | zero =>
              simp at hb'; subst hb'
              rw [hd] at hbd; cases hbd
              exact (clash i a (by simpa using ha) had).elim
            | succ j => rw [h3 i j a b d (by simpa using ha) (by simpa using hb') had hbd]

theorem lightMask_spec : ∀ {l : List Oper} {m : Nat}, (∀ d, bit m d = true → bit (lightMask l m) d = true) ∧ ∀ (j : Nat) (o : Oper) (d : Nat), l[j]? = some o → o.dst = some d → lightQ o.op = true → bit (lightMask l m) d = true
  | [], m => ⟨fun _ h => h, fun j o d h => by simp at h⟩
  | o :: r, m => by
    unfold lightMask
    cases hd : o.dst with
    | none =>
      obtain ⟨h1, h2⟩ := lightMask_spec (l := r) (m := m)
      refine ⟨h1, fun j u d hu hud hl => ?_⟩
      cases j with
      | zero => simp at hu; subst hu; rw [hd] at hud; cases hud
      | succ j => exact h2 j u d (by simpa using hu) hud hl
    | some t =>
      simp only
      cases hq : lightQ o.op with
      | false =>
        rw [sel_false]
        obtain ⟨h1, h2⟩ := lightMask_spec (l := r) (m := m)
        refine ⟨h1, fun j u d hu hud hl => ?_⟩
        cases j with
        | zero => simp at hu; subst hu; rw [hq] at hl; cases hl
        | succ j => exact h2 j u d (by simpa using hu) hud hl
      | true =>
        rw [sel_true]
        obtain ⟨h1, h2⟩ := lightMask_spec (l := r) (m := addBit m t)
        refine ⟨fun d hdd => h1 d (by rw [bit_add, hdd]; rfl), fun j u d hu hud hl => ?_⟩
        cases j with
        | zero => simp at hu; subst hu; rw [hd] at hud; cases hud; exact h1 t (by rw [bit_add, beq_iff.2 rfl]; simp)
        | succ j => exact h2 j u d (by simpa using hu) hud hl

theorem opsOk_spec {mask : Nat} : ∀ {l : List Oper} {j : Nat}, opsOk ops mask l j = true → ∀ (i : Nat) (o : Oper), l[i]? = some o → edgesOk (j + i) o.after.toList = true ∧ opndOk ops mask o.after.toList (opndL o.op) = true ∧ guardOk o = true
  | [], _, _, i, o, ho => by simp at ho
  | a :: r, j, h, i, o, ho => by
    unfold opsOk at h
    have ⟨h1, h2⟩ := selF h
    have ⟨h3, h4⟩ := selF h2
    have ⟨h5, h6⟩ := selF h4
    cases i with
    | zero => simp at ho; subst ho; exact ⟨h1, h3, h5⟩
    | succ i =>
      have := opsOk_spec h6 i o (by simpa using ho)
      rw [show Nat.succ j + i = j + (i + 1) by omega] at this
      exact this

structure RegOk (ops : Array Oper) : Prop where
  edges : ∀ (j : Nat) (o : Oper), ops[j]? = some o → ∀ e ∈ o.after.toList, bindsA e = true → e.on < j
  opnds : ∀ (j : Nat) (o : Oper), ops[j]? = some o → ∀ t, .tmp t ∈ opndL o.op → ∀ i, dstOf ops i = some t → (∃ u, ops[i]? = some u ∧ lightQ u.op = true) → ∃ e ∈ o.after.toList, bindsA e = true ∧ e.on = i
  guard : ∀ (j : Nat) (o : Oper) (g : Nat × Bool), ops[j]? = some o → o.guard = some g → ∃ e ∈ o.after.toList, bindsA e = true ∧ e.on = g.1
  once : ∀ (i j d : Nat), dstOf ops i = some d → dstOf ops j = some d → i = j

theorem dregOk_spec (h : dregOk ops = true) : RegOk ops := by
  unfold dregOk at h
  cases hm : dstMask ops.toList (nat_lit 0) with
  | none => rw [hm] at h; cases h
  | some m =>
    rw [hm] at h
    simp only at h
    obtain ⟨_, h2, h3⟩ := dstMask_spec hm
    have h4 := opsOk_spec h
    have dst : ∀ (i d : Nat), dstOf ops i = some d → ∃ o, ops.toList[i]? = some o ∧ o.dst = some d := fun i d hi => by
      rw [dstOf_eq] at hi
      cases ho : ops[i]? with
      | none => rw [ho] at hi; cases hi
      | some o => rw [ho] at hi; exact ⟨o, by simpa using ho, hi⟩
    have once : ∀ (i j d : Nat), dstOf ops i = some d → dstOf ops j = some d → i = j := fun i j d hi hj => by
      obtain ⟨a, ha, had⟩ := dst i d hi
      obtain ⟨b, hb, hbd⟩ := dst j d hj
      exact h3 i j a b d ha hb had hbd
    refine ⟨fun j o ho e he hb => ?_, fun j o ho t ht i hi hl => ?_, fun j o g ho hg => ?_, once⟩
    · have := (h4 j o (by simpa using ho)).1
      rw [show nat_lit 0 + j = j from Nat.zero_add j] at this
      exact edgesOk_spec this e he hb
    · obtain ⟨a, ha, had⟩ := dst i t hi
      rcases opndOk_spec (h4 j o (by simpa using ho)).2.1 t ht with h5 | ⟨e, he, hb, hd⟩
      · obtain ⟨u, hu, hul⟩ := hl
        have : u = a := by
          have h6 : ops.toList[i]? = some u := by simpa using hu
          rw [ha] at h6; exact (Option.some.inj h6).symm
        subst this
        rw [(lightMask_spec (l := ops.toList) (m := nat_lit 0)).2 i u t ha had hul] at h5; cases h5
      · exact ⟨e, he, hb, once _ _ t hd hi⟩
    · have := (h4 j o (by simpa using ho)).2.2
      unfold guardOk at this
      rw [hg] at this
      exact isPred_spec this

/-- the start of a region -/
theorem DR.start {η : Env} (h : dregOk ops = true) (t : Nat) : DR η ops 0 [] (Region.schedule true ops t) := by
  have R := dregOk_spec h
  have hs : Region.schedule true ops t = Region.linearise.go .any ops ops.size t (Array.replicate ops.size false) [] := by simp [Region.schedule, Region.linearise]
  rw [hs]
  have hsz : (Array.replicate ops.size false).size = ops.size := by simp
  obtain ⟨h1, h2, h3⟩ := go_spec (ops := ops) ops.size t _ hsz
  have hf : ∀ j, (Array.replicate ops.size false).getD j false = false := fun j => by
    rw [Array.getD_eq_getD_getElem?, Array.getElem?_replicate]; split <;> rfl
  have hall : ∀ j, j < ops.size → j ∈ Region.linearise.go .any ops ops.size t (Array.replicate ops.size false) [] := fun j hj =>
    go_all R.edges ops.size t _ hsz (by have := List.countP_le_length (p := fun i => !(Array.replicate ops.size false).getD i true) (l := List.range ops.size); simpa using this) j hj (by
      rw [Array.getD_eq_getD_getElem?, Array.getElem?_replicate, if_pos hj]; rfl)
  refine ⟨h, h1, fun j hj => (h2 j hj).1, fun pre j post he o ho e hee hb => ?_, fun i o ho hi => ?_, fun j hj hjr => absurd (hall j hj) hjr, fun j _ o _ _ => bit_zero j, fun j _ hb => (by rw [bit_zero] at hb; cases hb), by simp, by simp⟩
  · rcases h3 pre j post he o ho e hee hb with h4 | h4
    · rw [hf] at h4; cases h4
    · intro h5
      rw [he] at h1
      exact (List.nodup_append.1 h1).2.2 _ h4 _ h5 rfl
  · exact absurd (hall i (Array.getElem?_eq_some_iff.1 ho).1) hi

end
end Go.Sx
