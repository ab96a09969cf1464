/- Going over a map: what is given next, and again. -/
import Derived.Test.YtlfkdmhllolmmaaGreatDoorSxOps10
import Derived.Laws.IdiomRangeMap
namespace Go.Sx
open Go MapKept

theorem run_next_at {P : Program} (w : World) (ty : TypeId) {r bm since : Nat} {seen : Array Nat} {es : Array MapEntry} (hr : w.heap[r]? = some (.mapIter (some bm) since seen since)) (hb : w.heap[bm]? = some (.map es since))
    (hold : ∀ x ∈ es.toList, x.born < since) :
    (leftOf es seen = #[] ∧ (Instr.next (.pointer (some ⟨r, 0, none⟩)) false ty).run P w = .ok (.tuple #[.bool false]) w) ∨
    ∃ (e : MapEntry) (w1 : World), e ∈ (leftOf es seen).toList ∧ w1.heap = w.heap.setIfInBounds r (.mapIter (some bm) since (seen.push e.born) since) ∧ w1.os = w.os ∧ w1.output = w.output ∧
      (Instr.next (.pointer (some ⟨r, 0, none⟩)) false ty).run P w = .ok (.tuple #[.bool true, e.key, e.val]) w1 := by
  simp only [Instr.next, getObj, Sem.run_bind, Sem.run, hr, hb, Result.andThen, next_test_false seen es since since hold (Nat.le_refl _), Bool.false_eq_true, if_false]
  unfold leftOf
  have hmem : ∀ x ∈ (Array.filter (fun e => !seen.contains e.born) es).toList, x.born < since := fun x hx => hold x (by simp at hx ⊢; exact hx.1)
  generalize Array.filter (fun e => !seen.contains e.born) es = L at hmem ⊢
  have e1 : L.filter (fun x => decide (x.born < since)) = L := Array.filter_eq_self.2 (fun x hx => by simpa using hmem x (by simpa using hx))
  have e2 : L.filter (fun x => decide (x.born ≥ since)) = #[] := by
    rw [Array.filter_eq_empty_iff]
    intro x hx
    have := hmem x (by simpa using hx)
    simp
    omega
  simp only [e1, e2, Array.append_empty]
  by_cases h0 : L.size = 0
  · left
    have : L = #[] := Array.eq_empty_of_size_eq_zero h0
    subst this
    refine ⟨rfl, ?_⟩
    simp [choose, Sem.run, Question.forced]
  · right
    have hne : L.isEmpty = false := by simp [Array.isEmpty, h0]
    simp only [hne, Bool.false_eq_true, if_false, Array.empty_append, Array.size_map]
    have hch : ∃ (j : Nat) (w1 : World), j < L.size ∧ w1.heap = w.heap ∧ w1.os = w.os ∧ w1.output = w.output ∧ (choose (Question.mapNext L.size)).run P w = .ok j w1 := by
      by_cases hf : L.size ≤ 1
      · exact ⟨0, w, by omega, rfl, rfl, rfl, by simp [choose, Sem.run, Question.forced, hf]⟩
      · exact ⟨_, w.drew, Nat.mod_lt _ (by omega), rfl, rfl, rfl, by
          simp only [choose, Sem.run, Question.forced, decide_eq_true_eq, hf, if_false, Question.cut]
          rfl⟩
    obtain ⟨j, w1, hj, hal, hos, hout, hrun⟩ := hch
    have hset : ∀ (o' : Obj), (setObj r o').run P w1 = .ok () { w1 with heap := w1.heap.setIfInBounds r o' } := fun o' => by
      simp only [setObj, Sem.run, hal, hr]
    refine ⟨L[j], { w1 with heap := w1.heap.setIfInBounds r (.mapIter (some bm) since (seen.push L[j].born) since) }, by simp, by rw [hal], hos, hout, ?_⟩
    simp only [hrun, Array.getElem?_map, Array.getElem?_eq_getElem hj, Option.map_some, Sem.run_bind, hset, Result.andThen]
    rfl

theorem perm_filter_born (e : MapEntry) : ∀ (l : List MapEntry), (l.map (·.born)).Nodup → e ∈ l → l.Perm (e :: l.filter fun x => x.born != e.born)
  | x :: l, hn, he => by
    have hn' : x.born ∉ l.map (·.born) ∧ (l.map (·.born)).Nodup := List.nodup_cons.1 hn
    rcases List.mem_cons.1 he with rfl | h
    · rw [List.filter_cons_of_neg (by simp), List.filter_eq_self.2 fun y hy => ?_]
      have : y.born ≠ e.born := fun hb => hn'.1 (List.mem_map.2 ⟨y, hy, hb⟩)
      simpa using this
    · have hx : x.born ≠ e.born := fun hb => hn'.1 (List.mem_map.2 ⟨e, h, hb.symm⟩)
      rw [List.filter_cons_of_pos (by simpa using hx)]
      exact ((perm_filter_born e l hn'.2 h).cons x).trans (List.Perm.swap e x _)

section
variable {P : Program} {Q : Nat → Value} {N0 : Keep} {w0 : World} {η : Env} {h : AH} {w : World}

theorem concEs_split : ∀ {a : List (Value × Value)} {p : Value × Value} {b : List (Value × Value)} {es : List (AV × AV)}, concEs Q η es = some (a ++ p :: b) →
    ∃ pre e post, es = pre ++ e :: post ∧ concEs Q η pre = some a ∧ concV Q η e.1 = some p.1 ∧ concV Q η e.2 = some p.2 ∧ concEs Q η post = some b
  | a, p, b, [], h => by cases a <;> cases h
  | a, p, b, e :: r, h => by
    simp only [concEs] at h
    cases e1 : concV Q η e.1 with
    | none => rw [e1] at h; cases h
    | some x =>
      rw [e1] at h
      cases e2 : concV Q η e.2 with
      | none => rw [e2] at h; cases h
      | some y =>
        rw [e2] at h
        cases e3 : concEs Q η r with
        | none => rw [e3] at h; cases h
        | some l =>
          rw [e3] at h
          cases a with
          | nil => cases h; exact ⟨[], e, r, rfl, rfl, e1, e2, e3⟩
          | cons q a =>
            cases h
            obtain ⟨pre, e', post, rfl, g1, g2, g3, g4⟩ := concEs_split e3
            exact ⟨e :: pre, e', post, rfl, by simp only [concEs, e1, e2, g1], g2, g3, g4⟩

theorem concEs_join : ∀ {es fs : List (AV × AV)} {a b : List (Value × Value)}, concEs Q η es = some a → concEs Q η fs = some b → concEs Q η (es ++ fs) = some (a ++ b)
  | [], fs, a, b, h1, h2 => by cases h1; exact h2
  | e :: r, fs, a, b, h1, h2 => by
    simp only [concEs] at h1
    cases e1 : concV Q η e.1 with
    | none => rw [e1] at h1; cases h1
    | some x =>
      rw [e1] at h1
      cases e2 : concV Q η e.2 with
      | none => rw [e2] at h1; cases h1
      | some y =>
        rw [e2] at h1
        cases e3 : concEs Q η r with
        | none => rw [e3] at h1; cases h1
        | some l =>
          rw [e3] at h1; cases h1
          show concEs Q η (e :: (r ++ fs)) = some ((x, y) :: (l ++ b))
          simp only [concEs, e1, e2, concEs_join e3 h2]

theorem concEs_nil_inv {es : List (AV × AV)} (h : concEs Q η es = some []) : es = [] := by
  cases es with
  | nil => rfl
  | cons e r =>
    simp only [concEs] at h
    cases e1 : concV Q η e.1 with
    | none => rw [e1] at h; cases h
    | some x =>
      rw [e1] at h
      cases e2 : concV Q η e.2 with
      | none => rw [e2] at h; cases h
      | some y =>
        rw [e2] at h
        cases e3 : concEs Q η r with
        | none => rw [e3] at h; cases h
        | some l => rw [e3] at h; cases h

/-- an iterator of the abstract heap, in the model -/
theorem HR.itObj (H : HR P Q N0 w0 η h w) {id r base cap : Nat} {cur rem : List (AV × AV)} (ho : h.obj id = some (.it cur rem)) (hi : η id = some (.blk r base cap)) :
    base = 0 ∧ ∃ b since seen es, w.heap[r]? = some (.mapIter (some b) since seen since) ∧ N0.f b = some (es, since) ∧ w.heap[b]? = some (.map es since) ∧ Born es since ∧
      (∃ l, concEs Q η rem = some l ∧ ((leftOf es seen).toList.map fun e => (e.key, e.val)).Perm l) ∧
      ∀ e r, cur = e :: r → ∃ me, me ∈ es.toList ∧ seen.back? = some me.born ∧ concV Q η e.1 = some me.key ∧ concV Q η e.2 = some me.val := by
  obtain ⟨b1, base1, c1, z, e1, h1, h2, _⟩ := H.obj _ _ ho _ hi
  cases e1
  cases z with
  | mapIter m since seen last =>
    cases m with
    | none => exact h2.elim
    | some b =>
      obtain ⟨es, g1, rfl, g3, ⟨l, g4, g5⟩, g6⟩ := (show ItIs Q N0.f η cur rem b since seen last from h2.2)
      obtain ⟨k1, k2⟩ := H.froz b es _ g1
      exact ⟨h2.1, b, last, seen, es, h1, g1, (H.below b k1).trans k2, g3, ⟨l, g4, by unfold leftOf; rw [Array.toList_filter]; exact g5⟩, g6⟩
  | _ => exact h2.elim

/-- 'next': which of those that are left is not told -/
theorem HR.next (H : HR P Q N0 w0 η h w) {id r base cap : Nat} {cur rem : List (AV × AV)} (ho : h.obj id = some (.it cur rem)) (hi : η id = some (.blk r base cap)) (ty : TypeId) :
    (rem = [] ∧ (Instr.next (.pointer (some ⟨r, 0, none⟩)) false ty).run P w = .ok (.tuple #[.bool false]) w) ∨
    ∃ pre e post k v w1, rem = pre ++ e :: post ∧ (Instr.next (.pointer (some ⟨r, 0, none⟩)) false ty).run P w = .ok (.tuple #[.bool true, k, v]) w1 ∧ concV Q η e.1 = some k ∧ concV Q η e.2 = some v ∧
      HR P Q N0 w0 η (h.upd id (some (.it [e] (pre ++ post)))) w1 := by
  obtain ⟨rfl, b, since, seen, es, h1, h2, h3, hbn, ⟨l, h4, h5⟩, _⟩ := H.itObj ho hi
  rcases run_next_at (P := P) w ty h1 h3 hbn.2 with ⟨g1, g2⟩ | ⟨e, w1, g1, g2, g3, g4, g5⟩
  · left
    rw [g1] at h5
    have : l = [] := by simpa using h5
    subst this
    exact ⟨concEs_nil_inv h4, g2⟩
  · right
    have hkv : (e.key, e.val) ∈ l := h5.mem_iff.1 (List.mem_map.2 ⟨e, g1, rfl⟩)
    obtain ⟨la, lb, rfl⟩ := List.append_of_mem hkv
    obtain ⟨pre, ae, post, rfl, c1, c2, c3, c4⟩ := concEs_split h4
    refine ⟨pre, ae, post, e.key, e.val, w1, rfl, g5, c2, c3, ?_⟩
    have hin : e ∈ es.toList := by unfold leftOf at g1; simp at g1 ⊢; exact g1.1
    have hsub : ((leftOf es seen).toList.map (·.born)).Nodup := by
      unfold leftOf; rw [Array.toList_filter]
      exact List.Nodup.sublist ((List.filter_sublist).map _) hbn.1
    have hp := perm_filter_born e _ hsub g1
    have hf : (es.toList.filter fun x => !(seen.push e.born).contains x.born) = (leftOf es seen).toList.filter fun x => x.born != e.born := by
      unfold leftOf
      rw [Array.toList_filter, List.filter_filter]
      refine List.filter_congr fun x _ => ?_
      rw [Array.contains_push, Bool.not_or, Bool.and_comm]
      congr 1
    have hperm : ((es.toList.filter fun x => !(seen.push e.born).contains x.born).map fun e => (e.key, e.val)).Perm (la ++ lb) := by
      rw [hf]
      have h6 := (hp.map fun e => (e.key, e.val)).symm.trans (h5.trans List.perm_middle)
      simp only [List.map_cons] at h6
      exact List.Perm.cons_inv h6
    have hrlt : r < w.heap.size := by
      rcases Nat.lt_or_ge r w.heap.size with h | h
      · exact h
      · rw [Array.getElem?_eq_none h] at h1; cases h1
    refine H.put (x' := .mapIter (some b) since (seen.push e.born) since) ho hi rfl (by rw [g2]; simp [hrlt]) (fun b' hb' => by rw [g2, Array.getElem?_setIfInBounds_ne (Ne.symm hb')]) (by rw [g2]; simp) ?_ ⟨g3, g4⟩
    refine ⟨rfl, es, h2, rfl, hbn, ⟨la ++ lb, concEs_join c1 c4, hperm⟩, fun e' r' he => ?_⟩
    cases he
    exact ⟨e, hin, by simp, c2, c3⟩

/-- 'entry': what was given last -/
theorem HR.entry (H : HR P Q N0 w0 η h w) {id r base cap : Nat} {e : AV × AV} {cur rem : List (AV × AV)} (ho : h.obj id = some (.it (e :: cur) rem)) (hi : η id = some (.blk r base cap)) :
    ∃ k v, (Instr.entry (.pointer (some ⟨r, 0, none⟩))).run P w = .ok (.tuple #[k, v]) w ∧ concV Q η e.1 = some k ∧ concV Q η e.2 = some v := by
  obtain ⟨_, b, since, seen, es, h1, h2, h3, hbn, _, h6⟩ := H.itObj ho hi
  obtain ⟨me, g1, g2, g3, g4⟩ := h6 e cur rfl
  refine ⟨me.key, me.val, ?_, g3, g4⟩
  have hf : es.find? (·.born == me.born) = some me := by rw [← Array.find?_toList]; exact find_born me es.toList hbn.1 g1
  simp only [Instr.entry, getObj, Sem.run_bind, Sem.run, h1, h3, Result.andThen, g2, bne_self_eq_false, Bool.false_eq_true, if_false, hf]
  rfl

end
end Go.Sx
