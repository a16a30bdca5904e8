/-
  A range over a map that does not change while it is gone through.
-/
import Derived.Test.YtpnfdffbbhedoaaExt
namespace Go.Proofs.Ytpnfdffbbhedoaa
open Go.RowKit

theorem run_range_map {P : Program} {w : World} (t kt et : TypeId) (m : Nat) (es : Array MapEntry) (clock : Nat) (ht : P.underlying t = some (.map kt et)) (hm : w.heap[m]? = some (.map es clock)) :
    (Instr.range t (.map (some m))).run P w = .ok (.pointer (some ⟨w.heap.size, 0, none⟩)) (w.alloc (.mapIter (some m) clock #[] clock)) := by
  simp [Instr.range, Sem.run_bind, run_underlying ht, getObj, Sem.run, hm]

theorem filter_all {α : Type} (p : α → Bool) (l : Array α) (h : ∀ e ∈ l, p e = true) : l.filter p = l := Array.filter_eq_self.2 h
theorem filter_none {α : Type} (p : α → Bool) (l : Array α) (h : ∀ e ∈ l, p e = false) : l.filter p = #[] := Array.filter_eq_empty_iff.2 (fun e he => by simp [h e he])

theorem run_next_some {P : Program} {w : World} (r m : Nat) (es : Array MapEntry) (clock : Nat) (seen : Array Nat) (t : TypeId) (hr : w.heap[r]? = some (.mapIter (some m) clock seen clock)) (hm : w.heap[m]? = some (.map es clock))
    (hb : ∀ e ∈ es, e.born < clock) (hne : (es.filter fun e => !seen.contains e.born) ≠ #[]) :
    ∃ e w1, e ∈ es ∧ seen.contains e.born = false ∧ (w1 = w ∨ w1 = w.drew) ∧
      (Instr.next (.pointer (some ⟨r, 0, none⟩)) false t).run P w = .ok (.tuple #[.bool true, e.key, e.val]) (w1.putObj r (.mapIter (some m) clock (seen.push e.born) clock)) := by
  generalize hleft : (es.filter fun e => !seen.contains e.born) = left at hne
  have hmem : ∀ e ∈ left, e ∈ es ∧ seen.contains e.born = false := by
    intro e he
    rw [← hleft] at he
    simpa using he
  have hold : left.filter (fun e => decide (e.born < clock)) = left := filter_all _ _ (fun e he => by simpa using hb e (hmem e he).1)
  have hnew : left.filter (fun e => decide (e.born ≥ clock)) = #[] := filter_none _ _ (fun e he => by have := hb e (hmem e he).1; simp; omega)
  have hpos : 0 < left.size := by
    rcases Nat.eq_zero_or_pos left.size with h | h
    · exact absurd (Array.eq_empty_of_size_eq_zero h) hne
    · exact h
  have hall : (!seen.isEmpty && !es.isEmpty && es.all (fun x => decide (x.born ≥ clock))) = false := by
    have h0 := hmem left[0] (Array.getElem_mem hpos)
    have : es.all (fun x => decide (x.born ≥ clock)) = false := by
      rw [Array.all_eq_false]
      obtain ⟨i, hi, he⟩ := Array.mem_iff_getElem.1 h0.1
      exact ⟨i, hi, by rw [he]; have := hb _ h0.1; simp; omega⟩
    rw [this]
    simp
  have hemp : left.isEmpty = false := by
    cases h : left.isEmpty
    · rfl
    · rw [Array.isEmpty_iff] at h; exact absurd h hne
  have h1 : (getObj r).run P w = .ok (.mapIter (some m) clock seen clock) w := by simp [getObj, Sem.run, hr]
  have h2 : (getObj m).run P w = .ok (.map es clock) w := by simp [getObj, Sem.run, hm]
  have h3 : ∀ (w1 : World) (o : Obj), w1.heap = w.heap → (setObj r o).run P w1 = .ok () (w1.putObj r o) := by
    intro w1 o hw
    simp [setObj, Sem.run, hw, hr, World.putObj]
  have hsz : (#[] ++ Array.map some (left ++ #[]) : Array (Option MapEntry)) = Array.map some left := by simp
  by_cases hf : (Question.mapNext left.size).forced = true
  · refine ⟨left[0], w, (hmem _ (Array.getElem_mem hpos)).1, (hmem _ (Array.getElem_mem hpos)).2, Or.inl rfl, ?_⟩
    have hc : (choose (Question.mapNext left.size)).run P w = .ok 0 w := by simp [hf]
    have hget : (Array.map some left)[0]? = some (some left[0]) := by simp [hpos]
    simp only [Instr.next, Sem.run_bind, h1, h2, Result.andThen_ok, hall, Bool.false_eq_true, if_false, Sem.run_pure, hleft, hold, hnew, hemp, hsz, Array.size_map, hc, hget, h3 w _ rfl]
  · have hq : (Question.mapNext left.size).cut (w.tape w.drawn (.mapNext left.size)) < left.size := Nat.mod_lt _ hpos
    generalize hi : (Question.mapNext left.size).cut (w.tape w.drawn (.mapNext left.size)) = i at hq
    refine ⟨left[i], w.drew, (hmem _ (Array.getElem_mem hq)).1, (hmem _ (Array.getElem_mem hq)).2, Or.inr rfl, ?_⟩
    have hc : (choose (Question.mapNext left.size)).run P w = .ok i w.drew := by simp [hf, hi]
    have hget : (Array.map some left)[i]? = some (some left[i]) := by simp [hq]
    simp only [Instr.next, Sem.run_bind, h1, h2, Result.andThen_ok, hall, Bool.false_eq_true, if_false, Sem.run_pure, hleft, hold, hnew, hemp, hsz, Array.size_map, hc, hget, h3 w.drew _ rfl]

theorem run_next_none {P : Program} {w : World} (r m : Nat) (es : Array MapEntry) (clock : Nat) (seen : Array Nat) (t : TypeId) (hr : w.heap[r]? = some (.mapIter (some m) clock seen clock)) (hm : w.heap[m]? = some (.map es clock))
    (hb : ∀ e ∈ es, e.born < clock) (hne : (es.filter fun e => !seen.contains e.born) = #[]) :
    (Instr.next (.pointer (some ⟨r, 0, none⟩)) false t).run P w = .ok (.tuple #[.bool false]) w := by
  have hall : (!seen.isEmpty && !es.isEmpty && es.all (fun x => decide (x.born ≥ clock))) = false := by
    by_cases he : es.isEmpty = true
    · simp [he]
    · have hpos : 0 < es.size := by
        rcases Nat.eq_zero_or_pos es.size with h | h
        · exact absurd (by rw [Array.isEmpty_iff]; exact Array.eq_empty_of_size_eq_zero h) he
        · exact h
      have : es.all (fun x => decide (x.born ≥ clock)) = false := by
        rw [Array.all_eq_false]
        exact ⟨0, hpos, by have := hb _ (Array.getElem_mem hpos); simp; omega⟩
      rw [this]
      simp
  have h1 : (getObj r).run P w = .ok (.mapIter (some m) clock seen clock) w := by simp [getObj, Sem.run, hr]
  have h2 : (getObj m).run P w = .ok (.map es clock) w := by simp [getObj, Sem.run, hm]
  have hc : (choose (Question.mapNext 1)).run P w = .ok 0 w := by simp [Question.forced]
  have e1 : (#[] : Array MapEntry).filter (fun e => decide (e.born < clock)) = #[] := rfl
  have e2 : (#[] : Array MapEntry).filter (fun e => decide (e.born ≥ clock)) = #[] := rfl
  have hsz : ((if (#[] : Array MapEntry).isEmpty = true then #[none] else #[]) ++ Array.map some (#[] ++ #[]) : Array (Option MapEntry)) = #[none] := by simp
  have hget : (#[none] : Array (Option MapEntry))[0]? = some none := rfl
  simp only [Instr.next, Sem.run_bind, h1, h2, Result.andThen_ok, hall, Bool.false_eq_true, if_false, Sem.run_pure, hne, e1, e2, hsz]
  simp only [List.size_toArray, List.length_cons, List.length_nil, Nat.zero_add, hc, Result.andThen_ok, hget, Sem.run_pure]

theorem run_entry {P : Program} {w : World} (r m : Nat) (es : Array MapEntry) (clock : Nat) (seen : Array Nat) (e : MapEntry) (hr : w.heap[r]? = some (.mapIter (some m) clock (seen.push e.born) clock)) (hm : w.heap[m]? = some (.map es clock))
    (hf : es.find? (fun x => x.born == e.born) = some e) :
    (Instr.entry (.pointer (some ⟨r, 0, none⟩))).run P w = .ok (.tuple #[e.key, e.val]) w := by
  simp [Instr.entry, Sem.run_bind, getObj, Sem.run, hr, hm, hf]

end Go.Proofs.Ytpnfdffbbhedoaa
