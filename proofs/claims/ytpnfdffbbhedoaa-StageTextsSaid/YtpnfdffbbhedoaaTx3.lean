/-
  The stage of a text, and the law on texts.
-/
import Derived.Test.YtpnfdffbbhedoaaTx2
import Derived.Test.YtpnfdffbbhedoaaMapR
namespace Go.Proofs.Ytpnfdffbbhedoaa
open Go.RowKit

/-- The stage of a text among the first k: the last that has it. -/
def backI (t : ByteArray) : Nat → Int
  | 0 => 0
  | k + 1 => if txt k = t then (k : Int) + 1 else backI t k
def parseI (t : ByteArray) : Int × Int := (backI t 10, if backI t 10 = 0 then 2 else 0)

theorem txt_inj {i j : Nat} (hi : i < 10) (hj : j < 10) (h : txt i = txt j) : i = j := by
  have e : ∀ i, i < 10 → ∀ j, j < 10 → txt i = txt j → i = j := by decide
  exact e i hi j hj h

theorem backI_at (t : ByteArray) (k : Nat) (h : txt k = t) : ∀ n, k < n → n ≤ 10 → backI t n = (k : Int) + 1 := by
  intro n
  induction n with
  | zero => intro h; omega
  | succ n ih =>
    intro hk hn
    simp only [backI]
    by_cases e : txt n = t
    · rw [if_pos e]
      have : n = k := txt_inj (by omega) (by omega) (e.trans h.symm)
      rw [this]
    · rw [if_neg e]
      have : k ≠ n := fun e' => e (e' ▸ h)
      exact ih (by omega) (by omega)
theorem backI_none (t : ByteArray) : ∀ n, (∀ k, k < n → txt k ≠ t) → backI t n = 0 := by
  intro n
  induction n with
  | zero => intro _; rfl
  | succ n ih =>
    intro h
    simp only [backI]
    rw [if_neg (h n (by omega))]
    exact ih (fun k hk => h k (by omega))

theorem bytes_ext {a b : ByteArray} (h : a.toList = b.toList) : a = b := by
  rw [ByteArray.toList_eq, ByteArray.toList_eq] at h
  cases a; cases b
  simp only [ByteArray.mk.injEq]
  exact Array.toList_inj.1 h
theorem str_eq {a b : ByteArray} (h : a = b) : (a.toList == b.toList) = true := by simp [h]
theorem str_ne {a b : ByteArray} (h : a ≠ b) : (a.toList == b.toList) = false := by
  rw [beq_eq_false_iff_ne]; exact fun e => h (bytes_ext e)

theorem ents_mem {e : MapEntry} {n : Nat} (h : e ∈ ents n) : ∃ k, k < n ∧ e = ent k := by
  simp [ents] at h
  obtain ⟨k, hk, rfl⟩ := h
  exact ⟨k, hk, rfl⟩
theorem ents_find {k : Nat} (h : k < 10) : (ents 10).find? (fun x => x.born == (ent k).born) = some (ent k) := by
  have hk : k = 0 ∨ k = 1 ∨ k = 2 ∨ k = 3 ∨ k = 4 ∨ k = 5 ∨ k = 6 ∨ k = 7 ∨ k = 8 ∨ k = 9 := by omega
  rcases hk with rfl | rfl | rfl | rfl | rfl | rfl | rfl | rfl | rfl | rfl <;> rfl

/-- Between two rounds: those that have come are others than t. -/
def PRel (w : World) (t : ByteArray) (r : Nat) (wr : World) : Prop :=
  ∃ seen : Array Nat, wr.heap[r]? = some (.mapIter (some w.heap.size) 10 seen 10) ∧ wr.heap[w.heap.size]? = some (.map (ents 10) 10) ∧ Below w.heap.size w wr ∧ (∀ k, k < 10 → seen.contains k = true → txt k ≠ t) ∧ seen.toList.Nodup ∧ (∀ k ∈ seen, k < 10)

def seenOf (r : Nat) (w : World) : Nat := match w.heap[r]? with | some (.mapIter _ _ seen _) => seen.size | _ => 0

theorem nodup_le {l : List Nat} (h : l.Nodup) (hb : ∀ k ∈ l, k < 10) : l.length ≤ 10 := by
  have := List.Nodup.length_le_of_subset (l₂ := List.range 10) h (fun k hk => by simpa using hb k hk)
  simpa using this

set_option maxHeartbeats 1000000 in
theorem parse24 (t : ByteArray) (w : World) :
    Calls Try.prog 24 #[.string t] w fun e w' => e = .returned (.tuple #[.int .i64 (parseI t).1, .int .i64 (parseI t).2]) ∧ Below w.heap.size w w' := by
  go_enter Try.func24, Try.ntmps24
  go_wp2_with fail
  refine (texts34 _).mono ?_
  rintro e w1 ⟨rfl, hb, hm⟩
  have hr := run_range_map (P := Try.prog) (w := w1) 73 26 9 w.heap.size (ents 10) 10 Try.underlying73 hm
  have HB := Lib.hid hb
  have HM := Lib.hid hm
  clear hb hm
  go_wp2
  clear hr
  go_loopw [4] (fun _ wr => PRel w t w1.heap.size wr) (fun _ wr => 10 - seenOf w1.heap.size wr)
  case atStart =>
    refine ⟨#[], heap_alloc_last _ _, heap_past (Array.getElem?_eq_some_iff.1 HM.out).1 HM.out, HB.out.alloc HB.out.size _, by simp, by simp, by simp⟩
  case round =>
    obtain ⟨seen, hi, hmp, hbw, hall, hnd, hlt⟩ := hrel
    have hborn : ∀ e ∈ ents 10, e.born < 10 := fun e he => by obtain ⟨k, hk, rfl⟩ := ents_mem he; exact hk
    by_cases hleft : ((ents 10).filter fun e => !seen.contains e.born) = #[]
    · have hno : ∀ k, k < 10 → txt k ≠ t := by
        intro k hk
        refine hall k hk ?_
        have hin : ent k ∈ ents 10 := by simp only [ents, List.mem_toArray, List.mem_map, List.mem_range]; exact ⟨k, hk, rfl⟩
        have := Array.filter_eq_empty_iff.1 hleft (ent k) hin
        simpa [ent] using this
      have hp : parseI t = (0, 2) := by simp [parseI, backI_none t 10 hno]
      have HP := Lib.hid hp
      have hn := run_next_none (P := Try.prog) w1.heap.size w.heap.size (ents 10) 10 seen 0 hi hmp hborn hleft
      clear hi hmp hall hnd hlt hleft hno hp hborn
      go_wp2
      go_ret2
      rw [HP.out]
      exact ⟨rfl, hbw⟩
    · obtain ⟨e, w2, he, hns, hw, hrun⟩ := run_next_some (P := Try.prog) w1.heap.size w.heap.size (ents 10) 10 seen 0 hi hmp hborn hleft
      obtain ⟨k, hk, rfl⟩ := ents_mem he
      have hz := HB.out.size
      have hlm := (Array.getElem?_eq_some_iff.1 HM.out).1
      have hh : w2.heap = wr.heap := by rcases hw with rfl | rfl <;> rfl
      have hb2 : Below w.heap.size wr w2 := by
        rcases hw with rfl | rfl
        · exact Below.refl _ _
        · exact (Below.refl _ _).drew
      have hlr : w1.heap.size < wr.heap.size := (Array.getElem?_eq_some_iff.1 hi).1
      generalize hw3 : w2.putObj w1.heap.size (.mapIter (some w.heap.size) 10 (seen.push (ent k).born) 10) = w3 at hrun
      have hi3 : w3.heap[w1.heap.size]? = some (.mapIter (some w.heap.size) 10 (seen.push (ent k).born) 10) := by rw [← hw3]; exact World.putObj_heap_same (by rw [hh]; exact hlr)
      have hm3 : w3.heap[w.heap.size]? = some (.map (ents 10) 10) := by rw [← hw3, World.putObj_heap_other (by omega), hh]; exact hmp
      have hb3 : Below w.heap.size w w3 := by
        refine hbw.trans (hb2.trans ?_)
        rw [← hw3]
        exact ⟨rfl, rfl, rfl, by simp, fun i hi => World.putObj_heap_other (by omega)⟩
      have hen := run_entry (P := Try.prog) w1.heap.size w.heap.size (ents 10) 10 seen (ent k) hi3 hm3 (ents_find hk)
      simp only [ent] at hrun hen hi3 hns
      have HI := Lib.hid (And.intro hi3 (And.intro hm3 hb3))
      have HJ := Lib.hid (And.intro hall (And.intro hnd (And.intro hlt hi)))
      clear hi hmp hbw hall hnd hlt hborn hleft he hw hh hb2 hw3 hi3 hm3 hb3
      by_cases htk : txt k = t
      · have hp : parseI t = ((k : Int) + 1, 0) := by
          have e := backI_at t k htk 10 hk (Nat.le_refl _)
          simp only [parseI, e]
          rw [if_neg (by omega)]
        have HP := Lib.hid hp
        have hq := str_eq htk
        clear hp htk
        go_wp2
        go_ret2
        rw [HP.out]
        exact ⟨rfl, HI.out.2.2⟩
      · have hq := str_ne htk
        have HT := Lib.hid htk
        clear htk
        go_wp2
        refine ⟨⟨seen.push k, HI.out.1, HI.out.2.1, HI.out.2.2, ?_, ?_, ?_⟩, ?_⟩
        · intro j hj hc
          rw [Array.contains_eq_mem] at hc
          simp at hc
          rcases hc with hc | rfl
          · exact HJ.out.1 j hj (by simpa using hc)
          · exact HT.out
        · rw [Array.toList_push, List.nodup_append]
          refine ⟨HJ.out.2.1, by simp, ?_⟩
          intro a ha b hb
          simp at hb
          subst hb
          intro e
          subst e
          have : seen.contains a = true := by simpa using ha
          rw [this] at hns
          cases hns
        · intro j hj
          rcases Array.mem_push.1 hj with h | rfl
          · exact HJ.out.2.2.1 j h
          · exact hk
        · have h1 : seenOf w1.heap.size w3 = seen.size + 1 := by simp [seenOf, HI.out.1]
          have h2 : seenOf w1.heap.size wr = seen.size := by simp [seenOf, HJ.out.2.2.2]
          have h3 : (seen.push k).toList.length ≤ 10 := nodup_le (by
            rw [Array.toList_push, List.nodup_append]
            refine ⟨HJ.out.2.1, by simp, ?_⟩
            intro a ha b hb
            simp at hb
            subst hb
            intro e
            subst e
            have : seen.contains a = true := by simpa using ha
            rw [this] at hns
            cases hns) (fun j hj => by
              have hj' : j ∈ seen.push k := by simpa using hj
              rcases Array.mem_push.1 hj' with h | rfl
              · exact HJ.out.2.2.1 j h
              · exact hk)
          simp at h3
          rw [h1, h2]
          omega

end Go.Proofs.Ytpnfdffbbhedoaa
