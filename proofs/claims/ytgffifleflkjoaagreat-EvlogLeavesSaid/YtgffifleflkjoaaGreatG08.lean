/-
  Append, Cut, Stop.
  Read, Tape.
  append onto a row of the call's own, whatever the source.
  CRC-32C: a sum's bytes.
  slices.Grow of nothing; slices.Concat of one; sealed bytes.
-/
import Derived.Test.YtgffifleflkjoaaGreatG02
import Derived.Test.YtgffifleflkjoaaGreatG07
import Derived.Laws.AppendOwnNone
import Derived.Lib.AppendZeros

namespace Go.Proofs.YtgffifleflkjoaaGreat
open Go.RowKit Dm

theorem used_nonneg (x : St) : 0 ≤ x.used := by unfold St.used; omega
theorem used_le {d : D} (h : d.ok) : d.stand.used ≤ 4194304 := by
  have b : ∀ t, ((d.stand.tp t).length : Int) ≤ 1048576 := fun t => Int.le_trans (by exact_mod_cast stand_tapes h t) h.room1
  have := b 0; have := b 1; have := b 2; have := b 3
  unfold St.used; omega

theorem tp_le_used (x : St) (t : Int) (h0 : 0 ≤ t) (h1 : t ≤ 3) : ((x.tp t).length : Int) ≤ x.used := by
  obtain rfl | rfl | rfl | rfl : t = 0 ∨ t = 1 ∨ t = 2 ∨ t = 3 := by omega
  all_goals unfold St.used; omega

theorem append_ok {d : D} (h : d.ok) (t : Int) (l : List UInt8) (h0 : 0 ≤ t) (h1 : t ≤ 3) (hu : ¬ d.stand.used + l.length > d.room) : (∀ k, ((d.stand.done ⟨2, t, 0, l⟩).tp k).length ≤ d.room) ∧ l.length ≤ 1048576 := by
  have := h.room1
  have := tp_le_used d.stand t h0 h1
  have := used_nonneg d.stand
  refine ⟨fun k => ?_, by omega⟩
  simp only [St.done]
  by_cases hk : k = t
  · subst hk
    simp [upd]
    omega
  · simp [upd, hk]
    exact stand_tapes h k

/-- Bytes are appended to a tape. -/
theorem append_c {p m : Nat} {d : D} {F G : Nat → Prop} {w : World} (x : DiskAt w.heap p m d F) (n : Int) {bv : Value} {l : List UInt8} (hv : BytesAt w.heap G bv l) (hl : l.length ≤ 1099511627776) (hn : d.waits.length ≤ 1000000000000) :
    Calls Tryz.prog 59 #[.pointer (some ⟨p, 0, none⟩), .int .i64 n, bv] w (Left w p m F (d.append n l)) := by
  obtain ⟨k16, k11, k12, _⟩ := x.cell16
  obtain ⟨a, c, rfl⟩ := hv.slice
  have lt := x.lt
  by_cases h1 : n < 0 ∨ 4 ≤ n
  · have e : d.append n l = (d, 4) := by
      unfold D.append
      rw [if_pos (by omega)]
    rw [e]
    refine (append_range p _ n w k16 h1).mono ?_
    rintro e w' ⟨rfl, hb⟩
    exact left_below x hb
  · have hU : ∀ W, Below w.heap.size w W → Calls Tryz.prog 97 #[.pointer (some ⟨p, 0, none⟩)] W fun e w' => e = .returned (.int .i64 d.stand.used) ∧ Below W.heap.size W w' := fun W hb => used_d (x.below hb)
    by_cases h2 : d.stand.used + l.length > d.room
    · have e : d.append n l = (d, 280) := by
        unfold D.append
        rw [if_neg (by omega), if_pos h2]
      rw [e]
      refine (append_full p l.length c a n d.room d.stand.used w k16 k12 (by omega) (by omega) (used_nonneg _) (used_le x.ok) hl h2 hU).mono ?_
      rintro e w' ⟨rfl, hb⟩
      exact left_below x hb
    · have e : d.append n l = d.step ⟨2, n, 0, l⟩ := by
        unfold D.append
        rw [if_neg (by omega), if_neg h2]
      rw [e]
      obtain ⟨o1, o2⟩ := append_ok x.ok n l (by omega) (by omega) h2
      refine append_live p l.length c a n d.room d.stand.used l w _ k16 k12 (by omega) (by omega) (used_nonneg _) (used_le x.ok) hl h2 hU G hv ?_
      intro W g v hb hg r0 r1 r2 r3 hz hv1
      have x1 := x.plus hb
      have hok : (⟨2, n, 0, l⟩ : Step).ok d.many := Or.inr (Or.inl ⟨rfl, by show 0 ≤ n; omega, by show n ≤ 3; omega, rfl, o2⟩)
      have st : StepAt W.heap (plus F w W) ⟨2, n, 0, l⟩ (.func (.func 142) #[] #[.pointer (some ⟨g + 1, 0, none⟩), .pointer (some ⟨g + 2, 0, none⟩)])
          (.func (.func 101) #[] #[.pointer (some ⟨w.heap.size, 0, none⟩), .pointer (some ⟨g, 0, none⟩)]) (.int .i64 n) (.int .i64 2) (.int .i64 n) (.int .i64 0) (.string ⟨l.toArray⟩) :=
        ⟨rfl, rfl, rfl, ⟨_, rfl, by simp⟩, Or.inr (Or.inl ⟨rfl, rfl, w.heap.size, g, g + 1, g + 2, v, Or.inr ⟨by omega, by omega⟩, Or.inr ⟨by omega, by omega⟩, Or.inr ⟨by omega, by omega⟩, Or.inr ⟨by omega, by omega⟩, rfl, rfl, r0, r2, r1, r3,
          hv1.keeps (fun _ _ _ => rfl) (fun k hk hl => Or.inr ⟨hk, hl⟩)⟩)⟩
      refine (step_c x1 ⟨2, n, 0, l⟩ hok hn o1 st).mono ?_
      rintro e w' h
      exact ⟨_, h.1, left_later x hb h⟩

/-! Cut. -/
abbrev cutW (w : World) (t n : Int) : World := (w.alloc (.cells #[.int .i64 t] 3)).alloc (.cells #[.int .i64 n] 3)
theorem cutW_below (w : World) (t n : Int) : Below w.heap.size w (cutW w t n) := ((Below.refl _ _).alloc (Nat.le_refl _) _).alloc (by simp) _

theorem cut_none (v : Value) (t n : Int) (w : World) (h : NoneD w v) : Calls Tryz.prog 76 #[v, .int .i64 t, .int .i64 n] w fun e w' => e = .returned (.int .i64 1) ∧ Below w.heap.size w w' := by
  have H := Lib.hid (h.below (cutW_below w t n))
  clear h
  go_enter Tryz.func76, Tryz.ntmps76
  go_wp2_with (go_at_call 45; refine (none_c H.out).mono ?_; rintro e w' ⟨rfl, rfl⟩)
  go_ret
  exact ⟨rfl, cutW_below w t n⟩

set_option maxRecDepth 100000 in
set_option maxHeartbeats 400000 in
theorem cut_bad1 (p : Nat) (t n : Int) (w : World) (h : w.cell? ⟨p, 16, none⟩ = some (.bool true)) (h1 : t < 0) :
    Calls Tryz.prog 76 #[.pointer (some ⟨p, 0, none⟩), .int .i64 t, .int .i64 n] w fun e w' => e = .returned (.int .i64 4) ∧ Below w.heap.size w w' := by
  have hb := cutW_below w t n
  have lt := block_lt_of_cell h
  have h' := (hb.cell (p := ⟨p, 16, none⟩) lt).trans h
  have k1 : (cutW w t n).cell? ⟨w.heap.size, 0, none⟩ = some (.int .i64 t) := row_cell (heap_past (by simp) (heap_alloc_last w _)) rfl
  have k2 : (cutW w t n).cell? ⟨w.heap.size + 1, 0, none⟩ = some (.int .i64 n) := row_cell (heap_at (w := w.alloc _) _ (by simp)) rfl
  have b1 : decide (t < 0) = true := by simp; omega
  go_enter Tryz.func76, Tryz.ntmps76
  go_wp2_with (go_at_call 45; refine (none_at p true _ h').mono ?_; rintro e w' ⟨rfl, rfl⟩)
  go_quiet (fail)
  go_wp2
  go_ret
  exact ⟨rfl, below_drewN hb nq⟩

set_option maxRecDepth 100000 in
set_option maxHeartbeats 400000 in
theorem cut_bad2 (p : Nat) (t n : Int) (w : World) (h : w.cell? ⟨p, 16, none⟩ = some (.bool true)) (h1 : ¬ t < 0) (h2 : 4 ≤ t) :
    Calls Tryz.prog 76 #[.pointer (some ⟨p, 0, none⟩), .int .i64 t, .int .i64 n] w fun e w' => e = .returned (.int .i64 4) ∧ Below w.heap.size w w' := by
  have hb := cutW_below w t n
  have lt := block_lt_of_cell h
  have h' := (hb.cell (p := ⟨p, 16, none⟩) lt).trans h
  have k1 : (cutW w t n).cell? ⟨w.heap.size, 0, none⟩ = some (.int .i64 t) := row_cell (heap_past (by simp) (heap_alloc_last w _)) rfl
  have k2 : (cutW w t n).cell? ⟨w.heap.size + 1, 0, none⟩ = some (.int .i64 n) := row_cell (heap_at (w := w.alloc _) _ (by simp)) rfl
  have b1 : decide (t < 0) = false := by simp; omega
  have b2 : decide (4 ≤ t) = true := by simp; omega
  go_enter Tryz.func76, Tryz.ntmps76
  go_wp2_with (go_at_call 45; refine (none_at p true _ h').mono ?_; rintro e w' ⟨rfl, rfl⟩)
  go_quiet (fail)
  go_wp2
  go_ret
  exact ⟨rfl, below_drewN hb nq⟩

set_option maxRecDepth 100000 in
set_option maxHeartbeats 400000 in
theorem cut_bad3 (p : Nat) (t n : Int) (w : World) (h : w.cell? ⟨p, 16, none⟩ = some (.bool true)) (h1 : ¬ t < 0) (h2 : ¬ 4 ≤ t) (h3 : n < 0) :
    Calls Tryz.prog 76 #[.pointer (some ⟨p, 0, none⟩), .int .i64 t, .int .i64 n] w fun e w' => e = .returned (.int .i64 4) ∧ Below w.heap.size w w' := by
  have hb := cutW_below w t n
  have lt := block_lt_of_cell h
  have h' := (hb.cell (p := ⟨p, 16, none⟩) lt).trans h
  have k1 : (cutW w t n).cell? ⟨w.heap.size, 0, none⟩ = some (.int .i64 t) := row_cell (heap_past (by simp) (heap_alloc_last w _)) rfl
  have k2 : (cutW w t n).cell? ⟨w.heap.size + 1, 0, none⟩ = some (.int .i64 n) := row_cell (heap_at (w := w.alloc _) _ (by simp)) rfl
  have b1 : decide (t < 0) = false := by simp; omega
  have b2 : decide (4 ≤ t) = false := by simp; omega
  have b3 : decide (n < 0) = true := by simp; omega
  go_enter Tryz.func76, Tryz.ntmps76
  go_wp2_with (go_at_call 45; refine (none_at p true _ h').mono ?_; rintro e w' ⟨rfl, rfl⟩)
  go_quiet (fail)
  go_wp2
  go_ret
  exact ⟨rfl, below_drewN hb nq⟩

theorem cut_bad (p : Nat) (t n : Int) (w : World) (h : w.cell? ⟨p, 16, none⟩ = some (.bool true)) (hn : t < 0 ∨ (¬ t < 0 ∧ 4 ≤ t) ∨ (¬ t < 0 ∧ ¬ 4 ≤ t ∧ n < 0)) :
    Calls Tryz.prog 76 #[.pointer (some ⟨p, 0, none⟩), .int .i64 t, .int .i64 n] w fun e w' => e = .returned (.int .i64 4) ∧ Below w.heap.size w w' := by
  rcases hn with h1 | ⟨h1, h2⟩ | ⟨h1, h2, h3⟩
  · exact cut_bad1 p t n w h h1
  · exact cut_bad2 p t n w h h1 h2
  · exact cut_bad3 p t n w h h1 h2 h3

set_option maxRecDepth 100000 in
set_option maxHeartbeats 1000000 in
theorem cut_long (p t len c : Nat) (a : Option Addr) (n : Int) (w : World) (h : w.cell? ⟨p, 16, none⟩ = some (.bool true)) (ht : t < 4) (hq : w.cell? ⟨p, 1 + t, none⟩ = some (.slice a len c)) (hn : (len : Int) < n) :
    Calls Tryz.prog 76 #[.pointer (some ⟨p, 0, none⟩), .int .i64 t, .int .i64 n] w fun e w' => e = .returned (.int .i64 4) ∧ Below w.heap.size w w' := by
  have hb := cutW_below w t n
  have lt := block_lt_of_cell h
  have h' := (hb.cell (p := ⟨p, 16, none⟩) lt).trans h
  have k1 : (cutW w t n).cell? ⟨w.heap.size, 0, none⟩ = some (.int .i64 t) := row_cell (heap_past (by simp) (heap_alloc_last w _)) rfl
  have k2 : (cutW w t n).cell? ⟨w.heap.size + 1, 0, none⟩ = some (.int .i64 n) := row_cell (heap_at (w := w.alloc _) _ (by simp)) rfl
  have k3 : (cutW w t n).cell? ⟨p, 1 + t, none⟩ = some (.slice a len c) := (hb.cell (p := ⟨p, 1 + t, none⟩) lt).trans hq
  have h1 : ¬ (t : Int) < 0 := by omega
  have h2 : ¬ 4 ≤ (t : Int) := by omega
  have h3 : ¬ n < 0 := by omega
  have h4 : (0 : Int) ≤ t := by omega
  have h5 : (t : Int) < 4 := by omega
  have h6 : ¬ 4 ≤ t := by omega
  go_enter Tryz.func76, Tryz.ntmps76
  go_wp2_with (go_at_call 45; refine (none_at p true _ h').mono ?_; rintro e w' ⟨rfl, rfl⟩)
  go_quiet (fail)
  go_wp2
  go_ret
  exact ⟨rfl, below_drewN hb nq⟩

set_option maxRecDepth 100000 in
set_option maxHeartbeats 1000000 in
theorem cut_live (p t len c n : Nat) (a : Option Addr) (w : World) (R : Ending → World → Prop) (h : w.cell? ⟨p, 16, none⟩ = some (.bool true)) (ht : t < 4) (hq : w.cell? ⟨p, 1 + t, none⟩ = some (.slice a len c)) (hn : n ≤ len)
    (hR : ∀ nq, Calls Tryz.prog 99 #[.pointer (some ⟨p, 0, none⟩), .agg #[.func (.func 122) #[] #[.pointer (some ⟨w.heap.size, 0, none⟩), .pointer (some ⟨w.heap.size + 1, 0, none⟩)],
        .func (.func 123) #[] #[], .int .i64 t, .int .i64 3, .int .i64 t, .int .i64 n, .string ⟨#[]⟩]] ((cutW w t n).drewN nq) fun e w' => ∃ k, e = .returned (.int .i64 k) ∧ R e w') :
    Calls Tryz.prog 76 #[.pointer (some ⟨p, 0, none⟩), .int .i64 t, .int .i64 n] w R := by
  have hb := cutW_below w t n
  have lt := block_lt_of_cell h
  have h' := (hb.cell (p := ⟨p, 16, none⟩) lt).trans h
  have k1 : (cutW w t n).cell? ⟨w.heap.size, 0, none⟩ = some (.int .i64 t) := row_cell (heap_past (by simp) (heap_alloc_last w _)) rfl
  have k2 : (cutW w t n).cell? ⟨w.heap.size + 1, 0, none⟩ = some (.int .i64 n) := row_cell (heap_at (w := w.alloc _) _ (by simp)) rfl
  have k3 : (cutW w t n).cell? ⟨p, 1 + t, none⟩ = some (.slice a len c) := (hb.cell (p := ⟨p, 1 + t, none⟩) lt).trans hq
  have h1 : ¬ (t : Int) < 0 := by omega
  have h2 : ¬ 4 ≤ (t : Int) := by omega
  have h3 : ¬ (n : Int) < 0 := by omega
  have h4 : (0 : Int) ≤ t := by omega
  have h5 : (t : Int) < 4 := by omega
  have h6 : ¬ 4 ≤ t := by omega
  have h7 : ¬ len < n := by omega
  have HR := Lib.hid hR
  clear hR
  go_enter Tryz.func76, Tryz.ntmps76
  go_wp2_with (go_at_call 45; refine (none_at p true _ h').mono ?_; rintro e w' ⟨rfl, rfl⟩)
  go_quiet (fail)
  go_wp2_with (go_at_call 99; refine (HR.out nq).mono ?_; rintro e w' ⟨k, rfl, hr⟩)
  exact hr

theorem cut_ok {d : D} (h : d.ok) (t n : Int) : ∀ k, ((d.stand.done ⟨3, t, n, []⟩).tp k).length ≤ d.room := by
  intro k
  have := stand_tapes h k
  by_cases hk : k = t
  · subst hk
    simp [St.done, upd]
    omega
  · simp [St.done, upd, hk]
    exact this

/-- A tape is cut. -/
theorem cut_c {p m : Nat} {d : D} {F : Nat → Prop} {w : World} (x : DiskAt w.heap p m d F) (t n : Int) (hn : d.waits.length ≤ 1000000000000) :
    Calls Tryz.prog 76 #[.pointer (some ⟨p, 0, none⟩), .int .i64 t, .int .i64 n] w (Left w p m F (d.cut t n)) := by
  obtain ⟨k16, k11, k12, _⟩ := x.cell16
  by_cases h1 : t < 0 ∨ t > 3 ∨ n < 0
  · have e : d.cut t n = (d, 4) := by
      unfold D.cut
      rw [if_pos (by omega)]
    rw [e]
    refine (cut_bad p t n w k16 (by omega)).mono ?_
    rintro e w' ⟨rfl, hb⟩
    exact left_below x hb
  · obtain ⟨t, rfl, ht⟩ := natOf (n := t) (k := 3) (by omega) (by omega)
    obtain ⟨ml, l0, l1, l2, l3, wv, stops, after, sa, ra⟩ := x.parts
    obtain ⟨v, hv, hf, bv⟩ := sa.cell.2 t (by omega)
    obtain ⟨a, c, rfl⟩ := bv.slice
    by_cases h2 : n > (d.stand.tp t).length
    · have e : d.cut t n = (d, 4) := by
        unfold D.cut
        rw [if_pos (by omega)]
      rw [e]
      refine (cut_long p t _ c a n w k16 (by omega) hv h2).mono ?_
      rintro e w' ⟨rfl, hb⟩
      exact left_below x hb
    · have e : d.cut t n = d.step ⟨3, t, n, []⟩ := by
        unfold D.cut
        rw [if_neg (by omega)]
      rw [e]
      have hl := stand_tapes x.ok t
      have hr := x.ok.room1
      obtain ⟨n, rfl, hn1⟩ := natOf (n := n) (k := 1048576) (by omega) (by omega)
      refine cut_live p t _ c n a w _ k16 (by omega) hv (by omega) ?_
      intro nq
      have hb0 := cutW_below w t n
      have hb : Below w.heap.size w ((cutW w t n).drewN nq) := below_drewN hb0 nq
      have x1 := x.plus hb
      have hok : (⟨3, t, n, []⟩ : Step).ok d.many := Or.inr (Or.inr ⟨rfl, by show (0 : Int) ≤ t; omega, by show (t : Int) ≤ 3; omega, by show (0 : Int) ≤ n; omega, by show (n : Int) ≤ 1048576; omega, rfl⟩)
      have hz : ((cutW w t n).drewN nq).heap.size = w.heap.size + 2 := by show (cutW w t n).heap.size = _; simp
      have st : StepAt ((cutW w t n).drewN nq).heap (plus F w ((cutW w t n).drewN nq)) ⟨3, t, n, []⟩ (.func (.func 122) #[] #[.pointer (some ⟨w.heap.size, 0, none⟩), .pointer (some ⟨w.heap.size + 1, 0, none⟩)])
          (.func (.func 123) #[] #[]) (.int .i64 t) (.int .i64 3) (.int .i64 t) (.int .i64 n) (.string ⟨#[]⟩) :=
        ⟨rfl, rfl, rfl, ⟨_, rfl, rfl⟩, Or.inr (Or.inr ⟨rfl, rfl, w.heap.size, w.heap.size + 1, Or.inr ⟨by omega, by omega⟩, Or.inr ⟨by omega, by omega⟩, rfl, rfl, heap_past (by simp) (heap_alloc_last w _), heap_at (w := w.alloc _) _ (by simp)⟩)⟩
      refine (step_c x1 ⟨3, t, n, []⟩ hok hn (cut_ok x.ok _ _) st).mono ?_
      rintro e w' h
      exact ⟨_, h.1, left_later x hb h⟩

end Go.Proofs.YtgffifleflkjoaaGreat

namespace Go.Proofs.YtgffifleflkjoaaGreat
open Go.RowKit Dm

/-- A slice of bytes of one's own: a whole block from base on. -/
def FreshBytes (h : Array Obj) (base : Nat) (v : Value) (l : List UInt8) : Prop :=
  (v = .slice none 0 0 ∧ l = []) ∨ ∃ (b cap : Nat) (c : Array Value) (t : TypeId), v = .slice (some ⟨b, 0, none⟩) l.length cap ∧ l.length ≤ cap ∧ cap ≤ 9223372036854775807 ∧
    base ≤ b ∧ h[b]? = some (.cells c t (0, 0)) ∧ ∀ (i : Nat) (x : UInt8), l[i]? = some x → c[i]? = some (bval x)

theorem FreshBytes.bytes {h : Array Obj} {base : Nat} {v : Value} {l : List UInt8} (x : FreshBytes h base v l) : BytesAt h (fun k => base ≤ k) v l := by
  rcases x with x | ⟨b, cap, c, t, h1, h2, h3, h4, h5, h6⟩
  · exact Or.inl x
  · exact Or.inr ⟨b, 0, cap, c, t, (0, 0), h1, h2, h3, h4, h5, fun i x hi => by rw [Nat.zero_add]; exact h6 i x hi⟩

theorem FreshBytes.mono {h : Array Obj} {base base' : Nat} {v : Value} {l : List UInt8} (x : FreshBytes h base v l) (hb : base' ≤ base) : FreshBytes h base' v l := by
  rcases x with x | ⟨b, cap, c, t, h1, h2, h3, h4, h5, h6⟩
  · exact Or.inl x
  · exact Or.inr ⟨b, cap, c, t, h1, h2, h3, by omega, h5, h6⟩

theorem fresh_of_owns {w : World} {base : Nat} {v : Value} {n : Nat} {l : List UInt8} (h : w.ownsRow base tByte 1 v n (l.map bval)) (hn : n = l.length) : FreshBytes w.heap base v l := by
  subst hn
  obtain ⟨_, h⟩ := h
  rcases h with ⟨rfl, h⟩ | ⟨g, cap, cur, rfl, hg, hh, h1, h2, h3, h4⟩
  · exact Or.inl ⟨rfl, by simpa using h⟩
  · refine Or.inr ⟨g, cap, cur, tByte, rfl, h1, by unfold maxLen at h2; omega, hg, hh, fun i x hi => ?_⟩
    have hlt : i < l.length := (List.getElem?_eq_some_iff.1 hi).1
    have e : (cur.toList.take (l.length * 1))[i]? = some (bval x) := by rw [h4]; simp [hi]
    rw [List.getElem?_take, if_pos (by omega)] at e
    simpa using e

/-- A call that hands back new bytes. -/
def GivesFresh (w : World) (l : List UInt8) (e : Ending) (w' : World) : Prop := ∃ v', e = .returned v' ∧ Below w.heap.size w w' ∧ FreshBytes w'.heap w.heap.size v' l

set_option maxRecDepth 100000 in
theorem clone_fresh (b o cap : Nat) (l : List UInt8) (w : World) (hl : l.length ≤ 1099511627776) (hc : ∀ i x, l[i]? = some x → w.cell? ⟨b, o + i, none⟩ = some (bval x)) :
    Calls Tryz.prog 98 #[.slice (some ⟨b, o, none⟩) l.length cap] w (GivesFresh w l) := by
  obtain ⟨i0, hi, hz0, hz1, hz2⟩ := info_parts infoByte
  have hown : (w.alloc (.cells #[] tByte)).ownsRow w.heap.size tByte 1 (.slice (some ⟨w.heap.size, 0, none⟩) 0 0) 0 [] :=
    ⟨rfl, Or.inr ⟨w.heap.size, 0, #[], rfl, Nat.le_refl _, heap_alloc_last _ _, Nat.le_refl _, Nat.zero_le _, rfl, rfl⟩⟩
  have HC := Lib.hid hc
  have HO := Lib.hid hown
  have HI := Lib.hid (And.intro hi (And.intro hz0 (And.intro hz1 hz2)))
  clear hc hown hi hz0 hz1 hz2
  have s2 : ∀ j u, (l.map bval)[j]? = some u → (w.alloc (.cells #[] tByte)).cell? ((⟨b, o, none⟩ : Addr).add j) = some u := by
    intro j u hj
    obtain ⟨x, hx, rfl⟩ : ∃ x, l[j]? = some x ∧ bval x = u := by simpa using hj
    have hadd : (⟨b, o, none⟩ : Addr).add j = ⟨b, o + j, none⟩ := by unfold Addr.add; split <;> simp_all
    have hc := HC.out j x hx
    rw [hadd, World.cell?_alloc_past _ _ _ (block_lt_of_cell hc)]
    exact hc
  have s3 : ∀ u ∈ l.map bval, u.oneCell' = true := by
    intro u hu
    obtain ⟨x, _, rfl⟩ := List.mem_map.1 hu
    rfl
  have HS := Lib.hid (And.intro s2 s3)
  clear s2 s3
  have hnil := fun (w : World) (a : Option Addr) (n c : Nat) => Lib.run_eql_slice_nil (P := Tryz.prog) w 31 tByte a n c 0 0 Tryz.underlying31
  go_enter Tryz.func98, Tryz.ntmps98
  go_wp2_with (at_builtin; refine wpList_append_own _ rfl (.tmp 5) (.tmp 6) 31 rfl w.heap.size tByte i0 (.int .u8 0) 1 1 Tryz.underlying31 HI.out.1 HI.out.2.1 HI.out.2.2.1 HI.out.2.2.2 rfl (by decide) _ 0 [] rfl HO.out ⟨b, o, none⟩ l.length cap (l.map bval) rfl (by simp) HS.out.1 HS.out.2 (by unfold maxLen; omega) (by omega) (by simp) ?_; intro v' w1 hown1 hgrow _)
  go_ret
  refine ⟨_, rfl, (((Below.refl _ _).alloc (Nat.le_refl _) _).grown hgrow (by simp) (fun k e => by cases e; exact Nat.le_refl _)), ?_⟩
  rw [List.nil_append] at hown1
  exact fresh_of_owns hown1 (by simp)

theorem clone_f {w : World} {G : Nat → Prop} {v : Value} {l : List UInt8} (x : BytesAt w.heap G v l) (hl : l.length ≤ 1099511627776) : Calls Tryz.prog 98 #[v] w (GivesFresh w l) := by
  rcases x with ⟨rfl, rfl⟩ | ⟨b, o, cap, c, t, fr, rfl, h2, h3, g2, g3, g4⟩
  · refine (clone_nil w).mono ?_
    rintro e w' ⟨rfl, rfl⟩
    exact ⟨_, rfl, Below.refl _ _, Or.inl ⟨rfl, rfl⟩⟩
  · exact clone_fresh b o cap l w hl (fun i x hi => (cell_of_row _ _ _ _ _ _ g3).trans (g4 i x hi))

/-! Tape. -/
theorem tape_none (v : Value) (t : Int) (w : World) (h : NoneD w v) : Calls Tryz.prog 61 #[v, .int .i64 t] w fun e w' => e = .returned (.tuple #[.slice none 0 0, .int .i64 1]) ∧ w = w' := by
  have H := Lib.hid h
  clear h
  go_enter Tryz.func61, Tryz.ntmps61
  go_wp2_with (go_at_call 45; refine (none_c H.out).mono ?_; rintro e w' ⟨rfl, rfl⟩)
  go_ret2
  exact ⟨rfl, rfl⟩

theorem tape_range (p : Nat) (t : Int) (w : World) (h : w.cell? ⟨p, 16, none⟩ = some (.bool true)) (hn : t < 0 ∨ 4 ≤ t) : Calls Tryz.prog 61 #[.pointer (some ⟨p, 0, none⟩), .int .i64 t] w fun e w' => e = .returned (.tuple #[.slice none 0 0, .int .i64 4]) ∧ w = w' := by
  by_cases hn0 : t < 0
  all_goals
    have hn2 : ¬ t < 0 → 4 ≤ t := fun h => by omega
    simp only [hn0, not_true_eq_false, not_false_eq_true, forall_const, false_implies] at hn2
    go_enter Tryz.func61, Tryz.ntmps61
    go_wp2_with (go_at_call 45; refine (none_at p true _ h).mono ?_; rintro e w' ⟨rfl, rfl⟩)
    go_ret2
    exact ⟨rfl, rfl⟩

theorem tape_live (p t : Nat) (v : Value) (l : List UInt8) (w : World) (F : Nat → Prop) (h : w.cell? ⟨p, 16, none⟩ = some (.bool true)) (ht : t < 4) (hq : w.cell? ⟨p, 1 + t, none⟩ = some v) (hv : BytesAt w.heap F v l) (hl : l.length ≤ 1099511627776) :
    Calls Tryz.prog 61 #[.pointer (some ⟨p, 0, none⟩), .int .i64 t] w fun e w' => ∃ v', e = .returned (.tuple #[v', .int .i64 0]) ∧ Below w.heap.size w w' ∧ FreshBytes w'.heap w.heap.size v' l := by
  have h1 : ¬ (t : Int) < 0 := by omega
  have h2 : ¬ 4 ≤ (t : Int) := by omega
  have h4 : (0 : Int) ≤ t := by omega
  have h5 : (t : Int) < 4 := by omega
  have h6 : ¬ 4 ≤ t := by omega
  have H := Lib.hid (clone_f hv hl)
  clear hv
  go_enter Tryz.func61, Tryz.ntmps61
  go_wp2_with (first | (go_at_call 45; refine (none_at p true _ h).mono ?_; rintro e w' ⟨rfl, rfl⟩) | (go_at_call 98; refine H.out.mono ?_; rintro e w' ⟨v', rfl, hb⟩))
  go_ret2
  exact ⟨v', rfl, hb⟩

/-- What a call that tells bytes hands back. -/
def Tells (w : World) (l : List UInt8) (c : Int) (e : Ending) (w' : World) : Prop := ∃ v', e = .returned (.tuple #[v', .int .i64 c]) ∧ Below w.heap.size w w' ∧ FreshBytes w'.heap w.heap.size v' l

theorem tape_c {p m : Nat} {d : D} {F : Nat → Prop} {w : World} (x : DiskAt w.heap p m d F) (t : Int) : Calls Tryz.prog 61 #[.pointer (some ⟨p, 0, none⟩), .int .i64 t] w
    (Tells w (if t < 0 ∨ t > 3 then [] else d.stand.tp t) (if t < 0 ∨ t > 3 then 4 else 0)) := by
  obtain ⟨k16, k11, k12, k13⟩ := x.cell16
  by_cases h1 : t < 0 ∨ t > 3
  · rw [if_pos h1, if_pos h1]
    refine (tape_range p t w k16 (by omega)).mono ?_
    rintro e w' ⟨rfl, rfl⟩
    exact ⟨_, rfl, Below.refl _ _, Or.inl ⟨rfl, rfl⟩⟩
  · rw [if_neg h1, if_neg h1]
    obtain ⟨t, rfl, ht⟩ := natOf (n := t) (k := 3) (by omega) (by omega)
    obtain ⟨ml, l0, l1, l2, l3, wv, stops, after, sa, ra⟩ := x.parts
    obtain ⟨v, hv, hf, bv⟩ := sa.cell.2 t (by omega)
    have := stand_tapes x.ok t
    have := x.ok.room1
    exact tape_live p t v _ w F k16 (by omega) hv bv (by omega)

/-! Read. -/
end Go.Proofs.YtgffifleflkjoaaGreat

namespace Go.Proofs.YtgffifleflkjoaaGreat
open Go.RowKit Dm

/-- A slice of m elements, of so many cells each, that holds the cells news. -/
def SrcAt (w : World) (size : Nat) (v : Value) (m : Nat) (news : List Value) : Prop :=
  (v = .slice none 0 0 ∧ m = 0 ∧ news = []) ∨ ∃ ad c, v = .slice (some ad) m c ∧ news.length = m * size ∧ (∀ (j : Nat) u, news[j]? = some u → w.cell? (ad.add j) = some u) ∧ ∀ u ∈ news, u.oneCell' = true

section
variable {P : Program} {ops : Array Oper}
theorem wpList_append_row {rest : List Oper} {o : Oper} {a : Act} {w : World} {Q : Exit → Act → World → Prop} (hgd : o.guard = none) (s x : Operand) (t : TypeId)
    (ho : o.op = .call { callee := .builtin .append, args := #[s, x], argTypes := #[t, t] })
    (B base : Nat) (w0 : World) (hb : Below B w0 w) (hB : B ≤ base) (e : TypeId) (z : Value) (size bytes : Nat) (ht : P.underlying t = some (.slice e)) (hi : (P.info? e).map (fun i => (i.zero, i.size, i.bytes)) = some (some z, size, bytes))
    (hzs : z.cells.size = size) (hsz : 0 < size)
    (v : Value) (n : Nat) (xs : List Value) (hs : a.eval s = v) (hown : w.ownsRow base e size v n xs)
    (v2 : Value) (m : Nat) (news : List Value) (hx : a.eval x = v2) (hsrc : SrcAt w size v2 m news)
    (h63 : n + m ≤ maxLen) (hbytes : (n + m) * bytes ≤ 140737488355328) (hbase : base ≤ w.heap.size)
    (h : ∀ v' w', Hid (w'.ownsRow base e size v' (n + m) (xs ++ news)) → Below B w0 w' → Below base w w' → wpList P ops Q rest (a.put o.dst v') w') : wpList P ops Q (o :: rest) a w := by
  obtain ⟨i0, hi0, hz0, hz1, hz2⟩ := info_parts hi
  have hob : ∀ k, v.ownBlock = some k → base ≤ k := fun k e => by
    rcases hown.2 with ⟨h, _⟩ | ⟨g, cap, cur, h, hg, _⟩
    · rw [h] at e; cases e
    · rw [h] at e; cases e; exact hg
  rcases hsrc with ⟨rfl, rfl, rfl⟩ | ⟨ad, c, rfl, g1, g2, g3⟩
  · refine wpList_append_own_none hgd s x t ho base e i0 size ht hi0 v n xs hs hown hx (h v w ?_ hb (Below.refl _ _))
    rw [List.append_nil, Nat.add_zero]
    exact hown
  · refine wpList_append_own w hgd s x t ho base e i0 z size bytes ht hi0 hz0 hz1 hz2 hzs hsz v n xs hs hown ad m c news hx g1 g2 g3 h63 hbytes hbase ?_
    intro v' w' ho' hg _
    exact h v' w' ho' (hb.grown hg (by omega) (fun k e => by have := hob k e; omega)) ((Below.refl _ _).grown hg hbase hob)
end

/-- Bytes of one's own. -/
abbrev OwnB (w : World) (base : Nat) (v : Value) (l : List UInt8) : Prop := w.ownsRow base tByte 1 v l.length (l.map bval)

theorem BytesAt.src {w : World} {G : Nat → Prop} {v : Value} {l : List UInt8} (x : BytesAt w.heap G v l) : SrcAt w 1 v l.length (l.map bval) := by
  rcases x with ⟨rfl, rfl⟩ | ⟨b, o, cap, c, t, fr, rfl, h2, h3, g2, g3, g4⟩
  · exact Or.inl ⟨rfl, rfl, rfl⟩
  · refine Or.inr ⟨⟨b, o, none⟩, cap, rfl, by simp, fun j u hj => ?_, fun u hu => ?_⟩
    · obtain ⟨x, hx, rfl⟩ : ∃ x, l[j]? = some x ∧ bval x = u := by simpa using hj
      rw [addr_add, cell_of_row _ _ _ _ _ _ g3]
      exact g4 j x hx
    · obtain ⟨x, _, rfl⟩ := List.mem_map.1 hu
      rfl

theorem own_empty (w : World) : OwnB (w.alloc (.cells #[] tByte)) w.heap.size (.slice (some ⟨w.heap.size, 0, none⟩) 0 0) [] :=
  ⟨rfl, Or.inr ⟨w.heap.size, 0, #[], rfl, Nat.le_refl _, heap_alloc_last _ _, Nat.le_refl _, Nat.zero_le _, rfl, rfl⟩⟩

theorem OwnB.bytes {w : World} {base : Nat} {v : Value} {l : List UInt8} (h : OwnB w base v l) : FreshBytes w.heap base v l := fresh_of_owns h rfl

theorem wpList_append_bytes {ops : Array Oper} {rest : List Oper} {o : Oper} {a : Act} {w : World} {Q : Exit → Act → World → Prop} (hgd : o.guard = none) (s x : Operand)
    (ho : o.op = .call { callee := .builtin .append, args := #[s, x], argTypes := #[tBytes, tBytes] })
    (B base : Nat) (w0 : World) (hb : Below B w0 w) (hB : B ≤ base) (v : Value) (l1 : List UInt8) (hs : a.eval s = v) (hown : OwnB w base v l1)
    (v2 : Value) (l2 : List UInt8) (G : Nat → Prop) (hx : a.eval x = v2) (hsrc : BytesAt w.heap G v2 l2)
    (hl : l1.length + l2.length ≤ 1099511627776) (hbase : base ≤ w.heap.size)
    (h : ∀ v' w', Hid (OwnB w' base v' (l1 ++ l2)) → Below B w0 w' → Below base w w' → wpList Tryz.prog ops Q rest (a.put o.dst v') w') : wpList Tryz.prog ops Q (o :: rest) a w := by
  refine wpList_append_row hgd s x tBytes ho B base w0 hb hB tByte (.int .u8 0) 1 1 Tryz.underlying31 infoByte rfl (by decide) v l1.length (l1.map bval) hs hown v2 l2.length (l2.map bval) hx hsrc.src (by unfold maxLen; omega) (by omega) hbase ?_
  intro v' w' ho' h1 h2
  refine h v' w' ?_ h1 h2
  have := ho'.out
  unfold OwnB
  rw [List.length_append, List.map_append]
  exact this

end Go.Proofs.YtgffifleflkjoaaGreat

namespace Go.Proofs.YtgffifleflkjoaaGreat
open Go.RowKit

theorem low_succ (n k : Nat) : Cm.low n (k + 1) = Cm.low n k ++ [UInt8.ofNat (n / 256 ^ k % 256)] := by
  unfold Cm.low
  rw [List.range_succ, List.map_append]
  rfl

theorem own_nil (w : World) (base : Nat) : OwnB w base (.slice none 0 0) [] := ⟨rfl, Or.inl ⟨rfl, rfl⟩⟩

theorem one_byte (wr : World) (x : Int) (u : UInt8) (h : x = u.toNat) : BytesAt (wr.alloc (.cells #[.int .u8 x] tByte)).heap (fun _ => True) (.slice (some ⟨wr.heap.size, 0, none⟩) 1 1) [u] := by
  refine Or.inr ⟨wr.heap.size, 0, 1, _, _, (0, 0), rfl, Nat.le_refl _, by decide, trivial, heap_alloc_last wr _, fun i y hi => ?_⟩
  match i, hi with
  | 0, hi => cases hi; rw [h]; rfl
  | i + 1, hi => simp at hi

theorem byte_of (n d : Nat) (x : Int) (h : x = ((n / d % 256 : Nat) : Int)) : x = ((UInt8.ofNat (n / d % 256)).toNat : Int) := by
  rw [h, UInt8.toNat_ofNat']
  congr 1
  exact (Nat.mod_eq_of_lt (Nat.mod_lt _ (by decide))).symm

/-- A call that hands back new bytes. -/
def GivesB (w : World) (l : List UInt8) (e : Ending) (w' : World) : Prop := ∃ v, e = .returned v ∧ OwnB w' w.heap.size v l ∧ Below w.heap.size w w'

set_option maxRecDepth 100000 in
set_option maxHeartbeats 2000000 in
theorem crcLow_c (n : Nat) (w : World) (hn : n < 4294967296) : Calls Tryz.prog 171 #[w32 n] w (GivesB w (Cm.low n 4)) := by
  have h0 : (0 : Int) ≤ (n : Int) := by omega
  have h1 : (n : Int) < 4294967296 := by omega
  go_enter Tryz.func171, Tryz.ntmps171
  go_wp2
  go_loopw [2, 3, 4] (fun v _ s wr => ∃ k : Nat, k ≤ 4 ∧ s = .int .i64 (k : Int) ∧ OwnB wr w.heap.size v (Cm.low n k) ∧ Below w.heap.size w wr) (fun _ _ s _ => 4 - (intOf s).toNat)
  case atStart => exact ⟨0, by omega, rfl, own_nil _ _, Below.refl _ _⟩
  case round =>
    obtain ⟨k, hk, rfl, hown, hb⟩ := hrel
    have HO := Lib.hid (And.intro hown hb)
    clear hown hb
    by_cases hlt : k < 4
    · obtain rfl | rfl | rfl | rfl : k = 0 ∨ k = 1 ∨ k = 2 ∨ k = 3 := by omega
      · go_wp2_with (at_builtin; refine wpList_append_bytes rfl (.tmp 7) (.tmp 13) rfl w.heap.size w.heap.size w (HO.out.2.alloc HO.out.2.size _) (Nat.le_refl _) _ (Cm.low n 0) rfl (owns_below HO.out.1 ((Below.refl _ _).alloc (Nat.le_refl _) _) (Nat.le_refl _)) _ [UInt8.ofNat (n / 1 % 256)] (fun _ => True) rfl (one_byte wr _ _ (byte_of n 1 _ (by omega))) (by rw [Cm.low_length]; simp) (by have := HO.out.2.size; simp; omega) ?_; intro v' w2 ho hb1 hb2)
        have H2 := Lib.hid (And.intro ho.out hb1)
        clear ho hb1 hb2
        go_wp2
        go_roundw
        case rel => exact ⟨0 + 1, by omega, by go_num, H2.out.1, H2.out.2⟩
        case measure => simp [intOf]
      · go_wp2_with (at_builtin; refine wpList_append_bytes rfl (.tmp 7) (.tmp 13) rfl w.heap.size w.heap.size w (HO.out.2.alloc HO.out.2.size _) (Nat.le_refl _) _ (Cm.low n 1) rfl (owns_below HO.out.1 ((Below.refl _ _).alloc (Nat.le_refl _) _) (Nat.le_refl _)) _ [UInt8.ofNat (n / 256 % 256)] (fun _ => True) rfl (one_byte wr _ _ (byte_of n 256 _ (by omega))) (by rw [Cm.low_length]; simp) (by have := HO.out.2.size; simp; omega) ?_; intro v' w2 ho hb1 hb2)
        have H2 := Lib.hid (And.intro ho.out hb1)
        clear ho hb1 hb2
        go_wp2
        go_roundw
        case rel => exact ⟨1 + 1, by omega, by go_num, H2.out.1, H2.out.2⟩
        case measure => simp [intOf]
      · go_wp2_with (at_builtin; refine wpList_append_bytes rfl (.tmp 7) (.tmp 13) rfl w.heap.size w.heap.size w (HO.out.2.alloc HO.out.2.size _) (Nat.le_refl _) _ (Cm.low n 2) rfl (owns_below HO.out.1 ((Below.refl _ _).alloc (Nat.le_refl _) _) (Nat.le_refl _)) _ [UInt8.ofNat (n / 65536 % 256)] (fun _ => True) rfl (one_byte wr _ _ (byte_of n 65536 _ (by omega))) (by rw [Cm.low_length]; simp) (by have := HO.out.2.size; simp; omega) ?_; intro v' w2 ho hb1 hb2)
        have H2 := Lib.hid (And.intro ho.out hb1)
        clear ho hb1 hb2
        go_wp2
        go_roundw
        case rel => exact ⟨2 + 1, by omega, by go_num, H2.out.1, H2.out.2⟩
        case measure => simp [intOf]
      · go_wp2_with (at_builtin; refine wpList_append_bytes rfl (.tmp 7) (.tmp 13) rfl w.heap.size w.heap.size w (HO.out.2.alloc HO.out.2.size _) (Nat.le_refl _) _ (Cm.low n 3) rfl (owns_below HO.out.1 ((Below.refl _ _).alloc (Nat.le_refl _) _) (Nat.le_refl _)) _ [UInt8.ofNat (n / 16777216 % 256)] (fun _ => True) rfl (one_byte wr _ _ (byte_of n 16777216 _ (by omega))) (by rw [Cm.low_length]; simp) (by have := HO.out.2.size; simp; omega) ?_; intro v' w2 ho hb1 hb2)
        have H2 := Lib.hid (And.intro ho.out hb1)
        clear ho hb1 hb2
        go_wp2
        go_roundw
        case rel => exact ⟨3 + 1, by omega, by go_num, H2.out.1, H2.out.2⟩
        case measure => simp [intOf]
    · obtain rfl : k = 4 := by omega
      go_wp2
      go_ret
      exact ⟨_, rfl, HO.out.1, HO.out.2⟩

end Go.Proofs.YtgffifleflkjoaaGreat

namespace Go.Proofs.YtgffifleflkjoaaGreat
open Go.RowKit

theorem zeros_size (n : Nat) : (Builtin.zeroCells #[Value.int .u8 0] n).size = n := by simp [Builtin.zeroCells]

set_option maxRecDepth 100000 in
set_option maxHeartbeats 2000000 in
theorem grow_c (n : Nat) (w : World) (hn : n ≤ 1099511627776) : Calls Tryz.prog 215 #[.slice none 0 0, .int .i64 n] w (GivesB w []) := by
  have h0 : (0 : Int) ≤ (n : Int) := by omega
  have h00 : ¬ (n : Int) < 0 := by omega
  have h1 : (n : Int) ≤ 1099511627776 := by omega
  rcases Nat.eq_zero_or_pos n with rfl | hpos
  · go_enter Tryz.func215, Tryz.ntmps215
    go_wp2
    go_ret
    exact ⟨_, rfl, own_nil _ _, Below.refl _ _⟩
  · have hp : (0 : Int) < (n : Int) := by omega
    obtain ⟨i0, hi0, hz0, hz1, hz2⟩ := info_parts infoByte
    have HR := Lib.hid (Lib.run_append_nil_zeros (P := Tryz.prog) w tBytes 3 tBytes tByte i0 (.int .u8 0) .i64 .i64 Tryz.underlying31 Tryz.underlying3 hi0 hz0 n hpos (by rw [hz1]; decide) (by omega) (by rw [hz2]; omega))
    go_enter Tryz.func215, Tryz.ntmps215
    go_wp2_with (at_builtin; refine Lib.wpList_append_run _ rfl (.tmp 20) (.tmp 21) _ _ rfl _ _ rfl rfl _ _ HR.out ?_)
    go_ret
    refine ⟨_, rfl, World.ownsRow_made w _ (grownCap w n 0 tByte) (Nat.le_refl _) (grownCap_le_maxLen w n 0 tByte (by unfold maxLen; omega)) ?_, ((Below.refl _ _).alloc (Nat.le_refl _) _).drew⟩
    have hg := grownCap_ge w n 0 tByte
    rw [Array.size_append, zeros_size, zeros_size]
    omega

theorem OnePart.cell {w w' : World} {F : Nat → Prop} {b : Nat} {v : Value} {l : List UInt8} (h : w.cell? ⟨b, 0, none⟩ = some v ∧ BytesAt w.heap F v l) (hb : Below w.heap.size w w') : w'.cell? ⟨b, 0, none⟩ = some v ∧ BytesAt w'.heap F v l :=
  ⟨(hb.cell (p := ⟨b, 0, none⟩) (block_lt_of_cell h.1)).trans h.1, h.2.below hb⟩

set_option maxRecDepth 100000 in
set_option maxHeartbeats 4000000 in
theorem concat_c {w : World} {F : Nat → Prop} {pv : Value} {l : List UInt8} (h : OnePart w F pv l) (hl : l.length ≤ 1099511627776) : Calls Tryz.prog 205 #[pv] w (GivesB w l) := by
  obtain ⟨b, v, rfl, hc, hv⟩ := h
  obtain ⟨va, vc, rfl⟩ := hv.slice
  have H := Lib.hid (And.intro hc hv)
  clear hv
  generalize hn : l.length = n at *
  have HN := Lib.hid hn
  clear hn
  have n0 : (0 : Int) ≤ (n : Int) := by omega
  have n1 : (n : Int) ≤ 1099511627776 := by omega
  have n2 : ¬ (n : Int) < 0 := by omega
  go_enter Tryz.func205, Tryz.ntmps205
  go_wp2
  go_loop [3, 5, 11] (fun z _ s => ∃ k : Nat, k ≤ 1 ∧ s = .int .i64 (k : Int) ∧ z = .int .i64 (if k = 0 then 0 else (n : Int))) (fun _ _ s => 1 - (intOf s).toNat)
  case atStart => exact ⟨0, by omega, rfl, rfl⟩
  case round =>
    obtain ⟨k, hk, rfl, rfl⟩ := hrel
    obtain rfl | rfl : k = 0 ∨ k = 1 := by omega
    · rw [if_pos rfl]
      go_wp2
      go_round
      case rel => exact ⟨1, by omega, by go_num, by rw [if_neg (by decide)]⟩
      case measure => simp [intOf]
    · rw [if_neg (by decide)]
      clear hc
      go_wp2_with (go_at_call 215; refine (grow_c n w hl).mono ?_; rintro e w1 ⟨gv, rfl, ho1, hb1⟩)
      have H1 := Lib.hid (And.intro ho1 hb1)
      clear ho1 hb1
      go_loopw [6, 8, 27] (fun x _ s wr => ∃ k : Nat, k ≤ 1 ∧ s = .int .i64 (k : Int) ∧ OwnB wr w.heap.size x (if k = 0 then [] else l) ∧ Below w.heap.size w wr) (fun _ _ s _ => 1 - (intOf s).toNat)
      case atStart => exact ⟨0, by omega, rfl, H1.out.1, H1.out.2⟩
      case round =>
        obtain ⟨k, hk, rfl, hown, hb⟩ := hrel
        obtain rfl | rfl : k = 0 ∨ k = 1 := by omega
        · rw [if_pos rfl] at hown
          obtain ⟨c1, c2⟩ := OnePart.cell H.out hb
          have HO := Lib.hid (And.intro hown (And.intro hb c2))
          clear hown hb c2
          go_wp2_with (at_builtin; (refine wpList_append_bytes rfl (.tmp 31) (.tmp 32) rfl w.heap.size w.heap.size w HO.out.2.1 (Nat.le_refl _) _ [] rfl HO.out.1 _ l F rfl HO.out.2.2 (by rw [HN.out]; simpa using hl) HO.out.2.1.size ?_); intro v' w2 ho hb1 hb2)
          have H2 := Lib.hid (And.intro ho.out hb1)
          clear ho hb1 hb2
          go_wp2
          go_roundw
          case rel => exact ⟨1, by omega, by go_num, by simpa using H2.out.1, H2.out.2⟩
          case measure => simp [intOf]
        · rw [if_neg (by decide)] at hown
          have HO := Lib.hid (And.intro hown hb)
          clear hown hb
          go_wp2
          go_ret
          exact ⟨_, rfl, HO.out.1, HO.out.2⟩

end Go.Proofs.YtgffifleflkjoaaGreat
