/-
  wire: a number's bytes, the highest ahead (printed by genhigh.py).
  wire: a number.
  wire: numbers of bytes, plain.
  evlog: an engine, in plain Lean.
  evlog: bounds of what an engine lays, plain.
-/
import Derived.Test.YtgffifleflkjoaaGreatG01
import Derived.Test.YtgffifleflkjoaaGreatG03
import Derived.Test.YtgffifleflkjoaaGreatG09
import Derived.Laws.BitsAllLaws
import Derived.Maps.Ext
import Derived.Sort.KeysCollected
import Derived.ChangeMaps

namespace Go.Proofs.YtgffifleflkjoaaGreat
open Go.RowKit

/-- The first so many bytes of a number's k lowest. -/
def hp (n k i : Nat) : List UInt8 := (List.range i).map fun j => UInt8.ofNat (n / 256 ^ (k - 1 - j) % 256)

theorem hp_succ (n k i : Nat) : hp n k (i + 1) = hp n k i ++ [UInt8.ofNat (n / 256 ^ (k - 1 - i) % 256)] := by
  unfold hp
  rw [List.range_succ, List.map_append]
  rfl

theorem hp_length (n k i : Nat) : (hp n k i).length = i := by simp [hp]

/-- A call that hands back bytes of one's own, the given ones ahead. -/
def GivesOn (w : World) (base : Nat) (v : Value) (l : List UInt8) (e : Ending) (w' : World) : Prop := ∃ v', e = .returned v' ∧ OwnB w' base v' l ∧ Below base w w' ∧ Adds w w' v v'

set_option maxRecDepth 100000 in
set_option maxHeartbeats 2000000 in
theorem high2_c (n : Nat) (w : World) (base : Nat) (hbase : base ≤ w.heap.size) (v : Value) (l : List UInt8) (hv : OwnB w base v l) (hl : l.length ≤ 1000000000) (hn : n < 9223372036854775808) :
    Calls Tryz.prog 182 #[v, .int .i64 n, .int .i64 2] w (GivesOn w base v (l ++ Wm.high n 2)) := by
  have h0 : (0 : Int) ≤ (n : Int) := by omega
  have h1 : (n : Int) < 9223372036854775808 := by omega
  have HB := Lib.hid (And.intro hbase hl)
  have HV := Lib.hid hv
  clear hbase hl hv
  go_enter Tryz.func182, Tryz.ntmps182
  go_wp2
  go_loopw [0, 7, 9] (fun x _ s wr => ∃ i : Nat, i ≤ 2 ∧ s = .int .i64 (i : Int) ∧ OwnB wr base x (l ++ hp n 2 i) ∧ Adds w wr v x ∧ w.heap.size ≤ wr.heap.size) (fun _ _ s _ => 2 - (intOf s).toNat)
  case atStart => exact ⟨0, by omega, rfl, by rw [show hp n 2 0 = [] from rfl, List.append_nil]; exact HV.out, Adds.refl _ _, Nat.le_refl _⟩
  case round =>
    obtain ⟨i, hi, rfl, hown, hb, hsz⟩ := hrel
    have HO := Lib.hid (And.intro hown (And.intro hb hsz))
    clear hown hb hsz
    by_cases hlt : i < 2
    · obtain rfl | rfl : i = 0 ∨ i = 1 := by omega
      · go_wp2_with (at_builtin; refine wpList_append_grow rfl (.tmp 12) (.tmp 21) rfl base _ (l ++ hp n 2 0) rfl (owns_below HO.out.1 ((Below.refl _ _).alloc (Nat.le_refl _) _) (Nat.le_refl _)) _ [UInt8.ofNat (n / 256 % 256)] (fun _ => True) rfl (one_byte wr _ _ (byte_of n 256 _ (by omega))) (by rw [List.length_append, hp_length]; have := HB.out.2; simp; omega) (by have := HB.out.1; have := HO.out.2.2; simp; omega) ?_; intro v' w2 ho hg)
        have H2 := Lib.hid (And.intro ho.out (HO.out.2.1.trans (((Adds.refl _ _).alloc _).trans hg.out)))
        have HS := Lib.hid hg.out.grown.size
        clear ho hg
        go_wp2
        go_roundw
        case rel => exact ⟨0 + 1, by omega, by go_num, by rw [hp_succ, ← List.append_assoc]; exact H2.out.1, H2.out.2, by have := HO.out.2.2; have := HS.out; simp at this; omega⟩
        case measure => simp [intOf]
      · go_wp2_with (at_builtin; refine wpList_append_grow rfl (.tmp 12) (.tmp 21) rfl base _ (l ++ hp n 2 1) rfl (owns_below HO.out.1 ((Below.refl _ _).alloc (Nat.le_refl _) _) (Nat.le_refl _)) _ [UInt8.ofNat (n / 1 % 256)] (fun _ => True) rfl (one_byte wr _ _ (byte_of n 1 _ (by omega))) (by rw [List.length_append, hp_length]; have := HB.out.2; simp; omega) (by have := HB.out.1; have := HO.out.2.2; simp; omega) ?_; intro v' w2 ho hg)
        have H2 := Lib.hid (And.intro ho.out (HO.out.2.1.trans (((Adds.refl _ _).alloc _).trans hg.out)))
        have HS := Lib.hid hg.out.grown.size
        clear ho hg
        go_wp2
        go_roundw
        case rel => exact ⟨1 + 1, by omega, by go_num, by rw [hp_succ, ← List.append_assoc]; exact H2.out.1, H2.out.2, by have := HO.out.2.2; have := HS.out; simp at this; omega⟩
        case measure => simp [intOf]
    · obtain rfl : i = 2 := by omega
      go_wp2
      go_ret
      exact ⟨_, rfl, HO.out.1, HO.out.2.1.below HV.out HB.out.1, HO.out.2.1⟩

set_option maxRecDepth 100000 in
set_option maxHeartbeats 2000000 in
theorem high4_c (n : Nat) (w : World) (base : Nat) (hbase : base ≤ w.heap.size) (v : Value) (l : List UInt8) (hv : OwnB w base v l) (hl : l.length ≤ 1000000000) (hn : n < 9223372036854775808) :
    Calls Tryz.prog 182 #[v, .int .i64 n, .int .i64 4] w (GivesOn w base v (l ++ Wm.high n 4)) := by
  have h0 : (0 : Int) ≤ (n : Int) := by omega
  have h1 : (n : Int) < 9223372036854775808 := by omega
  have HB := Lib.hid (And.intro hbase hl)
  have HV := Lib.hid hv
  clear hbase hl hv
  go_enter Tryz.func182, Tryz.ntmps182
  go_wp2
  go_loopw [0, 7, 9] (fun x _ s wr => ∃ i : Nat, i ≤ 4 ∧ s = .int .i64 (i : Int) ∧ OwnB wr base x (l ++ hp n 4 i) ∧ Adds w wr v x ∧ w.heap.size ≤ wr.heap.size) (fun _ _ s _ => 4 - (intOf s).toNat)
  case atStart => exact ⟨0, by omega, rfl, by rw [show hp n 4 0 = [] from rfl, List.append_nil]; exact HV.out, Adds.refl _ _, Nat.le_refl _⟩
  case round =>
    obtain ⟨i, hi, rfl, hown, hb, hsz⟩ := hrel
    have HO := Lib.hid (And.intro hown (And.intro hb hsz))
    clear hown hb hsz
    by_cases hlt : i < 4
    · obtain rfl | rfl | rfl | rfl : i = 0 ∨ i = 1 ∨ i = 2 ∨ i = 3 := by omega
      · go_wp2_with (at_builtin; refine wpList_append_grow rfl (.tmp 12) (.tmp 21) rfl base _ (l ++ hp n 4 0) rfl (owns_below HO.out.1 ((Below.refl _ _).alloc (Nat.le_refl _) _) (Nat.le_refl _)) _ [UInt8.ofNat (n / 16777216 % 256)] (fun _ => True) rfl (one_byte wr _ _ (byte_of n 16777216 _ (by omega))) (by rw [List.length_append, hp_length]; have := HB.out.2; simp; omega) (by have := HB.out.1; have := HO.out.2.2; simp; omega) ?_; intro v' w2 ho hg)
        have H2 := Lib.hid (And.intro ho.out (HO.out.2.1.trans (((Adds.refl _ _).alloc _).trans hg.out)))
        have HS := Lib.hid hg.out.grown.size
        clear ho hg
        go_wp2
        go_roundw
        case rel => exact ⟨0 + 1, by omega, by go_num, by rw [hp_succ, ← List.append_assoc]; exact H2.out.1, H2.out.2, by have := HO.out.2.2; have := HS.out; simp at this; omega⟩
        case measure => simp [intOf]
      · go_wp2_with (at_builtin; refine wpList_append_grow rfl (.tmp 12) (.tmp 21) rfl base _ (l ++ hp n 4 1) rfl (owns_below HO.out.1 ((Below.refl _ _).alloc (Nat.le_refl _) _) (Nat.le_refl _)) _ [UInt8.ofNat (n / 65536 % 256)] (fun _ => True) rfl (one_byte wr _ _ (byte_of n 65536 _ (by omega))) (by rw [List.length_append, hp_length]; have := HB.out.2; simp; omega) (by have := HB.out.1; have := HO.out.2.2; simp; omega) ?_; intro v' w2 ho hg)
        have H2 := Lib.hid (And.intro ho.out (HO.out.2.1.trans (((Adds.refl _ _).alloc _).trans hg.out)))
        have HS := Lib.hid hg.out.grown.size
        clear ho hg
        go_wp2
        go_roundw
        case rel => exact ⟨1 + 1, by omega, by go_num, by rw [hp_succ, ← List.append_assoc]; exact H2.out.1, H2.out.2, by have := HO.out.2.2; have := HS.out; simp at this; omega⟩
        case measure => simp [intOf]
      · go_wp2_with (at_builtin; refine wpList_append_grow rfl (.tmp 12) (.tmp 21) rfl base _ (l ++ hp n 4 2) rfl (owns_below HO.out.1 ((Below.refl _ _).alloc (Nat.le_refl _) _) (Nat.le_refl _)) _ [UInt8.ofNat (n / 256 % 256)] (fun _ => True) rfl (one_byte wr _ _ (byte_of n 256 _ (by omega))) (by rw [List.length_append, hp_length]; have := HB.out.2; simp; omega) (by have := HB.out.1; have := HO.out.2.2; simp; omega) ?_; intro v' w2 ho hg)
        have H2 := Lib.hid (And.intro ho.out (HO.out.2.1.trans (((Adds.refl _ _).alloc _).trans hg.out)))
        have HS := Lib.hid hg.out.grown.size
        clear ho hg
        go_wp2
        go_roundw
        case rel => exact ⟨2 + 1, by omega, by go_num, by rw [hp_succ, ← List.append_assoc]; exact H2.out.1, H2.out.2, by have := HO.out.2.2; have := HS.out; simp at this; omega⟩
        case measure => simp [intOf]
      · go_wp2_with (at_builtin; refine wpList_append_grow rfl (.tmp 12) (.tmp 21) rfl base _ (l ++ hp n 4 3) rfl (owns_below HO.out.1 ((Below.refl _ _).alloc (Nat.le_refl _) _) (Nat.le_refl _)) _ [UInt8.ofNat (n / 1 % 256)] (fun _ => True) rfl (one_byte wr _ _ (byte_of n 1 _ (by omega))) (by rw [List.length_append, hp_length]; have := HB.out.2; simp; omega) (by have := HB.out.1; have := HO.out.2.2; simp; omega) ?_; intro v' w2 ho hg)
        have H2 := Lib.hid (And.intro ho.out (HO.out.2.1.trans (((Adds.refl _ _).alloc _).trans hg.out)))
        have HS := Lib.hid hg.out.grown.size
        clear ho hg
        go_wp2
        go_roundw
        case rel => exact ⟨3 + 1, by omega, by go_num, by rw [hp_succ, ← List.append_assoc]; exact H2.out.1, H2.out.2, by have := HO.out.2.2; have := HS.out; simp at this; omega⟩
        case measure => simp [intOf]
    · obtain rfl : i = 4 := by omega
      go_wp2
      go_ret
      exact ⟨_, rfl, HO.out.1, HO.out.2.1.below HV.out HB.out.1, HO.out.2.1⟩

set_option maxRecDepth 100000 in
set_option maxHeartbeats 2000000 in
theorem high8_c (n : Nat) (w : World) (base : Nat) (hbase : base ≤ w.heap.size) (v : Value) (l : List UInt8) (hv : OwnB w base v l) (hl : l.length ≤ 1000000000) (hn : n < 9223372036854775808) :
    Calls Tryz.prog 182 #[v, .int .i64 n, .int .i64 8] w (GivesOn w base v (l ++ Wm.high n 8)) := by
  have h0 : (0 : Int) ≤ (n : Int) := by omega
  have h1 : (n : Int) < 9223372036854775808 := by omega
  have HB := Lib.hid (And.intro hbase hl)
  have HV := Lib.hid hv
  clear hbase hl hv
  go_enter Tryz.func182, Tryz.ntmps182
  go_wp2
  go_loopw [0, 7, 9] (fun x _ s wr => ∃ i : Nat, i ≤ 8 ∧ s = .int .i64 (i : Int) ∧ OwnB wr base x (l ++ hp n 8 i) ∧ Adds w wr v x ∧ w.heap.size ≤ wr.heap.size) (fun _ _ s _ => 8 - (intOf s).toNat)
  case atStart => exact ⟨0, by omega, rfl, by rw [show hp n 8 0 = [] from rfl, List.append_nil]; exact HV.out, Adds.refl _ _, Nat.le_refl _⟩
  case round =>
    obtain ⟨i, hi, rfl, hown, hb, hsz⟩ := hrel
    have HO := Lib.hid (And.intro hown (And.intro hb hsz))
    clear hown hb hsz
    by_cases hlt : i < 8
    · obtain rfl | rfl | rfl | rfl | rfl | rfl | rfl | rfl : i = 0 ∨ i = 1 ∨ i = 2 ∨ i = 3 ∨ i = 4 ∨ i = 5 ∨ i = 6 ∨ i = 7 := by omega
      · go_wp2_with (at_builtin; refine wpList_append_grow rfl (.tmp 12) (.tmp 21) rfl base _ (l ++ hp n 8 0) rfl (owns_below HO.out.1 ((Below.refl _ _).alloc (Nat.le_refl _) _) (Nat.le_refl _)) _ [UInt8.ofNat (n / 72057594037927936 % 256)] (fun _ => True) rfl (one_byte wr _ _ (byte_of n 72057594037927936 _ (by omega))) (by rw [List.length_append, hp_length]; have := HB.out.2; simp; omega) (by have := HB.out.1; have := HO.out.2.2; simp; omega) ?_; intro v' w2 ho hg)
        have H2 := Lib.hid (And.intro ho.out (HO.out.2.1.trans (((Adds.refl _ _).alloc _).trans hg.out)))
        have HS := Lib.hid hg.out.grown.size
        clear ho hg
        go_wp2
        go_roundw
        case rel => exact ⟨0 + 1, by omega, by go_num, by rw [hp_succ, ← List.append_assoc]; exact H2.out.1, H2.out.2, by have := HO.out.2.2; have := HS.out; simp at this; omega⟩
        case measure => simp [intOf]
      · go_wp2_with (at_builtin; refine wpList_append_grow rfl (.tmp 12) (.tmp 21) rfl base _ (l ++ hp n 8 1) rfl (owns_below HO.out.1 ((Below.refl _ _).alloc (Nat.le_refl _) _) (Nat.le_refl _)) _ [UInt8.ofNat (n / 281474976710656 % 256)] (fun _ => True) rfl (one_byte wr _ _ (byte_of n 281474976710656 _ (by omega))) (by rw [List.length_append, hp_length]; have := HB.out.2; simp; omega) (by have := HB.out.1; have := HO.out.2.2; simp; omega) ?_; intro v' w2 ho hg)
        have H2 := Lib.hid (And.intro ho.out (HO.out.2.1.trans (((Adds.refl _ _).alloc _).trans hg.out)))
        have HS := Lib.hid hg.out.grown.size
        clear ho hg
        go_wp2
        go_roundw
        case rel => exact ⟨1 + 1, by omega, by go_num, by rw [hp_succ, ← List.append_assoc]; exact H2.out.1, H2.out.2, by have := HO.out.2.2; have := HS.out; simp at this; omega⟩
        case measure => simp [intOf]
      · go_wp2_with (at_builtin; refine wpList_append_grow rfl (.tmp 12) (.tmp 21) rfl base _ (l ++ hp n 8 2) rfl (owns_below HO.out.1 ((Below.refl _ _).alloc (Nat.le_refl _) _) (Nat.le_refl _)) _ [UInt8.ofNat (n / 1099511627776 % 256)] (fun _ => True) rfl (one_byte wr _ _ (byte_of n 1099511627776 _ (by omega))) (by rw [List.length_append, hp_length]; have := HB.out.2; simp; omega) (by have := HB.out.1; have := HO.out.2.2; simp; omega) ?_; intro v' w2 ho hg)
        have H2 := Lib.hid (And.intro ho.out (HO.out.2.1.trans (((Adds.refl _ _).alloc _).trans hg.out)))
        have HS := Lib.hid hg.out.grown.size
        clear ho hg
        go_wp2
        go_roundw
        case rel => exact ⟨2 + 1, by omega, by go_num, by rw [hp_succ, ← List.append_assoc]; exact H2.out.1, H2.out.2, by have := HO.out.2.2; have := HS.out; simp at this; omega⟩
        case measure => simp [intOf]
      · go_wp2_with (at_builtin; refine wpList_append_grow rfl (.tmp 12) (.tmp 21) rfl base _ (l ++ hp n 8 3) rfl (owns_below HO.out.1 ((Below.refl _ _).alloc (Nat.le_refl _) _) (Nat.le_refl _)) _ [UInt8.ofNat (n / 4294967296 % 256)] (fun _ => True) rfl (one_byte wr _ _ (byte_of n 4294967296 _ (by omega))) (by rw [List.length_append, hp_length]; have := HB.out.2; simp; omega) (by have := HB.out.1; have := HO.out.2.2; simp; omega) ?_; intro v' w2 ho hg)
        have H2 := Lib.hid (And.intro ho.out (HO.out.2.1.trans (((Adds.refl _ _).alloc _).trans hg.out)))
        have HS := Lib.hid hg.out.grown.size
        clear ho hg
        go_wp2
        go_roundw
        case rel => exact ⟨3 + 1, by omega, by go_num, by rw [hp_succ, ← List.append_assoc]; exact H2.out.1, H2.out.2, by have := HO.out.2.2; have := HS.out; simp at this; omega⟩
        case measure => simp [intOf]
      · go_wp2_with (at_builtin; refine wpList_append_grow rfl (.tmp 12) (.tmp 21) rfl base _ (l ++ hp n 8 4) rfl (owns_below HO.out.1 ((Below.refl _ _).alloc (Nat.le_refl _) _) (Nat.le_refl _)) _ [UInt8.ofNat (n / 16777216 % 256)] (fun _ => True) rfl (one_byte wr _ _ (byte_of n 16777216 _ (by omega))) (by rw [List.length_append, hp_length]; have := HB.out.2; simp; omega) (by have := HB.out.1; have := HO.out.2.2; simp; omega) ?_; intro v' w2 ho hg)
        have H2 := Lib.hid (And.intro ho.out (HO.out.2.1.trans (((Adds.refl _ _).alloc _).trans hg.out)))
        have HS := Lib.hid hg.out.grown.size
        clear ho hg
        go_wp2
        go_roundw
        case rel => exact ⟨4 + 1, by omega, by go_num, by rw [hp_succ, ← List.append_assoc]; exact H2.out.1, H2.out.2, by have := HO.out.2.2; have := HS.out; simp at this; omega⟩
        case measure => simp [intOf]
      · go_wp2_with (at_builtin; refine wpList_append_grow rfl (.tmp 12) (.tmp 21) rfl base _ (l ++ hp n 8 5) rfl (owns_below HO.out.1 ((Below.refl _ _).alloc (Nat.le_refl _) _) (Nat.le_refl _)) _ [UInt8.ofNat (n / 65536 % 256)] (fun _ => True) rfl (one_byte wr _ _ (byte_of n 65536 _ (by omega))) (by rw [List.length_append, hp_length]; have := HB.out.2; simp; omega) (by have := HB.out.1; have := HO.out.2.2; simp; omega) ?_; intro v' w2 ho hg)
        have H2 := Lib.hid (And.intro ho.out (HO.out.2.1.trans (((Adds.refl _ _).alloc _).trans hg.out)))
        have HS := Lib.hid hg.out.grown.size
        clear ho hg
        go_wp2
        go_roundw
        case rel => exact ⟨5 + 1, by omega, by go_num, by rw [hp_succ, ← List.append_assoc]; exact H2.out.1, H2.out.2, by have := HO.out.2.2; have := HS.out; simp at this; omega⟩
        case measure => simp [intOf]
      · go_wp2_with (at_builtin; refine wpList_append_grow rfl (.tmp 12) (.tmp 21) rfl base _ (l ++ hp n 8 6) rfl (owns_below HO.out.1 ((Below.refl _ _).alloc (Nat.le_refl _) _) (Nat.le_refl _)) _ [UInt8.ofNat (n / 256 % 256)] (fun _ => True) rfl (one_byte wr _ _ (byte_of n 256 _ (by omega))) (by rw [List.length_append, hp_length]; have := HB.out.2; simp; omega) (by have := HB.out.1; have := HO.out.2.2; simp; omega) ?_; intro v' w2 ho hg)
        have H2 := Lib.hid (And.intro ho.out (HO.out.2.1.trans (((Adds.refl _ _).alloc _).trans hg.out)))
        have HS := Lib.hid hg.out.grown.size
        clear ho hg
        go_wp2
        go_roundw
        case rel => exact ⟨6 + 1, by omega, by go_num, by rw [hp_succ, ← List.append_assoc]; exact H2.out.1, H2.out.2, by have := HO.out.2.2; have := HS.out; simp at this; omega⟩
        case measure => simp [intOf]
      · go_wp2_with (at_builtin; refine wpList_append_grow rfl (.tmp 12) (.tmp 21) rfl base _ (l ++ hp n 8 7) rfl (owns_below HO.out.1 ((Below.refl _ _).alloc (Nat.le_refl _) _) (Nat.le_refl _)) _ [UInt8.ofNat (n / 1 % 256)] (fun _ => True) rfl (one_byte wr _ _ (byte_of n 1 _ (by omega))) (by rw [List.length_append, hp_length]; have := HB.out.2; simp; omega) (by have := HB.out.1; have := HO.out.2.2; simp; omega) ?_; intro v' w2 ho hg)
        have H2 := Lib.hid (And.intro ho.out (HO.out.2.1.trans (((Adds.refl _ _).alloc _).trans hg.out)))
        have HS := Lib.hid hg.out.grown.size
        clear ho hg
        go_wp2
        go_roundw
        case rel => exact ⟨7 + 1, by omega, by go_num, by rw [hp_succ, ← List.append_assoc]; exact H2.out.1, H2.out.2, by have := HO.out.2.2; have := HS.out; simp at this; omega⟩
        case measure => simp [intOf]
    · obtain rfl : i = 8 := by omega
      go_wp2
      go_ret
      exact ⟨_, rfl, HO.out.1, HO.out.2.1.below HV.out HB.out.1, HO.out.2.1⟩

end Go.Proofs.YtgffifleflkjoaaGreat

namespace Go.Proofs.YtgffifleflkjoaaGreat
open Go.RowKit

set_option maxRecDepth 100000 in
set_option maxHeartbeats 2000000 in
theorem number_c (n : Nat) (w : World) (base : Nat) (hbase : base ≤ w.heap.size) (v : Value) (l : List UInt8) (hv : OwnB w base v l) (hl : l.length ≤ 999999999) (hn : n < 9223372036854775808) :
    Calls Tryz.prog 158 #[v, .int .i64 n] w (GivesOn w base v (l ++ Wm.wnum n)) := by
  have h0 : (0 : Int) ≤ (n : Int) := by omega
  have h1 : (n : Int) < 9223372036854775808 := by omega
  have HB := Lib.hid (And.intro hbase hl)
  have HV := Lib.hid hv
  have HN := Lib.hid hn
  clear hbase hl hv hn
  by_cases c1 : n < 253
  · have d1 : (n : Int) < 253 := by omega
    have HW := Lib.hid (show Wm.wnum n = [UInt8.ofNat (n / 1 % 256)] by unfold Wm.wnum; rw [if_pos c1, Nat.div_one, Nat.mod_eq_of_lt (by omega)])
    clear c1
    go_enter Tryz.func158, Tryz.ntmps158
    go_wp2_with (at_builtin; refine wpList_append_grow rfl (.tmp 8) (.tmp 11) rfl base _ l rfl (owns_below HV.out ((Below.refl _ _).alloc (Nat.le_refl _) _) (Nat.le_refl _)) _ [UInt8.ofNat (n / 1 % 256)] (fun _ => True) rfl (one_byte w _ _ (byte_of n 1 _ (by omega))) (by have := HB.out.2; simp; omega) (by have := HB.out.1; simp; omega) ?_; intro v' w2 ho hg)
    go_ret
    have G := (((Adds.refl w v).alloc _).trans hg.out)
    exact ⟨_, rfl, by rw [HW.out]; exact ho.out, G.below HV.out HB.out.1, G⟩
  · have d1 : ¬ (n : Int) < 253 := by omega
    by_cases c2 : n < 65536
    · have d2 : (n : Int) < 65536 := by omega
      have HW := Lib.hid (show Wm.wnum n = [253] ++ Wm.high n 2 by unfold Wm.wnum; rw [if_neg c1, if_pos c2]; rfl)
      clear c1 c2
      go_enter Tryz.func158, Tryz.ntmps158
      go_wp2_with (first
        | (at_builtin; refine wpList_append_grow rfl (.tmp 16) (.tmp 17) rfl base _ l rfl (owns_below HV.out ((Below.refl _ _).alloc (Nat.le_refl _) _) (Nat.le_refl _)) _ [253] (fun _ => True) rfl (one_byte w _ _ rfl) (by have := HB.out.2; simp; omega) (by have := HB.out.1; simp; omega) ?_; intro v' w2 ho hg
           have H2 := Lib.hid (And.intro ho.out (And.intro (((Adds.refl w v).alloc _).trans hg.out) hg.out.grown.size))
           clear ho hg)
        | (go_at_call 182; refine (high2_c n w2 base (by have a := H2.out.2.2; have b := HB.out.1; simp only [World.alloc, Array.size_push] at a; omega) v' (l ++ [253]) H2.out.1 (by have := HB.out.2; simp; omega) HN.out).mono ?_; rintro e w3 ⟨v3, rfl, o3, b3⟩))
      go_ret
      have G := H2.out.2.1.trans b3.2
      exact ⟨_, rfl, by rw [HW.out, ← List.append_assoc]; exact o3, G.below HV.out HB.out.1, G⟩
    · have d2 : ¬ (n : Int) < 65536 := by omega
      by_cases c3 : n < 4294967296
      · have d3 : (n : Int) < 4294967296 := by omega
        have HW := Lib.hid (show Wm.wnum n = [254] ++ Wm.high n 4 by unfold Wm.wnum; rw [if_neg c1, if_neg c2, if_pos c3]; rfl)
        clear c1 c2 c3
        go_enter Tryz.func158, Tryz.ntmps158
        go_wp2_with (first
          | (at_builtin; refine wpList_append_grow rfl (.tmp 24) (.tmp 25) rfl base _ l rfl (owns_below HV.out ((Below.refl _ _).alloc (Nat.le_refl _) _) (Nat.le_refl _)) _ [254] (fun _ => True) rfl (one_byte w _ _ rfl) (by have := HB.out.2; simp; omega) (by have := HB.out.1; simp; omega) ?_; intro v' w2 ho hg
             have H2 := Lib.hid (And.intro ho.out (And.intro (((Adds.refl w v).alloc _).trans hg.out) hg.out.grown.size))
             clear ho hg)
          | (go_at_call 182; refine (high4_c n w2 base (by have a := H2.out.2.2; have b := HB.out.1; simp only [World.alloc, Array.size_push] at a; omega) v' (l ++ [254]) H2.out.1 (by have := HB.out.2; simp; omega) HN.out).mono ?_; rintro e w3 ⟨v3, rfl, o3, b3⟩))
        go_ret
        have G := H2.out.2.1.trans b3.2
        exact ⟨_, rfl, by rw [HW.out, ← List.append_assoc]; exact o3, G.below HV.out HB.out.1, G⟩
      · have d3 : ¬ (n : Int) < 4294967296 := by omega
        have HW := Lib.hid (show Wm.wnum n = [255] ++ Wm.high n 8 by unfold Wm.wnum; rw [if_neg c1, if_neg c2, if_neg c3]; rfl)
        clear c1 c2 c3
        go_enter Tryz.func158, Tryz.ntmps158
        go_wp2_with (first
          | (at_builtin; refine wpList_append_grow rfl (.tmp 29) (.tmp 30) rfl base _ l rfl (owns_below HV.out ((Below.refl _ _).alloc (Nat.le_refl _) _) (Nat.le_refl _)) _ [255] (fun _ => True) rfl (one_byte w _ _ rfl) (by have := HB.out.2; simp; omega) (by have := HB.out.1; simp; omega) ?_; intro v' w2 ho hg
             have H2 := Lib.hid (And.intro ho.out (And.intro (((Adds.refl w v).alloc _).trans hg.out) hg.out.grown.size))
             clear ho hg)
          | (go_at_call 182; refine (high8_c n w2 base (by have a := H2.out.2.2; have b := HB.out.1; simp only [World.alloc, Array.size_push] at a; omega) v' (l ++ [255]) H2.out.1 (by have := HB.out.2; simp; omega) HN.out).mono ?_; rintro e w3 ⟨v3, rfl, o3, b3⟩))
        go_ret
        have G := H2.out.2.1.trans b3.2
        exact ⟨_, rfl, by rw [HW.out, ← List.append_assoc]; exact o3, G.below HV.out HB.out.1, G⟩

end Go.Proofs.YtgffifleflkjoaaGreat

namespace Go.Proofs.YtgffifleflkjoaaGreat
open Go.RowKit

theorem big_not {n : Nat} (h : n ≤ 36028797018963968) : ¬ (36028797018963968 : Int) < (n : Int) := by omega
theorem big_is {n : Nat} (h : ¬ n ≤ 36028797018963968) : (36028797018963968 : Int) < (n : Int) := by omega
theorem wrap_small {n : Nat} (h : n ≤ 9223372036854775807) : wrap64 (n : Int) = n := by unfold wrap64; omega

theorem or_low (n x : Nat) (hn : n ≤ 36028797018963968) (hx : x < 256) : bits .or .i64 (wrap64 ((n : Int) * 256)) (x : Int) = wrap64 ((256 * n + x : Nat) : Int) := by
  show IntKind.i64.wrap ((BitVec.ofInt 64 (wrap64 ((n : Int) * 256)) ||| BitVec.ofInt 64 (x : Int)).toNat : Int) = _
  have a1 : (BitVec.ofInt 64 (wrap64 ((n : Int) * 256))).toNat = n * 256 := by
    rw [BitVec.toNat_ofInt]
    unfold wrap64
    omega
  have a2 : (BitVec.ofInt 64 (x : Int)).toNat = x := by
    rw [BitVec.toNat_ofInt]
    omega
  have a3 : n * 256 ||| x = 256 * n + x := by
    have h := Nat.two_pow_add_eq_or_of_lt (i := 8) (b := x) hx n
    rw [show n * 256 = 2 ^ 8 * n by omega, ← h]
  rw [BitVec.toNat_or, a1, a2, a3]
  rw [IntKind.wrap_i64]
  unfold wrap64
  rfl

/-- The number of the first so many bytes. -/
def nk (l : List UInt8) (i : Nat) : Nat := Wm.hnum (l.take i)

theorem nk_succ (l : List UInt8) (i : Nat) (x : UInt8) (h : l[i]? = some x) : nk l (i + 1) = 256 * nk l i + x.toNat := by
  unfold nk Wm.hnum
  rw [List.take_add_one, h]
  simp [List.foldl_append]

theorem nk_zero (l : List UInt8) : nk l 0 = 0 := rfl

theorem nk_grows (l : List UInt8) (i j : Nat) (h : i + j ≤ l.length) : 256 ^ j * nk l i ≤ nk l (i + j) := by
  induction j with
  | zero => simp
  | succ j ih =>
    have hx := List.getElem?_eq_getElem (l := l) (i := i + j) (by omega)
    have e := nk_succ l (i + j) _ hx
    rw [← Nat.add_assoc, e, Nat.pow_succ, Nat.mul_comm (256 ^ j) 256, Nat.mul_assoc]
    have := ih (by omega)
    omega

theorem nk_lt (l : List UInt8) (i : Nat) (h : i ≤ l.length) : nk l i < 256 ^ i := by
  induction i with
  | zero => simp [nk_zero]
  | succ i ih =>
    have hx := List.getElem?_eq_getElem (l := l) (i := i) (by omega)
    have e := nk_succ l i _ hx
    have := ih (by omega)
    have h2 := (l[i]'(by omega)).toNat_lt
    rw [e, Nat.pow_succ]
    omega

theorem first_bad (c : UInt8) (l : List UInt8) (i : Nat) (h0 : Wm.many c ≠ 0) (hf : Wm.many c ≤ l.length) (hi : i < Wm.many c) (hbig : ¬ nk l i ≤ 36028797018963968) : Wm.first (c :: l) = (0, -1) := by
  have hg := nk_grows l i (Wm.many c - i) (by omega)
  rw [show i + (Wm.many c - i) = Wm.many c by omega] at hg
  have hp : 256 ≤ 256 ^ (Wm.many c - i) := by
    obtain ⟨d, hd⟩ : ∃ d, Wm.many c - i = d + 1 := ⟨Wm.many c - i - 1, by omega⟩
    rw [hd, Nat.pow_succ]
    have := Nat.one_le_two_pow (n := 8 * d)
    have h1 : 0 < 256 ^ d := Nat.pow_pos (by decide)
    omega
  have hm := Nat.mul_le_mul_right (nk l i) hp
  have ht : Wm.topN < nk l (Wm.many c) := by unfold Wm.topN; omega
  show (if Wm.many c = 0 then (c.toNat, (1 : Int)) else if l.length < Wm.many c then (0, 0) else if Wm.hnum (l.take (Wm.many c)) > Wm.topN ∨ (Wm.wnum (Wm.hnum (l.take (Wm.many c)))).length ≠ 1 + Wm.many c then (0, -1) else (Wm.hnum (l.take (Wm.many c)), 1 + (Wm.many c : Int))) = (0, -1)
  rw [if_neg h0, if_neg (by omega)]
  exact if_pos (Or.inl ht)

set_option maxRecDepth 100000 in
set_option maxHeartbeats 2000000 in
theorem number_neg (x : Int) (w : World) (hx : x < 0) :
    Calls Tryz.prog 158 #[.slice none 0 0, .int .i64 x] w fun e w' => ∃ u : UInt8, GivesOn w w.heap.size (.slice none 0 0) [u] e w' := by
  have d1 : x < 253 := by omega
  have hb : x % 256 = ((UInt8.ofNat (x % 256).toNat).toNat : Int) := by
    rw [UInt8.toNat_ofNat']
    omega
  have HB := Lib.hid hb
  clear hb
  go_enter Tryz.func158, Tryz.ntmps158
  go_wp2_with (at_builtin; refine wpList_append_grow rfl (.tmp 8) (.tmp 11) rfl w.heap.size _ [] rfl (own_nil _ _) _ [UInt8.ofNat (x % 256).toNat] (fun _ => True) rfl (one_byte w _ _ HB.out) (by simp) (by simp) ?_; intro v' w2 ho hg)
  go_ret
  have G := (((Adds.refl w (.slice none 0 0)).alloc _).trans hg.out)
  exact ⟨_, _, rfl, ho.out, G.below (own_nil _ _) (Nat.le_refl _), G⟩

theorem first_eq (c : UInt8) (l : List UInt8) (h0 : Wm.many c ≠ 0) (hf : Wm.many c ≤ l.length) :
    Wm.first (c :: l) = if nk l (Wm.many c) > Wm.topN ∨ (Wm.wnum (nk l (Wm.many c))).length ≠ 1 + Wm.many c then (0, -1) else (nk l (Wm.many c), 1 + (Wm.many c : Int)) := by
  show (if Wm.many c = 0 then (c.toNat, (1 : Int)) else if l.length < Wm.many c then (0, 0) else _) = _
  rw [if_neg h0, if_neg (by omega)]
  rfl

theorem top_not {n : Nat} (h : n ≤ 4611686018427387904) : ¬ (4611686018427387904 : Int) < (n : Int) := by omega
theorem top_is {n : Nat} (h : ¬ n ≤ 4611686018427387904) : (4611686018427387904 : Int) < (n : Int) := by omega
theorem top_lt {n : Nat} (h : n ≤ 4611686018427387904) : n < 9223372036854775808 := by omega

theorem first_good (c : UInt8) (l : List UInt8) (h0 : Wm.many c ≠ 0) (hf : Wm.many c ≤ l.length) (ht : nk l (Wm.many c) ≤ 4611686018427387904) (hq : (Wm.wnum (nk l (Wm.many c))).length = 1 + Wm.many c) :
    Wm.first (c :: l) = (nk l (Wm.many c), 1 + (Wm.many c : Int)) := by
  rw [first_eq c l h0 hf]
  refine if_neg fun h => ?_
  rcases h with h | h
  · exact absurd ht (Nat.not_le.2 h)
  · exact h hq

theorem first_none (c : UInt8) (l : List UInt8) (h0 : Wm.many c ≠ 0) (hf : Wm.many c ≤ l.length) (h : ¬ nk l (Wm.many c) ≤ 4611686018427387904 ∨ (Wm.wnum (nk l (Wm.many c))).length ≠ 1 + Wm.many c) :
    Wm.first (c :: l) = (0, -1) := by
  rw [first_eq c l h0 hf]
  exact if_pos (h.imp Nat.not_le.1 id)

theorem wrap_neg {n : Nat} (h1 : ¬ n ≤ 9223372036854775807) (h2 : n ≤ 9223372036854776063) : wrap64 (n : Int) < 0 := by unfold wrap64; omega

theorem nk_top (l : List UInt8) (k : Nat) (hk : k + 1 ≤ l.length) (h : nk l k ≤ 36028797018963968) : nk l (k + 1) ≤ 9223372036854776063 := by
  rw [nk_succ l k _ (List.getElem?_eq_getElem (by omega))]
  have := (l[k]'(by omega)).toNat_lt
  omega

end Go.Proofs.YtgffifleflkjoaaGreat

namespace Go.Proofs.YtgffifleflkjoaaGreat.Em
open Go.Maps Cm

abbrev Bytes := List UInt8
abbrev Rows := DataW Unit

structure Change where
  key : Bytes
  value : Bytes
  gone : Bool

def Change.wrong (c : Change) : Bool := c.key.isEmpty || (c.gone && !c.value.isEmpty)
def Change.long (c : Change) : Bool := decide (64 < c.key.length) || decide (4096 < c.value.length)
def right (l : List Change) : Int := if l.any Change.wrong = true then 2 else if 64 < l.length then 3 else if l.any Change.long = true then 3 else 0

def one (D : Rows) (c : Change) : Rows := if c.gone = true then D.del (.string c.key) else D.put (.string c.key) (.lit (.string c.value))
def behind (D : Rows) (l : List Change) : Rows := l.foldl one D
def doneErr (D : Rows) (l : List Change) : Int := if right l ≠ 0 then right l else if 256 < size (behind D l) then 3 else 0

def framed (b : Bytes) : Bytes := if 8192 < b.length then [] else Wm.frame b
def laid (c : Change) : Bytes := Wm.wtruth c.gone ++ Wm.wtext c.key ++ (if c.gone = true then [] else Wm.wtext c.value)
def batchBody (l : List Change) : Bytes := Wm.wnum 3 ++ Wm.wnum l.length ++ l.flatMap laid
def batched (l : List Change) : Bytes := framed (batchBody l)
def skeys (D : Rows) : List Bytes := (strKeys D).mergeSort leB
def valueOf (D : Rows) (k : Bytes) : Bytes := match D.atKey (.string k) (.lit (.string [])) with | .lit (.string v) => v | _ => []
def rowOf (D : Rows) (k : Bytes) : Bytes := framed (Wm.wnum 2 ++ Wm.wtext k ++ Wm.wtext (valueOf D k))
def folded (g : Nat) (D : Rows) : Bytes := framed (Wm.wnum 1 ++ Wm.wnum g ++ Wm.wnum (size D)) ++ (skeys D).flatMap (rowOf D)

/-- An engine: its tape's number, generation, rows, how many batches, the tape's end; its disk; whether it is gone. -/
structure E where
  tp : Nat
  gen : Nat
  rows : Rows
  batches : Nat
  fin : Nat
  d : Dm.D
  gone : Bool

def next (r : Dm.D × Int) (f : Dm.D → Dm.D × Int) : Dm.D × Int := if r.2 = 0 then f r.1 else r
def emptied (d : Dm.D) (t : Nat) : Dm.D × Int := if (d.stand.tp t).length = 0 then (d, 0) else d.cut t 0
def wrote (d : Dm.D) (t : Nat) (b : Bytes) : Dm.D × Int := next (d.append t b) Dm.D.sync
def rewrote (d : Dm.D) (t : Nat) (b : Bytes) : Dm.D × Int := next (next (emptied d t) fun d => d.append t b) Dm.D.sync

def E.put (e : E) (D : Rows) (b : Bytes) : E × Int :=
  if 32 ≤ e.batches ∨ b.length = 0 ∨ e.d.room / 2 < e.fin + b.length then (e, 280)
  else ({ e with d := (wrote e.d e.tp b).1, rows := if (wrote e.d e.tp b).2 = 0 then D else e.rows, batches := if (wrote e.d e.tp b).2 = 0 then e.batches + 1 else e.batches,
                 fin := if (wrote e.d e.tp b).2 = 0 then e.fin + b.length else e.fin }, (wrote e.d e.tp b).2)

def E.fold (e : E) (D : Rows) : E × Int :=
  if 2147483647 ≤ e.gen then (e, 280)
  else
    let b := folded (e.gen + 1) D
    let r := rewrote e.d (1 - e.tp) b
    (if r.2 = 0 then ⟨1 - e.tp, e.gen + 1, D, 0, b.length, r.1, e.gone⟩ else { e with d := r.1 }, r.2)

def E.step (e : E) (D : Rows) (b : Bytes) : E × Int := if (e.put D b).2 = 280 then (e.put D b).1.fold D else e.put D b

def E.commit (e : E) (l : List Change) : E × Int :=
  if doneErr e.rows l ≠ 0 then (e, doneErr e.rows l)
  else if e.gone = true then (e, 290)
  else ({ (e.step (behind e.rows l) (batched l)).1 with gone := decide ((e.step (behind e.rows l) (batched l)).2 = 281) }, (e.step (behind e.rows l) (batched l)).2)

/-- One of a disk without an engine. -/
def begun (d : Dm.D) : E × Int :=
  let b := folded 1 (.map [])
  let r := rewrote d 0 b
  (⟨0, 1, .map [], 0, b.length, r.1, false⟩, r.2)

end Go.Proofs.YtgffifleflkjoaaGreat.Em

namespace Go.Proofs.YtgffifleflkjoaaGreat.Em
open Go.Maps Cm

def RowOk (p : Lit × DataW Unit) : Prop := ∃ k v : Bytes, p = (.string k, .lit (.string v)) ∧ k ≠ [] ∧ k.length ≤ 64 ∧ v.length ≤ 4096
def RowsOk (D : Rows) : Prop := ∃ es, D = .map es ∧ ∀ p ∈ es, RowOk p

theorem right_zero {l : List Change} (h : right l = 0) : l.length ≤ 64 ∧ ∀ c ∈ l, c.wrong = false ∧ c.long = false := by
  unfold right at h
  by_cases h1 : l.any Change.wrong = true
  · rw [if_pos h1] at h; cases h
  · rw [if_neg h1] at h
    by_cases h2 : 64 < l.length
    · rw [if_pos h2] at h; cases h
    · rw [if_neg h2] at h
      by_cases h3 : l.any Change.long = true
      · rw [if_pos h3] at h; cases h
      · refine ⟨by omega, fun c hc => ⟨?_, ?_⟩⟩
        · cases q : c.wrong
          · rfl
          · exact absurd (List.any_eq_true.2 ⟨c, hc, q⟩) h1
        · cases q : c.long
          · rfl
          · exact absurd (List.any_eq_true.2 ⟨c, hc, q⟩) h3

theorem long_not {c : Change} (h : c.long = false) : c.key.length ≤ 64 ∧ c.value.length ≤ 4096 := by
  unfold Change.long at h
  simp at h
  omega

theorem wrong_not {c : Change} (h : c.wrong = false) : c.key ≠ [] ∧ (c.gone = true → c.value = []) := by
  unfold Change.wrong at h
  simp at h
  refine ⟨h.1, fun g => h.2 g⟩

theorem rowsOk_one {D : Rows} (h : RowsOk D) {c : Change} (h1 : c.wrong = false) (h2 : c.long = false) : RowsOk (one D c) := by
  obtain ⟨es, rfl, h⟩ := h
  unfold one
  split
  · exact ⟨_, rfl, fun p hp => h p (List.mem_filter.1 hp).1⟩
  · refine ⟨_, rfl, fun p hp => ?_⟩
    rcases ChangeMaps.mem_insert_iff.1 hp with rfl | hp
    · exact ⟨_, _, rfl, (wrong_not h1).1, (long_not h2).1, (long_not h2).2⟩
    · exact h p (List.mem_filter.1 hp).1

theorem rowsOk_fold {l : List Change} (h1 : ∀ c ∈ l, c.wrong = false ∧ c.long = false) : ∀ {D : Rows}, RowsOk D → RowsOk (behind D l) := by
  induction l with
  | nil => exact fun h => h
  | cons c l ih =>
    intro D h
    exact ih (fun x hx => h1 x (List.mem_cons_of_mem _ hx)) (rowsOk_one h (h1 c (List.mem_cons_self ..)).1 (h1 c (List.mem_cons_self ..)).2)

theorem rowsOk_behind {D : Rows} {l : List Change} (h : RowsOk D) (hr : right l = 0) : RowsOk (behind D l) := rowsOk_fold (right_zero hr).2 h

theorem rowsOk_none : RowsOk (.map []) := ⟨[], rfl, fun p hp => by cases hp⟩

theorem doneErr_zero {D : Rows} {l : List Change} (h : doneErr D l = 0) : right l = 0 ∧ size (behind D l) ≤ 256 := by
  unfold doneErr at h
  by_cases h1 : right l ≠ 0
  · rw [if_pos h1] at h; exact absurd h h1
  · rw [if_neg h1] at h
    by_cases h2 : 256 < size (behind D l)
    · rw [if_pos h2] at h; cases h
    · exact ⟨by omega, by omega⟩

theorem wnum_len (n : Nat) : (Wm.wnum n).length ≤ 9 ∧ 0 < (Wm.wnum n).length := by
  unfold Wm.wnum Wm.high
  split
  · simp
  · split
    · simp
    · split <;> simp

theorem wtext_len (s : Bytes) : (Wm.wtext s).length ≤ 9 + s.length := by
  unfold Wm.wtext
  have := (wnum_len s.length).1
  rw [List.length_append]
  omega

theorem sealed_len (b : Bytes) : (sealed b).length = b.length + 4 := by
  unfold sealed
  rw [List.length_append, low_length]

theorem framed_len (b : Bytes) : (framed b).length ≤ 8205 := by
  unfold framed
  split
  · simp
  · unfold Wm.frame
    rw [List.length_append, sealed_len]
    have := (wnum_len (b.length + 4)).1
    omega

theorem framed_some {b : Bytes} (h : b.length ≤ 8192) : framed b = Wm.frame b := if_neg (by omega)

theorem flatMap_le {α : Type} (f : α → Bytes) (n : Nat) : ∀ (l : List α), (∀ x ∈ l, (f x).length ≤ n) → (l.flatMap f).length ≤ l.length * n
  | [], _ => by simp
  | x :: l, h => by
    have h1 := flatMap_le f n l (fun y hy => h y (List.mem_cons_of_mem _ hy))
    have h2 := h x (List.mem_cons_self ..)
    rw [List.flatMap_cons, List.length_append, List.length_cons, Nat.succ_mul]
    omega

theorem laid_len {c : Change} (h : c.long = false) : (laid c).length ≤ 4179 := by
  have := long_not h
  have h1 := wtext_len c.key
  have h2 := wtext_len c.value
  unfold laid
  rw [List.length_append, List.length_append]
  have h3 : (Wm.wtruth c.gone).length = 1 := rfl
  split
  · simp; omega
  · omega

theorem batchBody_len {l : List Change} (h : right l = 0) : (batchBody l).length ≤ 300000 := by
  obtain ⟨h1, h2⟩ := right_zero h
  have h3 := flatMap_le laid 4179 l (fun c hc => laid_len (h2 c hc).2)
  have h4 := (wnum_len 3).1
  have h5 := (wnum_len l.length).1
  have h6 : l.length * 4179 ≤ 64 * 4179 := Nat.mul_le_mul_right _ h1
  unfold batchBody
  rw [List.length_append, List.length_append]
  omega

theorem skeys_len (D : Rows) : (skeys D).length = size D := by
  unfold skeys
  rw [List.length_mergeSort]
  cases D <;> simp [strKeys, size]

theorem valueOf_len {D : Rows} (h : RowsOk D) (k : Bytes) : (valueOf D k).length ≤ 4096 := by
  obtain ⟨es, rfl, h⟩ := h
  unfold valueOf DataW.atKey
  cases hf : es.find? (fun p => p.1.sameKey (.string k)) with
  | none => simp [hf]
  | some p =>
    obtain ⟨k', v, rfl, _, _, h3⟩ := h p (List.mem_of_find?_eq_some hf)
    simp [hf]
    exact h3

theorem skeys_mem {D : Rows} (h : RowsOk D) {k : Bytes} (hk : k ∈ skeys D) : k ≠ [] ∧ k.length ≤ 64 := by
  obtain ⟨es, rfl, h⟩ := h
  have hk : k ∈ strKeys (.map es) := (List.mergeSort_perm _ _).mem_iff.1 hk
  obtain ⟨p, hp, rfl⟩ := List.mem_map.1 hk
  obtain ⟨k', v, rfl, h1, h2, _⟩ := h p hp
  exact ⟨h1, h2⟩

theorem rowBody_len {D : Rows} (h : RowsOk D) {k : Bytes} (hk : k.length ≤ 64) : (Wm.wnum 2 ++ Wm.wtext k ++ Wm.wtext (valueOf D k)).length ≤ 4187 := by
  have h1 := wtext_len k
  have h2 := wtext_len (valueOf D k)
  have h3 := valueOf_len h k
  have h4 := (wnum_len 2).1
  rw [List.length_append, List.length_append]
  omega

theorem folded_len {D : Rows} (g : Nat) (hs : size D ≤ 256) : (folded g D).length ≤ 2200000 := by
  have h1 := framed_len (Wm.wnum 1 ++ Wm.wnum g ++ Wm.wnum (size D))
  have h2 := flatMap_le (rowOf D) 8205 (skeys D) (fun k _ => framed_len _)
  rw [skeys_len] at h2
  have h3 : size D * 8205 ≤ 256 * 8205 := Nat.mul_le_mul_right _ hs
  unfold folded
  rw [List.length_append]
  omega

structure E.ok (e : E) : Prop where
  tp : e.tp ≤ 1
  gen : e.gen ≤ 2147483647
  batches : e.batches ≤ 32
  fin : e.fin ≤ 3000000
  rows : RowsOk e.rows
  few : size e.rows ≤ 256

end Go.Proofs.YtgffifleflkjoaaGreat.Em
