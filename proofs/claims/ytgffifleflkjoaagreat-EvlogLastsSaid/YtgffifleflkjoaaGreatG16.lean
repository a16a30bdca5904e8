/-
  evlog: which batches may be; the rows behind one.
  evlog: the rows behind a batch.
  slices.Sorted(maps.Keys(m)) at this seat: the shelf's contracts, laid in plain words (printed by the kit's lay-iter and lay-plain).
  evlog: rows in order.
  evlog: what lays a head and a row.
-/
import Derived.Test.YtgffifleflkjoaaGreatG15
import Derived.Maps.OwnSet
import Derived.Maps.StringElems
import Derived.StringKeys
import Derived.Shelf.SlMaps.Clone
import Derived.Shelf.SlIter.Nil
import Derived.Shelf.SortM.Plain
import Derived.Shelf.SortM.SortNone
import Derived.Ground.GgzProg
import Derived.Ground.SlgmProg
import Derived.Test.YtgffifleflkjoaaGreatRows

namespace Go.Proofs.YtgffifleflkjoaaGreat
open Go.RowKit

set_option maxRecDepth 100000 in
set_option maxHeartbeats 2000000 in
theorem indexChange_c {w : World} {F : Nat → Prop} {v : Value} {l : List Em.Change} {fn : Nat} {p : Em.Change → Bool} (eg : ∀ args w, (callFunc fn args).run Tryz.prog w = .ok (.enter fn args) w)
    (hp : ∀ W c, Below w.heap.size w W → Calls Tryz.prog fn #[.agg #[strOfB c.key, strOfB c.value, .bool c.gone]] W fun e w' => e = .returned (.bool (p c)) ∧ Below W.heap.size W w') (h : ChangesAt w F v l) (hl : l.length ≤ 1000000000) :
    Calls Tryz.prog 159 #[v, .func (.func fn) #[] #[]] w fun e w' => ∃ n : Int, e = .returned (.int .i64 n) ∧ decide (0 ≤ n) = l.any p ∧ Below w.heap.size w w' := by
  obtain ⟨a, cap, rfl⟩ := h.slice
  have H := Lib.hid h
  have HP := Lib.hid hp
  clear h hp
  generalize hN : l.length = N at *
  have HN := Lib.hid hN
  clear hN
  go_enter Tryz.func159, Tryz.ntmps159
  go_wp2
  go_loopw [5, 8] (fun _ s wr => ∃ i : Nat, i ≤ N ∧ s = .int .i64 (i : Int) ∧ (l.take i).any p = false ∧ Below w.heap.size w wr) (fun _ s _ => N - (intOf s).toNat)
  case atStart => exact ⟨0, by omega, rfl, rfl, Below.refl _ _⟩
  case round =>
    obtain ⟨i, hi, rfl, hall, hb⟩ := hrel
    by_cases hlt : i < N
    · have i0 : (0 : Int) ≤ (i : Int) := by omega
      have i1 : (i : Int) < (N : Int) := by omega
      obtain ⟨c, hc⟩ : ∃ c, l[i]? = some c := ⟨_, List.getElem?_eq_getElem (by rw [HN.out]; exact hlt)⟩
      obtain ⟨b, o, rfl, fb, lb, rg⟩ := H.out.at hc
      have RG := Lib.hid (show wr.rangeAt b (o + i * 3) [strOfB c.key, strOfB c.value, .bool c.gone] from fun j v hj => (hb.cell (p := ⟨b, o + i * 3 + j, none⟩) lb).trans (rg j v hj))
      have PC := Lib.hid (HP.out wr c hb)
      have HA := Lib.hid (And.intro hall (And.intro hb hc))
      clear hall hb rg hc
      cases hpc : p c
      · rw [hpc] at PC
        go_wp2_with (first
          | (refine wpList_load_mid rfl tChange (.tmp 14) rfl b (o + i * 3) rfl _ _ RG.out Tryz.underlying33 rfl infoChange ?_)
          | (refine PC.out.mono ?_; rintro e w1 ⟨rfl, b1⟩; have H1 := Lib.hid b1; clear b1))
        go_roundw
        case rel =>
          refine ⟨i + 1, by omega, by go_num, ?_, HA.out.2.1.trans (H1.out.mono HA.out.2.1.size)⟩
          rw [List.take_add_one, HA.out.2.2, List.any_append, HA.out.1]
          simp [hpc]
        case measure => simp [intOf]; omega
      · rw [hpc] at PC
        go_wp2_with (first
          | (refine wpList_load_mid rfl tChange (.tmp 14) rfl b (o + i * 3) rfl _ _ RG.out Tryz.underlying33 rfl infoChange ?_)
          | (refine PC.out.mono ?_; rintro e w1 ⟨rfl, b1⟩; have H1 := Lib.hid b1; clear b1))
        go_ret
        refine ⟨i, rfl, ?_, HA.out.2.1.trans (H1.out.mono HA.out.2.1.size)⟩
        rw [decide_eq_true i0]
        exact (List.any_eq_true.2 ⟨c, List.mem_of_getElem? HA.out.2.2, hpc⟩).symm
    · obtain rfl : i = N := by omega
      go_wp2
      go_ret
      refine ⟨-1, rfl, ?_, hb⟩
      rw [List.take_of_length_le (by rw [HN.out]; exact Nat.le_refl _)] at hall
      rw [hall]
      rfl

theorem containsChange_c {w : World} {F : Nat → Prop} {v : Value} {l : List Em.Change} {fn : Nat} {p : Em.Change → Bool} (eg : ∀ args w, (callFunc fn args).run Tryz.prog w = .ok (.enter fn args) w)
    (hp : ∀ W c, Below w.heap.size w W → Calls Tryz.prog fn #[.agg #[strOfB c.key, strOfB c.value, .bool c.gone]] W fun e w' => e = .returned (.bool (p c)) ∧ Below W.heap.size W w') (h : ChangesAt w F v l) (hl : l.length ≤ 1000000000) :
    Calls Tryz.prog 126 #[v, .func (.func fn) #[] #[]] w fun e w' => e = .returned (.bool (l.any p)) ∧ Below w.heap.size w w' := by
  have H := Lib.hid (indexChange_c eg hp h hl)
  obtain ⟨a, cap, rfl⟩ := h.slice
  clear h hp eg
  go_enter Tryz.func126, Tryz.ntmps126
  go_wp2_with (go_at_call 159; refine H.out.mono ?_; rintro e w' ⟨n, rfl, hn, b1⟩)
  go_ret
  exact ⟨by rw [← hn]; rfl, b1⟩

theorem ChangesAt.later {w w' : World} {F : Nat → Prop} {v : Value} {l : List Em.Change} (h : ChangesAt w F v l) (hb : Below w.heap.size w w') : ChangesAt w' F v l := by
  rcases h with h | ⟨b, o, cap, cs, t, fr, h1, h2, h3, h4, h5, h6⟩
  · exact Or.inl h
  · exact Or.inr ⟨b, o, cap, cs, t, fr, h1, h2, h3, h4, (hb.block b (lt_of_row h5)).trans h5, h6⟩

set_option maxRecDepth 100000 in
set_option maxHeartbeats 2000000 in
theorem right_c {w : World} {F : Nat → Prop} {v : Value} {l : List Em.Change} (h : ChangesAt w F v l) (hl : l.length ≤ 1000000000) :
    Calls Tryz.prog 77 #[v] w fun e w' => e = .returned (.int .i64 (Em.right l)) ∧ Below w.heap.size w w' := by
  have e1 := enters_of Tryz.func124 (by kernel_rfl) rfl
  have e2 := enters_of Tryz.func125 (by kernel_rfl) rfl
  have C1 := Lib.hid (containsChange_c e1 (fun W c _ => wrong_c W c) h hl)
  have C2 := Lib.hid (fun W (hb : Below w.heap.size w W) => containsChange_c (w := W) e2 (fun W c _ => long_c W c) (h.later hb) hl)
  obtain ⟨a, cap, rfl⟩ := h.slice
  clear h e1 e2
  cases hw : l.any Em.Change.wrong
  · rw [hw] at C1
    by_cases h64 : 64 < l.length
    · have HR := Lib.hid (show Em.right l = 3 by unfold Em.right; rw [hw, if_neg (by decide), if_pos h64])
      have d1 : (64 : Int) < (l.length : Int) := by omega
      clear hw h64
      generalize l.length = N at *
      go_enter Tryz.func77, Tryz.ntmps77
      go_wp2_with (go_at_call 126; refine C1.out.mono ?_; rintro e w1 ⟨rfl, b1⟩)
      go_ret
      exact ⟨by rw [HR.out]; rfl, b1⟩
    · have d1 : ¬ (64 : Int) < (l.length : Int) := by omega
      cases hg : l.any Em.Change.long
      · rw [hg] at C2
        have HR := Lib.hid (show Em.right l = 0 by unfold Em.right; rw [hw, hg, if_neg (by decide), if_neg h64, if_neg (by decide)])
        clear hw h64 hg
        generalize l.length = N at *
        go_enter Tryz.func77, Tryz.ntmps77
        go_wp2_with (first
          | (go_at_call 126; (with_reducible refine C1.out.mono ?_); rintro e w1 ⟨rfl, b1⟩; have H1 := Lib.hid b1; clear b1)
          | (go_at_call 126; (with_reducible refine (C2.out w1 H1.out).mono ?_); rintro e w2 ⟨rfl, b2⟩; have H2 := Lib.hid b2; clear b2))
        go_ret
        exact ⟨by rw [HR.out]; rfl, H1.out.trans (H2.out.mono H1.out.size)⟩
      · rw [hg] at C2
        have HR := Lib.hid (show Em.right l = 3 by unfold Em.right; rw [hw, hg, if_neg (by decide), if_neg h64, if_pos rfl])
        clear hw h64 hg
        generalize l.length = N at *
        go_enter Tryz.func77, Tryz.ntmps77
        go_wp2_with (first
          | (go_at_call 126; (with_reducible refine C1.out.mono ?_); rintro e w1 ⟨rfl, b1⟩; have H1 := Lib.hid b1; clear b1)
          | (go_at_call 126; (with_reducible refine (C2.out w1 H1.out).mono ?_); rintro e w2 ⟨rfl, b2⟩; have H2 := Lib.hid b2; clear b2))
        go_ret
        exact ⟨by rw [HR.out]; rfl, H1.out.trans (H2.out.mono H1.out.size)⟩
  · rw [hw] at C1
    have HR := Lib.hid (show Em.right l = 2 by unfold Em.right; rw [hw, if_pos rfl])
    clear hw
    generalize l.length = N at *
    go_enter Tryz.func77, Tryz.ntmps77
    go_wp2_with (go_at_call 126; refine C1.out.mono ?_; rintro e w1 ⟨rfl, b1⟩)
    go_ret
    exact ⟨by rw [HR.out]; rfl, b1⟩

abbrev tRows : Nat := 66
abbrev tStr : Nat := 9

set_option maxRecDepth 100000 in
theorem cloneRows_c (m : Nat) (es : Array MapEntry) (clock : Nat) (w : World) (hb : w.heap[m]? = some (.map es clock)) :
    Calls Tryz.prog 78 #[.map (some m)] w fun e w' => e = .returned (.map (some w.heap.size)) ∧ w' = w.alloc (.map es clock) := by
  have hq := fun w => run_eql_map_nil_sl (P := Tryz.prog) w tRows _ _ (some m) Tryz.underlying66
  go_enter Tryz.func78, Tryz.ntmps78
  go_wp2
  rw [run_callFunc_extern Tryz.func103 (by kernel_rfl) (by kernel_rfl) (by kernel_rfl) (e := Extern.MapsClone.clone) (by kernel_rfl), run_maps_clone_sl w tRows hb]
  simp only [Result.andThen]
  rw [Oper.upon_value]
  go_wp2
  rw [run_typeAssert_map_sl _ tRows 20 _ _ _ Tryz.underlying66]
  simp only [Result.andThen]
  rw [Oper.upon_value]
  go_wp2
  go_ret
  exact ⟨rfl, rfl⟩

/-- Rows in memory. -/
abbrev RowsIn (w : World) (m n : Nat) (D : Em.Rows) : Prop := w.ownsMap Tryz.prog tStr (plainElem Tryz.prog tStr) m n D

theorem keyOf_text (s : List UInt8) (h : s.length ≤ 9223372036854775807) : keyOf Tryz.prog tStr (strOfB s) = some (.string s) := by
  simpa using Go.WideMaps.keyOf_string_mk (P := Tryz.prog) Tryz.underlying9 (s := ⟨s.toArray⟩) (by simp [ByteArray.size]; exact h)

theorem elem_text (s : List UInt8) (h : s.length ≤ 9223372036854775807) : plainElem (H := Unit) Tryz.prog tStr (strOfB s) = some (.lit (.string s), []) := by
  have := plainElem_string (H := Unit) Tryz.underlying9 (s := ⟨s.toArray⟩) (by simp [ByteArray.size]; exact h)
  simpa using this

theorem rows_keyed : Maps.Keyed Tryz.prog tStr := Maps.string_keyed Tryz.underlying9

end Go.Proofs.YtgffifleflkjoaaGreat

namespace Go.Proofs.YtgffifleflkjoaaGreat
open Go.RowKit

/-- The rows behind a batch, in a block of its own. -/
def DoneR (w : World) (D : Em.Rows) (l : List Em.Change) (e : Ending) (w' : World) : Prop :=
  Below w.heap.size w w' ∧ ((Em.doneErr D l ≠ 0 ∧ e = .returned (.tuple #[.map none, .int .i64 (Em.doneErr D l)])) ∨
    (Em.doneErr D l = 0 ∧ ∃ m, e = .returned (.tuple #[.map (some m), .int .i64 0]) ∧ w.heap.size ≤ m ∧ RowsIn w' m (Maps.size (Em.behind D l)) (Em.behind D l)))

theorem rows_fit {w : World} {m n : Nat} {D : Em.Rows} (h : RowsIn w m n D) : RowsIn w m (Maps.size D) D := by
  obtain ⟨es, clock, hb, F, hs, rfl⟩ := h
  exact ⟨es, clock, hb, F, by simp [Maps.size, length_sorted], rfl⟩

theorem rows_below {w w' : World} {m n : Nat} {D : Em.Rows} {B : Nat} (h : RowsIn w m n D) (hb : Below B w w') (hm : m < B) : RowsIn w' m n D := by
  obtain ⟨es, clock, h1, F, hs, hD⟩ := h
  exact ⟨es, clock, (hb.block m hm).trans h1, F, hs, hD⟩

theorem below_turned {w w' : World} {m B : Nat} (h : w.mapTurned w' m) (hm : B ≤ m) (hB : B ≤ w.heap.size) : Below B w w' :=
  (Below.refl _ _).grown h.grown hB (fun k e => by cases e; exact hm)

theorem behind_take {D : Em.Rows} {l : List Em.Change} {i : Nat} {c : Em.Change} (h : l[i]? = some c) : Em.behind D (l.take (i + 1)) = Em.one (Em.behind D (l.take i)) c := by
  unfold Em.behind
  rw [List.take_add_one, h]
  simp [List.foldl_append]

set_option maxRecDepth 100000 in
set_option maxHeartbeats 2000000 in
theorem done_c {w : World} {F : Nat → Prop} {v : Value} {l : List Em.Change} {m n : Nat} {D : Em.Rows} (hm : RowsIn w m n D) (hn : n ≤ 1000000) (h : ChangesAt w F v l) (hl : l.length ≤ 1000000) (hk : ∀ c ∈ l, c.key.length ≤ 1000000000 ∧ c.value.length ≤ 1000000000) :
    Calls Tryz.prog 37 #[.map (some m), v] w (DoneR w D l) := by
  have RC := Lib.hid (right_c h (by omega))
  obtain ⟨a, cap, rfl⟩ := h.slice
  by_cases hr : Em.right l = 0
  · rw [hr] at RC
    have H := Lib.hid (And.intro hm (And.intro h (And.intro hk hr)))
    clear hm h hk hr
    generalize hN : l.length = N at *
    have HN := Lib.hid hN
    clear hN
    go_enter Tryz.func37, Tryz.ntmps37
    go_wp2_with (first
      | (go_at_call 77; (refine RC.out.mono ?_); rintro e w1 ⟨rfl, b1⟩; have H1 := Lib.hid b1; clear b1)
      | (go_at_call 78
         obtain ⟨es, clock, k1, k2⟩ := rows_below H.out.1 H1.out H.out.1.lt
         refine (cloneRows_c m es clock w1 k1).mono ?_; rintro e w2 ⟨rfl, e2⟩
         have R2 : RowsIn w2 w1.heap.size n D := by rw [e2]; exact ⟨es, clock, heap_alloc_last w1 _, k2⟩
         have B2 : Below w.heap.size w w2 := by rw [e2]; exact H1.out.alloc H1.out.size _
         have H2 := Lib.hid (And.intro R2 (And.intro B2 H1.out.size))
         clear k1 k2 e2 R2 B2))
    go_loopw [9, 19] (fun _ s wr => ∃ i : Nat, i ≤ N ∧ s = .int .i64 (i : Int) ∧ RowsIn wr w1.heap.size (n + i) (Em.behind D (l.take i)) ∧ Below w.heap.size w wr) (fun _ s _ => N - (intOf s).toNat)
    case atStart => exact ⟨0, by omega, rfl, by simpa [Em.behind] using H2.out.1, H2.out.2.1⟩
    case round =>
      obtain ⟨i, hi, rfl, hrow, hb⟩ := hrel
      by_cases hlt : i < N
      · have i0 : (0 : Int) ≤ (i : Int) := by omega
        have i1 : (i : Int) < (N : Int) := by omega
        obtain ⟨c, hc⟩ : ∃ c, l[i]? = some c := ⟨_, List.getElem?_eq_getElem (by rw [HN.out]; exact hlt)⟩
        have kc := H.out.2.2.1 c (List.mem_of_getElem? hc)
        obtain ⟨b, o, rfl, fb, lb, rg⟩ := H.out.2.1.at hc
        have RG := Lib.hid (show wr.rangeAt b (o + i * 3) [strOfB c.key, strOfB c.value, .bool c.gone] from fun j v hj => (hb.cell (p := ⟨b, o + i * 3 + j, none⟩) lb).trans (rg j v hj))
        have BT := Lib.hid (behind_take (D := D) hc)
        obtain ⟨k, vv, gn⟩ := c
        have Z := heap_alloc_last wr (.cells #[strOfB k, strOfB vv, .bool gn] tChange)
        have z0 : (wr.alloc (.cells #[strOfB k, strOfB vv, .bool gn] tChange)).cell? ⟨wr.heap.size, 0, none⟩ = some (strOfB k) := (cell_of_row _ _ _ _ _ _ Z).trans rfl
        have z1 : (wr.alloc (.cells #[strOfB k, strOfB vv, .bool gn] tChange)).cell? ⟨wr.heap.size, 1, none⟩ = some (strOfB vv) := (cell_of_row _ _ _ _ _ _ Z).trans rfl
        have z2 : (wr.alloc (.cells #[strOfB k, strOfB vv, .bool gn] tChange)).cell? ⟨wr.heap.size, 2, none⟩ = some (.bool gn) := (cell_of_row _ _ _ _ _ _ Z).trans rfl
        have HA := Lib.hid (And.intro (hrow.alloc (.cells #[strOfB k, strOfB vv, .bool gn] tChange)) (And.intro (hb.alloc hb.size (.cells #[strOfB k, strOfB vv, .bool gn] tChange)) (And.intro (keyOf_text k (by simp only at kc; omega)) (elem_text vv (by simp only at kc; omega)))))
        have SZ := Lib.hid (And.intro hb.size H2.out.2.2)
        clear hrow hb rg hc kc Z
        cases gn
        · go_wp2_with (first
            | (refine wpList_load_mid rfl tChange (.tmp 21) rfl b (o + i * 3) rfl _ _ RG.out Tryz.underlying33 rfl infoChange ?_)
            | (refine wpList_store_new rfl tChange (.tmp 9) (.tmp 22) rfl _ #[strOfB k, strOfB vv, .bool false] rfl rfl tChange infoChange rfl rfl ?_)
            | (at_mapUpdate; refine wpList_mapUpdate_in _ rfl (.tmp 28) (.tmp 30) (.tmp 32) tRows rfl tStr tStr rows_keyed Tryz.underlying66 (plainElem Tryz.prog tStr) w1.heap.size (n + i) (Em.behind D (l.take i)) rfl HA.out.1 (by unfold maxLen; omega) (strOfB k) (strOfB vv) _ rfl rfl HA.out.2.2.1 _ [] HA.out.2.2.2 ?_
               intro w3 own3 turn3
               have H3 := Lib.hid (And.intro own3 (below_turned turn3 SZ.out.2 (by have := SZ.out.1; simp; omega)))
               clear own3 turn3))
          go_roundw
          case rel => exact ⟨i + 1, by omega, by go_num, by rw [BT.out]; exact H3.out.1, HA.out.2.1.trans H3.out.2⟩
          case measure => simp [intOf]; omega
        · go_wp2_with (first
            | (refine wpList_load_mid rfl tChange (.tmp 21) rfl b (o + i * 3) rfl _ _ RG.out Tryz.underlying33 rfl infoChange ?_)
            | (refine wpList_store_new rfl tChange (.tmp 9) (.tmp 22) rfl _ #[strOfB k, strOfB vv, .bool true] rfl rfl tChange infoChange rfl rfl ?_)
            | (at_delete; refine wpList_delete_own _ rfl (.tmp 25) (.tmp 27) tRows tStr rfl tStr rows_keyed Tryz.underlying66 (plainElem Tryz.prog tStr) w1.heap.size (n + i) (Em.behind D (l.take i)) rfl HA.out.1 (strOfB k) _ rfl HA.out.2.2.1 ?_
               intro w3 own3 turn3
               have H3 := Lib.hid (And.intro own3 (below_turned turn3 SZ.out.2 (by have := SZ.out.1; simp; omega)))
               clear own3 turn3))
          go_roundw
          case rel => exact ⟨i + 1, by omega, by go_num, by rw [BT.out]; exact H3.out.1.mono (by omega), HA.out.2.1.trans H3.out.2⟩
          case measure => simp [intOf]; omega
      · obtain rfl : i = N := by omega
        rw [List.take_of_length_le (by rw [HN.out]; exact Nat.le_refl _)] at hrow
        have HR := Lib.hid (And.intro hrow hb)
        clear hrow hb
        by_cases h256 : 256 < Maps.size (Em.behind D l)
        · have d1 : (256 : Int) < (Maps.size (Em.behind D l) : Int) := by omega
          have HE := Lib.hid (show Em.doneErr D l = 3 by unfold Em.doneErr; rw [if_neg (by rw [H.out.2.2.2]; decide), if_pos h256])
          clear h256
          go_wp2_with (at_len; refine wpList_len_own _ rfl (.tmp 34) tRows rfl tStr tStr Tryz.underlying66 (plainElem Tryz.prog tStr) w1.heap.size (n + i) (Em.behind D l) rfl HR.out.1 ?_)
          go_ret2
          exact ⟨HR.out.2, Or.inl ⟨by rw [HE.out]; decide, by rw [HE.out]; rfl⟩⟩
        · have d1 : ¬ (256 : Int) < (Maps.size (Em.behind D l) : Int) := by omega
          have HE := Lib.hid (show Em.doneErr D l = 0 by unfold Em.doneErr; rw [if_neg (by rw [H.out.2.2.2]; decide), if_neg h256])
          clear h256
          go_wp2_with (at_len; refine wpList_len_own _ rfl (.tmp 34) tRows rfl tStr tStr Tryz.underlying66 (plainElem Tryz.prog tStr) w1.heap.size (n + i) (Em.behind D l) rfl HR.out.1 ?_)
          go_ret2
          exact ⟨HR.out.2, Or.inr ⟨HE.out, _, rfl, H2.out.2.2, rows_fit HR.out.1⟩⟩
  · have HE := Lib.hid (show Em.doneErr D l = Em.right l by unfold Em.doneErr; rw [if_pos hr])
    have hr' : ¬ Em.right l = 0 := hr
    have HH := Lib.hid hr
    clear hm h hk hr
    generalize l.length = N at *
    generalize Em.right l = R at *
    go_enter Tryz.func37, Tryz.ntmps37
    go_wp2_with (go_at_call 77; (refine RC.out.mono ?_); rintro e w1 ⟨rfl, b1⟩)
    go_ret2
    exact ⟨b1, Or.inl ⟨by rw [HE.out]; exact HH.out, by rw [HE.out]; rfl⟩⟩

end Go.Proofs.YtgffifleflkjoaaGreat

namespace Go.Proofs.YtgffifleflkjoaaGreat
open Go.RowKit Go.Maps Go.Sort Go.Shelf

def keys83_ren : Go.Shelf.Ren := ⟨fun | 7 => 83 | 10 => 131 | n => n, fun | 23 => 66 | 26 => 9 | 3 => 9 | 28 => 153 | 0 => 0 | 27 => 152 | 33 => 189 | 4 => 4 | n => n, fun | n => n⟩
theorem keys83 : Go.Proofs.SlLaysZ.n7 Tryz.prog keys83_ren := {
  mixed := by kernel_rfl
  f7 := ⟨Tryz.f83.name, by decide, Tryz.func83.trans (congrArg some (by kernel_rfl))⟩
  f10 := ⟨Tryz.f131.name, by decide, Tryz.func131.trans (congrArg some (by kernel_rfl))⟩
  t0 := Tryz.underlying0
  a0 := Tryz.isAgg0
  z0 := Tryz.sizeOf0
  v0 := Tryz.zeroValue0
  t4 := Tryz.underlying4
  a4 := Tryz.isAgg4
  z4 := Tryz.sizeOf4
  v4 := Tryz.zeroValue4
  t23 := Tryz.underlying66
  a23 := Tryz.isAgg66
  z23 := Tryz.sizeOf66
  v23 := Tryz.zeroValue66
  t26 := Tryz.underlying9
  a26 := Tryz.isAgg9
  z26 := Tryz.sizeOf9
  v26 := Tryz.zeroValue9
  t27 := Tryz.underlying152
  a27 := Tryz.isAgg152
  z27 := Tryz.sizeOf152
  v27 := Tryz.zeroValue152
  t28 := Tryz.underlying153
  a28 := Tryz.isAgg153
  z28 := Tryz.sizeOf153
  v28 := Tryz.zeroValue153
  t33 := Tryz.underlying189
  a33 := Tryz.isAgg189
  z33 := Tryz.sizeOf189
  v33 := Tryz.zeroValue189 }
def sorted82_ren : Go.Shelf.Ren := ⟨fun | 6 => 82 | 8 => 129 | 9 => 130 | 11 => 160 | 13 => 162 | 12 => 161 | 23 => 192 | 24 => 193 | 14 => 183 | 15 => 184 | 16 => 185 | 17 => 186 | 18 => 187 | 19 => 188 | 20 => 189 | 21 => 190 | 22 => 191 | 25 => 206 | 26 => 207 | 27 => 208 | 28 => 209 | 29 => 210 | 30 => 211 | 31 => 216 | n => n, fun | 26 => 9 | 28 => 153 | 24 => 108 | 0 => 0 | 3 => 3 | 37 => 229 | 48 => 240 | 50 => 271 | 4 => 4 | 40 => 263 | 39 => 262 | 45 => 267 | 5 => 5 | 9 => 9 | 51 => 279 | 55 => 283 | 57 => 294 | 58 => 295 | 33 => 189 | n => n, fun | n => n⟩
theorem sorted82 : Go.Proofs.SlLaysZ.n6 Tryz.prog sorted82_ren := {
  mixed := by kernel_rfl
  f6 := ⟨Tryz.f82.name, by decide, Tryz.func82.trans (congrArg some (by kernel_rfl))⟩
  f8 := ⟨Tryz.f129.name, by decide, Tryz.func129.trans (congrArg some (by kernel_rfl))⟩
  f11 := ⟨Tryz.f160.name, by decide, Tryz.func160.trans (congrArg some (by kernel_rfl))⟩
  t0 := Tryz.underlying0
  a0 := Tryz.isAgg0
  z0 := Tryz.sizeOf0
  v0 := Tryz.zeroValue0
  t24 := Tryz.underlying108
  a24 := Tryz.isAgg108
  z24 := Tryz.sizeOf108
  v24 := Tryz.zeroValue108
  t26 := Tryz.underlying9
  a26 := Tryz.isAgg9
  z26 := Tryz.sizeOf9
  v26 := Tryz.zeroValue9
  t28 := Tryz.underlying153
  a28 := Tryz.isAgg153
  z28 := Tryz.sizeOf153
  v28 := Tryz.zeroValue153
  i26 := by kernel_rfl }
def sort130_ren : Go.Shelf.Ren := ⟨fun | 6 => 130 | 8 => 162 | 9 => 161 | 19 => 192 | 20 => 193 | 21 => 183 | 22 => 184 | 23 => 185 | 24 => 186 | 25 => 187 | 26 => 188 | 27 => 189 | 28 => 190 | 29 => 191 | 36 => 206 | 31 => 207 | 32 => 208 | 37 => 209 | 38 => 210 | 39 => 211 | 41 => 216 | n => n, fun | 27 => 108 | 29 => 9 | 3 => 3 | 32 => 229 | 26 => 108 | 0 => 0 | 44 => 240 | 46 => 271 | 4 => 4 | 36 => 263 | 35 => 262 | 41 => 267 | 5 => 5 | 9 => 9 | 53 => 279 | 57 => 283 | 63 => 294 | 64 => 295 | n => n, fun | n => n⟩
theorem sort130 : Go.Proofs.SlLaysM.n6 Tryz.prog sort130_ren := {
  mixed := by kernel_rfl
  f6 := ⟨Tryz.f130.name, by decide, Tryz.func130.trans (congrArg some (by kernel_rfl))⟩
  f8 := Tryz.func162.trans (congrArg some (by kernel_rfl))
  f9 := ⟨Tryz.f161.name, by decide, Tryz.func161.trans (congrArg some (by kernel_rfl))⟩
  f19 := Tryz.func192.trans (congrArg some (by kernel_rfl))
  f20 := Tryz.func193.trans (congrArg some (by kernel_rfl))
  f21 := ⟨Tryz.f183.name, by decide, Tryz.func183.trans (congrArg some (by kernel_rfl))⟩
  f22 := ⟨Tryz.f184.name, by decide, Tryz.func184.trans (congrArg some (by kernel_rfl))⟩
  f23 := ⟨Tryz.f185.name, by decide, Tryz.func185.trans (congrArg some (by kernel_rfl))⟩
  f24 := ⟨Tryz.f186.name, by decide, Tryz.func186.trans (congrArg some (by kernel_rfl))⟩
  f25 := ⟨Tryz.f187.name, by decide, Tryz.func187.trans (congrArg some (by kernel_rfl))⟩
  f26 := ⟨Tryz.f188.name, by decide, Tryz.func188.trans (congrArg some (by kernel_rfl))⟩
  f27 := ⟨Tryz.f189.name, by decide, Tryz.func189.trans (congrArg some (by kernel_rfl))⟩
  f28 := ⟨Tryz.f190.name, by decide, Tryz.func190.trans (congrArg some (by kernel_rfl))⟩
  f29 := ⟨Tryz.f191.name, by decide, Tryz.func191.trans (congrArg some (by kernel_rfl))⟩
  f31 := Tryz.func207.trans (congrArg some (by kernel_rfl))
  f32 := Tryz.func208.trans (congrArg some (by kernel_rfl))
  f36 := ⟨Tryz.f206.name, by decide, Tryz.func206.trans (congrArg some (by kernel_rfl))⟩
  f37 := ⟨Tryz.f209.name, by decide, Tryz.func209.trans (congrArg some (by kernel_rfl))⟩
  f38 := ⟨Tryz.f210.name, by decide, Tryz.func210.trans (congrArg some (by kernel_rfl))⟩
  f39 := ⟨Tryz.f211.name, by decide, Tryz.func211.trans (congrArg some (by kernel_rfl))⟩
  f41 := ⟨Tryz.f216.name, by decide, Tryz.func216.trans (congrArg some (by kernel_rfl))⟩
  t0 := Tryz.underlying0
  a0 := Tryz.isAgg0
  z0 := Tryz.sizeOf0
  v0 := Tryz.zeroValue0
  t3 := Tryz.underlying3
  a3 := Tryz.isAgg3
  z3 := Tryz.sizeOf3
  v3 := Tryz.zeroValue3
  t4 := Tryz.underlying4
  a4 := Tryz.isAgg4
  z4 := Tryz.sizeOf4
  v4 := Tryz.zeroValue4
  t5 := Tryz.underlying5
  a5 := Tryz.isAgg5
  z5 := Tryz.sizeOf5
  v5 := Tryz.zeroValue5
  t9 := Tryz.underlying9
  a9 := Tryz.isAgg9
  z9 := Tryz.sizeOf9
  v9 := Tryz.zeroValue9
  t26 := Tryz.underlying108
  a26 := Tryz.isAgg108
  z26 := Tryz.sizeOf108
  v26 := Tryz.zeroValue108
  t27 := Tryz.underlying108
  a27 := Tryz.isAgg108
  z27 := Tryz.sizeOf108
  v27 := Tryz.zeroValue108
  t29 := Tryz.underlying9
  a29 := Tryz.isAgg9
  z29 := Tryz.sizeOf9
  v29 := Tryz.zeroValue9
  t32 := Tryz.underlying229
  a32 := Tryz.isAgg229
  z32 := Tryz.sizeOf229
  v32 := Tryz.zeroValue229
  t35 := Tryz.underlying262
  a35 := Tryz.isAgg262
  z35 := Tryz.sizeOf262
  v35 := Tryz.zeroValue262
  t36 := Tryz.underlying263
  a36 := Tryz.isAgg263
  z36 := Tryz.sizeOf263
  v36 := Tryz.zeroValue263
  t41 := Tryz.underlying267
  a41 := Tryz.isAgg267
  z41 := Tryz.sizeOf267
  v41 := Tryz.zeroValue267
  t44 := Tryz.underlying240
  a44 := Tryz.isAgg240
  z44 := Tryz.sizeOf240
  v44 := Tryz.zeroValue240
  t46 := Tryz.underlying271
  a46 := Tryz.isAgg271
  z46 := Tryz.sizeOf271
  v46 := Tryz.zeroValue271
  t53 := Tryz.underlying279
  a53 := Tryz.isAgg279
  z53 := Tryz.sizeOf279
  v53 := Tryz.zeroValue279
  t57 := Tryz.underlying283
  a57 := Tryz.isAgg283
  z57 := Tryz.sizeOf283
  v57 := Tryz.zeroValue283
  t63 := Tryz.underlying294
  a63 := Tryz.isAgg294
  z63 := Tryz.sizeOf294
  v63 := Tryz.zeroValue294
  t64 := Tryz.underlying295
  a64 := Tryz.isAgg295
  z64 := Tryz.sizeOf295
  v64 := Tryz.zeroValue295 }

theorem sorts82 (m : Nat) : AnyZ.SortsIn Tryz.prog sorted82_ren Fence.wide m :=
  ⟨fun blk off cap ss W hH hblk hsz => callsIn_wide.2 (AnyM.slices_Sort_string sort130 blk off cap ss W hH hblk hsz),
   fun p cap W => callsIn_wide.2 (AnyM.slices_Sort_string_none sort130 p cap W)⟩

theorem maps_Keys_83 (mb : Option Nat) (W : World) : CallsIn Fence.wide 5 Tryz.prog 83 #[.map mb] W fun e w' => e = .returned (.func (.func 131) #[] #[.pointer (some ⟨W.heap.size, 0, none⟩)]) ∧ w' = W.alloc (.cells #[.map mb] 66) :=
  AnyZ.keys_in keys83 Fence.wide 5 trivial rfl mb W

set_option maxHeartbeats 1000000 in
theorem slices_Sorted_keys_82_83 {H : Type} (b nn : Nat) (D0 : DataW H) (R : Value → Option (DataW H × List MemPlace)) (w : World) (hown : w.ownsMap Tryz.prog 9 R b nn D0) (hmax : Maps.size D0 ≤ maxLen) (hbytes : Maps.size D0 * 16 ≤ 140737488355328) :
    CallsIn Fence.wide 5 Tryz.prog 82 #[.func (.func 131) #[] #[.pointer (some ⟨w.heap.size, 0, none⟩)]] (w.alloc (.cells #[.map (some b)] 66)) fun e w' => ∃ (v : Value) (ss : List (List UInt8)), e = .returned v ∧ ss.Perm (strKeys D0) ∧
      w'.ownsRow (w.alloc (.cells #[.map (some b)] 66)).heap.size 9 1 v ss.length ((ss.mergeSort (fun x y => decide (x ≤ y))).map encStr) ∧ (v = .slice none 0 0 ↔ ss = []) ∧ Below (w.alloc (.cells #[.map (some b)] 66)).heap.size (w.alloc (.cells #[.map (some b)] 66)) w' := by
  have hbl := hown.lt
  have hseq : SeqGives Fence.wide 2 Tryz.prog 131 #[.pointer (some ⟨w.heap.size, 0, none⟩)] encStr (fun ss => ss.Perm (strKeys D0)) (Maps.size D0) (w.alloc (.cells #[.map (some b)] 66)) :=
    AnyZ.keys_gives (ρ := keys83_ren) { keys83 with } Fence.wide _ trivial rfl (by omega) w.heap.size b nn D0 _ (by simp) (by simp) (by
      obtain ⟨es, clock, hb, Ft, hs, hD⟩ := hown
      exact ⟨es, clock, (Below.heap_alloc _ _ b hbl).trans hb, Ft, hs, hD⟩)
  exact AnyZ.sorted_in sorted82 Fence.wide 5 trivial trivial trivial trivial rfl (by omega) (sorts82 _) (enters_of Tryz.func130 (by kernel_rfl) rfl) 131 #[.pointer (some ⟨w.heap.size, 0, none⟩)] trivial (enters_of Tryz.func131 (by kernel_rfl) rfl) _ _ hmax hbytes _ hseq

set_option maxHeartbeats 1000000 in
theorem slices_Sorted_keys_nil_82_83 (w : World) :
    CallsIn Fence.wide 5 Tryz.prog 82 #[.func (.func 131) #[] #[.pointer (some ⟨w.heap.size, 0, none⟩)]] (w.alloc (.cells #[.map none] 66)) fun e w' => ∃ (v : Value) (ss : List (List UInt8)), e = .returned v ∧ ss = [] ∧
      w'.ownsRow (w.alloc (.cells #[.map none] 66)).heap.size 9 1 v ss.length ((ss.mergeSort (fun x y => decide (x ≤ y))).map encStr) ∧ (v = .slice none 0 0 ↔ ss = []) ∧ Below (w.alloc (.cells #[.map none] 66)).heap.size (w.alloc (.cells #[.map none] 66)) w' := by
  have hseq : SeqGives Fence.wide 2 Tryz.prog 131 #[.pointer (some ⟨w.heap.size, 0, none⟩)] encStr (fun ss : List (List UInt8) => ss = []) 0 (w.alloc (.cells #[.map none] 66)) :=
    AnyZ.keys_gives_nil (ρ := keys83_ren) { keys83 with } Fence.wide _ trivial rfl w.heap.size _ (by simp) (by simp)
  exact AnyZ.sorted_in sorted82 Fence.wide 5 trivial trivial trivial trivial rfl (by omega) (sorts82 _) (enters_of Tryz.func130 (by kernel_rfl) rfl) 131 #[.pointer (some ⟨w.heap.size, 0, none⟩)] trivial (enters_of Tryz.func131 (by kernel_rfl) rfl) _ 0 (Nat.zero_le _) (by omega) _ hseq


end Go.Proofs.YtgffifleflkjoaaGreat

namespace Go.Proofs.YtgffifleflkjoaaGreat
open Go.RowKit

/-- Texts in memory, in a row that nothing else has. -/
def KeysAt (w : World) (v : Value) (ks : List (List UInt8)) : Prop :=
  (v = .slice none 0 0 ∧ ks = []) ∨ ∃ (b cap : Nat) (cs : Array Value), v = .slice (some ⟨b, 0, none⟩) ks.length cap ∧ w.heap[b]? = some (.cells cs tStr (0, 0)) ∧ ∀ (i : Nat) (k : List UInt8), ks[i]? = some k → cs[i]? = some (strOfB k)

theorem KeysAt.slice {w : World} {v : Value} {ks : List (List UInt8)} (h : KeysAt w v ks) : ∃ a c, v = .slice a ks.length c := by
  rcases h with ⟨rfl, rfl⟩ | ⟨b, cap, cs, rfl, _⟩
  · exact ⟨_, _, rfl⟩
  · exact ⟨_, _, rfl⟩

theorem KeysAt.at {w : World} {a : Option Addr} {n cap : Nat} {ks : List (List UInt8)} (h : KeysAt w (.slice a n cap) ks) {i : Nat} {k : List UInt8} (hi : ks[i]? = some k) : ∃ b, a = some ⟨b, 0, none⟩ ∧ w.cell? ⟨b, i, none⟩ = some (strOfB k) := by
  rcases h with ⟨_, rfl⟩ | ⟨b, cap', cs, h1, h2, h3⟩
  · simp at hi
  · cases h1
    exact ⟨b, rfl, (cell_of_row _ _ _ _ _ _ h2).trans (h3 i k hi)⟩

theorem keysAt_own {w : World} {base : Nat} {v : Value} {ks : List (List UInt8)} (h : w.ownsRow base tStr 1 v ks.length (ks.map encStr)) : KeysAt w v ks := by
  rcases h.2 with ⟨h1, h2⟩ | ⟨g, cap, cur, h1, h2, h3, h4, h5, h6, h7⟩
  · exact Or.inl ⟨h1, List.eq_nil_of_length_eq_zero h2⟩
  · refine Or.inr ⟨g, cap, cur, h1, h3, fun i k hk => ?_⟩
    have hx : (ks.map encStr)[i]? = some (strOfB k) := by rw [List.getElem?_map, hk]; rfl
    have := h.cells (g := g) (by rw [h1]; rfl) i _ hx
    rw [addr_add] at this
    rw [cell_of_row _ _ _ _ _ _ h3] at this
    simpa using this

theorem KeysAt.later {w w' : World} {v : Value} {ks : List (List UInt8)} (h : KeysAt w v ks) (hb : Below w.heap.size w w') : KeysAt w' v ks := by
  rcases h with h | ⟨b, cap, cs, h1, h2, h3⟩
  · exact Or.inl h
  · exact Or.inr ⟨b, cap, cs, h1, (hb.block b (lt_of_row h2)).trans h2, h3⟩

theorem KeysAt.adds {w w' : World} {u u' v : Value} {ks : List (List UInt8)} {base : Nat} {l : List UInt8} (h : KeysAt w v ks) (ho : OwnB w base u l) (ha : Adds w w' u u') : KeysAt w' v ks := by
  rcases h with h | ⟨b, cap, cs, h1, h2, h3⟩
  · exact Or.inl h
  · exact Or.inr ⟨b, cap, cs, h1, ha.kept h2 (own_ne ho h2 (by decide)), h3⟩

/-- A map's keys, in order: bytes' order. -/
def SortedK (w : World) (D : Em.Rows) (e : Ending) (w' : World) : Prop := ∃ v, e = .returned v ∧ KeysAt w' v (Em.skeys D) ∧ Below w.heap.size w w'

theorem sorted_c {w : World} {m n : Nat} {D : Em.Rows} (h : RowsIn w m n D) (hn : Maps.size D ≤ 1000000) : Calls Tryz.prog 44 #[.map (some m)] w (SortedK w D) := by
  have K := Lib.hid (callsIn_wide.1 (maps_Keys_83 (some m) w))
  have S := Lib.hid (callsIn_wide.1 (slices_Sorted_keys_82_83 m n D (plainElem Tryz.prog tStr) w h (by unfold maxLen; omega) (by omega)))
  clear h
  go_enter Tryz.func44, Tryz.ntmps44
  go_wp2_with (first
    | (go_at_call 83; refine K.out.mono ?_; rintro e w' ⟨rfl, rfl⟩)
    | (go_at_call 82; refine S.out.mono ?_; rintro e w1 ⟨v, ss, rfl, hS, hrow, hnil, hb⟩))
  go_ret
  refine ⟨v, rfl, ?_, ((Below.refl _ w).alloc (Nat.le_refl _) _).trans (hb.mono (by simp))⟩
  have e1 : ss.mergeSort (fun x y => decide (x ≤ y)) = Em.skeys D := mergeSort_of_perm hS
  have e2 : ss.length = (Em.skeys D).length := by rw [← e1, List.length_mergeSort]
  rw [e1, e2] at hrow
  exact keysAt_own hrow

theorem sortedNil_c (w : World) : Calls Tryz.prog 44 #[.map none] w (SortedK w (.map [])) := by
  have K := Lib.hid (callsIn_wide.1 (maps_Keys_83 none w))
  have S := Lib.hid (callsIn_wide.1 (slices_Sorted_keys_nil_82_83 w))
  go_enter Tryz.func44, Tryz.ntmps44
  go_wp2_with (first
    | (go_at_call 83; refine K.out.mono ?_; rintro e w' ⟨rfl, rfl⟩)
    | (go_at_call 82; refine S.out.mono ?_; rintro e w1 ⟨v, ss, rfl, hS, hrow, hnil, hb⟩))
  go_ret
  refine ⟨v, rfl, ?_, ((Below.refl _ w).alloc (Nat.le_refl _) _).trans (hb.mono (by simp))⟩
  have e1 : Em.skeys (.map []) = [] := by simp [Em.skeys, strKeys]
  rw [e1]
  exact Or.inl ⟨hnil.2 hS, rfl⟩

end Go.Proofs.YtgffifleflkjoaaGreat

namespace Go.Proofs.YtgffifleflkjoaaGreat
open Go.RowKit

/-- Rows in memory, or the nil map. -/
def RowsV (w : World) (v : Value) (D : Em.Rows) : Prop := (v = .map none ∧ D = .map []) ∨ ∃ m n, v = .map (some m) ∧ RowsIn w m n D

theorem RowsV.later {w w' : World} {v : Value} {D : Em.Rows} (h : RowsV w v D) (hb : Below w.heap.size w w') : RowsV w' v D := by
  rcases h with h | ⟨m, n, h1, h2⟩
  · exact Or.inl h
  · exact Or.inr ⟨m, n, h1, rows_below h2 hb h2.lt⟩

set_option maxRecDepth 100000 in
set_option maxHeartbeats 2000000 in
theorem headIn_c {w : World} {q g b : Nat} {gen : Nat} {v : Value} {D : Em.Rows} (hw : WriterAt w q []) (hg : w.cell? ⟨g, 0, none⟩ = some (.int .i64 gen)) (hb : w.cell? ⟨b, 0, none⟩ = some v) (h : RowsV w v D) (hs : Maps.size D ≤ 1000000) (hgen : gen ≤ 4611686018427387904) :
    Calls Tryz.prog 116 #[.pointer (some ⟨q, 0, none⟩), .pointer (some ⟨g, 0, none⟩), .pointer (some ⟨b, 0, none⟩)] w fun e w' => e = .returned (.tuple #[]) ∧ WriterAt w' q (Wm.wnum 1 ++ Wm.wnum gen ++ Wm.wnum (Maps.size D)) ∧ Below q w w' := by
  have lq : q < w.heap.size := let ⟨_, _, _, _, _, _, x⟩ := hw.cells; x
  have W0 : WriterAt (w.alloc (.cells #[.int .i64 1, .int .i64 gen, .int .i64 (Maps.size D)] tInt64)) q [] := hw.below ((Below.refl _ _).alloc (Nat.le_refl _) _)
  have N0 : NumsAt (w.alloc (.cells #[.int .i64 1, .int .i64 gen, .int .i64 (Maps.size D)] tInt64)) w.heap.size [1, gen, Maps.size D] := ⟨_, _, heap_alloc_last w _, fun i x hx => by
    match i, hx with
    | 0, hx => cases hx; rfl
    | 1, hx => cases hx; rfl
    | 2, hx => cases hx; rfl
    | i + 3, hx => simp at hx⟩
  have WN := Lib.hid (writerNumber_c (cap := 3) W0 N0 (by intro x hx; simp at hx; omega) (by simp) (by simp))
  have HW := Lib.hid (show Below q w (w.alloc (.cells #[.int .i64 1, .int .i64 gen, .int .i64 (Maps.size D)] tInt64)) from (Below.refl _ _).alloc (Nat.le_of_lt lq) _)
  clear W0 N0 hw
  rcases h with ⟨rfl, rfl⟩ | ⟨m, n, rfl, hm⟩
  · go_enter Tryz.func116, Tryz.ntmps116
    go_wp2_with (go_at_call 117; refine WN.out.mono ?_; rintro e w1 ⟨rfl, q1, s1⟩)
    go_end0
    exact ⟨rfl, by simpa [List.append_assoc] using q1, HW.out.trans s1.below⟩
  · have HM := Lib.hid hm
    clear hm
    go_enter Tryz.func116, Tryz.ntmps116
    go_wp2_with (first
      | (at_len; refine wpList_len_own _ rfl (.tmp 6) tRows rfl tStr tStr Tryz.underlying66 (plainElem Tryz.prog tStr) m n D rfl HM.out ?_)
      | (go_at_call 117; refine WN.out.mono ?_; rintro e w1 ⟨rfl, q1, s1⟩))
    go_end0
    exact ⟨rfl, by simpa [List.append_assoc] using q1, HW.out.trans s1.below⟩

theorem lookup_row {w : World} {m n : Nat} {D : Em.Rows} (h : RowsIn w m n D) (k : List UInt8) (hk : k.length ≤ 1000000) : (Instr.lookup tRows (.map (some m)) (strOfB k) false).run Tryz.prog w = .ok (strOfB (Em.valueOf D k)) w := by
  obtain ⟨v, ps, hrun, hv⟩ := h.lookup rows_keyed Tryz.underlying66 (Tryz.zeroValue9 w) (elem_text [] (by simp)) (keyOf_text k (by omega))
  obtain ⟨s, rfl, h1, h2⟩ := plainElem_string_inv Tryz.underlying9 hv
  rw [hrun]
  have e : Em.valueOf D k = s.data.toList := by
    unfold Em.valueOf
    rw [show D.atKey (.string k) (.lit (.string [])) = .lit (.string s.data.toList) from congrArg Prod.fst h1]
  rw [e]

set_option maxRecDepth 100000 in
set_option maxHeartbeats 2000000 in
theorem rowIn_c {w : World} {q g b m n : Nat} {D : Em.Rows} {k : List UInt8} (hw : WriterAt w q []) (hg : w.cell? ⟨g, 0, none⟩ = some (strOfB k)) (hb : w.cell? ⟨b, 0, none⟩ = some (.map (some m))) (h : RowsIn w m n D) (hgq : g < q) (hbq : b < q) (hmq : m < q) (hk : k.length ≤ 1000) (hD : Em.RowsOk D) :
    Calls Tryz.prog 118 #[.pointer (some ⟨q, 0, none⟩), .pointer (some ⟨g, 0, none⟩), .pointer (some ⟨b, 0, none⟩)] w fun e w' => e = .returned (.tuple #[]) ∧ WriterAt w' q (Wm.wnum 2 ++ Wm.wtext k ++ Wm.wtext (Em.valueOf D k)) ∧ Below q w w' := by
  have lq : q < w.heap.size := let ⟨_, _, _, _, _, _, x⟩ := hw.cells; x
  have W0 : WriterAt (w.alloc (.cells #[.int .i64 2] tInt64)) q [] := hw.below ((Below.refl _ _).alloc (Nat.le_refl _) _)
  have N0 : NumsAt (w.alloc (.cells #[.int .i64 2] tInt64)) w.heap.size [2] := ⟨_, _, heap_alloc_last w _, fun i x hx => by
    match i, hx with
    | 0, hx => cases hx; rfl
    | i + 1, hx => simp at hx⟩
  have WN := Lib.hid (writerNumber_c (cap := 1) W0 N0 (by intro x hx; simp at hx; omega) (by simp) (by simp))
  have HW := Lib.hid (show Below q w (w.alloc (.cells #[.int .i64 2] tInt64)) from (Below.refl _ _).alloc (Nat.le_of_lt lq) _)
  have VL := Lib.hid (Em.valueOf_len hD k)
  have HM := Lib.hid (And.intro h (And.intro hg hb))
  clear W0 N0 hw h
  go_enter Tryz.func118, Tryz.ntmps118
  go_wp2_with (first
    | (go_at_call 117; refine WN.out.mono ?_; rintro e w1 ⟨rfl, q1, s1⟩
       have B1 := Lib.hid (HW.out.trans s1.below)
       have T1 := Lib.hid (writerText_c q1 k (by decide) (by omega))
       have c1 : w1.cell? ⟨g, 0, none⟩ = some (strOfB k) := (B1.out.cell (p := ⟨g, 0, none⟩) hgq).trans HM.out.2.1
       clear q1 s1)
    | (go_at_call 119; (with_reducible refine T1.out.mono ?_); rintro e w2 ⟨rfl, q2, s2⟩
       have B2 := Lib.hid (B1.out.trans s2.below)
       have c2 : w2.cell? ⟨g, 0, none⟩ = some (strOfB k) := (B2.out.cell (p := ⟨g, 0, none⟩) hgq).trans HM.out.2.1
       have c3 : w2.cell? ⟨b, 0, none⟩ = some (.map (some m)) := (B2.out.cell (p := ⟨b, 0, none⟩) hbq).trans HM.out.2.2
       have lk := lookup_row (rows_below HM.out.1 B2.out hmq) k (by omega)
       have T2 := Lib.hid (writerText_c q2 (Em.valueOf D k) (by have := Em.wtext_len k; simp only [List.nil_append, List.length_append]; have := (Em.wnum_len 2).1; simp; omega) (by have := VL.out; omega))
       clear q2 s2)
    | (go_at_call 119; (with_reducible refine T2.out.mono ?_); rintro e w3 ⟨rfl, q3, s3⟩))
  go_end0
  exact ⟨rfl, by simpa [List.append_assoc] using q3, B2.out.trans s3.below⟩

end Go.Proofs.YtgffifleflkjoaaGreat
