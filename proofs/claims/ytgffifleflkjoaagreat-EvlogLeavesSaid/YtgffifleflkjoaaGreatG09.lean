/-
  Stop, Used.
  Sealed bytes; bytes that are the same.
  Sealed bytes opened.
  append onto a row of the call's own: where the row lies then.
  append onto bytes of one's own: which block has turned.
-/
import Derived.Test.YtgffifleflkjoaaGreatG01
import Derived.Test.YtgffifleflkjoaaGreatG08
import Derived.Lib.AppendStr
import Derived.Maps.Range

namespace Go.Proofs.YtgffifleflkjoaaGreat
open Go.RowKit Dm

/-- Only a disk's flags have turned. -/
theorem DiskAt.flags {w w' : World} {p m : Nat} {d : D} {F : Nat → Prop} (x : DiskAt w.heap p m d F) (dead' stops' : Bool) (after' : Int) (d' : D) (ed : d' = { d with dead := dead', stops := if stops' then after' else -1 }) (hok : d'.ok) (ha : stops' = true → 0 ≤ after')
    (hm : Moves (fun k => k = p) w w')
    (hc : ∀ c, w.heap[p]? = some (.cells c tDisk (0, 0)) → w'.heap[p]? = some (.cells (((c.setIfInBounds 13 (.bool dead')).setIfInBounds 14 (.bool stops')).setIfInBounds 15 (.int .i64 after')) tDisk (0, 0))) : DiskAt w'.heap p m d' F := by
  subst ed
  have lt := x.lt
  obtain ⟨ml, l0, l1, l2, l3, wv, stops, after, ⟨t0, t1, t2, t3, c1, c4, b0, b1, b2, b3, c7, c8, c9⟩, r⟩ := x.parts
  have hs : ∀ k, F k → k < w.heap.size → w'.heap[k]? = w.heap[k]? := fun k hk hl => hm.block k hl (fun e => c8 (e ▸ hk))
  have hF : ∀ k, F k → k < w.heap.size → F k := fun _ h _ => h
  refine DiskAt.of hok (ml := ml) (l0 := l0) (l1 := l1) (l2 := l2) (l3 := l3) (wv := wv) (stops := stops') (after := after') ?_ ?_
  · exact ⟨t0, t1, t2, t3, (hc _ c1).trans (by simp [diskR]), c4.stays (hm.block m lt.2.1 c9), b0.keeps hs hF, b1.keeps hs hF, b2.keeps hs hF, b3.keeps hs hF, c7, c8, c9⟩
  · have r' := r.keeps (F' := F) hs hF
    exact ⟨rfl, ha, r'.sec, r'.fml, r'.b0, r'.b1, r'.b2, r'.b3, r'.steps⟩

theorem stop_none (v : Value) (n : Int) (w : World) (h : NoneD w v) : Calls Tryz.prog 16 #[v, .int .i64 n] w fun e w' => e = .returned (.int .i64 1) ∧ w = w' := by
  have H := Lib.hid h
  clear h
  go_enter Tryz.func16, Tryz.ntmps16
  go_wp2_with (go_at_call 45; refine (none_c H.out).mono ?_; rintro e w' ⟨rfl, rfl⟩)
  go_ret
  exact ⟨rfl, rfl⟩

theorem stop_arg (p : Nat) (n : Int) (w : World) (h : w.cell? ⟨p, 16, none⟩ = some (.bool true)) (hn : n < 0) : Calls Tryz.prog 16 #[.pointer (some ⟨p, 0, none⟩), .int .i64 n] w fun e w' => e = .returned (.int .i64 2) ∧ w = w' := by
  go_enter Tryz.func16, Tryz.ntmps16
  go_wp2_with (go_at_call 45; refine (none_at p true _ h).mono ?_; rintro e w' ⟨rfl, rfl⟩)
  go_ret
  exact ⟨rfl, rfl⟩

theorem stop_dead (p : Nat) (n : Int) (w : World) (h : w.cell? ⟨p, 16, none⟩ = some (.bool true)) (h2 : w.cell? ⟨p, 13, none⟩ = some (.bool true)) (hn : ¬ n < 0) : Calls Tryz.prog 16 #[.pointer (some ⟨p, 0, none⟩), .int .i64 n] w fun e w' => e = .returned (.int .i64 281) ∧ w = w' := by
  go_enter Tryz.func16, Tryz.ntmps16
  go_wp2_with (go_at_call 45; refine (none_at p true _ h).mono ?_; rintro e w' ⟨rfl, rfl⟩)
  go_ret
  exact ⟨rfl, rfl⟩

theorem stop_live (p : Nat) (n : Int) (u v : Value) (w : World) (h : w.cell? ⟨p, 16, none⟩ = some (.bool true)) (h2 : w.cell? ⟨p, 13, none⟩ = some (.bool false)) (hn : ¬ n < 0) (h3 : w.cell? ⟨p, 14, none⟩ = some u) (h4 : w.cell? ⟨p, 15, none⟩ = some v)
    (f1 : w.frozen? ⟨p, 14, none⟩ = false) (f2 : w.frozen? ⟨p, 15, none⟩ = false) :
    Calls Tryz.prog 16 #[.pointer (some ⟨p, 0, none⟩), .int .i64 n] w fun e w' => e = .returned (.int .i64 0) ∧ (w.setCell ⟨p, 14, none⟩ (.bool true)).setCell ⟨p, 15, none⟩ (.int .i64 n) = w' := by
  go_enter Tryz.func16, Tryz.ntmps16
  go_wp2_with (go_at_call 45; refine (none_at p true _ h).mono ?_; rintro e w' ⟨rfl, rfl⟩)
  go_ret
  exact ⟨rfl, rfl⟩

theorem left_same {w : World} {p m : Nat} {d : D} {F : Nat → Prop} {c : Int} (x : DiskAt w.heap p m d F) : Left w p m F (d, c) (.returned (.int .i64 c)) w := left_below x (Below.refl _ _)

/-- It is to stop. -/
theorem stop_c {p m : Nat} {d : D} {F : Nat → Prop} {w : World} (x : DiskAt w.heap p m d F) (n : Int) (hn : n ≤ 9223372036854775807) : Calls Tryz.prog 16 #[.pointer (some ⟨p, 0, none⟩), .int .i64 n] w (Left w p m F (d.stop n)) := by
  obtain ⟨k16, k11, k12, k13⟩ := x.cell16
  by_cases h1 : n < 0
  · have e : d.stop n = (d, 2) := by unfold D.stop; rw [if_pos h1]
    rw [e]
    refine (stop_arg p n w k16 h1).mono ?_
    rintro e w' ⟨rfl, rfl⟩
    exact left_same x
  · cases hd : d.dead
    · have e : d.stop n = ({ d with stops := n }, 0) := by unfold D.stop; rw [if_neg h1, hd]; rfl
      rw [e]
      rw [hd] at k13
      have lt := x.lt
      obtain ⟨ml, l0, l1, l2, l3, wv, stops, after, ⟨t0, t1, t2, t3, c1, _⟩, r⟩ := x.parts
      refine (stop_live p n (.bool stops) (.int .i64 after) w k16 k13 h1 (by rw [cell_of_row _ _ _ _ _ _ c1]; simp [diskR]) (by rw [cell_of_row _ _ _ _ _ _ c1]; simp [diskR]) (row_free c1 _) (row_free c1 _)).mono ?_
      rintro e w' ⟨rfl, rfl⟩
      have mv : Moves (fun k => k = p) w ((w.setCell ⟨p, 14, none⟩ (.bool true)).setCell ⟨p, 15, none⟩ (.int .i64 n)) :=
        ⟨rfl, rfl, rfl, by simp, fun k hk hne => by rw [heap_setCell_other _ _ _ _ hne, heap_setCell_other _ _ _ _ hne]⟩
      have hok : ({ d with stops := n } : D).ok := by
        have h := x.ok
        exact ⟨h.many0, h.many1, h.room0, h.room1, h.sec, h.tape, h.waits, by show -1 ≤ n; omega, hn⟩
      have y := x.flags (w' := (w.setCell ⟨p, 14, none⟩ (.bool true)).setCell ⟨p, 15, none⟩ (.int .i64 n)) false true n { d with stops := n } (by rw [← hd]; simp) hok (fun _ => by omega) mv (fun c hc => by
        have e13 : c.setIfInBounds 13 (.bool false) = c := by
          rw [c1] at hc
          have : (Value.map (some m) :: t0 :: t1 :: t2 :: t3 :: diskR ml l0 l1 l2 l3 wv d.many d.room d.dead stops after).toArray = c := by simpa using hc
          rw [← this, hd]
          simp [diskR]
        have y1 := heap_setCell_same w p 14 _ tDisk (.bool true) hc
        rw [e13]
        exact heap_setCell_same _ p 15 _ tDisk (.int .i64 n) y1)
      refine ⟨rfl, mv.mono (fun _ => Or.inl), y.weak (fun _ h _ => Or.inl h) (fun h => ?_) (fun h => ?_)⟩
      · rcases h with h | h
        · exact lt.2.2.2.1 h
        · omega
      · rcases h with h | h
        · exact lt.2.2.2.2 h
        · omega
    · have e : d.stop n = (d, 281) := by unfold D.stop; rw [if_neg h1, hd]; rfl
      rw [e]
      rw [hd] at k13
      refine (stop_dead p n w k16 k13 h1).mono ?_
      rintro e w' ⟨rfl, rfl⟩
      exact left_same x

/-! The others, of no disk. -/
theorem room_none (v : Value) (w : World) (h : NoneD w v) : Calls Tryz.prog 80 #[v] w fun e w' => e = .returned (.int .i64 0) ∧ w = w' := by
  have H := Lib.hid h
  clear h
  go_enter Tryz.func80, Tryz.ntmps80
  go_wp2_with (go_at_call 45; refine (none_c H.out).mono ?_; rintro e w' ⟨rfl, rfl⟩)
  go_ret
  exact ⟨rfl, rfl⟩
theorem waits_none (v : Value) (w : World) (h : NoneD w v) : Calls Tryz.prog 62 #[v] w fun e w' => e = .returned (.int .i64 0) ∧ w = w' := by
  have H := Lib.hid h
  clear h
  go_enter Tryz.func62, Tryz.ntmps62
  go_wp2_with (go_at_call 45; refine (none_c H.out).mono ?_; rintro e w' ⟨rfl, rfl⟩)
  go_ret
  exact ⟨rfl, rfl⟩
theorem dead_none (v : Value) (w : World) (h : NoneD w v) : Calls Tryz.prog 63 #[v] w fun e w' => e = .returned (.bool false) ∧ w = w' := by
  have H := Lib.hid h
  clear h
  go_enter Tryz.func63, Tryz.ntmps63
  go_wp2_with (go_at_call 45; refine (none_c H.out).mono ?_; rintro e w' ⟨rfl, rfl⟩)
  go_ret
  exact ⟨rfl, rfl⟩
theorem copy_none (v : Value) (w : World) (h : NoneD w v) : Calls Tryz.prog 47 #[v] w fun e w' => e = .returned (.pointer none) ∧ w = w' := by
  have H := Lib.hid h
  clear h
  go_enter Tryz.func47, Tryz.ntmps47
  go_wp2_with (go_at_call 45; refine (none_c H.out).mono ?_; rintro e w' ⟨rfl, rfl⟩)
  go_ret
  exact ⟨rfl, rfl⟩
theorem sync_none (v : Value) (w : World) (h : NoneD w v) : Calls Tryz.prog 60 #[v] w fun e w' => e = .returned (.int .i64 1) ∧ w = w' := by
  have H := Lib.hid h
  clear h
  go_enter Tryz.func60, Tryz.ntmps60
  go_wp2_with (go_at_call 45; refine (none_c H.out).mono ?_; rintro e w' ⟨rfl, rfl⟩)
  go_ret
  exact ⟨rfl, rfl⟩

end Go.Proofs.YtgffifleflkjoaaGreat

namespace Go.Proofs.YtgffifleflkjoaaGreat
open Go.RowKit

theorem OwnB.at {w : World} {base : Nat} {v : Value} {l : List UInt8} (h : OwnB w base v l) : BytesAt w.heap (fun k => base ≤ k) v l := h.bytes.bytes

set_option maxRecDepth 100000 in
set_option maxHeartbeats 2000000 in
theorem crcSeal_c {w : World} {F : Nat → Prop} {pv : Value} {l : List UInt8} (h : OnePart w F pv l) (hl : l.length ≤ 1000000000) : Calls Tryz.prog 180 #[pv] w (GivesB w (Cm.sealed l)) := by
  have H := Lib.hid h
  have CC := Lib.hid (concat_c h (by omega))
  have hs : Cm.sum l < 4294967296 := by unfold Cm.sum Cm.top; omega
  clear h
  go_enter Tryz.func180, Tryz.ntmps180
  go_wp2_with (first
    | (go_at_call 205; refine CC.out.mono ?_; rintro e w1 ⟨v1, rfl, o1, b1⟩
       have SC := Lib.hid (crcSum_c (H.out.below b1) (by omega))
       have H1 := Lib.hid (And.intro o1 b1)
       clear o1 b1)
    | (go_at_call 172; refine SC.out.mono ?_; rintro e w2 ⟨rfl, b2⟩
       have H2 := Lib.hid (And.intro (owns_below H1.out.1 b2 (Nat.le_refl _)) (H1.out.2.trans (b2.mono H1.out.2.size)))
       clear b2)
    | (go_at_call 171; refine (crcLow_c _ _ hs).mono ?_; rintro e w3 ⟨v3, rfl, o3, b3⟩
       have H3 := Lib.hid (And.intro (owns_below H2.out.1 b3 (Nat.le_refl _)) (And.intro o3 (H2.out.2.trans (b3.mono H2.out.2.size))))
       clear o3 b3)
    | (at_builtin; refine wpList_append_bytes rfl (.tmp 4) (.tmp 7) rfl w.heap.size w.heap.size w H3.out.2.2 (Nat.le_refl _) _ l rfl H3.out.1 _ (Cm.low (Cm.sum l) 4) _ rfl H3.out.2.1.at (by rw [Cm.low_length]; omega) H3.out.2.2.size ?_; intro v' w4 ho hb1 hb2))
  go_ret
  exact ⟨_, rfl, ho.out, hb1⟩

set_option maxRecDepth 100000 in
set_option maxHeartbeats 2000000 in
theorem equal_c {w : World} {F G : Nat → Prop} {u v : Value} {l k : List UInt8} (h1 : BytesAt w.heap F u l) (h2 : BytesAt w.heap G v k) (hl : l.length ≤ 1000000000) (hk : k.length ≤ 1000000000) :
    Calls Tryz.prog 170 #[u, v] w fun e w' => e = .returned (.bool (decide (l = k))) ∧ Below w.heap.size w w' := by
  obtain ⟨ua, uc, rfl⟩ := h1.slice
  obtain ⟨va, vc, rfl⟩ := h2.slice
  have H := Lib.hid (And.intro h1 h2)
  clear h1 h2
  by_cases hne : l.length = k.length
  · generalize hn : l.length = n at *
    rw [← hne]
    have HN := Lib.hid (And.intro hn hne.symm)
    clear hn hne
    go_enter Tryz.func170, Tryz.ntmps170
    go_wp2
    go_loopw [5, 13] (fun _ s wr => ∃ i : Nat, i ≤ n ∧ s = .int .i64 (i : Int) ∧ (∀ j, j < i → l[j]? = k[j]?) ∧ Below w.heap.size w wr) (fun _ s _ => n - (intOf s).toNat)
    case atStart => exact ⟨0, by omega, rfl, fun j hj => absurd hj (by omega), Below.refl _ _⟩
    case round =>
      obtain ⟨i, hi, rfl, hall, hb⟩ := hrel
      by_cases hlt : i < n
      · have i0 : (0 : Int) ≤ (i : Int) := by omega
        have i1 : (i : Int) < (n : Int) := by omega
        obtain ⟨x, hx⟩ : ∃ x, l[i]? = some x := ⟨_, List.getElem?_eq_getElem (by rw [HN.out.1]; exact hlt)⟩
        obtain ⟨y, hy⟩ : ∃ y, k[i]? = some y := ⟨_, List.getElem?_eq_getElem (by rw [HN.out.2]; exact hlt)⟩
        obtain ⟨b, o, rfl, _, hbl, hc⟩ := H.out.1.byte hx
        obtain ⟨b', o', rfl, _, hbl', hc'⟩ := H.out.2.byte hy
        have c1 : ∀ m, (wr.drewN m).cell? ⟨b, o + i, none⟩ = some (.int .u8 x.toNat) := fun m => ((below_drewN hb m).cell (p := ⟨b, o + i, none⟩) hbl).trans hc
        have c2 : ∀ m, (wr.drewN m).cell? ⟨b', o' + i, none⟩ = some (.int .u8 y.toNat) := fun m => ((below_drewN hb m).cell (p := ⟨b', o' + i, none⟩) hbl').trans hc'
        have HA := Lib.hid (And.intro hall (And.intro hb (And.intro hx hy)))
        clear hall hb hx hy hc hc'
        go_upto_region 6 with fail
        by_cases hxy : x = y
        · have HX := Lib.hid hxy
          have e1 : ((x.toNat : Int) != (y.toNat : Int)) = false := by rw [hxy]; simp
          clear hxy
          go_quiet (fail)
          go_wp2
          go_roundw
          case rel => exact ⟨i + 1, by omega, by go_num, fun j hj => by
            by_cases hji : j < i
            · exact HA.out.1 j hji
            · obtain rfl : j = i := by omega
              rw [HA.out.2.2.1, HA.out.2.2.2, HX.out], below_drewN HA.out.2.1 _⟩
          case measure => simp [intOf]; omega
        · have HX := Lib.hid hxy
          have e1 : ((x.toNat : Int) != (y.toNat : Int)) = true := by
            rw [bne_iff_ne]
            exact fun q => hxy (UInt8.toNat_inj.1 (by omega))
          clear hxy
          go_quiet (fail)
          go_wp2
          go_ret
          refine ⟨?_, below_drewN HA.out.2.1 _⟩
          have : ¬ l = k := fun q => HX.out (by
            have e := HA.out.2.2.1
            rw [q, HA.out.2.2.2] at e
            exact (Option.some.inj e).symm)
          rw [decide_eq_false this]
          rfl
      · obtain rfl : i = n := by omega
        have HA := Lib.hid (And.intro hall hb)
        clear hall hb
        go_wp2
        go_ret
        refine ⟨?_, HA.out.2⟩
        have : l = k := List.ext_getElem? fun j => by
          by_cases hj : j < i
          · exact HA.out.1 j hj
          · rw [List.getElem?_eq_none (by rw [HN.out.1]; omega), List.getElem?_eq_none (by rw [HN.out.2]; omega)]
        rw [decide_eq_true this]
        rfl
  · have e1 : ((l.length : Int) != (k.length : Int)) = true := by rw [bne_iff_ne]; omega
    have HE := Lib.hid hne
    clear hne
    go_enter Tryz.func170, Tryz.ntmps170
    go_wp2
    go_ret
    refine ⟨?_, Below.refl _ _⟩
    rw [decide_eq_false (fun q => HE.out (by rw [q]))]
    rfl

end Go.Proofs.YtgffifleflkjoaaGreat

namespace Go.Proofs.YtgffifleflkjoaaGreat
open Go.RowKit

/-- What Open tells. -/
def OpenedB (w : World) (l : List UInt8) (e : Ending) (w' : World) : Prop :=
  Below w.heap.size w w' ∧ match Wm.opened l with
    | none => e = .returned (.tuple #[.slice none 0 0, .int .i64 130])
    | some b => ∃ v, e = .returned (.tuple #[v, .int .i64 0]) ∧ BytesAt w'.heap (fun k => w.heap.size ≤ k) v b

theorem BytesAt.front {h : Array Obj} {F : Nat → Prop} {b o cap : Nat} {l : List UInt8} (x : BytesAt h F (.slice (some ⟨b, o, none⟩) l.length cap) l) {n : Nat} (hn : n ≤ l.length) : BytesAt h F (.slice (some ⟨b, o, none⟩) n cap) (l.take n) := by
  rcases x with ⟨h1, _⟩ | ⟨b', o', cap', c, t, fr, h1, h2, h3, g2, g3, g4⟩
  · cases h1
  · cases h1
    refine Or.inr ⟨b, o, cap, c, t, fr, by rw [List.length_take, Nat.min_eq_left hn], by rw [List.length_take]; omega, h3, g2, g3, fun i y hi => ?_⟩
    rw [List.getElem?_take] at hi
    split at hi
    · exact g4 i y hi
    · cases hi

theorem BytesAt.back {h : Array Obj} {F : Nat → Prop} {b o cap : Nat} {l : List UInt8} (x : BytesAt h F (.slice (some ⟨b, o, none⟩) l.length cap) l) {n : Nat} (hn : n ≤ l.length) : BytesAt h F (.slice (some ⟨b, o + n, none⟩) (l.length - n) (cap - n)) (l.drop n) := by
  rcases x with ⟨h1, _⟩ | ⟨b', o', cap', c, t, fr, h1, h2, h3, g2, g3, g4⟩
  · cases h1
  · cases h1
    refine Or.inr ⟨b, o + n, cap - n, c, t, fr, by rw [List.length_drop], by rw [List.length_drop]; omega, by omega, g2, g3, fun i y hi => ?_⟩
    rw [List.getElem?_drop] at hi
    rw [Nat.add_assoc]
    exact g4 (n + i) y hi

theorem BytesAt.row {h : Array Obj} {F : Nat → Prop} {a : Option Addr} {n cap : Nat} {l : List UInt8} (x : BytesAt h F (.slice a n cap) l) (hn : 0 < l.length) : ∃ b o, a = some ⟨b, o, none⟩ ∧ l.length ≤ cap ∧ cap ≤ 9223372036854775807 ∧ b < h.size := by
  rcases x with ⟨_, rfl⟩ | ⟨b', o', cap', c, t, fr, h1, h2, h3, g2, g3, g4⟩
  · simp at hn
  · cases h1
    exact ⟨b', o', rfl, h2, h3, lt_of_row g3⟩

set_option maxRecDepth 100000 in
set_option maxHeartbeats 4000000 in
theorem crcOpen_c {w : World} {F : Nat → Prop} {v : Value} {l : List UInt8} (h : BytesAt w.heap F v l) (hl : l.length ≤ 1000000000) : Calls Tryz.prog 145 #[v] w (OpenedB w l) := by
  obtain ⟨a, cap, rfl⟩ := h.slice
  have H := Lib.hid h
  clear h
  have l1 : (l.length : Int) ≤ 1000000000 := by omega
  by_cases h4 : l.length < 4
  · have ho : Wm.opened l = none := by unfold Wm.opened; rw [if_pos h4]
    have HO := Lib.hid ho
    have e1 : decide ((l.length : Int) - 4 < 0) = true := by simp; omega
    clear ho
    generalize l.length = n at *
    go_enter Tryz.func145, Tryz.ntmps145
    go_wp2
    go_quiet (fail)
    go_wp2
    go_ret2
    refine ⟨below_drewN (Below.refl _ _) _, ?_⟩
    rw [HO.out]
    rfl
  · obtain ⟨b, o, rfl, hcap, hcap2, hbl⟩ := H.out.row (by omega)
    obtain ⟨n, hn⟩ : ∃ n, l.length = n + 4 := ⟨l.length - 4, by omega⟩
    have front := H.out.front (n := n) (by omega)
    have back := H.out.back (n := n) (by omega)
    have ht : (l.take n).length = n := by rw [List.length_take]; omega
    have hd : (l.drop n).length = 4 := by rw [List.length_drop]; omega
    rw [show l.length - n = 4 by omega] at back
    have P := Lib.hid (And.intro front (And.intro back (And.intro ht hd)))
    have opn : Wm.opened l = if Cm.low (Cm.sum (l.take n)) 4 = l.drop n then some (l.take n) else none := by
      unfold Wm.opened
      rw [if_neg h4, show l.length - 4 = n by omega]
      have e : (Cm.sealed (l.take n) = l) ↔ Cm.low (Cm.sum (l.take n)) 4 = l.drop n := by
        conv => lhs; rhs; rw [← List.take_append_drop n l]
        unfold Cm.sealed
        rw [List.append_cancel_left_eq]
      by_cases q : Cm.low (Cm.sum (l.take n)) 4 = l.drop n
      · rw [if_pos q, if_pos (e.2 q)]
      · rw [if_neg q, if_neg (fun r => q (e.1 r))]
    have OP := Lib.hid opn
    have hs : Cm.sum (l.take n) < 4294967296 := by unfold Cm.sum Cm.top; omega
    have e1 : decide ((n : Int) < 0) = false := by simp
    have n0 : (0 : Int) ≤ (n : Int) := by omega
    have n1 : (n : Int) ≤ (cap : Int) := by omega
    have n2 : ¬ (cap : Int) = (n : Int) := by omega
    have n3 : ¬ cap = n := by omega
    have n4 : n ≤ cap := by omega
    have n5 : n < cap := by omega
    have n6 : (n : Int) ≤ (n : Int) + 4 := by omega
    rw [hn] at l1 hcap ⊢
    have HN := Lib.hid hn
    clear front back ht hd opn h4 hn
    have ne : Nonempty (Wd (Below w.heap.size w)) := ⟨⟨w, Below.refl _ _⟩⟩
    go_enter Tryz.func145, Tryz.ntmps145
    go_upto_region 2 with fail
    refine wp_region_hoist (fun w' => ∃ x : Wd (Below w.heap.size w), w' = x.world) [] (by kernel_rfl) ?_
    refine wpAnyI_reads [0, 1, 2, 3, 4, 5, 9, 10, 11] 6 _ ⟨⟨_, (Below.refl _ _).drew⟩, rfl⟩ (by kernel_rfl) ?_
    simp only [List.filterMap_cons, List.filterMap_nil, List.getElem?_toArray, List.getElem?_cons_succ, List.getElem?_cons_zero]
    iterate 9 (with_reducible refine wpHoist_step (fun K hK => ?_); simp only [hoists, sameUpon]; go_simp; refine hK _ ?_; clear hK K)
    with_reducible refine wpHoist_nil ?_
    refine wpAnyI_one 6 5 _ _ rfl (by kernel_rfl) ?_
    with_reducible refine wpList_step fun K hK => ?_
    go_simp
    have c1 : BytesAt (w.drew).heap F (.slice (some ⟨b, o, none⟩) n cap) (l.take n) := P.out.1
    have op1 : OnePart ((w.alloc (.cells #[.slice (some ⟨b, o, none⟩) n cap] tBytes)).drew) F (.slice (some ⟨w.heap.size, 0, none⟩) 1 1) (l.take n) :=
      ⟨w.heap.size, _, rfl, (cell_of_row _ _ _ _ _ _ (heap_alloc_last w _)).trans rfl, P.out.1.below ((Below.refl _ _).alloc (Nat.le_refl _) _).drew⟩
    have hb3 : Below w.heap.size w ((w.alloc (.cells #[.slice (some ⟨b, o, none⟩) n cap] tBytes)).drew) := ((Below.refl _ _).alloc (Nat.le_refl _) _).drew
    have SC := Lib.hid (crcSum_c op1 (by rw [P.out.2.2.1]; omega))
    have HB3 := Lib.hid hb3
    clear op1 hb3 c1
    refine hK _ _ (wpList_nil ⟨rfl, fun _ => ⟨⟨_, HB3.out⟩, rfl⟩, ?_⟩)
    clear hK K
    refine wpAnyI_one 7 4 _ _ rfl (by kernel_rfl) ?_
    with_reducible refine wpList_step fun K hK => ?_
    go_simp
    go_at_call 172
    refine SC.out.mono ?_
    rintro e w4 ⟨rfl, b4⟩
    have HB4 := Lib.hid (HB3.out.trans (b4.mono HB3.out.size))
    clear b4 SC
    refine hK _ _ (wpList_nil ⟨rfl, fun _ => ⟨⟨_, HB4.out⟩, rfl⟩, ?_⟩)
    clear hK K
    refine wpAnyI_one 8 3 _ _ rfl (by kernel_rfl) ?_
    with_reducible refine wpList_step fun K hK => ?_
    go_simp
    go_at_call 171
    refine (crcLow_c _ _ hs).mono ?_
    rintro e w5 ⟨v5, rfl, o5, b5⟩
    have HB5 := Lib.hid (And.intro (HB4.out.trans (b5.mono HB4.out.size)) o5)
    clear b5 o5
    refine hK _ _ (wpList_nil ⟨rfl, fun _ => ⟨⟨_, HB5.out.1⟩, rfl⟩, ?_⟩)
    clear hK K
    have EQ := Lib.hid (equal_c HB5.out.2.at (P.out.2.1.below HB5.out.1) (by rw [Cm.low_length]; decide) (by rw [P.out.2.2.2]; decide))
    by_cases q : Cm.low (Cm.sum (l.take n)) 4 = l.drop n
    · rw [decide_eq_true q] at EQ
      have OP2 := OP.out
      rw [if_pos q] at OP2
      have OQ := Lib.hid OP2
      clear q OP2
      refine wpAnyI_one 12 2 _ _ rfl (by kernel_rfl) ?_
      with_reducible refine wpList_step fun K hK => ?_
      go_simp
      go_at_call 170
      refine EQ.out.mono ?_
      rintro e w6 ⟨rfl, b6⟩
      have HB6 := Lib.hid (HB5.out.1.trans (b6.mono HB5.out.1.size))
      clear b6
      refine hK _ _ (wpList_nil ⟨rfl, fun _ => ⟨⟨_, HB6.out⟩, rfl⟩, ?_⟩)
      clear hK K
      refine wpAnyI_reads [13, 14] 0 _ ⟨⟨_, HB6.out⟩, rfl⟩ (by kernel_rfl) ?_
      simp only [List.filterMap_cons, List.filterMap_nil, List.getElem?_toArray, List.getElem?_cons_succ, List.getElem?_cons_zero]
      iterate 2 (with_reducible refine wpHoist_step (fun K hK => ?_); simp only [hoists, sameUpon]; go_simp; refine hK _ ?_; clear hK K)
      with_reducible refine wpHoist_nil ?_
      refine ⟨by kernel_rfl, ?_⟩
      have CL := Lib.hid (clone_c (P.out.1.below HB6.out) (by rw [P.out.2.2.1]; omega))
      go_wp2_with fail
      refine CL.out.mono ?_
      rintro e w7 ⟨v7, rfl, b7, y7⟩
      have Y7 := Lib.hid (And.intro b7 y7)
      clear b7 y7
      go_wp2
      go_ret2
      have z6 := HB6.out.size
      refine ⟨HB6.out.trans (Y7.out.1.mono z6), ?_⟩
      rw [OQ.out]
      exact ⟨v7, rfl, Y7.out.2.keeps (fun _ _ _ => rfl) (fun k hk _ => Nat.le_trans z6 hk)⟩
    · rw [decide_eq_false q] at EQ
      have OP2 := OP.out
      rw [if_neg q] at OP2
      have OQ := Lib.hid OP2
      clear q OP2
      refine wpAnyI_one 12 2 _ _ rfl (by kernel_rfl) ?_
      with_reducible refine wpList_step fun K hK => ?_
      go_simp
      go_at_call 170
      refine EQ.out.mono ?_
      rintro e w6 ⟨rfl, b6⟩
      have HB6 := Lib.hid (HB5.out.1.trans (b6.mono HB5.out.1.size))
      clear b6
      refine hK _ _ (wpList_nil ⟨rfl, fun _ => ⟨⟨_, HB6.out⟩, rfl⟩, ?_⟩)
      clear hK K
      refine wpAnyI_reads [13, 14] 0 _ ⟨⟨_, HB6.out⟩, rfl⟩ (by kernel_rfl) ?_
      simp only [List.filterMap_cons, List.filterMap_nil, List.getElem?_toArray, List.getElem?_cons_succ, List.getElem?_cons_zero]
      iterate 2 (with_reducible refine wpHoist_step (fun K hK => ?_); simp only [hoists, sameUpon]; go_simp; refine hK _ ?_; clear hK K)
      with_reducible refine wpHoist_nil ?_
      refine ⟨by kernel_rfl, ?_⟩
      go_wp2
      go_ret2
      refine ⟨HB6.out, ?_⟩
      rw [OQ.out]
      rfl

end Go.Proofs.YtgffifleflkjoaaGreat

namespace Go.Proofs.YtgffifleflkjoaaGreat
open Go.RowKit

section
variable {P : Program}

theorem run_append_where (w : World) (base : Nat) (t ty e : TypeId) (i : TypeInfo) (z : Value) (size bytes : Nat) (ht : P.underlying t = some (.slice e)) (hi : P.info? e = some i) (hz : i.zero = some z)
    (hsize : i.size = size) (hby : i.bytes = bytes) (hzs : z.cells.size = size) (hsz : 0 < size)
    (v : Value) (n : Nat) (xs : List Value) (hown : w.ownsRow base e size v n xs)
    (a : Addr) (m c : Nat) (news : List Value) (hl : news.length = m * size) (hnews : ∀ j u, news[j]? = some u → w.cell? (a.add j) = some u) (h1 : ∀ u ∈ news, u.oneCell' = true)
    (h63 : n + m ≤ maxLen) (hbytes : (n + m) * bytes ≤ 140737488355328) (hbase : base ≤ w.heap.size) :
    ∃ v' w', (Builtin.append_ #[t, t] ty #[v, .slice (some a) m c]).run P w = .ok v' w' ∧ w'.ownsRow base e size v' (n + m) (xs ++ news) ∧ w.grownBy w' v.ownBlock ∧
      ∀ k, v'.ownBlock = some k → v.ownBlock = some k ∨ w.heap.size ≤ k := by
  obtain ⟨v', w', hr, h2, h3, h4⟩ := run_append_own (P := P) w base t ty e i z size bytes ht hi hz hsize hby hzs hsz v n xs hown a m c news hl hnews h1 h63 hbytes hbase
  refine ⟨v', w', hr, h2, h3, fun k hk => ?_⟩
  rcases hown.2 with ⟨rfl, rfl⟩ | ⟨g, cap, cur, rfl, hbg, hg, hnc, hcm, hcs, htake⟩
  · obtain ⟨v2, w2, hr2, g2, _, _⟩ := run_append_own (P := P) w w.heap.size t ty e i z size bytes ht hi hz hsize hby hzs hsz (.slice none 0 0) 0 xs ⟨hown.1, Or.inl ⟨rfl, rfl⟩⟩ a m c news hl hnews h1 h63 hbytes (Nat.le_refl _)
    rw [hr] at hr2
    obtain ⟨rfl, rfl⟩ : v' = v2 ∧ w' = w2 := by cases hr2; exact ⟨rfl, rfl⟩
    exact Or.inr (g2.lt k hk).1
  · subst hsize
    subst hby
    by_cases hroom : n + m ≤ cap
    · have hfit : n * i.size + news.length ≤ cur.size := by rw [hl, hcs, ← Nat.add_mul]; exact Nat.mul_le_mul_right _ hroom
      have hr2 := run_append_room (P := P) w t ty e i ht hi g n cap cur hg a m c news hl hnews h1 hroom hfit
      rw [hr] at hr2
      cases hr2
      exact Or.inl hk
    · have holds : ∀ j u, xs[j]? = some u → w.cell? ((⟨g, 0, none⟩ : Addr).add j) = some u := hown.cells (g := g) rfl
      have hr2 := run_append_grow (P := P) w t ty e i z ht hi hz ⟨g, 0, none⟩ n cap xs hown.1 holds a m c news hl hnews (by omega) (by unfold maxLen at h63; omega) (growslice_fits (by omega) hbytes)
      rw [hr] at hr2
      cases hr2
      simp only [Value.ownBlock, Option.some.injEq] at hk
      exact Or.inr (by omega)

theorem wpList_append_where {ops : Array Oper} {rest : List Oper} {o : Oper} {a : Act} {w : World} {Q : Exit → Act → World → Prop} (hgd : o.guard = none) (s x : Operand) (t : TypeId)
    (ho : o.op = .call { callee := .builtin .append, args := #[s, x], argTypes := #[t, t] })
    (base : Nat) (e : TypeId) (z : Value) (size bytes : Nat) (ht : P.underlying t = some (.slice e)) (hi : (P.info? e).map (fun i => (i.zero, i.size, i.bytes)) = some (some z, size, bytes))
    (hzs : z.cells.size = size) (hsz : 0 < size)
    (v : Value) (n : Nat) (xs : List Value) (hs : a.eval s = v) (hown : w.ownsRow base e size v n xs)
    (ad : Addr) (m c : Nat) (news : List Value) (hx : a.eval x = .slice (some ad) m c) (hl : news.length = m * size) (hnews : ∀ j u, news[j]? = some u → w.cell? (ad.add j) = some u) (h1 : ∀ u ∈ news, u.oneCell' = true)
    (h63 : n + m ≤ maxLen) (hbytes : (n + m) * bytes ≤ 140737488355328) (hbase : base ≤ w.heap.size)
    (h : ∀ v' w', Hid (w'.ownsRow base e size v' (n + m) (xs ++ news)) → Hid (w.grownBy w' v.ownBlock) → Hid (∀ k, v'.ownBlock = some k → v.ownBlock = some k ∨ w.heap.size ≤ k) → wpList P ops Q rest (a.put o.dst v') w') : wpList P ops Q (o :: rest) a w := by
  obtain ⟨i0, hi0, hz0, hz1, hz2⟩ := info_parts hi
  refine wpList_plain hgd fun K hK => ?_
  obtain ⟨v', w', hr, h2, h3, h4⟩ := run_append_where (P := P) w base t o.type e i0 z size bytes ht hi0 hz0 hz1 hz2 hzs hsz v n xs hown ad m c news hl hnews h1 h63 hbytes hbase
  unfold Oper.wp execOp
  simp only [ho, resolve, invoke, builtin, Sem.run_bind, Sem.run_pure, Result.andThen_ok, List.map_toArray, List.map_cons, List.map_nil, hs, hx, hr]
  exact hK _ _ (h v' w' h2 h3 h4)
end
end Go.Proofs.YtgffifleflkjoaaGreat

namespace Go.Proofs.YtgffifleflkjoaaGreat
open Go.RowKit

/-- More bytes: nothing but the row's own block has turned, and where the new row lies. -/
structure Adds (w w' : World) (v v' : Value) : Prop where
  grown : w.grownBy w' v.ownBlock
  lies : ∀ k, v'.ownBlock = some k → v.ownBlock = some k ∨ w.heap.size ≤ k

theorem Adds.refl (w : World) (v : Value) : Adds w w v v := ⟨World.grownBy.refl _ _, fun _ h => Or.inl h⟩
theorem Adds.trans {A B C : World} {v v' v'' : Value} (h : Adds A B v v') (k : Adds B C v' v'') : Adds A C v v'' :=
  ⟨h.grown.andThen k.grown (fun j e => (h.lies j e).symm), fun j e => by
    rcases k.lies j e with q | q
    · exact h.lies j q
    · exact Or.inr (Nat.le_trans h.grown.size q)⟩
theorem Adds.alloc {A B : World} {v v' : Value} (h : Adds A B v v') (o : Obj) : Adds A (B.alloc o) v v' :=
  ⟨World.grownBy.trans h.grown (World.grownBy_alloc _ _ _), h.lies⟩
theorem Adds.below {w w' : World} {v v' : Value} {base : Nat} {l : List UInt8} (h : Adds w w' v v') (hown : OwnB w base v l) (hb : base ≤ w.heap.size) : Below base w w' :=
  (Below.refl _ _).grown h.grown hb (fun k e => by
    rcases hown.2 with ⟨h, _⟩ | ⟨g, cap, cur, h, hg, _⟩
    · rw [h] at e; cases e
    · rw [h] at e; cases e; exact hg)
/-- A block that is not the row's own stays. -/
theorem Adds.kept {w w' : World} {v v' : Value} (h : Adds w w' v v') {k : Nat} {o : Obj} (hk : w.heap[k]? = some o) (hn : v.ownBlock ≠ some k) : w'.heap[k]? = some o :=
  (h.grown.block k (Array.getElem?_eq_some_iff.1 hk).1 (fun e => hn e.symm)).trans hk

section
variable {ops : Array Oper} {rest : List Oper} {o : Oper} {a : Act} {w : World} {Q : Exit → Act → World → Prop}

theorem wpList_append_grow (hgd : o.guard = none) (s x : Operand) (ho : o.op = .call { callee := .builtin .append, args := #[s, x], argTypes := #[tBytes, tBytes] })
    (base : Nat) (v : Value) (l1 : List UInt8) (hs : a.eval s = v) (hown : OwnB w base v l1) (v2 : Value) (l2 : List UInt8) (G : Nat → Prop) (hx : a.eval x = v2) (hsrc : BytesAt w.heap G v2 l2)
    (hl : l1.length + l2.length ≤ 1099511627776) (hbase : base ≤ w.heap.size)
    (h : ∀ v' w', Hid (OwnB w' base v' (l1 ++ l2)) → Hid (Adds w w' v v') → wpList Tryz.prog ops Q rest (a.put o.dst v') w') : wpList Tryz.prog ops Q (o :: rest) a w := by
  have i0 := infoByte
  obtain ⟨i1, hi0, hz0, hz1, hz2⟩ := info_parts i0
  rcases hsrc.src with ⟨rfl, hm, hn⟩ | ⟨ad, c, rfl, g1, g2, g3⟩
  · have e2 : l2 = [] := List.eq_nil_of_length_eq_zero hm
    subst e2
    refine wpList_append_own_none hgd s x tBytes ho base tByte i1 1 Tryz.underlying31 hi0 v l1.length (l1.map bval) hs hown hx (h v w ?_ (Lib.hid (Adds.refl w v)))
    rw [List.append_nil]
    exact Lib.hid hown
  · refine wpList_append_where hgd s x tBytes ho base tByte (.int .u8 0) 1 1 Tryz.underlying31 i0 rfl (by decide) v l1.length (l1.map bval) hs hown ad l2.length c (l2.map bval) hx g1 g2 g3 (by unfold maxLen; omega) (by omega) hbase ?_
    intro v' w' h1 h2 h3
    refine h v' w' ?_ (Lib.hid ⟨h2.out, h3.out⟩)
    have := h1.out
    rw [← List.map_append] at this
    refine Lib.hid ?_
    show w'.ownsRow base tByte 1 v' (l1 ++ l2).length ((l1 ++ l2).map bval)
    rw [List.length_append]
    exact this

theorem run_append_where_string (w : World) (base : Nat) (t u ty e : TypeId) (i : TypeInfo) (ht : Tryz.prog.underlying t = some (.slice e)) (hu : Tryz.prog.underlying u = some .string) (hi : Tryz.prog.info? e = some i) (hz : i.zero = some (.int .u8 0))
    (hsize : i.size = 1) (hby : i.bytes = 1) (v : Value) (n : Nat) (xs : List Value) (hown : w.ownsRow base e 1 v n xs) (s : ByteArray) (h63 : n + s.size ≤ maxLen) (hbytes : n + s.size ≤ 140737488355328) (hbase : base ≤ w.heap.size) :
    ∃ v' w', (Builtin.append_ #[t, u] ty #[v, .string s]).run Tryz.prog w = .ok v' w' ∧ w'.ownsRow base e 1 v' (n + s.size) (xs ++ Lib.strCells s) ∧ w.grownBy w' v.ownBlock ∧ ∀ k, v'.ownBlock = some k → v.ownBlock = some k ∨ w.heap.size ≤ k := by
  obtain ⟨v', w', hr, h2, h3, h4⟩ := Lib.run_append_own_string (P := Tryz.prog) w base t u ty e i ht hu hi hz hsize hby v n xs hown s h63 hbytes hbase
  refine ⟨v', w', hr, h2, h3, fun k hk => ?_⟩
  rcases hown.2 with ⟨rfl, rfl⟩ | ⟨g, cap, cur, rfl, hbg, hg, hnc, hcm, hcs, htake⟩
  · obtain ⟨v2, w2, hr2, g2, _, _⟩ := Lib.run_append_own_string (P := Tryz.prog) w w.heap.size t u ty e i ht hu hi hz hsize hby (.slice none 0 0) 0 xs ⟨hown.1, Or.inl ⟨rfl, rfl⟩⟩ s h63 hbytes (Nat.le_refl _)
    rw [hr] at hr2
    obtain ⟨rfl, rfl⟩ : v' = v2 ∧ w' = w2 := by cases hr2; exact ⟨rfl, rfl⟩
    exact Or.inr (g2.lt k hk).1
  · by_cases hroom : n + s.size ≤ cap
    · have hr2 := Lib.run_append_room_string (P := Tryz.prog) w t u ty e i ht hu hi hsize g n cap cur hg s hroom (by rw [hcs]; omega)
      rw [hr] at hr2
      cases hr2
      exact Or.inl hk
    · have holds : ∀ j u, xs[j]? = some u → w.cell? ((⟨g, 0, none⟩ : Addr).add j) = some u := hown.cells (g := g) rfl
      have hr2 := Lib.run_append_grow_string (P := Tryz.prog) w t u ty e i (.int .u8 0) ht hu hi hz ⟨g, 0, none⟩ n cap xs (by rw [hsize]; exact hown.1) holds s (by omega) (by unfold maxLen at h63; omega) (by rw [hby]; exact growslice_fits (by omega) (by omega))
      rw [hr] at hr2
      cases hr2
      simp only [Value.ownBlock, Option.some.injEq] at hk
      exact Or.inr (by omega)

theorem wpList_append_text (hgd : o.guard = none) (s x : Operand) (ho : o.op = .call { callee := .builtin .append, args := #[s, x], argTypes := #[tBytes, 9] })
    (base : Nat) (v : Value) (l1 : List UInt8) (hs : a.eval s = v) (hown : OwnB w base v l1) (l2 : List UInt8) (hx : a.eval x = .string ⟨l2.toArray⟩)
    (hl : l1.length + l2.length ≤ 1099511627776) (hbase : base ≤ w.heap.size)
    (h : ∀ v' w', Hid (OwnB w' base v' (l1 ++ l2)) → Hid (Adds w w' v v') → wpList Tryz.prog ops Q rest (a.put o.dst v') w') : wpList Tryz.prog ops Q (o :: rest) a w := by
  have i0 := infoByte
  obtain ⟨i1, hi0, hz0, hz1, hz2⟩ := info_parts i0
  refine wpList_plain hgd fun K hK => ?_
  have hsz : (⟨l2.toArray⟩ : ByteArray).size = l2.length := by simp [ByteArray.size]
  obtain ⟨v', w', hr, h2, h3, h4⟩ := run_append_where_string w base tBytes 9 o.type tByte i1 Tryz.underlying31 Tryz.underlying9 hi0 hz0 hz1 hz2 v l1.length (l1.map bval) hown ⟨l2.toArray⟩ (by rw [hsz]; unfold maxLen; omega) (by rw [hsz]; omega) hbase
  unfold Oper.wp execOp
  simp only [ho, resolve, invoke, builtin, Sem.run_bind, Sem.run_pure, Result.andThen_ok, List.map_toArray, List.map_cons, List.map_nil, hs, hx, hr]
  refine hK _ _ (h v' w' ?_ (Lib.hid ⟨h3, h4⟩))
  refine Lib.hid ?_
  rw [hsz] at h2
  show w'.ownsRow base tByte 1 v' (l1 ++ l2).length ((l1 ++ l2).map bval)
  rw [List.length_append, List.map_append]
  have e : Lib.strCells ⟨l2.toArray⟩ = l2.map bval := by simp [Lib.strCells, bval]
  rw [← e]
  exact h2
end
end Go.Proofs.YtgffifleflkjoaaGreat
