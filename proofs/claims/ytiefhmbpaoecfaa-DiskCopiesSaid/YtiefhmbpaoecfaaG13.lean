/-
  The document's 'done', of a sector: the walk.
  The document's 'done', of a tape that is cut.
-/
import Derived.Test.YtiefhmbpaoecfaaG12

namespace Go.Proofs.Ytiefhmbpaoecfaa
open Go.RowKit Dm

theorem infoRSec : (Try.prog.info? tRSec).map (fun i => (i.zero, i.size, i.bytes)) = some (some (.agg #[.int .i64 0, .slice none 0 0]), 2, 32) := by kernel_rfl
theorem infoRSec1 : (Try.prog.info? tRSec).map (·.size) = some 2 := by kernel_rfl

/-- The relation of the loop. -/
def SecLoop (w W0 : World) (F : Nat → Prop) (f : Int → List UInt8) (many n : Int) (b : List UInt8) (secs : List (Int × List UInt8)) (k : Nat) (v : Value) (pb : Bool) (wr : World) : Prop :=
  ∃ acc, SecRel w.heap F f many n b secs k acc pb ∧ wr.ownsRow W0.heap.size tRSec 2 v acc.length (flat2 acc) ∧ Below W0.heap.size W0 wr

def DoneSec (w : World) (t0 t1 t2 t3 : Value) (F : Nat → Prop) (f : Int → List UInt8) (many : Int) (e : Ending) (w' : World) : Prop :=
  ∃ v' secs', e = .returned (.agg #[v', t0, t1, t2, t3]) ∧ Below w.heap.size w w' ∧ SecsAt w'.heap (plus F w w') v' secs' ∧ SecOk secs' f many

theorem SecsAt.slice {h : Array Obj} {F : Nat → Prop} {v : Value} {l : List (Int × List UInt8)} (x : SecsAt h F v l) : ∃ a c, v = .slice a l.length c ∧ l.length ≤ c ∧ c ≤ 9223372036854775807 := by
  rcases x with ⟨rfl, rfl⟩ | ⟨b, o, cap, c, t, fr, rfl, h, h2, _⟩
  · exact ⟨_, _, rfl, Nat.le_refl _, by simp⟩
  · exact ⟨_, _, rfl, h, h2⟩

theorem src_pair (w : World) (n : Int) (u : Value) (hu : u.oneCell' = true) : SrcAt (w.alloc (.cells #[.int .i64 n, u] tRSec)) 2 (.slice (some ⟨w.heap.size, 0, none⟩) 1 1) 1 [.int .i64 n, u] := by
  refine Or.inr ⟨⟨w.heap.size, 0, none⟩, 1, rfl, rfl, fun j v hj => ?_, fun v hv => ?_⟩
  · rw [addr_add, cell_of_row _ _ _ _ _ _ (heap_alloc_last w _), Nat.zero_add]
    simpa using hj
  · simp at hv
    rcases hv with rfl | rfl
    · rfl
    · exact hu

theorem owns_moves {X Y : World} {base : Nat} {e : TypeId} {size n : Nat} {v : Value} {xs : List Value} (h : X.ownsRow base e size v n xs) (hk : ∀ k, base ≤ k → k < X.heap.size → Y.heap[k]? = X.heap[k]?) : Y.ownsRow base e size v n xs := by
  obtain ⟨h0, h⟩ := h
  refine ⟨h0, ?_⟩
  rcases h with h | ⟨g, cap, cur, h1, h2, h3, h4, h5, h6, h7⟩
  · exact Or.inl h
  · exact Or.inr ⟨g, cap, cur, h1, h2, (hk g h2 (lt_of_row h3)).trans h3, h4, h5, h6, h7⟩

theorem done_sec_end {w W0 X W5 : World} {F : Nat → Prop} {f : Int → List UInt8} {many n : Int} {l : List UInt8} {secs : List (Int × List UInt8)} {acc : List (Int × Value)} {v t0 t1 t2 t3 : Value} (rel : SecRel w.heap F f many n l secs secs.length acc true) (hok : SecOk secs f many) (hb0 : Below w.heap.size w W0) (z0 : W0.heap.size = w.heap.size + 3)
    (own : X.ownsRow W0.heap.size tRSec 2 v acc.length (flat2 acc)) (hX : Below W0.heap.size W0 X) (hM : Moves (fun k => k = w.heap.size + 1 + 1) (X.setCell ⟨w.heap.size, 0, none⟩ v) W5) : DoneSec w t0 t1 t2 t3 F (upd f n l) many (.returned (.agg #[v, t0, t1, t2, t3])) W5 := by
  have hzX := hX.size
  have hb1 : Below w.heap.size w (X.setCell ⟨w.heap.size, 0, none⟩ v) := (hb0.trans (hX.mono (by omega))).setCell (Nat.le_refl _) _
  have hb5 : Below w.heap.size w W5 := Moves.new hb1 hM (by omega)
  have hz5 := hM.size
  have szc : (X.setCell ⟨w.heap.size, 0, none⟩ v).heap.size = X.heap.size := by simp
  have own5 : W5.ownsRow W0.heap.size tRSec 2 v acc.length (flat2 acc) := owns_moves own (fun k hk hl => by
    rw [hM.block k (by rw [szc]; exact hl) (by omega), heap_setCell_other _ _ _ _ (by show k ≠ w.heap.size; omega)])
  obtain ⟨secs', g1, g2⟩ := rel.done hok (w' := W5) (F' := plus F w W5) own5 (fun k _ hl => hb5.block k hl) (fun k h _ => Or.inl h) (fun k h1 h2 => Or.inr ⟨by omega, h2⟩)
  exact ⟨v, secs', rfl, hb5, g1, g2⟩

set_option maxRecDepth 100000 in
set_option maxHeartbeats 4000000 in
theorem rdone_sec (sv t0 t1 t2 t3 u : Value) (n many : Int) (l : List UInt8) (F : Nat → Prop) (f : Int → List UInt8) (secs : List (Int × List UInt8)) (w : World) (hs : SecsAt w.heap F sv secs) (hok : SecOk secs f many) (hm : many ≤ 4096) (hu : BytesAt w.heap F u l) (hn0 : 0 ≤ n) (hn1 : n < many)
    (ho : (#[sv, t0, t1, t2, t3] : Array Value).all (·.oneCell') = true) :
    Calls Try.prog 63 #[.agg #[sv, t0, t1, t2, t3], .agg #[.int .i64 1, .int .i64 n, .int .i64 0, u]] w (DoneSec w t0 t1 t2 t3 F (upd f n l) many) := by
  have hlen := hok.len hm
  obtain ⟨sa, sc, rfl, hsc, hsc2⟩ := hs.slice
  have hb0 := doneW_below w #[.slice sa secs.length sc, t0, t1, t2, t3] #[.int .i64 1, .int .i64 n, .int .i64 0, u]
  obtain ⟨r0, r1, r2, z0⟩ := doneW_rows w #[.slice sa secs.length sc, t0, t1, t2, t3] #[.int .i64 1, .int .i64 n, .int .i64 0, u]
  obtain ⟨W0, hW0⟩ : ∃ W0, doneW w #[.slice sa secs.length sc, t0, t1, t2, t3] #[.int .i64 1, .int .i64 n, .int .i64 0, u] = W0 := ⟨_, rfl⟩
  rw [hW0] at hb0 r0 r1 r2 z0
  have k0 : W0.cell? ⟨w.heap.size + 1, 0, none⟩ = some (.int .i64 1) := row_cell r1 rfl
  have HD := Lib.hid (And.intro hs (And.intro hok (And.intro hu (And.intro hb0 (And.intro r0 (And.intro r1 (And.intro r2 (And.intro z0 ho))))))))
  clear hs hok hu hb0 r0 r1 r2 z0 ho
  go_enter Try.func63, Try.ntmps63
  go_upto_region 1 with fail
  clear hW0
  go_wp2
  go_loopg [5, 6, 7] secs.length (fun g v p i wr => ∃ (k : Nat) (pb : Bool), i = .int .i64 (k : Int) ∧ p = .bool pb ∧ g + k = secs.length ∧ SecLoop w W0 F f many n l secs k v pb wr)
  case atStart => exact ⟨0, false, rfl, rfl, rfl, [], SecRel.start, ⟨rfl, Or.inl ⟨rfl, rfl⟩⟩, Below.refl _ _⟩
  case round =>
    obtain ⟨k, pb, rfl, rfl, hg, acc, rel, own, hbl⟩ := hrel
    obtain ⟨va, vc, rfl⟩ : ∃ va vc, u5 = .slice va acc.length vc := by
      rcases own.2 with ⟨h1, h2⟩ | ⟨g, cap, cur, h1, _⟩
      · exact ⟨_, _, by rw [h1, h2]⟩
      · exact ⟨_, _, h1⟩
    by_cases hlt : k < secs.length
    · obtain ⟨e, he⟩ : ∃ e, secs[k]? = some e := ⟨_, List.getElem?_eq_getElem hlt⟩
      obtain ⟨m, ml⟩ := e
      obtain ⟨b, o, uk, rfl, fx, e3⟩ : ∃ b o uk, sa = some ⟨b, o, none⟩ ∧ (∀ X, Below W0.heap.size W0 X → X.cell? ⟨w.heap.size, 0, none⟩ = some (.slice (some ⟨b, o, none⟩) secs.length sc) ∧ X.cell? ⟨w.heap.size + 1, 1, none⟩ = some (.int .i64 n) ∧ X.cell? ⟨w.heap.size + 1, 3, none⟩ = some u ∧ X.cell? ⟨b, o + k * 2, none⟩ = some (.int .i64 m) ∧ X.cell? ⟨b, o + k * 2 + 1, none⟩ = some uk) ∧ BytesAt w.heap F uk ml := by
        rcases HD.out.1 with ⟨h1, h2⟩ | ⟨b, o, cap, c', tt, fr, h1, h2, h3, g2, g3, g4⟩
        · rw [h2] at hlt; simp at hlt
        · obtain ⟨uk, q1, q2, q3⟩ := g4 k m ml he
          obtain rfl : sa = some ⟨b, o, none⟩ := (Value.slice.inj h1).1
          refine ⟨b, o, uk, rfl, fun X hX => ?_, q3⟩
          have g3' : X.heap[b]? = some (.cells c' tt fr) := (hX.block _ (by have := lt_of_row g3; have := HD.out.2.2.2.1.size; omega)).trans ((HD.out.2.2.2.1.block _ (lt_of_row g3)).trans g3)
          have g0 := (hX.block _ (lt_of_row HD.out.2.2.2.2.1)).trans HD.out.2.2.2.2.1
          have g1 := (hX.block _ (lt_of_row HD.out.2.2.2.2.2.1)).trans HD.out.2.2.2.2.2.1
          exact ⟨row_cell g0 rfl, row_cell g1 rfl, row_cell g1 rfl, row_cell g3' q1, row_cell g3' q2⟩
      have hmk := HD.out.2.1.ent (m, ml) (List.mem_of_getElem? he)
      have hal : acc.length ≤ 8192 := by have := rel.len; split at this <;> omega
      obtain ⟨ua, uc, eu⟩ := HD.out.2.2.1.slice
      obtain ⟨ka, kc, ek⟩ := e3.slice
      generalize l.length = ul at eu
      generalize ml.length = kl at ek
      subst eu
      subst ek
      have H := Lib.hid (And.intro rel (And.intro own (And.intro hbl (And.intro he (And.intro hg (And.intro e3 (And.intro hmk hal)))))))
      have FX := Lib.hid fx
      clear rel own he hg e3 hmk hal fx
      have hk0 : (0 : Int) ≤ (k : Int) := by omega
      have hk1 : (k : Int) < (secs.length : Int) := by omega
      have nod := Lib.hid HD.out.2.1.nodup
      cases pb
      · by_cases hmn : n ≤ m
        · have b1 : decide (n ≤ m) = true := by simp; omega
          obtain ⟨x0, x1, x2, x3, x4⟩ := FX.out wr hbl
          have HB2 := Lib.hid hbl
          clear hbl
          go_upto_region 9 with fail
          go_quiet (fail)
          go_upto_region 12 with (refine wpList_append_row rfl (.tmp 51) (.tmp 57) 35 rfl W0.heap.size W0.heap.size W0 ((below_drewN HB2.out nq).alloc (by have := HB2.out.size; exact this) _) (Nat.le_refl _) tRSec (.agg #[.int .i64 0, .slice none 0 0]) 2 32 Try.underlying35 infoRSec rfl (by decide) _ acc.length (flat2 acc) rfl (owns_below (owns_below H.out.2.1 (below_drewN (Below.refl _ wr) nq) (Nat.le_refl _)) ((Below.refl _ _).alloc (Nat.le_refl _) _) (Nat.le_refl _)) _ 1 [.int .i64 n, Value.slice ua ul uc] rfl (src_pair _ n (Value.slice ua ul uc) rfl) (by have := H.out.2.2.2.2.2.2.2; unfold maxLen; omega) (by have := H.out.2.2.2.2.2.2.2; omega) (by have := HB2.out.size; simp; exact Nat.le_succ_of_le this) ?_
                                  intro v1 X2 OW1 hb1 _
                                  obtain ⟨g1, c1, rfl⟩ := own_pos OW1.out (by omega)
                                  clear HB2
                                  have HB2 := Lib.hid hb1
                                  clear hb1)
          have OW2 : Hid (X2.ownsRow W0.heap.size tRSec 2 (.slice (some ⟨g1, 0, none⟩) (acc.length + 1) c1) (acc ++ [(n, Value.slice ua ul uc)]).length (flat2 (acc ++ [(n, Value.slice ua ul uc)]))) := by
            have := OW1.out
            rw [flat2_push, List.length_append]
            exact this
          clear OW1 x0 x1 x2 x3 x4
          obtain ⟨y0, y1, y2, y3, y4⟩ := FX.out X2 HB2.out
          by_cases heq : m = n
          · have HEQ := Lib.hid heq
            have b2 : (m == n) = true := by simpa using heq
            have b3 : (m != n) = false := by simpa using heq
            clear heq
            go_quiet (fail)
            go_wp2_with fail
            go_roundg (secs.length - (k + 1))
            case measure => have := H.out.2.2.2.2.1; omega
            case rel => exact ⟨k + 1, true, by go_num, rfl, by have := H.out.2.2.2.2.1; omega, (acc ++ [(n, Value.slice ua ul uc)]), SecRel.same (SecRel.new H.out.1 HD.out.2.2.1 hn0 hn1) (by have := H.out.2.2.2.1; rw [HEQ.out] at this; exact this), owns_below OW2.out (below_drewN (Below.refl _ X2) nq) (Nat.le_refl _), below_drewN HB2.out nq⟩
          · have hne : m ≠ n := heq
            clear heq
            have HNE := Lib.hid hne
            have b2 : (m == n) = false := by simpa using hne
            have b3 : (m != n) = true := by simpa using hne
            clear hne
            go_quiet (fail)
            go_wp2_with (refine wpList_append_row rfl (.tmp 68) (.tmp 74) 35 rfl W0.heap.size W0.heap.size W0 ((below_drewN HB2.out nq).alloc (by have := HB2.out.size; exact this) _) (Nat.le_refl _) tRSec (.agg #[.int .i64 0, .slice none 0 0]) 2 32 Try.underlying35 infoRSec rfl (by decide) _ (acc ++ [(n, Value.slice ua ul uc)]).length (flat2 (acc ++ [(n, Value.slice ua ul uc)])) rfl (owns_below (owns_below OW2.out (below_drewN (Below.refl _ X2) nq) (Nat.le_refl _)) ((Below.refl _ _).alloc (Nat.le_refl _) _) (Nat.le_refl _)) _ 1 [.int .i64 m, Value.slice ka kl kc] rfl (src_pair _ m (Value.slice ka kl kc) rfl) (by have := H.out.2.2.2.2.2.2.2; unfold maxLen; simp only [List.length_append, List.length_singleton]; omega) (by have := H.out.2.2.2.2.2.2.2; simp only [List.length_append, List.length_singleton]; omega) (by have := HB2.out.size; simp; exact Nat.le_succ_of_le this) ?_
                         intro v3 W3 OW3 hb3 _
                         obtain ⟨g3, c3, rfl⟩ := own_pos OW3.out (by omega)
                         have HB3 := Lib.hid hb3
                         clear hb3)
            go_roundg (secs.length - (k + 1))
            case measure => have := H.out.2.2.2.2.1; omega
            case rel => exact ⟨k + 1, true, by go_num, rfl, by have := H.out.2.2.2.2.1; omega, (acc ++ [(n, Value.slice ua ul uc)]) ++ [(m, Value.slice ka kl kc)], SecRel.old (SecRel.new H.out.1 HD.out.2.2.1 hn0 hn1) nod.out H.out.2.2.2.1 HNE.out (by have := H.out.2.2.2.2.2.1; rw [H.out.2.2.2.2.2.2.1.1] at this; exact this) H.out.2.2.2.2.2.2.1.2.1 H.out.2.2.2.2.2.2.1.2.2, by rw [flat2_push]; simpa using OW3.out, HB3.out⟩
        · have b1 : decide (n ≤ m) = false := by simp; omega
          obtain ⟨x0, x1, x2, x3, x4⟩ := FX.out wr hbl
          have HB1 := Lib.hid hbl
          clear hbl
          go_upto_region 9 with fail
          go_quiet (fail)
          go_upto_region 12 with fail
          have HB2 := Lib.hid (below_drewN HB1.out nq)
          have OW2 := Lib.hid (owns_below H.out.2.1 (below_drewN (Below.refl _ wr) nq) (Nat.le_refl _))
          clear x0 x1 x2 x3 x4
          generalize wr.drewN nq = X2 at *
          obtain ⟨y0, y1, y2, y3, y4⟩ := FX.out X2 HB2.out
          have hne : m ≠ n := by omega
          have HNE := Lib.hid hne
          have b2 : (m == n) = false := by simpa using hne
          have b3 : (m != n) = true := by simpa using hne
          clear hne
          go_quiet (fail)
          go_wp2_with (refine wpList_append_row rfl (.tmp 68) (.tmp 74) 35 rfl W0.heap.size W0.heap.size W0 ((below_drewN HB2.out nq).alloc (by have := HB2.out.size; exact this) _) (Nat.le_refl _) tRSec (.agg #[.int .i64 0, .slice none 0 0]) 2 32 Try.underlying35 infoRSec rfl (by decide) _ acc.length (flat2 acc) rfl (owns_below (owns_below OW2.out (below_drewN (Below.refl _ X2) nq) (Nat.le_refl _)) ((Below.refl _ _).alloc (Nat.le_refl _) _) (Nat.le_refl _)) _ 1 [.int .i64 m, Value.slice ka kl kc] rfl (src_pair _ m (Value.slice ka kl kc) rfl) (by have := H.out.2.2.2.2.2.2.2; unfold maxLen; skip; omega) (by have := H.out.2.2.2.2.2.2.2; skip; omega) (by have := HB2.out.size; simp; exact Nat.le_succ_of_le this) ?_
                       intro v3 W3 OW3 hb3 _
                       obtain ⟨g3, c3, rfl⟩ := own_pos OW3.out (by omega)
                       have HB3 := Lib.hid hb3
                       clear hb3)
          go_roundg (secs.length - (k + 1))
          case measure => have := H.out.2.2.2.2.1; omega
          case rel => exact ⟨k + 1, false, by go_num, rfl, by have := H.out.2.2.2.2.1; omega, acc ++ [(m, Value.slice ka kl kc)], SecRel.old H.out.1 nod.out H.out.2.2.2.1 HNE.out (by have := H.out.2.2.2.2.2.1; rw [H.out.2.2.2.2.2.2.1.1] at this; exact this) H.out.2.2.2.2.2.2.1.2.1 H.out.2.2.2.2.2.2.1.2.2, by rw [flat2_push]; simpa using OW3.out, HB3.out⟩
      · by_cases hmn : n ≤ m
        · have b1 : decide (n ≤ m) = true := by simp; omega
          obtain ⟨x0, x1, x2, x3, x4⟩ := FX.out wr hbl
          have HB1 := Lib.hid hbl
          clear hbl
          go_upto_region 9 with fail
          go_quiet (fail)
          go_upto_region 12 with fail
          have HB2 := Lib.hid (below_drewN HB1.out nq)
          have OW2 := Lib.hid (owns_below H.out.2.1 (below_drewN (Below.refl _ wr) nq) (Nat.le_refl _))
          clear x0 x1 x2 x3 x4
          generalize wr.drewN nq = X2 at *
          obtain ⟨y0, y1, y2, y3, y4⟩ := FX.out X2 HB2.out
          by_cases heq : m = n
          · have HEQ := Lib.hid heq
            have b2 : (m == n) = true := by simpa using heq
            have b3 : (m != n) = false := by simpa using heq
            clear heq
            go_quiet (fail)
            go_wp2_with fail
            go_roundg (secs.length - (k + 1))
            case measure => have := H.out.2.2.2.2.1; omega
            case rel => exact ⟨k + 1, true, by go_num, rfl, by have := H.out.2.2.2.2.1; omega, acc, SecRel.same H.out.1 (by have := H.out.2.2.2.1; rw [HEQ.out] at this; exact this), owns_below OW2.out (below_drewN (Below.refl _ X2) nq) (Nat.le_refl _), below_drewN HB2.out nq⟩
          · have hne : m ≠ n := heq
            clear heq
            have HNE := Lib.hid hne
            have b2 : (m == n) = false := by simpa using hne
            have b3 : (m != n) = true := by simpa using hne
            clear hne
            go_quiet (fail)
            go_wp2_with (refine wpList_append_row rfl (.tmp 68) (.tmp 74) 35 rfl W0.heap.size W0.heap.size W0 ((below_drewN HB2.out nq).alloc (by have := HB2.out.size; exact this) _) (Nat.le_refl _) tRSec (.agg #[.int .i64 0, .slice none 0 0]) 2 32 Try.underlying35 infoRSec rfl (by decide) _ acc.length (flat2 acc) rfl (owns_below (owns_below OW2.out (below_drewN (Below.refl _ X2) nq) (Nat.le_refl _)) ((Below.refl _ _).alloc (Nat.le_refl _) _) (Nat.le_refl _)) _ 1 [.int .i64 m, Value.slice ka kl kc] rfl (src_pair _ m (Value.slice ka kl kc) rfl) (by have := H.out.2.2.2.2.2.2.2; unfold maxLen; skip; omega) (by have := H.out.2.2.2.2.2.2.2; skip; omega) (by have := HB2.out.size; simp; exact Nat.le_succ_of_le this) ?_
                         intro v3 W3 OW3 hb3 _
                         obtain ⟨g3, c3, rfl⟩ := own_pos OW3.out (by omega)
                         have HB3 := Lib.hid hb3
                         clear hb3)
            go_roundg (secs.length - (k + 1))
            case measure => have := H.out.2.2.2.2.1; omega
            case rel => exact ⟨k + 1, true, by go_num, rfl, by have := H.out.2.2.2.2.1; omega, acc ++ [(m, Value.slice ka kl kc)], SecRel.old H.out.1 nod.out H.out.2.2.2.1 HNE.out (by have := H.out.2.2.2.2.2.1; rw [H.out.2.2.2.2.2.2.1.1] at this; exact this) H.out.2.2.2.2.2.2.1.2.1 H.out.2.2.2.2.2.2.1.2.2, by rw [flat2_push]; simpa using OW3.out, HB3.out⟩
        · have b1 : decide (n ≤ m) = false := by simp; omega
          obtain ⟨x0, x1, x2, x3, x4⟩ := FX.out wr hbl
          have HB1 := Lib.hid hbl
          clear hbl
          go_upto_region 9 with fail
          go_quiet (fail)
          go_upto_region 12 with fail
          have HB2 := Lib.hid (below_drewN HB1.out nq)
          have OW2 := Lib.hid (owns_below H.out.2.1 (below_drewN (Below.refl _ wr) nq) (Nat.le_refl _))
          clear x0 x1 x2 x3 x4
          generalize wr.drewN nq = X2 at *
          obtain ⟨y0, y1, y2, y3, y4⟩ := FX.out X2 HB2.out
          have hne : m ≠ n := by omega
          have HNE := Lib.hid hne
          have b2 : (m == n) = false := by simpa using hne
          have b3 : (m != n) = true := by simpa using hne
          clear hne
          go_quiet (fail)
          go_wp2_with (refine wpList_append_row rfl (.tmp 68) (.tmp 74) 35 rfl W0.heap.size W0.heap.size W0 ((below_drewN HB2.out nq).alloc (by have := HB2.out.size; exact this) _) (Nat.le_refl _) tRSec (.agg #[.int .i64 0, .slice none 0 0]) 2 32 Try.underlying35 infoRSec rfl (by decide) _ acc.length (flat2 acc) rfl (owns_below (owns_below OW2.out (below_drewN (Below.refl _ X2) nq) (Nat.le_refl _)) ((Below.refl _ _).alloc (Nat.le_refl _) _) (Nat.le_refl _)) _ 1 [.int .i64 m, Value.slice ka kl kc] rfl (src_pair _ m (Value.slice ka kl kc) rfl) (by have := H.out.2.2.2.2.2.2.2; unfold maxLen; skip; omega) (by have := H.out.2.2.2.2.2.2.2; skip; omega) (by have := HB2.out.size; simp; exact Nat.le_succ_of_le this) ?_
                       intro v3 W3 OW3 hb3 _
                       obtain ⟨g3, c3, rfl⟩ := own_pos OW3.out (by omega)
                       have HB3 := Lib.hid hb3
                       clear hb3)
          go_roundg (secs.length - (k + 1))
          case measure => have := H.out.2.2.2.2.1; omega
          case rel => exact ⟨k + 1, true, by go_num, rfl, by have := H.out.2.2.2.2.1; omega, acc ++ [(m, Value.slice ka kl kc)], SecRel.old H.out.1 nod.out H.out.2.2.2.1 HNE.out (by have := H.out.2.2.2.2.2.1; rw [H.out.2.2.2.2.2.2.1.1] at this; exact this) H.out.2.2.2.2.2.2.1.2.1 H.out.2.2.2.2.2.2.1.2.2, by rw [flat2_push]; simpa using OW3.out, HB3.out⟩
    · obtain rfl : k = secs.length := by omega
      have OKS := Lib.hid HD.out.2.1
      have hal : acc.length ≤ 8192 := by have := rel.len; split at this <;> omega
      obtain ⟨ua, uc, eu⟩ := HD.out.2.2.1.slice
      generalize l.length = ul at eu
      subst eu
      have g0 := (hbl.block _ (lt_of_row HD.out.2.2.2.2.1)).trans HD.out.2.2.2.2.1
      have g1 := (hbl.block _ (lt_of_row HD.out.2.2.2.2.2.1)).trans HD.out.2.2.2.2.2.1
      have x0 : wr.cell? ⟨w.heap.size, 0, none⟩ = some (.slice sa secs.length sc) := row_cell g0 rfl
      have x1 : wr.cell? ⟨w.heap.size + 1, 1, none⟩ = some (.int .i64 n) := row_cell g1 rfl
      have x2 : wr.cell? ⟨w.heap.size + 1, 3, none⟩ = some (Value.slice ua ul uc) := row_cell g1 rfl
      have f0 : wr.frozen? ⟨w.heap.size, 0, none⟩ = false := row_free g0 _
      have H := Lib.hid (And.intro rel (And.intro own (And.intro hbl hal)))
      have hrow : ∀ X, Below W0.heap.size W0 X → ∀ v, (X.setCell ⟨w.heap.size, 0, none⟩ v).heap[w.heap.size]? = some (.cells #[v, t0, t1, t2, t3] tRBytes (0, 0)) ∧ (X.setCell ⟨w.heap.size, 0, none⟩ v).heap[w.heap.size + 1 + 1]? = some (.cells bytes0 tRBytes (0, 0)) ∧ X.frozen? ⟨w.heap.size, 0, none⟩ = false ∧ X.cell? ⟨w.heap.size, 0, none⟩ = some (.slice sa secs.length sc) := fun X hX v => by
        have q0 := (hX.block _ (lt_of_row HD.out.2.2.2.2.1)).trans HD.out.2.2.2.2.1
        have q2 := (hX.block _ (lt_of_row HD.out.2.2.2.2.2.2.1)).trans HD.out.2.2.2.2.2.2.1
        exact ⟨(heap_setCell_same X w.heap.size 0 _ tRBytes v q0).trans rfl, (heap_setCell_other X ⟨w.heap.size, 0, none⟩ (w.heap.size + 1 + 1) v (by show w.heap.size + 1 + 1 ≠ w.heap.size; omega)).trans q2, row_free q0 _, row_cell q0 rfl⟩
      have HR := Lib.hid hrow
      clear rel own hbl hal g0 g1 hrow
      have ones : ∀ a m c, (#[Value.slice a m c, t0, t1, t2, t3] : Array Value).all (·.oneCell') = true := fun a m c => by have := HD.out.2.2.2.2.2.2.2.2; simp at this ⊢; exact ⟨rfl, this.2⟩
      have ON := Lib.hid ones
      clear ones
      cases pb
      · go_upto_region 16 with (refine wpList_append_row rfl (.tmp 78) (.tmp 84) 35 rfl W0.heap.size W0.heap.size W0 (H.out.2.2.1.alloc (by have := H.out.2.2.1.size; exact this) _) (Nat.le_refl _) tRSec (.agg #[.int .i64 0, .slice none 0 0]) 2 32 Try.underlying35 infoRSec rfl (by decide) _ acc.length (flat2 acc) rfl (owns_below H.out.2.1 ((Below.refl _ _).alloc (Nat.le_refl _) _) (Nat.le_refl _)) _ 1 [.int .i64 n, Value.slice ua ul uc] rfl (src_pair _ n (Value.slice ua ul uc) rfl) (by have := H.out.2.2.2; unfold maxLen; omega) (by have := H.out.2.2.2; omega) (by have := H.out.2.2.1.size; simp; exact Nat.le_succ_of_le this) ?_
                                intro v1 X2 OW1 hb1 _
                                obtain ⟨g1, c1, rfl⟩ := own_pos OW1.out (by omega)
                                have HB2 := Lib.hid hb1
                                clear hb1)
        have OW2 : Hid (X2.ownsRow W0.heap.size tRSec 2 (.slice (some ⟨g1, 0, none⟩) (acc.length + 1) c1) (acc ++ [(n, Value.slice ua ul uc)]).length (flat2 (acc ++ [(n, Value.slice ua ul uc)]))) := by
          have := OW1.out
          rw [flat2_push, List.length_append]
          exact this
        clear OW1 x0 x1 x2 f0
        obtain ⟨_, _, y3, y4⟩ := HR.out X2 HB2.out (.slice (some ⟨g1, 0, none⟩) (acc.length + 1) c1)
        go_wp2_with (first
          | (refine wpList_load_row rfl tRBytes (.tmp 2) rfl w.heap.size rfl tRBytes _ (0, 0) _ (HR.out X2 HB2.out _).1 Try.underlying39 rfl infoRB ?_)
          | (refine wpList_store_abs rfl tRBytes (.tmp 4) (.tmp 104) rfl (w.heap.size + 1 + 1) #[.slice (some ⟨g1, 0, none⟩) (acc.length + 1) c1, t0, t1, t2, t3] rfl rfl tRBytes bytes0 (HR.out X2 HB2.out _).2.1 infoRB rfl (ON.out _ _ _) ?_
             intro W5 HW5 HM5 HS5))
        refine bodyPost_ret (results_cell_row rfl _ _ (w.heap.size + 1 + 1) _ _ _ _ rfl HW5.out Try.underlying39 rfl infoRB) rfl ?_
        exact done_sec_end (SecRel.new H.out.1 HD.out.2.2.1 hn0 hn1) OKS.out HD.out.2.2.2.1 HD.out.2.2.2.2.2.2.2.1 OW2.out HB2.out HM5
      · obtain ⟨_, _, y3, y4⟩ := HR.out wr H.out.2.2.1 (.slice va acc.length vc)
        go_wp2_with (first
          | (refine wpList_load_row rfl tRBytes (.tmp 2) rfl w.heap.size rfl tRBytes _ (0, 0) _ (HR.out wr H.out.2.2.1 _).1 Try.underlying39 rfl infoRB ?_)
          | (refine wpList_store_abs rfl tRBytes (.tmp 4) (.tmp 104) rfl (w.heap.size + 1 + 1) #[.slice va acc.length vc, t0, t1, t2, t3] rfl rfl tRBytes bytes0 (HR.out wr H.out.2.2.1 _).2.1 infoRB rfl (ON.out _ _ _) ?_
             intro W5 HW5 HM5 HS5))
        refine bodyPost_ret (results_cell_row rfl _ _ (w.heap.size + 1 + 1) _ _ _ _ rfl HW5.out Try.underlying39 rfl infoRB) rfl ?_
        exact done_sec_end H.out.1 OKS.out HD.out.2.2.2.1 HD.out.2.2.2.2.2.2.2.1 H.out.2.1 H.out.2.2.1 HM5

end Go.Proofs.Ytiefhmbpaoecfaa

namespace Go.Proofs.Ytiefhmbpaoecfaa
open Go.RowKit Dm

/-- A slice, cut. -/
def cutV (ti : Value) (m : Nat) : Value := match ti with
  | .slice a n c => .slice a (min n m) c
  | v => v

theorem cutV_bytes {h : Array Obj} {F : Nat → Prop} {v : Value} {l : List UInt8} (x : BytesAt h F v l) (m : Nat) : BytesAt h F (cutV v m) (l.take m) := by
  rcases x with ⟨rfl, rfl⟩ | ⟨b, o, cap, c, t, fr, rfl, h2, h3, g2, g3, g4⟩
  · exact Or.inl ⟨by simp [cutV], by simp⟩
  · refine Or.inr ⟨b, o, cap, c, t, fr, ?_, ?_, h3, g2, g3, fun i y hi => g4 i y ?_⟩
    · simp only [cutV, List.length_take, Nat.min_comm]
    · simp only [List.length_take]; omega
    · rw [List.getElem?_take] at hi
      split at hi
      · exact hi
      · cases hi

set_option maxRecDepth 100000 in
set_option maxHeartbeats 2000000 in
theorem done_cut_some (sv t0 t1 t2 t3 u : Value) (b o n cap t m : Nat) (w : World) (ht : t < 4) (hnc : n ≤ cap) (hcap : cap ≤ 9223372036854775807) (hm : m ≤ 1048576) (hti : #[sv, t0, t1, t2, t3][1 + t]? = some (.slice (some ⟨b, o, none⟩) n cap)) (ho : (#[sv, t0, t1, t2, t3] : Array Value).all (·.oneCell') = true) :
    Calls Try.prog 63 #[.agg #[sv, t0, t1, t2, t3], .agg #[.int .i64 3, .int .i64 t, .int .i64 m, u]] w fun e w' => e = .returned (.agg (#[sv, t0, t1, t2, t3].setIfInBounds (1 + t) (.slice (some ⟨b, o, none⟩) (min n m) cap))) ∧ Below w.heap.size w w' := by
  have hb0 := doneW_below w #[sv, t0, t1, t2, t3] #[.int .i64 3, .int .i64 t, .int .i64 m, u]
  have rows := doneW_rows w #[sv, t0, t1, t2, t3] #[.int .i64 3, .int .i64 t, .int .i64 m, u]
  generalize hC : (#[sv, t0, t1, t2, t3] : Array Value) = C at *
  have csz : C.size = 5 := by rw [← hC]; rfl
  obtain ⟨W0, hW0⟩ : ∃ W0, doneW w C #[.int .i64 3, .int .i64 t, .int .i64 m, u] = W0 := ⟨_, rfl⟩
  rw [hW0] at hb0 rows
  obtain ⟨r0, r1, r2, z0⟩ := rows
  have HD := Lib.hid (And.intro hb0 (And.intro r0 (And.intro r2 (And.intro z0 (And.intro ho csz)))))
  have k0 : W0.cell? ⟨w.heap.size + 1, 0, none⟩ = some (.int .i64 3) := row_cell r1 rfl
  have k1 : W0.cell? ⟨w.heap.size + 1, 1, none⟩ = some (.int .i64 t) := row_cell r1 rfl
  have k2 : W0.cell? ⟨w.heap.size + 1, 2, none⟩ = some (.int .i64 m) := row_cell r1 rfl
  have k3 : W0.cell? ⟨w.heap.size, 1 + t, none⟩ = some (.slice (some ⟨b, o, none⟩) n cap) := row_cell r0 hti
  have f3 : W0.frozen? ⟨w.heap.size, 1 + t, none⟩ = false := row_free r0 _
  have hz : (0 : Int) ≤ (t : Int) := by omega
  have hz4 : (t : Int) < 4 := by omega
  have sc : (C.setIfInBounds (1 + t) (.slice (some ⟨b, o, none⟩) (min n m) cap)).size = 5 := by rw [Array.size_setIfInBounds]; exact csz
  have so : (C.setIfInBounds (1 + t) (.slice (some ⟨b, o, none⟩) (min n m) cap)).all (·.oneCell') = true := by
    rw [Array.all_eq_true_iff_forall_mem]
    intro y hy
    rcases Array.mem_or_eq_of_mem_setIfInBounds hy with h | h
    · exact Array.all_eq_true_iff_forall_mem.1 ho y h
    · rw [h]; rfl
  have s0 := heap_setCell_same W0 w.heap.size (1 + t) C tRBytes (.slice (some ⟨b, o, none⟩) (min n m) cap) r0
  have s2 := (heap_setCell_other W0 ⟨w.heap.size, 1 + t, none⟩ (w.heap.size + 1 + 1) (.slice (some ⟨b, o, none⟩) (min n m) cap) (by show w.heap.size + 1 + 1 ≠ w.heap.size; omega)).trans r2
  have mv : Below w.heap.size w (W0.setCell ⟨w.heap.size, 1 + t, none⟩ (.slice (some ⟨b, o, none⟩) (min n m) cap)) := hb0.setCell (Nat.le_refl _) _
  generalize hC' : C.setIfInBounds (1 + t) (.slice (some ⟨b, o, none⟩) (min n m) cap) = C' at *
  have SC := Lib.hid (And.intro sc (And.intro so (And.intro s0 (And.intro s2 mv))))
  have HC' := Lib.hid hC'
  clear sc so s0 s2 mv hC' hb0 r0 r1 r2 z0 ho csz hC hti
  by_cases hmn : ¬ m < n
  · have e1 : min n m = n := by omega
    rw [e1] at SC
    have HN := Lib.hid e1
    clear e1
    have c3 : n ≤ cap := hnc
    have c4 : (n : Int) ≤ (cap : Int) := by omega
    go_enter Try.func63, Try.ntmps63
    go_upto_region 1 with fail
    clear hW0
    go_wp2
    refine wp_region_tail 19 (by kernel_rfl) (by kernel_rfl) ?_
    simp only [List.take_succ_cons, List.take_zero, List.drop_succ_cons, List.drop_zero]
    repeat still_step
    refine wpStill_nil ?_
    refine wpList_plain rfl fun K hK => ?_
    go_simp
    refine hK _ _ ?_
    clear hK K
    simp only [wpList]
    clear k0 k1 k2 k3 f3
    generalize (W0.setCell ⟨w.heap.size, 1 + t, none⟩ (.slice (some ⟨b, o, none⟩) n cap)) = W4 at *
    go_wp2_with (first
      | (refine wpList_load_row rfl tRBytes (.tmp 2) rfl w.heap.size rfl tRBytes C' (0, 0) _ SC.out.2.2.1 Try.underlying39 rfl (by rw [infoRB, SC.out.1]) ?_)
      | (refine wpList_store_abs rfl tRBytes (.tmp 4) (.tmp 104) rfl (w.heap.size + 1 + 1) C' rfl rfl tRBytes bytes0 SC.out.2.2.2.1 (by rw [infoRB, SC.out.1]) (by rw [SC.out.1]; rfl) SC.out.2.1 ?_
         intro W5 HW5 HM5 HS5))
    refine bodyPost_ret (results_cell_row rfl _ _ (w.heap.size + 1 + 1) _ _ _ _ rfl HW5.out Try.underlying39 rfl (by rw [infoRB, SC.out.1])) rfl ?_
    exact ⟨rfl, Moves.new SC.out.2.2.2.2.drew HM5 (by omega)⟩
  · have hmn : m < n := by omega
    have e1 : min n m = m := by omega
    rw [e1] at SC
    have HN := Lib.hid e1
    clear e1
    have c3 : m ≤ cap := by omega
    have c4 : (m : Int) ≤ (cap : Int) := by omega
    go_enter Try.func63, Try.ntmps63
    go_upto_region 1 with fail
    clear hW0
    go_wp2
    refine wp_region_tail 19 (by kernel_rfl) (by kernel_rfl) ?_
    simp only [List.take_succ_cons, List.take_zero, List.drop_succ_cons, List.drop_zero]
    repeat still_step
    refine wpStill_nil ?_
    refine wpList_plain rfl fun K hK => ?_
    go_simp
    refine hK _ _ ?_
    clear hK K
    simp only [wpList]
    clear k0 k1 k2 k3 f3
    generalize (W0.setCell ⟨w.heap.size, 1 + t, none⟩ (.slice (some ⟨b, o, none⟩) m cap)) = W4 at *
    go_wp2_with (first
      | (refine wpList_load_row rfl tRBytes (.tmp 2) rfl w.heap.size rfl tRBytes C' (0, 0) _ SC.out.2.2.1 Try.underlying39 rfl (by rw [infoRB, SC.out.1]) ?_)
      | (refine wpList_store_abs rfl tRBytes (.tmp 4) (.tmp 104) rfl (w.heap.size + 1 + 1) C' rfl rfl tRBytes bytes0 SC.out.2.2.2.1 (by rw [infoRB, SC.out.1]) (by rw [SC.out.1]; rfl) SC.out.2.1 ?_
         intro W5 HW5 HM5 HS5))
    refine bodyPost_ret (results_cell_row rfl _ _ (w.heap.size + 1 + 1) _ _ _ _ rfl HW5.out Try.underlying39 rfl (by rw [infoRB, SC.out.1])) rfl ?_
    exact ⟨rfl, Moves.new SC.out.2.2.2.2.drew HM5 (by omega)⟩

set_option maxRecDepth 100000 in
set_option maxHeartbeats 2000000 in
theorem done_cut_none (sv t0 t1 t2 t3 u : Value) (t m : Nat) (w : World) (ht : t < 4) (hm : m ≤ 1048576) (hti : #[sv, t0, t1, t2, t3][1 + t]? = some (.slice none 0 0)) (ho : (#[sv, t0, t1, t2, t3] : Array Value).all (·.oneCell') = true) :
    Calls Try.prog 63 #[.agg #[sv, t0, t1, t2, t3], .agg #[.int .i64 3, .int .i64 t, .int .i64 m, u]] w fun e w' => e = .returned (.agg (#[sv, t0, t1, t2, t3].setIfInBounds (1 + t) (.slice none 0 0))) ∧ Below w.heap.size w w' := by
  have hb0 := doneW_below w #[sv, t0, t1, t2, t3] #[.int .i64 3, .int .i64 t, .int .i64 m, u]
  have rows := doneW_rows w #[sv, t0, t1, t2, t3] #[.int .i64 3, .int .i64 t, .int .i64 m, u]
  generalize hC : (#[sv, t0, t1, t2, t3] : Array Value) = C at *
  have csz : C.size = 5 := by rw [← hC]; rfl
  obtain ⟨W0, hW0⟩ : ∃ W0, doneW w C #[.int .i64 3, .int .i64 t, .int .i64 m, u] = W0 := ⟨_, rfl⟩
  rw [hW0] at hb0 rows
  obtain ⟨r0, r1, r2, z0⟩ := rows
  have HD := Lib.hid (And.intro hb0 (And.intro r0 (And.intro r2 (And.intro z0 (And.intro ho csz)))))
  have k0 : W0.cell? ⟨w.heap.size + 1, 0, none⟩ = some (.int .i64 3) := row_cell r1 rfl
  have k1 : W0.cell? ⟨w.heap.size + 1, 1, none⟩ = some (.int .i64 t) := row_cell r1 rfl
  have k2 : W0.cell? ⟨w.heap.size + 1, 2, none⟩ = some (.int .i64 m) := row_cell r1 rfl
  have k3 : W0.cell? ⟨w.heap.size, 1 + t, none⟩ = some (.slice none 0 0) := row_cell r0 hti
  have f3 : W0.frozen? ⟨w.heap.size, 1 + t, none⟩ = false := row_free r0 _
  have hz : (0 : Int) ≤ (t : Int) := by omega
  have hz4 : (t : Int) < 4 := by omega
  have sc : (C.setIfInBounds (1 + t) (.slice none 0 0)).size = 5 := by rw [Array.size_setIfInBounds]; exact csz
  have so : (C.setIfInBounds (1 + t) (.slice none 0 0)).all (·.oneCell') = true := by
    rw [Array.all_eq_true_iff_forall_mem]
    intro y hy
    rcases Array.mem_or_eq_of_mem_setIfInBounds hy with h | h
    · exact Array.all_eq_true_iff_forall_mem.1 ho y h
    · rw [h]; rfl
  have s0 := heap_setCell_same W0 w.heap.size (1 + t) C tRBytes (.slice none 0 0) r0
  have s2 := (heap_setCell_other W0 ⟨w.heap.size, 1 + t, none⟩ (w.heap.size + 1 + 1) (.slice none 0 0) (by show w.heap.size + 1 + 1 ≠ w.heap.size; omega)).trans r2
  have mv : Below w.heap.size w (W0.setCell ⟨w.heap.size, 1 + t, none⟩ (.slice none 0 0)) := hb0.setCell (Nat.le_refl _) _
  generalize hC' : C.setIfInBounds (1 + t) (.slice none 0 0) = C' at *
  have SC := Lib.hid (And.intro sc (And.intro so (And.intro s0 (And.intro s2 mv))))
  have HC' := Lib.hid hC'
  clear sc so s0 s2 mv hC' hb0 r0 r1 r2 z0 ho csz hC hti
  have hif : (if (m : Int) < 0 then (m : Int) else 0) = 0 := by rw [if_neg (by omega)]
  go_enter Try.func63, Try.ntmps63
  go_upto_region 1 with fail
  clear hW0
  go_wp2
  refine wp_region_tail 19 (by kernel_rfl) (by kernel_rfl) ?_
  simp only [List.take_succ_cons, List.take_zero, List.drop_succ_cons, List.drop_zero]
  repeat still_step
  refine wpStill_nil ?_
  refine wpList_plain rfl fun K hK => ?_
  go_simp
  refine hK _ _ ?_
  clear hK K
  simp only [wpList]
  clear k0 k1 k2 k3 f3
  generalize (W0.setCell ⟨w.heap.size, 1 + t, none⟩ (.slice none 0 0)) = W4 at *
  go_wp2_with (first
    | (refine wpList_load_row rfl tRBytes (.tmp 2) rfl w.heap.size rfl tRBytes C' (0, 0) _ SC.out.2.2.1 Try.underlying39 rfl (by rw [infoRB, SC.out.1]) ?_)
    | (refine wpList_store_abs rfl tRBytes (.tmp 4) (.tmp 104) rfl (w.heap.size + 1 + 1) C' rfl rfl tRBytes bytes0 SC.out.2.2.2.1 (by rw [infoRB, SC.out.1]) (by rw [SC.out.1]; rfl) SC.out.2.1 ?_
       intro W5 HW5 HM5 HS5))
  refine bodyPost_ret (results_cell_row rfl _ _ (w.heap.size + 1 + 1) _ _ _ _ rfl HW5.out Try.underlying39 rfl (by rw [infoRB, SC.out.1])) rfl ?_
  exact ⟨rfl, Moves.new SC.out.2.2.2.2.drew HM5 (by omega)⟩

end Go.Proofs.Ytiefhmbpaoecfaa
