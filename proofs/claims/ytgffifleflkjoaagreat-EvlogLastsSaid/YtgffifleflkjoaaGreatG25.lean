/-
  The document's Done: rows behind a change.
  evlog: what a commit leaves, plain: the rows, how much waits; the law's calls.
  The document's All: rows behind a batch.
  The law's calls, in memory.
-/
import Derived.Test.YtgffifleflkjoaaGreatG09
import Derived.Test.YtgffifleflkjoaaGreatG12
import Derived.Test.YtgffifleflkjoaaGreatG13
import Derived.Test.YtgffifleflkjoaaGreatG24
import Derived.Laws.Cover1

namespace Go.Proofs.YtgffifleflkjoaaGreat
open Go.RowKit Dm

theorem rgo_drop {c : Em.Change} {R : Em.Pairs} {i : Nat} {r : Em.Bytes × Em.Bytes} {pb : Bool} (h : R[i]? = some r) :
    Em.rgo c pb (R.drop i) = (if pb = false ∧ c.key ≤ r.1 then [(c.key, c.value)] else []) ++ ((if r.1 ≠ c.key then [r] else []) ++ Em.rgo c (pb || decide (c.key ≤ r.1)) (R.drop (i + 1))) := by
  obtain ⟨hl, rfl⟩ := List.getElem?_eq_some_iff.1 h
  rw [List.drop_eq_getElem_cons hl]
  rfl

/-- Between two rows. -/
structure RdRel (w0 : World) (c : Em.Change) (R : Em.Pairs) (i : Nat) (v : Value) (pb : Bool) (wr : World) (pre : Em.Pairs) : Prop where
  own : OwnP wr w0.heap.size v pre
  len : pre.length ≤ 2 * i
  eqn : Em.rgo c c.gone R = pre ++ Em.rgo c pb (R.drop i)
  below : Below w0.heap.size w0 wr

theorem OwnP.low {w : World} {base base' : Nat} {v : Value} {l : Em.Pairs} (h : OwnP w base v l) (hb : base' ≤ base) : OwnP w base' v l := by
  refine ⟨h.1, ?_⟩
  rcases h.2 with h1 | ⟨g, cap, cur, h1, h2, h3⟩
  · exact Or.inl h1
  · exact Or.inr ⟨g, cap, cur, h1, Nat.le_trans hb h2, h3⟩

theorem bytes_less : ∀ (x y : List UInt8), Op.bytesLess x y = decide (x < y)
  | [], [] => by simp [Op.bytesLess]
  | _ :: _, [] => by simp [Op.bytesLess]
  | [], _ :: _ => by simp [Op.bytesLess]
  | a :: x, b :: y => by
    rw [Op.bytesLess, bytes_less x y]
    simp only [List.cons_lt_cons_iff]
    by_cases h1 : a < b <;> by_cases h2 : a = b <;> by_cases h3 : x < y <;> simp [h1, h2, h3]

theorem str_geq (a b : List UInt8) : (!(Op.bytesLess a b)) = decide (b ≤ a) := by
  rw [bytes_less]
  by_cases h : b ≤ a
  · have : ¬ a < b := List.not_lt.2 h
    simp [h, this]
  · have : a < b := List.not_le.1 h
    simp [h, this]

set_option maxRecDepth 100000 in
set_option maxHeartbeats 2000000 in
theorem refdone_c {w : World} {F : Nat → Prop} {v : Value} {R : Em.Pairs} {c : Em.Change} (h : PairsAt w F v R) (hR : R.length ≤ 1000000) :
    Calls Tryz.prog 41 #[v, .agg #[strOfB c.key, strOfB c.value, .bool c.gone]] w fun e w' => ∃ v', e = .returned v' ∧ OwnP w' w.heap.size v' (Em.rdone R c) ∧ Below w.heap.size w w' := by
  obtain ⟨a, cap, rfl⟩ := h.slice
  obtain ⟨k, vv, gn⟩ := c
  obtain ⟨w0, hw0⟩ : ∃ W, w.alloc (.cells #[strOfB k, strOfB vv, .bool gn] tChange) = W := ⟨_, rfl⟩
  have B0 : Below w.heap.size w w0 := by rw [← hw0]; exact (Below.refl _ _).alloc (Nat.le_refl _) _
  have s0 : w0.heap.size = w.heap.size + 1 := by rw [← hw0]; simp
  have Z : w0.heap[w.heap.size]? = some (.cells #[strOfB k, strOfB vv, .bool gn] tChange (0, 0)) := by rw [← hw0]; exact heap_alloc_last w _
  have H := Lib.hid (And.intro (h.later B0) (And.intro B0 (And.intro s0 Z)))
  clear h B0 s0
  generalize hN : R.length = N at *
  have HN := Lib.hid hN
  clear hN
  have z2 : w0.cell? ⟨w.heap.size, 2, none⟩ = some (.bool gn) := row_cell Z rfl
  clear Z
  go_enter Tryz.func41, Tryz.ntmps41
  go_wp2
  go_loopw [5, 6, 7] (fun x p s wr => ∃ (i : Nat) (pb : Bool) (pre : Em.Pairs), i ≤ N ∧ s = .int .i64 (i : Int) ∧ p = .bool pb ∧ RdRel w0 ⟨k, vv, gn⟩ R i x pb wr pre) (fun _ _ s _ => N - (intOf s).toNat)
  case atStart => exact ⟨0, gn, [], by omega, rfl, rfl, ownP_nil _ _, Nat.le_refl _, rfl, Below.refl _ _⟩
  case round =>
    obtain ⟨i, pb, pre, hi, rfl, rfl, hrel⟩ := hrel
    by_cases hlt : i < N
    · have i0 : (0 : Int) ≤ (i : Int) := by omega
      have i1 : (i : Int) < (N : Int) := by omega
      obtain ⟨r, hr⟩ : ∃ r, R[i]? = some r := ⟨_, List.getElem?_eq_getElem (by rw [HN.out]; exact hlt)⟩
      obtain ⟨b, o, rfl, fb, lb, rg⟩ := H.out.1.at hr
      have z0 : wr.cell? ⟨w.heap.size, 0, none⟩ = some (strOfB k) := cell_past hrel.below (row_cell H.out.2.2.2 rfl)
      have z1 : wr.cell? ⟨w.heap.size, 1, none⟩ = some (strOfB vv) := cell_past hrel.below (row_cell H.out.2.2.2 rfl)
      have y1 : wr.cell? ⟨b, o + i * 2 + 1, none⟩ = some (strOfB r.2) := cell_past hrel.below (rg 1 _ rfl)
      have y0 : wr.cell? ⟨b, o + i * 2, none⟩ = some (strOfB r.1) := cell_past hrel.below (rg 0 _ rfl)
      have HR := Lib.hid (And.intro hrel (And.intro hr rg))
      clear hrel hr rg z2
      have ba : ∀ (n : Nat) (c : Obj), Below wr.heap.size wr ((wr.drewN n).alloc c) := fun n c => (below_drewN (Below.refl _ _) n).alloc (Nat.le_refl _) c
      have E := Lib.hid (HR.out.1.eqn.trans (congrArg (pre ++ ·) (rgo_drop (c := ⟨k, vv, gn⟩) (pb := pb) HR.out.2.1)))
      have LN := HR.out.1.len
      cases pb
      · by_cases hk : k ≤ r.1
        · have q : (!Op.bytesLess r.1 k) = true := by rw [str_geq]; simpa using hk
          by_cases hne : r.1 = k
          · skip
            have HK := Lib.hid (And.intro hk hne)
            have q2 : (!r.1 == k) = false := by simp [hne]
            clear hk hne
            go_wp2
            go_quiet (fail)
            go_wp2_with (at_builtin; refine wpList_append_pair rfl (.tmp 28) (.tmp 34) rfl w0.heap.size _ pre (k, vv) rfl (HR.out.1.own.later (ba nq _)) wr.heap.size 1 rfl (heap_alloc_last (wr.drewN nq) _) (by have := HR.out.1.len; omega) (by have := HR.out.1.below.size; simp; omega) (HR.out.1.below.trans ((ba nq _).mono HR.out.1.below.size)) ?_; intro v1 w1 h1 h2
                         have z0' : w1.cell? ⟨w.heap.size, 0, none⟩ = some (strOfB k) := cell_past h2.out (row_cell H.out.2.2.2 rfl)
                         have y0' : w1.cell? ⟨b, o + i * 2, none⟩ = some (strOfB r.1) := cell_past h2.out (HR.out.2.2 0 _ rfl)
                         have y1' : w1.cell? ⟨b, o + i * 2 + 1, none⟩ = some (strOfB r.2) := cell_past h2.out (HR.out.2.2 1 _ rfl)
                         have bb : ∀ (n : Nat) (c : Obj), Below w1.heap.size w1 ((w1.drewN n).alloc c) := fun n c => (below_drewN (Below.refl _ _) n).alloc (Nat.le_refl _) c)
            go_quiet (fail)
            go_wp2
            go_roundw
            case rel => exact ⟨i + 1, true, (pre ++ [(k, vv)]), by omega, by go_num, rfl, h1.out.later (below_drewN (Below.refl _ _) nq), by (try simp); omega, by rw [E.out]; simp [HK.out], below_drewN h2.out nq⟩
            case measure => simp [intOf]; omega
          · skip
            have HK := Lib.hid (And.intro hk hne)
            have q2 : (!r.1 == k) = true := by simp [hne]
            clear hk hne
            go_wp2
            go_quiet (fail)
            go_wp2_with (at_builtin; refine wpList_append_pair rfl (.tmp 28) (.tmp 34) rfl w0.heap.size _ pre (k, vv) rfl (HR.out.1.own.later (ba nq _)) wr.heap.size 1 rfl (heap_alloc_last (wr.drewN nq) _) (by have := HR.out.1.len; omega) (by have := HR.out.1.below.size; simp; omega) (HR.out.1.below.trans ((ba nq _).mono HR.out.1.below.size)) ?_; intro v1 w1 h1 h2
                         have z0' : w1.cell? ⟨w.heap.size, 0, none⟩ = some (strOfB k) := cell_past h2.out (row_cell H.out.2.2.2 rfl)
                         have y0' : w1.cell? ⟨b, o + i * 2, none⟩ = some (strOfB r.1) := cell_past h2.out (HR.out.2.2 0 _ rfl)
                         have y1' : w1.cell? ⟨b, o + i * 2 + 1, none⟩ = some (strOfB r.2) := cell_past h2.out (HR.out.2.2 1 _ rfl)
                         have bb : ∀ (n : Nat) (c : Obj), Below w1.heap.size w1 ((w1.drewN n).alloc c) := fun n c => (below_drewN (Below.refl _ _) n).alloc (Nat.le_refl _) c)
            go_quiet (fail)
            go_wp2_with (at_builtin; refine wpList_append_pair rfl (.tmp 44) (.tmp 49) rfl w0.heap.size _ (pre ++ [(k, vv)]) r rfl (h1.out.later (bb nq _)) w1.heap.size 1 rfl (heap_alloc_last (w1.drewN nq) _) (by have := HR.out.1.len; simp; omega) (by have := h2.out.size; simp; omega) (h2.out.trans ((bb nq _).mono h2.out.size)) ?_; intro v2 w2 h3 h4)
            go_roundw
            case rel => exact ⟨i + 1, true, (pre ++ [(k, vv)]) ++ [r], by omega, by go_num, rfl, h3.out, by (try simp); omega, by rw [E.out]; simp [HK.out], h4.out⟩
            case measure => simp [intOf]; omega
        · have q : (!Op.bytesLess r.1 k) = false := by rw [str_geq]; simpa using hk
          have hne : ¬ r.1 = k := fun e => hk (by rw [e]; exact List.le_refl _)
          have HK := Lib.hid (And.intro hk hne)
          have q2 : (!r.1 == k) = true := by simp [hne]
          clear hk hne
          go_wp2
          go_quiet (fail)
          revert nq
          intro n1
          go_wp2
          go_quiet (fail)
          go_wp2_with (at_builtin; refine wpList_append_pair rfl (.tmp 44) (.tmp 49) rfl w0.heap.size _ pre r rfl (HR.out.1.own.later (ba (n1 + nq) _)) wr.heap.size 1 rfl (heap_alloc_last (wr.drewN (n1 + nq)) _) (by have := HR.out.1.len; simp; omega) (by have := HR.out.1.below.size; simp; omega) (HR.out.1.below.trans ((ba (n1 + nq) _).mono HR.out.1.below.size)) ?_; intro v2 w2 h3 h4)
          go_roundw
          case rel => exact ⟨i + 1, false, pre ++ [r], by omega, by go_num, rfl, h3.out, by (try simp); omega, by rw [E.out]; simp [HK.out], h4.out⟩
          case measure => simp [intOf]; omega
      · by_cases hne : r.1 = k
        · have hk : True := trivial
          have HK := Lib.hid (And.intro hk hne)
          have q2 : (!r.1 == k) = false := by simp [hne]
          clear hk hne
          go_wp2
          go_quiet (fail)
          revert nq
          intro n1
          go_wp2
          go_quiet (fail)
          go_wp2
          go_roundw
          case rel => exact ⟨i + 1, true, pre, by omega, by go_num, rfl, HR.out.1.own.later (below_drewN (Below.refl _ _) (n1 + nq)), by (try simp); omega, by rw [E.out]; simp [HK.out], below_drewN HR.out.1.below (n1 + nq)⟩
          case measure => simp [intOf]; omega
        · have hk : True := trivial
          have HK := Lib.hid (And.intro hk hne)
          have q2 : (!r.1 == k) = true := by simp [hne]
          clear hk hne
          go_wp2
          go_quiet (fail)
          revert nq
          intro n1
          go_wp2
          go_quiet (fail)
          go_wp2_with (at_builtin; refine wpList_append_pair rfl (.tmp 44) (.tmp 49) rfl w0.heap.size _ pre r rfl (HR.out.1.own.later (ba (n1 + nq) _)) wr.heap.size 1 rfl (heap_alloc_last (wr.drewN (n1 + nq)) _) (by have := HR.out.1.len; simp; omega) (by have := HR.out.1.below.size; simp; omega) (HR.out.1.below.trans ((ba (n1 + nq) _).mono HR.out.1.below.size)) ?_; intro v2 w2 h3 h4)
          go_roundw
          case rel => exact ⟨i + 1, true, pre ++ [r], by omega, by go_num, rfl, h3.out, by (try simp); omega, by rw [E.out]; simp [HK.out], h4.out⟩
          case measure => simp [intOf]; omega
    · obtain rfl : i = N := by omega
      have z0 : wr.cell? ⟨w.heap.size, 0, none⟩ = some (strOfB k) := cell_past hrel.below (row_cell H.out.2.2.2 rfl)
      have z1 : wr.cell? ⟨w.heap.size, 1, none⟩ = some (strOfB vv) := cell_past hrel.below (row_cell H.out.2.2.2 rfl)
      have e0 : R.drop i = [] := List.drop_of_length_le (by rw [HN.out]; exact Nat.le_refl _)
      have EQ := Lib.hid hrel.eqn
      have HR := Lib.hid hrel
      have LN := HR.out.len
      have ba : ∀ (c : Obj), Below wr.heap.size wr (wr.alloc c) := fun c => (Below.refl _ _).alloc (Nat.le_refl _) c
      rw [e0] at EQ
      clear hrel z2 e0
      cases pb
      · go_wp2_with (at_builtin; refine wpList_append_pair rfl (.tmp 53) (.tmp 59) rfl w0.heap.size _ pre (k, vv) rfl (HR.out.own.later (ba _)) wr.heap.size 1 rfl (heap_alloc_last wr _) (by have := HR.out.len; have := H.out.1; omega) (by have := HR.out.below.size; simp; omega) (HR.out.below.trans ((ba _).mono HR.out.below.size)) ?_; intro v1 w1 h1 h2)
        go_ret
        refine ⟨v1, rfl, ?_, (H.out.2.1.trans (h2.out.mono H.out.2.1.size))⟩
        have e : Em.rdone R ⟨k, vv, gn⟩ = pre ++ [(k, vv)] := EQ.out
        rw [e]
        exact h1.out.low H.out.2.1.size
      · go_wp2
        go_ret
        refine ⟨_, rfl, ?_, (H.out.2.1.trans (HR.out.below.mono H.out.2.1.size))⟩
        have e : Em.rdone R ⟨k, vv, gn⟩ = pre := EQ.out.trans (List.append_nil _)
        rw [e]
        exact HR.out.own.low H.out.2.1.size

end Go.Proofs.YtgffifleflkjoaaGreat

namespace Go.Proofs.YtgffifleflkjoaaGreat.Em
open Go.Maps Cm

theorem rgo_len (c : Change) : ∀ (l : Pairs) (put : Bool), (rgo c put l).length ≤ l.length + (if put = true then 0 else 1) := by
  intro l
  induction l with
  | nil => intro put; cases put <;> simp [rgo]
  | cons r l ih =>
    intro put
    rw [rgo, List.length_append, List.length_append]
    have h := ih (put || decide (c.key ≤ r.1))
    have h1 : (if r.1 ≠ c.key then [r] else ([] : Pairs)).length ≤ 1 := by split <;> simp
    generalize (if r.1 ≠ c.key then [r] else ([] : Pairs)) = M at h1 ⊢
    cases put
    · by_cases hk : c.key ≤ r.1
      · have hd : (false || decide (c.key ≤ r.1)) = true := by simpa using hk
        rw [hd] at h ⊢
        rw [if_pos ⟨rfl, hk⟩]
        simp only [if_true, List.length_cons, List.length_nil] at h ⊢
        simp
        omega
      · have hd : (false || decide (c.key ≤ r.1)) = false := by simpa using hk
        rw [hd] at h ⊢
        rw [if_neg (fun q => hk q.2)]
        simp only [List.length_cons, List.length_nil] at h ⊢
        simp at h ⊢
        omega
    · rw [Bool.true_or] at h ⊢
      rw [if_neg (by simp)]
      simp only [if_true, List.length_cons, List.length_nil] at h ⊢
      omega

theorem rdone_len (l : Pairs) (c : Change) : (rdone l c).length ≤ l.length + 1 := by
  have := rgo_len c l c.gone
  unfold rdone
  split at this <;> omega

theorem rfold_len (l : List Change) : ∀ R : Pairs, (l.foldl rdone R).length ≤ R.length + l.length := by
  induction l with
  | nil => intro R; simp
  | cons c l ih =>
    intro R
    have h1 := ih (rdone R c)
    have h2 := rdone_len R c
    rw [List.foldl_cons, List.length_cons]
    omega

theorem goes_waits (d : Dm.D) : d.goes.1.waits = d.waits := by
  unfold Dm.D.goes
  split
  · rfl
  · split
    · rfl
    · split <;> rfl

theorem dstep_waits (d : Dm.D) (s : Dm.Step) : (d.step s).1.waits.length ≤ d.waits.length + 1 := by
  unfold Dm.D.step
  split
  · simp
  · show d.goes.1.waits.length ≤ _; rw [goes_waits]; omega

theorem dappend_waits (d : Dm.D) (t : Int) (b : Bytes) : (d.append t b).1.waits.length ≤ d.waits.length + 1 := by
  unfold Dm.D.append
  split
  · show d.waits.length ≤ _; omega
  · split
    · show d.waits.length ≤ _; omega
    · exact dstep_waits _ _

theorem dcut_waits (d : Dm.D) (t n : Int) : (d.cut t n).1.waits.length ≤ d.waits.length + 1 := by
  unfold Dm.D.cut
  split
  · show d.waits.length ≤ _; omega
  · exact dstep_waits _ _

theorem dsync_waits (d : Dm.D) : d.sync.1.waits.length ≤ d.waits.length := by
  unfold Dm.D.sync
  split
  · simp
  · show d.goes.1.waits.length ≤ _; rw [goes_waits]; omega

theorem wrote_waits (d : Dm.D) (t : Nat) (b : Bytes) : (wrote d t b).1.waits.length ≤ d.waits.length + 1 := by
  have h := dappend_waits d t b
  unfold wrote next
  split
  · have := dsync_waits (d.append t b).1; omega
  · exact h

theorem emptied_waits (d : Dm.D) (t : Nat) : (emptied d t).1.waits.length ≤ d.waits.length + 1 := by
  unfold emptied
  split
  · show d.waits.length ≤ _; omega
  · exact dcut_waits _ _ _

theorem rewrote_waits (d : Dm.D) (t : Nat) (b : Bytes) : (rewrote d t b).1.waits.length ≤ d.waits.length + 2 := by
  have h := emptied_waits d t
  have h2 : (next (emptied d t) fun d => d.append t b).1.waits.length ≤ d.waits.length + 2 := by
    unfold next
    split
    · have h3 := dappend_waits (emptied d t).1 t b
      show ((emptied d t).1.append t b).1.waits.length ≤ _
      omega
    · omega
  unfold rewrote
  generalize (next (emptied d t) fun d => d.append t b) = r at h2 ⊢
  unfold next
  split
  · have := dsync_waits r.1; omega
  · exact h2

theorem put_waits (e : E) (D : Rows) (b : Bytes) : (e.put D b).1.d.waits.length ≤ e.d.waits.length + 1 := by
  unfold E.put
  split
  · show e.d.waits.length ≤ _; omega
  · exact wrote_waits _ _ _

theorem fold_waits (e : E) (D : Rows) : (e.fold D).1.d.waits.length ≤ e.d.waits.length + 2 := by
  by_cases q : 2147483647 ≤ e.gen
  · rw [fold_full q]; show e.d.waits.length ≤ _; omega
  · rw [fold_live q]
    have := rewrote_waits e.d (1 - e.tp) (folded (e.gen + 1) D)
    by_cases r : (rewrote e.d (1 - e.tp) (folded (e.gen + 1) D)).2 = 0
    · rw [if_pos r]; exact this
    · rw [if_neg r]; exact this

theorem step_waits (e : E) (D : Rows) (b : Bytes) : (e.step D b).1.d.waits.length ≤ e.d.waits.length + 3 := by
  have h := put_waits e D b
  unfold E.step
  split
  · have := fold_waits (e.put D b).1 D; omega
  · omega

theorem commit_waits (e : E) (l : List Change) : (e.commit l).1.d.waits.length ≤ e.d.waits.length + 3 := by
  unfold E.commit
  split
  · show e.d.waits.length ≤ _; omega
  · split
    · show e.d.waits.length ≤ _; omega
    · exact step_waits _ _ _

theorem put_rows (e : E) (D : Rows) (b : Bytes) : (e.put D b).1.rows = if (e.put D b).2 = 0 then D else e.rows := by
  by_cases q : 32 ≤ e.batches ∨ b.length = 0 ∨ e.d.room / 2 < e.fin + b.length
  · rw [put_full q]; rfl
  · rw [put_live q]

theorem fold_rows (e : E) (D : Rows) : (e.fold D).1.rows = if (e.fold D).2 = 0 then D else e.rows := by
  by_cases q : 2147483647 ≤ e.gen
  · rw [fold_full q]; rfl
  · rw [fold_live q]
    by_cases r : (rewrote e.d (1 - e.tp) (folded (e.gen + 1) D)).2 = 0
    · rw [if_pos r]; simp only [r, if_true]
    · rw [if_neg r]; simp only [if_neg r]

theorem step_rows (e : E) (D : Rows) (b : Bytes) : (e.step D b).1.rows = if (e.step D b).2 = 0 then D else e.rows := by
  unfold E.step
  by_cases q : (e.put D b).2 = 280
  · rw [if_pos q, fold_rows]
    have := put_rows e D b
    rw [if_neg (by omega)] at this
    rw [this]
  · rw [if_neg q]; exact put_rows e D b

/-- The rows behind a commit. -/
theorem commit_rows (e : E) (l : List Change) : (e.commit l).1.rows = (if (e.commit l).2 = 0 then behind e.rows l else e.rows) ∧ ((e.commit l).2 = 0 → doneErr e.rows l = 0) := by
  by_cases q : doneErr e.rows l ≠ 0
  · have : e.commit l = (e, doneErr e.rows l) := if_pos q
    rw [this]
    exact ⟨by rw [if_neg q], fun h => h⟩
  · have q' : doneErr e.rows l = 0 := by omega
    by_cases r : e.gone = true
    · have : e.commit l = (e, 290) := by unfold E.commit; rw [if_neg q, if_pos r]
      rw [this]
      exact ⟨by rw [if_neg (by simp)], fun _ => q'⟩
    · have : e.commit l = ({ (e.step (behind e.rows l) (batched l)).1 with gone := decide ((e.step (behind e.rows l) (batched l)).2 = 281) }, (e.step (behind e.rows l) (batched l)).2) := by unfold E.commit; rw [if_neg q, if_neg r]
      rw [this]
      exact ⟨step_rows _ _ _, fun _ => q'⟩

/-- The rows of an engine and the document's rows stay the same. -/
theorem commit_tell {e : E} {l : List Change} (h : e.good) (ht : Tidy e.rows) (hl : l.length ≤ 64 → True) :
    Tidy (e.commit l).1.rows ∧ tell (e.commit l).1.rows = if (e.commit l).2 = 0 then (rall (tell e.rows) l).1 else tell e.rows := by
  obtain ⟨h1, h2⟩ := commit_rows e l
  by_cases q : (e.commit l).2 = 0
  · rw [if_pos q] at h1 ⊢
    have hd := h2 q
    rw [h1, rall_tell h.rows ht, if_pos hd]
    have hr : right l = 0 := (doneErr_zero hd).1
    exact ⟨(tell_fold (right_zero hr).2 h.rows ht).2, rfl⟩
  · rw [if_neg q] at h1 ⊢
    rw [h1]
    exact ⟨ht, rfl⟩

theorem tell_none : tell (.map []) = [] := by simp [tell, skeys, strKeys]

/-- A call of the law. -/
structure ActE where
  what : Int
  l : List Change
  n : Int
  crash : Dm.Crash

def Change.tiny (c : Change) : Bool := decide (c.key.length ≤ 70) && decide (c.value.length ≤ 200)
def ActE.small (x : ActE) : Bool := decide (x.l.length ≤ 70) && decide (x.crash.keep.length ≤ 40) && x.l.all Change.tiny
def fewE (l : List ActE) (most : Int) : Bool := l.all ActE.small && decide ((l.length : Int) ≤ most)

theorem ActE.small_of {x : ActE} (h : x.small = true) : x.l.length ≤ 70 ∧ x.crash.keep.length ≤ 40 ∧ ∀ c ∈ x.l, c.key.length ≤ 70 ∧ c.value.length ≤ 200 := by
  simp only [ActE.small, Bool.and_eq_true, decide_eq_true_eq, List.all_eq_true, Change.tiny] at h
  exact ⟨h.1.1, h.1.2, h.2⟩

theorem fewE_small {l : List ActE} {most : Int} (h : fewE l most = true) : (∀ x ∈ l, x.small = true) ∧ (l.length : Int) ≤ most := by
  simpa [fewE, List.all_eq_true] using h

end Go.Proofs.YtgffifleflkjoaaGreat.Em

namespace Go.Proofs.YtgffifleflkjoaaGreat
open Go.RowKit Dm

theorem PairsAt.weak {w : World} {F F' : Nat → Prop} {v : Value} {l : Em.Pairs} (h : PairsAt w F v l) (hF : ∀ b, F b → b < w.heap.size → F' b) : PairsAt w F' v l := by
  rcases h with h | ⟨b, o, cap, cs, t, fr, h1, h2, h3, h4, h5, h6⟩
  · exact Or.inl h
  · exact Or.inr ⟨b, o, cap, cs, t, fr, h1, h2, h3, hF b h4 (lt_of_row h5), h5, h6⟩

theorem PairsAt.moves {w w' : World} {F O : Nat → Prop} {v : Value} {l : Em.Pairs} (h : PairsAt w F v l) (hm : Moves O w w') (hF : ∀ b, F b → b < w.heap.size → ¬ O b) : PairsAt w' F v l := by
  rcases h with h | ⟨b, o, cap, cs, t, fr, h1, h2, h3, h4, h5, h6⟩
  · exact Or.inl h
  · exact Or.inr ⟨b, o, cap, cs, t, fr, h1, h2, h3, h4, (hm.block b (lt_of_row h5) (hF b h4 (lt_of_row h5))).trans h5, h6⟩

set_option maxRecDepth 100000 in
set_option maxHeartbeats 2000000 in
theorem rall_c {w : World} {F G : Nat → Prop} {v lv : Value} {R : Em.Pairs} {l : List Em.Change} (h : PairsAt w F v R) (hR : R.length ≤ 100000) (hc : ChangesAt w G lv l) (hl : l.length ≤ 100000) :
    Calls Tryz.prog 14 #[v, lv] w fun e w' => ∃ v', e = .returned (.tuple #[v', .int .i64 (Em.rall R l).2]) ∧ PairsAt w' (fun b => F b ∨ w.heap.size ≤ b) v' (Em.rall R l).1 ∧ Below w.heap.size w w' := by
  obtain ⟨ra, rc, rfl⟩ := h.slice
  obtain ⟨a, cap, rfl⟩ := hc.slice
  have h' : PairsAt w (fun b => F b ∨ w.heap.size ≤ b) (.slice ra R.length rc) R := h.weak (fun b hb _ => Or.inl hb)
  have BC := Lib.hid (rbatch_c hc (by omega))
  have H := Lib.hid (And.intro h' (And.intro hc hR))
  clear h h' hc hR
  generalize hN : l.length = N at *
  generalize hM : R.length = M at *
  have HN := Lib.hid (And.intro hN hM)
  clear hN hM
  by_cases hr : Em.right l ≠ 0
  · have HR := Lib.hid (show Em.rall R l = (R, Em.right l) from if_pos hr)
    have g1 : (!(Em.right l == 0)) = true := by simpa using hr
    go_enter Tryz.func14, Tryz.ntmps14
    go_wp2_with (go_at_call 40; refine BC.out.mono ?_; rintro e w1 ⟨rfl, b1⟩; have B1 := Lib.hid b1; clear b1)
    go_ret2
    rw [HR.out]
    exact ⟨_, rfl, H.out.1.later B1.out, B1.out⟩
  · have hr : Em.right l = 0 := by omega
    rw [hr] at BC
    have HR := Lib.hid hr
    clear hr
    go_enter Tryz.func14, Tryz.ntmps14
    go_wp2_with (go_at_call 40; refine BC.out.mono ?_; rintro e w1 ⟨rfl, b1⟩; have B1 := Lib.hid b1; clear b1)
    go_loopw [7, 8] (fun x s wr => ∃ i : Nat, i ≤ N ∧ s = .int .i64 (i : Int) ∧ PairsAt wr (fun b => F b ∨ w.heap.size ≤ b) x ((l.take i).foldl Em.rdone R) ∧ Below w.heap.size w wr) (fun _ s _ => N - (intOf s).toNat)
    case atStart => exact ⟨0, by omega, rfl, H.out.1.later B1.out, B1.out⟩
    case round =>
      obtain ⟨i, hi, rfl, hp, hb⟩ := hrel
      have hlen : ((l.take i).foldl Em.rdone R).length ≤ 200000 := by
        have h1 := Em.rfold_len (l.take i) R
        have h2 := HN.out
        have h3 := H.out.2.2
        rw [List.length_take] at h1
        omega
      by_cases hlt : i < N
      · have i0 : (0 : Int) ≤ (i : Int) := by omega
        have i1 : (i : Int) < (N : Int) := by omega
        obtain ⟨c, hc⟩ : ∃ c, l[i]? = some c := ⟨_, List.getElem?_eq_getElem (by rw [HN.out.1]; exact hlt)⟩
        obtain ⟨b, o, rfl, fb, lb, rg⟩ := H.out.2.1.at hc
        have RG := Lib.hid (show wr.rangeAt b (o + i * 3) [strOfB c.key, strOfB c.value, .bool c.gone] from fun j v hj => (hb.cell (p := ⟨b, o + i * 3 + j, none⟩) lb).trans (rg j v hj))
        have DC := Lib.hid (refdone_c (c := c) hp (by omega))
        have HI := Lib.hid (And.intro hb hc)
        clear hp hb hc rg
        go_wp2_with (first
          | (refine wpList_load_mid rfl tChange (.tmp 25) rfl b (o + i * 3) rfl _ _ RG.out Tryz.underlying33 rfl infoChange ?_)
          | (go_at_call 41; refine DC.out.mono ?_; rintro e w2 ⟨v', rfl, o2, b2⟩; have H2 := Lib.hid (And.intro o2 b2); clear o2 b2))
        go_roundw
        case rel =>
          refine ⟨i + 1, by omega, by go_num, ?_, below_more HI.out.1 H2.out.2⟩
          have e : (l.take (i + 1)).foldl Em.rdone R = Em.rdone ((l.take i).foldl Em.rdone R) c := by
            have hil := (List.getElem?_eq_some_iff.1 HI.out.2).1
            rw [List.take_succ_eq_append_getElem hil, List.foldl_append, (List.getElem?_eq_some_iff.1 HI.out.2).2]
            rfl
          rw [e]
          exact H2.out.1.at.weak (fun b hb _ => Or.inr (Nat.le_trans HI.out.1.size hb))
        case measure => simp [intOf]; omega
      · obtain rfl : i = N := by omega
        have e0 : (l.take i).foldl Em.rdone R = l.foldl Em.rdone R := by rw [List.take_of_length_le (by rw [HN.out.1]; exact Nat.le_refl _)]
        rw [e0] at hp hlen
        obtain ⟨xa, xc, rfl⟩ := hp.slice
        have HP := Lib.hid (And.intro hp hb)
        clear hp hb e0
        generalize hK : (l.foldl Em.rdone R).length = K at *
        have HK := Lib.hid hK
        clear hK
        by_cases h256 : 256 < K
        · have d1 : (256 : Int) < (K : Int) := by omega
          have HA := Lib.hid (show Em.rall R l = (R, 3) by unfold Em.rall; rw [if_neg (by rw [HR.out]; decide), HK.out, if_pos h256])
          clear h256
          go_wp2
          go_ret2
          rw [HA.out]
          exact ⟨_, rfl, H.out.1.later HP.out.2, HP.out.2⟩
        · have d1 : ¬ (256 : Int) < (K : Int) := by omega
          have HA := Lib.hid (show Em.rall R l = (l.foldl Em.rdone R, 0) by unfold Em.rall; rw [if_neg (by rw [HR.out]; decide), HK.out, if_neg h256])
          clear h256
          go_wp2
          go_ret2
          rw [HA.out]
          exact ⟨_, rfl, HP.out.1, HP.out.2⟩

end Go.Proofs.YtgffifleflkjoaaGreat

namespace Go.Proofs.YtgffifleflkjoaaGreat
open Go.RowKit Dm

abbrev tAct : Nat := 43
abbrev tActs : Nat := 37

theorem infoAct : (Tryz.prog.info? tAct).map (fun i => (i.zero, i.size, i.bytes)) = some (some (.agg #[.int .i64 0, .slice none 0 0, .int .i64 0, .slice none 0 0, .int .i64 0, .int .i64 0]), 6, 80) := by kernel_rfl

/-- A call, and the values of its two slices. -/
abbrev ActQ := Em.ActE × Value × Value
def actCells (q : ActQ) : List Value := [.int .i64 q.1.what, q.2.1, .int .i64 q.1.n, q.2.2, .int .i64 q.1.crash.torn, .int .i64 q.1.crash.part]

def i64' (n : Int) : Prop := -9223372036854775808 ≤ n ∧ n ≤ 9223372036854775807

structure ActIs (w : World) (q : ActQ) : Prop where
  l : ChangesAt w (fun _ => True) q.2.1 q.1.l
  keep : BoolsAt w.heap q.2.2 q.1.crash.keep
  what : i64' q.1.what
  n : i64' q.1.n
  torn : i64' q.1.crash.torn
  part : i64' q.1.crash.part
  llen : q.1.l.length ≤ 9223372036854775807
  klen : q.1.crash.keep.length ≤ 9223372036854775807

/-- A slice of calls. -/
def ActsIn (w : World) (v : Value) (Q : List ActQ) : Prop :=
  ((v = .slice none 0 0 ∨ ∃ ad c, v = .slice (some ad) 0 c) ∧ Q = []) ∨ ∃ (b o cap : Nat) (cs : Array Value) (t : TypeId) (fr : Nat × Nat), v = .slice (some ⟨b, o, none⟩) Q.length cap ∧ w.heap[b]? = some (.cells cs t fr) ∧
    ∀ (i : Nat) (q : ActQ), Q[i]? = some q → ActIs w q ∧ ∀ (j : Nat) u, (actCells q)[j]? = some u → cs[o + i * 6 + j]? = some u

theorem ActsIn.slice {w : World} {v : Value} {Q : List ActQ} (h : ActsIn w v Q) : ∃ a c, v = .slice a Q.length c := by
  rcases h with ⟨rfl | ⟨_, _, rfl⟩, rfl⟩ | ⟨b, o, cap, cs, t, fr, rfl, _⟩
  · exact ⟨_, _, rfl⟩
  · exact ⟨_, _, rfl⟩
  · exact ⟨_, _, rfl⟩

theorem BoolsAt.later {w w' : World} {v : Value} {l : List Bool} (x : BoolsAt w.heap v l) (hb : Below w.heap.size w w') : BoolsAt w'.heap v l := by
  rcases x with x | ⟨b, o, cap, c, t, fr, h1, h2, h3⟩
  · exact Or.inl x
  · exact Or.inr ⟨b, o, cap, c, t, fr, h1, (hb.block b (lt_of_row h2)).trans h2, h3⟩

theorem ActIs.later {w w' : World} {q : ActQ} (h : ActIs w q) (hb : Below w.heap.size w w') : ActIs w' q :=
  ⟨h.l.later hb, h.keep.later hb, h.what, h.n, h.torn, h.part, h.llen, h.klen⟩

theorem ActsIn.later {w w' : World} {v : Value} {Q : List ActQ} (h : ActsIn w v Q) (hb : Below w.heap.size w w') : ActsIn w' v Q := by
  rcases h with h | ⟨b, o, cap, cs, t, fr, h1, h2, h3⟩
  · exact Or.inl h
  · exact Or.inr ⟨b, o, cap, cs, t, fr, h1, (hb.block b (lt_of_row h2)).trans h2, fun i q hi => ⟨(h3 i q hi).1.later hb, (h3 i q hi).2⟩⟩

theorem ActsIn.at {w : World} {a : Option Addr} {n cap : Nat} {Q : List ActQ} (h : ActsIn w (.slice a n cap) Q) {i : Nat} {q : ActQ} (hi : Q[i]? = some q) :
    ∃ b o, a = some ⟨b, o, none⟩ ∧ b < w.heap.size ∧ w.rangeAt b (o + i * 6) (actCells q) ∧ ActIs w q := by
  rcases h with ⟨_, rfl⟩ | ⟨b, o, cap', cs, t, fr, h1, h5, h6⟩
  · simp at hi
  · cases h1
    obtain ⟨g1, g2⟩ := h6 i q hi
    exact ⟨b, o, rfl, lt_of_row h5, fun j v hj => (cell_of_row _ _ _ _ _ _ h5).trans (g2 j v hj), g1⟩

abbrev cellsA (Q : List ActQ) : List Value := Q.flatMap actCells

theorem cellsA_len (Q : List ActQ) : (cellsA Q).length = Q.length * 6 := by
  induction Q with
  | nil => rfl
  | cons c l ih => rw [cellsA, List.flatMap_cons, List.length_append, List.length_cons]; have := ih; simp only [cellsA] at this; rw [this]; simp [actCells]; omega

theorem cellsA_at : ∀ (l : List ActQ) (i : Nat) (q : ActQ), l[i]? = some q → ∀ j v, (actCells q)[j]? = some v → (cellsA l)[i * 6 + j]? = some v := by
  intro l
  induction l with
  | nil => intro i c hi; simp at hi
  | cons x l ih =>
    intro i c hi j v hj
    rw [cellsA, List.flatMap_cons]
    cases i with
    | zero =>
      simp only [List.getElem?_cons_zero, Option.some.injEq] at hi
      subst hi
      have hlt : j < 6 := by
        have := (List.getElem?_eq_some_iff.1 hj).1
        simpa [actCells] using this
      rw [List.getElem?_append_left (by simp [actCells]; omega)]
      simpa using hj
    | succ i =>
      rw [List.getElem?_append_right (by simp [actCells]; omega)]
      have := ih i c (by simpa using hi) j v hj
      rw [show (i + 1) * 6 + j - (actCells x).length = i * 6 + j by simp [actCells]; omega]
      exact this

theorem cellsA_of : ∀ (l : List ActQ) (k : Nat) (u : Value), (cellsA l)[k]? = some u → ∃ i q j, l[i]? = some q ∧ (actCells q)[j]? = some u ∧ k = i * 6 + j := by
  intro l k u hu
  have hk := (List.getElem?_eq_some_iff.1 hu).1
  rw [cellsA_len] at hk
  have hi : k / 6 < l.length := by omega
  obtain ⟨q, hq⟩ : ∃ q, l[k / 6]? = some q := ⟨_, List.getElem?_eq_getElem hi⟩
  obtain ⟨v, hv⟩ : ∃ v, (actCells q)[k % 6]? = some v := ⟨_, List.getElem?_eq_getElem (show k % 6 < (actCells q).length by simp [actCells]; omega)⟩
  have e := cellsA_at l (k / 6) q hq (k % 6) v hv
  rw [show k / 6 * 6 + k % 6 = k by omega] at e
  rw [e] at hu
  cases hu
  exact ⟨k / 6, q, k % 6, hq, hv, by omega⟩

theorem actCells_one {w : World} {q : ActQ} (h : ActIs w q) : ∀ u ∈ actCells q, u.oneCell' = true := by
  intro u hu
  obtain ⟨a, c, e⟩ := h.l.slice
  obtain ⟨a', c', e'⟩ := h.keep.slice
  simp only [actCells, List.mem_cons, List.not_mem_nil, or_false, e, e'] at hu
  rcases hu with rfl | rfl | rfl | rfl | rfl | rfl <;> rfl

theorem ActsIn.src {w : World} {v : Value} {Q : List ActQ} (h : ActsIn w v Q) : SrcAt w 6 v Q.length (cellsA Q) := by
  rcases h with ⟨rfl | ⟨ad, c, rfl⟩, rfl⟩ | ⟨b, o, cap, cs, t, fr, rfl, h2, h3⟩
  · exact Or.inl ⟨rfl, rfl, rfl⟩
  · exact Or.inr ⟨ad, c, rfl, rfl, fun j u hj => by simp at hj, fun u hu => by simp at hu⟩
  · refine Or.inr ⟨⟨b, o, none⟩, cap, rfl, cellsA_len Q, fun k u hk => ?_, fun u hu => ?_⟩
    · obtain ⟨i, q, j, hi, hj, rfl⟩ := cellsA_of Q k u hk
      rw [addr_add, cell_of_row _ _ _ _ _ _ h2, ← Nat.add_assoc]
      exact (h3 i q hi).2 j u hj
    · obtain ⟨q, hq, hu⟩ := List.mem_flatMap.1 hu
      obtain ⟨i, hi⟩ := List.mem_iff_getElem?.1 hq
      exact actCells_one (h3 i q hi).1 u hu

/-- Calls of one's own. -/
abbrev OwnA (w : World) (base : Nat) (v : Value) (Q : List ActQ) : Prop := w.ownsRow base tAct 6 v Q.length (cellsA Q)

theorem OwnA.acts {w : World} {base : Nat} {v : Value} {Q : List ActQ} (h : OwnA w base v Q) (hq : ∀ q ∈ Q, ActIs w q) : ActsIn w v Q := by
  rcases h.2 with ⟨h1, h2⟩ | ⟨g, cap, cur, h1, h2, h3, h4, h5, h6, h7⟩
  · exact Or.inl ⟨Or.inl h1, List.eq_nil_of_length_eq_zero h2⟩
  · refine Or.inr ⟨g, 0, cap, cur, tAct, (0, 0), h1, h3, fun i q hi => ⟨hq q (List.mem_of_getElem? hi), fun j u hj => ?_⟩⟩
    have hlt := (List.getElem?_eq_some_iff.1 hi).1
    have hjl : j < 6 := by
      have := (List.getElem?_eq_some_iff.1 hj).1
      simpa [actCells] using this
    have := cellsA_at Q i q hi j u hj
    rw [← h7, List.getElem?_take, if_pos (by omega)] at this
    rw [Nat.zero_add]
    simpa using this

theorem own_noacts (w : World) : OwnA (w.alloc (.cells #[] tAct)) w.heap.size (.slice (some ⟨w.heap.size, 0, none⟩) 0 0) [] :=
  ⟨rfl, Or.inr ⟨w.heap.size, 0, #[], rfl, Nat.le_refl _, heap_alloc_last _ _, Nat.le_refl _, Nat.zero_le _, rfl, rfl⟩⟩

theorem wpList_append_acts {ops : Array Oper} {rest : List Oper} {o : Oper} {a : Act} {w : World} {Q : Exit → Act → World → Prop} (hgd : o.guard = none) (s x : Operand)
    (ho : o.op = .call { callee := .builtin .append, args := #[s, x], argTypes := #[tActs, tActs] })
    (B base : Nat) (w0 : World) (hb : Below B w0 w) (hB : B ≤ base) (v : Value) (l1 : List ActQ) (hs : a.eval s = v) (hown : OwnA w base v l1)
    (v2 : Value) (l2 : List ActQ) (hx : a.eval x = v2) (hsrc : SrcAt w 6 v2 l2.length (cellsA l2))
    (hl : (l1.length + l2.length) * 80 ≤ 140737488355328) (hbase : base ≤ w.heap.size)
    (h : ∀ v' w', Hid (OwnA w' base v' (l1 ++ l2)) → Hid (Below B w0 w') → wpList Tryz.prog ops Q rest (a.put o.dst v') w') : wpList Tryz.prog ops Q (o :: rest) a w := by
  refine wpList_append_row hgd s x tActs ho B base w0 hb hB tAct _ 6 80 Tryz.underlying37 infoAct rfl (by decide) v l1.length (cellsA l1) hs hown v2 l2.length (cellsA l2) hx hsrc (by unfold maxLen; omega) hl hbase ?_
  intro v' w' ho' h1 h2
  refine h v' w' ?_ (Lib.hid h1)
  have := ho'.out
  refine Lib.hid ?_
  unfold OwnA cellsA
  rw [List.length_append, List.flatMap_append]
  exact this

end Go.Proofs.YtgffifleflkjoaaGreat
