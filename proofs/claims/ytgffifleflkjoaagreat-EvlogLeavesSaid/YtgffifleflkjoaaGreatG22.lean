/-
  evlog: what a commit leaves, plain: the rows, how much waits; the law's calls.
  The document's All: rows behind a batch.
  Copy.
  What a crash leaves, step by step (plain).
-/
import Derived.Test.YtgffifleflkjoaaGreatG06
import Derived.Test.YtgffifleflkjoaaGreatG13
import Derived.Test.YtgffifleflkjoaaGreatG20
import Derived.Test.YtgffifleflkjoaaGreatG21

namespace Go.Proofs.YtgffifleflkjoaaGreat.Em
open Go.Maps Cm

theorem rgo_len (c : Change) : ∀ (l : Pairs) (put : Bool), (rgo c put l).length ≤ l.length + (if put = true then 0 else 1) := by
  intro l
  induction l with
  | nil => intro put; cases put <;> simp [rgo]
  | cons r l ih =>
    intro put
    rw [rgo, List.length_append, List.length_append]
    have h := ih (put || decide (c.key ≤ r.1))
    have h1 : (if r.1 ≠ c.key then [r] else ([] : Pairs)).length ≤ 1 := by split <;> simp
    generalize (if r.1 ≠ c.key then [r] else ([] : Pairs)) = M at h1 ⊢
    cases put
    · by_cases hk : c.key ≤ r.1
      · have hd : (false || decide (c.key ≤ r.1)) = true := by simpa using hk
        rw [hd] at h ⊢
        rw [if_pos ⟨rfl, hk⟩]
        simp only [if_true, List.length_cons, List.length_nil] at h ⊢
        simp
        omega
      · have hd : (false || decide (c.key ≤ r.1)) = false := by simpa using hk
        rw [hd] at h ⊢
        rw [if_neg (fun q => hk q.2)]
        simp only [List.length_cons, List.length_nil] at h ⊢
        simp at h ⊢
        omega
    · rw [Bool.true_or] at h ⊢
      rw [if_neg (by simp)]
      simp only [if_true, List.length_cons, List.length_nil] at h ⊢
      omega

theorem rdone_len (l : Pairs) (c : Change) : (rdone l c).length ≤ l.length + 1 := by
  have := rgo_len c l c.gone
  unfold rdone
  split at this <;> omega

theorem rfold_len (l : List Change) : ∀ R : Pairs, (l.foldl rdone R).length ≤ R.length + l.length := by
  induction l with
  | nil => intro R; simp
  | cons c l ih =>
    intro R
    have h1 := ih (rdone R c)
    have h2 := rdone_len R c
    rw [List.foldl_cons, List.length_cons]
    omega

theorem goes_waits (d : Dm.D) : d.goes.1.waits = d.waits := by
  unfold Dm.D.goes
  split
  · rfl
  · split
    · rfl
    · split <;> rfl

theorem dstep_waits (d : Dm.D) (s : Dm.Step) : (d.step s).1.waits.length ≤ d.waits.length + 1 := by
  unfold Dm.D.step
  split
  · simp
  · show d.goes.1.waits.length ≤ _; rw [goes_waits]; omega

theorem dappend_waits (d : Dm.D) (t : Int) (b : Bytes) : (d.append t b).1.waits.length ≤ d.waits.length + 1 := by
  unfold Dm.D.append
  split
  · show d.waits.length ≤ _; omega
  · split
    · show d.waits.length ≤ _; omega
    · exact dstep_waits _ _

theorem dcut_waits (d : Dm.D) (t n : Int) : (d.cut t n).1.waits.length ≤ d.waits.length + 1 := by
  unfold Dm.D.cut
  split
  · show d.waits.length ≤ _; omega
  · exact dstep_waits _ _

theorem dsync_waits (d : Dm.D) : d.sync.1.waits.length ≤ d.waits.length := by
  unfold Dm.D.sync
  split
  · simp
  · show d.goes.1.waits.length ≤ _; rw [goes_waits]; omega

theorem wrote_waits (d : Dm.D) (t : Nat) (b : Bytes) : (wrote d t b).1.waits.length ≤ d.waits.length + 1 := by
  have h := dappend_waits d t b
  unfold wrote next
  split
  · have := dsync_waits (d.append t b).1; omega
  · exact h

theorem emptied_waits (d : Dm.D) (t : Nat) : (emptied d t).1.waits.length ≤ d.waits.length + 1 := by
  unfold emptied
  split
  · show d.waits.length ≤ _; omega
  · exact dcut_waits _ _ _

theorem rewrote_waits (d : Dm.D) (t : Nat) (b : Bytes) : (rewrote d t b).1.waits.length ≤ d.waits.length + 2 := by
  have h := emptied_waits d t
  have h2 : (next (emptied d t) fun d => d.append t b).1.waits.length ≤ d.waits.length + 2 := by
    unfold next
    split
    · have h3 := dappend_waits (emptied d t).1 t b
      show ((emptied d t).1.append t b).1.waits.length ≤ _
      omega
    · omega
  unfold rewrote
  generalize (next (emptied d t) fun d => d.append t b) = r at h2 ⊢
  unfold next
  split
  · have := dsync_waits r.1; omega
  · exact h2

theorem put_waits (e : E) (D : Rows) (b : Bytes) : (e.put D b).1.d.waits.length ≤ e.d.waits.length + 1 := by
  unfold E.put
  split
  · show e.d.waits.length ≤ _; omega
  · exact wrote_waits _ _ _

theorem fold_waits (e : E) (D : Rows) : (e.fold D).1.d.waits.length ≤ e.d.waits.length + 2 := by
  by_cases q : 2147483647 ≤ e.gen
  · rw [fold_full q]; show e.d.waits.length ≤ _; omega
  · rw [fold_live q]
    have := rewrote_waits e.d (1 - e.tp) (folded (e.gen + 1) D)
    by_cases r : (rewrote e.d (1 - e.tp) (folded (e.gen + 1) D)).2 = 0
    · rw [if_pos r]; exact this
    · rw [if_neg r]; exact this

theorem step_waits (e : E) (D : Rows) (b : Bytes) : (e.step D b).1.d.waits.length ≤ e.d.waits.length + 3 := by
  have h := put_waits e D b
  unfold E.step
  split
  · have := fold_waits (e.put D b).1 D; omega
  · omega

theorem commit_waits (e : E) (l : List Change) : (e.commit l).1.d.waits.length ≤ e.d.waits.length + 3 := by
  unfold E.commit
  split
  · show e.d.waits.length ≤ _; omega
  · split
    · show e.d.waits.length ≤ _; omega
    · exact step_waits _ _ _

theorem put_rows (e : E) (D : Rows) (b : Bytes) : (e.put D b).1.rows = if (e.put D b).2 = 0 then D else e.rows := by
  by_cases q : 32 ≤ e.batches ∨ b.length = 0 ∨ e.d.room / 2 < e.fin + b.length
  · rw [put_full q]; rfl
  · rw [put_live q]

theorem fold_rows (e : E) (D : Rows) : (e.fold D).1.rows = if (e.fold D).2 = 0 then D else e.rows := by
  by_cases q : 2147483647 ≤ e.gen
  · rw [fold_full q]; rfl
  · rw [fold_live q]
    by_cases r : (rewrote e.d (1 - e.tp) (folded (e.gen + 1) D)).2 = 0
    · rw [if_pos r]; simp only [r, if_true]
    · rw [if_neg r]; simp only [if_neg r]

theorem step_rows (e : E) (D : Rows) (b : Bytes) : (e.step D b).1.rows = if (e.step D b).2 = 0 then D else e.rows := by
  unfold E.step
  by_cases q : (e.put D b).2 = 280
  · rw [if_pos q, fold_rows]
    have := put_rows e D b
    rw [if_neg (by omega)] at this
    rw [this]
  · rw [if_neg q]; exact put_rows e D b

/-- The rows behind a commit. -/
theorem commit_rows (e : E) (l : List Change) : (e.commit l).1.rows = (if (e.commit l).2 = 0 then behind e.rows l else e.rows) ∧ ((e.commit l).2 = 0 → doneErr e.rows l = 0) := by
  by_cases q : doneErr e.rows l ≠ 0
  · have : e.commit l = (e, doneErr e.rows l) := if_pos q
    rw [this]
    exact ⟨by rw [if_neg q], fun h => h⟩
  · have q' : doneErr e.rows l = 0 := by omega
    by_cases r : e.gone = true
    · have : e.commit l = (e, 290) := by unfold E.commit; rw [if_neg q, if_pos r]
      rw [this]
      exact ⟨by rw [if_neg (by simp)], fun _ => q'⟩
    · have : e.commit l = ({ (e.step (behind e.rows l) (batched l)).1 with gone := decide ((e.step (behind e.rows l) (batched l)).2 = 281) }, (e.step (behind e.rows l) (batched l)).2) := by unfold E.commit; rw [if_neg q, if_neg r]
      rw [this]
      exact ⟨step_rows _ _ _, fun _ => q'⟩

/-- The rows of an engine and the document's rows stay the same. -/
theorem commit_tell {e : E} {l : List Change} (h : e.good) (ht : Tidy e.rows) (hl : l.length ≤ 64 → True) :
    Tidy (e.commit l).1.rows ∧ tell (e.commit l).1.rows = if (e.commit l).2 = 0 then (rall (tell e.rows) l).1 else tell e.rows := by
  obtain ⟨h1, h2⟩ := commit_rows e l
  by_cases q : (e.commit l).2 = 0
  · rw [if_pos q] at h1 ⊢
    have hd := h2 q
    rw [h1, rall_tell h.rows ht, if_pos hd]
    have hr : right l = 0 := (doneErr_zero hd).1
    exact ⟨(tell_fold (right_zero hr).2 h.rows ht).2, rfl⟩
  · rw [if_neg q] at h1 ⊢
    rw [h1]
    exact ⟨ht, rfl⟩

theorem tell_none : tell (.map []) = [] := by simp [tell, skeys, strKeys]

/-- A call of the law. -/
structure ActE where
  what : Int
  l : List Change
  n : Int
  crash : Dm.Crash

def Change.tiny (c : Change) : Bool := decide (c.key.length ≤ 70) && decide (c.value.length ≤ 200)
def ActE.small (x : ActE) : Bool := decide (x.l.length ≤ 70) && decide (x.crash.keep.length ≤ 40) && x.l.all Change.tiny
def fewE (l : List ActE) (most : Int) : Bool := l.all ActE.small && decide ((l.length : Int) ≤ most)

theorem ActE.small_of {x : ActE} (h : x.small = true) : x.l.length ≤ 70 ∧ x.crash.keep.length ≤ 40 ∧ ∀ c ∈ x.l, c.key.length ≤ 70 ∧ c.value.length ≤ 200 := by
  simp only [ActE.small, Bool.and_eq_true, decide_eq_true_eq, List.all_eq_true, Change.tiny] at h
  exact ⟨h.1.1, h.1.2, h.2⟩

theorem fewE_small {l : List ActE} {most : Int} (h : fewE l most = true) : (∀ x ∈ l, x.small = true) ∧ (l.length : Int) ≤ most := by
  simpa [fewE, List.all_eq_true] using h

end Go.Proofs.YtgffifleflkjoaaGreat.Em

namespace Go.Proofs.YtgffifleflkjoaaGreat
open Go.RowKit Dm

theorem PairsAt.weak {w : World} {F F' : Nat → Prop} {v : Value} {l : Em.Pairs} (h : PairsAt w F v l) (hF : ∀ b, F b → b < w.heap.size → F' b) : PairsAt w F' v l := by
  rcases h with h | ⟨b, o, cap, cs, t, fr, h1, h2, h3, h4, h5, h6⟩
  · exact Or.inl h
  · exact Or.inr ⟨b, o, cap, cs, t, fr, h1, h2, h3, hF b h4 (lt_of_row h5), h5, h6⟩

theorem PairsAt.moves {w w' : World} {F O : Nat → Prop} {v : Value} {l : Em.Pairs} (h : PairsAt w F v l) (hm : Moves O w w') (hF : ∀ b, F b → b < w.heap.size → ¬ O b) : PairsAt w' F v l := by
  rcases h with h | ⟨b, o, cap, cs, t, fr, h1, h2, h3, h4, h5, h6⟩
  · exact Or.inl h
  · exact Or.inr ⟨b, o, cap, cs, t, fr, h1, h2, h3, h4, (hm.block b (lt_of_row h5) (hF b h4 (lt_of_row h5))).trans h5, h6⟩

set_option maxRecDepth 100000 in
set_option maxHeartbeats 2000000 in
theorem rall_c {w : World} {F G : Nat → Prop} {v lv : Value} {R : Em.Pairs} {l : List Em.Change} (h : PairsAt w F v R) (hR : R.length ≤ 100000) (hc : ChangesAt w G lv l) (hl : l.length ≤ 100000) :
    Calls Tryz.prog 14 #[v, lv] w fun e w' => ∃ v', e = .returned (.tuple #[v', .int .i64 (Em.rall R l).2]) ∧ PairsAt w' (fun b => F b ∨ w.heap.size ≤ b) v' (Em.rall R l).1 ∧ Below w.heap.size w w' := by
  obtain ⟨ra, rc, rfl⟩ := h.slice
  obtain ⟨a, cap, rfl⟩ := hc.slice
  have h' : PairsAt w (fun b => F b ∨ w.heap.size ≤ b) (.slice ra R.length rc) R := h.weak (fun b hb _ => Or.inl hb)
  have BC := Lib.hid (rbatch_c hc (by omega))
  have H := Lib.hid (And.intro h' (And.intro hc hR))
  clear h h' hc hR
  generalize hN : l.length = N at *
  generalize hM : R.length = M at *
  have HN := Lib.hid (And.intro hN hM)
  clear hN hM
  by_cases hr : Em.right l ≠ 0
  · have HR := Lib.hid (show Em.rall R l = (R, Em.right l) from if_pos hr)
    have g1 : (!(Em.right l == 0)) = true := by simpa using hr
    go_enter Tryz.func14, Tryz.ntmps14
    go_wp2_with (go_at_call 40; refine BC.out.mono ?_; rintro e w1 ⟨rfl, b1⟩; have B1 := Lib.hid b1; clear b1)
    go_ret2
    rw [HR.out]
    exact ⟨_, rfl, H.out.1.later B1.out, B1.out⟩
  · have hr : Em.right l = 0 := by omega
    rw [hr] at BC
    have HR := Lib.hid hr
    clear hr
    go_enter Tryz.func14, Tryz.ntmps14
    go_wp2_with (go_at_call 40; refine BC.out.mono ?_; rintro e w1 ⟨rfl, b1⟩; have B1 := Lib.hid b1; clear b1)
    go_loopw [7, 8] (fun x s wr => ∃ i : Nat, i ≤ N ∧ s = .int .i64 (i : Int) ∧ PairsAt wr (fun b => F b ∨ w.heap.size ≤ b) x ((l.take i).foldl Em.rdone R) ∧ Below w.heap.size w wr) (fun _ s _ => N - (intOf s).toNat)
    case atStart => exact ⟨0, by omega, rfl, H.out.1.later B1.out, B1.out⟩
    case round =>
      obtain ⟨i, hi, rfl, hp, hb⟩ := hrel
      have hlen : ((l.take i).foldl Em.rdone R).length ≤ 200000 := by
        have h1 := Em.rfold_len (l.take i) R
        have h2 := HN.out
        have h3 := H.out.2.2
        rw [List.length_take] at h1
        omega
      by_cases hlt : i < N
      · have i0 : (0 : Int) ≤ (i : Int) := by omega
        have i1 : (i : Int) < (N : Int) := by omega
        obtain ⟨c, hc⟩ : ∃ c, l[i]? = some c := ⟨_, List.getElem?_eq_getElem (by rw [HN.out.1]; exact hlt)⟩
        obtain ⟨b, o, rfl, fb, lb, rg⟩ := H.out.2.1.at hc
        have RG := Lib.hid (show wr.rangeAt b (o + i * 3) [strOfB c.key, strOfB c.value, .bool c.gone] from fun j v hj => (hb.cell (p := ⟨b, o + i * 3 + j, none⟩) lb).trans (rg j v hj))
        have DC := Lib.hid (refdone_c (c := c) hp (by omega))
        have HI := Lib.hid (And.intro hb hc)
        clear hp hb hc rg
        go_wp2_with (first
          | (refine wpList_load_mid rfl tChange (.tmp 25) rfl b (o + i * 3) rfl _ _ RG.out Tryz.underlying33 rfl infoChange ?_)
          | (go_at_call 41; refine DC.out.mono ?_; rintro e w2 ⟨v', rfl, o2, b2⟩; have H2 := Lib.hid (And.intro o2 b2); clear o2 b2))
        go_roundw
        case rel =>
          refine ⟨i + 1, by omega, by go_num, ?_, below_more HI.out.1 H2.out.2⟩
          have e : (l.take (i + 1)).foldl Em.rdone R = Em.rdone ((l.take i).foldl Em.rdone R) c := by
            have hil := (List.getElem?_eq_some_iff.1 HI.out.2).1
            rw [List.take_succ_eq_append_getElem hil, List.foldl_append, (List.getElem?_eq_some_iff.1 HI.out.2).2]
            rfl
          rw [e]
          exact H2.out.1.at.weak (fun b hb _ => Or.inr (Nat.le_trans HI.out.1.size hb))
        case measure => simp [intOf]; omega
      · obtain rfl : i = N := by omega
        have e0 : (l.take i).foldl Em.rdone R = l.foldl Em.rdone R := by rw [List.take_of_length_le (by rw [HN.out.1]; exact Nat.le_refl _)]
        rw [e0] at hp hlen
        obtain ⟨xa, xc, rfl⟩ := hp.slice
        have HP := Lib.hid (And.intro hp hb)
        clear hp hb e0
        generalize hK : (l.foldl Em.rdone R).length = K at *
        have HK := Lib.hid hK
        clear hK
        by_cases h256 : 256 < K
        · have d1 : (256 : Int) < (K : Int) := by omega
          have HA := Lib.hid (show Em.rall R l = (R, 3) by unfold Em.rall; rw [if_neg (by rw [HR.out]; decide), HK.out, if_pos h256])
          clear h256
          go_wp2
          go_ret2
          rw [HA.out]
          exact ⟨_, rfl, H.out.1.later HP.out.2, HP.out.2⟩
        · have d1 : ¬ (256 : Int) < (K : Int) := by omega
          have HA := Lib.hid (show Em.rall R l = (l.foldl Em.rdone R, 0) by unfold Em.rall; rw [if_neg (by rw [HR.out]; decide), HK.out, if_neg h256])
          clear h256
          go_wp2
          go_ret2
          rw [HA.out]
          exact ⟨_, rfl, HP.out.1, HP.out.2⟩

end Go.Proofs.YtgffifleflkjoaaGreat

namespace Go.Proofs.YtgffifleflkjoaaGreat
open Go.RowKit Dm

def CopyPost (w : World) (t0 t1 t2 t3 l0 l1 l2 l3 wv : Value) (many most : Int) (dead stops : Bool) (after : Int) (es es2 : Array MapEntry) (clock clock2 : Nat) (e : Ending) (w' : World) : Prop :=
  ∃ m' ml', e = .returned (.pointer (some ⟨w.heap.size, 0, none⟩)) ∧ Below w.heap.size w w' ∧ w.heap.size < m' ∧ m' < ml' ∧ w'.heap[m']? = some (.map es clock) ∧ w'.heap[ml']? = some (.map es2 clock2) ∧
    w'.heap[w.heap.size]? = some (.cells (diskL m' t0 t1 t2 t3 ml' l0 l1 l2 l3 wv many most dead stops after).toArray tDisk (0, 0))

set_option maxRecDepth 100000 in
set_option maxHeartbeats 2000000 in
theorem copy_live (p m ml : Nat) (t0 t1 t2 t3 l0 l1 l2 l3 wv : Value) (many most : Int) (dead stops : Bool) (after : Int) (es es2 : Array MapEntry) (clock clock2 : Nat) (w : World)
    (h : w.cell? ⟨p, 16, none⟩ = some (.bool true)) (c1 : w.heap[p]? = some (.cells (diskL m t0 t1 t2 t3 ml l0 l1 l2 l3 wv many most dead stops after).toArray tDisk (0, 0))) (c2 : w.heap[m]? = some (.map es clock)) (c3 : w.heap[ml]? = some (.map es2 clock2))
    (h5 : #[t0, t1, t2, t3].all (·.oneCell') = true) (h6 : #[l0, l1, l2, l3].all (·.oneCell') = true) (h7 : wv.oneCell' = true) :
    Calls Tryz.prog 47 #[.pointer (some ⟨p, 0, none⟩)] w (CopyPost w t0 t1 t2 t3 l0 l1 l2 l3 wv many most dead stops after es es2 clock clock2) := by
  have hi : (Tryz.prog.info? tStand).map (·.size) = some 5 := by kernel_rfl
  have hi2 : (Tryz.prog.info? tDisk).map (·.size) = some 17 := by kernel_rfl
  have ones : (diskL m t0 t1 t2 t3 ml l0 l1 l2 l3 wv many most dead stops after).toArray.all (·.oneCell') = true := by
    simp at h5 h6
    simp [diskL, diskR, h5, h6, h7]
    simp [Value.oneCell']
  have HI := Lib.hid (And.intro hi (And.intro hi2 ones))
  have C := Lib.hid (And.intro c1 (And.intro c2 (And.intro c3 (And.intro h5 h6))))
  clear hi hi2 c1 c2 c3 h5 h6 h7 ones
  generalize hL : (diskL m t0 t1 t2 t3 ml l0 l1 l2 l3 wv many most dead stops after).toArray = L at *
  have HL := Lib.hid hL
  clear hL
  go_enter Tryz.func47, Tryz.ntmps47
  go_wp2_with (first
    | (go_at_call 45; refine (none_at p true _ h).mono ?_; rintro e w' ⟨rfl, rfl⟩)
    | (refine wpList_load_row rfl tDisk (.tmp 7) rfl p rfl tDisk L (0, 0) _ C.out.1 Tryz.underlying95 rfl (by rw [← HL.out]; exact HI.out.2.1) ?_)
    | (refine wpList_store_abs rfl tDisk (.tmp 3) (.tmp 8) rfl w.heap.size L rfl rfl tDisk _ (heap_alloc_last w _) (by rw [← HL.out]; exact HI.out.2.1) (by rw [← HL.out]; rfl) HI.out.2.2 ?_
       intro W1 HW HM1 HS))
  have hb1 : Below w.heap.size w W1 := Moves.new ((Below.refl _ _).alloc (Nat.le_refl _) _) HM1 (Nat.le_refl _)
  have z1 : W1.heap.size = w.heap.size + 1 := by rw [HS]; simp
  have HB := Lib.hid (And.intro hb1 z1)
  clear HM1 HS hb1 z1
  have ne : Nonempty (Wd (Below w.heap.size w)) := ⟨⟨_, Below.refl _ _⟩⟩
  refine wp_region_hoist (fun w' => ∃ x : Wd (Below w.heap.size w), w' = x.world) [] (by kernel_rfl) ?_
  refine wpAnyI_reads [0, 1, 2, 4, 5, 6] 6 _ ⟨⟨_, HB.out.1.drew⟩, rfl⟩ (by kernel_rfl) ?_
  simp only [List.filterMap_cons, List.filterMap_nil, List.getElem?_toArray, List.getElem?_cons_succ, List.getElem?_cons_zero]
  repeat (refine wpHoist_step (fun K hK => ?_); simp only [hoists, sameUpon]; go_simp; refine hK _ ?_; clear hK K)
  refine wpHoist_nil ?_
  refine wpAnyI_one 3 5 _ _ rfl (by kernel_rfl) ?_
  refine wpList_plain rfl fun K hK => ?_
  go_simp
  go_at_call 31
  have lt : p < w.heap.size := lt_of_row C.out.1
  have r1 : W1.drew.heap[p]? = some (.cells L tDisk (0, 0)) := (HB.out.1.block p lt).trans C.out.1
  rw [← HL.out] at r1
  refine (copied_c p 0 m (Or.inl rfl) t0 t1 t2 t3 es clock W1.drew (row_cell r1 rfl) (row_cell r1 rfl) (row_cell r1 rfl) (row_cell r1 rfl) (row_cell r1 rfl) ((HB.out.1.block m (lt_of_row C.out.2.1)).trans C.out.2.1) C.out.2.2.2.1).mono ?_
  rintro e W2 ⟨rfl, hb2, r2⟩
  have hb2' : Below w.heap.size w W2 := HB.out.1.drew.trans (hb2.mono (by have := HB.out.2; show w.heap.size ≤ W1.heap.size; omega))
  have H2 := Lib.hid (And.intro hb2 (And.intro r2 ((hb2.block p (by have := HB.out.2; show p < W1.heap.size; omega)).trans r1)))
  clear hb2 r2 r1
  refine hK _ _ (wpList_nil ⟨rfl, fun _ => ⟨⟨_, hb2'⟩, rfl⟩, ?_⟩)
  clear hK K
  refine wpAnyI_one 7 4 _ _ rfl (by kernel_rfl) ?_
  refine wpList_plain rfl fun K hK => ?_
  go_simp
  go_at_call 31
  have r1 := H2.out.2.2
  refine (copied_c p 5 ml (Or.inr rfl) l0 l1 l2 l3 es2 clock2 W2 (row_cell r1 rfl) (row_cell r1 rfl) (row_cell r1 rfl) (row_cell r1 rfl) (row_cell r1 rfl) ((hb2'.block ml (lt_of_row C.out.2.2.1)).trans C.out.2.2.1) C.out.2.2.2.2).mono ?_
  rintro e W3 ⟨rfl, hb3, r3⟩
  have z2 : w.heap.size + 1 ≤ W2.heap.size := by have := HB.out.2; have := H2.out.1.size; have : W1.heap.size ≤ W2.heap.size := this; omega
  have hb3' : Below w.heap.size w W3 := hb2'.trans (hb3.mono (by omega))
  have rn : W3.heap[w.heap.size]? = some (.cells L tDisk (0, 0)) := by
    rw [hb3.block _ (by omega), H2.out.1.block _ (by have := HB.out.2; show w.heap.size < W1.heap.size; omega)]
    exact HW.out
  rw [← HL.out] at rn
  have H3 := Lib.hid (And.intro hb3 (And.intro r3 (And.intro rn z2)))
  clear hb3 r3 rn r1
  refine hK _ _ (wpList_nil ⟨rfl, fun _ => ⟨⟨_, hb3'⟩, rfl⟩, ?_⟩)
  clear hK K
  refine wpAnyI_reads [8] 3 _ ⟨⟨_, hb3'⟩, rfl⟩ (by kernel_rfl) ?_
  simp only [List.filterMap_cons, List.filterMap_nil, List.getElem?_toArray, List.getElem?_cons_succ, List.getElem?_cons_zero]
  repeat (refine wpHoist_step (fun K hK => ?_); simp only [hoists, sameUpon]; go_simp; refine hK _ ?_; clear hK K)
  refine wpHoist_nil ?_
  refine wpAnyI_one 9 2 _ _ rfl (by kernel_rfl) ?_
  refine wpList_store_midA rfl tStand (.tmp 17) (.tmp 12) rfl w.heap.size 0 #[.map (some (W1.heap.size + 1)), t0, t1, t2, t3] rfl rfl tDisk _ H3.out.2.2.1 HI.out.1 (by simp [diskL, diskR]) (by have := C.out.2.2.2.1; simp at this ⊢; exact ⟨rfl, this⟩) ?_
  intro W4 HW4 HM4 HS4
  have hb4 : Below w.heap.size w W4 := Moves.new hb3' HM4 (Nat.le_refl _)
  have H4 := Lib.hid (And.intro HM4 HS4)
  clear HM4 HS4
  refine wpList_nil ⟨rfl, fun _ => ⟨⟨_, hb4⟩, rfl⟩, ?_⟩
  refine wpAnyI_reads [10] 1 _ ⟨⟨_, hb4⟩, rfl⟩ (by kernel_rfl) ?_
  simp only [List.filterMap_cons, List.filterMap_nil, List.getElem?_toArray, List.getElem?_cons_succ, List.getElem?_cons_zero]
  repeat (refine wpHoist_step (fun K hK => ?_); simp only [hoists, sameUpon]; go_simp; refine hK _ ?_; clear hK K)
  refine wpHoist_nil ?_
  refine wpAnyI_one 11 0 _ _ rfl (by kernel_rfl) ?_
  refine wpList_store_midA rfl tStand (.tmp 18) (.tmp 16) rfl w.heap.size 5 #[.map (some (W2.heap.size + 1)), l0, l1, l2, l3] rfl rfl tDisk _ HW4.out HI.out.1 (by simp [diskL, diskR, spl]) (by have := C.out.2.2.2.2; simp at this ⊢; exact ⟨rfl, this⟩) ?_
  intro W5 HW5 HM5 HS5
  have hb5 : Below w.heap.size w W5 := Moves.new hb4 HM5 (Nat.le_refl _)
  have H5 := Lib.hid (And.intro HM5 HS5)
  clear HM5 HS5
  refine wpList_nil ⟨rfl, fun _ => ⟨⟨_, hb5⟩, rfl⟩, by kernel_rfl, ?_⟩
  go_wp2
  go_ret
  obtain ⟨b2, r2, _⟩ := H2.out
  obtain ⟨b3, r3, _, z2⟩ := H3.out
  obtain ⟨m4, s4⟩ := H4.out
  obtain ⟨m5, s5⟩ := H5.out
  have z1 := HB.out.2
  have r2' : W2.heap[W1.heap.size + 1]? = some (.map es clock) := r2
  have l2' := lt_of_row r2'
  have l3 := lt_of_row r3
  refine ⟨W1.heap.size + 1, W2.heap.size + 1, rfl, hb5, by omega, by omega, ?_, ?_, ?_⟩
  · rw [m5.block _ (by omega) (by omega), m4.block _ (by omega) (by omega), b3.block _ l2', r2']
  · rw [m5.block _ (by omega) (by omega), m4.block _ l3 (by omega), r3]
  · rw [HW5.out]
    simp [diskL, diskR, spl]

/-- Blocks that a copy has. -/
def CopyF (F : Nat → Prop) (w w' : World) (p m : Nat) : Nat → Prop := fun k => (F k ∧ k < w.heap.size) ∨ (w.heap.size ≤ k ∧ k < w'.heap.size ∧ k ≠ p ∧ k ≠ m)

theorem SecMap.other {h h' : Array Obj} {m m' : Nat} {f : Int → List UInt8} {es : Array MapEntry} {clock : Nat} (x : SecMap h m f) (h1 : h[m]? = some (.map es clock)) (h2 : h'[m']? = some (.map es clock)) : SecMap h' m' f := by
  obtain ⟨es', cl', y1, y2⟩ := x
  rw [h1] at y1
  simp only [Option.some.injEq, Obj.map.injEq] at y1
  obtain ⟨rfl, rfl⟩ := y1
  exact ⟨es, clock, h2, y2⟩

theorem StepsAt.one {h : Array Obj} {F : Nat → Prop} {v : Value} {l : List Step} (x : StepsAt h F v l) : v.oneCell' = true := by
  rcases x with ⟨rfl, _⟩ | ⟨b, o, cap, c, t, fr, rfl, _⟩ <;> rfl

/-- Another one of the same. -/
theorem copy_c {p m : Nat} {d : D} {F : Nat → Prop} {w : World} (x : DiskAt w.heap p m d F) : Calls Tryz.prog 47 #[.pointer (some ⟨p, 0, none⟩)] w fun e w' =>
    ∃ m', e = .returned (.pointer (some ⟨w.heap.size, 0, none⟩)) ∧ Below w.heap.size w w' ∧ w.heap.size ≤ m' ∧ DiskAt w'.heap w.heap.size m' d (CopyF F w w' w.heap.size m') := by
  obtain ⟨k16, _⟩ := x.cell16
  have ok := x.ok
  obtain ⟨_, t0, t1, t2, t3, ml, l0, l1, l2, l3, wv, stops, after, c1, c2, c3, c4, c5, c6, c7, c8, c9, b0, b1, b2, b3, b4, b5, b6, b7, st⟩ := x
  obtain ⟨es, clock, q1, q2⟩ := c4
  obtain ⟨es2, clock2, q3, q4⟩ := c5
  refine (copy_live p m ml t0 t1 t2 t3 l0 l1 l2 l3 wv d.many d.room d.dead stops after es es2 clock clock2 w k16 c1 q1 q3 (by simp [b0.one, b1.one, b2.one, b3.one]) (by simp [b4.one, b5.one, b6.one, b7.one]) st.one).mono ?_
  rintro e w' ⟨m', ml', rfl, hb, g1, g2, r1, r2, r3⟩
  have keep : ∀ k, F k → k < w.heap.size → w'.heap[k]? = w.heap[k]? := fun k _ hl => hb.block k hl
  have big : ∀ k, F k → k < w.heap.size → CopyF F w w' w.heap.size m' k := fun k h hl => Or.inl ⟨h, hl⟩
  refine ⟨m', rfl, hb, by omega, ok, t0, t1, t2, t3, ml', l0, l1, l2, l3, wv, stops, after, r3, c2, c3, ?_, ?_, Or.inr ⟨by omega, lt_of_row r2, by omega, by omega⟩, ?_, ?_, by omega,
    b0.keeps keep big, b1.keeps keep big, b2.keeps keep big, b3.keeps keep big, b4.keeps keep big, b5.keeps keep big, b6.keeps keep big, b7.keeps keep big, st.keeps keep big⟩
  · exact ⟨es, clock, r1, q2⟩
  · exact ⟨es2, clock2, r2, q4⟩
  · rintro (h | h)
    · omega
    · exact h.2.2.2 rfl
  · rintro (h | h)
    · omega
    · exact h.2.2.1 rfl

end Go.Proofs.YtgffifleflkjoaaGreat

namespace Go.Proofs.YtgffifleflkjoaaGreat
open Go.RowKit Dm

def crashX (c : Crash) (n i : Nat) (s : Step) (x : St) : St := if c.isTorn n i then x.part s c.part else if c.kept i then x.done s else x
def crashE (c : Crash) (n i : Nat) (s : Step) (en : Int → Bool) : Int → Bool := if s.what ≠ 1 then upd en s.n (c.isTorn n i || !c.kept i) else en

theorem crashGo_skip (c : Crash) (n i : Nat) (s : Step) (l : List Step) (x : St) (en : Int → Bool) (h : s.what ≠ 1 ∧ en s.n = true) : crashGo c n (s :: l) i x en = crashGo c n l (i + 1) x en := by
  rw [crashGo, if_pos h]
theorem crashGo_step (c : Crash) (n i : Nat) (s : Step) (l : List Step) (x : St) (en : Int → Bool) (h : ¬ (s.what ≠ 1 ∧ en s.n = true)) : crashGo c n (s :: l) i x en = crashGo c n l (i + 1) (crashX c n i s x) (crashE c n i s en) := by
  rw [crashGo, if_neg h]; rfl

theorem upto_succ {d : D} {i : Nat} {s : Step} (h : d.waits[i]? = some s) : d.upto (i + 1) = (d.upto i).done s := by
  unfold D.upto
  have hl := (List.getElem?_eq_some_iff.1 h).1
  rw [List.take_succ_eq_append_getElem hl, List.foldl_append, (List.getElem?_eq_some_iff.1 h).2]
  rfl

theorem done_tp_sec (x : St) (s : Step) (t : Int) (h : s.what = 1) : (x.done s).tp t = x.tp t := by simp [St.done, h]
theorem done_tp_other (x : St) (s : Step) (t : Int) (h : t ≠ s.n) : (x.done s).tp t = x.tp t := by
  unfold St.done
  split
  · rfl
  · split <;> simp [upd, h]
theorem part_tp_sec (x : St) (s : Step) (t k : Int) (h : s.what = 1) : (x.part s k).tp t = x.tp t := by simp [St.part, St.done, h]
theorem part_tp_other (x : St) (s : Step) (t k : Int) (h : t ≠ s.n) : (x.part s k).tp t = x.tp t := by
  unfold St.part
  split
  · simp [St.done]
  · split
    · simp [St.done, upd, h]
    · rfl
theorem part_pre (x : St) (s : Step) (k : Int) (h : s.what ≠ 1) : (x.part s k).tp s.n <+: (x.done s).tp s.n ∨ (x.part s k).tp s.n = x.tp s.n := by
  by_cases h2 : s.what = 2
  · left
    simp only [St.part, if_neg h, if_pos h2, St.done, upd_same]
    rw [if_neg (by omega), if_pos trivial]
    simp only [upd_same]
    exact List.prefix_append_right_inj _ |>.2 (List.take_prefix _ _)
  · right
    simp [St.part, h, h2]
theorem part_sec {x : St} {s : Step} {many : Int} (hx : ∀ n, (x.sec n).length = 256) (hs : s.ok many) (k : Int) : ∀ n, ((x.part s k).sec n).length = 256 := by
  intro n
  unfold St.part
  split
  · rename_i h1
    have hb : s.b.length = 256 := by
      rcases hs with hs | hs | hs
      · exact hs.2.2.2.2
      · omega
      · omega
    simp only [St.done, if_true, upd]
    split
    · have p1 : 0 ≤ pick k 257 := Int.emod_nonneg _ (by omega)
      have p2 : pick k 257 < 257 := Int.emod_lt_of_pos _ (by omega)
      have := hx s.n
      simp only [List.length_append, List.length_take, List.length_drop]
      omega
    · exact hx n
  · split
    · simp only [St.done]
      simpa using hx n
    · exact hx n

/-- Between two steps of a crash. -/
structure CrInv (d : D) (i : Nat) (x : St) (en : Int → Bool) : Prop where
  tp : ∀ t, en t = false → x.tp t = (d.upto i).tp t
  pre : ∀ t, ∃ k, k ≤ i ∧ x.tp t <+: (d.upto k).tp t
  sec : ∀ n, (x.sec n).length = 256

theorem CrInv.room {d : D} {i : Nat} {x : St} {en : Int → Bool} (h : CrInv d i x en) (hd : d.ok) (t : Int) : (x.tp t).length ≤ d.room := by
  obtain ⟨k, _, hk⟩ := h.pre t
  have := hd.tape k t
  have := hk.length_le
  omega

theorem CrInv.start {d : D} (hd : d.ok) : CrInv d 0 d.lasts (fun _ => false) :=
  ⟨fun t _ => by simp [D.upto], fun t => ⟨0, Nat.le_refl _, by simp [D.upto]⟩, hd.sec⟩

theorem CrInv.skip {d : D} {i : Nat} {x : St} {en : Int → Bool} (h : CrInv d i x en) {s : Step} (hs : d.waits[i]? = some s) (hk : s.what ≠ 1 ∧ en s.n = true) : CrInv d (i + 1) x en := by
  refine ⟨fun t ht => ?_, fun t => ?_, h.sec⟩
  · have hne : t ≠ s.n := fun e => by rw [e, hk.2] at ht; cases ht
    rw [upto_succ hs, done_tp_other _ _ _ hne]
    exact h.tp t ht
  · obtain ⟨k, h1, h2⟩ := h.pre t
    exact ⟨k, by omega, h2⟩

theorem CrInv.step {d : D} (hd : d.ok) {i : Nat} {x : St} {en : Int → Bool} (h : CrInv d i x en) {s : Step} (hs : d.waits[i]? = some s) (c : Crash) (n : Nat) (hk : ¬ (s.what ≠ 1 ∧ en s.n = true)) : CrInv d (i + 1) (crashX c n i s x) (crashE c n i s en) := by
  have ok : s.ok d.many := hd.waits s (List.mem_of_getElem? hs)
  have old : ∀ t, ∃ k, k ≤ i + 1 ∧ x.tp t <+: (d.upto k).tp t := fun t => by
    obtain ⟨k, h1, h2⟩ := h.pre t
    exact ⟨k, by omega, h2⟩
  by_cases h1 : s.what = 1
  · have tpx : ∀ t, (crashX c n i s x).tp t = x.tp t := fun t => by
      unfold crashX
      split
      · exact part_tp_sec _ _ _ _ h1
      · split
        · exact done_tp_sec _ _ _ h1
        · rfl
    have ee : crashE c n i s en = en := by simp [crashE, h1]
    refine ⟨fun t ht => ?_, fun t => ?_, ?_⟩
    · rw [ee] at ht
      rw [tpx, upto_succ hs, done_tp_sec _ _ _ h1]
      exact h.tp t ht
    · rw [tpx]; exact old t
    · unfold crashX
      split
      · exact part_sec h.sec ok _
      · split
        · exact done_sec h.sec ok
        · exact h.sec
  · have hen : en s.n = false := by
      cases he : en s.n
      · rfl
      · exact absurd ⟨h1, he⟩ hk
    have ee : crashE c n i s en = upd en s.n (c.isTorn n i || !c.kept i) := by simp [crashE, h1]
    have tpo : ∀ t, t ≠ s.n → (crashX c n i s x).tp t = x.tp t := fun t ht => by
      unfold crashX
      split
      · exact part_tp_other _ _ _ _ ht
      · split
        · exact done_tp_other _ _ _ ht
        · rfl
    have dn : (x.done s).tp s.n = (d.upto (i + 1)).tp s.n := by
      rw [upto_succ hs]
      have := h.tp s.n hen
      unfold St.done
      rw [if_neg h1, if_neg h1]
      split <;> simp [upd, this]
    refine ⟨fun t ht => ?_, fun t => ?_, ?_⟩
    · rw [ee] at ht
      by_cases e : t = s.n
      · subst e
        rw [upd_same] at ht
        simp only [Bool.or_eq_false_iff, Bool.not_eq_false'] at ht
        unfold crashX
        rw [if_neg (by simp [ht.1]), if_pos ht.2]
        exact dn
      · rw [upd_other _ _ _ _ e] at ht
        rw [tpo t e, upto_succ hs, done_tp_other _ _ _ e]
        exact h.tp t ht
    · by_cases e : t = s.n
      · subst e
        unfold crashX
        split
        · rcases part_pre x s c.part h1 with hp | hp
          · exact ⟨i + 1, Nat.le_refl _, by rw [← dn]; exact hp⟩
          · rw [hp]; exact old _
        · split
          · exact ⟨i + 1, Nat.le_refl _, by rw [dn]; exact List.prefix_refl _⟩
          · exact old _
      · rw [tpo t e]; exact old t
    · unfold crashX
      split
      · exact part_sec h.sec ok _
      · split
        · exact done_sec h.sec ok
        · exact h.sec

/-- What a crash leaves may be. -/
theorem CrInv.all {d : D} (hd : d.ok) (c : Crash) (n : Nat) : ∀ (l : List Step) (i : Nat) (x : St) (en : Int → Bool), d.waits.drop i = l → CrInv d i x en → ∃ en', CrInv d d.waits.length (crashGo c n l i x en) en'
  | [], i, x, en, hl, h => by
    have hi : d.waits.length ≤ i := List.drop_eq_nil_iff.1 hl
    refine ⟨en, fun t ht => ?_, fun t => ?_, h.sec⟩
    · rw [crashGo, h.tp t ht]
      unfold D.upto
      rw [List.take_of_length_le hi, List.take_of_length_le (Nat.le_refl _)]
    · obtain ⟨k, h1, h2⟩ := h.pre t
      rw [crashGo]
      by_cases hk : k ≤ d.waits.length
      · exact ⟨k, hk, h2⟩
      · refine ⟨d.waits.length, Nat.le_refl _, ?_⟩
        unfold D.upto at h2 ⊢
        rw [List.take_of_length_le (by omega)] at h2 ⊢
        exact h2
  | s :: l, i, x, en, hl, h => by
    have hs : d.waits[i]? = some s := by
      have := congrArg (·[0]?) hl
      simpa using this
    have hl' : d.waits.drop (i + 1) = l := by
      rw [← List.drop_drop, hl]; rfl
    by_cases hk : s.what ≠ 1 ∧ en s.n = true
    · rw [crashGo_skip _ _ _ _ _ _ _ hk]
      exact CrInv.all hd c n l (i + 1) x en hl' (h.skip hs hk)
    · rw [crashGo_step _ _ _ _ _ _ _ hk]
      exact CrInv.all hd c n l (i + 1) _ _ hl' (h.step hd hs c n hk)

theorem crash_ok {d : D} (hd : d.ok) (c : Crash) : (d.crash c).ok := by
  obtain ⟨en, h⟩ := CrInv.all hd c d.waits.length d.waits 0 d.lasts (fun _ => false) rfl (CrInv.start hd)
  refine ⟨hd.many0, hd.many1, hd.room0, hd.room1, h.sec, fun k t => ?_, (fun s hs => by cases hs), (by show (-1 : Int) ≤ -1; omega), (by show (-1 : Int) ≤ 9223372036854775807; omega)⟩
  have e : (d.crash c).upto k = (d.crash c).lasts := by unfold D.upto; show List.foldl St.done _ (List.take k []) = _; rw [List.take_nil]; rfl
  rw [e]
  exact h.room hd t

end Go.Proofs.YtgffifleflkjoaaGreat
