/-
  Crash: the walk.
  The law's calls, in memory.
  few, of layer 19's calls.
  evlog: All: the rows, one after another, as they are when one asks.
-/
import Derived.Test.YtgffifleflkjoaaGreatG08
import Derived.Test.YtgffifleflkjoaaGreatG12
import Derived.Test.YtgffifleflkjoaaGreatG18
import Derived.Test.YtgffifleflkjoaaGreatG20
import Derived.Test.YtgffifleflkjoaaGreatG21
import Derived.Test.YtgffifleflkjoaaGreatG22
import Derived.Deep.LoopGhost
import Derived.Deep.CutRange

namespace Go.Proofs.YtgffifleflkjoaaGreat
open Go.RowKit Dm

/-- A slice of truths. -/
def BoolsAt (h : Array Obj) (v : Value) (l : List Bool) : Prop :=
  ((∃ a c, v = .slice a 0 c) ∧ l = []) ∨ ∃ (b o cap : Nat) (c : Array Value) (t : TypeId) (fr : Nat × Nat), v = .slice (some ⟨b, o, none⟩) l.length cap ∧ h[b]? = some (.cells c t fr) ∧ ∀ (i : Nat) (x : Bool), l[i]? = some x → c[o + i]? = some (.bool x)

theorem BoolsAt.slice {h : Array Obj} {v : Value} {l : List Bool} (x : BoolsAt h v l) : ∃ a c, v = .slice a l.length c := by
  rcases x with ⟨⟨_, _, rfl⟩, rfl⟩ | ⟨b, o, cap, c, t, fr, rfl, _⟩
  · exact ⟨_, _, rfl⟩
  · exact ⟨_, _, rfl⟩

abbrev tCrash : Nat := 41
abbrev tB4 : Nat := 110

theorem crash_none (v kv : Value) (tn pt : Int) (w : World) (h : NoneD w v) : Calls Tryz.prog 19 #[v, .agg #[kv, .int .i64 tn, .int .i64 pt]] w fun e w' => e = .returned (.tuple #[.pointer none, .int .i64 1]) ∧ Below w.heap.size w w' := by
  have hb : Below w.heap.size w (w.alloc (.cells #[kv, .int .i64 tn, .int .i64 pt] tCrash)) := (Below.refl _ _).alloc (Nat.le_refl _) _
  have H := Lib.hid (h.below hb)
  clear h
  go_enter Tryz.func19, Tryz.ntmps19
  go_wp2_with (go_at_call 45; refine (none_c H.out).mono ?_; rintro e w' ⟨rfl, rfl⟩)
  go_ret2
  exact ⟨rfl, hb⟩

/-- The blocks that a crash may share with the disk, and its own. -/
def CrF (F : Nat → Prop) (w : World) (q mq e0 : Nat) : Nat → Prop := fun k => (F k ∧ k < w.heap.size) ∨ (w.heap.size ≤ k ∧ k ≠ q ∧ k ≠ mq ∧ k ≠ e0)

/-- Between two steps of a crash, in memory. -/
structure CrSt (w W : World) (F : Nat → Prop) (kv : Value) (c : Crash) (q mq e0 : Nat) (x : St) (en : Int → Bool) : Prop where
  below : Below w.heap.size w W
  hq : w.heap.size ≤ q
  hmq : w.heap.size ≤ mq
  he0 : w.heap.size ≤ e0
  ne1 : mq ≠ q
  ne2 : e0 ≠ q
  ne3 : e0 ≠ mq
  nb : w.heap.size ≠ q ∧ w.heap.size ≠ mq ∧ w.heap.size ≠ e0
  box : W.heap[w.heap.size]? = some (.cells #[kv, .int .i64 c.torn, .int .i64 c.part] tCrash (0, 0))
  stand : StandAt W.heap q mq x (CrF F w q mq e0) tStand []
  ends : W.heap[e0]? = some (.cells #[.bool (en 0), .bool (en 1), .bool (en 2), .bool (en 3)] tB4 (0, 0))

theorem CrSt.next {w W W' : World} {F : Nat → Prop} {kv : Value} {c : Crash} {q mq e0 : Nat} {x : St} {en : Int → Bool} (h : CrSt w W F kv c q mq e0 x en) (hb : Below W.heap.size W W') : CrSt w W' F kv c q mq e0 x en := by
  have hs := h.below.size
  refine ⟨h.below.trans (hb.mono hs), h.hq, h.hmq, h.he0, h.ne1, h.ne2, h.ne3, h.nb, (hb.block _ (lt_of_row h.box)).trans h.box, ?_, (hb.block _ (lt_of_row h.ends)).trans h.ends⟩
  obtain ⟨t0, t1, t2, t3, c1, c2, b0, b1, b2, b3, n1, n2, n3⟩ := h.stand
  have keep : ∀ k, CrF F w q mq e0 k → k < W.heap.size → W'.heap[k]? = W.heap[k]? := fun k _ hl => hb.block k hl
  have big : ∀ k, CrF F w q mq e0 k → k < W.heap.size → CrF F w q mq e0 k := fun _ h _ => h
  have lm : mq < W.heap.size := by obtain ⟨es, cl, g, _⟩ := c2; exact lt_of_row g
  exact ⟨t0, t1, t2, t3, (hb.block _ (lt_of_row c1)).trans c1, c2.stays (hb.block _ lm), b0.keeps keep big, b1.keeps keep big, b2.keeps keep big, b3.keeps keep big, n1, n2, n3⟩

/-- What stands has turned. -/
theorem CrSt.did {w W W' : World} {F : Nat → Prop} {kv : Value} {c : Crash} {q mq e0 : Nat} {x x' : St} {en : Int → Bool} {e : Ending} (h : CrSt w W F kv c q mq e0 x en) (hd : Did W q mq x' (CrF F w q mq e0) tStand [] e W') : CrSt w W' F kv c q mq e0 x' en := by
  have hs := h.below.size
  have hm := hd.moves
  have lq : q < W.heap.size := by obtain ⟨t0, t1, t2, t3, c1, _⟩ := h.stand; exact lt_of_row c1
  have lm : mq < W.heap.size := by obtain ⟨t0, t1, t2, t3, c1, ⟨es, cl, g, _⟩, _⟩ := h.stand; exact lt_of_row g
  have le := lt_of_row h.ends
  have hq := h.hq
  have hmq := h.hmq
  have nb := h.nb
  have ne2 := h.ne2
  have ne3 := h.ne3
  refine ⟨⟨hm.os.trans h.below.os, hm.tape.trans h.below.tape, hm.output.trans h.below.output, by have := hm.size; omega, fun k hk => (hm.block k (by omega) (by omega)).trans (h.below.block k hk)⟩, h.hq, h.hmq, h.he0, h.ne1, h.ne2, h.ne3, h.nb,
    (hm.block _ (lt_of_row h.box) (by omega)).trans h.box, ?_, (hm.block _ le (by omega)).trans h.ends⟩
  refine hd.stand.weak (fun k hk hl => ?_) ?_ ?_
  · rcases hk with hk | hk
    · exact hk
    · exact Or.inr ⟨by omega, by omega, by omega, by omega⟩
  · rintro (h | h)
    · omega
    · exact h.2.1 rfl
  · rintro (h | h)
    · omega
    · exact h.2.2.1 rfl

/-- One of the ends is told. -/
theorem CrSt.endAt {w W : World} {F : Nat → Prop} {kv : Value} {c : Crash} {q mq e0 : Nat} {x : St} {en : Int → Bool} (h : CrSt w W F kv c q mq e0 x en) (t : Nat) (ht : t < 4) : W.cell? ⟨e0, t, none⟩ = some (.bool (en t)) := by
  obtain rfl | rfl | rfl | rfl : t = 0 ∨ t = 1 ∨ t = 2 ∨ t = 3 := by omega
  all_goals exact row_cell h.ends rfl

theorem CrSt.endSet {w W : World} {F : Nat → Prop} {kv : Value} {c : Crash} {q mq e0 : Nat} {x : St} {en : Int → Bool} (h : CrSt w W F kv c q mq e0 x en) (t : Nat) (ht : t < 4) (b : Bool) : CrSt w (W.setCell ⟨e0, t, none⟩ (.bool b)) F kv c q mq e0 x (upd en t b) := by
  have ho : ∀ k, k ≠ e0 → (W.setCell ⟨e0, t, none⟩ (.bool b)).heap[k]? = W.heap[k]? := fun k hk => heap_setCell_other W _ k _ hk
  have he0 := h.he0
  have nb := h.nb
  refine ⟨⟨h.below.os, h.below.tape, h.below.output, by simpa using h.below.size, fun k hk => (ho k (by omega)).trans (h.below.block k hk)⟩, h.hq, h.hmq, h.he0, h.ne1, h.ne2, h.ne3, h.nb, (ho _ nb.2.2).trans h.box, ?_, ?_⟩
  · obtain ⟨t0, t1, t2, t3, c1, c2, b0, b1, b2, b3, n1, n2, n3⟩ := h.stand
    have keep : ∀ k, CrF F w q mq e0 k → k < W.heap.size → (W.setCell ⟨e0, t, none⟩ (.bool b)).heap[k]? = W.heap[k]? := fun k hk hl => ho k (fun e => by
      subst e
      rcases hk with hk | hk
      · omega
      · exact hk.2.2.2 rfl)
    have big : ∀ k, CrF F w q mq e0 k → k < W.heap.size → CrF F w q mq e0 k := fun _ h _ => h
    exact ⟨t0, t1, t2, t3, (ho _ h.ne2.symm).trans c1, c2.stays (ho _ h.ne3.symm), b0.keeps keep big, b1.keeps keep big, b2.keeps keep big, b3.keeps keep big, n1, n2, n3⟩
  · rw [heap_setCell_same W e0 t _ _ _ h.ends]
    obtain rfl | rfl | rfl | rfl : t = 0 ∨ t = 1 ∨ t = 2 ∨ t = 3 := by omega
    all_goals simp [upd]

theorem StepsAt.slice {h : Array Obj} {F : Nat → Prop} {v : Value} {l : List Step} (x : StepsAt h F v l) : ∃ a c, v = .slice a l.length c ∧ l.length ≤ c ∧ (a = none → l = []) := by
  rcases x with ⟨rfl, rfl⟩ | ⟨b, o, cap, c, t, fr, rfl, h, _⟩
  · exact ⟨_, _, rfl, Nat.le_refl _, fun _ => rfl⟩
  · exact ⟨_, _, rfl, h, fun h => by cases h⟩

abbrev crBox (w : World) (kv : Value) (c : Crash) : World := w.alloc (.cells #[kv, .int .i64 c.torn, .int .i64 c.part] tCrash)

theorem crash_start {w W1 W2 : World} {F : Nat → Prop} {kv : Value} {c : Crash} {d : D} {l0 l1 l2 l3 : Value} {ml : Nat} {es2 : Array MapEntry} {clock2 : Nat} (hm : SecMap w.heap ml d.lasts.sec) (hml : w.heap[ml]? = some (.map es2 clock2)) (b0 : BytesAt w.heap F l0 (d.lasts.tp 0)) (b1 : BytesAt w.heap F l1 (d.lasts.tp 1)) (b2 : BytesAt w.heap F l2 (d.lasts.tp 2)) (b3 : BytesAt w.heap F l3 (d.lasts.tp 3))
    (hb1 : Below (crBox w kv c).heap.size (crBox w kv c) W1) (r1 : W1.heap[w.heap.size + 1 + 1]? = some (.map es2 clock2)) (HW : W2.heap[W1.heap.size]? = some (.cells #[.map (some (w.heap.size + 1 + 1)), l0, l1, l2, l3] tStand (0, 0)))
    (HM : Moves (fun k => k = W1.heap.size) (W1.alloc (.cells stand0 tStand)) W2) (HS : W2.heap.size = (W1.alloc (.cells stand0 tStand)).heap.size) :
    CrSt w (W2.alloc (.cells #[.bool false, .bool false, .bool false, .bool false] tB4)) F kv c W1.heap.size (w.heap.size + 1 + 1) W2.heap.size d.lasts (fun _ => false) ∧ W2.heap.size = W1.heap.size + 1 := by
  have z1 := lt_of_row r1
  have z2 : W2.heap.size = W1.heap.size + 1 := by rw [HS]; simp
  have zb : (crBox w kv c).heap.size = w.heap.size + 1 := by simp
  have hbw : Below w.heap.size w W1 := ((Below.refl _ _).alloc (Nat.le_refl _) _).trans (hb1.mono (by simp))
  have hb2 : Below w.heap.size w W2 := Moves.new (hbw.alloc (by omega) _) HM (by omega)
  have hb3 : Below w.heap.size w (W2.alloc (.cells #[.bool false, .bool false, .bool false, .bool false] tB4)) := hb2.alloc (by omega) _
  have up : ∀ k o, k ≠ W1.heap.size → k < W1.heap.size → W1.heap[k]? = some o → (W2.alloc (.cells #[.bool false, .bool false, .bool false, .bool false] tB4)).heap[k]? = some o := fun k o h1 h2 h3 =>
    heap_past (by omega) ((HM.block k (by simp; omega) h1).trans (heap_past h2 h3))
  refine ⟨⟨hb3, by omega, by omega, by omega, by omega, by omega, by omega, ⟨by omega, by omega, by omega⟩, ?_, ?_, heap_alloc_last _ _⟩, z2⟩
  · exact up _ _ (by omega) (by omega) ((hb1.block _ (by simp)).trans (heap_alloc_last w _))
  · have keep : ∀ k, F k → k < w.heap.size → (W2.alloc (.cells #[.bool false, .bool false, .bool false, .bool false] tB4)).heap[k]? = w.heap[k]? := fun k _ hl => hb3.block k hl
    have big : ∀ k, F k → k < w.heap.size → CrF F w W1.heap.size (w.heap.size + 1 + 1) W2.heap.size k := fun k h hl => Or.inl ⟨h, hl⟩
    refine ⟨l0, l1, l2, l3, heap_past (by omega) HW, hm.other hml (up _ _ (by omega) z1 r1), b0.keeps keep big, b1.keeps keep big, b2.keeps keep big, b3.keeps keep big, ?_, ?_, by omega⟩
    · rintro (h | h)
      · omega
      · exact h.2.2.1 rfl
    · rintro (h | h)
      · omega
      · exact h.2.1 rfl

/-- The relation of the loop. -/
def CrRel (w : World) (d : D) (F : Nat → Prop) (kv : Value) (c : Crash) (q mq e0 : Nat) (k : Nat) (W : World) : Prop :=
  ∃ x en, CrSt w W F kv c q mq e0 x en ∧ CrInv d k x en ∧ crashGo c d.waits.length (d.waits.drop k) k x en = crashGo c d.waits.length d.waits 0 d.lasts (fun _ => false)

theorem CrRel.next {w : World} {d : D} {F : Nat → Prop} {kv : Value} {c : Crash} {q mq e0 k : Nat} {W : World} {x : St} {en : Int → Bool} {s : Step} (ok : d.ok) (inv : CrInv d k x en) (eqn : crashGo c d.waits.length (d.waits.drop k) k x en = crashGo c d.waits.length d.waits 0 d.lasts (fun _ => false))
    (hs : d.waits[k]? = some s) (hk : ¬ (s.what ≠ 1 ∧ en s.n = true)) {x' : St} {en' : Int → Bool} (cs : CrSt w W F kv c q mq e0 x' en') (hx : x' = crashX c d.waits.length k s x) (he : en' = crashE c d.waits.length k s en) : CrRel w d F kv c q mq e0 (k + 1) W := by
  subst hx; subst he
  refine ⟨_, _, cs, inv.step ok hs c _ hk, ?_⟩
  obtain ⟨hlt, e⟩ := List.getElem?_eq_some_iff.1 hs
  rw [← eqn, List.drop_eq_getElem_cons hlt, e, crashGo_step _ _ _ _ _ _ _ hk]

/-- What a crash hands back. -/
def CrashPost (w : World) (F : Nat → Prop) (d' : D) (e : Ending) (w' : World) : Prop :=
  ∃ p' m' F', e = .returned (.tuple #[.pointer (some ⟨p', 0, none⟩), .int .i64 0]) ∧ Below w.heap.size w w' ∧ w.heap.size ≤ p' ∧ w.heap.size ≤ m' ∧ DiskAt w'.heap p' m' d' F' ∧ ∀ k, F' k → (F k ∧ k < w.heap.size) ∨ (w.heap.size ≤ k ∧ k < w'.heap.size)

theorem crash_end {w wr W9 : World} {d : D} {F : Nat → Prop} {kv : Value} {c : Crash} {q mq e0 : Nat} {x : St} {en : Int → Bool} {u0 u1 u2 u3 : Value} {es : Array MapEntry} {clock : Nat} (ok : d.ok) (cs : CrSt w wr F kv c q mq e0 x en) (inv : CrInv d d.waits.length x en)
    (eqn : x = crashGo c d.waits.length d.waits 0 d.lasts (fun _ => false)) (r1 : wr.heap[q]? = some (.cells [.map (some mq), u0, u1, u2, u3].toArray tStand (0, 0))) (r2 : SecMap wr.heap mq x.sec) (r3 : wr.heap[mq]? = some (.map es clock))
    (v0 : BytesAt wr.heap (CrF F w q mq e0) u0 (x.tp 0)) (v1 : BytesAt wr.heap (CrF F w q mq e0) u1 (x.tp 1)) (v2 : BytesAt wr.heap (CrF F w q mq e0) u2 (x.tp 2)) (v3 : BytesAt wr.heap (CrF F w q mq e0) u3 (x.tp 3))
    (hb : Below wr.heap.size wr W9) (r9 : W9.heap[wr.drew.heap.size + 1]? = some (.map es clock)) :
    CrashPost w F (d.crash c) (.returned (.tuple #[.pointer (some ⟨W9.heap.size, 0, none⟩), .int .i64 0])) (W9.alloc (.cells (diskC mq u0 u1 u2 u3 (wr.heap.size + 1) u0 u1 u2 u3 (.slice none 0 0) d.many d.room false false 0) tDisk)) := by
  have r9' : W9.heap[wr.heap.size + 1]? = some (.map es clock) := r9
  have z9 := lt_of_row r9'
  have zq := lt_of_row r1
  have zm := lt_of_row r3
  have hz := cs.below.size
  have hmq := cs.hmq
  have hq := cs.hq
  have hb' : Below w.heap.size w (W9.alloc (.cells (diskC mq u0 u1 u2 u3 (wr.heap.size + 1) u0 u1 u2 u3 (.slice none 0 0) d.many d.room false false 0) tDisk)) := (cs.below.trans (hb.mono hz)).alloc (by omega) _
  have hx : (d.crash c).lasts = x := eqn.symm
  have hst : (d.crash c).stand = x := eqn.symm
  have sz : (W9.alloc (.cells (diskC mq u0 u1 u2 u3 (wr.heap.size + 1) u0 u1 u2 u3 (.slice none 0 0) d.many d.room false false 0) tDisk)).heap.size = W9.heap.size + 1 := by simp
  refine ⟨W9.heap.size, mq, fun k => (F k ∧ k < w.heap.size) ∨ (w.heap.size ≤ k ∧ k < W9.heap.size ∧ k ≠ mq), rfl, hb', by omega, hmq, ?_, fun k hk => ?_⟩
  · have keep : ∀ k, CrF F w q mq e0 k → k < wr.heap.size → (W9.alloc (.cells (diskC mq u0 u1 u2 u3 (wr.heap.size + 1) u0 u1 u2 u3 (.slice none 0 0) d.many d.room false false 0) tDisk)).heap[k]? = wr.heap[k]? := fun k _ hl => (heap_old_own _ _ _ (by omega)).trans (hb.block k hl)
    have big : ∀ k, CrF F w q mq e0 k → k < wr.heap.size → ((F k ∧ k < w.heap.size) ∨ (w.heap.size ≤ k ∧ k < W9.heap.size ∧ k ≠ mq)) := fun k hk hl => by
      rcases hk with hk | hk
      · exact Or.inl hk
      · exact Or.inr ⟨hk.1, by omega, hk.2.2.1⟩
    have rm : (W9.alloc (.cells (diskC mq u0 u1 u2 u3 (wr.heap.size + 1) u0 u1 u2 u3 (.slice none 0 0) d.many d.room false false 0) tDisk)).heap[mq]? = some (.map es clock) := heap_past (by omega) ((hb.block _ zm).trans r3)
    refine ⟨crash_ok ok c, u0, u1, u2, u3, wr.heap.size + 1, u0, u1, u2, u3, .slice none 0 0, false, 0, heap_alloc_last _ _, rfl, (fun h => by cases h), ?_, ?_, Or.inr ⟨by omega, z9, by omega⟩, ?_, ?_, by omega, ?_, ?_, ?_, ?_, ?_, ?_, ?_, ?_, Or.inl ⟨rfl, rfl⟩⟩
    · rw [hst]; exact r2.other r3 rm
    · rw [hx]; exact r2.other r3 (heap_past z9 r9')
    · rintro (h | h)
      · omega
      · exact h.2.2 rfl
    · rintro (h | h)
      · omega
      · omega
    · rw [hst]; exact v0.keeps keep big
    · rw [hst]; exact v1.keeps keep big
    · rw [hst]; exact v2.keeps keep big
    · rw [hst]; exact v3.keeps keep big
    · rw [hx]; exact v0.keeps keep big
    · rw [hx]; exact v1.keeps keep big
    · rw [hx]; exact v2.keeps keep big
    · rw [hx]; exact v3.keeps keep big
  · rcases hk with hk | hk
    · exact Or.inl hk
    · exact Or.inr ⟨hk.1, by rw [sz]; omega⟩

end Go.Proofs.YtgffifleflkjoaaGreat

namespace Go.Proofs.YtgffifleflkjoaaGreat
open Go.RowKit Dm

abbrev tAct : Nat := 43
abbrev tActs : Nat := 37

theorem infoAct : (Tryz.prog.info? tAct).map (fun i => (i.zero, i.size, i.bytes)) = some (some (.agg #[.int .i64 0, .slice none 0 0, .int .i64 0, .slice none 0 0, .int .i64 0, .int .i64 0]), 6, 80) := by kernel_rfl

/-- A call, and the values of its two slices. -/
abbrev ActQ := Em.ActE × Value × Value
def actCells (q : ActQ) : List Value := [.int .i64 q.1.what, q.2.1, .int .i64 q.1.n, q.2.2, .int .i64 q.1.crash.torn, .int .i64 q.1.crash.part]

def i64' (n : Int) : Prop := -9223372036854775808 ≤ n ∧ n ≤ 9223372036854775807

structure ActIs (w : World) (q : ActQ) : Prop where
  l : ChangesAt w (fun _ => True) q.2.1 q.1.l
  keep : BoolsAt w.heap q.2.2 q.1.crash.keep
  what : i64' q.1.what
  n : i64' q.1.n
  torn : i64' q.1.crash.torn
  part : i64' q.1.crash.part
  llen : q.1.l.length ≤ 9223372036854775807
  klen : q.1.crash.keep.length ≤ 9223372036854775807

/-- A slice of calls. -/
def ActsIn (w : World) (v : Value) (Q : List ActQ) : Prop :=
  ((v = .slice none 0 0 ∨ ∃ ad c, v = .slice (some ad) 0 c) ∧ Q = []) ∨ ∃ (b o cap : Nat) (cs : Array Value) (t : TypeId) (fr : Nat × Nat), v = .slice (some ⟨b, o, none⟩) Q.length cap ∧ w.heap[b]? = some (.cells cs t fr) ∧
    ∀ (i : Nat) (q : ActQ), Q[i]? = some q → ActIs w q ∧ ∀ (j : Nat) u, (actCells q)[j]? = some u → cs[o + i * 6 + j]? = some u

theorem ActsIn.slice {w : World} {v : Value} {Q : List ActQ} (h : ActsIn w v Q) : ∃ a c, v = .slice a Q.length c := by
  rcases h with ⟨rfl | ⟨_, _, rfl⟩, rfl⟩ | ⟨b, o, cap, cs, t, fr, rfl, _⟩
  · exact ⟨_, _, rfl⟩
  · exact ⟨_, _, rfl⟩
  · exact ⟨_, _, rfl⟩

theorem BoolsAt.later {w w' : World} {v : Value} {l : List Bool} (x : BoolsAt w.heap v l) (hb : Below w.heap.size w w') : BoolsAt w'.heap v l := by
  rcases x with x | ⟨b, o, cap, c, t, fr, h1, h2, h3⟩
  · exact Or.inl x
  · exact Or.inr ⟨b, o, cap, c, t, fr, h1, (hb.block b (lt_of_row h2)).trans h2, h3⟩

theorem ActIs.later {w w' : World} {q : ActQ} (h : ActIs w q) (hb : Below w.heap.size w w') : ActIs w' q :=
  ⟨h.l.later hb, h.keep.later hb, h.what, h.n, h.torn, h.part, h.llen, h.klen⟩

theorem ActsIn.later {w w' : World} {v : Value} {Q : List ActQ} (h : ActsIn w v Q) (hb : Below w.heap.size w w') : ActsIn w' v Q := by
  rcases h with h | ⟨b, o, cap, cs, t, fr, h1, h2, h3⟩
  · exact Or.inl h
  · exact Or.inr ⟨b, o, cap, cs, t, fr, h1, (hb.block b (lt_of_row h2)).trans h2, fun i q hi => ⟨(h3 i q hi).1.later hb, (h3 i q hi).2⟩⟩

theorem ActsIn.at {w : World} {a : Option Addr} {n cap : Nat} {Q : List ActQ} (h : ActsIn w (.slice a n cap) Q) {i : Nat} {q : ActQ} (hi : Q[i]? = some q) :
    ∃ b o, a = some ⟨b, o, none⟩ ∧ b < w.heap.size ∧ w.rangeAt b (o + i * 6) (actCells q) ∧ ActIs w q := by
  rcases h with ⟨_, rfl⟩ | ⟨b, o, cap', cs, t, fr, h1, h5, h6⟩
  · simp at hi
  · cases h1
    obtain ⟨g1, g2⟩ := h6 i q hi
    exact ⟨b, o, rfl, lt_of_row h5, fun j v hj => (cell_of_row _ _ _ _ _ _ h5).trans (g2 j v hj), g1⟩

abbrev cellsA (Q : List ActQ) : List Value := Q.flatMap actCells

theorem cellsA_len (Q : List ActQ) : (cellsA Q).length = Q.length * 6 := by
  induction Q with
  | nil => rfl
  | cons c l ih => rw [cellsA, List.flatMap_cons, List.length_append, List.length_cons]; have := ih; simp only [cellsA] at this; rw [this]; simp [actCells]; omega

theorem cellsA_at : ∀ (l : List ActQ) (i : Nat) (q : ActQ), l[i]? = some q → ∀ j v, (actCells q)[j]? = some v → (cellsA l)[i * 6 + j]? = some v := by
  intro l
  induction l with
  | nil => intro i c hi; simp at hi
  | cons x l ih =>
    intro i c hi j v hj
    rw [cellsA, List.flatMap_cons]
    cases i with
    | zero =>
      simp only [List.getElem?_cons_zero, Option.some.injEq] at hi
      subst hi
      have hlt : j < 6 := by
        have := (List.getElem?_eq_some_iff.1 hj).1
        simpa [actCells] using this
      rw [List.getElem?_append_left (by simp [actCells]; omega)]
      simpa using hj
    | succ i =>
      rw [List.getElem?_append_right (by simp [actCells]; omega)]
      have := ih i c (by simpa using hi) j v hj
      rw [show (i + 1) * 6 + j - (actCells x).length = i * 6 + j by simp [actCells]; omega]
      exact this

theorem cellsA_of : ∀ (l : List ActQ) (k : Nat) (u : Value), (cellsA l)[k]? = some u → ∃ i q j, l[i]? = some q ∧ (actCells q)[j]? = some u ∧ k = i * 6 + j := by
  intro l k u hu
  have hk := (List.getElem?_eq_some_iff.1 hu).1
  rw [cellsA_len] at hk
  have hi : k / 6 < l.length := by omega
  obtain ⟨q, hq⟩ : ∃ q, l[k / 6]? = some q := ⟨_, List.getElem?_eq_getElem hi⟩
  obtain ⟨v, hv⟩ : ∃ v, (actCells q)[k % 6]? = some v := ⟨_, List.getElem?_eq_getElem (show k % 6 < (actCells q).length by simp [actCells]; omega)⟩
  have e := cellsA_at l (k / 6) q hq (k % 6) v hv
  rw [show k / 6 * 6 + k % 6 = k by omega] at e
  rw [e] at hu
  cases hu
  exact ⟨k / 6, q, k % 6, hq, hv, by omega⟩

theorem actCells_one {w : World} {q : ActQ} (h : ActIs w q) : ∀ u ∈ actCells q, u.oneCell' = true := by
  intro u hu
  obtain ⟨a, c, e⟩ := h.l.slice
  obtain ⟨a', c', e'⟩ := h.keep.slice
  simp only [actCells, List.mem_cons, List.not_mem_nil, or_false, e, e'] at hu
  rcases hu with rfl | rfl | rfl | rfl | rfl | rfl <;> rfl

theorem ActsIn.src {w : World} {v : Value} {Q : List ActQ} (h : ActsIn w v Q) : SrcAt w 6 v Q.length (cellsA Q) := by
  rcases h with ⟨rfl | ⟨ad, c, rfl⟩, rfl⟩ | ⟨b, o, cap, cs, t, fr, rfl, h2, h3⟩
  · exact Or.inl ⟨rfl, rfl, rfl⟩
  · exact Or.inr ⟨ad, c, rfl, rfl, fun j u hj => by simp at hj, fun u hu => by simp at hu⟩
  · refine Or.inr ⟨⟨b, o, none⟩, cap, rfl, cellsA_len Q, fun k u hk => ?_, fun u hu => ?_⟩
    · obtain ⟨i, q, j, hi, hj, rfl⟩ := cellsA_of Q k u hk
      rw [addr_add, cell_of_row _ _ _ _ _ _ h2, ← Nat.add_assoc]
      exact (h3 i q hi).2 j u hj
    · obtain ⟨q, hq, hu⟩ := List.mem_flatMap.1 hu
      obtain ⟨i, hi⟩ := List.mem_iff_getElem?.1 hq
      exact actCells_one (h3 i q hi).1 u hu

/-- Calls of one's own. -/
abbrev OwnA (w : World) (base : Nat) (v : Value) (Q : List ActQ) : Prop := w.ownsRow base tAct 6 v Q.length (cellsA Q)

theorem OwnA.acts {w : World} {base : Nat} {v : Value} {Q : List ActQ} (h : OwnA w base v Q) (hq : ∀ q ∈ Q, ActIs w q) : ActsIn w v Q := by
  rcases h.2 with ⟨h1, h2⟩ | ⟨g, cap, cur, h1, h2, h3, h4, h5, h6, h7⟩
  · exact Or.inl ⟨Or.inl h1, List.eq_nil_of_length_eq_zero h2⟩
  · refine Or.inr ⟨g, 0, cap, cur, tAct, (0, 0), h1, h3, fun i q hi => ⟨hq q (List.mem_of_getElem? hi), fun j u hj => ?_⟩⟩
    have hlt := (List.getElem?_eq_some_iff.1 hi).1
    have hjl : j < 6 := by
      have := (List.getElem?_eq_some_iff.1 hj).1
      simpa [actCells] using this
    have := cellsA_at Q i q hi j u hj
    rw [← h7, List.getElem?_take, if_pos (by omega)] at this
    rw [Nat.zero_add]
    simpa using this

theorem own_noacts (w : World) : OwnA (w.alloc (.cells #[] tAct)) w.heap.size (.slice (some ⟨w.heap.size, 0, none⟩) 0 0) [] :=
  ⟨rfl, Or.inr ⟨w.heap.size, 0, #[], rfl, Nat.le_refl _, heap_alloc_last _ _, Nat.le_refl _, Nat.zero_le _, rfl, rfl⟩⟩

theorem wpList_append_acts {ops : Array Oper} {rest : List Oper} {o : Oper} {a : Act} {w : World} {Q : Exit → Act → World → Prop} (hgd : o.guard = none) (s x : Operand)
    (ho : o.op = .call { callee := .builtin .append, args := #[s, x], argTypes := #[tActs, tActs] })
    (B base : Nat) (w0 : World) (hb : Below B w0 w) (hB : B ≤ base) (v : Value) (l1 : List ActQ) (hs : a.eval s = v) (hown : OwnA w base v l1)
    (v2 : Value) (l2 : List ActQ) (hx : a.eval x = v2) (hsrc : SrcAt w 6 v2 l2.length (cellsA l2))
    (hl : (l1.length + l2.length) * 80 ≤ 140737488355328) (hbase : base ≤ w.heap.size)
    (h : ∀ v' w', Hid (OwnA w' base v' (l1 ++ l2)) → Hid (Below B w0 w') → wpList Tryz.prog ops Q rest (a.put o.dst v') w') : wpList Tryz.prog ops Q (o :: rest) a w := by
  refine wpList_append_row hgd s x tActs ho B base w0 hb hB tAct _ 6 80 Tryz.underlying37 infoAct rfl (by decide) v l1.length (cellsA l1) hs hown v2 l2.length (cellsA l2) hx hsrc (by unfold maxLen; omega) hl hbase ?_
  intro v' w' ho' h1 h2
  refine h v' w' ?_ (Lib.hid h1)
  have := ho'.out
  refine Lib.hid ?_
  unfold OwnA cellsA
  rw [List.length_append, List.flatMap_append]
  exact this

end Go.Proofs.YtgffifleflkjoaaGreat

namespace Go.Proofs.YtgffifleflkjoaaGreat
open Go.RowKit Dm

theorem few_bad {L : List Em.ActE} {x : Em.ActE} {most : Int} (hx : x ∈ L) (h : x.small = false) : Em.fewE L most = false := by
  have : L.all Em.ActE.small = false := by
    rw [Bool.eq_false_iff]
    intro h2
    have := List.all_eq_true.1 h2 x hx
    rw [h] at this
    cases this
  simp [Em.fewE, this]

theorem small_no {x : Em.ActE} (h : 70 < x.l.length ∨ 40 < x.crash.keep.length ∨ ∃ c ∈ x.l, 70 < c.key.length ∨ 200 < c.value.length) : x.small = false := by
  rw [Bool.eq_false_iff]
  intro h2
  obtain ⟨h3, h4, h5⟩ := Em.ActE.small_of h2
  rcases h with h | h | ⟨c, hc, h⟩
  · omega
  · omega
  · have := h5 c hc; omega

set_option maxRecDepth 100000 in
set_option maxHeartbeats 2000000 in
theorem few19_c {v : Value} {Q : List ActQ} {w : World} (hv : ActsIn w v Q) (most : Int) (hl : Q.length ≤ 9223372036854775807) :
    Calls Tryz.prog 13 #[v, .int .i64 most] w fun e w' => e = .returned (.bool (Em.fewE (Q.map (·.1)) most)) ∧ w = w' := by
  obtain ⟨va, vc, rfl⟩ := hv.slice
  have AT := Lib.hid (fun (i : Nat) (q : ActQ) (hi : Q[i]? = some q) => hv.at hi)
  have hl1 : (Q.length : Int) ≤ 9223372036854775807 := by omega
  clear hv
  generalize hn : Q.length = n at *
  have HN := Lib.hid hn
  clear hn
  go_enter Tryz.func13, Tryz.ntmps13
  go_wp2
  go_loop [5] (fun i => ∃ k : Nat, k ≤ n ∧ i = .int .i64 (k : Int) ∧ ∀ (j : Nat) (x : ActQ), j < k → Q[j]? = some x → x.1.small = true) (fun i => n - (intOf i).toNat)
  case atStart => exact ⟨0, Nat.zero_le _, rfl, fun j x hj => absurd hj (by omega)⟩
  case round =>
    obtain ⟨k, hk, rfl, hall⟩ := hrel
    by_cases hlt : k < n
    · obtain ⟨⟨x, lv, kv⟩, hq⟩ : ∃ q, Q[k]? = some q := ⟨_, List.getElem?_eq_getElem (by rw [HN.out]; exact hlt)⟩
      obtain ⟨b, o, rfl, lb, rg, is⟩ := AT.out k _ hq
      obtain ⟨la, lc, e1⟩ := is.l.slice
      obtain ⟨ka, kc, e2⟩ := is.keep.slice
      simp only at e1 e2
      subst e1
      subst e2
      have k1 : w.cell? ⟨b, o + k * 6 + 1, none⟩ = some (.slice la x.l.length lc) := rg 1 _ rfl
      have k3 : w.cell? ⟨b, o + k * 6 + 3, none⟩ = some (.slice ka x.crash.keep.length kc) := rg 3 _ rfl
      have isl : ChangesAt w (fun _ => True) (.slice la x.l.length lc) x.l := is.l
      have CH := Lib.hid (fun (j : Nat) (c : Em.Change) (hc : x.l[j]? = some c) => isl.at hc)
      have hb1 : x.l.length ≤ 9223372036854775807 := is.llen
      have hb2 : x.crash.keep.length ≤ 9223372036854775807 := is.klen
      have i0 : (0 : Int) ≤ (k : Int) := by omega
      have i1 : (k : Int) < (n : Int) := by omega
      have MEM := Lib.hid (show x ∈ Q.map (·.1) from List.mem_map.2 ⟨_, List.mem_of_getElem? hq, rfl⟩)
      have HQ := Lib.hid (And.intro hq hall)
      clear hq hall rg is isl lb
      generalize hbl : x.l.length = bl at *
      generalize hkk : x.crash.keep.length = kl at *
      have HB := Lib.hid (And.intro hbl hkk)
      clear hbl hkk
      by_cases h1 : 70 < bl
      · have d1 : (70 : Int) < (bl : Int) := by omega
        have BAD := Lib.hid (few_bad (most := most) MEM.out (small_no (Or.inl (by rw [HB.out.1]; exact h1))))
        clear h1
        go_wp2
        go_ret
        exact ⟨by rw [BAD.out]; rfl, rfl⟩
      · have d1 : ¬ (70 : Int) < (bl : Int) := by omega
        by_cases h2 : 40 < kl
        · have d2 : (40 : Int) < (kl : Int) := by omega
          have BAD := Lib.hid (few_bad (most := most) MEM.out (small_no (Or.inr (Or.inl (by rw [HB.out.2]; exact h2)))))
          clear h1 h2
          go_wp2
          go_ret
          exact ⟨by rw [BAD.out]; rfl, rfl⟩
        · have d2 : ¬ (40 : Int) < (kl : Int) := by omega
          go_wp2
          go_loop [6] (fun i => ∃ j : Nat, j ≤ bl ∧ i = .int .i64 (j : Int) ∧ ∀ (m : Nat) (c : Em.Change), m < j → x.l[m]? = some c → c.tiny = true) (fun i => bl - (intOf i).toNat)
          case atStart => exact ⟨0, Nat.zero_le _, rfl, fun j x hj => absurd hj (by omega)⟩
          case round =>
            obtain ⟨j, hj, rfl, htiny⟩ := hrel
            by_cases hjl : j < bl
            · obtain ⟨c, hc⟩ : ∃ c, x.l[j]? = some c := ⟨_, List.getElem?_eq_getElem (by rw [HB.out.1]; exact hjl)⟩
              obtain ⟨b2, o2, rfl, _, lb2, rg2⟩ := CH.out j c hc
              have z0 : w.cell? ⟨b2, o2 + j * 3, none⟩ = some (strOfB c.key) := rg2 0 _ rfl
              have z1 : w.cell? ⟨b2, o2 + j * 3 + 1, none⟩ = some (strOfB c.value) := rg2 1 _ rfl
              have j0 : (0 : Int) ≤ (j : Int) := by omega
              have j1 : (j : Int) < (bl : Int) := by omega
              have HC := Lib.hid (And.intro hc htiny)
              clear hc htiny rg2
              by_cases g1 : 70 < c.key.length
              · have d3 : (70 : Int) < (c.key.length : Int) := by omega
                have BAD := Lib.hid (few_bad (most := most) MEM.out (small_no (Or.inr (Or.inr ⟨c, List.mem_of_getElem? HC.out.1, Or.inl g1⟩))))
                clear g1
                go_wp2
                go_ret
                exact ⟨by rw [BAD.out]; rfl, rfl⟩
              · have d3 : ¬ (70 : Int) < (c.key.length : Int) := by omega
                by_cases g2 : 200 < c.value.length
                · have d4 : (200 : Int) < (c.value.length : Int) := by omega
                  have BAD := Lib.hid (few_bad (most := most) MEM.out (small_no (Or.inr (Or.inr ⟨c, List.mem_of_getElem? HC.out.1, Or.inr g2⟩))))
                  clear g1 g2
                  go_wp2
                  go_ret
                  exact ⟨by rw [BAD.out]; rfl, rfl⟩
                · have d4 : ¬ (200 : Int) < (c.value.length : Int) := by omega
                  have HT := Lib.hid (show c.tiny = true by simp only [Em.Change.tiny, Bool.and_eq_true, decide_eq_true_eq]; omega)
                  clear g1 g2
                  go_wp2
                  go_round
                  case rel =>
                    refine ⟨j + 1, by omega, by go_num, fun m c' hm hc' => ?_⟩
                    by_cases e : m = j
                    · subst e
                      rw [HC.out.1] at hc'
                      cases hc'
                      exact HT.out
                    · exact HC.out.2 m c' (by omega) hc'
                  case measure => simp [intOf]; omega
            · obtain rfl : j = bl := by omega
              have HS := Lib.hid (show x.small = true by
                simp only [Em.ActE.small, Bool.and_eq_true, decide_eq_true_eq, HB.out.1, HB.out.2, List.all_eq_true]
                refine ⟨⟨by omega, by omega⟩, fun c hc => ?_⟩
                obtain ⟨m, hm⟩ := List.mem_iff_getElem?.1 hc
                exact htiny m c (by have := (List.getElem?_eq_some_iff.1 hm).1; have := HB.out.1; omega) hm)
              clear htiny
              go_wp2
              go_round
              case rel =>
                refine ⟨k + 1, by omega, by go_num, fun m q' hm hq' => ?_⟩
                by_cases e : m = k
                · subst e
                  rw [HQ.out.1] at hq'
                  cases hq'
                  exact HS.out
                · exact HQ.out.2 m q' (by omega) hq'
              case measure => simp [intOf]; omega
    · obtain rfl : k = n := by omega
      have HA := Lib.hid (show (Q.map (·.1)).all Em.ActE.small = true by
        rw [List.all_eq_true]
        intro x hx
        obtain ⟨q, hq, rfl⟩ := List.mem_map.1 hx
        obtain ⟨m, hm⟩ := List.mem_iff_getElem?.1 hq
        exact hall m q (by have := (List.getElem?_eq_some_iff.1 hm).1; have := HN.out; omega) hm)
      clear hall
      go_wp2
      go_ret
      refine ⟨?_, rfl⟩
      simp [Em.fewE, HA.out, HN.out]

end Go.Proofs.YtgffifleflkjoaaGreat

namespace Go.Proofs.YtgffifleflkjoaaGreat
open Go.RowKit Dm Go.Shelf
attribute [local go_sem] Oper.semAt_some

def encP (x : Em.Bytes × Em.Bytes) : Array Value := #[strOfB x.1, strOfB x.2]

theorem all_c' {w : World} {pl pd md : Nat} {e : Em.E} {F : Nat → Prop} (x : LogAt w pl pd md e F) : Calls Tryz.prog 15 #[.pointer (some ⟨pl, 0, none⟩)] w fun en w' =>
    ∃ m, en = .returned (.func (.func 43) #[] #[.pointer (some ⟨w.heap.size, 0, none⟩)]) ∧ w.alloc (.cells #[.map (some m)] tRows) = w' ∧ RowsIn w m (Maps.size e.rows) e.rows ∧ m ≠ pd ∧ m ≠ md ∧ m ≠ pl := by
  have hmf : ∀ (fn : Fn) (first cap : Array Value) (w : World), (Instr.makeFunc fn first cap).run Tryz.prog w = .ok (.func fn first cap) w := fun _ _ _ _ => rfl
  have NC := Lib.hid x.none
  obtain ⟨m, row, rows, hne⟩ := x.row
  have f2 : w.cell? ⟨pl, 2, none⟩ = some (.map (some m)) := row_cell row rfl
  have HR := Lib.hid (And.intro rows hne)
  clear x row rows hne
  go_enter Tryz.func15, Tryz.ntmps15
  go_wp2_with (go_at_call 36; refine NC.out.mono ?_; rintro en w0 ⟨rfl, rfl⟩)
  go_ret
  exact ⟨m, rfl, rfl, HR.out.1, HR.out.2⟩

theorem KeysAt.keeps {A B : World} {K : Nat → Prop} {a : Option Addr} {n c : Nat} {ks : List (List UInt8)} (h : KeysAt A (.slice a n c) ks) (hk : Keeps K A B) (hK : ∀ b o x, a = some ⟨b, o, x⟩ → K b) : KeysAt B (.slice a n c) ks := by
  rcases h with h | ⟨b, cap, cs, h1, h2, h3⟩
  · exact Or.inl h
  · have e : a = some ⟨b, 0, none⟩ := by cases h1; rfl
    exact Or.inr ⟨b, cap, cs, h1, (hk.block b (hK b 0 none e) (lt_of_row h2)).trans h2, h3⟩

theorem rows_keeps {A B : World} {K : Nat → Prop} {m n : Nat} {D : Em.Rows} (h : RowsIn A m n D) (hk : Keeps K A B) (hK : K m) : RowsIn B m n D := by
  have lt := h.lt
  obtain ⟨es, clock, k1, F, hs, hD⟩ := h
  exact ⟨es, clock, (hk.block m hK lt).trans k1, F, hs, hD⟩

theorem sortedB_c {w : World} {m n : Nat} {D : Em.Rows} (h : RowsIn w m n D) (hn : Maps.size D ≤ 1000000) : Calls Tryz.prog 44 #[.map (some m)] w fun e w' =>
    ∃ v, e = .returned v ∧ KeysAt w' v (Em.skeys D) ∧ Below w.heap.size w w' ∧ ∀ a n c, v = .slice (some a) n c → w.heap.size ≤ a.block ∧ a.block < w'.heap.size := by
  have K := Lib.hid (callsIn_wide.1 (maps_Keys_83 (some m) w))
  have S := Lib.hid (callsIn_wide.1 (slices_Sorted_keys_82_83 m n D (plainElem Tryz.prog tStr) w h (by unfold maxLen; omega) (by omega)))
  clear h
  go_enter Tryz.func44, Tryz.ntmps44
  go_wp2_with (first
    | (go_at_call 83; refine K.out.mono ?_; rintro e w' ⟨rfl, rfl⟩)
    | (go_at_call 82; refine S.out.mono ?_; rintro e w1 ⟨v, ss, rfl, hS, hrow, hnil, hb⟩))
  go_ret
  have e1 : ss.mergeSort (fun x y => decide (x ≤ y)) = Em.skeys D := mergeSort_of_perm hS
  have e2 : ss.length = (Em.skeys D).length := by rw [← e1, List.length_mergeSort]
  rw [e1, e2] at hrow
  have hb' := ((Below.refl _ w).alloc (Nat.le_refl _) _).trans (hb.mono (by simp))
  refine ⟨v, rfl, keysAt_own hrow, hb', ?_⟩
  rintro a n' c rfl
  rcases hrow.2 with ⟨h1, _⟩ | ⟨g, cap, cur, h1, h2, h3, _⟩
  · cases h1
  · cases h1
    simp only [World.size_alloc] at h2
    exact ⟨by simp only; omega, lt_of_row h3⟩

set_option maxRecDepth 100000 in
set_option maxHeartbeats 2000000 in
theorem all2_c {w : World} {g m n : Nat} {D : Em.Rows} (hg : w.cell? ⟨g, 0, none⟩ = some (.map (some m))) (hm : RowsIn w m n D) (hs : Maps.size D ≤ 256) (hD : Em.RowsOk D) :
    Iter Tryz.prog 43 #[.pointer (some ⟨g, 0, none⟩)] encP (Em.tell D) (fun i => i = m ∨ i = g) w := by
  intro l J Jx W hW hJ hJx hY h0
  have lg : g < w.heap.size := block_lt_of_cell hg
  have f0 := (hW.cell (p := ⟨g, 0, none⟩) lg).trans hg
  have r0 := rows_below hm hW hm.lt
  have sW := hW.size
  have lm := hm.lt
  have SC := Lib.hid ((callsIn_wide (n := 0)).2 (sortedB_c r0 (by omega)))
  have HH := Lib.hid (And.intro h0 (And.intro r0 hD))
  clear hm hg h0 r0
  refine callsIn_of_wp Tryz.func43 rfl trivial ?_ rfl
  simp only [Tryz.ntmps43, List.size_toArray, List.length_cons, List.length_nil, Nat.reduceAdd, Nat.reduceSub, Array.replicate_succ, Array.replicate_zero, List.push_toArray, List.append_toArray, List.nil_append, List.cons_append]
  gi_wp2
  refine wpIn_scope (wpIn_label_seq ?_)
  gi_wp2_with (refine ⟨trivial, rfl, ?_⟩; gi_at_call 44; refine SC.out.mono ?_; rintro e w1 ⟨kv, rfl, y1, b1, l1⟩
               obtain ⟨ka, kc, rfl⟩ := y1.slice
               have H1 := Lib.hid (And.intro y1 b1)
               have L1 := Lib.hid (show ∀ b o x, ka = some ⟨b, o, x⟩ → W.heap.size ≤ b ∧ b < w1.heap.size from fun b o x e => l1 ⟨b, o, x⟩ _ _ (by rw [e]))
               clear y1 b1 l1)
  have hN : (Em.skeys D).length ≤ 256 := by rw [Em.skeys_len]; exact hs
  have hO := hJ 0 (fun _ => False) (fun k => W.heap.size ≤ k ∧ k < w1.heap.size) W w1 HH.out.1 (Moves.of_below H1.out.2) (fun _ h => h.elim) (fun _ h => Or.inr h.1)
  have R1 := rows_below HH.out.2.1 H1.out.2 (by omega)
  have G1 := (H1.out.2.cell (p := ⟨g, 0, none⟩) (by simp only; omega)).trans f0
  have HS := Lib.hid (And.intro hO (And.intro R1 (And.intro G1 H1.out.1)))
  clear hO R1 G1 f0
  generalize hn : (Em.skeys D).length = N at *
  have HN := Lib.hid hn
  clear hn
  gi_loopw [8] (fun p wr => ∃ k : Nat, p = .int .i64 (k : Int) ∧ k ≤ N ∧ J k (fun k => W.heap.size ≤ k ∧ k < w1.heap.size) wr ∧ RowsIn wr m n D ∧ wr.cell? ⟨g, 0, none⟩ = some (.map (some m)) ∧ KeysAt wr (.slice ka N kc) (Em.skeys D) ∧ w1.heap.size ≤ wr.heap.size) (fun p _ => N + 1 - (intOf p).toNat)
  case atStart => exact ⟨0, rfl, by omega, HS.out.1, HS.out.2.1, HS.out.2.2.1, HS.out.2.2.2, Nat.le_refl _⟩
  case round =>
    obtain ⟨k, rfl, hk, hJk, rk, fk, yk, sk⟩ := hrel
    by_cases hlt : k < N
    · have i0 : (0 : Int) ≤ (k : Int) := by omega
      have i1 : (k : Int) < (N : Int) := by omega
      obtain ⟨kk, hkk⟩ : ∃ x, (Em.skeys D)[k]? = some x := ⟨_, List.getElem?_eq_getElem (by rw [HN.out]; exact hlt)⟩
      obtain ⟨b, rfl, hc⟩ := yk.at hkk
      have lk := lookup_row rk kk (by have := (Em.skeys_mem HH.out.2.2 (List.mem_of_getElem? hkk)).2; omega)
      have hx : (Em.tell D)[k]? = some (kk, Em.valueOf D kk) := by unfold Em.tell; rw [List.getElem?_map, hkk]; rfl
      obtain ⟨fn, tmps, assign, body, hy, hR⟩ := hY k _ _ wr hx hJk
      simp only [encP] at hy
      have H2 := Lib.hid (And.intro rk (And.intro fk (And.intro yk sk)))
      clear rk yk sk hkk hx
      gi_wp2
      refine ⟨rfl, hR.mono ?_⟩
      rintro e W' (⟨rfl, hJ', hk'⟩ | ⟨rfl, hJx', hk'⟩)
      · have hw1 : IntKind.i64.wrap ((k : Int) + 1) = ((k + 1 : Nat) : Int) := IntWalk.i64_in _ (by omega)
        gi_wp2
        obtain ⟨rk, fk, yk, sk⟩ := H2.out
        refine ⟨⟨k + 1, by simp, by omega, hJ', rows_keeps rk hk' (Or.inr (Or.inl rfl)), ?_, yk.keeps hk' (fun b o x e => Or.inl (L1.out b o x e)), Nat.le_trans sk hk'.size⟩, ?_⟩
        · have := H1.out.2.size
          exact (World.cell?_of_block (hk'.block g (Or.inr (Or.inr rfl)) (by omega))).trans fk
        · simp [intOf]; omega
      · gi_wp2
        simp +zetaDelta only [Exit.noGoto_normal]; refine bodyPost_end (results_none rfl _ _ _) rfl ?_
        exact ⟨⟨_, rfl⟩, _, .inr ⟨k + 1, by have e : (Em.tell D).length = N := by unfold Em.tell; rw [List.length_map]; exact HN.out
                                            omega, hJx'⟩⟩
    · obtain rfl : k = N := by omega
      gi_wp2
      simp +zetaDelta only [Exit.noGoto_normal]; refine bodyPost_end (results_none rfl _ _ _) rfl ?_
      exact ⟨⟨_, rfl⟩, _, .inl (by have e : (Em.tell D).length = k := by unfold Em.tell; rw [List.length_map]; exact HN.out
                                   rw [e]; exact hJk)⟩

end Go.Proofs.YtgffifleflkjoaaGreat
