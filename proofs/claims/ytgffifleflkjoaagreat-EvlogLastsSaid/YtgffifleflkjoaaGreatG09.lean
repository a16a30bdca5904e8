/-
  Crash: the walk.
-/
import Derived.Test.YtgffifleflkjoaaGreatG08
import Derived.Deep.LoopGhost
import Derived.Deep.CutRange

namespace Go.Proofs.YtgffifleflkjoaaGreat
open Go.RowKit Dm

/-- A slice of truths. -/
def BoolsAt (h : Array Obj) (v : Value) (l : List Bool) : Prop :=
  ((∃ a c, v = .slice a 0 c) ∧ l = []) ∨ ∃ (b o cap : Nat) (c : Array Value) (t : TypeId) (fr : Nat × Nat), v = .slice (some ⟨b, o, none⟩) l.length cap ∧ h[b]? = some (.cells c t fr) ∧ ∀ (i : Nat) (x : Bool), l[i]? = some x → c[o + i]? = some (.bool x)

theorem BoolsAt.slice {h : Array Obj} {v : Value} {l : List Bool} (x : BoolsAt h v l) : ∃ a c, v = .slice a l.length c := by
  rcases x with ⟨⟨_, _, rfl⟩, rfl⟩ | ⟨b, o, cap, c, t, fr, rfl, _⟩
  · exact ⟨_, _, rfl⟩
  · exact ⟨_, _, rfl⟩

abbrev tCrash : Nat := 41
abbrev tB4 : Nat := 110

theorem crash_none (v kv : Value) (tn pt : Int) (w : World) (h : NoneD w v) : Calls Tryz.prog 19 #[v, .agg #[kv, .int .i64 tn, .int .i64 pt]] w fun e w' => e = .returned (.tuple #[.pointer none, .int .i64 1]) ∧ Below w.heap.size w w' := by
  have hb : Below w.heap.size w (w.alloc (.cells #[kv, .int .i64 tn, .int .i64 pt] tCrash)) := (Below.refl _ _).alloc (Nat.le_refl _) _
  have H := Lib.hid (h.below hb)
  clear h
  go_enter Tryz.func19, Tryz.ntmps19
  go_wp2_with (go_at_call 45; refine (none_c H.out).mono ?_; rintro e w' ⟨rfl, rfl⟩)
  go_ret2
  exact ⟨rfl, hb⟩

/-- The blocks that a crash may share with the disk, and its own. -/
def CrF (F : Nat → Prop) (w : World) (q mq e0 : Nat) : Nat → Prop := fun k => (F k ∧ k < w.heap.size) ∨ (w.heap.size ≤ k ∧ k ≠ q ∧ k ≠ mq ∧ k ≠ e0)

/-- Between two steps of a crash, in memory. -/
structure CrSt (w W : World) (F : Nat → Prop) (kv : Value) (c : Crash) (q mq e0 : Nat) (x : St) (en : Int → Bool) : Prop where
  below : Below w.heap.size w W
  hq : w.heap.size ≤ q
  hmq : w.heap.size ≤ mq
  he0 : w.heap.size ≤ e0
  ne1 : mq ≠ q
  ne2 : e0 ≠ q
  ne3 : e0 ≠ mq
  nb : w.heap.size ≠ q ∧ w.heap.size ≠ mq ∧ w.heap.size ≠ e0
  box : W.heap[w.heap.size]? = some (.cells #[kv, .int .i64 c.torn, .int .i64 c.part] tCrash (0, 0))
  stand : StandAt W.heap q mq x (CrF F w q mq e0) tStand []
  ends : W.heap[e0]? = some (.cells #[.bool (en 0), .bool (en 1), .bool (en 2), .bool (en 3)] tB4 (0, 0))

theorem CrSt.next {w W W' : World} {F : Nat → Prop} {kv : Value} {c : Crash} {q mq e0 : Nat} {x : St} {en : Int → Bool} (h : CrSt w W F kv c q mq e0 x en) (hb : Below W.heap.size W W') : CrSt w W' F kv c q mq e0 x en := by
  have hs := h.below.size
  refine ⟨h.below.trans (hb.mono hs), h.hq, h.hmq, h.he0, h.ne1, h.ne2, h.ne3, h.nb, (hb.block _ (lt_of_row h.box)).trans h.box, ?_, (hb.block _ (lt_of_row h.ends)).trans h.ends⟩
  obtain ⟨t0, t1, t2, t3, c1, c2, b0, b1, b2, b3, n1, n2, n3⟩ := h.stand
  have keep : ∀ k, CrF F w q mq e0 k → k < W.heap.size → W'.heap[k]? = W.heap[k]? := fun k _ hl => hb.block k hl
  have big : ∀ k, CrF F w q mq e0 k → k < W.heap.size → CrF F w q mq e0 k := fun _ h _ => h
  have lm : mq < W.heap.size := by obtain ⟨es, cl, g, _⟩ := c2; exact lt_of_row g
  exact ⟨t0, t1, t2, t3, (hb.block _ (lt_of_row c1)).trans c1, c2.stays (hb.block _ lm), b0.keeps keep big, b1.keeps keep big, b2.keeps keep big, b3.keeps keep big, n1, n2, n3⟩

/-- What stands has turned. -/
theorem CrSt.did {w W W' : World} {F : Nat → Prop} {kv : Value} {c : Crash} {q mq e0 : Nat} {x x' : St} {en : Int → Bool} {e : Ending} (h : CrSt w W F kv c q mq e0 x en) (hd : Did W q mq x' (CrF F w q mq e0) tStand [] e W') : CrSt w W' F kv c q mq e0 x' en := by
  have hs := h.below.size
  have hm := hd.moves
  have lq : q < W.heap.size := by obtain ⟨t0, t1, t2, t3, c1, _⟩ := h.stand; exact lt_of_row c1
  have lm : mq < W.heap.size := by obtain ⟨t0, t1, t2, t3, c1, ⟨es, cl, g, _⟩, _⟩ := h.stand; exact lt_of_row g
  have le := lt_of_row h.ends
  have hq := h.hq
  have hmq := h.hmq
  have nb := h.nb
  have ne2 := h.ne2
  have ne3 := h.ne3
  refine ⟨⟨hm.os.trans h.below.os, hm.tape.trans h.below.tape, hm.output.trans h.below.output, by have := hm.size; omega, fun k hk => (hm.block k (by omega) (by omega)).trans (h.below.block k hk)⟩, h.hq, h.hmq, h.he0, h.ne1, h.ne2, h.ne3, h.nb,
    (hm.block _ (lt_of_row h.box) (by omega)).trans h.box, ?_, (hm.block _ le (by omega)).trans h.ends⟩
  refine hd.stand.weak (fun k hk hl => ?_) ?_ ?_
  · rcases hk with hk | hk
    · exact hk
    · exact Or.inr ⟨by omega, by omega, by omega, by omega⟩
  · rintro (h | h)
    · omega
    · exact h.2.1 rfl
  · rintro (h | h)
    · omega
    · exact h.2.2.1 rfl

/-- One of the ends is told. -/
theorem CrSt.endAt {w W : World} {F : Nat → Prop} {kv : Value} {c : Crash} {q mq e0 : Nat} {x : St} {en : Int → Bool} (h : CrSt w W F kv c q mq e0 x en) (t : Nat) (ht : t < 4) : W.cell? ⟨e0, t, none⟩ = some (.bool (en t)) := by
  obtain rfl | rfl | rfl | rfl : t = 0 ∨ t = 1 ∨ t = 2 ∨ t = 3 := by omega
  all_goals exact row_cell h.ends rfl

theorem CrSt.endSet {w W : World} {F : Nat → Prop} {kv : Value} {c : Crash} {q mq e0 : Nat} {x : St} {en : Int → Bool} (h : CrSt w W F kv c q mq e0 x en) (t : Nat) (ht : t < 4) (b : Bool) : CrSt w (W.setCell ⟨e0, t, none⟩ (.bool b)) F kv c q mq e0 x (upd en t b) := by
  have ho : ∀ k, k ≠ e0 → (W.setCell ⟨e0, t, none⟩ (.bool b)).heap[k]? = W.heap[k]? := fun k hk => heap_setCell_other W _ k _ hk
  have he0 := h.he0
  have nb := h.nb
  refine ⟨⟨h.below.os, h.below.tape, h.below.output, by simpa using h.below.size, fun k hk => (ho k (by omega)).trans (h.below.block k hk)⟩, h.hq, h.hmq, h.he0, h.ne1, h.ne2, h.ne3, h.nb, (ho _ nb.2.2).trans h.box, ?_, ?_⟩
  · obtain ⟨t0, t1, t2, t3, c1, c2, b0, b1, b2, b3, n1, n2, n3⟩ := h.stand
    have keep : ∀ k, CrF F w q mq e0 k → k < W.heap.size → (W.setCell ⟨e0, t, none⟩ (.bool b)).heap[k]? = W.heap[k]? := fun k hk hl => ho k (fun e => by
      subst e
      rcases hk with hk | hk
      · omega
      · exact hk.2.2.2 rfl)
    have big : ∀ k, CrF F w q mq e0 k → k < W.heap.size → CrF F w q mq e0 k := fun _ h _ => h
    exact ⟨t0, t1, t2, t3, (ho _ h.ne2.symm).trans c1, c2.stays (ho _ h.ne3.symm), b0.keeps keep big, b1.keeps keep big, b2.keeps keep big, b3.keeps keep big, n1, n2, n3⟩
  · rw [heap_setCell_same W e0 t _ _ _ h.ends]
    obtain rfl | rfl | rfl | rfl : t = 0 ∨ t = 1 ∨ t = 2 ∨ t = 3 := by omega
    all_goals simp [upd]

theorem StepsAt.slice {h : Array Obj} {F : Nat → Prop} {v : Value} {l : List Step} (x : StepsAt h F v l) : ∃ a c, v = .slice a l.length c ∧ l.length ≤ c ∧ (a = none → l = []) := by
  rcases x with ⟨rfl, rfl⟩ | ⟨b, o, cap, c, t, fr, rfl, h, _⟩
  · exact ⟨_, _, rfl, Nat.le_refl _, fun _ => rfl⟩
  · exact ⟨_, _, rfl, h, fun h => by cases h⟩

abbrev crBox (w : World) (kv : Value) (c : Crash) : World := w.alloc (.cells #[kv, .int .i64 c.torn, .int .i64 c.part] tCrash)

theorem crash_start {w W1 W2 : World} {F : Nat → Prop} {kv : Value} {c : Crash} {d : D} {l0 l1 l2 l3 : Value} {ml : Nat} {es2 : Array MapEntry} {clock2 : Nat} (hm : SecMap w.heap ml d.lasts.sec) (hml : w.heap[ml]? = some (.map es2 clock2)) (b0 : BytesAt w.heap F l0 (d.lasts.tp 0)) (b1 : BytesAt w.heap F l1 (d.lasts.tp 1)) (b2 : BytesAt w.heap F l2 (d.lasts.tp 2)) (b3 : BytesAt w.heap F l3 (d.lasts.tp 3))
    (hb1 : Below (crBox w kv c).heap.size (crBox w kv c) W1) (r1 : W1.heap[w.heap.size + 1 + 1]? = some (.map es2 clock2)) (HW : W2.heap[W1.heap.size]? = some (.cells #[.map (some (w.heap.size + 1 + 1)), l0, l1, l2, l3] tStand (0, 0)))
    (HM : Moves (fun k => k = W1.heap.size) (W1.alloc (.cells stand0 tStand)) W2) (HS : W2.heap.size = (W1.alloc (.cells stand0 tStand)).heap.size) :
    CrSt w (W2.alloc (.cells #[.bool false, .bool false, .bool false, .bool false] tB4)) F kv c W1.heap.size (w.heap.size + 1 + 1) W2.heap.size d.lasts (fun _ => false) ∧ W2.heap.size = W1.heap.size + 1 := by
  have z1 := lt_of_row r1
  have z2 : W2.heap.size = W1.heap.size + 1 := by rw [HS]; simp
  have zb : (crBox w kv c).heap.size = w.heap.size + 1 := by simp
  have hbw : Below w.heap.size w W1 := ((Below.refl _ _).alloc (Nat.le_refl _) _).trans (hb1.mono (by simp))
  have hb2 : Below w.heap.size w W2 := Moves.new (hbw.alloc (by omega) _) HM (by omega)
  have hb3 : Below w.heap.size w (W2.alloc (.cells #[.bool false, .bool false, .bool false, .bool false] tB4)) := hb2.alloc (by omega) _
  have up : ∀ k o, k ≠ W1.heap.size → k < W1.heap.size → W1.heap[k]? = some o → (W2.alloc (.cells #[.bool false, .bool false, .bool false, .bool false] tB4)).heap[k]? = some o := fun k o h1 h2 h3 =>
    heap_past (by omega) ((HM.block k (by simp; omega) h1).trans (heap_past h2 h3))
  refine ⟨⟨hb3, by omega, by omega, by omega, by omega, by omega, by omega, ⟨by omega, by omega, by omega⟩, ?_, ?_, heap_alloc_last _ _⟩, z2⟩
  · exact up _ _ (by omega) (by omega) ((hb1.block _ (by simp)).trans (heap_alloc_last w _))
  · have keep : ∀ k, F k → k < w.heap.size → (W2.alloc (.cells #[.bool false, .bool false, .bool false, .bool false] tB4)).heap[k]? = w.heap[k]? := fun k _ hl => hb3.block k hl
    have big : ∀ k, F k → k < w.heap.size → CrF F w W1.heap.size (w.heap.size + 1 + 1) W2.heap.size k := fun k h hl => Or.inl ⟨h, hl⟩
    refine ⟨l0, l1, l2, l3, heap_past (by omega) HW, hm.other hml (up _ _ (by omega) z1 r1), b0.keeps keep big, b1.keeps keep big, b2.keeps keep big, b3.keeps keep big, ?_, ?_, by omega⟩
    · rintro (h | h)
      · omega
      · exact h.2.2.1 rfl
    · rintro (h | h)
      · omega
      · exact h.2.1 rfl

/-- The relation of the loop. -/
def CrRel (w : World) (d : D) (F : Nat → Prop) (kv : Value) (c : Crash) (q mq e0 : Nat) (k : Nat) (W : World) : Prop :=
  ∃ x en, CrSt w W F kv c q mq e0 x en ∧ CrInv d k x en ∧ crashGo c d.waits.length (d.waits.drop k) k x en = crashGo c d.waits.length d.waits 0 d.lasts (fun _ => false)

theorem CrRel.next {w : World} {d : D} {F : Nat → Prop} {kv : Value} {c : Crash} {q mq e0 k : Nat} {W : World} {x : St} {en : Int → Bool} {s : Step} (ok : d.ok) (inv : CrInv d k x en) (eqn : crashGo c d.waits.length (d.waits.drop k) k x en = crashGo c d.waits.length d.waits 0 d.lasts (fun _ => false))
    (hs : d.waits[k]? = some s) (hk : ¬ (s.what ≠ 1 ∧ en s.n = true)) {x' : St} {en' : Int → Bool} (cs : CrSt w W F kv c q mq e0 x' en') (hx : x' = crashX c d.waits.length k s x) (he : en' = crashE c d.waits.length k s en) : CrRel w d F kv c q mq e0 (k + 1) W := by
  subst hx; subst he
  refine ⟨_, _, cs, inv.step ok hs c _ hk, ?_⟩
  obtain ⟨hlt, e⟩ := List.getElem?_eq_some_iff.1 hs
  rw [← eqn, List.drop_eq_getElem_cons hlt, e, crashGo_step _ _ _ _ _ _ _ hk]

/-- What a crash hands back. -/
def CrashPost (w : World) (F : Nat → Prop) (d' : D) (e : Ending) (w' : World) : Prop :=
  ∃ p' m' F', e = .returned (.tuple #[.pointer (some ⟨p', 0, none⟩), .int .i64 0]) ∧ Below w.heap.size w w' ∧ w.heap.size ≤ p' ∧ w.heap.size ≤ m' ∧ DiskAt w'.heap p' m' d' F' ∧ ∀ k, F' k → (F k ∧ k < w.heap.size) ∨ (w.heap.size ≤ k ∧ k < w'.heap.size)

theorem crash_end {w wr W9 : World} {d : D} {F : Nat → Prop} {kv : Value} {c : Crash} {q mq e0 : Nat} {x : St} {en : Int → Bool} {u0 u1 u2 u3 : Value} {es : Array MapEntry} {clock : Nat} (ok : d.ok) (cs : CrSt w wr F kv c q mq e0 x en) (inv : CrInv d d.waits.length x en)
    (eqn : x = crashGo c d.waits.length d.waits 0 d.lasts (fun _ => false)) (r1 : wr.heap[q]? = some (.cells [.map (some mq), u0, u1, u2, u3].toArray tStand (0, 0))) (r2 : SecMap wr.heap mq x.sec) (r3 : wr.heap[mq]? = some (.map es clock))
    (v0 : BytesAt wr.heap (CrF F w q mq e0) u0 (x.tp 0)) (v1 : BytesAt wr.heap (CrF F w q mq e0) u1 (x.tp 1)) (v2 : BytesAt wr.heap (CrF F w q mq e0) u2 (x.tp 2)) (v3 : BytesAt wr.heap (CrF F w q mq e0) u3 (x.tp 3))
    (hb : Below wr.heap.size wr W9) (r9 : W9.heap[wr.drew.heap.size + 1]? = some (.map es clock)) :
    CrashPost w F (d.crash c) (.returned (.tuple #[.pointer (some ⟨W9.heap.size, 0, none⟩), .int .i64 0])) (W9.alloc (.cells (diskC mq u0 u1 u2 u3 (wr.heap.size + 1) u0 u1 u2 u3 (.slice none 0 0) d.many d.room false false 0) tDisk)) := by
  have r9' : W9.heap[wr.heap.size + 1]? = some (.map es clock) := r9
  have z9 := lt_of_row r9'
  have zq := lt_of_row r1
  have zm := lt_of_row r3
  have hz := cs.below.size
  have hmq := cs.hmq
  have hq := cs.hq
  have hb' : Below w.heap.size w (W9.alloc (.cells (diskC mq u0 u1 u2 u3 (wr.heap.size + 1) u0 u1 u2 u3 (.slice none 0 0) d.many d.room false false 0) tDisk)) := (cs.below.trans (hb.mono hz)).alloc (by omega) _
  have hx : (d.crash c).lasts = x := eqn.symm
  have hst : (d.crash c).stand = x := eqn.symm
  have sz : (W9.alloc (.cells (diskC mq u0 u1 u2 u3 (wr.heap.size + 1) u0 u1 u2 u3 (.slice none 0 0) d.many d.room false false 0) tDisk)).heap.size = W9.heap.size + 1 := by simp
  refine ⟨W9.heap.size, mq, fun k => (F k ∧ k < w.heap.size) ∨ (w.heap.size ≤ k ∧ k < W9.heap.size ∧ k ≠ mq), rfl, hb', by omega, hmq, ?_, fun k hk => ?_⟩
  · have keep : ∀ k, CrF F w q mq e0 k → k < wr.heap.size → (W9.alloc (.cells (diskC mq u0 u1 u2 u3 (wr.heap.size + 1) u0 u1 u2 u3 (.slice none 0 0) d.many d.room false false 0) tDisk)).heap[k]? = wr.heap[k]? := fun k _ hl => (heap_old_own _ _ _ (by omega)).trans (hb.block k hl)
    have big : ∀ k, CrF F w q mq e0 k → k < wr.heap.size → ((F k ∧ k < w.heap.size) ∨ (w.heap.size ≤ k ∧ k < W9.heap.size ∧ k ≠ mq)) := fun k hk hl => by
      rcases hk with hk | hk
      · exact Or.inl hk
      · exact Or.inr ⟨hk.1, by omega, hk.2.2.1⟩
    have rm : (W9.alloc (.cells (diskC mq u0 u1 u2 u3 (wr.heap.size + 1) u0 u1 u2 u3 (.slice none 0 0) d.many d.room false false 0) tDisk)).heap[mq]? = some (.map es clock) := heap_past (by omega) ((hb.block _ zm).trans r3)
    refine ⟨crash_ok ok c, u0, u1, u2, u3, wr.heap.size + 1, u0, u1, u2, u3, .slice none 0 0, false, 0, heap_alloc_last _ _, rfl, (fun h => by cases h), ?_, ?_, Or.inr ⟨by omega, z9, by omega⟩, ?_, ?_, by omega, ?_, ?_, ?_, ?_, ?_, ?_, ?_, ?_, Or.inl ⟨rfl, rfl⟩⟩
    · rw [hst]; exact r2.other r3 rm
    · rw [hx]; exact r2.other r3 (heap_past z9 r9')
    · rintro (h | h)
      · omega
      · exact h.2.2 rfl
    · rintro (h | h)
      · omega
      · omega
    · rw [hst]; exact v0.keeps keep big
    · rw [hst]; exact v1.keeps keep big
    · rw [hst]; exact v2.keeps keep big
    · rw [hst]; exact v3.keeps keep big
    · rw [hx]; exact v0.keeps keep big
    · rw [hx]; exact v1.keeps keep big
    · rw [hx]; exact v2.keeps keep big
    · rw [hx]; exact v3.keeps keep big
  · rcases hk with hk | hk
    · exact Or.inl hk
    · exact Or.inr ⟨hk.1, by rw [sz]; omega⟩

end Go.Proofs.YtgffifleflkjoaaGreat
