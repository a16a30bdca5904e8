/-
  What a crash leaves, step by step (plain).
  Crash: the walk.
  disk.Same: the same steps wait.
-/
import Derived.Test.YtiefhmbpaoecfaaG06
import Derived.Test.YtiefhmbpaoecfaaG08
import Derived.Test.YtiefhmbpaoecfaaG09
import Derived.Deep.LoopGhost
import Derived.Deep.CutRange

namespace Go.Proofs.Ytiefhmbpaoecfaa
open Go.RowKit Dm

def crashX (c : Crash) (n i : Nat) (s : Step) (x : St) : St := if c.isTorn n i then x.part s c.part else if c.kept i then x.done s else x
def crashE (c : Crash) (n i : Nat) (s : Step) (en : Int → Bool) : Int → Bool := if s.what ≠ 1 then upd en s.n (c.isTorn n i || !c.kept i) else en

theorem crashGo_skip (c : Crash) (n i : Nat) (s : Step) (l : List Step) (x : St) (en : Int → Bool) (h : s.what ≠ 1 ∧ en s.n = true) : crashGo c n (s :: l) i x en = crashGo c n l (i + 1) x en := by
  rw [crashGo, if_pos h]
theorem crashGo_step (c : Crash) (n i : Nat) (s : Step) (l : List Step) (x : St) (en : Int → Bool) (h : ¬ (s.what ≠ 1 ∧ en s.n = true)) : crashGo c n (s :: l) i x en = crashGo c n l (i + 1) (crashX c n i s x) (crashE c n i s en) := by
  rw [crashGo, if_neg h]; rfl

theorem upto_succ {d : D} {i : Nat} {s : Step} (h : d.waits[i]? = some s) : d.upto (i + 1) = (d.upto i).done s := by
  unfold D.upto
  have hl := (List.getElem?_eq_some_iff.1 h).1
  rw [List.take_succ_eq_append_getElem hl, List.foldl_append, (List.getElem?_eq_some_iff.1 h).2]
  rfl

theorem done_tp_sec (x : St) (s : Step) (t : Int) (h : s.what = 1) : (x.done s).tp t = x.tp t := by simp [St.done, h]
theorem done_tp_other (x : St) (s : Step) (t : Int) (h : t ≠ s.n) : (x.done s).tp t = x.tp t := by
  unfold St.done
  split
  · rfl
  · split <;> simp [upd, h]
theorem part_tp_sec (x : St) (s : Step) (t k : Int) (h : s.what = 1) : (x.part s k).tp t = x.tp t := by simp [St.part, St.done, h]
theorem part_tp_other (x : St) (s : Step) (t k : Int) (h : t ≠ s.n) : (x.part s k).tp t = x.tp t := by
  unfold St.part
  split
  · simp [St.done]
  · split
    · simp [St.done, upd, h]
    · rfl
theorem part_pre (x : St) (s : Step) (k : Int) (h : s.what ≠ 1) : (x.part s k).tp s.n <+: (x.done s).tp s.n ∨ (x.part s k).tp s.n = x.tp s.n := by
  by_cases h2 : s.what = 2
  · left
    simp only [St.part, if_neg h, if_pos h2, St.done, upd_same]
    rw [if_neg (by omega), if_pos trivial]
    simp only [upd_same]
    exact List.prefix_append_right_inj _ |>.2 (List.take_prefix _ _)
  · right
    simp [St.part, h, h2]
theorem part_sec {x : St} {s : Step} {many : Int} (hx : ∀ n, (x.sec n).length = 256) (hs : s.ok many) (k : Int) : ∀ n, ((x.part s k).sec n).length = 256 := by
  intro n
  unfold St.part
  split
  · rename_i h1
    have hb : s.b.length = 256 := by
      rcases hs with hs | hs | hs
      · exact hs.2.2.2.2
      · omega
      · omega
    simp only [St.done, if_true, upd]
    split
    · have p1 : 0 ≤ pick k 257 := Int.emod_nonneg _ (by omega)
      have p2 : pick k 257 < 257 := Int.emod_lt_of_pos _ (by omega)
      have := hx s.n
      simp only [List.length_append, List.length_take, List.length_drop]
      omega
    · exact hx n
  · split
    · simp only [St.done]
      simpa using hx n
    · exact hx n

/-- Between two steps of a crash. -/
structure CrInv (d : D) (i : Nat) (x : St) (en : Int → Bool) : Prop where
  tp : ∀ t, en t = false → x.tp t = (d.upto i).tp t
  pre : ∀ t, ∃ k, k ≤ i ∧ x.tp t <+: (d.upto k).tp t
  sec : ∀ n, (x.sec n).length = 256

theorem CrInv.room {d : D} {i : Nat} {x : St} {en : Int → Bool} (h : CrInv d i x en) (hd : d.ok) (t : Int) : (x.tp t).length ≤ d.room := by
  obtain ⟨k, _, hk⟩ := h.pre t
  have := hd.tape k t
  have := hk.length_le
  omega

theorem CrInv.start {d : D} (hd : d.ok) : CrInv d 0 d.lasts (fun _ => false) :=
  ⟨fun t _ => by simp [D.upto], fun t => ⟨0, Nat.le_refl _, by simp [D.upto]⟩, hd.sec⟩

theorem CrInv.skip {d : D} {i : Nat} {x : St} {en : Int → Bool} (h : CrInv d i x en) {s : Step} (hs : d.waits[i]? = some s) (hk : s.what ≠ 1 ∧ en s.n = true) : CrInv d (i + 1) x en := by
  refine ⟨fun t ht => ?_, fun t => ?_, h.sec⟩
  · have hne : t ≠ s.n := fun e => by rw [e, hk.2] at ht; cases ht
    rw [upto_succ hs, done_tp_other _ _ _ hne]
    exact h.tp t ht
  · obtain ⟨k, h1, h2⟩ := h.pre t
    exact ⟨k, by omega, h2⟩

theorem CrInv.step {d : D} (hd : d.ok) {i : Nat} {x : St} {en : Int → Bool} (h : CrInv d i x en) {s : Step} (hs : d.waits[i]? = some s) (c : Crash) (n : Nat) (hk : ¬ (s.what ≠ 1 ∧ en s.n = true)) : CrInv d (i + 1) (crashX c n i s x) (crashE c n i s en) := by
  have ok : s.ok d.many := hd.waits s (List.mem_of_getElem? hs)
  have old : ∀ t, ∃ k, k ≤ i + 1 ∧ x.tp t <+: (d.upto k).tp t := fun t => by
    obtain ⟨k, h1, h2⟩ := h.pre t
    exact ⟨k, by omega, h2⟩
  by_cases h1 : s.what = 1
  · have tpx : ∀ t, (crashX c n i s x).tp t = x.tp t := fun t => by
      unfold crashX
      split
      · exact part_tp_sec _ _ _ _ h1
      · split
        · exact done_tp_sec _ _ _ h1
        · rfl
    have ee : crashE c n i s en = en := by simp [crashE, h1]
    refine ⟨fun t ht => ?_, fun t => ?_, ?_⟩
    · rw [ee] at ht
      rw [tpx, upto_succ hs, done_tp_sec _ _ _ h1]
      exact h.tp t ht
    · rw [tpx]; exact old t
    · unfold crashX
      split
      · exact part_sec h.sec ok _
      · split
        · exact done_sec h.sec ok
        · exact h.sec
  · have hen : en s.n = false := by
      cases he : en s.n
      · rfl
      · exact absurd ⟨h1, he⟩ hk
    have ee : crashE c n i s en = upd en s.n (c.isTorn n i || !c.kept i) := by simp [crashE, h1]
    have tpo : ∀ t, t ≠ s.n → (crashX c n i s x).tp t = x.tp t := fun t ht => by
      unfold crashX
      split
      · exact part_tp_other _ _ _ _ ht
      · split
        · exact done_tp_other _ _ _ ht
        · rfl
    have dn : (x.done s).tp s.n = (d.upto (i + 1)).tp s.n := by
      rw [upto_succ hs]
      have := h.tp s.n hen
      unfold St.done
      rw [if_neg h1, if_neg h1]
      split <;> simp [upd, this]
    refine ⟨fun t ht => ?_, fun t => ?_, ?_⟩
    · rw [ee] at ht
      by_cases e : t = s.n
      · subst e
        rw [upd_same] at ht
        simp only [Bool.or_eq_false_iff, Bool.not_eq_false'] at ht
        unfold crashX
        rw [if_neg (by simp [ht.1]), if_pos ht.2]
        exact dn
      · rw [upd_other _ _ _ _ e] at ht
        rw [tpo t e, upto_succ hs, done_tp_other _ _ _ e]
        exact h.tp t ht
    · by_cases e : t = s.n
      · subst e
        unfold crashX
        split
        · rcases part_pre x s c.part h1 with hp | hp
          · exact ⟨i + 1, Nat.le_refl _, by rw [← dn]; exact hp⟩
          · rw [hp]; exact old _
        · split
          · exact ⟨i + 1, Nat.le_refl _, by rw [dn]; exact List.prefix_refl _⟩
          · exact old _
      · rw [tpo t e]; exact old t
    · unfold crashX
      split
      · exact part_sec h.sec ok _
      · split
        · exact done_sec h.sec ok
        · exact h.sec

/-- What a crash leaves may be. -/
theorem CrInv.all {d : D} (hd : d.ok) (c : Crash) (n : Nat) : ∀ (l : List Step) (i : Nat) (x : St) (en : Int → Bool), d.waits.drop i = l → CrInv d i x en → ∃ en', CrInv d d.waits.length (crashGo c n l i x en) en'
  | [], i, x, en, hl, h => by
    have hi : d.waits.length ≤ i := List.drop_eq_nil_iff.1 hl
    refine ⟨en, fun t ht => ?_, fun t => ?_, h.sec⟩
    · rw [crashGo, h.tp t ht]
      unfold D.upto
      rw [List.take_of_length_le hi, List.take_of_length_le (Nat.le_refl _)]
    · obtain ⟨k, h1, h2⟩ := h.pre t
      rw [crashGo]
      by_cases hk : k ≤ d.waits.length
      · exact ⟨k, hk, h2⟩
      · refine ⟨d.waits.length, Nat.le_refl _, ?_⟩
        unfold D.upto at h2 ⊢
        rw [List.take_of_length_le (by omega)] at h2 ⊢
        exact h2
  | s :: l, i, x, en, hl, h => by
    have hs : d.waits[i]? = some s := by
      have := congrArg (·[0]?) hl
      simpa using this
    have hl' : d.waits.drop (i + 1) = l := by
      rw [← List.drop_drop, hl]; rfl
    by_cases hk : s.what ≠ 1 ∧ en s.n = true
    · rw [crashGo_skip _ _ _ _ _ _ _ hk]
      exact CrInv.all hd c n l (i + 1) x en hl' (h.skip hs hk)
    · rw [crashGo_step _ _ _ _ _ _ _ hk]
      exact CrInv.all hd c n l (i + 1) _ _ hl' (h.step hd hs c n hk)

theorem crash_ok {d : D} (hd : d.ok) (c : Crash) : (d.crash c).ok := by
  obtain ⟨en, h⟩ := CrInv.all hd c d.waits.length d.waits 0 d.lasts (fun _ => false) rfl (CrInv.start hd)
  refine ⟨hd.many0, hd.many1, hd.room0, hd.room1, h.sec, fun k t => ?_, (fun s hs => by cases hs), (by show (-1 : Int) ≤ -1; omega), (by show (-1 : Int) ≤ 9223372036854775807; omega)⟩
  have e : (d.crash c).upto k = (d.crash c).lasts := by unfold D.upto; show List.foldl St.done _ (List.take k []) = _; rw [List.take_nil]; rfl
  rw [e]
  exact h.room hd t

end Go.Proofs.Ytiefhmbpaoecfaa

namespace Go.Proofs.Ytiefhmbpaoecfaa
open Go.RowKit Dm

/-- A slice of truths. -/
def BoolsAt (h : Array Obj) (v : Value) (l : List Bool) : Prop :=
  ((∃ a c, v = .slice a 0 c) ∧ l = []) ∨ ∃ (b o cap : Nat) (c : Array Value) (t : TypeId) (fr : Nat × Nat), v = .slice (some ⟨b, o, none⟩) l.length cap ∧ h[b]? = some (.cells c t fr) ∧ ∀ (i : Nat) (x : Bool), l[i]? = some x → c[o + i]? = some (.bool x)

theorem BoolsAt.slice {h : Array Obj} {v : Value} {l : List Bool} (x : BoolsAt h v l) : ∃ a c, v = .slice a l.length c := by
  rcases x with ⟨⟨_, _, rfl⟩, rfl⟩ | ⟨b, o, cap, c, t, fr, rfl, _⟩
  · exact ⟨_, _, rfl⟩
  · exact ⟨_, _, rfl⟩

abbrev tCrash : Nat := 25
abbrev tB4 : Nat := 77

theorem crash_none (v kv : Value) (tn pt : Int) (w : World) (h : NoneD w v) : Calls Try.prog 14 #[v, .agg #[kv, .int .i64 tn, .int .i64 pt]] w fun e w' => e = .returned (.tuple #[.pointer none, .int .i64 1]) ∧ Below w.heap.size w w' := by
  have hb : Below w.heap.size w (w.alloc (.cells #[kv, .int .i64 tn, .int .i64 pt] tCrash)) := (Below.refl _ _).alloc (Nat.le_refl _) _
  have H := Lib.hid (h.below hb)
  clear h
  go_enter Try.func14, Try.ntmps14
  go_wp2_with (go_at_call 33; refine (none_c H.out).mono ?_; rintro e w' ⟨rfl, rfl⟩)
  go_ret2
  exact ⟨rfl, hb⟩

/-- The blocks that a crash may share with the disk, and its own. -/
def CrF (F : Nat → Prop) (w : World) (q mq e0 : Nat) : Nat → Prop := fun k => (F k ∧ k < w.heap.size) ∨ (w.heap.size ≤ k ∧ k ≠ q ∧ k ≠ mq ∧ k ≠ e0)

/-- Between two steps of a crash, in memory. -/
structure CrSt (w W : World) (F : Nat → Prop) (kv : Value) (c : Crash) (q mq e0 : Nat) (x : St) (en : Int → Bool) : Prop where
  below : Below w.heap.size w W
  hq : w.heap.size ≤ q
  hmq : w.heap.size ≤ mq
  he0 : w.heap.size ≤ e0
  ne1 : mq ≠ q
  ne2 : e0 ≠ q
  ne3 : e0 ≠ mq
  nb : w.heap.size ≠ q ∧ w.heap.size ≠ mq ∧ w.heap.size ≠ e0
  box : W.heap[w.heap.size]? = some (.cells #[kv, .int .i64 c.torn, .int .i64 c.part] tCrash (0, 0))
  stand : StandAt W.heap q mq x (CrF F w q mq e0) tStand []
  ends : W.heap[e0]? = some (.cells #[.bool (en 0), .bool (en 1), .bool (en 2), .bool (en 3)] tB4 (0, 0))

theorem CrSt.next {w W W' : World} {F : Nat → Prop} {kv : Value} {c : Crash} {q mq e0 : Nat} {x : St} {en : Int → Bool} (h : CrSt w W F kv c q mq e0 x en) (hb : Below W.heap.size W W') : CrSt w W' F kv c q mq e0 x en := by
  have hs := h.below.size
  refine ⟨h.below.trans (hb.mono hs), h.hq, h.hmq, h.he0, h.ne1, h.ne2, h.ne3, h.nb, (hb.block _ (lt_of_row h.box)).trans h.box, ?_, (hb.block _ (lt_of_row h.ends)).trans h.ends⟩
  obtain ⟨t0, t1, t2, t3, c1, c2, b0, b1, b2, b3, n1, n2, n3⟩ := h.stand
  have keep : ∀ k, CrF F w q mq e0 k → k < W.heap.size → W'.heap[k]? = W.heap[k]? := fun k _ hl => hb.block k hl
  have big : ∀ k, CrF F w q mq e0 k → k < W.heap.size → CrF F w q mq e0 k := fun _ h _ => h
  have lm : mq < W.heap.size := by obtain ⟨es, cl, g, _⟩ := c2; exact lt_of_row g
  exact ⟨t0, t1, t2, t3, (hb.block _ (lt_of_row c1)).trans c1, c2.stays (hb.block _ lm), b0.keeps keep big, b1.keeps keep big, b2.keeps keep big, b3.keeps keep big, n1, n2, n3⟩

/-- What stands has turned. -/
theorem CrSt.did {w W W' : World} {F : Nat → Prop} {kv : Value} {c : Crash} {q mq e0 : Nat} {x x' : St} {en : Int → Bool} {e : Ending} (h : CrSt w W F kv c q mq e0 x en) (hd : Did W q mq x' (CrF F w q mq e0) tStand [] e W') : CrSt w W' F kv c q mq e0 x' en := by
  have hs := h.below.size
  have hm := hd.moves
  have lq : q < W.heap.size := by obtain ⟨t0, t1, t2, t3, c1, _⟩ := h.stand; exact lt_of_row c1
  have lm : mq < W.heap.size := by obtain ⟨t0, t1, t2, t3, c1, ⟨es, cl, g, _⟩, _⟩ := h.stand; exact lt_of_row g
  have le := lt_of_row h.ends
  have hq := h.hq
  have hmq := h.hmq
  have nb := h.nb
  have ne2 := h.ne2
  have ne3 := h.ne3
  refine ⟨⟨hm.os.trans h.below.os, hm.tape.trans h.below.tape, hm.output.trans h.below.output, by have := hm.size; omega, fun k hk => (hm.block k (by omega) (by omega)).trans (h.below.block k hk)⟩, h.hq, h.hmq, h.he0, h.ne1, h.ne2, h.ne3, h.nb,
    (hm.block _ (lt_of_row h.box) (by omega)).trans h.box, ?_, (hm.block _ le (by omega)).trans h.ends⟩
  refine hd.stand.weak (fun k hk hl => ?_) ?_ ?_
  · rcases hk with hk | hk
    · exact hk
    · exact Or.inr ⟨by omega, by omega, by omega, by omega⟩
  · rintro (h | h)
    · omega
    · exact h.2.1 rfl
  · rintro (h | h)
    · omega
    · exact h.2.2.1 rfl

/-- One of the ends is told. -/
theorem CrSt.endAt {w W : World} {F : Nat → Prop} {kv : Value} {c : Crash} {q mq e0 : Nat} {x : St} {en : Int → Bool} (h : CrSt w W F kv c q mq e0 x en) (t : Nat) (ht : t < 4) : W.cell? ⟨e0, t, none⟩ = some (.bool (en t)) := by
  obtain rfl | rfl | rfl | rfl : t = 0 ∨ t = 1 ∨ t = 2 ∨ t = 3 := by omega
  all_goals exact row_cell h.ends rfl

theorem CrSt.endSet {w W : World} {F : Nat → Prop} {kv : Value} {c : Crash} {q mq e0 : Nat} {x : St} {en : Int → Bool} (h : CrSt w W F kv c q mq e0 x en) (t : Nat) (ht : t < 4) (b : Bool) : CrSt w (W.setCell ⟨e0, t, none⟩ (.bool b)) F kv c q mq e0 x (upd en t b) := by
  have ho : ∀ k, k ≠ e0 → (W.setCell ⟨e0, t, none⟩ (.bool b)).heap[k]? = W.heap[k]? := fun k hk => heap_setCell_other W _ k _ hk
  have he0 := h.he0
  have nb := h.nb
  refine ⟨⟨h.below.os, h.below.tape, h.below.output, by simpa using h.below.size, fun k hk => (ho k (by omega)).trans (h.below.block k hk)⟩, h.hq, h.hmq, h.he0, h.ne1, h.ne2, h.ne3, h.nb, (ho _ nb.2.2).trans h.box, ?_, ?_⟩
  · obtain ⟨t0, t1, t2, t3, c1, c2, b0, b1, b2, b3, n1, n2, n3⟩ := h.stand
    have keep : ∀ k, CrF F w q mq e0 k → k < W.heap.size → (W.setCell ⟨e0, t, none⟩ (.bool b)).heap[k]? = W.heap[k]? := fun k hk hl => ho k (fun e => by
      subst e
      rcases hk with hk | hk
      · omega
      · exact hk.2.2.2 rfl)
    have big : ∀ k, CrF F w q mq e0 k → k < W.heap.size → CrF F w q mq e0 k := fun _ h _ => h
    exact ⟨t0, t1, t2, t3, (ho _ h.ne2.symm).trans c1, c2.stays (ho _ h.ne3.symm), b0.keeps keep big, b1.keeps keep big, b2.keeps keep big, b3.keeps keep big, n1, n2, n3⟩
  · rw [heap_setCell_same W e0 t _ _ _ h.ends]
    obtain rfl | rfl | rfl | rfl : t = 0 ∨ t = 1 ∨ t = 2 ∨ t = 3 := by omega
    all_goals simp [upd]

theorem StepsAt.slice {h : Array Obj} {F : Nat → Prop} {v : Value} {l : List Step} (x : StepsAt h F v l) : ∃ a c, v = .slice a l.length c ∧ l.length ≤ c ∧ (a = none → l = []) := by
  rcases x with ⟨rfl, rfl⟩ | ⟨b, o, cap, c, t, fr, rfl, h, _⟩
  · exact ⟨_, _, rfl, Nat.le_refl _, fun _ => rfl⟩
  · exact ⟨_, _, rfl, h, fun h => by cases h⟩

abbrev crBox (w : World) (kv : Value) (c : Crash) : World := w.alloc (.cells #[kv, .int .i64 c.torn, .int .i64 c.part] tCrash)

theorem crash_start {w W1 W2 : World} {F : Nat → Prop} {kv : Value} {c : Crash} {d : D} {l0 l1 l2 l3 : Value} {ml : Nat} {es2 : Array MapEntry} {clock2 : Nat} (hm : SecMap w.heap ml d.lasts.sec) (hml : w.heap[ml]? = some (.map es2 clock2)) (b0 : BytesAt w.heap F l0 (d.lasts.tp 0)) (b1 : BytesAt w.heap F l1 (d.lasts.tp 1)) (b2 : BytesAt w.heap F l2 (d.lasts.tp 2)) (b3 : BytesAt w.heap F l3 (d.lasts.tp 3))
    (hb1 : Below (crBox w kv c).heap.size (crBox w kv c) W1) (r1 : W1.heap[w.heap.size + 1 + 1]? = some (.map es2 clock2)) (HW : W2.heap[W1.heap.size]? = some (.cells #[.map (some (w.heap.size + 1 + 1)), l0, l1, l2, l3] tStand (0, 0)))
    (HM : Moves (fun k => k = W1.heap.size) (W1.alloc (.cells stand0 tStand)) W2) (HS : W2.heap.size = (W1.alloc (.cells stand0 tStand)).heap.size) :
    CrSt w (W2.alloc (.cells #[.bool false, .bool false, .bool false, .bool false] tB4)) F kv c W1.heap.size (w.heap.size + 1 + 1) W2.heap.size d.lasts (fun _ => false) ∧ W2.heap.size = W1.heap.size + 1 := by
  have z1 := lt_of_row r1
  have z2 : W2.heap.size = W1.heap.size + 1 := by rw [HS]; simp
  have zb : (crBox w kv c).heap.size = w.heap.size + 1 := by simp
  have hbw : Below w.heap.size w W1 := ((Below.refl _ _).alloc (Nat.le_refl _) _).trans (hb1.mono (by simp))
  have hb2 : Below w.heap.size w W2 := Moves.new (hbw.alloc (by omega) _) HM (by omega)
  have hb3 : Below w.heap.size w (W2.alloc (.cells #[.bool false, .bool false, .bool false, .bool false] tB4)) := hb2.alloc (by omega) _
  have up : ∀ k o, k ≠ W1.heap.size → k < W1.heap.size → W1.heap[k]? = some o → (W2.alloc (.cells #[.bool false, .bool false, .bool false, .bool false] tB4)).heap[k]? = some o := fun k o h1 h2 h3 =>
    heap_past (by omega) ((HM.block k (by simp; omega) h1).trans (heap_past h2 h3))
  refine ⟨⟨hb3, by omega, by omega, by omega, by omega, by omega, by omega, ⟨by omega, by omega, by omega⟩, ?_, ?_, heap_alloc_last _ _⟩, z2⟩
  · exact up _ _ (by omega) (by omega) ((hb1.block _ (by simp)).trans (heap_alloc_last w _))
  · have keep : ∀ k, F k → k < w.heap.size → (W2.alloc (.cells #[.bool false, .bool false, .bool false, .bool false] tB4)).heap[k]? = w.heap[k]? := fun k _ hl => hb3.block k hl
    have big : ∀ k, F k → k < w.heap.size → CrF F w W1.heap.size (w.heap.size + 1 + 1) W2.heap.size k := fun k h hl => Or.inl ⟨h, hl⟩
    refine ⟨l0, l1, l2, l3, heap_past (by omega) HW, hm.other hml (up _ _ (by omega) z1 r1), b0.keeps keep big, b1.keeps keep big, b2.keeps keep big, b3.keeps keep big, ?_, ?_, by omega⟩
    · rintro (h | h)
      · omega
      · exact h.2.2.1 rfl
    · rintro (h | h)
      · omega
      · exact h.2.1 rfl

/-- The relation of the loop. -/
def CrRel (w : World) (d : D) (F : Nat → Prop) (kv : Value) (c : Crash) (q mq e0 : Nat) (k : Nat) (W : World) : Prop :=
  ∃ x en, CrSt w W F kv c q mq e0 x en ∧ CrInv d k x en ∧ crashGo c d.waits.length (d.waits.drop k) k x en = crashGo c d.waits.length d.waits 0 d.lasts (fun _ => false)

theorem CrRel.next {w : World} {d : D} {F : Nat → Prop} {kv : Value} {c : Crash} {q mq e0 k : Nat} {W : World} {x : St} {en : Int → Bool} {s : Step} (ok : d.ok) (inv : CrInv d k x en) (eqn : crashGo c d.waits.length (d.waits.drop k) k x en = crashGo c d.waits.length d.waits 0 d.lasts (fun _ => false))
    (hs : d.waits[k]? = some s) (hk : ¬ (s.what ≠ 1 ∧ en s.n = true)) {x' : St} {en' : Int → Bool} (cs : CrSt w W F kv c q mq e0 x' en') (hx : x' = crashX c d.waits.length k s x) (he : en' = crashE c d.waits.length k s en) : CrRel w d F kv c q mq e0 (k + 1) W := by
  subst hx; subst he
  refine ⟨_, _, cs, inv.step ok hs c _ hk, ?_⟩
  obtain ⟨hlt, e⟩ := List.getElem?_eq_some_iff.1 hs
  rw [← eqn, List.drop_eq_getElem_cons hlt, e, crashGo_step _ _ _ _ _ _ _ hk]

/-- What a crash hands back. -/
def CrashPost (w : World) (F : Nat → Prop) (d' : D) (e : Ending) (w' : World) : Prop :=
  ∃ p' m' F', e = .returned (.tuple #[.pointer (some ⟨p', 0, none⟩), .int .i64 0]) ∧ Below w.heap.size w w' ∧ w.heap.size ≤ p' ∧ w.heap.size ≤ m' ∧ DiskAt w'.heap p' m' d' F' ∧ ∀ k, F' k → (F k ∧ k < w.heap.size) ∨ (w.heap.size ≤ k ∧ k < w'.heap.size)

theorem crash_end {w wr W9 : World} {d : D} {F : Nat → Prop} {kv : Value} {c : Crash} {q mq e0 : Nat} {x : St} {en : Int → Bool} {u0 u1 u2 u3 : Value} {es : Array MapEntry} {clock : Nat} (ok : d.ok) (cs : CrSt w wr F kv c q mq e0 x en) (inv : CrInv d d.waits.length x en)
    (eqn : x = crashGo c d.waits.length d.waits 0 d.lasts (fun _ => false)) (r1 : wr.heap[q]? = some (.cells [.map (some mq), u0, u1, u2, u3].toArray tStand (0, 0))) (r2 : SecMap wr.heap mq x.sec) (r3 : wr.heap[mq]? = some (.map es clock))
    (v0 : BytesAt wr.heap (CrF F w q mq e0) u0 (x.tp 0)) (v1 : BytesAt wr.heap (CrF F w q mq e0) u1 (x.tp 1)) (v2 : BytesAt wr.heap (CrF F w q mq e0) u2 (x.tp 2)) (v3 : BytesAt wr.heap (CrF F w q mq e0) u3 (x.tp 3))
    (hb : Below wr.heap.size wr W9) (r9 : W9.heap[wr.drew.heap.size + 1]? = some (.map es clock)) :
    CrashPost w F (d.crash c) (.returned (.tuple #[.pointer (some ⟨W9.heap.size, 0, none⟩), .int .i64 0])) (W9.alloc (.cells (diskC mq u0 u1 u2 u3 (wr.heap.size + 1) u0 u1 u2 u3 (.slice none 0 0) d.many d.room false false 0) tDisk)) := by
  have r9' : W9.heap[wr.heap.size + 1]? = some (.map es clock) := r9
  have z9 := lt_of_row r9'
  have zq := lt_of_row r1
  have zm := lt_of_row r3
  have hz := cs.below.size
  have hmq := cs.hmq
  have hq := cs.hq
  have hb' : Below w.heap.size w (W9.alloc (.cells (diskC mq u0 u1 u2 u3 (wr.heap.size + 1) u0 u1 u2 u3 (.slice none 0 0) d.many d.room false false 0) tDisk)) := (cs.below.trans (hb.mono hz)).alloc (by omega) _
  have hx : (d.crash c).lasts = x := eqn.symm
  have hst : (d.crash c).stand = x := eqn.symm
  have sz : (W9.alloc (.cells (diskC mq u0 u1 u2 u3 (wr.heap.size + 1) u0 u1 u2 u3 (.slice none 0 0) d.many d.room false false 0) tDisk)).heap.size = W9.heap.size + 1 := by simp
  refine ⟨W9.heap.size, mq, fun k => (F k ∧ k < w.heap.size) ∨ (w.heap.size ≤ k ∧ k < W9.heap.size ∧ k ≠ mq), rfl, hb', by omega, hmq, ?_, fun k hk => ?_⟩
  · have keep : ∀ k, CrF F w q mq e0 k → k < wr.heap.size → (W9.alloc (.cells (diskC mq u0 u1 u2 u3 (wr.heap.size + 1) u0 u1 u2 u3 (.slice none 0 0) d.many d.room false false 0) tDisk)).heap[k]? = wr.heap[k]? := fun k _ hl => (heap_old_own _ _ _ (by omega)).trans (hb.block k hl)
    have big : ∀ k, CrF F w q mq e0 k → k < wr.heap.size → ((F k ∧ k < w.heap.size) ∨ (w.heap.size ≤ k ∧ k < W9.heap.size ∧ k ≠ mq)) := fun k hk hl => by
      rcases hk with hk | hk
      · exact Or.inl hk
      · exact Or.inr ⟨hk.1, by omega, hk.2.2.1⟩
    have rm : (W9.alloc (.cells (diskC mq u0 u1 u2 u3 (wr.heap.size + 1) u0 u1 u2 u3 (.slice none 0 0) d.many d.room false false 0) tDisk)).heap[mq]? = some (.map es clock) := heap_past (by omega) ((hb.block _ zm).trans r3)
    refine ⟨crash_ok ok c, u0, u1, u2, u3, wr.heap.size + 1, u0, u1, u2, u3, .slice none 0 0, false, 0, heap_alloc_last _ _, rfl, (fun h => by cases h), ?_, ?_, Or.inr ⟨by omega, z9, by omega⟩, ?_, ?_, by omega, ?_, ?_, ?_, ?_, ?_, ?_, ?_, ?_, Or.inl ⟨rfl, rfl⟩⟩
    · rw [hst]; exact r2.other r3 rm
    · rw [hx]; exact r2.other r3 (heap_past z9 r9')
    · rintro (h | h)
      · omega
      · exact h.2.2 rfl
    · rintro (h | h)
      · omega
      · omega
    · rw [hst]; exact v0.keeps keep big
    · rw [hst]; exact v1.keeps keep big
    · rw [hst]; exact v2.keeps keep big
    · rw [hst]; exact v3.keeps keep big
    · rw [hx]; exact v0.keeps keep big
    · rw [hx]; exact v1.keeps keep big
    · rw [hx]; exact v2.keeps keep big
    · rw [hx]; exact v3.keeps keep big
  · rcases hk with hk | hk
    · exact Or.inl hk
    · exact Or.inr ⟨hk.1, by rw [sz]; omega⟩

end Go.Proofs.Ytiefhmbpaoecfaa

namespace Go.Proofs.Ytiefhmbpaoecfaa
open Go.RowKit Dm

theorem Step.same_iff (s t : Step) : s = t ↔ (s.what = t.what ∧ s.n = t.n ∧ s.many = t.many) ∧ s.b = t.b := by
  obtain ⟨a, b, c, d⟩ := s
  obtain ⟨a', b', c', d'⟩ := t
  simp only [Step.mk.injEq]
  exact ⟨fun h => ⟨⟨h.1, h.2.1, h.2.2.1⟩, h.2.2.2⟩, fun h => ⟨h.1.1, h.1.2.1, h.1.2.2, h.2⟩⟩

/-- The cells of a step in a slice. -/
theorem StepsAt.row {w : World} {F : Nat → Prop} {a : Option Addr} {n c : Nat} {l : List Step} (x : StepsAt w.heap F (.slice a n c) l) {k : Nat} {s : Step} (hs : l[k]? = some s) :
    ∃ b o, a = some ⟨b, o, none⟩ ∧ ∃ a0 a1 a2 st, w.rangeAt b (o + k * 7) (stepL a0 a1 a2 (.int .i64 s.what) (.int .i64 s.n) (.int .i64 s.many) (.string st)) ∧ st.data.toList = s.b ∧ (∀ v ∈ stepL a0 a1 a2 (.int .i64 s.what) (.int .i64 s.n) (.int .i64 s.many) (.string st), v.oneCell' = true) := by
  rcases x with ⟨h1, h2⟩ | ⟨b, o, cap, c', tt, fr, h1, h2, h3, g2, g3, g4⟩
  · rw [h2] at hs; simp at hs
  · obtain ⟨a0, a1, a2, a3, a4, a5, a6, e0, e1, e2, e3, e4, e5, e6, e7⟩ := g4 k s hs
    have on := e7.ones
    obtain ⟨rfl, rfl, rfl, ⟨st, rfl, e8⟩, _⟩ := e7
    refine ⟨b, o, (Value.slice.inj h1).1, a0, a1, a2, st, ?_, e8, on⟩
    intro j v hj
    rw [cell_of_row _ _ _ _ _ _ g3]
    match j, hj with
    | 0, hj => cases hj; exact e0
    | 1, hj => cases hj; exact e1
    | 2, hj => cases hj; exact e2
    | 3, hj => cases hj; exact e3
    | 4, hj => cases hj; exact e4
    | 5, hj => cases hj; exact e5
    | 6, hj => cases hj; exact e6
    | n + 7, hj => cases hj

theorem StepsAt.len {h : Array Obj} {F : Nat → Prop} {v : Value} {l : List Step} (x : StepsAt h F v l) : l.length ≤ 9223372036854775807 := by
  rcases x with ⟨_, rfl⟩ | ⟨b, o, cap, c, t, fr, _, h1, h2, _⟩
  · simp
  · omega

set_option maxRecDepth 100000 in
set_option maxHeartbeats 4000000 in
theorem sameSteps_c {w : World} {F G : Nat → Prop} {u v : Value} {l k : List Step} (x : StepsAt w.heap F u l) (y : StepsAt w.heap G v k) :
    Calls Try.prog 54 #[u, v, .func (.func 53) #[] #[]] w fun e w' => ∃ r : Bool, e = .returned (.bool r) ∧ (r = true ↔ l = k) ∧ Below w.heap.size w w' := by
  obtain ⟨a, c, rfl, _, _⟩ := x.slice
  obtain ⟨a', c', rfl, _, _⟩ := y.slice
  have X := Lib.hid (And.intro x y)
  have hmax := x.len
  clear x y
  by_cases hne : (l.length : Int) = (k.length : Int)
  · have hl : l.length = k.length := by omega
    have HL := Lib.hid hl
    have q : ((l.length : Int) != (k.length : Int)) = false := by simpa using hne
    clear hl hne
    go_enter Try.func54, Try.ntmps54
    go_wp2
    go_loopg [17] l.length (fun g s wr => ∃ i : Nat, s = .int .i64 (i : Int) ∧ g + i = l.length ∧ Below w.heap.size w wr ∧ ∀ j, j < i → l[j]? = k[j]?)
    case atStart => exact ⟨0, rfl, rfl, Below.refl _ _, fun j h => absurd h (by omega)⟩
    case round =>
      obtain ⟨i, rfl, hg, hb, hall⟩ := hrel
      by_cases hlt : i < l.length
      · obtain ⟨s, hs⟩ : ∃ s, l[i]? = some s := ⟨_, List.getElem?_eq_getElem hlt⟩
        obtain ⟨t, ht⟩ : ∃ t, k[i]? = some t := ⟨_, List.getElem?_eq_getElem (by have := HL.out; omega)⟩
        have x' : StepsAt wr.heap F (.slice a l.length c) l := X.out.1.keeps (fun k _ hl => hb.block k hl) (fun _ h _ => h)
        have y' : StepsAt wr.heap G (.slice a' k.length c') k := X.out.2.keeps (fun k _ hl => hb.block k hl) (fun _ h _ => h)
        obtain ⟨b, o, rfl, a0, a1, a2, st, r1, e1, n1⟩ := x'.row hs
        obtain ⟨b', o', rfl, b0, b1, b2, tt, r2, e2, n2⟩ := y'.row ht
        have hr2 : b' < wr.heap.size := block_lt_of_cell (r2 0 _ rfl)
        have R := Lib.hid (And.intro r1 (And.intro n1 (And.intro r2 (And.intro n2 (And.intro hr2 (And.intro hs (And.intro ht (And.intro hb (And.intro hg (And.intro hall (And.intro e1 e2)))))))))))
        have hi0 : (0 : Int) ≤ (i : Int) := by omega
        have hi1 : (i : Int) < (l.length : Int) := by omega
        have hi2 : (i : Int) < (k.length : Int) := by have := HL.out; omega
        clear r1 n1 r2 n2 hr2 hs ht hb hg hall e1 e2 x' y'
        go_upto_region 6 with (first
          | (refine wpList_load_mid rfl tStep (.tmp 20) rfl b (o + i * 7) rfl _ _ R.out.1 Try.underlying82 rfl (by rw [infoStep1]; rfl) ?_)
          | (refine wpList_store_abs rfl tStep (.tmp 8) (.tmp 21) rfl wr.heap.size (stepL a0 a1 a2 (.int .i64 s.what) (.int .i64 s.n) (.int .i64 s.many) (.string st)).toArray rfl rfl tStep _ (heap_alloc_last wr _) (by rw [infoStep1]; rfl) (by rfl) (all_oneCell_toArray R.out.2.1) ?_; intro W5 HW5 HM5 HS5))
        have hb5 : Below wr.heap.size wr W5 := Moves.new ((Below.refl _ _).alloc (Nat.le_refl _) _) HM5 (Nat.le_refl _)
        have z5 : wr.heap.size < W5.heap.size := lt_of_row HW5.out
        have H5 := Lib.hid (And.intro hb5 (And.intro HW5.out z5))
        have r2' : W5.rangeAt b' (o' + i * 7) (stepL b0 b1 b2 (.int .i64 t.what) (.int .i64 t.n) (.int .i64 t.many) (.string tt)) := fun j v hj => (hb5.cell (p := ⟨b', _, none⟩) R.out.2.2.2.2.1).trans (R.out.2.2.1 j v hj)
        have R2 := Lib.hid r2'
        clear hb5 HW5 HM5 HS5 z5 r2'
        generalize hw8 : wr.heap.size = w8 at *
        have Z8 := Lib.hid hw8
        clear hw8
        go_upto_region 7 with (first
          | (refine wpList_load_mid rfl tStep (.tmp 24) rfl b' (o' + i * 7) rfl _ _ R2.out Try.underlying82 rfl (by rw [infoStep1]; rfl) ?_)
          | (refine wpList_store_abs rfl tStep (.tmp 9) (.tmp 25) rfl W5.heap.size (stepL b0 b1 b2 (.int .i64 t.what) (.int .i64 t.n) (.int .i64 t.many) (.string tt)).toArray rfl rfl tStep _ (heap_alloc_last W5 _) (by rw [infoStep1]; rfl) (by rfl) (all_oneCell_toArray R.out.2.2.2.1) ?_; intro W6 HW6 HM6 HS6))
        have hb6 : Below W5.heap.size W5 W6 := Moves.new ((Below.refl _ _).alloc (Nat.le_refl _) _) HM6 (Nat.le_refl _)
        have h86 : W6.heap[w8]? = some (.cells (stepL a0 a1 a2 (.int .i64 s.what) (.int .i64 s.n) (.int .i64 s.many) (.string st)).toArray tStep (0, 0)) := (hb6.block _ H5.out.2.2).trans H5.out.2.1
        have hbw : Below w.heap.size w W6 := R.out.2.2.2.2.2.2.2.1.trans ((H5.out.1.mono (by rw [← Z8.out]; exact R.out.2.2.2.2.2.2.2.1.size)).trans (hb6.mono (by have := R.out.2.2.2.2.2.2.2.1.size; have := H5.out.1.size; have := Z8.out; omega)))
        have SM := same1_c W6 a0 a1 a2 b0 b1 b2 s.what s.n s.many t.what t.n t.many st tt
        have est : ((s.what = t.what ∧ s.n = t.n ∧ s.many = t.many) ∧ st = tt) ↔ s = t := by
          rw [Step.same_iff, ← R.out.2.2.2.2.2.2.2.2.2.2.1, ← R.out.2.2.2.2.2.2.2.2.2.2.2]
          obtain ⟨⟨st⟩⟩ := st
          obtain ⟨⟨tt⟩⟩ := tt
          simp
        have EST := Lib.hid est
        have H6 := Lib.hid (And.intro hbw (And.intro h86 (And.intro HW6.out SM)))
        clear hbw h86 HW6 HM6 HS6 hb6 SM est
        generalize W5.heap.size = w9 at *
        by_cases hst : s = t
        · have ST := Lib.hid hst
          have e1 : decide ((s.what = t.what ∧ s.n = t.n ∧ s.many = t.many) ∧ st = tt) = true := decide_eq_true (EST.out.2 hst)
          rw [e1] at H6
          clear hst e1
          go_wp2_with (first
            | (refine wpList_load_row rfl tStep (.tmp 8) rfl w8 rfl tStep (stepL a0 a1 a2 (.int .i64 s.what) (.int .i64 s.n) (.int .i64 s.many) (.string st)).toArray (0, 0) _ H6.out.2.1 Try.underlying82 rfl (by rw [infoStep1]; rfl) ?_)
            | (refine wpList_load_row rfl tStep (.tmp 9) rfl w9 rfl tStep (stepL b0 b1 b2 (.int .i64 t.what) (.int .i64 t.n) (.int .i64 t.many) (.string tt)).toArray (0, 0) _ H6.out.2.2.1 Try.underlying82 rfl (by rw [infoStep1]; rfl) ?_)
            | (go_at_call 53; refine H6.out.2.2.2.mono ?_; rintro e w7 ⟨rfl, hb7⟩))
          go_roundg (l.length - (i + 1))
          case measure => have := R.out.2.2.2.2.2.2.2.2.1; omega
          case rel =>
            refine ⟨i + 1, by go_num, by have := (List.getElem?_eq_some_iff.1 R.out.2.2.2.2.2.1).1; omega, H6.out.1.trans (hb7.mono H6.out.1.size), ?_⟩
            intro j hj
            by_cases h : j < i
            · exact R.out.2.2.2.2.2.2.2.2.2.1 j h
            · obtain rfl : j = i := by omega
              rw [R.out.2.2.2.2.2.1, R.out.2.2.2.2.2.2.1, ST.out]
        · have ST := Lib.hid hst
          have e1 : decide ((s.what = t.what ∧ s.n = t.n ∧ s.many = t.many) ∧ st = tt) = false := decide_eq_false (fun h => hst (EST.out.1 h))
          rw [e1] at H6
          clear hst e1
          go_wp2_with (first
            | (refine wpList_load_row rfl tStep (.tmp 8) rfl w8 rfl tStep (stepL a0 a1 a2 (.int .i64 s.what) (.int .i64 s.n) (.int .i64 s.many) (.string st)).toArray (0, 0) _ H6.out.2.1 Try.underlying82 rfl (by rw [infoStep1]; rfl) ?_)
            | (refine wpList_load_row rfl tStep (.tmp 9) rfl w9 rfl tStep (stepL b0 b1 b2 (.int .i64 t.what) (.int .i64 t.n) (.int .i64 t.many) (.string tt)).toArray (0, 0) _ H6.out.2.2.1 Try.underlying82 rfl (by rw [infoStep1]; rfl) ?_)
            | (go_at_call 53; refine H6.out.2.2.2.mono ?_; rintro e w7 ⟨rfl, hb7⟩))
          go_ret
          refine ⟨false, rfl, ⟨fun h => (by cases h), fun h => ?_⟩, H6.out.1.trans (hb7.mono H6.out.1.size)⟩
          have h1 := R.out.2.2.2.2.2.1
          rw [h, R.out.2.2.2.2.2.2.1] at h1
          exact absurd (Option.some.inj h1).symm ST.out
      · obtain rfl : i = l.length := by omega
        go_wp2
        go_ret
        refine ⟨true, rfl, ⟨fun _ => ?_, fun _ => rfl⟩, hb⟩
        refine List.ext_getElem? fun j => ?_
        by_cases h : j < l.length
        · exact hall j h
        · rw [List.getElem?_eq_none (by omega), List.getElem?_eq_none (by have := HL.out; omega)]
  · have q : ((l.length : Int) != (k.length : Int)) = true := by simpa using hne
    have HN := Lib.hid hne
    clear hne
    go_enter Try.func54, Try.ntmps54
    go_wp2
    go_ret
    exact ⟨false, rfl, ⟨fun h => (by cases h), fun h => absurd (by rw [h]) HN.out⟩, Below.refl _ _⟩

end Go.Proofs.Ytiefhmbpaoecfaa
