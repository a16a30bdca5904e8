/-
  The law's 'act': what its calls leave; Cut, Sync, Stop.
  Slices of bytes that come in: an empty one may have any address.
  Bytes that are raised, one by one.
  256 bytes that begin so.
  The law's acts, in memory; few.
-/
import Derived.Test.YtiefhmbpaoecfaaG09
import Derived.Test.YtiefhmbpaoecfaaG17
import Derived.Test.YtiefhmbpaoecfaaG19
import Derived.Deep.LoopGhost
import Derived.Laws.CopyOwn

namespace Go.Proofs.Ytiefhmbpaoecfaa
open Go.RowKit Dm

theorem results_three {P : Program} {fn : Func} {p q r : Tmp} {ty : TypeId} (h : fn.results = #[.tmp p, .cell q ty, .tmp r]) (tmps : Array Value) (w : World) (g : Nat) (t : TypeId) (cs : Array Value) (fr : Nat × Nat) (d : TypeDesc) (v v2 : Value)
    (hp : tmps.getD p undef = v) (hq : tmps.getD q undef = .pointer (some ⟨g, 0, none⟩)) (hr : tmps.getD r undef = v2) (hg : w.heap[g]? = some (.cells cs t fr))
    (hu : P.underlying ty = some d) (hd : (match d with | .struct _ | .array _ _ => true | _ => false) = true) (hi : (P.info? ty).map (·.size) = some cs.size) :
    (results fn tmps).run P w = .ok (.tuple #[v, .agg cs, v2]) w := by
  have hp' : tmps[p]?.getD undef = v := by simpa using hp
  have hq' : tmps[q]?.getD undef = .pointer (some ⟨g, 0, none⟩) := by simpa using hq
  have hr' : tmps[r]?.getD undef = v2 := by simpa using hr
  simp [results, h, hp', hq', hr', asAddr, run_loadVar_row w g t ty cs fr d hg hu hd hi]

/-- What 'act' leaves, of a call behind which the same disk stands. -/
def ActPost (w : World) (p m : Nat) (F : Nat → Prop) (d' : D) (e : Ending) (w' : World) : Prop :=
  ∃ v' F', e = .returned (.tuple #[.pointer (some ⟨p, 0, none⟩), v', .bool true]) ∧ Moves (fun k => k = p ∨ k = m) w w' ∧ DiskAt w'.heap p m d' F' ∧ RefAt w'.heap F' v' d' ∧ ∀ k, F' k → (F k ∧ k < w.heap.size) ∨ (w.heap.size ≤ k ∧ k < w'.heap.size)

theorem act_end {w W0 W1 W2 W3 W4 : World} {p m : Nat} {F : Nat → Prop} {d d' : D} {v1 : Value} {c : Int} {e : Ending} (x : DiskAt w.heap p m d F) (hb0 : Below w.heap.size w W0) (hb1 : Below W0.heap.size W0 W1) (hr1 : RefAt W1.heap (plus (fun k => F k ∧ k < w.heap.size) W0 W1) v1 d')
    (hb2 : Below W1.heap.size W1 W2) (hL : Left W2 p m (fun k => F k ∧ k < w.heap.size) (d', c) e W3) (hm4 : Moves (fun k => w.heap.size ≤ k ∧ k < W0.heap.size) W3 W4) : ActPost w p m F d' (.returned (.tuple #[.pointer (some ⟨p, 0, none⟩), v1, .bool true])) W4 := by
  obtain ⟨lp, lm, hne, np, nm⟩ := x.lt
  obtain ⟨_, mv, hd3⟩ := hL
  have z0 := hb0.size
  have z1 := hb1.size
  have z2 := hb2.size
  have z3 := mv.size
  have z4 := hm4.size
  have blk : ∀ k, k < W2.heap.size → k ≠ p → k ≠ m → ¬ (w.heap.size ≤ k ∧ k < W0.heap.size) → W4.heap[k]? = W2.heap[k]? := fun k hk h1 h2 h3 => by
    rw [hm4.block k (by omega) h3, mv.block k hk (fun e => by rcases e with e | e; exact h1 e; exact h2 e)]
  refine ⟨v1, fun k => (F k ∧ k < w.heap.size) ∨ (W0.heap.size ≤ k ∧ k < W4.heap.size), rfl, ?_, ?_, ?_, fun k hk => ?_⟩
  · refine ⟨hm4.os.trans (mv.os.trans (hb2.os.trans (hb1.os.trans hb0.os))), hm4.tape.trans (mv.tape.trans (hb2.tape.trans (hb1.tape.trans hb0.tape))), hm4.output.trans (mv.output.trans (hb2.output.trans (hb1.output.trans hb0.output))), by omega, fun k hk hn => ?_⟩
    rw [hm4.block k (by omega) (by omega), mv.block k (by omega) hn, hb2.block k (by omega), hb1.block k (by omega), hb0.block k hk]
  · have y := hd3.keeps (h' := W4.heap) (F' := fun k => (F k ∧ k < w.heap.size) ∨ (W2.heap.size ≤ k ∧ k < W3.heap.size)) (hm4.block p (by omega) (by omega)) (hm4.block m (by omega) (by omega)) (fun k hk hl => hm4.block k hl (by rcases hk with hk | hk <;> omega)) (fun k hk _ => hk) (fun k hk => Or.inl hk)
    refine y.weak (fun k hk hl => ?_) ?_ ?_
    · rcases hk with hk | hk
      · exact Or.inl hk
      · exact Or.inr ⟨by omega, hl⟩
    · rintro (h | h)
      · exact np h.1
      · omega
    · rintro (h | h)
      · exact nm h.1
      · omega
  · refine hr1.keeps (fun k hk hl => ?_) (fun k hk hl => ?_)
    · have hkp : k ≠ p ∧ k ≠ m ∧ ¬ (w.heap.size ≤ k ∧ k < W0.heap.size) := by
        rcases hk with hk | hk
        · exact ⟨fun e => np (e ▸ hk.1), fun e => nm (e ▸ hk.1), by omega⟩
        · exact ⟨by omega, by omega, by omega⟩
      rw [blk k (by omega) hkp.1 hkp.2.1 hkp.2.2, hb2.block k hl]
    · rcases hk with hk | hk
      · exact Or.inl hk
      · exact Or.inr ⟨hk.1, by omega⟩
  · rcases hk with hk | hk
    · exact Or.inl hk
    · exact Or.inr ⟨by omega, hk.2⟩

abbrev tAct : Nat := 46
abbrev actC (what sec n : Int) (bv : Value) (raw : Bool) (kv : Value) (torn part : Int) : Array Value := #[.int .i64 what, .int .i64 sec, .int .i64 n, bv, .bool raw, kv, .int .i64 torn, .int .i64 part]
abbrev actW (w : World) (C A : Array Value) : World := ((w.alloc (.cells C tRDisk)).alloc (.cells A tAct)).alloc (.cells ref0 tRDisk)

/-- The set-up of 'act'. -/
structure ActIn (w W0 : World) (p m : Nat) (F : Nat → Prop) (C A : Array Value) (d : D) : Prop where
  below : Below w.heap.size w W0
  r0 : W0.heap[w.heap.size]? = some (.cells C tRDisk (0, 0))
  r1 : W0.heap[w.heap.size + 1]? = some (.cells A tAct (0, 0))
  r2 : W0.heap[w.heap.size + 1 + 1]? = some (.cells ref0 tRDisk (0, 0))
  size : W0.heap.size = w.heap.size + 3
  disk : DiskAt w.heap p m d F
  ref : RefAt w.heap F (.agg C) d
  csz : C.size = 10
  c0 : C[0]? = some (.int .i64 d.many)

theorem actIn_of {w : World} {p m : Nat} {F : Nat → Prop} {v : Value} {d : D} (x : DiskAt w.heap p m d F) (hr : RefAt w.heap F v d) (A : Array Value) : ∃ C, v = .agg C ∧ ActIn w (actW w C A) p m F C A d := by
  have hr0 := hr
  obtain ⟨sv, t0, t1, t2, t3, wv, rfl, rb, st⟩ := hr
  exact ⟨_, rfl, (((Below.refl _ _).alloc (Nat.le_refl _) _).alloc (by simp) _).alloc (by simp; omega) _, heap_past (by simp <;> omega) (heap_past (by simp) (heap_alloc_last w _)), heap_past (by simp) (heap_at (w := w.alloc _) _ (by simp)), heap_at (w := (w.alloc _).alloc _) _ (by simp), by simp, x, hr0, rfl, rfl⟩

theorem ActIn.at0 {w W0 X : World} {p m : Nat} {F : Nat → Prop} {C A : Array Value} {d : D} (h : ActIn w W0 p m F C A d) (hb : Below W0.heap.size W0 X) : RefAt X.heap (fun k => F k ∧ k < w.heap.size) (.agg C) d :=
  h.ref.keeps (fun k _ hl => (hb.block k (by have := h.size; omega)).trans (h.below.block k hl)) (fun k hk hl => ⟨hk, hl⟩)

theorem ActIn.disk0 {w W0 X : World} {p m : Nat} {F : Nat → Prop} {C A : Array Value} {d : D} (h : ActIn w W0 p m F C A d) (hb : Below W0.heap.size W0 X) : DiskAt X.heap p m d (fun k => F k ∧ k < w.heap.size) := by
  have hbw : Below w.heap.size w X := h.below.trans (hb.mono h.below.size)
  obtain ⟨lp, lm, hne, np, nm⟩ := h.disk.lt
  exact (h.disk.weak (fun k hk hl => (⟨hk, hl⟩ : F k ∧ k < w.heap.size)) (fun h => np h.1) (fun h => nm h.1)).below hbw

/-- Worlds in which two blocks are as they are here. -/
def ActCls (g1 g2 : Nat) (W2 X : World) : Prop := X.heap[g1]? = W2.heap[g1]? ∧ X.heap[g2]? = W2.heap[g2]?

theorem calls_left {w : World} {p m : Nat} {F : Nat → Prop} {r : D × Int} {f : Nat} {args : Array Value} (h : Calls Try.prog f args w (Left w p m F r)) : Calls Try.prog f args w fun e w' => e = .returned (.int .i64 r.2) ∧ Left w p m F r (.returned (.int .i64 r.2)) w' :=
  h.mono fun e w' hL => ⟨hL.1, by have e1 := hL.1; subst e1; exact hL⟩

end Go.Proofs.Ytiefhmbpaoecfaa

namespace Go.Proofs.Ytiefhmbpaoecfaa
open Go.RowKit Dm

/-- Bytes that came in. -/
def BytesIn (h : Array Obj) (F : Nat → Prop) (v : Value) (l : List UInt8) : Prop := ((∃ ad c, v = .slice (some ad) 0 c) ∧ l = []) ∨ BytesAt h F v l

theorem BytesIn.slice {h : Array Obj} {F : Nat → Prop} {v : Value} {l : List UInt8} (x : BytesIn h F v l) : ∃ a c, v = .slice a l.length c := by
  rcases x with ⟨⟨ad, c, rfl⟩, rfl⟩ | x
  · exact ⟨_, _, rfl⟩
  · exact x.slice

theorem BytesIn.keeps {h h' : Array Obj} {F F' : Nat → Prop} {v : Value} {l : List UInt8} (x : BytesIn h F v l) (hs : ∀ k, F k → k < h.size → h'[k]? = h[k]?) (hF : ∀ k, F k → k < h.size → F' k) : BytesIn h' F' v l := by
  rcases x with x | x
  · exact Or.inl x
  · exact Or.inr (x.keeps hs hF)

theorem BytesIn.src {w : World} {G : Nat → Prop} {v : Value} {l : List UInt8} (x : BytesIn w.heap G v l) : SrcAt w 1 v l.length (l.map bval) := by
  rcases x with ⟨⟨ad, c, rfl⟩, rfl⟩ | x
  · exact Or.inr ⟨ad, c, rfl, rfl, fun j u hj => by simp at hj, fun u hu => by simp at hu⟩
  · exact x.src

theorem wpList_append_bytesIn {ops : Array Oper} {rest : List Oper} {o : Oper} {a : Act} {w : World} {Q : Exit → Act → World → Prop} (hgd : o.guard = none) (s x : Operand)
    (ho : o.op = .call { callee := .builtin .append, args := #[s, x], argTypes := #[tBytes, tBytes] })
    (B base : Nat) (w0 : World) (hb : Below B w0 w) (hB : B ≤ base) (v : Value) (l1 : List UInt8) (hs : a.eval s = v) (hown : OwnB w base v l1)
    (v2 : Value) (l2 : List UInt8) (G : Nat → Prop) (hx : a.eval x = v2) (hsrc : BytesIn w.heap G v2 l2)
    (hl : l1.length + l2.length ≤ 1099511627776) (hbase : base ≤ w.heap.size)
    (h : ∀ v' w', Hid (OwnB w' base v' (l1 ++ l2)) → Below B w0 w' → Below base w w' → wpList Try.prog ops Q rest (a.put o.dst v') w') : wpList Try.prog ops Q (o :: rest) a w := by
  refine wpList_append_row hgd s x tBytes ho B base w0 hb hB tByte (.int .u8 0) 1 1 Try.underlying36 infoByte rfl (by decide) v l1.length (l1.map bval) hs hown v2 l2.length (l2.map bval) hx hsrc.src (by unfold maxLen; omega) (by omega) hbase ?_
  intro v' w' ho' h1 h2
  refine h v' w' ?_ h1 h2
  have := ho'.out
  unfold OwnB
  rw [List.length_append, List.map_append]
  exact this

end Go.Proofs.Ytiefhmbpaoecfaa

namespace Go.Proofs.Ytiefhmbpaoecfaa
open Go.RowKit Dm

/-- Between two rounds: only blocks of BB have turned; the bytes are bytes. -/
structure IncRel (BB : Nat → Prop) (va : Option Addr) (n : Nat) (W3 wr : World) : Prop where
  moves : Moves BB W3 wr
  size : wr.heap.size = W3.heap.size
  row : ∀ g, va = some ⟨g, 0, none⟩ → BB g ∧ ∃ c t, wr.heap[g]? = some (.cells c t (0, 0)) ∧ ∀ i, i < n → ∃ y : Int, 0 ≤ y ∧ y < 256 ∧ c[i]? = some (.int .u8 y)

theorem IncRel.start {BB : Nat → Prop} {W3 : World} {va : Option Addr} {n c : Nat} {l : List UInt8} {base : Nat} (h : FreshBytes W3.heap base (.slice va n c) l) (hB : ∀ k, base ≤ k → BB k ∨ W3.heap.size ≤ k) : IncRel BB va n W3 W3 := by
  refine ⟨Moves.refl _ _, rfl, fun g hg => ?_⟩
  subst hg
  rcases h with ⟨h1, _⟩ | ⟨b, cap, cc, t, h1, h2, h3, h4, h5, h6⟩
  · cases h1
  · obtain ⟨e1, e2, e3⟩ := Value.slice.inj h1
    simp only [Option.some.injEq, Addr.mk.injEq] at e1
    obtain ⟨rfl, _⟩ := e1
    refine ⟨?_, cc, t, h5, fun i hi => ?_⟩
    · rcases hB g h4 with h | h
      · exact h
      · have := lt_of_row h5; omega
    · subst e2
      have hx := h6 i l[i] (List.getElem?_eq_getElem hi)
      exact ⟨(l[i].toNat : Int), by omega, by have := l[i].toNat_lt; omega, hx⟩

theorem IncRel.step {BB : Nat → Prop} {W3 wr : World} {g n i : Nat} {y : Int} (h : IncRel BB (some ⟨g, 0, none⟩) n W3 wr) (hy0 : 0 ≤ y) (hy1 : y < 256) : IncRel BB (some ⟨g, 0, none⟩) n W3 (wr.setCell ⟨g, i, none⟩ (.int .u8 y)) := by
  obtain ⟨hb, c, t, hc, hx⟩ := h.row g rfl
  refine ⟨?_, by simpa using h.size, fun g' hg' => ?_⟩
  · have h2 := h.moves
    refine ⟨h2.os, h2.tape, h2.output, by simpa using h2.size, fun k hk hn => ?_⟩
    rw [heap_setCell_other _ _ _ _ (fun e => hn (by show BB k; rw [show k = g from e]; exact hb))]
    exact h2.block k hk hn
  · simp only [Option.some.injEq, Addr.mk.injEq] at hg'
    obtain ⟨rfl, _⟩ := hg'
    refine ⟨hb, _, t, heap_setCell_same wr g i c t _ hc, fun j hj => ?_⟩
    by_cases hij : i = j
    · subst hij
      obtain ⟨y0, _, _, h0⟩ := hx i hj
      exact ⟨y, hy0, hy1, by rw [Array.getElem?_setIfInBounds]; simp [(Array.getElem?_eq_some_iff.1 h0).1]⟩
    · obtain ⟨y0, q1, q2, q3⟩ := hx j hj
      exact ⟨y0, q1, q2, by rw [Array.getElem?_setIfInBounds_ne hij]; exact q3⟩

theorem u8_wrap (y : Int) (h0 : 0 ≤ y) (h1 : y < 256) : 0 ≤ IntKind.u8.wrap (y + 1) ∧ IntKind.u8.wrap (y + 1) < 256 := by
  have : IntKind.u8.wrap (y + 1) = (y + 1) % 256 := by simp [IntKind.wrap, IntKind.signed, IntKind.bits]
  rw [this]
  omega

end Go.Proofs.Ytiefhmbpaoecfaa

namespace Go.Proofs.Ytiefhmbpaoecfaa
open Go.RowKit Dm

/-- 256 bytes that begin so. -/
def pad (l : List UInt8) : List UInt8 := l.take 256 ++ zeros.drop (l.take 256).length
theorem pad_len (l : List UInt8) : (pad l).length = 256 := by
  unfold pad zeros
  simp only [List.length_append, List.length_take, List.length_drop, List.length_replicate]
  omega
theorem pad_map (l : List UInt8) : (pad l).map bval = splice (zeros.map bval) 0 ((l.take 256).map bval) := by
  simp only [pad, splice, List.take_zero, List.nil_append, Nat.zero_add, List.length_map, List.map_append, List.map_drop]
theorem zeros_cells : ((zeros.map bval).toArray : Array Value) = Array.replicate 256 (.int .u8 0) := by rw [zeros, List.map_replicate, List.toArray_replicate]; rfl
theorem infoByte1 : (Try.prog.info? tByte).map (·.size) = some 1 := by kernel_rfl

end Go.Proofs.Ytiefhmbpaoecfaa

namespace Go.Proofs.Ytiefhmbpaoecfaa
open Go.RowKit Dm

/-- A call of the law. -/
structure ActM where
  what : Int
  sec : Int
  n : Int
  b : List UInt8
  raw : Bool
  crash : Crash

def i64 (n : Int) : Prop := -9223372036854775808 ≤ n ∧ n ≤ 9223372036854775807

structure ActM.ok (x : ActM) : Prop where
  what : i64 x.what
  sec : i64 x.sec
  n : i64 x.n
  torn : i64 x.crash.torn
  part : i64 x.crash.part
  blen : x.b.length ≤ 9223372036854775807
  klen : x.crash.keep.length ≤ 9223372036854775807

/-- A slice of acts. -/
def ActsAt (h : Array Obj) (v : Value) (l : List ActM) : Prop :=
  ((∃ a c, v = .slice a 0 c) ∧ l = []) ∨ ∃ (b o cap : Nat) (c : Array Value) (t : TypeId) (fr : Nat × Nat), v = .slice (some ⟨b, o, none⟩) l.length cap ∧ h[b]? = some (.cells c t fr) ∧
    ∀ (i : Nat) (x : ActM), l[i]? = some x → ∃ bv kv, c[o + i * 8]? = some (.int .i64 x.what) ∧ c[o + i * 8 + 1]? = some (.int .i64 x.sec) ∧ c[o + i * 8 + 2]? = some (.int .i64 x.n) ∧ c[o + i * 8 + 3]? = some bv ∧ c[o + i * 8 + 4]? = some (.bool x.raw) ∧
      c[o + i * 8 + 5]? = some kv ∧ c[o + i * 8 + 6]? = some (.int .i64 x.crash.torn) ∧ c[o + i * 8 + 7]? = some (.int .i64 x.crash.part) ∧ BytesIn h (fun _ => True) bv x.b ∧ BoolsAt h kv x.crash.keep ∧ x.ok

theorem ActsAt.slice {h : Array Obj} {v : Value} {l : List ActM} (x : ActsAt h v l) : ∃ a c, v = .slice a l.length c := by
  rcases x with ⟨⟨_, _, rfl⟩, rfl⟩ | ⟨b, o, cap, c, t, fr, rfl, _⟩
  · exact ⟨_, _, rfl⟩
  · exact ⟨_, _, rfl⟩

theorem BoolsAt.keeps {h h' : Array Obj} {v : Value} {l : List Bool} (x : BoolsAt h v l) (hs : ∀ k, k < h.size → h'[k]? = h[k]?) : BoolsAt h' v l := by
  rcases x with x | ⟨b, o, cap, c, t, fr, h1, h2, h3⟩
  · exact Or.inl x
  · exact Or.inr ⟨b, o, cap, c, t, fr, h1, (hs _ (lt_of_row h2)).trans h2, h3⟩

theorem ActsAt.keeps {h h' : Array Obj} {v : Value} {l : List ActM} (x : ActsAt h v l) (hs : ∀ k, k < h.size → h'[k]? = h[k]?) : ActsAt h' v l := by
  rcases x with x | ⟨b, o, cap, c, t, fr, h1, h2, h3⟩
  · exact Or.inl x
  · refine Or.inr ⟨b, o, cap, c, t, fr, h1, (hs _ (lt_of_row h2)).trans h2, fun i y hi => ?_⟩
    obtain ⟨bv, kv, e0, e1, e2, e3, e4, e5, e6, e7, e8, e9, e10⟩ := h3 i y hi
    exact ⟨bv, kv, e0, e1, e2, e3, e4, e5, e6, e7, e8.keeps (fun k _ hl => hs k hl) (fun _ h _ => h), e9.keeps hs, e10⟩

/-- One act's cells. -/
theorem ActsAt.at {w : World} {v : Value} {l : List ActM} (x : ActsAt w.heap v l) {i : Nat} {y : ActM} (hi : l[i]? = some y) : ∃ b o cap, v = .slice (some ⟨b, o, none⟩) l.length cap ∧
    ∃ bv kv, w.cell? ⟨b, o + i * 8, none⟩ = some (.int .i64 y.what) ∧ w.cell? ⟨b, o + i * 8 + 3, none⟩ = some bv ∧ w.cell? ⟨b, o + i * 8 + 5, none⟩ = some kv ∧
      BytesIn w.heap (fun _ => True) bv y.b ∧ BoolsAt w.heap kv y.crash.keep ∧ y.ok := by
  rcases x with ⟨_, rfl⟩ | ⟨b, o, cap, c, t, fr, h1, h2, h3⟩
  · simp at hi
  · obtain ⟨bv, kv, e0, e1, e2, e3, e4, e5, e6, e7, e8, e9, e10⟩ := h3 i y hi
    exact ⟨b, o, cap, h1, bv, kv, row_cell h2 e0, row_cell h2 e3, row_cell h2 e5, e8, e9, e10⟩

def ActM.small (x : ActM) : Bool := decide (x.b.length ≤ 300) && decide (x.crash.keep.length ≤ 40)
def fewB (l : List ActM) (most : Int) : Bool := l.all ActM.small && decide ((l.length : Int) ≤ most)

theorem few_c {v : Value} {l : List ActM} {w : World} (hv : ActsAt w.heap v l) (most : Int) (hl : l.length ≤ 9223372036854775807) :
    Calls Try.prog 6 #[v, .int .i64 most] w fun e w' => e = .returned (.bool (fewB l most)) ∧ w = w' := by
  obtain ⟨va, vc, ev⟩ := hv.slice
  have HV := Lib.hid hv
  have hl1 : (l.length : Int) ≤ 9223372036854775807 := by omega
  subst ev
  have AT := Lib.hid (fun (i : Nat) (y : ActM) (hi : l[i]? = some y) => HV.out.at hi)
  clear hv HV
  generalize hn : l.length = n at *
  have HN := Lib.hid hn
  clear hn
  go_enter Try.func6, Try.ntmps6
  go_wp2
  go_loop [5] (fun i => ∃ k : Nat, k ≤ n ∧ i = .int .i64 (k : Int) ∧ (l.take k).all ActM.small = true) (fun i => n - (intOf i).toNat)
  case atStart => exact ⟨0, Nat.zero_le _, rfl, rfl⟩
  case round =>
    obtain ⟨k, hk, rfl, hall⟩ := hrel
    by_cases hlt : k < n
    · have hkl : k < l.length := by rw [HN.out]; exact hlt
      obtain ⟨y, hy⟩ : ∃ y, l[k]? = some y := ⟨_, List.getElem?_eq_getElem hkl⟩
      have ey : l[k] = y := (List.getElem?_eq_some_iff.1 hy).2
      obtain ⟨b, o, cap, e1, bv, kv, k0, k3, k5, hb, hk2, ok⟩ := AT.out k y hy
      obtain ⟨ba, bc, rfl⟩ := hb.slice
      obtain ⟨ka, kc, rfl⟩ := hk2.slice
      obtain ⟨rfl, _, _⟩ := Value.slice.inj e1
      have hb1 := ok.blen
      have hk1 := ok.klen
      have AS := Lib.hid (List.take_succ_eq_append_getElem hkl)
      have EY := Lib.hid (And.intro ey hall)
      have EN := Lib.hid hy
      have hkn : (k : Int) < (n : Int) := by omega
      clear hb hk2 ok e1 hy ey hall k0
      generalize hbl : y.b.length = bl at *
      generalize hkk : y.crash.keep.length = kl at *
      have HB := Lib.hid (And.intro hbl hkk)
      clear hbl hkk
      have bad : ¬ (bl ≤ 300 ∧ kl ≤ 40) → fewB l most = false := by
        intro h
        have : l.all ActM.small = false := by
          rw [Bool.eq_false_iff]
          intro h2
          have h3 := List.all_eq_true.1 h2 y (List.mem_of_getElem? EN.out)
          simp only [ActM.small, Bool.and_eq_true, decide_eq_true_eq, HB.out.1, HB.out.2] at h3
          exact h h3
        simp [fewB, this]
      have BAD := Lib.hid bad
      clear bad
      by_cases h1 : 300 < bl
      · go_wp2
        go_ret
        exact ⟨by rw [BAD.out (by omega)]; rfl, rfl⟩
      · by_cases h2 : 40 < kl
        · go_wp2
          go_ret
          exact ⟨by rw [BAD.out (by omega)]; rfl, rfl⟩
        · go_wp2
          go_round
          case rel =>
            refine ⟨k + 1, by omega, by go_num, ?_⟩
            rw [AS.out]
            intro x hx
            rcases List.mem_append.1 hx with hx | hx
            · exact List.all_eq_true.1 EY.out.2 x hx
            · obtain rfl := List.mem_singleton.1 hx
              rw [EY.out.1]
              simp only [ActM.small, HB.out.1, HB.out.2, Bool.and_eq_true, decide_eq_true_eq]
              omega
          case measure => simp [intOf]; omega
    · obtain rfl : k = n := by omega
      have HA := Lib.hid hall
      clear hall
      go_wp2
      go_ret
      refine ⟨?_, rfl⟩
      have h := HA.out
      rw [List.take_of_length_le (by rw [HN.out]; exact Nat.le_refl _)] at h
      simp [fewB, h, HN.out]

end Go.Proofs.Ytiefhmbpaoecfaa
