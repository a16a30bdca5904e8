/-
  Parts of a proof.
-/
import Derived.Test.YtgffifleflkjoaaGreatFin37
import Derived.Test.YtgffifleflkjoaaGreatFin38
set_option linter.unusedSimpArgs false
set_option linter.unusedVariables false
set_option maxRecDepth 100000
set_option maxHeartbeats 16000000
namespace Go.Proofs.YtgffifleflkjoaaGreat
open _root_.Go.Proofs.Tryz
variable {w W w' w0 wr w1 W0 W1 W2 A B : World} {F G F' O : Nat → Prop} {v : Value} {l : List UInt8} {n q m pd md pl g p : Nat} {C : Array Value} {c : Int}
section
open Go.RowKit Dm
attribute [local go_sem] Oper.semAt_some
abbrev lX (g : Nat) (x : Value) (n f : Nat) : Array Value := #[.int .i64 g, x, .int .i64 n, .int .i64 f]
def lH (w : World) (B : Nat) (t : Em.T) (v : Value) : Prop := ∃ a n c, v = .agg (lX t.gen (.slice a n c) t.aL t.fin) /\ dx w (λ k => B <= k) (.slice a n c) (Em.tell t.rows)
theorem lH.later {B : Nat} {t : Em.T} (h : lH w B t v) (hb : Below w w w') : lH w' B t v := by
 obtain ⟨a, n, c, e, p⟩ := h;exact ⟨a, n, c, e, p.later hb⟩
theorem lH.low {B B' : Nat} {t : Em.T} (h : lH w B t v) (hB : B' <= B) : lH w B' t v := by
 obtain ⟨a, n, c, e, p⟩ := h;exact ⟨a, n, c, e, p.weak (λ b hb _ => IP hB hb)⟩
theorem wS.value {e : Ending} (h : wS w l e w') : Below w w w' /\ ∃ v, e = .returned v /\ lH w' w.heap.size (aJ l) v := by
 obtain ⟨hb, v, rfl, p⟩ := h;obtain ⟨a, c, rfl⟩ := p.slice;exact ⟨hb, _, rfl, a, _, c, rfl, p⟩
theorem x9r (ts : Nat -> Em.T) : aP ts 2 = if (ts 0).gen < (ts 1).gen then (1, ts 1) else if (ts 0).gen = 0 then (0, Em.T.none) else (0, ts 0) := by
 have z : Em.T.none.gen = 0 := rfl;have h1 : aP ts 1 = if 0 < (ts 0).gen then (0, ts 0) else (0, Em.T.none) := rfl
 have h2 : aP ts 2 = if (aP ts 1).2.gen < (ts 1).gen then (1, ts 1) else aP ts 1 := rfl
 rw [h2, h1];by_cases q : 0 < (ts 0).gen
 ·rw [IA q, Iw (by omega : ¬ (ts 0).gen = 0)]
 ·rw [Iw q, IA (by omega : (ts 0).gen = 0)]
  by_cases r : (ts 0).gen < (ts 1).gen
  ·rw [IA r, IA (by show Em.T.none.gen < (ts 1).gen; omega)]
  ·rw [Iw r, Iw (by show ¬ Em.T.none.gen < (ts 1).gen; omega)]
def lV (b : Nat × Em.T) : Int := if b.2.gen = 0 then -1 else b.1
def y2v (w : World) (d : D) (e : Ending) (w' : World) : Prop :=
 Below w.heap.size w w' /\ ∃ v, e = .returned (.tuple #[.int .i64 (lV (aP (λ k => aJ (d.stand.tp k)) 2)), v]) /\ lH w' w.heap.size (aP (λ k => aJ (d.stand.tp k)) 2).2 v
theorem sN {W' : World} {l : Em.bB} {t' : TypeId} {fr' : Nat × Nat} {cs : Array Value} (h : dx W F v l) (hm : Moves (λ k => k = g) W W')
 (hn : ∀ (o : Nat) (s : List UInt8), W.cell? (g, o) ≠ some (ag s)) (r' : W'.heap[g]? = some (.cells cs t' fr')) : dx W' F v l := by
 rcases h with h | ⟨b, o, cap, cc, t2, mi, h1, h2, h3, h4, h5, h6⟩
 ·exact Iy h
 ·by_cases hb : b = g
  ·subst hb
   cases l with
   | nil => exact Iz ⟨b, o, cap, cs, t', fr', h1, h2, h3, h4, r', λ i y hi => by simp at hi⟩
   | cons y l => exact absurd ((IJ W b o cc t2 mi h5).trans (h6 0 y rfl).1) (hn o _)
  ·exact Qb
theorem rZ {t : TypeId} {fr : Nat × Nat} (r : W.heap[g]? = some (.cells dL t fr)) (o : Nat) (s : List UInt8) : W.cell? (g, o) ≠ some (ag s) := by
 rw [IJ _ _ _ _ _ _ r];match o with
 | 0 => intro h; cases h
 | 1 => intro h; cases h
 | 2 => intro h; cases h
 | 3 => intro h; cases h
 | o + 4 => intro h; simp at h
def zC : Value -> Array Value
 | .agg C => C
 | _ => dL
structure JT (w0 : World) (g4 : Nat) (u0 u1 : Value) (T0 T1 : Em.T) (L : Nat -> Bool) (vals : Nat -> Value) (w : World) : Prop where
 below : Below w0.heap.size w0 w
 v0 : L 0 = true -> vals 0 = .pointer (some ⟨g4, 1, none⟩)
 v1 : L 1 = true -> vals 1 = .pointer (some ⟨g4, 1, none⟩)
 v2 : L 2 = true -> vals 2 = u0
 v3 : L 3 = true -> lH w w0.heap.size T0 (vals 3)
 v4 : L 4 = true -> vals 4 = .pointer (some ⟨g4, 1, none⟩)
 v5 : L 5 = true -> vals 5 = .pointer (some ⟨g4, 2, none⟩)
 v6 : L 6 = true -> vals 6 = u1
 v7 : L 7 = true -> lH w w0.heap.size T1 (vals 7)
 v8 : L 8 = true -> ∃ g, vals 8 = .pointer (some ⟨g, 0, none⟩) /\ w0.heap.size <= g /\ w.heap[g]? = some (.cells (if L 10 = true then zC (vals 3) else dL) aS (0, 0))
 v9 : L 9 = true -> ∃ g, vals 9 = .pointer (some ⟨g, 0, none⟩) /\ w0.heap.size <= g /\ w.heap[g]? = some (.cells (if L 11 = true then zC (vals 7) else dL) aS (0, 0))
 ne : L 8 = true -> L 9 = true -> vals 8 ≠ vals 9
theorem JT.ext {g4 : Nat} {u0 u1 : Value} {T0 T1 : Em.T} {L L' : Nat -> Bool} {vals : Nat -> Value} (hL : ∀ k, k < 12 -> L k = L' k) (h : JT w0 g4 u0 u1 T0 T1 L vals w) : JT w0 g4 u0 u1 T0 T1 L' vals w := by
 have e : ∀ k, k < 12 -> L' k = L k := λ k hk => (hL k hk).symm;refine ⟨h.below, ?_, ?_, ?_, ?_, ?_, ?_, ?_, ?_, ?_, ?_, ?_⟩
 ·rw [e 0 GU]; exact h.v0
 ·rw [e 1 GU]; exact h.v1
 ·rw [e 2 GU]; exact h.v2
 ·rw [e 3 GU]; exact h.v3
 ·rw [e 4 GU]; exact h.v4
 ·rw [e 5 GU]; exact h.v5
 ·rw [e 6 GU]; exact h.v6
 ·rw [e 7 GU]; exact h.v7
 ·rw [e 8 GU, e 10 GU]; exact h.v8
 ·rw [e 9 GU, e 11 GU]; exact h.v9
 ·rw [e 8 GU, e 9 GU]; exact h.ne
theorem JT.later {g4 : Nat} {u0 u1 : Value} {T0 T1 : Em.T} {L : Nat -> Bool} {vals : Nat -> Value} (h : JT w0 g4 u0 u1 T0 T1 L vals w) (hb : Below w w w') : JT w0 g4 u0 u1 T0 T1 L vals w' := by
 refine ⟨h.below.trans (hb.mono h.below.size), h.v0, h.v1, h.v2, λ l => (h.v3 l).later hb, h.v4, h.v5, h.v6, λ l => (h.v7 l).later hb, λ l => ?_, λ l => ?_, h.ne⟩
 ·obtain ⟨g, e, hg, r⟩ := h.v8 l
  exact ⟨g, e, hg, (hb.block g (aa r)).trans r⟩
 ·obtain ⟨g, e, hg, r⟩ := h.v9 l
  exact ⟨g, e, hg, (hb.block g (aa r)).trans r⟩
theorem JT.set {g4 : Nat} {u0 u1 : Value} {T0 T1 : Em.T} {L : Nat -> Bool} {vals : Nat -> Value} (h : JT w0 g4 u0 u1 T0 T1 L vals w) (i : Nat) (v : Value) (hi : i < 8) (hL : L i = false) (h10 : L 10 = false) (h11 : L 11 = false)
 (h0 : i = 0 -> v = .pointer (some (g4, 1))) (h1 : i = 1 -> v = .pointer (some (g4, 1))) (h2 : i = 2 -> v = u0) (h3 : i = 3 -> lH w w0.heap.size T0 v) (h4 : i = 4 -> v = .pointer (some (g4, 1))) (h5 : i = 5 -> v = .pointer (some (g4, 2))) (h6 : i = 6 -> v = u1) (h7 : i = 7 -> lH w w0.heap.size T1 v) :
 JT w0 g4 u0 u1 T0 T1 (λ k => if k = i then true else L k) (λ k => if k = i then v else vals k) w := by
 have n8 : ¬ 8 = i := GR;have n9 : ¬ 9 = i := GR;have n10 : ¬ 10 = i := GR;have n11 : ¬ 11 = i := GR;refine ⟨h.below, ?_, ?_, ?_, ?_, ?_, ?_, ?_, ?_, ?_, ?_, ?_⟩
 ·by_cases e : 0 = i
  ·intro _; simp only [IA e]; exact h0 e.symm
  ·simp only [Iw e]; exact h.v0
 ·by_cases e : 1 = i
  ·intro _; simp only [IA e]; exact h1 e.symm
  ·simp only [Iw e]; exact h.v1
 ·by_cases e : 2 = i
  ·intro _; simp only [IA e]; exact h2 e.symm
  ·simp only [Iw e]; exact h.v2
 ·by_cases e : 3 = i
  ·intro _; simp only [IA e]; exact h3 e.symm
  ·simp only [Iw e]; exact h.v3
 ·by_cases e : 4 = i
  ·intro _; simp only [IA e]; exact h4 e.symm
  ·simp only [Iw e]; exact h.v4
 ·by_cases e : 5 = i
  ·intro _; simp only [IA e]; exact h5 e.symm
  ·simp only [Iw e]; exact h.v5
 ·by_cases e : 6 = i
  ·intro _; simp only [IA e]; exact h6 e.symm
  ·simp only [Iw e]; exact h.v6
 ·by_cases e : 7 = i
  ·intro _; simp only [IA e]; exact h7 e.symm
  ·simp only [Iw e]; exact h.v7
 ·simp only [Iw n8, Iw n10, h10]
  intro l;have := h.v8 l;simpa [h10] using this
 ·simp only [Iw n9, Iw n11, h11]
  intro l;have := h.v9 l;simpa [h11] using this
 ·simp only [Iw n8, Iw n9]; exact h.ne
theorem JT.new {g4 : Nat} {u0 u1 : Value} {T0 T1 : Em.T} {L : Nat -> Bool} {vals : Nat -> Value} (h : JT w0 g4 u0 u1 T0 T1 L vals w) (i : Nat) (hi : i = 8 \/ i = 9) (hL : L i = false) (h10 : L 10 = false) (h11 : L 11 = false) :
 JT w0 g4 u0 u1 T0 T1 (λ k => if k = i then true else L k) (λ k => if k = i then .pointer (some w.heap.size) else vals k) (w.alloc (.cells dL aS)) := by
 have h' := h.later (w' := w.alloc (.cells dL aS)) (bla);have hb := h.below.size;have r := IC w (.cells dL aS);have n0 : ¬ 0 = i := GR;have n1 : ¬ 1 = i := GR;have n2 : ¬ 2 = i := GR;have n3 : ¬ 3 = i := GR;have n4 : ¬ 4 = i := GR;have n5 : ¬ 5 = i := GR;have n6 : ¬ 6 = i := GR;have n7 : ¬ 7 = i := GR;have n10 : ¬ 10 = i := GR;have n11 : ¬ 11 = i := GR;refine ⟨h'.below, by simp only [Iw n0]; exact h'.v0, by simp only [Iw n1]; exact h'.v1, by simp only [Iw n2]; exact h'.v2, by simp only [Iw n3]; exact h'.v3, by simp only [Iw n4]; exact h'.v4, by simp only [Iw n5]; exact h'.v5, by simp only [Iw n6]; exact h'.v6, by simp only [Iw n7]; exact h'.v7, ?_, ?_, ?_⟩
 ·simp only [Iw n10, h10]
  by_cases e : 8 = i
  ·intro _; simp only [IA e]; exact ⟨_, rfl, hb, r⟩
  ·simp only [Iw e]
   intro l;have := h'.v8 l;simpa [h10] using this
 ·simp only [Iw n11, h11]
  by_cases e : 9 = i
  ·intro _; simp only [IA e]; exact ⟨_, rfl, hb, r⟩
  ·simp only [Iw e]
   intro l;have := h'.v9 l;simpa [h11] using this
 ·by_cases e : 8 = i
  ·subst e
   simp only [I1];intro _ l q;obtain ⟨g, e1, _, r1⟩ := h.v9 (by simpa using l);have q : (Value.pointer (some w.heap.size)) = vals 9 := by simpa using q
   rw [e1] at q;have := aa r1;cases q;omega
  ·have e9 : 9 = i := GR
   subst e9;simp only [I1];intro l _ q;obtain ⟨g, e1, _, r1⟩ := h.v8 (by simpa using l);have q : vals 8 = (Value.pointer (some w.heap.size)) := by simpa using q
   rw [e1] at q;have := aa r1;cases q;omega
theorem JT.x3t {g4 : Nat} {u0 u1 : Value} {T0 T1 : Em.T} {L : Nat -> Bool} {vals : Nat -> Value} (h : JT w0 g4 u0 u1 T0 T1 L vals w) (h10 : L 10 = false) (h11 : L 11 = false) (l3 : L 3 = true) (l8 : L 8 = true) (l9 : L 9 = true) (e8 : vals 8 = .pointer (some g))
 (hm : Moves (λ k => k = g) w W) (hr : W.heap[g]? = some (.cells (zC (vals 3)) aS (0, 0))) (v : Value) : JT w0 g4 u0 u1 T0 T1 (λ k => if k = 10 then true else L k) (λ k => if k = 10 then v else vals k) W := by
 obtain ⟨g', e1, b1, r1⟩ := h.v8 l8;rw [e8] at e1;obtain rfl : g = g' := by cases e1; rfl
 rw [h10] at r1;obtain ⟨a, n, c, e3, p3⟩ := h.v3 l3;refine ⟨h.below.trans ⟨hm.os, hm.tape, hm.output, hm.size, λ k hk => hm.block k (Hf h.below.size) GR⟩, h.v0, h.v1, h.v2, λ _ => ⟨a, n, c, e3, sN p3 hm (rZ r1) hr⟩, h.v4, h.v5, h.v6, λ l => ?_, λ _ => ⟨g, e8, b1, hr⟩, λ l => ?_, h.ne⟩
 ·obtain ⟨a, n, c, e7, p7⟩ := h.v7 l
  exact ⟨a, n, c, e7, sN p7 hm (rZ r1) hr⟩
 ·obtain ⟨g9, e9, b9, r9⟩ := h.v9 l
  refine ⟨g9, e9, b9, ?_⟩;have hne : g9 ≠ g := λ e => h.ne l8 l9 (by rw [e8, e9, e]);rw [h11] at r9;simp only [show ¬ (11 : Nat) = 10 by decide, JM, h11];exact (hm.block g9 (aa r9) hne).trans r9
theorem JT.x3u {g4 : Nat} {u0 u1 : Value} {T0 T1 : Em.T} {L : Nat -> Bool} {vals : Nat -> Value} (h : JT w0 g4 u0 u1 T0 T1 L vals w) (h10 : L 10 = true) (h11 : L 11 = false) (l7 : L 7 = true) (l8 : L 8 = true) (l9 : L 9 = true) (e9 : vals 9 = .pointer (some g))
 (hm : Moves (λ k => k = g) w W) (hr : W.heap[g]? = some (.cells (zC (vals 7)) aS (0, 0))) (v : Value) : JT w0 g4 u0 u1 T0 T1 (λ k => if k = 11 then true else L k) (λ k => if k = 11 then v else vals k) W := by
 obtain ⟨g', e1, b1, r1⟩ := h.v9 l9;rw [e9] at e1;obtain rfl : g = g' := by cases e1; rfl
 rw [h11] at r1;obtain ⟨a, n, c, e7, p7⟩ := h.v7 l7;refine ⟨h.below.trans ⟨hm.os, hm.tape, hm.output, hm.size, λ k hk => hm.block k (Hf h.below.size) GR⟩, h.v0, h.v1, h.v2, λ l => ?_, h.v4, h.v5, h.v6, λ _ => ⟨a, n, c, e7, sN p7 hm (rZ r1) hr⟩, λ l => ?_, λ _ => ⟨g, e9, b1, hr⟩, h.ne⟩
 ·obtain ⟨a, n, c, e3, p3⟩ := h.v3 l
  exact ⟨a, n, c, e3, sN p3 hm (rZ r1) hr⟩
 ·obtain ⟨g8, e8, b8, r8⟩ := h.v8 l
  refine ⟨g8, e8, b8, ?_⟩;have hne : g8 ≠ g := λ e => h.ne l8 l9 (by rw [e8, e9, e]);exact (hm.block g8 (aa r8) hne).trans r8
theorem CJ {a : Act} {t : Tmp} (h : a.tmps[t]? = some v) : a.eval (.tmp t) = v := by simp [Act.eval, h]
theorem Bb {P : Program} {fn : Func} {p q : Tmp} {ty : TypeId} (h : fn.results = #[.tmp q, .cell p ty]) (tmps : Array Value) (w : World) (g : Nat) (t : TypeId) (cs : Array Value) (fr : Nat × Nat) (d : TypeDesc) (v : Value)
 (hp : tmps.getD p undef = .pointer (some g)) (hq : tmps.getD q undef = v) (hg : w.heap[g]? = some (.cells cs t fr))
 (hu : P.underlying ty = some d) (hd : (match d with | .struct _ | .array _ _ => true | _ => false) = true) (hi : (P.info? ty).map (·.size) = some cs.size) :
 (results fn tmps).run P w = .ok (.tuple #[v, .agg cs]) w := by
 exact PZ
end
section
open Go.RowKit Dm
attribute [local go_sem] Oper.semAt_some
theorem Er {d : D} (hr : bR w.heap F v d) (ok : d.ok) (hn : d.waits.length <= 1000000000000) (hl : ∀ k : Nat, k <= 1 -> (d.stand.tp k).length <= 1000000) :
 Calls prog 48 #[v] w (y2v w d) := by
 obtain ⟨C, rfl, hin⟩ := yl hr;have hcsz := hin.bN;have fF := hin.ref;clear hin hr;obtain ⟨W0, hW0⟩ := G5 ((w.alloc (.cells C af)).alloc (.cells dL aS));have B0 : Below w w W0 := by rw [<-hW0]; exact (bla).alloc GV _
 have r0 : W0.heap[w.heap.size]? = some (.cells C af) := by rw [<-hW0]; exact aM GV (IC w _)
 have r1 : W0.heap[w.heap.size + 1]? = some (.cells dL aS) := by rw [<-hW0]; exact bD (w := w.alloc _) _ GV
 have s0 : W0.heap.size = w.heap.size + 2 := by rw [<-hW0]; simp
 have SC := hd1 (qI (w := W0) (fF.keeps (λ k _ hl => B0.block k hl) (λ _ h _ => h)) ok hn);have HB := hd6 B0 r0 r1 s0 hcsz hl;have HW := hd1 hW0;clear B0 r0 r1 s0 hW0 fF hcsz ok hn hl;go_in;go_upto_region 1 with fail
 rw [show ((w.alloc (.cells C af)).alloc (.cells #[.int .i64 0, (), .int .i64 0, .int .i64 0] aS)) = W0 from HW.out]
 go_upto_region 2 with (first
  | (refine G_ HB.2.1 Hu (by rw [aH, HB.2.2.2.2.1]) ?_)
  | (go_at_call 49; refine SC.mono ?_; rintro e w1 ⟨sv, u0, u1, u2, u3, rfl, b1, rb⟩; have xe := hd2 b1 rb; clear b1 rb)
  | (refine aC rfl aO _ _ rfl w1.heap.size #[sv, u0, u1, u2, u3] rfl rfl aO eT (IC w1 _) bX rfl xe.2.ones ?_; intro W2 HW2 cu HS2))
 have s1 := xe.1.size;have qz : Below w1 w1 W2 := Moves.new (bla) cu GZ;obtain ⟨secs, _, _, y0, y1, _, _⟩ := xe.2;obtain ⟨a0, c0, rfl⟩ := y0.slice;obtain ⟨a1, c1, rfl⟩ := y1.slice;have Y0 := hd1 (y0.below qz);have Y1 := hd1 (y1.below qz);have L0 := hd1 (HB.2.2.2.2.2 0 GU);have L1 := hd1 (HB.2.2.2.2.2 1 GU);have oQ := hd1 (HB.1.trans ((xe.1.trans (qz.mono s1)).mono HB.1.size));have R1 := hd1 ((qz.block _ (Jc (aa HB.2.2.1) s1)).trans ((xe.1.block _ (aa HB.2.2.1)).trans HB.2.2.1));obtain ⟨g4, hg4⟩ := G5 w1.heap.size;rw [hg4] at HW2 ⊢;have R4 := hd1 HW2.out;have N4 := hd1 (show W2.heap.size = g4 + 1 by rw [HS2, <-hg4]; simp);have G4 := hd1 (show w.heap.size + 2 <= g4 by rw [<-hg4, <-HB.2.2.2.1]; exact s1);clear s1 qz y0 y1 HW2 cu HS2 xe SC hg4;have DV := hd1 (x9r (λ k => aJ (d.stand.tp k)))
 have j0 : JT W2 g4 (.slice a0 (d.stand.tp 0).length c0) (.slice a1 (d.stand.tp 1).length c1) (aJ (d.stand.tp 0)) (aJ (d.stand.tp 1)) (λ _ => false) (λ _ => undef) W2.drew :=
  ⟨GY.drew, λ h => Od, λ h => Od, λ h => Od, λ h => Od, λ h => Od, λ h => Od, λ h => Od, λ h => Od, λ h => Od, λ h => Od, λ h => Od⟩
 have k1 := ae R4.out (j := 1) rfl;have k2 := ae R4.out (j := 2) rfl;refine z2j _ (JT W2 g4 (.slice a0 (d.stand.tp 0).length c0) (.slice a1 (d.stand.tp 1).length c1) (aJ (d.stand.tp 0)) (aJ (d.stand.tp 1))) GQ rfl GQ (λ L L' vals w hL h => h.ext hL) j0 ?_ ?_
 ·intro i o L vals a W hi iC hd hl hj hs hold
  match i, hi with
  | 0, hi =>
   obtain rfl := IM hi;have h1 : a.tmps[4]? = some (.pointer (some g4)) := hold 4 GQ;refine IE rfl λ K hK => ?_;go_simp;exact hK _ _ (IB ⟨rfl, _, rfl, hj.set 0 _ GU iC (hl 10 GQ) (hl 11 GQ) (λ _ => rfl) Hr Hr Hr Hr Hr Hr Hr⟩)
  | 1, hi =>
   obtain rfl := IM hi;have e9 := hs 0 _ 9 rfl rfl (hd 0 GQ);rw [hj.v0 (hd 0 GQ)] at e9;refine IE rfl λ K hK => ?_;go_simp;exact hK _ _ (IB ⟨rfl, _, rfl, hj.set 1 _ GU iC (hl 10 GQ) (hl 11 GQ) Hr (λ _ => rfl) Hr Hr Hr Hr Hr Hr⟩)
  | 2, hi =>
   obtain rfl := IM hi;have e10 := hs 1 _ 10 rfl rfl (hd 1 GQ);rw [hj.v1 (hd 1 GQ)] at e10;have kc := aN hj.below k1;refine IE rfl λ K hK => ?_;go_simp;exact hK _ _ (IB ⟨rfl, _, rfl, hj.set 2 _ GU iC (hl 10 GQ) (hl 11 GQ) Hr Hr (λ _ => rfl) Hr Hr Hr Hr Hr⟩)
  | 3, hi =>
   obtain rfl := IM hi;have e11 := hs 2 _ 11 rfl rfl (hd 2 GQ);rw [hj.v2 (hd 2 GQ)] at e11;have RC := hd1 (z6h (Y0.below hj.below) L0.out);refine IE rfl λ K hK => ?_;go_simp;go_at_call 84;refine RC.mono ?_;intro e W3 h3;obtain ⟨b3, v3, rfl, p3⟩ := h3.value;exact hK _ _ (IB ⟨rfl, _, rfl, (hj.later b3).set 3 _ GU iC (hl 10 GQ) (hl 11 GQ) Hr Hr Hr (λ _ => p3.low hj.below.size) Hr Hr Hr Hr⟩)
  | 4, hi =>
   obtain rfl := IM hi;have h1 : a.tmps[4]? = some (.pointer (some g4)) := hold 4 GQ;refine IE rfl λ K hK => ?_;go_simp;exact hK _ _ (IB ⟨rfl, _, rfl, hj.set 4 _ GU iC (hl 10 GQ) (hl 11 GQ) Hr Hr Hr Hr (λ _ => rfl) Hr Hr Hr⟩)
  | 5, hi =>
   obtain rfl := IM hi;have e13 := hs 4 _ 13 rfl rfl (hd 4 GQ);rw [hj.v4 (hd 4 GQ)] at e13;refine IE rfl λ K hK => ?_;go_simp;exact hK _ _ (IB ⟨rfl, _, rfl, hj.set 5 _ GU iC (hl 10 GQ) (hl 11 GQ) Hr Hr Hr Hr Hr (λ _ => rfl) Hr Hr⟩)
  | 6, hi =>
   obtain rfl := IM hi;have e14 := hs 5 _ 14 rfl rfl (hd 5 GQ);rw [hj.v5 (hd 5 GQ)] at e14;have kc := aN hj.below k2;refine IE rfl λ K hK => ?_;go_simp;exact hK _ _ (IB ⟨rfl, _, rfl, hj.set 6 _ GU iC (hl 10 GQ) (hl 11 GQ) Hr Hr Hr Hr Hr Hr (λ _ => rfl) Hr⟩)
  | 7, hi =>
   obtain rfl := IM hi;have e15 := hs 6 _ 15 rfl rfl (hd 6 GQ);rw [hj.v6 (hd 6 GQ)] at e15;have RC := hd1 (z6h (Y1.below hj.below) L1.out);refine IE rfl λ K hK => ?_;go_simp;go_at_call 84;refine RC.mono ?_;intro e W3 h3;obtain ⟨b3, v3, rfl, p3⟩ := h3.value;exact hK _ _ (IB ⟨rfl, _, rfl, (hj.later b3).set 7 _ GU iC (hl 10 GQ) (hl 11 GQ) Hr Hr Hr Hr Hr Hr Hr (λ _ => p3.low hj.below.size)⟩)
  | 8, hi =>
   obtain rfl := IM hi;refine IE rfl λ K hK => ?_;go_simp;exact hK _ _ (IB ⟨rfl, _, rfl, hj.new 8 (Iy rfl) iC (hl 10 GQ) (hl 11 GQ)⟩)
  | 9, hi =>
   obtain rfl := IM hi;refine IE rfl λ K hK => ?_;go_simp;exact hK _ _ (IB ⟨rfl, _, rfl, hj.new 9 (Iz rfl) iC (hl 10 GQ) (hl 11 GQ)⟩)
  | 10, hi =>
   obtain rfl := IM hi;obtain ⟨g, e8, bg, r8⟩ := hj.v8 (hd 8 GQ);obtain ⟨x3, n3, c3, zf, p3⟩ := hj.v3 (hd 3 GQ);rw [iC] at r8;have s5 := hs 8 _ 5 rfl rfl (hd 8 GQ);have s12 := hs 3 _ 12 rfl rfl (hd 3 GQ);rw [e8] at s5;rw [zf] at s12;refine aC rfl aS _ _ rfl g (lX (aJ (d.stand.tp 0)).gen (.slice x3 n3 c3) (aJ (d.stand.tp 0)).aL (aJ (d.stand.tp 0)).fin) (CJ s5) (CJ s12) aS dL r8 di rfl (mW _ _ _ _ _ _) ?_;intro W5 aF aB bf;exact IB ⟨rfl, undef, rfl, hj.x3t iC (hl 11 GQ) (hd 3 GQ) (hd 8 GQ) (hd 9 GQ) e8 aB (by rw [zf]; exact aF.out) _⟩
  | 11, hi =>
   obtain rfl := IM hi;obtain ⟨g, e9, bg, r9⟩ := hj.v9 (hd 9 GQ);obtain ⟨x3, n3, c3, ze, p3⟩ := hj.v7 (hd 7 GQ);rw [iC] at r9;have s6 := hs 9 _ 6 rfl rfl (hd 9 GQ);have s16 := hs 7 _ 16 rfl rfl (hd 7 GQ);rw [e9] at s6;rw [ze] at s16;refine aC rfl aS _ _ rfl g (lX (aJ (d.stand.tp 1)).gen (.slice x3 n3 c3) (aJ (d.stand.tp 1)).aL (aJ (d.stand.tp 1)).fin) (CJ s6) (CJ s16) aS dL r9 di rfl (mW _ _ _ _ _ _) ?_;intro W5 aF aB bf;exact IB ⟨rfl, undef, rfl, hj.x3u (hd 10 GQ) iC (hd 7 GQ) (hd 8 GQ) (hd 9 GQ) e9 aB (by rw [ze]; exact aF.out) _⟩
  | k + 12, hi => cases hi
 ·intro vals W hj
  obtain ⟨g8, e8, b8, r8⟩ := hj.v8 rfl;obtain ⟨g9, e9, b9, r9⟩ := hj.v9 rfl;obtain ⟨xa0, xn0, xc0, zf, p3⟩ := hj.v3 rfl;obtain ⟨xa1, xn1, xc1, ze, p7⟩ := hj.v7 rfl;simp only [I1, zf, ze, zC] at r8 r9;have BW := hd1 (oQ.trans (hj.below.mono oQ.size));have HR := hd5 (hj.below.block _ (aa R1.out) |>.trans R1.out) r8 r9 p3 p7;have HN8 := hd1 (show w.heap.size + 2 <= W2.heap.size by have := N4.out; have := G4.out; omega);clear hj j0 k1 k2 b8 b9 p3 p7 R1 R4;simp only [jE, I8, Nat.reduceAdd, e8, e9];clear e8 e9 zf ze;generalize vals 0 = v0;generalize vals 1 = v1;generalize vals 2 = v2;generalize vals 3 = v3;generalize vals 4 = v4;generalize vals 5 = v5;generalize vals 6 = v6;generalize vals 7 = v7;generalize vals 10 = v10;generalize vals 11 = v11;go_simp
  have FIN := hd1 (show ∀ (W5 : World) (b : Nat × Em.T) (a : Option Addr) (n c : Nat), aP (λ k => aJ (d.stand.tp k)) 2 = b -> Moves (λ k => k = w.heap.size + 1) W W5 -> W5.heap[w.heap.size + 1]? = some (.cells (lX b.2.gen (.slice a n c) b.2.aL b.2.fin) aS (0, 0)) ->
   dx W (λ k => W2.heap.size <= k) (.slice a n c) (Em.tell b.2.rows) -> y2v w d (.returned (.tuple #[.int .i64 (lV b), .agg (lX b.2.gen (.slice a n c) b.2.aL b.2.fin)])) W5 from λ W5 b a n c hb hm hr5 hp => by
   subst hb;exact ⟨Moves.new BW.out hm GR, _, rfl, a, n, c, rfl, (sN hp hm (rZ HR.1) hr5).weak (λ b hb _ => Hf HN8.out)⟩)
  obtain ⟨G0, hG0⟩ := G5 ((aJ (d.stand.tp 0)).gen);obtain ⟨G1, hG1⟩ := G5 ((aJ (d.stand.tp 1)).gen);have k8 : W.cell? g8 = some (.int .i64 (G0 : Int)) := by rw [<-hG0]; exact ae HR.2.1 rfl
  have k9 : W.cell? g9 = some (.int .i64 (G1 : Int)) := by rw [<-hG1]; exact ae HR.2.2.1 rfl
  have LD5 : Hid (∀ w', (∃ x : Wd (Below W W), w' = x.world) -> (Instr.loadAt aS (.pointer (some g8))).run prog w' = .ok (.agg (lX (aJ (d.stand.tp 0)).gen (.slice xa0 xn0 xc0) (aJ (d.stand.tp 0)).aL (aJ (d.stand.tp 0)).fin)) w') := by
   rintro w' ⟨x, rfl⟩;exact fK ((x.ok.block _ (aa HR.2.1)).trans HR.2.1) H_ rfl di
  have LD6 : Hid (∀ w', (∃ x : Wd (Below W W), w' = x.world) -> (Instr.loadAt aS (.pointer (some g9))).run prog w' = .ok (.agg (lX (aJ (d.stand.tp 1)).gen (.slice xa1 xn1 xc1) (aJ (d.stand.tp 1)).aL (aJ (d.stand.tp 1)).fin)) w') := by
   rintro w' ⟨x, rfl⟩;exact fK ((x.ok.block _ (aa HR.2.2.1)).trans HR.2.2.1) H_ rfl di
  have HT : aP (λ k => aJ (d.stand.tp k)) 2 = if G0 < G1 then (1, aJ (d.stand.tp 1)) else if G0 = 0 then (0, Em.T.none) else (0, aJ (d.stand.tp 0)) := by rw [<-hG0, <-hG1]; exact DV.out
  have HGG := hd2 hG0 hG1;clear hG0 hG1 r8 r9;by_cases h1 : G0 < G1
  ·rw [IA h1] at HT
   have xx := hd1 HT;have hn1 : lV (1, aJ (d.stand.tp 1)) = 1 := by unfold lV; rw [Iw (by show ¬ (aJ (d.stand.tp 1)).gen = 0; rw [HGG.2]; omega)]; rfl
   have FX := hd1 (FIN.out);have rP := hd1 hn1;clear HT hn1 FIN DV;have i1 : (G0 : Int) < (G1 : Int) := GR;have i2 : ¬ (G1 : Int) = 0 := GR;have ne : Nonempty (Wd (Below W W)) := ⟨⟨_, Below.refl _ _⟩⟩;by_cases h0 : G0 = 0
   ·subst h0
    clear h1;exact OH
   ·have i3 : ¬ (G0 : Int) = 0 := GR
    clear h1 h0;exact OH
  ·rw [Iw h1] at HT
   have i1 : ¬ (G0 : Int) < (G1 : Int) := GR;by_cases h0 : G0 = 0
   ·rw [IA h0] at HT
    have h2 : G1 = 0 := GR;subst h0;subst h2;have xx := hd1 HT;clear HT DV h1 i1;go_wp2_with (refine aC rfl aS _ _ rfl (w.heap.size + 1) dL rfl rfl aS _ HR.1 di rfl GQ ?_; intro W5 aF aB bf)
    refine IK (Bb rfl _ _ (w.heap.size + 1) _ _ _ _ (.int .i64 (-1)) rfl rfl aF.out H_ rfl di) rfl ?_;exact FIN.out W5 (0, Em.T.none) none 0 0 xx.out aB aF.out (Iy ⟨rfl, Em.xN⟩)
   ·rw [Iw h0] at HT
    have xx := hd1 HT;have hn1 : lV (0, aJ (d.stand.tp 0)) = 0 := by unfold lV; rw [Iw (by show ¬ (aJ (d.stand.tp 0)).gen = 0; rw [HGG.1]; exact h0)]; rfl
    have FX := hd1 (FIN.out);have rP := hd1 hn1;clear HT hn1 FIN DV;have i3 : ¬ (G0 : Int) = 0 := GR;have ne : Nonempty (Wd (Below W W)) := ⟨⟨_, Below.refl _ _⟩⟩;clear h0 h1;go_upto_region 7 with fail
    refine bC (λ w' => ∃ x : Wd (Below W W), w' = x.world) [2] GQ ?_;refine aI [0, 1] 1 _ Hq GQ ?_;simp only [fmc, fmn, gta, gcs, gcz];refine dX rfl aS (.tmp 5) rfl _ LD5.out ?_;repeat refine G8 ?_
    refine aA ?_;refine az 2 0 _ _ rfl GQ ?_;refine aC rfl aS _ _ rfl (w.heap.size + 1) _ rfl rfl aS _ (show W.drew.heap[w.heap.size + 1]? = _ from HR.1) di rfl (mW _ _ _ _ _ _) ?_;intro W5 aF aB bf;refine IB ⟨rfl, λ h => absurd GU h, GQ, ?_⟩;go_wp2;refine IK (Bb rfl _ _ (w.heap.size + 1) _ _ _ _ (.int .i64 0) rfl rfl aF.out H_ rfl di) rfl ?_;have := FX.out W5 _ _ _ _ xx.out ⟨aB.os, aB.tape, aB.output, aB.size, aB.block⟩ aF.out HR.2.2.2.1;rw [rP.out] at this;exact this
end
section
open Go.RowKit Dm
attribute [local go_sem] Oper.semAt_some
abbrev aj : Nat := 78
theorem aX : (prog.info? aj).map (·.size) = some 13 := GQ
abbrev bP : Array Value := #[.int .i64 0, .int .i64 0, .slice none 0 0, .slice none 0 0, .slice none 0 0, .slice none 0 0, .slice none 0 0, .slice none 0 0, .bool false, .int .i64 0, .bool false, .slice none 0 0, .int .i64 0]
def bQ (C : Array Value) (gone : Bool) (rv : Value) (g : Int) : Array Value := C ++ #[.bool gone, rv, .int .i64 g]
theorem aV (h : C.size = 10) (gone : Bool) (rv : Value) (g : Int) : (bQ C gone rv g).size = 13 := by simp [bQ, h]
theorem vU (h : C.size = 10) (gone : Bool) (rv : Value) (g : Int) : (bQ C gone rv g)[10]? = some (.bool gone) /\ (bQ C gone rv g)[11]? = some rv /\ (bQ C gone rv g)[12]? = some (.int .i64 g) := by
 refine ⟨?_, ?_, ?_⟩ <;> · unfold bQ; rw [Array.getElem?_append_right GR, h]; rfl
theorem z8p (gone : Bool) (rv : Value) (g : Int) {j : Nat} (hj : j < C.size) : (bQ C gone rv g)[j]? = C[j]? := L6 hj
theorem d_ (h : C.all (·.oneCell') = true) (gone : Bool) (a : Option Addr) (n c : Nat) (g : Int) : (bQ C gone (.slice a n c) g).all (·.oneCell') = true := by
 unfold bQ;rw [Array.all_append, h, Bool.true_and, JD];intro x hx;simp at hx;rcases hx with rfl | rfl | rfl <;> rfl
theorem z7t {gone : Bool} {rv : Value} {k : Int} {t : TypeId} {fr : Nat × Nat} (r : W.heap[g]? = some (.cells (bQ C gone rv k) t fr)) : W.rangeAt g 0 C.toList := by
 intro j v hj;have hlt : j < C.size := by simpa using (IY.1 hj).1
 rw [IJ _ _ _ _ _ _ r, I8, z8p gone rv k hlt];simpa using hj
theorem uW {ops : Array Oper} {rest : List Oper} {o : Oper} {a : Act} {Q : Exit -> Act -> World -> Prop} (hgd : o.guard = none) (x : Operand) (ho : o.op = .load af x)
 (g : Nat) (hx : a.eval x = .pointer (some g)) {gone : Bool} {rv : Value} {k : Int} {t : TypeId} {fr : Nat × Nat} (r : w.heap[g]? = some (.cells (bQ C gone rv k) t fr)) (hC : C.size = 10)
 (h : wpList prog ops Q rest (a.put o.dst (.agg C)) w) : wpList prog ops Q (o :: rest) a w := by
 refine JA hgd af x ho g 0 hx C.toList _ (z7t r) Hu rfl (by rw [aH]; simp [hC]) ?_;rw [Array.toArray_toList];exact h
def Bt (e : Em.E) : Em.bB := if e.gone = true then Em.tell e.rows else []
def dG (e : Em.E) : Int := if e.gone = true then (e.gen : Int) else 0
def dW (w : World) (F : Nat -> Prop) (v : Value) (e : Em.E) : Prop :=
 ∃ C a n c, v = .agg (bQ C e.gone (.slice a n c) (dG e)) /\ C.size = 10 /\ C.all (·.oneCell') = true /\ bR w.heap F (.agg C) e.d /\ dx w F (.slice a n c) (Bt e)
theorem dW.keeps {e : Em.E} (h : dW w F v e) (hs : ∀ k, F k -> k < w.heap.size -> w'.heap[k]? = w.heap[k]?) (hF : ∀ k, F k -> k < w.heap.size -> F' k) : dW w' F' v e := by
 obtain ⟨C, a, n, c, e1, h1, h2, h3, h4⟩ := h;refine ⟨C, a, n, c, e1, h1, h2, h3.keeps hs hF, ?_⟩;rcases h4 with h4 | ⟨b, o, cap, cs, t, fr, g1, g2, g3, g4, g5, g6⟩
 ·exact Iy h4
 ·exact Q_
theorem dW.later {e : Em.E} (h : dW w F v e) (hb : Below w w w') : dW w' F v e := h.keeps (λ k _ hl => hb.block k hl) (λ _ h _ => h)
theorem bR.cells {h : Array Obj} {d : D} (x : bR h F v d) : ∃ C, v = .agg C /\ C.size = 10 /\ C.all (·.oneCell') = true := by
 obtain ⟨sv, t0, t1, t2, t3, wv, rfl, rb, st⟩ := x;exact ⟨_, rfl, rfl, mZ rb st _ _ _ _⟩
theorem bR.log {e : Em.E} (x : bR w.heap F (.agg C) e.d) (hg : e.gone = false) : dW w F (.agg (bQ C false (.slice none 0 0) 0)) e := by
 obtain ⟨C', e1, h1, h2⟩ := x.cells;cases e1;refine ⟨C, none, 0, 0, ?_, h1, h2, x, Iy ⟨rfl, ?_⟩⟩
 ·unfold dG; rw [hg]; rfl
 ·unfold Bt; rw [hg]; rfl
theorem jI {h : Array Obj} {d : D} (x : bR h F (.agg C) d) : prog.built aj [(0, .agg C)] = some (bQ C false (.slice none 0 0) 0) := by
 exact Ry
theorem x9x {h : Array Obj} {d : D} (x : bR h F (.agg C) d) (a : Option Addr) (n c : Nat) (g : Int) :
 prog.built aj [(0, .agg C), (1, .bool true), (2, .slice a n c), (3, .int .i64 g)] = some (bQ C true (.slice a n c) g) := by
 exact Ry
structure Fit (e : Em.E) : Prop where
 gF : nM e
 ok : e.d.ok
 waits : e.d.waits.length <= 1000000000
 room : e.d.room <= 1000000
theorem Fit.tapes {e : Em.E} (h : Fit e) (k : Nat) : (e.d.stand.tp k).length <= 1000000 := by
 have := kC h.ok k;have := h.room;omega
theorem Fit.bound {e : Em.E} (h : Fit e) : e.d.waits.length <= 1000000000000 := IP h.waits GU
def w1z (w : World) (d : D) (e : Ending) (w' : World) : Prop := Below w.heap.size w w' /\ ∃ v, e = .returned v /\ lH w' w.heap.size (aP (λ k => aJ (d.stand.tp k)) 2).2 v
theorem z5t {e : Em.E} (hr : dW w F v e) (hf : Fit e) :
 Calls prog 96 #[v] w (w1z w e.d) := by
 obtain ⟨C, ra, rn, rc, rfl, hC, gH, fF, _⟩ := hr;have hE := aV hC e.gone (.slice ra rn rc) (dG e);obtain ⟨W0, hW0⟩ := G5 ((w.alloc (.cells (bQ C e.gone (.slice ra rn rc) (dG e)) aj)).alloc (.cells dL aS));have B0 : Below w w W0 := by rw [<-hW0]; exact (bla).alloc GV _
 have r0 : W0.heap[w.heap.size]? = some (.cells (bQ C e.gone (.slice ra rn rc) (dG e)) aj (0, 0)) := by rw [<-hW0]; exact aM GV (IC w _)
 have r1 : W0.heap[w.heap.size + 1]? = some (.cells dL aS) := by rw [<-hW0]; exact bD (w := w.alloc _) _ GV
 have WC := hd1 (Er (w := W0) (fF.keeps (λ k _ hl => B0.block k hl) (λ _ h _ => h)) hf.ok hf.bound (λ k _ => hf.tapes k));have HB := hd4 B0 r0 r1 hC;have HW := hd1 hW0;clear B0 r0 r1 hW0 fF gH hf hC hE;generalize dG e = gk at *;generalize e.gone = go at *;go_in;go_upto_region 1 with fail
 rw [show ((w.alloc (.cells (bQ C go (.slice ra rn rc) gk) aj)).alloc (.cells #[.int .i64 0, (), .int .i64 0, .int .i64 0] aS)) = W0 from HW.out]
 go_upto_region 2 with (first
  | (refine uW rfl (.tmp 6) rfl w.heap.size rfl HB.2.1 HB.2.2.2 ?_)
  | (go_at_call 48; refine WC.mono ?_; rintro en w1 ⟨b1, v1, rfl, xa, xn, xc, rfl, p1⟩)
  | (refine aC rfl aS _ _ rfl w1.heap.size _ rfl rfl aS dL (IC w1 _) di rfl (mW _ _ _ _ _ _) ?_; intro W2 HW2 cu HS2))
 have ba : Below w1 w1 (w1.alloc (.cells dL aS)) := bla;have qz : Below w1 w1 W2 := Moves.new ba cu GZ;have P2 := hd1 (sN (p1.later ba) cu (rZ (IC w1 _)) HW2.out);have R1 := hd1 ((qz.block _ (Jc (aa HB.2.2.1) b1.size)).trans ((b1.block _ (aa HB.2.2.1)).trans HB.2.2.1));have BW := hd1 (HB.1.trans ((b1.trans (qz.mono b1.size)).mono HB.1.size));have S1 := hd1 (IP HB.1.size b1.size);clear ba qz b1 p1 cu HS2
 go_wp2_with (first
  | (refine G_ HW2.out H_ di ?_)
  | (refine aC rfl aS _ _ rfl (w.heap.size + 1) _ rfl rfl aS _ R1.out di rfl (mW _ _ _ _ _ _) ?_; intro W5 aF aB bf))
 refine Hd aF.out H_ di ?_;exact ⟨Moves.new BW.out aB GR, _, rfl, xa, xn, xc, rfl, (sN P2.out aB (rZ R1.out) aF.out).weak (λ b hb _ => Hf HB.1.size)⟩
theorem y5j (g n f : Int) (a : Option Addr) (k c : Nat) (W : World) : (Instr.field aS (.agg #[.int .i64 g, .slice a k c, .int .i64 n, .int .i64 f]) 1).run prog W = .ok (.slice a k c) W := GQ
theorem y5i (g n f : Int) (a : Option Addr) (k c : Nat) (W : World) : (Instr.field aS (.agg #[.int .i64 g, .slice a k c, .int .i64 n, .int .i64 f]) 0).run prog W = .ok (.int .i64 g) W := GQ
def w1y (w : World) (F : Nat -> Prop) (R : Em.bB) (e : Ending) (w' : World) : Prop :=
 Below w.heap.size w w' /\ ∃ a n c, e = .returned (.slice a n c) /\ dx w' (λ k => F k \/ w.heap.size <= k) (.slice a n c) R
theorem Fit.live {e : Em.E} (h : Fit e) (hg : e.gone = false) : ∃ D1, aP (λ k => aJ (e.d.stand.tp k)) 2 = (e.tp, ⟨e.gen, D1, e.aL, e.fin⟩) /\ Em.tell D1 = Em.tell e.rows /\ e.gen ≠ 0 /\ (e.d.stand.tp e.tp).length = e.fin := by
 have hs := h.gF.sound hg;obtain ⟨D1, h1, h2, _, _, _, h3⟩ := hs.stands;obtain ⟨D2, r, _⟩ := hs.live;exact ⟨D1, h1, h2, Hf r.g0, h3⟩
theorem E8 {e : Em.E} (hr : dW w F v e) (hf : Fit e) :
 Calls prog 57 #[v] w (w1y w F (Em.tell e.rows)) := by
 have hr' := hr;obtain ⟨C, ra, rn, rc, rfl, hC, gH, fF, hp⟩ := hr;obtain ⟨W0, hW0⟩ := G5 (w.alloc (.cells (bQ C e.gone (.slice ra rn rc) (dG e)) aj));have B0 : Below w w W0 := by rw [<-hW0]; exact bla
 have r0 : W0.heap[w.heap.size]? = some (.cells (bQ C e.gone (.slice ra rn rc) (dG e)) aj (0, 0)) := by rw [<-hW0]; exact IC w _
 have TC := hd1 (z5t (hr'.later B0) hf);have k10 := ae r0 (vU hC e.gone (.slice ra rn rc) (dG e)).1;have k11 := ae r0 (vU hC e.gone (.slice ra rn rc) (dG e)).2.1;have HB := hd3 B0 r0 hC;have HW := hd1 hW0;clear B0 r0 hW0 fF gH hr';cases hg : e.gone with
 | true =>
  have hp : dx w F (.slice ra rn rc) (Em.tell e.rows) := by unfold Bt at hp; rw [IA hg] at hp; exact hp
  have HP := hd1 (hp.later HB.1);rw [hg] at k10 HW HB;clear hp hg TC hf hC;generalize dG e = gk at *;go_in;go_upto_region 1 with fail
  rw [HW.out];go_wp2;go_ret;exact ⟨HB.1, ra, rn, rc, rfl, HP.weak (λ b hb _ => Iy hb)⟩
 | false =>
  obtain ⟨D1, h1, h2, _, _⟩ := hf.live hg;have HL := hd2 h1 h2;rw [hg] at k10 HW HB TC;clear hp hg hf h1 h2 k11 hC;have wm := y5j;generalize dG e = gk at *;go_in;go_upto_region 1 with fail
  rw [HW.out]
  go_wp2_with (first
   | (refine G_ HB.2.1 Hw (by rw [aX, aV HB.2.2]) ?_)
   | (go_at_call 96; refine TC.mono ?_; rintro en w1 ⟨b1, v1, rfl, xa, xn, xc, rfl, p1⟩; dsimp only [lX]))
  go_ret;refine ⟨HB.1.trans (b1.mono HB.1.size), xa, xn, xc, rfl, ?_⟩;rw [HL.1, show (⟨e.gen, D1, e.aL, e.fin⟩ : Em.T).rows = D1 from rfl, HL.2] at p1;exact p1.weak (λ b hb _ => Iz (Hf HB.1.size))
theorem z6q {e : Em.E} (hr : dW w F v e) (hf : Fit e) :
 Calls prog 58 #[v] w λ en w' => en = .returned (.int .i64 e.gen) /\ Below w w w' := by
 have hr' := hr;obtain ⟨C, ra, rn, rc, rfl, hC, gH, fF, hp⟩ := hr;obtain ⟨W0, hW0⟩ := G5 (w.alloc (.cells (bQ C e.gone (.slice ra rn rc) (dG e)) aj));have B0 : Below w w W0 := by rw [<-hW0]; exact bla
 have r0 : W0.heap[w.heap.size]? = some (.cells (bQ C e.gone (.slice ra rn rc) (dG e)) aj (0, 0)) := by rw [<-hW0]; exact IC w _
 have TC := hd1 (z5t (hr'.later B0) hf);have k10 := ae r0 (vU hC e.gone (.slice ra rn rc) (dG e)).1;have k12 := ae r0 (vU hC e.gone (.slice ra rn rc) (dG e)).2.2;have HB := hd3 B0 r0 hC;have HW := hd1 hW0;clear B0 r0 hW0 fF gH hr' hp;cases hg : e.gone with
 | true =>
  have hk : dG e = (e.gen : Int) := by unfold dG; rw [IA hg]
  rw [hg, hk] at HW HB;rw [hg] at k10;rw [hk] at k12;rw [hk];clear hg TC hf hC hk;go_in;go_upto_region 1 with fail
  rw [HW.out];go_wp2;go_ret;exact ⟨rfl, HB.1⟩
 | false =>
  obtain ⟨D1, h1, h2, _, _⟩ := hf.live hg;have HL := hd2 h1 h2;rw [hg] at k10 HW HB TC;clear hg hf h1 h2 k12 hC;have wm := y5i;generalize dG e = gk at *;go_in;go_upto_region 1 with fail
  rw [HW.out]
  go_wp2_with (first
   | (refine G_ HB.2.1 Hw (by rw [aX, aV HB.2.2]) ?_)
   | (go_at_call 96; refine TC.mono ?_; rintro en w1 ⟨b1, v1, rfl, xa, xn, xc, rfl, p1⟩; dsimp only [lX]))
  go_ret;exact ⟨by simp only [HL.1]; rfl, HB.1.trans (b1.mono HB.1.size)⟩
end
section
open Go.RowKit Dm
attribute [local go_sem] Oper.semAt_some
def uP (w : World) (F : Nat -> Prop) (r : Em.E × Int) (e : Ending) (w' : World) : Prop :=
 ∃ v, e = .returned (.tuple #[v, .int .i64 r.2]) /\ Below w.heap.size w w' /\ dW w' (λ k => F k \/ w.heap.size <= k) v r.1
theorem dW.clip {e : Em.E} (h : dW w F v e) : dW w (λ k => F k /\ k < w.heap.size) v e := h.keeps (λ _ _ _ => rfl) (λ _ h hl => ⟨h, hl⟩)
theorem dx.yJ {l : Em.bB} (h : dx w F v l) (hs : ∀ k, F k -> k < w.heap.size -> w'.heap[k]? = w.heap[k]?) (hF : ∀ k, F k -> k < w.heap.size -> F' k) : dx w' F' v l := by
 rcases h with h4 | ⟨b, o, cap, cs, t, fr, g1, g2, g3, g4, g5, g6⟩
 ·exact Iy h4
 ·exact Q_
theorem y9y {dv : Value} {e : Em.E} {d' : D} (hr : dW w F v e) (hf : Fit e) (hd : bR w.heap F dv d') :
 Calls prog 93 #[v, dv] w (uP w F ({ e with d := d', gone := true }, 281)) := by
 obtain ⟨CD, rfl, hCD, z9g⟩ := hd.cells;have hr' := hr.clip;obtain ⟨C, ra, rn, rc, rfl, hC, _, _, _⟩ := hr;obtain ⟨E, hE⟩ := G5 (bQ C e.gone (.slice ra rn rc) (dG e));have jU : E.size = 13 := by rw [<-hE]; exact aV hC _ _ _
 rw [hE] at hr' ⊢;obtain ⟨W0, hW0⟩ := G5 (((w.alloc (.cells E aj)).alloc (.cells CD af)).alloc (.cells bP aj));have B0 : Below w w W0 := by rw [<-hW0]; exact ((bla).alloc GV _).alloc NM _
 have r2 : W0.heap[w.heap.size]? = some (.cells E aj) := by rw [<-hW0]; exact aM NM (aM GV (IC w _))
 have r3 : W0.heap[w.heap.size + 1]? = some (.cells CD af) := by rw [<-hW0]; exact aM GV (bD (w := w.alloc _) _ GV)
 have r4 : W0.heap[w.heap.size + 2]? = some (.cells bP aj) := by rw [<-hW0]; exact bD (w := (w.alloc _).alloc _) _ GV
 have s0 : W0.heap.size = w.heap.size + 3 := by rw [<-hW0]; simp
 have TC := hd1 (λ (W : World) (hb : Below W0 W0 W) => E8 ((hr'.later B0).later hb) hf);have GC := hd1 (λ (W : World) (hb : Below W0 W0 W) => z6q ((hr'.later B0).later hb) hf);have LD2 : Hid (∀ w', (∃ x : Wd (Below W0 W0), w' = x.world) -> (Instr.loadAt aj (.pointer (some w.heap.size))).run prog w' = .ok (.agg E) w') := by
  rintro w' ⟨x, rfl⟩;exact fK ((x.ok.block _ (aa r2)).trans r2) Hw rfl (by rw [aX, jU])
 have LD3 : Hid (∀ w', (∃ x : Wd (Below W0 W0), w' = x.world) -> (Instr.loadAt af (.pointer (some (w.heap.size + 1, 0)))).run prog w' = .ok (.agg CD) w') := by
  rintro w' ⟨x, rfl⟩;exact fK ((x.ok.block _ (aa r3)).trans r3) Hu rfl (by rw [aH, hCD])
 have HB := hd6 B0 r4 s0 hd hCD z9g;have HW := hd1 hW0;have ne : Nonempty (Wd (Below W0 W0)) := ⟨⟨_, Below.refl _ _⟩⟩;clear B0 r2 r3 r4 s0 hd hCD z9g hW0 hr' hE jU hf hC;go_in;go_upto_region 1 with fail
 rw [show (((w.alloc (.cells E aj)).alloc (.cells CD af)).alloc (.cells #[.int .i64 0, .int .i64 0, (), (), (), (), (), (), false, .int .i64 0, false, (), .int .i64 0] aj)) = W0 from HW.out];refine bC (λ w' => ∃ x : Wd (Below W0 W0), w' = x.world) [6, 7] GQ ?_;refine aI [0, 1, 3] 5 _ Hq GQ ?_;simp only [fmc, fmn, gta, gcs, gcz];refine dX rfl af (.tmp 3) rfl _ LD3.out ?_;refine dX rfl aj (.tmp 2) rfl _ LD2.out ?_;refine dX rfl aj (.tmp 2) rfl _ LD2.out ?_;refine aA ?_;refine az 2 4 _ _ rfl GQ ?_;refine IE rfl λ K hK => ?_;go_simp;go_at_call 57;refine (TC.out _ GY.drew).mono ?_;rintro en w1 ⟨b1, xa, xn, xc, rfl, p1⟩;have b1' : Below W0 W0 w1 := GY.drew.trans b1;have P1 := hd1 p1;clear b1 p1;refine hK _ _ (IB ⟨rfl, λ _ => ⟨⟨_, b1'⟩, rfl⟩, ?_⟩);clear hK K;refine az 4 3 _ _ rfl GQ ?_;refine IE rfl λ K hK => ?_;go_simp;go_at_call 58;refine (GC.out _ b1').mono ?_;rintro en w2 ⟨rfl, b2⟩;have b2' : Below W0 W0 w2 := b1'.trans (b2.mono b1'.size);have P2 := hd1 (P1.later b2);clear b2 b1' P1;refine hK _ _ (IB ⟨rfl, λ _ => ⟨⟨_, b2'⟩, rfl⟩, ?_⟩);clear hK K;refine az 5 2 _ _ rfl GQ ?_;refine iT rfl aj _ rfl (bQ CD true (.slice xa xn xc) e.gen) (by simp only [Jo, Jj, Jm, Act.eval]; exact x9x HB.2.2.2.1 _ _ _ _) ?_;refine IB ⟨rfl, λ _ => ⟨⟨_, b2'⟩, rfl⟩, ?_⟩;refine az 6 1 _ _ rfl GQ ?_;refine aC rfl aj _ _ rfl (w.heap.size + 2) _ rfl rfl aj bP ((b2'.block _ (aa HB.2.1)).trans HB.2.1) (by rw [aX, aV HB.2.2.2.2.1]) (by rw [aV HB.2.2.2.2.1]; rfl) (d_ HB.2.2.2.2.2 _ _ _ _ _) ?_;intro W5 aF aB bf;refine IB ⟨rfl, λ h => absurd GU h, ?_⟩
 refine az 7 0 _ _ rfl GQ ?_;refine IE rfl λ K hK => ?_;go_simp;refine hK _ _ (IB ⟨rfl, λ h => absurd GU h, GQ, ?_⟩);clear hK K;go_wp2;refine Ha aF.out Hw (by rw [aX, aV HB.2.2.2.2.1]) ?_;have B5 : Below w w W5 := Moves.new (HB.1.trans (b2'.mono HB.1.size)) aB GR;refine ⟨_, rfl, B5, CD, xa, xn, xc, rfl, HB.2.2.2.2.1, HB.2.2.2.2.2, HB.2.2.2.1.keeps (λ k _ hl => B5.block k hl) (λ k h _ => Iy h), ?_⟩;have s0 := HB.2.2.1;refine P2.yJ (λ k hk hl => aB.block k hl (by rcases hk with hk | hk <;> (have : W0.drew.heap.size = W0.heap.size := rfl) <;> omega)) (λ k hk hl => ?_);rcases hk with hk | hk
 ·exact Iy hk.1
 ·exact Iz (by have : W0.drew.heap.size = W0.heap.size := rfl; omega)
end
end Go.Proofs.YtgffifleflkjoaaGreat
