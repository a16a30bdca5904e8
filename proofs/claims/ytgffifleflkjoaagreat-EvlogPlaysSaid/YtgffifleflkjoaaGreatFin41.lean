/-
  Parts of a proof.
-/
import Derived.Test.YtgffifleflkjoaaGreatFin38
import Derived.Test.YtgffifleflkjoaaGreatFin40
set_option linter.unusedSimpArgs false
set_option linter.unusedVariables false
set_option maxRecDepth 100000
set_option maxHeartbeats 16000000
namespace Go.Proofs.YtgffifleflkjoaaGreat
open _root_.Go.Proofs.Tryz
variable {w W w' w0 wr w1 W0 W1 W2 A B : World} {F G F' O : Nat → Prop} {v : Value} {l : List UInt8} {n q m pd md pl g p : Nat} {C : Array Value} {c : Int}
section
open Go.RowKit Dm
attribute [local go_sem] Oper.semAt_some
abbrev mF (g : Nat) (x : Value) (n f : Nat) : Array Value := #[.int .i64 g, x, .int .i64 n, .int .i64 f]
def lX (w : World) (B : Nat) (t : Em.T) (v : Value) : Prop := ∃ a n c, v = .agg (mF t.gen (.slice a n c) t.aK t.fin) /\ dw w (λ k => B <= k) (.slice a n c) (Em.tell t.rows)
theorem lX.later {B : Nat} {t : Em.T} (h : lX w B t v) (hb : Below w w w') : lX w' B t v := by
 obtain ⟨a, n, c, e, p⟩ := h;exact ⟨a, n, c, e, p.later hb⟩
theorem lX.low {B B' : Nat} {t : Em.T} (h : lX w B t v) (hB : B' <= B) : lX w B' t v := by
 obtain ⟨a, n, c, e, p⟩ := h;exact ⟨a, n, c, e, p.weak (λ b hb _ => IV hB hb)⟩
theorem xe.value {e : Ending} (h : xe w l e w') : Below w w w' /\ ∃ v, e = .returned v /\ lX w' w.heap.size (aH l) v := by
 obtain ⟨hb, v, rfl, p⟩ := h;obtain ⟨a, c, rfl⟩ := p.slice;exact ⟨hb, _, rfl, a, _, c, rfl, p⟩
theorem x9u (ts : Nat -> Em.T) : aP ts 2 = if (ts 0).gen < (ts 1).gen then (1, ts 1) else if (ts 0).gen = 0 then (0, Em.T.none) else (0, ts 0) := by
 have z : Em.T.none.gen = 0 := rfl;have h1 : aP ts 1 = if 0 < (ts 0).gen then (0, ts 0) else (0, Em.T.none) := rfl
 have h2 : aP ts 2 = if (aP ts 1).2.gen < (ts 1).gen then (1, ts 1) else aP ts 1 := rfl
 rw [h2, h1];by_cases q : 0 < (ts 0).gen
 ·rw [IE q, IA (by omega : ¬ (ts 0).gen = 0)]
 ·rw [IA q, IE (by omega : (ts 0).gen = 0)]
  by_cases r : (ts 0).gen < (ts 1).gen
  ·rw [IE r, IE (by show Em.T.none.gen < (ts 1).gen; omega)]
  ·rw [IA r, IA (by show ¬ Em.T.none.gen < (ts 1).gen; omega)]
def mD (b : Nat × Em.T) : Int := if b.2.gen = 0 then -1 else b.1
def y2t (w : World) (d : D) (e : Ending) (w' : World) : Prop :=
 Below w.heap.size w w' /\ ∃ v, e = .returned (.tuple #[.int .i64 (mD (aP (λ k => aH (d.stand.tp k)) 2)), v]) /\ lX w' w.heap.size (aP (λ k => aH (d.stand.tp k)) 2).2 v
theorem tF {W' : World} {l : Em.bB} {t' : TypeId} {fr' : Nat × Nat} {cs : Array Value} (h : dw W F v l) (hm : Moves (λ k => k = g) W W')
 (hn : ∀ (o : Nat) (s : List UInt8), W.cell? (g, o) ≠ some (ag s)) (r' : W'.heap[g]? = some (.cells cs t' fr')) : dw W' F v l := by
 rcases h with h | ⟨b, o, cap, cc, t2, mP, h1, h2, h3, h4, h5, h6⟩
 ·exact IB h
 ·by_cases hb : b = g
  ·subst hb
   cases l with
   | nil => exact IC ⟨b, o, cap, cs, t', fr', h1, h2, h3, h4, r', λ i y hi => by simp at hi⟩
   | cons y l => exact absurd ((IM W b o cc t2 mP h5).trans (h6 0 y rfl).1) (hn o _)
  ·exact Qh
theorem sK {t : TypeId} {fr : Nat × Nat} (r : W.heap[g]? = some (.cells dM t fr)) (o : Nat) (s : List UInt8) : W.cell? (g, o) ≠ some (ag s) := by
 rw [IM _ _ _ _ _ _ r];match o with
 | 0 => intro h; cases h
 | 1 => intro h; cases h
 | 2 => intro h; cases h
 | 3 => intro h; cases h
 | o + 4 => intro h; simp at h
def zJ : Value -> Array Value
 | .agg C => C
 | _ => dM
structure JT (w0 : World) (g4 : Nat) (u0 u1 : Value) (T0 T1 : Em.T) (L : Nat -> Bool) (vals : Nat -> Value) (w : World) : Prop where
 below : Below w0.heap.size w0 w
 v0 : L 0 = true -> vals 0 = .pointer (some ⟨g4, 1, none⟩)
 v1 : L 1 = true -> vals 1 = .pointer (some ⟨g4, 1, none⟩)
 v2 : L 2 = true -> vals 2 = u0
 v3 : L 3 = true -> lX w w0.heap.size T0 (vals 3)
 v4 : L 4 = true -> vals 4 = .pointer (some ⟨g4, 1, none⟩)
 v5 : L 5 = true -> vals 5 = .pointer (some ⟨g4, 2, none⟩)
 v6 : L 6 = true -> vals 6 = u1
 v7 : L 7 = true -> lX w w0.heap.size T1 (vals 7)
 v8 : L 8 = true -> ∃ g, vals 8 = .pointer (some ⟨g, 0, none⟩) /\ w0.heap.size <= g /\ w.heap[g]? = some (.cells (if L 10 = true then zJ (vals 3) else dM) aR (0, 0))
 v9 : L 9 = true -> ∃ g, vals 9 = .pointer (some ⟨g, 0, none⟩) /\ w0.heap.size <= g /\ w.heap[g]? = some (.cells (if L 11 = true then zJ (vals 7) else dM) aR (0, 0))
 ne : L 8 = true -> L 9 = true -> vals 8 ≠ vals 9
theorem JT.ext {g4 : Nat} {u0 u1 : Value} {T0 T1 : Em.T} {L L' : Nat -> Bool} {vals : Nat -> Value} (hL : ∀ k, k < 12 -> L k = L' k) (h : JT w0 g4 u0 u1 T0 T1 L vals w) : JT w0 g4 u0 u1 T0 T1 L' vals w := by
 have e : ∀ k, k < 12 -> L' k = L k := λ k hk => (hL k hk).symm;refine ⟨h.below, ?_, ?_, ?_, ?_, ?_, ?_, ?_, ?_, ?_, ?_, ?_⟩
 ·rw [e 0 GY]; exact h.v0
 ·rw [e 1 GY]; exact h.v1
 ·rw [e 2 GY]; exact h.v2
 ·rw [e 3 GY]; exact h.v3
 ·rw [e 4 GY]; exact h.v4
 ·rw [e 5 GY]; exact h.v5
 ·rw [e 6 GY]; exact h.v6
 ·rw [e 7 GY]; exact h.v7
 ·rw [e 8 GY, e 10 GY]; exact h.v8
 ·rw [e 9 GY, e 11 GY]; exact h.v9
 ·rw [e 8 GY, e 9 GY]; exact h.ne
theorem JT.later {g4 : Nat} {u0 u1 : Value} {T0 T1 : Em.T} {L : Nat -> Bool} {vals : Nat -> Value} (h : JT w0 g4 u0 u1 T0 T1 L vals w) (hb : Below w w w') : JT w0 g4 u0 u1 T0 T1 L vals w' := by
 refine ⟨h.below.trans (hb.mono h.below.size), h.v0, h.v1, h.v2, λ l => (h.v3 l).later hb, h.v4, h.v5, h.v6, λ l => (h.v7 l).later hb, λ l => ?_, λ l => ?_, h.ne⟩
 ·obtain ⟨g, e, hg, r⟩ := h.v8 l
  exact ⟨g, e, hg, (hb.block g (aa r)).trans r⟩
 ·obtain ⟨g, e, hg, r⟩ := h.v9 l
  exact ⟨g, e, hg, (hb.block g (aa r)).trans r⟩
theorem JT.set {g4 : Nat} {u0 u1 : Value} {T0 T1 : Em.T} {L : Nat -> Bool} {vals : Nat -> Value} (h : JT w0 g4 u0 u1 T0 T1 L vals w) (i : Nat) (v : Value) (hi : i < 8) (hL : L i = false) (h10 : L 10 = false) (h11 : L 11 = false)
 (h0 : i = 0 -> v = .pointer (some (g4, 1))) (h1 : i = 1 -> v = .pointer (some (g4, 1))) (h2 : i = 2 -> v = u0) (h3 : i = 3 -> lX w w0.heap.size T0 v) (h4 : i = 4 -> v = .pointer (some (g4, 1))) (h5 : i = 5 -> v = .pointer (some (g4, 2))) (h6 : i = 6 -> v = u1) (h7 : i = 7 -> lX w w0.heap.size T1 v) :
 JT w0 g4 u0 u1 T0 T1 (λ k => if k = i then true else L k) (λ k => if k = i then v else vals k) w := by
 have n8 : ¬ 8 = i := GX;have n9 : ¬ 9 = i := GX;have n10 : ¬ 10 = i := GX;have n11 : ¬ 11 = i := GX;refine ⟨h.below, ?_, ?_, ?_, ?_, ?_, ?_, ?_, ?_, ?_, ?_, ?_⟩
 ·by_cases e : 0 = i
  ·intro _; simp only [IE e]; exact h0 e.symm
  ·simp only [IA e]; exact h.v0
 ·by_cases e : 1 = i
  ·intro _; simp only [IE e]; exact h1 e.symm
  ·simp only [IA e]; exact h.v1
 ·by_cases e : 2 = i
  ·intro _; simp only [IE e]; exact h2 e.symm
  ·simp only [IA e]; exact h.v2
 ·by_cases e : 3 = i
  ·intro _; simp only [IE e]; exact h3 e.symm
  ·simp only [IA e]; exact h.v3
 ·by_cases e : 4 = i
  ·intro _; simp only [IE e]; exact h4 e.symm
  ·simp only [IA e]; exact h.v4
 ·by_cases e : 5 = i
  ·intro _; simp only [IE e]; exact h5 e.symm
  ·simp only [IA e]; exact h.v5
 ·by_cases e : 6 = i
  ·intro _; simp only [IE e]; exact h6 e.symm
  ·simp only [IA e]; exact h.v6
 ·by_cases e : 7 = i
  ·intro _; simp only [IE e]; exact h7 e.symm
  ·simp only [IA e]; exact h.v7
 ·simp only [IA n8, IA n10, h10]
  intro l;have := h.v8 l;simpa [h10] using this
 ·simp only [IA n9, IA n11, h11]
  intro l;have := h.v9 l;simpa [h11] using this
 ·simp only [IA n8, IA n9]; exact h.ne
theorem JT.new {g4 : Nat} {u0 u1 : Value} {T0 T1 : Em.T} {L : Nat -> Bool} {vals : Nat -> Value} (h : JT w0 g4 u0 u1 T0 T1 L vals w) (i : Nat) (hi : i = 8 \/ i = 9) (hL : L i = false) (h10 : L 10 = false) (h11 : L 11 = false) :
 JT w0 g4 u0 u1 T0 T1 (λ k => if k = i then true else L k) (λ k => if k = i then .pointer (some w.heap.size) else vals k) (w.alloc (.cells dM aR)) := by
 have h' := h.later (w' := w.alloc (.cells dM aR)) (bla);have hb := h.below.size;have r := II w (.cells dM aR);have n0 : ¬ 0 = i := GX;have n1 : ¬ 1 = i := GX;have n2 : ¬ 2 = i := GX;have n3 : ¬ 3 = i := GX;have n4 : ¬ 4 = i := GX;have n5 : ¬ 5 = i := GX;have n6 : ¬ 6 = i := GX;have n7 : ¬ 7 = i := GX;have n10 : ¬ 10 = i := GX;have n11 : ¬ 11 = i := GX;refine ⟨h'.below, by simp only [IA n0]; exact h'.v0, by simp only [IA n1]; exact h'.v1, by simp only [IA n2]; exact h'.v2, by simp only [IA n3]; exact h'.v3, by simp only [IA n4]; exact h'.v4, by simp only [IA n5]; exact h'.v5, by simp only [IA n6]; exact h'.v6, by simp only [IA n7]; exact h'.v7, ?_, ?_, ?_⟩
 ·simp only [IA n10, h10]
  by_cases e : 8 = i
  ·intro _; simp only [IE e]; exact ⟨_, rfl, hb, r⟩
  ·simp only [IA e]
   intro l;have := h'.v8 l;simpa [h10] using this
 ·simp only [IA n11, h11]
  by_cases e : 9 = i
  ·intro _; simp only [IE e]; exact ⟨_, rfl, hb, r⟩
  ·simp only [IA e]
   intro l;have := h'.v9 l;simpa [h11] using this
 ·by_cases e : 8 = i
  ·subst e
   simp only [I6];intro _ l q;obtain ⟨g, e1, _, r1⟩ := h.v9 (by simpa using l);have q : (Value.pointer (some w.heap.size)) = vals 9 := by simpa using q
   rw [e1] at q;have := aa r1;cases q;omega
  ·have e9 : 9 = i := GX
   subst e9;simp only [I6];intro l _ q;obtain ⟨g, e1, _, r1⟩ := h.v8 (by simpa using l);have q : vals 8 = (Value.pointer (some w.heap.size)) := by simpa using q
   rw [e1] at q;have := aa r1;cases q;omega
theorem JT.x3o {g4 : Nat} {u0 u1 : Value} {T0 T1 : Em.T} {L : Nat -> Bool} {vals : Nat -> Value} (h : JT w0 g4 u0 u1 T0 T1 L vals w) (h10 : L 10 = false) (h11 : L 11 = false) (l3 : L 3 = true) (l8 : L 8 = true) (l9 : L 9 = true) (e8 : vals 8 = .pointer (some g))
 (hm : Moves (λ k => k = g) w W) (hr : W.heap[g]? = some (.cells (zJ (vals 3)) aR (0, 0))) (v : Value) : JT w0 g4 u0 u1 T0 T1 (λ k => if k = 10 then true else L k) (λ k => if k = 10 then v else vals k) W := by
 obtain ⟨g', e1, b1, r1⟩ := h.v8 l8;rw [e8] at e1;obtain rfl : g = g' := by cases e1; rfl
 rw [h10] at r1;obtain ⟨a, n, c, e3, p3⟩ := h.v3 l3;refine ⟨h.below.trans ⟨hm.os, hm.tape, hm.output, hm.size, λ k hk => hm.block k (Hm h.below.size) GX⟩, h.v0, h.v1, h.v2, λ _ => ⟨a, n, c, e3, tF p3 hm (sK r1) hr⟩, h.v4, h.v5, h.v6, λ l => ?_, λ _ => ⟨g, e8, b1, hr⟩, λ l => ?_, h.ne⟩
 ·obtain ⟨a, n, c, e7, p7⟩ := h.v7 l
  exact ⟨a, n, c, e7, tF p7 hm (sK r1) hr⟩
 ·obtain ⟨g9, e9, b9, r9⟩ := h.v9 l
  refine ⟨g9, e9, b9, ?_⟩;have hne : g9 ≠ g := λ e => h.ne l8 l9 (by rw [e8, e9, e]);rw [h11] at r9;simp only [show ¬ (11 : Nat) = 10 by decide, JS, h11];exact (hm.block g9 (aa r9) hne).trans r9
theorem JT.x3p {g4 : Nat} {u0 u1 : Value} {T0 T1 : Em.T} {L : Nat -> Bool} {vals : Nat -> Value} (h : JT w0 g4 u0 u1 T0 T1 L vals w) (h10 : L 10 = true) (h11 : L 11 = false) (l7 : L 7 = true) (l8 : L 8 = true) (l9 : L 9 = true) (e9 : vals 9 = .pointer (some g))
 (hm : Moves (λ k => k = g) w W) (hr : W.heap[g]? = some (.cells (zJ (vals 7)) aR (0, 0))) (v : Value) : JT w0 g4 u0 u1 T0 T1 (λ k => if k = 11 then true else L k) (λ k => if k = 11 then v else vals k) W := by
 obtain ⟨g', e1, b1, r1⟩ := h.v9 l9;rw [e9] at e1;obtain rfl : g = g' := by cases e1; rfl
 rw [h11] at r1;obtain ⟨a, n, c, e7, p7⟩ := h.v7 l7;refine ⟨h.below.trans ⟨hm.os, hm.tape, hm.output, hm.size, λ k hk => hm.block k (Hm h.below.size) GX⟩, h.v0, h.v1, h.v2, λ l => ?_, h.v4, h.v5, h.v6, λ _ => ⟨a, n, c, e7, tF p7 hm (sK r1) hr⟩, λ l => ?_, λ _ => ⟨g, e9, b1, hr⟩, h.ne⟩
 ·obtain ⟨a, n, c, e3, p3⟩ := h.v3 l
  exact ⟨a, n, c, e3, tF p3 hm (sK r1) hr⟩
 ·obtain ⟨g8, e8, b8, r8⟩ := h.v8 l
  refine ⟨g8, e8, b8, ?_⟩;have hne : g8 ≠ g := λ e => h.ne l8 l9 (by rw [e8, e9, e]);exact (hm.block g8 (aa r8) hne).trans r8
theorem CR {a : Act} {t : Tmp} (h : a.tmps[t]? = some v) : a.eval (.tmp t) = v := by simp [Act.eval, h]
theorem Bi {P : Program} {fn : Func} {p q : Tmp} {ty : TypeId} (h : fn.results = #[.tmp q, .cell p ty]) (tmps : Array Value) (w : World) (g : Nat) (t : TypeId) (cs : Array Value) (fr : Nat × Nat) (d : TypeDesc) (v : Value)
 (hp : tmps.getD p undef = .pointer (some g)) (hq : tmps.getD q undef = v) (hg : w.heap[g]? = some (.cells cs t fr))
 (hu : P.underlying ty = some d) (hd : (match d with | .struct _ | .array _ _ => true | _ => false) = true) (hi : (P.info? ty).map (·.size) = some cs.size) :
 (results fn tmps).run P w = .ok (.tuple #[v, .agg cs]) w := by
 exact P_
end
section
open Go.RowKit Dm
attribute [local go_sem] Oper.semAt_some
theorem Eo {d : D} (hr : bU w.heap F v d) (ok : d.ok) (hn : d.waits.length <= 1000000000000) (hl : ∀ k : Nat, k <= 1 -> (d.stand.tp k).length <= 1000000) :
 Calls prog 48 #[v] w (y2t w d) := by
 obtain ⟨C, rfl, hin⟩ := yw hr;have hcsz := hin.dA;have fF := hin.ref;clear hin hr;obtain ⟨W0, hW0⟩ := G8 ((w.alloc (.cells C af)).alloc (.cells dM aR));have B0 : Below w w W0 := by rw [<-hW0]; exact (bla).alloc GZ _
 have r0 : W0.heap[w.heap.size]? = some (.cells C af) := by rw [<-hW0]; exact aM GZ (II w _)
 have r1 : W0.heap[w.heap.size + 1]? = some (.cells dM aR) := by rw [<-hW0]; exact bC (w := w.alloc _) _ GZ
 have s0 : W0.heap.size = w.heap.size + 2 := by rw [<-hW0]; simp
 have SC := hd1 (qQ (w := W0) (fF.keeps (λ k _ hl => B0.block k hl) (λ _ h _ => h)) ok hn);have HB := hd6 B0 r0 r1 s0 hcsz hl;have HW := hd1 hW0;clear B0 r0 r1 s0 hW0 fF hcsz ok hn hl;go_in;go_upto_region 1 with fail
 rw [show ((w.alloc (.cells C af)).alloc (.cells #[.int .i64 0, (), .int .i64 0, .int .i64 0] aR)) = W0 from HW.out]
 go_upto_region 2 with (first
  | (refine He HB.2.1 Hz (by rw [aI, HB.2.2.2.2.1]) ?_)
  | (go_at_call 49; refine SC.mono ?_; rintro e w1 ⟨sv, u0, u1, u2, u3, rfl, b1, rb⟩; have xw := hd2 b1 rb; clear b1 rb)
  | (refine aD rfl aO _ _ rfl w1.heap.size #[sv, u0, u1, u2, u3] rfl rfl aO eX (II w1 _) bX rfl xw.2.ones ?_; intro W2 HW2 cu HS2))
 have s1 := xw.1.size;have qG : Below w1 w1 W2 := Moves.new (bla) cu G7;obtain ⟨secs, _, _, y0, y1, _, _⟩ := xw.2;obtain ⟨a0, c0, rfl⟩ := y0.slice;obtain ⟨a1, c1, rfl⟩ := y1.slice;have Y0 := hd1 (y0.below qG);have Y1 := hd1 (y1.below qG);have L0 := hd1 (HB.2.2.2.2.2 0 GY);have L1 := hd1 (HB.2.2.2.2.2 1 GY);have pz := hd1 (HB.1.trans ((xw.1.trans (qG.mono s1)).mono HB.1.size));have R1 := hd1 ((qG.block _ (Je (aa HB.2.2.1) s1)).trans ((xw.1.block _ (aa HB.2.2.1)).trans HB.2.2.1));obtain ⟨g4, hg4⟩ := G8 w1.heap.size;rw [hg4] at HW2 ⊢;have R4 := hd1 HW2.out;have N4 := hd1 (show W2.heap.size = g4 + 1 by rw [HS2, <-hg4]; simp);have G4 := hd1 (show w.heap.size + 2 <= g4 by rw [<-hg4, <-HB.2.2.2.1]; exact s1);clear s1 qG y0 y1 HW2 cu HS2 xw SC hg4;have DW := hd1 (x9u (λ k => aH (d.stand.tp k)))
 have j0 : JT W2 g4 (.slice a0 (d.stand.tp 0).length c0) (.slice a1 (d.stand.tp 1).length c1) (aH (d.stand.tp 0)) (aH (d.stand.tp 1)) (λ _ => false) (λ _ => undef) W2.drew :=
  ⟨G6.drew, λ h => Oe, λ h => Oe, λ h => Oe, λ h => Oe, λ h => Oe, λ h => Oe, λ h => Oe, λ h => Oe, λ h => Oe, λ h => Oe, λ h => Oe⟩
 have k1 := ae R4.out (j := 1) rfl;have k2 := ae R4.out (j := 2) rfl;refine z2n _ (JT W2 g4 (.slice a0 (d.stand.tp 0).length c0) (.slice a1 (d.stand.tp 1).length c1) (aH (d.stand.tp 0)) (aH (d.stand.tp 1))) GV rfl GV (λ L L' vals w hL h => h.ext hL) j0 ?_ ?_
 ·intro i o L vals a W hi iA hd hl hj hs hold
  match i, hi with
  | 0, hi =>
   obtain rfl := IR hi;have h1 : a.tmps[4]? = some (.pointer (some g4)) := hold 4 GV;refine IJ rfl λ K hK => ?_;go_simp;exact hK _ _ (IG ⟨rfl, _, rfl, hj.set 0 _ GY iA (hl 10 GV) (hl 11 GV) (λ _ => rfl) Hw Hw Hw Hw Hw Hw Hw⟩)
  | 1, hi =>
   obtain rfl := IR hi;have e9 := hs 0 _ 9 rfl rfl (hd 0 GV);rw [hj.v0 (hd 0 GV)] at e9;refine IJ rfl λ K hK => ?_;go_simp;exact hK _ _ (IG ⟨rfl, _, rfl, hj.set 1 _ GY iA (hl 10 GV) (hl 11 GV) Hw (λ _ => rfl) Hw Hw Hw Hw Hw Hw⟩)
  | 2, hi =>
   obtain rfl := IR hi;have e10 := hs 1 _ 10 rfl rfl (hd 1 GV);rw [hj.v1 (hd 1 GV)] at e10;have kc := aN hj.below k1;refine IJ rfl λ K hK => ?_;go_simp;exact hK _ _ (IG ⟨rfl, _, rfl, hj.set 2 _ GY iA (hl 10 GV) (hl 11 GV) Hw Hw (λ _ => rfl) Hw Hw Hw Hw Hw⟩)
  | 3, hi =>
   obtain rfl := IR hi;have e11 := hs 2 _ 11 rfl rfl (hd 2 GV);rw [hj.v2 (hd 2 GV)] at e11;have RC := hd1 (z6n (Y0.below hj.below) L0.out);refine IJ rfl λ K hK => ?_;go_simp;go_at_call 84;refine RC.mono ?_;intro e W3 h3;obtain ⟨b3, v3, rfl, p3⟩ := h3.value;exact hK _ _ (IG ⟨rfl, _, rfl, (hj.later b3).set 3 _ GY iA (hl 10 GV) (hl 11 GV) Hw Hw Hw (λ _ => p3.low hj.below.size) Hw Hw Hw Hw⟩)
  | 4, hi =>
   obtain rfl := IR hi;have h1 : a.tmps[4]? = some (.pointer (some g4)) := hold 4 GV;refine IJ rfl λ K hK => ?_;go_simp;exact hK _ _ (IG ⟨rfl, _, rfl, hj.set 4 _ GY iA (hl 10 GV) (hl 11 GV) Hw Hw Hw Hw (λ _ => rfl) Hw Hw Hw⟩)
  | 5, hi =>
   obtain rfl := IR hi;have e13 := hs 4 _ 13 rfl rfl (hd 4 GV);rw [hj.v4 (hd 4 GV)] at e13;refine IJ rfl λ K hK => ?_;go_simp;exact hK _ _ (IG ⟨rfl, _, rfl, hj.set 5 _ GY iA (hl 10 GV) (hl 11 GV) Hw Hw Hw Hw Hw (λ _ => rfl) Hw Hw⟩)
  | 6, hi =>
   obtain rfl := IR hi;have e14 := hs 5 _ 14 rfl rfl (hd 5 GV);rw [hj.v5 (hd 5 GV)] at e14;have kc := aN hj.below k2;refine IJ rfl λ K hK => ?_;go_simp;exact hK _ _ (IG ⟨rfl, _, rfl, hj.set 6 _ GY iA (hl 10 GV) (hl 11 GV) Hw Hw Hw Hw Hw Hw (λ _ => rfl) Hw⟩)
  | 7, hi =>
   obtain rfl := IR hi;have e15 := hs 6 _ 15 rfl rfl (hd 6 GV);rw [hj.v6 (hd 6 GV)] at e15;have RC := hd1 (z6n (Y1.below hj.below) L1.out);refine IJ rfl λ K hK => ?_;go_simp;go_at_call 84;refine RC.mono ?_;intro e W3 h3;obtain ⟨b3, v3, rfl, p3⟩ := h3.value;exact hK _ _ (IG ⟨rfl, _, rfl, (hj.later b3).set 7 _ GY iA (hl 10 GV) (hl 11 GV) Hw Hw Hw Hw Hw Hw Hw (λ _ => p3.low hj.below.size)⟩)
  | 8, hi =>
   obtain rfl := IR hi;refine IJ rfl λ K hK => ?_;go_simp;exact hK _ _ (IG ⟨rfl, _, rfl, hj.new 8 (IB rfl) iA (hl 10 GV) (hl 11 GV)⟩)
  | 9, hi =>
   obtain rfl := IR hi;refine IJ rfl λ K hK => ?_;go_simp;exact hK _ _ (IG ⟨rfl, _, rfl, hj.new 9 (IC rfl) iA (hl 10 GV) (hl 11 GV)⟩)
  | 10, hi =>
   obtain rfl := IR hi;obtain ⟨g, e8, bg, r8⟩ := hj.v8 (hd 8 GV);obtain ⟨x3, n3, c3, zl, p3⟩ := hj.v3 (hd 3 GV);rw [iA] at r8;have s5 := hs 8 _ 5 rfl rfl (hd 8 GV);have s12 := hs 3 _ 12 rfl rfl (hd 3 GV);rw [e8] at s5;rw [zl] at s12;refine aD rfl aR _ _ rfl g (mF (aH (d.stand.tp 0)).gen (.slice x3 n3 c3) (aH (d.stand.tp 0)).aK (aH (d.stand.tp 0)).fin) (CR s5) (CR s12) aR dM r8 dh rfl (nC _ _ _ _ _ _) ?_;intro W5 aF az bf;exact IG ⟨rfl, undef, rfl, hj.x3o iA (hl 11 GV) (hd 3 GV) (hd 8 GV) (hd 9 GV) e8 az (by rw [zl]; exact aF.out) _⟩
  | 11, hi =>
   obtain rfl := IR hi;obtain ⟨g, e9, bg, r9⟩ := hj.v9 (hd 9 GV);obtain ⟨x3, n3, c3, zk, p3⟩ := hj.v7 (hd 7 GV);rw [iA] at r9;have s6 := hs 9 _ 6 rfl rfl (hd 9 GV);have s16 := hs 7 _ 16 rfl rfl (hd 7 GV);rw [e9] at s6;rw [zk] at s16;refine aD rfl aR _ _ rfl g (mF (aH (d.stand.tp 1)).gen (.slice x3 n3 c3) (aH (d.stand.tp 1)).aK (aH (d.stand.tp 1)).fin) (CR s6) (CR s16) aR dM r9 dh rfl (nC _ _ _ _ _ _) ?_;intro W5 aF az bf;exact IG ⟨rfl, undef, rfl, hj.x3p (hd 10 GV) iA (hd 7 GV) (hd 8 GV) (hd 9 GV) e9 az (by rw [zk]; exact aF.out) _⟩
  | k + 12, hi => cases hi
 ·intro vals W hj
  obtain ⟨g8, e8, b8, r8⟩ := hj.v8 rfl;obtain ⟨g9, e9, b9, r9⟩ := hj.v9 rfl;obtain ⟨xa0, xn0, xc0, zl, p3⟩ := hj.v3 rfl;obtain ⟨xa1, xn1, xc1, zk, p7⟩ := hj.v7 rfl;simp only [I6, zl, zk, zJ] at r8 r9;have BW := hd1 (pz.trans (hj.below.mono pz.size));have HR := hd5 (hj.below.block _ (aa R1.out) |>.trans R1.out) r8 r9 p3 p7;have HN8 := hd1 (show w.heap.size + 2 <= W2.heap.size by have := N4.out; have := G4.out; omega);clear hj j0 k1 k2 b8 b9 p3 p7 R1 R4;simp only [jD, Ja, Nat.reduceAdd, e8, e9];clear e8 e9 zl zk;generalize vals 0 = v0;generalize vals 1 = v1;generalize vals 2 = v2;generalize vals 3 = v3;generalize vals 4 = v4;generalize vals 5 = v5;generalize vals 6 = v6;generalize vals 7 = v7;generalize vals 10 = v10;generalize vals 11 = v11;go_simp
  have FIN := hd1 (show ∀ (W5 : World) (b : Nat × Em.T) (a : Option Addr) (n c : Nat), aP (λ k => aH (d.stand.tp k)) 2 = b -> Moves (λ k => k = w.heap.size + 1) W W5 -> W5.heap[w.heap.size + 1]? = some (.cells (mF b.2.gen (.slice a n c) b.2.aK b.2.fin) aR (0, 0)) ->
   dw W (λ k => W2.heap.size <= k) (.slice a n c) (Em.tell b.2.rows) -> y2t w d (.returned (.tuple #[.int .i64 (mD b), .agg (mF b.2.gen (.slice a n c) b.2.aK b.2.fin)])) W5 from λ W5 b a n c hb hm hr5 hp => by
   subst hb;exact ⟨Moves.new BW.out hm GX, _, rfl, a, n, c, rfl, (tF hp hm (sK HR.1) hr5).weak (λ b hb _ => Hm HN8.out)⟩)
  obtain ⟨G0, hG0⟩ := G8 ((aH (d.stand.tp 0)).gen);obtain ⟨G1, hG1⟩ := G8 ((aH (d.stand.tp 1)).gen);have k8 : W.cell? g8 = some (.int .i64 (G0 : Int)) := by rw [<-hG0]; exact ae HR.2.1 rfl
  have k9 : W.cell? g9 = some (.int .i64 (G1 : Int)) := by rw [<-hG1]; exact ae HR.2.2.1 rfl
  have LD5 : Hid (∀ w', (∃ x : Wd (Below W W), w' = x.world) -> (Instr.loadAt aR (.pointer (some g8))).run prog w' = .ok (.agg (mF (aH (d.stand.tp 0)).gen (.slice xa0 xn0 xc0) (aH (d.stand.tp 0)).aK (aH (d.stand.tp 0)).fin)) w') := by
   rintro w' ⟨x, rfl⟩;exact gy ((x.ok.block _ (aa HR.2.1)).trans HR.2.1) Ic rfl dh
  have LD6 : Hid (∀ w', (∃ x : Wd (Below W W), w' = x.world) -> (Instr.loadAt aR (.pointer (some g9))).run prog w' = .ok (.agg (mF (aH (d.stand.tp 1)).gen (.slice xa1 xn1 xc1) (aH (d.stand.tp 1)).aK (aH (d.stand.tp 1)).fin)) w') := by
   rintro w' ⟨x, rfl⟩;exact gy ((x.ok.block _ (aa HR.2.2.1)).trans HR.2.2.1) Ic rfl dh
  have HT : aP (λ k => aH (d.stand.tp k)) 2 = if G0 < G1 then (1, aH (d.stand.tp 1)) else if G0 = 0 then (0, Em.T.none) else (0, aH (d.stand.tp 0)) := by rw [<-hG0, <-hG1]; exact DW.out
  have HGG := hd2 hG0 hG1;clear hG0 hG1 r8 r9;by_cases h1 : G0 < G1
  ·rw [IE h1] at HT
   have xE := hd1 HT;have hn1 : mD (1, aH (d.stand.tp 1)) = 1 := by unfold mD; rw [IA (by show ¬ (aH (d.stand.tp 1)).gen = 0; rw [HGG.2]; omega)]; rfl
   have FX := hd1 (FIN.out);have su := hd1 hn1;clear HT hn1 FIN DW;have i1 : (G0 : Int) < (G1 : Int) := GX;have i2 : ¬ (G1 : Int) = 0 := GX;have ne : Nonempty (Wd (Below W W)) := ⟨⟨_, Below.refl _ _⟩⟩;by_cases h0 : G0 = 0
   ·subst h0
    clear h1;exact OJ
   ·have i3 : ¬ (G0 : Int) = 0 := GX
    clear h1 h0;exact OJ
  ·rw [IA h1] at HT
   have i1 : ¬ (G0 : Int) < (G1 : Int) := GX;by_cases h0 : G0 = 0
   ·rw [IE h0] at HT
    have h2 : G1 = 0 := GX;subst h0;subst h2;have xE := hd1 HT;clear HT DW h1 i1;go_wp2_with (refine aD rfl aR _ _ rfl (w.heap.size + 1) dM rfl rfl aR _ HR.1 dh rfl GV ?_; intro W5 aF az bf)
    refine IP (Bi rfl _ _ (w.heap.size + 1) _ _ _ _ (.int .i64 (-1)) rfl rfl aF.out Ic rfl dh) rfl ?_;exact FIN.out W5 (0, Em.T.none) none 0 0 xE.out az aF.out (IB ⟨rfl, Em.xS⟩)
   ·rw [IA h0] at HT
    have xE := hd1 HT;have hn1 : mD (0, aH (d.stand.tp 0)) = 0 := by unfold mD; rw [IA (by show ¬ (aH (d.stand.tp 0)).gen = 0; rw [HGG.1]; exact h0)]; rfl
    have FX := hd1 (FIN.out);have su := hd1 hn1;clear HT hn1 FIN DW;have i3 : ¬ (G0 : Int) = 0 := GX;have ne : Nonempty (Wd (Below W W)) := ⟨⟨_, Below.refl _ _⟩⟩;clear h0 h1;go_upto_region 7 with fail
    refine bD (λ w' => ∃ x : Wd (Below W W), w' = x.world) [2] GV ?_;refine aL [0, 1] 1 _ Hu GV ?_;simp only [fmc, fmn, gta, gcs, gcz];refine eH rfl aR (.tmp 5) rfl _ LD5.out ?_;repeat refine Ha ?_
    refine aB ?_;refine aA 2 0 _ _ rfl GV ?_;refine aD rfl aR _ _ rfl (w.heap.size + 1) _ rfl rfl aR _ (show W.drew.heap[w.heap.size + 1]? = _ from HR.1) dh rfl (nC _ _ _ _ _ _) ?_;intro W5 aF az bf;refine IG ⟨rfl, λ h => absurd GY h, GV, ?_⟩;go_wp2;refine IP (Bi rfl _ _ (w.heap.size + 1) _ _ _ _ (.int .i64 0) rfl rfl aF.out Ic rfl dh) rfl ?_;have := FX.out W5 _ _ _ _ xE.out ⟨az.os, az.tape, az.output, az.size, az.block⟩ aF.out HR.2.2.2.1;rw [su.out] at this;exact this
end
section
open Go.RowKit Dm
attribute [local go_sem] Oper.semAt_some
abbrev ah : Nat := 78
theorem aY : (prog.info? ah).map (·.size) = some 13 := GV
abbrev bM : Array Value := #[.int .i64 0, .int .i64 0, .slice none 0 0, .slice none 0 0, .slice none 0 0, .slice none 0 0, .slice none 0 0, .slice none 0 0, .bool false, .int .i64 0, .bool false, .slice none 0 0, .int .i64 0]
def bT (C : Array Value) (gone : Bool) (rv : Value) (g : Int) : Array Value := C ++ #[.bool gone, rv, .int .i64 g]
theorem aW (h : C.size = 10) (gone : Bool) (rv : Value) (g : Int) : (bT C gone rv g).size = 13 := by simp [bT, h]
theorem wh (h : C.size = 10) (gone : Bool) (rv : Value) (g : Int) : (bT C gone rv g)[10]? = some (.bool gone) /\ (bT C gone rv g)[11]? = some rv /\ (bT C gone rv g)[12]? = some (.int .i64 g) := by
 refine ⟨?_, ?_, ?_⟩ <;> · unfold bT; rw [Array.getElem?_append_right GX, h]; rfl
theorem z8v (gone : Bool) (rv : Value) (g : Int) {j : Nat} (hj : j < C.size) : (bT C gone rv g)[j]? = C[j]? := Array.getElem?_append_left hj
theorem eB (h : C.all (·.oneCell') = true) (gone : Bool) (a : Option Addr) (n c : Nat) (g : Int) : (bT C gone (.slice a n c) g).all (·.oneCell') = true := by
 unfold bT;rw [Array.all_append, h, Bool.true_and, JF];intro x hx;simp at hx;rcases hx with rfl | rfl | rfl <;> rfl
theorem z7z {gone : Bool} {rv : Value} {k : Int} {t : TypeId} {fr : Nat × Nat} (r : W.heap[g]? = some (.cells (bT C gone rv k) t fr)) : W.rangeAt g 0 C.toList := by
 intro j v hj;have hlt : j < C.size := by simpa using (I4.1 hj).1
 rw [IM _ _ _ _ _ _ r, Ja, z8v gone rv k hlt];simpa using hj
theorem vw {ops : Array Oper} {rest : List Oper} {o : Oper} {a : Act} {Q : Exit -> Act -> World -> Prop} (hgd : o.guard = none) (x : Operand) (ho : o.op = .load af x)
 (g : Nat) (hx : a.eval x = .pointer (some g)) {gone : Bool} {rv : Value} {k : Int} {t : TypeId} {fr : Nat × Nat} (r : w.heap[g]? = some (.cells (bT C gone rv k) t fr)) (hC : C.size = 10)
 (h : wpList prog ops Q rest (a.put o.dst (.agg C)) w) : wpList prog ops Q (o :: rest) a w := by
 refine JE hgd af x ho g 0 hx C.toList _ (z7z r) Hz rfl (by rw [aI]; simp [hC]) ?_;rw [Array.toArray_toList];exact h
def BG (e : Em.E) : Em.bB := if e.gone = true then Em.tell e.rows else []
def dG (e : Em.E) : Int := if e.gone = true then (e.gen : Int) else 0
def dX (w : World) (F : Nat -> Prop) (v : Value) (e : Em.E) : Prop :=
 ∃ C a n c, v = .agg (bT C e.gone (.slice a n c) (dG e)) /\ C.size = 10 /\ C.all (·.oneCell') = true /\ bU w.heap F (.agg C) e.d /\ dw w F (.slice a n c) (BG e)
theorem dX.keeps {e : Em.E} (h : dX w F v e) (hs : ∀ k, F k -> k < w.heap.size -> w'.heap[k]? = w.heap[k]?) (hF : ∀ k, F k -> k < w.heap.size -> F' k) : dX w' F' v e := by
 obtain ⟨C, a, n, c, e1, h1, h2, h3, h4⟩ := h;refine ⟨C, a, n, c, e1, h1, h2, h3.keeps hs hF, ?_⟩;rcases h4 with h4 | ⟨b, o, cap, cs, t, fr, g1, g2, g3, g4, g5, g6⟩
 ·exact IB h4
 ·exact Rf
theorem dX.later {e : Em.E} (h : dX w F v e) (hb : Below w w w') : dX w' F v e := h.keeps (λ k _ hl => hb.block k hl) (λ _ h _ => h)
theorem bU.cells {h : Array Obj} {d : D} (x : bU h F v d) : ∃ C, v = .agg C /\ C.size = 10 /\ C.all (·.oneCell') = true := by
 obtain ⟨sv, t0, t1, t2, t3, wv, rfl, rb, st⟩ := x;exact ⟨_, rfl, rfl, nH rb st _ _ _ _⟩
theorem bU.log {e : Em.E} (x : bU w.heap F (.agg C) e.d) (hg : e.gone = false) : dX w F (.agg (bT C false (.slice none 0 0) 0)) e := by
 obtain ⟨C', e1, h1, h2⟩ := x.cells;cases e1;refine ⟨C, none, 0, 0, ?_, h1, h2, x, IB ⟨rfl, ?_⟩⟩
 ·unfold dG; rw [hg]; rfl
 ·unfold BG; rw [hg]; rfl
theorem jH {h : Array Obj} {d : D} (x : bU h F (.agg C) d) : prog.built ah [(0, .agg C)] = some (bT C false (.slice none 0 0) 0) := by
 exact RJ
theorem x8a {h : Array Obj} {d : D} (x : bU h F (.agg C) d) (a : Option Addr) (n c : Nat) (g : Int) :
 prog.built ah [(0, .agg C), (1, .bool true), (2, .slice a n c), (3, .int .i64 g)] = some (bT C true (.slice a n c) g) := by
 exact RJ
structure Fit (e : Em.E) : Prop where
 gz : nY e
 ok : e.d.ok
 waits : e.d.waits.length <= 1000000000
 room : e.d.room <= 1000000
theorem Fit.tapes {e : Em.E} (h : Fit e) (k : Nat) : (e.d.stand.tp k).length <= 1000000 := by
 have := kK h.ok k;have := h.room;omega
theorem Fit.bound {e : Em.E} (h : Fit e) : e.d.waits.length <= 1000000000000 := IV h.waits GY
def w0c (w : World) (d : D) (e : Ending) (w' : World) : Prop := Below w.heap.size w w' /\ ∃ v, e = .returned v /\ lX w' w.heap.size (aP (λ k => aH (d.stand.tp k)) 2).2 v
theorem z5x {e : Em.E} (hr : dX w F v e) (hf : Fit e) :
 Calls prog 96 #[v] w (w0c w e.d) := by
 obtain ⟨C, ra, rn, rc, rfl, hC, gF, fF, _⟩ := hr;have hE := aW hC e.gone (.slice ra rn rc) (dG e);obtain ⟨W0, hW0⟩ := G8 ((w.alloc (.cells (bT C e.gone (.slice ra rn rc) (dG e)) ah)).alloc (.cells dM aR));have B0 : Below w w W0 := by rw [<-hW0]; exact (bla).alloc GZ _
 have r0 : W0.heap[w.heap.size]? = some (.cells (bT C e.gone (.slice ra rn rc) (dG e)) ah (0, 0)) := by rw [<-hW0]; exact aM GZ (II w _)
 have r1 : W0.heap[w.heap.size + 1]? = some (.cells dM aR) := by rw [<-hW0]; exact bC (w := w.alloc _) _ GZ
 have WC := hd1 (Eo (w := W0) (fF.keeps (λ k _ hl => B0.block k hl) (λ _ h _ => h)) hf.ok hf.bound (λ k _ => hf.tapes k));have HB := hd4 B0 r0 r1 hC;have HW := hd1 hW0;clear B0 r0 r1 hW0 fF gF hf hC hE;generalize dG e = gk at *;generalize e.gone = go at *;go_in;go_upto_region 1 with fail
 rw [show ((w.alloc (.cells (bT C go (.slice ra rn rc) gk) ah)).alloc (.cells #[.int .i64 0, (), .int .i64 0, .int .i64 0] aR)) = W0 from HW.out]
 go_upto_region 2 with (first
  | (refine vw rfl (.tmp 6) rfl w.heap.size rfl HB.2.1 HB.2.2.2 ?_)
  | (go_at_call 48; refine WC.mono ?_; rintro en w1 ⟨b1, v1, rfl, xa, xn, xc, rfl, p1⟩)
  | (refine aD rfl aR _ _ rfl w1.heap.size _ rfl rfl aR dM (II w1 _) dh rfl (nC _ _ _ _ _ _) ?_; intro W2 HW2 cu HS2))
 have ba : Below w1 w1 (w1.alloc (.cells dM aR)) := bla;have qG : Below w1 w1 W2 := Moves.new ba cu G7;have P2 := hd1 (tF (p1.later ba) cu (sK (II w1 _)) HW2.out);have R1 := hd1 ((qG.block _ (Je (aa HB.2.2.1) b1.size)).trans ((b1.block _ (aa HB.2.2.1)).trans HB.2.2.1));have BW := hd1 (HB.1.trans ((b1.trans (qG.mono b1.size)).mono HB.1.size));have S1 := hd1 (IV HB.1.size b1.size);clear ba qG b1 p1 cu HS2
 go_wp2_with (first
  | (refine He HW2.out Ic dh ?_)
  | (refine aD rfl aR _ _ rfl (w.heap.size + 1) _ rfl rfl aR _ R1.out dh rfl (nC _ _ _ _ _ _) ?_; intro W5 aF az bf))
 refine Hg aF.out Ic dh ?_;exact ⟨Moves.new BW.out az GX, _, rfl, xa, xn, xc, rfl, (tF P2.out az (sK R1.out) aF.out).weak (λ b hb _ => Hm HB.1.size)⟩
theorem y5h (g n f : Int) (a : Option Addr) (k c : Nat) (W : World) : (Instr.field aR (.agg #[.int .i64 g, .slice a k c, .int .i64 n, .int .i64 f]) 1).run prog W = .ok (.slice a k c) W := GV
theorem y5g (g n f : Int) (a : Option Addr) (k c : Nat) (W : World) : (Instr.field aR (.agg #[.int .i64 g, .slice a k c, .int .i64 n, .int .i64 f]) 0).run prog W = .ok (.int .i64 g) W := GV
def w0b (w : World) (F : Nat -> Prop) (R : Em.bB) (e : Ending) (w' : World) : Prop :=
 Below w.heap.size w w' /\ ∃ a n c, e = .returned (.slice a n c) /\ dw w' (λ k => F k \/ w.heap.size <= k) (.slice a n c) R
theorem Fit.live {e : Em.E} (h : Fit e) (hg : e.gone = false) : ∃ D1, aP (λ k => aH (e.d.stand.tp k)) 2 = (e.tp, ⟨e.gen, D1, e.aK, e.fin⟩) /\ Em.tell D1 = Em.tell e.rows /\ e.gen ≠ 0 /\ (e.d.stand.tp e.tp).length = e.fin := by
 have hs := h.gz.sound hg;obtain ⟨D1, h1, h2, _, _, _, h3⟩ := hs.stands;obtain ⟨D2, r, _⟩ := hs.live;exact ⟨D1, h1, h2, Hm r.g0, h3⟩
theorem EX {e : Em.E} (hr : dX w F v e) (hf : Fit e) :
 Calls prog 57 #[v] w (w0b w F (Em.tell e.rows)) := by
 have hr' := hr;obtain ⟨C, ra, rn, rc, rfl, hC, gF, fF, hp⟩ := hr;obtain ⟨W0, hW0⟩ := G8 (w.alloc (.cells (bT C e.gone (.slice ra rn rc) (dG e)) ah));have B0 : Below w w W0 := by rw [<-hW0]; exact bla
 have r0 : W0.heap[w.heap.size]? = some (.cells (bT C e.gone (.slice ra rn rc) (dG e)) ah (0, 0)) := by rw [<-hW0]; exact II w _
 have TC := hd1 (z5x (hr'.later B0) hf);have k10 := ae r0 (wh hC e.gone (.slice ra rn rc) (dG e)).1;have k11 := ae r0 (wh hC e.gone (.slice ra rn rc) (dG e)).2.1;have HB := hd3 B0 r0 hC;have HW := hd1 hW0;clear B0 r0 hW0 fF gF hr';cases hg : e.gone with
 | true =>
  have hp : dw w F (.slice ra rn rc) (Em.tell e.rows) := by unfold BG at hp; rw [IE hg] at hp; exact hp
  have HP := hd1 (hp.later HB.1);rw [hg] at k10 HW HB;clear hp hg TC hf hC;generalize dG e = gk at *;go_in;go_upto_region 1 with fail
  rw [HW.out];go_wp2;go_ret;exact ⟨HB.1, ra, rn, rc, rfl, HP.weak (λ b hb _ => IB hb)⟩
 | false =>
  obtain ⟨D1, h1, h2, _, _⟩ := hf.live hg;have HL := hd2 h1 h2;rw [hg] at k10 HW HB TC;clear hp hg hf h1 h2 k11 hC;have wD := y5h;generalize dG e = gk at *;go_in;go_upto_region 1 with fail
  rw [HW.out]
  go_wp2_with (first
   | (refine He HB.2.1 H_ (by rw [aY, aW HB.2.2]) ?_)
   | (go_at_call 96; refine TC.mono ?_; rintro en w1 ⟨b1, v1, rfl, xa, xn, xc, rfl, p1⟩; dsimp only [mF]))
  go_ret;refine ⟨HB.1.trans (b1.mono HB.1.size), xa, xn, xc, rfl, ?_⟩;rw [HL.1, show (⟨e.gen, D1, e.aK, e.fin⟩ : Em.T).rows = D1 from rfl, HL.2] at p1;exact p1.weak (λ b hb _ => IC (Hm HB.1.size))
theorem z6v {e : Em.E} (hr : dX w F v e) (hf : Fit e) :
 Calls prog 58 #[v] w λ en w' => en = .returned (.int .i64 e.gen) /\ Below w w w' := by
 have hr' := hr;obtain ⟨C, ra, rn, rc, rfl, hC, gF, fF, hp⟩ := hr;obtain ⟨W0, hW0⟩ := G8 (w.alloc (.cells (bT C e.gone (.slice ra rn rc) (dG e)) ah));have B0 : Below w w W0 := by rw [<-hW0]; exact bla
 have r0 : W0.heap[w.heap.size]? = some (.cells (bT C e.gone (.slice ra rn rc) (dG e)) ah (0, 0)) := by rw [<-hW0]; exact II w _
 have TC := hd1 (z5x (hr'.later B0) hf);have k10 := ae r0 (wh hC e.gone (.slice ra rn rc) (dG e)).1;have k12 := ae r0 (wh hC e.gone (.slice ra rn rc) (dG e)).2.2;have HB := hd3 B0 r0 hC;have HW := hd1 hW0;clear B0 r0 hW0 fF gF hr' hp;cases hg : e.gone with
 | true =>
  have hk : dG e = (e.gen : Int) := by unfold dG; rw [IE hg]
  rw [hg, hk] at HW HB;rw [hg] at k10;rw [hk] at k12;rw [hk];clear hg TC hf hC hk;go_in;go_upto_region 1 with fail
  rw [HW.out];go_wp2;go_ret;exact ⟨rfl, HB.1⟩
 | false =>
  obtain ⟨D1, h1, h2, _, _⟩ := hf.live hg;have HL := hd2 h1 h2;rw [hg] at k10 HW HB TC;clear hg hf h1 h2 k12 hC;have wD := y5g;generalize dG e = gk at *;go_in;go_upto_region 1 with fail
  rw [HW.out]
  go_wp2_with (first
   | (refine He HB.2.1 H_ (by rw [aY, aW HB.2.2]) ?_)
   | (go_at_call 96; refine TC.mono ?_; rintro en w1 ⟨b1, v1, rfl, xa, xn, xc, rfl, p1⟩; dsimp only [mF]))
  go_ret;exact ⟨by simp only [HL.1]; rfl, HB.1.trans (b1.mono HB.1.size)⟩
end
section
open Go.RowKit Dm
attribute [local go_sem] Oper.semAt_some
def uY (w : World) (F : Nat -> Prop) (r : Em.E × Int) (e : Ending) (w' : World) : Prop :=
 ∃ v, e = .returned (.tuple #[v, .int .i64 r.2]) /\ Below w.heap.size w w' /\ dX w' (λ k => F k \/ w.heap.size <= k) v r.1
theorem dX.clip {e : Em.E} (h : dX w F v e) : dX w (λ k => F k /\ k < w.heap.size) v e := h.keeps (λ _ _ _ => rfl) (λ _ h hl => ⟨h, hl⟩)
theorem dw.yO {l : Em.bB} (h : dw w F v l) (hs : ∀ k, F k -> k < w.heap.size -> w'.heap[k]? = w.heap[k]?) (hF : ∀ k, F k -> k < w.heap.size -> F' k) : dw w' F' v l := by
 rcases h with h4 | ⟨b, o, cap, cs, t, fr, g1, g2, g3, g4, g5, g6⟩
 ·exact IB h4
 ·exact Rf
theorem y9t {dv : Value} {e : Em.E} {d' : D} (hr : dX w F v e) (hf : Fit e) (hd : bU w.heap F dv d') :
 Calls prog 93 #[v, dv] w (uY w F ({ e with d := d', gone := true }, 281)) := by
 obtain ⟨CD, rfl, hCD, z9j⟩ := hd.cells;have hr' := hr.clip;obtain ⟨C, ra, rn, rc, rfl, hC, _, _, _⟩ := hr;obtain ⟨E, hE⟩ := G8 (bT C e.gone (.slice ra rn rc) (dG e));have jV : E.size = 13 := by rw [<-hE]; exact aW hC _ _ _
 rw [hE] at hr' ⊢;obtain ⟨W0, hW0⟩ := G8 (((w.alloc (.cells E ah)).alloc (.cells CD af)).alloc (.cells bM ah));have B0 : Below w w W0 := by rw [<-hW0]; exact ((bla).alloc GZ _).alloc NP _
 have r2 : W0.heap[w.heap.size]? = some (.cells E ah) := by rw [<-hW0]; exact aM NP (aM GZ (II w _))
 have r3 : W0.heap[w.heap.size + 1]? = some (.cells CD af) := by rw [<-hW0]; exact aM GZ (bC (w := w.alloc _) _ GZ)
 have r4 : W0.heap[w.heap.size + 2]? = some (.cells bM ah) := by rw [<-hW0]; exact bC (w := (w.alloc _).alloc _) _ GZ
 have s0 : W0.heap.size = w.heap.size + 3 := by rw [<-hW0]; simp
 have TC := hd1 (λ (W : World) (hb : Below W0 W0 W) => EX ((hr'.later B0).later hb) hf);have GC := hd1 (λ (W : World) (hb : Below W0 W0 W) => z6v ((hr'.later B0).later hb) hf);have LD2 : Hid (∀ w', (∃ x : Wd (Below W0 W0), w' = x.world) -> (Instr.loadAt ah (.pointer (some w.heap.size))).run prog w' = .ok (.agg E) w') := by
  rintro w' ⟨x, rfl⟩;exact gy ((x.ok.block _ (aa r2)).trans r2) H_ rfl (by rw [aY, jV])
 have LD3 : Hid (∀ w', (∃ x : Wd (Below W0 W0), w' = x.world) -> (Instr.loadAt af (.pointer (some (w.heap.size + 1, 0)))).run prog w' = .ok (.agg CD) w') := by
  rintro w' ⟨x, rfl⟩;exact gy ((x.ok.block _ (aa r3)).trans r3) Hz rfl (by rw [aI, hCD])
 have HB := hd6 B0 r4 s0 hd hCD z9j;have HW := hd1 hW0;have ne : Nonempty (Wd (Below W0 W0)) := ⟨⟨_, Below.refl _ _⟩⟩;clear B0 r2 r3 r4 s0 hd hCD z9j hW0 hr' hE jV hf hC;go_in;go_upto_region 1 with fail
 rw [show (((w.alloc (.cells E ah)).alloc (.cells CD af)).alloc (.cells #[.int .i64 0, .int .i64 0, (), (), (), (), (), (), false, .int .i64 0, false, (), .int .i64 0] ah)) = W0 from HW.out];refine bD (λ w' => ∃ x : Wd (Below W0 W0), w' = x.world) [6, 7] GV ?_;refine aL [0, 1, 3] 5 _ Hu GV ?_;simp only [fmc, fmn, gta, gcs, gcz];refine eH rfl af (.tmp 3) rfl _ LD3.out ?_;refine eH rfl ah (.tmp 2) rfl _ LD2.out ?_;refine eH rfl ah (.tmp 2) rfl _ LD2.out ?_;refine aB ?_;refine aA 2 4 _ _ rfl GV ?_;refine IJ rfl λ K hK => ?_;go_simp;go_at_call 57;refine (TC.out _ G6.drew).mono ?_;rintro en w1 ⟨b1, xa, xn, xc, rfl, p1⟩;have b1' : Below W0 W0 w1 := G6.drew.trans b1;have P1 := hd1 p1;clear b1 p1;refine hK _ _ (IG ⟨rfl, λ _ => ⟨⟨_, b1'⟩, rfl⟩, ?_⟩);clear hK K;refine aA 4 3 _ _ rfl GV ?_;refine IJ rfl λ K hK => ?_;go_simp;go_at_call 58;refine (GC.out _ b1').mono ?_;rintro en w2 ⟨rfl, b2⟩;have b2' : Below W0 W0 w2 := b1'.trans (b2.mono b1'.size);have P2 := hd1 (P1.later b2);clear b2 b1' P1;refine hK _ _ (IG ⟨rfl, λ _ => ⟨⟨_, b2'⟩, rfl⟩, ?_⟩);clear hK K;refine aA 5 2 _ _ rfl GV ?_;refine iT rfl ah _ rfl (bT CD true (.slice xa xn xc) e.gen) (by simp only [Js, Jo, Jr, Act.eval]; exact x8a HB.2.2.2.1 _ _ _ _) ?_;refine IG ⟨rfl, λ _ => ⟨⟨_, b2'⟩, rfl⟩, ?_⟩;refine aA 6 1 _ _ rfl GV ?_;refine aD rfl ah _ _ rfl (w.heap.size + 2) _ rfl rfl ah bM ((b2'.block _ (aa HB.2.1)).trans HB.2.1) (by rw [aY, aW HB.2.2.2.2.1]) (by rw [aW HB.2.2.2.2.1]; rfl) (eB HB.2.2.2.2.2 _ _ _ _ _) ?_;intro W5 aF az bf;refine IG ⟨rfl, λ h => absurd GY h, ?_⟩
 refine aA 7 0 _ _ rfl GV ?_;refine IJ rfl λ K hK => ?_;go_simp;refine hK _ _ (IG ⟨rfl, λ h => absurd GY h, GV, ?_⟩);clear hK K;go_wp2;refine Hf aF.out H_ (by rw [aY, aW HB.2.2.2.2.1]) ?_;have B5 : Below w w W5 := Moves.new (HB.1.trans (b2'.mono HB.1.size)) az GX;refine ⟨_, rfl, B5, CD, xa, xn, xc, rfl, HB.2.2.2.2.1, HB.2.2.2.2.2, HB.2.2.2.1.keeps (λ k _ hl => B5.block k hl) (λ k h _ => IB h), ?_⟩;have s0 := HB.2.2.1;refine P2.yO (λ k hk hl => az.block k hl (by rcases hk with hk | hk <;> (have : W0.drew.heap.size = W0.heap.size := rfl) <;> omega)) (λ k hk hl => ?_);rcases hk with hk | hk
 ·exact IB hk.1
 ·exact IC (by have : W0.drew.heap.size = W0.heap.size := rfl; omega)
end
section
open Go.RowKit Dm
attribute [local go_sem] Oper.semAt_some
theorem y0i {d : D} (h : d.ok) {s : Step} (hs : s.ok d.many) (ht : ∀ t, ((d.stand.done s).tp t).length <= d.room) : (d.step s).1.ok := by
 have hg := zf h;unfold D.step;split
 ·exact step_ok h hs ht _ (rQ d) (uh d) (z0p d) rfl hg.stops hg.sN
 ·exact hg
theorem Dc {d : D} (h : d.ok) {t : Int} (h0 : 0 <= t) (h3 : t <= 3) (l : List UInt8) : (d.append t l).1.ok := by
 unfold D.append;rw [IA GX];by_cases q : d.stand.used + l.length > d.room
 ·rw [IE q]; exact h
 ·rw [IA q]
  obtain ⟨a1, a2⟩ := y1e h t l h0 h3 q;exact y0i h (IC (IB ⟨rfl, h0, h3, rfl, a2⟩)) a1
theorem Db {d : D} (h : d.ok) {t n : Int} (h0 : 0 <= t) (h3 : t <= 3) : (d.cut t n).1.ok := by
 unfold D.cut;by_cases q : t < 0 \/ t > 3 \/ n < 0 \/ n > (d.stand.tp t).length
 ·rw [IE q]; exact h
 ·rw [IA q]
  have h1 := kK h t;have h2 := h.fE;exact y0i h (IC (IC ⟨rfl, h0, h3, by show 0 <= n; omega, by show n <= 1048576; omega, rfl⟩)) (y0b h t n)
theorem wM {d : D} (h : d.ok) : d.sync.1.ok := by
 have hg := zf h;unfold D.sync;split
 ·exact z3e h _ (rQ d) (uh d) rfl rfl hg.stops hg.sN
 ·exact hg
theorem z0v {D : Em.Rows} (g : Nat) (h : Em.bI D) : Em.jU g (Em.tell D) = Em.folded g D := by
 rw [Em.z0k g h];unfold Em.jU Em.kR Em.kQ;rw [Em.pG];congr 1
 unfold Em.tell;rw [List.flatMap_map];rfl
theorem y1n (sv : Value) (a0 a1 a2 a3 : Option Addr) (n0 n1 n2 n3 c0 c1 c2 c3 : Nat) (W : World) : (Instr.field aO (.agg #[sv, .slice a0 n0 c0, .slice a1 n1 c1, .slice a2 n2 c2, .slice a3 n3 c3]) 1).run prog W = .ok (.agg #[.slice a0 n0 c0, .slice a1 n1 c1, .slice a2 n2 c2, .slice a3 n3 c3]) W := GV
theorem z3j (a0 a1 a2 a3 : Option Addr) (n0 n1 n2 n3 c0 c1 c2 c3 : Nat) (W : World) : (Instr.index 58 (.agg #[.slice a0 n0 c0, .slice a1 n1 c1, .slice a2 n2 c2, .slice a3 n3 c3]) (.int .i64 0)).run prog W = .ok (.slice a0 n0 c0) W := GV
theorem z3k (a0 a1 a2 a3 : Option Addr) (n0 n1 n2 n3 c0 c1 c2 c3 : Nat) (W : World) : (Instr.index 58 (.agg #[.slice a0 n0 c0, .slice a1 n1 c1, .slice a2 n2 c2, .slice a3 n3 c3]) (.int .i64 1)).run prog W = .ok (.slice a1 n1 c1) W := GV
def n_ (F : Nat -> Prop) (w : World) (base : Nat) : Nat -> Prop := λ k => (F k /\ k < w.heap.size) \/ base <= k
structure qy (w W : World) (F : Nat -> Prop) (g5 : Nat) (T : Array Value) (C : Array Value) (d : D) : Prop where
 below : Below w.heap.size w W
 r1 : W.heap[w.heap.size]? = some (.cells C af (0, 0))
 r2 : W.heap[w.heap.size + 1]? = some (.cells bM ah (0, 0))
 r5 : W.heap[g5]? = some (.cells T aR (0, 0))
 ref : bU W.heap (n_ F w (g5 + 1)) (.agg C) d
 lt : w.heap.size + 1 < g5
 size : C.size = 10
 ones : C.all (·.oneCell') = true
 ok : d.ok
theorem qy.later {g5 : Nat} {T : Array Value} {d : D} (h : qy w W F g5 T C d) (hb : Below W W W1) : qy w W1 F g5 T C d :=
 ⟨h.below.trans (hb.mono h.below.size), (hb.block _ (aa h.r1)).trans h.r1, (hb.block _ (aa h.r2)).trans h.r2, (hb.block _ (aa h.r5)).trans h.r5, h.ref.keeps (λ k _ hl => hb.block k hl) (λ _ h _ => h), h.lt, h.size, h.ones, h.ok⟩
theorem qy.call {g5 : Nat} {T C1 : Array Value} {d d1 : D} (h : qy w W F g5 T C d) (hb : Below W W W1) {X : World} (hX : Below W W X) (hr : bU W1.heap (plus (n_ F w (g5 + 1)) X W1) (.agg C1) d1)
 (hm : Moves (λ k => k = w.heap.size) W1 W2) (hrow : W2.heap[w.heap.size]? = some (.cells C1 af)) (ok : d1.ok) : qy w W2 F g5 T C1 d1 := by
 obtain ⟨C', e, s, o⟩ := hr.cells;cases e;have h1 := h.later hb;have lt := h.lt;have l5 := aa h.r5;have sX := hX.size;refine ⟨Moves.new h1.below hm G7, hrow, (hm.block _ (aa h1.r2) GX).trans h1.r2, (hm.block _ (aa h1.r5) GX).trans h1.r5, ?_, lt, s, o, ok⟩;exact P9
theorem qy.give {W5 : World} {g5 : Nat} {T : Array Value} {d : D} (h : qy w W F g5 T C d) (hm : Moves (λ k => k = w.heap.size + 1) W W5) {r : Em.E × Int} (hr : r.1.d = d) (hg : r.1.gone = false) (hc : r.2 = c) :
 uY w F r (.returned (.tuple #[.agg (bT C false (.slice none 0 0) 0), .int .i64 c])) W5 := by
 subst hr;subst hc;have lt := h.lt;refine ⟨_, rfl, Moves.new h.below hm GX, ?_⟩;refine bU.log (h.ref.keeps (λ k hk hl => hm.block k hl ?_) (λ k hk _ => ?_)) hg
 ·rcases hk with hk | hk
  ·omega
  ·omega
 ·exact R8
theorem zG {d : D} {r : D × Int} (h : Em.bK d 0 (Em.folded 1 (.map [])) = r) : (Em.begun d).1.d = r.1 /\ (Em.begun d).1.gone = false /\ (Em.begun d).2 = r.2 := by
 subst h;exact Qy
theorem x1n {d : D} {b : Nat × Em.T} (h : b.2.gen = 0) : Em.bY d b = Em.begun d := IE h
theorem vU {d : D} {b : Nat × Em.T} (h : ¬ b.2.gen = 0) {r : D × Int} (hr : Em.mended d b.1 b.2.fin = r) : (Em.bY d b).1.d = r.1 /\ (Em.bY d b).1.gone = false /\ (Em.bY d b).2 = r.2 := by
 subst hr;unfold Em.bY;rw [IA h];exact Qy
theorem Bh {d d1 : D} (b : List UInt8) (h : Em.bZ d 0 = (d1, 0)) : Em.bK d 0 b = Em.next (d1.append (0 : Nat) b) D.sync := by
 unfold Em.bK;rw [h];rfl
theorem z5i {d : D} (hr : bU w.heap F v d) (ok : d.ok) (hn : d.waits.length <= 1000000000) (hroom : d.room <= 1000000) :
 Calls prog 26 #[v] w (uY w F (Em.bY d (aP (λ k => aH (d.stand.tp k)) 2))) := by
 obtain ⟨C, rfl, hC, gF⟩ := hr.cells;obtain ⟨W0, hW0⟩ := G8 ((w.alloc (.cells C af)).alloc (.cells bM ah));have B0 : Below w w W0 := by rw [<-hW0]; exact (bla).alloc GZ _
 have r1 : W0.heap[w.heap.size]? = some (.cells C af) := by rw [<-hW0]; exact aM GZ (II w _)
 have r2 : W0.heap[w.heap.size + 1]? = some (.cells bM ah) := by rw [<-hW0]; exact bC (w := w.alloc _) _ GZ
 have s0 : W0.heap.size = w.heap.size + 2 := by rw [<-hW0]; simp
 have hl : ∀ k : Nat, (d.stand.tp k).length <= 1000000 := λ k => Hm (kK ok k);have WC := hd1 (Eo (w := W0) (hr.keeps (λ k _ hl => B0.block k hl) (λ _ h _ => h)) ok (IV hn GY) (λ k _ => hl k));have HB := hd9 B0 r1 r2 s0 hr hC gF ok hl;have HN := hd1 hn;have HW := hd1 hW0;clear B0 r1 r2 s0 hr gF hW0 ok hn hroom hl hC;obtain ⟨b, hb⟩ := G8 (aP (λ k => aH (d.stand.tp k)) 2);have WC : Hid (Calls prog 48 #[.agg C] W0 λ en w' => Below W0 W0 w' /\ ∃ a n c, en = .returned (.tuple #[.int .i64 (mD b), .agg (mF b.2.gen (.slice a n c) b.2.aK b.2.fin)])) := hd1 (WC.mono (λ en w' h => by
  obtain ⟨h1, v1, rfl, a, n, c, rfl, _⟩ := h;rw [hb];exact ⟨h1, a, n, c, rfl⟩))
 rw [hb];have z_ := hd1 hb;clear hb;go_in;go_upto_region 1 with fail
 rw [show ((w.alloc (.cells C af)).alloc (.cells #[.int .i64 0, .int .i64 0, (), (), (), (), (), (), false, .int .i64 0, false, (), .int .i64 0] ah)) = W0 from HW.out];obtain ⟨BN, hBN⟩ := G8 (mD b);rw [hBN] at WC
 go_upto_region 2 with (first
  | (refine He HB.2.1 Hz (by rw [aI, HB.2.2.2.2.2.1]) ?_)
  | (go_at_call 48; refine WC.mono ?_; rintro en w1 ⟨b1, xa, xn, xc, rfl⟩))
 obtain ⟨T, hT⟩ := G8 (mF b.2.gen (.slice xa xn xc) b.2.aK b.2.fin);obtain ⟨W2, hW2⟩ := G8 (w1.alloc (.cells (mF b.2.gen (.slice xa xn xc) b.2.aK b.2.fin) aR));rw [hW2];obtain ⟨g5, hg5⟩ := G8 w1.heap.size;rw [hg5];have B2 : Below W0 W0 W2 := by rw [<-hW2]; exact b1.alloc b1.size _
 have S2 : qy w W2 F g5 T C d := by
  have b02 : Below w w W2 := HB.1.trans (B2.mono HB.1.size);have r5 : W2.heap[g5]? = some (.cells T aR) := by rw [<-hW2, <-hT]; exact bC _ hg5.symm
  exact ⟨b02, (B2.block _ (aa HB.2.1)).trans HB.2.1, (B2.block _ (aa HB.2.2.1)).trans HB.2.2.1, r5,
   HB.2.2.2.2.1.keeps (λ k _ hl => b02.block k hl) (λ k h hl => IB ⟨h, hl⟩), Ho b1.size HB.2.2.2.1, HB.2.2.2.2.2.1, HB.2.2.2.2.2.2.1, HB.2.2.2.2.2.2.2.1⟩
 have K3 : T[3]? = some (.int .i64 b.2.fin) := by rw [<-hT]; rfl
 clear B2 b1 hW2 hg5 hT WC;have ST := hd1 (qQ S2.ref S2.ok (IV HN.out GY));have S2 := hd1 S2;have wD := y1n;have hi0 := z3j;have hi1 := z3k
 go_upto_region 3 with (first
  | (refine He S2.r1 Hz (by rw [aI, S2.size]) ?_)
  | (go_at_call 49; refine ST.mono ?_; rintro en w3 ⟨sv, u0, u1, u2, u3, rfl, b3, Bu⟩
     obtain ⟨secs, _, _, y0, y1, y2, y3⟩ := Bu;obtain ⟨a0, c0, rfl⟩ := y0.slice;obtain ⟨a1, c1, rfl⟩ := y1.slice;obtain ⟨a2, c2, rfl⟩ := y2.slice;obtain ⟨a3, c3, rfl⟩ := y3.slice))
 have S3 := hd1 (S2.later b3);clear S2 ST y0 y1 y2 y3 b3;obtain ⟨n0, hn0⟩ := G8 ((d.stand.tp 0).length);rw [hn0];obtain ⟨n1, hn1⟩ := G8 ((d.stand.tp 1).length);rw [hn1];have su := hd1 hn1;clear hn1;generalize (d.stand.tp 2).length = n2 at *;generalize (d.stand.tp 3).length = n3 at *;have zV := hd1 hn0;clear hn0;by_cases hg : b.2.gen = 0
 ·have OE := hd1 (x1n (d := d) hg)
  have e1 : BN = -1 := by rw [<-hBN]; unfold mD; rw [IE hg]
  subst e1;clear hg;by_cases hz : n0 = 0
  ·have HE := hd1 (show Em.bZ d 0 = (d, 0) by unfold Em.bZ; rw [IE (by show (d.stand.tp 0).length = 0; rw [zV.out]; exact hz)])
   subst hz;go_upto_region 9 with fail
   have HH := hd1 (show ∀ W : World, Calls prog 52 #[.int .i64 1, ()] W (gP W (Em.jU 1 [])) from λ W => Fa (F := λ _ => False) (R := []) (g := 1) (IB ⟨rfl, rfl⟩) GY (λ r hr => by cases hr) GY);have HF : Em.jU 1 [] = Em.folded 1 (.map []) := by have := z0v 1 Em.oz; rw [Em.xS] at this; exact this
   have je : (Em.jU 1 []).length <= 2200000 := by rw [HF]; exact Em.um (D := .map []) 1 GY
   have HF := hd1 HF;obtain ⟨hF, oM⟩ := G8 (Em.jU 1 []);rw [oM] at HH je HF;have je := hd1 (show hF.length <= 1048576 by rw [<-oM]; decide +kernel);clear oM;have ne : Nonempty (Wd (Below w3 w3)) := ⟨⟨_, Below.refl _ _⟩⟩;have LD : Hid (∀ w', (∃ x : Wd (Below w3 w3), w' = x.world) -> (Instr.loadAt af (.pointer (some w.heap.size))).run prog w' = .ok (.agg C) w') := by
    exact Q3
   have ku := hd1 (Dc (t := 0) S3.ok GY GY hF);have W2 := Em.wP d 0 hF;obtain ⟨r2, hr2⟩ := G8 (d.append 0 hF);rw [hr2] at ku W2;obtain ⟨d2, e2⟩ := r2;have W2 := hd1 W2;have AC : Hid (∀ (W : World) (bv : Value), Below w3 w3 W -> BytesAt W.heap (λ _ => True) bv hF -> Calls prog 51 #[.agg C, .int .i64 0, bv] W (il W (n_ F w (g5 + 1)) (d2, e2))) := hd1 (λ W bv hb hy => by
    have := FI ((S3.later hb).ref) S3.ok (Hm HN.out) 0 hy je.out;rw [hr2] at this;exact this)
   have HR2 := hd1 hr2;clear hr2;refine bD (λ w' => ∃ x : Wd (Below w3 w3), w' = x.world) [4, 5, 6, 7] GV ?_;refine aL [0] 7 _ Hu GV ?_;simp only [fmc, fmn, gta, gcs, gcz];refine eH rfl af (.tmp 1) rfl _ LD.out ?_;refine aB ?_;refine aA 1 6 _ _ rfl GV ?_;refine IJ rfl λ K hK => ?_;go_simp;go_at_call 52;refine (HH.out _).mono ?_;rintro en w5 ⟨hv, rfl, pX, b5⟩;have lS : Below w3 w3 w5 := G6.drew.trans b5;have Y5 := hd1 (show BytesAt w5.heap (λ _ => True) hv hF from pX.at.keeps (λ _ _ _ => rfl) (λ _ _ _ => trivial));clear pX b5;refine hK _ _ (IG ⟨rfl, λ _ => ⟨⟨_, lS⟩, rfl⟩, ?_⟩);clear hK K;obtain ⟨ha, hc, rfl⟩ := Y5.slice;refine aA 2 5 _ _ rfl GV ?_;refine IJ rfl λ K hK => ?_;go_simp;go_at_call 51;refine (AC.out _ _ lS Y5.out).mono ?_;rintro en w6 ⟨v6, rfl, b6, f6⟩;obtain ⟨C6, rfl, ug, yX⟩ := f6.cells;have nS : Below w3 w3 w6 := lS.trans (b6.mono lS.size);refine hK _ _ (IG ⟨rfl, λ _ => ⟨⟨_, nS⟩, rfl⟩, ?_⟩);clear hK K;refine aL [3] 4 _ ⟨⟨_, nS⟩, rfl⟩ GV ?_;refine Hd ?_;refine eY [4, 5] 2 _ GV ?_;refine Hd ?_;refine aA 6 1 _ _ rfl GV ?_;refine aD rfl af _ _ rfl w.heap.size _ rfl rfl af _ ((nS.block _ (aa S3.r1)).trans S3.r1) (by rw [aI, ug]) (by rw [ug, S3.size]) yX ?_;intro W6 iQ ik oh;refine IG ⟨rfl, λ h => absurd GY h, ?_⟩;refine aA 7 0 _ _ rfl GV ?_;refine IJ rfl λ K hK => ?_;go_simp;refine hK _ _ (IG ⟨rfl, λ h => absurd GY h, GV, ?_⟩);clear hK K;have S6 := hd1 (S3.call nS lS f6 ik iQ.out ku.out);clear nS lS b6 f6 iQ ik oh Y5 AC HH ug yX ne LD;by_cases he2 : e2 = 0
   ·subst he2
    have SC := vL S6.ref S6.ok (Ho HN.out W2.out);have ic := hd1 (wM S6.ok);obtain ⟨r3, hr3⟩ := G8 d2.sync;rw [hr3] at SC ic;obtain ⟨d3, e3⟩ := r3;have SC := hd1 SC;have HRW := hd1 (show (Em.bY d b).1.d = d3 /\ (Em.bY d b).1.gone = false /\ (Em.bY d b).2 = e3 from by rw [OE.out]; exact zG (d := d) (r := (d3, e3)) (by rw [<-HF.out, Bh _ HE.out, show d.append (0 : Nat) hF = (d2, 0) from HR2.out]; exact hr3));clear hr3
    go_upto_region 13 with (first
     | (refine He S6.r1 Hz (by rw [aI, S6.size]) ?_)
     | (go_at_call 53; refine SC.mono ?_; rintro en w7 ⟨v7, rfl, b7, f7⟩; obtain ⟨C7, rfl, _, _⟩ := f7.cells)
     | (refine aD rfl af _ _ rfl w.heap.size _ rfl rfl af _ ((b7.block _ (aa S6.r1)).trans S6.r1) MH MB MM ?_; intro W7 iE jc qB))
    have S7 := hd1 (S6.call b7 G6 f7 jc iE.out ic.out);clear b7 f7 iE jc qB S6 SC;have SE := S7;exact Og
   ·have HRW := hd1 (show (Em.bY d b).1.d = d2 /\ (Em.bY d b).1.gone = false /\ (Em.bY d b).2 = e2 from by rw [OE.out]; exact zG (d := d) (r := (d2, e2)) (by rw [<-HF.out, Bh _ HE.out, show d.append (0 : Nat) hF = (d2, e2) from HR2.out]; exact IA he2))
    have SE := S6;exact Og
  ·have uU := hd1 (show Em.bZ d 0 = d.cut (0 : Nat) 0 by unfold Em.bZ; rw [IA (by show ¬ (d.stand.tp 0).length = 0; rw [zV.out]; exact hz)])
   have hz1 : (0 : Int) < (n0 : Int) := GX;have CC := Bq S3.ref S3.ok (IV HN.out GY) 0 0;have l6 := hd1 (Db (t := 0) (n := 0) S3.ok GY GY);have W1 := Em.wO d 0 0;obtain ⟨r1, hr1⟩ := G8 (d.cut 0 0);rw [hr1] at CC l6 W1;have HR1 := hd1 hr1;clear hr1;obtain ⟨d1, e1⟩ := r1;have CC := hd1 CC;have xz := hd1 W1;clear W1 hz
   go_upto_region 7 with (first
    | (refine He S3.r1 Hz (by rw [aI, S3.size]) ?_)
    | (go_at_call 50; refine CC.mono ?_; rintro en w4 ⟨v4, rfl, b4, f4⟩; obtain ⟨C4, rfl, _, _⟩ := f4.cells)
    | (refine aD rfl af _ _ rfl w.heap.size _ rfl rfl af _ ((b4.block _ (aa S3.r1)).trans S3.r1) (by obtain ⟨_, e, h1, _⟩ := f4.cells; cases e; rw [aI, h1]) (by obtain ⟨_, e, h1, _⟩ := f4.cells; cases e; rw [h1, S3.size]) (by obtain ⟨_, e, _, h2⟩ := f4.cells; cases e; exact h2) ?_; intro W4 iF jd mW))
   have S4 := hd1 (S3.call b4 G6 f4 jd iF.out l6.out);clear b4 f4 iF jd mW S3 CC;by_cases he : e1 = 0
   ·subst he
    have HE := hd1 (show Em.bZ d 0 = (d1, 0) by rw [uU.out]; exact HR1.out);go_upto_region 9 with fail
    have HH := hd1 (show ∀ W : World, Calls prog 52 #[.int .i64 1, ()] W (gP W (Em.jU 1 [])) from λ W => Fa (F := λ _ => False) (R := []) (g := 1) (IB ⟨rfl, rfl⟩) GY (λ r hr => by cases hr) GY);have HF : Em.jU 1 [] = Em.folded 1 (.map []) := by have := z0v 1 Em.oz; rw [Em.xS] at this; exact this
    have je : (Em.jU 1 []).length <= 2200000 := by rw [HF]; exact Em.um (D := .map []) 1 GY
    have HF := hd1 HF;obtain ⟨hF, oM⟩ := G8 (Em.jU 1 []);rw [oM] at HH je HF;have je := hd1 (show hF.length <= 1048576 by rw [<-oM]; decide +kernel);clear oM;have ne : Nonempty (Wd (Below W4 W4)) := ⟨⟨_, Below.refl _ _⟩⟩;have LD : Hid (∀ w', (∃ x : Wd (Below W4 W4), w' = x.world) -> (Instr.loadAt af (.pointer (some w.heap.size))).run prog w' = .ok (.agg C4) w') := by
     rintro w' ⟨x, rfl⟩;exact gy ((x.ok.block _ (aa S4.r1)).trans S4.r1) Hz rfl (by rw [aI, S4.size])
    have ku := hd1 (Dc (t := 0) S4.ok GY GY hF);have W2 := Em.wP d1 0 hF;obtain ⟨r2, hr2⟩ := G8 (d1.append 0 hF);rw [hr2] at ku W2;obtain ⟨d2, e2⟩ := r2;have W2 := hd1 W2;have AC : Hid (∀ (W : World) (bv : Value), Below W4 W4 W -> BytesAt W.heap (λ _ => True) bv hF -> Calls prog 51 #[.agg C4, .int .i64 0, bv] W (il W (n_ F w (g5 + 1)) (d2, e2))) := hd1 (λ W bv hb hy => by
     have := FI ((S4.later hb).ref) S4.ok (by have := HN.out; have hw1 : d1.waits.length <= d.waits.length + 1 := xz.out; omega) 0 hy je.out;rw [hr2] at this;exact this)
    have HR2 := hd1 hr2;clear hr2;refine bD (λ w' => ∃ x : Wd (Below W4 W4), w' = x.world) [4, 5, 6, 7] GV ?_;refine aL [0] 7 _ Hu GV ?_;simp only [fmc, fmn, gta, gcs, gcz];refine eH rfl af (.tmp 1) rfl _ LD.out ?_;refine aB ?_;refine aA 1 6 _ _ rfl GV ?_;refine IJ rfl λ K hK => ?_;go_simp;go_at_call 52;refine (HH.out _).mono ?_;rintro en w5 ⟨hv, rfl, pX, b5⟩;have lS : Below W4 W4 w5 := G6.drew.trans b5;have Y5 := hd1 (show BytesAt w5.heap (λ _ => True) hv hF from pX.at.keeps (λ _ _ _ => rfl) (λ _ _ _ => trivial));clear pX b5;refine hK _ _ (IG ⟨rfl, λ _ => ⟨⟨_, lS⟩, rfl⟩, ?_⟩);clear hK K;obtain ⟨ha, hc, rfl⟩ := Y5.slice;refine aA 2 5 _ _ rfl GV ?_;refine IJ rfl λ K hK => ?_;go_simp;go_at_call 51;refine (AC.out _ _ lS Y5.out).mono ?_;rintro en w6 ⟨v6, rfl, b6, f6⟩;obtain ⟨C6, rfl, ug, yX⟩ := f6.cells;have nS : Below W4 W4 w6 := lS.trans (b6.mono lS.size);refine hK _ _ (IG ⟨rfl, λ _ => ⟨⟨_, nS⟩, rfl⟩, ?_⟩);clear hK K;refine aL [3] 4 _ ⟨⟨_, nS⟩, rfl⟩ GV ?_;refine Hd ?_;refine eY [4, 5] 2 _ GV ?_;refine Hd ?_;refine aA 6 1 _ _ rfl GV ?_;refine aD rfl af _ _ rfl w.heap.size _ rfl rfl af _ ((nS.block _ (aa S4.r1)).trans S4.r1) (by rw [aI, ug]) (by rw [ug, S4.size]) yX ?_;intro W6 iQ ik oh;refine IG ⟨rfl, λ h => absurd GY h, ?_⟩;refine aA 7 0 _ _ rfl GV ?_;refine IJ rfl λ K hK => ?_;go_simp;refine hK _ _ (IG ⟨rfl, λ h => absurd GY h, GV, ?_⟩);clear hK K;have S6 := hd1 (S4.call nS lS f6 ik iQ.out ku.out);clear nS lS b6 f6 iQ ik oh Y5 AC HH ug yX ne LD;by_cases he2 : e2 = 0
    ·subst he2
     have SC := vL S6.ref S6.ok (by have := HN.out; have := W2.out; have hw1 : d1.waits.length <= d.waits.length + 1 := xz.out; omega);have ic := hd1 (wM S6.ok);obtain ⟨r3, hr3⟩ := G8 d2.sync;rw [hr3] at SC ic;obtain ⟨d3, e3⟩ := r3;have SC := hd1 SC;have HRW := hd1 (show (Em.bY d b).1.d = d3 /\ (Em.bY d b).1.gone = false /\ (Em.bY d b).2 = e3 from by rw [OE.out]; exact zG (d := d) (r := (d3, e3)) (by rw [<-HF.out, Bh _ HE.out, show d1.append (0 : Nat) hF = (d2, 0) from HR2.out]; exact hr3));clear hr3
     go_upto_region 13 with (first
      | (refine He S6.r1 Hz (by rw [aI, S6.size]) ?_)
      | (go_at_call 53; refine SC.mono ?_; rintro en w7 ⟨v7, rfl, b7, f7⟩; obtain ⟨C7, rfl, _, _⟩ := f7.cells)
      | (refine aD rfl af _ _ rfl w.heap.size _ rfl rfl af _ ((b7.block _ (aa S6.r1)).trans S6.r1) MH MB MM ?_; intro W7 iE jc qB))
     have S7 := hd1 (S6.call b7 G6 f7 jc iE.out ic.out);clear b7 f7 iE jc qB S6 SC;have SE := S7;exact Og
    ·have HRW := hd1 (show (Em.bY d b).1.d = d2 /\ (Em.bY d b).1.gone = false /\ (Em.bY d b).2 = e2 from by rw [OE.out]; exact zG (d := d) (r := (d2, e2)) (by rw [<-HF.out, Bh _ HE.out, show d1.append (0 : Nat) hF = (d2, e2) from HR2.out]; exact IA he2))
     have SE := S6;exact Og
   ·have HRW := hd1 (show (Em.bY d b).1.d = d1 /\ (Em.bY d b).1.gone = false /\ (Em.bY d b).2 = e1 from by rw [OE.out]; exact zG (d := d) (r := (d1, e1)) (by unfold Em.bK; rw [uU.out, show d.cut (0 : Nat) 0 = (d1, e1) from HR1.out]; unfold Em.next; rw [IA he, IA he]))
    have SE := S4;exact Og
 ·obtain ⟨k, hk, hbk⟩ := z1j (ts := λ k => aH (d.stand.tp k)) (by rw [z_.out]; exact hg)
  rw [z_.out] at hbk;have e1 : BN = (k : Int) := by rw [<-hBN]; unfold mD; rw [IA hg, hbk]
  have hfl : b.2.fin <= (d.stand.tp k).length := by rw [hbk]; exact (yj (d.stand.tp k)).2.2.2.1
  have mX := hd2 hg hbk;obtain ⟨fin, hfin⟩ := G8 b.2.fin;rw [hfin] at hfl K3;have DZ := hd1 hfin;have K3 := hd1 K3;have ne : Nonempty (Wd (Below w3 w3)) := ⟨⟨_, Below.refl _ _⟩⟩;have LD : Hid (∀ w', (∃ x : Wd (Below w3 w3), w' = x.world) -> (Instr.loadAt af (.pointer (some w.heap.size))).run prog w' = .ok (.agg C) w') := by
   exact Q3
  have f3 : ∀ y : Wd (Below w3 w3), y.world.cell? (g5, 3) = some (.int .i64 (fin : Int)) := λ y => aN y.ok (ae S3.r5 K3.out);have ST2 : Hid (∀ W : World, Below w3 w3 W -> Calls prog 49 #[.agg C] W (qE W (n_ F w (g5 + 1)) d.stand d.many)) := hd1 (λ W hb => qQ (S3.later hb).ref S3.ok (IV HN.out GY));clear hg hbk hfin;have x4t : k = 0 \/ k = 1 := GX;rcases x4t with rfl | rfl
  ·replace e1 : BN = 0 := e1
   subst e1;clear hBN hk;replace hfl : fin <= n0 := by have h := hfl; rw [show (d.stand.tp ((0 : Nat) : Int)).length = n0 from zV.out] at h; exact h
   go_upto_region 14 with fail
   refine bD (λ w' => ∃ x : Wd (Below w3 w3), w' = x.world) [] GV ?_;refine aL [0, 3, 6, 7] 5 _ Hu GV ?_;simp only [fmc, fmn, gta, gcs, gcz];refine eH rfl af (.tmp 1) rfl _ LD.out ?_;repeat refine Ha ?_
   refine aB ?_;refine aA 1 4 _ _ rfl GV ?_;refine IJ rfl λ K hK => ?_;go_simp;go_at_call 49;refine (ST2.out _ G6.drew).mono ?_;rintro en w4 ⟨sM, v0, v1, v2, v3, rfl, b4, FH⟩;obtain ⟨nz, _, _, y0, y1, y2, y3⟩ := FH;obtain ⟨a0', c0', rfl⟩ := y0.slice;obtain ⟨a1', c1', rfl⟩ := y1.slice;obtain ⟨Dx, c2', rfl⟩ := y2.slice;obtain ⟨a3', c3', rfl⟩ := y3.slice;have lU : Below w3 w3 w4 := G6.drew.trans b4;have zX := hd1 (show (d.stand.tp 0).length = n0 from zV.out);rw [show (d.stand.tp (0 : Int)).length = n0 from zV.out];clear y0 y1 y2 y3 b4 ST2;refine hK _ _ (IG ⟨rfl, λ _ => ⟨⟨_, lU⟩, rfl⟩, ?_⟩);clear hK K;refine aL [2, 4, 5, 8] 0 _ ⟨⟨_, lU⟩, rfl⟩ GV ?_;refine Hd ?_;refine ⟨GV, ?_⟩;have S4 := hd1 (S3.later lU);clear lU LD f3 ne S3;by_cases hq : n0 = fin
   ·have hlt : ¬ fin < n0 := GX
    have HRW := hd1 (vU (d := d) (b := b) mX.1 (r := (d, 0)) (by unfold Em.mended; rw [mX.2]; exact IE (by show (d.stand.tp (0 : Int)).length = (aH (d.stand.tp (0 : Nat))).fin; rw [zX.out, hq, <-DZ.out, mX.2])));clear hq hfl;have SE := S4;exact Og
   ·have hlt : fin < n0 := GX
    have CC := Bq S4.ref S4.ok (IV HN.out GY) 0 fin;have l6 := hd1 (Db (t := 0) (n := fin) S4.ok GY GY);have W1 := Em.wO d 0 fin
    have uS := hd1 (show Em.mended d b.1 b.2.fin = Em.next (d.cut 0 fin) D.sync by
     unfold Em.mended;rw [DZ.out, mX.2];exact IA (by show ¬ (d.stand.tp (0 : Int)).length = fin; rw [zX.out]; exact hq))
    obtain ⟨r1, hr1⟩ := G8 (d.cut 0 fin);rw [hr1] at CC l6 W1 uS;clear hr1;obtain ⟨d1, e1⟩ := r1;have CC := hd1 CC;have GI := ae S4.r5 K3.out;have xz := hd1 (show d1.waits.length <= d.waits.length + 1 from W1);clear W1 hq hfl
    go_upto_region 16 with (first
     | (refine He S4.r1 Hz (by rw [aI, S4.size]) ?_)
     | (go_at_call 50; refine CC.mono ?_; rintro en w5 ⟨v5, rfl, b5, f5⟩; obtain ⟨C5, rfl, _, _⟩ := f5.cells)
     | (refine aD rfl af _ _ rfl w.heap.size _ rfl rfl af _ ((b5.block _ (aa S4.r1)).trans S4.r1) MI ME MN ?_; intro W5 aF az bf))
    have S5 := hd1 (S4.call b5 G6 f5 az aF.out l6.out);clear b5 f5 aF az bf S4 CC GI;by_cases he : e1 = 0
    ·subst he
     have SC := vL S5.ref S5.ok (Ho HN.out xz.out);have ic := hd1 (wM S5.ok);obtain ⟨r3, hr3⟩ := G8 d1.sync;rw [hr3] at SC ic;obtain ⟨d3, e3⟩ := r3;have SC := hd1 SC;have HRW := hd1 (vU (d := d) (b := b) mX.1 (r := (d3, e3)) (by rw [uS.out]; exact hr3));clear hr3
     go_upto_region 19 with (first
      | (refine He S5.r1 Hz (by rw [aI, S5.size]) ?_)
      | (go_at_call 53; refine SC.mono ?_; rintro en w7 ⟨v7, rfl, b7, f7⟩; obtain ⟨C7, rfl, _, _⟩ := f7.cells)
      | (refine aD rfl af _ _ rfl w.heap.size _ rfl rfl af _ ((b7.block _ (aa S5.r1)).trans S5.r1) MH MF MM ?_; intro W7 iE jc qB))
     have S7 := hd1 (S5.call b7 G6 f7 jc iE.out ic.out);clear b7 f7 iE jc qB S5 SC;by_cases he3 : e3 = 0
     ·subst he3
      have SE := S7;exact Og
     ·have SE := S7
      exact Og
    ·have HRW := hd1 (vU (d := d) (b := b) mX.1 (r := (d1, e1)) (by rw [uS.out]; exact IA he))
     have SE := S5;exact Og
  ·replace e1 : BN = 1 := e1
   subst e1;clear hBN hk;replace hfl : fin <= n1 := by have h := hfl; rw [show (d.stand.tp ((1 : Nat) : Int)).length = n1 from su.out] at h; exact h
   go_upto_region 14 with fail
   refine bD (λ w' => ∃ x : Wd (Below w3 w3), w' = x.world) [] GV ?_;refine aL [0, 3, 6, 7] 5 _ Hu GV ?_;simp only [fmc, fmn, gta, gcs, gcz];refine eH rfl af (.tmp 1) rfl _ LD.out ?_;repeat refine Ha ?_
   refine aB ?_;refine aA 1 4 _ _ rfl GV ?_;refine IJ rfl λ K hK => ?_;go_simp;go_at_call 49;refine (ST2.out _ G6.drew).mono ?_;rintro en w4 ⟨sM, v0, v1, v2, v3, rfl, b4, FH⟩;obtain ⟨nz, _, _, y0, y1, y2, y3⟩ := FH;obtain ⟨a0', c0', rfl⟩ := y0.slice;obtain ⟨a1', c1', rfl⟩ := y1.slice;obtain ⟨Dx, c2', rfl⟩ := y2.slice;obtain ⟨a3', c3', rfl⟩ := y3.slice;have lU : Below w3 w3 w4 := G6.drew.trans b4;have zX := hd1 (show (d.stand.tp 1).length = n1 from su.out);rw [show (d.stand.tp (1 : Int)).length = n1 from su.out];clear y0 y1 y2 y3 b4 ST2;refine hK _ _ (IG ⟨rfl, λ _ => ⟨⟨_, lU⟩, rfl⟩, ?_⟩);clear hK K;refine aL [2, 4, 5, 8] 0 _ ⟨⟨_, lU⟩, rfl⟩ GV ?_;refine Hd ?_;refine ⟨GV, ?_⟩;have S4 := hd1 (S3.later lU);clear lU LD f3 ne S3;by_cases hq : n1 = fin
   ·have hlt : ¬ fin < n1 := GX
    have HRW := hd1 (vU (d := d) (b := b) mX.1 (r := (d, 0)) (by unfold Em.mended; rw [mX.2]; exact IE (by show (d.stand.tp (1 : Int)).length = (aH (d.stand.tp (1 : Nat))).fin; rw [zX.out, hq, <-DZ.out, mX.2])));clear hq hfl;have SE := S4;exact Og
   ·have hlt : fin < n1 := GX
    have CC := Bq S4.ref S4.ok (IV HN.out GY) 1 fin;have l6 := hd1 (Db (t := 1) (n := fin) S4.ok GY GY);have W1 := Em.wO d 1 fin
    have uS := hd1 (show Em.mended d b.1 b.2.fin = Em.next (d.cut 1 fin) D.sync by
     unfold Em.mended;rw [DZ.out, mX.2];exact IA (by show ¬ (d.stand.tp (1 : Int)).length = fin; rw [zX.out]; exact hq))
    obtain ⟨r1, hr1⟩ := G8 (d.cut 1 fin);rw [hr1] at CC l6 W1 uS;clear hr1;obtain ⟨d1, e1⟩ := r1;have CC := hd1 CC;have GI := ae S4.r5 K3.out;have xz := hd1 (show d1.waits.length <= d.waits.length + 1 from W1);clear W1 hq hfl
    go_upto_region 16 with (first
     | (refine He S4.r1 Hz (by rw [aI, S4.size]) ?_)
     | (go_at_call 50; refine CC.mono ?_; rintro en w5 ⟨v5, rfl, b5, f5⟩; obtain ⟨C5, rfl, _, _⟩ := f5.cells)
     | (refine aD rfl af _ _ rfl w.heap.size _ rfl rfl af _ ((b5.block _ (aa S4.r1)).trans S4.r1) MI ME MN ?_; intro W5 aF az bf))
    have S5 := hd1 (S4.call b5 G6 f5 az aF.out l6.out);clear b5 f5 aF az bf S4 CC GI;by_cases he : e1 = 0
    ·subst he
     have SC := vL S5.ref S5.ok (Ho HN.out xz.out);have ic := hd1 (wM S5.ok);obtain ⟨r3, hr3⟩ := G8 d1.sync;rw [hr3] at SC ic;obtain ⟨d3, e3⟩ := r3;have SC := hd1 SC;have HRW := hd1 (vU (d := d) (b := b) mX.1 (r := (d3, e3)) (by rw [uS.out]; exact hr3));clear hr3
     go_upto_region 19 with (first
      | (refine He S5.r1 Hz (by rw [aI, S5.size]) ?_)
      | (go_at_call 53; refine SC.mono ?_; rintro en w7 ⟨v7, rfl, b7, f7⟩; obtain ⟨C7, rfl, _, _⟩ := f7.cells)
      | (refine aD rfl af _ _ rfl w.heap.size _ rfl rfl af _ ((b7.block _ (aa S5.r1)).trans S5.r1) MH MF MM ?_; intro W7 iE jc qB))
     have S7 := hd1 (S5.call b7 G6 f7 jc iE.out ic.out);clear b7 f7 iE jc qB S5 SC;by_cases he3 : e3 = 0
     ·subst he3
      have SE := S7;exact Og
     ·have SE := S7
      exact Og
    ·have HRW := hd1 (vU (d := d) (b := b) mX.1 (r := (d1, e1)) (by rw [uS.out]; exact IA he))
     have SE := S5;exact Og
end
section
open Go.RowKit Dm
attribute [local go_sem] Oper.semAt_some
structure iH (w W : World) (F : Nat -> Prop) (g9 g10 : Nat) (T E C : Array Value) (e : Em.E) (rv : Value) (R : Em.bB) (d : D) : Prop where
 below : Below w.heap.size w W
 r2 : W.heap[w.heap.size]? = some (.cells E ah (0, 0))
 r4 : W.heap[w.heap.size + 1]? = some (.cells bM ah (0, 0))
 r9 : W.heap[g9]? = some (.cells T aR (0, 0))
 eU : W.heap[g10]? = some (.cells C af (0, 0))
 log : dX W (λ k => F k /\ k < w.heap.size) (.agg E) e
 rows : dw W (λ b => b ≠ w.heap.size /\ b ≠ w.heap.size + 1 /\ b ≠ g9 /\ b ≠ g10) rv R
 ref : bU W.heap (n_ F w (g10 + 1)) (.agg C) d
 lt : w.heap.size + 1 < g9 /\ g9 < g10
 size : C.size = 10
 ones : C.all (·.oneCell') = true
 ok : d.ok
theorem iH.later {g9 g10 : Nat} {T E : Array Value} {e : Em.E} {rv : Value} {R : Em.bB} {d : D} (h : iH w W F g9 g10 T E C e rv R d) (hb : Below W W W1) : iH w W1 F g9 g10 T E C e rv R d :=
 ⟨h.below.trans (hb.mono h.below.size), (hb.block _ (aa h.r2)).trans h.r2, (hb.block _ (aa h.r4)).trans h.r4, (hb.block _ (aa h.r9)).trans h.r9, (hb.block _ (aa h.eU)).trans h.eU,
  h.log.later hb, h.rows.later hb, h.ref.keeps (λ k _ hl => hb.block k hl) (λ _ h _ => h), h.lt, h.size, h.ones, h.ok⟩
theorem iH.call {g9 g10 : Nat} {T E C1 : Array Value} {e : Em.E} {rv : Value} {R : Em.bB} {d d1 : D} (h : iH w W F g9 g10 T E C e rv R d) (hb : Below W W W1) {X : World} (hX : Below W W X)
 (hr : bU W1.heap (plus (n_ F w (g10 + 1)) X W1) (.agg C1) d1) (hm : Moves (λ k => k = g10) W1 W2) (hrow : W2.heap[g10]? = some (.cells C1 af)) (ok : d1.ok) : iH w W2 F g9 g10 T E C1 e rv R d1 := by
 obtain ⟨C', e1, s, o⟩ := hr.cells;cases e1;have h1 := h.later hb;obtain ⟨l1, l2⟩ := h.lt;have l10 := aa h.eU;have sX := hX.size
 refine ⟨Moves.new h1.below hm GX, (hm.block _ (aa h1.r2) GX).trans h1.r2, (hm.block _ (aa h1.r4) GX).trans h1.r4, (hm.block _ (aa h1.r9) GX).trans h1.r9, hrow,
  h1.log.keeps (λ k hk hl => hm.block k hl (Hm hk.2)) (λ _ h _ => h), h1.rows.yO (λ k hk hl => hm.block k hl hk.2.2.2) (λ _ h _ => h), ?_, h.lt, s, o, ok⟩
 exact P9
theorem iH.give {W5 : World} {g9 g10 : Nat} {T E : Array Value} {e : Em.E} {rv : Value} {R : Em.bB} {d : D} (h : iH w W F g9 g10 T E C e rv R d) (hm : Moves (λ k => k = w.heap.size + 1) W W5) {l : List Em.ay} (hr : Made e l d false c) :
 uY w F (e.bE l) (.returned (.tuple #[.agg (bT C false (.slice none 0 0) 0), .int .i64 c])) W5 := by
 obtain ⟨l1, l2⟩ := h.lt;obtain ⟨rfl, h2, rfl, _⟩ := hr;refine ⟨_, rfl, Moves.new h.below hm GX, ?_⟩;refine bU.log (h.ref.keeps (λ k hk hl => hm.block k hl ?_) (λ k hk _ => ?_)) h2
 ·rcases hk with hk | hk
  ·omega
  ·omega
 ·exact R8
theorem iH.same {W5 : World} {e : Em.E} (hl : dX W (λ k => F k /\ k < w.heap.size) v e) (hb : Below w w W) (hm : Moves (λ k => k = w.heap.size + 1) W W5) {r : Em.E × Int} (hr : r.1 = e) :
 uY w F r (.returned (.tuple #[v, .int .i64 r.2])) W5 := by
 subst hr;exact ⟨_, rfl, Moves.new hb hm GX, hl.keeps (λ k hk hl => hm.block k hl (Hm hk.2)) (λ k hk _ => IB hk.1)⟩
theorem iH.lost {W5 : World} {g9 g10 : Nat} {T E : Array Value} {e : Em.E} {rv : Value} {R : Em.bB} {d : D} (h : iH w W F g9 g10 T E C e rv R d) (hb : Below W W W1)
 (hv : dX W1 (λ k => n_ F w (g10 + 1) k \/ W.heap.size <= k) v { e with d := d, gone := true }) (hm : Moves (λ k => k = w.heap.size + 1) W1 W5) {l : List Em.ay} (hr : Made e l d true c) (hc : c = 281) :
 uY w F (e.bE l) (.returned (.tuple #[v, .int .i64 281])) W5 := by
 subst hc;obtain ⟨l1, l2⟩ := h.lt;have l10 := aa h.eU;obtain ⟨h1, h2, h3, h4⟩ := hr;obtain ⟨h5, h6⟩ := h4 rfl;refine ⟨v, by rw [h3], Moves.new (h.below.trans (hb.mono h.below.size)) hm GX, ?_⟩;have hv := hv.keeps (w' := W5) (F' := λ k => F k \/ w.heap.size <= k) (λ k hk hl => hm.block k hl (by rcases hk with (hk | hk) | hk <;> omega)) (λ k hk _ => by
  rcases hk with (hk | hk) | hk
  ·exact IB hk.1
  ·exact IC GX
  ·exact IC (Hm h.below.size))
 obtain ⟨C', a, n, c, e1, s1, s2, s3, s4⟩ := hv;refine ⟨C', a, n, c, ?_, s1, s2, by rw [h1]; exact s3, ?_⟩
 ·rw [e1]
  unfold dG;rw [h2, h6]
 ·unfold BG at s4 ⊢
  rw [h2, h5];exact s4
end
end Go.Proofs.YtgffifleflkjoaaGreat
