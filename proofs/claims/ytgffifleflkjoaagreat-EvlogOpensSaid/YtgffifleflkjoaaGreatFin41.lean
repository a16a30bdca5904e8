/-
  Parts of a proof.
-/
import Derived.Test.YtgffifleflkjoaaGreatFin39
set_option linter.unusedSimpArgs false
set_option linter.unusedVariables false
set_option maxRecDepth 100000
set_option maxHeartbeats 16000000
namespace Go.Proofs.YtgffifleflkjoaaGreat
open _root_.Go.Proofs.Tryz
variable {w W w' w0 wr w1 W0 W1 W2 A B : World} {F G F' O : Nat → Prop} {v : Value} {l : List UInt8} {n q m pd md pl g p : Nat} {C : Array Value} {c : Int}
section
open Go.RowKit Dm
attribute [local go_sem] Oper.semAt_some
theorem y0h {d : D} (h : d.ok) {s : Step} (hs : s.ok d.many) (ht : ∀ t, ((d.stand.done s).tp t).length <= d.room) : (d.step s).1.ok := by
 have hg := y9 h;unfold D.step;split
 ·exact step_ok h hs ht _ (q8 d) (tO d) (z0h d) rfl hg.stops hg.si
 ·exact hg
theorem wG {d : D} (h : d.ok) {t : Int} (h0 : 0 <= t) (h3 : t <= 3) (l : List UInt8) : (d.append t l).1.ok := by
 unfold D.append;rw [Iw GR];by_cases q : d.stand.used + l.length > d.room
 ·rw [IA q]; exact h
 ·rw [Iw q]
  obtain ⟨a1, a2⟩ := y1e h t l h0 h3 q;exact y0h h (Iz (Iy ⟨rfl, h0, h3, rfl, a2⟩)) a1
theorem CZ {d : D} (h : d.ok) {t n : Int} (h0 : 0 <= t) (h3 : t <= 3) : (d.cut t n).1.ok := by
 unfold D.cut;by_cases q : t < 0 \/ t > 3 \/ n < 0 \/ n > (d.stand.tp t).length
 ·rw [IA q]; exact h
 ·rw [Iw q]
  have h1 := kC h t;have h2 := h.fE;exact y0h h (Iz (Iz ⟨rfl, h0, h3, by show 0 <= n; omega, by show n <= 1048576; omega, rfl⟩)) (y0b h t n)
theorem t_ {d : D} (h : d.ok) : d.sync.1.ok := by
 have hg := y9 h;unfold D.sync;split
 ·exact z3a h _ (q8 d) (tO d) rfl rfl hg.stops hg.si
 ·exact hg
theorem z0p {D : Em.Rows} (g : Nat) (h : Em.bI D) : Em.jT g (Em.tell D) = Em.folded g D := by
 rw [Em.z0b g h];unfold Em.jT Em.kK Em.kJ;rw [Em.oW];congr 1
 unfold Em.tell;rw [List.flatMap_map];rfl
theorem y1n (sv : Value) (a0 a1 a2 a3 : Option Addr) (n0 n1 n2 n3 c0 c1 c2 c3 : Nat) (W : World) : (Instr.field aO (.agg #[sv, .slice a0 n0 c0, .slice a1 n1 c1, .slice a2 n2 c2, .slice a3 n3 c3]) 1).run prog W = .ok (.agg #[.slice a0 n0 c0, .slice a1 n1 c1, .slice a2 n2 c2, .slice a3 n3 c3]) W := GQ
theorem z3f (a0 a1 a2 a3 : Option Addr) (n0 n1 n2 n3 c0 c1 c2 c3 : Nat) (W : World) : (Instr.index 58 (.agg #[.slice a0 n0 c0, .slice a1 n1 c1, .slice a2 n2 c2, .slice a3 n3 c3]) (.int .i64 0)).run prog W = .ok (.slice a0 n0 c0) W := GQ
theorem z3g (a0 a1 a2 a3 : Option Addr) (n0 n1 n2 n3 c0 c1 c2 c3 : Nat) (W : World) : (Instr.index 58 (.agg #[.slice a0 n0 c0, .slice a1 n1 c1, .slice a2 n2 c2, .slice a3 n3 c3]) (.int .i64 1)).run prog W = .ok (.slice a1 n1 c1) W := GQ
def nO (F : Nat -> Prop) (w : World) (base : Nat) : Nat -> Prop := λ k => (F k /\ k < w.heap.size) \/ base <= k
structure qj (w W : World) (F : Nat -> Prop) (g5 : Nat) (T : Array Value) (C : Array Value) (d : D) : Prop where
 below : Below w.heap.size w W
 r1 : W.heap[w.heap.size]? = some (.cells C af (0, 0))
 r2 : W.heap[w.heap.size + 1]? = some (.cells bP aj (0, 0))
 r5 : W.heap[g5]? = some (.cells T aS (0, 0))
 ref : bR W.heap (nO F w (g5 + 1)) (.agg C) d
 lt : w.heap.size + 1 < g5
 size : C.size = 10
 ones : C.all (·.oneCell') = true
 ok : d.ok
theorem qj.later {g5 : Nat} {T : Array Value} {d : D} (h : qj w W F g5 T C d) (hb : Below W W W1) : qj w W1 F g5 T C d :=
 ⟨h.below.trans (hb.mono h.below.size), (hb.block _ (aa h.r1)).trans h.r1, (hb.block _ (aa h.r2)).trans h.r2, (hb.block _ (aa h.r5)).trans h.r5, h.ref.keeps (λ k _ hl => hb.block k hl) (λ _ h _ => h), h.lt, h.size, h.ones, h.ok⟩
theorem qj.call {g5 : Nat} {T C1 : Array Value} {d d1 : D} (h : qj w W F g5 T C d) (hb : Below W W W1) {X : World} (hX : Below W W X) (hr : bR W1.heap (plus (nO F w (g5 + 1)) X W1) (.agg C1) d1)
 (hm : Moves (λ k => k = w.heap.size) W1 W2) (hrow : W2.heap[w.heap.size]? = some (.cells C1 af)) (ok : d1.ok) : qj w W2 F g5 T C1 d1 := by
 obtain ⟨C', e, s, o⟩ := hr.cells;cases e;have h1 := h.later hb;have lt := h.lt;have l5 := aa h.r5;have sX := hX.size;refine ⟨Moves.new h1.below hm GZ, hrow, (hm.block _ (aa h1.r2) GR).trans h1.r2, (hm.block _ (aa h1.r5) GR).trans h1.r5, ?_, lt, s, o, ok⟩;exact PY
theorem qj.give {W5 : World} {g5 : Nat} {T : Array Value} {d : D} (h : qj w W F g5 T C d) (hm : Moves (λ k => k = w.heap.size + 1) W W5) {r : Em.E × Int} (hr : r.1.d = d) (hg : r.1.gone = false) (hc : r.2 = c) :
 uP w F r (.returned (.tuple #[.agg (bQ C false (.slice none 0 0) 0), .int .i64 c])) W5 := by
 subst hr;subst hc;have lt := h.lt;refine ⟨_, rfl, Moves.new h.below hm GR, ?_⟩;refine bR.log (h.ref.keeps (λ k hk hl => hm.block k hl ?_) (λ k hk _ => ?_)) hg
 ·rcases hk with hk | hk
  ·omega
  ·omega
 ·exact RH
theorem zw {d : D} {r : D × Int} (h : Em.bK d 0 (Em.folded 1 (.map [])) = r) : (Em.begun d).1.d = r.1 /\ (Em.begun d).1.gone = false /\ (Em.begun d).2 = r.2 := by
 subst h;exact Qs
theorem x1s {d : D} {b : Nat × Em.T} (h : b.2.gen = 0) : Em.bZ d b = Em.begun d := IA h
theorem vM {d : D} {b : Nat × Em.T} (h : ¬ b.2.gen = 0) {r : D × Int} (hr : Em.mended d b.1 b.2.fin = r) : (Em.bZ d b).1.d = r.1 /\ (Em.bZ d b).1.gone = false /\ (Em.bZ d b).2 = r.2 := by
 subst hr;unfold Em.bZ;rw [Iw h];exact Qs
theorem Ba {d d1 : D} (b : List UInt8) (h : Em.b_ d 0 = (d1, 0)) : Em.bK d 0 b = Em.next (d1.append (0 : Nat) b) D.sync := by
 unfold Em.bK;rw [h];rfl
theorem z5d {d : D} (hr : bR w.heap F v d) (ok : d.ok) (hn : d.waits.length <= 1000000000) (hroom : d.room <= 1000000) :
 Calls prog 26 #[v] w (uP w F (Em.bZ d (aP (λ k => aJ (d.stand.tp k)) 2))) := by
 obtain ⟨C, rfl, hC, gH⟩ := hr.cells;obtain ⟨W0, hW0⟩ := G5 ((w.alloc (.cells C af)).alloc (.cells bP aj));have B0 : Below w w W0 := by rw [<-hW0]; exact (bla).alloc GV _
 have r1 : W0.heap[w.heap.size]? = some (.cells C af) := by rw [<-hW0]; exact aM GV (IC w _)
 have r2 : W0.heap[w.heap.size + 1]? = some (.cells bP aj) := by rw [<-hW0]; exact bD (w := w.alloc _) _ GV
 have s0 : W0.heap.size = w.heap.size + 2 := by rw [<-hW0]; simp
 have hl : ∀ k : Nat, (d.stand.tp k).length <= 1000000 := λ k => Hf (kC ok k);have WC := hd1 (Er (w := W0) (hr.keeps (λ k _ hl => B0.block k hl) (λ _ h _ => h)) ok (IP hn GU) (λ k _ => hl k));have HB := hd9 B0 r1 r2 s0 hr hC gH ok hl;have HN := hd1 hn;have HW := hd1 hW0;clear B0 r1 r2 s0 hr gH hW0 ok hn hroom hl hC;obtain ⟨b, hb⟩ := G5 (aP (λ k => aJ (d.stand.tp k)) 2);have WC : Hid (Calls prog 48 #[.agg C] W0 λ en w' => Below W0 W0 w' /\ ∃ a n c, en = .returned (.tuple #[.int .i64 (lV b), .agg (lX b.2.gen (.slice a n c) b.2.aL b.2.fin)])) := hd1 (WC.mono (λ en w' h => by
  obtain ⟨h1, v1, rfl, a, n, c, rfl, _⟩ := h;rw [hb];exact ⟨h1, a, n, c, rfl⟩))
 rw [hb];have zS := hd1 hb;clear hb;go_in;go_upto_region 1 with fail
 rw [show ((w.alloc (.cells C af)).alloc (.cells #[.int .i64 0, .int .i64 0, (), (), (), (), (), (), false, .int .i64 0, false, (), .int .i64 0] aj)) = W0 from HW.out];obtain ⟨BN, hBN⟩ := G5 (lV b);rw [hBN] at WC
 go_upto_region 2 with (first
  | (refine G_ HB.2.1 Hu (by rw [aH, HB.2.2.2.2.2.1]) ?_)
  | (go_at_call 48; refine WC.mono ?_; rintro en w1 ⟨b1, xa, xn, xc, rfl⟩))
 obtain ⟨T, hT⟩ := G5 (lX b.2.gen (.slice xa xn xc) b.2.aL b.2.fin);obtain ⟨W2, hW2⟩ := G5 (w1.alloc (.cells (lX b.2.gen (.slice xa xn xc) b.2.aL b.2.fin) aS));rw [hW2];obtain ⟨g5, hg5⟩ := G5 w1.heap.size;rw [hg5];have B2 : Below W0 W0 W2 := by rw [<-hW2]; exact b1.alloc b1.size _
 have S2 : qj w W2 F g5 T C d := by
  have b02 : Below w w W2 := HB.1.trans (B2.mono HB.1.size);have r5 : W2.heap[g5]? = some (.cells T aS) := by rw [<-hW2, <-hT]; exact bD _ hg5.symm
  exact ⟨b02, (B2.block _ (aa HB.2.1)).trans HB.2.1, (B2.block _ (aa HB.2.2.1)).trans HB.2.2.1, r5,
   HB.2.2.2.2.1.keeps (λ k _ hl => b02.block k hl) (λ k h hl => Iy ⟨h, hl⟩), Hg b1.size HB.2.2.2.1, HB.2.2.2.2.2.1, HB.2.2.2.2.2.2.1, HB.2.2.2.2.2.2.2.1⟩
 have K3 : T[3]? = some (.int .i64 b.2.fin) := by rw [<-hT]; rfl
 clear B2 b1 hW2 hg5 hT WC;have ST := hd1 (qI S2.ref S2.ok (IP HN.out GU));have S2 := hd1 S2;have wm := y1n;have hi0 := z3f;have hi1 := z3g
 go_upto_region 3 with (first
  | (refine G_ S2.r1 Hu (by rw [aH, S2.size]) ?_)
  | (go_at_call 49; refine ST.mono ?_; rintro en w3 ⟨sv, u0, u1, u2, u3, rfl, b3, Bl⟩
     obtain ⟨secs, _, _, y0, y1, y2, y3⟩ := Bl;obtain ⟨a0, c0, rfl⟩ := y0.slice;obtain ⟨a1, c1, rfl⟩ := y1.slice;obtain ⟨a2, c2, rfl⟩ := y2.slice;obtain ⟨a3, c3, rfl⟩ := y3.slice))
 have S3 := hd1 (S2.later b3);clear S2 ST y0 y1 y2 y3 b3;obtain ⟨n0, hn0⟩ := G5 ((d.stand.tp 0).length);rw [hn0];obtain ⟨n1, hn1⟩ := G5 ((d.stand.tp 1).length);rw [hn1];have rP := hd1 hn1;clear hn1;generalize (d.stand.tp 2).length = n2 at *;generalize (d.stand.tp 3).length = n3 at *;have zO := hd1 hn0;clear hn0;by_cases hg : b.2.gen = 0
 ·have OE := hd1 (x1s (d := d) hg)
  have e1 : BN = -1 := by rw [<-hBN]; unfold lV; rw [IA hg]
  subst e1;clear hg;by_cases hz : n0 = 0
  ·have HE := hd1 (show Em.b_ d 0 = (d, 0) by unfold Em.b_; rw [IA (by show (d.stand.tp 0).length = 0; rw [zO.out]; exact hz)])
   subst hz;go_upto_region 9 with fail
   have HH := hd1 (show ∀ W : World, Calls prog 52 #[.int .i64 1, ()] W (gT W (Em.jT 1 [])) from λ W => Fg (F := λ _ => False) (R := []) (g := 1) (Iy ⟨rfl, rfl⟩) GU (λ r hr => by cases hr) GU);have HF : Em.jT 1 [] = Em.folded 1 (.map []) := by have := z0p 1 Em.nW; rw [Em.xN] at this; exact this
   have jd : (Em.jT 1 []).length <= 2200000 := by rw [HF]; exact Em.tV (D := .map []) 1 GU
   have HF := hd1 HF;obtain ⟨hF, ow⟩ := G5 (Em.jT 1 []);rw [ow] at HH jd HF;have jd := hd1 (show hF.length <= 1048576 by rw [<-ow]; decide +kernel);clear ow;have ne : Nonempty (Wd (Below w3 w3)) := ⟨⟨_, Below.refl _ _⟩⟩;have LD : Hid (∀ w', (∃ x : Wd (Below w3 w3), w' = x.world) -> (Instr.loadAt af (.pointer (some w.heap.size))).run prog w' = .ok (.agg C) w') := by
    exact QV
   have iG := hd1 (wG (t := 0) S3.ok GU GU hF);have W2 := Em.qc d 0 hF;obtain ⟨r2, hr2⟩ := G5 (d.append 0 hF);rw [hr2] at iG W2;obtain ⟨d2, e2⟩ := r2;have W2 := hd1 W2;have AC : Hid (∀ (W : World) (bv : Value), Below w3 w3 W -> BytesAt W.heap (λ _ => True) bv hF -> Calls prog 51 #[.agg C, .int .i64 0, bv] W (gK W (nO F w (g5 + 1)) (d2, e2))) := hd1 (λ W bv hb hy => by
    have := FM ((S3.later hb).ref) S3.ok (Hf HN.out) 0 hy jd.out;rw [hr2] at this;exact this)
   have HR2 := hd1 hr2;clear hr2;refine bC (λ w' => ∃ x : Wd (Below w3 w3), w' = x.world) [4, 5, 6, 7] GQ ?_;refine aI [0] 7 _ Hq GQ ?_;simp only [fmc, fmn, gta, gcs, gcz];refine dX rfl af (.tmp 1) rfl _ LD.out ?_;refine aA ?_;refine az 1 6 _ _ rfl GQ ?_;refine IE rfl λ K hK => ?_;go_simp;go_at_call 52;refine (HH.out _).mono ?_;rintro en w5 ⟨hv, rfl, pF, b5⟩;have lC : Below w3 w3 w5 := GY.drew.trans b5;have Y5 := hd1 (show BytesAt w5.heap (λ _ => True) hv hF from pF.at.keeps (λ _ _ _ => rfl) (λ _ _ _ => trivial));clear pF b5;refine hK _ _ (IB ⟨rfl, λ _ => ⟨⟨_, lC⟩, rfl⟩, ?_⟩);clear hK K;obtain ⟨ha, hc, rfl⟩ := Y5.slice;refine az 2 5 _ _ rfl GQ ?_;refine IE rfl λ K hK => ?_;go_simp;go_at_call 51;refine (AC.out _ _ lC Y5.out).mono ?_;rintro en w6 ⟨v6, rfl, b6, f6⟩;obtain ⟨C6, rfl, tN, yR⟩ := f6.cells;have nG : Below w3 w3 w6 := lC.trans (b6.mono lC.size);refine hK _ _ (IB ⟨rfl, λ _ => ⟨⟨_, nG⟩, rfl⟩, ?_⟩);clear hK K;refine aI [3] 4 _ ⟨⟨_, nG⟩, rfl⟩ GQ ?_;refine G9 ?_;refine eY [4, 5] 2 _ GQ ?_;refine G9 ?_;refine az 6 1 _ _ rfl GQ ?_;refine aC rfl af _ _ rfl w.heap.size _ rfl rfl af _ ((nG.block _ (aa S3.r1)).trans S3.r1) (by rw [aH, tN]) (by rw [tN, S3.size]) yR ?_;intro W6 iR iw nQ;refine IB ⟨rfl, λ h => absurd GU h, ?_⟩;refine az 7 0 _ _ rfl GQ ?_;refine IE rfl λ K hK => ?_;go_simp;refine hK _ _ (IB ⟨rfl, λ h => absurd GU h, GQ, ?_⟩);clear hK K;have S6 := hd1 (S3.call nG lC f6 iw iR.out iG.out);clear nG lC b6 f6 iR iw nQ Y5 AC HH tN yR ne LD;by_cases he2 : e2 = 0
   ·subst he2
    have SC := sD S6.ref S6.ok (Hg HN.out W2.out);have gy := hd1 (t_ S6.ok);obtain ⟨r3, hr3⟩ := G5 d2.sync;rw [hr3] at SC gy;obtain ⟨d3, e3⟩ := r3;have SC := hd1 SC;have HRW := hd1 (show (Em.bZ d b).1.d = d3 /\ (Em.bZ d b).1.gone = false /\ (Em.bZ d b).2 = e3 from by rw [OE.out]; exact zw (d := d) (r := (d3, e3)) (by rw [<-HF.out, Ba _ HE.out, show d.append (0 : Nat) hF = (d2, 0) from HR2.out]; exact hr3));clear hr3
    go_upto_region 13 with (first
     | (refine G_ S6.r1 Hu (by rw [aH, S6.size]) ?_)
     | (go_at_call 53; refine SC.mono ?_; rintro en w7 ⟨v7, rfl, b7, f7⟩; obtain ⟨C7, rfl, _, _⟩ := f7.cells)
     | (refine aC rfl af _ _ rfl w.heap.size _ rfl rfl af _ ((b7.block _ (aa S6.r1)).trans S6.r1) ME Mv MK ?_; intro W7 eU gQ mG))
    have S7 := hd1 (S6.call b7 GY f7 gQ eU.out gy.out);clear b7 f7 eU gQ mG S6 SC;have SE := S7;exact Oe
   ·have HRW := hd1 (show (Em.bZ d b).1.d = d2 /\ (Em.bZ d b).1.gone = false /\ (Em.bZ d b).2 = e2 from by rw [OE.out]; exact zw (d := d) (r := (d2, e2)) (by rw [<-HF.out, Ba _ HE.out, show d.append (0 : Nat) hF = (d2, e2) from HR2.out]; exact Iw he2))
    have SE := S6;exact Oe
  ·have uM := hd1 (show Em.b_ d 0 = d.cut (0 : Nat) 0 by unfold Em.b_; rw [Iw (by show ¬ (d.stand.tp 0).length = 0; rw [zO.out]; exact hz)])
   have hz1 : (0 : Int) < (n0 : Int) := GR;have CC := Bh S3.ref S3.ok (IP HN.out GU) 0 0;have ja := hd1 (CZ (t := 0) (n := 0) S3.ok GU GU);have W1 := Em.wF d 0 0;obtain ⟨r1, hr1⟩ := G5 (d.cut 0 0);rw [hr1] at CC ja W1;have HR1 := hd1 hr1;clear hr1;obtain ⟨d1, e1⟩ := r1;have CC := hd1 CC;have xm := hd1 W1;clear W1 hz
   go_upto_region 7 with (first
    | (refine G_ S3.r1 Hu (by rw [aH, S3.size]) ?_)
    | (go_at_call 50; refine CC.mono ?_; rintro en w4 ⟨v4, rfl, b4, f4⟩; obtain ⟨C4, rfl, _, _⟩ := f4.cells)
    | (refine aC rfl af _ _ rfl w.heap.size _ rfl rfl af _ ((b4.block _ (aa S3.r1)).trans S3.r1) (by obtain ⟨_, e, h1, _⟩ := f4.cells; cases e; rw [aH, h1]) (by obtain ⟨_, e, h1, _⟩ := f4.cells; cases e; rw [h1, S3.size]) (by obtain ⟨_, e, _, h2⟩ := f4.cells; cases e; exact h2) ?_; intro W4 g_ jc mH))
   have S4 := hd1 (S3.call b4 GY f4 jc g_.out ja.out);clear b4 f4 g_ jc mH S3 CC;by_cases he : e1 = 0
   ·subst he
    have HE := hd1 (show Em.b_ d 0 = (d1, 0) by rw [uM.out]; exact HR1.out);go_upto_region 9 with fail
    have HH := hd1 (show ∀ W : World, Calls prog 52 #[.int .i64 1, ()] W (gT W (Em.jT 1 [])) from λ W => Fg (F := λ _ => False) (R := []) (g := 1) (Iy ⟨rfl, rfl⟩) GU (λ r hr => by cases hr) GU);have HF : Em.jT 1 [] = Em.folded 1 (.map []) := by have := z0p 1 Em.nW; rw [Em.xN] at this; exact this
    have jd : (Em.jT 1 []).length <= 2200000 := by rw [HF]; exact Em.tV (D := .map []) 1 GU
    have HF := hd1 HF;obtain ⟨hF, ow⟩ := G5 (Em.jT 1 []);rw [ow] at HH jd HF;have jd := hd1 (show hF.length <= 1048576 by rw [<-ow]; decide +kernel);clear ow;have ne : Nonempty (Wd (Below W4 W4)) := ⟨⟨_, Below.refl _ _⟩⟩;have LD : Hid (∀ w', (∃ x : Wd (Below W4 W4), w' = x.world) -> (Instr.loadAt af (.pointer (some w.heap.size))).run prog w' = .ok (.agg C4) w') := by
     rintro w' ⟨x, rfl⟩;exact fK ((x.ok.block _ (aa S4.r1)).trans S4.r1) Hu rfl (by rw [aH, S4.size])
    have iG := hd1 (wG (t := 0) S4.ok GU GU hF);have W2 := Em.qc d1 0 hF;obtain ⟨r2, hr2⟩ := G5 (d1.append 0 hF);rw [hr2] at iG W2;obtain ⟨d2, e2⟩ := r2;have W2 := hd1 W2;have AC : Hid (∀ (W : World) (bv : Value), Below W4 W4 W -> BytesAt W.heap (λ _ => True) bv hF -> Calls prog 51 #[.agg C4, .int .i64 0, bv] W (gK W (nO F w (g5 + 1)) (d2, e2))) := hd1 (λ W bv hb hy => by
     have := FM ((S4.later hb).ref) S4.ok (by have := HN.out; have hw1 : d1.waits.length <= d.waits.length + 1 := xm.out; omega) 0 hy jd.out;rw [hr2] at this;exact this)
    have HR2 := hd1 hr2;clear hr2;refine bC (λ w' => ∃ x : Wd (Below W4 W4), w' = x.world) [4, 5, 6, 7] GQ ?_;refine aI [0] 7 _ Hq GQ ?_;simp only [fmc, fmn, gta, gcs, gcz];refine dX rfl af (.tmp 1) rfl _ LD.out ?_;refine aA ?_;refine az 1 6 _ _ rfl GQ ?_;refine IE rfl λ K hK => ?_;go_simp;go_at_call 52;refine (HH.out _).mono ?_;rintro en w5 ⟨hv, rfl, pF, b5⟩;have lC : Below W4 W4 w5 := GY.drew.trans b5;have Y5 := hd1 (show BytesAt w5.heap (λ _ => True) hv hF from pF.at.keeps (λ _ _ _ => rfl) (λ _ _ _ => trivial));clear pF b5;refine hK _ _ (IB ⟨rfl, λ _ => ⟨⟨_, lC⟩, rfl⟩, ?_⟩);clear hK K;obtain ⟨ha, hc, rfl⟩ := Y5.slice;refine az 2 5 _ _ rfl GQ ?_;refine IE rfl λ K hK => ?_;go_simp;go_at_call 51;refine (AC.out _ _ lC Y5.out).mono ?_;rintro en w6 ⟨v6, rfl, b6, f6⟩;obtain ⟨C6, rfl, tN, yR⟩ := f6.cells;have nG : Below W4 W4 w6 := lC.trans (b6.mono lC.size);refine hK _ _ (IB ⟨rfl, λ _ => ⟨⟨_, nG⟩, rfl⟩, ?_⟩);clear hK K;refine aI [3] 4 _ ⟨⟨_, nG⟩, rfl⟩ GQ ?_;refine G9 ?_;refine eY [4, 5] 2 _ GQ ?_;refine G9 ?_;refine az 6 1 _ _ rfl GQ ?_;refine aC rfl af _ _ rfl w.heap.size _ rfl rfl af _ ((nG.block _ (aa S4.r1)).trans S4.r1) (by rw [aH, tN]) (by rw [tN, S4.size]) yR ?_;intro W6 iR iw nQ;refine IB ⟨rfl, λ h => absurd GU h, ?_⟩;refine az 7 0 _ _ rfl GQ ?_;refine IE rfl λ K hK => ?_;go_simp;refine hK _ _ (IB ⟨rfl, λ h => absurd GU h, GQ, ?_⟩);clear hK K;have S6 := hd1 (S4.call nG lC f6 iw iR.out iG.out);clear nG lC b6 f6 iR iw nQ Y5 AC HH tN yR ne LD;by_cases he2 : e2 = 0
    ·subst he2
     have SC := sD S6.ref S6.ok (by have := HN.out; have := W2.out; have hw1 : d1.waits.length <= d.waits.length + 1 := xm.out; omega);have gy := hd1 (t_ S6.ok);obtain ⟨r3, hr3⟩ := G5 d2.sync;rw [hr3] at SC gy;obtain ⟨d3, e3⟩ := r3;have SC := hd1 SC;have HRW := hd1 (show (Em.bZ d b).1.d = d3 /\ (Em.bZ d b).1.gone = false /\ (Em.bZ d b).2 = e3 from by rw [OE.out]; exact zw (d := d) (r := (d3, e3)) (by rw [<-HF.out, Ba _ HE.out, show d1.append (0 : Nat) hF = (d2, 0) from HR2.out]; exact hr3));clear hr3
     go_upto_region 13 with (first
      | (refine G_ S6.r1 Hu (by rw [aH, S6.size]) ?_)
      | (go_at_call 53; refine SC.mono ?_; rintro en w7 ⟨v7, rfl, b7, f7⟩; obtain ⟨C7, rfl, _, _⟩ := f7.cells)
      | (refine aC rfl af _ _ rfl w.heap.size _ rfl rfl af _ ((b7.block _ (aa S6.r1)).trans S6.r1) ME Mv MK ?_; intro W7 eU gQ mG))
     have S7 := hd1 (S6.call b7 GY f7 gQ eU.out gy.out);clear b7 f7 eU gQ mG S6 SC;have SE := S7;exact Oe
    ·have HRW := hd1 (show (Em.bZ d b).1.d = d2 /\ (Em.bZ d b).1.gone = false /\ (Em.bZ d b).2 = e2 from by rw [OE.out]; exact zw (d := d) (r := (d2, e2)) (by rw [<-HF.out, Ba _ HE.out, show d1.append (0 : Nat) hF = (d2, e2) from HR2.out]; exact Iw he2))
     have SE := S6;exact Oe
   ·have HRW := hd1 (show (Em.bZ d b).1.d = d1 /\ (Em.bZ d b).1.gone = false /\ (Em.bZ d b).2 = e1 from by rw [OE.out]; exact zw (d := d) (r := (d1, e1)) (by unfold Em.bK; rw [uM.out, show d.cut (0 : Nat) 0 = (d1, e1) from HR1.out]; unfold Em.next; rw [Iw he, Iw he]))
    have SE := S4;exact Oe
 ·obtain ⟨k, hk, hbk⟩ := z1e (ts := λ k => aJ (d.stand.tp k)) (by rw [zS.out]; exact hg)
  rw [zS.out] at hbk;have e1 : BN = (k : Int) := by rw [<-hBN]; unfold lV; rw [Iw hg, hbk]
  have hfl : b.2.fin <= (d.stand.tp k).length := by rw [hbk]; exact (xZ (d.stand.tp k)).2.2.2.1
  have mI := hd2 hg hbk;obtain ⟨fin, hfin⟩ := G5 b.2.fin;rw [hfin] at hfl K3;have DY := hd1 hfin;have K3 := hd1 K3;have ne : Nonempty (Wd (Below w3 w3)) := ⟨⟨_, Below.refl _ _⟩⟩;have LD : Hid (∀ w', (∃ x : Wd (Below w3 w3), w' = x.world) -> (Instr.loadAt af (.pointer (some w.heap.size))).run prog w' = .ok (.agg C) w') := by
   exact QV
  have f3 : ∀ y : Wd (Below w3 w3), y.world.cell? (g5, 3) = some (.int .i64 (fin : Int)) := λ y => aN y.ok (ae S3.r5 K3.out);have ST2 : Hid (∀ W : World, Below w3 w3 W -> Calls prog 49 #[.agg C] W (qx W (nO F w (g5 + 1)) d.stand d.many)) := hd1 (λ W hb => qI (S3.later hb).ref S3.ok (IP HN.out GU));clear hg hbk hfin;have x4t : k = 0 \/ k = 1 := GR;rcases x4t with rfl | rfl
  ·replace e1 : BN = 0 := e1
   subst e1;clear hBN hk;replace hfl : fin <= n0 := by have h := hfl; rw [show (d.stand.tp ((0 : Nat) : Int)).length = n0 from zO.out] at h; exact h
   go_upto_region 14 with fail
   refine bC (λ w' => ∃ x : Wd (Below w3 w3), w' = x.world) [] GQ ?_;refine aI [0, 3, 6, 7] 5 _ Hq GQ ?_;simp only [fmc, fmn, gta, gcs, gcz];refine dX rfl af (.tmp 1) rfl _ LD.out ?_;repeat refine G8 ?_
   refine aA ?_;refine az 1 4 _ _ rfl GQ ?_;refine IE rfl λ K hK => ?_;go_simp;go_at_call 49;refine (ST2.out _ GY.drew).mono ?_;rintro en w4 ⟨r_, v0, v1, v2, v3, rfl, b4, FJ⟩;obtain ⟨mR, _, _, y0, y1, y2, y3⟩ := FJ;obtain ⟨a0', c0', rfl⟩ := y0.slice;obtain ⟨a1', c1', rfl⟩ := y1.slice;obtain ⟨Du, c2', rfl⟩ := y2.slice;obtain ⟨a3', c3', rfl⟩ := y3.slice;have lD : Below w3 w3 w4 := GY.drew.trans b4;have zP := hd1 (show (d.stand.tp 0).length = n0 from zO.out);rw [show (d.stand.tp (0 : Int)).length = n0 from zO.out];clear y0 y1 y2 y3 b4 ST2;refine hK _ _ (IB ⟨rfl, λ _ => ⟨⟨_, lD⟩, rfl⟩, ?_⟩);clear hK K;refine aI [2, 4, 5, 8] 0 _ ⟨⟨_, lD⟩, rfl⟩ GQ ?_;refine G9 ?_;refine ⟨GQ, ?_⟩;have S4 := hd1 (S3.later lD);clear lD LD f3 ne S3;by_cases hq : n0 = fin
   ·have hlt : ¬ fin < n0 := GR
    have HRW := hd1 (vM (d := d) (b := b) mI.1 (r := (d, 0)) (by unfold Em.mended; rw [mI.2]; exact IA (by show (d.stand.tp (0 : Int)).length = (aJ (d.stand.tp (0 : Nat))).fin; rw [zP.out, hq, <-DY.out, mI.2])));clear hq hfl;have SE := S4;exact Oe
   ·have hlt : fin < n0 := GR
    have CC := Bh S4.ref S4.ok (IP HN.out GU) 0 fin;have ja := hd1 (CZ (t := 0) (n := fin) S4.ok GU GU);have W1 := Em.wF d 0 fin
    have uJ := hd1 (show Em.mended d b.1 b.2.fin = Em.next (d.cut 0 fin) D.sync by
     unfold Em.mended;rw [DY.out, mI.2];exact Iw (by show ¬ (d.stand.tp (0 : Int)).length = fin; rw [zP.out]; exact hq))
    obtain ⟨r1, hr1⟩ := G5 (d.cut 0 fin);rw [hr1] at CC ja W1 uJ;clear hr1;obtain ⟨d1, e1⟩ := r1;have CC := hd1 CC;have k53 := ae S4.r5 K3.out;have xm := hd1 (show d1.waits.length <= d.waits.length + 1 from W1);clear W1 hq hfl
    go_upto_region 16 with (first
     | (refine G_ S4.r1 Hu (by rw [aH, S4.size]) ?_)
     | (go_at_call 50; refine CC.mono ?_; rintro en w5 ⟨v5, rfl, b5, f5⟩; obtain ⟨C5, rfl, _, _⟩ := f5.cells)
     | (refine aC rfl af _ _ rfl w.heap.size _ rfl rfl af _ ((b5.block _ (aa S4.r1)).trans S4.r1) MF Mw ML ?_; intro W5 aF aB bf))
    have S5 := hd1 (S4.call b5 GY f5 aB aF.out ja.out);clear b5 f5 aF aB bf S4 CC k53;by_cases he : e1 = 0
    ·subst he
     have SC := sD S5.ref S5.ok (Hg HN.out xm.out);have gy := hd1 (t_ S5.ok);obtain ⟨r3, hr3⟩ := G5 d1.sync;rw [hr3] at SC gy;obtain ⟨d3, e3⟩ := r3;have SC := hd1 SC;have HRW := hd1 (vM (d := d) (b := b) mI.1 (r := (d3, e3)) (by rw [uJ.out]; exact hr3));clear hr3
     go_upto_region 19 with (first
      | (refine G_ S5.r1 Hu (by rw [aH, S5.size]) ?_)
      | (go_at_call 53; refine SC.mono ?_; rintro en w7 ⟨v7, rfl, b7, f7⟩; obtain ⟨C7, rfl, _, _⟩ := f7.cells)
      | (refine aC rfl af _ _ rfl w.heap.size _ rfl rfl af _ ((b7.block _ (aa S5.r1)).trans S5.r1) ME Mx MK ?_; intro W7 eU gQ mG))
     have S7 := hd1 (S5.call b7 GY f7 gQ eU.out gy.out);clear b7 f7 eU gQ mG S5 SC;by_cases he3 : e3 = 0
     ·subst he3
      have SE := S7;exact Oe
     ·have SE := S7
      exact Oe
    ·have HRW := hd1 (vM (d := d) (b := b) mI.1 (r := (d1, e1)) (by rw [uJ.out]; exact Iw he))
     have SE := S5;exact Oe
  ·replace e1 : BN = 1 := e1
   subst e1;clear hBN hk;replace hfl : fin <= n1 := by have h := hfl; rw [show (d.stand.tp ((1 : Nat) : Int)).length = n1 from rP.out] at h; exact h
   go_upto_region 14 with fail
   refine bC (λ w' => ∃ x : Wd (Below w3 w3), w' = x.world) [] GQ ?_;refine aI [0, 3, 6, 7] 5 _ Hq GQ ?_;simp only [fmc, fmn, gta, gcs, gcz];refine dX rfl af (.tmp 1) rfl _ LD.out ?_;repeat refine G8 ?_
   refine aA ?_;refine az 1 4 _ _ rfl GQ ?_;refine IE rfl λ K hK => ?_;go_simp;go_at_call 49;refine (ST2.out _ GY.drew).mono ?_;rintro en w4 ⟨r_, v0, v1, v2, v3, rfl, b4, FJ⟩;obtain ⟨mR, _, _, y0, y1, y2, y3⟩ := FJ;obtain ⟨a0', c0', rfl⟩ := y0.slice;obtain ⟨a1', c1', rfl⟩ := y1.slice;obtain ⟨Du, c2', rfl⟩ := y2.slice;obtain ⟨a3', c3', rfl⟩ := y3.slice;have lD : Below w3 w3 w4 := GY.drew.trans b4;have zP := hd1 (show (d.stand.tp 1).length = n1 from rP.out);rw [show (d.stand.tp (1 : Int)).length = n1 from rP.out];clear y0 y1 y2 y3 b4 ST2;refine hK _ _ (IB ⟨rfl, λ _ => ⟨⟨_, lD⟩, rfl⟩, ?_⟩);clear hK K;refine aI [2, 4, 5, 8] 0 _ ⟨⟨_, lD⟩, rfl⟩ GQ ?_;refine G9 ?_;refine ⟨GQ, ?_⟩;have S4 := hd1 (S3.later lD);clear lD LD f3 ne S3;by_cases hq : n1 = fin
   ·have hlt : ¬ fin < n1 := GR
    have HRW := hd1 (vM (d := d) (b := b) mI.1 (r := (d, 0)) (by unfold Em.mended; rw [mI.2]; exact IA (by show (d.stand.tp (1 : Int)).length = (aJ (d.stand.tp (1 : Nat))).fin; rw [zP.out, hq, <-DY.out, mI.2])));clear hq hfl;have SE := S4;exact Oe
   ·have hlt : fin < n1 := GR
    have CC := Bh S4.ref S4.ok (IP HN.out GU) 1 fin;have ja := hd1 (CZ (t := 1) (n := fin) S4.ok GU GU);have W1 := Em.wF d 1 fin
    have uJ := hd1 (show Em.mended d b.1 b.2.fin = Em.next (d.cut 1 fin) D.sync by
     unfold Em.mended;rw [DY.out, mI.2];exact Iw (by show ¬ (d.stand.tp (1 : Int)).length = fin; rw [zP.out]; exact hq))
    obtain ⟨r1, hr1⟩ := G5 (d.cut 1 fin);rw [hr1] at CC ja W1 uJ;clear hr1;obtain ⟨d1, e1⟩ := r1;have CC := hd1 CC;have k53 := ae S4.r5 K3.out;have xm := hd1 (show d1.waits.length <= d.waits.length + 1 from W1);clear W1 hq hfl
    go_upto_region 16 with (first
     | (refine G_ S4.r1 Hu (by rw [aH, S4.size]) ?_)
     | (go_at_call 50; refine CC.mono ?_; rintro en w5 ⟨v5, rfl, b5, f5⟩; obtain ⟨C5, rfl, _, _⟩ := f5.cells)
     | (refine aC rfl af _ _ rfl w.heap.size _ rfl rfl af _ ((b5.block _ (aa S4.r1)).trans S4.r1) MF Mw ML ?_; intro W5 aF aB bf))
    have S5 := hd1 (S4.call b5 GY f5 aB aF.out ja.out);clear b5 f5 aF aB bf S4 CC k53;by_cases he : e1 = 0
    ·subst he
     have SC := sD S5.ref S5.ok (Hg HN.out xm.out);have gy := hd1 (t_ S5.ok);obtain ⟨r3, hr3⟩ := G5 d1.sync;rw [hr3] at SC gy;obtain ⟨d3, e3⟩ := r3;have SC := hd1 SC;have HRW := hd1 (vM (d := d) (b := b) mI.1 (r := (d3, e3)) (by rw [uJ.out]; exact hr3));clear hr3
     go_upto_region 19 with (first
      | (refine G_ S5.r1 Hu (by rw [aH, S5.size]) ?_)
      | (go_at_call 53; refine SC.mono ?_; rintro en w7 ⟨v7, rfl, b7, f7⟩; obtain ⟨C7, rfl, _, _⟩ := f7.cells)
      | (refine aC rfl af _ _ rfl w.heap.size _ rfl rfl af _ ((b7.block _ (aa S5.r1)).trans S5.r1) ME Mx MK ?_; intro W7 eU gQ mG))
     have S7 := hd1 (S5.call b7 GY f7 gQ eU.out gy.out);clear b7 f7 eU gQ mG S5 SC;by_cases he3 : e3 = 0
     ·subst he3
      have SE := S7;exact Oe
     ·have SE := S7
      exact Oe
    ·have HRW := hd1 (vM (d := d) (b := b) mI.1 (r := (d1, e1)) (by rw [uJ.out]; exact Iw he))
     have SE := S5;exact Oe
end
section
open Go.RowKit Dm
attribute [local go_sem] Oper.semAt_some
structure iI (w W : World) (F : Nat -> Prop) (g9 g10 : Nat) (T E C : Array Value) (e : Em.E) (rv : Value) (R : Em.bB) (d : D) : Prop where
 below : Below w.heap.size w W
 r2 : W.heap[w.heap.size]? = some (.cells E aj (0, 0))
 r4 : W.heap[w.heap.size + 1]? = some (.cells bP aj (0, 0))
 r9 : W.heap[g9]? = some (.cells T aS (0, 0))
 eQ : W.heap[g10]? = some (.cells C af (0, 0))
 log : dW W (λ k => F k /\ k < w.heap.size) (.agg E) e
 rows : dx W (λ b => b ≠ w.heap.size /\ b ≠ w.heap.size + 1 /\ b ≠ g9 /\ b ≠ g10) rv R
 ref : bR W.heap (nO F w (g10 + 1)) (.agg C) d
 lt : w.heap.size + 1 < g9 /\ g9 < g10
 size : C.size = 10
 ones : C.all (·.oneCell') = true
 ok : d.ok
theorem iI.later {g9 g10 : Nat} {T E : Array Value} {e : Em.E} {rv : Value} {R : Em.bB} {d : D} (h : iI w W F g9 g10 T E C e rv R d) (hb : Below W W W1) : iI w W1 F g9 g10 T E C e rv R d :=
 ⟨h.below.trans (hb.mono h.below.size), (hb.block _ (aa h.r2)).trans h.r2, (hb.block _ (aa h.r4)).trans h.r4, (hb.block _ (aa h.r9)).trans h.r9, (hb.block _ (aa h.eQ)).trans h.eQ,
  h.log.later hb, h.rows.later hb, h.ref.keeps (λ k _ hl => hb.block k hl) (λ _ h _ => h), h.lt, h.size, h.ones, h.ok⟩
theorem iI.call {g9 g10 : Nat} {T E C1 : Array Value} {e : Em.E} {rv : Value} {R : Em.bB} {d d1 : D} (h : iI w W F g9 g10 T E C e rv R d) (hb : Below W W W1) {X : World} (hX : Below W W X)
 (hr : bR W1.heap (plus (nO F w (g10 + 1)) X W1) (.agg C1) d1) (hm : Moves (λ k => k = g10) W1 W2) (hrow : W2.heap[g10]? = some (.cells C1 af)) (ok : d1.ok) : iI w W2 F g9 g10 T E C1 e rv R d1 := by
 obtain ⟨C', e1, s, o⟩ := hr.cells;cases e1;have h1 := h.later hb;obtain ⟨l1, l2⟩ := h.lt;have l10 := aa h.eQ;have sX := hX.size
 refine ⟨Moves.new h1.below hm GR, (hm.block _ (aa h1.r2) GR).trans h1.r2, (hm.block _ (aa h1.r4) GR).trans h1.r4, (hm.block _ (aa h1.r9) GR).trans h1.r9, hrow,
  h1.log.keeps (λ k hk hl => hm.block k hl (Hf hk.2)) (λ _ h _ => h), h1.rows.yJ (λ k hk hl => hm.block k hl hk.2.2.2) (λ _ h _ => h), ?_, h.lt, s, o, ok⟩
 exact PY
theorem iI.give {W5 : World} {g9 g10 : Nat} {T E : Array Value} {e : Em.E} {rv : Value} {R : Em.bB} {d : D} (h : iI w W F g9 g10 T E C e rv R d) (hm : Moves (λ k => k = w.heap.size + 1) W W5) {l : List Em.ay} (hr : Made e l d false c) :
 uP w F (e.bE l) (.returned (.tuple #[.agg (bQ C false (.slice none 0 0) 0), .int .i64 c])) W5 := by
 obtain ⟨l1, l2⟩ := h.lt;obtain ⟨rfl, h2, rfl, _⟩ := hr;refine ⟨_, rfl, Moves.new h.below hm GR, ?_⟩;refine bR.log (h.ref.keeps (λ k hk hl => hm.block k hl ?_) (λ k hk _ => ?_)) h2
 ·rcases hk with hk | hk
  ·omega
  ·omega
 ·exact RH
theorem iI.same {W5 : World} {e : Em.E} (hl : dW W (λ k => F k /\ k < w.heap.size) v e) (hb : Below w w W) (hm : Moves (λ k => k = w.heap.size + 1) W W5) {r : Em.E × Int} (hr : r.1 = e) :
 uP w F r (.returned (.tuple #[v, .int .i64 r.2])) W5 := by
 subst hr;exact ⟨_, rfl, Moves.new hb hm GR, hl.keeps (λ k hk hl => hm.block k hl (Hf hk.2)) (λ k hk _ => Iy hk.1)⟩
theorem iI.lost {W5 : World} {g9 g10 : Nat} {T E : Array Value} {e : Em.E} {rv : Value} {R : Em.bB} {d : D} (h : iI w W F g9 g10 T E C e rv R d) (hb : Below W W W1)
 (hv : dW W1 (λ k => nO F w (g10 + 1) k \/ W.heap.size <= k) v { e with d := d, gone := true }) (hm : Moves (λ k => k = w.heap.size + 1) W1 W5) {l : List Em.ay} (hr : Made e l d true c) (hc : c = 281) :
 uP w F (e.bE l) (.returned (.tuple #[v, .int .i64 281])) W5 := by
 subst hc;obtain ⟨l1, l2⟩ := h.lt;have l10 := aa h.eQ;obtain ⟨h1, h2, h3, h4⟩ := hr;obtain ⟨h5, h6⟩ := h4 rfl;refine ⟨v, by rw [h3], Moves.new (h.below.trans (hb.mono h.below.size)) hm GR, ?_⟩;have hv := hv.keeps (w' := W5) (F' := λ k => F k \/ w.heap.size <= k) (λ k hk hl => hm.block k hl (by rcases hk with (hk | hk) | hk <;> omega)) (λ k hk _ => by
  rcases hk with (hk | hk) | hk
  ·exact Iy hk.1
  ·exact Iz GR
  ·exact Iz (Hf h.below.size))
 obtain ⟨C', a, n, c, e1, s1, s2, s3, s4⟩ := hv;refine ⟨C', a, n, c, ?_, s1, s2, by rw [h1]; exact s3, ?_⟩
 ·rw [e1]
  unfold dG;rw [h2, h6]
 ·unfold Bt at s4 ⊢
  rw [h2, h5];exact s4
end
end Go.Proofs.YtgffifleflkjoaaGreat
