/-
  Parts of a proof.
-/
import Derived.Test.YtgffifleflkjoaaGreatFin43
import Derived.Test.YtgffifleflkjoaaGreatFin44
set_option linter.unusedSimpArgs false
set_option linter.unusedVariables false
set_option maxRecDepth 100000
set_option maxHeartbeats 16000000
namespace Go.Proofs.YtgffifleflkjoaaGreat
open _root_.Go.Proofs.Tryz
variable {w W w' w0 wr w1 W0 W1 W2 A B : World} {F G F' O : Nat → Prop} {v : Value} {l : List UInt8} {n q m pd md pl g p : Nat} {C : Array Value} {c : Int}
open Go.RowKit Dm
def jG (e : Em.E) (a : Em.iy) : Em.E :=
 if a.what = 0 then (e.bE a.l).1 else if a.what = 1 then { e with d := (e.d.stop a.n).1 } else if a.what = 2 then (z1s e a.aT).1 else e
theorem x2s (d : D) (t n : Nat) : (Em.mended d t n).1.waits.length <= d.waits.length + 1 := by
 unfold Em.mended;split
 ·exact Nat.le_succ _
 ·have h := Em.wF d t n
  unfold Em.next;split
  ·exact IP (Em.z1r _) h
  ·exact h
theorem z7e (d : D) (b : Nat × Em.T) : (Em.bZ d b).1.d.waits.length <= d.waits.length + 2 := by
 unfold Em.bZ;split
 ·exact Em.A_ d 0 _
 ·exact IP (x2s d b.1 b.2.fin) GR
theorem z7c (d : D) (b : Nat × Em.T) : (Em.bZ d b).1.d.room = d.room := by
 unfold Em.bZ;split
 ·exact z6p d 0 _
 ·show (Em.mended d b.1 b.2.fin).1.room = d.room
  unfold Em.mended;split
  ·rfl
  ·unfold Em.next
   split
   ·rw [EJ, z1n]
   ·exact z1n _ _ _
theorem z4t (d : D) (n : Int) : (d.stop n).1.room = d.room /\ (d.stop n).1.waits = d.waits := by
 unfold D.stop;split
 ·exact ⟨rfl, rfl⟩
 ·split <;> exact ⟨rfl, rfl⟩
theorem y2x (e : Em.E) (a : Em.iy) : (jG e a).d.waits.length <= e.d.waits.length + 3 := by
 unfold jG;split
 ·exact Em.z1j e a.l
 ·split
  ·show (e.d.stop a.n).1.waits.length <= _
   rw [(z4t e.d a.n).2];omega
  ·split
   ·have := z7e (e.d.aT a.aT) (aP (λ k => aJ ((e.d.aT a.aT).stand.tp k)) 2)
    have h0 : (e.d.aT a.aT).waits.length = 0 := rfl;show (Em.bZ (e.d.aT a.aT) (aP (λ k => aJ ((e.d.aT a.aT).stand.tp k)) 2)).1.d.waits.length <= _;omega
   ·omega
theorem w0g (e : Em.E) (a : Em.iy) : (jG e a).d.room = e.d.room := by
 unfold jG;split
 ·exact x7c e a.l
 ·split
  ·exact (z4t e.d a.n).1
  ·split
   ·exact z7c _ _
   ·rfl
theorem Fit.next {e : Em.E} (h : Fit e) {a : Em.iy} (ok : (jG e a).d.ok) (hw : e.d.waits.length <= 900000000) : Fit (jG e a) := by
 refine ⟨?_, ok, IP (y2x e a) GR, by rw [w0g]; exact h.room⟩;unfold jG;split
 ·exact h.gF.bE a.l
 ·split
  ·exact h.gF.stop a.n
  ·split
   ·refine (h.gF.aT a.aT (λ k _ => ?_)).2
    have h1 := kC (y1x h.ok a.aT) k;have h2 := h.room;have h3 : (e.d.aT a.aT).room = e.d.room := rfl;omega
   ·exact h.gF
theorem w0c {e : Em.E} (x : bO w pl pd md e F) (hr : dW w (λ k => Apart pl pd md k /\ G k) v e) (hf : Fit e) (hw : e.d.waits.length <= 800000000) {q : jy} (ha : qA w q) (hs : q.1.small = true) :
 Calls prog 27 #[pl, v, .agg (iQ q.1.what q.2.1 q.1.n q.2.2 q.1.aT.bq q.1.aT.part)] w (xB w pl pd md F G (jG e q.1)) := by
 obtain ⟨s1, s2, s3⟩ := Em.iy.z4g hs;obtain ⟨⟨what, l, n, c⟩, lv, kv⟩ := q;simp only at s1 s2 s3 ha ⊢;unfold jG;by_cases h0 : what = 0
 ·subst h0
  rw [IA rfl];exact w0b x hr hf ha.l s1 s3 hw n kv c.bq c.part
 ·rw [Iw h0]
  by_cases h1 : what = 1
  ·subst h1
   rw [IA rfl];exact w0d x hr n ha.n.2 lv kv c.bq c.part
  ·rw [Iw h1]
   by_cases h2 : what = 2
   ·subst h2
    rw [IA rfl];exact w0e x hr hf n lv c ha.keep GR ha.bq ha.part
   ·rw [Iw h2]
    exact w0f x hr what n h0 h1 h2 lv kv c.bq c.part
structure oK (w0 Z W : World) (K : Nat -> Prop) (gw pl pd md : Nat) (e : Em.E) (F : Nat -> Prop) (Ev : Array Value) : Prop where
 below : Below w0.heap.size w0 W
 new : w0.heap.size <= pl /\ w0.heap.size <= pd /\ w0.heap.size <= md /\ w0.heap.size <= gw
 ne : Apart pl pd md gw
 log : bO W pl pd md e F
 row : W.heap[gw]? = some (.cells Ev aj (0, 0))
 ref : dW W (λ k => Apart pl pd md k /\ k ≠ gw) (.agg Ev) e
 size : Ev.size = 13
 foot : ∀ k, F k -> k ≠ gw
 fit : Fit e
 keep : ∀ k, K k -> k < Z.heap.size /\ Z.heap.size <= W.heap.size /\ W.heap[k]? = Z.heap[k]? /\ Apart pl pd md k /\ k ≠ gw
structure DL (w0 Z W : World) (K : Nat -> Prop) (gw b pl pd md : Nat) (e : Em.E) (F : Nat -> Prop) (Ev Ew : Array Value) : Prop where
 below : Below w0.heap.size w0 W
 new : w0.heap.size <= pl /\ w0.heap.size <= pd /\ w0.heap.size <= md /\ w0.heap.size <= gw
 ne : Apart pl pd md gw
 log : bO W pl pd md e F
 row : W.heap[gw]? = some (.cells Ev aj (0, 0))
 z5f : W.heap[b]? = some (.cells Ew aj (0, 0))
 neb : b ≠ gw
 ref : dW W (λ k => Apart pl pd md k /\ k ≠ gw) (.agg Ew) e
 y6e : Ev.size = 13
 size : Ew.size = 13
 ones : Ew.all (·.oneCell') = true
 foot : ∀ k, F k -> k ≠ gw
 fit : Fit e
 keep : ∀ k, K k -> k < Z.heap.size /\ Z.heap.size <= W.heap.size /\ W.heap[k]? = Z.heap[k]? /\ Apart pl pd md k /\ k ≠ gw
section
variable {w0 Z W : World} {K : Nat -> Prop} {gw pl pd md : Nat} {e : Em.E} {F : Nat -> Prop} {Ev : Array Value}
theorem oK.later (h : oK w0 Z W K gw pl pd md e F Ev) {W' : World} (hb : Below W W W') : oK w0 Z W' K gw pl pd md e F Ev :=
 ⟨h.below.trans (hb.mono h.below.size), h.new, h.ne, h.log.grow hb, (hb.block _ (aa h.row)).trans h.row, h.ref.later hb, h.size, h.foot, h.fit,
  λ k hk => by
   obtain ⟨k1, k2, k3, k4, k5⟩ := h.keep k hk;exact ⟨k1, IP k2 hb.size, (hb.block k GR).trans k3, k4, k5⟩⟩
theorem oK.call (h : oK w0 Z W K gw pl pd md e F Ev) (hw : e.d.waits.length <= 800000000) {X : World} (hb : Below W W X) {q : jy} (ha : qA w0 q) (hs : q.1.small = true) :
 Calls prog 27 #[pl, .agg Ev, .agg (iQ q.1.what q.2.1 q.1.n q.2.2 q.1.aT.bq q.1.aT.part)] X (xB X pl pd md (λ k => F k /\ k < W.heap.size) (λ k => k ≠ gw /\ k < W.heap.size) (jG e q.1)) :=
 w0c ((sU h.log).grow hb) (h.ref.keeps (λ k _ hl => hb.block k hl) (λ k hk hl => ⟨hk.1, hk.2, hl⟩)) h.fit hw (ha.later (h.below.trans (hb.mono h.below.size))) hs
theorem oK.y2w (h : oK w0 Z W K gw pl pd md e F Ev) {X w5 w6 : World} (hb : Below W W X) {eB fo md' b : Nat} {e' : Em.E} {Ew : Array Value} (m5 : Moves (eH pl pd md) X w5) (x5 : bO w5 eB fo md' e' F')
 (r5 : dW w5 (λ k => Apart eB fo md' k /\ (((k ≠ gw /\ k < W.heap.size) /\ k < X.heap.size) \/ X.heap.size <= k)) (.agg Ew) e')
 (hp : (eB = pl /\ fo = pd /\ md' = md) \/ (X.heap.size <= eB /\ X.heap.size <= fo /\ X.heap.size <= md')) (hF : ∀ k, F' k -> ((F k /\ k < W.heap.size) /\ k < X.heap.size) \/ X.heap.size <= k)
 (m6 : Moves (λ k => k = b) w5 w6) (rb : w6.heap[b]? = some (.cells Ew aj)) (hbn : W.heap.size <= b /\ (b < X.heap.size \/ w5.heap.size <= b)) (hc : b < w5.heap.size -> ∃ c t fr, w5.heap[b]? = some (.cells c t fr))
 (fit : Fit e') (hs : Ew.size = 13) (ho : Ew.all (·.oneCell') = true) : DL w0 Z w6 K gw b eB fo md' e' (λ k => F' k /\ k < w5.heap.size) Ev Ew := by
 have lx := h.log.disk.lt;have lp := aa h.log.row.choose_spec.1;have lg := aa h.row;have z1 := hb.size;have z5 := m5.size;have z6 := m6.size;have zb := h.below.size;have x5c := sU x5;have lx5 := x5.disk.lt;have lp5 := aa x5.row.choose_spec.1;have nn := h.new;have ne := h.ne;have nb : ¬ eB = b /\ ¬ fo = b /\ ¬ md' = b := by
  rcases hp with ⟨rfl, rfl, rfl⟩ | hp
  ·exact Rb
  ·exact Rb
 have nH : Below w0 w0 w5 := mE (h.below.trans (hb.mono h.below.size)) m5 (λ k hk => by rcases hk with q | q | q <;> omega);have b06 : Below w0 w0 w6 := mE nH m6 (λ k hk => GR);have neg : Apart eB fo md' gw := by
  rcases hp with ⟨rfl, rfl, rfl⟩ | hp
  ·exact ne
  ·exact Rb
 refine ⟨b06, ?_, neg, lZ x5c m6 nb.1 nb.2.1 nb.2.2 (λ k hk q => ?_) (λ k hk hl => ?_), ?_, rb, GR, r5.keeps (λ k hk hl => m6.block k hl ?_) (λ k hk hl => ?_), h.size, hs, ho, λ k hk => ?_, fit, λ k hk => ?_⟩
 ·rcases hp with ⟨rfl, rfl, rfl⟩ | hp
  ·exact nn
  ·exact ⟨GR, GR, GR, nn.2.2.2⟩
 ·rcases hF k hk.1 with q' | q'
  ·have := q'.1.2; omega
  ·have := hk.2; omega
 ·subst hk
  exact hc hl
 ·exact (m6.block gw GR GR).trans ((m5.block gw GR (λ q => by rcases q with q | q | q; exact ne.1 q; exact ne.2.1 q; exact ne.2.2 q)).trans ((hb.block gw lg).trans h.row))
 ·rcases hk.2 with q | q
  ·have := q.1.2; omega
  ·omega
 ·refine ⟨hk.1, ?_⟩
  rcases hk.2 with q | q
  ·exact q.1.1
  ·omega
 ·rcases hF k hk.1 with q | q
  ·exact h.foot k q.1.1
  ·omega
 ·obtain ⟨k1, k2, k3, k4, k5⟩ := h.keep k hk
  refine ⟨k1, GR, (m6.block k GR GR).trans ((m5.block k GR (λ q => by rcases q with q | q | q; exact k4.1 q; exact k4.2.1 q; exact k4.2.2 q)).trans ((hb.block k GR).trans k3)), ?_, k5⟩;rcases hp with ⟨rfl, rfl, rfl⟩ | hp
  ·exact k4
  ·exact Rb
theorem DL.store {b : Nat} {Ew : Array Value} (h : DL w0 Z W K gw b pl pd md e F Ev Ew) {W' : World} (hm : Moves (λ k => k = gw) W W') (hrow : W'.heap[gw]? = some (.cells Ew aj)) : oK w0 Z W' K gw pl pd md e F Ew := by
 have ne := h.ne;refine ⟨mE h.below hm (λ k hk => Hf h.new.2.2.2), h.new, h.ne, lZ h.log hm (λ q => ne.1 q.symm) (λ q => ne.2.1 q.symm) (λ q => ne.2.2 q.symm) (λ k hk q => h.foot k hk q) (λ k hk _ => ?_), hrow, h.ref.keeps (λ k hk hl => hm.block k hl hk.2) (λ k hk _ => hk), h.size, h.foot, h.fit, λ k hk => ?_⟩
 ·subst hk
  exact ⟨_, _, _, h.row⟩
 ·obtain ⟨k1, k2, k3, k4, k5⟩ := h.keep k hk
  exact ⟨k1, IP k2 hm.size, (hm.block k GR k5).trans k3, k4, k5⟩
end
section
attribute [local go_sem] Oper.semAt_some
theorem infoAct6 : (prog.info? iV).map (·.size) = some 6 := GQ
theorem Ei {P : Program} {ops : Array Oper} {rest : List Oper} {o : Oper} {a : Act} {Q : Exit -> Act -> World -> Prop} (hw : Region.wanted o (yielded ops a.tmps) = true) (ty : TypeId) (x : Operand) (ho : o.op = .load ty x) (v : Value)
 (hrun : (Instr.loadAt ty (a.eval x)).run P w = .ok v w) (h : wpList P ops Q rest (a.put o.dst v) w) : wpList P ops Q (o :: rest) a w :=
 Js λ K hK => by
  simp only [hw, I1];unfold Oper.wp execOp;simp only [ho, JE, hrun, JF, JS];exact hK _ _ h
theorem x1v {v1 v2 av : Value} {one two : List UInt8} (hone : BytesIn w.heap (λ _ => True) v1 one) (h9 : one.length <= 9223372036854775807) (yK : BytesIn w.heap (λ _ => True) v2 two) (h9' : two.length <= 9223372036854775807) (stop : Int) (hstop : i64' stop)
 {Q : List jy} (hv : uU w av Q) (hq : (Q.length + 1) * 80 <= 140737488355328) :
 Calls prog 7 #[v1, v2, .int .i64 stop, av] w λ e w' => e = .returned (.bool true) /\ Below w w w' := by
 obtain ⟨xa, xc, rfl⟩ := hone.slice;obtain ⟨ya, yc, rfl⟩ := yK.slice;obtain ⟨va, vc, rfl⟩ := hv.slice;obtain ⟨bb, hbb⟩ := G5 (Em.tY (Q.map (·.1)) 8);have FW := x5d hv 8 GR;rw [hbb] at FW;replace FW := hd1 FW;have LI := hd1 (λ (h1 : one.length <= 4000) (h2 : two.length <= 4000) => x3m hone yK h1 h2 stop hstop.2);have H0 := hd2 hv hbb;have HS := hd1 hstop;clear hone yK hv hbb hstop;generalize hn1 : one.length = n1 at *;generalize hn2 : two.length = n2 at *;generalize hqn : Q.length = n at *;have HN := hd3 hn1 hn2 hqn;clear hn1 hn2 hqn;have WC := hd1 (λ X => y4q X);have i1 : (0 : Int) <= (n1 : Int) := GR;have i2 : (0 : Int) <= (n2 : Int) := GR;have i3 : (0 : Int) <= (n : Int) := GR;go_in;by_cases b1 : (4000 : Int) < (n1 : Int)
 ·exact QI
 ·by_cases b2 : (4000 : Int) < (n2 : Int)
  ·exact QI
  ·cases bb
   ·go_wp2_with (first
     | (go_at_call 13; refine FW.mono ?_; rintro en w' ⟨rfl, rfl⟩)
     | (go_at_call 8; refine (WC.out _).mono ?_; rintro en wz ⟨rfl, bz⟩))
    go_ret;exact ⟨rfl, bz⟩
   ·have SM := hd1 (show ∀ q ∈ Q, q.1.small = true from λ q hq => (Em.y0p H0.2).1 _ (Jl.2 ⟨q, hq, rfl⟩))
    have n8 : n <= 8 := by
     have h := (Em.y0p H0.2).2;rw [Le, HN.2.2] at h;omega
    replace LI := hd1 (LI.out GR GR);obtain ⟨sp, hsp⟩ := G5 ((if 0 <= stop then stop else -1));rw [hsp] at LI;obtain ⟨d0, hd0⟩ := G5 (nz one two sp);rw [hd0] at LI;have tk : ∀ k : Nat, (d0.stand.tp k).length <= 1000000 := λ k => by
     rw [<-hd0];show ((upd (upd (λ _ => []) 0 one) 1 two) k).length <= 1000000;unfold upd;split
     ·have := HN.2.1; omega
     ·split
      ·have := HN.1; omega
      ·exact IV _
    have D0 := hd1 (show d0.waits = [] /\ d0.dead = false /\ d0.room = 20000 from by rw [<-hd0]; exact ⟨rfl, rfl, rfl⟩);have TK := hd1 tk;clear tk hd0 hsp h9 h9'
    go_upto_region 4 with (first
     | (go_at_call 13; refine FW.mono ?_; rintro en w' ⟨rfl, rfl⟩)
     | (go_at_call 29; refine LI.mono ?_; rintro en w3 h3; unfold D5 at h3; obtain ⟨pd, md, F, v3, rfl, b3, hpd, hmd, x3, f3⟩ := h3; obtain ⟨C3, rfl, p_, hO3⟩ := f3.cells)
     | (refine aC rfl af _ _ rfl w3.heap.size C3 rfl rfl af bV (IC w3 _) (by rw [aH, p_]) (by rw [p_]; rfl) hO3 ?_; intro w4 g_ jc mH))
    clear b1 b2 i1 i2;have jo : Below w3 w3 w4 := Moves.new ((Below.refl w3 w3).alloc GZ _) jc GZ;obtain ⟨g10, mg⟩ := G5 w3.heap.size;rw [mg] at g_ ⊢;have yE := x3.lt;have x4 : aQ w4.heap pd md d0 (λ k => F k /\ k < w3.heap.size) := (x3.weak (λ k hk hl => (⟨hk, hl⟩ : F k /\ k < w3.heap.size)) (λ h => yE.2.2.2.1 h.1) (λ h => yE.2.2.2.2 h.1)).below jo;have H4 := hd6 (b3.trans (jo.mono b3.size)) g_.out p_ hO3 hpd hmd;have f4 : bR w4.heap (λ k => (k ≠ pd /\ k ≠ md) /\ k < g10) (.agg C3) d0 := f3.keeps (λ k _ hl => jo.block k hl) (λ k hk hl => ⟨hk, GR⟩);have X4 := hd1 x4;have F4 := hd1 f4;have OC := Gb (ts := λ k => aJ (d0.stand.tp k)) x4 (by rw [D0.1]; exact IV _) (λ k hk => Hg jo.size hk.2) (λ k _ => z6i (IP (TK.out k) GU) k) (EA (λ k _ => TK.out k));have SND := λ h0 => z7d (d := d0) D0.2.1 D0.1 (λ k _ => TK.out k) h0;have WTS := z7e d0 (aP (λ k => aJ (d0.stand.tp k)) 2);have RMS := z7c d0 (aP (λ k => aJ (d0.stand.tp k)) 2);have w_ := λ (W : World) (hr : bR W.heap (λ k => (k ≠ pd /\ k ≠ md) /\ k < g10) (.agg C3) d0) => z5d (w := W) hr x4.ok (by rw [D0.1]; exact IV _) (by rw [D0.2.2]; decide);obtain ⟨R0, hR0⟩ := G5 (Em.bZ d0 (aP (λ k => aJ (d0.stand.tp k)) 2));rw [hR0] at OC SND WTS RMS;simp only [hR0] at w_;replace OC := hd1 OC;have SR := hd3 SND WTS RMS;replace w_ := hd1 w_;have L4 := hd4 yE.1 yE.2.1 mg jo.size;clear SND WTS RMS hR0 x3 x4 f3 f4 b3 jo p_ hO3 g_ jc mH yE mg hpd hmd LI FW
    go_upto_region 7 with (go_at_call 10; refine OC.mono ?_; rintro en w6 ⟨m6, o6, Gf⟩
                           by_cases h0 : R0.2 = 0;case' pos => (obtain ⟨pl, F6, rfl, x6, hpl, yT, _⟩ := o6 h0)
                           case' neg => (obtain ⟨rfl, x6⟩ := Gf h0))
    ·have R6 := hd1 (show w6.heap[g10]? = some (.cells C3 af) from (m6.block g10 (aa H4.2.1) (λ h => by have := L4.out; rcases h with h | h <;> omega)).trans H4.2.1)
     have RC := hd1 (w_.out w6 (F4.keeps (λ k hk hl => m6.block k hl (λ h => by rcases h with h | h; exact hk.1.1 h; exact hk.1.2 h)) (λ _ h _ => h)));have M6 := hd1 m6;have X6 := hd1 x6;have hz := h0;clear m6 x6 o6 Gf h0
     go_upto_region 8 with (first
      | (refine G_ R6.out Hu (by rw [aH, H4.2.2.1]) ?_)
      | (go_at_call 26; refine RC.mono ?_; rintro en w7 ⟨v7, rfl, b7, f7⟩; obtain ⟨C7, a7, n7, c7, rfl, p8, Cj, Bc⟩ := id f7)
      | (refine aC rfl aj _ _ rfl w7.heap.size _ rfl rfl aj bP (IC w7 _) (by rw [aX, aV p8]) (by rw [aV p8]; rfl) (d_ Cj _ _ _ _ _) ?_; intro W7 eU gQ mG))
     have rD : Below w7 w7 W7 := Moves.new ((Below.refl w7 w7).alloc GZ _) gQ GZ;have rE : Below w6 w6 W7 := b7.trans (rD.mono b7.size);obtain ⟨gw, hgw⟩ := G5 w7.heap.size;rw [hgw] at eU ⊢
     have RG : W7.rangeAt gw 0 C7.toList := λ j v hj => ae eU.out (j := 0 + j) (by
      have hj' : C7[j]? = some v := by simpa using hj
      have hlt := (Jf.1 hj').1;show (bQ C7 _ _ _)[0 + j]? = some v;rw [I8];unfold bQ;rw [L6 hlt];exact hj')
     have DU := hd1 (show (Instr.loadAt af (.pointer (some ⟨gw, 0, none⟩))).run prog W7 = .ok (.agg C7) W7 from by
      have := Kk (P := prog) W7 gw 0 af C7.toList _ RG Hu rfl (by rw [aH]; simp [p8]);simpa using this)
     have D8 := Bc.1.keeps (λ k _ hl => rD.block k hl) (λ _ h _ => h);have TP := hd1 (ED (X6.below rE) D8 MG)
     go_upto_region 10 with (first
      | (go_at_call 12; refine (iX _ _).mono ?_; rintro en w' ⟨rfl, rfl⟩)
      | (refine Ei (by go_simp) af (.tmp 60) rfl _ DU.out ?_)
      | (go_at_call 30; refine TP.mono ?_; rintro en w8 ⟨rfl, b8⟩))
     go_wp2_with (go_at_call 8; refine (WC.out _).mono ?_; rintro en wz ⟨rfl, bz⟩)
     go_ret;have wM : Below w w w6 := mE H4.1 M6.out (λ k hk => by have := H4.2.2.2.2; rcases hk with h | h <;> omega);exact ⟨rfl, wM.trans ((rE.trans ((b8.trans (bz.mono b8.size)).mono rE.size)).mono wM.size)⟩
    ·have R6 := hd1 (show w6.heap[g10]? = some (.cells C3 af) from (m6.block g10 (aa H4.2.1) (λ h => by have := L4.out; rcases h with h | h <;> omega)).trans H4.2.1)
     have RC := hd1 (w_.out w6 (F4.keeps (λ k hk hl => m6.block k hl (λ h => by rcases h with h | h; exact hk.1.1 h; exact hk.1.2 h)) (λ _ h _ => h)));have M6 := hd1 m6;have X6 := hd3 x6 hpl yT;have HZ := hd1 h0;clear m6 x6 o6 Gf h0 hpl yT
     go_upto_region 8 with (first
      | (refine G_ R6.out Hu (by rw [aH, H4.2.2.1]) ?_)
      | (go_at_call 26; refine RC.mono ?_; rintro en w7 ⟨v7, e7, b7, f7⟩; rw [HZ.out] at e7; subst e7; obtain ⟨C7, a7, n7, c7, rfl, p8, Cj, Bc⟩ := id f7)
      | (refine aC rfl aj _ _ rfl w7.heap.size _ rfl rfl aj bP (IC w7 _) (by rw [aX, aV p8]) (by rw [aV p8]; rfl) (d_ Cj _ _ _ _ _) ?_; intro W7 eU gQ mG))
     have rD : Below w7 w7 W7 := Moves.new ((Below.refl w7 w7).alloc GZ _) gQ GZ;have rE : Below w6 w6 W7 := b7.trans (rD.mono b7.size);obtain ⟨gw, hgw⟩ := G5 w7.heap.size;rw [hgw] at eU ⊢
     have RG : W7.rangeAt gw 0 C7.toList := λ j v hj => ae eU.out (j := 0 + j) (by
      have hj' : C7[j]? = some v := by simpa using hj
      have hlt := (Jf.1 hj').1;show (bQ C7 _ _ _)[0 + j]? = some v;rw [I8];unfold bQ;rw [L6 hlt];exact hj')
     have DU := hd1 (show (Instr.loadAt af (.pointer (some ⟨gw, 0, none⟩))).run prog W7 = .ok (.agg C7) W7 from by
      have := Kk (P := prog) W7 gw 0 af C7.toList _ RG Hu rfl (by rw [aH]; simp [p8]);simpa using this)
     have D8 := Bc.1.keeps (λ k _ hl => rD.block k hl) (λ _ h _ => h);have TP := hd1 (ED (X6.1.disk.below rE) D8 MG);obtain ⟨Ev0, hEv⟩ := G5 (bQ C7 R0.1.gone (.slice a7 n7 c7) (dG R0.1));have z9m : Ev0.size = 13 := by rw [<-hEv]; exact aV p8 _ _ _
     rw [hEv] at f7 eU;have wM : Below w w w6 := mE H4.1 M6.out (λ k hk => by have := H4.2.2.2.2; rcases hk with h | h <;> omega);have Dz : oK w W7 W7 (λ _ => False) gw pl pd md R0.1 F6 Ev0 := by
      obtain ⟨x6, hpl, yT⟩ := X6.out;have lx := x6.disk.lt;have lp := aa x6.row.choose_spec.1;obtain ⟨l1, l2, l3, l4⟩ := L4.out;have n1 := H4.2.2.2.2.1;have n2 := H4.2.2.2.2.2;have z1 := H4.1.size;have z6 := M6.size;have z7 := b7.size;have z77 := rD.size;have hg : gw < W7.heap.size := aa eU.out;refine ⟨wM.trans (rE.mono wM.size), ⟨GR, GR, GR, GR⟩, ⟨GR, GR, GR⟩, x6.grow rE, eU.out, f7.keeps (λ k hk hl => rD.block k hl) (λ k hk hl => ?_), z9m, λ k hk => Hf (yT k hk), ⟨(SR.1 HZ.out).gF, x6.disk.ok, ?_, ?_⟩, λ k hk => hk.elim⟩
      ·rcases hk with h | h
       ·exact ⟨⟨GR, h.1.1, h.1.2⟩, GR⟩
       ·exact ⟨⟨GR, GR, GR⟩, GR⟩
      ·have := SR.2.1; rw [D0.1] at this; simp at this; omega
      ·have := SR.2.2; rw [D0.2.2] at this; omega
     have Dz := hd1 Dz;have WT0 := hd1 (show R0.1.d.waits.length <= 100 by have := SR.2.1; rw [D0.1] at this; simp at this; omega);clear f7 Bc D8 eU gQ mG b7 rD rE RG hEv z9m p8 Cj hgw wM
     go_upto_region 10 with (first
      | (go_at_call 12; refine (iX _ _).mono ?_; rintro en w' ⟨rfl, rfl⟩)
      | (refine Ei (by go_simp) af (.tmp 60) rfl _ DU.out ?_)
      | (go_at_call 30; refine TP.mono ?_; rintro en w8 ⟨rfl, b8⟩))
     have uu := hd1 (Dz.later b8);have IS := hd1 (z9y uu.log uu.ref uu.fit)
     go_upto_region 14 with (first
      | (refine G_ uu.row Hw (by rw [aX, uu.size]) ?_)
      | (go_at_call 28; refine IS.mono ?_; rintro en w9 ⟨rfl, b9⟩))
     have ST9 := hd1 (uu.later b9);replace HN := hd1 HN.2.2;obtain ⟨KK, hKK⟩ : ∃ KK : Nat -> Prop, KK = λ _ => False := ⟨_, rfl⟩;rw [<-hKK] at ST9;have ST := ST9;clear hKK Dz uu ST9 TP IS DU OC w_ SR RC R6 X6 L4 F4 X4 b8 b9;go_wp2_with (go_at_call 12; refine (iX _ _).mono ?_; rintro en w' ⟨rfl, rfl⟩)
     go_loopg [12, 16] n (λ g sE sC wr => ∃ (k pl pd md : Nat) (e : Em.E) (F : Nat -> Prop) (Ev : Array Value), sC = .int .i64 (k : Int) /\ g + k = n /\ sE = .pointer (some ⟨pl, 0, none⟩) /\ oK w W7 wr KK gw pl pd md e F Ev /\ e.d.waits.length <= 100 + 3 * k)
     case atStart => exact ⟨0, pl, pd, md, _, _, _, rfl, rfl, rfl, ST.out, WT0.out⟩
     case round =>
      obtain ⟨k, pl, pd, md, e, F, Ev, rfl, hg, rfl, pm, hwt⟩ := hrel;by_cases hlt : k < n
      ·obtain ⟨q, hqi⟩ : ∃ q, Q[k]? = some q := ⟨_, IR Nk⟩
       obtain ⟨b, o, eva, lb, rg, is⟩ := H0.1.at hqi;subst eva;have i0 : (0 : Int) <= (k : Int) := GR;have i1 : (k : Int) < (n : Int) := GR;have hsm : q.1.small = true := SM.out q (Jb hqi);have AC := hd1 (λ (X : World) (hb : Below wr wr X) => pm.call GR hb is hsm);have hbn : ¬ eH pl pd md b := λ h => by have := pm.new; rcases h with h | h | h <;> omega
       have hgn : ¬ eH pl pd md gw := λ h => by have := pm.ne; rcases h with h | h | h; exact this.1 h; exact this.2.1 h; exact this.2.2 h
       have LDW : Hid (∀ w', (∃ y : Wd (Moves (eH pl pd md) wr), w' = y.world) -> (Instr.loadAt aj (.pointer (some gw))).run prog w' = .ok (.agg Ev) w') := by
        rintro w' ⟨y, rfl⟩;exact fK ((y.ok.block _ (aa pm.row) hgn).trans pm.row) Hw rfl (by rw [aX, pm.size])
       have LDA : Hid (∀ w', (∃ y : Wd (Moves (eH pl pd md) wr), w' = y.world) -> (Instr.loadAt iV (.pointer (some ⟨b, o + k * 6, none⟩))).run prog w' = .ok (.agg (iQ q.1.what q.2.1 q.1.n q.2.2 q.1.aT.bq q.1.aT.part)) w') := by
        rintro w' ⟨y, rfl⟩;exact Kk y.world b (o + k * 6) iV [.int .i64 q.1.what, q.2.1, .int .i64 q.1.n, q.2.2, .int .i64 q.1.aT.bq, .int .i64 q.1.aT.part] _ (λ j v hj => (IW (y.ok.block b (Jc lb pm.below.size) hbn)).trans ((pm.below.cell (p := ⟨b, o + k * 6 + j, none⟩) lb).trans (rg j v hj))) underlying43 rfl infoAct6
       have ne : Nonempty (Wd (Moves (eH pl pd md) wr)) := ⟨⟨_, Moves.refl _ _⟩⟩;have nN := hd3 pm hg hwt;clear pm hg hwt hqi rg is hsm lb hbn hgn;go_upto_region 17 with fail
       go_cut [17, 18, 19] from 76 to 102 (λ s1 s2 s3 wx => ∃ (b20 eB fo md' : Nat) (F' : Nat -> Prop) (Ew : Array Value), s1 = .pointer (some ⟨eB, 0, none⟩) /\ s2 = .pointer (some ⟨b20, 0, none⟩) /\ s3 = .bool true /\ DL w W7 wx KK gw b20 eB fo md' (jG e q.1) F' Ev Ew)
       case first =>
        refine bC (λ w' => ∃ x : Wd (Moves (eH pl pd md) wr), w' = x.world) [] GQ ?_;refine aI [0, 1, 2, 3, 4, 5] 9 _ ⟨⟨_, (Moves.of_below GY.drew)⟩, rfl⟩ GQ ?_;simp only [fmc, fmn, gta, gcs, gcz];refine ak (λ K hK => ?_); simp only [au, ah]; go_simp; refine hK _ ?_; clear hK K;refine dX rfl aj (.tmp 14) rfl _ LDW.out ?_;refine ak (λ K hK => ?_); simp only [au, ah]; go_simp; refine hK _ ?_; clear hK K;refine ak (λ K hK => ?_); simp only [au, ah]; go_simp; refine hK _ ?_; clear hK K;refine ak (λ K hK => ?_); simp only [au, ah]; go_simp; refine hK _ ?_; clear hK K;refine dX rfl iV (.tmp 87) rfl _ LDA.out ?_;refine aA ?_;refine Ad 6 11 8 _ _ _ rfl rfl GQ ?_ ?_
        ·refine IE rfl λ K hK => ?_
         go_simp;go_at_call 27;have HX : Below wr wr wr.drew := GY.drew;refine (AC.out _ HX).mono ?_;rintro en w5 ⟨eB, fo, md', F', v5, rfl, m5, x5, r5, pM, pX⟩;obtain ⟨C5, a5, n5, c5, rfl, yZ, yS, Fq⟩ := id r5;obtain ⟨Ew, pY⟩ := G5 (bQ C5 (jG e q.1).gone (.slice a5 n5 c5) (dG (jG e q.1)));have tL : Ew.size = 13 := by rw [<-pY]; exact aV yZ _ _ _
         have yV : Ew.all (·.oneCell') = true := by rw [<-pY]; exact d_ yS _ _ _ _ _
         rw [pY] at r5 ⊢;have FT := nN.1.fit.next (a := q.1) x5.disk.ok (Hf nN.2.2);have lh : Moves (eH pl pd md) wr w5 := (Moves.of_below HX).trans m5 (λ _ _ h => h);have A5 := hd6 m5 x5 r5 pM pX FT;clear m5 x5 r5 pM pX FT pY yZ yS Fq;refine hK _ _ (IB ⟨rfl, λ _ => ⟨⟨_, lh⟩, rfl⟩, ?_⟩);clear hK K;refine aI [7, 8, 9, 10] 4 _ ⟨⟨_, lh⟩, rfl⟩ GQ ?_;refine G9 ?_;refine az 11 3 _ _ rfl GQ ?_;refine IE rfl λ K hK => ?_;go_simp;have ba : Below w5 w5 (w5.alloc (.cells bP aj)) := (Below.refl w5 w5).alloc GZ _;have cl6 : Moves (eH pl pd md) wr (w5.alloc (.cells bP aj)) := lh.trans (Moves.of_below (O := eH pl pd md) ba) (λ _ _ h => h);refine hK _ _ (IB ⟨rfl, λ _ => ⟨⟨_, cl6⟩, rfl⟩, ?_⟩);clear hK K;refine aI [12] 2 _ ⟨⟨_, cl6⟩, rfl⟩ GQ ?_;refine G9 ?_;refine az 13 1 _ _ rfl GQ ?_;refine aC rfl aj _ _ rfl w5.heap.size Ew rfl rfl aj _ (IC w5 _) (by rw [aX, tL]) (by rw [tL]; rfl) yV ?_;intro w6 iR iw nQ;have m6 : Moves (λ k => k = w5.heap.size) w5 w6 := (Moves.of_below ba).trans iw (λ _ _ h => h);have uh : Moves (eH pl pd md) wr w6 := lh.trans m6 (λ i hi h => Hf lh.size);refine IB ⟨rfl, λ _ => ⟨⟨_, uh⟩, rfl⟩, ?_⟩;have R6 := hd3 m6 iR.out lh.size;clear ba cl6 m6 iw nQ iR;refine aI [14] 0 _ ⟨⟨_, uh⟩, rfl⟩ GQ ?_;refine G9 ?_;refine ⟨GQ, ?_⟩;clear lh uh;go_wp2_with fail
         go_meet
         case rel =>
          obtain ⟨m5, x5, r5, pM, pX, FT⟩ := A5.out;exact ⟨w5.heap.size, eB, fo, md', _, Ew, rfl, rfl, rfl, nN.1.y2w HX m5 x5 r5 pM pX R6.1 R6.2.1 ⟨R6.2.2, Iz GZ⟩ (λ h => absurd h GR) FT tL yV⟩
        ·refine IE rfl λ K hK => ?_
         go_simp;have HX : Below wr wr (wr.drew.alloc (.cells bP aj)) := (Below.refl wr wr).drew.alloc GZ _;have cl4 : Moves (eH pl pd md) wr (wr.drew.alloc (.cells bP aj)) := Moves.of_below HX;refine hK _ _ (IB ⟨rfl, λ _ => ⟨⟨_, cl4⟩, rfl⟩, ?_⟩);clear hK K;refine az 6 7 _ _ rfl GQ ?_;refine IE rfl λ K hK => ?_;go_simp;go_at_call 27;refine (AC.out _ HX).mono ?_;rintro en w5 ⟨eB, fo, md', F', v5, rfl, m5, x5, r5, pM, pX⟩;obtain ⟨C5, a5, n5, c5, rfl, yZ, yS, Fq⟩ := id r5;obtain ⟨Ew, pY⟩ := G5 (bQ C5 (jG e q.1).gone (.slice a5 n5 c5) (dG (jG e q.1)));have tL : Ew.size = 13 := by rw [<-pY]; exact aV yZ _ _ _
         have yV : Ew.all (·.oneCell') = true := by rw [<-pY]; exact d_ yS _ _ _ _ _
         rw [pY] at r5 ⊢;have FT := nN.1.fit.next (a := q.1) x5.disk.ok (Hf nN.2.2);have lh : Moves (eH pl pd md) wr w5 := cl4.trans m5 (λ _ _ h => h);have lxx := nN.1.log.disk.lt;have lpp := aa nN.1.log.row.choose_spec.1;have ra : (wr.drew.alloc (.cells bP aj)).heap[wr.heap.size]? = some (.cells bP aj) := IC wr.drew _;have sa : (wr.drew.alloc (.cells bP aj)).heap.size = wr.heap.size + 1 := GV;have FU : w5.heap[wr.heap.size]? = some (.cells bP aj) := (m5.block _ GR GR).trans ra;have A5 := hd6 m5 x5 r5 pM pX FT;clear m5 x5 r5 pM pX FT pY yZ yS Fq cl4 ra;refine hK _ _ (IB ⟨rfl, λ _ => ⟨⟨_, lh⟩, rfl⟩, ?_⟩);clear hK K;refine aI [7, 8, 9, 10] 3 _ ⟨⟨_, lh⟩, rfl⟩ GQ ?_;refine G9 ?_;refine aI [12] 2 _ ⟨⟨_, lh⟩, rfl⟩ GQ ?_;refine G9 ?_;refine az 13 1 _ _ rfl GQ ?_;refine aC rfl aj _ _ rfl wr.heap.size Ew rfl rfl aj _ FU (by rw [aX, tL]) (by rw [tL]; rfl) yV ?_;intro w6 iR iw nQ;have uh : Moves (eH pl pd md) wr w6 := lh.trans iw (λ i hi h => GR);refine IB ⟨rfl, λ _ => ⟨⟨_, uh⟩, rfl⟩, ?_⟩;have R6 := hd4 iw iR.out FU sa;clear iw nQ iR FU sa lxx lpp;refine aI [14] 0 _ ⟨⟨_, uh⟩, rfl⟩ GQ ?_;refine G9 ?_;refine ⟨GQ, ?_⟩;clear lh uh;go_wp2_with fail
         go_meet
         case rel =>
          obtain ⟨m5, x5, r5, pM, pX, FT⟩ := A5.out;exact ⟨wr.heap.size, eB, fo, md', _, Ew, rfl, rfl, rfl, nN.1.y2w HX m5 x5 r5 pM pX R6.1 R6.2.1 ⟨Nat.le_refl _, Iy (by rw [R6.2.2.2]; omega)⟩ (λ _ => ⟨_, _, _, R6.2.2.1⟩) FT tL yV⟩
       case rest =>
        obtain ⟨b20, eB, fo, md', F', Ew, rfl, rfl, rfl, pn⟩ := hcut;have y2m : Hid (∀ w', (∃ y : Wd (Moves (λ k => k = gw) wc), w' = y.world) -> (Instr.loadAt aj (.pointer (some b20))).run prog w' = .ok (.agg Ew) w') := by
         rintro w' ⟨y, rfl⟩;exact fK ((y.ok.block _ (aa pn.z5f) pn.neb).trans pn.z5f) Hw rfl (by rw [aX, pn.size])
        have ne6 : Nonempty (Wd (Moves (λ k => k = gw) wc)) := ⟨⟨_, Moves.refl _ _⟩⟩;have PN := hd1 pn;have WT := hd1 (y2x e q.1);clear pn LDW LDA AC ne;go_upto_region 18 with fail
        refine bC (λ w' => ∃ x : Wd (Moves (λ k => k = gw) wc), w' = x.world) [3] GQ ?_;refine aI [0, 1, 2] 1 _ ⟨⟨_, (Moves.of_below GY.drew)⟩, rfl⟩ GQ ?_;simp only [fmc, fmn, gta, gcs, gcz];refine ak (λ K hK => ?_); simp only [au, ah]; go_simp; refine hK _ ?_; clear hK K;refine dX rfl aj (.tmp 18) rfl _ y2m.out ?_;repeat refine G8 ?_
        refine aA ?_;refine az 3 0 _ _ rfl GQ ?_;refine aC rfl aj _ _ rfl gw Ew rfl rfl aj Ev PN.row (by rw [aX, PN.size]) (by rw [PN.size, PN.y6e]) PN.ones ?_;intro w7 eU gQ mG;refine IB ⟨rfl, λ h => absurd GU h, GQ, ?_⟩;have xg := hd1 (PN.store (W' := w7) ⟨gQ.os, gQ.tape, gQ.output, gQ.size, gQ.block⟩ eU.out);have IS := hd1 (z9y xg.log xg.ref xg.fit);clear eU gQ mG y2m ne6 PN
        go_wp2_with (first
         | (refine Ei (by go_simp) aj (.tmp 14) rfl _ (fK xg.row Hw rfl (by rw [aX, xg.size])) ?_)
         | (go_at_call 28; refine IS.mono ?_; rintro en w8 ⟨rfl, b8⟩))
        go_roundg (n - (k + 1))
        case measure => have := nN.2.1; omega
        case rel => exact ⟨k + 1, eB, fo, md', jG e q.1, _, Ew, by go_num, Hf nN.2.1, rfl, xg.later b8, Hg nN.2.2 WT.out⟩
      ·obtain rfl : k = n := GR
       have PM := hd1 pm;clear pm hg hwt hlt;go_wp2_with (go_at_call 8; refine (WC.out _).mono ?_; rintro en wz ⟨rfl, bz⟩)
       go_ret;exact ⟨rfl, PM.below.trans (bz.mono PM.below.size)⟩
end
end Go.Proofs.YtgffifleflkjoaaGreat
