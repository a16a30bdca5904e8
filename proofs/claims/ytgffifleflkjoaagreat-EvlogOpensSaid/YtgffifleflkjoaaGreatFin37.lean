/-
  Parts of a proof.
-/
import Derived.Test.YtgffifleflkjoaaGreatFin32
import Derived.Test.YtgffifleflkjoaaGreatFin33
import Derived.Test.YtgffifleflkjoaaGreatFin36
set_option linter.unusedSimpArgs false
set_option linter.unusedVariables false
set_option maxRecDepth 100000
set_option maxHeartbeats 16000000
namespace Go.Proofs.YtgffifleflkjoaaGreat
open _root_.Go.Proofs.Tryz
variable {w W w' w0 wr w1 W0 W1 W2 A B : World} {F G F' O : Nat → Prop} {v : Value} {l : List UInt8} {n q m pd md pl g p : Nat} {C : Array Value} {c : Int}
open Dm Em Go.Maps
structure jq (e : E) : Prop where
 good : e.good
 tidy : Tidy e.rows
 gone : e.gone = false
 dead : e.d.dead = false
 live : ∃ D1, kM (e.d.lasts.tp e.tp) e.gen D1 e.aL /\ tell D1 = tell e.rows
 fin : e.fin = (e.d.lasts.tp e.tp).length
 old : (aJ (e.d.lasts.tp (1 - e.tp : Nat))).gen + e.tp <= e.gen
 waits : oO (1 - e.tp) e.d
def jJ (x : St) (R : bB) : Prop := (aP (λ k => aJ (x.tp k)) 2).2.gen ≠ 0 /\ tell (aP (λ k => aJ (x.tp k)) 2).2.rows = R
theorem y1k {ts : Nat -> Em.T} {t : Nat} (ht : t <= 1) (h : (ts (1 - t)).gen + t <= (ts t).gen) (hp : 0 < (ts t).gen) : aP ts 2 = (t, ts t) := by
 have z : Em.T.none.gen = 0 := rfl;have h1 : aP ts 1 = if 0 < (ts 0).gen then (0, ts 0) else (0, Em.T.none) := rfl
 have h2 : aP ts 2 = if (aP ts 1).2.gen < (ts 1).gen then (1, ts 1) else aP ts 1 := rfl
 rcases Nat.lt_or_ge t 1 with h0 | h0
 ·have e : t = 0 := GR
  subst e;have h : (ts 1).gen + 0 <= (ts 0).gen := h;have hz : 0 < (ts 0).gen := hp;rw [h2, h1, IA hz];exact Iw (by show ¬ (ts 0).gen < (ts 1).gen; omega)
 ·have e : t = 1 := GR
  subst e;have h : (ts 0).gen + 1 <= (ts 1).gen := h;rw [h2, h1];by_cases hz : 0 < (ts 0).gen
  ·rw [IA hz]
   exact IA h
  ·rw [Iw hz]
   exact IA (by show 0 < (ts 1).gen; omega)
theorem xL {x : St} {t : Nat} {R : bB} (ht : t <= 1) (h : (aJ (x.tp (1 - t : Nat))).gen + t <= (aJ (x.tp t)).gen) (hp : 0 < (aJ (x.tp t)).gen) (hr : tell (aJ (x.tp t)).rows = R) : jJ x R := by
 have e := y1k (ts := λ k => aJ (x.tp k)) ht h hp;unfold jJ;rw [e];exact ⟨by show (aJ (x.tp t)).gen ≠ 0; omega, hr⟩
theorem EB {x y : St} {t : Nat} {D1 : Em.Rows} {R : bB} (ht : t <= 1) (h : kM (y.tp t) g D1 n) (hR : tell D1 = R) (ho : (aJ (y.tp (1 - t : Nat))).gen + t <= g) (x1 : x.tp t = y.tp t) (x2 : x.tp (1 - t : Nat) = y.tp (1 - t : Nat) \/ x.tp (1 - t : Nat) = []) : jJ x R := by
 refine xL ht ?_ ?_ ?_
 ·rw [x1, mU h]
  rcases x2 with x2 | x2
  ·rw [x2]; exact ho
  ·rw [x2, AO]
   exact Q4
 ·rw [x1, mU h]; exact h.g0
 ·rw [x1, mU h]; exact hR
theorem z3j {x y : St} {t k : Nat} {D1 : Em.Rows} {l : List ay} {R : bB} (ht : t <= 1) (h : kM (y.tp t) g D1 n) (hR : tell D1 = R) (ho : (aJ (y.tp (1 - t : Nat))).gen + t <= g) (hd : aW D1 l = 0) (hb : (dQ l).length <= 8192)
 (x1 : x.tp t = y.tp t ++ (Wm.frame (dQ l)).take k) (x2 : x.tp (1 - t : Nat) = y.tp (1 - t : Nat) \/ x.tp (1 - t : Nat) = []) : jJ x R \/ jJ x (tell (behind D1 l)) := by
 have other : ∀ G, G = g -> (aJ (x.tp (1 - t : Nat))).gen + t <= G := by
  rintro _ rfl;rcases x2 with x2 | x2
  ·rw [x2]; exact ho
  ·rw [x2, AO]
   have z : Em.T.none.gen = 0 := rfl;have := h.g0;omega
 by_cases hk : k < (Wm.frame (dQ l)).length
 ·left
  have e : aJ (x.tp t) = ⟨g, D1, n, (y.tp t).length⟩ := by rw [x1]; exact y7r h hb hk
  refine xL ht (other _ ?_) ?_ ?_ <;> rw [e]
  ·exact h.g0
  ·exact hR
 ·right
  rw [Je GR] at x1;have e := mU (z5w h hd hb);rw [<-x1] at e;refine xL ht (other _ ?_) ?_ ?_ <;> rw [e];exact h.g0
theorem z3k {x y : St} {t : Nat} {D1 D : Em.Rows} {R : bB} (ht : t <= 1) (h : kM (y.tp t) g D1 n) (hR : tell D1 = R) (ho : (aJ (y.tp (1 - t : Nat))).gen + t <= g) (hD : bI D) (hT : Tidy D) (hs : Maps.size D <= 256) (hg : g + 1 <= 2147483647)
 (x1 : x.tp t = y.tp t) (x2 : x.tp (1 - t : Nat) = y.tp (1 - t : Nat) \/ ∃ k, x.tp (1 - t : Nat) = (folded (g + 1) D).take k) : jJ x R \/ jJ x (tell D) := by
 rcases x2 with x2 | ⟨k, x2⟩
 ·exact Iy (EB ht h hR ho x1 (Iy x2))
 ·by_cases hk : k < (folded (g + 1) D).length
  ·left
   refine xL ht ?_ ?_ ?_
   ·rw [x1, mU h, x2, y7d hD hT hs GR hg hk]
    exact Q4
   ·rw [x1, mU h]; exact h.g0
   ·rw [x1, mU h]; exact hR
  ·right
   rw [Je GR] at x2;have e := mU (EZ hD hT hs (Nat.succ_pos g) hg);rw [<-x2] at e;have h1 : 1 - (1 - t) = t := GR;refine xL (t := 1 - t) GR ?_ ?_ ?_
   ·rw [h1, x1, mU h, e]
    show g + (1 - t) <= g + 1;omega
   ·rw [e]; exact Nat.succ_pos g
   ·rw [e]; exact Ai hD hT
theorem Es {d : D} {t : Nat} {D1 : Em.Rows} {R : bB} (ht : t <= 1) (h : kM (d.lasts.tp t) g D1 n) (hR : tell D1 = R) (ho : (aJ (d.lasts.tp (1 - t : Nat))).gen + t <= g) (hw : oO (1 - t) d) (c : bH) : jJ (d.aT c).stand R := by
 rcases hw with hw | hw
 ·rw [x7t hw]
  exact EB ht h hR ho rfl (Iy rfl)
 ·obtain ⟨c1, c2⟩ := x7o hw c
  exact EB ht h hR ho (c1 _ GR) c2
theorem jq.tells {e : E} (h : jq e) (c : bH) : jJ (e.d.aT c).stand (tell e.rows) := by
 obtain ⟨D1, r, hR⟩ := h.live;exact Es h.good.tp r hR h.old h.waits c
def After (R : bB) (D : Em.Rows) (r : E × Int) : Prop :=
 (r.2 ≠ 281 -> jq r.1) /\ (r.2 = 281 -> ∀ c, jJ (r.1.d.aT c).stand R \/ jJ (r.1.d.aT c).stand (tell D))
theorem x9f {l : List ay} (h : (aY l).length ≠ 0) : (dQ l).length <= 8192 /\ aY l = Wm.frame (dQ l) := by
 have hb : aY l = fT (dQ l) := rfl;by_cases hl : 8192 < (dQ l).length
 ·rw [hb, fT, IA hl] at h
  exact absurd rfl h
 ·exact ⟨GR, by rw [hb, tT GR]⟩
theorem x0e {e : E} {l : List ay} (h : jq e) (hd : aW e.rows l = 0) : After (tell e.rows) (behind e.rows l) (e.put (behind e.rows l) (aY l)) := by
 have hg := Bp (D := behind e.rows l) (b := aY l) h.good (qL h.good.rows (jV hd).1) (jV hd).2 (q9 _);by_cases q : 32 <= e.aL \/ (aY l).length = 0 \/ e.d.room / 2 < e.fin + (aY l).length
 ·rw [Bq q] at hg ⊢
  exact ⟨λ _ => h, λ e => by cases e⟩
 ·have hb : (aY l).length ≠ 0 := GR
  obtain ⟨b1, b2⟩ := x9f hb;obtain ⟨D1, r, hR⟩ := h.live;obtain ⟨s1, s2⟩ := y7v h.good.rows h.tidy r.rows r.tidy hR.symm l;have hd1 : aW D1 l = 0 := by rw [<-s1]; exact hd
  have ht1 : tell (behind D1 l) = tell (behind e.rows l) := (s2 hd).symm;have hlive := sM (e := e) (D := behind e.rows l) (b := aY l) q;have htp := h.good.tp;rw [hlive] at hg ⊢;rcases y3o (t := e.tp) (o := 1 - e.tp) h.dead htp GR h.waits (aY l) with w | ⟨w1, w2, w3⟩ | ⟨w1, w2, w3⟩ | ⟨w1, w2, w3, w4, w5⟩
  ·simp only [w] at hg ⊢
   refine ⟨λ _ => ?_, λ e => by cases e⟩;exact ⟨hg, h.tidy, h.gone, h.dead, h.live, h.fin, h.old, h.waits⟩
  ·refine ⟨λ hne => absurd w1 hne, λ _ c => Iy ?_⟩
   refine Es (d := (wrote e.d e.tp (aY l)).1) htp (by rw [w2]; exact r) hR (by rw [w2]; exact h.old) w3 c
  ·refine ⟨λ hne => absurd w1 hne, λ _ c => ?_⟩
   rw [<-ht1];rw [b2] at w2 w3;show jJ ((wrote e.d e.tp (aY l)).1.aT c).stand _ \/ jJ ((wrote e.d e.tp (aY l)).1.aT c).stand _;rw [b2];rcases w3 with w3 | w3
   ·obtain ⟨c1, k, c2⟩ := y1w w3 c
    rw [w2] at c2;exact z3j htp r hR h.old hd1 b1 c2 (Iy (by rw [c1 _ GR, w2]))
   ·obtain ⟨c1, k, c2⟩ := x7p GR w3 c
    rw [w2] at c1 c2;exact z3j htp r hR h.old hd1 b1 c2 c1
  ·simp only [IA w1] at hg ⊢
   refine ⟨λ _ => ?_, λ e => by rw [w1] at e; cases e⟩;have r2 := z5w r hd1 b1;rw [<-b2, <-w4] at r2;refine ⟨hg, (xO (pE (jV hd).1).2 h.good.rows h.tidy).2, h.gone, w2, ⟨_, r2, ht1⟩, ?_, ?_, Iy w3⟩
   ·show e.fin + _ = ((wrote e.d e.tp (aY l)).1.lasts.tp e.tp).length
    rw [w4, IL, h.fin]
   ·show (aJ ((wrote e.d e.tp (aY l)).1.lasts.tp (1 - e.tp : Nat))).gen + e.tp <= e.gen
    rcases w5 with w5 | w5
    ·rw [w5]; exact h.old
    ·rw [w5, AO]
     have z : Em.T.none.gen = 0 := rfl;have := r.g0;omega
theorem x5m {e : E} {D : Em.Rows} (h : jq e) (hD : bI D) (hT : Tidy D) (hs : Maps.size D <= 256) : After (tell e.rows) D (e.fold D) := by
 have hg := z1z h.good hD hs;by_cases q : 2147483647 <= e.gen
 ·rw [ww q]
  exact ⟨λ _ => h, λ e => by cases e⟩
 ·obtain ⟨D1, r, hR⟩ := h.live
  have htp := h.good.tp;have hlive := wu (e := e) (D := D) q;rw [hlive] at hg ⊢;rcases z6o (t := e.tp) (o := 1 - e.tp) h.dead GR GR h.waits (folded (e.gen + 1) D) with ⟨w1, w2, w3, w4⟩ | ⟨w1, w2, w3⟩ | ⟨w1, w2, w3⟩ | ⟨w1, w2, w3, w4, w5⟩
  ·have hne : ¬ (bK e.d (1 - e.tp) (folded (e.gen + 1) D)).2 = 0 := by rw [w1]; decide
   simp only [Iw hne] at hg ⊢;refine ⟨λ _ => ⟨hg, h.tidy, h.gone, w2, ?_, ?_, ?_, w4⟩, λ e => by rw [w1] at e; cases e⟩
   ·exact ⟨D1, by show kM ((bK e.d (1 - e.tp) (folded (e.gen + 1) D)).1.lasts.tp e.tp) _ _ _; rw [w3]; exact r, hR⟩
   ·show e.fin = ((bK e.d (1 - e.tp) (folded (e.gen + 1) D)).1.lasts.tp e.tp).length
    rw [w3]; exact h.fin
   ·show (aJ ((bK e.d (1 - e.tp) (folded (e.gen + 1) D)).1.lasts.tp (1 - e.tp : Nat))).gen + e.tp <= e.gen
    rw [w3]; exact h.old
  ·have hne : ¬ (bK e.d (1 - e.tp) (folded (e.gen + 1) D)).2 = 0 := by rw [w1]; decide
   simp only [Iw hne];refine ⟨λ hn => absurd w1 hn, λ _ c => Iy ?_⟩;exact Es (d := (bK e.d (1 - e.tp) (folded (e.gen + 1) D)).1) htp (by rw [w2]; exact r) hR (by rw [w2]; exact h.old) w3 c
  ·have hne : ¬ (bK e.d (1 - e.tp) (folded (e.gen + 1) D)).2 = 0 := by rw [w1]; decide
   simp only [Iw hne];refine ⟨λ hn => absurd w1 hn, λ _ c => ?_⟩;rcases w3 with ⟨w3, hl⟩ | w3
   ·obtain ⟨c1, k, c2⟩ := y1w w3 c
    rw [w2, hl, Ji] at c2;exact z3k htp r hR h.old hD hT hs GR (by rw [c1 _ GR, w2]) (Iz ⟨k, c2⟩)
   ·obtain ⟨c1, c2⟩ := x7q w3 c
    rw [w2] at c2;exact z3k htp r hR h.old hD hT hs GR (by rw [c1 _ GR, w2]) c2
  ·simp only [IA w1] at hg ⊢
   refine ⟨λ _ => ?_, λ e => by rw [w1] at e; cases e⟩;have r2 := EZ (g := e.gen + 1) hD hT hs GR GR;rw [<-w5] at r2;have h1 : 1 - (1 - e.tp) = e.tp := GR;refine ⟨hg, hT, h.gone, w2, ⟨_, r2, Ai hD hT⟩, ?_, ?_, Iy w3⟩
   ·show (folded (e.gen + 1) D).length = ((bK e.d (1 - e.tp) (folded (e.gen + 1) D)).1.lasts.tp (1 - e.tp : Nat)).length
    rw [w5]
   ·show (aJ ((bK e.d (1 - e.tp) (folded (e.gen + 1) D)).1.lasts.tp (1 - (1 - e.tp) : Nat))).gen + (1 - e.tp) <= e.gen + 1
    rw [h1, w4, mU r];show e.gen + (1 - e.tp) <= e.gen + 1;omega
theorem y6n {e : E} {l : List ay} (h : jq e) (hd : aW e.rows l = 0) : After (tell e.rows) (behind e.rows l) (e.step (behind e.rows l) (aY l)) := by
 have hp := x0e h hd;unfold E.step;by_cases q : (e.put (behind e.rows l) (aY l)).2 = 280
 ·rw [IA q]
  have hs := hp.1 (by rw [q]; decide);have hr : (e.put (behind e.rows l) (aY l)).1.rows = e.rows := by rw [FY, Iw (by rw [q]; decide)]
  have := x5m (D := behind e.rows l) hs (qL h.good.rows (jV hd).1) (xO (pE (jV hd).1).2 h.good.rows h.tidy).2 (jV hd).2;rw [hr] at this;exact this
 ·rw [Iw q]; exact hp
theorem x8v {e : E} {l : List ay} (h : jq e) :
 ((e.bE l).2 ≠ 281 -> jq (e.bE l).1) /\ ((e.bE l).2 = 281 -> (e.bE l).1.gone = true /\ aW e.rows l = 0 /\ ∀ c, jJ ((e.bE l).1.d.aT c).stand (tell e.rows) \/ jJ ((e.bE l).1.d.aT c).stand (tell (behind e.rows l))) := by
 unfold E.bE;by_cases q : aW e.rows l ≠ 0
 ·rw [IA q]
  refine ⟨λ _ => h, λ zh => ?_⟩;exfalso
  have zh : aW e.rows l = 281 := zh;unfold aW right at zh;repeat' split at zh
  all_goals cases zh
 ·rw [Iw q, Iw (by rw [h.gone]; decide)]
  have q : aW e.rows l = 0 := GR;obtain ⟨s1, s2⟩ := y6n h q;refine ⟨λ hn => ?_, λ he => ?_⟩
  ·have hn : (e.step (behind e.rows l) (aY l)).2 ≠ 281 := hn
   have s := s1 hn;exact ⟨⟨s.good.tp, s.good.gen, s.good.aL, s.good.fin, s.good.rows, s.good.few⟩, s.tidy, by show decide _ = false; simp [hn], s.dead, s.live, s.fin, s.old, s.waits⟩
  ·have he : (e.step (behind e.rows l) (aY l)).2 = 281 := he
   exact ⟨by show decide _ = true; simp [he], q, s2 he⟩
theorem jq.stop {e : E} (h : jq e) {n : Int} (hn : 0 <= n) : e.d.stop n = ({ e.d with stops := n }, 0) /\ jq { e with d := { e.d with stops := n } } := by
 refine ⟨?_, ⟨yB h.good _, h.tidy, h.gone, h.dead, h.live, h.fin, h.old, h.waits⟩⟩;unfold D.stop;rw [Iw GR, Iw (by rw [h.dead]; decide)]
theorem z1e {ts : Nat -> Em.T} (h : (aP ts 2).2.gen ≠ 0) : ∃ k, k <= 1 /\ aP ts 2 = (k, ts k) := by
 have h1 : aP ts 1 = if 0 < (ts 0).gen then (0, ts 0) else (0, Em.T.none) := rfl
 have h2 : aP ts 2 = if (aP ts 1).2.gen < (ts 1).gen then (1, ts 1) else aP ts 1 := rfl
 by_cases q : (aP ts 1).2.gen < (ts 1).gen
 ·rw [IA q] at h2
  exact ⟨1, Nat.le_refl _, h2⟩
 ·rw [Iw q] at h2
  by_cases z : 0 < (ts 0).gen
  ·rw [IA z] at h1
   exact ⟨0, IV _, h2.trans h1⟩
  ·rw [Iw z] at h1
   rw [h2, h1] at h;exact absurd rfl h
theorem z9e {d : D} (h : d.dead = false) (h2 : d.stops = -1) : d.goes = (d, 0) := by
 unfold D.goes;rw [Iw (by rw [h]; decide), Iw (by rw [h2]; decide), Iw (by rw [h2]; decide)]
theorem x2q {d : D} {t : Nat} (h : d.dead = false) (h2 : d.stops = -1) (ht : t <= 1) (hn : n <= (d.stand.tp t).length) : (Em.mended d t n).2 = 0 := by
 unfold Em.mended;by_cases q : (d.stand.tp t).length = n
 ·rw [IA q]
 ·rw [Iw q]
  have hc : d.cut t n = ({ d with waits := d.waits ++ [⟨3, t, n, []⟩] }, 0) := by
   unfold D.cut;rw [Iw GR];unfold D.step;rw [z9e h h2];rfl
  rw [hc];unfold Em.next;rw [IA rfl];unfold D.sync;rw [z9e (d := { d with waits := d.waits ++ [⟨3, t, n, []⟩] }) h h2];rfl
theorem EA {d : D} (hl : ∀ k : Nat, k <= 1 -> (d.stand.tp k).length <= 1000000) (h : (aP (λ k => aJ (d.stand.tp k)) 2).2.gen ≠ 0) : (Em.took d (aP (λ k => aJ (d.stand.tp k)) 2)).good := by
 obtain ⟨k, hk, e⟩ := z1e h;rw [e];obtain ⟨r1, r2, r3, r4, r5⟩ := xZ (d.stand.tp k);have := hl k hk;refine ⟨hk, r1, ?_, ?_, r2, r3⟩
 ·show (aJ (d.stand.tp k)).aL <= 1000000
  omega
 ·show (aJ (d.stand.tp k)).fin <= 2200000 + 8205 * (aJ (d.stand.tp k)).aL
  omega
theorem x1u {d : D} {R : bB} (h1 : d.dead = false) (h2 : d.stops = -1) (h : jJ d.stand R) :
 (Em.bZ d (aP (λ k => aJ (d.stand.tp k)) 2)).2 = 0 /\ tell (Em.bZ d (aP (λ k => aJ (d.stand.tp k)) 2)).1.rows = R := by
 obtain ⟨hg, hr⟩ := h;unfold Em.bZ;rw [Iw hg];refine ⟨?_, hr⟩;obtain ⟨k, hk, e⟩ := z1e hg;rw [e];exact x2q h1 h2 hk (xZ _).2.2.2.1
theorem Cu (d : D) : d.goes.1.room = d.room := by
 unfold D.goes;split
 ·rfl
 ·exact Rv
theorem z4q (d : D) (s : Step) : (d.step s).1.room = d.room := by
 unfold D.step;split
 ·exact Cu d
 ·exact Cu d
theorem z1b (d : D) (t : Int) (b : List UInt8) : (d.append t b).1.room = d.room := by
 unfold D.append;split
 ·rfl
 ·split
  ·rfl
  ·exact z4q _ _
theorem z1n (d : D) (t n : Int) : (d.cut t n).1.room = d.room := by
 unfold D.cut;split
 ·rfl
 ·exact z4q _ _
theorem EJ (d : D) : d.sync.1.room = d.room := by
 unfold D.sync;split
 ·exact Cu d
 ·exact Cu d
theorem y3p (d : D) (t : Nat) (b : List UInt8) : (Em.wrote d t b).1.room = d.room := by
 unfold Em.wrote Em.next;split
 ·rw [EJ, z1b]
 ·exact z1b _ _ _
theorem y0j (d : D) (t : Nat) : (Em.b_ d t).1.room = d.room := by
 unfold Em.b_;split
 ·rfl
 ·exact z1n _ _ _
theorem z6p (d : D) (t : Nat) (b : List UInt8) : (Em.bK d t b).1.room = d.room := by
 have h : (Em.next (Em.b_ d t) λ d => d.append t b).1.room = d.room := by
  unfold Em.next;split
  ·rw [z1b, y0j]
  ·exact y0j _ _
 unfold Em.bK;rw [Em.next];split
 ·rw [EJ, h]
 ·exact h
theorem x7c (e : E) (l : List ay) : (e.bE l).1.d.room = e.d.room := by
 have hp : ∀ (e : E) (D : Em.Rows) (b : List UInt8), (e.put D b).1.d.room = e.d.room := λ e D b => by
  unfold E.put;split
  ·rfl
  ·exact y3p _ _ _
 have hf : ∀ (e : E) (D : Em.Rows), (e.fold D).1.d.room = e.d.room := λ e D => by
  unfold E.fold;split
  ·rfl
  ·simp only
   split <;> exact z6p _ _ _
 have hs : ∀ (e : E) (D : Em.Rows) (b : List UInt8), (e.step D b).1.d.room = e.d.room := λ e D b => by
  unfold E.step;split
  ·rw [hf, hp]
  ·exact hp _ _ _
 unfold E.bE;split
 ·rfl
 ·split
  ·rfl
  ·exact hs _ _ _
theorem x9s {ts : Nat -> Em.T} (h : (aP ts 2).2.gen ≠ 0) : ∃ k, k <= 1 /\ aP ts 2 = (k, ts k) /\ (ts (1 - k)).gen + k <= (ts k).gen := by
 have z : Em.T.none.gen = 0 := rfl;have h1 : aP ts 1 = if 0 < (ts 0).gen then (0, ts 0) else (0, Em.T.none) := rfl
 have h2 : aP ts 2 = if (aP ts 1).2.gen < (ts 1).gen then (1, ts 1) else aP ts 1 := rfl
 by_cases q : (aP ts 1).2.gen < (ts 1).gen
 ·rw [IA q] at h2
  refine ⟨1, Nat.le_refl _, h2, ?_⟩;show (ts 0).gen + 1 <= (ts 1).gen;rw [h1] at q;by_cases z0 : 0 < (ts 0).gen
  ·rw [IA z0] at q
   exact q
  ·rw [Iw z0] at q
   omega
 ·rw [Iw q] at h2
  by_cases z0 : 0 < (ts 0).gen
  ·rw [IA z0] at h1
   refine ⟨0, IV _, h2.trans h1, ?_⟩;show (ts 1).gen + 0 <= (ts 0).gen;rw [h1] at q;have q : ¬ (ts 0).gen < (ts 1).gen := q;omega
  ·rw [Iw z0] at h1
   rw [h2, h1] at h;exact absurd rfl h
theorem x9t {ts : Nat -> Em.T} (h : (aP ts 2).2.gen = 0) : (ts 0).gen = 0 /\ (ts 1).gen = 0 := by
 have z : Em.T.none.gen = 0 := rfl;have h1 : aP ts 1 = if 0 < (ts 0).gen then (0, ts 0) else (0, Em.T.none) := rfl
 have h2 : aP ts 2 = if (aP ts 1).2.gen < (ts 1).gen then (1, ts 1) else aP ts 1 := rfl
 by_cases q : (aP ts 1).2.gen < (ts 1).gen
 ·rw [IA q] at h2
  rw [h2] at h;have h : (ts 1).gen = 0 := h;omega
 ·rw [Iw q] at h2
  rw [h2] at h;by_cases z0 : 0 < (ts 0).gen
  ·rw [IA z0] at h1
   rw [h1] at h;have h : (ts 0).gen = 0 := h;omega
  ·rw [h] at q
   omega
theorem x2r {d : D} (h : d.dead = false) (hw : d.waits = []) {t : Nat} (ht : t <= 1) (hn : n <= (d.stand.tp t).length) (h0 : (Em.mended d t n).2 = 0) :
 (Em.mended d t n).1.dead = false /\ (Em.mended d t n).1.waits = [] /\ (Em.mended d t n).1.lasts.tp t = (d.lasts.tp t).take n /\ ∀ u : Int, u ≠ t -> (Em.mended d t n).1.lasts.tp u = d.lasts.tp u := by
 have hs : d.stand = d.lasts := by unfold D.stand; rw [hw]; rfl
 unfold Em.mended at h0 ⊢;by_cases q : (d.stand.tp t).length = n
 ·rw [IA q]
  refine ⟨h, hw, ?_, λ _ _ => rfl⟩;rw [<-hs, <-q, List.take_length]
 ·rw [Iw q] at h0 ⊢
  have hc : d.cut t n = d.step ⟨3, t, n, []⟩ := by
   unfold D.cut;rw [Iw GR]
  rw [hc] at h0 ⊢;rcases EP h ⟨3, t, n, []⟩ with ⟨s, e⟩ | ⟨s, e⟩
  ·rw [e] at h0 ⊢
   have hn : Em.next (({ d with stops := s, waits := d.waits ++ [⟨3, t, n, []⟩] } : D), 0) D.sync = ({ d with stops := s, waits := d.waits ++ [⟨3, t, n, []⟩] } : D).sync := IA rfl;rw [hn] at h0 ⊢;have hd : ({ d with stops := s, waits := d.waits ++ [⟨3, t, n, []⟩] } : D).dead = false := h;rcases xS hd with ⟨s', e'⟩ | ⟨s', e'⟩
   ·rw [e']
    refine ⟨h, rfl, ?_, λ u hu => ?_⟩
    ·show ((d.waits ++ [(⟨3, t, n, []⟩ : Step)]).foldl St.done d.lasts).tp t = _
     rw [hw];simp [St.done, upd]
    ·show ((d.waits ++ [(⟨3, t, n, []⟩ : Step)]).foldl St.done d.lasts).tp u = _
     rw [hw];simp [St.done, upd, hu]
   ·rw [e'] at h0
    have h0 : (281 : Int) = 0 := h0;exact absurd h0 GU
  ·rw [e] at h0
   have hn : Em.next (({ d with dead := true, stops := s } : D), 281) D.sync = (({ d with dead := true, stops := s } : D), 281) := Iw (show ¬ (281 : Int) = 0 by decide);rw [hn] at h0;have h0 : (281 : Int) = 0 := h0;exact absurd h0 GU
theorem z7d {d : D} (h : d.dead = false) (hw : d.waits = []) (hl : ∀ k : Nat, k <= 1 -> (d.stand.tp k).length <= 1000000) (h0 : (Em.bZ d (aP (λ k => aJ (d.stand.tp k)) 2)).2 = 0) :
 jq (Em.bZ d (aP (λ k => aJ (d.stand.tp k)) 2)).1 := by
 have hs : d.stand = d.lasts := by unfold D.stand; rw [hw]; rfl
 by_cases q : (aP (λ k => aJ (d.stand.tp k)) 2).2.gen = 0
 ·have ho : Em.bZ d (aP (λ k => aJ (d.stand.tp k)) 2) = Em.begun d := IA q
  rw [ho] at h0 ⊢;have hg := y1j d;have hb : Em.begun d = (⟨0, 1, .map [], 0, (folded 1 (.map [])).length, (bK d 0 (folded 1 (.map []))).1, false⟩, (bK d 0 (folded 1 (.map []))).2) := rfl;rw [hb] at h0 hg ⊢;have z : (bK d 0 (folded 1 (.map []))).2 = 0 := h0;rcases z6o (d := d) (t := 1) (o := 0) h GU GU (Iy hw) (folded 1 (.map [])) with ⟨w, _⟩ | ⟨w, _⟩ | ⟨w, _⟩ | ⟨w1, w2, w3, w4, w5⟩
  ·rw [z] at w; exact absurd w GU
  ·rw [z] at w; exact absurd w GU
  ·rw [z] at w; exact absurd w GU
  ·have r := EZ (D := .map []) (g := 1) nW tidy_empty GU GU GU
   rw [<-w5] at r;refine ⟨hg, tidy_empty, rfl, w2, ⟨_, r, Ai nW tidy_empty⟩, ?_, ?_, Iy w3⟩
   ·show (folded 1 (.map [])).length = ((bK d 0 (folded 1 (.map []))).1.lasts.tp (0 : Nat)).length
    rw [w5]
   ·show (aJ ((bK d 0 (folded 1 (.map []))).1.lasts.tp (1 : Nat))).gen + 0 <= 1
    rw [w4];have := (x9t q).2;rw [hs] at this;have this : (aJ (d.lasts.tp (1 : Nat))).gen = 0 := this;omega
 ·have ho : Em.bZ d (aP (λ k => aJ (d.stand.tp k)) 2) = _ := Iw q
  have hg := EA hl q;obtain ⟨k, hk, e, hb⟩ := x9s q;rw [e] at ho hg q;rw [e, ho] at h0;rw [e, ho];have q : (aJ (d.stand.tp k)).gen ≠ 0 := q;have h0 : (Em.mended d k (aJ (d.stand.tp k)).fin).2 = 0 := h0;obtain ⟨k1, k2, k3, k4, k5⟩ := xZ (d.stand.tp k);obtain ⟨m1, m2, m3, m4⟩ := x2r h hw hk k4 h0;obtain ⟨r1, r2⟩ := y7c q;rw [<-hs] at m3;refine ⟨yB hg _, r1.tidy, rfl, m1, ⟨_, ?_, rfl⟩, ?_, ?_, Iy m2⟩
  ·show kM ((Em.mended d k (aJ (d.stand.tp k)).fin).1.lasts.tp k) _ _ _
   rw [m3];exact r1
  ·show (aJ (d.stand.tp k)).fin = ((Em.mended d k (aJ (d.stand.tp k)).fin).1.lasts.tp k).length
   rw [m3, r2]
  ·show (aJ ((Em.mended d k (aJ (d.stand.tp k)).fin).1.lasts.tp (1 - k : Nat))).gen + k <= (aJ (d.stand.tp k)).gen
   rw [m4 _ GR, <-hs];exact hb
theorem jq.stands {e : E} (h : jq e) : ∃ D1, aP (λ k => aJ (e.d.stand.tp k)) 2 = (e.tp, ⟨e.gen, D1, e.aL, e.fin⟩) /\ tell D1 = tell e.rows /\ bI D1 /\ Tidy D1 /\ Maps.size D1 <= 256 /\ (e.d.stand.tp e.tp).length = e.fin := by
 obtain ⟨D1, r, hR⟩ := h.live;have htp := h.good.tp;have hg := r.g0;have h1 : e.d.stand.tp e.tp = e.d.lasts.tp e.tp /\ (e.d.stand.tp (1 - e.tp : Nat) = e.d.lasts.tp (1 - e.tp : Nat) \/ e.d.stand.tp (1 - e.tp : Nat) = []) := by
  unfold D.stand;rcases h.waits with hw | hw
  ·rw [hw]; exact ⟨rfl, Iy rfl⟩
  ·rw [hw]
   have hne : (e.tp : Int) ≠ ((1 - e.tp : Nat) : Int) := GR;exact ⟨by simp [St.done, upd, hne], Iz (by simp [St.done, upd])⟩
 obtain ⟨s1, s2⟩ := h1;have ht : aJ (e.d.stand.tp e.tp) = ⟨e.gen, D1, e.aL, e.fin⟩ := by rw [s1, mU r, h.fin]
 refine ⟨D1, ?_, hR, r.rows, r.tidy, r.size, by rw [s1, h.fin]⟩;rw [y1k (ts := λ k => aJ (e.d.stand.tp k)) (t := e.tp) htp ?_ ?_]
 ·show (e.tp, aJ (e.d.stand.tp e.tp)) = _
  rw [ht]
 ·show (aJ (e.d.stand.tp (1 - e.tp : Nat))).gen + e.tp <= (aJ (e.d.stand.tp e.tp)).gen
  rw [ht];rcases s2 with s2 | s2
  ·rw [s2]; exact h.old
  ·rw [s2, AO]
   have z : Em.T.none.gen = 0 := rfl;show Em.T.none.gen + e.tp <= e.gen;omega
 ·show 0 < (aJ (e.d.stand.tp e.tp)).gen
  rw [ht];exact hg
structure nM (e : E) : Prop where
 good : e.good
 tidy : Tidy e.rows
 sound : e.gone = false -> jq e
 after : ∀ c, (aP (λ k => aJ ((e.d.aT c).stand.tp k)) 2).2.gen ≠ 0
theorem jq.gF {e : E} (h : jq e) : nM e := ⟨h.good, h.tidy, λ _ => h, λ c => (h.tells c).1⟩
theorem nM.bE {e : E} (h : nM e) (l : List ay) : nM (e.bE l).1 := by
 by_cases hg : e.gone = true
 ·have hc : (e.bE l).1 = e := by
   unfold E.bE;by_cases q : aW e.rows l ≠ 0
   ·rw [IA q]
   ·rw [Iw q, IA hg]
  rw [hc];exact h
 ·have hs := h.sound (by simpa using hg)
  obtain ⟨a1, a2⟩ := x8v (l := l) hs;by_cases q : (e.bE l).2 = 281
  ·obtain ⟨b1, b2, b3⟩ := a2 q
   have hr := x7d e l;refine ⟨x8z h.good, ?_, λ hn => (by rw [b1] at hn; cases hn), λ c => ?_⟩
   ·rw [hr.1, Iw (by rw [q]; decide)]
    exact h.tidy
   ·rcases b3 c with b | b
    ·exact b.1
    ·exact b.1
  ·exact (a1 q).gF
theorem nM.stop {e : E} (h : nM e) (n : Int) : nM { e with d := (e.d.stop n).1 } := by
 have hc : ∀ c, (e.d.stop n).1.aT c = e.d.aT c := by
  intro c;unfold D.stop;exact Rv
 refine ⟨yB h.good _, h.tidy, λ hg => ?_, λ c => ?_⟩
 ·have hs := h.sound hg
  by_cases hn : n < 0
  ·have e1 : (e.d.stop n).1 = e.d := by unfold D.stop; rw [IA hn]
   rw [e1];exact hs
  ·obtain ⟨e1, e2⟩ := hs.stop (n := n) GR
   rw [e1];exact e2
 ·show (aP (λ k => aJ (((e.d.stop n).1.aT c).stand.tp k)) 2).2.gen ≠ 0
  rw [hc c];exact h.after c
theorem nM.aT {e : E} (h : nM e) (c : bH) (hl : ∀ k : Nat, k <= 1 -> ((e.d.aT c).stand.tp k).length <= 1000000) :
 (Em.bZ (e.d.aT c) (aP (λ k => aJ ((e.d.aT c).stand.tp k)) 2)).2 = 0 /\ nM (Em.bZ (e.d.aT c) (aP (λ k => aJ ((e.d.aT c).stand.tp k)) 2)).1 := by
 have h0 := (x1u (d := e.d.aT c) (R := tell (aP (λ k => aJ ((e.d.aT c).stand.tp k)) 2).2.rows) rfl rfl ⟨h.after c, rfl⟩).1;exact ⟨h0, (z7d (d := e.d.aT c) rfl rfl hl h0).gF⟩
section
open Go.RowKit
attribute [local go_sem] Oper.semAt_some
theorem BM {c : Em.ay} (h : c.key.length <= 1000 /\ c.value.length <= 5000) : (Em.laid c).length <= 6100 := by
 have h1 := jf c.key;have h2 := jf c.value;unfold Em.laid;rw [IL, IL];have h3 : (Wm.je c.gone).length = 1 := rfl;split
 ·simp only [Jy]; omega
 ·omega
theorem z8h : ∀ {l : List Em.ay}, (∀ c ∈ l, c.key.length <= 1000 /\ c.value.length <= 5000) -> (l.flatMap Em.laid).length <= 6100 * l.length
 | [], _ => GV
 | r :: R, h => by
  have h1 := BM (h r (Jp ..));have h2 := z8h (l := R) (λ x hx => h x (JB _ hx));rw [J9, IL, I6];omega
theorem x0g {l : List Em.ay} (h : dJ w F v l) (hl : l.length <= 1000) (hk : ∀ c ∈ l, c.key.length <= 1000 /\ c.value.length <= 5000) :
 Calls prog 92 #[v] w (gT w (Em.dQ l)) := by
 obtain ⟨ra, rc, e1⟩ := h.slice;subst e1;have HV := hd2 h hk;clear h hk;have W1 := kQ 3;have W2 := kQ l.length;have HW := hd1 (show Em.dQ l = Wm.aG 3 ++ Wm.aG l.length ++ l.flatMap Em.laid from rfl);generalize hN : l.length = N at *;have HN := hd1 hN;clear hN;obtain ⟨H, hH⟩ := G5 (Wm.aG 3 ++ Wm.aG N);have HL : H.length <= 100 := by
  rw [<-hH, IL];omega
 have HH := hd1 hH;clear hH;go_in
 go_upto_region 2 with (first
  | (go_at_call 89; refine (Ff 3 w GU).mono ?_; rintro e w1 ⟨v1, rfl, o1, b1⟩; have H1 := hd2 o1 b1; clear o1 b1)
  | (go_at_call 89; refine (A7 (w := w1) (base := w.heap.size) (n := N) H1.2.size H1.1 GR GR).mono ?_; rintro e w2 ⟨v2, rfl, o2, b2⟩; have H2 := hd2 o2 (H1.2.trans b2); clear o2 b2))
 rw [HH.out] at H2;clear H1;go_wp2;go_loopw [3, 4] (λ x s wr => ∃ i : Nat, i <= N /\ s = .int .i64 (i : Int) /\ bY wr w.heap.size x (H ++ (l.take i).flatMap Em.laid) /\ Below w w wr) (λ _ s _ => N - (intOf s).toNat)
 case atStart => exact ⟨0, IV _, rfl, by simpa using H2.1, H2.2⟩
 case round =>
  obtain ⟨i, hi, rfl, hown, hb⟩ := hrel;obtain ⟨xa, xn, xc, e1⟩ := hown.at.slice3;subst e1;by_cases hlt : i < N
  ·have i0 : (0 : Int) <= (i : Int) := GR
   have i1 : (i : Int) < (N : Int) := GR;obtain ⟨c, hr⟩ : ∃ c, l[i]? = some c := ⟨_, IR Nk⟩;have hk := HV.2 c (Jb hr);obtain ⟨b, o, rfl, _, lb, rg⟩ := HV.1.at hr;have y0 : ∀ y : Wd (Below w w), y.world.cell? (b, o + i * 3) = some (ag c.key) := λ y => (y.ok.cell (p := ⟨b, o + i * 3, none⟩) lb).trans (rg 0 _ rfl);have y2 : ∀ y : Wd (Below w w), y.world.cell? (b, o + i * 3 + 2) = some (.bool c.gone) := λ y => (y.ok.cell (p := ⟨b, o + i * 3 + 2, none⟩) lb).trans (rg 2 _ rfl);have g1 : ∀ W, Below w w W -> W.cell? (b, o + i * 3 + 1) = some (ag c.value) := λ W hb => (hb.cell (p := ⟨b, o + i * 3 + 1, none⟩) lb).trans (rg 1 _ rfl);have g2 : ∀ W, Below w w W -> W.cell? (b, o + i * 3 + 2) = some (.bool c.gone) := λ W hb => (hb.cell (p := ⟨b, o + i * 3 + 2, none⟩) lb).trans (rg 2 _ rfl);have ne : Nonempty (Wd (Below w w)) := ⟨⟨_, Below.refl _ _⟩⟩;have hl' : (H ++ (l.take i).flatMap Em.laid).length <= 7000000 := by
    rw [IL];have h1 := z8h (l := l.take i) (λ x hx => HV.2 x (Ma hx));exact RI
   have hn : H ++ (l.take (i + 1)).flatMap Em.laid = (H ++ (l.take i).flatMap Em.laid) ++ Em.laid c := by
    rw [JC, hr, LW, <-IZ];simp
   have l1 := jf c.key;have l2 := jf c.value;have D := hb.drew;have HO := hd3 hown hb hn;have HG := hd2 g1 g2;obtain ⟨L, hL⟩ := G5 (H ++ (l.take i).flatMap Em.laid);rw [hL] at HO hl';clear hown rg hr hn hb g1 g2 hL;go_upto_region 5 with fail
   refine bC (λ w' => ∃ x : Wd (Below w w), w' = x.world) [14] GQ ?_;refine aI [0, 1, 2, 3, 4, 5, 8, 9, 10, 11, 12] 4 _ ⟨⟨_, D⟩, rfl⟩ GQ ?_;simp only [fmc, fmn, gta, gcs, gcz];iterate 11 (with_reducible refine ak (λ K hK => ?_); simp only [au, ah]; go_simp; refine hK _ ?_; clear hK K)
   with_reducible refine aA ?_
   refine az 6 3 _ _ rfl GQ ?_;refine IE rfl λ K hK => ?_;go_simp;refine (y7f c.gone wr.drew).mono ?_;rintro e w1 ⟨v1, rfl, o1, b1⟩;have b1 : Below wr wr w1 := GY.drew.trans b1;have B1 : Below w w w1 := HO.2.1.trans (b1.mono HO.2.1.size);refine hK _ _ (IB ⟨rfl, λ _ => ⟨⟨_, B1⟩, rfl⟩, ?_⟩);clear hK K;refine az 7 2 _ _ rfl GQ ?_;refine dS rfl (.tmp 15) (.tmp 21) rfl w.heap.size w.heap.size w B1 GZ _ L rfl (bi HO.1 b1 GZ) _ (Wm.je c.gone) _ rfl o1.at (by have : (Wm.je c.gone).length = 1 := rfl; omega) B1.size ?_;intro v2 w2 o2 B2 _;have O2 := o2.out;clear o2 o1;refine IB ⟨rfl, λ _ => ⟨⟨_, B2⟩, rfl⟩, ?_⟩;obtain ⟨x2a, x2n, x2c, e2⟩ := O2.at.slice3;subst e2;refine az 13 1 _ _ rfl GQ ?_;refine IE rfl λ K hK => ?_;go_simp;refine (AJ B2.size O2 (by rw [IL]; have : (Wm.je c.gone).length = 1 := rfl; omega) GR).mono ?_;rintro e w3 ⟨v3, rfl, o3, b3⟩;have B3 : Below w w w3 := B2.trans b3;obtain ⟨x3a, x3n, x3c, e3⟩ := o3.at.slice3;subst e3;have O3 := hd2 o3 B3;refine hK _ _ (IB ⟨rfl, λ _ => ⟨⟨_, B3⟩, rfl⟩, ?_⟩);clear hK K;refine eY [14] 0 _ GQ ?_;refine G9 ?_;refine ⟨GQ, ?_⟩;clear B1 B2 O2 b1 b3 D y0 y2 ne o3;have k2 := HG.2 _ B3;have k1 := HG.1 _ B3;clear B3;cases hg : c.gone
   ·rw [hg] at k2 O3
    have hlc : Em.laid c = Wm.je false ++ Wm.cB c.key ++ Wm.cB c.value := by unfold Em.laid; rw [hg]; rfl
    have HC := hd1 hlc;clear hlc hg;go_wp2_with (go_at_call 90; refine (AJ O3.2.size O3.1 (by rw [IL, IL]; have : (Wm.je false).length = 1 := rfl; omega) GR).mono ?_; rintro e w4 ⟨v4, rfl, o4, b4⟩; have H4 := hd2 o4 (O3.2.trans b4); clear o4 b4)
    go_roundw;case rel => exact ⟨i + 1, GR, by go_num, by rw [HO.2.2, HC.out, <-IZ, <-IZ]; exact H4.1, H4.2⟩
    case measure => simp [intOf]; omega
   ·rw [hg] at k2 O3
    have hlc : Em.laid c = Wm.je true ++ Wm.cB c.key := by unfold Em.laid; rw [hg]; simp
    have HC := hd1 hlc;clear hlc hg;go_wp2;go_roundw;case rel => exact ⟨i + 1, GR, by go_num, by rw [HO.2.2, HC.out, <-IZ]; exact O3.1, O3.2⟩
    case measure => simp [intOf]; omega
  ·exact PL
end
open Go.RowKit
theorem sU {e : Em.E} (x : bO w pl pd md e F) : bO w pl pd md e (λ k => F k /\ k < w.heap.size) := by
 obtain ⟨l1, l2, l3, l4, l5⟩ := x.disk.lt;exact ⟨x.good, x.disk.weak (λ k hk hl => ⟨hk, hl⟩) (λ h => l4 h.1) (λ h => l5 h.1), x.row, x.ne.1, x.ne.2.1, λ h => x.ne.2.2 h.1⟩
theorem lZ {e : Em.E} (x : bO w pl pd md e F) (hm : Moves O w w') (h1 : ¬ O pl) (h2 : ¬ O pd) (h3 : ¬ O md) (h4 : ∀ k, F k -> ¬ O k)
 (h5 : ∀ k, O k -> k < w.heap.size -> ∃ c t fr, w.heap[k]? = some (.cells c t fr)) : bO w' pl pd md e F := by
 obtain ⟨m, row, rows, hne⟩ := x.row;have lm := rows.lt;obtain ⟨l1, l2, _, _, _⟩ := x.disk.lt;have hO : ¬ O m := by
  intro h;obtain ⟨c, t, fr, hc⟩ := h5 m h lm;obtain ⟨es, clock, k1, _⟩ := rows;rw [k1] at hc;cases hc
 refine ⟨x.good, x.disk.keeps (hm.block pd l1 h2) (hm.block md l2 h3) (λ k hk hl => hm.block k hl (h4 k hk)) (λ _ h _ => h) (λ _ h => Iy h), ⟨m, (hm.block pl (aa row) h1).trans row, ?_, hne⟩, x.ne⟩;obtain ⟨es, clock, k1, G, hs, hD⟩ := rows;exact ⟨es, clock, (hm.block m lm hO).trans k1, G, hs, hD⟩
theorem mE (hb : Below w0 w0 A) (hm : Moves O A B) (hO : ∀ k, O k -> w0.heap.size <= k) : Below w0 w0 B :=
 ⟨hm.os.trans hb.os, hm.tape.trans hb.tape, hm.output.trans hb.output, IP hb.size hm.size, λ k hk => (hm.block k (Jc hk hb.size) (λ h => Hf (hO k h))).trans (hb.block k hk)⟩
theorem z8t {k : Nat} {o : Obj} (h : w.heap[k]? = some o) : k < w.heap.size := (Jf.1 h).1
theorem x7a {e : E} {l : List ay} (h : aW e.rows l ≠ 0) : e.bE l = (e, aW e.rows l) := IA h
theorem x7h {e : E} {l : List ay} (h : aW e.rows l = 0) (hg : e.gone = true) : e.bE l = (e, 290) := by
 unfold E.bE;rw [Iw GR, IA hg]
theorem z1i {e : E} {l : List ay} (h : aW e.rows l = 0) (hg : e.gone = false) :
 e.bE l = ({ (e.step (behind e.rows l) (aY l)).1 with gone := decide ((e.step (behind e.rows l) (aY l)).2 = 281) }, (e.step (behind e.rows l) (aY l)).2) := by
 unfold E.bE;rw [Iw GR, Iw (by rw [hg]; decide)]
structure Made (e : E) (l : List ay) (d : D) (gone : Bool) (c : Int) : Prop where
 disk : (e.bE l).1.d = d
 lost : (e.bE l).1.gone = gone
 err : (e.bE l).2 = c
 kept : gone = true -> (e.bE l).1.rows = e.rows /\ (e.bE l).1.gen = e.gen
theorem Gs {e : E} {l : List ay} (h : aW e.rows l = 0) (hg : e.gone = false) (hq : ¬ (32 <= e.aL \/ (aY l).length = 0 \/ e.d.room / 2 < e.fin + (aY l).length)) {r : D × Int} (hr : wrote e.d e.tp (aY l) = r) (hc : r.2 = 0 \/ r.2 = 281) :
 Made e l r.1 (decide (r.2 = 281)) r.2 := by
 have hp := sM (D := behind e.rows l) hq;rw [hr] at hp;have hs : e.step (behind e.rows l) (aY l) = e.put (behind e.rows l) (aY l) := by
  unfold E.step;rw [Iw];rw [hp];show ¬ r.2 = 280;omega
 have hl := z1i h hg;rw [hs, hp] at hl;refine ⟨by rw [hl], by rw [hl], by rw [hl], λ h2 => ?_⟩;have h2 : r.2 = 281 := by simpa using h2
 rw [hl];refine ⟨?_, rfl⟩;show (if r.2 = 0 then Em.behind e.rows l else e.rows) = e.rows;rw [h2];exact Iw GU
theorem z4p {e : E} {l : List ay} (hq : (32 <= e.aL \/ (aY l).length = 0 \/ e.d.room / 2 < e.fin + (aY l).length) \/ wrote e.d e.tp (aY l) = (e.d, 280)) (D : Em.Rows) : e.step D (aY l) = e.fold D := by
 unfold E.step;rcases Classical.em (32 <= e.aL \/ (aY l).length = 0 \/ e.d.room / 2 < e.fin + (aY l).length) with q | q
 ·rw [Bq q, IA rfl]
 ·have hw := hq.resolve_left q
  have hp := sM (D := D) q;rw [hw] at hp;have hp : e.put D (aY l) = (e, 280) := hp;rw [hp, IA rfl]
theorem yD {e : E} {l : List ay} (h : aW e.rows l = 0) (hg : e.gone = false) (hq : (32 <= e.aL \/ (aY l).length = 0 \/ e.d.room / 2 < e.fin + (aY l).length) \/ wrote e.d e.tp (aY l) = (e.d, 280)) (hm : ¬ 2147483647 <= e.gen)
 {r : D × Int} (hr : bK e.d (1 - e.tp) (folded (e.gen + 1) (behind e.rows l)) = r) : Made e l r.1 (decide (r.2 = 281)) r.2 := by
 have hl := z1i h hg;rw [z4p hq, wu hm, hr] at hl;by_cases q : r.2 = 0
 ·rw [IA q] at hl
  exact ⟨by rw [hl], by rw [hl], by rw [hl], λ h2 => by simp [q] at h2⟩
 ·rw [Iw q] at hl
  exact ⟨by rw [hl], by rw [hl], by rw [hl], λ h2 => by rw [hl]; exact ⟨rfl, rfl⟩⟩
section
attribute [local go_sem] Oper.semAt_some
theorem y4x {α : Type} {P : Program} {g : Operand} {r s : Nat} {assign body : Code} {Q : Exit -> Act -> World -> Prop} {a : Act}
 {gf : Nat} {lb : Array Value} (hg : a.eval g = .func (.func gf) #[] lb) (eg : ∀ args w, (callFunc gf args).run P w = .ok (.enter gf args) w)
 {u v : α -> Value} {xs : List α} {R : Nat -> Prop} (hseq : Iter P gf lb (λ x => #[u x, v x]) xs R w0) (hR : ∀ i, R i -> i < w.heap.size) (hb0 : Below w0 w0 w)
 (I : Nat -> (Nat -> Prop) -> World -> Prop) (Ix : Nat -> (Nat -> Prop) -> World -> Prop) (hI : Stable I) (hIx : Stable Ix)
 (kY : ∀ k O (r : Loop) (o : Obj) W, W.heap[w.heap.size + 1]? = some (.loop r) -> I k O W -> I k O (W.putObj (w.heap.size + 1) o))
 (nD : ∀ k O (r : Loop) (o : Obj) W, W.heap[w.heap.size + 1]? = some (.loop r) -> Ix k O W -> Ix k O (W.putObj (w.heap.size + 1) o))
 (h0 : ∀ W, Below w w W -> W.heap.size = w.heap.size + 2 -> I 0 (λ _ => False) W)
 (hassign : ∀ (x : α) (l : Nat) (W : World), assign.wpIn (Fence.wide.inRound l) 0 P (Exit.then (λ a' W' => a' = { tmps := (((a.tmps.setIfInBounds p (u x)).setIfInBounds q (v x)).setIfInBounds r (u x)).setIfInBounds s (v x), defers := [] } /\ W' = W) (λ _ _ _ => False))
  { tmps := (a.tmps.setIfInBounds p (u x)).setIfInBounds q (v x), defers := [] } W)
 (hbody : ∀ (k : Nat) (x : α) (O : Nat -> Prop) (W : World), xs[k]? = some x -> ¬ O (w.heap.size + 1) -> ¬ O w.heap.size -> I k O W ->
  body.wpIn (Fence.wide.inRound (w.heap.size + 1)) 0 P (z0z (λ i => O i \/ R i \/ i = w.heap.size + 1 \/ i = w.heap.size) I (λ c k O W => c = .ret /\ Ix k O W) xs k O W)
   { tmps := (((a.tmps.setIfInBounds p (u x)).setIfInBounds q (v x)).setIfInBounds r (u x)).setIfInBounds s (v x), defers := [] } W)
 (hdone : ∀ (O : Nat -> Prop) (W : World), I xs.length O W -> ¬ O w.heap.size -> W.heap[w.heap.size]? = some (.deferred (some [])) -> Q .normal { a with defers := { target := .collected w.heap.size, args := #[] } :: a.defers } W)
 (hstop : ∀ (k : Nat) (O : Nat -> Prop) (W : World), k <= xs.length -> Ix k O W -> ¬ O w.heap.size -> W.heap[w.heap.size]? = some (.deferred (some [])) -> Code.ret.wpIn Fence.wide 0 P Q { a with defers := { target := .collected w.heap.size, args := #[] } :: a.defers } W) :
 (Code.rangeFunc g #[p, q] assign body).wpIn Fence.wide 0 P Q a w := by
 have hz : ∀ x, (#[p, q].zip #[u x, v x]).foldl (λ t (x : Nat × Value) => t.setIfInBounds x.1 x.2) a.tmps = (a.tmps.setIfInBounds p (u x)).setIfInBounds q (v x) := λ x => GV
 refine z2g hg eg hseq hR hb0 (λ _ => rfl) I (λ c k O W => c = .ret /\ Ix k O W) hI (λ c k O O' A B h hm h1 h2 => ⟨h.1, hIx k O O' A B h.2 hm h1 h2⟩) kY (λ c k O r o W h hx => ⟨hx.1, nD k O r o W h hx.2⟩) h0
  (λ x a' _ => a' = { tmps := (((a.tmps.setIfInBounds p (u x)).setIfInBounds q (v x)).setIfInBounds r (u x)).setIfInBounds s (v x), defers := [] }) (λ x a' W l r o _ h => h) ?_ ?_ ?_ ?_
 ·intro k x O W hx hi _ _ _
  have := hassign x (w.heap.size + 1) W;rw [<-hz x] at this;refine KR this (λ e a' W' he => ?_);cases e with
  | normal =>
   obtain ⟨rfl, rfl⟩ := he;exact ⟨hi, dm.refl _ _, by rw [hz x]⟩
  | ret => exact he
  | exit id => exact he
  | goto t => exact he
  | panic ch => exact he
  | outgrown => exact he
 ·rintro k x O a' W hx _ _ h1 h2 hi rfl
  exact hbody k x O W hx h1 h2 hi
 ·exact hdone
 ·rintro c k O W hk ⟨rfl, hx⟩ ho hD
  exact hstop k O W hk hx ho hD
def nK (W8 : World) (q4 q5 : Nat) (S : Nat -> Int -> Prop) (k : Nat) (O : Nat -> Prop) (W : World) : Prop :=
 Moves (λ i => i = q4 \/ i = q5) W8 W /\ W.heap[q4]? = some (.cells #[.bool false] 4 (0, 0)) /\ (∃ n : Int, W.heap[q5]? = some (.cells #[.int .i64 n] 3 (0, 0)) /\ S k n) /\ ∀ i, O i -> W8.heap.size <= i
theorem z5z {W8 : World} {q4 q5 : Nat} {S : Nat -> Int -> Prop} (h4 : q4 < W8.heap.size) (h5 : q5 < W8.heap.size) : Stable (nK W8 q4 q5 S) := by
 rintro k O O' A B ⟨h1, h2, ⟨n, h3, hS⟩, ho⟩ hm ho1 ho2;refine ⟨h1.trans hm (λ i hi h => absurd (ho i h) GR), (hm.block q4 (aa h2) (λ h => absurd (ho q4 h) GR)).trans h2, ⟨n, (hm.block q5 (aa h3) (λ h => absurd (ho q5 h) GR)).trans h3, hS⟩, λ i hi => ?_⟩;rcases ho2 i hi with h | h
 ·exact ho i h
 ·exact IP h1.size h
theorem z5y {W8 : World} {q4 q5 : Nat} {S : Nat -> Int -> Prop} (h4 : q4 < W8.heap.size) (h5 : q5 < W8.heap.size) (k : Nat) (O : Nat -> Prop) (o : Obj) (W : World) (h : nK W8 q4 q5 S k O W) : nK W8 q4 q5 S k O (W.putObj (W8.heap.size + 1) o) := by
 obtain ⟨h1, h2, ⟨n, h3, hS⟩, ho⟩ := h;exact ⟨h1.trans (vQ (l := W8.heap.size + 1) o) (λ i hi h => GR), (Jd GR).trans h2, ⟨n, (Jd GR).trans h3, hS⟩, ho⟩
theorem y7t {W8 : World} {q4 q5 : Nat} {S : Nat -> Int -> Prop} (r4 : W8.heap[q4]? = some (.cells #[false] 4)) (r5 : W8.heap[q5]? = some (.cells #[.int .i64 0] 3)) (h0 : S 0 0) (W : World) (hb : Below W8 W8 W) : nK W8 q4 q5 S 0 (λ _ => False) W :=
 ⟨Moves.of_below hb, (hb.block q4 (aa r4)).trans r4, ⟨0, (hb.block q5 (aa r5)).trans r5, h0⟩, λ i h => h.elim⟩
theorem nK.row {W8 : World} {q4 q5 k : Nat} {S : Nat -> Int -> Prop} (h : nK W8 q4 q5 S k O W) {b : Nat} {o : Obj} (r : W8.heap[b]? = some o) (h4 : b ≠ q4) (h5 : b ≠ q5) : W.heap[b]? = some o :=
 (h.1.block b (z8t r) (λ e => by rcases e with e | e; exact h4 e; exact h5 e)).trans r
theorem Fa {q4 D : Nat} {r b : Bool} {tmps : Array Value} (hb : Below w w W) (hq : w.heap.size <= q4) (r4 : W.heap[q4]? = some (.cells #[.bool r] 4))
 (hd : W.heap[D]? = some (.deferred (some []))) (hD : w.heap.size <= D) (ht : tmps.getD 4 undef = .pointer (some q4)) (hr : r = b) :
 LeavesInM Fence.wide 0 prog Tryz.f18 tmps (λ e w' => e = .returned (.bool b) /\ Below w w w') [{ target := .collected D, args := #[] }] .returning W := by
 subst hr;have hne : q4 ≠ D := λ e => by subst e; rw [r4] at hd; cases hd
 refine vW hd (z6m rfl _ _ ⟨q4, 0, none⟩ (.bool r) ht ?_ GQ) ⟨rfl, ?_⟩
 ·exact ae ((Jd hne).trans r4) rfl
 ·exact mE hb (vQ (l := D) _) (λ k hk => GR)
theorem y8o {e : Em.E} {R : Em.bB} (x : bO w pl pd md e F) (h : dx w G v R) (hR : R.length <= 100000) :
 Calls prog 18 #[pl, v] w λ en w' => en = .returned (.bool (decide (Em.tell e.rows = R))) /\ Below w w w' := by
 obtain ⟨ra, rc, rfl⟩ := h.slice;obtain ⟨KF, hKF, x⟩ : ∃ KF : Nat -> Prop, (∀ k, KF k -> k < w.heap.size) /\ bO w pl pd md e KF := ⟨_, λ k h => h.2, sU x⟩;generalize hN : R.length = N at *;obtain ⟨W4, fq⟩ := G5 ((((w.alloc (.cells #[.pointer (some ⟨pl, 0, none⟩)] mQ)).alloc (.cells #[.slice ra N rc] xP)).alloc (.cells #[false] 4)).alloc (.cells #[.int .i64 0] 3));have B4 : Below w w W4 := by rw [<-fq]; exact ((((bla).alloc GV _).alloc NM _).alloc NM _)
 have s4 : W4.heap.size = w.heap.size + 4 := by rw [<-fq]; simp
 have r2 : W4.heap[w.heap.size]? = some (.cells #[pl] mQ) := by rw [<-fq]; exact aM NM (aM NM (aM GV (IC w _)))
 have r3 : W4.heap[w.heap.size + 1]? = some (.cells #[.slice ra N rc] xP) := by rw [<-fq]; exact aM NM (aM NM (bD (w := w.alloc _) _ GV))
 have r4 : W4.heap[w.heap.size + 2]? = some (.cells #[false] 4) := by rw [<-fq]; exact aM GV (bD (w := (w.alloc _).alloc _) _ GV)
 have r5 : W4.heap[w.heap.size + 3]? = some (.cells #[.int .i64 0] 3) := by rw [<-fq]; exact bD (w := ((w.alloc _).alloc _).alloc _) _ GV
 have k2 := ae r2 (j := 0) rfl;have lx := x.disk.lt;have lp := aa x.row.choose_spec.1;have x4 : bO W4 pl pd md e KF := lZ x (Moves.of_below (O := λ _ => False) B4) (λ h => h) (λ h => h) (λ h => h) (λ _ _ h => h) (λ _ h => h.elim);have A1 := hd1 (y1a x4);have HX := hd7 x4 lx lp h hR hN hKF;have H4 := hd6 B4 s4 r2 r3 r4 r5;have g_ := hd1 fq;clear x x4 lx lp h hR hN hKF B4 s4 r2 r3 r4 r5 fq;have hfe := @x6z _ _ _ _ underlying48;refine (Jg (n := 0)).1 ?_;refine Mf func18 rfl trivial ?_ rfl;simp only [ntmps18, KE, I6, Jy, Nat.reduceAdd, Nat.reduceSub, J_, Ka, Kb, Kc, Ji, JK];refine wpIn_wide.2 ?_;go_upto_region 2 with fail
 rw [g_.out];go_upto_region 4 with (go_at_call 15; refine A1.mono ?_; rintro en w5 ⟨m1, rfl, h5, _⟩)
 have B5 : Below W4 W4 w5 := by rw [<-h5]; exact bla
 have k2' := aN B5 k2;have x5 : bO w5 pl pd md e KF := lZ HX.1 (Moves.of_below (O := λ _ => False) B5) (λ h => h) (λ h => h) (λ h => h) (λ _ _ h => h) (λ _ h => h.elim);have A2 := hd1 (y1a x5);have H5 := hd2 B5 x5;clear B5 x5 h5 k2;go_wp2_with (go_at_call 15; refine A2.mono ?_; rintro en w6 ⟨m, rfl, h6, rm, hm⟩)
 have B6 : Below w5 w5 w6 := by rw [<-h6]; exact bla
 have g6 : w6.heap[w5.heap.size]? = some (.cells #[.map (some m)] jM) := by rw [<-h6]; exact IC _ _
 have x6 : bO w6 pl pd md e KF := lZ H5.2 (Moves.of_below (O := λ _ => False) B6) (λ h => h) (λ h => h) (λ h => h) (λ _ _ h => h) (λ _ h => h.elim);have b6 : Below W4 W4 w6 := H5.1.trans (B6.mono H5.1.size);have ok := x6.good.rows;have IT := hd1 (w0m (w := w6) (ae g6 rfl) (dZ rm B6 rm.lt) x6.good.few ok);have LR : ∀ i, i = m \/ i = w5.heap.size -> i < w6.heap.size := by
  rintro i (rfl | rfl)
  ·exact Jc rm.lt B6.size
  ·exact aa g6
 obtain ⟨g, hg⟩ := G5 w5.heap.size;rw [hg] at IT LR ⊢;obtain ⟨T, hT⟩ := G5 (Em.tell e.rows);rw [hT] at IT;have TL : T.length = Maps.size e.rows := by rw [<-hT]; exact Em.oW _
 have w2u : T.length <= 256 := by rw [TL]; exact x6.good.few
 have s6 : w.heap.size + 4 <= w6.heap.size := Hg b6.size H4.2.1;have q4 : w6.heap[w.heap.size + 2]? = _ := (b6.block _ (aa H4.2.2.2.2.1)).trans H4.2.2.2.2.1;have q5 : w6.heap[w.heap.size + 3]? = _ := (b6.block _ (aa H4.2.2.2.2.2)).trans H4.2.2.2.2.2;have l4 := aa q4;have l5 := aa q5
 have KEEP := hd1 (show ∀ (S : Nat -> Int -> Prop) (k : Nat) (O : Nat -> Prop) (W : World), nK w6 (w.heap.size + 2) (w.heap.size + 3) S k O W -> bO W pl pd md e KF /\ Below w w W ∧
  W.cell? w.heap.size = some (.pointer (some ⟨pl, 0, none⟩)) /\ W.cell? (w.heap.size + 1, 0) = some (.slice ra N rc) /\ dx W (λ k => G k /\ k < w.heap.size) (.slice ra N rc) R from λ S k O W hi => by
  have B46 : Below w w W := mE (H4.1.trans (b6.mono H4.1.size)) hi.1 (λ k hk => GR);refine ⟨lZ x6 hi.1 (λ h => Hf HX.2.2.1) (λ h => Hf HX.2.1) (λ h => Hf HX.2.1) (λ k hk h => Hf (HX.2.2.2.2.2.2 k hk)) (λ k hk _ => ?_), B46, ?_, ?_, ?_⟩
  ·rcases hk with rfl | rfl
   ·exact ⟨_, _, _, q4⟩
   ·exact ⟨_, _, _, q5⟩
  ·exact ae (hi.row ((b6.block _ (aa H4.2.2.1)).trans H4.2.2.1) GR GR) rfl
  ·exact ae (hi.row ((b6.block _ (aa H4.2.2.2.1)).trans H4.2.2.2.1) GR GR) rfl
  ·exact (HX.2.2.2.1.weak (λ b hb hl => ⟨hb, hl⟩)).later B46)
 have GM := hd1 (show m ≠ w.heap.size + 2 /\ g ≠ w.heap.size + 2 /\ m ≠ w.heap.size + 3 /\ g ≠ w.heap.size + 3 from by
  obtain ⟨es, clock, k1, _⟩ := dZ rm B6 rm.lt;have := H5.1.size;have := H4.2.1;refine ⟨λ h => ?_, GR, λ h => ?_, GR⟩
  ·rw [h, q4] at k1; cases k1
  ·rw [h, q5] at k1; cases k1)
 have H6 := hd6 b6 ok hT TL q4 q5;clear B6 g6 x6 b6 ok rm hm h6 q4 q5 hg hT TL k2';refine (wpIn_wide (n := 0)).1 ?_
 refine y4x (r := 6) (s := 7) (u := λ (x : Em.Bytes × Em.Bytes) => ag x.1) (v := λ (x : Em.Bytes × Em.Bytes) => ag x.2) (gf := 43) (lb := #[.pointer (some ⟨g, 0, none⟩)]) rfl (enters_of func43 GQ rfl) IT.out
  LR GY (nK w6 (w.heap.size + 2) (w.heap.size + 3) (λ k n => n = (k : Int) /\ Em.Alike T R k)) (nK w6 (w.heap.size + 2) (w.heap.size + 3) (λ _ _ => T ≠ R)) (z5z l4 l5) (z5z l4 l5) (λ k O r o W _ h => z5y l4 l5 k O o W h) (λ k O r o W _ h => z5y l4 l5 k O o W h)
  (λ W hb _ => y7t H6.2.2.2.2.1 H6.2.2.2.2.2 ⟨rfl, Em.w0k _ _⟩ W hb) ?assign ?body ?done ?stop
 case assign =>
  intro x l W;simp only [LM, LP, LQ];gi_wp2;exact ⟨trivial, trivial⟩
 case body =>
  rintro k ⟨x1, x2⟩ O W hx ho1 ho2 hi;simp only [LM, LP, LQ];obtain ⟨xW, bW, c2, c3, pW⟩ := KEEP.out _ _ _ _ hi;obtain ⟨tF, h4, ⟨n, h5, rfl, hal⟩, hO⟩ := hi;have hkT : k < T.length := (IY.1 hx).1;obtain ⟨t1, t2, t3⟩ := Em.z3h H6.2.1 (x := (x1, x2)) (by rw [H6.2.2.1]; exact Jb hx);simp only at t1 t2 t3;have GC := hd1 (y_ xW x1 GR);rw [t1, t2] at GC;have c5 : W.cell? (w.heap.size + 3, 0) = some (.int .i64 (k : Int)) := ae h5 rfl;have z4 := aZ h4 0;have z5 := aZ h5 0;have c4 := ae h4 (j := 0) rfl;have ret : T ≠ R -> dm (λ i => O i \/ (i = m \/ i = g) \/ i = w6.heap.size + 1 \/ i = w6.heap.size) W (W.setCell (w.heap.size + 2, 0) (.bool false)) /\ Code.ret = .ret /\ nK w6 (w.heap.size + 2) (w.heap.size + 3) (λ _ _ => T ≠ R) (k + 1) O (W.setCell (w.heap.size + 2, 0) (.bool false)) := by
   intro hne;have ms := eP W (w.heap.size + 2) 0 (.bool false);refine ⟨dm.Gd ms (λ i hi' e => ?_), rfl, tF.trans ms (λ i _ h => Iy h), IQ _ _ 0 _ _ _ h4, ⟨_, (ms.block _ (aa h5) GR).trans h5, hne⟩, hO⟩;subst e;rcases hi' with h | h | h | h
   ·have := hO _ h; omega
   ·rcases h with h | h
    ·exact GM.1 h.symm
    ·exact GM.2.1 h.symm
   ·omega
   ·omega
  have RET := hd1 ret;have nor : Em.Alike T R (k + 1) -> dm (λ i => O i \/ (i = m \/ i = g) \/ i = w6.heap.size + 1 \/ i = w6.heap.size) W (W.setCell (w.heap.size + 3, 0) (.int .i64 ((k + 1 : Nat) : Int))) /\ nK w6 (w.heap.size + 2) (w.heap.size + 3) (λ k n => n = (k : Int) /\ Em.Alike T R k) (k + 1) O (W.setCell (w.heap.size + 3, 0) (.int .i64 ((k + 1 : Nat) : Int))) := by
   intro x4h;have ms := eP W (w.heap.size + 3) 0 (.int .i64 ((k + 1 : Nat) : Int));refine ⟨dm.Gd ms (λ i hi' e => ?_), tF.trans ms (λ i _ h => Iz h), (ms.block _ (aa h4) GR).trans h4, ⟨_, IQ _ _ 0 _ _ _ h5, rfl, x4h⟩, hO⟩;subst e;rcases hi' with h | h | h | h
   ·have := hO _ h; omega
   ·rcases h with h | h
    ·exact GM.2.2.1 h.symm
    ·exact GM.2.2.2 h.symm
   ·omega
   ·omega
  have NOR := hd1 nor;have HI := hd3 hx hal hkT;have hw1 : IntKind.i64.wrap ((k : Int) + 1) = ((k + 1 : Nat) : Int) := Ja _ GR;have i0 : (0 : Int) <= (k : Int) := GR;by_cases hkN : N <= k
  ·have i1 : (N : Int) <= (k : Int) := GR
   have NE : T ≠ R := Em.w0j hx (by rw [HX.2.2.2.2.2.1]; exact hkN);have FIN := hd1 (RET.out NE);clear hx hal tF h4 h5 hO xW bW pW ret nor NE;exact O7
  ·have i1 : (k : Int) < (N : Int) := GR
   obtain ⟨⟨y1, y2⟩, hy⟩ : ∃ y, R[k]? = some y := ⟨_, IR (by rw [HX.2.2.2.2.2.1]; omega)⟩;obtain ⟨b, o, rfl, _, lb, rg⟩ := pW.at hy;have y0 : W.cell? ⟨b, o + k * 2, none⟩ = some (ag y1) := rg 0 _ rfl;have y1' : W.cell? ⟨b, o + k * 2 + 1, none⟩ = some (ag y2) := rg 1 _ rfl;by_cases e1 : x1 = y1
   ·subst e1
    by_cases e2 : x2 = y2
    ·subst e2
     have FIN := hd1 (NOR.out (Em.w0i hal hx hy));clear hx hal tF h4 h5 hO xW bW pW ret nor hy rg;exact O7
    ·have FIN := hd1 (RET.out (Em.y2z hx hy (λ e => e2 (IG Prod.snd e))))
     have q2 : (!x2 == y2) = true := by simp [e2]
     clear hx hal tF h4 h5 hO xW bW pW ret nor hy rg e2;exact O7
   ·have FIN := hd1 (RET.out (Em.y2z hx hy (λ e => e1 (IG Prod.fst e))))
    have q1 : (!x1 == y1) = true := by simp [e1]
    clear hx hal tF h4 h5 hO xW bW pW ret nor hy rg e1;exact O7
 case stop =>
  rintro k O W _ hi ho hD;obtain ⟨xW, bW, c2, c3, pW⟩ := KEEP.out _ _ _ _ hi;obtain ⟨_, h4, ⟨n, _, hne⟩, _⟩ := hi;have HD := hd4 hD bW h4 hne;clear hD bW h4 hne xW pW;gi_wp2;exact Fa HD.2.1 GR HD.2.2.1 HD.1 GR rfl (by rw [H6.2.2.1]; exact (JV HD.2.2.2).symm)
 case done =>
  rintro O W hi ho hD;obtain ⟨xW, bW, c2, c3, pW⟩ := KEEP.out _ _ _ _ hi;obtain ⟨_, h4, ⟨n, h5, rfl, hal⟩, _⟩ := hi;have ne : Nonempty (Wd (Below W W)) := ⟨⟨_, Below.refl _ _⟩⟩;have f2 : ∀ y : Wd (Below W W), y.world.cell? w.heap.size = some (.pointer (some pl)) := λ y => aN y.ok c2;have f3 : ∀ y : Wd (Below W W), y.world.cell? (w.heap.size + 1, 0) = some (.slice ra N rc) := λ y => aN y.ok c3;have f5 : ∀ y : Wd (Below W W), y.world.cell? (w.heap.size + 3, 0) = some (.int .i64 (T.length : Int)) := λ y => aN y.ok (ae h5 rfl);have xD : bO W.drew pl pd md e KF := lZ xW (Moves.of_below (O := λ _ => False) GY.drew) (λ h => h) (λ h => h) (λ h => h) (λ _ _ h => h) (λ _ h => h.elim);have GC := hd1 (y_ xW [] (IV _));rw [Em.x4j H6.2.1] at GC;have LC := hd1 (z8n xD);rw [<-H6.2.2.2.1] at LC;have z4 : W.drew.frozen? ⟨w.heap.size + 2, 0, none⟩ = false := aZ (w := W.drew) h4 0;have c4 : W.drew.cell? (w.heap.size + 2, 0) = some (.bool false) := ae (w := W.drew) h4 rfl;have fin : ∀ r : Bool, r = decide (T = R) -> Below w w (W.drew.setCell (w.heap.size + 2, 0) (.bool r)) /\ (W.drew.setCell (w.heap.size + 2, 0) (.bool r)).heap[w.heap.size + 2]? = some (.cells #[.bool r] 4) /\ (W.drew.setCell (w.heap.size + 2, 0) (.bool r)).heap[w6.heap.size]? = some (.deferred (some [])) := λ r _ => by
   have ms := eP W.drew (w.heap.size + 2) 0 (.bool r);refine ⟨mE bW.drew ms (λ k hk => GR), IQ W.drew _ 0 _ _ _ h4, (ms.block _ (z8t (w := W.drew) hD) GR).trans hD⟩
  have FIN := hd1 fin;have AL := hd1 (Em.w0h hal);rw [HX.2.2.2.2.2.1] at AL;clear hD bW h4 h5 hal xW xD pW fin;go_upto_region 12 with (go_at_call 21; refine GC.mono ?_; rintro e w' ⟨rfl, rfl⟩)
  by_cases hTN : T.length = N
  ·rw [Km hTN] at AL
   have FIN := hd1 (FIN.out true AL.symm);obtain rfl := hTN;refine bC (λ w' => ∃ x : Wd (Below W W), w' = x.world) [14] GQ ?_;refine aI [0, 1, 2, 3, 4, 5, 7] 8 _ Hq GQ ?_;simp only [fmc, fmn, gta, gcs, gcz];iterate 7 (with_reducible refine ak (λ K hK => ?_); simp only [au, ah]; go_simp; refine hK _ ?_; clear hK K)
   with_reducible refine aA ?_
   refine az 6 7 _ _ rfl GQ ?_;with_reducible refine Js λ K hK => ?_
   go_simp;refine LC.mono ?_;rintro en w9 ⟨rfl, rfl⟩;exact O4
  ·rw [JV hTN] at AL
   have FIN := hd1 (FIN.out false AL.symm);have w2w : ¬ (T.length : Int) = (N : Int) := GR;generalize T.length = tl at *;refine bC (λ w' => ∃ x : Wd (Below W W), w' = x.world) [14] GQ ?_;refine aI [0, 1, 2, 3, 4, 5, 7] 8 _ Hq GQ ?_;simp only [fmc, fmn, gta, gcs, gcz];iterate 7 (with_reducible refine ak (λ K hK => ?_); simp only [au, ah]; go_simp; refine hK _ ?_; clear hK K)
   with_reducible refine aA ?_
   refine az 6 7 _ _ rfl GQ ?_;with_reducible refine Js λ K hK => ?_
   go_simp;exact O4
end
theorem CG {L : List Em.iy} {x : Em.iy} {most : Int} (hx : x ∈ L) (h : x.small = false) : Em.tY L most = false := by
 have : L.all Em.iy.small = false := by
  rw [Bool.eq_false_iff];intro h2;have := JJ.1 h2 x hx;rw [h] at this;cases this
 simp [Em.tY, this]
theorem Ar {x : Em.iy} (h : 70 < x.l.length \/ 40 < x.aT.keep.length \/ ∃ c ∈ x.l, 70 < c.key.length \/ 200 < c.value.length) : x.small = false := by
 rw [Bool.eq_false_iff];intro h2;obtain ⟨h3, h4, h5⟩ := Em.iy.z4g h2;rcases h with h | h | ⟨c, hc, h⟩
 ·omega
 ·omega
 ·have := h5 c hc; omega
theorem x5d {Q : List jy} (hv : uU w v Q) (most : Int) (hl : Q.length <= 9223372036854775807) :
 Calls prog 13 #[v, .int .i64 most] w λ e w' => e = .returned (.bool (Em.tY (Q.map (·.1)) most)) /\ w = w' := by
 obtain ⟨va, vc, rfl⟩ := hv.slice;have AT := hd1 (λ (i : Nat) (q : jy) (hi : Q[i]? = some q) => hv.at hi);have hl1 : (Q.length : Int) <= 9223372036854775807 := GR;clear hv;generalize hn : Q.length = n at *;have HN := hd1 hn;clear hn;go_in;go_wp2;go_loop [5] (λ i => ∃ k : Nat, k <= n /\ i = .int .i64 (k : Int) /\ ∀ (j : Nat) (x : jy), j < k -> Q[j]? = some x -> x.1.small = true) (λ i => n - (intOf i).toNat)
 case atStart => exact ⟨0, IV _, rfl, λ j x hj => absurd hj GR⟩
 case round =>
  obtain ⟨k, hk, rfl, hall⟩ := hrel;by_cases hlt : k < n
  ·obtain ⟨⟨x, lv, kv⟩, hq⟩ : ∃ q, Q[k]? = some q := ⟨_, IR Nk⟩
   obtain ⟨b, o, rfl, lb, rg, is⟩ := AT.out k _ hq;obtain ⟨la, lc, e1⟩ := is.l.slice;obtain ⟨ka, kc, e2⟩ := is.keep.slice;simp only at e1 e2;subst e1;subst e2;have k1 : w.cell? (b, o + k * 6 + 1) = some (.slice la x.l.length lc) := rg 1 _ rfl;have k3 : w.cell? (b, o + k * 6 + 3) = some (.slice ka x.aT.keep.length kc) := rg 3 _ rfl;have isl : dJ w (λ _ => True) (.slice la x.l.length lc) x.l := is.l;have CH := hd1 (λ (j : Nat) (c : Em.ay) (hc : x.l[j]? = some c) => isl.at hc);have hb1 : x.l.length <= 9223372036854775807 := is.z8o;have hb2 : x.aT.keep.length <= 9223372036854775807 := is.z8d;have i0 : (0 : Int) <= (k : Int) := GR;have i1 : (k : Int) < (n : Int) := GR;have DT := hd1 (show x ∈ Q.map (·.1) from Jl.2 ⟨_, Jb hq, rfl⟩);have HQ := hd2 hq hall;clear hq hall rg is isl lb;generalize hbl : x.l.length = bl at *;generalize hkk : x.aT.keep.length = kl at *;have HB := hd2 hbl hkk;clear hbl hkk;by_cases h1 : 70 < bl
   ·have d1 : (70 : Int) < (bl : Int) := GR
    have qy := hd1 (CG (most := most) DT.out (Ar (Iy (by rw [HB.1]; exact h1))));clear h1;exact PS
   ·have d1 : ¬ (70 : Int) < (bl : Int) := GR
    by_cases h2 : 40 < kl
    ·have d2 : (40 : Int) < (kl : Int) := GR
     have qy := hd1 (CG (most := most) DT.out (Ar (Iz (Iy (by rw [HB.2]; exact h2)))));clear h1 h2;exact PS
    ·have d2 : ¬ (40 : Int) < (kl : Int) := GR
     go_wp2;go_loop [6] (λ i => ∃ j : Nat, j <= bl /\ i = .int .i64 (j : Int) /\ ∀ (m : Nat) (c : Em.ay), m < j -> x.l[m]? = some c -> c.tiny = true) (λ i => bl - (intOf i).toNat)
     case atStart => exact ⟨0, IV _, rfl, λ j x hj => absurd hj GR⟩
     case round =>
      obtain ⟨j, hj, rfl, BQ⟩ := hrel;by_cases hjl : j < bl
      ·obtain ⟨c, hc⟩ : ∃ c, x.l[j]? = some c := ⟨_, IR (by rw [HB.1]; exact hjl)⟩
       obtain ⟨b2, o2, rfl, _, lb2, Fh⟩ := CH.out j c hc;have z0 : w.cell? ⟨b2, o2 + j * 3, none⟩ = some (ag c.key) := Fh 0 _ rfl;have z1 : w.cell? ⟨b2, o2 + j * 3 + 1, none⟩ = some (ag c.value) := Fh 1 _ rfl;have j0 : (0 : Int) <= (j : Int) := GR;have j1 : (j : Int) < (bl : Int) := GR;have HC := hd2 hc BQ;clear hc BQ Fh;by_cases g1 : 70 < c.key.length
       ·have d3 : (70 : Int) < (c.key.length : Int) := GR
        have qy := hd1 (CG (most := most) DT.out (Ar (Iz (Iz ⟨c, Jb HC.1, Iy g1⟩))));clear g1;exact PS
       ·have d3 : ¬ (70 : Int) < (c.key.length : Int) := GR
        by_cases g2 : 200 < c.value.length
        ·have d4 : (200 : Int) < (c.value.length : Int) := GR
         have qy := hd1 (CG (most := most) DT.out (Ar (Iz (Iz ⟨c, Jb HC.1, Iz g2⟩))));clear g1 g2;exact PS
        ·have d4 : ¬ (200 : Int) < (c.value.length : Int) := GR
         have HT := hd1 (show c.tiny = true by simp only [Em.ay.tiny, Jh, JX]; omega);clear g1 g2;go_wp2;go_round
         case rel =>
          refine ⟨j + 1, GR, by go_num, λ m c' hm hc' => ?_⟩;by_cases e : m = j
          ·subst e
           rw [HC.1] at hc';cases hc';exact HT.out
          ·exact HC.2 m c' GR hc'
         case measure => simp [intOf]; omega
      ·obtain rfl : j = bl := GR
       have HS := hd1 (show x.small = true by
        simp only [Em.iy.small, Jh, JX, HB.1, HB.2, JJ];refine ⟨⟨GR, GR⟩, λ c hc => ?_⟩;obtain ⟨m, hm⟩ := KS.1 hc;exact BQ m c (Hg ((IY.1 hm).1) HB.1) hm)
       clear BQ;go_wp2;go_round
       case rel =>
        refine ⟨k + 1, GR, by go_num, λ m q' hm hq' => ?_⟩;by_cases e : m = k
        ·subst e
         rw [HQ.1] at hq';cases hq';exact HS.out
        ·exact HQ.2 m q' GR hq'
       case measure => simp [intOf]; omega
  ·obtain rfl : k = n := GR
   have HA := hd1 (show (Q.map (·.1)).all Em.iy.small = true by
    rw [JJ];intro x hx;obtain ⟨q, hq, rfl⟩ := Jl.1 hx;obtain ⟨m, hm⟩ := KS.1 hq;exact hall m q (Hg ((IY.1 hm).1) HN.out) hm)
   clear hall;go_wp2;go_ret;refine ⟨?_, rfl⟩;simp [Em.tY, HA.out, HN.out]
open Go.ChangeShapes Go.WideShapes Go.ChangeAt Go.Deep
section
variable {H : Type} {enc : TypeId × Value -> H} {w : World}
theorem wf_u8 {n : Int} (h : (Lit.int .u8 n).wf = true) : 0 <= n /\ n <= 255 := by
 simp only [Lit.wf, IntKind.min, IntKind.max, IntKind.signed, IntKind.bits, Jh, JX] at h;simp at h;omega
theorem x9z {z : Int} (h0 : 0 <= z) (h1 : z <= 255) : bL (UInt8.ofNat z.toNat) = .int .u8 z := by
 unfold bL;rw [Ll];have : z.toNat % 2 ^ 8 = z.toNat := KM GR;rw [this];congr 1
 omega
theorem z7b {fuel : Nat} {x : DataW H × List MemPlace} (h : DataW.trod enc prog w 0 (λ _ => true) true fuel 31 [v] = some x) : ∃ l, BytesIn w.heap (λ _ => True) v l /\ l.length <= 9223372036854775807 := by
 rcases open_ints Ia Ig GQ h with ⟨e, _⟩ | ⟨a, len, cap, zs, e, _, hlc, hcm, hzl, _, hcell, hwf⟩
 ·obtain rfl := List.singleton_inj.1 e
  exact ⟨[], Iz (Iy ⟨rfl, rfl⟩), IV _⟩
 ·obtain rfl := List.singleton_inj.1 e
  simp only [I1] at hzl;unfold maxLen at hcm;refine ⟨(zs.take len).map (λ z => UInt8.ofNat z.toNat), ?_, by simp; omega⟩;by_cases hl : len = 0
  ·subst hl
   exact Iy ⟨⟨a, cap, rfl⟩, GV⟩
  ·obtain ⟨c, t, fr, hr, hs, h0⟩ := Dh (hcell 0 GR)
   have ha0 : a.add 0 = a := by simp [Addr.add]
   rw [ha0] at hr hs;obtain ⟨b, o, sp⟩ := a;simp only at hr hs;subst hs;have hlen : ((zs.take len).map (λ z => UInt8.ofNat z.toNat)).length = len := by simp; omega
   refine Iz (Iz ⟨b, o, cap, c, t, fr, by rw [hlen], by rw [hlen]; exact hlc, GR, trivial, hr, λ i y hi => ?_⟩);have hil : i < len := Hf ((IY.1 hi).1);have hc := hcell i GR;rw [addr_add, IJ _ _ _ _ _ _ hr] at hc;rw [hc];rw [Kq, JI, IA hil, IR GR] at hi;simp only [Ku, Jv] at hi;have hz := wf_u8 (hwf zs[i] (List.getElem_mem GR));rw [<-hi, x9z hz.1 hz.2, Ld, IR GR];rfl
end
end Go.Proofs.YtgffifleflkjoaaGreat
