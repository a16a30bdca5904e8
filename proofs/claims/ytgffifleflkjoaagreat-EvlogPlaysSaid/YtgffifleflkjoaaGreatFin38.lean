/-
  Parts of a proof.
-/
import Derived.Test.YtgffifleflkjoaaGreatFin31
import Derived.Test.YtgffifleflkjoaaGreatFin32
import Derived.Test.YtgffifleflkjoaaGreatFin35
set_option linter.unusedSimpArgs false
set_option linter.unusedVariables false
set_option maxRecDepth 100000
set_option maxHeartbeats 16000000
namespace Go.Proofs.YtgffifleflkjoaaGreat
open _root_.Go.Proofs.Tryz
variable {w W w' w0 wr w1 W0 W1 W2 A B : World} {F G F' O : Nat → Prop} {v : Value} {l : List UInt8} {n q m pd md pl g p : Nat} {C : Array Value} {c : Int}
section
open Go.RowKit Dm
attribute [local go_sem] Oper.semAt_some
def Em.nE (r : Em.Bytes × Em.Bytes) : Em.Bytes := Wm.frame (Wm.aG 2 ++ Wm.cB r.1 ++ Wm.cB r.2)
def Em.jU (g : Nat) (R : Em.bB) : Em.Bytes := Wm.frame (Wm.aG 1 ++ Wm.aG g ++ Wm.aG R.length) ++ R.flatMap Em.nE
theorem CG (b : List UInt8) : (Wm.frame b).length <= b.length + 13 := by
 unfold Wm.frame;rw [IQ];have h1 : (Cm.dm b).length = b.length + 4 := by unfold Cm.dm; rw [IQ, Cm.oJ]
 have := kY (Cm.dm b).length;omega
theorem jg (s : List UInt8) : (Wm.cB s).length <= s.length + 9 := by
 unfold Wm.cB;rw [IQ];have := kY s.length;omega
theorem y8h {r : Em.Bytes × Em.Bytes} (h : r.1.length <= 64 /\ r.2.length <= 4096) : (Em.nE r).length <= 4300 := by
 have h1 := CG (Wm.aG 2 ++ Wm.cB r.1 ++ Wm.cB r.2);have h2 := jg r.1;have h3 := jg r.2;have h4 := kY 2;unfold Em.nE;rw [IQ, IQ] at h1;omega
theorem z5l : ∀ {R : Em.bB}, (∀ r ∈ R, r.1.length <= 64 /\ r.2.length <= 4096) -> (R.flatMap Em.nE).length <= 4300 * R.length
 | [], _ => GZ
 | r :: R, h => by
  have h1 := y8h (h r (Jp ..));have h2 := z5l (R := R) (λ x hx => h x (Jz _ hx));rw [Ke, IQ, I8];omega
theorem E_ (n : Nat) (w : World) (hn : n < 9223372036854775808) : Calls prog 89 #[(), .int .i64 n] w (z2v w w.heap.size (Wm.aG n)) :=
 (Bd G7 (mG w w.heap.size) GZ hn).mono λ _ _ h => h
theorem Fa {R : Em.bB} (h : dw w F v R) (hR : R.length <= 1000) (hk : ∀ r ∈ R, r.1.length <= 64 /\ r.2.length <= 4096) (hg : g < 9223372036854775808) :
 Calls prog 52 #[.int .i64 g, v] w (gP w (Em.jU g R)) := by
 obtain ⟨ra, rc, e1⟩ := h.slice;subst e1;have HV := hd2 h hk;clear h hk;have W1 := kY 1;have W2 := kY g;have W3 := kY R.length;have HW := hd1 (show Em.jU g R = Wm.frame (Wm.aG 1 ++ Wm.aG g ++ Wm.aG R.length) ++ R.flatMap Em.nE from rfl);generalize hN : R.length = N at *;have HN := hd1 hN;clear hN;obtain ⟨H, hH⟩ := G8 (Wm.frame (Wm.aG 1 ++ Wm.aG g ++ Wm.aG N));have HL : H.length <= 100 := by
  rw [<-hH];have := CG (Wm.aG 1 ++ Wm.aG g ++ Wm.aG N);simp only [IQ] at this;omega
 have HH := hd1 hH;clear hH;go_in
 go_upto_region 2 with (first
  | (go_at_call 89; refine (E_ 1 w GY).mono ?_; rintro e w1 ⟨v1, rfl, o1, b1⟩; have H1 := hd2 o1 b1; clear o1 b1)
  | (go_at_call 89; refine (Bd (w := w1) (base := w.heap.size) (n := g) H1.2.size H1.1 GX hg).mono ?_; rintro e w2 ⟨v2, rfl, o2, b2⟩; have H2 := hd2 o2 (H1.2.trans b2); clear o2 b2)
  | (go_at_call 89; refine (Bd (w := w2) (base := w.heap.size) (n := N) H2.2.size H2.1 Oa GX).mono ?_; rintro e w3 ⟨v3, rfl, o3, b3⟩; have H3 := hd2 o3 (H2.2.trans b3); clear o3 b3)
  | (go_at_call 88; refine (Fe H3.1.at Oa).mono ?_; rintro e w4 ⟨v4, rfl, o4, b4⟩; have H4 := hd2 (bi o4 G6 H3.2.size) (H3.2.trans (b4.mono H3.2.size)); clear o4 b4))
 rw [HH.out] at H4;clear H1 H2 H3;go_wp2;go_loopw [5, 6] (λ x s wr => ∃ i : Nat, i <= N /\ s = .int .i64 (i : Int) /\ b_ wr w.heap.size x (H ++ (R.take i).flatMap Em.nE) /\ Below w w wr) (λ _ s _ => N - (intOf s).toNat)
 case atStart => exact ⟨0, IY _, rfl, by simpa using H4.1, H4.2⟩
 case round =>
  obtain ⟨i, hi, rfl, hown, hb⟩ := hrel;obtain ⟨xa, xn, xc, e1⟩ := hown.at.slice3;subst e1;by_cases hlt : i < N
  ·have i0 : (0 : Int) <= (i : Int) := GX
   have i1 : (i : Int) < (N : Int) := GX;obtain ⟨r, hr⟩ : ∃ r, R[i]? = some r := ⟨_, IX Nl⟩;have hk := HV.2 r (Jg hr);obtain ⟨b, o, rfl, _, lb, rg⟩ := HV.1.at hr;have y0 : ∀ y : Wd (Below w w), y.world.cell? (b, o + i * 2) = some (ag r.1) := λ y => (y.ok.cell (p := ⟨b, o + i * 2, none⟩) lb).trans (rg 0 _ rfl);have y1 : ∀ y : Wd (Below w w), y.world.cell? (b, o + i * 2 + 1) = some (ag r.2) := λ y => (y.ok.cell (p := ⟨b, o + i * 2 + 1, none⟩) lb).trans (rg 1 _ rfl);have ne : Nonempty (Wd (Below w w)) := ⟨⟨_, Below.refl _ _⟩⟩;have hl : (H ++ (R.take i).flatMap Em.nE).length <= 5000000 := by
    rw [IQ];have h1 := z5l (R := R.take i) (λ x hx => HV.2 x (Mh hx));exact R_
   have hn : H ++ (R.take (i + 1)).flatMap Em.nE = (H ++ (R.take i).flatMap Em.nE) ++ Wm.frame (Wm.aG 2 ++ Wm.cB r.1 ++ Wm.cB r.2) := by
    rw [JH, hr, L9, <-I5];simp [Em.nE]
   have l1 := jg r.1;have l2 := jg r.2;have l3 := kY 2;have l4 : (Wm.frame (Wm.aG 2 ++ Wm.cB r.1 ++ Wm.cB r.2)).length <= 5000 := by
    have := CG (Wm.aG 2 ++ Wm.cB r.1 ++ Wm.cB r.2);simp only [IQ] at this;omega
   have D := hb.drew;have HO := hd3 hown hb hn;clear hown rg hr hn hb;go_upto_region 5 with fail
   refine bD (λ w' => ∃ x : Wd (Below w w), w' = x.world) [16] GV ?_;refine aL [0, 2, 3, 4, 5, 6, 8, 9, 10, 11, 12] 6 _ ⟨⟨_, D⟩, rfl⟩ GV ?_;simp only [fmc, fmn, gta, gcs, gcz];iterate 11 (with_reducible refine ak (λ K hK => ?_); simp only [au, aj]; go_simp; refine hK _ ?_; clear hK K)
   with_reducible refine aB ?_
   refine aA 1 5 _ _ rfl GV ?_;refine IJ rfl λ K hK => ?_;go_simp;refine (E_ 2 wr.drew GY).mono ?_;rintro e w1 ⟨v1, rfl, o1, b1⟩;have b1 : Below wr wr w1 := G6.drew.trans b1;have B1 : Below w w w1 := HO.2.1.trans (b1.mono HO.2.1.size);refine hK _ _ (IG ⟨rfl, λ _ => ⟨⟨_, B1⟩, rfl⟩, ?_⟩);clear hK K;refine aA 7 4 _ _ rfl GV ?_;refine IJ rfl λ K hK => ?_;go_simp;refine (AX b1.size o1 GX GX).mono ?_;rintro e w2 ⟨v2, rfl, o2, b2⟩;have b2 : Below wr wr w2 := b1.trans b2;have B2 : Below w w w2 := HO.2.1.trans (b2.mono HO.2.1.size);refine hK _ _ (IG ⟨rfl, λ _ => ⟨⟨_, B2⟩, rfl⟩, ?_⟩);clear hK K;refine aA 13 3 _ _ rfl GV ?_;refine IJ rfl λ K hK => ?_;go_simp;refine (AX b2.size o2 (by simp only [IQ]; omega) GX).mono ?_;rintro e w3 ⟨v3, rfl, o3, b3⟩;have b3 : Below wr wr w3 := b2.trans b3;have B3 : Below w w w3 := HO.2.1.trans (b3.mono HO.2.1.size);refine hK _ _ (IG ⟨rfl, λ _ => ⟨⟨_, B3⟩, rfl⟩, ?_⟩);clear hK K;refine aA 14 2 _ _ rfl GV ?_;refine IJ rfl λ K hK => ?_;go_simp;refine (Fe o3.at (by simp only [IQ]; omega)).mono ?_;rintro e w4 ⟨v4, rfl, o4, b4⟩;have b4 : Below wr wr w4 := b3.trans (b4.mono b3.size);have B4 : Below w w w4 := HO.2.1.trans (b4.mono HO.2.1.size);refine hK _ _ (IG ⟨rfl, λ _ => ⟨⟨_, B4⟩, rfl⟩, ?_⟩);clear hK K;refine aA 15 1 _ _ rfl GV ?_;refine dP rfl (.tmp 20) (.tmp 34) rfl w.heap.size w.heap.size w B4 G7 _ (H ++ (R.take i).flatMap Em.nE) rfl (bi HO.1 b4 G7) _ (Wm.frame (Wm.aG 2 ++ Wm.cB r.1 ++ Wm.cB r.2)) _ rfl o4.at GX B4.size ?_;intro v5 w5 o5 B5 _;rw [<-HO.2.2] at o5
   have H5 := hd2 o5.out B5;clear o5 o1 o2 o3 o4;refine IG ⟨rfl, λ _ => ⟨⟨_, B5⟩, rfl⟩, ?_⟩;refine eY [16] 0 _ GV ?_;refine Hd ?_;refine ⟨GV, ?_⟩;clear B1 B2 B3 B4 B5 b1 b2 b3 b4 D y0 y1 ne;go_wp2;go_roundw;case rel => exact ⟨i + 1, GX, by go_num, H5.1, H5.2⟩
   case measure => simp [intOf]; omega
  ·exact PR
end
open Dm Em Go.Maps
structure jq (e : E) : Prop where
 good : e.good
 tidy : Tidy e.rows
 gone : e.gone = false
 dead : e.d.dead = false
 live : ∃ D1, kU (e.d.lasts.tp e.tp) e.gen D1 e.aK /\ tell D1 = tell e.rows
 fin : e.fin = (e.d.lasts.tp e.tp).length
 old : (aH (e.d.lasts.tp (1 - e.tp : Nat))).gen + e.tp <= e.gen
 waits : pq (1 - e.tp) e.d
def jI (x : St) (R : bB) : Prop := (aP (λ k => aH (x.tp k)) 2).2.gen ≠ 0 /\ tell (aP (λ k => aH (x.tp k)) 2).2.rows = R
theorem y1k {ts : Nat -> Em.T} {t : Nat} (ht : t <= 1) (h : (ts (1 - t)).gen + t <= (ts t).gen) (hp : 0 < (ts t).gen) : aP ts 2 = (t, ts t) := by
 have z : Em.T.none.gen = 0 := rfl;have h1 : aP ts 1 = if 0 < (ts 0).gen then (0, ts 0) else (0, Em.T.none) := rfl
 have h2 : aP ts 2 = if (aP ts 1).2.gen < (ts 1).gen then (1, ts 1) else aP ts 1 := rfl
 rcases Nat.lt_or_ge t 1 with h0 | h0
 ·have e : t = 0 := GX
  subst e;have h : (ts 1).gen + 0 <= (ts 0).gen := h;have hz : 0 < (ts 0).gen := hp;rw [h2, h1, IE hz];exact IA (by show ¬ (ts 0).gen < (ts 1).gen; omega)
 ·have e : t = 1 := GX
  subst e;have h : (ts 0).gen + 1 <= (ts 1).gen := h;rw [h2, h1];by_cases hz : 0 < (ts 0).gen
  ·rw [IE hz]
   exact IE h
  ·rw [IA hz]
   exact IE (by show 0 < (ts 1).gen; omega)
theorem xQ {x : St} {t : Nat} {R : bB} (ht : t <= 1) (h : (aH (x.tp (1 - t : Nat))).gen + t <= (aH (x.tp t)).gen) (hp : 0 < (aH (x.tp t)).gen) (hr : tell (aH (x.tp t)).rows = R) : jI x R := by
 have e := y1k (ts := λ k => aH (x.tp k)) ht h hp;unfold jI;rw [e];exact ⟨by show (aH (x.tp t)).gen ≠ 0; omega, hr⟩
theorem Ez {x y : St} {t : Nat} {D1 : Em.Rows} {R : bB} (ht : t <= 1) (h : kU (y.tp t) g D1 n) (hR : tell D1 = R) (ho : (aH (y.tp (1 - t : Nat))).gen + t <= g) (x1 : x.tp t = y.tp t) (x2 : x.tp (1 - t : Nat) = y.tp (1 - t : Nat) \/ x.tp (1 - t : Nat) = []) : jI x R := by
 refine xQ ht ?_ ?_ ?_
 ·rw [x1, nA h]
  rcases x2 with x2 | x2
  ·rw [x2]; exact ho
  ·rw [x2, AY]
   exact Q9
 ·rw [x1, nA h]; exact h.g0
 ·rw [x1, nA h]; exact hR
theorem z3n {x y : St} {t k : Nat} {D1 : Em.Rows} {l : List ay} {R : bB} (ht : t <= 1) (h : kU (y.tp t) g D1 n) (hR : tell D1 = R) (ho : (aH (y.tp (1 - t : Nat))).gen + t <= g) (hd : aX D1 l = 0) (hb : (dU l).length <= 8192)
 (x1 : x.tp t = y.tp t ++ (Wm.frame (dU l)).take k) (x2 : x.tp (1 - t : Nat) = y.tp (1 - t : Nat) \/ x.tp (1 - t : Nat) = []) : jI x R \/ jI x (tell (behind D1 l)) := by
 have other : ∀ G, G = g -> (aH (x.tp (1 - t : Nat))).gen + t <= G := by
  rintro _ rfl;rcases x2 with x2 | x2
  ·rw [x2]; exact ho
  ·rw [x2, AY]
   have z : Em.T.none.gen = 0 := rfl;have := h.g0;omega
 by_cases hk : k < (Wm.frame (dU l)).length
 ·left
  have e : aH (x.tp t) = ⟨g, D1, n, (y.tp t).length⟩ := by rw [x1]; exact y7n h hb hk
  refine xQ ht (other _ ?_) ?_ ?_ <;> rw [e]
  ·exact h.g0
  ·exact hR
 ·right
  rw [Jh GX] at x1;have e := nA (z4a h hd hb);rw [<-x1] at e;refine xQ ht (other _ ?_) ?_ ?_ <;> rw [e];exact h.g0
theorem z3o {x y : St} {t : Nat} {D1 D : Em.Rows} {R : bB} (ht : t <= 1) (h : kU (y.tp t) g D1 n) (hR : tell D1 = R) (ho : (aH (y.tp (1 - t : Nat))).gen + t <= g) (hD : bI D) (hT : Tidy D) (hs : Maps.size D <= 256) (hg : g + 1 <= 2147483647)
 (x1 : x.tp t = y.tp t) (x2 : x.tp (1 - t : Nat) = y.tp (1 - t : Nat) \/ ∃ k, x.tp (1 - t : Nat) = (folded (g + 1) D).take k) : jI x R \/ jI x (tell D) := by
 rcases x2 with x2 | ⟨k, x2⟩
 ·exact IB (Ez ht h hR ho x1 (IB x2))
 ·by_cases hk : k < (folded (g + 1) D).length
  ·left
   refine xQ ht ?_ ?_ ?_
   ·rw [x1, nA h, x2, y7a hD hT hs GX hg hk]
    exact Q9
   ·rw [x1, nA h]; exact h.g0
   ·rw [x1, nA h]; exact hR
  ·right
   rw [Jh GX] at x2;have e := nA (EU hD hT hs (Nat.succ_pos g) hg);rw [<-x2] at e;have h1 : 1 - (1 - t) = t := GX;refine xQ (t := 1 - t) GX ?_ ?_ ?_
   ·rw [h1, x1, nA h, e]
    show g + (1 - t) <= g + 1;omega
   ·rw [e]; exact Nat.succ_pos g
   ·rw [e]; exact Aq hD hT
theorem Ep {d : D} {t : Nat} {D1 : Em.Rows} {R : bB} (ht : t <= 1) (h : kU (d.lasts.tp t) g D1 n) (hR : tell D1 = R) (ho : (aH (d.lasts.tp (1 - t : Nat))).gen + t <= g) (hw : pq (1 - t) d) (c : bH) : jI (d.aT c).stand R := by
 rcases hw with hw | hw
 ·rw [x7u hw]
  exact Ez ht h hR ho rfl (IB rfl)
 ·obtain ⟨c1, c2⟩ := x7p hw c
  exact Ez ht h hR ho (c1 _ GX) c2
theorem jq.tells {e : E} (h : jq e) (c : bH) : jI (e.d.aT c).stand (tell e.rows) := by
 obtain ⟨D1, r, hR⟩ := h.live;exact Ep h.good.tp r hR h.old h.waits c
def After (R : bB) (D : Em.Rows) (r : E × Int) : Prop :=
 (r.2 ≠ 281 -> jq r.1) /\ (r.2 = 281 -> ∀ c, jI (r.1.d.aT c).stand R \/ jI (r.1.d.aT c).stand (tell D))
theorem x9i {l : List ay} (h : (aZ l).length ≠ 0) : (dU l).length <= 8192 /\ aZ l = Wm.frame (dU l) := by
 have hb : aZ l = fO (dU l) := rfl;by_cases hl : 8192 < (dU l).length
 ·rw [hb, fO, IE hl] at h
  exact absurd rfl h
 ·exact ⟨GX, by rw [hb, uj GX]⟩
theorem x1y {e : E} {l : List ay} (h : jq e) (hd : aX e.rows l = 0) : After (tell e.rows) (behind e.rows l) (e.put (behind e.rows l) (aZ l)) := by
 have hg := Bz (D := behind e.rows l) (b := aZ l) h.good (qV h.good.rows (jW hd).1) (jW hd).2 (rR _);by_cases q : 32 <= e.aK \/ (aZ l).length = 0 \/ e.d.room / 2 < e.fin + (aZ l).length
 ·rw [BD q] at hg ⊢
  exact ⟨λ _ => h, λ e => by cases e⟩
 ·have hb : (aZ l).length ≠ 0 := GX
  obtain ⟨b1, b2⟩ := x9i hb;obtain ⟨D1, r, hR⟩ := h.live;obtain ⟨s1, s2⟩ := y7s h.good.rows h.tidy r.rows r.tidy hR.symm l;have hd1 : aX D1 l = 0 := by rw [<-s1]; exact hd
  have ht1 : tell (behind D1 l) = tell (behind e.rows l) := (s2 hd).symm;have hlive := tC (e := e) (D := behind e.rows l) (b := aZ l) q;have htp := h.good.tp;rw [hlive] at hg ⊢;rcases y3n (t := e.tp) (o := 1 - e.tp) h.dead htp GX h.waits (aZ l) with w | ⟨w1, w2, w3⟩ | ⟨w1, w2, w3⟩ | ⟨w1, w2, w3, w4, w5⟩
  ·simp only [w] at hg ⊢
   refine ⟨λ _ => ?_, λ e => by cases e⟩;exact ⟨hg, h.tidy, h.gone, h.dead, h.live, h.fin, h.old, h.waits⟩
  ·refine ⟨λ hne => absurd w1 hne, λ _ c => IB ?_⟩
   refine Ep (d := (wrote e.d e.tp (aZ l)).1) htp (by rw [w2]; exact r) hR (by rw [w2]; exact h.old) w3 c
  ·refine ⟨λ hne => absurd w1 hne, λ _ c => ?_⟩
   rw [<-ht1];rw [b2] at w2 w3;show jI ((wrote e.d e.tp (aZ l)).1.aT c).stand _ \/ jI ((wrote e.d e.tp (aZ l)).1.aT c).stand _;rw [b2];rcases w3 with w3 | w3
   ·obtain ⟨c1, k, c2⟩ := y1w w3 c
    rw [w2] at c2;exact z3n htp r hR h.old hd1 b1 c2 (IB (by rw [c1 _ GX, w2]))
   ·obtain ⟨c1, k, c2⟩ := x7q GX w3 c
    rw [w2] at c1 c2;exact z3n htp r hR h.old hd1 b1 c2 c1
  ·simp only [IE w1] at hg ⊢
   refine ⟨λ _ => ?_, λ e => by rw [w1] at e; cases e⟩;have r2 := z4a r hd1 b1;rw [<-b2, <-w4] at r2;refine ⟨hg, (xU (pU (jW hd).1).2 h.good.rows h.tidy).2, h.gone, w2, ⟨_, r2, ht1⟩, ?_, ?_, IB w3⟩
   ·show e.fin + _ = ((wrote e.d e.tp (aZ l)).1.lasts.tp e.tp).length
    rw [w4, IQ, h.fin]
   ·show (aH ((wrote e.d e.tp (aZ l)).1.lasts.tp (1 - e.tp : Nat))).gen + e.tp <= e.gen
    rcases w5 with w5 | w5
    ·rw [w5]; exact h.old
    ·rw [w5, AY]
     have z : Em.T.none.gen = 0 := rfl;have := r.g0;omega
theorem x5m {e : E} {D : Em.Rows} (h : jq e) (hD : bI D) (hT : Tidy D) (hs : Maps.size D <= 256) : After (tell e.rows) D (e.fold D) := by
 have hg := z0i h.good hD hs;by_cases q : 2147483647 <= e.gen
 ·rw [wH q]
  exact ⟨λ _ => h, λ e => by cases e⟩
 ·obtain ⟨D1, r, hR⟩ := h.live
  have htp := h.good.tp;have hlive := wG (e := e) (D := D) q;rw [hlive] at hg ⊢;rcases z6t (t := e.tp) (o := 1 - e.tp) h.dead GX GX h.waits (folded (e.gen + 1) D) with ⟨w1, w2, w3, w4⟩ | ⟨w1, w2, w3⟩ | ⟨w1, w2, w3⟩ | ⟨w1, w2, w3, w4, w5⟩
  ·have hne : ¬ (bK e.d (1 - e.tp) (folded (e.gen + 1) D)).2 = 0 := by rw [w1]; decide
   simp only [IA hne] at hg ⊢;refine ⟨λ _ => ⟨hg, h.tidy, h.gone, w2, ?_, ?_, ?_, w4⟩, λ e => by rw [w1] at e; cases e⟩
   ·exact ⟨D1, by show kU ((bK e.d (1 - e.tp) (folded (e.gen + 1) D)).1.lasts.tp e.tp) _ _ _; rw [w3]; exact r, hR⟩
   ·show e.fin = ((bK e.d (1 - e.tp) (folded (e.gen + 1) D)).1.lasts.tp e.tp).length
    rw [w3]; exact h.fin
   ·show (aH ((bK e.d (1 - e.tp) (folded (e.gen + 1) D)).1.lasts.tp (1 - e.tp : Nat))).gen + e.tp <= e.gen
    rw [w3]; exact h.old
  ·have hne : ¬ (bK e.d (1 - e.tp) (folded (e.gen + 1) D)).2 = 0 := by rw [w1]; decide
   simp only [IA hne];refine ⟨λ hn => absurd w1 hn, λ _ c => IB ?_⟩;exact Ep (d := (bK e.d (1 - e.tp) (folded (e.gen + 1) D)).1) htp (by rw [w2]; exact r) hR (by rw [w2]; exact h.old) w3 c
  ·have hne : ¬ (bK e.d (1 - e.tp) (folded (e.gen + 1) D)).2 = 0 := by rw [w1]; decide
   simp only [IA hne];refine ⟨λ hn => absurd w1 hn, λ _ c => ?_⟩;rcases w3 with ⟨w3, hl⟩ | w3
   ·obtain ⟨c1, k, c2⟩ := y1w w3 c
    rw [w2, hl, Jj] at c2;exact z3o htp r hR h.old hD hT hs GX (by rw [c1 _ GX, w2]) (IC ⟨k, c2⟩)
   ·obtain ⟨c1, c2⟩ := x7r w3 c
    rw [w2] at c2;exact z3o htp r hR h.old hD hT hs GX (by rw [c1 _ GX, w2]) c2
  ·simp only [IE w1] at hg ⊢
   refine ⟨λ _ => ?_, λ e => by rw [w1] at e; cases e⟩;have r2 := EU (g := e.gen + 1) hD hT hs GX GX;rw [<-w5] at r2;have h1 : 1 - (1 - e.tp) = e.tp := GX;refine ⟨hg, hT, h.gone, w2, ⟨_, r2, Aq hD hT⟩, ?_, ?_, IB w3⟩
   ·show (folded (e.gen + 1) D).length = ((bK e.d (1 - e.tp) (folded (e.gen + 1) D)).1.lasts.tp (1 - e.tp : Nat)).length
    rw [w5]
   ·show (aH ((bK e.d (1 - e.tp) (folded (e.gen + 1) D)).1.lasts.tp (1 - (1 - e.tp) : Nat))).gen + (1 - e.tp) <= e.gen + 1
    rw [h1, w4, nA r];show e.gen + (1 - e.tp) <= e.gen + 1;omega
theorem y6k {e : E} {l : List ay} (h : jq e) (hd : aX e.rows l = 0) : After (tell e.rows) (behind e.rows l) (e.step (behind e.rows l) (aZ l)) := by
 have hp := x1y h hd;unfold E.step;by_cases q : (e.put (behind e.rows l) (aZ l)).2 = 280
 ·rw [IE q]
  have hs := hp.1 (by rw [q]; decide);have hr : (e.put (behind e.rows l) (aZ l)).1.rows = e.rows := by rw [FQ, IA (by rw [q]; decide)]
  have := x5m (D := behind e.rows l) hs (qV h.good.rows (jW hd).1) (xU (pU (jW hd).1).2 h.good.rows h.tidy).2 (jW hd).2;rw [hr] at this;exact this
 ·rw [IA q]; exact hp
theorem x8w {e : E} {l : List ay} (h : jq e) :
 ((e.bE l).2 ≠ 281 -> jq (e.bE l).1) /\ ((e.bE l).2 = 281 -> (e.bE l).1.gone = true /\ aX e.rows l = 0 /\ ∀ c, jI ((e.bE l).1.d.aT c).stand (tell e.rows) \/ jI ((e.bE l).1.d.aT c).stand (tell (behind e.rows l))) := by
 unfold E.bE;by_cases q : aX e.rows l ≠ 0
 ·rw [IE q]
  refine ⟨λ _ => h, λ zo => ?_⟩;exfalso
  have zo : aX e.rows l = 281 := zo;unfold aX right at zo;repeat' split at zo
  all_goals cases zo
 ·rw [IA q, IA (by rw [h.gone]; decide)]
  have q : aX e.rows l = 0 := GX;obtain ⟨s1, s2⟩ := y6k h q;refine ⟨λ hn => ?_, λ he => ?_⟩
  ·have hn : (e.step (behind e.rows l) (aZ l)).2 ≠ 281 := hn
   have s := s1 hn;exact ⟨⟨s.good.tp, s.good.gen, s.good.aK, s.good.fin, s.good.rows, s.good.few⟩, s.tidy, by show decide _ = false; simp [hn], s.dead, s.live, s.fin, s.old, s.waits⟩
  ·have he : (e.step (behind e.rows l) (aZ l)).2 = 281 := he
   exact ⟨by show decide _ = true; simp [he], q, s2 he⟩
theorem jq.stop {e : E} (h : jq e) {n : Int} (hn : 0 <= n) : e.d.stop n = ({ e.d with stops := n }, 0) /\ jq { e with d := { e.d with stops := n } } := by
 refine ⟨?_, ⟨yH h.good _, h.tidy, h.gone, h.dead, h.live, h.fin, h.old, h.waits⟩⟩;unfold D.stop;rw [IA GX, IA (by rw [h.dead]; decide)]
theorem z1j {ts : Nat -> Em.T} (h : (aP ts 2).2.gen ≠ 0) : ∃ k, k <= 1 /\ aP ts 2 = (k, ts k) := by
 have h1 : aP ts 1 = if 0 < (ts 0).gen then (0, ts 0) else (0, Em.T.none) := rfl
 have h2 : aP ts 2 = if (aP ts 1).2.gen < (ts 1).gen then (1, ts 1) else aP ts 1 := rfl
 by_cases q : (aP ts 1).2.gen < (ts 1).gen
 ·rw [IE q] at h2
  exact ⟨1, Nat.le_refl _, h2⟩
 ·rw [IA q] at h2
  by_cases z : 0 < (ts 0).gen
  ·rw [IE z] at h1
   exact ⟨0, IY _, h2.trans h1⟩
  ·rw [IA z] at h1
   rw [h2, h1] at h;exact absurd rfl h
theorem z9g {d : D} (h : d.dead = false) (h2 : d.stops = -1) : d.goes = (d, 0) := by
 unfold D.goes;rw [IA (by rw [h]; decide), IA (by rw [h2]; decide), IA (by rw [h2]; decide)]
theorem x2j {d : D} {t : Nat} (h : d.dead = false) (h2 : d.stops = -1) (ht : t <= 1) (hn : n <= (d.stand.tp t).length) : (Em.mended d t n).2 = 0 := by
 unfold Em.mended;by_cases q : (d.stand.tp t).length = n
 ·rw [IE q]
 ·rw [IA q]
  have hc : d.cut t n = ({ d with waits := d.waits ++ [⟨3, t, n, []⟩] }, 0) := by
   unfold D.cut;rw [IA GX];unfold D.step;rw [z9g h h2];rfl
  rw [hc];unfold Em.next;rw [IE rfl];unfold D.sync;rw [z9g (d := { d with waits := d.waits ++ [⟨3, t, n, []⟩] }) h h2];rfl
theorem Ey {d : D} (hl : ∀ k : Nat, k <= 1 -> (d.stand.tp k).length <= 1000000) (h : (aP (λ k => aH (d.stand.tp k)) 2).2.gen ≠ 0) : (Em.took d (aP (λ k => aH (d.stand.tp k)) 2)).good := by
 obtain ⟨k, hk, e⟩ := z1j h;rw [e];obtain ⟨r1, r2, r3, r4, r5⟩ := yj (d.stand.tp k);have := hl k hk;refine ⟨hk, r1, ?_, ?_, r2, r3⟩
 ·show (aH (d.stand.tp k)).aK <= 1000000
  omega
 ·show (aH (d.stand.tp k)).fin <= 2200000 + 8205 * (aH (d.stand.tp k)).aK
  omega
theorem x1p {d : D} {R : bB} (h1 : d.dead = false) (h2 : d.stops = -1) (h : jI d.stand R) :
 (Em.bY d (aP (λ k => aH (d.stand.tp k)) 2)).2 = 0 /\ tell (Em.bY d (aP (λ k => aH (d.stand.tp k)) 2)).1.rows = R := by
 obtain ⟨hg, hr⟩ := h;unfold Em.bY;rw [IA hg];refine ⟨?_, hr⟩;obtain ⟨k, hk, e⟩ := z1j hg;rw [e];exact x2j h1 h2 hk (yj _).2.2.2.1
theorem Cy (d : D) : d.goes.1.room = d.room := by
 unfold D.goes;split
 ·rfl
 ·exact RF
theorem z4u (d : D) (s : Step) : (d.step s).1.room = d.room := by
 unfold D.step;split
 ·exact Cy d
 ·exact Cy d
theorem z1g (d : D) (t : Int) (b : List UInt8) : (d.append t b).1.room = d.room := by
 unfold D.append;split
 ·rfl
 ·split
  ·rfl
  ·exact z4u _ _
theorem z1u (d : D) (t n : Int) : (d.cut t n).1.room = d.room := by
 unfold D.cut;split
 ·rfl
 ·exact z4u _ _
theorem EF (d : D) : d.sync.1.room = d.room := by
 unfold D.sync;split
 ·exact Cy d
 ·exact Cy d
theorem y3o (d : D) (t : Nat) (b : List UInt8) : (Em.wrote d t b).1.room = d.room := by
 unfold Em.wrote Em.next;split
 ·rw [EF, z1g]
 ·exact z1g _ _ _
theorem y0k (d : D) (t : Nat) : (Em.bZ d t).1.room = d.room := by
 unfold Em.bZ;split
 ·rfl
 ·exact z1u _ _ _
theorem z6u (d : D) (t : Nat) (b : List UInt8) : (Em.bK d t b).1.room = d.room := by
 have h : (Em.next (Em.bZ d t) λ d => d.append t b).1.room = d.room := by
  unfold Em.next;split
  ·rw [z1g, y0k]
  ·exact y0k _ _
 unfold Em.bK;rw [Em.next];split
 ·rw [EF, h]
 ·exact h
theorem x7d (e : E) (l : List ay) : (e.bE l).1.d.room = e.d.room := by
 have hp : ∀ (e : E) (D : Em.Rows) (b : List UInt8), (e.put D b).1.d.room = e.d.room := λ e D b => by
  unfold E.put;split
  ·rfl
  ·exact y3o _ _ _
 have hf : ∀ (e : E) (D : Em.Rows), (e.fold D).1.d.room = e.d.room := λ e D => by
  unfold E.fold;split
  ·rfl
  ·simp only
   split <;> exact z6u _ _ _
 have hs : ∀ (e : E) (D : Em.Rows) (b : List UInt8), (e.step D b).1.d.room = e.d.room := λ e D b => by
  unfold E.step;split
  ·rw [hf, hp]
  ·exact hp _ _ _
 unfold E.bE;split
 ·rfl
 ·split
  ·rfl
  ·exact hs _ _ _
theorem x9v {ts : Nat -> Em.T} (h : (aP ts 2).2.gen ≠ 0) : ∃ k, k <= 1 /\ aP ts 2 = (k, ts k) /\ (ts (1 - k)).gen + k <= (ts k).gen := by
 have z : Em.T.none.gen = 0 := rfl;have h1 : aP ts 1 = if 0 < (ts 0).gen then (0, ts 0) else (0, Em.T.none) := rfl
 have h2 : aP ts 2 = if (aP ts 1).2.gen < (ts 1).gen then (1, ts 1) else aP ts 1 := rfl
 by_cases q : (aP ts 1).2.gen < (ts 1).gen
 ·rw [IE q] at h2
  refine ⟨1, Nat.le_refl _, h2, ?_⟩;show (ts 0).gen + 1 <= (ts 1).gen;rw [h1] at q;by_cases z0 : 0 < (ts 0).gen
  ·rw [IE z0] at q
   exact q
  ·rw [IA z0] at q
   omega
 ·rw [IA q] at h2
  by_cases z0 : 0 < (ts 0).gen
  ·rw [IE z0] at h1
   refine ⟨0, IY _, h2.trans h1, ?_⟩;show (ts 1).gen + 0 <= (ts 0).gen;rw [h1] at q;have q : ¬ (ts 0).gen < (ts 1).gen := q;omega
  ·rw [IA z0] at h1
   rw [h2, h1] at h;exact absurd rfl h
theorem x9w {ts : Nat -> Em.T} (h : (aP ts 2).2.gen = 0) : (ts 0).gen = 0 /\ (ts 1).gen = 0 := by
 have z : Em.T.none.gen = 0 := rfl;have h1 : aP ts 1 = if 0 < (ts 0).gen then (0, ts 0) else (0, Em.T.none) := rfl
 have h2 : aP ts 2 = if (aP ts 1).2.gen < (ts 1).gen then (1, ts 1) else aP ts 1 := rfl
 by_cases q : (aP ts 1).2.gen < (ts 1).gen
 ·rw [IE q] at h2
  rw [h2] at h;have h : (ts 1).gen = 0 := h;omega
 ·rw [IA q] at h2
  rw [h2] at h;by_cases z0 : 0 < (ts 0).gen
  ·rw [IE z0] at h1
   rw [h1] at h;have h : (ts 0).gen = 0 := h;omega
  ·rw [h] at q
   omega
theorem x2k {d : D} (h : d.dead = false) (hw : d.waits = []) {t : Nat} (ht : t <= 1) (hn : n <= (d.stand.tp t).length) (h0 : (Em.mended d t n).2 = 0) :
 (Em.mended d t n).1.dead = false /\ (Em.mended d t n).1.waits = [] /\ (Em.mended d t n).1.lasts.tp t = (d.lasts.tp t).take n /\ ∀ u : Int, u ≠ t -> (Em.mended d t n).1.lasts.tp u = d.lasts.tp u := by
 have hs : d.stand = d.lasts := by unfold D.stand; rw [hw]; rfl
 unfold Em.mended at h0 ⊢;by_cases q : (d.stand.tp t).length = n
 ·rw [IE q]
  refine ⟨h, hw, ?_, λ _ _ => rfl⟩;rw [<-hs, <-q, List.take_length]
 ·rw [IA q] at h0 ⊢
  have hc : d.cut t n = d.step ⟨3, t, n, []⟩ := by
   unfold D.cut;rw [IA GX]
  rw [hc] at h0 ⊢;rcases EK h ⟨3, t, n, []⟩ with ⟨s, e⟩ | ⟨s, e⟩
  ·rw [e] at h0 ⊢
   have hn : Em.next (({ d with stops := s, waits := d.waits ++ [⟨3, t, n, []⟩] } : D), 0) D.sync = ({ d with stops := s, waits := d.waits ++ [⟨3, t, n, []⟩] } : D).sync := IE rfl;rw [hn] at h0 ⊢;have hd : ({ d with stops := s, waits := d.waits ++ [⟨3, t, n, []⟩] } : D).dead = false := h;rcases xZ hd with ⟨s', e'⟩ | ⟨s', e'⟩
   ·rw [e']
    refine ⟨h, rfl, ?_, λ u hu => ?_⟩
    ·show ((d.waits ++ [(⟨3, t, n, []⟩ : Step)]).foldl St.done d.lasts).tp t = _
     rw [hw];simp [St.done, upd]
    ·show ((d.waits ++ [(⟨3, t, n, []⟩ : Step)]).foldl St.done d.lasts).tp u = _
     rw [hw];simp [St.done, upd, hu]
   ·rw [e'] at h0
    have h0 : (281 : Int) = 0 := h0;exact absurd h0 GY
  ·rw [e] at h0
   have hn : Em.next (({ d with dead := true, stops := s } : D), 281) D.sync = (({ d with dead := true, stops := s } : D), 281) := IA (show ¬ (281 : Int) = 0 by decide);rw [hn] at h0;have h0 : (281 : Int) = 0 := h0;exact absurd h0 GY
theorem z7j {d : D} (h : d.dead = false) (hw : d.waits = []) (hl : ∀ k : Nat, k <= 1 -> (d.stand.tp k).length <= 1000000) (h0 : (Em.bY d (aP (λ k => aH (d.stand.tp k)) 2)).2 = 0) :
 jq (Em.bY d (aP (λ k => aH (d.stand.tp k)) 2)).1 := by
 have hs : d.stand = d.lasts := by unfold D.stand; rw [hw]; rfl
 by_cases q : (aP (λ k => aH (d.stand.tp k)) 2).2.gen = 0
 ·have ho : Em.bY d (aP (λ k => aH (d.stand.tp k)) 2) = Em.begun d := IE q
  rw [ho] at h0 ⊢;have hg := y1j d;have hb : Em.begun d = (⟨0, 1, .map [], 0, (folded 1 (.map [])).length, (bK d 0 (folded 1 (.map []))).1, false⟩, (bK d 0 (folded 1 (.map []))).2) := rfl;rw [hb] at h0 hg ⊢;have z : (bK d 0 (folded 1 (.map []))).2 = 0 := h0;rcases z6t (d := d) (t := 1) (o := 0) h GY GY (IB hw) (folded 1 (.map [])) with ⟨w, _⟩ | ⟨w, _⟩ | ⟨w, _⟩ | ⟨w1, w2, w3, w4, w5⟩
  ·rw [z] at w; exact absurd w GY
  ·rw [z] at w; exact absurd w GY
  ·rw [z] at w; exact absurd w GY
  ·have r := EU (D := .map []) (g := 1) oz tidy_empty GY GY GY
   rw [<-w5] at r;refine ⟨hg, tidy_empty, rfl, w2, ⟨_, r, Aq oz tidy_empty⟩, ?_, ?_, IB w3⟩
   ·show (folded 1 (.map [])).length = ((bK d 0 (folded 1 (.map []))).1.lasts.tp (0 : Nat)).length
    rw [w5]
   ·show (aH ((bK d 0 (folded 1 (.map []))).1.lasts.tp (1 : Nat))).gen + 0 <= 1
    rw [w4];have := (x9w q).2;rw [hs] at this;have this : (aH (d.lasts.tp (1 : Nat))).gen = 0 := this;omega
 ·have ho : Em.bY d (aP (λ k => aH (d.stand.tp k)) 2) = _ := IA q
  have hg := Ey hl q;obtain ⟨k, hk, e, hb⟩ := x9v q;rw [e] at ho hg q;rw [e, ho] at h0;rw [e, ho];have q : (aH (d.stand.tp k)).gen ≠ 0 := q;have h0 : (Em.mended d k (aH (d.stand.tp k)).fin).2 = 0 := h0;obtain ⟨k1, k2, k3, k4, k5⟩ := yj (d.stand.tp k);obtain ⟨m1, m2, m3, m4⟩ := x2k h hw hk k4 h0;obtain ⟨r1, r2⟩ := y8z q;rw [<-hs] at m3;refine ⟨yH hg _, r1.tidy, rfl, m1, ⟨_, ?_, rfl⟩, ?_, ?_, IB m2⟩
  ·show kU ((Em.mended d k (aH (d.stand.tp k)).fin).1.lasts.tp k) _ _ _
   rw [m3];exact r1
  ·show (aH (d.stand.tp k)).fin = ((Em.mended d k (aH (d.stand.tp k)).fin).1.lasts.tp k).length
   rw [m3, r2]
  ·show (aH ((Em.mended d k (aH (d.stand.tp k)).fin).1.lasts.tp (1 - k : Nat))).gen + k <= (aH (d.stand.tp k)).gen
   rw [m4 _ GX, <-hs];exact hb
theorem jq.stands {e : E} (h : jq e) : ∃ D1, aP (λ k => aH (e.d.stand.tp k)) 2 = (e.tp, ⟨e.gen, D1, e.aK, e.fin⟩) /\ tell D1 = tell e.rows /\ bI D1 /\ Tidy D1 /\ Maps.size D1 <= 256 /\ (e.d.stand.tp e.tp).length = e.fin := by
 obtain ⟨D1, r, hR⟩ := h.live;have htp := h.good.tp;have hg := r.g0;have h1 : e.d.stand.tp e.tp = e.d.lasts.tp e.tp /\ (e.d.stand.tp (1 - e.tp : Nat) = e.d.lasts.tp (1 - e.tp : Nat) \/ e.d.stand.tp (1 - e.tp : Nat) = []) := by
  unfold D.stand;rcases h.waits with hw | hw
  ·rw [hw]; exact ⟨rfl, IB rfl⟩
  ·rw [hw]
   have hne : (e.tp : Int) ≠ ((1 - e.tp : Nat) : Int) := GX;exact ⟨by simp [St.done, upd, hne], IC (by simp [St.done, upd])⟩
 obtain ⟨s1, s2⟩ := h1;have ht : aH (e.d.stand.tp e.tp) = ⟨e.gen, D1, e.aK, e.fin⟩ := by rw [s1, nA r, h.fin]
 refine ⟨D1, ?_, hR, r.rows, r.tidy, r.size, by rw [s1, h.fin]⟩;rw [y1k (ts := λ k => aH (e.d.stand.tp k)) (t := e.tp) htp ?_ ?_]
 ·show (e.tp, aH (e.d.stand.tp e.tp)) = _
  rw [ht]
 ·show (aH (e.d.stand.tp (1 - e.tp : Nat))).gen + e.tp <= (aH (e.d.stand.tp e.tp)).gen
  rw [ht];rcases s2 with s2 | s2
  ·rw [s2]; exact h.old
  ·rw [s2, AY]
   have z : Em.T.none.gen = 0 := rfl;show Em.T.none.gen + e.tp <= e.gen;omega
 ·show 0 < (aH (e.d.stand.tp e.tp)).gen
  rw [ht];exact hg
structure nY (e : E) : Prop where
 good : e.good
 tidy : Tidy e.rows
 sound : e.gone = false -> jq e
 after : ∀ c, (aP (λ k => aH ((e.d.aT c).stand.tp k)) 2).2.gen ≠ 0
theorem jq.gz {e : E} (h : jq e) : nY e := ⟨h.good, h.tidy, λ _ => h, λ c => (h.tells c).1⟩
theorem nY.bE {e : E} (h : nY e) (l : List ay) : nY (e.bE l).1 := by
 by_cases hg : e.gone = true
 ·have hc : (e.bE l).1 = e := by
   unfold E.bE;by_cases q : aX e.rows l ≠ 0
   ·rw [IE q]
   ·rw [IA q, IE hg]
  rw [hc];exact h
 ·have hs := h.sound (by simpa using hg)
  obtain ⟨a1, a2⟩ := x8w (l := l) hs;by_cases q : (e.bE l).2 = 281
  ·obtain ⟨b1, b2, b3⟩ := a2 q
   have hr := x7e e l;refine ⟨x7a h.good, ?_, λ hn => (by rw [b1] at hn; cases hn), λ c => ?_⟩
   ·rw [hr.1, IA (by rw [q]; decide)]
    exact h.tidy
   ·rcases b3 c with b | b
    ·exact b.1
    ·exact b.1
  ·exact (a1 q).gz
theorem nY.stop {e : E} (h : nY e) (n : Int) : nY { e with d := (e.d.stop n).1 } := by
 have hc : ∀ c, (e.d.stop n).1.aT c = e.d.aT c := by
  intro c;unfold D.stop;exact RF
 refine ⟨yH h.good _, h.tidy, λ hg => ?_, λ c => ?_⟩
 ·have hs := h.sound hg
  by_cases hn : n < 0
  ·have e1 : (e.d.stop n).1 = e.d := by unfold D.stop; rw [IE hn]
   rw [e1];exact hs
  ·obtain ⟨e1, e2⟩ := hs.stop (n := n) GX
   rw [e1];exact e2
 ·show (aP (λ k => aH (((e.d.stop n).1.aT c).stand.tp k)) 2).2.gen ≠ 0
  rw [hc c];exact h.after c
theorem nY.aT {e : E} (h : nY e) (c : bH) (hl : ∀ k : Nat, k <= 1 -> ((e.d.aT c).stand.tp k).length <= 1000000) :
 (Em.bY (e.d.aT c) (aP (λ k => aH ((e.d.aT c).stand.tp k)) 2)).2 = 0 /\ nY (Em.bY (e.d.aT c) (aP (λ k => aH ((e.d.aT c).stand.tp k)) 2)).1 := by
 have h0 := (x1p (d := e.d.aT c) (R := tell (aP (λ k => aH ((e.d.aT c).stand.tp k)) 2).2.rows) rfl rfl ⟨h.after c, rfl⟩).1;exact ⟨h0, (z7j (d := e.d.aT c) rfl rfl hl h0).gz⟩
section
open Go.RowKit
attribute [local go_sem] Oper.semAt_some
theorem B_ {c : Em.ay} (h : c.key.length <= 1000 /\ c.value.length <= 5000) : (Em.laid c).length <= 6100 := by
 have h1 := jg c.key;have h2 := jg c.value;unfold Em.laid;rw [IQ, IQ];have h3 : (Wm.jf c.gone).length = 1 := rfl;split
 ·simp only [Jw]; omega
 ·omega
theorem z8j : ∀ {l : List Em.ay}, (∀ c ∈ l, c.key.length <= 1000 /\ c.value.length <= 5000) -> (l.flatMap Em.laid).length <= 6100 * l.length
 | [], _ => GZ
 | r :: R, h => by
  have h1 := B_ (h r (Jp ..));have h2 := z8j (l := R) (λ x hx => h x (Jz _ hx));rw [Ke, IQ, I8];omega
theorem x0b {l : List Em.ay} (h : dJ w F v l) (hl : l.length <= 1000) (hk : ∀ c ∈ l, c.key.length <= 1000 /\ c.value.length <= 5000) :
 Calls prog 92 #[v] w (gP w (Em.dU l)) := by
 obtain ⟨ra, rc, e1⟩ := h.slice;subst e1;have HV := hd2 h hk;clear h hk;have W1 := kY 3;have W2 := kY l.length;have HW := hd1 (show Em.dU l = Wm.aG 3 ++ Wm.aG l.length ++ l.flatMap Em.laid from rfl);generalize hN : l.length = N at *;have HN := hd1 hN;clear hN;obtain ⟨H, hH⟩ := G8 (Wm.aG 3 ++ Wm.aG N);have HL : H.length <= 100 := by
  rw [<-hH, IQ];omega
 have HH := hd1 hH;clear hH;go_in
 go_upto_region 2 with (first
  | (go_at_call 89; refine (E_ 3 w GY).mono ?_; rintro e w1 ⟨v1, rfl, o1, b1⟩; have H1 := hd2 o1 b1; clear o1 b1)
  | (go_at_call 89; refine (Bd (w := w1) (base := w.heap.size) (n := N) H1.2.size H1.1 GX GX).mono ?_; rintro e w2 ⟨v2, rfl, o2, b2⟩; have H2 := hd2 o2 (H1.2.trans b2); clear o2 b2))
 rw [HH.out] at H2;clear H1;go_wp2;go_loopw [3, 4] (λ x s wr => ∃ i : Nat, i <= N /\ s = .int .i64 (i : Int) /\ b_ wr w.heap.size x (H ++ (l.take i).flatMap Em.laid) /\ Below w w wr) (λ _ s _ => N - (intOf s).toNat)
 case atStart => exact ⟨0, IY _, rfl, by simpa using H2.1, H2.2⟩
 case round =>
  obtain ⟨i, hi, rfl, hown, hb⟩ := hrel;obtain ⟨xa, xn, xc, e1⟩ := hown.at.slice3;subst e1;by_cases hlt : i < N
  ·have i0 : (0 : Int) <= (i : Int) := GX
   have i1 : (i : Int) < (N : Int) := GX;obtain ⟨c, hr⟩ : ∃ c, l[i]? = some c := ⟨_, IX Nl⟩;have hk := HV.2 c (Jg hr);obtain ⟨b, o, rfl, _, lb, rg⟩ := HV.1.at hr;have y0 : ∀ y : Wd (Below w w), y.world.cell? (b, o + i * 3) = some (ag c.key) := λ y => (y.ok.cell (p := ⟨b, o + i * 3, none⟩) lb).trans (rg 0 _ rfl);have y2 : ∀ y : Wd (Below w w), y.world.cell? (b, o + i * 3 + 2) = some (.bool c.gone) := λ y => (y.ok.cell (p := ⟨b, o + i * 3 + 2, none⟩) lb).trans (rg 2 _ rfl);have g1 : ∀ W, Below w w W -> W.cell? (b, o + i * 3 + 1) = some (ag c.value) := λ W hb => (hb.cell (p := ⟨b, o + i * 3 + 1, none⟩) lb).trans (rg 1 _ rfl);have g2 : ∀ W, Below w w W -> W.cell? (b, o + i * 3 + 2) = some (.bool c.gone) := λ W hb => (hb.cell (p := ⟨b, o + i * 3 + 2, none⟩) lb).trans (rg 2 _ rfl);have ne : Nonempty (Wd (Below w w)) := ⟨⟨_, Below.refl _ _⟩⟩;have hl' : (H ++ (l.take i).flatMap Em.laid).length <= 7000000 := by
    rw [IQ];have h1 := z8j (l := l.take i) (λ x hx => HV.2 x (Mh hx));exact R_
   have hn : H ++ (l.take (i + 1)).flatMap Em.laid = (H ++ (l.take i).flatMap Em.laid) ++ Em.laid c := by
    rw [JH, hr, L9, <-I5];simp
   have l1 := jg c.key;have l2 := jg c.value;have D := hb.drew;have HO := hd3 hown hb hn;have HG := hd2 g1 g2;obtain ⟨L, hL⟩ := G8 (H ++ (l.take i).flatMap Em.laid);rw [hL] at HO hl';clear hown rg hr hn hb g1 g2 hL;go_upto_region 5 with fail
   refine bD (λ w' => ∃ x : Wd (Below w w), w' = x.world) [14] GV ?_;refine aL [0, 1, 2, 3, 4, 5, 8, 9, 10, 11, 12] 4 _ ⟨⟨_, D⟩, rfl⟩ GV ?_;simp only [fmc, fmn, gta, gcs, gcz];iterate 11 (with_reducible refine ak (λ K hK => ?_); simp only [au, aj]; go_simp; refine hK _ ?_; clear hK K)
   with_reducible refine aB ?_
   refine aA 6 3 _ _ rfl GV ?_;refine IJ rfl λ K hK => ?_;go_simp;refine (y7c c.gone wr.drew).mono ?_;rintro e w1 ⟨v1, rfl, o1, b1⟩;have b1 : Below wr wr w1 := G6.drew.trans b1;have B1 : Below w w w1 := HO.2.1.trans (b1.mono HO.2.1.size);refine hK _ _ (IG ⟨rfl, λ _ => ⟨⟨_, B1⟩, rfl⟩, ?_⟩);clear hK K;refine aA 7 2 _ _ rfl GV ?_;refine dP rfl (.tmp 15) (.tmp 21) rfl w.heap.size w.heap.size w B1 G7 _ L rfl (bi HO.1 b1 G7) _ (Wm.jf c.gone) _ rfl o1.at (by have : (Wm.jf c.gone).length = 1 := rfl; omega) B1.size ?_;intro v2 w2 o2 B2 _;have O2 := o2.out;clear o2 o1;refine IG ⟨rfl, λ _ => ⟨⟨_, B2⟩, rfl⟩, ?_⟩;obtain ⟨x2a, x2n, x2c, e2⟩ := O2.at.slice3;subst e2;refine aA 13 1 _ _ rfl GV ?_;refine IJ rfl λ K hK => ?_;go_simp;refine (AX B2.size O2 (by rw [IQ]; have : (Wm.jf c.gone).length = 1 := rfl; omega) GX).mono ?_;rintro e w3 ⟨v3, rfl, o3, b3⟩;have B3 : Below w w w3 := B2.trans b3;obtain ⟨x3a, x3n, x3c, e3⟩ := o3.at.slice3;subst e3;have O3 := hd2 o3 B3;refine hK _ _ (IG ⟨rfl, λ _ => ⟨⟨_, B3⟩, rfl⟩, ?_⟩);clear hK K;refine eY [14] 0 _ GV ?_;refine Hd ?_;refine ⟨GV, ?_⟩;clear B1 B2 O2 b1 b3 D y0 y2 ne o3;have k2 := HG.2 _ B3;have k1 := HG.1 _ B3;clear B3;cases hg : c.gone
   ·rw [hg] at k2 O3
    have hlc : Em.laid c = Wm.jf false ++ Wm.cB c.key ++ Wm.cB c.value := by unfold Em.laid; rw [hg]; rfl
    have HC := hd1 hlc;clear hlc hg;go_wp2_with (go_at_call 90; refine (AX O3.2.size O3.1 (by rw [IQ, IQ]; have : (Wm.jf false).length = 1 := rfl; omega) GX).mono ?_; rintro e w4 ⟨v4, rfl, o4, b4⟩; have H4 := hd2 o4 (O3.2.trans b4); clear o4 b4)
    go_roundw;case rel => exact ⟨i + 1, GX, by go_num, by rw [HO.2.2, HC.out, <-I5, <-I5]; exact H4.1, H4.2⟩
    case measure => simp [intOf]; omega
   ·rw [hg] at k2 O3
    have hlc : Em.laid c = Wm.jf true ++ Wm.cB c.key := by unfold Em.laid; rw [hg]; simp
    have HC := hd1 hlc;clear hlc hg;go_wp2;go_roundw;case rel => exact ⟨i + 1, GX, by go_num, by rw [HO.2.2, HC.out, <-I5]; exact O3.1, O3.2⟩
    case measure => simp [intOf]; omega
  ·exact PR
end
open Go.RowKit
theorem Bb (k n : Int) (w : World) (hk : -9223372036854775808 <= k) (hk' : k <= 9223372036854775807) (h1 : 1 <= n) (h2 : n <= 1152921504606846976) :
 Calls prog 94 #[.int .i64 k, .int .i64 n] w λ e w' => e = .returned (.int .i64 (pick k n)) /\ w = w' := by
 exact Qp
def w1r (w : World) (F : Nat -> Prop) (l : List UInt8) (e : Ending) (w' : World) : Prop := ∃ v', e = .returned v' /\ Below w.heap.size w w' /\ BytesAt w'.heap (plus F w w') v' l
theorem x2m (W : World) : (Instr.makeSlice dH (.int .i64 256) (.int .i64 256)).run prog W = .ok (.slice (some W.heap.size) 256 256) (W.alloc (.cells (Array.replicate 256 (.int .u8 0)) bV)) := GV
theorem y8u {sv t0 t1 t2 t3 : Value} {x : St} {many : Int} (r : RB w.heap F sv t0 t1 t2 t3 x many) (hm : many <= 4096) (n : Int) : Calls prog 140 #[.agg #[sv, t0, t1, t2, t3], .int .i64 n] w (w1r w F (x.sec n)) := by
 obtain ⟨secs, s1, s2, b0, b1, b2, b3⟩ := r;have hlen := s2.len hm;obtain ⟨sa, sc, rfl, hsc, hsc2⟩ := s1.slice;have hb0 : Below w w (w.alloc (.cells #[.slice sa secs.length sc, t0, t1, t2, t3] aO)) := bla;have r0 := II w (.cells #[.slice sa secs.length sc, t0, t1, t2, t3] aO);obtain ⟨W0, hW0⟩ := G8 (w.alloc (.cells #[.slice sa secs.length sc, t0, t1, t2, t3] aO));rw [hW0] at hb0 r0;have k0 : W0.cell? w.heap.size = some (.slice sa secs.length sc) := ae r0 rfl;have HD := hd3 s1 s2 hb0;clear s1 s2 b0 b1 b2 b3 r0 hb0;have hmk := x2m;go_in;go_upto_region 1 with fail
 clear hW0;go_wp2;go_loop [5] (λ i => ∃ k : Nat, i = .int .i64 (k : Int) /\ k <= secs.length /\ ∀ (j : Nat) m l, j < k -> secs[j]? = some (m, l) -> m ≠ n) (λ i => secs.length - (intOf i).toNat)
 case atStart => exact ⟨0, rfl, IY _, λ j m l hj => GX⟩
 case round =>
  obtain ⟨k, rfl, hk, hno⟩ := hrel;by_cases hlt : k < secs.length
  ·obtain ⟨e, he⟩ : ∃ e, secs[k]? = some e := ⟨_, IX hlt⟩
   obtain ⟨m, ml⟩ := e;obtain ⟨b, o, uk, rfl, e1, e2, e3⟩ : ∃ b o uk, sa = some ⟨b, o, none⟩ /\ W0.cell? ⟨b, o + k * 2, none⟩ = some (.int .i64 m) /\ W0.cell? ⟨b, o + k * 2 + 1, none⟩ = some uk /\ BytesAt w.heap F uk ml := by
    rcases HD.1 with ⟨h1, h2⟩ | ⟨b, o, cap, c', tt, fr, h1, h2, h3, g2, g3, g4⟩
    ·rw [h2] at hlt; simp at hlt
    ·obtain ⟨uk, q1, q2, q3⟩ := g4 k m ml he
     have g3' : W0.heap[b]? = some (.cells c' tt fr) := (HD.2.2.block _ (aa g3)).trans g3;exact ⟨b, o, uk, (JB h1).1, ae g3' q1, ae g3' q2, q3⟩
   have z9v := HD.2.1.qj (m, ml) (Jg he);have hk0 : (0 : Int) <= (k : Int) := GX;have hk1 : (k : Int) < (secs.length : Int) := GX;have H := hd4 he e3 z9v hno;clear he e3 z9v hno;by_cases heq : m = n
   ·have b1 : (m == n) = true := by simpa using heq
    have HE := hd1 heq;clear heq;go_wp2;go_ret;refine ⟨uk, rfl, HD.2.2, ?_⟩;have := H.2.1;rw [H.2.2.1.1, HE.out] at this;exact this.plus HD.2.2
   ·have b1 : (m == n) = false := by simpa using heq
    have HE := hd1 heq;clear heq;go_wp2;go_round
    case rel =>
     refine ⟨k + 1, by go_num, GX, λ j m' l' hj hs => ?_⟩;by_cases hjk : j = k
     ·subst hjk
      rw [H.1] at hs;cases hs;exact HE.out
     ·exact H.2.2.2 j m' l' GX hs
    case measure => simp [intOf]; omega
  ·obtain rfl : k = secs.length := GX
   have hz : x.sec n = zeros := HD.2.1.no n (λ e he hen => by
    obtain ⟨j, hj⟩ := KH.1 he;exact hno j e.1 e.2 (I4.1 hj).1 hj hen)
   have HZ := hd1 hz;clear hz hno;go_wp2;go_ret;refine ⟨_, rfl, HD.2.2.alloc HD.2.2.size _, ?_⟩;rw [HZ.out];refine IC ⟨W0.heap.size, 0, 256, _, bV, (0, 0), by simp [zeros], by simp [zeros], GY, IC ⟨HD.2.2.size, GZ⟩, II _ _, λ i y hi => ?_⟩;have hi2 := I4.1 hi;have hlt2 : i < 256 := by have := hi2.1; rw [zeros, List.length_replicate] at this; exact this
   have hy : y = 0 := by have := hi2.2; simp only [zeros, List.getElem_replicate] at this; exact this.symm
   subst hy;simp [hlt2];rfl
theorem x7b {e : E} {l : List ay} (h : aX e.rows l ≠ 0) : e.bE l = (e, aX e.rows l) := IE h
theorem x7i {e : E} {l : List ay} (h : aX e.rows l = 0) (hg : e.gone = true) : e.bE l = (e, 290) := by
 unfold E.bE;rw [IA GX, IE hg]
theorem z1p {e : E} {l : List ay} (h : aX e.rows l = 0) (hg : e.gone = false) :
 e.bE l = ({ (e.step (behind e.rows l) (aZ l)).1 with gone := decide ((e.step (behind e.rows l) (aZ l)).2 = 281) }, (e.step (behind e.rows l) (aZ l)).2) := by
 unfold E.bE;rw [IA GX, IA (by rw [hg]; decide)]
structure Made (e : E) (l : List ay) (d : D) (gone : Bool) (c : Int) : Prop where
 disk : (e.bE l).1.d = d
 lost : (e.bE l).1.gone = gone
 err : (e.bE l).2 = c
 kept : gone = true -> (e.bE l).1.rows = e.rows /\ (e.bE l).1.gen = e.gen
theorem Gn {e : E} {l : List ay} (h : aX e.rows l = 0) (hg : e.gone = false) (hq : ¬ (32 <= e.aK \/ (aZ l).length = 0 \/ e.d.room / 2 < e.fin + (aZ l).length)) {r : D × Int} (hr : wrote e.d e.tp (aZ l) = r) (hc : r.2 = 0 \/ r.2 = 281) :
 Made e l r.1 (decide (r.2 = 281)) r.2 := by
 have hp := tC (D := behind e.rows l) hq;rw [hr] at hp;have hs : e.step (behind e.rows l) (aZ l) = e.put (behind e.rows l) (aZ l) := by
  unfold E.step;rw [IA];rw [hp];show ¬ r.2 = 280;omega
 have hl := z1p h hg;rw [hs, hp] at hl;refine ⟨by rw [hl], by rw [hl], by rw [hl], λ h2 => ?_⟩;have h2 : r.2 = 281 := by simpa using h2
 rw [hl];refine ⟨?_, rfl⟩;show (if r.2 = 0 then Em.behind e.rows l else e.rows) = e.rows;rw [h2];exact IA GY
theorem z4t {e : E} {l : List ay} (hq : (32 <= e.aK \/ (aZ l).length = 0 \/ e.d.room / 2 < e.fin + (aZ l).length) \/ wrote e.d e.tp (aZ l) = (e.d, 280)) (D : Em.Rows) : e.step D (aZ l) = e.fold D := by
 unfold E.step;rcases Classical.em (32 <= e.aK \/ (aZ l).length = 0 \/ e.d.room / 2 < e.fin + (aZ l).length) with q | q
 ·rw [BD q, IE rfl]
 ·have hw := hq.resolve_left q
  have hp := tC (D := D) q;rw [hw] at hp;have hp : e.put D (aZ l) = (e, 280) := hp;rw [hp, IE rfl]
theorem yJ {e : E} {l : List ay} (h : aX e.rows l = 0) (hg : e.gone = false) (hq : (32 <= e.aK \/ (aZ l).length = 0 \/ e.d.room / 2 < e.fin + (aZ l).length) \/ wrote e.d e.tp (aZ l) = (e.d, 280)) (hm : ¬ 2147483647 <= e.gen)
 {r : D × Int} (hr : bK e.d (1 - e.tp) (folded (e.gen + 1) (behind e.rows l)) = r) : Made e l r.1 (decide (r.2 = 281)) r.2 := by
 have hl := z1p h hg;rw [z4t hq, wG hm, hr] at hl;by_cases q : r.2 = 0
 ·rw [IE q] at hl
  exact ⟨by rw [hl], by rw [hl], by rw [hl], λ h2 => by simp [q] at h2⟩
 ·rw [IA q] at hl
  exact ⟨by rw [hl], by rw [hl], by rw [hl], λ h2 => by rw [hl]; exact ⟨rfl, rfl⟩⟩
theorem BytesAt.take {h : Array Obj} {a : Option Addr} {c : Nat} (x : BytesAt h F (.slice a n c) l) (k : Nat) (hk : k <= n) : BytesAt h F (.slice a k c) (l.take k) := by
 rcases x with ⟨h1, rfl⟩ | ⟨b, o, cap, cc, t, fr, h1, h2, h3, g2, g3, g4⟩
 ·obtain ⟨rfl, rfl, rfl⟩ := JB h1
  obtain rfl : k = 0 := GX;exact IB ⟨rfl, rfl⟩
 ·obtain ⟨rfl, rfl, rfl⟩ := JB h1
  have e : (l.take k).length = k := by simp; omega
  refine IC ⟨b, o, c, cc, t, fr, by rw [e], by rw [e]; omega, h3, g2, g3, λ i y hi => ?_⟩;exact Rz
structure zS (w W0 : World) (F : Nat -> Prop) (sv t0 t1 t2 t3 : Value) (x : St) (many : Int) (s : Step) (u : Value) : Prop where
 below : Below w.heap.size w W0
 r0 : W0.heap[w.heap.size]? = some (.cells #[sv, t0, t1, t2, t3] aO (0, 0))
 r1 : W0.heap[w.heap.size + 1]? = some (.cells #[.int .i64 s.what, .int .i64 s.n, .int .i64 s.many, u] bJ (0, 0))
 r2 : W0.heap[w.heap.size + 1 + 1]? = some (.cells eX aO (0, 0))
 size : W0.heap.size = w.heap.size + 3
 rb : RB w.heap F sv t0 t1 t2 t3 x many
 hu : BytesAt w.heap F u s.b
def uN (F : Nat -> Prop) (w : World) : Nat -> Prop := λ k => (F k /\ k < w.heap.size) \/ w.heap.size + 3 <= k
theorem zS.Bt {X : World} {sv t0 t1 t2 t3 : Value} {x : St} {many : Int} {s : Step} {u : Value} (h : zS w W0 F sv t0 t1 t2 t3 x many s u) (hb : Below W0 W0 X) : RB X.heap (uN F w) sv t0 t1 t2 t3 x many :=
 h.rb.keeps (λ k _ hl => (hb.block k (Hm h.size)).trans (h.below.block k hl)) (λ k hk hl => IB ⟨hk, hl⟩)
theorem zS.uAt {X : World} {sv t0 t1 t2 t3 : Value} {x : St} {many : Int} {s : Step} {u : Value} (h : zS w W0 F sv t0 t1 t2 t3 x many s u) (hb : Below W0 W0 X) : BytesAt X.heap (uN F w) u s.b :=
 h.hu.keeps (λ k _ hl => (hb.block k (Hm h.size)).trans (h.below.block k hl)) (λ k hk hl => IB ⟨hk, hl⟩)
theorem FZ {sv t0 t1 t2 t3 : Value} {x : St} {many : Int} {s : Step} {u : Value} (r : RB w.heap F sv t0 t1 t2 t3 x many) (hu : BytesAt w.heap F u s.b) :
 zS w (lL w #[sv, t0, t1, t2, t3] #[.int .i64 s.what, .int .i64 s.n, .int .i64 s.many, u]) F sv t0 t1 t2 t3 x many s u := by
 obtain ⟨r0, r1, r2, z0⟩ := zw w #[sv, t0, t1, t2, t3] #[.int .i64 s.what, .int .i64 s.n, .int .i64 s.many, u];exact ⟨zx _ _ _, r0, r1, r2, z0, r, hu⟩
theorem FY {W4 W5 : World} {sv t0 t1 t2 t3 : Value} {x : St} {many : Int} (hb0 : Below w w W0) (z0 : W0.heap.size = w.heap.size + 3) (hb4 : Below W0 W0 W4) (hr : RB W4.heap G sv t0 t1 t2 t3 x many)
 (hG : ∀ k, G k -> (F k /\ k < w.heap.size) \/ w.heap.size + 3 <= k) (hM : Moves (λ k => k = w.heap.size + 1 + 1) W4 W5) : qE w F x many (.returned (.agg #[sv, t0, t1, t2, t3])) W5 := by
 have z4 := hb4.size;have z5 := hM.size;refine ⟨sv, t0, t1, t2, t3, rfl, Moves.new (hb0.trans (hb4.mono GX)) hM GX, hr.keeps (λ k hk hl => hM.block k hl ?_) (λ k hk hl => ?_)⟩
 ·rcases hG k hk with h | h <;> omega
 ·exact Qu
theorem z7t {X Y : World} (hX : w.heap.size + 3 <= X.heap.size) : ∀ k, plus (uN F w) X Y k -> (F k /\ k < w.heap.size) \/ w.heap.size + 3 <= k := λ k hk => by
 exact Q_
theorem y8r {sv t0 t1 t2 t3 : Value} {x : St} {many : Int} (sn sm : Int) (sb : List UInt8) {u : Value} (r : RB w.heap F sv t0 t1 t2 t3 x many) (hu : BytesAt w.heap F u sb) (k : Int) :
 Calls prog 95 #[.agg #[sv, t0, t1, t2, t3], .agg #[.int .i64 3, .int .i64 sn, .int .i64 sm, u], .int .i64 k] w (qE w F (x.part ⟨3, sn, sm, sb⟩ k) many) := by
 have hin := FZ (s := ⟨3, sn, sm, sb⟩) r hu;have ones := r.ones;obtain ⟨W0, hW0⟩ := G8 (lL w #[sv, t0, t1, t2, t3] #[.int .i64 3, .int .i64 sn, .int .i64 sm, u]);rw [hW0] at hin;have e : x.part ⟨3, sn, sm, sb⟩ k = x := by simp [St.part]
 rw [e];have k0 : W0.cell? (w.heap.size + 1, 0) = some (.int .i64 3) := ae hin.r1 rfl;have aC := hd2 hin ones;clear hin ones r hu e;go_in;go_upto_region 1 with fail
 clear hW0
 go_wp2_with (first
  | (refine He aC.1.r0 Ib bX ?_)
  | (refine aD rfl aO _ _ rfl (w.heap.size + 1 + 1) #[sv, t0, t1, t2, t3] rfl rfl aO eX aC.1.r2 bX rfl aC.2 ?_
     intro W5 aF az bf))
 refine Hg aF.out Ib bX ?_;exact FY aC.1.below aC.1.size G6 (aC.1.Bt G6) (λ k hk => hk) az
theorem y8s {sv t0 t1 t2 t3 : Value} {x : St} {many : Int} (sn sm : Int) (sb : List UInt8) {u : Value} (r : RB w.heap F sv t0 t1 t2 t3 x many) (hu : BytesAt w.heap F u sb) (hm : many <= 4096) (h0 : 0 <= sn) (h3 : sn <= 3) (hb : sb.length <= 1048576)
 (hx : ∀ t, (x.tp t).length <= 1048576) (k : Int) (hk : -9223372036854775808 <= k) (hk' : k <= 9223372036854775807) :
 Calls prog 95 #[.agg #[sv, t0, t1, t2, t3], .agg #[.int .i64 2, .int .i64 sn, .int .i64 sm, u], .int .i64 k] w (qE w F (x.part ⟨2, sn, sm, sb⟩ k) many) := by
 have hin := FZ (s := ⟨2, sn, sm, sb⟩) r hu;obtain ⟨W0, hW0⟩ := G8 (lL w #[sv, t0, t1, t2, t3] #[.int .i64 2, .int .i64 sn, .int .i64 sm, u]);rw [hW0] at hin;have p0 : 0 <= pick k ((sb.length : Int) + 1) := Ls _ GX;have p1 : pick k ((sb.length : Int) + 1) < (sb.length : Int) + 1 := Int.emod_lt_of_pos _ GX;have e : x.part ⟨2, sn, sm, sb⟩ k = x.done ⟨2, sn, 0, sb.take (pick k ((sb.length : Int) + 1)).toNat⟩ := by simp [St.part]
 rw [e];have PK := hd1 (λ w => Bb k ((sb.length : Int) + 1) w hk hk' GX GX);obtain ⟨j, ej, hj⟩ := lF (n := pick k ((sb.length : Int) + 1)) (k := (sb.length : Int)) p0 GX;rw [ej] at PK ⊢;rw [Ku];have hwr : IntKind.i64.wrap ((sb.length : Int) + 1) = (sb.length : Int) + 1 := Jd _ GX;clear p0 p1 ej e;obtain ⟨ua, uc, rfl⟩ := hu.slice;have huc : sb.length <= uc /\ (ua = none -> sb.length = 0) := by
  rcases hu with ⟨h1, h2⟩ | ⟨b, o, cap, cc, t, fr, h1, h2, h3, g2, g3, g4⟩
  ·rw [h2]; exact ⟨IY _, λ _ => rfl⟩
  ·rw [(JB h1).2.2, (JB h1).1]; exact ⟨h2, λ h => by cases h⟩
 have k0 : W0.cell? ⟨w.heap.size + 1, 0, none⟩ = some (.int .i64 2) := ae hin.r1 rfl;have x1 : ∀ x : Wd (Below W0 W0), x.world.cell? ⟨w.heap.size + 1, 1, none⟩ = some (.int .i64 sn) := λ x => (x.ok.cell (p := ⟨w.heap.size + 1, 1, none⟩) (aa hin.r1)).trans (ae hin.r1 rfl);have x3 : ∀ x : Wd (Below W0 W0), x.world.cell? ⟨w.heap.size + 1, 3, none⟩ = some (.slice ua sb.length uc) := λ x => (x.ok.cell (p := ⟨w.heap.size + 1, 3, none⟩) (aa hin.r1)).trans (ae hin.r1 rfl);have LD : Hid (∀ w', (∃ x : Wd (Below W0 W0), w' = x.world) -> (Instr.loadAt aO (.pointer (some ⟨w.heap.size, 0, none⟩))).run prog w' = .ok (.agg #[sv, t0, t1, t2, t3]) w') := by
  rintro w' ⟨x, rfl⟩;exact gy ((x.ok.block _ (aa hin.r0)).trans hin.r0) Ib rfl bX
 have ne : Nonempty (Wd (Below W0 W0)) := ⟨⟨_, Below.refl _ _⟩⟩;have aC := hd1 hin;have HB := hd5 hb hx hm h0 h3;have hj0 : (0 : Int) <= (j : Int) := GX;have hj1 : (j : Int) <= (uc : Int) := GX;have hbb : (sb.length : Int) <= 1048576 := GX;clear hin r hu hb hx hk hk' hm h0 h3;have HJ := hd1 hj;have HUC := hd1 huc;clear hj huc;go_in;go_upto_region 1 with fail
 clear hW0;go_upto_region 7 with fail
 clear k0;refine bD (λ w' => ∃ x : Wd (Below W0 W0), w' = x.world) [14] GV ?_;refine aL [0, 1, 2, 3, 4, 5, 6, 7, 8, 9] 5 _ Hu GV ?_;simp only [fmc, fmn, gta, gcs, gcz];refine eH rfl aO (.tmp 3) rfl _ LD.out ?_;repeat refine Ha ?_
 refine aB ?_;refine aA 10 4 _ _ rfl GV ?_;refine IJ rfl λ K hK => ?_;go_simp;go_at_call 94;refine (PK.out _).mono ?_;rintro e w' ⟨rfl, rfl⟩;refine hK _ _ (IG ⟨rfl, λ _ => Hu, ?_⟩);clear hK K;refine aL [11, 12] 2 _ Hu GV ?_;refine Hd ?_;refine aA 13 1 _ _ rfl GV ?_;refine IJ rfl λ K hK => ?_;go_simp;go_at_call 85;refine (yz (s := ⟨2, sn, 0, sb.take j⟩) (aC.Bt G6.drew) HB.2.2.1 (IC (IB ⟨rfl, HB.2.2.2.1, HB.2.2.2.2, rfl, by have := HB.1; simp; omega⟩)) (BytesAt.take (aC.uAt (X := W0.drew) G6.drew) j (Hm HJ.out)) HB.2.1).mono ?_;rintro e W1 ⟨gU, u0, u1, u2, u3, rfl, hb1, dI⟩;have hb1' : Below W0 W0 W1 := G6.drew.trans hb1;refine hK _ _ (IG ⟨rfl, λ _ => ⟨⟨_, hb1'⟩, rfl⟩, ?_⟩);clear hK K;have R1 := hd2 hb1' dI;clear dI hb1;refine aA 14 0 _ _ rfl GV ?_;refine aD rfl aO _ _ rfl (w.heap.size + 1 + 1) #[gU, u0, u1, u2, u3] rfl rfl aO eX ((hb1'.block _ (aa aC.r2)).trans aC.r2) bX rfl R1.2.ones ?_;intro W5 aF az bf;refine IG ⟨rfl, λ h => absurd GY h, GV, ?_⟩;have H5 := hd1 az;clear az bf;go_wp2;refine Hg aF.out Ib bX ?_;exact FY aC.below aC.size R1.1 R1.2 (z7t (by have := aC.size; show _ <= W0.heap.size; omega)) H5.out
theorem BytesAt.x6u {h : Array Obj} {b o c : Nat} (x : BytesAt h F (.slice (some (b, o)) n c) l) (k : Nat) (hk : k <= n) : BytesAt h F (.slice (some (b, o + k)) (n - k) (c - k)) (l.drop k) := by
 rcases x with ⟨h1, _⟩ | ⟨b', o', cap, cc, t, fr, h1, h2, h3, g2, g3, g4⟩
 ·cases h1
 ·obtain ⟨e1, rfl, rfl⟩ := JB h1
  simp only [JC, Addr.mk.injEq] at e1;obtain ⟨rfl, rfl, _⟩ := e1;refine IC ⟨b, o + k, c - k, cc, t, fr, GZ, by simp; omega, GX, g2, g3, λ i y hi => ?_⟩;rw [List.getElem?_drop] at hi;rw [JD];exact g4 (k + i) y hi
theorem y8q {sv t0 t1 t2 t3 : Value} {x : St} {many : Int} (sn sm : Int) (sb : List UInt8) {u : Value} (r : RB w.heap F sv t0 t1 t2 t3 x many) (hu : BytesAt w.heap F u sb) (hm : many <= 4096) (h0 : 0 <= sn) (h3 : sn < many) (hb : sb.length = 256)
 (hx : ∀ t, (x.tp t).length <= 1048576) (hxs : ∀ n, (x.sec n).length = 256) (k : Int) (hk : -9223372036854775808 <= k) (hk' : k <= 9223372036854775807) :
 Calls prog 95 #[.agg #[sv, t0, t1, t2, t3], .agg #[.int .i64 1, .int .i64 sn, .int .i64 sm, u], .int .i64 k] w (qE w F (x.part ⟨1, sn, sm, sb⟩ k) many) := by
 have hin := FZ (s := ⟨1, sn, sm, sb⟩) r hu;obtain ⟨W0, hW0⟩ := G8 (lL w #[sv, t0, t1, t2, t3] #[.int .i64 1, .int .i64 sn, .int .i64 sm, u]);rw [hW0] at hin;have p0 : 0 <= pick k 257 := Ls _ GX;have p1 : pick k 257 < 257 := Int.emod_lt_of_pos _ GX;have e : x.part ⟨1, sn, sm, sb⟩ k = x.done ⟨1, sn, 0, sb.take (pick k 257).toNat ++ (x.sec sn).drop (pick k 257).toNat⟩ := by simp [St.part]
 rw [e];have PK := hd1 (λ w => Bb k 257 w hk hk' GX GX);obtain ⟨j, ej, hj⟩ := lF (n := pick k 257) (k := 256) p0 GX;rw [ej] at PK ⊢;rw [Ku];have SC := hd1 (y8u (hin.Bt G6) hm sn);have hsl := hxs sn;generalize x.sec sn = os at *;clear p0 p1 ej e;obtain ⟨ua, uc, rfl⟩ := hu.slice;have huc : 256 <= uc := by
  rcases hu with ⟨h1, h2⟩ | ⟨b, o, cap, cc, t, fr, h1, h2, h3, g2, g3, g4⟩
  ·rw [h2] at hb; simp at hb
  ·rw [(JB h1).2.2]; omega
 have k0 : W0.cell? ⟨w.heap.size + 1, 0, none⟩ = some (.int .i64 1) := ae hin.r1 rfl;have k1 : W0.cell? ⟨w.heap.size + 1, 1, none⟩ = some (.int .i64 sn) := ae hin.r1 rfl;have aC := hd1 hin;have HB := hd6 hb hx hm h0 h3 hsl;have hj0 : (0 : Int) <= (j : Int) := GX;have hj1 : (j : Int) <= (uc : Int) := GX;have hj2 : (j : Int) <= 256 := hj;clear hin r hx hxs hk hk' hm h0 h3;have p8 : (sb.take j).length = j := by rw [I7]; omega
 have LT := hd1 p8;clear p8;rw [hb] at *;clear hb;have HJ := hd1 hj;clear hj;go_in;go_upto_region 1 with fail
 clear hW0
 go_upto_region 5 with (first
  | (go_at_call 94; refine (PK.out _).mono ?_; rintro e w' ⟨rfl, rfl⟩)
  | (refine He aC.r0 Ib bX ?_)
  | (go_at_call 140; refine SC.mono ?_; rintro e W1 ⟨v1, rfl, hb1, f1⟩))
 obtain ⟨ob, oo, oc, rfl, hoc, w1i⟩ : ∃ ob oo oc, v1 = .slice (some ⟨ob, oo, none⟩) 256 oc /\ 256 <= oc /\ (oc : Int) <= 9223372036854775807 := by
  rcases f1 with ⟨h1, h2⟩ | ⟨b, o, cap, cc, t, fr, h1, h2, h3, g2, g3, g4⟩
  ·rw [h2] at hsl; simp at hsl
  ·exact ⟨b, o, cap, by rw [h1, hsl], GX, GX⟩
 have r0 := (hb1.block _ (aa aC.r0)).trans aC.r0;have r1 := (hb1.block _ (aa aC.r1)).trans aC.r1;have x1 : ∀ x : Wd (Below W1 W1), x.world.cell? ⟨w.heap.size + 1, 1, none⟩ = some (.int .i64 sn) := λ x => (x.ok.cell (p := ⟨w.heap.size + 1, 1, none⟩) (aa r1)).trans (ae r1 rfl);have x3 : ∀ x : Wd (Below W1 W1), x.world.cell? ⟨w.heap.size + 1, 3, none⟩ = some (.slice ua 256 uc) := λ x => (x.ok.cell (p := ⟨w.heap.size + 1, 3, none⟩) (aa r1)).trans (ae r1 rfl);have LD : Hid (∀ w', (∃ x : Wd (Below W1 W1), w' = x.world) -> (Instr.loadAt aO (.pointer (some ⟨w.heap.size, 0, none⟩))).run prog w' = .ok (.agg #[sv, t0, t1, t2, t3]) w') := by
  rintro w' ⟨x, rfl⟩;exact gy ((x.ok.block _ (aa r0)).trans r0) Ib rfl bX
 have ne : Nonempty (Wd (Below W1 W1)) := ⟨⟨_, Below.refl _ _⟩⟩;have hj4 : (j : Int) <= (oc : Int) := GX;have H1 := hd4 hb1 f1 r0 r1;clear hb1 f1 r0 r1 k0 k1 SC hsl;have bt : BytesAt W1.heap (plus (uN F w) W0 W1) (.slice (if oc = j then some ⟨ob, oo, none⟩ else some ⟨ob, oo + j, none⟩) (256 - j) (oc - j)) (os.drop j) := by
  split
  ·rename_i h
   subst h;have e1 : oc = 256 := GX;have e2 : os.drop oc = [] := by rw [Mf, HB.2.2.2.2.2]; omega
   rw [e2, e1];rcases H1.2.1 with ⟨h1, _⟩ | ⟨b, o, cap, cc, t, fr, h1, h2, h3, g2, g3, g4⟩
   ·cases h1
   ·obtain ⟨e1, _, _⟩ := JB h1
    simp only [JC, Addr.mk.injEq] at e1;obtain ⟨rfl, rfl, _⟩ := e1;exact IC ⟨ob, oo, 0, cc, t, fr, rfl, Nat.le_refl _, GX, g2, g3, λ i y hi => by simp at hi⟩
  ·exact H1.2.1.x6u j GX
 have ut : BytesAt W1.heap (uN F w) (.slice ua j uc) (sb.take j) := (aC.uAt H1.1).take j GX;have BT := hd2 bt ut;have p8 := LT.out;have ld1 : (os.drop j).length = 256 - j := by rw [I9, HB.2.2.2.2.2]
 clear bt ut;have LL := hd2 p8 ld1;clear p8 ld1;generalize sb.take j = la at *;generalize os.drop j = lb at *;go_wp2;refine bD (λ w' => ∃ x : Wd (Below W1 W1), w' = x.world) [15] GV ?_;refine aL [0, 1, 2, 4, 5, 6, 7, 9, 10, 11] 6 _ Hu GV ?_;simp only [fmc, fmn, gta, gcs, gcz];refine eH rfl aO (.tmp 3) rfl _ LD.out ?_;repeat refine Ha ?_
 refine aB ?_;generalize (if oc = j then some ⟨ob, oo, none⟩ else some ⟨ob, oo + j, none⟩ : Option Addr) = ta at *;refine aA 3 5 _ _ rfl GV ?_;refine IJ rfl λ K hK => ?_;go_simp;have hb2 : Below W1 W1 (W1.alloc (.cells #[] bV)).drew := (bla).drew;have qZ : b_ (W1.alloc (.cells #[] bV)).drew W1.heap.size (.slice (some W1.heap.size) 0 0) [] := BH W1;refine hK _ _ (IG ⟨rfl, λ _ => ⟨⟨_, hb2⟩, rfl⟩, ?_⟩);clear hK K;have lZ := hd1 qZ;clear qZ;generalize (W1.alloc (.cells #[] bV)).drew = W2 at *;refine aA 8 4 _ _ rfl GV ?_;refine dP rfl (.tmp 22) (.tmp 26) rfl W1.heap.size W1.heap.size W1 hb2 G7 _ [] rfl lZ.out _ la (uN F w) (by rw [<-LL.1]; rfl) (LL.1 ▸ BT.2.keeps (λ k _ hl => hb2.block k hl) (λ _ h _ => h)) (by have := LL.1; simp; omega) hb2.size ?_;intro v3 W3 iD hb3 _;refine IG ⟨rfl, λ _ => ⟨⟨_, hb3⟩, rfl⟩, ?_⟩;rw [Jj] at iD;refine aA 12 3 _ _ rfl GV ?_;refine dP rfl (.tmp 27) (.tmp 30) rfl W1.heap.size W1.heap.size W1 hb3 G7 _ la rfl iD.out _ lb (plus (uN F w) W0 W1) (by rw [<-LL.2]; rfl) (LL.2 ▸ BT.1.keeps (λ k _ hl => hb3.block k hl) (λ _ h _ => h)) (Ho LL.1 LL.2) hb3.size ?_;intro v4 W4 kW hb4 _;refine IG ⟨rfl, λ _ => ⟨⟨_, hb4⟩, rfl⟩, ?_⟩;have z8i : (la ++ lb).length = 256 := by have := LL.1; have := LL.2; simp; omega
 generalize la ++ lb = lc at *;obtain ⟨a4, c4, rfl⟩ := kW.bytes.bytes.slice;have L4 := hd1 z8i;clear z8i;refine aL [13] 2 _ ⟨⟨_, hb4⟩, rfl⟩ GV ?_;refine Hd ?_;have z0 := aC.size;have z1 := H1.1.size;have Cr : Below W0 W0 W4 := H1.1.trans (hb4.mono z1);have DC := hd1 (yz (s := ⟨1, sn, 0, lc⟩) (aC.Bt Cr) HB.2.2.1 (IB ⟨rfl, HB.2.2.2.1, HB.2.2.2.2.1, rfl, L4.out⟩) (kW.bytes.bytes.keeps (λ _ _ _ => rfl) (λ k hk _ => IC (by have : W1.heap.size <= k := hk; omega))) HB.2.1);refine aA 14 1 _ _ rfl GV ?_;refine IJ rfl λ K hK => ?_;go_simp;go_at_call 85;refine DC.mono ?_;rintro e W5 ⟨gU, u0, u1, u2, u3, rfl, hb5, rb5⟩;have x4k : Below W1 W1 W5 := hb4.trans (hb5.mono hb4.size);refine hK _ _ (IG ⟨rfl, λ _ => ⟨⟨_, x4k⟩, rfl⟩, ?_⟩);clear hK K;have R5 := hd2 (Cr.trans (hb5.mono Cr.size)) rb5;clear rb5 hb5 DC;refine aA 15 0 _ _ rfl GV ?_;refine aD rfl aO _ _ rfl (w.heap.size + 1 + 1) #[gU, u0, u1, u2, u3] rfl rfl aO eX ((R5.1.block _ (aa aC.r2)).trans aC.r2) bX rfl R5.2.ones ?_;intro W6 iQ ik oh;refine IG ⟨rfl, λ h => absurd GY h, GV, ?_⟩;have H6 := hd1 ik;clear ik oh;go_wp2;refine Hg iQ.out Ib bX ?_;exact FY aC.below aC.size R5.1 R5.2 (z7t (Hm Cr.size)) H6.out
theorem z5n {sv t0 t1 t2 t3 : Value} {x : St} {many : Int} {s : Step} {u : Value} (r : RB w.heap F sv t0 t1 t2 t3 x many) (hm : many <= 4096) (hs : s.ok many) (hu : BytesAt w.heap F u s.b)
 (hx : ∀ t, (x.tp t).length <= 1048576) (hxs : ∀ n, (x.sec n).length = 256) (k : Int) (hk : -9223372036854775808 <= k) (hk' : k <= 9223372036854775807) :
 Calls prog 95 #[.agg #[sv, t0, t1, t2, t3], .agg #[.int .i64 s.what, .int .i64 s.n, .int .i64 s.many, u], .int .i64 k] w (qE w F (x.part s k) many) := by
 obtain ⟨what, n, mm, b⟩ := s;rcases hs with ⟨h1, h2, h3, h4, h5⟩ | ⟨h1, h2, h3, h4, h5⟩ | ⟨h1, h2, h3, h4, h5, h6⟩
 ·simp only at h1
  subst h1;exact y8q n mm b r hu hm h2 h3 h5 hx hxs k hk hk'
 ·simp only at h1
  subst h1;exact y8s n mm b r hu hm h2 h3 h5 hx k hk hk'
 ·simp only at h1
  subst h1;exact y8r n mm b r hu k
def xq (F : Nat -> Prop) (w : World) (e0 : Nat) : Nat -> Prop := λ k => (F k /\ k < w.heap.size) \/ e0 < k
structure kg (w W : World) (F : Nat -> Prop) (d : D) (C : Array Value) (kv : Value) (c : bH) (e0 : Nat) (x : St) (en : Int -> Bool) : Prop where
 below : Below w.heap.size w W
 far : w.heap.size + 3 < e0
 r0 : W.heap[w.heap.size]? = some (.cells C af (0, 0))
 r1 : W.heap[w.heap.size + 1]? = some (.cells #[kv, .int .i64 c.bq, .int .i64 c.part] ji (0, 0))
 r2 : W.heap[w.heap.size + 1 + 1]? = some (.cells bS af (0, 0))
 ends : W.heap[e0]? = some (.cells #[.bool (en 0), .bool (en 1), .bool (en 2), .bool (en 3)] mE (0, 0))
 rb : ∃ sv t0 t1 t2 t3, W.heap[w.heap.size + 1 + 1 + 1]? = some (.cells #[sv, t0, t1, t2, t3] aO (0, 0)) /\ RB W.heap (xq F w e0) sv t0 t1 t2 t3 x d.many
section
variable {w W W' : World} {F : Nat -> Prop} {d : D} {C : Array Value} {kv : Value} {c : bH} {e0 : Nat} {x x' : St} {en : Int -> Bool}
theorem kg.next (h : kg w W F d C kv c e0 x en) (hb : Below W W W') : kg w W' F d C kv c e0 x en := by
 obtain ⟨sv, t0, t1, t2, t3, r3, rb⟩ := h.rb
 exact ⟨h.below.trans (hb.mono h.below.size), h.far, (hb.block _ (aa h.r0)).trans h.r0, (hb.block _ (aa h.r1)).trans h.r1, (hb.block _ (aa h.r2)).trans h.r2, (hb.block _ (aa h.ends)).trans h.ends,
  sv, t0, t1, t2, t3, (hb.block _ (aa r3)).trans r3, rb.keeps (λ k _ hl => hb.block k hl) (λ k hk _ => hk)⟩
theorem kg.did (h : kg w W F d C kv c e0 x en) {sv t0 t1 t2 t3 : Value} (hb : Below W W W1) (r : RB W1.heap (plus (xq F w e0) W W1) sv t0 t1 t2 t3 x' d.many)
 (hm : Moves (λ k => k = w.heap.size + 1 + 1 + 1) W1 W2) (hw : W2.heap[w.heap.size + 1 + 1 + 1]? = some (.cells #[sv, t0, t1, t2, t3] aO)) : kg w W2 F d C kv c e0 x' en := by
 have h1 := h.next hb;have hz := h.below.size;have le := aa h.ends;have hf := h.far
 refine ⟨Moves.new h1.below hm GX, h.far, (hm.block _ (aa h1.r0) GX).trans h1.r0, (hm.block _ (aa h1.r1) GX).trans h1.r1, (hm.block _ (aa h1.r2) GX).trans h1.r2, (hm.block _ (aa h1.ends) GX).trans h1.ends,
  sv, t0, t1, t2, t3, hw, r.keeps (λ k hk hl => hm.block k hl (λ e => ?_)) (λ k hk _ => ?_)⟩
 ·rcases hk with (hk | hk) | hk <;> omega
 ·exact Q_
theorem kg.rW (h : kg w W F d C kv c e0 x en) (t : Nat) (ht : t < 4) : W.cell? (e0, t) = some (.bool (en t)) := by
 exact Ra
theorem kg.wL (h : kg w W F d C kv c e0 x en) (t : Nat) (ht : t < 4) (b : Bool) : kg w (W.setCell (e0, t) (.bool b)) F d C kv c e0 x (upd en t b) := by
 have ho : ∀ k, k ≠ e0 -> (W.setCell (e0, t) (.bool b)).heap[k]? = W.heap[k]? := λ k hk => IW W _ k _ hk;have hf := h.far;obtain ⟨sv, t0, t1, t2, t3, r3, rb⟩ := h.rb
 refine ⟨⟨h.below.os, h.below.tape, h.below.output, by simpa using h.below.size, λ k hk => (ho k GX).trans (h.below.block k hk)⟩, h.far, (ho _ GX).trans h.r0, (ho _ GX).trans h.r1, (ho _ GX).trans h.r2, ?_,
  sv, t0, t1, t2, t3, (ho _ GX).trans r3, rb.keeps (λ k hk _ => ho k (by rcases hk with hk | hk <;> omega)) (λ k hk _ => hk)⟩
 exact QJ
end
theorem y4e {en : Int -> Bool} {n : Int} (h : en n = false) : upd en n false = en := by
 funext k
 unfold upd;split
 ·rename_i e; rw [e, h]
 ·rfl
def lY (w : World) (F : Nat -> Prop) (d : D) (C : Array Value) (kv : Value) (c : bH) (e0 : Nat) (k : Nat) (W : World) : Prop :=
 ∃ x en, kg w W F d C kv c e0 x en /\ gq d k x en /\ eQ c d.waits.length (d.waits.drop k) k x en = eQ c d.waits.length d.waits 0 d.lasts (λ _ => false)
theorem lY.next {d : D} {kv : Value} {c : bH} {e0 k : Nat} {x : St} {en : Int -> Bool} {s : Step} (ok : d.ok) (inv : gq d k x en) (cZ : eQ c d.waits.length (d.waits.drop k) k x en = eQ c d.waits.length d.waits 0 d.lasts (λ _ => false))
 (hs : d.waits[k]? = some s) (hk : ¬ (s.what ≠ 1 /\ en s.n = true)) {x' : St} {en' : Int -> Bool} (cs : kg w W F d C kv c e0 x' en') (hx : x' = eG c d.waits.length k s x) (he : en' = f_ c d.waits.length k s en) : lY w F d C kv c e0 (k + 1) W := by
 exact Qz
theorem lY.skip {d : D} {kv : Value} {c : bH} {e0 k : Nat} {x : St} {en : Int -> Bool} {s : Step} (inv : gq d k x en) (cZ : eQ c d.waits.length (d.waits.drop k) k x en = eQ c d.waits.length d.waits 0 d.lasts (λ _ => false))
 (hs : d.waits[k]? = some s) (hk : s.what ≠ 1 /\ en s.n = true) (cs : kg w W F d C kv c e0 x en) : lY w F d C kv c e0 (k + 1) W := by
 refine ⟨_, _, cs, inv.skip hs hk, ?_⟩;obtain ⟨hlt, e⟩ := I4.1 hs;rw [<-cZ, K9 hlt, e, Df _ _ _ _ _ _ _ hk]
theorem x0n {d : D} {sv t0 t1 t2 t3 kv : Value} {c : bH} (rb : RB w.heap F sv t0 t1 t2 t3 d.lasts d.many)
 (hm : Moves (λ k => k = w.heap.size + 1 + 1 + 1) ((((w.alloc (.cells C af)).alloc (.cells #[kv, .int .i64 c.bq, .int .i64 c.part] ji)).alloc (.cells bS af)).alloc (.cells eX aO)) W1)
 (hw : W1.heap[w.heap.size + 1 + 1 + 1]? = some (.cells #[sv, t0, t1, t2, t3] aO)) :
 kg w (W1.alloc (.cells #[false, false, false, false] mE)) F d C kv c W1.heap.size d.lasts (λ _ => false) := by
 have z := aa hw;have a0 : ((((w.alloc (.cells C af)).alloc (.cells #[kv, .int .i64 c.bq, .int .i64 c.part] ji)).alloc (.cells bS af)).alloc (.cells eX aO)).heap[w.heap.size]? = some (.cells C af) := aM NP (aM NP (aM GZ (II w _)));have a1 : ((((w.alloc (.cells C af)).alloc (.cells #[kv, .int .i64 c.bq, .int .i64 c.part] ji)).alloc (.cells bS af)).alloc (.cells eX aO)).heap[w.heap.size + 1]? = some (.cells #[kv, .int .i64 c.bq, .int .i64 c.part] ji) := aM NP (aM GZ (bC (w := w.alloc _) _ GZ));have a2 : ((((w.alloc (.cells C af)).alloc (.cells #[kv, .int .i64 c.bq, .int .i64 c.part] ji)).alloc (.cells bS af)).alloc (.cells eX aO)).heap[w.heap.size + 1 + 1]? = some (.cells bS af) := aM GZ (bC (w := (w.alloc _).alloc _) _ GZ);have hb : Below w w ((((w.alloc (.cells C af)).alloc (.cells #[kv, .int .i64 c.bq, .int .i64 c.part] ji)).alloc (.cells bS af)).alloc (.cells eX aO)) := (((bla).alloc GZ _).alloc NP _).alloc NP _;have hb1 : Below w w W1 := Moves.new hb hm GX;have hb2 : Below w w (W1.alloc (.cells #[false, false, false, false] mE)) := hb1.alloc hb1.size _;have q0 := (hm.block _ (aa a0) GX).trans a0;have q1 := (hm.block _ (aa a1) GX).trans a1;have q2 := (hm.block _ (aa a2) GX).trans a2;refine ⟨hb2, GX, aM (aa q0) q0, aM (aa q1) q1, aM (aa q2) q2, II _ _, sv, t0, t1, t2, t3, aM z hw, rb.keeps (λ k _ hl => hb2.block k hl) (λ k hk hl => IB ⟨hk, hl⟩)⟩
theorem x8m (h : aV w q l) (hl : l.length <= 1000000000) (hr : Em.kL l = none) :
 Calls prog 151 #[.agg #[.pointer (some q)]] w λ e w' => e = .panicked fM /\ Moves (λ k => k = q) w w' := by
 have lq := h.lt;obtain ⟨W, hW⟩ := G8 ((w.alloc (.cells #[.pointer (some ⟨q, 0, none⟩)] cK)).alloc (.cells (Dl (.string ⟨#[]⟩) (.string ⟨#[]⟩) false) a_));have B : Below w w W := by rw [<-hW]; exact (bla).alloc GZ _
 have r1 : W.heap[w.heap.size]? = some (.cells #[q] cK) := by rw [<-hW]; exact aM GZ (II w _)
 have r2 : W.heap[w.heap.size + 1]? = some (.cells (Dl (.string ⟨#[]⟩) (.string ⟨#[]⟩) false) a_ (0, 0)) := by rw [<-hW]; exact bC (w := w.alloc _) _ GZ
 have c1 := ae r1 (j := 0) rfl;unfold Em.kL at hr;cases ht : Wm.iI l with
 | none =>
  have TC := hd1 (y4b (h.later B) hl ht);have HB := hd1 B;have HW := hd1 hW;clear h B r1 r2 lq hW ht hr;go_in;go_upto_region 1 with fail
  rw [HW.out]
  go_wp2_with (first
   | (go_at_call 179; refine TC.mono ?_; rintro e w1 ⟨rfl, m1⟩; have H1 := hd1 m1; clear m1 c1)
   | (go_at_call 109; refine (iK _).mono ?_; rintro e w' ⟨rfl, rfl⟩))
  exact Ta
 | some p =>
  obtain ⟨g, ra⟩ := p;rw [ht] at hr;simp only at hr;have la := AU ht;have TC := hd1 (z3t (h.later B) hl ht);have HB := hd4 B r1 r2 lq;have HW := hd1 hW;clear h B r1 r2 lq hW ht;cases hk : Wm.df 64 ra with
  | none =>
   have KC := hd1 (λ (X : World) (hx : aV X q ra) => CU hx GX hk);clear hr hk;go_in;go_upto_region 1 with fail
   rw [HW.out]
   go_wp2_with (first
    | (go_at_call 179; refine TC.mono ?_; rintro e w1 ⟨rfl, x1, m1⟩
       have j1 := (I1 (m1.block w.heap.size (aa HB.2.1) (Hm HB.2.2.2))).trans c1;have H1 := hd2 x1 m1;clear x1 m1 c1)
    | (go_at_call 109; refine (kN _).mono ?_; rintro e w' ⟨rfl, rfl⟩)
    | (go_at_call 150; refine (KC.out _ H1.1).mono ?_; rintro e w2 ⟨rfl, m2⟩))
   exact ⟨rfl, rfl, ((Moves.of_below HB.1).trans H1.2 (λ _ _ h => h)).trans m2 (λ _ _ h => h)⟩
  | some p =>
   obtain ⟨k, rb⟩ := p;rw [hk] at hr;simp only at hr;have lb := (lC hk).1;have KC := hd1 (λ (X : World) (hx : aV X q ra) => qi hx GX hk);clear hk;cases g with
   | true => rw [IE rfl] at hr; cases hr
   | false =>
    rw [IA GY] at hr;have hv : Wm.df 4096 rb = none := by
     cases hv : Wm.df 4096 rb with
     | none => rfl
     | some p => rw [hv] at hr; cases hr
    have VC := hd1 (λ (X : World) (hx : aV X q rb) => CU hx GX hv);clear hr hv;go_in;go_upto_region 1 with fail
    rw [HW.out]
    go_upto_region 4 with (first
     | (go_at_call 179; refine TC.mono ?_; rintro e w1 ⟨rfl, x1, m1⟩
        have j1 := (I1 (m1.block w.heap.size (aa HB.2.1) (Hm HB.2.2.2))).trans c1;have H1 := hd2 x1 m1;clear x1 m1)
     | (go_at_call 109; refine (kN _).mono ?_; rintro e w' ⟨rfl, rfl⟩)
     | (go_at_call 150; refine (KC.out _ H1.1).mono ?_; rintro e w2 ⟨rfl, x2, m2⟩
        have t2 := (m2.block (w.heap.size + 1) (Ho (aa HB.2.2.1) H1.2.size) (Hm HB.2.2.2)).trans ((H1.2.block (w.heap.size + 1) (aa HB.2.2.1) (Hm HB.2.2.2)).trans HB.2.2.1);have q1 := (I1 (m2.block w.heap.size (Ho (aa HB.2.1) H1.2.size) (Hm HB.2.2.2))).trans j1;have k0 := ae t2 (j := 0) rfl;have k2 := ae t2 (j := 2) rfl;have z0 := aU t2 0;have z2 := aU t2 2;have H2 := hd4 x2 m2 t2 q1;clear x2 m2 t2 q1 j1 c1))
    obtain ⟨x2, m2, t2, q1⟩ := H2.out;obtain ⟨V1, e1, u1, n1⟩ := fV t2 2 (.bool false);obtain ⟨V2, e2, u2, n2⟩ := fV u1 0 (ag k);rw [e1, e2];have n12 := n1.trans n2 (λ _ _ h => h);have lw := aa HB.2.2.1;have q2 := (I1 (n12.block w.heap.size (IZ q1) GX)).trans q1;have x3 := x2.moves n12 (λ i hi => Hm HB.2.2.2);have HV := hd3 x3 u2 n12;clear x2 m2 t2 q1 e1 e2 u1 u2 n1 n2 n12 x3 k0 k2 z0 z2 lw;go_wp2_with (go_at_call 150; refine (VC.out _ HV.1).mono ?_; rintro e w3 ⟨rfl, m4⟩)
    obtain ⟨B, r1, r2, lq⟩ := HB.out;obtain ⟨x2, m2, t2, q1⟩ := H2.out;exact ⟨rfl, rfl, (((((Moves.of_below B).trans H1.2 (λ _ _ h => h)).trans m2 (λ _ _ h => h)).trans HV.2.2 (λ i hi h => GX)).trans m4 (λ _ _ h => h))⟩
theorem nK {wX : World} {g2 : Nat} (h : Moves (λ k => k = g2) w w1) (k : Moves O w1 wX) (ho : ∀ i, O i -> w1.heap.size <= i) : Moves (λ k => k = g2) w wX :=
 h.trans k (λ i hi hO => Ho (ho i hO) h.size)
theorem x4b {T g1 g2 gen aK iB fin : Nat} {at' : Int} {D : Em.Rows} (h : fQ w g1 g2 l fin) (hl : l.length <= 1000000000)
 (hT : w.heap[T]? = some (.cells (jh at' gen (.map (some m)) aK iB) dK (0, 0))) (hm : RowsIn w m (Maps.size D) D) (hs : Maps.size D <= 256) (h2 : T < g2) (hr : Em.eP l fin D = none) :
 Calls prog 114 #[.pointer (some T), .func (.func 107) #[] #[.pointer (some g1), .pointer (some g2)]] w λ e w' => e = .panicked fM /\ Moves (λ k => k = g2) w w' := by
 have eg := enters_of func107 GV rfl;cases hsp : Wm.split (l.drop fin) with
 | none =>
  have NX := hd1 (Gi h hl hsp);clear h hT hm hs hr hsp;exact Tc
 | some p =>
  obtain ⟨body, n⟩ := p;obtain ⟨_, _, fK⟩ := jA hsp;have lb : body.length <= 1000000000 := by rw [I9] at fK; omega
  have NX := hd1 (rf h hl hsp);by_cases hk : ∃ ra, Wm.bF 3 body = some (3, ra)
  ·obtain ⟨ra, hk⟩ := hk
   have la := g_ hk;have RC := hd1 (λ (X : World) (F : Nat -> Prop) (v : Value) (hv : BytesAt X.heap F v body) => qX hv lb hk);cases hn : Wm.bF 64 ra with
   | none =>
    have MC := hd1 (λ (X : World) (q : Nat) (hx : aV X q ra) => CV hx GX hn);clear h hT hm hs hr hsp hk hn lb la hl fK;go_in
    go_upto_region 1 with (first
     | (with_reducible refine NX.out.mono ?_; rintro e w1 ⟨v1, rfl, y1, x1, m1⟩; have H1 := hd3 y1 x1 m1; clear y1 x1 m1)
     | (go_at_call 147; refine (RC.out _ _ _ H1.1).mono ?_; rintro e w2 ⟨q, rfl, x2, hq, b2⟩; have H2 := hd3 x2 hq b2; clear x2 hq b2))
    obtain ⟨W2, hW2⟩ := G8 (w2.alloc (.cells #[.pointer (some ⟨q, 0, none⟩)] cK));have B2 : Below w2 w2 W2 := by rw [<-hW2]; exact bla
    have r4 : W2.heap[w2.heap.size]? = some (.cells #[q] cK) := by rw [<-hW2]; exact II w2 _
    have lq := H2.1.lt;rw [hW2];obtain ⟨g4, hg4⟩ := G8 w2.heap.size;have NC := hd1 (MC.out W2 q (H2.1.later B2));rw [hg4] at r4 lq ⊢;have c4 := ae r4 (j := 0) rfl;have l4 := aa r4;have HB := hd5 B2 r4 lq hg4 l4;clear B2 r4 lq hW2 hg4 l4;go_wp2_with (go_at_call 148; refine NC.mono ?_; rintro e w3 ⟨rfl, m3⟩)
    exact ⟨rfl, rfl, nK H1.2.2 (((Moves.of_below (O := λ k => w1.heap.size <= k) H2.2.2).trans (Moves.of_below (O := λ k => w1.heap.size <= k) HB.1) (λ _ _ h => h)).trans (m3.mono (O' := λ k => w1.heap.size <= k) (λ k hk => Hm H2.2.1)) (λ _ _ h => h)) (λ _ h => h)⟩
   | some p =>
    obtain ⟨N, rb⟩ := p;have gL := g_ hn;have MC := hd1 (λ (X : World) (q : Nat) (hx : aV X q ra) => oO hx GX hn);have HH := hd11 h hT hm hs hr hsp lb la gL hk hn;have N64 : N <= 64 := gL.2.1;clear h hT hm hs hr hk hn hsp lb la gL hl fK;go_in
    go_upto_region 1 with (first
     | (with_reducible refine NX.out.mono ?_; rintro e w1 ⟨v1, rfl, y1, x1, m1⟩; have H1 := hd3 y1 x1 m1; clear y1 x1 m1)
     | (go_at_call 147; refine (RC.out _ _ _ H1.1).mono ?_; rintro e w2 ⟨q, rfl, x2, hq, b2⟩; have H2 := hd3 x2 hq b2; clear x2 hq b2))
    obtain ⟨W2, hW2⟩ := G8 (w2.alloc (.cells #[.pointer (some ⟨q, 0, none⟩)] cK));have B2 : Below w2 w2 W2 := by rw [<-hW2]; exact bla
    have r4 : W2.heap[w2.heap.size]? = some (.cells #[q] cK) := by rw [<-hW2]; exact II w2 _
    have lq := H2.1.lt;rw [hW2];obtain ⟨g4, hg4⟩ := G8 w2.heap.size;have NC := hd1 (MC.out W2 q (H2.1.later B2));rw [hg4] at r4 lq ⊢;have c4 := ae r4 (j := 0) rfl;have l4 := aa r4;have HB := hd5 B2 r4 lq hg4 l4;clear B2 r4 lq hW2 hg4 l4;go_upto_region 3 with (go_at_call 148; refine NC.mono ?_; rintro e w3 ⟨rfl, x3, m3⟩; have H3 := hd2 x3 m3; clear x3 m3 c4)
    obtain ⟨b2', r4, lq, hg4, l4⟩ := HB.out;have ST := hd1 (show D8 W2 q N rb 0 (.slice none 0 0) w3 [] rb from ⟨F5 _ _, H3.1, F7.symm, H3.2.mono (λ _ h => IB h), rfl, Nat.le_refl _⟩);clear b2' r4 lq hg4 l4
    have FAR := hd1 (show ∀ wX wY, Moves (λ k => k = q \/ W2.heap.size <= k) W2 wX -> Moves (λ k => k = q) wX wY -> Moves (λ k => k = g2) w wY from λ wX wY h h' =>
     nK H1.2.2 (((Moves.of_below (O := λ k => w1.heap.size <= k) H2.2.2).trans (Moves.of_below (O := λ k => w1.heap.size <= k) HB.1) (λ _ _ h => h)).trans ((h.mono (O' := λ k => w1.heap.size <= k) (λ k hk => by have := H2.2.1; have := HB.1.size; have := H2.2.2.size; rcases hk with h | h <;> omega)).trans (h'.mono (O' := λ k => w1.heap.size <= k) (λ k hk => by have := H2.2.1; omega)) (λ _ _ h => h)) (λ _ _ h => h)) (λ _ h => h))
    go_loopw [5, 13] (λ v s wr => ∃ (i : Nat) (acc : List Em.ay) (r : List UInt8), i <= N /\ s = .int .i64 (i : Int) /\ D8 W2 q N rb i v wr acc r) (λ _ s _ => N - (intOf s).toNat)
    case atStart => exact ⟨0, [], rb, IY _, rfl, ST.out⟩
    case round =>
     obtain ⟨i, acc, r, hi, rfl, hrel⟩ := hrel;have j4 : wr.cell? g4 = some (.pointer (some q)) := (I1 (hrel.mv.block g4 HB.2.2.2.2 (Ho HB.2.2.1 HB.2.2.2.2))).trans (ae HB.2.1 rfl);have vZ := hrel.len.2;have ww := HH.2.2.2.2.2.2.2.2.1.1;have gL := HH.2.2.2.2.2.2.2.1.1;have wu := HH.2.2.2.2.2.2.1;by_cases hlt : i < N
     ·have i0 : (0 : Int) <= (i : Int) := GX
      have i1 : (i : Int) < (N : Int) := GX;obtain ⟨j, hj⟩ : ∃ j, N - i = j + 1 := ⟨N - i - 1, GX⟩;cases hc : Em.kL r with
      | none =>
       have CC := hd1 (x8m hrel.rd GX hc);have HM := hd1 hrel.mv;clear hrel hc vZ ww gL wu;go_wp2_with (go_at_call 151; refine CC.mono ?_; rintro e w4 ⟨rfl, m4⟩)
       exact ⟨rfl, rfl, FAR.out _ _ HM.out m4⟩
      | some p =>
       obtain ⟨c, r'⟩ := p;obtain ⟨lr, _, _⟩ := FD hc;have CC := hd1 (y1r hrel.rd GX hc);have HR := hd3 hrel lr hc;clear hrel hc lr vZ ww gL wu
       go_wp2_with (first
        | (go_at_call 151; refine CC.mono ?_; rintro e w4 ⟨rfl, x4, m4⟩
           have o4 := HR.1.own.moves m4 (λ k hk => Ho HB.2.2.1 HB.2.2.2.2);have H4 := hd3 x4 m4 o4;clear x4 m4 o4)
        | (at_builtin; refine Aj rfl (.tmp 15) (.tmp 18) rfl W2.heap.size _ acc c rfl (H4.2.2.moves (Moves.of_below (O := λ _ => False) (bla)) (λ _ _ h => h)) w4.heap.size 1 rfl (II w4 _) (Hm HR.1.len.1) MG (Below.refl _ (w4.alloc (.cells #[ag c.key, ag c.value, .bool c.gone] a_))) ?_; intro v5 w5 h5 h6))
       go_roundw
       case rel =>
        have b4 : Below w4 w4 (w4.alloc (.cells #[ag c.key, ag c.value, .bool c.gone] a_)) := bla;have bm := Du h6.out MG;have lq := HB.2.2.1;have l4 := HB.2.2.2.2;refine ⟨i + 1, acc ++ [c], r', GX, by go_num, h5.out, (H4.1.later b4).moves bm (λ k hk => GX), ?_, ?_, by rw [IQ, HR.1.len.1]; rfl, Ho HR.2.1 HR.1.len.2⟩
        ·rw [HR.1.cZ, hj, Em.eZ, HR.2.2, show N - (i + 1) = j by omega]
         exact Qv
        ·exact SQ
       case measure => simp [intOf]; omega
     ·obtain rfl : i = N := GX
      have heq := hrel.cZ;rw [J_] at heq;have heq : Em.eZ i rb = some (acc, r) := by rw [heq]; simp [Em.eZ]
      obtain ⟨hN, hT, hm, hs, hr, hsp, lb, la, z8l, hk, hn⟩ := HH.out;have hbt : Em.iJ body = if r = [] then some acc else none := by
       unfold Em.iJ;rw [hk];simp only [ne_eq, not_true, JS];rw [hn];simp only;rw [heq]
      by_cases hre : r = []
      ·subst hre
       rw [IE rfl] at hbt;have hd : Em.aX D acc ≠ 0 := by
        intro hd;unfold Em.eP at hr;rw [hsp] at hr;simp only at hr;rw [hbt] at hr;simp only at hr;rw [IE hd] at hr;cases hr
       have BW : Below w1 w1 wr := (((Moves.of_below (O := λ k => w1.heap.size <= k) H2.2.2).trans (Moves.of_below (O := λ k => w1.heap.size <= k) HB.1) (λ _ _ h => h)).trans (hrel.mv.mono (O' := λ k => w1.heap.size <= k) (λ k hk => by have := H2.2.1; have := HB.1.size; have := H2.2.2.size; rcases hk with h | h <;> omega)) (λ _ _ h => h)).low (O' := λ _ => False) (λ i hi h => GX) |>.below
       have tu := (H1.2.2.block T (aa hT) GX).trans hT;have rT := (BW.block T (aa tu)).trans tu;have yQ : m ≠ g2 := by
        exact Qj
       have rm := d9 (jQ hm H1.2.2 yQ) BW (Ho hm.lt H1.2.2.size);have EC := hd1 (uu hrel.rd);have DC := hd1 (λ (X : World) (hb : Below wr wr X) => Da (d9 rm hb rm.lt) GX (hrel.own.at.later hb) (Hm hrel.len.1) (λ c hc => Hm ((Fz heq).2.2 c hc)));have HX := hd3 rT hrel.mv hd;obtain ⟨oa, oc, rfl⟩ := hrel.own.at.slice;have hdz : ((Em.aX D acc) == 0) = false := by rw [J9]; exact hd
       have hdz' : ¬ Em.aX D acc = 0 := hd;generalize acc.length = cl at *;clear hrel heq hN hT hm hs hd lb la gL z8l tu rT rm BW yQ hr hsp hk hn hbt vZ ww wu
       go_wp2_with (first
        | (go_at_call 149; refine EC.mono ?_; rintro e w6 ⟨rfl, b6⟩
           have t2 := ae ((b6.block T (aa HX.1)).trans HX.1) (j := 2) rfl;have D6 := hd1 (DC.out w6 b6);have B6 := hd1 b6;clear b6)
        | (go_at_call 109; refine (kN _).mono ?_; rintro e w' ⟨rfl, rfl⟩)
        | (go_at_call 109; refine (iK _).mono ?_; rintro e w' ⟨rfl, rfl⟩)
        | (go_at_call 37; refine D6.mono ?_; intro e w7 h7; obtain ⟨b7, h7⟩ := h7
           obtain rfl := h7.elim (λ h => h.2) (λ h => absurd h.1 HX.2.2);have H7 := hd1 b7;clear b7 h7 t2))
       exact ⟨rfl, rfl, FAR.out _ _ HX.2.1 (Moves.of_below (B6.trans (H7.mono B6.size)))⟩
      ·have EC := hd1 (y0n hrel.rd hre)
       have HM := hd1 hrel.mv;clear hrel heq hN hT hm hs lb la gL z8l hr hsp hk hn hbt vZ ww wu
       go_wp2_with (first
        | (go_at_call 149; refine EC.mono ?_; rintro e w6 ⟨rfl, m6⟩; have H6 := hd1 m6; clear m6)
        | (go_at_call 109; refine (iK _).mono ?_; rintro e w' ⟨rfl, rfl⟩))
       exact ⟨rfl, rfl, FAR.out _ _ HM.out H6.out⟩
  ·have RC := hd1 (λ (X : World) (F : Nat -> Prop) (v : Value) (hv : BytesAt X.heap F v body) => Fs (kind := 3) hv lb (λ r e => hk ⟨r, e⟩))
   clear h hT hm hs hr hsp hk lb hl fK;exact SG
section
variable {P : Program} {ops : Array Oper} {md : Region.Mode} {I : World -> Prop} {tail : List Nat} {E : List PanicEntry -> World -> Prop}
def rU (E : List PanicEntry -> World -> Prop) : Exit -> Act -> World -> Prop
 | .panic c, a, w => a.defers = [] /\ E c w
 | _, _, _ => False
theorem y0o {E : List PanicEntry -> World -> Prop} {c : List PanicEntry} {a : Act} {d : Option Tmp} (h : rU E (.panic c) (a.put d v) w) : rU E (.panic c) a w := by
 cases d <;> exact h
def kH (P : Program) (md : Region.Mode) (ops : Array Oper) (I : World -> Prop) (tail : List Nat) (E : List PanicEntry -> World -> Prop) (Q : Act -> World -> Prop) : Nat -> Array Bool -> Act -> World -> Prop
 | 0, listed, a, w => Region.ready md ops listed = [] /\ Q a w
 | f + 1, listed, a, w => (Region.ready md ops listed = [] -> Q a w) /\ ∀ i ∈ Region.ready md ops listed, wpOp P ops (rU E) i (λ a' w' => (i ∉ tail -> I w') /\ kH P md ops I tail E Q f (listed.setIfInBounds i true) a' w') a w
theorem y3e {j : Nat} {oi oj : Oper} (hj : ops[j]? = some oj) (hap : oi.apart ops oj = true)
 (hsi : ∀ cs b, oi.op ≠ .select cs b) (hsj : ∀ cs b, oj.op ≠ .select cs b) {K : Act -> World -> Prop} {a : Act}
 (hy : gH P ops I oi v a) (h : wpOp P ops (rU E) j K (a.put oi.dst v) w) :
 wpOp P ops (rU E) j (λ a' w' => gH P ops I oi v a' /\ K (a'.put oi.dst v) w') a w := by
 obtain ⟨h1, h2, h3⟩ := Oper.apart_spec hap
 have keep : ∀ (a : Act), gH P ops I oi v a -> ∀ u, gH P ops I oi v (a.put oj.dst u) := λ a hy u =>
  hy.of_same (KL oi hsi a oj.dst u h3) (wanted_put oi a oj.dst u h3)
 have keepD : ∀ d, gH P ops I oi v { a with defers := d :: a.defers } := λ d => hy.of_same rfl rfl;unfold wpOp at *;simp only [hj] at *;rw [wanted_put oj a oi.dst v h1] at h;split
 ·rename_i hw
  simp only [hw, I6] at h;rcases h with h | ⟨hasks, hlets⟩;case inr => exact .inr ⟨by unfold Oper.asks at *; rw [KL oj hsj a oi.dst v h1] at hasks; exact hasks, hlets⟩
  refine .inl ?_;unfold Oper.wp at *;rw [KL oj hsj a oi.dst v h1] at h;generalize (execOp a.eval oj).run P w = r at *;cases r with
  | ok n w' =>
   cases n <;> simp only [Oper.upon] at h ⊢;case value u => exact ⟨keep a hy u, by rw [<-JU a v u h2]; exact h⟩
   case skip => exact ⟨keep a hy _, by rw [<-JU a v undef h2]; exact h⟩
   case defer d =>
    exact Q7
   case enter f args =>
    refine Calls.mono h λ e w'' he => ?_;cases e with
    | returned u => exact ⟨keep a hy u, by rw [<-JU a v u h2]; exact he⟩
    | panicked c => exact y0o he
    | outgrown => exact he
   case row row args => exact Rows.mono h λ u w'' he => ⟨keep a hy u, by rw [<-JU a v u h2]; exact he⟩
  | halt x w' =>
   cases x <;> simp only [Oper.upon] at h ⊢;case panic u => exact y0o h
 ·exact Rc
theorem y4q {Q : Act -> World -> Prop} {i : Nat} {oi : Oper} (hi : ops[i]? = some oi) (hsel : ∀ (j : Nat) (o : Oper) cs b, ops[j]? = some o -> o.op ≠ .select cs b) (g : Nat) (hw : ∀ t ∈ tail, jy md ops g t i = true) :
 ∀ (fuel : Nat) (listed : Array Bool) (a : Act) (w : World), Closed md ops listed ->
  (∀ j oj, ops[j]? = some oj -> j ≠ i -> listed.getD j true = false -> (∀ e ∈ oj.after, Region.binds md e = true -> e.on ≠ i) -> oi.apart ops oj = true) ->
  i ∈ Region.ready md ops listed -> gH P ops I oi v a -> I w ->
  kH P md ops I tail E Q fuel (listed.setIfInBounds i true) (a.put oi.dst v) w -> kH P md ops I tail E Q (fuel + 1) listed a w := by
 intro fuel;induction fuel with
 | zero =>
  exact PU
 | succ fuel ih =>
  intro listed a w hcl hfree hr hy hI H;refine ⟨λ h => Nk, λ j hj => ?_⟩;by_cases hji : j = i
  ·subst hji; exact hy.wpOp hi hI ⟨λ _ => hI, H⟩
  ·have h1 := H.2 j (JV hj hji)
   obtain ⟨hjun, oj, hoj, hall⟩ := Ju.1 hj;have hun := (Ju.1 hr).1;have hjt : j ∉ tail := λ hm => z7e hcl (hw j hm) hun hj;have hnot : ∀ e ∈ oj.after, Region.binds md e = true -> e.on ≠ i := λ e he hb heq => by
    exact Qd
   have h2 := y3e hoj (hfree j oj hoj hji hjun hnot) (λ cs b => hsel i oi cs b hi) (λ cs b => hsel j oj cs b hoj) hy h1;exact O0
theorem y3d {i : Nat} {a : Act} {K K' : Act -> World -> Prop} {Q' : Exit -> Act -> World -> Prop} (h : ∀ a w, K a w -> K' a w) (hE : ∀ c a w, a.defers = [] -> E c w -> Q' (.panic c) a w) (hh : wpOp P ops (rU E) i K a w) : wpOp P ops Q' i K' a w := by
 unfold wpOp at *;split
 ·exact h _ _ (by simpa [*] using hh)
 ·rename_i o ho
  simp only [ho] at hh;split
  ·rename_i hw
   simp only [hw, I6] at hh;rcases hh with hh | ⟨_, _, _, hx⟩
   ·refine .inl ?_
    unfold Oper.wp at *;generalize (execOp a.eval o).run P w = r at *;cases r with
    | ok n w' =>
     cases n <;> simp only [Oper.upon] at hh ⊢;case value u => exact h _ _ hh
     case skip => exact h _ _ hh
     case defer d => exact h _ _ hh
     case enter f args =>
      refine Calls.mono hh λ e w'' he => ?_;cases e with
      | returned u => exact h _ _ he
      | panicked c => exact hE c _ _ he.1 he.2
      | outgrown => obtain ⟨_, _, hx⟩ := he; exact hx.elim
     case row row args => exact Rows.mono hh λ u w'' he => h _ _ he
    | halt x w' =>
     cases x <;> simp only [Oper.upon] at hh ⊢;case panic u => exact hE _ _ _ hh.1 hh.2
   ·exact hx.elim
  ·rename_i hw
   simp only [hw] at hh;exact h _ _ hh
theorem z2g {Q : Act -> World -> Prop} {Q' : Exit -> Act -> World -> Prop} (hQ : ∀ a w, Q a w -> Q' .normal a w) (hE : ∀ c a w, a.defers = [] -> E c w -> Q' (.panic c) a w) : ∀ (f : Nat) (listed : Array Bool) (a : Act) (w : World), kH P md ops I tail E Q f listed a w -> wpAny P md ops Q' f listed a w
 | 0, _, _, _, h => ⟨h.1, hQ _ _ h.2⟩
 | f + 1, _, _, _, h => ⟨λ h0 => hQ _ _ (h.1 h0), λ i hi => y3d (λ a' w' h' => z2g hQ hE f _ a' w' h'.2) hE (h.2 i hi)⟩
theorem y4r {Q : Act -> World -> Prop} {f k : Nat} {listed : Array Bool} {a : Act} {o : Oper} (ho : ops[k]? = some o) (hr : Region.ready md ops listed = [k])
 (h : wpOp P ops (rU E) k (λ a' w' => (k ∉ tail -> I w') /\ kH P md ops I tail E Q f (listed.setIfInBounds k true) a' w') a w) : kH P md ops I tail E Q (f + 1) listed a w :=
 ⟨λ h0 => Ni, λ i hi => by rw [hr] at hi; have e : i = k := NJ; subst e; exact h⟩
theorem z2c {Q : Act -> World -> Prop} (hs : Region.noSelect ops = true) (hI : I w) : ∀ (ks : List Nat) (f : Nat) (listed : Array Bool) (a : Act), Closed md ops listed -> tV md ops tail ks listed = true ->
 fU P ops I (λ a' => kH P md ops I tail E Q f (ks.foldl (λ l k => l.setIfInBounds k true) listed) a' w) (ks.filterMap (λ k => ops[k]?)) a -> kH P md ops I tail E Q (f + ks.length) listed a w
 | [], f, listed, a, _, _, h => h
 | k :: r, f, listed, a, hc, hB, h => by
  simp only [tV, Jl, JK] at hB;obtain ⟨⟨⟨h1, h2⟩, h3⟩, h4⟩ := hB;have hr : k ∈ Region.ready md ops listed := by simpa using h1
  obtain ⟨_, o, ho, _⟩ := Ju.1 hr;simp only [List.filterMap_cons, ho, fU] at h;have : ∃ v, gH P ops I o v a /\ fU P ops I (λ a' => kH P md ops I tail E Q f ((k :: r).foldl (λ l k => l.setIfInBounds k true) listed) a' w) (r.filterMap (λ k => ops[k]?)) (a.put o.dst v) := by
   exact OG
  obtain ⟨v, hy, hn⟩ := this;rw [show f + (k :: r).length = (f + r.length) + 1 by simp; omega];exact y4q ho (Ll hs) ops.size h3 _ _ _ _ hc (Lm ho h2) hr hy hI (z2c hs hI r f _ _ (hc.set hr) h4 hn)
theorem Al {Q : Act -> World -> Prop} {a : Act} (ks : List Nat) (f : Nat) (listed : Array Bool) (hI : I w) (hB : (Region.noSelect ops && Dj md ops listed && tV md ops tail ks listed) = true)
 (h : fU P ops I (λ a' => kH P md ops I tail E Q f (ks.foldl (λ l k => l.setIfInBounds k true) listed) a' w) (ks.filterMap (λ k => ops[k]?)) a) : kH P md ops I tail E Q (f + ks.length) listed a w := by
 simp only [Jl] at hB;exact z2c hB.1.1 hI ks f listed a (z1o hB.1.2) hB.2 h
theorem y3c {R : Act -> World -> Prop} {a : Act} {k : Nat} {o : Oper} (ho : ops[k]? = some o)
 (h : wpList P ops (λ e a' w' => (e = .normal /\ R a' w') \/ ∃ c, e = .panic c /\ a'.defers = [] /\ E c w') [o] a w) : wpOp P ops (rU E) k R a w := by
 unfold wpOp;simp only [ho];simp only [wpList] at h;split
 ·rename_i hw
  simp only [hw, I6] at h;rcases h with h | ⟨_, _, _, hx⟩
  ·refine .inl ?_
   unfold Oper.wp at *;generalize (execOp a.eval o).run P w = r at *;cases r with
   | ok n w' =>
    cases n <;> simp only [Oper.upon] at h ⊢;case value u => exact (h.resolve_right (λ ⟨_, h, _⟩ => by cases h)).2
    case skip => exact (h.resolve_right (λ ⟨_, h, _⟩ => by cases h)).2
    case defer d => exact (h.resolve_right (λ ⟨_, h, _⟩ => by cases h)).2
    case enter f args =>
     refine Calls.mono h λ e w'' he => ?_;cases e with
     | returned u => exact (he.resolve_right (λ ⟨_, h, _⟩ => by cases h)).2
     | panicked c => rcases he with he | ⟨c', e', he⟩; (cases he.1); (cases e'; exact he)
     | outgrown => obtain ⟨_, _, hx⟩ := he; rcases hx with hx | ⟨_, hx, _⟩; (cases hx.1); (cases hx)
    case row row args => exact Rows.mono h λ u w'' he => (he.resolve_right (λ ⟨_, h, _⟩ => by cases h)).2
   | halt x w' =>
    cases x <;> simp only [Oper.upon] at h ⊢;case panic u => rcases h with h | ⟨c', e', h⟩; (cases h.1); (cases e'; exact h)
  ·rcases hx with hx | ⟨_, hx, _⟩; (cases hx.1); (cases hx)
 ·rename_i hw
  simp only [hw] at h;exact (h.resolve_right (λ ⟨_, h, _⟩ => by cases h)).2
theorem vz {Q : Act -> World -> Prop} {a : Act} (k f : Nat) (listed : Array Bool) (o : Oper) (ho : ops[k]? = some o) (hr : Region.ready md ops listed = [k])
 (h : wpList P ops (λ e a' w' => (e = .normal /\ (k ∉ tail -> I w') /\ kH P md ops I tail E Q f (listed.setIfInBounds k true) a' w') \/ ∃ c, e = .panic c /\ a'.defers = [] /\ E c w') [o] a w) : kH P md ops I tail E Q (f + 1) listed a w :=
 y4r ho hr (y3c ho h)
theorem Ai {id : Nat} {Q : Exit -> Act -> World -> Prop} {a : Act} (I : World -> Prop) (tail : List Nat) (E : List PanicEntry -> World -> Prop) (hE : ∀ c a w, a.defers = [] -> E c w -> Q (.panic c) a w) (hm : P.follows .mixedOrders = true)
 (h : kH P .any ops I tail E (λ a' w' => Q .normal a' w') ops.size (Array.replicate ops.size false) a w.drew) : (Code.region id ops true).wp P Q a w :=
 Lr hm (z2g (λ _ _ h => h) hE _ _ _ _ h)
end
section
open Go.Shelf
attribute [local go_sem] Oper.semAt_some
def z0a (x : Em.Bytes × Em.Bytes) : Array Value := #[ag x.1, ag x.2]
theorem y2y {e : Em.E} (x : bL w pl pd md e F) : Calls prog 15 #[pl] w λ en w' =>
 ∃ m, en = .returned (.func (.func 43) #[] #[.pointer (some w.heap.size)]) /\ w.alloc (.cells #[.map (some m)] jN) = w' /\ RowsIn w m (Maps.size e.rows) e.rows /\ m ≠ pd /\ m ≠ md /\ m ≠ pl := by
 have gM : ∀ (fn : Fn) (first cap : Array Value) (w : World), (Instr.makeFunc fn first cap).run prog w = .ok (.func fn first cap) w := λ _ _ _ _ => rfl;have NC := hd1 x.none;obtain ⟨m, row, rows, hne⟩ := x.row;have f2 : w.cell? (pl, 2) = some (.map (some m)) := ae row rfl;have HR := hd2 rows hne;clear x row rows hne;go_in;go_wp2_with (go_at_call 36; refine NC.mono ?_; rintro en w0 ⟨rfl, rfl⟩)
 go_ret;exact ⟨m, rfl, rfl, HR.1, HR.2⟩
theorem jb.keeps {K : Nat -> Prop} {a : Option Addr} {c : Nat} {ks : List (List UInt8)} (h : jb A (.slice a n c) ks) (hk : di K A B) (hK : ∀ b o x, a = some ⟨b, o, x⟩ -> K b) : jb B (.slice a n c) ks := by
 rcases h with h | ⟨b, cap, cs, h1, h2, h3⟩
 ·exact IB h
 ·have e : a = some ⟨b, 0, none⟩ := by cases h1; rfl
  exact IC ⟨b, cap, cs, h1, (hk.block b (hK b 0 none e) (aa h2)).trans h2, h3⟩
theorem y8m {K : Nat -> Prop} {D : Em.Rows} (h : RowsIn A m n D) (hk : di K A B) (hK : K m) : RowsIn B m n D := by
 have lt := h.lt;obtain ⟨es, clock, k1, F, hs, hD⟩ := h;exact ⟨es, clock, (hk.block m hK lt).trans k1, F, hs, hD⟩
theorem y6e {D : Em.Rows} (h : RowsIn w m n D) (hn : Maps.size D <= 1000000) : Calls prog 44 #[.map (some m)] w λ e w' =>
 ∃ v, e = .returned v /\ jb w' v (Em.cO D) /\ Below w w w' /\ ∀ a n c, v = .slice (some a) n c -> w.heap.size <= a.block /\ a.block < w'.heap.size := by
 have K := hd1 (Ji.1 (Gm (some m) w));have S := hd1 (Ji.1 (z4j m n D (plainElem prog dB) w h Ns GX));clear h;go_in
 go_wp2_with (first
  | (go_at_call 83; refine K.mono ?_; rintro e w' ⟨rfl, rfl⟩)
  | (go_at_call 82; refine S.mono ?_; rintro e w1 ⟨v, ss, rfl, hS, hrow, hnil, hb⟩))
 go_ret;have e1 : ss.mergeSort (λ x y => decide (x <= y)) = Em.cO D := mergeSort_of_perm hS;have e2 : ss.length = (Em.cO D).length := by rw [<-e1, List.length_mergeSort]
 rw [e1, e2] at hrow;have hb' := ((Below.refl _ w).alloc G7 _).trans (hb.mono GZ);refine ⟨v, rfl, z8e hrow, hb', ?_⟩;rintro a n' c rfl;rcases hrow.2 with ⟨h1, _⟩ | ⟨g, cap, cur, h1, h2, h3, _⟩
 ·cases h1
 ·cases h1
  simp only [Jm] at h2;exact ⟨by simp only; omega, aa h3⟩
theorem w0p {D : Em.Rows} (hg : w.cell? g = some (.map (some m))) (hm : RowsIn w m n D) (hs : Maps.size D <= 256) (hD : Em.bI D) :
 Iter prog 43 #[.pointer (some g)] z0a (Em.tell D) (λ i => i = m \/ i = g) w := by
 intro l J Jx W hW hJ hJx hY h0;have lg : g < w.heap.size := IZ hg;have f0 := (hW.cell (p := ⟨g, 0, none⟩) lg).trans hg;have r0 := d9 hm hW hm.lt;have sW := hW.size;have lm := hm.lt;have SC := hd1 ((Ji (n := 0)).2 (y6e r0 GX));have HH := hd3 h0 r0 hD;clear hm hg h0 r0;refine Lu func43 rfl trivial ?_ rfl;simp only [ntmps43, Kl, I8, Jw, Nat.reduceAdd, Nat.reduceSub, J3, J4, J5, J6, Jj, JG];gi_wp2;refine Ei (El ?_)
 gi_wp2_with (refine ⟨trivial, rfl, ?_⟩; gi_at_call 44; refine SC.mono ?_; rintro e w1 ⟨kv, rfl, y1, b1, l1⟩
              obtain ⟨ka, kc, rfl⟩ := y1.slice;have H1 := hd2 y1 b1;have L1 := hd1 (show ∀ b o x, ka = some ⟨b, o, x⟩ -> W.heap.size <= b /\ b < w1.heap.size from λ b o x e => l1 ⟨b, o, x⟩ _ _ (by rw [e]));clear y1 b1 l1)
 have hN : (Em.cO D).length <= 256 := by rw [Em.sP]; exact hs
 have hO := hJ 0 (λ _ => False) (λ k => W.heap.size <= k /\ k < w1.heap.size) W w1 HH.1 (Moves.of_below H1.2) (λ _ h => h.elim) (λ _ h => IC h.1);have R1 := d9 HH.2.1 H1.2 GX;have G1 := (H1.2.cell (p := ⟨g, 0, none⟩) Nz).trans f0;have HS := hd4 hO R1 G1 H1.1;clear hO R1 G1 f0;generalize hn : (Em.cO D).length = N at *;have HN := hd1 hn;clear hn;gi_loopw [8] (λ p wr => ∃ k : Nat, p = .int .i64 (k : Int) /\ k <= N /\ J k (λ k => W.heap.size <= k /\ k < w1.heap.size) wr /\ RowsIn wr m n D /\ wr.cell? g = some (.map (some m)) /\ jb wr (.slice ka N kc) (Em.cO D) /\ w1.heap.size <= wr.heap.size) (λ p _ => N + 1 - (intOf p).toNat)
 case atStart => exact ⟨0, rfl, GX, HS.1, HS.2.1, HS.2.2.1, HS.2.2.2, Nat.le_refl _⟩
 case round =>
  obtain ⟨k, rfl, hk, qf, rk, fk, yk, sk⟩ := hrel;by_cases hlt : k < N
  ·have i0 : (0 : Int) <= (k : Int) := GX
   have i1 : (k : Int) < (N : Int) := GX;obtain ⟨kk, hkk⟩ : ∃ x, (Em.cO D)[k]? = some x := ⟨_, IX Nl⟩;obtain ⟨b, rfl, hc⟩ := yk.at hkk;have lk := z8y rk kk (Hm ((Em.sO HH.2.2 (Jg hkk)).2));have hx : (Em.tell D)[k]? = some (kk, Em.valueOf D kk) := by unfold Em.tell; rw [KO, hkk]; rfl
   obtain ⟨fn, tmps, assign, body, hy, hR⟩ := hY k _ _ wr hx qf;simp only [z0a] at hy;have H2 := hd4 rk fk yk sk;clear rk yk sk hkk hx;gi_wp2;refine ⟨rfl, hR.mono ?_⟩;rintro e W' (⟨rfl, hJ', hk'⟩ | ⟨rfl, rH, hk'⟩)
   ·have hw1 : IntKind.i64.wrap ((k : Int) + 1) = ((k + 1 : Nat) : Int) := Jd _ GX
    gi_wp2;obtain ⟨rk, fk, yk, sk⟩ := H2.out;refine ⟨⟨k + 1, GZ, GX, hJ', y8m rk hk' (IC (IB rfl)), ?_, yk.keeps hk' (λ b o x e => IB (L1.out b o x e)), IV sk hk'.size⟩, ?_⟩
    ·have := H1.2.size
     exact (I1 (hk'.block g (IC (IC rfl)) GX)).trans fk
    ·simp [intOf]; omega
   ·gi_wp2
    simp +zetaDelta only [KR]; refine Kv (Kw rfl _ _ _) rfl ?_;exact ⟨⟨_, rfl⟩, _, .inr ⟨k + 1, by have e : (Em.tell D).length = N := (by unfold Em.tell; rw [L8]; exact HN.out); omega, rH⟩⟩
  ·obtain rfl : k = N := GX
   gi_wp2;simp +zetaDelta only [KR]; refine Kv (Kw rfl _ _ _) rfl ?_;exact ⟨⟨_, rfl⟩, _, .inl (by have e : (Em.tell D).length = k := (by unfold Em.tell; rw [L8]; exact HN.out); rw [e]; exact qf)⟩
end
abbrev iV : Nat := 43
abbrev z3f : Nat := 37
abbrev iR := Em.iq × Value × Value
def zK (q : iR) : List Value := [.int .i64 q.1.what, q.2.1, .int .i64 q.1.n, q.2.2, .int .i64 q.1.aT.bq, .int .i64 q.1.aT.part]
def i64' (n : Int) : Prop := -9223372036854775808 <= n /\ n <= 9223372036854775807
structure pE (w : World) (q : iR) : Prop where
 l : dJ w (λ _ => True) q.2.1 q.1.l
 keep : oq w.heap q.2.2 q.1.aT.keep
 what : i64' q.1.what
 n : i64' q.1.n
 bq : i64' q.1.aT.bq
 part : i64' q.1.aT.part
 z8t : q.1.l.length <= 9223372036854775807
 z8g : q.1.aT.keep.length <= 9223372036854775807
def m_ (w : World) (v : Value) (Q : List iR) : Prop :=
 ((v = .slice none 0 0 \/ ∃ ad c, v = .slice (some ad) 0 c) /\ Q = []) \/ ∃ (b o cap : Nat) (cs : Array Value) (t : TypeId) (fr : Nat × Nat), v = .slice (some ⟨b, o, none⟩) Q.length cap /\ w.heap[b]? = some (.cells cs t fr) ∧
   ∀ (i : Nat) (q : iR), Q[i]? = some q -> pE w q /\ ∀ (j : Nat) u, (zK q)[j]? = some u -> cs[o + i * 6 + j]? = some u
theorem m_.slice {Q : List iR} (h : m_ w v Q) : ∃ a c, v = .slice a Q.length c := by
 rcases h with ⟨rfl | ⟨_, _, rfl⟩, rfl⟩ | ⟨b, o, cap, cs, t, fr, rfl, _⟩
 ·exact ⟨_, _, rfl⟩
 ·exact ⟨_, _, rfl⟩
 ·exact ⟨_, _, rfl⟩
theorem oq.later {l : List Bool} (x : oq w.heap v l) (hb : Below w w w') : oq w'.heap v l := by
 rcases x with x | ⟨b, o, cap, c, t, fr, h1, h2, h3⟩
 ·exact IB x
 ·exact IC ⟨b, o, cap, c, t, fr, h1, (hb.block b (aa h2)).trans h2, h3⟩
theorem pE.later {q : iR} (h : pE w q) (hb : Below w w w') : pE w' q :=
 ⟨h.l.later hb, h.keep.later hb, h.what, h.n, h.bq, h.part, h.z8t, h.z8g⟩
theorem m_.later {Q : List iR} (h : m_ w v Q) (hb : Below w w w') : m_ w' v Q := by
 rcases h with h | ⟨b, o, cap, cs, t, fr, h1, h2, h3⟩
 ·exact IB h
 ·exact IC ⟨b, o, cap, cs, t, fr, h1, (hb.block b (aa h2)).trans h2, λ i q hi => ⟨(h3 i q hi).1.later hb, (h3 i q hi).2⟩⟩
theorem m_.at {a : Option Addr} {cap : Nat} {Q : List iR} (h : m_ w (.slice a n cap) Q) {i : Nat} {q : iR} (hi : Q[i]? = some q) :
 ∃ b o, a = some ⟨b, o, none⟩ /\ b < w.heap.size /\ w.rangeAt b (o + i * 6) (zK q) /\ pE w q := by
 rcases h with ⟨_, rfl⟩ | ⟨b, o, cap', cs, t, fr, h1, h5, h6⟩
 ·simp at hi
 ·cases h1
  obtain ⟨g1, g2⟩ := h6 i q hi;exact ⟨b, o, rfl, aa h5, λ j v hj => (IM _ _ _ _ _ _ h5).trans (g2 j v hj), g1⟩
end Go.Proofs.YtgffifleflkjoaaGreat
