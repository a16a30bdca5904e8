/-
  Parts of a proof.
-/
import Derived.Test.YtgffifleflkjoaaGreatFin39
set_option linter.unusedSimpArgs false
set_option linter.unusedVariables false
set_option maxRecDepth 100000
set_option maxHeartbeats 16000000
namespace Go.Proofs.YtgffifleflkjoaaGreat
open _root_.Go.Proofs.Tryz
variable {w W w' w0 wr w1 W0 W1 W2 A B : World} {F G F' O : Nat → Prop} {v : Value} {l : List UInt8} {n q m pd md pl g p : Nat} {C : Array Value} {c : Int}
section
open Go.RowKit Dm
attribute [local go_sem] Oper.semAt_some
theorem bO.grow {e : Em.E} (x : bO w pl pd md e F) (hb : Below w w w') : bO w' pl pd md e F :=
 lZ x (Moves.of_below (O := λ _ => False) hb) (λ h => h) (λ h => h) (λ h => h) (λ _ _ h => h) (λ _ h => h.elim)
theorem z9y {e : Em.E} (x : bO w pl pd md e F) (hr : dW w G v e) (hf : Fit e) :
 Calls prog 28 #[pl, v] w λ en w' => en = .returned (.bool true) /\ Below w w w' := by
 have hr' := hr;obtain ⟨C, ra, rn, rc, rfl, hC, gH, fF, _⟩ := hr;obtain ⟨E, hE⟩ := G5 (bQ C e.gone (.slice ra rn rc) (dG e));have jU : E.size = 13 := by rw [<-hE]; exact aV hC _ _ _
 have yY : E[10]? = some (.bool e.gone) := by rw [<-hE]; exact (vU hC _ _ _).1
 rw [hE] at hr' ⊢;obtain ⟨W0, hW0⟩ := G5 (w.alloc (.cells E aj));have B0 : Below w w W0 := by rw [<-hW0]; exact bla
 have r0 : W0.heap[w.heap.size]? = some (.cells E aj) := by rw [<-hW0]; exact IC w _
 have LD : Hid (∀ w', (∃ y : Wd (Below W0 W0), w' = y.world) -> (Instr.loadAt aj (.pointer (some w.heap.size))).run prog w' = .ok (.agg E) w') := by
  rintro w' ⟨y, rfl⟩;exact fK ((y.ok.block _ (aa r0)).trans r0) Hw rfl (by rw [aX, jU])
 have LDC : Hid (∀ w', (∃ y : Wd (Below W0 W0), w' = y.world) -> (Instr.loadAt af (.pointer (some w.heap.size))).run prog w' = .ok (.agg C) w') := by
  rintro w' ⟨y, rfl⟩;have ry : y.world.heap[w.heap.size]? = some (.cells (bQ C e.gone (.slice ra rn rc) (dG e)) aj (0, 0)) := by rw [hE]; exact (y.ok.block _ (aa r0)).trans r0
  have := Kk y.world w.heap.size 0 af C.toList _ (z7t ry) Hu rfl (by rw [aH]; simp [hC]);rw [Array.toArray_toList] at this;exact this
 have f10 : ∀ y : Wd (Below W0 W0), y.world.cell? (w.heap.size, 10) = some (.bool e.gone) := λ y => aN y.ok (ae r0 yY);have TC := hd1 (λ (W : World) (hb : Below W0 W0 W) => E8 ((hr'.later B0).later hb) hf);have GC := hd1 (λ (W : World) (hb : Below W0 W0 W) => z6q ((hr'.later B0).later hb) hf);have XC := hd1 (λ (W : World) (hb : Below W0 W0 W) => (x.grow B0).grow hb);have RD := hd1 (λ (W : World) (hb : Below W0 W0 W) => (fF.keeps (λ k _ hl => B0.block k hl) (λ _ h _ => h) : bR W0.heap G (.agg C) e.d).keeps (h' := W.heap) (F' := G) (λ k _ hl => hb.block k hl) (λ _ h _ => h));have HB := hd2 B0 hf;have HW := hd1 hW0;have ne : Nonempty (Wd (Below W0 W0)) := ⟨⟨_, Below.refl _ _⟩⟩;clear x hr' hC gH fF hE jU yY B0 r0 hW0 hf;go_in;go_upto_region 1 with fail
 rw [HW.out];refine bC (λ w' => ∃ x : Wd (Below W0 W0), w' = x.world) [] GQ ?_;refine aI [0, 1] 24 _ Hq GQ ?_;simp only [fmc, fmn, gta, gcs, gcz];refine ak (λ K hK => ?_); simp only [au, ah]; go_simp; refine hK _ ?_; clear hK K;refine dX rfl aj (.tmp 3) rfl _ LD.out ?_;refine aA ?_;refine az 2 23 _ _ rfl GQ ?_;refine IE rfl λ K hK => ?_;go_simp;go_at_call 57;refine (TC.out _ GY.drew).mono ?_;rintro en w1 ⟨b1, xa, xn, xc, rfl, p1⟩;have b1' : Below W0 W0 w1 := GY.drew.trans b1;have P1 := hd1 p1;clear b1 p1;refine hK _ _ (IB ⟨rfl, λ _ => ⟨⟨_, b1'⟩, rfl⟩, ?_⟩);clear hK K;refine az 3 22 _ _ rfl GQ ?_;refine IE rfl λ K hK => ?_;go_simp;go_at_call 18;refine (y8o (XC.out _ b1') P1.out (by rw [Em.oW]; have := HB.2.gF.good.few; omega)).mono ?_;rintro en w2 ⟨rfl, b2⟩;rw [Km rfl];have b2' : Below W0 W0 w2 := b1'.trans (b2.mono b1'.size);clear b2 b1' P1;refine hK _ _ (IB ⟨rfl, λ _ => ⟨⟨_, b2'⟩, rfl⟩, ?_⟩);clear hK K;refine aI [4, 5, 7] 19 _ ⟨⟨_, b2'⟩, rfl⟩ GQ ?_;simp only [fmc, fmn, gta, gcs, gcz];refine ak (λ K hK => ?_); simp only [au, ah]; go_simp; refine hK _ ?_; clear hK K;refine ak (λ K hK => ?_); simp only [au, ah]; go_simp; refine hK _ ?_; clear hK K;refine z2f (by go_simp) aj (.tmp 3) rfl _ LD.out ?_;refine aA ?_;refine az 6 18 _ _ rfl GQ ?_;refine Js λ K hK => ?_;go_simp;go_at_call 23;refine (z9b (XC.out _ b2')).mono ?_;rintro en w' ⟨rfl, rfl⟩;refine hK _ _ (IB ⟨rfl, λ _ => ⟨⟨_, b2'⟩, rfl⟩, ?_⟩);clear hK K;refine az 8 17 _ _ rfl GQ ?_;refine Js λ K hK => ?_;go_simp;go_at_call 58
 refine (GC.out _ b2').mono ?_;rintro en w3 ⟨rfl, b3⟩;have b3' : Below W0 W0 w3 := b2'.trans (b3.mono b2'.size);clear b3 b2';refine hK _ _ (IB ⟨rfl, λ _ => ⟨⟨_, b3'⟩, rfl⟩, ?_⟩);clear hK K;refine aI [9, 10, 11, 12, 14, 15] 11 _ ⟨⟨_, b3'⟩, rfl⟩ GQ ?_;refine G9 ?_;refine az 13 10 _ _ rfl GQ ?_;refine Js λ K hK => ?_;go_simp;go_at_call 17;refine (z9f (XC.out _ b3')).mono ?_;rintro en w' ⟨rfl, rfl⟩;refine hK _ _ (IB ⟨rfl, λ _ => ⟨⟨_, b3'⟩, rfl⟩, ?_⟩);clear hK K;refine aI [16, 17, 18, 19, 21, 22] 4 _ ⟨⟨_, b3'⟩, rfl⟩ GQ ?_;simp only [fmc, fmn, gta, gcs, gcz];refine ak (λ K hK => ?_); simp only [au, ah]; go_simp; refine hK _ ?_; clear hK K;refine ak (λ K hK => ?_); simp only [au, ah]; go_simp; refine hK _ ?_; clear hK K;refine ak (λ K hK => ?_); simp only [au, ah]; go_simp; refine hK _ ?_; clear hK K;refine ak (λ K hK => ?_); simp only [au, ah]; go_simp; refine hK _ ?_; clear hK K;refine ak (λ K hK => ?_); simp only [au, ah]; go_simp; refine hK _ ?_; clear hK K;refine z2f (by go_simp) af (.tmp 26) rfl _ LDC.out ?_;refine aA ?_;refine az 20 3 _ _ rfl GQ ?_;refine Js λ K hK => ?_;go_simp;go_at_call 24;refine (z1o (XC.out _ b3')).mono ?_;rintro en w' ⟨rfl, rfl⟩;refine hK _ _ (IB ⟨rfl, λ _ => ⟨⟨_, b3'⟩, rfl⟩, ?_⟩);clear hK K;refine az 23 2 _ _ rfl GQ ?_;refine Js λ K hK => ?_;go_simp;go_at_call 30;refine (ED (XC.out _ b3').disk (RD.out _ b3') HB.2.bound).mono ?_;rintro en w4 ⟨rfl, b4⟩;have lD : Below W0 W0 w4 := b3'.trans (b4.mono b3'.size);clear b4;refine hK _ _ (IB ⟨rfl, λ _ => ⟨⟨_, lD⟩, rfl⟩, ?_⟩)
 clear hK K;refine aI [24, 25] 0 _ ⟨⟨_, lD⟩, rfl⟩ GQ ?_;refine G9 ?_;refine ⟨GQ, ?_⟩;go_wp2;go_ret;exact ⟨rfl, HB.1.trans (lD.mono HB.1.size)⟩
end
section
open Go.RowKit Dm
attribute [local go_sem] Oper.semAt_some
theorem vI {P : Program} {fn : Func} {p q r : Tmp} {ty : TypeId} (h : fn.results = #[.tmp p, .cell q ty, .tmp r]) (tmps : Array Value) (w : World) (g : Nat) (t : TypeId) (cs : Array Value) (fr : Nat × Nat) (d : TypeDesc) (v v2 : Value)
 (hp : tmps.getD p undef = v) (hq : tmps.getD q undef = .pointer (some g)) (hr : tmps.getD r undef = v2) (hg : w.heap[g]? = some (.cells cs t fr))
 (hu : P.underlying ty = some d) (hd : (match d with | .struct _ | .array _ _ => true | _ => false) = true) (hi : (P.info? ty).map (·.size) = some cs.size) :
 (results fn tmps).run P w = .ok (.tuple #[v, .agg cs, v2]) w := by
 have hp' : tmps[p]?.getD undef = v := by simpa using hp
 have hq' : tmps[q]?.getD undef = .pointer (some g) := by simpa using hq
 exact QB
abbrev Apart (pl pd md : Nat) : Nat -> Prop := λ k => k ≠ pl /\ k ≠ pd /\ k ≠ md
def xB (w : World) (pl pd md : Nat) (F G : Nat -> Prop) (e' : Em.E) (en : Ending) (w' : World) : Prop :=
 ∃ eB fo md' F' v', en = .returned (.tuple #[.pointer (some ⟨eB, 0, none⟩), v', .bool true]) /\ Moves (eH pl pd md) w w' /\ bO w' eB fo md' e' F' /\ dW w' (λ k => Apart eB fo md' k /\ ((G k /\ k < w.heap.size) \/ w.heap.size <= k)) v' e' ∧
  ((eB = pl /\ fo = pd /\ md' = md) \/ (w.heap.size <= eB /\ w.heap.size <= fo /\ w.heap.size <= md')) /\ ∀ k, F' k -> (F k /\ k < w.heap.size) \/ w.heap.size <= k
abbrev iQ (what : Int) (lv : Value) (n : Int) (kv : Value) (bq part : Int) : Array Value := #[.int .i64 what, lv, .int .i64 n, kv, .int .i64 bq, .int .i64 part]
abbrev rG (w : World) (pl pd md : Nat) : Nat -> Prop := λ k => eH pl pd md k \/ k = w.heap.size + 1 + 1
structure w1f (w W0 : World) (E A : Array Value) : Prop where
 below : Below w.heap.size w W0
 r4 : W0.heap[w.heap.size]? = some (.cells E aj (0, 0))
 r5 : W0.heap[w.heap.size + 1]? = some (.cells A iV (0, 0))
 r7 : W0.heap[w.heap.size + 1 + 1]? = some (.cells bP aj (0, 0))
 size : W0.heap.size = w.heap.size + 3
theorem Dt (w : World) (E A : Array Value) : w1f w (((w.alloc (.cells E aj)).alloc (.cells A iV)).alloc (.cells bP aj)) E A :=
 ⟨((bla).alloc GV _).alloc N_ _, aM NM (aM GV (IC w _)), aM GV (bD (w := w.alloc _) _ GV), bD (w := (w.alloc _).alloc _) _ GV, GV⟩
theorem y6k {h h' : Array Obj} {C1 : Array Value} {d d1 : D} (x : bR h F (.agg C) d) (y : bR h' F' (.agg C1) d1) (g : Bool) (rv : Value) (k : Int) : qJ (bQ C g rv k) 0 C1.toList = bQ C1 g rv k := by
 obtain ⟨sv, t0, t1, t2, t3, wv, e, _, _⟩ := x;cases e;obtain ⟨r_, u0, u1, u2, u3, wv', e, _, _⟩ := y;cases e;simp [bQ, dC, qJ]
theorem dW.stays {eB fo md' : Nat} {e : Em.E} (h : dW w (λ k => (Apart pl pd md k /\ G k) /\ k < w.heap.size) v e) (hm : Moves (eH pl pd md) w w') (hp : w.heap.size <= eB) (hd : w.heap.size <= fo) (hmd : w.heap.size <= md') :
 dW w' (λ k => Apart eB fo md' k /\ ((G k /\ k < w.heap.size) \/ w.heap.size <= k)) v e :=
 h.keeps (λ k hk hl => hm.block k hl (λ q => by rcases q with q | q | q; exact hk.1.1.1 q; exact hk.1.1.2.1 q; exact hk.1.1.2.2 q)) (λ k hk hl => ⟨⟨GR, GR, GR⟩, Iy ⟨hk.1.2, hl⟩⟩)
theorem w0f {e : Em.E} (x : bO w pl pd md e F) (hr : dW w (λ k => Apart pl pd md k /\ G k) v e) (what n : Int) (h0 : ¬ what = 0) (h1 : ¬ what = 1) (h2 : ¬ what = 2) (lv kv : Value) (bq part : Int) :
 Calls prog 27 #[pl, v, .agg (iQ what lv n kv bq part)] w (xB w pl pd md F G e) := by
 have hr' := hr.clip;obtain ⟨C, ra, rn, rc, rfl, hC, gH, fF, _⟩ := hr;obtain ⟨E, hE⟩ := G5 (bQ C e.gone (.slice ra rn rc) (dG e));have jU : E.size = 13 := by rw [<-hE]; exact aV hC _ _ _
 have yX : E.all (·.oneCell') = true := by rw [<-hE]; exact d_ gH _ _ _ _ _
 rw [hE] at hr' ⊢;have hin := Dt w E (iQ what lv n kv bq part);obtain ⟨W0, hW0⟩ := G5 (((w.alloc (.cells E aj)).alloc (.cells (iQ what lv n kv bq part) iV)).alloc (.cells bP aj));rw [hW0] at hin;have k0 : W0.cell? (w.heap.size + 1, 0) = some (.int .i64 what) := ae hin.r5 rfl;have LD : Hid (∀ w', (∃ y : Wd (Below W0 W0), w' = y.world) -> (Instr.loadAt aj (.pointer (some w.heap.size))).run prog w' = .ok (.agg E) w') := by
  rintro w' ⟨y, rfl⟩;exact fK ((y.ok.block _ (aa hin.r4)).trans hin.r4) Hw rfl (by rw [aX, jU])
 have CC := hd1 (x7k (w := W0.drew) (((sU x).grow hin.below).grow GY.drew));have aD := hd1 hin;have HX := hd4 x hr' jU yX;have HW := hd1 hW0;have ne : Nonempty (Wd (Below W0 W0)) := ⟨⟨_, Below.refl _ _⟩⟩;clear x hr' hE jU yX hin hW0 fF gH hC;go_in;go_upto_region 1 with fail
 rw [show (((w.alloc (.cells E aj)).alloc (.cells (iQ what lv n kv bq part) iV)).alloc (.cells #[.int .i64 0, .int .i64 0, (), (), (), (), (), (), false, .int .i64 0, false, (), .int .i64 0] aj)) = W0 from HW.out];go_upto_region 16 with fail
 refine bC (λ w' => ∃ x : Wd (Below W0 W0), w' = x.world) [4, 5] GQ ?_;refine aI [0, 2] 4 _ Hq GQ ?_;simp only [fmc, fmn, gta, gcs, gcz];refine ak (λ K hK => ?_); simp only [au, ah]; go_simp; refine hK _ ?_; clear hK K;refine dX rfl aj (.tmp 4) rfl _ LD.out ?_;refine aA ?_;refine az 1 3 _ _ rfl GQ ?_;refine IE rfl λ K hK => ?_;go_simp;go_at_call 25;refine CC.mono ?_;rintro en w8 ⟨eB, fo, md', F', rfl, b8, hp', hd', hm', x8, hF'⟩;have rC : Below W0 W0 w8 := GY.drew.trans b8;have X8 := hd6 rC hp' hd' hm' x8 hF';clear b8 hp' hd' hm' x8 hF';refine hK _ _ (IB ⟨rfl, λ _ => ⟨⟨_, rC⟩, rfl⟩, ?_⟩);clear hK K;refine aI [3] 2 _ ⟨⟨_, rC⟩, rfl⟩ GQ ?_;refine G9 ?_;refine az 4 1 _ _ rfl GQ ?_;refine aC rfl aj _ _ rfl (w.heap.size + 1 + 1) E rfl rfl aj bP ((rC.block _ (aa aD.r7)).trans aD.r7) (by rw [aX, HX.2.2.1]) (by rw [HX.2.2.1]; rfl) HX.2.2.2 ?_;intro W9 bM aR eX;refine IB ⟨rfl, λ h => absurd GU h, ?_⟩;refine az 5 0 _ _ rfl GQ ?_;refine IE rfl λ K hK => ?_;go_simp;refine hK _ _ (IB ⟨rfl, λ h => absurd GU h, GQ, ?_⟩);clear hK K;go_wp2;refine IK (vI rfl _ _ (w.heap.size + 1 + 1) _ _ _ _ _ _ rfl rfl rfl bM.out Hw rfl (by rw [aX, HX.2.2.1])) rfl ?_;obtain ⟨b8, hp', hd', hm', x8, hF'⟩ := X8.out;have s0 := aD.size;have hp' : W0.heap.size <= eB := hp';have hd' : W0.heap.size <= fo := hd';have hm' : W0.heap.size <= md' := hm';have b9 : Below w w W9 := Moves.new (aD.below.trans (b8.mono aD.below.size)) aR GR;refine ⟨eB, fo, md', F', .agg E, rfl, Moves.of_below b9, lZ x8 aR GR GR GR (λ k hk h => ?_) (λ k hk _ => ?_), dW.stays HX.2.1 (Moves.of_below b9) GR GR GR, Iz ⟨GR, GR, GR⟩, λ k hk => ?_⟩
 ·have : W0.drew.heap.size = W0.heap.size := rfl
  rcases hF' k hk with q | q
  ·have := q.1.2; omega
  ·omega
 ·subst hk
  exact ⟨_, _, _, (b8.block _ (aa aD.r7)).trans aD.r7⟩
 ·have : W0.drew.heap.size = W0.heap.size := rfl
  rcases hF' k hk with q | q
  ·exact Iy q.1
  ·exact Iz GR
theorem w0d {e : Em.E} (x : bO w pl pd md e F) (hr : dW w (λ k => Apart pl pd md k /\ G k) v e) (n : Int) (hn : n <= 9223372036854775807) (lv kv : Value) (bq part : Int) :
 Calls prog 27 #[pl, v, .agg (iQ 1 lv n kv bq part)] w (xB w pl pd md F G { e with d := (e.d.stop n).1 }) := by
 have hr' := hr.clip;obtain ⟨C, ra, rn, rc, rfl, hC, gH, fF, hp⟩ := hr;have hin := Dt w (bQ C e.gone (.slice ra rn rc) (dG e)) (iQ 1 lv n kv bq part);obtain ⟨W0, hW0⟩ := G5 (((w.alloc (.cells (bQ C e.gone (.slice ra rn rc) (dG e)) aj)).alloc (.cells (iQ 1 lv n kv bq part) iV)).alloc (.cells bP aj));rw [hW0] at hin;have k0 : W0.cell? (w.heap.size + 1, 0) = some (.int .i64 1) := ae hin.r5 rfl;have k2 : W0.cell? (w.heap.size + 1, 2) = some (.int .i64 n) := ae hin.r5 rfl;have RS := z5s (w := W0) (F := λ k => (Apart pl pd md k /\ G k) /\ k < w.heap.size) (fF.keeps (λ k _ hl => hin.below.block k hl) (λ k h hl => ⟨h, hl⟩)) n;obtain ⟨r, hr⟩ := G5 (e.d.stop n);rw [hr] at RS;have RS := hd1 RS;have HR := hd1 hr;have aD := hd1 hin;have HX := hd7 x hr' hC gH fF hp hn;have HW := hd1 hW0;rw [hr];obtain ⟨e2, he2⟩ : ∃ e2 : Em.E, { e with d := r.1 } = e2 := ⟨_, rfl⟩;rw [he2];have HE2 := hd1 he2;clear x hr' hin hW0 fF gH hC hp hr hn he2;obtain ⟨gk, BU⟩ := G5 (dG e);obtain ⟨go, hgo⟩ := G5 e.gone;rw [hgo, BU] at aD HW;rw [hgo, BU];have HGO := hd1 hgo;have HGK := hd1 BU;clear hgo BU;go_in;go_upto_region 1 with fail
 rw [show (((w.alloc (.cells (bQ C go (.slice ra rn rc) gk) aj)).alloc (.cells (iQ 1 lv n kv bq part) iV)).alloc (.cells #[.int .i64 0, .int .i64 0, (), (), (), (), (), (), false, .int .i64 0, false, (), .int .i64 0] aj)) = W0 from HW.out]
 go_upto_region 10 with (first
  | (refine uW rfl (.tmp 48) rfl w.heap.size rfl aD.r4 HX.2.2.1 ?_)
  | (go_at_call 55; refine RS.mono ?_; rintro en w1 ⟨v1, rfl, b1, f1⟩; obtain ⟨C1, rfl, oz, tK⟩ := f1.cells)
  | (refine aC rfl af _ _ rfl w1.heap.size C1 rfl rfl af bV (IC w1 _) (by rw [aH, oz]) (by rw [oz]; rfl) tK ?_; intro W2 HW2 cu HS2)
  | (refine II rfl af (.tmp 13) rfl w1.heap.size rfl af C1 (0, 0) _ HW2.out Hu rfl (by rw [aH, oz]) ?_)
  | (refine nU rfl af (.tmp 56) (.tmp 55) rfl w.heap.size 0 C1 rfl rfl aj _ (((Moves.new ((Below.refl w1 w1).alloc GZ _) cu GZ).block _ (Jc (aa aD.r4) b1.size)).trans ((b1.block _ (aa aD.r4)).trans aD.r4)) (by rw [aH, oz]) (by rw [aV HX.2.2.1, oz]; decide) tK ?_; intro W3 HW3 bU fZ))
 have s0 := aD.size;have b12 : Below w1 w1 W2 := Moves.new ((Below.refl w1 w1).alloc GZ _) cu GZ;have b02 : Below W0 W0 W2 := b1.trans (b12.mono b1.size);have b3 : Below w w W3 := Moves.new (aD.below.trans (b02.mono aD.below.size)) bU GZ;have R3 : W3.heap[w.heap.size]? = some (.cells (bQ C1 go (.slice ra rn rc) gk) aj (0, 0)) := by rw [<-y6k HX.2.2.2.2.1 f1 go (.slice ra rn rc) gk]; exact HW3.out
 obtain ⟨E1, hE1⟩ := G5 (bQ C1 go (.slice ra rn rc) gk);have z0k : E1.size = 13 := by rw [<-hE1]; exact aV oz _ _ _
 have z9h : E1.all (·.oneCell') = true := by rw [<-hE1]; exact d_ tK _ _ _ _ _
 rw [hE1] at R3;have R5 := ((bU.block _ (Hf b02.size) GR).trans ((b02.block _ (aa aD.r5)))).trans aD.r5;have R7 := ((bU.block _ (Hf b02.size) GR).trans ((b02.block _ (aa aD.r7)))).trans aD.r7;have lx := HX.1.disk.lt;have lp := aa HX.1.row.choose_spec.1;have LD : Hid (∀ w', (∃ y : Wd (Moves (rG w pl pd md) W3), w' = y.world) -> (Instr.loadAt aj (.pointer (some w.heap.size))).run prog w' = .ok (.agg E1) w') := by
  rintro w' ⟨y, rfl⟩;exact fK ((y.ok.block _ (aa R3) (by unfold rG; omega)).trans R3) Hw rfl (by rw [aX, z0k])
 have f2 : ∀ y : Wd (Moves (rG w pl pd md) W3), y.world.cell? (w.heap.size + 1, 2) = some (.int .i64 n) := λ y => ae ((y.ok.block _ (aa R5) (by unfold rG; omega)).trans R5) rfl;have x3 := ((sU HX.1).grow b3).grow (Below.refl W3 W3).drew;have DC := hd1 (z1o x3);have SC := EM x3.disk n HX.2.2.2.2.2.2;rw [HR.out] at SC;have SC := hd1 SC;have H3 := hd16 b1 b02 b3 R7 z0k z9h hE1 x3 f1 oz tK bU s0 lx lp b12;have ne : Nonempty (Wd (Moves (rG w pl pd md) W3)) := ⟨⟨_, Moves.refl _ _⟩⟩;clear b1 b12 b02 b3 R3 R5 R7 z0k z9h hE1 x3 f1 oz tK HW2 cu HS2 HW3 bU fZ k0 k2 s0 lx lp;refine bC (λ w' => ∃ x : Wd (Moves (rG w pl pd md) W3), w' = x.world) [] GQ ?_;refine aI [0, 1, 2, 4, 5, 8] 7 _ ⟨⟨_, (Moves.of_below GY.drew)⟩, rfl⟩ GQ ?_;simp only [fmc, fmn, gta, gcs, gcz];refine ak (λ K hK => ?_); simp only [au, ah]; go_simp; refine hK _ ?_; clear hK K;refine dX rfl aj (.tmp 4) rfl _ LD.out ?_;repeat refine G8 ?_
 refine aA ?_;refine az 3 6 _ _ rfl GQ ?_;refine IE rfl λ K hK => ?_;go_simp;go_at_call 24;refine DC.mono ?_;rintro en w' ⟨rfl, rfl⟩;refine hK _ _ (IB ⟨rfl, λ _ => ⟨⟨_, (Moves.of_below GY.drew)⟩, rfl⟩, ?_⟩);clear hK K;refine az 6 5 _ _ rfl GQ ?_;refine IE rfl λ K hK => ?_;go_simp;go_at_call 16;refine SC.mono ?_;rintro en w5 h5;obtain ⟨rfl, m5, x5⟩ := z8q H3.2.2.2.2.2.2.2.1 h5;have BI : Moves (rG w pl pd md) W3 w5 := (Moves.of_below (Below.refl W3 W3).drew).trans m5 (λ _ _ h => Iy h);have X5 := hd2 (show Moves (eH pl pd md) W3 w5 from (Moves.of_below (Below.refl W3 W3).drew).trans m5 (λ _ _ h => h)) x5;clear h5 m5 x5;refine hK _ _ (IB ⟨rfl, λ _ => ⟨⟨_, BI⟩, rfl⟩, ?_⟩);clear hK K;refine az 7 4 _ _ rfl GQ ?_;refine IE rfl λ K hK => ?_;go_simp;go_at_call 12;refine (iX _ _).mono ?_;rintro en w' ⟨rfl, rfl⟩;refine hK _ _ (IB ⟨rfl, λ _ => ⟨⟨_, BI⟩, rfl⟩, ?_⟩);clear hK K;refine aI [9, 10] 2 _ ⟨⟨_, BI⟩, rfl⟩ GQ ?_;refine G9 ?_;refine az 11 1 _ _ rfl GQ ?_;refine aC rfl aj _ _ rfl (w.heap.size + 1 + 1) E1 rfl rfl aj bP ((X5.1.block _ (aa H3.2.2.2.1) (Hg H3.2.2.2.2.2.2.2.2.2.2.2.2.2.1 H3.2.2.2.2.2.2.2.2.2.2.2.2.2.2.1)).trans H3.2.2.2.1) (by rw [aX, H3.2.2.2.2.1]) (by rw [H3.2.2.2.2.1]; rfl) H3.2.2.2.2.2.1 ?_;intro W9 bM aR eX;have qU : Moves (rG w pl pd md) W3 W9 := BI.trans aR (λ k _ h => Iz h);refine IB ⟨rfl, λ _ => ⟨⟨_, qU⟩, rfl⟩, ?_⟩;refine aI [12] 0 _ ⟨⟨_, qU⟩, rfl⟩ GQ ?_;refine G9 ?_;refine ⟨GQ, ?_⟩;go_wp2;refine IK (vI rfl _ _ (w.heap.size + 1 + 1) _ _ _ _ _ _ rfl rfl rfl bM.out Hw rfl (by rw [aX, H3.2.2.2.2.1])) rfl ?_
 have aR : Moves (λ k => k = w.heap.size + 1 + 1) w5 W9 := ⟨aR.os, aR.tape, aR.output, aR.size, aR.block⟩;obtain ⟨b1, b02, b3, R7, _, _, hE1, x3, f1, oz, tK, bU, s0, lx, lp, b12⟩ := H3.out;obtain ⟨m5, x5⟩ := X5.out;have z1 := b1.size;have z2 := b02.size;have z3 := bU.size;have z5 := m5.size;have m9 : Moves (eH pl pd md) w W9 := ((Moves.of_below b3).trans m5 (λ _ _ h => h)).trans aR (λ k hk h => GR);have he2 := HE2.out;subst he2;refine ⟨pl, pd, md, _, .agg E1, rfl, m9, lZ x5 aR GR GR GR (λ k hk h => ?_) (λ k hk _ => ?_), ⟨C1, ra, rn, rc, ?_, oz, tK, ?_, ?_⟩, Iy ⟨rfl, rfl, rfl⟩, λ k hk => ?_⟩
 ·have : W3.drew.heap.size = W3.heap.size := rfl
  rcases hk with q | q
  ·have := q.2; omega
  ·have := b3.size; omega
 ·subst hk
  exact ⟨_, _, _, (m5.block _ (aa R7) GR).trans R7⟩
 ·rw [<-hE1, <-HGO.out, <-HGK.out]
  rfl
 ·refine f1.keeps (λ k hk hl => ?_) (λ k hk hl => ?_)
  ·have hap : Apart pl pd md k /\ k ≠ w.heap.size /\ k ≠ w.heap.size + 1 + 1 := by
    rcases hk with q | q
    ·exact ⟨q.1.1, Hf q.2, Hf q.2⟩
    ·exact ⟨⟨GR, GR, GR⟩, GR, GR⟩
   have z12 := b12.size;exact (aR.block k GR hap.2.2).trans ((m5.block k GR (λ h => by rcases h with h | h | h; exact hap.1.1 h; exact hap.1.2.1 h; exact hap.1.2.2 h)).trans ((bU.block k GR hap.2.1).trans (b12.block k hl)))
  ·exact QG
 ·exact HX.2.2.2.2.2.1.yJ (λ k hk hl => m9.block k hl (λ h => by rcases h with h | h | h; exact hk.1.1 h; exact hk.1.2.1 h; exact hk.1.2.2 h)) (λ k hk hl => ⟨hk.1, Iy ⟨hk.2, hl⟩⟩)
 ·have := b3.size
  have : W3.drew.heap.size = W3.heap.size := rfl;exact Sc
end
section
open Go.RowKit Dm
attribute [local go_sem] Oper.semAt_some
def nz (one two : List UInt8) (stops : Int) : D := ⟨0, 20000, ⟨λ _ => zeros, upd (upd (λ _ => []) 0 one) 1 two⟩, [], false, stops⟩
theorem x3o {one two : List UInt8} (h1 : one.length <= 4000) (h2 : two.length <= 4000) :
 ∃ d1 d2, (Dm.new 0 20000).append 0 one = (d1, 0) /\ d1.append 1 two = (d2, 0) /\ d2.sync = (nz one two (-1), 0) := by
 have a1 : (Dm.new 0 20000).append 0 one = ({ Dm.new 0 20000 with waits := [⟨2, 0, 0, one⟩] }, 0) := by
  unfold D.append;rw [Iw GU, Iw]
  ·rfl
  ·show ¬ (0 : Int) + (one.length : Int) > 20000
   omega
 have a2 : ({ Dm.new 0 20000 with waits := [⟨2, 0, 0, one⟩] } : D).append 1 two = ({ Dm.new 0 20000 with waits := [⟨2, 0, 0, one⟩, ⟨2, 1, 0, two⟩] }, 0) := by
  unfold D.append;rw [Iw GU, Iw]
  ·rfl
  ·have e : ({ Dm.new 0 20000 with waits := [⟨2, 0, 0, one⟩] } : D).stand.used = (one.length : Int) := by
    simp [D.stand, St.used, St.done, Dm.new, St.empty, upd]
   rw [e];show ¬ (one.length : Int) + (two.length : Int) > 20000;omega
 refine ⟨_, _, a1, a2, ?_⟩;unfold D.sync;have g : ({ Dm.new 0 20000 with waits := [⟨2, 0, 0, one⟩, ⟨2, 1, 0, two⟩] } : D).goes = ({ Dm.new 0 20000 with waits := [⟨2, 0, 0, one⟩, ⟨2, 1, 0, two⟩] }, 0) := rfl;rw [g, IA rfl];simp [nz, D.stand, St.done, Dm.new, St.empty];funext k
 by_cases k1 : k = 1
 ·subst k1
  simp [upd]
 ·simp [upd, k1]
theorem z8g (one two : List UInt8) {n : Int} (hn : 0 <= n) : (nz one two (-1)).stop n = (nz one two n, 0) := by
 unfold D.stop;rw [Iw GR, Iw (by simp [nz])];rfl
end
end Go.Proofs.YtgffifleflkjoaaGreat
