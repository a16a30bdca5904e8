/-
  Parts of a proof.
-/
import Derived.Test.YtgffifleflkjoaaGreatFin19
import Derived.Test.YtgffifleflkjoaaGreatFin25
import Derived.Test.YtgffifleflkjoaaGreatFin26
set_option linter.unusedSimpArgs false
set_option linter.unusedVariables false
set_option maxRecDepth 100000
set_option maxHeartbeats 16000000
namespace Go.Proofs.YtgffifleflkjoaaGreat
open _root_.Go.Proofs.Tryz
variable {w W w' w0 wr w1 W0 W1 W2 A B : World} {F G F' O : Nat → Prop} {v : Value} {l : List UInt8} {n q m pd md pl g p : Nat} {C : Array Value} {c : Int}
open Go.RowKit Dm
theorem x2o {b1 : Nat} {t : Nat} (c1 : w.cell? b1 = some (.pointer (some pl)))
 (c0 : w.cell? pl = some (.int .i64 t)) (c4 : w.cell? (pl, 4) = some (.int .i64 n)) (c5 : w.cell? (pl, 5) = some (.pointer (some pd)))
 (h1 : b1 ≠ pd /\ b1 ≠ md) (h5 : pl ≠ pd /\ pl ≠ md) :
 Does w pd md (.func (.func 75) #[] #[.pointer (some b1)]) (λ d => d.cut t n) :=
 ⟨⟨_, _, _, rfl, enters_of func75 GQ rfl, λ W d F hm x hw =>
  x2l x (nu hm c1 h1.1 h1.2) (nu hm c0 h5.1 h5.2) (nu hm c4 h5.1 h5.2) (nu hm c5 h5.1 h5.2) hw⟩, λ d => y0c d t n⟩
theorem x2p {b1 cap : Nat} {d : D} {t : Nat} {tt : TypeId} (x : aQ w.heap pd md d F) (hw : d.waits.length <= 900000000)
 (c1 : w.cell? b1 = some (.pointer (some pl))) (c0 : w.cell? pl = some (.int .i64 t)) (c4 : w.cell? (pl, 4) = some (.int .i64 n))
 (c5 : w.cell? (pl, 5) = some (.pointer (some pd))) (h1 : b1 ≠ pd /\ b1 ≠ md) (h5 : pl ≠ pd /\ pl ≠ md) (hg : g ≠ pd /\ g ≠ md)
 (hr : w.heap[g]? = some (.cells #[.func (.func 75) #[] #[.pointer (some b1)], .func (.func 60) #[.pointer (some pd)] #[]] tt (0, 0))) :
 Calls prog 71 #[.slice (some g) 2 cap] w (Left w pd md F (Em.next (d.cut t n) D.sync)) := by
 have := z1t (w := w) (g := g) (cap := cap) (acts := [λ d => d.cut t n, D.sync])
  (tQ := [.func (.func 75) #[] #[.pointer (some ⟨b1, 0, none⟩)], .func (.func 60) #[.pointer (some ⟨pd, 0, none⟩)] #[]]) x hw hr hg
  (λ i f hf => by
   match i, hf with
   | 0, hf => cases hf; rfl
   | 1, hf => cases hf; rfl
   | i + 2, hf => simp at hf) rfl
  (λ i f a hf ha => by
   match i, hf, ha with
   | 0, hf, ha => cases hf; cases ha; exact x2o c1 c0 c4 c5 h1 h5
   | 1, hf, ha => cases hf; cases ha; exact EL w pd md
   | i + 2, hf, ha => simp at hf) GV
 rw [z1g] at this;exact this
theorem yB {e : Em.E} (h : e.good) (d : D) : ({ e with d := d } : Em.E).good := ⟨h.tp, h.gen, h.aL, h.fin, h.rows, h.few⟩
theorem x2m {e : Em.E} (x : bO w pl pd md e F) (hw : e.d.waits.length <= 900000000) :
 Calls prog 35 #[pl] w (lK w pl pd md F ({ e with d := (Em.mended e.d e.tp e.fin).1 }, (Em.mended e.d e.tp e.fin).2)) := by
 obtain ⟨W, hW⟩ := G5 (w.alloc (.cells #[.pointer (some ⟨pl, 0, none⟩)] mQ));have BW : Below w w W := by rw [<-hW]; exact bla
 have sW : W.heap.size = w.heap.size + 1 := by rw [<-hW]; simp
 have c1 : W.cell? w.heap.size = some (.pointer (some pl)) := by rw [<-hW]; exact ae (IC w _) rfl
 obtain ⟨m, row, rows, n1, n2, n3⟩ := x.row;have gG := aa row;have mX : W.heap[pl]? = some (.cells (jF e.tp e.gen (.map (some m)) e.aL e.fin pd e.gone) eO (0, 0)) := (BW.block pl gG).trans row;have g1 : ∀ y : Wd (Below W W), y.world.cell? w.heap.size = some (.pointer (some pl)) := λ y => aN y.ok c1;have g0 : ∀ y : Wd (Below W W), y.world.cell? pl = some (.int .i64 e.tp) := λ y => aN y.ok (ae mX rfl);have g4 : ∀ y : Wd (Below W W), y.world.cell? (pl, 4) = some (.int .i64 e.fin) := λ y => aN y.ok (ae mX rfl);have g5 : ∀ y : Wd (Below W W), y.world.cell? (pl, 5) = some (.pointer (some pd)) := λ y => aN y.ok (ae mX rfl);have SC := hd1 (z4d (w := W.drew) (t := e.tp) (pl := pl) (show aQ W.heap pd md e.d F from x.disk.below BW) (ae mX rfl) (Hf x.good.tp));have X := hd1 x;have H := hd10 hw BW sW c1 row rows n1 n2 n3 mX;have ne : Nonempty (Wd (Below W W)) := ⟨⟨_, Below.refl _ _⟩⟩;have gN : ∀ (fn : Fn) (first cap : Array Value) (w : World), (Instr.makeFunc fn first cap).run prog w = .ok (.func fn first cap) w := λ _ _ _ _ => rfl;clear x hw BW sW c1 row rows mX gG;have HW := hd1 hW;clear hW;by_cases h0 : (e.d.stand.tp e.tp).length = e.fin
 ·have HE := hd1 (show Em.mended e.d e.tp e.fin = (e.d, 0) by unfold Em.mended; rw [IA h0])
  rw [h0] at SC;clear h0;go_in;go_wp2;rw [HW.out];refine bC (λ w' => ∃ x : Wd (Below W W), w' = x.world) [12] GQ ?_;refine aI [0, 1, 2, 3, 4, 5, 7, 8, 9, 10, 11] 2 _ Hq GQ ?_;simp only [fmc, fmn, gta, gcs, gcz];iterate 11 (with_reducible refine ak (λ K hK => ?_); simp only [au, ah]; go_simp; refine hK _ ?_; clear hK K)
  with_reducible refine aA ?_
  refine az 6 1 _ _ rfl GQ ?_;refine IE rfl λ K hK => ?_;go_simp;refine SC.mono ?_;rintro r w1 ⟨rfl, b1⟩;have HB := hd1 (show Below W W w1 from GY.drew.trans b1);clear b1;refine hK _ _ (IB ⟨rfl, λ _ => ⟨⟨_, HB.out⟩, rfl⟩, ?_⟩);clear hK K;refine eY [12] 0 _ GQ ?_;refine G9 ?_;refine ⟨GQ, ?_⟩;go_wp2;go_ret;rw [HE.out];have B := H.2.1.trans (HB.mono H.2.1.size);have gG := aa H.2.2.2.2.1;exact ⟨rfl, Moves.of_below B, ⟨yB X.good _, X.disk.plus B, ⟨m, (B.block pl gG).trans H.2.2.2.2.1, dZ H.2.2.2.2.2.1 B H.2.2.2.2.2.1.lt, H.2.2.2.2.2.2.1, H.2.2.2.2.2.2.2.1, H.2.2.2.2.2.2.2.2.1⟩, X.ne.1, X.ne.2.1, λ h => by
   rcases h with h | h
   ·exact X.ne.2.2 h
   ·omega⟩⟩
 ·have HE := hd1 (show Em.mended e.d e.tp e.fin = Em.next (e.d.cut e.tp e.fin) D.sync by unfold Em.mended; rw [Iw h0])
  have h0' : ¬ ((e.d.stand.tp e.tp).length : Int) = e.fin := GR;clear h0;generalize (e.d.stand.tp e.tp).length = N at *;go_in;go_wp2;rw [HW.out];refine bC (λ w' => ∃ x : Wd (Below W W), w' = x.world) [12] GQ ?_;refine aI [0, 1, 2, 3, 4, 5, 7, 8, 9, 10, 11] 2 _ Hq GQ ?_;simp only [fmc, fmn, gta, gcs, gcz];iterate 11 (with_reducible refine ak (λ K hK => ?_); simp only [au, ah]; go_simp; refine hK _ ?_; clear hK K)
  with_reducible refine aA ?_
  refine az 6 1 _ _ rfl GQ ?_;refine IE rfl λ K hK => ?_;go_simp;refine SC.mono ?_;rintro r w1 ⟨rfl, b1⟩;have HB := hd1 (show Below W W w1 from GY.drew.trans b1);have k1 := g1 ⟨w1, HB.out⟩;have k5 := g5 ⟨w1, HB.out⟩;clear b1;refine hK _ _ (IB ⟨rfl, λ _ => ⟨⟨_, HB.out⟩, rfl⟩, ?_⟩);clear hK K;refine eY [12] 0 _ GQ ?_;refine G9 ?_;refine ⟨GQ, ?_⟩;clear g0 g1 g4 g5 ne;obtain ⟨W6, fG⟩ := G5 (w1.alloc (.cells #[.func (.func 75) #[] #[.pointer (some ⟨w.heap.size, 0, none⟩)], .func (.func 60) #[.pointer (some ⟨pd, 0, none⟩)] #[]] qE));have r6 := IC w1 (.cells #[.func (.func 75) #[] #[.pointer (some ⟨w.heap.size, 0, none⟩)], .func (.func 60) #[.pointer (some ⟨pd, 0, none⟩)] #[]] qE);rw [fG] at r6;have gL : Below w1 w1 W6 := by rw [<-fG]; exact bla
  have B6 : Below W W W6 := HB.trans (gL.mono HB.size);have B : Below w w W6 := H.2.1.trans (B6.mono H.2.1.size);have mX := H.2.2.2.2.2.2.2.2.2;have lx := X.disk.lt;have sW := H.2.2.1;have s1 := HB.size
  have RC := hd1 (x2p (cap := 2) (t := e.tp) (n := e.fin) (X.disk.below B) H.1 (aN B6 H.2.2.2.1) (aN B6 (ae mX rfl)) (aN B6 (ae mX rfl)) (aN B6 (ae mX rfl))
   ⟨GR, GR⟩ ⟨X.ne.1, X.ne.2.1⟩ ⟨GR, GR⟩ r6)
  have H6 := hd3 B fG s1;clear B B6 gL r6 fG mX lx sW s1;go_wp2_with (go_at_call 71; rw [H6.2.1]; refine RC.mono ?_; rintro r w7 ⟨rfl, m7, x7⟩; have L := hd2 m7 x7; clear m7 x7)
  go_ret;rw [HE.out];obtain ⟨m7, x7⟩ := L.out;have B := H6.1;have row := H.2.2.2.2.1;have gG := aa row;refine ⟨rfl, (Moves.of_below B).trans (m7.mono λ i hi => Iz hi) (λ _ _ h => h), ⟨yB X.good _, Af X.disk x7 B.size, ⟨m, ?_, ?_, H.2.2.2.2.2.2.1, H.2.2.2.2.2.2.2.1, H.2.2.2.2.2.2.2.2.1⟩, X.ne.1, X.ne.2.1, λ h => by
   rcases h with h | h
   ·exact X.ne.2.2 h
   ·omega⟩⟩
  ·exact (m7.block pl (Hf B.size) (λ e => by rcases e with e | e; exact X.ne.1 e; exact X.ne.2.1 e)).trans ((B.block pl gG).trans row)
  ·exact sG (dZ H.2.2.2.2.2.1 B H.2.2.2.2.2.1.lt) m7 H.2.2.2.2.2.2.1 H.2.2.2.2.2.2.2.1
section
open Go.Shelf
attribute [local go_sem] Oper.semAt_some
def Em.took (d : D) (b : Nat × Em.T) : Em.E := ⟨b.1, b.2.gen, b.2.rows, b.2.aL, b.2.fin, d, false⟩
def Em.bZ (d : D) (b : Nat × Em.T) : Em.E × Int := if b.2.gen = 0 then Em.begun d else ({ Em.took d b with d := (Em.mended d b.1 b.2.fin).1 }, (Em.mended d b.1 b.2.fin).2)
theorem Gb {d : D} {ts : Nat -> Em.T} (x : aQ w.heap pd md d F) (hw : d.waits.length <= 900000000) (hF : ∀ i, F i -> i < w.heap.size) (hts : ∀ k : Nat, k < 2 -> zI (d.stand.tp k) k (ts k)) (hg : (aP ts 2).2.gen ≠ 0 -> (Em.took d (aP ts 2)).good) :
 Calls prog 10 #[pd] w (xh w pd md F (Em.bZ d (aP ts 2))) := by
 obtain ⟨W2, hW2⟩ := G5 ((w.alloc (.cells #[.pointer (some ⟨w.heap.size + 1, 0, none⟩)] mQ)).alloc (.cells (Gv pd) eO));have B2 : Below w w W2 := by rw [<-hW2]; exact (bla).alloc GV _
 have s2 : W2.heap.size = w.heap.size + 2 := by rw [<-hW2]; simp
 have r0 : W2.heap[w.heap.size]? = some (.cells #[(w.heap.size + 1, 0)] mQ) := by rw [<-hW2]; exact aM GV (IC w _)
 have r1 : W2.heap[w.heap.size + 1]? = some (.cells (Gv pd) eO (0, 0)) := by rw [<-hW2]; exact bD (w := w.alloc _) _ GV
 have SC := hd1 (λ (c : Obj) => (Jg (n := 0)).2 (y7u (x.below ((Below.refl w w).alloc GZ c))));have hb : Below W2 W2 (W2.alloc (.cells #[pd] 23)) := bla;have k0 : (W2.alloc (.cells #[pd] 23)).cell? (w.heap.size + 1 + 1, 0) = some (.pointer (some pd)) := by
  rw [show w.heap.size + 1 + 1 = W2.heap.size by omega];exact ae (IC W2 (.cells #[.pointer (some ⟨pd, 0, none⟩)] 23)) rfl
 have IT := hd1 (y5m ((x.below B2).below hb) k0 hts);have X := hd4 x hw hF hg;have B := hd4 B2 s2 r0 r1;have HW2 := hd1 hW2;clear x hw hF hg hts B2 s2 r0 r1 hb k0 hW2;refine (Jg (n := 0)).1 ?_;refine Mf func10 rfl trivial ?_ rfl;simp only [ntmps10, KE, I6, Jy, Nat.reduceAdd, Nat.reduceSub, J_, Ka, Kb, Kc, Ji, JK];gi_wp2;refine y4z 0 rfl ?_
 gi_wp2_with (first
  | (refine ⟨trivial, rfl, ?_⟩; gi_at_call 32; refine (SC.out _).mono ?_; rintro e w' ⟨rfl, rfl⟩)
  | (refine ⟨trivial, rfl, ?_⟩; gi_at_call 33; refine (Jg.2 (y5n pd _)).mono ?_; rintro e w' ⟨rfl, rfl⟩))
 rw [HW2.out]
 refine y4y (gf := 68) (lb := #[.pointer (some ⟨w.heap.size + 1 + 1, 0, none⟩)]) rfl (enters_of func68 GQ rfl) IT.out ?hR GY ?hps (uA w pd ts) (λ _ _ _ _ => False)
  (λ k O O' A B h hm _ ho => Gc h hm ho) (λ _ _ _ _ _ _ h _ _ _ => h) ?kY (λ _ _ _ _ _ _ _ h => h) ?h0
  (λ k O x a' W => ∃ (q : Nat) (mv : Value), a' = { tmps := #[.pointer (some ⟨pd, 0, none⟩), undef, .pointer (some ⟨w.heap.size, 0, none⟩), .int .i64 1, .pointer (some ⟨q, 0, none⟩), .pointer (some ⟨pd, 0, none⟩), .bool false, .pointer (some ⟨pd, 0, none⟩), .agg (Gv pd), .pointer (some ⟨w.heap.size + 1, 0, none⟩), .pointer (some ⟨pd, 0, none⟩), .func (.func 68) #[] #[.pointer (some ⟨w.heap.size + 1 + 1, 0, none⟩)], .agg #[.int .i64 k, .int .i64 (ts k).gen, mv, .int .i64 (ts k).aL, .int .i64 (ts k).fin], undef, undef, undef, undef, undef, undef, undef, undef, undef, undef, undef, undef, undef, undef, undef, undef, undef, undef, undef, undef, undef, undef, undef, undef, undef, undef], defers := [] } ∧
   W.heap[q]? = some (.cells #[.int .i64 k, .int .i64 (ts k).gen, mv, .int .i64 (ts k).aL, .int .i64 (ts k).fin] dK) /\ w.heap.size + 5 <= q ∧
   ((mv = .map none /\ ts k = Em.T.none) \/ ∃ m, mv = .map (some m) /\ RowsIn W m (Maps.size (ts k).rows) (ts k).rows /\ w.heap.size + 3 <= m) /\ ∀ i, ¬ O i) ?hAx ?assign ?body ?done (λ _ _ _ _ _ h => h.elim)
 case hR =>
  rintro i (rfl | rfl | rfl | h)
  ·have := X.1.lt; have := B.2.1; simp only [Jk]; omega
  ·have := X.1.lt; have := B.2.1; simp only [Jk]; omega
  ·have := B.2.1; simp only [Jk]; omega
  ·exact h.2
 case hps =>
  rintro k x O W ⟨⟨v, rfl, _⟩, _⟩;rfl
 case kY =>
  intro k O r o W' hl h;have := B.2.1;exact x1l h _ Nl o _ hl (λ _ _ e => by cases e)
 case h0 =>
  intro W' hb' hs;have s2 := B.2.1;simp only [Jk] at hb' hs;have hb0 : Below w W2 (W2.alloc (.cells #[pd] 23)) := GY.alloc GR _;have hbb : Below W2 W2 W' := ((Below.refl W2 W2).alloc GZ (.cells #[.pointer (some ⟨pd, 0, none⟩)] 23)).trans (hb'.mono GR);exact ⟨B.1.trans (hbb.mono GR), (hbb.block _ GR).trans B.2.2.1, λ i h => h.elim, GR, .map none, (hbb.block _ GR).trans B.2.2.2, Iy ⟨rfl, rfl⟩⟩
 case hAx =>
  rintro k O x a' W l r o hl ⟨q, mv, h1, h2, h3, h4, h5⟩;refine ⟨q, mv, h1, (Jd (λ e => by rw [e, hl] at h2; cases h2)).trans h2, h3, ?_, h5⟩;rcases h4 with h4 | ⟨m, e, h4, h6⟩
  ·exact Iy h4
  ·exact Iz ⟨m, e, z5h h4 hl (λ _ _ e => by cases e), h6⟩
 case assign =>
  rintro k x O W hk ⟨⟨v, rfl, mv, rfl, hv⟩, hO⟩ hi hs ho1 ho2;have s2 := B.2.1;have sW := hi.2.2.2.1;obtain ⟨om, rfl⟩ : ∃ om : Option Nat, mv = .map om := by
   exact QW
  simp only [Jk] at hs ho1 ho2 ⊢;have H := hd4 hi hv hO hs;clear hi hv hO hs ho1 ho2;gi_wp2;obtain ⟨hi, hv, hO, hs⟩ := H.out;have ba : ∀ c, Below W W (W.alloc c) := λ c => GY.alloc GZ c;refine ⟨Gc hi (Moves.of_below (ba _)) (λ i h => Iy h), dm.of_below (ba _), W.heap.size, .map om, rfl, IC _ _, sW, ?_, hO⟩;rcases hv with hv | ⟨m, e, hv, hm⟩
  ·exact Iy hv
  ·exact Iz ⟨m, e, dZ hv (ba _) hv.lt, by simp only [Jk] at hm; omega⟩
 case body =>
  rintro k x O a' W hk hl hd ho1 ho2 hi ⟨q, mv, rfl, rq, hq, hv, hO⟩;have s2 := B.2.1;obtain ⟨h1, h2, h6, h7, mb, h8, h9⟩ := hi;have e1 : ∀ x : Ext W.heap.size W, x.world.cell? (q, 1) = some (.int .i64 (ts k).gen) := λ x => aN x.below (ae rq rfl);have e2 : ∀ x : Ext W.heap.size W, x.world.cell? w.heap.size = some (.pointer (some (w.heap.size + 1, 0))) := λ x => aN x.below (ae h2 rfl);have e3 : ∀ x : Ext W.heap.size W, x.world.cell? (w.heap.size + 1, 1) = some (.int .i64 (aP ts k).2.gen) := λ x => aN x.below (ae h8 rfl);have mix : prog.follows .mixedOrders = true := GQ;simp only [Jk] at hl hd ho1 ho2 ⊢;by_cases hlt : (aP ts k).2.gen < (ts k).gen
  ·have g1 : decide (((aP ts k).2.gen : Int) < (ts k).gen) = true := by simp; omega
   obtain ⟨om, rfl⟩ : ∃ om : Option Nat, mv = .map om := by
    exact QW
   have HH := hd10 h1 h2 h6 h7 h8 h9 hv hO hlt rq;clear h1 h2 h6 h7 h8 h9 hv hO rq;gi_wp2;refine z2h mix GQ GQ ?_;repeat (first | go_big_quiet_step (fail) | quiet_step (fail))
   refine wpQuiet_nil ?_;rintro ⟨w2, hbd⟩;dsimp only;have e2' := e2 ⟨w2, hbd⟩;have i0 : w2.cell? q = some (.int .i64 k) := aN hbd (ae HH.2.2.2.2.2.2.2.2.2 rfl);have i1 : w2.cell? (q, 1) = some (.int .i64 (ts k).gen) := e1 ⟨w2, hbd⟩;have j1 : w2.cell? (w.heap.size + 1, 1) = some (.int .i64 (aP ts k).2.gen) := e3 ⟨w2, hbd⟩;have i2 : w2.cell? (q, 2) = some (.map om) := aN hbd (ae HH.2.2.2.2.2.2.2.2.2 rfl);have i3 : w2.cell? (q, 3) = some (.int .i64 (ts k).aL) := aN hbd (ae HH.2.2.2.2.2.2.2.2.2 rfl);have i4 : w2.cell? (q, 4) = some (.int .i64 (ts k).fin) := aN hbd (ae HH.2.2.2.2.2.2.2.2.2 rfl);have j0 : w2.cell? (w.heap.size + 1, 0) = some (.int .i64 (aP ts k).1) := aN hbd (ae HH.2.2.2.2.1 rfl);have j2 : w2.cell? (w.heap.size + 1, 2) = some mb := aN hbd (ae HH.2.2.2.2.1 rfl);have j3 : w2.cell? (w.heap.size + 1, 3) = some (.int .i64 (aP ts k).2.aL) := aN hbd (ae HH.2.2.2.2.1 rfl);have j4 : w2.cell? (w.heap.size + 1, 4) = some (.int .i64 (aP ts k).2.fin) := aN hbd (ae HH.2.2.2.2.1 rfl);have k8 := (hbd.block _ (aa HH.2.2.2.2.1)).trans HH.2.2.2.2.1;have z0 := aZ k8 0;have z1 := aZ k8 1;have z2 := aZ k8 2;have z3 := aZ k8 3;have z4 := aZ k8 4;clear e1 e2 e3;gi_wp2;obtain ⟨h1, h2, h6, h7, h8, h9, hv, hO, _, rq⟩ := HH.out;have mv := y7z w2 (w.heap.size + 1) (.int .i64 k) (.int .i64 (ts k).gen) (.map om) (.int .i64 (ts k).aL) (.int .i64 (ts k).fin);have z5e := y6a k8 k (ts k).gen (ts k).aL (ts k).fin (.map om);generalize (((((w2.setCell (w.heap.size + 1, 0) (.int .i64 k)).setCell (w.heap.size + 1, 1) (.int .i64 (ts k).gen)).setCell (w.heap.size + 1, 2) (.map om)).setCell (w.heap.size + 1, 3) (.int .i64 (ts k).aL)).setCell (w.heap.size + 1, 4) (.int .i64 (ts k).fin)) = W5 at mv z5e ⊢
   have eb : aP ts (k + 1) = (k, ts k) := IA hlt;have sb := hbd.size;have lx := X.1.lt;refine ⟨dm.trans (dm.of_below hbd) (dm.Gd mv (λ i hi e => ?_)), ?_⟩
   ·rcases hi with h | h | h | h
    ·exact hO i h
    ·rcases h with h | h | h | h
     ·omega
     ·omega
     ·omega
     ·have := X.2.2.1 i h.1; omega
    ·omega
    ·omega
   ·unfold uA
    rw [eb];have b2 : Below w w w2 := h1.trans (hbd.mono h1.size)
    refine ⟨⟨mv.os.trans b2.os, mv.tape.trans b2.tape, mv.output.trans b2.output, IP b2.size mv.size, λ i hi => (mv.block i (Hf b2.size) GR).trans (b2.block i hi)⟩,
     (mv.block _ GR GR).trans ((hbd.block _ GR).trans h2), h6, Hf mv.size, .map om, z5e, ?_⟩
    rcases hv with hv | ⟨m, e, hv, hm⟩
    ·exact Iy hv
    ·exact Iz ⟨m, e, jP (dZ hv hbd hv.lt) mv GR, hm, hO m⟩
  ·have g1 : decide (((aP ts k).2.gen : Int) < (ts k).gen) = false := by simp; omega
   have HH := hd9 h1 h2 h6 h7 h8 h9 hv hO hlt;clear h1 h2 h6 h7 h8 h9 hv hO;gi_wp2;refine z2h mix GQ GQ ?_;repeat (first | go_big_quiet_step (fail) | quiet_step (fail))
   refine wpQuiet_nil ?_;rintro ⟨w2, hbd⟩;dsimp only;gi_wp2;obtain ⟨h1, h2, h6, h7, h8, h9, hv, hO, _⟩ := HH.out;have eb : aP ts (k + 1) = aP ts k := Iw hlt;refine ⟨dm.of_below hbd, ?_⟩;have h := Gc (k := k) (O' := O) (pd := pd) (ts := ts) ⟨h1, h2, h6, h7, mb, h8, h9⟩ (Moves.of_below hbd) (λ i h => Iy h);unfold uA at h ⊢;rw [eb];exact h
 case done =>
  intro O W hi ho hD;have s2 := B.2.1;obtain ⟨h1, h2, h6, h7, mb, h8, h9⟩ := hi;simp only [Jk] at ho hD ⊢;have lx := X.1.lt;have c0 : W.cell? w.heap.size = some (.pointer (some (w.heap.size + 1, 0))) := ae h2 rfl;have c1 : W.cell? (w.heap.size + 1, 1) = some (.int .i64 (aP ts 2).2.gen) := ae h8 rfl;by_cases hq : (aP ts 2).2.gen = 0
  ·rw [hq] at c1
   have ho' : Em.bZ d (aP ts 2) = Em.begun d := IA hq;have BC := hd1 ((Jg (n := 0)).2 (x9g (X.1.below h1) X.2.1 h8 GR GR (λ e => Hf (X.2.2.1 _ e))));rw [<-ho'] at BC;clear ho';have HH := hd4 h1 h2 h7 hD;clear h1 h2 h6 h7 h8 h9 hD ho;obtain ⟨r, hr⟩ := G5 (Em.bZ d (aP ts 2));rw [hr] at BC ⊢;by_cases hz : r.2 = 0
   ·gi_wp2_with (refine ⟨trivial, rfl, ?_⟩; gi_at_call 34; refine BC.mono ?_; rintro e w3 ⟨rfl, m3, x3⟩
                 have q0 := (m3.block w.heap.size (Hf HH.2.2.1) (λ e => by rcases e with e | e | e <;> omega)).trans HH.2.1;have k0 := ae q0 (j := 0) rfl;have z0 := aZ q0 0;have HL := hd3 m3 x3 q0;clear m3 x3 q0 c0 c1)
    exact Ot
   ·gi_wp2_with (refine ⟨trivial, rfl, ?_⟩; gi_at_call 34; refine BC.mono ?_; rintro e w3 ⟨rfl, m3, x3⟩
                 have q0 := (m3.block w.heap.size (Hf HH.2.2.1) (λ e => by rcases e with e | e | e <;> omega)).trans HH.2.1;have k0 := ae q0 (j := 0) rfl;have z0 := aZ q0 0;have HL := hd3 m3 x3 q0;clear m3 x3 q0 c0 c1)
    exact Oq
  ·have ho' : Em.bZ d (aP ts 2) = _ := Iw hq
   have hq' : ¬ ((aP ts 2).2.gen : Int) = 0 := GR;have la : bO W (w.heap.size + 1) pd md (Em.took d (aP ts 2)) F := by
    refine ⟨X.2.2.2 hq, X.1.below h1, ?_, GR, GR, λ e => Hf (X.2.2.1 _ e)⟩;rcases h9 with ⟨_, h9⟩ | ⟨m, rfl, h9, h10, _⟩
    ·exact absurd (IG Em.T.gen h9) hq
    ·exact ⟨m, h8, h9, GR, GR, GR⟩
   have BC := hd1 ((Jg (n := 0)).2 (x2m la X.2.1));have ho2 : Em.bZ d (aP ts 2) = ({ Em.took d (aP ts 2) with d := (Em.mended (Em.took d (aP ts 2)).d (Em.took d (aP ts 2)).tp (Em.took d (aP ts 2)).fin).1 }, (Em.mended (Em.took d (aP ts 2)).d (Em.took d (aP ts 2)).tp (Em.took d (aP ts 2)).fin).2) := ho';rw [<-ho2] at BC;clear ho' ho2 la;have HH := hd4 h1 h2 h7 hD;clear h1 h2 h6 h7 h8 h9 hD ho;obtain ⟨r, hr⟩ := G5 (Em.bZ d (aP ts 2));rw [hr] at BC ⊢;by_cases hz : r.2 = 0
   ·gi_wp2_with (refine ⟨trivial, rfl, ?_⟩; gi_at_call 35; refine BC.mono ?_; rintro e w3 ⟨rfl, m3, x3⟩
                 have q0 := (m3.block w.heap.size (Hf HH.2.2.1) (λ e => by rcases e with e | e | e <;> omega)).trans HH.2.1;have k0 := ae q0 (j := 0) rfl;have z0 := aZ q0 0;have HL := hd3 m3 x3 q0;clear m3 x3 q0 c0 c1)
    exact Ot
   ·gi_wp2_with (refine ⟨trivial, rfl, ?_⟩; gi_at_call 35; refine BC.mono ?_; rintro e w3 ⟨rfl, m3, x3⟩
                 have q0 := (m3.block w.heap.size (Hf HH.2.2.1) (λ e => by rcases e with e | e | e <;> omega)).trans HH.2.1;have k0 := ae q0 (j := 0) rfl;have z0 := aZ q0 0;have HL := hd3 m3 x3 q0;clear m3 x3 q0 c0 c1)
    exact Oq
theorem x1p {d : D} {ts : Nat -> Em.T} (x : aQ w.heap pd md d F) (hw : d.waits.length <= 900000000) (hF : ∀ i, F i -> i < w.heap.size) (hts : ∀ k : Nat, k < 2 -> zI (d.stand.tp k) k (ts k)) (hz : (aP ts 2).2.gen = 0) :
 Calls prog 10 #[pd] w (xh w pd md F (Em.begun d)) := by
 rw [<-(IA hz : Em.bZ d (aP ts 2) = Em.begun d)];exact Gb x hw hF hts (λ h => absurd hz h)
end
abbrev qf (c : Em.ay) : Value := .agg #[ag c.key, ag c.value, .bool c.gone]
def z8c (pl : Nat) : Nat -> uD
 | 0 | 4 | 8 => .val (.pointer (some ⟨pl, 0, none⟩))
 | 1 => .val (qf ⟨[], [], false⟩)
 | 5 => .val (qf ⟨[97], [49], true⟩)
 | 11 => .val (qf ⟨Em.z65, [], false⟩)
 | 2 => .qf Em.b1
 | 6 => .qf Em.b2
 | 12 => .qf Em.b3
 | 9 => .byt Em.z65
 | 10 => .val (ag Em.z65)
 | 3 | 14 => .val (.int .i64 2)
 | 7 | 15 => .val (.int .i64 2)
 | 13 | 16 => .val (.int .i64 3)
 | _ => .free
theorem Dp {W' : World} (hb : Below w0 w0 W) (h : Moves (eH pl pd md) W W') (h1 : w0.heap.size <= pl) (h2 : w0.heap.size <= pd) (h3 : w0.heap.size <= md) : Below w0 w0 W' :=
 hb.trans ⟨h.os, h.tape, h.output, h.size, λ k hk => h.block k (Hf hb.size) (λ e => by rcases e with e | e | e <;> omega)⟩
theorem x9p {W' : World} (hb : Below w0 w0 W) (h : Moves (PM pd md) W W') (h2 : w0.heap.size <= pd) (h3 : w0.heap.size <= md) : Below w0 w0 W' :=
 hb.trans ⟨h.os, h.tape, h.output, h.size, λ k hk => h.block k (Hf hb.size) (λ e => by rcases e with e | e <;> omega)⟩
theorem um {W' : World} (hb : Below w0 w0 W) (h : Below W W W') : Below w0 w0 W' := hb.trans (h.mono hb.size)
theorem y4q (w : World) : Calls prog 8 #[] w λ e w' => e = .returned (.bool true) /\ Below w w w' := by
 have NW := hd1 (z8w 4 4000 w rfl);go_in;go_upto_region 2 with (go_at_call 9; refine NW.mono ?_; rintro e w1 ⟨p, m, rfl, hb1, hp, hm, x1⟩)
 have lx := x1.lt;have x1 : aQ w1.heap p m (Dm.new 4 4000) (λ k => k < w1.heap.size /\ k ≠ p /\ k ≠ m) := x1.weak (λ k hk hl => ⟨hl, hk.2⟩) (λ h => h.2.1 rfl) (λ h => h.2.2 rfl);obtain ⟨q1, q2, q3, q4, q5⟩ := Em.x9n (s := 4) (room := 4000) GU;have OC := hd1 (x1p (ts := λ _ => Em.T.none) x1 (by show 0 <= _; decide) (λ i h => h.1) (λ k _ => reads_nil k) rfl);have H1 := hd3 hb1 hp hm;clear hb1 hp hm x1 lx NW;go_upto_region 3 with (go_at_call 10; refine OC.mono ?_; rintro e w2 ⟨m2, o2, _⟩; obtain ⟨pl, F2, rfl, x2, hpl, hF2, _⟩ := o2 q1)
 have H2 := hd3 m2 hpl hF2;clear m2 o2 hpl hF2 OC;obtain ⟨E0, hE0⟩ := G5 ((Em.begun (Dm.new 4 4000)).1);rw [show ((4000 : Nat) : Int) = 4000 from rfl] at q2 q3 q4 q5;rw [hE0] at x2 q2 q3 q4 q5;clear hE0 q1;have ba : ∀ c, Below w2 w2 (w2.alloc c) := λ c => GY.alloc GZ c;obtain ⟨r1, r2, r3, r4, r5⟩ := q2.bE (l := Em.l1) (by rw [q3]; exact Em.x3k) (Hf Em.GD) GR (Hf Em.GD);have CC := Db (pJ x2 (ba _)) (by rw [q2.disk.waits]; decide) (wJ (IC w2 (.cells #[.string ⟨#[97]⟩, .string ⟨#[49]⟩, .bool false, .string ⟨#[98]⟩, .string ⟨#[50]⟩, .bool false, .string ⟨#[97]⟩, .string ⟨#[]⟩, .bool true] a_)) (F := λ _ => True) (l := Em.l1) (cap := 3) trivial GU GU rfl) GU GU;have CC := hd1 CC;have L5 := Em.GD;rw [q3] at r3;have H3 := hd2 (um (x9p H1.1 H2.1 H1.2.1 H1.2.2) (ba (.cells #[.string ⟨#[97]⟩, .string ⟨#[49]⟩, .bool false, .string ⟨#[98]⟩, .string ⟨#[50]⟩, .bool false, .string ⟨#[97]⟩, .string ⟨#[]⟩, .bool true] a_))) (show w.heap.size <= pl from IP H1.1.size H2.2.1);generalize hE1 : Em.E.bE E0 Em.l1 = R1 at *;clear x2 q3 ba
 go_upto_region 4 with (go_at_call 11; refine CC.mono ?_; rintro e w3 ⟨rfl, m3, x3⟩
                        have B3 := Dp H3.1 m3 H3.2 H1.2.1 H1.2.2;clear m3)
 obtain ⟨F3, x3⟩ : ∃ F3, bO w3 pl p m R1.1 F3 := ⟨_, x3⟩;obtain ⟨E1, hE⟩ := G5 R1.1;rw [hE] at x3 r2 r3 r4 r5;clear hE hE1 CC r1;have r3 : E1.rows = Em.D1 := r3;have LC := z8n x3;have GC := z9b x3;have GB := y_ x3 [98] GU;have GA := y_ x3 [97] GU;rw [r3, Em.w1h] at LC;rw [r2.gen] at GC;rw [r3, Em.y3y.1, Em.y3y.2] at GB;rw [r3, Em.y3x.1] at GA;have LC := hd1 LC;have GC := hd1 GC;have GB := hd1 GB;have GA := hd1 GA
 go_upto_region 7 with (first
  | (go_at_call 22; refine LC.mono ?_; rintro e w4 ⟨rfl, rfl⟩)
  | (go_at_call 23; refine GC.mono ?_; rintro e w4 ⟨rfl, rfl⟩)
  | (go_at_call 21; (with_reducible refine GB.out.mono ?_); rintro e w4 ⟨rfl, rfl⟩)
  | (go_at_call 21; (with_reducible refine GA.out.mono ?_); rintro e w4 ⟨rfl, rfl⟩))
 clear LC GC GB GA;have X3 := hd1 x3;have j0 : JW w3 (z8c pl) (λ _ => false) (λ _ => undef) w3.drew := ⟨GY.drew, λ k h => by cases h⟩
 have HB : ∀ (l : List Em.ay) (c : Int), Em.aW Em.D1 l = c -> c ≠ 0 -> l.length <= 1000000 -> (∀ c ∈ l, c.key.length <= 1000000000 /\ c.value.length <= 1000000000) -> ∀ W v, Below w3 w3 W -> dJ W (λ b => w3.heap.size <= b) v l ->
  Calls prog 11 #[.pointer (some ⟨pl, 0, none⟩), v] W λ en w' => en = .returned (.int .i64 c) /\ Below W W w' := by
  intro l c h1 h2 h3 h4 W v hb hc;have := x8x (pJ X3.out hb) hc h3 h4 (by rw [r3, h1]; exact h2);rw [r3, h1] at this;exact this
 have HB := hd1 HB;clear x3;refine z2j _ (JW w3 (z8c pl)) GQ rfl GQ (λ L L' vals w hL h => h.ext (n := 17) hL (λ k hk => by match k, hk with | k + 17, _ => rfl)) j0 ?_ ?_
 ·intro i o L vals a W hi iC hd hl hj hs hold
  match i, hi with
  | 0, hi =>
   obtain rfl := IM hi;have h1 : a.tmps[3]? = some _ := hold 3 GQ;refine IE rfl λ K hK => ?_;go_simp;exact hK _ _ (IB ⟨rfl, _, rfl, hj.same 0 _ rfl⟩)
  | 4, hi =>
   obtain rfl := IM hi;have h1 : a.tmps[3]? = some _ := hold 3 GQ;refine IE rfl λ K hK => ?_;go_simp;exact hK _ _ (IB ⟨rfl, _, rfl, hj.same 4 _ rfl⟩)
  | 8, hi =>
   obtain rfl := IM hi;have h1 : a.tmps[3]? = some _ := hold 3 GQ;refine IE rfl λ K hK => ?_;go_simp;exact hK _ _ (IB ⟨rfl, _, rfl, hj.same 8 _ rfl⟩)
  | 1, hi =>
   obtain rfl := IM hi;refine IE rfl λ K hK => ?_;go_simp;exact hK _ _ (IB ⟨rfl, _, rfl, hj.same 1 _ rfl⟩)
  | 5, hi =>
   obtain rfl := IM hi;refine IE rfl λ K hK => ?_;go_simp;exact hK _ _ (IB ⟨rfl, _, rfl, hj.same 5 _ rfl⟩)
  | 2, hi =>
   obtain rfl := IM hi;have e1 := hs 1 _ 50 rfl rfl (hd 1 GQ);rw [show vals 1 = _ from hj.holds 1 (hd 1 GQ)] at e1;refine IE rfl λ K hK => ?_;go_simp;exact hK _ _ (IB ⟨rfl, _, rfl, hj.put (bla) 2 _ (wJ (l := Em.b1) (cap := 1) (IC W _) hj.below.size GU GU rfl)⟩)
  | 6, hi =>
   obtain rfl := IM hi;have e1 := hs 5 _ 54 rfl rfl (hd 5 GQ);rw [show vals 5 = _ from hj.holds 5 (hd 5 GQ)] at e1;refine IE rfl λ K hK => ?_;go_simp;exact hK _ _ (IB ⟨rfl, _, rfl, hj.put (bla) 6 _ (wJ (l := Em.b2) (cap := 1) (IC W _) hj.below.size GU GU rfl)⟩)
  | 12, hi =>
   obtain rfl := IM hi;have e1 := hs 11 _ 60 rfl rfl (hd 11 GQ);rw [show vals 11 = _ from hj.holds 11 (hd 11 GQ)] at e1;refine IE rfl λ K hK => ?_;go_simp;exact hK _ _ (IB ⟨rfl, _, rfl, hj.put (bla) 12 _ (wJ (l := Em.b3) (cap := 1) (IC W _) hj.below.size GU GU rfl)⟩)
  | 3, hi =>
   obtain rfl := IM hi;have e0 := hs 0 _ 49 rfl rfl (hd 0 GQ);rw [show vals 0 = _ from hj.holds 0 (hd 0 GQ)] at e0;have e1 := hs 2 _ 51 rfl rfl (hd 2 GQ);have CB := hd1 (HB.out Em.b1 2 Em.x9b GU GU GU W (vals 2) hj.below (hj.holds 2 (hd 2 GQ)));refine IE rfl λ K hK => ?_;go_simp;go_at_call 11;refine CB.mono ?_;rintro e W2 ⟨rfl, hb⟩;exact hK _ _ (IB ⟨rfl, _, rfl, hj.put hb 3 _ rfl⟩)
  | 7, hi =>
   obtain rfl := IM hi;have e0 := hs 4 _ 53 rfl rfl (hd 4 GQ);rw [show vals 4 = _ from hj.holds 4 (hd 4 GQ)] at e0;have e1 := hs 6 _ 55 rfl rfl (hd 6 GQ);have CB := hd1 (HB.out Em.b2 2 Em.x9c GU GU GU W (vals 6) hj.below (hj.holds 6 (hd 6 GQ)));refine IE rfl λ K hK => ?_;go_simp;go_at_call 11;refine CB.mono ?_;rintro e W2 ⟨rfl, hb⟩;exact hK _ _ (IB ⟨rfl, _, rfl, hj.put hb 7 _ rfl⟩)
  | 13, hi =>
   obtain rfl := IM hi;have e0 := hs 8 _ 57 rfl rfl (hd 8 GQ);rw [show vals 8 = _ from hj.holds 8 (hd 8 GQ)] at e0;have e1 := hs 12 _ 61 rfl rfl (hd 12 GQ);have CB := hd1 (HB.out Em.b3 3 Em.x9d GU GU GU W (vals 12) hj.below (hj.holds 12 (hd 12 GQ)));refine IE rfl λ K hK => ?_;go_simp;go_at_call 11;refine CB.mono ?_;rintro e W2 ⟨rfl, hb⟩;exact hK _ _ (IB ⟨rfl, _, rfl, hj.put hb 13 _ rfl⟩)
  | 9, hi =>
   obtain rfl := IM hi;have hmk := x2u;refine IE rfl λ K hK => ?_;go_simp;exact hK _ _ (IB ⟨rfl, _, rfl, hj.put (bla) 9 _ (y3s (IC W _) hj.below.size GU)⟩)
  | 10, hi =>
   obtain rfl := IM hi;have e1 := hs 9 _ 58 rfl rfl (hd 9 GQ);have hcv := qK (hj.holds 9 (hd 9 GQ));refine IE rfl λ K hK => ?_;go_simp;exact hK _ _ (IB ⟨rfl, _, rfl, hj.same 10 _ rfl⟩)
  | 11, hi =>
   obtain rfl := IM hi;have e1 := hs 10 _ 59 rfl rfl (hd 10 GQ);rw [show vals 10 = _ from hj.holds 10 (hd 10 GQ)] at e1;refine IE rfl λ K hK => ?_;go_simp;exact hK _ _ (IB ⟨rfl, _, rfl, hj.same 11 _ rfl⟩)
  | 14, hi =>
   obtain rfl := IM hi;have e0 := hs 3 _ 52 rfl rfl (hd 3 GQ);rw [show vals 3 = _ from hj.holds 3 (hd 3 GQ)] at e0;refine IE rfl λ K hK => ?_;go_simp;exact hK _ _ (IB ⟨rfl, _, rfl, hj.same 14 _ rfl⟩)
  | 15, hi =>
   obtain rfl := IM hi;have e0 := hs 7 _ 56 rfl rfl (hd 7 GQ);rw [show vals 7 = _ from hj.holds 7 (hd 7 GQ)] at e0;refine IE rfl λ K hK => ?_;go_simp;exact hK _ _ (IB ⟨rfl, _, rfl, hj.same 15 _ rfl⟩)
  | 16, hi =>
   obtain rfl := IM hi;have e0 := hs 13 _ 62 rfl rfl (hd 13 GQ);rw [show vals 13 = _ from hj.holds 13 (hd 13 GQ)] at e0;refine IE rfl λ K hK => ?_;go_simp;exact hK _ _ (IB ⟨rfl, _, rfl, hj.same 16 _ rfl⟩)
  | k + 17, hi => cases hi
 ·intro vals W hj
  have q0 : vals 0 = _ := hj.holds 0 rfl;have q14 : vals 14 = _ := hj.holds 14 rfl;have q15 : vals 15 = _ := hj.holds 15 rfl;have q16 : vals 16 = _ := hj.holds 16 rfl;have HJ := hd1 hj.below;clear hj j0 HB;simp only [jE, I8, Nat.reduceAdd, q0, q14, q15, q16];clear q0 q14 q15 q16;generalize vals 1 = u1;generalize vals 2 = u2;generalize vals 3 = u3;generalize vals 4 = u4;generalize vals 5 = u5;generalize vals 6 = u6;generalize vals 7 = u7;generalize vals 8 = u8;generalize vals 9 = u9;generalize vals 10 = u10;generalize vals 11 = u11;generalize vals 12 = u12;generalize vals 13 = u13;go_simp;obtain ⟨F4, x4⟩ : ∃ F4, bO W pl p m E1 F4 := ⟨_, pJ X3.out HJ.out⟩;have B4 := um B3 HJ.out;have hst : E1.d.stop 0 = ((E1.d.stop 0).1, 0) := by
   unfold D.stop;rw [Iw GU, Iw (by rw [r2.disk.dead]; decide)]
  have SC := hd1 (EM x4.disk 0 GU);have X4 := hd1 x4;have hwt : (E1.d.stop 0).1.waits = [] := by
   unfold D.stop;rw [Iw GU, Iw (by rw [r2.disk.dead]; decide)];exact r2.disk.waits
  clear x4 X3 HJ;go_upto_region 9 with (go_at_call 16; refine SC.mono ?_; rintro e w5 hs; obtain ⟨he, m5, x5⟩ := z8q X4.out hs; rw [hst] at he; subst he; have B5 := Dp B4 m5 H3.2 H1.2.1 H1.2.2; clear hs m5)
  have ba : ∀ c, Below w5 w5 (w5.alloc c) := λ c => GY.alloc GZ c;obtain ⟨s1, s2, s3⟩ := r2.stopped (l := Em.lc) (by rw [r3]; exact Em.x3v) (Hf Em.z8k) GR (Hf Em.z8k);have hw2 := z1j { E1 with d := (E1.d.stop 0).1 } Em.lc;have CC := hd1 (Db (pJ x5 (ba _)) (by show (E1.d.stop 0).1.waits.length <= _; rw [hwt]; decide) (wJ (IC w5 (.cells #[.string ⟨#[99]⟩, .string ⟨#[51]⟩, .bool false] a_)) (F := λ _ => True) (l := Em.lc) (cap := 1) trivial GU GU rfl) GU GU);have B5a := um B5 (ba (.cells #[.string ⟨#[99]⟩, .string ⟨#[51]⟩, .bool false] a_));have hw2 : (Em.E.bE { E1 with d := (E1.d.stop 0).1 } Em.lc).1.d.waits.length <= 5 := by
   have e0 : ({ E1 with d := (E1.d.stop 0).1 } : Em.E).d.waits.length = 0 := by show (E1.d.stop 0).1.waits.length = 0; rw [hwt]; rfl
   omega
  generalize Em.E.bE { E1 with d := (E1.d.stop 0).1 } Em.lc = R2 at *;clear x5 ba
  go_upto_region 10 with (go_at_call 11; refine CC.mono ?_; rintro e w6 ⟨rfl, m6, x6⟩
                          have B6 := Dp B5a m6 H3.2 H1.2.1 H1.2.2;clear m6)
  obtain ⟨F6, x6⟩ : ∃ F6, bO w6 pl p m R2.1 F6 := ⟨_, x6⟩;obtain ⟨E3, hE⟩ := G5 R2.1;rw [hE] at x6 s2 s3 hw2;clear hE CC;have GC := y_ x6 [99] GU;rw [s3, r3, Em.y3x.2] at GC;have GC := hd1 GC;have ba : ∀ c, Below w6 w6 (w6.alloc c) := λ c => GY.alloc GZ c;have CC := Db (pJ x6 (ba _)) GR (wJ (IC w6 (.cells #[.string ⟨#[100]⟩, .string ⟨#[52]⟩, .bool false] a_)) (F := λ _ => True) (l := Em.ld) (cap := 1) trivial GU GU rfl) GU GU;rw [y1u (by rw [s3, r3]; exact Em.x3w) s2] at CC;have CC := hd1 CC;have B6a := um B6 (ba (.cells #[.string ⟨#[100]⟩, .string ⟨#[52]⟩, .bool false] a_));clear x6 ba
  go_upto_region 12 with (first
   | (go_at_call 21; (with_reducible refine GC.out.mono ?_); rintro e w7 ⟨rfl, rfl⟩)
   | (go_at_call 11; refine CC.mono ?_; rintro e w8 ⟨rfl, m8, x8⟩
      have B8 := Dp B6a m8 H3.2 H1.2.1 H1.2.2;have GN := z9f x8;rw [s2] at GN;have GN := hd1 GN;clear m8 x8))
  clear GC CC
  go_wp2_with (first
   | (go_at_call 12; refine (iX _ _).mono ?_; rintro e w' ⟨rfl, rfl⟩)
   | (go_at_call 17; refine GN.mono ?_; rintro e w' ⟨rfl, rfl⟩))
  trace_state
  go_ret;exact ⟨rfl, B8⟩
theorem x0p (w : World) (c : Em.ay) : Calls prog 81 #[.agg #[ag c.key, ag c.value, .bool c.gone]] w λ e w' => e = .returned (.int .i64 (if c.wrong = true then 2 else 0)) /\ Below w w w' := by
 obtain ⟨k, v, g⟩ := c;exact O5
theorem w0q {l : List Em.ay} {i : Nat} {c : Em.ay} (hc : l[i]? = some c) (h : c.wrong = true) : Em.right l = 2 := by
 unfold Em.right;rw [IA (KL.2 ⟨c, Jb hc, h⟩)]
theorem y1b {α : Type} {p : α -> Bool} {l : List α} (h : ∀ (j : Nat) (c : α), l[j]? = some c -> p c = false) : l.any p = false := by
 rw [List.any_eq_false];intro c hc;obtain ⟨j, hj, rfl⟩ := List.mem_iff_getElem.1 hc;rw [h j _ (IR hj)];decide
theorem z7v {l : List Em.ay} (h : dJ w F v l) (hl : l.length <= 1000000000) :
 Calls prog 40 #[v] w λ e w' => e = .returned (.int .i64 (Em.right l)) /\ Below w w w' := by
 obtain ⟨a, cap, rfl⟩ := h.slice;have H := hd1 h;clear h;generalize hN : l.length = N at *;have HN := hd1 hN;clear hN;go_in;go_wp2;go_loopw [3] (λ s wr => ∃ i : Nat, i <= N /\ s = .int .i64 (i : Int) /\ (∀ (j : Nat) (c : Em.ay), j < i -> l[j]? = some c -> c.wrong = false) /\ Below w w wr) (λ s _ => N - (intOf s).toNat)
 case atStart => exact ⟨0, GR, rfl, λ j c hj => absurd hj GR, Below.refl _ _⟩
 case round =>
  obtain ⟨i, hi, rfl, hno, hb⟩ := hrel;by_cases hlt : i < N
  ·have i0 : (0 : Int) <= (i : Int) := GR
   have i1 : (i : Int) < (N : Int) := GR;obtain ⟨c, hc⟩ : ∃ c, l[i]? = some c := ⟨_, IR Nk⟩;obtain ⟨b, o, rfl, fb, lb, rg⟩ := H.at hc;have RG := hd1 (show wr.rangeAt b (o + i * 3) [ag c.key, ag c.value, .bool c.gone] from λ j v hj => (hb.cell (p := ⟨b, o + i * 3 + j, none⟩) lb).trans (rg j v hj));have CC := hd1 (x0p wr c);have HI := hd3 hno hb hc;clear hno hb hc rg;cases hw : c.wrong
   ·rw [hw] at CC
    have HW := hd1 hw;clear hw
    go_wp2_with (first
     | (refine JA rfl a_ (.tmp 13) rfl b (o + i * 3) rfl _ _ RG.out Ic rfl jS ?_)
     | (go_at_call 81; refine CC.mono ?_; rintro e w1 ⟨rfl, b1⟩; have H1 := hd1 b1; clear b1))
    go_roundw
    case rel =>
     refine ⟨i + 1, GR, by go_num, λ j c' hj hc' => ?_, um HI.2.1 H1.out⟩;by_cases e : j = i
     ·subst e
      rw [HI.2.2] at hc';cases hc';exact HW.out
     ·exact HI.1 j c' GR hc'
    case measure => simp [intOf]; omega
   ·rw [hw] at CC
    have HR := hd1 (w0q HI.2.2 hw);clear hw
    go_wp2_with (first
     | (refine JA rfl a_ (.tmp 13) rfl b (o + i * 3) rfl _ _ RG.out Ic rfl jS ?_)
     | (go_at_call 81; refine CC.mono ?_; rintro e w1 ⟨rfl, b1⟩; have H1 := hd1 b1; clear b1))
    go_ret;exact ⟨by rw [HR.out]; rfl, um HI.2.1 H1.out⟩
  ·obtain rfl : i = N := GR
   have hno : l.any Em.ay.wrong = false := y1b (λ j c hj => hno j c (Hg ((IY.1 hj).1) HN.out) hj);have HO := hd2 hno hb;clear hno hb;obtain ⟨W0, hW0⟩ : ∃ W0, W0 = wr := ⟨wr, rfl⟩;subst hW0;go_wp2;go_loopw [4] (λ s wr => ∃ k : Nat, k <= i /\ s = .int .i64 (k : Int) /\ (∀ (j : Nat) (c : Em.ay), j < k -> l[j]? = some c -> c.long = false) /\ Below w w wr) (λ s _ => i - (intOf s).toNat)
   case atStart => exact ⟨0, GR, rfl, λ j c hj => absurd hj GR, HO.2⟩
   case round =>
    obtain ⟨k, hk, rfl, hnl, hb⟩ := hrel;by_cases hlt : k < i
    ·have i0 : (0 : Int) <= (k : Int) := GR
     have i1 : (k : Int) < (i : Int) := GR;obtain ⟨c, hc⟩ : ∃ c, l[k]? = some c := ⟨_, IR Nk⟩;obtain ⟨b, o, rfl, fb, lb, rg⟩ := H.at hc;have z0 : wr.cell? (b, o + k * 3) = some (ag c.key) := (hb.cell (p := ⟨b, o + k * 3 + 0, none⟩) lb).trans (rg 0 _ rfl);have z1 : wr.cell? (b, o + k * 3 + 1) = some (ag c.value) := (hb.cell (p := ⟨b, o + k * 3 + 1, none⟩) lb).trans (rg 1 _ rfl);have HI := hd3 hnl hb hc;clear hnl hb hc rg;cases hg : c.long
     ·have hg' := Em.vT hg
      have d1 : ¬ (64 : Int) < (c.key.length : Int) := GR;have d2 : ¬ (4096 : Int) < (c.value.length : Int) := GR;have HG := hd1 hg;clear hg hg';go_wp2;go_roundw
      case rel =>
       refine ⟨k + 1, GR, by go_num, λ j c' hj hc' => ?_, HI.2.1⟩;by_cases e : j = k
       ·subst e
        rw [HI.2.2] at hc';cases hc';exact HG.out
       ·exact HI.1 j c' GR hc'
      case measure => simp [intOf]; omega
     ·have HR := hd1 (show Em.right l = 3 by
       unfold Em.right;rw [Iw (by rw [HO.1]; decide)];by_cases h64 : 64 < l.length
       ·rw [IA h64]
       ·rw [Iw h64, IA (KL.2 ⟨c, Jb HI.2.2, hg⟩)])
      by_cases h64 : 64 < c.key.length
      ·have d1 : (64 : Int) < (c.key.length : Int) := GR
       exact QL
      ·have d1 : ¬ (64 : Int) < (c.key.length : Int) := GR
       have d2 : (4096 : Int) < (c.value.length : Int) := by
        unfold Em.ay.long at hg;simp at hg;omega
       exact QL
    ·obtain rfl : k = i := GR
     have hnl : l.any Em.ay.long = false := y1b (λ j c hj => hnl j c (Hg ((IY.1 hj).1) HN.out) hj);by_cases h64 : 64 < k
     ·have HR := hd1 (show Em.right l = 3 by unfold Em.right; rw [Iw (by rw [HO.1]; decide), IA (by rw [HN.out]; exact h64)])
      have d1 : (64 : Int) < (k : Int) := GR;exact QX
     ·have HR := hd1 (show Em.right l = 0 by unfold Em.right; rw [Iw (by rw [HO.1]; decide), Iw (by rw [HN.out]; exact h64), Iw (by rw [hnl]; decide)])
      have d1 : ¬ (64 : Int) < (k : Int) := GR;exact QX
end Go.Proofs.YtgffifleflkjoaaGreat
