/-
  Parts of a proof.
-/
import Derived.Test.YtgffifleflkjoaaGreatFin22
set_option linter.unusedSimpArgs false
set_option linter.unusedVariables false
set_option maxRecDepth 100000
set_option maxHeartbeats 16000000
namespace Go.Proofs.YtgffifleflkjoaaGreat
open _root_.Go.Proofs.Tryz
variable {w W w' w0 wr w1 W0 W1 W2 A B : World} {F G F' O : Nat → Prop} {v : Value} {l : List UInt8} {n q m pd md pl g p : Nat} {C : Array Value} {c : Int}
open Go.RowKit Dm
theorem x5o {tp gen aK fin : Nat} {rows rv : Value} {gone : Bool} (hrow : w.heap[pl]? = some (.cells (jE tp gen rows aK fin pd gone) eO (0, 0))) (h : 2147483647 <= gen) :
 Calls prog 39 #[pl, rv] w λ e w' => e = .returned (.int .i64 280) /\ w = w' := by
 have f1 : w.cell? (pl, 1) = some (.int .i64 gen) := ae hrow rfl;have g1 : decide ((2147483647 : Int) <= gen) = true := by simp; omega
 clear hrow;go_in;go_wp2;exact OI
theorem x5p {e : Em.E} {D : Em.Rows}
 (x : bL w pl pd md e F) (hw : e.d.waits.length <= 900000000) (hm : RowsIn w m n D) (hD : Em.bI D) (hs : Maps.size D <= 256) (n1 : m ≠ pd) (n2 : m ≠ md) (n3 : m ≠ pl)
 (hlive : ¬ 2147483647 <= e.gen) :
 Calls prog 39 #[pl, .map (some m)] w (l_ w pl pd md F (e.fold D)) := by
 have FC := hd1 (λ W (hb : Below w w W) => y0v (w := W) (v := .map (some m)) (D := D) (gen := e.gen + 1) (IC ⟨m, _, rfl, yl (d9 hm hb hm.lt)⟩) hD hs GX);have fl := Em.um (D := D) (e.gen + 1) hs;have hg := Em.z0i x.good hD hs;obtain ⟨mr, row, hrows, m1, m2, m3⟩ := x.row;have gD := aa row;have hF := x.good.fin;have hT := x.good.tp;have HP := hd1 (Em.wG (D := D) hlive);have X := hd10 x hg row hrows hm hw (Iz n1 (Iz n2 n3)) m1 m2 m3;have f1 : w.cell? (pl, 1) = some (.int .i64 e.gen) := ae row rfl;have g1 : decide ((2147483647 : Int) <= e.gen) = false := by simp; omega
 have q0 : ∀ x : Wd (Below w w), x.world.cell? pl = some (.int .i64 e.tp) := λ x => (x.ok.cell (p := ⟨pl, 0, none⟩) gD).trans (ae row rfl);have q1 : ∀ x : Wd (Below w w), x.world.cell? (pl, 1) = some (.int .i64 e.gen) := λ x => (x.ok.cell (p := ⟨pl, 1, none⟩) gD).trans (ae row rfl);clear x hg row hrows hm hw n1 n2 n3 m1 m2 m3;generalize hb : Em.folded (e.gen + 1) D = b at *;have a1 : IntKind.i64.wrap ((e.gen : Int) + 1) = ((e.gen + 1 : Nat) : Int) := Jd _ GX;have a0 : IntKind.i64.wrap (1 - (e.tp : Int)) = ((1 - e.tp : Nat) : Int) := by rw [Jd _ GX]; omega
 have ne0 : Nonempty (Wd (Below w w)) := ⟨⟨_, Below.refl _ _⟩⟩;go_in;go_wp2;refine bD (λ w' => ∃ x : Wd (Below w w), w' = x.world) [14, 15] GV ?_;refine aL [0, 1, 2, 3, 4, 5, 6, 7, 8, 9, 10, 11, 12] 3 _ Hu GV ?_;refine Hd ?_;refine aA 13 2 _ _ rfl GV ?_;refine IJ rfl λ K hK => ?_;go_simp;go_at_call 70;refine (FC.out _ G6.drew).mono ?_;rintro e' w1 ⟨v1, rfl, o1, b1⟩;obtain ⟨va, vn, vc, rfl⟩ := o1.at.slice3;have tT : vn = b.length := by obtain ⟨a, c, q⟩ := o1.at.slice; injection q with _ q2 _
 have B1 : Below w w w1 := ⟨b1.os, b1.tape, b1.output, b1.size, b1.block⟩;have y1 : BytesAt w1.heap (λ k => w.heap.size <= k /\ k < w1.heap.size) (.slice va vn vc) b := o1.at.keeps (λ k _ _ => rfl) (λ k hk hl => ⟨hk, hl⟩);have H1 := hd3 B1 y1 tT;clear o1 b1 y1 tT;refine hK _ _ (IG ⟨rfl, λ _ => ⟨⟨_, B1⟩, rfl⟩, ?_⟩);clear hK K;refine eY [14, 15] 0 _ GV ?_;refine Hd ?_;refine ⟨GV, ?_⟩;clear ne0 q0 q1 f1 g1;have k2 := (B1.block pl gD).trans X.2.2.1;have f5 : ∀ x : Wd (Below w1 w1), x.world.cell? (pl, 5) = some (.pointer (some pd)) := λ x => (x.ok.cell (p := ⟨pl, 5, none⟩) (aa k2)).trans (ae k2 rfl);have H2 := hd1 k2;clear B1 k2;have ne : Nonempty (Wd (Below w1 w1)) := ⟨⟨_, Below.refl _ _⟩⟩;have gM : ∀ (fn : Fn) (first cap : Array Value) (w : World), (Instr.makeFunc fn first cap).run prog w = .ok (.func fn first cap) w := λ _ _ _ _ => rfl;go_wp2;refine bD (λ w' => ∃ x : Wd (Below w1 w1), w' = x.world) [13, 14] GV ?_;refine aL [0, 1, 3, 4, 5, 7, 8, 9, 10, 11] 5 _ Hu GV ?_;refine Hd ?_;refine aA 2 4 _ _ rfl GV ?_;refine IJ rfl λ K hK => ?_;go_simp;go_at_call 72;refine (y0l pl (1 - e.tp) w1.drew).mono ?_;rintro e' w4 ⟨rfl, e4⟩;have B4 : Below w1 w1 w4 := by rw [<-e4]; exact (G6.drew.alloc G7 _).alloc GZ _
 have z4 : w4.heap.size = w1.heap.size + 2 := by rw [<-e4]; simp
 have a1' : w4.cell? w1.heap.size = some (.pointer (some pl)) := by rw [<-e4]; exact ae (aM GZ (II w1.drew _)) rfl
 have Dx : w4.cell? (w1.heap.size + 1, 0) = some (.int .i64 ((1 - e.tp : Nat) : Int)) := by rw [<-e4]; exact ae (bC (w := w1.drew.alloc _) _ GZ) rfl
 have H4 := hd4 B4 z4 a1' Dx;clear e4 a1' Dx;refine hK _ _ (IG ⟨rfl, λ _ => ⟨⟨_, B4⟩, rfl⟩, ?_⟩);clear hK K;clear B4 z4;refine aA 6 3 _ _ rfl GV ?_;refine IJ rfl λ K hK => ?_;go_simp;go_at_call 73;refine (FU pl (1 - e.tp) va vn vc w4).mono ?_;rintro e' w5 ⟨rfl, e5⟩;have ve : Below w4 w4 w5 := by rw [<-e5]; exact ((bla).alloc GZ _).alloc Oa _
 have B5 : Below w1 w1 w5 := H4.1.trans (ve.mono H4.1.size);have z5 : w5.heap.size = w4.heap.size + 3 := by rw [<-e5]; simp
 have p1 : w5.cell? w4.heap.size = some (.pointer (some pl)) := by rw [<-e5]; exact ae (aM Oa (aM GZ (II w4 _))) rfl
 have p2 : w5.cell? (w4.heap.size + 1, 0) = some (.int .i64 ((1 - e.tp : Nat) : Int)) := by rw [<-e5]; exact ae (aM GZ (bC (w := w4.alloc _) _ GZ)) rfl
 have p3 : w5.cell? (w4.heap.size + 1 + 1, 0) = some (.slice va vn vc) := by rw [<-e5]; exact ae (bC (w := (w4.alloc _).alloc _) _ GZ) rfl
 have H5 := hd6 ve B5 z5 p1 p2 p3;clear e5 p1 p2 p3 ve;refine hK _ _ (IG ⟨rfl, λ _ => ⟨⟨_, B5⟩, rfl⟩, ?_⟩);clear hK K;clear B5 z5;refine aA 12 2 _ _ rfl GV ?_;refine IJ rfl λ K hK => ?_;go_simp
 obtain ⟨W6, fG⟩ : ∃ W, w5.alloc (.cells #[.func (.func 120) #[] #[.pointer (some ⟨w1.heap.size, 0, none⟩), .pointer (some ⟨w1.heap.size + 1, 0, none⟩)],
  .func (.func 121) #[] #[.pointer (some ⟨w4.heap.size, 0, none⟩), .pointer (some ⟨w4.heap.size + 1, 0, none⟩), .pointer (some ⟨w4.heap.size + 1 + 1, 0, none⟩)], .func (.func 60) #[.pointer (some ⟨pd, 0, none⟩)] #[]] qM) = W := ⟨_, rfl⟩
 have r6 := II w5 (.cells #[.func (.func 120) #[] #[.pointer (some ⟨w1.heap.size, 0, none⟩), .pointer (some ⟨w1.heap.size + 1, 0, none⟩)],
  .func (.func 121) #[] #[.pointer (some ⟨w4.heap.size, 0, none⟩), .pointer (some ⟨w4.heap.size + 1, 0, none⟩), .pointer (some ⟨w4.heap.size + 1 + 1, 0, none⟩)], .func (.func 60) #[.pointer (some ⟨pd, 0, none⟩)] #[]] qM)
 rw [fG] at r6;have gK : Below w5 w5 W6 := by rw [<-fG]; exact bla
 rw [fG];have B6 : Below w1 w1 W6 := H5.2.1.trans (gK.mono H5.2.1.size);have lp := X.1.disk.lt;have x6 := (X.1.disk.below H1.1).below B6;have y6 : BytesAt W6.heap (λ k => w.heap.size <= k /\ k < w1.heap.size) (.slice va vn vc) b := H1.2.1.keeps (λ k _ hl => B6.block k hl) (λ k hk _ => hk);have z1 := H1.1.size;have z4 := H4.2.1;have z5 := H5.2.2.1
 have RC := hd1 (z6s (t := 1 - e.tp) (cap := 3) x6 X.2.2.2.2.2.1 GX (aN gK (aN H5.1 H4.2.2.1)) (aN gK (aN H5.1 H4.2.2.2)) (aN gK H5.2.2.2.1) (aN gK H5.2.2.2.2.1) (aN gK H5.2.2.2.2.2)
  (aN B6 (ae H2.out rfl)) y6 (λ k hk => ⟨GX, GX⟩) GX
  ⟨GX, GX⟩ ⟨GX, GX⟩ ⟨GX, GX⟩ ⟨GX, GX⟩ ⟨GX, GX⟩ ⟨X.1.ne.1, X.1.ne.2.1⟩ ⟨GX, GX⟩ r6)
 have H6 := hd2 B6 lp;clear x6 y6 r6 gK z1 z4 z5 lp fG;refine hK _ _ (IG ⟨rfl, λ _ => ⟨⟨_, B6⟩, rfl⟩, ?_⟩);clear hK K;clear B6;refine aA 13 1 _ _ rfl GV ?_;refine IJ rfl λ K hK => ?_;go_simp;go_at_call 71;refine RC.mono ?_;rintro e' w7 ⟨rfl, m7, x7⟩;have L := hd2 m7 x7;clear m7 x7;refine hK _ _ (IG ⟨rfl, λ h => absurd GY h, ?_⟩);clear hK K;refine eY [14] 0 _ GV ?_;refine Hd ?_;refine ⟨GV, ?_⟩;have b6 := H6.1;have s6 := b6.size;have s2 := H1.1.size;have k2 := H2.out;have tN := aa k2
 have k7 : w7.heap[pl]? = some (.cells (jE e.tp e.gen (.map (some mr)) e.aK e.fin pd e.gone) eO (0, 0)) :=
  (L.1.block pl GX (λ q => by rcases q with q | q; exact X.1.ne.1 q; exact X.1.ne.2.1 q)).trans ((b6.block pl tN).trans k2)
 have jo : Moves (eT pl pd md) w w7 := ((Moves.of_below H1.1).trans (Moves.of_below b6) (λ _ _ h => h)).trans (L.1.mono λ i hi => IC hi) (λ _ _ h => h);have x7 : aQ w7.heap pd md (Em.bK e.d (1 - e.tp) b).1 (plus F w w7) := Am X.1.disk L.2 GX;have jm : ¬ plus F w w7 pl := λ h => by
  exact Qk
 have rM : RowsIn w7 m n D := sU (d9 (d9 X.2.2.2.2.1 H1.1 X.2.2.2.2.1.lt) b6 (Hm X.2.2.2.2.1.lt)) L.1 X.2.2.2.2.2.2.1.1 X.2.2.2.2.2.2.1.2.1;have rO : RowsIn w7 mr (Maps.size e.rows) e.rows := sU (d9 (d9 X.2.2.2.1 H1.1 X.2.2.2.1.lt) b6 (Hm X.2.2.2.1.lt)) L.1 X.2.2.2.2.2.2.2.1 X.2.2.2.2.2.2.2.2.1;have tT := H1.2.2;by_cases hz : (Em.bK e.d (1 - e.tp) b).2 = 0
 ·have H7 := hd5 k7 jo x7 jm rM
  have f1 : w7.cell? (pl, 1) = some (.int .i64 e.gen) := ae k7 rfl;clear jo x7 jm rM rO k2 ne f5 b6 s6 s2 tN;rw [hz]
  go_wp2_with (
   refine ou rfl dK (.tmp 57) (.tmp 55) rfl pl 0 #[.int .i64 ((1 - e.tp : Nat) : Int), .int .i64 ((e.gen : Int) + 1), .map (some m), .int .i64 0, .int .i64 b.length] rfl rfl eO _ k7 p_ GZ (z3i _ _ _ _ _) ?_;intro W8 gp dL kC)
  go_ret;rw [HP.out];have hg := X.2.1;rw [HP.out] at hg;simp only [hz, I6] at hg ⊢;obtain ⟨k7, jo, x7, jm, rM⟩ := H7.out;obtain ⟨⟨n1, n2, n3⟩, _⟩ := X.2.2.2.2.2.2;have s8 := dL.size;refine ⟨rfl, jo.trans dL (λ i _ hi => IB hi), ⟨hg, ?_, ⟨m, gp.out, yl (jQ rM dL n3), n1, n2, n3⟩, X.1.ne.1, X.1.ne.2.1, ?_⟩⟩
  ·refine z3v X.1.disk (x7.off dL X.1.ne.1 X.1.ne.2.1 jm) s8
  ·intro h
   exact Qk
 ·have H7 := hd5 k7 jo x7 jm rO
  clear k7 jo x7 jm rM rO k2 ne f5 b6 s6 s2 tN;go_wp2;go_ret;rw [HP.out];have hg := X.2.1;rw [HP.out] at hg;simp only [hz, JS] at hg ⊢;obtain ⟨k7, jo, x7, jm, rO⟩ := H7.out;exact ⟨rfl, jo, ⟨hg, x7, ⟨mr, k7, rO, X.2.2.2.2.2.2.2⟩, X.1.ne.1, X.1.ne.2.1, jm⟩⟩
end Go.Proofs.YtgffifleflkjoaaGreat
