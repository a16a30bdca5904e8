/-
  Parts of a proof.
-/
import Derived.Test.YtgffifleflkjoaaGreatFin20
set_option linter.unusedSimpArgs false
set_option linter.unusedVariables false
set_option maxRecDepth 100000
set_option maxHeartbeats 16000000
namespace Go.Proofs.YtgffifleflkjoaaGreat
open _root_.Go.Proofs.Tryz
variable {w W w' w0 wr w1 W0 W1 W2 A B : World} {F G F' O : Nat → Prop} {v : Value} {l : List UInt8} {n q m pd md pl g p : Nat} {C : Array Value} {c : Int}
open Go.RowKit Dm
theorem x5o {tp gen aL fin : Nat} {rows rv : Value} {gone : Bool} (hrow : w.heap[pl]? = some (.cells (jF tp gen rows aL fin pd gone) eO (0, 0))) (h : 2147483647 <= gen) :
 Calls prog 39 #[pl, rv] w λ e w' => e = .returned (.int .i64 280) /\ w = w' := by
 have f1 : w.cell? (pl, 1) = some (.int .i64 gen) := ae hrow rfl;have g1 : decide ((2147483647 : Int) <= gen) = true := by simp; omega
 clear hrow;go_in;go_wp2;exact OJ
theorem x5p {e : Em.E} {D : Em.Rows}
 (x : bO w pl pd md e F) (hw : e.d.waits.length <= 900000000) (hm : RowsIn w m n D) (hD : Em.bI D) (hs : Maps.size D <= 256) (n1 : m ≠ pd) (n2 : m ≠ md) (n3 : m ≠ pl)
 (hlive : ¬ 2147483647 <= e.gen) :
 Calls prog 39 #[pl, .map (some m)] w (lK w pl pd md F (e.fold D)) := by
 have FC := hd1 (λ W (hb : Below w w W) => y0v (w := W) (v := .map (some m)) (D := D) (gen := e.gen + 1) (Iz ⟨m, _, rfl, x_ (dZ hm hb hm.lt)⟩) hD hs GR);have fl := Em.tV (D := D) (e.gen + 1) hs;have hg := Em.z1z x.good hD hs;obtain ⟨mr, row, hrows, m1, m2, m3⟩ := x.row;have gG := aa row;have hF := x.good.fin;have hT := x.good.tp;have HP := hd1 (Em.wu (D := D) hlive);have X := hd10 x hg row hrows hm hw (Iu n1 (Iu n2 n3)) m1 m2 m3;have f1 : w.cell? (pl, 1) = some (.int .i64 e.gen) := ae row rfl;have g1 : decide ((2147483647 : Int) <= e.gen) = false := by simp; omega
 have q0 : ∀ x : Wd (Below w w), x.world.cell? pl = some (.int .i64 e.tp) := λ x => (x.ok.cell (p := ⟨pl, 0, none⟩) gG).trans (ae row rfl);have q1 : ∀ x : Wd (Below w w), x.world.cell? (pl, 1) = some (.int .i64 e.gen) := λ x => (x.ok.cell (p := ⟨pl, 1, none⟩) gG).trans (ae row rfl);clear x hg row hrows hm hw n1 n2 n3 m1 m2 m3;generalize hb : Em.folded (e.gen + 1) D = b at *;have a1 : IntKind.i64.wrap ((e.gen : Int) + 1) = ((e.gen + 1 : Nat) : Int) := Ja _ GR;have a0 : IntKind.i64.wrap (1 - (e.tp : Int)) = ((1 - e.tp : Nat) : Int) := by rw [Ja _ GR]; omega
 have ne0 : Nonempty (Wd (Below w w)) := ⟨⟨_, Below.refl _ _⟩⟩;go_in;go_wp2;refine bC (λ w' => ∃ x : Wd (Below w w), w' = x.world) [14, 15] GQ ?_;refine aI [0, 1, 2, 3, 4, 5, 6, 7, 8, 9, 10, 11, 12] 3 _ Hq GQ ?_;refine G9 ?_;refine az 13 2 _ _ rfl GQ ?_;refine IE rfl λ K hK => ?_;go_simp;go_at_call 70;refine (FC.out _ GY.drew).mono ?_;rintro e' w1 ⟨v1, rfl, o1, b1⟩;obtain ⟨va, vn, vc, rfl⟩ := o1.at.slice3;have tu : vn = b.length := by obtain ⟨a, c, q⟩ := o1.at.slice; injection q with _ q2 _
 have B1 : Below w w w1 := ⟨b1.os, b1.tape, b1.output, b1.size, b1.block⟩;have y1 : BytesAt w1.heap (λ k => w.heap.size <= k /\ k < w1.heap.size) (.slice va vn vc) b := o1.at.keeps (λ k _ _ => rfl) (λ k hk hl => ⟨hk, hl⟩);have H1 := hd3 B1 y1 tu;clear o1 b1 y1 tu;refine hK _ _ (IB ⟨rfl, λ _ => ⟨⟨_, B1⟩, rfl⟩, ?_⟩);clear hK K;refine eY [14, 15] 0 _ GQ ?_;refine G9 ?_;refine ⟨GQ, ?_⟩;clear ne0 q0 q1 f1 g1;have k2 := (B1.block pl gG).trans X.2.2.1;have f5 : ∀ x : Wd (Below w1 w1), x.world.cell? (pl, 5) = some (.pointer (some pd)) := λ x => (x.ok.cell (p := ⟨pl, 5, none⟩) (aa k2)).trans (ae k2 rfl);have H2 := hd1 k2;clear B1 k2;have ne : Nonempty (Wd (Below w1 w1)) := ⟨⟨_, Below.refl _ _⟩⟩;have gN : ∀ (fn : Fn) (first cap : Array Value) (w : World), (Instr.makeFunc fn first cap).run prog w = .ok (.func fn first cap) w := λ _ _ _ _ => rfl;go_wp2;refine bC (λ w' => ∃ x : Wd (Below w1 w1), w' = x.world) [13, 14] GQ ?_;refine aI [0, 1, 3, 4, 5, 7, 8, 9, 10, 11] 5 _ Hq GQ ?_;refine G9 ?_;refine az 2 4 _ _ rfl GQ ?_;refine IE rfl λ K hK => ?_;go_simp;go_at_call 72;refine (y0k pl (1 - e.tp) w1.drew).mono ?_;rintro e' w4 ⟨rfl, e4⟩;have B4 : Below w1 w1 w4 := by rw [<-e4]; exact (GY.drew.alloc GZ _).alloc GV _
 have z4 : w4.heap.size = w1.heap.size + 2 := by rw [<-e4]; simp
 have a1' : w4.cell? w1.heap.size = some (.pointer (some pl)) := by rw [<-e4]; exact ae (aM GV (IC w1.drew _)) rfl
 have Du : w4.cell? (w1.heap.size + 1, 0) = some (.int .i64 ((1 - e.tp : Nat) : Int)) := by rw [<-e4]; exact ae (bD (w := w1.drew.alloc _) _ GV) rfl
 have H4 := hd4 B4 z4 a1' Du;clear e4 a1' Du;refine hK _ _ (IB ⟨rfl, λ _ => ⟨⟨_, B4⟩, rfl⟩, ?_⟩);clear hK K;clear B4 z4;refine az 6 3 _ _ rfl GQ ?_;refine IE rfl λ K hK => ?_;go_simp;go_at_call 73;refine (FZ pl (1 - e.tp) va vn vc w4).mono ?_;rintro e' w5 ⟨rfl, e5⟩;have uS : Below w4 w4 w5 := by rw [<-e5]; exact ((bla).alloc GV _).alloc N_ _
 have B5 : Below w1 w1 w5 := H4.1.trans (uS.mono H4.1.size);have z5 : w5.heap.size = w4.heap.size + 3 := by rw [<-e5]; simp
 have p1 : w5.cell? w4.heap.size = some (.pointer (some pl)) := by rw [<-e5]; exact ae (aM N_ (aM GV (IC w4 _))) rfl
 have p2 : w5.cell? (w4.heap.size + 1, 0) = some (.int .i64 ((1 - e.tp : Nat) : Int)) := by rw [<-e5]; exact ae (aM GV (bD (w := w4.alloc _) _ GV)) rfl
 have p3 : w5.cell? (w4.heap.size + 1 + 1, 0) = some (.slice va vn vc) := by rw [<-e5]; exact ae (bD (w := (w4.alloc _).alloc _) _ GV) rfl
 have H5 := hd6 uS B5 z5 p1 p2 p3;clear e5 p1 p2 p3 uS;refine hK _ _ (IB ⟨rfl, λ _ => ⟨⟨_, B5⟩, rfl⟩, ?_⟩);clear hK K;clear B5 z5;refine az 12 2 _ _ rfl GQ ?_;refine IE rfl λ K hK => ?_;go_simp
 obtain ⟨W6, fG⟩ : ∃ W, w5.alloc (.cells #[.func (.func 120) #[] #[.pointer (some ⟨w1.heap.size, 0, none⟩), .pointer (some ⟨w1.heap.size + 1, 0, none⟩)],
  .func (.func 121) #[] #[.pointer (some ⟨w4.heap.size, 0, none⟩), .pointer (some ⟨w4.heap.size + 1, 0, none⟩), .pointer (some ⟨w4.heap.size + 1 + 1, 0, none⟩)], .func (.func 60) #[.pointer (some ⟨pd, 0, none⟩)] #[]] qE) = W := ⟨_, rfl⟩
 have r6 := IC w5 (.cells #[.func (.func 120) #[] #[.pointer (some ⟨w1.heap.size, 0, none⟩), .pointer (some ⟨w1.heap.size + 1, 0, none⟩)],
  .func (.func 121) #[] #[.pointer (some ⟨w4.heap.size, 0, none⟩), .pointer (some ⟨w4.heap.size + 1, 0, none⟩), .pointer (some ⟨w4.heap.size + 1 + 1, 0, none⟩)], .func (.func 60) #[.pointer (some ⟨pd, 0, none⟩)] #[]] qE)
 rw [fG] at r6;have gL : Below w5 w5 W6 := by rw [<-fG]; exact bla
 rw [fG];have B6 : Below w1 w1 W6 := H5.2.1.trans (gL.mono H5.2.1.size);have lp := X.1.disk.lt;have x6 := (X.1.disk.below H1.1).below B6;have y6 : BytesAt W6.heap (λ k => w.heap.size <= k /\ k < w1.heap.size) (.slice va vn vc) b := H1.2.1.keeps (λ k _ hl => B6.block k hl) (λ k hk _ => hk);have z1 := H1.1.size;have z4 := H4.2.1;have z5 := H5.2.2.1
 have RC := hd1 (z6n (t := 1 - e.tp) (cap := 3) x6 X.2.2.2.2.2.1 GR (aN gL (aN H5.1 H4.2.2.1)) (aN gL (aN H5.1 H4.2.2.2)) (aN gL H5.2.2.2.1) (aN gL H5.2.2.2.2.1) (aN gL H5.2.2.2.2.2)
  (aN B6 (ae H2.out rfl)) y6 (λ k hk => ⟨GR, GR⟩) GR
  ⟨GR, GR⟩ ⟨GR, GR⟩ ⟨GR, GR⟩ ⟨GR, GR⟩ ⟨GR, GR⟩ ⟨X.1.ne.1, X.1.ne.2.1⟩ ⟨GR, GR⟩ r6)
 have H6 := hd2 B6 lp;clear x6 y6 r6 gL z1 z4 z5 lp fG;refine hK _ _ (IB ⟨rfl, λ _ => ⟨⟨_, B6⟩, rfl⟩, ?_⟩);clear hK K;clear B6;refine az 13 1 _ _ rfl GQ ?_;refine IE rfl λ K hK => ?_;go_simp;go_at_call 71;refine RC.mono ?_;rintro e' w7 ⟨rfl, m7, x7⟩;have L := hd2 m7 x7;clear m7 x7;refine hK _ _ (IB ⟨rfl, λ h => absurd GU h, ?_⟩);clear hK K;refine eY [14] 0 _ GQ ?_;refine G9 ?_;refine ⟨GQ, ?_⟩;have b6 := H6.1;have s6 := b6.size;have s2 := H1.1.size;have k2 := H2.out;have sV := aa k2
 have k7 : w7.heap[pl]? = some (.cells (jF e.tp e.gen (.map (some mr)) e.aL e.fin pd e.gone) eO (0, 0)) :=
  (L.1.block pl GR (λ q => by rcases q with q | q; exact X.1.ne.1 q; exact X.1.ne.2.1 q)).trans ((b6.block pl sV).trans k2)
 have jm : Moves (eH pl pd md) w w7 := ((Moves.of_below H1.1).trans (Moves.of_below b6) (λ _ _ h => h)).trans (L.1.mono λ i hi => Iz hi) (λ _ _ h => h);have x7 : aQ w7.heap pd md (Em.bK e.d (1 - e.tp) b).1 (plus F w w7) := Af X.1.disk L.2 GR;have jl : ¬ plus F w w7 pl := λ h => by
  exact Qe
 have rM : RowsIn w7 m n D := sG (dZ (dZ X.2.2.2.2.1 H1.1 X.2.2.2.2.1.lt) b6 (Hf X.2.2.2.2.1.lt)) L.1 X.2.2.2.2.2.2.1.1 X.2.2.2.2.2.2.1.2.1;have rO : RowsIn w7 mr (Maps.size e.rows) e.rows := sG (dZ (dZ X.2.2.2.1 H1.1 X.2.2.2.1.lt) b6 (Hf X.2.2.2.1.lt)) L.1 X.2.2.2.2.2.2.2.1 X.2.2.2.2.2.2.2.2.1;have tu := H1.2.2;by_cases hz : (Em.bK e.d (1 - e.tp) b).2 = 0
 ·have H7 := hd5 k7 jm x7 jl rM
  have f1 : w7.cell? (pl, 1) = some (.int .i64 e.gen) := ae k7 rfl;clear jm x7 jl rM rO k2 ne f5 b6 s6 s2 sV;rw [hz]
  go_wp2_with (
   refine nU rfl dK (.tmp 57) (.tmp 55) rfl pl 0 #[.int .i64 ((1 - e.tp : Nat) : Int), .int .i64 ((e.gen : Int) + 1), .map (some m), .int .i64 0, .int .i64 b.length] rfl rfl eO _ k7 pK GV (z3e _ _ _ _ _) ?_;intro W8 fB dA jw)
  go_ret;rw [HP.out];have hg := X.2.1;rw [HP.out] at hg;simp only [hz, I1] at hg ⊢;obtain ⟨k7, jm, x7, jl, rM⟩ := H7.out;obtain ⟨⟨n1, n2, n3⟩, _⟩ := X.2.2.2.2.2.2;have s8 := dA.size;refine ⟨rfl, jm.trans dA (λ i _ hi => Iy hi), ⟨hg, ?_, ⟨m, fB.out, x_ (jP rM dA n3), n1, n2, n3⟩, X.1.ne.1, X.1.ne.2.1, ?_⟩⟩
  ·refine z3r X.1.disk (x7.off dA X.1.ne.1 X.1.ne.2.1 jl) s8
  ·intro h
   exact Qe
 ·have H7 := hd5 k7 jm x7 jl rO
  clear k7 jm x7 jl rM rO k2 ne f5 b6 s6 s2 sV;go_wp2;go_ret;rw [HP.out];have hg := X.2.1;rw [HP.out] at hg;simp only [hz, JM] at hg ⊢;obtain ⟨k7, jm, x7, jl, rO⟩ := H7.out;exact ⟨rfl, jm, ⟨hg, x7, ⟨mr, k7, rO, X.2.2.2.2.2.2.2⟩, X.1.ne.1, X.1.ne.2.1, jl⟩⟩
end Go.Proofs.YtgffifleflkjoaaGreat
