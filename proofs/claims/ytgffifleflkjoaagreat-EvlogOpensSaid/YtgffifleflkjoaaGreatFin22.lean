/-
  Parts of a proof.
-/
import Derived.Test.YtgffifleflkjoaaGreatFin20
set_option linter.unusedSimpArgs false
set_option linter.unusedVariables false
set_option maxRecDepth 100000
set_option maxHeartbeats 16000000
namespace Go.Proofs.YtgffifleflkjoaaGreat
open _root_.Go.Proofs.Tryz
variable {w W w' w0 wr w1 W0 W1 W2 A B : World} {F G F' O : Nat → Prop} {v : Value} {l : List UInt8} {n q m pd md pl g p : Nat} {C : Array Value} {c : Int}
open Go.RowKit Dm
theorem x3q {tp gen aL fin room : Nat} {rows rv : Value} {b : List UInt8} {d : D}
 (BC : Calls prog 79 #[v] w (gT w b)) (hrow : w.heap[pl]? = some (.cells (jF tp gen rows aL fin pd false) eO (0, 0)))
 (x : aQ w.heap pd md d F) (hroom : d.room = (room : Int)) (hB : aL <= 1000000000) (hF : fin <= 100000000000) (hb : b.length <= 1000000) (hR : room <= 100000000)
 (hfull : 32 <= aL \/ b.length = 0 \/ room / 2 < fin + b.length) :
 Calls prog 38 #[pl, rv, v] w λ e w' => e = .returned (.int .i64 280) /\ Below w w w' := by
 have BC := hd1 BC;have H := hd2 hrow x;have gG := aa hrow;have HF := hd1 hfull;clear hrow x hfull;generalize hN : b.length = N at *;go_in;go_upto_region 2 with (go_at_call 79; refine BC.mono ?_; rintro e w1 ⟨v1, rfl, o1, b1⟩; obtain ⟨va, vn, vc, rfl⟩ := o1.at.slice3; have tu : vn = N := by obtain ⟨a, c, q⟩ := o1.at.slice; injection q with _ q2 _; omega)
 have f3 : w1.cell? (pl, 3) = some (.int .i64 aL) := ae ((b1.block pl gG).trans H.1) rfl;have f4 : w1.cell? (pl, 4) = some (.int .i64 fin) := ae ((b1.block pl gG).trans H.1) rfl;have f5 : w1.cell? (pl, 5) = some (.pointer (some pd)) := ae ((b1.block pl gG).trans H.1) rfl;have RC : ∀ n, Calls prog 80 #[pd] (w1.drewN n) λ e w' => e = .returned (.int .i64 room) /\ w1.drewN n = w' := λ n => by
  have := z5c (w := w1.drewN n) (H.2.below (below_drewN b1 n));rwa [hroom] at this
 have RC := hd1 RC;have HB := hd1 b1;subst tu;clear o1 b1 hN;by_cases c1 : 32 <= aL
 ·have g1 : decide ((32 : Int) <= aL) = true := by simp; omega
  go_quiet (fail)
  exact QN
 ·have g1 : decide ((32 : Int) <= aL) = false := by simp; omega
  by_cases c2 : vn = 0
  ·subst c2
   go_quiet (fail)
   exact QN
  ·have g2 : ((vn : Int) == 0) = false := by simp; omega
   have g4 : IntKind.i64.wrap ((fin : Int) + vn) = (fin : Int) + vn := Ja _ GR;have g5 : (room : Int).tdiv 2 = (room : Int) / 2 := L8 GR;have g6 : IntKind.i64.wrap ((room : Int) / 2) = (room : Int) / 2 := Ja _ GR;have g3 : decide ((room : Int) / 2 < (fin : Int) + vn) = true := by simp; have := HF.out; omega
   go_quiet ((go_at_call 80; exact Kn ((RC.out _).mono λ e w' h => ⟨h.1, h.2.symm⟩)))
   exact QN
theorem y7y {tp gen aL fin : Nat} {rows : Value} {gone : Bool} (h : w.heap[pl]? = some (.cells (jF tp gen rows aL fin pd gone) eO (0, 0))) (r' : Value) (b' f' : Nat) :
 (((w.setCell (pl, 2) r').setCell (pl, 3) (.int .i64 b')).setCell (pl, 4) (.int .i64 f')).heap[pl]? = some (.cells (jF tp gen r' b' f' pd gone) eO (0, 0)) := by
 have h1 := IQ w pl 2 _ eO r' h;have h2 := IQ _ pl 3 _ eO (.int .i64 b') h1;exact IQ _ pl 4 _ eO (.int .i64 f') h2
theorem World.x6s (w : World) : w.drew.heap = w.heap := rfl
theorem y7x (w : World) (pl : Nat) (a b c : Value) : Moves (λ k => k = pl) w (((w.setCell (pl, 2) a).setCell (pl, 3) b).setCell (pl, 4) c).drew :=
 ⟨rfl, rfl, rfl, GV, λ k hk hne => by rw [World.x6s, IU _ _ _ _ hne, IU _ _ _ _ hne, IU _ _ _ _ hne]⟩
def y3t (w : World) (pl m b : Nat) : List Bool -> World -> Prop
 | [true, true, true], _ => True
 | [true, true, false], w' => w' = ((w.setCell ⟨pl, 2, none⟩ (.map (some m))).setCell ⟨pl, 3, none⟩ (.int .i64 ((b + 1 : Nat) : Int))).drew
 | [true, false, _], w' => w' = (w.setCell ⟨pl, 2, none⟩ (.map (some m))).drew
 | _, w' => w' = w.drew
def uT (w : World) (pl m : Nat) (w' : World) : Prop := w' = w.drew \/ w' = (w.setCell ⟨pl, 2, none⟩ (.map (some m))).drew
theorem y1d {b : Nat} (h : ∃ L : Array Bool, L.getD 25 false = false /\ y3t w pl m b (marks [21, 25, 29] L) w') : uT w pl m w' := by
 obtain ⟨L, h1, h2⟩ := h;simp only [marks, Jj, Jm, h1] at h2;generalize L.getD 21 false = x at h2;cases x
 ·exact Iy h2
 ·exact Iz h2
theorem y1c {j : Nat} (hj : j ≠ 2) (h : w.cell? (pl, j) = some v) : ∀ W, uT w pl m W -> W.cell? (pl, j) = some v := by
 intro W hW;rcases hW with rfl | rfl
 ·exact h
 ·show (w.setCell (pl, 2) (.map (some m))).cell? (pl, j) = _
  rw [World.cell?_setCell_other _ _ _ _ (by simp [hj])];exact h
theorem x3r {e : Em.E} {b : List UInt8} {D : Em.Rows}
 (BC : Calls prog 79 #[v] w (gT w b)) (x : bO w pl pd md e F) (hw : e.d.waits.length <= 900000000) (hb : b.length <= 8205) (hm : RowsIn w m n D) (n1 : m ≠ pd) (n2 : m ≠ md) (n3 : m ≠ pl) (hg : (e.put D b).1.good)
 (hlive : ¬ (32 <= e.aL \/ b.length = 0 \/ e.d.room / 2 < e.fin + b.length)) :
 Calls prog 38 #[pl, .map (some m), v] w (lK w pl pd md F (e.put D b)) := by
 have BC := hd1 BC;obtain ⟨mr, row, hrows, m1, m2, m3⟩ := x.row;have gG := aa row;have hB := x.good.aL;have hF := x.good.fin;have R0 := x.disk.ok.pz;have R1 := x.disk.ok.fE;obtain ⟨room, hroom⟩ : ∃ n : Nat, e.d.room = (n : Int) := ⟨e.d.room.toNat, GR⟩;have HP := hd1 (Em.sM (D := D) hlive);have X := hd10 x hg row hrows hm hw (Iu n1 (Iu n2 n3)) m1 m2 m3;rw [hroom] at hlive R1;clear x hg row hrows hm hw R0 n1 n2 n3 m1 m2 m3;have c1 : ¬ 32 <= e.aL := λ h => hlive (Iy h);have c2 : ¬ b.length = 0 := λ h => hlive (Iz (Iy h));have c3 : ¬ (room : Int) / 2 < e.fin + b.length := λ h => hlive (Iz (Iz h));clear hlive;generalize hN : b.length = N at *;go_in;go_upto_region 2 with (go_at_call 79; refine BC.mono ?_; rintro e w1 ⟨v1, rfl, o1, b1⟩; obtain ⟨va, vn, vc, rfl⟩ := o1.at.slice3; have tu : vn = N := by obtain ⟨a, c, q⟩ := o1.at.slice; injection q with _ q2 _; omega)
 have f3 : w1.cell? (pl, 3) = some (.int .i64 e.aL) := ae ((b1.block pl gG).trans X.2.2.1) rfl;have f4 : w1.cell? (pl, 4) = some (.int .i64 e.fin) := ae ((b1.block pl gG).trans X.2.2.1) rfl;have f5 : w1.cell? (pl, 5) = some (.pointer (some pd)) := ae ((b1.block pl gG).trans X.2.2.1) rfl;have RC : ∀ n, Calls prog 80 #[pd] (w1.drewN n) λ e w' => e = .returned (.int .i64 room) /\ w1.drewN n = w' := λ n => by
  have := z5c (w := w1.drewN n) (X.1.disk.below (below_drewN b1 n));rwa [hroom] at this
 have RC := hd1 RC;subst tu;have H1 := hd3 o1 b1 hN;clear o1 b1 hN;have g1 : decide ((32 : Int) <= e.aL) = false := by simp; omega
 have g2 : ((vn : Int) == 0) = false := by simp; omega
 have g4 : IntKind.i64.wrap ((e.fin : Int) + vn) = (e.fin : Int) + vn := Ja _ GR;have g5 : (room : Int).tdiv 2 = (room : Int) / 2 := L8 GR;have g6 : IntKind.i64.wrap ((room : Int) / 2) = (room : Int) / 2 := Ja _ GR;have g3 : decide ((room : Int) / 2 < (e.fin : Int) + vn) = false := by simp; omega
 go_quiet ((go_at_call 80; exact Kn ((RC.out _).mono λ e w' h => ⟨h.1, h.2.symm⟩)))
 clear RC f3 f4 f5;obtain ⟨W2, hW2⟩ := G5 (w1.drewN nq);rw [hW2];have B2 : Below w w W2 := by rw [<-hW2]; exact below_drewN H1.2.1 nq
 have y2 : BytesAt W2.heap (λ k => w.heap.size <= k /\ k < w1.heap.size) (.slice va vn vc) b := by rw [<-hW2]; exact H1.1.at.keeps (λ k _ _ => rfl) (λ k hk hl => ⟨hk, hl⟩)
 have z2 : w1.heap.size = W2.heap.size := by rw [<-hW2]; rfl
 clear hW2;have k2 := (B2.block pl gG).trans X.2.2.1;have f5 : ∀ x : Wd (Below W2 W2), x.world.cell? (pl, 5) = some (.pointer (some pd)) := λ x => (x.ok.cell (p := ⟨pl, 5, none⟩) (aa k2)).trans (ae k2 rfl);have f0 : ∀ x : Wd (Below W2 W2), x.world.cell? pl = some (.int .i64 e.tp) := λ x => (x.ok.cell (p := ⟨pl, 0, none⟩) (aa k2)).trans (ae k2 rfl);have H2 := hd4 B2 y2 z2 k2;clear B2 y2 z2 k2;have ne : Nonempty (Wd (Below W2 W2)) := ⟨⟨_, Below.refl _ _⟩⟩;have gN : ∀ (fn : Fn) (first cap : Array Value) (w : World), (Instr.makeFunc fn first cap).run prog w = .ok (.func fn first cap) w := λ _ _ _ _ => rfl;go_wp2;refine bC (λ w' => ∃ x : Wd (Below W2 W2), w' = x.world) [14, 15] GQ ?_;refine aI [0, 1, 2, 3, 4, 5, 6, 8, 9, 10, 11, 12] 4 _ Hq GQ ?_;refine G9 ?_;refine az 7 3 _ _ rfl GQ ?_;refine IE rfl λ K hK => ?_;go_simp;go_at_call 73;refine (FZ pl e.tp va vn vc W2.drew).mono ?_;rintro e' w5 ⟨rfl, e5⟩;have B5 : Below W2 W2 w5 := by rw [<-e5]; exact (((GY.drew.alloc GZ _).alloc GV _).alloc N_ _)
 have z5 : w5.heap.size = W2.heap.size + 3 := by rw [<-e5]; simp
 have p1 : w5.cell? W2.heap.size = some (.pointer (some pl)) := by rw [<-e5]; exact ae (aM N_ (aM GV (IC W2.drew _))) rfl
 have p2 : w5.cell? (W2.heap.size + 1, 0) = some (.int .i64 e.tp) := by rw [<-e5]; exact ae (aM GV (bD (w := W2.drew.alloc _) _ GV)) rfl
 have p3 : w5.cell? (W2.heap.size + 1 + 1, 0) = some (.slice va vn vc) := by rw [<-e5]; exact ae (bD (w := (W2.drew.alloc _).alloc _) _ GV) rfl
 have H5 := hd5 B5 z5 p1 p2 p3;clear e5 p1 p2 p3;refine hK _ _ (IB ⟨rfl, λ _ => ⟨⟨_, B5⟩, rfl⟩, ?_⟩);clear hK K;clear B5 z5;refine az 13 2 _ _ rfl GQ ?_;refine IE rfl λ K hK => ?_;go_simp;obtain ⟨W6, fG⟩ := G5 (w5.alloc (.cells #[.func (.func 121) #[] #[.pointer (some ⟨W2.heap.size, 0, none⟩), .pointer (some ⟨W2.heap.size + 1, 0, none⟩), .pointer (some ⟨W2.heap.size + 1 + 1, 0, none⟩)], .func (.func 60) #[.pointer (some ⟨pd, 0, none⟩)] #[]] qE));have r6 := IC w5 (.cells #[.func (.func 121) #[] #[.pointer (some ⟨W2.heap.size, 0, none⟩), .pointer (some ⟨W2.heap.size + 1, 0, none⟩), .pointer (some ⟨W2.heap.size + 1 + 1, 0, none⟩)], .func (.func 60) #[.pointer (some ⟨pd, 0, none⟩)] #[]] qE);rw [fG] at r6;have gL : Below w5 w5 W6 := by rw [<-fG]; exact bla
 rw [fG];have B6 : Below W2 W2 W6 := H5.1.trans (gL.mono H5.1.size);have lp := X.1.disk.lt;have x6 := (X.1.disk.below H2.1).below B6;have y6 : BytesAt W6.heap (λ k => w.heap.size <= k /\ k < w1.heap.size) (.slice va vn vc) b := H2.2.1.keeps (λ k _ hl => B6.block k hl) (λ k hk _ => hk);have z1 := H1.2.1.size;have z2 := H2.2.2.1;have z5 := H5.2.1
 have RC := hd1 (y3n (t := e.tp) (cap := 2) x6 X.2.2.2.2.2.1 (aN gL H5.2.2.1) (aN gL H5.2.2.2.1) (aN gL H5.2.2.2.2)
  (aN B6 (ae H2.2.2.2 rfl)) y6 (λ k hk => ⟨GR, GR⟩) (Hf H1.2.2)
  ⟨GR, GR⟩ ⟨GR, GR⟩ ⟨GR, GR⟩ ⟨X.1.ne.1, X.1.ne.2.1⟩ ⟨GR, GR⟩ r6)
 have H6 := hd2 B6 lp;clear x6 y6 r6 gL z1 z2 z5 lp fG;refine hK _ _ (IB ⟨rfl, λ _ => ⟨⟨_, B6⟩, rfl⟩, ?_⟩);clear hK K;clear B6;refine az 14 1 _ _ rfl GQ ?_;refine IE rfl λ K hK => ?_;go_simp;go_at_call 71;refine RC.mono ?_;rintro e' w7 ⟨rfl, m7, x7⟩;have L := hd2 m7 x7;clear m7 x7;refine hK _ _ (IB ⟨rfl, λ h => absurd GU h, ?_⟩);clear hK K;refine eY [15] 0 _ GQ ?_;refine G9 ?_;refine ⟨GQ, ?_⟩;have b6 := H6.1;have s6 := b6.size;have s2 := H2.1.size;have k2 := H2.2.2.2;have sV := aa k2
 have k7 : w7.heap[pl]? = some (.cells (jF e.tp e.gen (.map (some mr)) e.aL e.fin pd e.gone) eO (0, 0)) :=
  (L.1.block pl GR (λ q => by rcases q with q | q; exact X.1.ne.1 q; exact X.1.ne.2.1 q)).trans ((b6.block pl sV).trans k2)
 have jm : Moves (eH pl pd md) w w7 := ((Moves.of_below H2.1).trans (Moves.of_below b6) (λ _ _ h => h)).trans (L.1.mono λ i hi => Iz hi) (λ _ _ h => h);have x7 : aQ w7.heap pd md (Em.wrote e.d e.tp b).1 (plus F w w7) := Af X.1.disk L.2 GR;have jl : ¬ plus F w w7 pl := λ h => by
  exact Qe
 have rM : RowsIn w7 m n D := sG (dZ (dZ X.2.2.2.2.1 H2.1 X.2.2.2.2.1.lt) b6 (Hf X.2.2.2.2.1.lt)) L.1 X.2.2.2.2.2.2.1.1 X.2.2.2.2.2.2.1.2.1;have rO : RowsIn w7 mr (Maps.size e.rows) e.rows := sG (dZ (dZ X.2.2.2.1 H2.1 X.2.2.2.1.lt) b6 (Hf X.2.2.2.1.lt)) L.1 X.2.2.2.2.2.2.2.1 X.2.2.2.2.2.2.2.2.1;by_cases hz : (Em.wrote e.d e.tp b).2 = 0
 ·have H7 := hd5 k7 jm x7 jl rM
  have j2 : w7.cell? (pl, 2) = some (.map (some mr)) := ae k7 rfl;have j3 : w7.cell? (pl, 3) = some (.int .i64 e.aL) := ae k7 rfl;have j4 : w7.cell? (pl, 4) = some (.int .i64 e.fin) := ae k7 rfl;have z2 : w7.frozen? ⟨pl, 2, none⟩ = false := aZ k7 _;have z3 : w7.frozen? ⟨pl, 3, none⟩ = false := aZ k7 _;have z4 : w7.frozen? ⟨pl, 4, none⟩ = false := aZ k7 _;have q3 : ∀ x : Wd (uT w7 pl m), x.world.cell? (pl, 3) = some (.int .i64 e.aL) := λ x => y1c (j := 3) GU j3 _ x.ok;have q4 : ∀ x : Wd (uT w7 pl m), x.world.cell? (pl, 4) = some (.int .i64 e.fin) := λ x => y1c (j := 4) GU j4 _ x.ok;have vN : Nonempty (Wd (uT w7 pl m)) := ⟨⟨_, Iy rfl⟩⟩;have g7 : IntKind.i64.wrap ((e.aL : Int) + 1) = ((e.aL + 1 : Nat) : Int) := Ja _ GR;have g8 : IntKind.i64.wrap ((e.fin : Int) + vn) = ((e.fin + vn : Nat) : Int) := by rw [g4]; simp
  clear g4 k7 jm x7 jl rM rO k2 ne f0 f5 b6 s6 s2 sV;rw [hz];go_wp2;refine y3h [21, 25, 29] (y3t w7 pl m e.aL) GQ ?_;refine rW (λ _ => True) [0, 1, 2, 3, 4, 5, 6, 7] 22 _ (λ _ _ _ _ => trivial) (oh [false, false, false] GQ rfl) GQ ?_;simp only [fmc, fmn, gta, gcs, gcz];iterate 8 (with_reducible refine ak (λ K hK => ?_); simp only [au, ah]; go_simp; refine hK _ ?_; clear hK K)
  with_reducible refine aA ?_
  refine rW (λ w' => ∃ x : Wd (uT w7 pl m), w' = x.world) [8] 21 _ (z8z λ w hw => ⟨⟨_, (y1d (b := e.aL) (hw.ahead (t := 25) GQ))⟩, rfl⟩) (oh [false, false, false] GQ rfl) GQ ?_;simp only [fmc, fmn, gta, gcs, gcz];iterate 1 (with_reducible refine ak (λ K hK => ?_); simp only [au, ah]; go_simp; refine hK _ ?_; clear hK K)
  with_reducible refine aA ?_
  refine rW (λ _ => True) [9, 10, 11, 12, 13] 16 _ (λ _ _ _ _ => trivial) (oh [false, false, false] GQ rfl) GQ ?_;simp only [fmc, fmn, gta, gcs, gcz];iterate 5 (with_reducible refine ak (λ K hK => ?_); simp only [au, ah]; go_simp; refine hK _ ?_; clear hK K)
  with_reducible refine aA ?_
  refine rW (λ w' => ∃ x : Wd (uT w7 pl m), w' = x.world) [14] 15 _ (z8z λ w hw => ⟨⟨_, (y1d (b := e.aL) (hw.ahead (t := 25) GQ))⟩, rfl⟩) (oh [false, false, false] GQ rfl) GQ ?_;simp only [fmc, fmn, gta, gcs, gcz];iterate 1 (with_reducible refine ak (λ K hK => ?_); simp only [au, ah]; go_simp; refine hK _ ?_; clear hK K)
  with_reducible refine aA ?_
  refine rW (λ _ => True) [15, 16, 17, 18, 19, 20] 9 _ (λ _ _ _ _ => trivial) (oh [false, false, false] GQ rfl) GQ ?_;simp only [fmc, fmn, gta, gcs, gcz];iterate 6 (with_reducible refine ak (λ K hK => ?_); simp only [au, ah]; go_simp; refine hK _ ?_; clear hK K)
  with_reducible refine aA ?_
  refine Ep 21 8 _ _ rfl GQ ?_;refine IE rfl λ K hK => ?_;go_simp;refine hK _ _ (IB ⟨rfl, oh [true, false, false] GQ rfl, ?_⟩);clear hK K;refine rW (λ _ => True) [22, 23, 24] 5 _ (λ _ _ _ _ => trivial) (oh [true, false, false] GQ rfl) GQ ?_;simp only [fmc, fmn, gta, gcs, gcz];iterate 3 (with_reducible refine ak (λ K hK => ?_); simp only [au, ah]; go_simp; refine hK _ ?_; clear hK K)
  with_reducible refine aA ?_
  refine Ep 25 4 _ _ rfl GQ ?_;refine IE rfl λ K hK => ?_;go_simp;refine hK _ _ (IB ⟨rfl, oh [true, true, false] GQ rfl, ?_⟩);clear hK K;refine rW (λ _ => True) [26, 27, 28] 1 _ (λ _ _ _ _ => trivial) (oh [true, true, false] GQ rfl) GQ ?_;simp only [fmc, fmn, gta, gcs, gcz];iterate 3 (with_reducible refine ak (λ K hK => ?_); simp only [au, ah]; go_simp; refine hK _ ?_; clear hK K)
  with_reducible refine aA ?_
  refine Ep 29 0 _ _ rfl GQ ?_;refine IE rfl λ K hK => ?_;go_simp;refine hK _ _ (IB ⟨rfl, oh [true, true, true] GQ trivial, GQ, ?_⟩);clear hK K;go_wp2;go_ret;rw [HP.out];have hg := X.2.1;rw [HP.out] at hg;simp only [hz, I1] at hg ⊢;obtain ⟨k7, jm, x7, jl, rM⟩ := H7.out;have BF := y7x w7 pl (.map (some m)) (.int .i64 ((e.aL : Int) + 1)) (.int .i64 ((e.fin : Int) + vn));have k8 := y7y k7 (.map (some m)) (e.aL + 1) (e.fin + vn);simp only [Int.natCast_add, Int.cast_ofNat_Int] at k8;generalize hW8 : (((w7.setCell (pl, 2) (.map (some m))).setCell (pl, 3) (.int .i64 ((e.aL : Int) + 1))).setCell (pl, 4) (.int .i64 ((e.fin : Int) + vn))).drew = W8 at *;have k8 : W8.heap[pl]? = some (.cells (jF e.tp e.gen (.map (some m)) (e.aL + 1) (e.fin + vn) pd e.gone) eO (0, 0)) := by rw [<-hW8]; exact k8
  obtain ⟨⟨n1, n2, n3⟩, _⟩ := X.2.2.2.2.2.2;have s8 := BF.size;refine ⟨rfl, jm.trans BF (λ i _ hi => Iy hi), ⟨hg, ?_, ⟨m, k8, x_ (jP rM BF n3), n1, n2, n3⟩, X.1.ne.1, X.1.ne.2.1, ?_⟩⟩
  ·refine z3r X.1.disk (x7.off BF X.1.ne.1 X.1.ne.2.1 jl) s8
  ·intro h
   exact Qe
 ·have H7 := hd5 k7 jm x7 jl rO
  clear g4 k7 jm x7 jl rM rO k2 ne f0 f5 b6 s6 s2 sV;go_wp2;go_ret;rw [HP.out];have hg := X.2.1;rw [HP.out] at hg;simp only [hz, JM] at hg ⊢;obtain ⟨k7, jm, x7, jl, rO⟩ := H7.out;refine ⟨rfl, jm, ⟨hg, x7, ⟨mr, k7, rO, X.2.2.2.2.2.2.2⟩, X.1.ne.1, X.1.ne.2.1, jl⟩⟩
end Go.Proofs.YtgffifleflkjoaaGreat
