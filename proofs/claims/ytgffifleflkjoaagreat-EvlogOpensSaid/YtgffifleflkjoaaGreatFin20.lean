/-
  Parts of a proof.
-/
import Derived.Test.YtgffifleflkjoaaGreatFin17
import Derived.Test.YtgffifleflkjoaaGreatFin18
set_option linter.unusedSimpArgs false
set_option linter.unusedVariables false
set_option maxRecDepth 100000
set_option maxHeartbeats 16000000
namespace Go.Proofs.YtgffifleflkjoaaGreat
open _root_.Go.Proofs.Tryz
variable {w W w' w0 wr w1 W0 W1 W2 A B : World} {F G F' O : Nat → Prop} {v : Value} {l : List UInt8} {n q m pd md pl g p : Nat} {C : Array Value} {c : Int}
open Go.RowKit Dm
abbrev eO : Nat := 70
abbrev qE : Nat := 100
abbrev dK : Nat := 68
abbrev jF (tp gen : Nat) (rows : Value) (aL fin : Nat) (pd : Nat) (gone : Bool) : Array Value := #[.int .i64 tp, .int .i64 gen, rows, .int .i64 aL, .int .i64 fin, .pointer (some ⟨pd, 0, none⟩), .bool gone]
structure bO (w : World) (pl pd md : Nat) (e : Em.E) (F : Nat -> Prop) : Prop where
 good : e.good
 disk : aQ w.heap pd md e.d F
 row : ∃ m, w.heap[pl]? = some (.cells (jF e.tp e.gen (.map (some m)) e.aL e.fin pd e.gone) eO (0, 0)) /\ RowsIn w m (Maps.size e.rows) e.rows /\ m ≠ pd /\ m ≠ md /\ m ≠ pl
 ne : pl ≠ pd /\ pl ≠ md /\ ¬ F pl
abbrev eH (pl pd md : Nat) : Nat -> Prop := λ k => k = pl \/ k = pd \/ k = md
def lK (w : World) (pl pd md : Nat) (F : Nat -> Prop) (r : Em.E × Int) (e : Ending) (w' : World) : Prop :=
 e = .returned (.int .i64 r.2) /\ Moves (eH pl pd md) w w' /\ bO w' pl pd md r.1 (plus F w w')
theorem aQ.off {d : D} (x : aQ w.heap pd md d F) (hm : Moves (λ k => k = pl) w W) (h1 : pl ≠ pd) (h2 : pl ≠ md) (h3 : ¬ F pl) : aQ W.heap pd md d F := by
 obtain ⟨l1, l2, _, _, _⟩ := x.lt;exact x.keeps (hm.block pd l1 (λ e => h1 e.symm)) (hm.block md l2 (λ e => h2 e.symm)) (λ k hk hl => hm.block k hl (λ e => h3 (e ▸ hk))) (λ _ h _ => h) (λ _ h => Iy h)
theorem aN {a : Addr} (hb : Below w w w') (h : w.cell? a = some v) : w'.cell? a = some v := (hb.cell (p := a) (IX h)).trans h
theorem Af {d d' : D} (x : aQ w.heap pd md d F) (y : aQ w'.heap pd md d' (plus F W w')) (hs : w.heap.size <= W.heap.size) : aQ w'.heap pd md d' (plus F w w') := by
 obtain ⟨l1, l2, l3, l4, l5⟩ := x.lt;refine y.weak (λ k hk hl => ?_) ?_ ?_
 ·rcases hk with hk | hk
  ·exact Iy hk
  ·exact Iz ⟨GR, hl⟩
 ·exact QJ
 ·exact QK
theorem z3r {d d' : D} (x : aQ w.heap pd md d F) (y : aQ w'.heap pd md d' (plus F w W)) (hs : W.heap.size <= w'.heap.size) : aQ w'.heap pd md d' (plus F w w') := by
 obtain ⟨l1, l2, l3, l4, l5⟩ := x.lt;refine y.weak (λ k hk hl => ?_) ?_ ?_
 ·exact Rn
 ·exact QJ
 ·exact QK
theorem jP {D : Em.Rows} (h : RowsIn w m n D) (hm : Moves (λ k => k = pl) w W) (h1 : m ≠ pl) : RowsIn W m n D := by
 exact QF
theorem sG {D : Em.Rows} (h : RowsIn w m n D) (hm : Moves (PM pd md) w W) (h1 : m ≠ pd) (h2 : m ≠ md) : RowsIn W m n D := by
 have lt := h.lt;obtain ⟨es, clock, k1, F, hs, hD⟩ := h;exact ⟨es, clock, (hm.block m lt (λ e => by rcases e with e | e; exact h1 e; exact h2 e)).trans k1, F, hs, hD⟩
theorem pK : (prog.info? dK).map (·.size) = some 5 := GQ
theorem z3e (a b c d : Int) (m : Nat) : (#[Value.int .i64 a, .int .i64 b, .map (some m), .int .i64 c, .int .i64 d] : Array Value).all (·.oneCell') = true := by simp [Value.oneCell']
theorem x9g {d : D} {t0 t1 t2 t3 t4 : Value} (x : aQ w.heap pd md d F) (hw : d.waits.length <= 900000000) (hr : w.heap[pl]? = some (.cells #[t0, t1, t2, t3, t4, pd, false] eO))
 (h1 : pl ≠ pd) (h2 : pl ≠ md) (h3 : ¬ F pl) : Calls prog 34 #[pl] w (lK w pl pd md F (Em.begun d)) := by
 have FC := hd1 (y0v (w := w) (v := .map none) (D := .map []) (gen := 1) (Iy ⟨rfl, rfl⟩) Em.nW GU GU);have X := hd6 x hr hw h1 h2 h3;clear x hr hw h1 h2 h3;have hmm := @Ko prog;have gN : ∀ (fn : Fn) (first cap : Array Value) (w : World), (Instr.makeFunc fn first cap).run prog w = .ok (.func fn first cap) w := λ _ _ _ _ => rfl;go_in
 go_wp2_with (first
  | (go_at_call 70; refine FC.mono ?_; rintro e w1 ⟨v1, rfl, o1, b1⟩
     obtain ⟨va, vc, rfl⟩ := o1.at.slice;have H1 := hd2 o1 b1;clear o1 b1)
  | (refine nU rfl dK (.tmp 11) (.tmp 9) rfl pl 0 #[.int .i64 0, .int .i64 1, .map (some w1.heap.size), .int .i64 0, .int .i64 (Em.folded 1 (.map [])).length] rfl rfl eO _ ((((H1.2).alloc H1.2.size _).block pl (aa X.2.1)).trans X.2.1) pK GV (z3e _ _ _ _ _) ?_
     intro W3 HW3 bU fZ))
 have hW3 : W3.heap[pl]? = some (.cells (jF 0 1 (.map (some w1.heap.size)) 0 (Em.folded 1 (.map [])).length pd false) eO (0, 0)) := HW3.out;have B2 : Below w w (w1.alloc (.map #[] 0)) := H1.2.alloc H1.2.size _;have gG := aa X.2.1;have x2 := X.1.below B2;have x3 := x2.off bU X.2.2.2.1 X.2.2.2.2.1 X.2.2.2.2.2;have r3 : RowsIn W3 w1.heap.size 0 (.map []) := by
  obtain ⟨es, clock, k1, kr⟩ := L9 (H := Unit) w1 prog dB (plainElem prog dB);exact ⟨es, clock, (bU.block w1.heap.size GV (Hf H1.2.size)).trans k1, kr⟩
 have y3 : BytesAt W3.heap (λ k => w.heap.size <= k /\ k < w1.heap.size) (.slice va (Em.folded 1 (.map [])).length vc) (Em.folded 1 (.map [])) := by
  refine H1.1.at.keeps (λ k hk hl => (bU.block k N_ (λ e => GR)).trans (JL _ _ _ hl)) (λ k hk hl => ⟨hk, hl⟩)
 have s3 : W3.heap.size = w1.heap.size + 1 := by rw [fZ]; simp
 have b3 : Moves (λ k => k = pl) w W3 := Moves.trans (Moves.of_below B2) bU (λ _ _ h => h);have z1 := H1.2.size;have H3 := hd6 hW3 x3 r3 y3 s3 b3;have f5 : ∀ x : Wd (Below W3 W3), x.world.cell? (pl, 5) = some (.pointer (some pd)) := λ x => (x.ok.cell (p := ⟨pl, 5, none⟩) (aa hW3)).trans (ae hW3 rfl);clear hW3 bU fZ B2 x2 x3 r3 y3 b3 HW3 s3;have ne : Nonempty (Wd (Below W3 W3)) := ⟨⟨_, Below.refl _ _⟩⟩;clear hmm;go_wp2;refine bC (λ w' => ∃ x : Wd (Below W3 W3), w' = x.world) [11, 12] GQ ?_;refine aI [0, 2, 3, 5, 6, 7, 8, 9] 5 _ Hq GQ ?_;refine G9 ?_;refine az 1 4 _ _ rfl GQ ?_;refine IE rfl λ K hK => ?_;go_simp;go_at_call 72;refine (y0k pl 0 W3.drew).mono ?_;rintro e w4 ⟨rfl, e4⟩;have B4 : Below W3 W3 w4 := by rw [<-e4]; exact (GY.drew.alloc GZ _).alloc GV _
 have z4 : w4.heap.size = W3.heap.size + 2 := by rw [<-e4]; simp
 have a1 : w4.cell? W3.heap.size = some (.pointer (some pl)) := by rw [<-e4]; exact ae (aM GV (IC W3.drew _)) rfl
 have a2 : w4.cell? (W3.heap.size + 1, 0) = some (.int .i64 0) := by rw [<-e4]; exact ae (bD (w := W3.drew.alloc _) _ GV) rfl
 have H4 := hd4 B4 z4 a1 a2;clear e4 a1 a2;refine hK _ _ (IB ⟨rfl, λ _ => ⟨⟨_, B4⟩, rfl⟩, ?_⟩);clear hK K;clear B4 z4;refine az 4 3 _ _ rfl GQ ?_;refine IE rfl λ K hK => ?_;go_simp;go_at_call 73;refine (FZ pl 0 va _ vc w4).mono ?_;rintro e w5 ⟨rfl, e5⟩;have uS : Below w4 w4 w5 := by rw [<-e5]; exact ((bla).alloc GV _).alloc N_ _
 have B5 : Below W3 W3 w5 := H4.1.trans (uS.mono H4.1.size);have z5 : w5.heap.size = w4.heap.size + 3 := by rw [<-e5]; simp
 have p1 : w5.cell? w4.heap.size = some (.pointer (some pl)) := by rw [<-e5]; exact ae (aM N_ (aM GV (IC w4 _))) rfl
 have p2 : w5.cell? (w4.heap.size + 1, 0) = some (.int .i64 0) := by rw [<-e5]; exact ae (aM GV (bD (w := w4.alloc _) _ GV)) rfl
 have p3 : w5.cell? (w4.heap.size + 1 + 1, 0) = some (.slice va (Em.folded 1 (.map [])).length vc) := by rw [<-e5]; exact ae (bD (w := (w4.alloc _).alloc _) _ GV) rfl
 have H5 := hd6 uS B5 z5 p1 p2 p3;clear e5 p1 p2 p3 uS;refine hK _ _ (IB ⟨rfl, λ _ => ⟨⟨_, B5⟩, rfl⟩, ?_⟩);clear hK K;clear B5 z5;refine az 10 2 _ _ rfl GQ ?_;refine IE rfl λ K hK => ?_;go_simp
 obtain ⟨W6, fG⟩ : ∃ W, w5.alloc (.cells #[.func (.func 120) #[] #[.pointer (some ⟨W3.heap.size, 0, none⟩), .pointer (some ⟨W3.heap.size + 1, 0, none⟩)],
  .func (.func 121) #[] #[.pointer (some ⟨w4.heap.size, 0, none⟩), .pointer (some ⟨w4.heap.size + 1, 0, none⟩), .pointer (some ⟨w4.heap.size + 1 + 1, 0, none⟩)], .func (.func 60) #[.pointer (some ⟨pd, 0, none⟩)] #[]] qE) = W := ⟨_, rfl⟩
 have r6 := IC w5 (.cells #[.func (.func 120) #[] #[.pointer (some ⟨W3.heap.size, 0, none⟩), .pointer (some ⟨W3.heap.size + 1, 0, none⟩)],
  .func (.func 121) #[] #[.pointer (some ⟨w4.heap.size, 0, none⟩), .pointer (some ⟨w4.heap.size + 1, 0, none⟩), .pointer (some ⟨w4.heap.size + 1 + 1, 0, none⟩)], .func (.func 60) #[.pointer (some ⟨pd, 0, none⟩)] #[]] qE)
 rw [fG] at r6;have gL : Below w5 w5 W6 := by rw [<-fG]; exact bla
 rw [fG];have B6 : Below W3 W3 W6 := H5.2.1.trans (gL.mono H5.2.1.size);have lp := X.1.lt;have x6 := H3.2.1.below B6;have y6 : BytesAt W6.heap (λ k => w.heap.size <= k /\ k < w1.heap.size) (.slice va (Em.folded 1 (.map [])).length vc) (Em.folded 1 (.map [])) := H3.2.2.2.1.keeps (λ k _ hl => B6.block k hl) (λ k hk _ => hk);have s3 := H3.2.2.2.2.1;have z1 := H1.2.size;have z4 := H4.2.1;have fl : (Em.folded 1 (.map [])).length <= 1000000000 := by have := Em.tV (D := .map []) 1 GU; omega
 have RC := hd1 (z6n (t := 0) (cap := 3) x6 X.2.2.1 GU (aN gL (aN H5.1 H4.2.2.1)) (aN gL (aN H5.1 H4.2.2.2)) (aN gL H5.2.2.2.1) (aN gL H5.2.2.2.2.1) (aN gL H5.2.2.2.2.2)
  (aN B6 (ae H3.1 rfl)) y6 (λ k hk => ⟨GR, GR⟩) fl
  ⟨GR, GR⟩ ⟨GR, GR⟩ ⟨GR, GR⟩ ⟨GR, GR⟩ ⟨GR, GR⟩ ⟨X.2.2.2.1, X.2.2.2.2.1⟩ ⟨Hf H5.2.2.1, Hf H5.2.2.1⟩ r6)
 have H6 := hd2 B6 lp;clear x6 y6 r6 gL z1 z4 s3 lp fl fG;refine hK _ _ (IB ⟨rfl, λ _ => ⟨⟨_, B6⟩, rfl⟩, ?_⟩);clear hK K;clear B6;refine az 11 1 _ _ rfl GQ ?_;refine IE rfl λ K hK => ?_;go_simp;go_at_call 71;refine RC.mono ?_;rintro e w7 ⟨rfl, m7, x7⟩;have L := hd2 m7 x7;clear m7 x7;refine hK _ _ (IB ⟨rfl, λ h => absurd GU h, ?_⟩);clear hK K;refine eY [12] 0 _ GQ ?_;refine G9 ?_;refine ⟨GQ, ?_⟩;go_wp2;go_ret;obtain ⟨m7, x7⟩ := L.out;obtain ⟨B6, lp⟩ := H6.out;obtain ⟨k3, x3, r3, _, s3, b3⟩ := H3.out;have z1 := H1.2.size;have z6 := B6.size;have m7' : Moves (eH pl pd md) W6 w7 := m7.mono λ i hi => Iz hi;have b3' : Moves (eH pl pd md) w W3 := b3.mono λ i hi => Iy hi;refine ⟨rfl, (b3'.trans (Moves.of_below B6) (λ _ _ h => h)).trans m7' (λ _ _ h => h), ⟨Em.y1j d, Af X.1 x7 GR, ⟨w1.heap.size, ?_, ?_, GR, GR, Hf (aa X.2.1)⟩, X.2.2.2.1, X.2.2.2.2.1, ?_⟩⟩
 ·exact (m7.block pl (Hf (aa k3)) (λ e => by rcases e with e | e; exact X.2.2.2.1 e; exact X.2.2.2.2.1 e)).trans ((B6.block pl (aa k3)).trans k3)
 ·exact sG (dZ r3 B6 GR) m7 GR GR
 ·intro h
  rcases h with h | h
  ·exact X.2.2.2.2.2 h
  ·have := aa X.2.1
   omega
end Go.Proofs.YtgffifleflkjoaaGreat
