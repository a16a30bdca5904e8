/-
  Parts of a proof.
-/
import Derived.Test.YtgffifleflkjoaaGreatFin13
import Derived.Test.YtgffifleflkjoaaGreatFin16
set_option linter.unusedSimpArgs false
set_option linter.unusedVariables false
set_option maxRecDepth 100000
set_option maxHeartbeats 16000000
namespace Go.Proofs.YtgffifleflkjoaaGreat
open _root_.Go.Proofs.Tryz
variable {w W w' w0 wr w1 W0 W1 W2 A B : World} {F G F' O : Nat → Prop} {v : Value} {l : List UInt8} {n q m pd md pl g p : Nat} {C : Array Value} {c : Int}
open Go.RowKit Dm
theorem mM {a : Addr} {v : Option Value} (h : w.cell? a = v) : ∀ x : Wd (λ w' => w' = w.drew), x.world.cell? a = v := λ x => by rw [x.ok]; exact h
theorem Gy {d : D} {r : D × Int} {e : Ending} (x : aQ w.heap p m d F) (h : Left w.drew p m F r e w') : Left w p m F r e w' := ⟨h.1, ⟨h.2.1.os, h.2.1.tape, h.2.1.output, h.2.1.size, h.2.1.block⟩, h.2.2⟩
theorem x0c {b1 b2 b3 : Nat} {d : D} {t : Nat} (x : aQ w.heap pd md d F) (c1 : w.cell? b1 = some (.pointer (some pl))) (c2 : w.cell? b2 = some (.int .i64 t)) (c3 : w.cell? b3 = some v)
 (c5 : w.cell? (pl, 5) = some (.pointer (some pd))) (hv : BytesAt w.heap G v l) (hl : l.length <= 1000000000) (hw : d.waits.length <= 1000000000) :
 Calls prog 121 #[b1, b2, b3] w (Left w pd md F (d.append t l)) := by
 have AC := hd1 (w0u (w := w.drew) x t hv GR GR);obtain ⟨a, c, rfl⟩ := hv.slice;have f1 := mM c1;have f2 := mM c2;have f3 := mM c3;have f5 := mM c5;have X := hd1 x;clear x hv c1 c2 c3 c5;have ne : Nonempty (Wd (λ w' => w' = w.drew)) := ⟨⟨_, rfl⟩⟩;go_in;go_wp2;refine bC (λ w' => ∃ x : Wd (λ w' => w' = w.drew), w' = x.world) [6, 7] GQ ?_;refine aI [0, 1, 2, 3, 4, 5] 2 _ ⟨⟨_, rfl⟩, rfl⟩ GQ ?_;refine G9 ?_;refine az 6 1 _ _ rfl GQ ?_;refine IE rfl λ K hK => ?_;go_simp;refine AC.mono ?_;rintro e w1 ⟨rfl, m1, x1⟩;have L := hd1 (Gy (e := .returned (.int .i64 (d.append t l).2)) X.out ⟨rfl, m1, x1⟩);clear m1 x1;refine hK _ _ (IB ⟨rfl, λ h => absurd GU h, ?_⟩);clear hK K;refine eY [7] 0 _ GQ ?_;refine G9 ?_;refine ⟨GQ, ?_⟩;go_wp2;go_ret;exact L.out
theorem z5c {d : D} (x : aQ w.heap p m d F) : Calls prog 80 #[p] w λ e w' => e = .returned (.int .i64 d.room) /\ w = w' :=
 y8i p d.room w x.lu.1 x.lu.2.2.1
theorem z4d {d : D} {t : Nat} (x : aQ w.heap pd md d F) (c5 : w.cell? (pl, 5) = some (.pointer (some pd))) (ht : t <= 3) :
 Calls prog 74 #[pl, .int .i64 t] w λ e w' => e = .returned (.int .i64 (d.stand.tp t).length) /\ Below w w w' := by
 have TC := EE x t;rw [Iw GR, Iw GR] at TC;have TC := hd1 TC;clear x;generalize d.stand.tp t = l at *;go_in;go_wp2_with (go_at_call 61; refine TC.mono ?_; rintro e w1 ⟨v1, rfl, b1, y1⟩; obtain ⟨va, vc, rfl⟩ := y1.bytes.slice)
 go_ret;exact ⟨rfl, b1⟩
theorem x6v {g1 b2 : Nat} {d : D} {t : Nat} (x : aQ w.heap pd md d F) (c1 : w.cell? g1 = some (.pointer (some pl))) (c2 : w.cell? b2 = some (.int .i64 t))
 (c5 : w.cell? (pl, 5) = some (.pointer (some pd))) (ht : t <= 3) (hw : d.waits.length <= 1000000000) :
 Calls prog 120 #[g1, b2] w (Left w pd md F (Em.b_ d t)) := by
 have SC := hd1 (z4d x c5 ht);have X := hd1 x;have C := hd3 c1 c2 c5;have l1 := IX c1;have l2 := IX c2;have l5 := IX c5;simp only at l1 l2 l5;by_cases h0 : (d.stand.tp t).length = 0
 ·have HE := hd1 (show Em.b_ d t = (d, 0) by unfold Em.b_; rw [IA h0])
  rw [h0] at SC;clear x h0;go_in;go_wp2_with (go_at_call 74; refine SC.mono ?_; rintro e w1 ⟨rfl, b1⟩)
  go_ret;rw [HE.out];exact vV X.out b1
 ·have HE := hd1 (show Em.b_ d t = d.cut t 0 by unfold Em.b_; rw [Iw h0])
  have h0' : ¬ ((d.stand.tp t).length : Int) = 0 := GR;clear x h0;generalize hN : (d.stand.tp t).length = N at *;go_in
  go_wp2_with (go_at_call 74; refine SC.mono ?_; rintro e w1 ⟨rfl, b1⟩
               have f1 := mM ((b1.cell (p := ⟨g1, 0, none⟩) l1).trans C.1);have f2 := mM ((b1.cell (p := ⟨b2, 0, none⟩) l2).trans C.2.1);have f5 := mM ((b1.cell (p := ⟨pl, 5, none⟩) l5).trans C.2.2);have X1 := hd1 (X.plus b1);have CC := hd1 (y0a (w := w1.drew) X1.out t 0 GR);have HB := hd1 b1;clear b1)
  have ne : Nonempty (Wd (λ w' => w' = w1.drew)) := ⟨⟨_, rfl⟩⟩;refine bC (λ w' => ∃ x : Wd (λ w' => w' = w1.drew), w' = x.world) [5, 6] GQ ?_;refine aI [0, 1, 2, 3, 4] 2 _ ⟨⟨_, rfl⟩, rfl⟩ GQ ?_;refine G9 ?_;refine az 5 1 _ _ rfl GQ ?_;refine IE rfl λ K hK => ?_;go_simp;refine CC.mono ?_;rintro e w2 ⟨rfl, m2, x2⟩;have L := hd1 (Gy (e := .returned (.int .i64 (d.cut t 0).2)) X1.out ⟨rfl, m2, x2⟩);clear m2 x2;refine hK _ _ (IB ⟨rfl, λ h => absurd GU h, ?_⟩);clear hK K;refine eY [6] 0 _ GQ ?_;refine G9 ?_;refine ⟨GQ, ?_⟩;go_wp2;go_ret;rw [HE.out];exact Gx X.out HB.out L.out
abbrev PM (pd md : Nat) : Nat -> Prop := λ k => k = pd \/ k = md
theorem x3x {d : D} {r : D × Int} {e : Ending} (x : aQ w.heap p m d F) (hm : Moves (PM p m) w W) (h : Left W p m (plus F w W) r e w') : Left w p m F r e w' := by
 obtain ⟨l1, l2, l3, l4, l5⟩ := x.lt;obtain ⟨h1, h2, h3⟩ := h;have hs := hm.size;have hs2 := h2.size;refine ⟨h1, hm.trans h2 (λ i _ hi => hi), h3.weak (λ k hk hl => ?_) ?_ ?_⟩
 ·exact Pm
 ·exact QJ
 ·exact QK
structure Does (w : World) (pd md : Nat) (fv : Value) (act : D -> D × Int) : Prop where
 run : ∃ fn fs cs, fv = .func (.func fn) fs cs /\ (∀ args w, (callFunc fn args).run prog w = .ok (.enter fn args) w) ∧
  ∀ (W : World) (d : D) (F : Nat -> Prop), Moves (PM pd md) w W -> aQ W.heap pd md d F -> d.waits.length <= 1000000000 -> Calls prog fn (fs ++ cs) W (Left W pd md F (act d))
 few : ∀ d, (act d).1.waits.length <= d.waits.length + 1
def chain : List (D -> D × Int) -> D -> D × Int
 | [], d => (d, 0)
 | a :: l, d => if (a d).2 = 0 then chain l (a d).1 else a d
theorem y1q {l : List (D -> D × Int)} {a : D -> D × Int} : ∀ {d d' : D}, chain l d = (d', 0) -> chain (l ++ [a]) d = a d' := by
 induction l with
 | nil =>
  intro d d' h;cases h;show (if (a d).2 = 0 then ((a d).1, 0) else a d) = a d;by_cases q : (a d).2 = 0
  ·rw [IA q, <-q]
  ·rw [Iw q]
 | cons b l ih =>
  intro d d' h;rw [JK];unfold chain at h ⊢;by_cases q : (b d).2 = 0
  ·rw [IA q] at h ⊢
   exact ih h
  ·rw [Iw q] at h
   rw [h] at q;exact absurd rfl q
theorem x8i {l r : List (D -> D × Int)} : ∀ {d : D}, (chain l d).2 ≠ 0 -> chain (l ++ r) d = chain l d := by
 induction l with
 | nil => intro d h; exact absurd rfl h
 | cons b l ih =>
  intro d h;rw [JK];unfold chain at h ⊢;by_cases q : (b d).2 = 0
  ·rw [IA q] at h ⊢
   rw [IA q];exact ih h
  ·rw [Iw q, Iw q]
theorem z1t {cap : Nat} {d : D} {tQ : List Value} {acts : List (D -> D × Int)} {cs : Array Value} {t : TypeId} {fr : Nat × Nat} (x : aQ w.heap pd md d F) (hw : d.waits.length <= 900000000) (hg : w.heap[g]? = some (.cells cs t fr)) (hgp : g ≠ pd /\ g ≠ md)
 (hcs : ∀ (i : Nat) (f : Value), tQ[i]? = some f -> cs[i]? = some f) (hl : tQ.length = acts.length) (hd : ∀ (i : Nat) (f : Value) (a : D -> D × Int), tQ[i]? = some f -> acts[i]? = some a -> Does w pd md f a) (hn : acts.length <= 100) :
 Calls prog 71 #[.slice (some g) acts.length cap] w (Left w pd md F (chain acts d)) := by
 have H := hd5 x hg hcs hl hd;have HW := hd1 hw;clear x hg hcs hl hd hw;generalize hN : acts.length = N at *;have HN := hd1 hN;clear hN;go_in;go_wp2;go_loopw [4, 5, 8] (λ _ _ s wr => ∃ i : Nat, i <= N /\ s = .int .i64 (i : Int) /\ ∃ d', chain (acts.take i) d = (d', 0) /\ d'.waits.length <= d.waits.length + i /\ aQ wr.heap pd md d' (plus F w wr) /\ Moves (PM pd md) w wr) (λ _ _ s _ => N - (intOf s).toNat)
 case atStart => exact ⟨0, GR, rfl, d, rfl, Nat.le_refl _, H.1.plus GY, Moves.refl _ _⟩
 case round =>
  obtain ⟨i, hi, rfl, d', hch, hwt, hx, hm⟩ := hrel;by_cases hlt : i < N
  ·have i0 : (0 : Int) <= (i : Int) := GR
   have i1 : (i : Int) < (N : Int) := GR;obtain ⟨f, hf⟩ : ∃ f, tQ[i]? = some f := ⟨_, IR (Hg H.2.2.2.1 HN.out)⟩;obtain ⟨a, ha⟩ : ∃ a, acts[i]? = some a := ⟨_, IR (Hf HN.out)⟩;have D0 := H.2.2.2.2 i f a hf ha;obtain ⟨fn, fs, cc, rfl, eg, hrun⟩ := D0.run;have hc : wr.cell? (g, i) = some (.func (.func fn) fs cc) := (IJ _ _ _ _ _ _ ((hm.block g (aa H.2.1) (λ e => by rcases e with e | e; exact hgp.1 e; exact hgp.2 e)).trans H.2.1)).trans (H.2.2.1 i _ hf);have R := hd1 (hrun wr d' (plus F w wr) hm hx (Hf HW.out));have HA := hd5 hch hwt hm ha (D0.few d');clear hch hwt hx hm hf ha D0 hrun;by_cases q : (a d').2 = 0
   ·have Q := hd1 q
    unfold Left at R;rw [q] at R;clear q;go_wp2_with (refine R.mono ?_; rintro e w1 ⟨rfl, m1, x1⟩; have H1 := hd2 m1 x1; clear m1 x1)
    go_roundw
    case rel =>
     have hs := HA.2.2.1.size;have hs2 := H1.1.size;obtain ⟨l1, l2, l3, l4, l5⟩ := H.1.lt;refine ⟨i + 1, GR, by go_num, (a d').1, ?_, Hg HA.2.2.2.2 HA.2.1, H1.2.weak (λ k hk hl => ?_) ?_ ?_, HA.2.2.1.trans H1.1 (λ _ _ h => h)⟩
     ·rw [JC, HA.2.2.2.1]
      show chain (acts.take i ++ [a]) d = _;rw [y1q HA.1, <-Q.out]
     ·exact Pm
     ·intro h; rcases h with h | h; exact l4 h; omega
     ·intro h; rcases h with h | h; exact l5 h; omega
    case measure => simp [intOf]; omega
   ·have Q := hd1 q
    go_wp2_with (refine R.mono ?_; rintro e w1 ⟨rfl, m1, x1⟩; have H1 := hd2 m1 x1; clear m1 x1)
    go_ret;have e1 : chain (acts.take (i + 1)) d = a d' := by
     rw [JC, HA.2.2.2.1];exact y1q HA.1
    have e2 : chain acts d = a d' := by
     conv => lhs; rw [<-List.take_append_drop (i + 1) acts]
     rw [x8i (by rw [e1]; exact Q.out), e1]
    rw [e2];exact x3x H.1 HA.2.2.1 ⟨rfl, H1.1, H1.2⟩
  ·obtain rfl : i = N := GR
   go_wp2;go_ret;rw [Je M0] at hch;rw [hch];exact ⟨rfl, hm, hx⟩
theorem Ap (d : D) (s : Step) : (d.step s).1.waits.length <= d.waits.length + 1 := by
 unfold D.step;split
 ·simp
 ·simp [qZ]
theorem z1a (d : D) (t : Int) (b : List UInt8) : (d.append t b).1.waits.length <= d.waits.length + 1 := by
 unfold D.append;split
 ·simp
 ·split
  ·simp
  ·exact Ap _ _
theorem y0c (d : D) (t n : Int) : (d.cut t n).1.waits.length <= d.waits.length + 1 := by
 unfold D.cut;split
 ·simp
 ·exact Ap _ _
theorem EK (d : D) : d.sync.1.waits.length <= d.waits.length + 1 := by
 unfold D.sync;split
 ·simp
 ·simp [qZ]
theorem CV (d : D) (t : Nat) : (Em.b_ d t).1.waits.length <= d.waits.length + 1 := by
 unfold Em.b_;split
 ·simp
 ·exact y0c _ _ _
theorem nu (hm : Moves (PM pd md) w W) {a : Addr} (h : w.cell? a = some v) (h1 : a.block ≠ pd) (h2 : a.block ≠ md) : W.cell? a = some v :=
 (IW (hm.block a.block (IX h) (λ e => by rcases e with e | e; exact h1 e; exact h2 e))).trans h
theorem x8a (h : BytesAt w.heap G v l) (hm : Moves (PM pd md) w W) (hG : ∀ k, G k -> k ≠ pd /\ k ≠ md) : BytesAt W.heap G v l :=
 h.keeps (λ k hk hl => hm.block k hl (λ e => by rcases e with e | e; exact (hG k hk).1 e; exact (hG k hk).2 e)) (λ _ h _ => h)
theorem z7q {b1 b2 b3 : Nat} {t : Nat} (c1 : w.cell? b1 = some (.pointer (some pl))) (c2 : w.cell? b2 = some (.int .i64 t)) (c3 : w.cell? b3 = some v)
 (c5 : w.cell? (pl, 5) = some (.pointer (some pd))) (hv : BytesAt w.heap G v l) (hG : ∀ k, G k -> k ≠ pd /\ k ≠ md) (hl : l.length <= 1000000000)
 (h1 : b1 ≠ pd /\ b1 ≠ md) (h2 : b2 ≠ pd /\ b2 ≠ md) (h3 : b3 ≠ pd /\ b3 ≠ md) (h5 : pl ≠ pd /\ pl ≠ md) :
 Does w pd md (.func (.func 121) #[] #[.pointer (some b1), .pointer (some b2), .pointer (some b3)]) (λ d => d.append t l) :=
 ⟨⟨_, _, _, rfl, enters_of func121 GQ rfl, λ W d F hm x hw =>
  x0c x (nu hm c1 h1.1 h1.2) (nu hm c2 h2.1 h2.2) (nu hm c3 h3.1 h3.2) (nu hm c5 h5.1 h5.2) (x8a hv hm hG) hl hw⟩, λ d => z1a d t l⟩
theorem x6w {b1 b2 : Nat} {t : Nat} (c1 : w.cell? b1 = some (.pointer (some pl))) (c2 : w.cell? b2 = some (.int .i64 t))
 (c5 : w.cell? (pl, 5) = some (.pointer (some pd))) (ht : t <= 3) (h1 : b1 ≠ pd /\ b1 ≠ md) (h2 : b2 ≠ pd /\ b2 ≠ md) (h5 : pl ≠ pd /\ pl ≠ md) :
 Does w pd md (.func (.func 120) #[] #[.pointer (some b1), .pointer (some b2)]) (λ d => Em.b_ d t) :=
 ⟨⟨_, _, _, rfl, enters_of func120 GQ rfl, λ W d F hm x hw =>
  x6v x (nu hm c1 h1.1 h1.2) (nu hm c2 h2.1 h2.2) (nu hm c5 h5.1 h5.2) ht hw⟩, λ d => CV d t⟩
theorem EL (w : World) (pd md : Nat) : Does w pd md (.func (.func 60) #[.pointer (some pd)] #[]) D.sync :=
 ⟨⟨_, _, _, rfl, enters_of func60 GQ rfl, λ W d F hm x hw => z4z x⟩, EK⟩
theorem z1g (a b : D -> D × Int) (d : D) : chain [a, b] d = Em.next (a d) b := by
 show (if (a d).2 = 0 then (if (b (a d).1).2 = 0 then ((b (a d).1).1, 0) else b (a d).1) else a d) = (if (a d).2 = 0 then b (a d).1 else a d);by_cases q : (a d).2 = 0
 ·rw [IA q, IA q]
  by_cases r : (b (a d).1).2 = 0
  ·rw [IA r, <-r]
  ·rw [Iw r]
 ·rw [Iw q, Iw q]
theorem x8j (a b c : D -> D × Int) (d : D) : chain [a, b, c] d = Em.next (Em.next (a d) b) c := by
 show (if (a d).2 = 0 then chain [b, c] (a d).1 else a d) = _;rw [z1g];unfold Em.next;by_cases q : (a d).2 = 0
 ·rw [IA q, IA q]
 ·rw [Iw q, Iw q, Iw q]
theorem y3n {b1 b2 b3 cap : Nat} {d : D} {t : Nat} {tt : TypeId} (x : aQ w.heap pd md d F) (hw : d.waits.length <= 900000000)
 (c1 : w.cell? b1 = some (.pointer (some pl))) (c2 : w.cell? b2 = some (.int .i64 t)) (c3 : w.cell? b3 = some v)
 (c5 : w.cell? (pl, 5) = some (.pointer (some pd))) (hv : BytesAt w.heap G v l) (hG : ∀ k, G k -> k ≠ pd /\ k ≠ md) (hl : l.length <= 1000000000)
 (h1 : b1 ≠ pd /\ b1 ≠ md) (h2 : b2 ≠ pd /\ b2 ≠ md) (h3 : b3 ≠ pd /\ b3 ≠ md) (h5 : pl ≠ pd /\ pl ≠ md) (hg : g ≠ pd /\ g ≠ md)
 (hr : w.heap[g]? = some (.cells #[.func (.func 121) #[] #[.pointer (some b1), .pointer (some b2), .pointer (some b3)], .func (.func 60) #[.pointer (some pd)] #[]] tt (0, 0))) :
 Calls prog 71 #[.slice (some g) 2 cap] w (Left w pd md F (Em.wrote d t l)) := by
 have := z1t (w := w) (g := g) (cap := cap) (acts := [λ d => d.append t l, D.sync])
  (tQ := [.func (.func 121) #[] #[.pointer (some ⟨b1, 0, none⟩), .pointer (some ⟨b2, 0, none⟩), .pointer (some ⟨b3, 0, none⟩)], .func (.func 60) #[.pointer (some ⟨pd, 0, none⟩)] #[]]) x hw hr hg
  (λ i f hf => by
   match i, hf with
   | 0, hf => cases hf; rfl
   | 1, hf => cases hf; rfl
   | i + 2, hf => simp at hf) rfl
  (λ i f a hf ha => by
   match i, hf, ha with
   | 0, hf, ha => cases hf; cases ha; exact z7q c1 c2 c3 c5 hv hG hl h1 h2 h3 h5
   | 1, hf, ha => cases hf; cases ha; exact EL w pd md
   | i + 2, hf, ha => simp at hf) GV
 rw [z1g] at this;exact this
theorem z6n {a1 a2 b1 b2 b3 cap : Nat} {d : D} {t : Nat} {tt : TypeId} (x : aQ w.heap pd md d F) (hw : d.waits.length <= 900000000) (ht : t <= 3)
 (e1 : w.cell? a1 = some (.pointer (some pl))) (e2 : w.cell? a2 = some (.int .i64 t))
 (c1 : w.cell? b1 = some (.pointer (some pl))) (c2 : w.cell? b2 = some (.int .i64 t)) (c3 : w.cell? b3 = some v)
 (c5 : w.cell? (pl, 5) = some (.pointer (some pd))) (hv : BytesAt w.heap G v l) (hG : ∀ k, G k -> k ≠ pd /\ k ≠ md) (hl : l.length <= 1000000000)
 (k1 : a1 ≠ pd /\ a1 ≠ md) (k2 : a2 ≠ pd /\ a2 ≠ md) (h1 : b1 ≠ pd /\ b1 ≠ md) (h2 : b2 ≠ pd /\ b2 ≠ md) (h3 : b3 ≠ pd /\ b3 ≠ md) (h5 : pl ≠ pd /\ pl ≠ md) (hg : g ≠ pd /\ g ≠ md)
 (hr : w.heap[g]? = some (.cells #[.func (.func 120) #[] #[.pointer (some a1), .pointer (some a2)],
  .func (.func 121) #[] #[.pointer (some b1), .pointer (some b2), .pointer (some b3)], .func (.func 60) #[.pointer (some pd)] #[]] tt (0, 0))) :
 Calls prog 71 #[.slice (some g) 3 cap] w (Left w pd md F (Em.bK d t l)) := by
 have := z1t (w := w) (g := g) (cap := cap) (acts := [λ d => Em.b_ d t, λ d => d.append t l, D.sync])
  (tQ := [.func (.func 120) #[] #[.pointer (some ⟨a1, 0, none⟩), .pointer (some ⟨a2, 0, none⟩)], .func (.func 121) #[] #[.pointer (some ⟨b1, 0, none⟩), .pointer (some ⟨b2, 0, none⟩), .pointer (some ⟨b3, 0, none⟩)], .func (.func 60) #[.pointer (some ⟨pd, 0, none⟩)] #[]]) x hw hr hg
  (λ i f hf => by
   match i, hf with
   | 0, hf => cases hf; rfl
   | 1, hf => cases hf; rfl
   | 2, hf => cases hf; rfl
   | i + 3, hf => simp at hf) rfl
  (λ i f a hf ha => by
   match i, hf, ha with
   | 0, hf, ha => cases hf; cases ha; exact x6w e1 e2 c5 ht k1 k2 h5
   | 1, hf, ha => cases hf; cases ha; exact z7q c1 c2 c3 c5 hv hG hl h1 h2 h3 h5
   | 2, hf, ha => cases hf; cases ha; exact EL w pd md
   | i + 3, hf, ha => simp at hf) GV
 rw [x8j] at this;exact this
theorem y0k (pl t : Nat) (w : World) : Calls prog 72 #[pl, .int .i64 t] w λ e w' =>
 e = .returned (.func (.func 120) #[] #[.pointer (some w.heap.size), .pointer (some (w.heap.size + 1, 0))]) /\ (w.alloc (.cells #[pl] 27)).alloc (.cells #[.int .i64 t] 3) = w' := by
 have gN : ∀ (fn : Fn) (first cap : Array Value) (w : World), (Instr.makeFunc fn first cap).run prog w = .ok (.func fn first cap) w := λ _ _ _ _ => rfl;go_in;go_wp2;exact OJ
theorem FZ (pl t : Nat) (a : Option Addr) (n c : Nat) (w : World) : Calls prog 73 #[pl, .int .i64 t, .slice a n c] w λ e w' =>
 e = .returned (.func (.func 121) #[] #[.pointer (some w.heap.size), .pointer (some (w.heap.size + 1, 0)), .pointer (some (w.heap.size + 1 + 1, 0))]) ∧
  ((w.alloc (.cells #[pl] 27)).alloc (.cells #[.int .i64 t] 3)).alloc (.cells #[.slice a n c] 31) = w' := by
 have gN : ∀ (fn : Fn) (first cap : Array Value) (w : World), (Instr.makeFunc fn first cap).run prog w = .ok (.func fn first cap) w := λ _ _ _ _ => rfl;go_in;go_wp2;exact OJ
end Go.Proofs.YtgffifleflkjoaaGreat
