/-
  Parts of a proof.
-/
import Derived.Test.YtgffifleflkjoaaGreatFin16
import Derived.Test.YtgffifleflkjoaaGreatFin17
set_option linter.unusedSimpArgs false
set_option linter.unusedVariables false
set_option maxRecDepth 100000
set_option maxHeartbeats 16000000
namespace Go.Proofs.YtgffifleflkjoaaGreat
open _root_.Go.Proofs.Tryz
variable {w W w' w0 wr w1 W0 W1 W2 A B : World} {F G F' O : Nat → Prop} {v : Value} {l : List UInt8} {n q m pd md pl g p : Nat} {C : Array Value} {c : Int}
open Go.RowKit Dm
theorem ni {a : Addr} {v : Option Value} (h : w.cell? a = v) : ∀ x : Wd (λ w' => w' = w.drew), x.world.cell? a = v := λ x => by rw [x.ok]; exact h
theorem Gu {d : D} {r : D × Int} {e : Ending} (x : aQ w.heap p m d F) (h : Left w.drew p m F r e w') : Left w p m F r e w' := ⟨h.1, ⟨h.2.1.os, h.2.1.tape, h.2.1.output, h.2.1.size, h.2.1.block⟩, h.2.2⟩
theorem x1w {b1 b2 b3 : Nat} {d : D} {t : Nat} (x : aQ w.heap pd md d F) (c1 : w.cell? b1 = some (.pointer (some pl))) (c2 : w.cell? b2 = some (.int .i64 t)) (c3 : w.cell? b3 = some v)
 (c5 : w.cell? (pl, 5) = some (.pointer (some pd))) (hv : BytesAt w.heap G v l) (hl : l.length <= 1000000000) (hw : d.waits.length <= 1000000000) :
 Calls prog 121 #[b1, b2, b3] w (Left w pd md F (d.append t l)) := by
 have AC := hd1 (w0x (w := w.drew) x t hv GX GX);obtain ⟨a, c, rfl⟩ := hv.slice;have f1 := ni c1;have f2 := ni c2;have f3 := ni c3;have f5 := ni c5;have X := hd1 x;clear x hv c1 c2 c3 c5;have ne : Nonempty (Wd (λ w' => w' = w.drew)) := ⟨⟨_, rfl⟩⟩;go_in;go_wp2;refine bD (λ w' => ∃ x : Wd (λ w' => w' = w.drew), w' = x.world) [6, 7] GV ?_;refine aL [0, 1, 2, 3, 4, 5] 2 _ ⟨⟨_, rfl⟩, rfl⟩ GV ?_;refine Hd ?_;refine aA 6 1 _ _ rfl GV ?_;refine IJ rfl λ K hK => ?_;go_simp;refine AC.mono ?_;rintro e w1 ⟨rfl, m1, x1⟩;have L := hd1 (Gu (e := .returned (.int .i64 (d.append t l).2)) X.out ⟨rfl, m1, x1⟩);clear m1 x1;refine hK _ _ (IG ⟨rfl, λ h => absurd GY h, ?_⟩);clear hK K;refine eY [7] 0 _ GV ?_;refine Hd ?_;refine ⟨GV, ?_⟩;go_wp2;go_ret;exact L.out
theorem z5h {d : D} (x : aQ w.heap p m d F) : Calls prog 80 #[p] w λ e w' => e = .returned (.int .i64 d.room) /\ w = w' :=
 y8e p d.room w x.lQ.1 x.lQ.2.2.1
theorem z4h {d : D} {t : Nat} (x : aQ w.heap pd md d F) (c5 : w.cell? (pl, 5) = some (.pointer (some pd))) (ht : t <= 3) :
 Calls prog 74 #[pl, .int .i64 t] w λ e w' => e = .returned (.int .i64 (d.stand.tp t).length) /\ Below w w w' := by
 have TC := EA x t;rw [IA GX, IA GX] at TC;have TC := hd1 TC;clear x;generalize d.stand.tp t = l at *;go_in;go_wp2_with (go_at_call 61; refine TC.mono ?_; rintro e w1 ⟨v1, rfl, b1, y1⟩; obtain ⟨va, vc, rfl⟩ := y1.bytes.slice)
 go_ret;exact ⟨rfl, b1⟩
theorem x6w {g1 b2 : Nat} {d : D} {t : Nat} (x : aQ w.heap pd md d F) (c1 : w.cell? g1 = some (.pointer (some pl))) (c2 : w.cell? b2 = some (.int .i64 t))
 (c5 : w.cell? (pl, 5) = some (.pointer (some pd))) (ht : t <= 3) (hw : d.waits.length <= 1000000000) :
 Calls prog 120 #[g1, b2] w (Left w pd md F (Em.bZ d t)) := by
 have SC := hd1 (z4h x c5 ht);have X := hd1 x;have C := hd3 c1 c2 c5;have l1 := IZ c1;have l2 := IZ c2;have l5 := IZ c5;simp only at l1 l2 l5;by_cases h0 : (d.stand.tp t).length = 0
 ·have HE := hd1 (show Em.bZ d t = (d, 0) by unfold Em.bZ; rw [IE h0])
  rw [h0] at SC;clear x h0;go_in;go_wp2_with (go_at_call 74; refine SC.mono ?_; rintro e w1 ⟨rfl, b1⟩)
  go_ret;rw [HE.out];exact wm X.out b1
 ·have HE := hd1 (show Em.bZ d t = d.cut t 0 by unfold Em.bZ; rw [IA h0])
  have h0' : ¬ ((d.stand.tp t).length : Int) = 0 := GX;clear x h0;generalize hN : (d.stand.tp t).length = N at *;go_in
  go_wp2_with (go_at_call 74; refine SC.mono ?_; rintro e w1 ⟨rfl, b1⟩
               have f1 := ni ((b1.cell (p := ⟨g1, 0, none⟩) l1).trans C.1);have f2 := ni ((b1.cell (p := ⟨b2, 0, none⟩) l2).trans C.2.1);have f5 := ni ((b1.cell (p := ⟨pl, 5, none⟩) l5).trans C.2.2);have X1 := hd1 (X.plus b1);have CC := hd1 (y0a (w := w1.drew) X1.out t 0 GX);have HB := hd1 b1;clear b1)
  have ne : Nonempty (Wd (λ w' => w' = w1.drew)) := ⟨⟨_, rfl⟩⟩;refine bD (λ w' => ∃ x : Wd (λ w' => w' = w1.drew), w' = x.world) [5, 6] GV ?_;refine aL [0, 1, 2, 3, 4] 2 _ ⟨⟨_, rfl⟩, rfl⟩ GV ?_;refine Hd ?_;refine aA 5 1 _ _ rfl GV ?_;refine IJ rfl λ K hK => ?_;go_simp;refine CC.mono ?_;rintro e w2 ⟨rfl, m2, x2⟩;have L := hd1 (Gu (e := .returned (.int .i64 (d.cut t 0).2)) X1.out ⟨rfl, m2, x2⟩);clear m2 x2;refine hK _ _ (IG ⟨rfl, λ h => absurd GY h, ?_⟩);clear hK K;refine eY [6] 0 _ GV ?_;refine Hd ?_;refine ⟨GV, ?_⟩;go_wp2;go_ret;rw [HE.out];exact Gt X.out HB.out L.out
abbrev PM (pd md : Nat) : Nat -> Prop := λ k => k = pd \/ k = md
theorem x3s {d : D} {r : D × Int} {e : Ending} (x : aQ w.heap p m d F) (hm : Moves (PM p m) w W) (h : Left W p m (plus F w W) r e w') : Left w p m F r e w' := by
 obtain ⟨l1, l2, l3, l4, l5⟩ := x.lt;obtain ⟨h1, h2, h3⟩ := h;have hs := hm.size;have hs2 := h2.size;refine ⟨h1, hm.trans h2 (λ i _ hi => hi), h3.weak (λ k hk hl => ?_) ?_ ?_⟩
 ·exact Ps
 ·exact QN
 ·exact QO
structure Does (w : World) (pd md : Nat) (fv : Value) (act : D -> D × Int) : Prop where
 run : ∃ fn fs cs, fv = .func (.func fn) fs cs /\ (∀ args w, (callFunc fn args).run prog w = .ok (.enter fn args) w) ∧
  ∀ (W : World) (d : D) (F : Nat -> Prop), Moves (PM pd md) w W -> aQ W.heap pd md d F -> d.waits.length <= 1000000000 -> Calls prog fn (fs ++ cs) W (Left W pd md F (act d))
 few : ∀ d, (act d).1.waits.length <= d.waits.length + 1
def chain : List (D -> D × Int) -> D -> D × Int
 | [], d => (d, 0)
 | a :: l, d => if (a d).2 = 0 then chain l (a d).1 else a d
theorem y1q {l : List (D -> D × Int)} {a : D -> D × Int} : ∀ {d d' : D}, chain l d = (d', 0) -> chain (l ++ [a]) d = a d' := by
 induction l with
 | nil =>
  intro d d' h;cases h;show (if (a d).2 = 0 then ((a d).1, 0) else a d) = a d;by_cases q : (a d).2 = 0
  ·rw [IE q, <-q]
  ·rw [IA q]
 | cons b l ih =>
  intro d d' h;rw [JG];unfold chain at h ⊢;by_cases q : (b d).2 = 0
  ·rw [IE q] at h ⊢
   exact ih h
  ·rw [IA q] at h
   rw [h] at q;exact absurd rfl q
theorem x8k {l r : List (D -> D × Int)} : ∀ {d : D}, (chain l d).2 ≠ 0 -> chain (l ++ r) d = chain l d := by
 induction l with
 | nil => intro d h; exact absurd rfl h
 | cons b l ih =>
  intro d h;rw [JG];unfold chain at h ⊢;by_cases q : (b d).2 = 0
  ·rw [IE q] at h ⊢
   rw [IE q];exact ih h
  ·rw [IA q, IA q]
theorem z0c {cap : Nat} {d : D} {ui : List Value} {acts : List (D -> D × Int)} {cs : Array Value} {t : TypeId} {fr : Nat × Nat} (x : aQ w.heap pd md d F) (hw : d.waits.length <= 900000000) (hg : w.heap[g]? = some (.cells cs t fr)) (hgp : g ≠ pd /\ g ≠ md)
 (hcs : ∀ (i : Nat) (f : Value), ui[i]? = some f -> cs[i]? = some f) (hl : ui.length = acts.length) (hd : ∀ (i : Nat) (f : Value) (a : D -> D × Int), ui[i]? = some f -> acts[i]? = some a -> Does w pd md f a) (hn : acts.length <= 100) :
 Calls prog 71 #[.slice (some g) acts.length cap] w (Left w pd md F (chain acts d)) := by
 have H := hd5 x hg hcs hl hd;have HW := hd1 hw;clear x hg hcs hl hd hw;generalize hN : acts.length = N at *;have HN := hd1 hN;clear hN;go_in;go_wp2;go_loopw [4, 5, 8] (λ _ _ s wr => ∃ i : Nat, i <= N /\ s = .int .i64 (i : Int) /\ ∃ d', chain (acts.take i) d = (d', 0) /\ d'.waits.length <= d.waits.length + i /\ aQ wr.heap pd md d' (plus F w wr) /\ Moves (PM pd md) w wr) (λ _ _ s _ => N - (intOf s).toNat)
 case atStart => exact ⟨0, GX, rfl, d, rfl, Nat.le_refl _, H.1.plus G6, Moves.refl _ _⟩
 case round =>
  obtain ⟨i, hi, rfl, d', hch, hwt, hx, hm⟩ := hrel;by_cases hlt : i < N
  ·have i0 : (0 : Int) <= (i : Int) := GX
   have i1 : (i : Int) < (N : Int) := GX;obtain ⟨f, hf⟩ : ∃ f, ui[i]? = some f := ⟨_, IX (Ho H.2.2.2.1 HN.out)⟩;obtain ⟨a, ha⟩ : ∃ a, acts[i]? = some a := ⟨_, IX (Hm HN.out)⟩;have D0 := H.2.2.2.2 i f a hf ha;obtain ⟨fn, fs, cc, rfl, eg, hrun⟩ := D0.run;have hc : wr.cell? (g, i) = some (.func (.func fn) fs cc) := (IM _ _ _ _ _ _ ((hm.block g (aa H.2.1) (λ e => by rcases e with e | e; exact hgp.1 e; exact hgp.2 e)).trans H.2.1)).trans (H.2.2.1 i _ hf);have R := hd1 (hrun wr d' (plus F w wr) hm hx (Hm HW.out));have HA := hd5 hch hwt hm ha (D0.few d');clear hch hwt hx hm hf ha D0 hrun;by_cases q : (a d').2 = 0
   ·have Q := hd1 q
    unfold Left at R;rw [q] at R;clear q;go_wp2_with (refine R.mono ?_; rintro e w1 ⟨rfl, m1, x1⟩; have H1 := hd2 m1 x1; clear m1 x1)
    go_roundw
    case rel =>
     have hs := HA.2.2.1.size;have hs2 := H1.1.size;obtain ⟨l1, l2, l3, l4, l5⟩ := H.1.lt;refine ⟨i + 1, GX, by go_num, (a d').1, ?_, Ho HA.2.2.2.2 HA.2.1, H1.2.weak (λ k hk hl => ?_) ?_ ?_, HA.2.2.1.trans H1.1 (λ _ _ h => h)⟩
     ·rw [JH, HA.2.2.2.1]
      show chain (acts.take i ++ [a]) d = _;rw [y1q HA.1, <-Q.out]
     ·exact Ps
     ·intro h; rcases h with h | h; exact l4 h; omega
     ·intro h; rcases h with h | h; exact l5 h; omega
    case measure => simp [intOf]; omega
   ·have Q := hd1 q
    go_wp2_with (refine R.mono ?_; rintro e w1 ⟨rfl, m1, x1⟩; have H1 := hd2 m1 x1; clear m1 x1)
    go_ret;have e1 : chain (acts.take (i + 1)) d = a d' := by
     rw [JH, HA.2.2.2.1];exact y1q HA.1
    have e2 : chain acts d = a d' := by
     conv => lhs; rw [<-List.take_append_drop (i + 1) acts]
     rw [x8k (by rw [e1]; exact Q.out), e1]
    rw [e2];exact x3s H.1 HA.2.2.1 ⟨rfl, H1.1, H1.2⟩
  ·obtain rfl : i = N := GX
   go_wp2;go_ret;rw [Jh M6] at hch;rw [hch];exact ⟨rfl, hm, hx⟩
end Go.Proofs.YtgffifleflkjoaaGreat
