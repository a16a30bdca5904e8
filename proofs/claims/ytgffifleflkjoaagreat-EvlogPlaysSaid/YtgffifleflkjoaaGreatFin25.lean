/-
  Parts of a proof.
-/
import Derived.Test.YtgffifleflkjoaaGreatFin11
import Derived.Test.YtgffifleflkjoaaGreatFin14
import Derived.Test.YtgffifleflkjoaaGreatFin15
import Derived.Test.YtgffifleflkjoaaGreatFin16
import Derived.Test.YtgffifleflkjoaaGreatFin47
set_option linter.unusedSimpArgs false
set_option linter.unusedVariables false
set_option maxRecDepth 100000
set_option maxHeartbeats 16000000
namespace Go.Proofs.YtgffifleflkjoaaGreat
open _root_.Go.Proofs.Tryz
variable {w W w' w0 wr w1 W0 W1 W2 A B : World} {F G F' O : Nat → Prop} {v : Value} {l : List UInt8} {n q m pd md pl g p : Nat} {C : Array Value} {c : Int}
open Go.RowKit
theorem z8z (c : UInt8) : Wm.many c <= 8 := by unfold Wm.many; split; decide; split; decide; split <;> decide
theorem x5h (w : World) (v : Value) (F : Nat -> Prop) (c : UInt8) (l : List UInt8) (h : BytesAt w.heap F v (c :: l)) (hl : l.length <= 1000000000) (hc : Wm.many c ≠ 0) (hf : Wm.many c <= l.length) :
 Calls prog 144 #[v] w λ e w' => e = .returned (.tuple #[.int .i64 (Wm.first (c :: l)).1, .int .i64 (Wm.first (c :: l)).2]) /\ Below w w w' := by
 obtain ⟨b, o, cap, cs, t, fr, rfl, hle, hcap, hF, hrow, hcell⟩ : ∃ (b o cap : Nat) (cs : Array Value) (t : TypeId) (fr : Nat × Nat), v = .slice (some ⟨b, o, none⟩) (c :: l).length cap /\ (c :: l).length <= cap /\ cap <= 9223372036854775807 /\ F b /\ w.heap[b]? = some (.cells cs t fr) /\ ∀ i x, (c :: l)[i]? = some x -> cs[o + i]? = some (bO x) := by
  exact QW
 have k0 : w.cell? (b, o) = some (.int .u8 c.toNat) := (IM _ _ _ _ _ _ hrow).trans (hcell 0 c rfl);have hlt : b < w.heap.size := IZ k0;have k1 : ∀ ob m, ((w.alloc ob).drewN m).cell? (b, o) = some (.int .u8 c.toNat) := λ ob m => ((below_drewN (G6.alloc G7 ob) m).cell (p := ⟨b, o, none⟩) hlt).trans k0;have k2 : ∀ ob, (w.alloc ob).cell? (b, o) = some (.int .u8 c.toNat) := λ ob => ((G6.alloc G7 ob).cell (p := ⟨b, o, none⟩) hlt).trans k0;have hn : ((c :: l).length : Int) = (l.length : Int) + 1 := GZ;generalize (c :: l).length = n at *;have n0 : ¬ (n : Int) = 0 := GX;have n1 : (0 : Int) < (n : Int) := GX;have HR := hd1 hrow;have hlt' := hlt;clear hrow h;have wc : wrap64 (c.toNat : Int) = c.toNat := by have := c.toNat_lt; unfold wrap64; omega
 have FB := hd1 (λ i => x5e c l i hc hf);have FG := hd1 (CO c l hc hf);have FN := hd1 (CK c l hc hf);have NL := hd1 (λ i => Gg l i);have hc0 : ¬ (Wm.many c : Int) = 0 := GX;have hc1 : ¬ (l.length : Int) + 1 <= (Wm.many c : Int) := GX;have hk8 := z8z c;generalize hK : Wm.many c = K at *;have HK := hd1 hK;have e1 : ¬ (cap : Int) < (K : Int) + 1 := GX;have e2 : wrap64 (1 + (K : Int)) = 1 + K := by unfold wrap64; omega
 have e3 : ¬ 1 + (K : Int) < 1 := GX;have e4 : ¬ (cap : Int) = 1 := GX;have e5 : (1 : Int) <= 1 + (K : Int) := GX;have e6 : 1 + (K : Int) <= (cap : Int) := GX;clear hc hf hK;have hmm := @Ky prog;go_in
 go_wp2_with (first
  | (refine pF rfl (.tmp 10) _ _ rfl _ _ 253 _ rfl rfl rfl rfl ?_)
  | (refine pF rfl (.tmp 10) _ _ rfl _ _ 254 _ rfl rfl rfl rfl ?_)
  | (refine pF rfl (.tmp 10) _ _ rfl _ _ 255 _ rfl rfl rfl rfl ?_)
  | (refine Ef rfl (.tmp 11) (.tmp 14) rfl w.heap.size c rfl rfl (II w _) ?_; rw [HK.out]))
 go_loop [2, 6, 31] (λ x _ s => ∃ i : Nat, i <= K /\ s = .int .i64 (i : Int) /\ x = .int .i64 (wrap64 (nk l i)) /\ ∀ j, j < i -> nk l j <= 36028797018963968) (λ _ _ s => K - (intOf s).toNat)
 case atStart => exact ⟨0, GX, rfl, by rw [Gc, wrap_small GY]; rfl, λ j hj => absurd hj GX⟩
 case round =>
  obtain ⟨i, hi, rfl, rfl, hall⟩ := hrel;by_cases hlt : i < K
  ·have i0 : (0 : Int) <= (i : Int) := GX
   have i1 : (i : Int) < (K : Int) := GX;obtain ⟨x, hx⟩ : ∃ x, l[i]? = some x := ⟨_, IX GX⟩;have cx : (w.alloc (.map nN 3)).cell? ⟨b, o + 1 + i, none⟩ = some (.int .u8 x.toNat) := ((bla).cell (p := ⟨b, o + 1 + i, none⟩) hlt').trans ((IM _ _ _ _ _ _ HR.out).trans (by rw [JD]; exact hcell (1 + i) x (by rw [Nat.add_comm]; exact hx)));have x0 : (0 : Int) <= (x.toNat : Int) := GX;have x1 : (x.toNat : Int) < 256 := Hm x.toNat_lt;by_cases hbig : nk l i <= 36028797018963968
   ·have y1 : wrap64 (nk l i) = (nk l i : Int) := wrap_small (IV hbig GY)
    have y2 : ¬ (36028797018963968 : Int) < (nk l i : Int) := x9y hbig;have y3 := hd1 (x1q (nk l i) x.toNat hbig x.toNat_lt);have y4 := hd1 (tK l i x hx);have HA := hd2 hbig hall;rw [y1];clear hcell hall hbig;go_wp2;go_round
    case rel =>
     refine ⟨i + 1, GX, by go_num, by rw [y3.out, y4.out], λ j hj => ?_⟩;rcases Nat.lt_succ_iff_lt_or_eq.1 hj with h | h
     ·exact HA.2 j h
     ·rw [h]; exact HA.1
    case measure => simp [intOf]; omega
   ·have f1 := FB.out i hlt hbig
    have p1 : nk l i < 256 ^ 7 := Je (NL.out i GX) (LH GY GX);have y1 : wrap64 (nk l i) = (nk l i : Int) := wrap_small (IV (Jt p1) GY);have y2 : (36028797018963968 : Int) < (nk l i : Int) := x9x hbig;have HF := hd1 f1;rw [y1];clear hcell hall hbig f1 p1;go_wp2;go_ret2;refine ⟨by rw [HF.out]; rfl, bla⟩
  ·obtain rfl : i = K := GX
   have bA : Below w w (w.alloc (.map nN 3)) := bla;have BA := hd1 bA;clear bA hcell;by_cases ht : nk l i <= 4611686018427387904
   ·have y1 : wrap64 (nk l i) = (nk l i : Int) := wrap_small (IV ht GY)
    have y2 : ¬ (4611686018427387904 : Int) < (nk l i : Int) := z3r ht;have NC := hd1 (BO (nk l i) (w.alloc (.map nN 3)) _ G7 (.slice none 0 0) [] (mG _ _) (IY _) (z3q ht));rw [y1];by_cases hq : (Wm.aG (nk l i)).length = 1 + i
    ·have HF := hd1 (FG.out ht hq)
     have q1 : ((Wm.aG (nk l i)).length : Int) = 1 + (i : Int) := by rw [hq]; simp
     exact Pv
    ·have HF := hd1 (FN.out (IC hq))
     have q1 : ¬ ((Wm.aG (nk l i)).length : Int) = 1 + (i : Int) := by
      generalize (Wm.aG (nk l i)).length = L at hq ⊢;omega
     exact Pv
   ·have HF := hd1 (FN.out (IB ht))
    by_cases hm : nk l i <= 9223372036854775807
    ·have y1 : wrap64 (nk l i) = (nk l i : Int) := wrap_small hm
     have y2 : (4611686018427387904 : Int) < (nk l i : Int) := y5u ht;rw [y1];clear hall ht y1 hm FB FG FN NL;generalize nk l i = N at *;go_wp2;go_ret2;exact ⟨by rw [HF.out]; rfl, BA.out⟩
    ·have hi0 : i ≠ 0 := λ e => by subst e; rw [Gc] at hm; exact hm GY
     obtain ⟨j, rfl⟩ := Nat.exists_eq_succ_of_ne_zero hi0;have hx : wrap64 (nk l (j + 1)) < 0 := y3h hm (x2x l j GX (hall j (Nat.lt_succ_self j)));clear hall ht hm FB FG FN NL;generalize wrap64 (nk l (j + 1)) = X at *;have y2 : ¬ (4611686018427387904 : Int) < X := GX;have NC := hd1 (x1b X (w.alloc (.map nN 3)) hx);have q1 : ¬ (1 : Int) = 1 + ((j + 1 : Nat) : Int) := GX;go_wp2_with (go_at_call 158; refine NC.mono ?_; rintro e w1 ⟨u, v1, rfl, o1, b1, _⟩; obtain ⟨va, vc, rfl⟩ := o1.at.slice; have B1 := hd1 b1; clear b1 o1)
     go_ret2;exact ⟨by rw [HF.out]; rfl, BA.trans (B1.mono GZ)⟩
theorem z0d (w : World) (v : Value) (F : Nat -> Prop) (l : List UInt8) (h : BytesAt w.heap F v l) (hl : l.length <= 1000000000) :
 Calls prog 144 #[v] w λ e w' => e = .returned (.tuple #[.int .i64 (Wm.first l).1, .int .i64 (Wm.first l).2]) /\ Below w w w' := by
 cases l with
 | nil => exact (y0q w v F h).mono ML
 | cons c r =>
  have hr : r.length <= 1000000000 := by rw [I8] at hl; omega
  by_cases hc : Wm.many c = 0
  ·have e : Wm.first (c :: r) = (c.toNat, 1) := IE hc
   rw [e];exact x5i w v F c r h hr hc
  ·by_cases hf : r.length < Wm.many c
   ·have e : Wm.first (c :: r) = (0, 0) := by
     exact QC
    rw [e];exact x5f w v F c r h hr hc hf
   ·exact x5h w v F c r h hr hc GX
theorem zi (l : List UInt8) : ((Wm.first l).2 = 0 \/ (Wm.first l).2 = -1 \/ ∃ k : Nat, (Wm.first l).2 = k /\ 1 <= k /\ k <= 9 /\ k <= l.length) /\ (Wm.first l).1 <= 4611686018427387904 := by
 cases l with
 | nil => exact ⟨IB rfl, IY _⟩
 | cons c r =>
  by_cases hc : Wm.many c = 0
  ·have e : Wm.first (c :: r) = (c.toNat, 1) := IE hc
   rw [e];exact ⟨IC (IC ⟨1, rfl, Nat.le_refl _, GY, GZ⟩), by have := c.toNat_lt; show c.toNat <= _; omega⟩
  ·by_cases hf : r.length < Wm.many c
   ·have e : Wm.first (c :: r) = (0, 0) := by
     exact QC
    rw [e];exact ⟨IB rfl, IY _⟩
   ·rw [z0e c r hc GX]
    split
    ·exact ⟨IC (IB rfl), IY _⟩
    ·rename_i hq
     have hq := not_or.1 hq;have h1 : ¬ nk r (Wm.many c) > 4611686018427387904 := hq.1;refine ⟨IC (IC ⟨1 + Wm.many c, GZ, GX, Hm (z8z c), by rw [I8]; omega⟩), ?_⟩;show nk r (Wm.many c) <= _;exact Nat.not_lt.1 h1
def DD (w : World) (l : List UInt8) (e : Ending) (w' : World) : Prop :=
 Below w.heap.size w w' /\ match Wm.split l with
  | none => e = .returned (.tuple #[.slice none 0 0, .int .i64 0, .int .i64 (Wm.pM l)])
  | some r => ∃ v, e = .returned (.tuple #[v, .int .i64 r.2, .int .i64 0]) /\ BytesAt w'.heap (λ k => w.heap.size <= k) v r.1
theorem vH {x : Int} (hb : Below w w w') (h1 : Wm.split l = none) (h2 : Wm.pM l = x) : DD w l (.returned (.tuple #[.slice none 0 0, .int .i64 0, .int .i64 x])) w' := by
 refine ⟨hb, ?_⟩;rw [h1, h2]
theorem Ah {x : Int} (h1 : -1000000000000 <= x) (h2 : x <= 1000000000000) : wrap64 x = x := by unfold wrap64; omega
theorem z4p (h : BytesAt w.heap F v l) (hl : l.length <= 1000000000) : Calls prog 108 #[v] w (DD w l) := by
 obtain ⟨a, cap, rfl⟩ := h.slice;have FC := hd1 (z0d w _ F l h hl);obtain ⟨hk, hn⟩ := zi l
 have hs : Wm.split l = (if (Wm.first l).2 <= 0 \/ (Wm.first l).1 < 4 \/ (Wm.first l).1 > 8196 then none
  else if (l.length : Int) - (Wm.first l).2 < (Wm.first l).1 then none
  else match Wm.opened ((l.drop (Wm.first l).2.toNat).take (Wm.first l).1) with | some body => some (body, (Wm.first l).2.toNat + (Wm.first l).1) | none => none) := rfl
 have he : Wm.pM l = (if (Wm.first l).2 = 0 then 0 else if (Wm.first l).2 < 0 \/ (Wm.first l).1 < 4 \/ (Wm.first l).1 > 8196 then 141 else if (l.length : Int) - (Wm.first l).2 < (Wm.first l).1 then 0 else 130) := rfl;obtain ⟨N, hN⟩ := G8 ((Wm.first l).1);obtain ⟨K, hK⟩ := G8 ((Wm.first l).2);rw [hN, hK] at hs he FC;rw [hN] at hn;rw [hK] at hk;clear hN hK;have H := hd1 h;clear h;have hl1 : (l.length : Int) <= 1000000000 := GX;rcases hk with rfl | rfl | ⟨k, rfl, k1, k9, kl⟩
 ·rw [IE (IB GY)] at hs
  rw [IE rfl] at he;have HS := hd2 hs he;clear hs he;exact OY
 ·rw [IE (IB GY)] at hs
  rw [IA GY, IE (IB GY)] at he;have HS := hd2 hs he;clear hs he;exact OY
 ·have c0 : ¬ (k : Int) = 0 := GX
  have c1 : ¬ (k : Int) < 0 := GX;rw [IA c0] at he;by_cases hq : N < 4 \/ N > 8196
  ·rw [IE (IC hq)] at hs
   rw [IE (IC hq)] at he;have HS := hd2 hs he;clear hs he;by_cases h4 : N < 4
   ·have c2 : (N : Int) < 4 := GX
    clear hq h4;exact OY
   ·have c2 : ¬ (N : Int) < 4 := GX
    have c3 : (8196 : Int) < (N : Int) := GX;clear hq h4;exact OY
  ·obtain ⟨q1, q2⟩ := not_or.1 hq
   have c2 : ¬ (N : Int) < 4 := GX;have c3 : ¬ (8196 : Int) < (N : Int) := GX;rw [IA Nc] at hs;rw [IA Nc] at he;clear hq;by_cases hm : (l.length : Int) - (k : Int) < (N : Int)
   ·rw [IE hm] at hs
    rw [IE hm] at he;have HS := hd2 hs he;clear hs he;generalize l.length = L at *;have e1 : wrap64 ((L : Int) - (k : Int)) = (L : Int) - (k : Int) := by unfold wrap64; omega
    exact OY
   ·rw [IA hm] at hs
    rw [IA hm] at he;obtain ⟨b, o, rfl, hcap, hcap2, hbl⟩ := H.row GX;have back := H.back (n := k) kl;have hdl : (l.drop k).length = l.length - k := I9;rw [<-hdl] at back;have mid := back.front (n := N) GX;have Gj : ((l.drop k).take N).length = N := by rw [I7]; omega
    have o_ := hd1 mid;have OC := hd1 (λ (W : World) (hb : Below w w W) => x7w (o_.below hb) GX);rw [Ku] at hs;have HS := hd2 hs he;clear hs he back mid hdl Gj;generalize l.length = L at *;have e0 := Ah (x := (k : Int) + (N : Int)) GX GX;have e1 := Ah (x := (L : Int) - (k : Int)) GX GX;have e2 : ¬ (k : Int) + (N : Int) < 0 := GX;have e3 : (k : Int) <= (k : Int) + (N : Int) := GX;have e4 : (k : Int) + (N : Int) <= (cap : Int) := GX;have e5 : ¬ (cap : Int) = (k : Int) := GX;cases hop : Wm.opened ((l.drop k).take N) with
    | none =>
     have HP := hd1 hop;clear hop;go_in
     go_wp2_with (first
      | (go_at_call 144; refine FC.mono ?_; rintro e w1 ⟨rfl, b1⟩; have B1 := hd1 b1; clear b1)
      | (go_at_call 145; refine (OC.out _ B1.out).mono ?_; intro e w2 h2; unfold z2z at h2; rw [HP.out] at h2; obtain ⟨b2, rfl⟩ := h2; have B2 := hd1 b2; clear b2))
     go_ret3
     refine vH (B1.trans (B2.mono B1.size)) ?_ HS.2;rw [HS.1, HP.out]
    | some body =>
     have HP := hd1 hop;clear hop;go_in
     go_wp2_with (first
      | (go_at_call 144; refine FC.mono ?_; rintro e w1 ⟨rfl, b1⟩; have B1 := hd1 b1; clear b1)
      | (go_at_call 145; refine (OC.out _ B1.out).mono ?_; intro e w2 h2; unfold z2z at h2; rw [HP.out] at h2; obtain ⟨b2, v2, rfl, y2⟩ := h2; have B2 := hd2 b2 y2; clear b2 y2))
     go_ret3
     refine ⟨B1.trans (B2.1.mono B1.size), ?_⟩;rw [HS.1, HP.out];exact ⟨v2, GZ, B2.2.keeps (λ _ _ _ => rfl) (λ k hk _ => IV B1.size hk)⟩
open Dm
theorem aQ.flags {d : D} (x : aQ w.heap p m d F) (wN stops' : Bool) (after' : Int) (d' : D) (ed : d' = { d with dead := wN, stops := if stops' then after' else -1 }) (hok : d'.ok) (ha : stops' = true -> 0 <= after')
 (hm : Moves (λ k => k = p) w w')
 (hc : ∀ c, w.heap[p]? = some (.cells c dQ) -> w'.heap[p]? = some (.cells (((c.setIfInBounds 13 (.bool wN)).setIfInBounds 14 (.bool stops')).setIfInBounds 15 (.int .i64 after')) dQ (0, 0))) : aQ w'.heap p m d' F := by
 subst ed;have lt := x.lt;obtain ⟨ml, l0, l1, l2, l3, wv, stops, after, ⟨t0, t1, t2, t3, c1, c4, b0, b1, b2, b3, c7, c8, c9⟩, r⟩ := x.parts;have hs : ∀ k, F k -> k < w.heap.size -> w'.heap[k]? = w.heap[k]? := λ k hk hl => hm.block k hl (λ e => c8 (e ▸ hk));have hF : ∀ k, F k -> k < w.heap.size -> F k := λ _ h _ => h;refine aQ.of hok (ml := ml) (l0 := l0) (l1 := l1) (l2 := l2) (l3 := l3) (wv := wv) (stops := stops') (after := after') ?_ ?_
 ·exact ⟨t0, t1, t2, t3, (hc _ c1).trans (by simp [fZ]), c4.stays (hm.block m lt.2.1 c9), b0.keeps hs hF, b1.keeps hs hF, b2.keeps hs hF, b3.keeps hs hF, c7, c8, c9⟩
 ·have r' := r.keeps (F' := F) hs hF
  exact ⟨rfl, ha, r'.sec, r'.wI, r'.b0, r'.b1, r'.b2, r'.b3, r'.steps⟩
theorem y6t (p : Nat) (n : Int) (w : World) (h : w.cell? (p, 16) = some (.bool true)) (hn : n < 0) : Calls prog 16 #[p, .int .i64 n] w λ e w' => e = .returned (.int .i64 2) /\ w = w' := by
 go_in;go_wp2_with (go_at_call 45; refine (gW p true _ h).mono ?_; rintro e w' ⟨rfl, rfl⟩)
 exact OI
theorem y6u (p : Nat) (n : Int) (w : World) (h : w.cell? (p, 16) = some (.bool true)) (h2 : w.cell? (p, 13) = some (.bool true)) (hn : ¬ n < 0) : Calls prog 16 #[p, .int .i64 n] w λ e w' => e = .returned (.int .i64 281) /\ w = w' := by
 go_in;go_wp2_with (go_at_call 45; refine (gW p true _ h).mono ?_; rintro e w' ⟨rfl, rfl⟩)
 exact OI
theorem y6v (p : Nat) (n : Int) (u v : Value) (w : World) (h : w.cell? (p, 16) = some (.bool true)) (h2 : w.cell? (p, 13) = some (.bool false)) (hn : ¬ n < 0) (h3 : w.cell? (p, 14) = some u) (h4 : w.cell? (p, 15) = some v)
 (f1 : w.frozen? ⟨p, 14, none⟩ = false) (f2 : w.frozen? ⟨p, 15, none⟩ = false) :
 Calls prog 16 #[p, .int .i64 n] w λ e w' => e = .returned (.int .i64 0) /\ (w.setCell (p, 14) (.bool true)).setCell (p, 15) (.int .i64 n) = w' := by
 go_in;go_wp2_with (go_at_call 45; refine (gW p true _ h).mono ?_; rintro e w' ⟨rfl, rfl⟩)
 exact OI
theorem z8p {d : D} (x : aQ w.heap p m d F) : Left w p m F (d, c) (.returned (.int .i64 c)) w := wm x G6
theorem z4x {d : D} (x : aQ w.heap p m d F) (n : Int) (hn : n <= 9223372036854775807) : Calls prog 16 #[p, .int .i64 n] w (Left w p m F (d.stop n)) := by
 obtain ⟨k16, k11, k12, k13⟩ := x.lQ;by_cases h1 : n < 0
 ·have e : d.stop n = (d, 2) := by unfold D.stop; rw [IE h1]
  rw [e];refine (y6t p n w k16 h1).mono ?_;rintro e w' ⟨rfl, rfl⟩;exact z8p x
 ·cases hd : d.dead
  ·have e : d.stop n = ({ d with stops := n }, 0) := by unfold D.stop; rw [IA h1, hd]; rfl
   rw [e];rw [hd] at k13;have lt := x.lt;obtain ⟨ml, l0, l1, l2, l3, wv, stops, after, ⟨t0, t1, t2, t3, c1, _⟩, r⟩ := x.parts;refine (y6v p n (.bool stops) (.int .i64 after) w k16 k13 h1 (by rw [IM _ _ _ _ _ _ c1]; simp [fZ]) (by rw [IM _ _ _ _ _ _ c1]; simp [fZ]) (aU c1 _) (aU c1 _)).mono ?_;rintro e w' ⟨rfl, rfl⟩
   have mv : Moves (λ k => k = p) w ((w.setCell (p, 14) (.bool true)).setCell (p, 15) (.int .i64 n)) :=
    ⟨rfl, rfl, rfl, GZ, λ k hk hne => by rw [IW _ _ _ _ hne, IW _ _ _ _ hne]⟩
   have hok : ({ d with stops := n } : D).ok := by
    have h := x.ok;exact ⟨h.vY, h.many1, h.pR, h.fE, h.sec, h.tape, h.waits, by show -1 <= n; omega, hn⟩
   have y := x.flags (w' := (w.setCell (p, 14) (.bool true)).setCell (p, 15) (.int .i64 n)) false true n { d with stops := n } (by rw [<-hd]; simp) hok (λ _ => GX) mv (λ c hc => by
    have e13 : c.setIfInBounds 13 (.bool false) = c := by
     rw [c1] at hc;have : (Value.map (some m) :: t0 :: t1 :: t2 :: t3 :: fZ ml l0 l1 l2 l3 wv d.many d.room d.dead stops after).toArray = c := by simpa using hc
     rw [<-this, hd];simp [fZ]
    have y1 := IU w p 14 _ dQ (.bool true) hc;rw [e13];exact IU _ p 15 _ dQ (.int .i64 n) y1)
   refine ⟨rfl, mv.mono (λ _ => IB), y.weak (λ _ h _ => IB h) (λ h => ?_) (λ h => ?_)⟩
   ·rcases h with h | h
    ·exact lt.2.2.2.1 h
    ·omega
   ·rcases h with h | h
    ·exact lt.2.2.2.2 h
    ·omega
  ·have e : d.stop n = (d, 281) := by unfold D.stop; rw [IA h1, hd]; rfl
   rw [e];rw [hd] at k13;refine (y6u p n w k16 k13 h1).mono ?_;rintro e w' ⟨rfl, rfl⟩;exact z8p x
namespace Em
open Go.Maps Cm
def many (n : Nat) : List ay := List.replicate n ⟨[97], [120], false⟩
theorem x0l {c : ay} (h1 : c.wrong = false) (h2 : c.long = false) (rest : Bytes) : kL (laid c ++ rest) = some (c, rest) := by
 obtain ⟨k1, k2⟩ := z2p h1;obtain ⟨k3, k4⟩ := v_ h2;obtain ⟨k, v, g⟩ := c;unfold kL laid;rw [I5, I5, Wm.y7d];simp only;rw [Wm.AV (show k.length <= 64 from k3) GY];simp only;cases g
 ·simp only [KJ, JS]
  rw [Wm.AV (show v.length <= 4096 from k4) GY]
 ·simp only [I6, Jj]
  have : v = [] := k2 rfl;rw [this]
theorem z6d : ∀ (l : List ay), (∀ c ∈ l, c.wrong = false /\ c.long = false) -> ∀ rest : Bytes, eZ l.length (l.flatMap laid ++ rest) = some (l, rest)
 | [], _, rest => rfl
 | c :: l, h, rest => by
  obtain ⟨h1, h2⟩ := h c (Jp ..);rw [I8, eZ, Ke, I5, x0l h1 h2];simp only;rw [z6d l (λ x hx => h x (Jz _ hx))];rfl
theorem x0c {l : List ay} (h : right l = 0) : iJ (dU l) = some l := by
 obtain ⟨h1, h2⟩ := pU h;unfold iJ dU;rw [I5, Wm.sZ GY GY];simp only;rw [IA GY, Wm.sZ h1 GY];simp only;have := z6d l h2 [];rw [JA] at this;rw [this];simp
def oC (k v : Bytes) : Bytes := Wm.aG 2 ++ Wm.cB k ++ Wm.cB v
theorem Bc {k v : Bytes} (h1 : k.length <= 64) (h2 : v.length <= 4096) : (oC k v).length <= 8192 := by
 have k1 := jg k;have k2 := jg v;have k3 := (gY 2).1;unfold oC;rw [IQ, IQ];omega
theorem z5o {last k v : Bytes} (h1 : k.length <= 64) (h2 : v.length <= 4096) (hl : ¬ k <= last) : jl last (oC k v) = some (k, v) := by
 unfold jl oC;rw [I5, Wm.sZ GY GY];simp only;rw [IA GY, Wm.AV h1 GY];simp only;have := Wm.AV h2 GY [];rw [JA] at this;rw [this];simp only;rw [IE ⟨trivial, hl⟩]
def kR (g n : Nat) : Bytes := Wm.aG 1 ++ Wm.aG g ++ Wm.aG n
theorem Cn (g n : Nat) : (kR g n).length <= 8192 := by
 have k1 := (gY 1).1;have k2 := (gY g).1;have k3 := (gY n).1;unfold kR;rw [IQ, IQ];omega
theorem z5b (h0 : 0 < g) (h1 : g <= 2147483647) (h2 : n <= 256) : fI (kR g n) = some (g, n) := by
 unfold fI kR;rw [I5, Wm.sZ GY GY];simp only;rw [IA GY, Wm.sZ h1 GY];simp only;have := Wm.sZ h2 GY [];rw [JA] at this;rw [this];simp only;rw [IE ⟨trivial, h0⟩]
def puts (v : Bytes -> Bytes) (D : Rows) (ks : List Bytes) : Rows := ks.foldl (λ D k => D.put (.string k) (.lit (.string (v k)))) D
def kQ (v : Bytes -> Bytes) (ks : List Bytes) : Bytes := ks.flatMap λ k => Wm.frame (oC k (v k))
theorem Ca (v : Bytes -> Bytes) (k : Bytes) (ks : List Bytes) : kQ v (k :: ks) = Wm.frame (oC k (v k)) ++ kQ v ks := rfl
def xh (v : Bytes -> Bytes) (last : Bytes) (ks : List Bytes) : Prop := (∀ k ∈ ks, k.length <= 64 /\ (v k).length <= 4096 /\ ¬ k <= last) /\ ks.Pairwise (λ a b => ¬ b <= a)
theorem xh.tail {v : Bytes -> Bytes} {last k : Bytes} {ks : List Bytes} (h : xh v last (k :: ks)) : xh v k ks := by
 obtain ⟨h1, h2⟩ := h;obtain ⟨h3, h4⟩ := LZ.1 h2;exact ⟨λ x hx => ⟨(h1 x (Jz _ hx)).1, (h1 x (Jz _ hx)).2.1, h3 x hx⟩, h4⟩
theorem z5r {L rest : Bytes} {v : Bytes -> Bytes} : ∀ (ks : List Bytes) {last : Bytes} {fin : Nat} {D : Rows}, xh v last ks -> L.drop fin = kQ v ks ++ rest -> dS L ks.length fin last D = some (puts v D ks, fin + (kQ v ks).length)
 | [], last, fin, D, _, _ => rfl
 | k :: ks, last, fin, D, h, hd => by
  obtain ⟨k1, k2, k3⟩ := h.1 k (Jp ..);rw [Ca, I5] at hd;rw [I8, dS, hd, Wm.yh (Bc k1 k2)];simp only;rw [z5o k1 k2 k3];simp only;have hd' : L.drop (fin + (Wm.frame (oC k (v k))).length) = kQ v ks ++ rest := by
   rw [<-List.drop_drop, hd];simp
  rw [z5r ks h.tail hd', Ca, IQ, JD];rfl
theorem z5u {L : Bytes} {v : Bytes -> Bytes} : ∀ (ks : List Bytes) {last : Bytes} {fin n : Nat} {D : Rows}, xh v last ks -> n < (kQ v ks).length -> L.drop fin = (kQ v ks).take n -> dS L ks.length fin last D = none
 | [], _, _, n, _, _, hn, _ => absurd hn (Nat.not_lt_zero _)
 | k :: ks, last, fin, n, D, h, hn, hd => by
  obtain ⟨k1, k2, k3⟩ := h.1 k (Jp ..);rw [Ca] at hd hn;rw [IQ] at hn;by_cases hc : n < (Wm.frame (oC k (v k))).length
  ·rw [Kq GX] at hd
   rw [I8, dS, hd, Wm.ER (Bc k1 k2) hc]
  ·rw [List.take_append, Jh GX] at hd
   rw [I8, dS, hd, Wm.yh (Bc k1 k2)];simp only;rw [z5o k1 k2 k3];simp only;have hd' : L.drop (fin + (Wm.frame (oC k (v k))).length) = (kQ v ks).take (n - (Wm.frame (oC k (v k))).length) := by
    rw [<-List.drop_drop, hd];simp
   exact z5u ks h.tail GX hd'
theorem z9r {v : Bytes -> Bytes} : ∀ (ks : List Bytes) {D : Rows}, Tidy D -> ∀ k : Bytes, has (puts v D ks) (.string k) = (decide (k ∈ ks) || has D (.string k))
 | [], D, _, k => by simp [puts]
 | a :: ks, D, ht, k => by
  have h' : Tidy (D.put (.string a) (.lit (.string (v a)))) := ht.put (show WideAt.IsKeyLit (.string a) from trivial) _;show has (puts v (D.put (.string a) (.lit (.string (v a)))) ks) (.string k) = _;rw [z9r ks h'];by_cases e : k = a
  ·subst e
   rw [has_put_same ht.isMap (show WideAt.IsKeyLit (.string k) from trivial)];simp
  ·rw [has_put_other (λ h => e (by cases h; rfl))]
   simp [e]
theorem z3u {v : Bytes -> Bytes} : ∀ (ks : List Bytes) {D : Rows}, Tidy D -> ∀ k : Bytes, valueOf (puts v D ks) k = if k ∈ ks then v k else valueOf D k
 | [], D, _, k => by simp [puts]
 | a :: ks, D, ht, k => by
  have h' : Tidy (D.put (.string a) (.lit (.string (v a)))) := ht.put (show WideAt.IsKeyLit (.string a) from trivial) _;show valueOf (puts v (D.put (.string a) (.lit (.string (v a)))) ks) k = _;rw [z3u ks h'];by_cases e : k = a
  ·subst e
   have e1 : valueOf (D.put (.string k) (.lit (.string (v k)))) k = v k := by unfold valueOf; rw [atKey_put_same ht.isMap (show WideAt.IsKeyLit (.string k) from trivial)]
   rw [e1];simp
  ·have hk' : (Lit.string k) ≠ .string a := λ h => e (by cases h; rfl)
   have e1 : valueOf (D.put (.string a) (.lit (.string (v a)))) k = valueOf D k := by unfold valueOf; rw [atKey_put_other hk']
   rw [e1];simp [e]
theorem z7y {v : Bytes -> Bytes} : ∀ (ks : List Bytes) {D : Rows}, bI D -> Tidy D -> (∀ k ∈ ks, k ≠ [] /\ k.length <= 64 /\ (v k).length <= 4096) -> bI (puts v D ks) /\ Tidy (puts v D ks)
 | [], D, h, ht, _ => ⟨h, ht⟩
 | a :: ks, D, h, ht, hk => by
  obtain ⟨k1, k2, k3⟩ := hk a (Jp ..);have e : one D ⟨a, v a, false⟩ = D.put (.string a) (.lit (.string (v a))) := by unfold one; rw [IA GZ]
  have r1 : bI (D.put (.string a) (.lit (.string (v a)))) := by
   rw [<-e];refine vO h ?_ ?_
   ·cases a with
    | nil => exact absurd rfl k1
    | cons b a => rfl
   ·unfold ay.long
    simp;omega
  exact z7y ks r1 (ht.put (show WideAt.IsKeyLit (.string a) from trivial) _) (λ k h => hk k (Jz _ h))
def again (D : Rows) : Rows := puts (valueOf D) (.map []) (cO D)
theorem y2w {D : Rows} (h : bI D) : bI (again D) /\ Tidy (again D) :=
 z7y _ oz tidy_empty (λ k hk => ⟨(sO h hk).1, (sO h hk).2, vC h k⟩)
theorem Aq {D : Rows} (h : bI D) (ht : Tidy D) : tell (again D) = tell D := by
 obtain ⟨a1, a2⟩ := y2w h;refine z3d (xR a1 a2) (xR h ht) (λ x => ?_);rw [yI a1, yI h];unfold again;rw [z9r _ tidy_empty, z3u _ tidy_empty];have h0 : has (.map [] : Rows) (.string x.1) = false := rfl;rw [h0, Bool.or_false, Kg, <-AJ h];constructor
 ·rintro ⟨k1, k2⟩
  rw [IE k1] at k2;exact ⟨k1, k2⟩
 ·rintro ⟨k1, k2⟩
  rw [IE k1];exact ⟨k1, k2⟩
theorem z5c {D : Rows} (h : bI D) (ht : Tidy D) : xh (valueOf D) [] (cO D) := by
 refine ⟨λ k hk => ⟨(sO h hk).2, vC h k, λ hl => (sO h hk).1 (KW hl (List.nil_le _))⟩, ?_⟩;have hs := xR h ht;unfold oQ tell at hs;rw [List.pairwise_map] at hs;exact hs.imp (λ hab hba => hab.2 (KW hab.1 hba))
theorem z0k {D : Rows} (g : Nat) (h : bI D) : folded g D = Wm.frame (kR g (size D)) ++ kQ (valueOf D) (cO D) := by
 have e1 : fO (Wm.aG 1 ++ Wm.aG g ++ Wm.aG (size D)) = Wm.frame (kR g (size D)) := uj (Cn g (size D));have e2 : (cO D).flatMap (rowOf D) = kQ (valueOf D) (cO D) := by
  have : ∀ ks : List Bytes, (∀ k ∈ ks, k.length <= 64) -> ks.flatMap (rowOf D) = kQ (valueOf D) ks := by
   intro ks;induction ks with
   | nil => exact λ _ => rfl
   | cons k ks ih =>
    intro hk;rw [Ke, Ca, ih (λ x hx => hk x (Jz _ hx))];congr 1
    exact uj (Bc (hk k (Jp ..)) (vC h k))
  exact this _ (λ k hk => (sO h hk).2)
 unfold folded;rw [e1, e2]
theorem x0g {D : Rows} (h : bI D) (ht : Tidy D) (hs : size D <= 256) (h0 : 0 < g) (h1 : g <= 2147483647) (rest : Bytes) : fe (folded g D ++ rest) = some (g, again D, (folded g D).length) := by
 rw [z0k g h];unfold fe;rw [I5, Wm.yh (Cn g (size D))];simp only;rw [z5b h0 h1 hs];simp only;have := z5r (L := Wm.frame (kR g (size D)) ++ (kQ (valueOf D) (cO D) ++ rest)) (rest := rest) (cO D) (fin := (Wm.frame (kR g (size D))).length) (D := .map []) (z5c h ht) GZ;rw [sP] at this;rw [this, IQ];rfl
theorem x0i {D : Rows} (h : bI D) (ht : Tidy D) (hs : size D <= 256) (h0 : 0 < g) (h1 : g <= 2147483647) (hn : n < (folded g D).length) : fe ((folded g D).take n) = none := by
 rw [z0k g h] at hn ⊢;rw [IQ] at hn;unfold fe;by_cases hc : n < (Wm.frame (kR g (size D))).length
 ·rw [Kq GX, Wm.ER (Cn g (size D)) hc]
 ·rw [List.take_append, Jh GX, Wm.yh (Cn g (size D))]
  simp only;rw [z5b h0 h1 hs];simp only;have := z5u (L := Wm.frame (kR g (size D)) ++ (kQ (valueOf D) (cO D)).take (n - (Wm.frame (kR g (size D))).length)) (cO D) (fin := (Wm.frame (kR g (size D))).length) (n := n - (Wm.frame (kR g (size D))).length) (D := .map []) (z5c h ht) GX GZ;rw [sP] at this;rw [this];rfl
end Em
abbrev fD (t : Nat) (b : List UInt8) : Step := ⟨2, t, 0, b⟩
abbrev jk (t : Nat) : Step := ⟨3, t, 0, []⟩
theorem uy (c : bH) (n i : Nat) (s : Step) (x : St) (u : Int) (h : u ≠ s.n) : (eG c n i s x).tp u = x.tp u := by
 unfold eG;split
 ·exact z7r _ _ _ _ h
 ·split
  ·exact C_ _ _ _ h
  ·rfl
theorem z1s (c : bH) (n i : Nat) (t : Nat) (b : List UInt8) (x : St) : ∃ k, (eG c n i (fD t b) x).tp t = x.tp t ++ b.take k := by
 unfold eG;split
 ·refine ⟨(pick c.part (b.length + 1)).toNat, ?_⟩
  simp [St.part, St.done, upd]
 ·split
  ·exact ⟨b.length, by simp [St.done, upd]⟩
  ·exact ⟨0, GZ⟩
theorem z1t (c : bH) (n i : Nat) (t : Nat) (x : St) : (eG c n i (jk t) x).tp t = if (c.dz n i || !c.kept i) = true then x.tp t else [] := by
 unfold eG;cases h1 : c.dz n i
 ·cases h2 : c.kept i
  ·simp
  ·simp [St.done, upd]
 ·simp [St.part]
theorem zy (d : D) (c : bH) : (d.aT c).stand = eQ c d.waits.length d.waits 0 d.lasts (λ _ => false) := rfl
theorem x7u {d : D} (h : d.waits = []) (c : bH) : (d.aT c).stand = d.lasts := by rw [zy, h]; rfl
theorem x7p {d : D} {o : Nat} (h : d.waits = [jk o]) (c : bH) : (∀ u : Int, u ≠ o -> (d.aT c).stand.tp u = d.lasts.tp u) /\ ((d.aT c).stand.tp o = d.lasts.tp o \/ (d.aT c).stand.tp o = []) := by
 rw [zy, h, ql _ _ _ _ _ _ _ GZ, eQ];refine ⟨λ u hu => uy _ _ _ _ _ _ hu, ?_⟩;rw [z1t];split
 ·exact IB rfl
 ·exact IC rfl
theorem y1w {d : D} {t : Nat} {b : List UInt8} (h : d.waits = [fD t b]) (c : bH) : (∀ u : Int, u ≠ t -> (d.aT c).stand.tp u = d.lasts.tp u) /\ ∃ k, (d.aT c).stand.tp t = d.lasts.tp t ++ b.take k := by
 rw [zy, h, ql _ _ _ _ _ _ _ GZ, eQ];exact ⟨λ u hu => uy _ _ _ _ _ _ hu, z1s _ _ _ _ _ _⟩
theorem x7q {d : D} {t o : Nat} {b : List UInt8} (hto : t ≠ o) (h : d.waits = [jk o, fD t b]) (c : bH) :
 ((d.aT c).stand.tp o = d.lasts.tp o \/ (d.aT c).stand.tp o = []) /\ ∃ k, (d.aT c).stand.tp t = d.lasts.tp t ++ b.take k := by
 have ht : (t : Int) ≠ o := GX;have h2 : ¬ ((fD t b).what ≠ 1 /\ f_ c 2 0 (jk o) (λ _ => false) (fD t b).n = true) := by
  rintro ⟨_, h⟩;have : f_ c 2 0 (jk o) (λ _ => false) (t : Int) = false := by
   unfold f_;rw [IE (show (3 : Int) ≠ 1 by decide), sJ _ _ _ _ ht]
  rw [this] at h;cases h
 rw [zy, h, ql _ _ _ _ _ _ _ GZ];show (_ \/ _) /\ _;rw [show ([jk o, fD t b] : List Step).length = 2 from rfl, ql _ _ _ _ _ _ _ h2, eQ];refine ⟨?_, ?_⟩
 ·rw [uy _ _ _ _ _ _ (show (o : Int) ≠ (fD t b).n from λ e => ht e.symm), z1t]
  split
  ·exact IB rfl
  ·exact IC rfl
 ·obtain ⟨k, hk⟩ := z1s c 2 (0 + 1) t b (eG c 2 0 (jk o) d.lasts)
  exact ⟨k, by rw [hk, uy _ _ _ _ _ _ (show (t : Int) ≠ (jk o).n from ht)]⟩
theorem x7r {d : D} {o : Nat} {b : List UInt8} (h : d.waits = [jk o, fD o b]) (c : bH) :
 (∀ u : Int, u ≠ o -> (d.aT c).stand.tp u = d.lasts.tp u) /\ ((d.aT c).stand.tp o = d.lasts.tp o \/ ∃ k, (d.aT c).stand.tp o = b.take k) := by
 rw [zy, h, ql _ _ _ _ _ _ _ GZ, show ([jk o, fD o b] : List Step).length = 2 from rfl];have he : f_ c 2 0 (jk o) (λ _ => false) (o : Int) = (c.dz 2 0 || !c.kept 0) := by
  unfold f_;rw [IE (show (3 : Int) ≠ 1 by decide), upd_same]
 have hx := z1t c 2 0 o d.lasts;by_cases hd : (c.dz 2 0 || !c.kept 0) = true
 ·rw [Df _ _ _ _ _ _ _ ⟨show (2 : Int) ≠ 1 by decide, he.trans hd⟩, eQ]
  refine ⟨λ u hu => uy _ _ _ _ _ _ hu, IB ?_⟩;rw [hx, IE hd]
 ·rw [ql _ _ _ _ _ _ _ (λ hh => hd (he.symm.trans hh.2)), eQ]
  refine ⟨λ u hu => ?_, IC ?_⟩
  ·rw [uy _ _ _ _ _ _ hu, uy _ _ _ _ _ _ hu]
  ·obtain ⟨k, hk⟩ := z1s c 2 (0 + 1) o b (eG c 2 0 (jk o) d.lasts)
   exact ⟨k, by rw [hk, hx, IA hd, Jj]⟩
theorem z9f {d : D} (h : d.dead = false) : (∃ s, d.goes = ({ d with stops := s }, 0)) \/ ∃ s, d.goes = ({ d with dead := true, stops := s }, 281) := by
 have hd : ¬ d.dead = true := by rw [h]; decide
 unfold D.goes;rw [IA hd];by_cases h0 : d.stops = 0
 ·rw [IE h0]; exact IC ⟨_, rfl⟩
 ·rw [IA h0]
  by_cases h1 : d.stops > 0
  ·rw [IE h1]; exact IB ⟨_, rfl⟩
  ·rw [IA h1]
   exact IB ⟨d.stops, rfl⟩
theorem EK {d : D} (h : d.dead = false) (st : Step) : (∃ s, d.step st = ({ d with stops := s, waits := d.waits ++ [st] }, 0)) \/ ∃ s, d.step st = ({ d with dead := true, stops := s }, 281) := by
 unfold D.step;exact QZ
theorem Dv {d : D} (h : d.dead = false) {t : Nat} (ht : t <= 1) (b : List UInt8) : d.append t b = (d, 280) \/ (∃ s, d.append t b = ({ d with stops := s, waits := d.waits ++ [fD t b] }, 0)) \/ ∃ s, d.append t b = ({ d with dead := true, stops := s }, 281) := by
 unfold D.append;rw [IA GX];by_cases hf : d.stand.used + b.length > d.room
 ·rw [IE hf]; exact IB rfl
 ·rw [IA hf]; exact IC (EK h _)
theorem y0d {d : D} (h : d.dead = false) {t : Nat} (ht : t <= 1) : (∃ s, d.cut t 0 = ({ d with stops := s, waits := d.waits ++ [jk t] }, 0)) \/ ∃ s, d.cut t 0 = ({ d with dead := true, stops := s }, 281) := by
 unfold D.cut;rw [IA GX];exact EK h _
theorem xZ {d : D} (h : d.dead = false) : (∃ s, d.sync = ({ d with stops := s, lasts := d.stand, waits := [] }, 0)) \/ ∃ s, d.sync = ({ d with dead := true, stops := s }, 281) := by
 unfold D.sync;exact QZ
def pq (o : Nat) (d : D) : Prop := d.waits = [] \/ d.waits = [jk o]
theorem y3n {d : D} {t o : Nat} (h : d.dead = false) (ht : t <= 1) (hto : t ≠ o) (hw : pq o d) (b : List UInt8) :
 Em.wrote d t b = (d, 280) ∨
 ((Em.wrote d t b).2 = 281 /\ (Em.wrote d t b).1.lasts = d.lasts /\ pq o (Em.wrote d t b).1) ∨
 ((Em.wrote d t b).2 = 281 /\ (Em.wrote d t b).1.lasts = d.lasts /\ ((Em.wrote d t b).1.waits = [fD t b] \/ (Em.wrote d t b).1.waits = [jk o, fD t b])) ∨
 ((Em.wrote d t b).2 = 0 /\ (Em.wrote d t b).1.dead = false /\ (Em.wrote d t b).1.waits = [] /\ (Em.wrote d t b).1.lasts.tp t = d.lasts.tp t ++ b /\ ((Em.wrote d t b).1.lasts.tp o = d.lasts.tp o \/ (Em.wrote d t b).1.lasts.tp o = [])) := by
 have hne : (o : Int) ≠ t := GX;have hne' : (t : Int) ≠ o := GX;unfold Em.wrote Em.next;rcases Dv h ht b with e | ⟨s, e⟩ | ⟨s, e⟩
 ·rw [e]
  exact IB (IA (show ¬ (280 : Int) = 0 by decide))
 ·rw [e]
  simp only [I6];have hd : ({ d with stops := s, waits := d.waits ++ [fD t b] } : D).dead = false := h;rcases xZ hd with ⟨s', e'⟩ | ⟨s', e'⟩
  ·rw [e']
   refine IC (IC (IC ⟨rfl, h, rfl, ?_, ?_⟩))
   ·show ((d.waits ++ [fD t b]).foldl St.done d.lasts).tp t = _
    rcases hw with hw | hw
    ·rw [hw]; simp [St.done, upd]
    ·exact Rw
   ·show ((d.waits ++ [fD t b]).foldl St.done d.lasts).tp o = _ \/ ((d.waits ++ [fD t b]).foldl St.done d.lasts).tp o = _
    rcases hw with hw | hw
    ·rw [hw]; left; simp [St.done, upd, hne]
    ·rw [hw]; right; simp [St.done, upd, hne]
  ·rw [e']
   refine IC (IC (IB ⟨rfl, rfl, ?_⟩));show d.waits ++ [fD t b] = _ \/ d.waits ++ [fD t b] = _;rcases hw with hw | hw
   ·rw [hw]; exact IB rfl
   ·rw [hw]; exact IC rfl
 ·rw [e]
  refine IC (IB ?_);rw [IA (show ¬ (281 : Int) = 0 by decide)];exact ⟨rfl, rfl, hw⟩
theorem x6v {d : D} {o : Nat} (h : d.dead = false) (ho : o <= 1) (hw : pq o d) :
 ((Em.bZ d o).2 = 281 /\ (Em.bZ d o).1.lasts = d.lasts /\ pq o (Em.bZ d o).1) ∨
 ((Em.bZ d o).2 = 0 /\ (Em.bZ d o).1.lasts = d.lasts /\ (Em.bZ d o).1.dead = false /\ (((Em.bZ d o).1.waits = [] /\ d.lasts.tp o = []) \/ (Em.bZ d o).1.waits = [jk o])) := by
 unfold Em.bZ;by_cases hl : (d.stand.tp o).length = 0
 ·rw [IE hl]
  refine IC ⟨rfl, rfl, h, ?_⟩;rcases hw with hw | hw
  ·refine IB ⟨hw, ?_⟩
   unfold D.stand at hl;rw [hw] at hl;exact JZ hl
  ·exact IC hw
 ·rw [IA hl]
  have hw : d.waits = [] := by
   rcases hw with hw | hw
   ·exact hw
   ·exfalso
    apply hl
    unfold D.stand;rw [hw];simp [St.done, upd]
  rcases y0d h ho with ⟨s, e⟩ | ⟨s, e⟩
  ·rw [e]
   exact IC ⟨rfl, rfl, h, IC (by show d.waits ++ _ = _; rw [hw]; rfl)⟩
  ·rw [e]
   exact IB ⟨rfl, rfl, IB hw⟩
theorem z6t {d : D} {t o : Nat} (h : d.dead = false) (ho : o <= 1) (hto : t ≠ o) (hw : pq o d) (b : List UInt8) :
 ((Em.bK d o b).2 = 280 /\ (Em.bK d o b).1.dead = false /\ (Em.bK d o b).1.lasts = d.lasts /\ pq o (Em.bK d o b).1) ∨
 ((Em.bK d o b).2 = 281 /\ (Em.bK d o b).1.lasts = d.lasts /\ pq o (Em.bK d o b).1) ∨
 ((Em.bK d o b).2 = 281 /\ (Em.bK d o b).1.lasts = d.lasts /\ (((Em.bK d o b).1.waits = [fD o b] /\ d.lasts.tp o = []) \/ (Em.bK d o b).1.waits = [jk o, fD o b])) ∨
 ((Em.bK d o b).2 = 0 /\ (Em.bK d o b).1.dead = false /\ (Em.bK d o b).1.waits = [] /\ (Em.bK d o b).1.lasts.tp t = d.lasts.tp t /\ (Em.bK d o b).1.lasts.tp o = b) := by
 have hne : (o : Int) ≠ t := GX;have hne' : (t : Int) ≠ o := GX;unfold Em.bK;rcases x6v h ho hw with ⟨e1, e2, e3⟩ | ⟨e1, e2, e3, e4⟩
 ·refine IC (IB ?_)
  have hn : Em.next (Em.bZ d o) (λ d => d.append o b) = Em.bZ d o := IA (by rw [e1]; decide);have hn2 : Em.next (Em.bZ d o) D.sync = Em.bZ d o := IA (by rw [e1]; decide);rw [hn, hn2];exact ⟨e1, e2, e3⟩
 ·generalize Em.bZ d o = r at e1 e2 e3 e4
  obtain ⟨d1, er⟩ := r;simp only at e1 e2 e3 e4;subst e1;have hn : Em.next (d1, 0) (λ d => d.append o b) = d1.append o b := IE rfl;rw [hn];have c1 : pq o d1 := e4.imp (λ h => h.1) id;rcases Dv e3 ho b with e | ⟨s, e⟩ | ⟨s, e⟩
  ·rw [e]
   refine IB ?_;have hn : Em.next (d1, 280) D.sync = (d1, 280) := IA (show ¬ (280 : Int) = 0 by decide);rw [hn];exact ⟨rfl, e3, e2, c1⟩
  ·rw [e]
   have hn : Em.next (({ d1 with stops := s, waits := d1.waits ++ [fD o b] } : D), 0) D.sync = ({ d1 with stops := s, waits := d1.waits ++ [fD o b] } : D).sync := IE rfl;rw [hn];have hd : ({ d1 with stops := s, waits := d1.waits ++ [fD o b] } : D).dead = false := e3;rcases xZ hd with ⟨s', e'⟩ | ⟨s', e'⟩
   ·rw [e']
    refine IC (IC (IC ⟨rfl, e3, rfl, ?_, ?_⟩))
    ·show ((d1.waits ++ [fD o b]).foldl St.done d1.lasts).tp t = _
     rw [e2];rcases e4 with ⟨hw, _⟩ | hw
     ·exact Rw
     ·exact Rw
    ·show ((d1.waits ++ [fD o b]).foldl St.done d1.lasts).tp o = _
     rw [e2];rcases e4 with ⟨hw, hl⟩ | hw
     ·rw [hw]; simp [St.done, upd, hl]
     ·rw [hw]; simp [St.done, upd]
   ·rw [e']
    refine IC (IC (IB ⟨rfl, e2, ?_⟩));show (d1.waits ++ [fD o b] = _ /\ _) \/ d1.waits ++ [fD o b] = _;rcases e4 with ⟨hw, hl⟩ | hw
    ·rw [hw]; exact IB ⟨rfl, hl⟩
    ·rw [hw]; exact IC rfl
  ·rw [e]
   refine IC (IB ?_);have hn : Em.next (({ d1 with dead := true, stops := s } : D), 281) D.sync = (({ d1 with dead := true, stops := s } : D), 281) := IA (show ¬ (281 : Int) = 0 by decide);rw [hn];exact ⟨rfl, e2, c1⟩
end Go.Proofs.YtgffifleflkjoaaGreat
