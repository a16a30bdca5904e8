/-
  Parts of a proof.
-/
import Derived.Test.YtgffifleflkjoaaGreatFin16
set_option linter.unusedSimpArgs false
set_option linter.unusedVariables false
set_option maxRecDepth 100000
set_option maxHeartbeats 16000000
namespace Go.Proofs.YtgffifleflkjoaaGreat
open _root_.Go.Proofs.Tryz
variable {w W w' w0 wr w1 W0 W1 W2 A B : World} {F G F' O : Nat → Prop} {v : Value} {l : List UInt8} {n q m pd md pl g p : Nat} {C : Array Value} {c : Int}
open Go.RowKit
theorem y0q (w : World) (v : Value) (F : Nat -> Prop) (h : BytesAt w.heap F v []) :
 Calls prog 144 #[v] w λ e w' => e = .returned (.tuple #[.int .i64 0, .int .i64 0]) /\ w = w' := by
 exact Rh
abbrev ny : Array MapEntry := #[⟨.int .u8 253, .int .i64 2, 0⟩, ⟨.int .u8 254, .int .i64 4, 1⟩, ⟨.int .u8 255, .int .i64 8, 2⟩]
theorem oU {ops : Array Oper} {rest : List Oper} {o : Oper} {a : Act} {Q : Exit -> Act -> World -> Prop} (hgd : o.guard = none) (m x v : Operand) (ho : o.op = .insert 243 m x v) (es : Array MapEntry) (k : Nat) (n : Int) (u : Value)
 (hm : a.eval m = .map (some w.heap.size)) (hx : a.eval x = .int .u8 n) (hv : a.eval v = u) (hf : Instr.findNow (.int .u8) (.int .u8 n) es.toList 0 = some none)
 (h : wpList prog ops Q rest (a.put o.dst undef) (w.alloc (.map (es.push ⟨.int .u8 n, u, k⟩) (k + 1)))) : wpList prog ops Q (o :: rest) a (w.alloc (.map es k)) :=
 IE hgd λ K hK => by
  have hrun := y7o (P := prog) (w := w.alloc (.map es k)) 243 5 3 (.int .u8) w.heap.size es k (.int .u8 n) u Io Ig rfl (IC w _) hf;rw [x0d _ _ _ _ rfl] at hrun;unfold Oper.wp execOp;simp only [ho, hm, hx, hv, JE, hrun, JF, JS];exact hK _ _ h
theorem x2h (w : World) (m : Nat) (h : w.heap[m]? = some (.map ny 3)) (c : UInt8) : (Instr.lookup 243 (.map (some m)) (.int .u8 c.toNat) false).run prog w = .ok (.int .i64 (Wm.many c)) w := by
 by_cases h1 : c = 253
 ·subst h1
  exact Az 243 5 3 (.int .u8) m ny 3 _ (.int .i64 0) false (some (0, .int .i64 2)) Io Ig rfl h rfl GQ
 ·by_cases h2 : c = 254
  ·subst h2
   exact Az 243 5 3 (.int .u8) m ny 3 _ (.int .i64 0) false (some (1, .int .i64 4)) Io Ig rfl h rfl GQ
  ·by_cases h3 : c = 255
   ·subst h3
    exact Az 243 5 3 (.int .u8) m ny 3 _ (.int .i64 0) false (some (2, .int .i64 8)) Io Ig rfl h rfl GQ
   ·have k1 : ¬ c.toNat = 253 := λ e => h1 (J7.1 e)
    have k2 : ¬ c.toNat = 254 := λ e => h2 (J7.1 e);have k3 : ¬ c.toNat = 255 := λ e => h3 (J7.1 e);have i1 : ((c.toNat : Int) == 253) = false := by rw [J2]; omega
    have i2 : ((c.toNat : Int) == 254) = false := by rw [J2]; omega
    have i3 : ((c.toNat : Int) == 255) = false := by rw [J2]; omega
    have hm : Wm.many c = 0 := by unfold Wm.many; rw [Iw h1, Iw h2, Iw h3]
    rw [hm];refine Az 243 5 3 (.int .u8) m ny 3 _ (.int .i64 0) false none Io Ig rfl h ?_ GQ;simp only [ny, Instr.findNow, Instr.sameNow, i1, i2, i3, I1]
theorem Eh {ops : Array Oper} {rest : List Oper} {o : Oper} {a : Act} {Q : Exit -> Act -> World -> Prop} (hgd : o.guard = none) (m x : Operand) (ho : o.op = .lookup 243 m x false) (b : Nat) (c : UInt8)
 (hm : a.eval m = .map (some b)) (hx : a.eval x = .int .u8 c.toNat) (hb : w.heap[b]? = some (.map ny 3))
 (h : wpList prog ops Q rest (a.put o.dst (.int .i64 (Wm.many c))) w) : wpList prog ops Q (o :: rest) a w :=
 IE hgd λ K hK => by
  have hrun := x2h w b hb c;unfold Oper.wp execOp;simp only [ho, hm, hx, JE, hrun, JF, JS];exact hK _ _ h
theorem x5i (w : World) (v : Value) (F : Nat -> Prop) (c : UInt8) (l : List UInt8) (h : BytesAt w.heap F v (c :: l)) (hl : l.length <= 1000000000) (hc : Wm.many c = 0) :
 Calls prog 144 #[v] w λ e w' => e = .returned (.tuple #[.int .i64 c.toNat, .int .i64 1]) /\ Below w w w' := by
 obtain ⟨b, o, cap, cs, t, fr, rfl, hle, hcap, hF, hrow, hcell⟩ : ∃ (b o cap : Nat) (cs : Array Value) (t : TypeId) (fr : Nat × Nat), v = .slice (some ⟨b, o, none⟩) (c :: l).length cap /\ (c :: l).length <= cap /\ cap <= 9223372036854775807 /\ F b /\ w.heap[b]? = some (.cells cs t fr) /\ ∀ i x, (c :: l)[i]? = some x -> cs[o + i]? = some (bL x) := by
  exact QP
 have k0 : w.cell? (b, o) = some (.int .u8 c.toNat) := (IJ _ _ _ _ _ _ hrow).trans (hcell 0 c rfl);have hlt : b < w.heap.size := IX k0;have k1 : ∀ ob m, ((w.alloc ob).drewN m).cell? (b, o) = some (.int .u8 c.toNat) := λ ob m => ((below_drewN (GY.alloc GZ ob) m).cell (p := ⟨b, o, none⟩) hlt).trans k0;have k2 : ∀ ob, (w.alloc ob).cell? (b, o) = some (.int .u8 c.toNat) := λ ob => ((GY.alloc GZ ob).cell (p := ⟨b, o, none⟩) hlt).trans k0;have hn : ((c :: l).length : Int) = (l.length : Int) + 1 := GV;generalize (c :: l).length = n at *;have n0 : ¬ (n : Int) = 0 := GR;have n1 : (0 : Int) < (n : Int) := GR;clear hcell hrow hle hcap h;have wc : wrap64 (c.toNat : Int) = c.toNat := by have := c.toNat_lt; unfold wrap64; omega
 have HC := hd1 hc;clear hc;have hmm := @Ko prog;go_in
 go_wp2_with (first
  | (refine oU rfl (.tmp 10) _ _ rfl _ _ 253 _ rfl rfl rfl rfl ?_)
  | (refine oU rfl (.tmp 10) _ _ rfl _ _ 254 _ rfl rfl rfl rfl ?_)
  | (refine oU rfl (.tmp 10) _ _ rfl _ _ 255 _ rfl rfl rfl rfl ?_)
  | (refine Eh rfl (.tmp 11) (.tmp 14) rfl w.heap.size c rfl rfl (IC w _) ?_; rw [HC.out]))
 go_ret2;refine ⟨?_, bla⟩;show Ending.returned (.tuple #[.int .i64 (wrap64 c.toNat), .int .i64 1]) = _;rw [wc]
theorem x5f (w : World) (v : Value) (F : Nat -> Prop) (c : UInt8) (l : List UInt8) (h : BytesAt w.heap F v (c :: l)) (hl : l.length <= 1000000000) (hc : Wm.many c ≠ 0) (hf : l.length < Wm.many c) :
 Calls prog 144 #[v] w λ e w' => e = .returned (.tuple #[.int .i64 0, .int .i64 0]) /\ Below w w w' := by
 obtain ⟨b, o, cap, cs, t, fr, rfl, hle, hcap, hF, hrow, hcell⟩ : ∃ (b o cap : Nat) (cs : Array Value) (t : TypeId) (fr : Nat × Nat), v = .slice (some ⟨b, o, none⟩) (c :: l).length cap /\ (c :: l).length <= cap /\ cap <= 9223372036854775807 /\ F b /\ w.heap[b]? = some (.cells cs t fr) /\ ∀ i x, (c :: l)[i]? = some x -> cs[o + i]? = some (bL x) := by
  exact QP
 have k0 : w.cell? (b, o) = some (.int .u8 c.toNat) := (IJ _ _ _ _ _ _ hrow).trans (hcell 0 c rfl);have hlt : b < w.heap.size := IX k0;have k1 : ∀ ob m, ((w.alloc ob).drewN m).cell? (b, o) = some (.int .u8 c.toNat) := λ ob m => ((below_drewN (GY.alloc GZ ob) m).cell (p := ⟨b, o, none⟩) hlt).trans k0;have k2 : ∀ ob, (w.alloc ob).cell? (b, o) = some (.int .u8 c.toNat) := λ ob => ((GY.alloc GZ ob).cell (p := ⟨b, o, none⟩) hlt).trans k0;have hn : ((c :: l).length : Int) = (l.length : Int) + 1 := GV;generalize (c :: l).length = n at *;have n0 : ¬ (n : Int) = 0 := GR;have n1 : (0 : Int) < (n : Int) := GR;clear hcell hrow hle hcap h;have wc : wrap64 (c.toNat : Int) = c.toNat := by have := c.toNat_lt; unfold wrap64; omega
 have hc0 : ¬ (Wm.many c : Int) = 0 := GR;have hc1 : (l.length : Int) + 1 <= (Wm.many c : Int) := GR;clear hc hf;have hmm := @Ko prog;go_in
 go_wp2_with (first
  | (refine oU rfl (.tmp 10) _ _ rfl _ _ 253 _ rfl rfl rfl rfl ?_)
  | (refine oU rfl (.tmp 10) _ _ rfl _ _ 254 _ rfl rfl rfl rfl ?_)
  | (refine oU rfl (.tmp 10) _ _ rfl _ _ 255 _ rfl rfl rfl rfl ?_)
  | (refine Eh rfl (.tmp 11) (.tmp 14) rfl w.heap.size c rfl rfl (IC w _) ?_))
 go_ret2;exact ⟨rfl, bla⟩
theorem z8u (c : UInt8) : Wm.many c <= 8 := by unfold Wm.many; split; decide; split; decide; split <;> decide
theorem x5h (w : World) (v : Value) (F : Nat -> Prop) (c : UInt8) (l : List UInt8) (h : BytesAt w.heap F v (c :: l)) (hl : l.length <= 1000000000) (hc : Wm.many c ≠ 0) (hf : Wm.many c <= l.length) :
 Calls prog 144 #[v] w λ e w' => e = .returned (.tuple #[.int .i64 (Wm.first (c :: l)).1, .int .i64 (Wm.first (c :: l)).2]) /\ Below w w w' := by
 obtain ⟨b, o, cap, cs, t, fr, rfl, hle, hcap, hF, hrow, hcell⟩ : ∃ (b o cap : Nat) (cs : Array Value) (t : TypeId) (fr : Nat × Nat), v = .slice (some ⟨b, o, none⟩) (c :: l).length cap /\ (c :: l).length <= cap /\ cap <= 9223372036854775807 /\ F b /\ w.heap[b]? = some (.cells cs t fr) /\ ∀ i x, (c :: l)[i]? = some x -> cs[o + i]? = some (bL x) := by
  exact QP
 have k0 : w.cell? (b, o) = some (.int .u8 c.toNat) := (IJ _ _ _ _ _ _ hrow).trans (hcell 0 c rfl);have hlt : b < w.heap.size := IX k0;have k1 : ∀ ob m, ((w.alloc ob).drewN m).cell? (b, o) = some (.int .u8 c.toNat) := λ ob m => ((below_drewN (GY.alloc GZ ob) m).cell (p := ⟨b, o, none⟩) hlt).trans k0;have k2 : ∀ ob, (w.alloc ob).cell? (b, o) = some (.int .u8 c.toNat) := λ ob => ((GY.alloc GZ ob).cell (p := ⟨b, o, none⟩) hlt).trans k0;have hn : ((c :: l).length : Int) = (l.length : Int) + 1 := GV;generalize (c :: l).length = n at *;have n0 : ¬ (n : Int) = 0 := GR;have n1 : (0 : Int) < (n : Int) := GR;have HR := hd1 hrow;have hlt' := hlt;clear hrow h;have wc : wrap64 (c.toNat : Int) = c.toNat := by have := c.toNat_lt; unfold wrap64; omega
 have FB := hd1 (λ i => x5e c l i hc hf);have FG := hd1 (CE c l hc hf);have FN := hd1 (Cz c l hc hf);have NL := hd1 (λ i => Gl l i);have hc0 : ¬ (Wm.many c : Int) = 0 := GR;have hc1 : ¬ (l.length : Int) + 1 <= (Wm.many c : Int) := GR;have hk8 := z8u c;generalize hK : Wm.many c = K at *;have HK := hd1 hK;have e1 : ¬ (cap : Int) < (K : Int) + 1 := GR;have e2 : wrap64 (1 + (K : Int)) = 1 + K := by unfold wrap64; omega
 have e3 : ¬ 1 + (K : Int) < 1 := GR;have e4 : ¬ (cap : Int) = 1 := GR;have e5 : (1 : Int) <= 1 + (K : Int) := GR;have e6 : 1 + (K : Int) <= (cap : Int) := GR;clear hc hf hK;have hmm := @Ko prog;go_in
 go_wp2_with (first
  | (refine oU rfl (.tmp 10) _ _ rfl _ _ 253 _ rfl rfl rfl rfl ?_)
  | (refine oU rfl (.tmp 10) _ _ rfl _ _ 254 _ rfl rfl rfl rfl ?_)
  | (refine oU rfl (.tmp 10) _ _ rfl _ _ 255 _ rfl rfl rfl rfl ?_)
  | (refine Eh rfl (.tmp 11) (.tmp 14) rfl w.heap.size c rfl rfl (IC w _) ?_; rw [HK.out]))
 go_loop [2, 6, 31] (λ x _ s => ∃ i : Nat, i <= K /\ s = .int .i64 (i : Int) /\ x = .int .i64 (wrap64 (nk l i)) /\ ∀ j, j < i -> nk l j <= 36028797018963968) (λ _ _ s => K - (intOf s).toNat)
 case atStart => exact ⟨0, GR, rfl, by rw [Gh, wrap_small GU]; rfl, λ j hj => absurd hj GR⟩
 case round =>
  obtain ⟨i, hi, rfl, rfl, hall⟩ := hrel;by_cases hlt : i < K
  ·have i0 : (0 : Int) <= (i : Int) := GR
   have i1 : (i : Int) < (K : Int) := GR;obtain ⟨x, hx⟩ : ∃ x, l[i]? = some x := ⟨_, IR GR⟩;have cx : (w.alloc (.map ny 3)).cell? ⟨b, o + 1 + i, none⟩ = some (.int .u8 x.toNat) := ((bla).cell (p := ⟨b, o + 1 + i, none⟩) hlt').trans ((IJ _ _ _ _ _ _ HR.out).trans (by rw [Jz]; exact hcell (1 + i) x (by rw [Nat.add_comm]; exact hx)));have x0 : (0 : Int) <= (x.toNat : Int) := GR;have x1 : (x.toNat : Int) < 256 := Hf x.toNat_lt;by_cases hbig : nk l i <= 36028797018963968
   ·have y1 : wrap64 (nk l i) = (nk l i : Int) := wrap_small (IP hbig GU)
    have y2 : ¬ (36028797018963968 : Int) < (nk l i : Int) := x9v hbig;have y3 := hd1 (x1w (nk l i) x.toNat hbig x.toNat_lt);have y4 := hd1 (sQ l i x hx);have HA := hd2 hbig hall;rw [y1];clear hcell hall hbig;go_wp2;go_round
    case rel =>
     refine ⟨i + 1, GR, by go_num, by rw [y3.out, y4.out], λ j hj => ?_⟩;rcases Nat.lt_succ_iff_lt_or_eq.1 hj with h | h
     ·exact HA.2 j h
     ·rw [h]; exact HA.1
    case measure => simp [intOf]; omega
   ·have f1 := FB.out i hlt hbig
    have p1 : nk l i < 256 ^ 7 := Jc (NL.out i GR) (Lj GU GR);have y1 : wrap64 (nk l i) = (nk l i : Int) := wrap_small (IP (Jn p1) GU);have y2 : (36028797018963968 : Int) < (nk l i : Int) := x9u hbig;have HF := hd1 f1;rw [y1];clear hcell hall hbig f1 p1;go_wp2;go_ret2;refine ⟨by rw [HF.out]; rfl, bla⟩
  ·obtain rfl : i = K := GR
   have bA : Below w w (w.alloc (.map ny 3)) := bla;have BA := hd1 bA;clear bA hcell;by_cases ht : nk l i <= 4611686018427387904
   ·have y1 : wrap64 (nk l i) = (nk l i : Int) := wrap_small (IP ht GU)
    have y2 : ¬ (4611686018427387904 : Int) < (nk l i : Int) := z3n ht;have NC := hd1 (Bw (nk l i) (w.alloc (.map ny 3)) _ GZ (.slice none 0 0) [] (lY _ _) (IV _) (z3m ht));rw [y1];by_cases hq : (Wm.aG (nk l i)).length = 1 + i
    ·have HF := hd1 (FG.out ht hq)
     have q1 : ((Wm.aG (nk l i)).length : Int) = 1 + (i : Int) := by rw [hq]; simp
     exact Pp
    ·have HF := hd1 (FN.out (Iz hq))
     have q1 : ¬ ((Wm.aG (nk l i)).length : Int) = 1 + (i : Int) := by
      generalize (Wm.aG (nk l i)).length = L at hq ⊢;omega
     exact Pp
   ·have HF := hd1 (FN.out (Iy ht))
    by_cases hm : nk l i <= 9223372036854775807
    ·have y1 : wrap64 (nk l i) = (nk l i : Int) := wrap_small hm
     have y2 : (4611686018427387904 : Int) < (nk l i : Int) := y5v ht;rw [y1];clear hall ht y1 hm FB FG FN NL;generalize nk l i = N at *;go_wp2;go_ret2;exact ⟨by rw [HF.out]; rfl, BA.out⟩
    ·have hi0 : i ≠ 0 := λ e => by subst e; rw [Gh] at hm; exact hm GU
     obtain ⟨j, rfl⟩ := Nat.exists_eq_succ_of_ne_zero hi0;have hx : wrap64 (nk l (j + 1)) < 0 := y3i hm (x1b l j GR (hall j (Nat.lt_succ_self j)));clear hall ht hm FB FG FN NL;generalize wrap64 (nk l (j + 1)) = X at *;have y2 : ¬ (4611686018427387904 : Int) < X := GR;have NC := hd1 (x1g X (w.alloc (.map ny 3)) hx);have q1 : ¬ (1 : Int) = 1 + ((j + 1 : Nat) : Int) := GR;go_wp2_with (go_at_call 158; refine NC.mono ?_; rintro e w1 ⟨u, v1, rfl, o1, b1, _⟩; obtain ⟨va, vc, rfl⟩ := o1.at.slice; have B1 := hd1 b1; clear b1 o1)
     go_ret2;exact ⟨by rw [HF.out]; rfl, BA.trans (B1.mono GV)⟩
theorem y3q (n : Nat) (h : n < 4294967296) : bits .xor .u32 ((n : Int) / 2) 2197175160 = ((n / 2 ^^^ 2197175160 : Nat) : Int) := by
 rw [show (2197175160 : Int) = ((2197175160 : Nat) : Int) from rfl, show (n : Int) / 2 = ((n / 2 : Nat) : Int) by omega, K4 (n / 2) _ GR GU]
theorem y8z (n : Nat) (w : World) (hn : n < 4294967296) : Calls prog 217 #[w32 n] w λ e w' => e = .returned (w32 (Cm.step n)) /\ w = w' := by
 have h0 : (0 : Int) <= (n : Int) := GR;have h1 : (n : Int) < 4294967296 := GR;by_cases h : n % 2 = 1
 ·have e : Cm.step n = n / 2 ^^^ 2197175160 := by unfold Cm.step; rw [IA h]; rfl
  have HE := hd1 e;have HX := hd1 (y3q n hn);have h2 : ((n : Int) % 2 == 1) = true := by simp; omega
  clear e h;go_in;go_wp2;go_ret;rw [HE.out];exact ⟨IG (λ x => Ending.returned (.int .u32 x)) HX.out, rfl⟩
 ·have e : Cm.step n = n / 2 := by unfold Cm.step; rw [Iw h, Nat.xor_zero]
  have HE := hd1 e;have h2 : ((n : Int) % 2 == 1) = false := by simp; omega
  have HD := hd1 (show (n : Int) / 2 = ((n / 2 : Nat) : Int) by omega);clear e h;go_in;go_wp2;go_ret;rw [HE.out];exact ⟨IG (λ x => Ending.returned (.int .u32 x)) HD.out, rfl⟩
theorem x0o (n c : Nat) (w : World) (hn : n < 4294967296) (hc : c < 256) : Calls prog 212 #[w32 n, .int .u8 c] w λ e w' => e = .returned (w32 (Cm.uj n c)) /\ w = w' := by
 have c0 : (0 : Int) <= (c : Int) := GR;have c1 : (c : Int) < 256 := GR;have h0 : (0 : Int) <= (n : Int) := GR;have h1 : (n : Int) < 4294967296 := GR;have hx : bits .xor .u32 (n : Int) (c : Int) = ((n ^^^ c : Nat) : Int) := K4 n c hn GR;have hlt : n ^^^ c < 4294967296 := Nat.xor_lt_two_pow (n := 32) hn GR;have HB := hd1 (Cm.y1l n c hc);generalize n ^^^ c = m at *;go_in;go_wp2;go_loopw [0, 5] (λ x s wr => ∃ k : Nat, k <= 8 /\ s = .int .i64 (k : Int) /\ x = w32 (Cm.steps k m) /\ w = wr) (λ _ s _ => 8 - (intOf s).toNat)
 case atStart => exact ⟨0, GR, rfl, rfl, rfl⟩
 case round =>
  obtain ⟨k, hk, rfl, rfl, rfl⟩ := hrel;by_cases hl : k < 8
  ·have i0 : (0 : Int) <= (k : Int) := GR
   have i1 : (k : Int) < 8 := GR;have SC := hd1 (y8z (Cm.steps k m) w (Cm.xV k hlt));have SS := hd1 (EO k m);generalize Cm.steps k m = x at *;go_wp2_with (go_at_call 217; refine SC.mono ?_; rintro e w' ⟨rfl, rfl⟩)
   go_roundw;case rel => exact ⟨k + 1, GR, by go_num, by rw [SS.out], trivial⟩
   case measure => simp [intOf]; omega
  ·obtain rfl : k = 8 := GR
   go_wp2;go_ret;exact ⟨by rw [HB.out]; rfl, rfl⟩
theorem y8f (h : BytesAt w.heap F v l) (hl : l.length <= 9223372036854775807) :
 Calls prog 195 #[.int .u32 0, v] w λ e w' => e = .returned (w32 (Cm.sum l)) /\ w = w' := by
 obtain ⟨a, cap, rfl⟩ := h.slice;have HV := hd1 h;generalize hn : l.length = n at *;have HN := hd1 hn;clear h hn;go_in;go_wp2;go_loopw [5, 6] (λ x s wr => ∃ k : Nat, k <= n /\ s = .int .i64 (k : Int) /\ x = w32 (Cm.fO Cm.top (l.take k)) /\ w = wr) (λ _ s _ => n - (intOf s).toNat)
 case atStart => exact ⟨0, GR, rfl, rfl, rfl⟩
 case round =>
  obtain ⟨k, hk, rfl, rfl, rfl⟩ := hrel;have z0t : Cm.fO Cm.top (l.take k) < 4294967296 := Cm.Bd _ GU;by_cases hlt : k < n
  ·have i0 : (0 : Int) <= (k : Int) := GR
   have i1 : (k : Int) < (n : Int) := GR;obtain ⟨u, hu⟩ : ∃ u, l[k]? = some u := ⟨_, IR Nk⟩;obtain ⟨b, o, rfl, hbg, hbl, hc⟩ := HV.byte hu;have hc : w.cell? (b, o + k) = some (.int .u8 u.toNat) := hc;have hnext := hd1 (show Cm.fO Cm.top (l.take (k + 1)) = Cm.uj (Cm.fO Cm.top (l.take k)) u.toNat by rw [JC, hu, Cm.z6k]; rfl);have BC := hd1 (x0o (Cm.fO Cm.top (l.take k)) u.toNat w z0t u.toNat_lt);generalize Cm.fO Cm.top (l.take k) = R at *;clear hu;go_wp2_with (go_at_call 212; refine BC.mono ?_; rintro e w' ⟨rfl, rfl⟩)
   go_roundw;case rel => exact ⟨k + 1, GR, by go_num, by rw [hnext.out], trivial⟩
   case measure => simp [intOf]; omega
  ·obtain rfl : k = n := GR
   have HT := hd1 (show Cm.top - Cm.fO Cm.top (l.take k) = Cm.sum l by rw [Je (by rw [HN.out]; omega)]; rfl);generalize Cm.fO Cm.top (l.take k) = R at *;have hw := hd1 (show (4294967295 - (R : Int)) = ((Cm.top - R : Nat) : Int) by unfold Cm.top; omega);go_wp2;go_ret;rw [<-HT.out];exact ⟨IG (λ x => Ending.returned (.int .u32 x)) hw.out, rfl⟩
theorem y7b (h : BytesAt w.heap F v l) (hl : l.length <= 9223372036854775807) :
 Calls prog 168 #[v] w λ e w' => e = .returned (w32 (Cm.sum l)) /\ w = w' := by
 have MC := hd1 (y8f h hl);clear h hl;go_in;go_wp2_with (go_at_call 195; refine MC.mono ?_; rintro e w1 ⟨rfl, rfl⟩)
 exact OJ
theorem x5r (wr : World) {x0 x1 x2 x3 : Int} {u0 u1 u2 u3 : UInt8} (h0 : x0 = u0.toNat) (h1 : x1 = u1.toNat) (h2 : x2 = u2.toNat) (h3 : x3 = u3.toNat) :
 BytesAt (wr.alloc (.cells #[.int .u8 x0, .int .u8 x1, .int .u8 x2, .int .u8 x3] bT)).heap (λ _ => True) (.slice (some wr.heap.size) 4 4) [u0, u1, u2, u3] := by
 refine Iz ⟨wr.heap.size, 0, 4, _, _, (0, 0), rfl, Nat.le_refl _, GU, trivial, IC wr _, λ i y hi => ?_⟩;subst h0; subst h1; subst h2; subst h3;match i, hi with
 | 0, hi => cases hi; rfl
 | 1, hi => cases hi; rfl
 | 2, hi => cases hi; rfl
 | 3, hi => cases hi; rfl
 | i + 4, hi => simp at hi
theorem x2i (n : Nat) : Cm.low n 4 = [UInt8.ofNat (n / 1 % 256), UInt8.ofNat (n / 256 % 256), UInt8.ofNat (n / 65536 % 256), UInt8.ofNat (n / 16777216 % 256)] := rfl
theorem z5q (h : BytesAt w.heap F v l) (hl : l.length <= 1000000000) : Calls prog 136 #[v] w (gT w (Cm.dw l)) := by
 have H := hd1 h;have SC := hd1 (y7b h GR);have hs : Cm.sum l < 4294967296 := by unfold Cm.sum Cm.top; omega
 have HS := hd1 (show Cm.dw l = l ++ Cm.low (Cm.sum l) 4 from rfl);rw [x2i] at HS;obtain ⟨va, vc, e⟩ := h.slice;subst e;clear h;generalize Cm.sum l = s at *;have h0 : (0 : Int) <= (s : Int) := GR;have h1 : (s : Int) < 4294967296 := GR;go_in
 go_wp2_with (first
  | (go_at_call 168; refine SC.mono ?_; rintro e w1 ⟨rfl, rfl⟩)
  | (at_builtin; refine dS rfl (.tmp 6) (.tmp 7) rfl w.heap.size w.heap.size w (bla) GZ _ [] rfl (Bu w) _ l _ rfl (H.below (bla)) N_ GV ?_; intro v1 w1 o1 b1 b1'
     have H1 := hd2 o1.out b1;clear o1 b1 b1')
  | (at_builtin; refine dS rfl (.tmp 8) (.tmp 20) rfl w.heap.size w.heap.size w (H1.2.alloc H1.2.size _) GZ _ _ rfl (bi H1.1 (bla) GZ) _ _ _ rfl (x5r w1 (byte_of s 1 _ GR) (byte_of s 256 _ GR) (byte_of s 65536 _ GR) (byte_of s 16777216 _ GR)) N_ (by have := H1.2.size; simp; omega) ?_; intro v2 w2 o2 b2 b2'))
 go_ret;exact ⟨_, rfl, by rw [HS.out]; simpa using o2.out, b2⟩
theorem y8b (n : Nat) (w : World) (hn : n < 9223372036854775808) : Calls prog 169 #[.int .i64 n, .int .i64 2] w (gT w (Wm.high n 2)) := by
 have h0 : (0 : Int) <= (n : Int) := GR;have h1 : (n : Int) < 9223372036854775808 := GR;go_in;go_wp2;go_loopw [5, 6] (λ x s wr => ∃ i : Nat, i <= 2 /\ s = .int .i64 (1 - (i : Int)) /\ bY wr w.heap.size x (hp n 2 i) /\ Below w w wr) (λ _ s _ => (intOf s + 1).toNat)
 case atStart => exact ⟨0, GR, rfl, lY _ _, Below.refl _ _⟩
 case round =>
  obtain ⟨i, hi, rfl, hown, hb⟩ := hrel;have HO := hd2 hown hb;clear hown hb;by_cases hlt : i < 2
  ·obtain rfl | rfl : i = 0 \/ i = 1 := GR
   ·have hq : ((n : Int) / 256).tmod 256 = ((n / 256 % 256 : Nat) : Int) := by rw [Jr GR]; omega
    go_wp2_with (at_builtin; refine dS rfl (.tmp 13) (.tmp 21) rfl w.heap.size w.heap.size w (HO.2.alloc HO.2.size _) GZ _ (hp n 2 0) rfl (bi HO.1 (bla) GZ) _ [UInt8.ofNat (n / 256 % 256)] (λ _ => True) rfl (one_byte wr _ _ (byte_of n 256 _ GR)) NZ M7 ?_; intro v' w2 ho b2 b2')
    exact Pe
   ·have hq : ((n : Int) / 1).tmod 256 = ((n / 1 % 256 : Nat) : Int) := by rw [Jr GR]; omega
    go_wp2_with (at_builtin; refine dS rfl (.tmp 13) (.tmp 21) rfl w.heap.size w.heap.size w (HO.2.alloc HO.2.size _) GZ _ (hp n 2 1) rfl (bi HO.1 (bla) GZ) _ [UInt8.ofNat (n / 1 % 256)] (λ _ => True) rfl (one_byte wr _ _ (byte_of n 1 _ GR)) NZ M7 ?_; intro v' w2 ho b2 b2')
    exact Pf
  ·obtain rfl : i = 2 := GR
   exact P6
theorem y8c (n : Nat) (w : World) (hn : n < 9223372036854775808) : Calls prog 169 #[.int .i64 n, .int .i64 4] w (gT w (Wm.high n 4)) := by
 have h0 : (0 : Int) <= (n : Int) := GR;have h1 : (n : Int) < 9223372036854775808 := GR;go_in;go_wp2;go_loopw [5, 6] (λ x s wr => ∃ i : Nat, i <= 4 /\ s = .int .i64 (3 - (i : Int)) /\ bY wr w.heap.size x (hp n 4 i) /\ Below w w wr) (λ _ s _ => (intOf s + 1).toNat)
 case atStart => exact ⟨0, GR, rfl, lY _ _, Below.refl _ _⟩
 case round =>
  obtain ⟨i, hi, rfl, hown, hb⟩ := hrel;have HO := hd2 hown hb;clear hown hb;by_cases hlt : i < 4
  ·obtain rfl | rfl | rfl | rfl : i = 0 \/ i = 1 \/ i = 2 \/ i = 3 := GR
   ·have hq : ((n : Int) / 16777216).tmod 256 = ((n / 16777216 % 256 : Nat) : Int) := by rw [Jr GR]; omega
    go_wp2_with (at_builtin; refine dS rfl (.tmp 13) (.tmp 21) rfl w.heap.size w.heap.size w (HO.2.alloc HO.2.size _) GZ _ (hp n 4 0) rfl (bi HO.1 (bla) GZ) _ [UInt8.ofNat (n / 16777216 % 256)] (λ _ => True) rfl (one_byte wr _ _ (byte_of n 16777216 _ GR)) NZ M7 ?_; intro v' w2 ho b2 b2')
    exact Pe
   ·have hq : ((n : Int) / 65536).tmod 256 = ((n / 65536 % 256 : Nat) : Int) := by rw [Jr GR]; omega
    go_wp2_with (at_builtin; refine dS rfl (.tmp 13) (.tmp 21) rfl w.heap.size w.heap.size w (HO.2.alloc HO.2.size _) GZ _ (hp n 4 1) rfl (bi HO.1 (bla) GZ) _ [UInt8.ofNat (n / 65536 % 256)] (λ _ => True) rfl (one_byte wr _ _ (byte_of n 65536 _ GR)) NZ M7 ?_; intro v' w2 ho b2 b2')
    exact Pf
   ·have hq : ((n : Int) / 256).tmod 256 = ((n / 256 % 256 : Nat) : Int) := by rw [Jr GR]; omega
    go_wp2_with (at_builtin; refine dS rfl (.tmp 13) (.tmp 21) rfl w.heap.size w.heap.size w (HO.2.alloc HO.2.size _) GZ _ (hp n 4 2) rfl (bi HO.1 (bla) GZ) _ [UInt8.ofNat (n / 256 % 256)] (λ _ => True) rfl (one_byte wr _ _ (byte_of n 256 _ GR)) NZ M7 ?_; intro v' w2 ho b2 b2')
    exact PW
   ·have hq : ((n : Int) / 1).tmod 256 = ((n / 1 % 256 : Nat) : Int) := by rw [Jr GR]; omega
    go_wp2_with (at_builtin; refine dS rfl (.tmp 13) (.tmp 21) rfl w.heap.size w.heap.size w (HO.2.alloc HO.2.size _) GZ _ (hp n 4 3) rfl (bi HO.1 (bla) GZ) _ [UInt8.ofNat (n / 1 % 256)] (λ _ => True) rfl (one_byte wr _ _ (byte_of n 1 _ GR)) NZ M7 ?_; intro v' w2 ho b2 b2')
    exact PX
  ·obtain rfl : i = 4 := GR
   exact P6
theorem y8d (n : Nat) (w : World) (hn : n < 9223372036854775808) : Calls prog 169 #[.int .i64 n, .int .i64 8] w (gT w (Wm.high n 8)) := by
 have h0 : (0 : Int) <= (n : Int) := GR;have h1 : (n : Int) < 9223372036854775808 := GR;go_in;go_wp2;go_loopw [5, 6] (λ x s wr => ∃ i : Nat, i <= 8 /\ s = .int .i64 (7 - (i : Int)) /\ bY wr w.heap.size x (hp n 8 i) /\ Below w w wr) (λ _ s _ => (intOf s + 1).toNat)
 case atStart => exact ⟨0, GR, rfl, lY _ _, Below.refl _ _⟩
 case round =>
  obtain ⟨i, hi, rfl, hown, hb⟩ := hrel;have HO := hd2 hown hb;clear hown hb;by_cases hlt : i < 8
  ·obtain rfl | rfl | rfl | rfl | rfl | rfl | rfl | rfl : i = 0 \/ i = 1 \/ i = 2 \/ i = 3 \/ i = 4 \/ i = 5 \/ i = 6 \/ i = 7 := GR
   ·have hq : ((n : Int) / 72057594037927936).tmod 256 = ((n / 72057594037927936 % 256 : Nat) : Int) := by rw [Jr GR]; omega
    go_wp2_with (at_builtin; refine dS rfl (.tmp 13) (.tmp 21) rfl w.heap.size w.heap.size w (HO.2.alloc HO.2.size _) GZ _ (hp n 8 0) rfl (bi HO.1 (bla) GZ) _ [UInt8.ofNat (n / 72057594037927936 % 256)] (λ _ => True) rfl (one_byte wr _ _ (byte_of n 72057594037927936 _ GR)) NZ M7 ?_; intro v' w2 ho b2 b2')
    exact Pe
   ·have hq : ((n : Int) / 281474976710656).tmod 256 = ((n / 281474976710656 % 256 : Nat) : Int) := by rw [Jr GR]; omega
    go_wp2_with (at_builtin; refine dS rfl (.tmp 13) (.tmp 21) rfl w.heap.size w.heap.size w (HO.2.alloc HO.2.size _) GZ _ (hp n 8 1) rfl (bi HO.1 (bla) GZ) _ [UInt8.ofNat (n / 281474976710656 % 256)] (λ _ => True) rfl (one_byte wr _ _ (byte_of n 281474976710656 _ GR)) NZ M7 ?_; intro v' w2 ho b2 b2')
    exact Pf
   ·have hq : ((n : Int) / 1099511627776).tmod 256 = ((n / 1099511627776 % 256 : Nat) : Int) := by rw [Jr GR]; omega
    go_wp2_with (at_builtin; refine dS rfl (.tmp 13) (.tmp 21) rfl w.heap.size w.heap.size w (HO.2.alloc HO.2.size _) GZ _ (hp n 8 2) rfl (bi HO.1 (bla) GZ) _ [UInt8.ofNat (n / 1099511627776 % 256)] (λ _ => True) rfl (one_byte wr _ _ (byte_of n 1099511627776 _ GR)) NZ M7 ?_; intro v' w2 ho b2 b2')
    exact PW
   ·have hq : ((n : Int) / 4294967296).tmod 256 = ((n / 4294967296 % 256 : Nat) : Int) := by rw [Jr GR]; omega
    go_wp2_with (at_builtin; refine dS rfl (.tmp 13) (.tmp 21) rfl w.heap.size w.heap.size w (HO.2.alloc HO.2.size _) GZ _ (hp n 8 3) rfl (bi HO.1 (bla) GZ) _ [UInt8.ofNat (n / 4294967296 % 256)] (λ _ => True) rfl (one_byte wr _ _ (byte_of n 4294967296 _ GR)) NZ M7 ?_; intro v' w2 ho b2 b2')
    exact PX
   ·have hq : ((n : Int) / 16777216).tmod 256 = ((n / 16777216 % 256 : Nat) : Int) := by rw [Jr GR]; omega
    go_wp2_with (at_builtin; refine dS rfl (.tmp 13) (.tmp 21) rfl w.heap.size w.heap.size w (HO.2.alloc HO.2.size _) GZ _ (hp n 8 4) rfl (bi HO.1 (bla) GZ) _ [UInt8.ofNat (n / 16777216 % 256)] (λ _ => True) rfl (one_byte wr _ _ (byte_of n 16777216 _ GR)) NZ M7 ?_; intro v' w2 ho b2 b2')
    have H2 := hd2 ho.out b2;clear ho b2 b2';go_wp2;go_roundw;case rel => exact ⟨4 + 1, GR, by go_num, by rw [fw]; exact H2.1, H2.2⟩
    case measure => simp [intOf]
   ·have hq : ((n : Int) / 65536).tmod 256 = ((n / 65536 % 256 : Nat) : Int) := by rw [Jr GR]; omega
    go_wp2_with (at_builtin; refine dS rfl (.tmp 13) (.tmp 21) rfl w.heap.size w.heap.size w (HO.2.alloc HO.2.size _) GZ _ (hp n 8 5) rfl (bi HO.1 (bla) GZ) _ [UInt8.ofNat (n / 65536 % 256)] (λ _ => True) rfl (one_byte wr _ _ (byte_of n 65536 _ GR)) NZ M7 ?_; intro v' w2 ho b2 b2')
    have H2 := hd2 ho.out b2;clear ho b2 b2';go_wp2;go_roundw;case rel => exact ⟨5 + 1, GR, by go_num, by rw [fw]; exact H2.1, H2.2⟩
    case measure => simp [intOf]
   ·have hq : ((n : Int) / 256).tmod 256 = ((n / 256 % 256 : Nat) : Int) := by rw [Jr GR]; omega
    go_wp2_with (at_builtin; refine dS rfl (.tmp 13) (.tmp 21) rfl w.heap.size w.heap.size w (HO.2.alloc HO.2.size _) GZ _ (hp n 8 6) rfl (bi HO.1 (bla) GZ) _ [UInt8.ofNat (n / 256 % 256)] (λ _ => True) rfl (one_byte wr _ _ (byte_of n 256 _ GR)) NZ M7 ?_; intro v' w2 ho b2 b2')
    have H2 := hd2 ho.out b2;clear ho b2 b2';go_wp2;go_roundw;case rel => exact ⟨6 + 1, GR, by go_num, by rw [fw]; exact H2.1, H2.2⟩
    case measure => simp [intOf]
   ·have hq : ((n : Int) / 1).tmod 256 = ((n / 1 % 256 : Nat) : Int) := by rw [Jr GR]; omega
    go_wp2_with (at_builtin; refine dS rfl (.tmp 13) (.tmp 21) rfl w.heap.size w.heap.size w (HO.2.alloc HO.2.size _) GZ _ (hp n 8 7) rfl (bi HO.1 (bla) GZ) _ [UInt8.ofNat (n / 1 % 256)] (λ _ => True) rfl (one_byte wr _ _ (byte_of n 1 _ GR)) NZ M7 ?_; intro v' w2 ho b2 b2')
    have H2 := hd2 ho.out b2;clear ho b2 b2';go_wp2;go_roundw;case rel => exact ⟨7 + 1, GR, by go_num, by rw [fw]; exact H2.1, H2.2⟩
    case measure => simp [intOf]
  ·obtain rfl : i = 8 := GR
   exact P6
theorem z1u (w : World) (v : Value) (F : Nat -> Prop) (l : List UInt8) (h : BytesAt w.heap F v l) (hl : l.length <= 1000000000) :
 Calls prog 144 #[v] w λ e w' => e = .returned (.tuple #[.int .i64 (Wm.first l).1, .int .i64 (Wm.first l).2]) /\ Below w w w' := by
 cases l with
 | nil => exact (y0q w v F h).mono MJ
 | cons c r =>
  have hr : r.length <= 1000000000 := by rw [I6] at hl; omega
  by_cases hc : Wm.many c = 0
  ·have e : Wm.first (c :: r) = (c.toNat, 1) := IA hc
   rw [e];exact x5i w v F c r h hr hc
  ·by_cases hf : r.length < Wm.many c
   ·have e : Wm.first (c :: r) = (0, 0) := by
     exact Qx
    rw [e];exact x5f w v F c r h hr hc hf
   ·exact x5h w v F c r h hr hc GR
theorem za (l : List UInt8) : ((Wm.first l).2 = 0 \/ (Wm.first l).2 = -1 \/ ∃ k : Nat, (Wm.first l).2 = k /\ 1 <= k /\ k <= 9 /\ k <= l.length) /\ (Wm.first l).1 <= 4611686018427387904 := by
 cases l with
 | nil => exact ⟨Iy rfl, IV _⟩
 | cons c r =>
  by_cases hc : Wm.many c = 0
  ·have e : Wm.first (c :: r) = (c.toNat, 1) := IA hc
   rw [e];exact ⟨Iz (Iz ⟨1, rfl, Nat.le_refl _, GU, GV⟩), by have := c.toNat_lt; show c.toNat <= _; omega⟩
  ·by_cases hf : r.length < Wm.many c
   ·have e : Wm.first (c :: r) = (0, 0) := by
     exact Qx
    rw [e];exact ⟨Iy rfl, IV _⟩
   ·rw [z1v c r hc GR]
    split
    ·exact ⟨Iz (Iy rfl), IV _⟩
    ·rename_i hq
     have hq := not_or.1 hq;have h1 : ¬ nk r (Wm.many c) > 4611686018427387904 := hq.1;refine ⟨Iz (Iz ⟨1 + Wm.many c, GV, GR, Hf (z8u c), by rw [I6]; omega⟩), ?_⟩;show nk r (Wm.many c) <= _;exact Nat.not_lt.1 h1
def Dy (w : World) (l : List UInt8) (e : Ending) (w' : World) : Prop :=
 Below w.heap.size w w' /\ match Wm.split l with
  | none => e = .returned (.tuple #[.slice none 0 0, .int .i64 0, .int .i64 (Wm.pg l)])
  | some r => ∃ v, e = .returned (.tuple #[v, .int .i64 r.2, .int .i64 0]) /\ BytesAt w'.heap (λ k => w.heap.size <= k) v r.1
theorem vw {x : Int} (hb : Below w w w') (h1 : Wm.split l = none) (h2 : Wm.pg l = x) : Dy w l (.returned (.tuple #[.slice none 0 0, .int .i64 0, .int .i64 x])) w' := by
 refine ⟨hb, ?_⟩;rw [h1, h2]
theorem vL (w : World) (x : Int) (u : UInt8) (h : x = u.toNat) : bY (w.alloc (.cells #[.int .u8 x] bT)) w.heap.size (.slice (some w.heap.size) 1 1) [u] := by
 subst h;exact ⟨rfl, Iz ⟨w.heap.size, 1, _, rfl, Nat.le_refl _, IC _ _, Nat.le_refl _, GU, rfl, rfl⟩⟩
theorem z0q (n k : Nat) : (Wm.high n k).length = k := by simp [Wm.high]
theorem vG (n : Nat) (w : World) (hn : n < 9223372036854775808) : Calls prog 137 #[.int .i64 n] w (gT w (Wm.aG n)) := by
 have h0 : (0 : Int) <= (n : Int) := GR;have h1 : (n : Int) < 9223372036854775808 := GR;have HN := hd1 hn;clear hn;by_cases c1 : n < 253
 ·have d1 : (n : Int) < 253 := GR
  have HW := hd1 (show Wm.aG n = [UInt8.ofNat (n / 1 % 256)] by unfold Wm.aG; rw [IA c1, Nat.div_one, KM GR]);clear c1;go_in;go_wp2;go_ret;exact ⟨_, rfl, by rw [HW.out]; exact vL w _ _ (byte_of n 1 _ GR), bla⟩
 ·have d1 : ¬ (n : Int) < 253 := GR
  by_cases c2 : n < 65536
  ·have d2 : (n : Int) < 65536 := GR
   have HW := hd1 (show Wm.aG n = [253] ++ Wm.high n 2 by unfold Wm.aG; rw [Iw c1, IA c2]; rfl);clear c1 c2;go_in
   go_wp2_with (first
    | (go_at_call 169; refine (y8b n _ HN.out).mono ?_; rintro e w2 ⟨v2, rfl, o2, b2⟩; have H2 := hd2 o2 b2; clear o2 b2)
    | (at_builtin; refine dS rfl (.tmp 12) (.tmp 14) rfl w.heap.size w.heap.size w ((bla).trans (H2.2.mono GV)) GZ _ [253] rfl (bi (vL w _ 253 rfl) H2.2 GZ) _ _ _ rfl H2.1.at (by rw [z0q]; simp) MU ?_; intro v' w3 ho b3 b3'))
   exact P_
  ·have d2 : ¬ (n : Int) < 65536 := GR
   by_cases c3 : n < 4294967296
   ·have d3 : (n : Int) < 4294967296 := GR
    have HW := hd1 (show Wm.aG n = [254] ++ Wm.high n 4 by unfold Wm.aG; rw [Iw c1, Iw c2, IA c3]; rfl);clear c1 c2 c3;go_in
    go_wp2_with (first
     | (go_at_call 169; refine (y8c n _ HN.out).mono ?_; rintro e w2 ⟨v2, rfl, o2, b2⟩; have H2 := hd2 o2 b2; clear o2 b2)
     | (at_builtin; refine dS rfl (.tmp 19) (.tmp 21) rfl w.heap.size w.heap.size w ((bla).trans (H2.2.mono GV)) GZ _ [254] rfl (bi (vL w _ 254 rfl) H2.2 GZ) _ _ _ rfl H2.1.at (by rw [z0q]; simp) MU ?_; intro v' w3 ho b3 b3'))
    exact P_
   ·have d3 : ¬ (n : Int) < 4294967296 := GR
    have HW := hd1 (show Wm.aG n = [255] ++ Wm.high n 8 by unfold Wm.aG; rw [Iw c1, Iw c2, Iw c3]; rfl);clear c1 c2 c3;go_in
    go_wp2_with (first
     | (go_at_call 169; refine (y8d n _ HN.out).mono ?_; rintro e w2 ⟨v2, rfl, o2, b2⟩; have H2 := hd2 o2 b2; clear o2 b2)
     | (at_builtin; refine dS rfl (.tmp 23) (.tmp 25) rfl w.heap.size w.heap.size w ((bla).trans (H2.2.mono GV)) GZ _ [255] rfl (bi (vL w _ 255 rfl) H2.2 GZ) _ _ _ rfl H2.1.at (by rw [z0q]; simp) MU ?_; intro v' w3 ho b3 b3'))
    exact P_
theorem kQ (n : Nat) : (Wm.aG n).length <= 9 := by
 unfold Wm.aG;repeat' split
 all_goals simp [Wm.high]
theorem y7e (s : List UInt8) (w : World) (hs : s.length <= 1000000000) : Calls prog 138 #[ag s] w (gT w (Wm.cB s)) := by
 have HW := hd1 (show Wm.cB s = Wm.aG s.length ++ s from rfl);have WS := kQ s.length;have NC := hd1 (vG s.length w GR);have hz : ByteArray.size ⟨s.toArray⟩ = s.length := by simp [ByteArray.size]
 go_in
 go_wp2_with (first
  | (go_at_call 137; refine NC.mono ?_; rintro e w2 ⟨v2, rfl, o2, b2⟩; have H2 := hd2 o2 b2; clear o2 b2)
  | (at_builtin; refine wpList_append_text rfl (.tmp 5) (.tmp 6) rfl w.heap.size _ _ rfl H2.1 s rfl GR H2.2.size ?_; intro v' w3 ho hg))
 go_ret;exact ⟨_, rfl, by rw [HW.out]; exact ho.out, (H2.2.trans ((hg.below H2.1 H2.2.size)))⟩
theorem y7f (b : Bool) (w : World) : Calls prog 139 #[.bool b] w (gT w (Wm.je b)) := by
 cases b
 ·go_in
  go_wp2;go_ret;exact ⟨_, rfl, vL w 0 0 rfl, bla⟩
 ·go_in
  go_wp2;go_ret;exact ⟨_, rfl, vL w 1 1 rfl, bla⟩
theorem Fj (h : BytesAt w.heap F v l) (hl : l.length <= 1000000) : Calls prog 88 #[v] w (gT w (Wm.frame l)) := by
 have SC := hd1 (z5q h GR);have HW := hd1 (show Wm.frame l = Wm.aG (Cm.dw l).length ++ Cm.dw l from rfl);have SL : (Cm.dw l).length = l.length + 4 := by unfold Cm.dw; rw [IL, Cm.ol]
 have SB : (Cm.dw l).length <= 1000004 := GR;have WS := kQ (Cm.dw l).length;clear SL h;generalize Cm.dw l = s at *;have NC := hd1 (λ (w' : World) => vG s.length w' GR);go_in
 go_wp2_with (first
  | (go_at_call 136; refine SC.mono ?_; rintro e w1 ⟨v1, rfl, o1, b1⟩
     obtain ⟨va, vc, e1⟩ := o1.at.slice;subst e1;have H1 := hd2 o1 b1; clear o1 b1)
  | (go_at_call 137; refine (NC.out _).mono ?_; rintro e w2 ⟨v2, rfl, o2, b2⟩; have H2 := hd2 o2 b2; clear o2 b2)
  | (at_builtin; refine dS rfl (.tmp 8) (.tmp 9) rfl w.heap.size w.heap.size w (H1.2.trans (H2.2.mono H1.2.size)) GZ _ _ rfl (bi H2.1 GY H1.2.size) _ _ _ rfl (H1.1.at.below H2.2) GR (IP H1.2.size H2.2.size) ?_; intro v' w3 ho b3 b3'))
 exact P_
def z2q (w : World) (base : Nat) (l : List UInt8) (e : Ending) (w' : World) : Prop := ∃ v', e = .returned v' /\ bY w' base v' l /\ Below base w w'
theorem A7 {base : Nat} (hb : base <= w.heap.size) (hv : bY w base v l) (hl : l.length <= 1000000000) (hn : n < 9223372036854775808) : Calls prog 89 #[v, .int .i64 n] w (z2q w base (l ++ Wm.aG n)) := by
 have NC := hd1 (vG n w hn);have WS := kQ n;have HV := hd2 hv hb;obtain ⟨va, vc, e1⟩ := hv.at.slice;subst e1;clear hv hb;go_in
 go_wp2_with (first
  | (go_at_call 137; refine NC.mono ?_; rintro e w2 ⟨v2, rfl, o2, b2⟩; have H2 := hd2 o2 b2; clear o2 b2)
  | (at_builtin; refine dS rfl (.tmp 5) (.tmp 7) rfl base base w (H2.2.mono HV.2) GZ _ _ rfl (bi HV.1 H2.2 GZ) _ _ _ rfl H2.1.at GR (IP HV.2 H2.2.size) ?_; intro v' w3 ho b3 b3'))
 go_ret;exact ⟨_, rfl, ho.out, b3⟩
theorem AJ {base : Nat} {s : List UInt8} (hb : base <= w.heap.size) (hv : bY w base v l) (hl : l.length <= 1000000000) (hs : s.length <= 1000000000) : Calls prog 90 #[v, ag s] w (z2q w base (l ++ Wm.cB s)) := by
 have NC := hd1 (y7e s w hs);have WS : (Wm.cB s).length <= 1000000009 := by unfold Wm.cB; rw [IL]; have := kQ s.length; omega
 have HV := hd2 hv hb;obtain ⟨va, vc, e1⟩ := hv.at.slice;subst e1;clear hv hb;go_in
 go_wp2_with (first
  | (go_at_call 138; refine NC.mono ?_; rintro e w2 ⟨v2, rfl, o2, b2⟩; have H2 := hd2 o2 b2; clear o2 b2)
  | (at_builtin; refine dS rfl (.tmp 5) (.tmp 7) rfl base base w (H2.2.mono HV.2) GZ _ _ rfl (bi HV.1 H2.2 GZ) _ _ _ rfl H2.1.at GR (IP HV.2 H2.2.size) ?_; intro v' w3 ho b3 b3'))
 go_ret;exact ⟨_, rfl, ho.out, b3⟩
theorem Aa {x : Int} (h1 : -1000000000000 <= x) (h2 : x <= 1000000000000) : wrap64 x = x := by unfold wrap64; omega
theorem z4l (h : BytesAt w.heap F v l) (hl : l.length <= 1000000000) : Calls prog 108 #[v] w (Dy w l) := by
 obtain ⟨a, cap, rfl⟩ := h.slice;have FC := hd1 (z1u w _ F l h hl);obtain ⟨hk, hn⟩ := za l
 have hs : Wm.split l = (if (Wm.first l).2 <= 0 \/ (Wm.first l).1 < 4 \/ (Wm.first l).1 > 8196 then none
  else if (l.length : Int) - (Wm.first l).2 < (Wm.first l).1 then none
  else match Wm.opened ((l.drop (Wm.first l).2.toNat).take (Wm.first l).1) with | some body => some (body, (Wm.first l).2.toNat + (Wm.first l).1) | none => none) := rfl
 have he : Wm.pg l = (if (Wm.first l).2 = 0 then 0 else if (Wm.first l).2 < 0 \/ (Wm.first l).1 < 4 \/ (Wm.first l).1 > 8196 then 141 else if (l.length : Int) - (Wm.first l).2 < (Wm.first l).1 then 0 else 130) := rfl;obtain ⟨N, hN⟩ := G5 ((Wm.first l).1);obtain ⟨K, hK⟩ := G5 ((Wm.first l).2);rw [hN, hK] at hs he FC;rw [hN] at hn;rw [hK] at hk;clear hN hK;have H := hd1 h;clear h;have hl1 : (l.length : Int) <= 1000000000 := GR;rcases hk with rfl | rfl | ⟨k, rfl, k1, k9, kl⟩
 ·rw [IA (Iy GU)] at hs
  rw [IA rfl] at he;have HS := hd2 hs he;clear hs he;exact OW
 ·rw [IA (Iy GU)] at hs
  rw [Iw GU, IA (Iy GU)] at he;have HS := hd2 hs he;clear hs he;exact OW
 ·have c0 : ¬ (k : Int) = 0 := GR
  have c1 : ¬ (k : Int) < 0 := GR;rw [Iw c0] at he;by_cases hq : N < 4 \/ N > 8196
  ·rw [IA (Iz hq)] at hs
   rw [IA (Iz hq)] at he;have HS := hd2 hs he;clear hs he;by_cases h4 : N < 4
   ·have c2 : (N : Int) < 4 := GR
    clear hq h4;exact OW
   ·have c2 : ¬ (N : Int) < 4 := GR
    have c3 : (8196 : Int) < (N : Int) := GR;clear hq h4;exact OW
  ·obtain ⟨q1, q2⟩ := not_or.1 hq
   have c2 : ¬ (N : Int) < 4 := GR;have c3 : ¬ (8196 : Int) < (N : Int) := GR;rw [Iw Nb] at hs;rw [Iw Nb] at he;clear hq;by_cases hm : (l.length : Int) - (k : Int) < (N : Int)
   ·rw [IA hm] at hs
    rw [IA hm] at he;have HS := hd2 hs he;clear hs he;generalize l.length = L at *;have e1 : wrap64 ((L : Int) - (k : Int)) = (L : Int) - (k : Int) := by unfold wrap64; omega
    exact OW
   ·rw [Iw hm] at hs
    rw [Iw hm] at he;obtain ⟨b, o, rfl, hcap, hcap2, hbl⟩ := H.row GR;have back := H.back (n := k) kl;have hdl : (l.drop k).length = l.length - k := I5;rw [<-hdl] at back;have mid := back.front (n := N) GR;have Gp : ((l.drop k).take N).length = N := by rw [I4]; omega
    have oM := hd1 mid;have OC := hd1 (λ (W : World) (hb : Below w w W) => x7v (oM.below hb) GR);rw [Kv] at hs;have HS := hd2 hs he;clear hs he back mid hdl Gp;generalize l.length = L at *;have e0 := Aa (x := (k : Int) + (N : Int)) GR GR;have e1 := Aa (x := (L : Int) - (k : Int)) GR GR;have e2 : ¬ (k : Int) + (N : Int) < 0 := GR;have e3 : (k : Int) <= (k : Int) + (N : Int) := GR;have e4 : (k : Int) + (N : Int) <= (cap : Int) := GR;have e5 : ¬ (cap : Int) = (k : Int) := GR;cases hop : Wm.opened ((l.drop k).take N) with
    | none =>
     have HP := hd1 hop;clear hop;go_in
     go_wp2_with (first
      | (go_at_call 144; refine FC.mono ?_; rintro e w1 ⟨rfl, b1⟩; have B1 := hd1 b1; clear b1)
      | (go_at_call 145; refine (OC.out _ B1.out).mono ?_; intro e w2 h2; unfold z2t at h2; rw [HP.out] at h2; obtain ⟨b2, rfl⟩ := h2; have B2 := hd1 b2; clear b2))
     go_ret3
     refine vw (B1.trans (B2.mono B1.size)) ?_ HS.2;rw [HS.1, HP.out]
    | some body =>
     have HP := hd1 hop;clear hop;go_in
     go_wp2_with (first
      | (go_at_call 144; refine FC.mono ?_; rintro e w1 ⟨rfl, b1⟩; have B1 := hd1 b1; clear b1)
      | (go_at_call 145; refine (OC.out _ B1.out).mono ?_; intro e w2 h2; unfold z2t at h2; rw [HP.out] at h2; obtain ⟨b2, v2, rfl, y2⟩ := h2; have B2 := hd2 b2 y2; clear b2 y2))
     go_ret3
     refine ⟨B1.trans (B2.1.mono B1.size), ?_⟩;rw [HS.1, HP.out];exact ⟨v2, GV, B2.2.keeps (λ _ _ _ => rfl) (λ k hk _ => IP B1.size hk)⟩
section
attribute [local go_sem] Oper.semAt_some
theorem y9s (w : World) (v : Value) (F : Nat -> Prop) (h : BytesAt w.heap F v []) :
 Calls prog 163 #[v] w λ e w' => e = .returned (.tuple #[.int .i64 0, .int .i64 0]) /\ w = w' := by
 exact Rh
theorem zt {c : UInt8} (h : BytesAt w.heap F v (c :: l)) : ∃ b o n cap, v = .slice (some ⟨b, o, none⟩) n cap /\ n = l.length + 1 /\ w.cell? ⟨b, o, none⟩ = some (.int .u8 c.toNat) /\ ∀ i x, l[i]? = some x -> w.cell? ⟨b, o + (i + 1), none⟩ = some (.int .u8 x.toNat) := by
 rcases h with ⟨_, h⟩ | ⟨b, o, cap, cs, t, fr, rfl, hle, hcap, hF, hrow, hcell⟩
 ·cases h
 ·exact ⟨b, o, _, cap, rfl, rfl, (IJ _ _ _ _ _ _ hrow).trans (hcell 0 c rfl), λ i x hi => (IJ _ _ _ _ _ _ hrow).trans (hcell (i + 1) x hi)⟩
theorem y9t (w : World) (v : Value) (F : Nat -> Prop) (c : UInt8) (l : List UInt8) (h : BytesAt w.heap F v (c :: l)) (hl : l.length <= 1000000000) (hc : Wm.many c = 0) :
 Calls prog 163 #[v] w λ e w' => e = .returned (.tuple #[.int .i64 c.toNat, .int .i64 1]) /\ w = w' := by
 obtain ⟨b, o, n, cap, rfl, hn, k0, _⟩ := zt h;have n0 : ¬ (n : Int) = 0 := GR;have n1 : (0 : Int) < (n : Int) := GR;have c1 : (c.toNat : Int) < 253 := by
  have hq : c.toNat ≠ 253 /\ c.toNat ≠ 254 /\ c.toNat ≠ 255 := by
   refine ⟨λ e => ?_, λ e => ?_, λ e => ?_⟩
   ·have e' : c = 253 := J7.1 e
    subst e'; cases hc
   ·have e' : c = 254 := J7.1 e
    subst e'; cases hc
   ·have e' : c = 255 := J7.1 e
    subst e'; cases hc
  have := c.toNat_lt;omega
 have c0 : (0 : Int) <= (c.toNat : Int) := GR;generalize c.toNat = x at *;clear h hn hc;go_in;go_wp2;go_ret2;exact ⟨rfl, rfl⟩
theorem Gj (l : List UInt8) (i : Nat) (hi : i <= 7) (h : i <= l.length) : nk l i < 72057594037927936 :=
 Jc (Gl l i h) (Lj (n := 256) GU hi)
theorem Gi (l : List UInt8) (i : Nat) (hi : i <= 8) (h : i <= l.length) : nk l i < 18446744073709551616 :=
 Jc (Gl l i h) (Lj (n := 256) GU hi)
theorem y9p (w : World) (v : Value) (F : Nat -> Prop) (l : List UInt8) (h : BytesAt w.heap F v (253 :: l)) (hl : l.length <= 1000000000) :
 Calls prog 163 #[v] w λ e w' => e = .returned (.tuple #[.int .i64 (Wm.first (253 :: l)).1, .int .i64 (Wm.first (253 :: l)).2]) /\ Below w w w' := by
 obtain ⟨b, o, n, cap, rfl, hn, k0, hcell⟩ := zt h;have k0 : w.cell? (b, o) = some (.int .u8 253) := k0;have n0 : ¬ (n : Int) = 0 := GR;have n1 : (0 : Int) < (n : Int) := GR;have hm : Wm.many 253 = 2 := rfl;by_cases hf : l.length < 2
 ·have e : Wm.first (253 :: l) = (0, 0) := by
   show (if Wm.many 253 = 0 then ((253 : UInt8).toNat, (1 : Int)) else if l.length < Wm.many 253 then (0, 0) else _) = _;rw [Iw GU, hm, IA hf]
  rw [e];have d1 : (n : Int) < 3 := GR;exact Qg
 ·have FG := hd1 (CE 253 l GU NS)
  have FN := hd1 (Cz 253 l GU NS);rw [hm] at FG FN;have d1 : ¬ (n : Int) < 3 := GR;have HC := hd3 hcell hn hf;clear h hn hcell hm hf;go_in;go_wp2;go_loopw [5, 6] (λ x s wr => ∃ i : Nat, i <= 2 /\ s = .int .i64 ((i : Int) + 1) /\ x = .int .u64 (nk l i : Nat) /\ w = wr) (λ _ s _ => 2 + 1 - (intOf s).toNat)
  case atStart => exact ⟨0, GR, rfl, rfl, rfl⟩
  case round =>
   obtain ⟨i, hi, rfl, rfl, rfl⟩ := hrel;have hlen : i <= l.length := Hf HC.2.2;by_cases hlt : i < 2
   ·have i0 : (0 : Int) <= (i : Int) := GR
    have i1 : (i : Int) + 1 <= 2 := GR;exact Ox
   ·obtain rfl : i = 2 := GR
    have ng := Gi l 2 GU hlen;clear hlen hlt;by_cases htop : nk l 2 <= 4611686018427387904
    ·have NC := hd1 (vG (nk l 2) w GR)
     by_cases hq : (Wm.aG (nk l 2)).length = 3
     ·have FE := hd1 (FG.out htop hq)
      generalize nk l 2 = R at *;exact OA
     ·have FE := hd1 (FN.out (Iz hq))
      generalize nk l 2 = R at *;have r0 : (0 : Int) <= (R : Int) := GR;have r2 : ¬ (4611686018427387904 : Int) < (R : Int) := GR;have r3 : (R : Int) <= 4611686018427387904 := GR;have hq' : (((Wm.aG R).length : Int) != 3) = true := by rw [KZ]; omega
      exact OL
    ·have FE := hd1 (FN.out (Iy htop))
     generalize nk l 2 = R at *;exact O6
theorem y9q (w : World) (v : Value) (F : Nat -> Prop) (l : List UInt8) (h : BytesAt w.heap F v (254 :: l)) (hl : l.length <= 1000000000) :
 Calls prog 163 #[v] w λ e w' => e = .returned (.tuple #[.int .i64 (Wm.first (254 :: l)).1, .int .i64 (Wm.first (254 :: l)).2]) /\ Below w w w' := by
 obtain ⟨b, o, n, cap, rfl, hn, k0, hcell⟩ := zt h;have k0 : w.cell? (b, o) = some (.int .u8 254) := k0;have n0 : ¬ (n : Int) = 0 := GR;have n1 : (0 : Int) < (n : Int) := GR;have hm : Wm.many 254 = 4 := rfl;by_cases hf : l.length < 4
 ·have e : Wm.first (254 :: l) = (0, 0) := by
   show (if Wm.many 254 = 0 then ((254 : UInt8).toNat, (1 : Int)) else if l.length < Wm.many 254 then (0, 0) else _) = _;rw [Iw GU, hm, IA hf]
  rw [e];have d1 : (n : Int) < 5 := GR;exact Qg
 ·have FG := hd1 (CE 254 l GU NS)
  have FN := hd1 (Cz 254 l GU NS);rw [hm] at FG FN;have d1 : ¬ (n : Int) < 5 := GR;have HC := hd3 hcell hn hf;clear h hn hcell hm hf;go_in;go_wp2;go_loopw [5, 6] (λ x s wr => ∃ i : Nat, i <= 4 /\ s = .int .i64 ((i : Int) + 1) /\ x = .int .u64 (nk l i : Nat) /\ w = wr) (λ _ s _ => 4 + 1 - (intOf s).toNat)
  case atStart => exact ⟨0, GR, rfl, rfl, rfl⟩
  case round =>
   obtain ⟨i, hi, rfl, rfl, rfl⟩ := hrel;have hlen : i <= l.length := Hf HC.2.2;by_cases hlt : i < 4
   ·have i0 : (0 : Int) <= (i : Int) := GR
    have i1 : (i : Int) + 1 <= 4 := GR;exact Ox
   ·obtain rfl : i = 4 := GR
    have ng := Gi l 4 GU hlen;clear hlen hlt;by_cases htop : nk l 4 <= 4611686018427387904
    ·have NC := hd1 (vG (nk l 4) w GR)
     by_cases hq : (Wm.aG (nk l 4)).length = 5
     ·have FE := hd1 (FG.out htop hq)
      generalize nk l 4 = R at *;exact OA
     ·have FE := hd1 (FN.out (Iz hq))
      generalize nk l 4 = R at *;have r0 : (0 : Int) <= (R : Int) := GR;have r2 : ¬ (4611686018427387904 : Int) < (R : Int) := GR;have r3 : (R : Int) <= 4611686018427387904 := GR;have hq' : (((Wm.aG R).length : Int) != 5) = true := by rw [KZ]; omega
      exact OL
    ·have FE := hd1 (FN.out (Iy htop))
     generalize nk l 4 = R at *;exact O6
theorem y9r (w : World) (v : Value) (F : Nat -> Prop) (l : List UInt8) (h : BytesAt w.heap F v (255 :: l)) (hl : l.length <= 1000000000) :
 Calls prog 163 #[v] w λ e w' => e = .returned (.tuple #[.int .i64 (Wm.first (255 :: l)).1, .int .i64 (Wm.first (255 :: l)).2]) /\ Below w w w' := by
 obtain ⟨b, o, n, cap, rfl, hn, k0, hcell⟩ := zt h;have k0 : w.cell? (b, o) = some (.int .u8 255) := k0;have n0 : ¬ (n : Int) = 0 := GR;have n1 : (0 : Int) < (n : Int) := GR;have hm : Wm.many 255 = 8 := rfl;by_cases hf : l.length < 8
 ·have e : Wm.first (255 :: l) = (0, 0) := by
   show (if Wm.many 255 = 0 then ((255 : UInt8).toNat, (1 : Int)) else if l.length < Wm.many 255 then (0, 0) else _) = _;rw [Iw GU, hm, IA hf]
  rw [e];have d1 : (n : Int) < 9 := GR;exact Qg
 ·have FG := hd1 (CE 255 l GU NS)
  have FN := hd1 (Cz 255 l GU NS);rw [hm] at FG FN;have d1 : ¬ (n : Int) < 9 := GR;have HC := hd3 hcell hn hf;clear h hn hcell hm hf;go_in;go_wp2;go_loopw [5, 6] (λ x s wr => ∃ i : Nat, i <= 8 /\ s = .int .i64 ((i : Int) + 1) /\ x = .int .u64 (nk l i : Nat) /\ w = wr) (λ _ s _ => 8 + 1 - (intOf s).toNat)
  case atStart => exact ⟨0, GR, rfl, rfl, rfl⟩
  case round =>
   obtain ⟨i, hi, rfl, rfl, rfl⟩ := hrel;have hlen : i <= l.length := Hf HC.2.2;by_cases hlt : i < 8
   ·have i0 : (0 : Int) <= (i : Int) := GR
    have i1 : (i : Int) + 1 <= 8 := GR;exact Ox
   ·obtain rfl : i = 8 := GR
    have ng := Gi l 8 GU hlen;clear hlen hlt;by_cases htop : nk l 8 <= 4611686018427387904
    ·have NC := hd1 (vG (nk l 8) w GR)
     by_cases hq : (Wm.aG (nk l 8)).length = 9
     ·have FE := hd1 (FG.out htop hq)
      generalize nk l 8 = R at *;exact OA
     ·have FE := hd1 (FN.out (Iz hq))
      generalize nk l 8 = R at *;have r0 : (0 : Int) <= (R : Int) := GR;have r2 : ¬ (4611686018427387904 : Int) < (R : Int) := GR;have r3 : (R : Int) <= 4611686018427387904 := GR;have hq' : (((Wm.aG R).length : Int) != 9) = true := by rw [KZ]; omega
      exact OL
    ·have FE := hd1 (FN.out (Iy htop))
     generalize nk l 8 = R at *;exact O6
theorem Fp (h : BytesAt w.heap F v l) (hl : l.length <= 1000000000) :
 Calls prog 163 #[v] w λ e w' => e = .returned (.tuple #[.int .i64 (Wm.first l).1, .int .i64 (Wm.first l).2]) /\ Below w w w' := by
 cases l with
 | nil => exact (y9s w v F h).mono MJ
 | cons c r =>
  have hr : r.length <= 1000000000 := by rw [I6] at hl; omega
  by_cases h1 : c = 253
  ·subst h1; exact y9p w v F r h hr
  ·by_cases h2 : c = 254
   ·subst h2; exact y9q w v F r h hr
   ·by_cases h3 : c = 255
    ·subst h3; exact y9r w v F r h hr
    ·have hc : Wm.many c = 0 := by unfold Wm.many; rw [Iw h1, Iw h2, Iw h3]
     have e : Wm.first (c :: r) = (c.toNat, 1) := IA hc;rw [e];exact (y9t w v F c r h hr hc).mono MJ
end
end Go.Proofs.YtgffifleflkjoaaGreat
