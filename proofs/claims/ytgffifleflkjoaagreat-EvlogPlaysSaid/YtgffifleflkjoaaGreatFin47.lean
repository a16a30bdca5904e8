/-
  Parts of a proof.
-/
import Derived.Test.YtgffifleflkjoaaGreatFin13
set_option linter.unusedSimpArgs false
set_option linter.unusedVariables false
set_option maxRecDepth 100000
set_option maxHeartbeats 16000000
namespace Go.Proofs.YtgffifleflkjoaaGreat
open _root_.Go.Proofs.Tryz
variable {w W w' w0 wr w1 W0 W1 W2 A B : World} {F G F' O : Nat → Prop} {v : Value} {l : List UInt8} {n q m pd md pl g p : Nat} {C : Array Value} {c : Int}
open Go.RowKit
theorem y0q (w : World) (v : Value) (F : Nat -> Prop) (h : BytesAt w.heap F v []) :
 Calls prog 144 #[v] w λ e w' => e = .returned (.tuple #[.int .i64 0, .int .i64 0]) /\ w = w' := by
 exact Rm
abbrev nN : Array MapEntry := #[⟨.int .u8 253, .int .i64 2, 0⟩, ⟨.int .u8 254, .int .i64 4, 1⟩, ⟨.int .u8 255, .int .i64 8, 2⟩]
theorem pF {ops : Array Oper} {rest : List Oper} {o : Oper} {a : Act} {Q : Exit -> Act -> World -> Prop} (hgd : o.guard = none) (m x v : Operand) (ho : o.op = .insert 243 m x v) (es : Array MapEntry) (k : Nat) (n : Int) (u : Value)
 (hm : a.eval m = .map (some w.heap.size)) (hx : a.eval x = .int .u8 n) (hv : a.eval v = u) (hf : Instr.findNow (.int .u8) (.int .u8 n) es.toList 0 = some none)
 (h : wpList prog ops Q rest (a.put o.dst undef) (w.alloc (.map (es.push ⟨.int .u8 n, u, k⟩) (k + 1)))) : wpList prog ops Q (o :: rest) a (w.alloc (.map es k)) :=
 IJ hgd λ K hK => by
  have hrun := y7l (P := prog) (w := w.alloc (.map es k)) 243 5 3 (.int .u8) w.heap.size es k (.int .u8 n) u Ir Ij rfl (II w _) hf;rw [x1x _ _ _ _ rfl] at hrun;unfold Oper.wp execOp;simp only [ho, hm, hx, hv, JI, hrun, JJ, JY];exact hK _ _ h
theorem x3z (w : World) (m : Nat) (h : w.heap[m]? = some (.map nN 3)) (c : UInt8) : (Instr.lookup 243 (.map (some m)) (.int .u8 c.toNat) false).run prog w = .ok (.int .i64 (Wm.many c)) w := by
 by_cases h1 : c = 253
 ·subst h1
  exact AR 243 5 3 (.int .u8) m nN 3 _ (.int .i64 0) false (some (0, .int .i64 2)) Ir Ij rfl h rfl GV
 ·by_cases h2 : c = 254
  ·subst h2
   exact AR 243 5 3 (.int .u8) m nN 3 _ (.int .i64 0) false (some (1, .int .i64 4)) Ir Ij rfl h rfl GV
  ·by_cases h3 : c = 255
   ·subst h3
    exact AR 243 5 3 (.int .u8) m nN 3 _ (.int .i64 0) false (some (2, .int .i64 8)) Ir Ij rfl h rfl GV
   ·have k1 : ¬ c.toNat = 253 := λ e => h1 (Kc.1 e)
    have k2 : ¬ c.toNat = 254 := λ e => h2 (Kc.1 e);have k3 : ¬ c.toNat = 255 := λ e => h3 (Kc.1 e);have i1 : ((c.toNat : Int) == 253) = false := by rw [J9]; omega
    have i2 : ((c.toNat : Int) == 254) = false := by rw [J9]; omega
    have i3 : ((c.toNat : Int) == 255) = false := by rw [J9]; omega
    have hm : Wm.many c = 0 := by unfold Wm.many; rw [IA h1, IA h2, IA h3]
    rw [hm];refine AR 243 5 3 (.int .u8) m nN 3 _ (.int .i64 0) false none Ir Ij rfl h ?_ GV;simp only [nN, Instr.findNow, Instr.sameNow, i1, i2, i3, I6]
theorem Ef {ops : Array Oper} {rest : List Oper} {o : Oper} {a : Act} {Q : Exit -> Act -> World -> Prop} (hgd : o.guard = none) (m x : Operand) (ho : o.op = .lookup 243 m x false) (b : Nat) (c : UInt8)
 (hm : a.eval m = .map (some b)) (hx : a.eval x = .int .u8 c.toNat) (hb : w.heap[b]? = some (.map nN 3))
 (h : wpList prog ops Q rest (a.put o.dst (.int .i64 (Wm.many c))) w) : wpList prog ops Q (o :: rest) a w :=
 IJ hgd λ K hK => by
  have hrun := x3z w b hb c;unfold Oper.wp execOp;simp only [ho, hm, hx, JI, hrun, JJ, JY];exact hK _ _ h
theorem x5i (w : World) (v : Value) (F : Nat -> Prop) (c : UInt8) (l : List UInt8) (h : BytesAt w.heap F v (c :: l)) (hl : l.length <= 1000000000) (hc : Wm.many c = 0) :
 Calls prog 144 #[v] w λ e w' => e = .returned (.tuple #[.int .i64 c.toNat, .int .i64 1]) /\ Below w w w' := by
 obtain ⟨b, o, cap, cs, t, fr, rfl, hle, hcap, hF, hrow, hcell⟩ : ∃ (b o cap : Nat) (cs : Array Value) (t : TypeId) (fr : Nat × Nat), v = .slice (some ⟨b, o, none⟩) (c :: l).length cap /\ (c :: l).length <= cap /\ cap <= 9223372036854775807 /\ F b /\ w.heap[b]? = some (.cells cs t fr) /\ ∀ i x, (c :: l)[i]? = some x -> cs[o + i]? = some (bO x) := by
  exact QW
 have k0 : w.cell? (b, o) = some (.int .u8 c.toNat) := (IM _ _ _ _ _ _ hrow).trans (hcell 0 c rfl);have hlt : b < w.heap.size := IZ k0;have k1 : ∀ ob m, ((w.alloc ob).drewN m).cell? (b, o) = some (.int .u8 c.toNat) := λ ob m => ((below_drewN (G6.alloc G7 ob) m).cell (p := ⟨b, o, none⟩) hlt).trans k0;have k2 : ∀ ob, (w.alloc ob).cell? (b, o) = some (.int .u8 c.toNat) := λ ob => ((G6.alloc G7 ob).cell (p := ⟨b, o, none⟩) hlt).trans k0;have hn : ((c :: l).length : Int) = (l.length : Int) + 1 := GZ;generalize (c :: l).length = n at *;have n0 : ¬ (n : Int) = 0 := GX;have n1 : (0 : Int) < (n : Int) := GX;clear hcell hrow hle hcap h;have wc : wrap64 (c.toNat : Int) = c.toNat := by have := c.toNat_lt; unfold wrap64; omega
 have HC := hd1 hc;clear hc;have hmm := @Ky prog;go_in
 go_wp2_with (first
  | (refine pF rfl (.tmp 10) _ _ rfl _ _ 253 _ rfl rfl rfl rfl ?_)
  | (refine pF rfl (.tmp 10) _ _ rfl _ _ 254 _ rfl rfl rfl rfl ?_)
  | (refine pF rfl (.tmp 10) _ _ rfl _ _ 255 _ rfl rfl rfl rfl ?_)
  | (refine Ef rfl (.tmp 11) (.tmp 14) rfl w.heap.size c rfl rfl (II w _) ?_; rw [HC.out]))
 go_ret2;refine ⟨?_, bla⟩;show Ending.returned (.tuple #[.int .i64 (wrap64 c.toNat), .int .i64 1]) = _;rw [wc]
theorem x5f (w : World) (v : Value) (F : Nat -> Prop) (c : UInt8) (l : List UInt8) (h : BytesAt w.heap F v (c :: l)) (hl : l.length <= 1000000000) (hc : Wm.many c ≠ 0) (hf : l.length < Wm.many c) :
 Calls prog 144 #[v] w λ e w' => e = .returned (.tuple #[.int .i64 0, .int .i64 0]) /\ Below w w w' := by
 obtain ⟨b, o, cap, cs, t, fr, rfl, hle, hcap, hF, hrow, hcell⟩ : ∃ (b o cap : Nat) (cs : Array Value) (t : TypeId) (fr : Nat × Nat), v = .slice (some ⟨b, o, none⟩) (c :: l).length cap /\ (c :: l).length <= cap /\ cap <= 9223372036854775807 /\ F b /\ w.heap[b]? = some (.cells cs t fr) /\ ∀ i x, (c :: l)[i]? = some x -> cs[o + i]? = some (bO x) := by
  exact QW
 have k0 : w.cell? (b, o) = some (.int .u8 c.toNat) := (IM _ _ _ _ _ _ hrow).trans (hcell 0 c rfl);have hlt : b < w.heap.size := IZ k0;have k1 : ∀ ob m, ((w.alloc ob).drewN m).cell? (b, o) = some (.int .u8 c.toNat) := λ ob m => ((below_drewN (G6.alloc G7 ob) m).cell (p := ⟨b, o, none⟩) hlt).trans k0;have k2 : ∀ ob, (w.alloc ob).cell? (b, o) = some (.int .u8 c.toNat) := λ ob => ((G6.alloc G7 ob).cell (p := ⟨b, o, none⟩) hlt).trans k0;have hn : ((c :: l).length : Int) = (l.length : Int) + 1 := GZ;generalize (c :: l).length = n at *;have n0 : ¬ (n : Int) = 0 := GX;have n1 : (0 : Int) < (n : Int) := GX;clear hcell hrow hle hcap h;have wc : wrap64 (c.toNat : Int) = c.toNat := by have := c.toNat_lt; unfold wrap64; omega
 have hc0 : ¬ (Wm.many c : Int) = 0 := GX;have hc1 : (l.length : Int) + 1 <= (Wm.many c : Int) := GX;clear hc hf;have hmm := @Ky prog;go_in
 go_wp2_with (first
  | (refine pF rfl (.tmp 10) _ _ rfl _ _ 253 _ rfl rfl rfl rfl ?_)
  | (refine pF rfl (.tmp 10) _ _ rfl _ _ 254 _ rfl rfl rfl rfl ?_)
  | (refine pF rfl (.tmp 10) _ _ rfl _ _ 255 _ rfl rfl rfl rfl ?_)
  | (refine Ef rfl (.tmp 11) (.tmp 14) rfl w.heap.size c rfl rfl (II w _) ?_))
 go_ret2;exact ⟨rfl, bla⟩
end Go.Proofs.YtgffifleflkjoaaGreat
