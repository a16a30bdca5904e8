/-
  Parts of a proof.
-/
import Derived.Test.YtgffifleflkjoaaGreatFin04
import Derived.Test.YtgffifleflkjoaaGreatFin05
set_option linter.unusedSimpArgs false
set_option linter.unusedVariables false
set_option maxRecDepth 100000
set_option maxHeartbeats 16000000
namespace Go.Proofs.YtgffifleflkjoaaGreat
open _root_.Go.Proofs.Tryz
variable {w W w' w0 wr w1 W0 W1 W2 A B : World} {F G F' O : Nat → Prop} {v : Value} {l : List UInt8} {n q m pd md pl g p : Nat} {C : Array Value} {c : Int}
open Go.RowKit Dm
theorem z1c (t : Int) (a : Option Addr) (n c : Nat) (w : World) : Calls prog 100 #[.int .i64 t, .slice a n c] w λ e w' =>
 e = .returned (.func (.func 142) #[] #[.pointer (some w.heap.size), .pointer (some (w.heap.size + 1, 0))]) ∧
  (w.alloc (.cells #[.int .i64 t] 3)).alloc (.cells #[.slice a n c] 31) = w' := by
 go_in;go_wp2;exact OJ
theorem x0b (k : Int) (n : Nat) : 0 <= pick k (n + 1) /\ pick k (n + 1) <= n := by
 unfold pick;have h1 := LA k (b := (n : Int) + 1) GR;have h2 := Int.emod_lt_of_pos k (b := (n : Int) + 1) GR;exact ⟨h1, GR⟩
theorem w0t (q bt bx t b2 o2 len c2 : Nat) (k j : Int) (w : World) (R : World -> Prop) (hk : -9223372036854775808 <= k) (hk' : k <= 9223372036854775807) (hlen : len <= 1048576) (hlc : len <= c2) (hc2 : c2 <= 9223372036854775807)
 (hj : pick k ((len : Int) + 1) = j) (hj0 : 0 <= j) (hj1 : j <= (len : Int))
 (hbt : w.cell? bt = some (.int .i64 t)) (hbx : w.cell? bx = some (.slice (some (b2, o2)) len c2))
 (hR : Calls prog 142 #[q, w.heap.size, (w.heap.size + 1, 0)]
  ((((w.drew).alloc (.cells #[.int .i64 t] 3)).alloc (.cells #[.slice (some (b2, o2)) j.toNat c2] 31))) λ e w' => e = .returned (.tuple #[]) /\ R w') :
 Calls prog 101 #[q, .int .i64 k, bt, bx] w λ e w' => e = .returned (.tuple #[]) /\ R w' := by
 have HR := hd1 hR;have HJ := hd1 hj;clear hR hj;have hwr : IntKind.i64.wrap ((len : Int) + 1) = (len : Int) + 1 := by simp [IntKind.wrap, IntKind.bits, IntKind.signed]; omega
 have hj2 : j <= (c2 : Int) := GR;have c1 : ∀ x : Ext w.heap.size w, x.world.cell? bt = some (.int .i64 t) := λ x => x.cell (IX hbt) hbt;have c2' : ∀ x : Ext w.heap.size w, x.world.cell? bx = some (.slice (some (b2, o2)) len c2) := λ x => x.cell (IX hbx) hbx;go_in;go_wp2;refine bC (λ w' => ∃ x : Ext w.heap.size w, w' = x.world) [10] GQ ?_;refine aI [0, 1, 2, 3, 4, 5, 9] 4 _ ⟨⟨w.drew, GY.drew⟩, rfl⟩ GQ ?_;refine G9 ?_;refine az 6 3 _ _ rfl GQ ?_;refine IE rfl λ K hK => ?_;go_simp;go_at_call 46;refine (vK k ((len : Int) + 1) _ hk hk' GR GR).mono ?_;exact OO
theorem w0s (q bt bx t : Nat) (k : Int) (w : World) (R : World -> Prop) (hk : -9223372036854775808 <= k) (hk' : k <= 9223372036854775807)
 (hbt : w.cell? bt = some (.int .i64 t)) (hbx : w.cell? bx = some (.slice none 0 0))
 (hR : Calls prog 142 #[q, w.heap.size, (w.heap.size + 1, 0)]
  ((((w.drew).alloc (.cells #[.int .i64 t] 3)).alloc (.cells #[()] 31))) λ e w' => e = .returned (.tuple #[]) /\ R w') :
 Calls prog 101 #[q, .int .i64 k, bt, bx] w λ e w' => e = .returned (.tuple #[]) /\ R w' := by
 have HR := hd1 hR;have HJ := hd1 (show pick k 1 = 0 by unfold pick; omega);clear hR;have c1 : ∀ x : Ext w.heap.size w, x.world.cell? bt = some (.int .i64 t) := λ x => x.cell (IX hbt) hbt;have c2' : ∀ x : Ext w.heap.size w, x.world.cell? bx = some (.slice none 0 0) := λ x => x.cell (IX hbx) hbx;go_in;go_wp2;refine bC (λ w' => ∃ x : Ext w.heap.size w, w' = x.world) [10] GQ ?_;refine aI [0, 1, 2, 3, 4, 5, 9] 4 _ ⟨⟨w.drew, GY.drew⟩, rfl⟩ GQ ?_;refine G9 ?_;refine az 6 3 _ _ rfl GQ ?_;refine IE rfl λ K hK => ?_;go_simp;go_at_call 46;refine (vK k 1 _ hk hk' GR GR).mono ?_;exact OO
theorem w0r (q bt bx t : Nat) (k : Int) (v v2 : Value) (l l2 : List UInt8) (F : Nat -> Prop) (w : World) (ht : t < 4) (hk : -9223372036854775808 <= k) (hk' : k <= 9223372036854775807) (h1 : l.length <= 1048576) (h2 : l2.length <= 1048576)
 (hbt : w.cell? bt = some (.int .i64 t)) (hbx : w.cell? bx = some v2) (hq : w.cell? (q, 1 + t) = some v) (hf : w.frozen? ⟨q, 1 + t, none⟩ = false)
 (hv : BytesAt w.heap F v l) (hv2 : BytesAt w.heap F v2 l2) :
 Calls prog 101 #[q, .int .i64 k, bt, bx] w λ e w' => e = .returned (.tuple #[]) /\ Dx w F q t (l ++ l2.take (pick k (l2.length + 1)).toNat) w' := by
 have lt := IX hq;obtain ⟨p0, p1⟩ := x0b k l2.length
 have mid : ∀ (u : Value), BytesAt w.heap F u (l2.take (pick k (l2.length + 1)).toNat) ->
  Calls prog 142 #[.pointer (some ⟨q, 0, none⟩), .pointer (some ⟨w.heap.size, 0, none⟩), .pointer (some ⟨w.heap.size + 1, 0, none⟩)]
   ((w.drew.alloc (.cells #[.int .i64 t] 3)).alloc (.cells #[u] 31)) λ e w' => e = .returned (.tuple #[]) /\ Dx w F q t (l ++ l2.take (pick k (l2.length + 1)).toNat) w' := by
  intro u hu;have hb : Below w w ((w.drew.alloc (.cells #[.int .i64 t] 3)).alloc (.cells #[u] 31)) := ((GY.drew).alloc GZ _).alloc GV _;have st : ∀ {x : Value} {y : List UInt8}, BytesAt w.heap F x y -> BytesAt ((w.drew.alloc (.cells #[.int .i64 t] 3)).alloc (.cells #[u] 31)).heap F x y := by
   intro x y hx;rcases hx with hx | ⟨b, o, cap, c, tt, fr, g1, g2, g3, g4, g5, g6⟩
   ·exact Iy hx
   ·exact Iz ⟨b, o, cap, c, tt, fr, g1, g2, g3, g4, (hb.block b (Jf.1 g5).1).trans g5, g6⟩
  refine (y1f q w.heap.size (w.heap.size + 1) t v u l (l2.take (pick k (l2.length + 1)).toNat) F _ ht ?_ ?_ ?_ ((hb.cell lt).trans hq) ((hb.frozen lt).trans hf) (st hv) (st hu)).mono ?_
  ·simp only [I4]; omega
  ·rw [Mg _ _ _ GV]
   exact IJ _ _ _ _ _ _ (IC w.drew (.cells #[.int .i64 t] 3))
  ·have e : w.heap.size + 1 = (w.drew.alloc (.cells #[.int .i64 t] 3)).heap.size := GV
   rw [e, IJ _ _ _ _ _ _ (IC (w.drew.alloc (.cells #[.int .i64 t] 3)) (.cells #[u] 31))];rfl
  ·rintro e w' ⟨rfl, v', w1, x1, x2, rfl⟩
   refine ⟨rfl, v', w1, hb.trans (x1.mono hb.size), x2.stays (λ _ _ => rfl) (λ i hi => ?_), rfl⟩;rcases hi with hi | hi
   ·exact Iy hi
   ·exact Iz (IP hb.size hi)
 rcases hv2 with ⟨rfl, rfl⟩ | ⟨b, o, cap, c, tt, fr, rfl, g2, g3, g4, g5, g6⟩
 ·refine w0s q bt bx t k w _ hk hk' hbt hbx (mid _ (Iy ⟨rfl, GV⟩))
 ·refine w0t q bt bx t b o l2.length cap k _ w _ hk hk' h2 g2 g3 rfl p0 p1 hbt hbx (mid _ (Iz ⟨b, o, cap, c, tt, fr, ?_, ?_, g3, g4, g5, λ i x hi => g6 i x ?_⟩))
  ·simp only [I4]; congr 1; omega
  ·simp only [I4]; omega
  ·exact Qr
end Go.Proofs.YtgffifleflkjoaaGreat
