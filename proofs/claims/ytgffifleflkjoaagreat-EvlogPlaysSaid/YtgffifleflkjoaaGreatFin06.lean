/-
  Parts of a proof.
-/
import Derived.Test.YtgffifleflkjoaaGreatFin04
import Derived.Test.YtgffifleflkjoaaGreatFin05
set_option linter.unusedSimpArgs false
set_option linter.unusedVariables false
set_option maxRecDepth 100000
set_option maxHeartbeats 16000000
namespace Go.Proofs.YtgffifleflkjoaaGreat
open _root_.Go.Proofs.Tryz
variable {w W w' w0 wr w1 W0 W1 W2 A B : World} {F G F' O : Nat → Prop} {v : Value} {l : List UInt8} {n q m pd md pl g p : Nat} {C : Array Value} {c : Int}
open Go.RowKit Dm
theorem z1h (t : Int) (a : Option Addr) (n c : Nat) (w : World) : Calls prog 100 #[.int .i64 t, .slice a n c] w λ e w' =>
 e = .returned (.func (.func 142) #[] #[.pointer (some w.heap.size), .pointer (some (w.heap.size + 1, 0))]) ∧
  (w.alloc (.cells #[.int .i64 t] 3)).alloc (.cells #[.slice a n c] 31) = w' := by
 go_in;go_wp2;exact OI
theorem x1u (k : Int) (n : Nat) : 0 <= pick k (n + 1) /\ pick k (n + 1) <= n := by
 unfold pick;have h1 := Ls k (b := (n : Int) + 1) GX;have h2 := Int.emod_lt_of_pos k (b := (n : Int) + 1) GX;exact ⟨h1, GX⟩
theorem w0w (q bt bx t b2 o2 len c2 : Nat) (k j : Int) (w : World) (R : World -> Prop) (hk : -9223372036854775808 <= k) (hk' : k <= 9223372036854775807) (hlen : len <= 1048576) (hlc : len <= c2) (hc2 : c2 <= 9223372036854775807)
 (hj : pick k ((len : Int) + 1) = j) (hj0 : 0 <= j) (hj1 : j <= (len : Int))
 (hbt : w.cell? bt = some (.int .i64 t)) (hbx : w.cell? bx = some (.slice (some (b2, o2)) len c2))
 (hR : Calls prog 142 #[q, w.heap.size, (w.heap.size + 1, 0)]
  ((((w.drew).alloc (.cells #[.int .i64 t] 3)).alloc (.cells #[.slice (some (b2, o2)) j.toNat c2] 31))) λ e w' => e = .returned (.tuple #[]) /\ R w') :
 Calls prog 101 #[q, .int .i64 k, bt, bx] w λ e w' => e = .returned (.tuple #[]) /\ R w' := by
 have HR := hd1 hR;have HJ := hd1 hj;clear hR hj;have hwr : IntKind.i64.wrap ((len : Int) + 1) = (len : Int) + 1 := by simp [IntKind.wrap, IntKind.bits, IntKind.signed]; omega
 have hj2 : j <= (c2 : Int) := GX;have c1 : ∀ x : Ext w.heap.size w, x.world.cell? bt = some (.int .i64 t) := λ x => x.cell (IZ hbt) hbt;have c2' : ∀ x : Ext w.heap.size w, x.world.cell? bx = some (.slice (some (b2, o2)) len c2) := λ x => x.cell (IZ hbx) hbx;go_in;go_wp2;refine bD (λ w' => ∃ x : Ext w.heap.size w, w' = x.world) [10] GV ?_;refine aL [0, 1, 2, 3, 4, 5, 9] 4 _ ⟨⟨w.drew, G6.drew⟩, rfl⟩ GV ?_;refine Hd ?_;refine aA 6 3 _ _ rfl GV ?_;refine IJ rfl λ K hK => ?_;go_simp;go_at_call 46;refine (vS k ((len : Int) + 1) _ hk hk' GX GX).mono ?_;exact OU
theorem w0v (q bt bx t : Nat) (k : Int) (w : World) (R : World -> Prop) (hk : -9223372036854775808 <= k) (hk' : k <= 9223372036854775807)
 (hbt : w.cell? bt = some (.int .i64 t)) (hbx : w.cell? bx = some (.slice none 0 0))
 (hR : Calls prog 142 #[q, w.heap.size, (w.heap.size + 1, 0)]
  ((((w.drew).alloc (.cells #[.int .i64 t] 3)).alloc (.cells #[()] 31))) λ e w' => e = .returned (.tuple #[]) /\ R w') :
 Calls prog 101 #[q, .int .i64 k, bt, bx] w λ e w' => e = .returned (.tuple #[]) /\ R w' := by
 have HR := hd1 hR;have HJ := hd1 (show pick k 1 = 0 by unfold pick; omega);clear hR;have c1 : ∀ x : Ext w.heap.size w, x.world.cell? bt = some (.int .i64 t) := λ x => x.cell (IZ hbt) hbt;have c2' : ∀ x : Ext w.heap.size w, x.world.cell? bx = some (.slice none 0 0) := λ x => x.cell (IZ hbx) hbx;go_in;go_wp2;refine bD (λ w' => ∃ x : Ext w.heap.size w, w' = x.world) [10] GV ?_;refine aL [0, 1, 2, 3, 4, 5, 9] 4 _ ⟨⟨w.drew, G6.drew⟩, rfl⟩ GV ?_;refine Hd ?_;refine aA 6 3 _ _ rfl GV ?_;refine IJ rfl λ K hK => ?_;go_simp;go_at_call 46;refine (vS k 1 _ hk hk' GX GX).mono ?_;exact OU
theorem w0u (q bt bx t : Nat) (k : Int) (v v2 : Value) (l l2 : List UInt8) (F : Nat -> Prop) (w : World) (ht : t < 4) (hk : -9223372036854775808 <= k) (hk' : k <= 9223372036854775807) (h1 : l.length <= 1048576) (h2 : l2.length <= 1048576)
 (hbt : w.cell? bt = some (.int .i64 t)) (hbx : w.cell? bx = some v2) (hq : w.cell? (q, 1 + t) = some v) (hf : w.frozen? ⟨q, 1 + t, none⟩ = false)
 (hv : BytesAt w.heap F v l) (hv2 : BytesAt w.heap F v2 l2) :
 Calls prog 101 #[q, .int .i64 k, bt, bx] w λ e w' => e = .returned (.tuple #[]) /\ Dz w F q t (l ++ l2.take (pick k (l2.length + 1)).toNat) w' := by
 have lt := IZ hq;obtain ⟨p0, p1⟩ := x1u k l2.length
 have mid : ∀ (u : Value), BytesAt w.heap F u (l2.take (pick k (l2.length + 1)).toNat) ->
  Calls prog 142 #[.pointer (some ⟨q, 0, none⟩), .pointer (some ⟨w.heap.size, 0, none⟩), .pointer (some ⟨w.heap.size + 1, 0, none⟩)]
   ((w.drew.alloc (.cells #[.int .i64 t] 3)).alloc (.cells #[u] 31)) λ e w' => e = .returned (.tuple #[]) /\ Dz w F q t (l ++ l2.take (pick k (l2.length + 1)).toNat) w' := by
  intro u hu;have hb : Below w w ((w.drew.alloc (.cells #[.int .i64 t] 3)).alloc (.cells #[u] 31)) := ((G6.drew).alloc G7 _).alloc GZ _;have st : ∀ {x : Value} {y : List UInt8}, BytesAt w.heap F x y -> BytesAt ((w.drew.alloc (.cells #[.int .i64 t] 3)).alloc (.cells #[u] 31)).heap F x y := by
   intro x y hx;rcases hx with hx | ⟨b, o, cap, c, tt, fr, g1, g2, g3, g4, g5, g6⟩
   ·exact IB hx
   ·exact IC ⟨b, o, cap, c, tt, fr, g1, g2, g3, g4, (hb.block b (Jk.1 g5).1).trans g5, g6⟩
  refine (y1f q w.heap.size (w.heap.size + 1) t v u l (l2.take (pick k (l2.length + 1)).toNat) F _ ht ?_ ?_ ?_ ((hb.cell lt).trans hq) ((hb.frozen lt).trans hf) (st hv) (st hu)).mono ?_
  ·simp only [I7]; omega
  ·rw [Li _ _ _ GZ]
   exact IM _ _ _ _ _ _ (II w.drew (.cells #[.int .i64 t] 3))
  ·have e : w.heap.size + 1 = (w.drew.alloc (.cells #[.int .i64 t] 3)).heap.size := GZ
   rw [e, IM _ _ _ _ _ _ (II (w.drew.alloc (.cells #[.int .i64 t] 3)) (.cells #[u] 31))];rfl
  ·rintro e w' ⟨rfl, v', w1, x1, x2, rfl⟩
   refine ⟨rfl, v', w1, hb.trans (x1.mono hb.size), x2.stays (λ _ _ => rfl) (λ i hi => ?_), rfl⟩;rcases hi with hi | hi
   ·exact IB hi
   ·exact IC (IV hb.size hi)
 rcases hv2 with ⟨rfl, rfl⟩ | ⟨b, o, cap, c, tt, fr, rfl, g2, g3, g4, g5, g6⟩
 ·refine w0v q bt bx t k w _ hk hk' hbt hbx (mid _ (IB ⟨rfl, GZ⟩))
 ·refine w0w q bt bx t b o l2.length cap k _ w _ hk hk' h2 g2 g3 rfl p0 p1 hbt hbx (mid _ (IC ⟨b, o, cap, c, tt, fr, ?_, ?_, g3, g4, g5, λ i x hi => g6 i x ?_⟩))
  ·simp only [I7]; congr 1; omega
  ·simp only [I7]; omega
  ·exact Qw
def y2q (v : Value) (args : Array Value) (w : World) (R : Ending -> World -> Prop) : Prop :=
 ∃ fn lb, v = .func (.func fn) #[] lb /\ (∀ args w, (callFunc fn args).run prog w = .ok (.enter fn args) w) /\ Calls prog fn (args ++ lb) w R
theorem lF {n k : Int} (h0 : 0 <= n) (h1 : n <= k) : ∃ t : Nat, n = t /\ (t : Int) <= k := ⟨n.toNat, GX, GX⟩
theorem z1w (s : Step) (many : Int) (hs : s.ok many) (q m : Nat) (x : St) (F : Nat -> Prop) (ty : TypeId) (rest : List Value) (w : World) (does part tape w0 w1 w2 str : Value) (hst : gI w.heap F s does part tape w0 w1 w2 str)
 (hx : ∀ t, (x.tp t).length <= 1048576) (h : iY w.heap q m x F ty rest) : y2q does #[.pointer (some q)] w (u_ w q m (x.done s) F ty rest) := by
 obtain ⟨_, _, _, _, h5⟩ := hst;obtain ⟨k0, kt⟩ := h.cell;rcases h5 with ⟨g1, g2, bn, bx, f1, f2, g3, g4, g5, g6⟩ | ⟨g1, g2, bt, bx, mR, bx', v, f1, f2, f3, f4, g3, g4, g5, g6, g7, g8, g9⟩ | ⟨g1, g2, bt, bn, f1, f2, g3, g4, g5, g6⟩
 ·have hb : s.b.length = 256 := by
   exact PI
  exact QY
 ·have hb : 0 <= s.n /\ s.n <= 3 /\ s.b.length <= 1048576 := by
   exact QI
  obtain ⟨t, et, ht⟩ := lF hb.1 hb.2.1;obtain ⟨u, hu1, hu2, hu3⟩ := kt t GX;have lx := hx t;refine ⟨_, _, g3, enters_of func142 GV rfl, (y1f q mR bx' t u v (x.tp t) s.b F w GX GX (by rw [IM _ _ _ _ _ _ g6, et]; rfl) (by rw [IM _ _ _ _ _ _ g8]; rfl) hu1 hu2 hu3 g9).mono ?_⟩;rintro e w' ⟨rfl, v', w1, z1, z2, rfl⟩;obtain ⟨y1, y2⟩ := EM h t GX _ _ z1 z2;exact ⟨rfl, y2, by simpa [St.done, g1, et] using y1⟩
 ·have hb : 0 <= s.n /\ s.n <= 3 /\ 0 <= s.many /\ s.many <= 1048576 := by
   rcases hs with hs | hs | hs
   ·omega
   ·omega
   ·exact ⟨hs.2.1, hs.2.2.1, hs.2.2.2.1, hs.2.2.2.2.1⟩
  obtain ⟨t, et, ht⟩ := lF hb.1 hb.2.1;obtain ⟨k, ek, hk⟩ := lF hb.2.2.1 hb.2.2.2;obtain ⟨u, hu1, hu2, hu3⟩ := kt t GX;have c1 : w.cell? bt = some (.int .i64 t) := by rw [IM _ _ _ _ _ _ g5, et]; rfl
  have c2 : w.cell? bn = some (.int .i64 k) := by rw [IM _ _ _ _ _ _ g6, ek]; rfl
  refine ⟨_, _, g3, enters_of func122 GV rfl, ?_⟩;have fin : ∀ v', BytesAt w.heap F v' ((x.tp t).take k) -> ∀ e w', (e = .returned (.tuple #[]) /\ (w.setCell ⟨q, 1 + t, none⟩ v').drew = w') -> u_ w q m (x.done s) F ty rest e w' := by
   rintro v' hv' e w' ⟨rfl, rfl⟩;obtain ⟨y1, y2⟩ := EM h t GX _ v' G6 (hv'.stays (λ _ _ => rfl) (λ _ => IB));refine ⟨rfl, ⟨y2.os, y2.tape, y2.output, y2.size, y2.block⟩, ?_⟩;have e1 : s.what ≠ 1 := GX;have e2 : s.what ≠ 2 := GX;have y3 : iY (w.setCell ⟨q, 1 + t, none⟩ v').heap q m (x.done s) (plus F w (w.setCell ⟨q, 1 + t, none⟩ v')) ty rest := by simpa [St.done, e1, e2, et, ek] using y1
   exact y3
  rcases hu3 with ⟨rfl, hl⟩ | ⟨b, o, cap, c, tt, fr, rfl, r2, r3, r4, r5, r6⟩
  ·refine (x6e q bt bn t k w GX GX c1 c2 hu1 hu2).mono (fin _ (IB ⟨rfl, by rw [hl]; simp⟩))
  ·by_cases hc : (x.tp t).length < k
   ·refine (x6c q bt bn t k b o _ cap w GX r2 r3 hc GX c1 c2 hu1 hu2).mono (fin _ (IC ⟨b, o, cap, c, tt, fr, ?_, ?_, r3, r4, r5, λ i y hi => r6 i y ?_⟩))
    ·rw [Jh GX]
    ·rw [Jh GX]; exact r2
    ·rwa [Jh GX] at hi
   ·refine (x6d q bt bn t k b o _ cap w GX r2 r3 GX GX c1 c2 hu1 hu2).mono (fin _ (IC ⟨b, o, cap, c, tt, fr, ?_, ?_, r3, r4, r5, λ i y hi => r6 i y ?_⟩))
    ·simp only [I7]; congr 1; omega
    ·simp only [I7]; omega
    ·exact Qw
theorem z7p (s : Step) (many : Int) (hs : s.ok many) (q m : Nat) (x : St) (F : Nat -> Prop) (ty : TypeId) (rest : List Value) (w : World) (does part tape w0 w1 w2 str : Value) (k : Int) (hk : -9223372036854775808 <= k) (hk' : k <= 9223372036854775807)
 (hst : gI w.heap F s does part tape w0 w1 w2 str)
 (hx : ∀ t, (x.tp t).length <= 1048576) (hy : ∀ n, (x.sec n).length = 256) (h : iY w.heap q m x F ty rest) : y2q part #[.pointer (some q), .int .i64 k] w (u_ w q m (x.part s k) F ty rest) := by
 obtain ⟨_, _, _, _, h5⟩ := hst;obtain ⟨k0, kt⟩ := h.cell;rcases h5 with ⟨g1, g2, bn, bx, f1, f2, g3, g4, g5, g6⟩ | ⟨g1, g2, bt, bx, mR, bx', v, f1, f2, f3, f4, g3, g4, g5, g6, g7, g8, g9⟩ | ⟨g1, g2, bt, bn, f1, f2, g3, g4, g5, g6⟩
 ·have hb : s.b.length = 256 := by
   exact PI
  exact QY
 ·have hb : 0 <= s.n /\ s.n <= 3 /\ s.b.length <= 1048576 := by
   exact QI
  obtain ⟨t, et, ht⟩ := lF hb.1 hb.2.1;obtain ⟨u, hu1, hu2, hu3⟩ := kt t GX;have lx := hx t;refine ⟨_, _, g4, enters_of func101 GV rfl, (w0u q bt bx t k u v (x.tp t) s.b F w GX hk hk' GX GX (by rw [IM _ _ _ _ _ _ g5, et]; rfl) (by rw [IM _ _ _ _ _ _ g7]; rfl) hu1 hu2 hu3 g9).mono ?_⟩;rintro e w' ⟨rfl, v', w1, z1, z2, rfl⟩;obtain ⟨y1, y2⟩ := EM h t GX _ _ z1 z2;exact ⟨rfl, y2, by simpa [St.part, St.done, g1, et] using y1⟩
 ·refine ⟨_, _, g4, enters_of func123 GV rfl, (x6f _ k w).mono ?_⟩
  rintro e w' ⟨rfl, rfl⟩;refine ⟨rfl, Moves.refl _ _, ?_⟩;have e1 : s.what ≠ 1 := GX;have e2 : s.what ≠ 2 := GX;have : x.part s k = x := by simp [St.part, e1, e2]
  rw [this];exact h.keeps rfl rfl (λ _ _ _ => rfl) (λ _ h _ => IB h) (λ k h => by rcases h with h | h; exact IB h; exact IC h.1)
end Go.Proofs.YtgffifleflkjoaaGreat
