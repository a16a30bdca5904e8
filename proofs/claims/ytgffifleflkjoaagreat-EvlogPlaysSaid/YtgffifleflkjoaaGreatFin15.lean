/-
  Parts of a proof.
-/
import Derived.Test.YtgffifleflkjoaaGreatFin13
set_option linter.unusedSimpArgs false
set_option linter.unusedVariables false
set_option maxRecDepth 100000
set_option maxHeartbeats 16000000
namespace Go.Proofs.YtgffifleflkjoaaGreat
open _root_.Go.Proofs.Tryz
variable {w W w' w0 wr w1 W0 W1 W2 A B : World} {F G F' O : Nat → Prop} {v : Value} {l : List UInt8} {n q m pd md pl g p : Nat} {C : Array Value} {c : Int}
open Go.RowKit
def hp (n k i : Nat) : List UInt8 := (List.range i).map λ j => UInt8.ofNat (n / 256 ^ (k - 1 - j) % 256)
theorem fw (n k i : Nat) : hp n k (i + 1) = hp n k i ++ [UInt8.ofNat (n / 256 ^ (k - 1 - i) % 256)] := by
 unfold hp;rw [List.range_succ, Ki];rfl
theorem fA (n k i : Nat) : (hp n k i).length = i := by simp [hp]
def Aa (w : World) (base : Nat) (v : Value) (l : List UInt8) (e : Ending) (w' : World) : Prop := ∃ v', e = .returned v' /\ b_ w' base v' l /\ Below base w w' /\ cz w w' v v'
theorem x4p (n : Nat) (w : World) (base : Nat) (hbase : base <= w.heap.size) (v : Value) (l : List UInt8) (hv : b_ w base v l) (hl : l.length <= 1000000000) (hn : n < 9223372036854775808) :
 Calls prog 182 #[v, .int .i64 n, .int .i64 2] w (Aa w base v (l ++ Wm.high n 2)) := by
 have h0 : (0 : Int) <= (n : Int) := GX;have h1 : (n : Int) < 9223372036854775808 := GX;have HB := hd2 hbase hl;have HV := hd1 hv;clear hbase hl hv;go_in;go_wp2;go_loopw [0, 7, 9] (λ x _ s wr => ∃ i : Nat, i <= 2 /\ s = .int .i64 (i : Int) /\ b_ wr base x (l ++ hp n 2 i) /\ cz w wr v x /\ w.heap.size <= wr.heap.size) (λ _ _ s _ => 2 - (intOf s).toNat)
 case atStart => exact ⟨0, GX, rfl, by rw [show hp n 2 0 = [] from rfl, JA]; exact HV.out, cz.refl _ _, Nat.le_refl _⟩
 case round =>
  obtain ⟨i, hi, rfl, hown, hb, hsz⟩ := hrel;have HO := hd3 hown hb hsz;clear hown hb hsz;by_cases hlt : i < 2
  ·obtain rfl | rfl : i = 0 \/ i = 1 := GX
   ·go_wp2_with (at_builtin; refine append_grow_e base _ (l ++ hp n 2 0) (bi HO.1 (bla) G7) (one_byte wr _ _ (byte_of n 256 _ GX)) MV MU ?_; intro v' w2 ho hg)
    exact OV
   ·go_wp2_with (at_builtin; refine append_grow_e base _ (l ++ hp n 2 1) (bi HO.1 (bla) G7) (one_byte wr _ _ (byte_of n 1 _ GX)) MV MU ?_; intro v' w2 ho hg)
    exact OW
  ·obtain rfl : i = 2 := GX
   exact Qs
theorem x4q (n : Nat) (w : World) (base : Nat) (hbase : base <= w.heap.size) (v : Value) (l : List UInt8) (hv : b_ w base v l) (hl : l.length <= 1000000000) (hn : n < 9223372036854775808) :
 Calls prog 182 #[v, .int .i64 n, .int .i64 4] w (Aa w base v (l ++ Wm.high n 4)) := by
 have h0 : (0 : Int) <= (n : Int) := GX;have h1 : (n : Int) < 9223372036854775808 := GX;have HB := hd2 hbase hl;have HV := hd1 hv;clear hbase hl hv;go_in;go_wp2;go_loopw [0, 7, 9] (λ x _ s wr => ∃ i : Nat, i <= 4 /\ s = .int .i64 (i : Int) /\ b_ wr base x (l ++ hp n 4 i) /\ cz w wr v x /\ w.heap.size <= wr.heap.size) (λ _ _ s _ => 4 - (intOf s).toNat)
 case atStart => exact ⟨0, GX, rfl, by rw [show hp n 4 0 = [] from rfl, JA]; exact HV.out, cz.refl _ _, Nat.le_refl _⟩
 case round =>
  obtain ⟨i, hi, rfl, hown, hb, hsz⟩ := hrel;have HO := hd3 hown hb hsz;clear hown hb hsz;by_cases hlt : i < 4
  ·obtain rfl | rfl | rfl | rfl : i = 0 \/ i = 1 \/ i = 2 \/ i = 3 := GX
   ·go_wp2_with (at_builtin; refine append_grow_e base _ (l ++ hp n 4 0) (bi HO.1 (bla) G7) (one_byte wr _ _ (byte_of n 16777216 _ GX)) MV MU ?_; intro v' w2 ho hg)
    exact OV
   ·go_wp2_with (at_builtin; refine append_grow_e base _ (l ++ hp n 4 1) (bi HO.1 (bla) G7) (one_byte wr _ _ (byte_of n 65536 _ GX)) MV MU ?_; intro v' w2 ho hg)
    exact OW
   ·go_wp2_with (at_builtin; refine append_grow_e base _ (l ++ hp n 4 2) (bi HO.1 (bla) G7) (one_byte wr _ _ (byte_of n 256 _ GX)) MV MU ?_; intro v' w2 ho hg)
    exact Po
   ·go_wp2_with (at_builtin; refine append_grow_e base _ (l ++ hp n 4 3) (bi HO.1 (bla) G7) (one_byte wr _ _ (byte_of n 1 _ GX)) MV MU ?_; intro v' w2 ho hg)
    exact Pp
  ·obtain rfl : i = 4 := GX
   exact Qs
theorem x4r (n : Nat) (w : World) (base : Nat) (hbase : base <= w.heap.size) (v : Value) (l : List UInt8) (hv : b_ w base v l) (hl : l.length <= 1000000000) (hn : n < 9223372036854775808) :
 Calls prog 182 #[v, .int .i64 n, .int .i64 8] w (Aa w base v (l ++ Wm.high n 8)) := by
 have h0 : (0 : Int) <= (n : Int) := GX;have h1 : (n : Int) < 9223372036854775808 := GX;have HB := hd2 hbase hl;have HV := hd1 hv;clear hbase hl hv;go_in;go_wp2;go_loopw [0, 7, 9] (λ x _ s wr => ∃ i : Nat, i <= 8 /\ s = .int .i64 (i : Int) /\ b_ wr base x (l ++ hp n 8 i) /\ cz w wr v x /\ w.heap.size <= wr.heap.size) (λ _ _ s _ => 8 - (intOf s).toNat)
 case atStart => exact ⟨0, GX, rfl, by rw [show hp n 8 0 = [] from rfl, JA]; exact HV.out, cz.refl _ _, Nat.le_refl _⟩
 case round =>
  obtain ⟨i, hi, rfl, hown, hb, hsz⟩ := hrel;have HO := hd3 hown hb hsz;clear hown hb hsz;by_cases hlt : i < 8
  ·obtain rfl | rfl | rfl | rfl | rfl | rfl | rfl | rfl : i = 0 \/ i = 1 \/ i = 2 \/ i = 3 \/ i = 4 \/ i = 5 \/ i = 6 \/ i = 7 := GX
   ·go_wp2_with (at_builtin; refine append_grow_e base _ (l ++ hp n 8 0) (bi HO.1 (bla) G7) (one_byte wr _ _ (byte_of n 72057594037927936 _ GX)) MV MU ?_; intro v' w2 ho hg)
    exact OV
   ·go_wp2_with (at_builtin; refine append_grow_e base _ (l ++ hp n 8 1) (bi HO.1 (bla) G7) (one_byte wr _ _ (byte_of n 281474976710656 _ GX)) MV MU ?_; intro v' w2 ho hg)
    exact OW
   ·go_wp2_with (at_builtin; refine append_grow_e base _ (l ++ hp n 8 2) (bi HO.1 (bla) G7) (one_byte wr _ _ (byte_of n 1099511627776 _ GX)) MV MU ?_; intro v' w2 ho hg)
    exact Po
   ·go_wp2_with (at_builtin; refine append_grow_e base _ (l ++ hp n 8 3) (bi HO.1 (bla) G7) (one_byte wr _ _ (byte_of n 4294967296 _ GX)) MV MU ?_; intro v' w2 ho hg)
    exact Pp
   ·go_wp2_with (at_builtin; refine append_grow_e base _ (l ++ hp n 8 4) (bi HO.1 (bla) G7) (one_byte wr _ _ (byte_of n 16777216 _ GX)) MV MU ?_; intro v' w2 ho hg)
    have H2 := hd2 ho.out (HO.2.1.trans (((cz.refl _ _).alloc _).trans hg.out));have HS := hd1 hg.grown.size;clear ho hg;go_wp2;go_roundw;case rel => exact ⟨4 + 1, GX, by go_num, by rw [fw, <-I5]; exact H2.1, H2.2, by have := HO.2.2; have := HS.out; simp at this; omega⟩
    case measure => simp [intOf]
   ·go_wp2_with (at_builtin; refine append_grow_e base _ (l ++ hp n 8 5) (bi HO.1 (bla) G7) (one_byte wr _ _ (byte_of n 65536 _ GX)) MV MU ?_; intro v' w2 ho hg)
    have H2 := hd2 ho.out (HO.2.1.trans (((cz.refl _ _).alloc _).trans hg.out));have HS := hd1 hg.grown.size;clear ho hg;go_wp2;go_roundw;case rel => exact ⟨5 + 1, GX, by go_num, by rw [fw, <-I5]; exact H2.1, H2.2, by have := HO.2.2; have := HS.out; simp at this; omega⟩
    case measure => simp [intOf]
   ·go_wp2_with (at_builtin; refine append_grow_e base _ (l ++ hp n 8 6) (bi HO.1 (bla) G7) (one_byte wr _ _ (byte_of n 256 _ GX)) MV MU ?_; intro v' w2 ho hg)
    have H2 := hd2 ho.out (HO.2.1.trans (((cz.refl _ _).alloc _).trans hg.out));have HS := hd1 hg.grown.size;clear ho hg;go_wp2;go_roundw;case rel => exact ⟨6 + 1, GX, by go_num, by rw [fw, <-I5]; exact H2.1, H2.2, by have := HO.2.2; have := HS.out; simp at this; omega⟩
    case measure => simp [intOf]
   ·go_wp2_with (at_builtin; refine append_grow_e base _ (l ++ hp n 8 7) (bi HO.1 (bla) G7) (one_byte wr _ _ (byte_of n 1 _ GX)) MV MU ?_; intro v' w2 ho hg)
    have H2 := hd2 ho.out (HO.2.1.trans (((cz.refl _ _).alloc _).trans hg.out));have HS := hd1 hg.grown.size;clear ho hg;go_wp2;go_roundw;case rel => exact ⟨7 + 1, GX, by go_num, by rw [fw, <-I5]; exact H2.1, H2.2, by have := HO.2.2; have := HS.out; simp at this; omega⟩
    case measure => simp [intOf]
  ·obtain rfl : i = 8 := GX
   exact Qs
theorem BO (n : Nat) (w : World) (base : Nat) (hbase : base <= w.heap.size) (v : Value) (l : List UInt8) (hv : b_ w base v l) (hl : l.length <= 999999999) (hn : n < 9223372036854775808) :
 Calls prog 158 #[v, .int .i64 n] w (Aa w base v (l ++ Wm.aG n)) := by
 have h0 : (0 : Int) <= (n : Int) := GX;have h1 : (n : Int) < 9223372036854775808 := GX;have HB := hd2 hbase hl;have HV := hd1 hv;have HN := hd1 hn;clear hbase hl hv hn;by_cases c1 : n < 253
 ·have d1 : (n : Int) < 253 := GX
  have HW := hd1 (show Wm.aG n = [UInt8.ofNat (n / 1 % 256)] by unfold Wm.aG; rw [IE c1, Nat.div_one, La GX]);clear c1;go_in;go_wp2_with (at_builtin; refine append_grow_e base _ l (bi HV.out (bla) G7) (one_byte w _ _ (byte_of n 1 _ GX)) Ng Nh ?_; intro v' w2 ho hg)
  go_ret;have G := (((cz.refl w v).alloc _).trans hg.out);exact ⟨_, rfl, by rw [HW.out]; exact ho.out, G.below HV.out HB.1, G⟩
 ·have d1 : ¬ (n : Int) < 253 := GX
  by_cases c2 : n < 65536
  ·have d2 : (n : Int) < 65536 := GX
   have HW := hd1 (show Wm.aG n = [253] ++ Wm.high n 2 by unfold Wm.aG; rw [IA c1, IE c2]; rfl);clear c1 c2;go_in
   go_wp2_with (first
    | (at_builtin; refine append_grow_e base [253] l (bi HV.out (bla) G7) (one_byte w _ _ rfl) Ng Nh ?_; intro v' w2 ho hg
       have H2 := hd3 ho.out (((cz.refl w v).alloc _).trans hg.out) hg.grown.size;clear ho hg)
    | (go_at_call 182; refine (x4p n w2 base Mt v' (l ++ [253]) H2.1 Ng HN.out).mono ?_; rintro e w3 ⟨v3, rfl, o3, b3⟩))
   exact PQ
  ·have d2 : ¬ (n : Int) < 65536 := GX
   by_cases c3 : n < 4294967296
   ·have d3 : (n : Int) < 4294967296 := GX
    have HW := hd1 (show Wm.aG n = [254] ++ Wm.high n 4 by unfold Wm.aG; rw [IA c1, IA c2, IE c3]; rfl);clear c1 c2 c3;go_in
    go_wp2_with (first
     | (at_builtin; refine append_grow_e base [254] l (bi HV.out (bla) G7) (one_byte w _ _ rfl) Ng Nh ?_; intro v' w2 ho hg
        have H2 := hd3 ho.out (((cz.refl w v).alloc _).trans hg.out) hg.grown.size;clear ho hg)
     | (go_at_call 182; refine (x4q n w2 base Mt v' (l ++ [254]) H2.1 Ng HN.out).mono ?_; rintro e w3 ⟨v3, rfl, o3, b3⟩))
    exact PQ
   ·have d3 : ¬ (n : Int) < 4294967296 := GX
    have HW := hd1 (show Wm.aG n = [255] ++ Wm.high n 8 by unfold Wm.aG; rw [IA c1, IA c2, IA c3]; rfl);clear c1 c2 c3;go_in
    go_wp2_with (first
     | (at_builtin; refine append_grow_e base [255] l (bi HV.out (bla) G7) (one_byte w _ _ rfl) Ng Nh ?_; intro v' w2 ho hg
        have H2 := hd3 ho.out (((cz.refl w v).alloc _).trans hg.out) hg.grown.size;clear ho hg)
     | (go_at_call 182; refine (x4r n w2 base Mt v' (l ++ [255]) H2.1 Ng HN.out).mono ?_; rintro e w3 ⟨v3, rfl, o3, b3⟩))
    exact PQ
theorem x9y (h : n <= 36028797018963968) : ¬ (36028797018963968 : Int) < (n : Int) := GX
theorem x9x (h : ¬ n <= 36028797018963968) : (36028797018963968 : Int) < (n : Int) := GX
theorem wrap_small (h : n <= 9223372036854775807) : wrap64 (n : Int) = n := by unfold wrap64; omega
theorem x1q (n x : Nat) (hn : n <= 36028797018963968) (hx : x < 256) : bits .or .i64 (wrap64 ((n : Int) * 256)) (x : Int) = wrap64 ((256 * n + x : Nat) : Int) := by
 show IntKind.i64.wrap ((BitVec.ofInt 64 (wrap64 ((n : Int) * 256)) ||| BitVec.ofInt 64 (x : Int)).toNat : Int) = _;have a1 : (BitVec.ofInt 64 (wrap64 ((n : Int) * 256))).toNat = n * 256 := by
  rw [BitVec.toNat_ofInt];unfold wrap64;omega
 have a2 : (BitVec.ofInt 64 (x : Int)).toNat = x := by
  rw [BitVec.toNat_ofInt];omega
 have a3 : n * 256 ||| x = 256 * n + x := by
  have h := Nat.two_pow_add_eq_or_of_lt (i := 8) (b := x) hx n;rw [show n * 256 = 2 ^ 8 * n by omega, <-h]
 rw [BitVec.toNat_or, a1, a2, a3];rw [IntKind.wrap_i64];unfold wrap64;rfl
def nk (l : List UInt8) (i : Nat) : Nat := Wm.iL (l.take i)
theorem tK (l : List UInt8) (i : Nat) (x : UInt8) (h : l[i]? = some x) : nk l (i + 1) = 256 * nk l i + x.toNat := by
 unfold nk Wm.iL;rw [JH, h];simp [Kr]
theorem Gc (l : List UInt8) : nk l 0 = 0 := rfl
theorem x2w (l : List UInt8) (i j : Nat) (h : i + j <= l.length) : 256 ^ j * nk l i <= nk l (i + j) := by
 induction j with
 | zero => simp
 | succ j ih =>
  have hx := IX (l := l) (i := i + j) GX;have e := tK l (i + j) _ hx;rw [<-JD, e, KT, Nat.mul_comm (256 ^ j) 256, Nat.mul_assoc];have := ih GX;omega
theorem Gg (l : List UInt8) (i : Nat) (h : i <= l.length) : nk l i < 256 ^ i := by
 induction i with
 | zero => simp [Gc]
 | succ i ih =>
  have hx := IX (l := l) (i := i) GX;have e := tK l i _ hx;have := ih GX;have h2 := (l[i]'GX).toNat_lt;rw [e, KT];omega
theorem x5e (c : UInt8) (l : List UInt8) (i : Nat) (h0 : Wm.many c ≠ 0) (hf : Wm.many c <= l.length) (hi : i < Wm.many c) (hbig : ¬ nk l i <= 36028797018963968) : Wm.first (c :: l) = (0, -1) := by
 have hg := x2w l i (Wm.many c - i) GX;rw [show i + (Wm.many c - i) = Wm.many c by omega] at hg;have hp : 256 <= 256 ^ (Wm.many c - i) := by
  obtain ⟨d, hd⟩ : ∃ d, Wm.many c - i = d + 1 := ⟨Wm.many c - i - 1, GX⟩;rw [hd, KT];have := Nat.one_le_two_pow (n := 8 * d);have h1 : 0 < 256 ^ d := Nat.pow_pos GY;omega
 have hm := KE (nk l i) hp;have ht : Wm.kJ < nk l (Wm.many c) := by unfold Wm.kJ; omega
 show (if Wm.many c = 0 then (c.toNat, (1 : Int)) else if l.length < Wm.many c then (0, 0) else if Wm.iL (l.take (Wm.many c)) > Wm.kJ \/ (Wm.aG (Wm.iL (l.take (Wm.many c)))).length ≠ 1 + Wm.many c then (0, -1) else (Wm.iL (l.take (Wm.many c)), 1 + (Wm.many c : Int))) = (0, -1);rw [IA h0, IA GX];exact IE (IB ht)
theorem x1b (x : Int) (w : World) (hx : x < 0) :
 Calls prog 158 #[(), .int .i64 x] w λ e w' => ∃ u : UInt8, Aa w w.heap.size (.slice none 0 0) [u] e w' := by
 have d1 : x < 253 := GX;have hb : x % 256 = ((UInt8.ofNat (x % 256).toNat).toNat : Int) := by
  rw [Mg];omega
 have HB := hd1 hb;clear hb;go_in;go_wp2_with (at_builtin; refine append_grow_e w.heap.size [UInt8.ofNat (x % 256).toNat] [] (mG _ _) (one_byte w _ _ HB.out) GZ GZ ?_; intro v' w2 ho hg)
 go_ret;have G := (((cz.refl w (.slice none 0 0)).alloc _).trans hg.out);exact ⟨_, _, rfl, ho.out, G.below (mG _ _) G7, G⟩
theorem z0e (c : UInt8) (l : List UInt8) (h0 : Wm.many c ≠ 0) (hf : Wm.many c <= l.length) :
 Wm.first (c :: l) = if nk l (Wm.many c) > Wm.kJ \/ (Wm.aG (nk l (Wm.many c))).length ≠ 1 + Wm.many c then (0, -1) else (nk l (Wm.many c), 1 + (Wm.many c : Int)) := by
 show (if Wm.many c = 0 then (c.toNat, (1 : Int)) else if l.length < Wm.many c then (0, 0) else _) = _;rw [IA h0, IA GX];rfl
theorem z3r (h : n <= 4611686018427387904) : ¬ (4611686018427387904 : Int) < (n : Int) := GX
theorem y5u (h : ¬ n <= 4611686018427387904) : (4611686018427387904 : Int) < (n : Int) := GX
theorem z3q (h : n <= 4611686018427387904) : n < 9223372036854775808 := GX
theorem CO (c : UInt8) (l : List UInt8) (h0 : Wm.many c ≠ 0) (hf : Wm.many c <= l.length) (ht : nk l (Wm.many c) <= 4611686018427387904) (hq : (Wm.aG (nk l (Wm.many c))).length = 1 + Wm.many c) :
 Wm.first (c :: l) = (nk l (Wm.many c), 1 + (Wm.many c : Int)) := by
 rw [z0e c l h0 hf];refine IA λ h => ?_;rcases h with h | h
 ·exact absurd ht (Nat.not_le.2 h)
 ·exact h hq
theorem CK (c : UInt8) (l : List UInt8) (h0 : Wm.many c ≠ 0) (hf : Wm.many c <= l.length) (h : ¬ nk l (Wm.many c) <= 4611686018427387904 \/ (Wm.aG (nk l (Wm.many c))).length ≠ 1 + Wm.many c) :
 Wm.first (c :: l) = (0, -1) := by
 rw [z0e c l h0 hf];exact IE (h.imp Nat.not_le.1 id)
theorem y3h (h1 : ¬ n <= 9223372036854775807) (h2 : n <= 9223372036854776063) : wrap64 (n : Int) < 0 := by unfold wrap64; omega
theorem x2x (l : List UInt8) (k : Nat) (hk : k + 1 <= l.length) (h : nk l k <= 36028797018963968) : nk l (k + 1) <= 9223372036854776063 := by
 rw [tK l k _ (IX GX)];have := (l[k]'GX).toNat_lt;omega
end Go.Proofs.YtgffifleflkjoaaGreat
