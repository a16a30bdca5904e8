/-
  Parts of a proof.
-/
import Derived.Test.YtgffifleflkjoaaGreatFin17
import Derived.Test.YtgffifleflkjoaaGreatFin46
set_option linter.unusedSimpArgs false
set_option linter.unusedVariables false
set_option maxRecDepth 100000
set_option maxHeartbeats 16000000
namespace Go.Proofs.YtgffifleflkjoaaGreat
open _root_.Go.Proofs.Tryz
variable {w W w' w0 wr w1 W0 W1 W2 A B : World} {F G F' O : Nat → Prop} {v : Value} {l : List UInt8} {n q m pd md pl g p : Nat} {C : Array Value} {c : Int}
open Go.RowKit
theorem y3p (n : Nat) (h : n < 4294967296) : bits .xor .u32 ((n : Int) / 2) 2197175160 = ((n / 2 ^^^ 2197175160 : Nat) : Int) := by
 rw [show (2197175160 : Int) = ((2197175160 : Nat) : Int) from rfl, show (n : Int) / 2 = ((n / 2 : Nat) : Int) by omega, K_ (n / 2) _ GX GY]
theorem y8v (n : Nat) (w : World) (hn : n < 4294967296) : Calls prog 217 #[w32 n] w λ e w' => e = .returned (w32 (Cm.step n)) /\ w = w' := by
 have h0 : (0 : Int) <= (n : Int) := GX;have h1 : (n : Int) < 4294967296 := GX;by_cases h : n % 2 = 1
 ·have e : Cm.step n = n / 2 ^^^ 2197175160 := by unfold Cm.step; rw [IE h]; rfl
  have HE := hd1 e;have HX := hd1 (y3p n hn);have h2 : ((n : Int) % 2 == 1) = true := by simp; omega
  clear e h;go_in;go_wp2;go_ret;rw [HE.out];exact ⟨IK (λ x => Ending.returned (.int .u32 x)) HX.out, rfl⟩
 ·have e : Cm.step n = n / 2 := by unfold Cm.step; rw [IA h, Nat.xor_zero]
  have HE := hd1 e;have h2 : ((n : Int) % 2 == 1) = false := by simp; omega
  have HD := hd1 (show (n : Int) / 2 = ((n / 2 : Nat) : Int) by omega);clear e h;go_in;go_wp2;go_ret;rw [HE.out];exact ⟨IK (λ x => Ending.returned (.int .u32 x)) HD.out, rfl⟩
theorem x0j (n c : Nat) (w : World) (hn : n < 4294967296) (hc : c < 256) : Calls prog 212 #[w32 n, .int .u8 c] w λ e w' => e = .returned (w32 (Cm.uB n c)) /\ w = w' := by
 have c0 : (0 : Int) <= (c : Int) := GX;have c1 : (c : Int) < 256 := GX;have h0 : (0 : Int) <= (n : Int) := GX;have h1 : (n : Int) < 4294967296 := GX;have hx : bits .xor .u32 (n : Int) (c : Int) = ((n ^^^ c : Nat) : Int) := K_ n c hn GX;have hlt : n ^^^ c < 4294967296 := Nat.xor_lt_two_pow (n := 32) hn GX;have HB := hd1 (Cm.y1l n c hc);generalize n ^^^ c = m at *;go_in;go_wp2;go_loopw [0, 5] (λ x s wr => ∃ k : Nat, k <= 8 /\ s = .int .i64 (k : Int) /\ x = w32 (Cm.steps k m) /\ w = wr) (λ _ s _ => 8 - (intOf s).toNat)
 case atStart => exact ⟨0, GX, rfl, rfl, rfl⟩
 case round =>
  obtain ⟨k, hk, rfl, rfl, rfl⟩ := hrel;by_cases hl : k < 8
  ·have i0 : (0 : Int) <= (k : Int) := GX
   have i1 : (k : Int) < 8 := GX;have SC := hd1 (y8v (Cm.steps k m) w (Cm.yf k hlt));have SS := hd1 (EJ k m);generalize Cm.steps k m = x at *;go_wp2_with (go_at_call 217; refine SC.mono ?_; rintro e w' ⟨rfl, rfl⟩)
   go_roundw;case rel => exact ⟨k + 1, GX, by go_num, by rw [SS.out], trivial⟩
   case measure => simp [intOf]; omega
  ·obtain rfl : k = 8 := GX
   go_wp2;go_ret;exact ⟨by rw [HB.out]; rfl, rfl⟩
theorem y8a (h : BytesAt w.heap F v l) (hl : l.length <= 9223372036854775807) :
 Calls prog 195 #[.int .u32 0, v] w λ e w' => e = .returned (w32 (Cm.sum l)) /\ w = w' := by
 obtain ⟨a, cap, rfl⟩ := h.slice;have HV := hd1 h;generalize hn : l.length = n at *;have HN := hd1 hn;clear h hn;go_in;go_wp2;go_loopw [5, 6] (λ x s wr => ∃ k : Nat, k <= n /\ s = .int .i64 (k : Int) /\ x = w32 (Cm.fJ Cm.top (l.take k)) /\ w = wr) (λ _ s _ => n - (intOf s).toNat)
 case atStart => exact ⟨0, GX, rfl, rfl, rfl⟩
 case round =>
  obtain ⟨k, hk, rfl, rfl, rfl⟩ := hrel;have z0z : Cm.fJ Cm.top (l.take k) < 4294967296 := Cm.Bl _ GY;by_cases hlt : k < n
  ·have i0 : (0 : Int) <= (k : Int) := GX
   have i1 : (k : Int) < (n : Int) := GX;obtain ⟨u, hu⟩ : ∃ u, l[k]? = some u := ⟨_, IX Nl⟩;obtain ⟨b, o, rfl, hbg, hbl, hc⟩ := HV.byte hu;have hc : w.cell? (b, o + k) = some (.int .u8 u.toNat) := hc;have hnext := hd1 (show Cm.fJ Cm.top (l.take (k + 1)) = Cm.uB (Cm.fJ Cm.top (l.take k)) u.toNat by rw [JH, hu, Cm.z6q]; rfl);have BC := hd1 (x0j (Cm.fJ Cm.top (l.take k)) u.toNat w z0z u.toNat_lt);generalize Cm.fJ Cm.top (l.take k) = R at *;clear hu;go_wp2_with (go_at_call 212; refine BC.mono ?_; rintro e w' ⟨rfl, rfl⟩)
   go_roundw;case rel => exact ⟨k + 1, GX, by go_num, by rw [hnext.out], trivial⟩
   case measure => simp [intOf]; omega
  ·obtain rfl : k = n := GX
   have HT := hd1 (show Cm.top - Cm.fJ Cm.top (l.take k) = Cm.sum l by rw [Jh (by rw [HN.out]; omega)]; rfl);generalize Cm.fJ Cm.top (l.take k) = R at *;have hw := hd1 (show (4294967295 - (R : Int)) = ((Cm.top - R : Nat) : Int) by unfold Cm.top; omega);go_wp2;go_ret;rw [<-HT.out];exact ⟨IK (λ x => Ending.returned (.int .u32 x)) hw.out, rfl⟩
theorem y8y (h : BytesAt w.heap F v l) (hl : l.length <= 9223372036854775807) :
 Calls prog 168 #[v] w λ e w' => e = .returned (w32 (Cm.sum l)) /\ w = w' := by
 have MC := hd1 (y8a h hl);clear h hl;go_in;go_wp2_with (go_at_call 195; refine MC.mono ?_; rintro e w1 ⟨rfl, rfl⟩)
 exact OI
theorem x5r (wr : World) {x0 x1 x2 x3 : Int} {u0 u1 u2 u3 : UInt8} (h0 : x0 = u0.toNat) (h1 : x1 = u1.toNat) (h2 : x2 = u2.toNat) (h3 : x3 = u3.toNat) :
 BytesAt (wr.alloc (.cells #[.int .u8 x0, .int .u8 x1, .int .u8 x2, .int .u8 x3] bV)).heap (λ _ => True) (.slice (some wr.heap.size) 4 4) [u0, u1, u2, u3] := by
 refine IC ⟨wr.heap.size, 0, 4, _, _, (0, 0), rfl, Nat.le_refl _, GY, trivial, II wr _, λ i y hi => ?_⟩;subst h0; subst h1; subst h2; subst h3;match i, hi with
 | 0, hi => cases hi; rfl
 | 1, hi => cases hi; rfl
 | 2, hi => cases hi; rfl
 | 3, hi => cases hi; rfl
 | i + 4, hi => simp at hi
theorem x2b (n : Nat) : Cm.low n 4 = [UInt8.ofNat (n / 1 % 256), UInt8.ofNat (n / 256 % 256), UInt8.ofNat (n / 65536 % 256), UInt8.ofNat (n / 16777216 % 256)] := rfl
theorem z5v (h : BytesAt w.heap F v l) (hl : l.length <= 1000000000) : Calls prog 136 #[v] w (gP w (Cm.dm l)) := by
 have H := hd1 h;have SC := hd1 (y8y h GX);have hs : Cm.sum l < 4294967296 := by unfold Cm.sum Cm.top; omega
 have HS := hd1 (show Cm.dm l = l ++ Cm.low (Cm.sum l) 4 from rfl);rw [x2b] at HS;obtain ⟨va, vc, e⟩ := h.slice;subst e;clear h;generalize Cm.sum l = s at *;have h0 : (0 : Int) <= (s : Int) := GX;have h1 : (s : Int) < 4294967296 := GX;go_in
 go_wp2_with (first
  | (go_at_call 168; refine SC.mono ?_; rintro e w1 ⟨rfl, rfl⟩)
  | (at_builtin; refine dP rfl (.tmp 6) (.tmp 7) rfl w.heap.size w.heap.size w (bla) G7 _ [] rfl (BH w) _ l _ rfl (H.below (bla)) Oa GZ ?_; intro v1 w1 o1 b1 b1'
     have H1 := hd2 o1.out b1;clear o1 b1 b1')
  | (at_builtin; refine dP rfl (.tmp 8) (.tmp 20) rfl w.heap.size w.heap.size w (H1.2.alloc H1.2.size _) G7 _ _ rfl (bi H1.1 (bla) G7) _ _ _ rfl (x5r w1 (byte_of s 1 _ GX) (byte_of s 256 _ GX) (byte_of s 65536 _ GX) (byte_of s 16777216 _ GX)) Oa (by have := H1.2.size; simp; omega) ?_; intro v2 w2 o2 b2 b2'))
 go_ret;exact ⟨_, rfl, by rw [HS.out]; simpa using o2.out, b2⟩
theorem y9w (n : Nat) (w : World) (hn : n < 9223372036854775808) : Calls prog 169 #[.int .i64 n, .int .i64 2] w (gP w (Wm.high n 2)) := by
 have h0 : (0 : Int) <= (n : Int) := GX;have h1 : (n : Int) < 9223372036854775808 := GX;go_in;go_wp2;go_loopw [5, 6] (λ x s wr => ∃ i : Nat, i <= 2 /\ s = .int .i64 (1 - (i : Int)) /\ b_ wr w.heap.size x (hp n 2 i) /\ Below w w wr) (λ _ s _ => (intOf s + 1).toNat)
 case atStart => exact ⟨0, GX, rfl, mG _ _, Below.refl _ _⟩
 case round =>
  obtain ⟨i, hi, rfl, hown, hb⟩ := hrel;have HO := hd2 hown hb;clear hown hb;by_cases hlt : i < 2
  ·obtain rfl | rfl : i = 0 \/ i = 1 := GX
   ·have hq : ((n : Int) / 256).tmod 256 = ((n / 256 % 256 : Nat) : Int) := by rw [Jn GX]; omega
    go_wp2_with (at_builtin; refine dP rfl (.tmp 13) (.tmp 21) rfl w.heap.size w.heap.size w (HO.2.alloc HO.2.size _) G7 _ (hp n 2 0) rfl (bi HO.1 (bla) G7) _ [UInt8.ofNat (n / 256 % 256)] (λ _ => True) rfl (one_byte wr _ _ (byte_of n 256 _ GX)) N7 M8 ?_; intro v' w2 ho b2 b2')
    exact Ph
   ·have hq : ((n : Int) / 1).tmod 256 = ((n / 1 % 256 : Nat) : Int) := by rw [Jn GX]; omega
    go_wp2_with (at_builtin; refine dP rfl (.tmp 13) (.tmp 21) rfl w.heap.size w.heap.size w (HO.2.alloc HO.2.size _) G7 _ (hp n 2 1) rfl (bi HO.1 (bla) G7) _ [UInt8.ofNat (n / 1 % 256)] (λ _ => True) rfl (one_byte wr _ _ (byte_of n 1 _ GX)) N7 M8 ?_; intro v' w2 ho b2 b2')
    exact Pi
  ·obtain rfl : i = 2 := GX
   exact Qb
theorem y9x (n : Nat) (w : World) (hn : n < 9223372036854775808) : Calls prog 169 #[.int .i64 n, .int .i64 4] w (gP w (Wm.high n 4)) := by
 have h0 : (0 : Int) <= (n : Int) := GX;have h1 : (n : Int) < 9223372036854775808 := GX;go_in;go_wp2;go_loopw [5, 6] (λ x s wr => ∃ i : Nat, i <= 4 /\ s = .int .i64 (3 - (i : Int)) /\ b_ wr w.heap.size x (hp n 4 i) /\ Below w w wr) (λ _ s _ => (intOf s + 1).toNat)
 case atStart => exact ⟨0, GX, rfl, mG _ _, Below.refl _ _⟩
 case round =>
  obtain ⟨i, hi, rfl, hown, hb⟩ := hrel;have HO := hd2 hown hb;clear hown hb;by_cases hlt : i < 4
  ·obtain rfl | rfl | rfl | rfl : i = 0 \/ i = 1 \/ i = 2 \/ i = 3 := GX
   ·have hq : ((n : Int) / 16777216).tmod 256 = ((n / 16777216 % 256 : Nat) : Int) := by rw [Jn GX]; omega
    go_wp2_with (at_builtin; refine dP rfl (.tmp 13) (.tmp 21) rfl w.heap.size w.heap.size w (HO.2.alloc HO.2.size _) G7 _ (hp n 4 0) rfl (bi HO.1 (bla) G7) _ [UInt8.ofNat (n / 16777216 % 256)] (λ _ => True) rfl (one_byte wr _ _ (byte_of n 16777216 _ GX)) N7 M8 ?_; intro v' w2 ho b2 b2')
    exact Ph
   ·have hq : ((n : Int) / 65536).tmod 256 = ((n / 65536 % 256 : Nat) : Int) := by rw [Jn GX]; omega
    go_wp2_with (at_builtin; refine dP rfl (.tmp 13) (.tmp 21) rfl w.heap.size w.heap.size w (HO.2.alloc HO.2.size _) G7 _ (hp n 4 1) rfl (bi HO.1 (bla) G7) _ [UInt8.ofNat (n / 65536 % 256)] (λ _ => True) rfl (one_byte wr _ _ (byte_of n 65536 _ GX)) N7 M8 ?_; intro v' w2 ho b2 b2')
    exact Pi
   ·have hq : ((n : Int) / 256).tmod 256 = ((n / 256 % 256 : Nat) : Int) := by rw [Jn GX]; omega
    go_wp2_with (at_builtin; refine dP rfl (.tmp 13) (.tmp 21) rfl w.heap.size w.heap.size w (HO.2.alloc HO.2.size _) G7 _ (hp n 4 2) rfl (bi HO.1 (bla) G7) _ [UInt8.ofNat (n / 256 % 256)] (λ _ => True) rfl (one_byte wr _ _ (byte_of n 256 _ GX)) N7 M8 ?_; intro v' w2 ho b2 b2')
    exact P7
   ·have hq : ((n : Int) / 1).tmod 256 = ((n / 1 % 256 : Nat) : Int) := by rw [Jn GX]; omega
    go_wp2_with (at_builtin; refine dP rfl (.tmp 13) (.tmp 21) rfl w.heap.size w.heap.size w (HO.2.alloc HO.2.size _) G7 _ (hp n 4 3) rfl (bi HO.1 (bla) G7) _ [UInt8.ofNat (n / 1 % 256)] (λ _ => True) rfl (one_byte wr _ _ (byte_of n 1 _ GX)) N7 M8 ?_; intro v' w2 ho b2 b2')
    exact P8
  ·obtain rfl : i = 4 := GX
   exact Qb
theorem y9y (n : Nat) (w : World) (hn : n < 9223372036854775808) : Calls prog 169 #[.int .i64 n, .int .i64 8] w (gP w (Wm.high n 8)) := by
 have h0 : (0 : Int) <= (n : Int) := GX;have h1 : (n : Int) < 9223372036854775808 := GX;go_in;go_wp2;go_loopw [5, 6] (λ x s wr => ∃ i : Nat, i <= 8 /\ s = .int .i64 (7 - (i : Int)) /\ b_ wr w.heap.size x (hp n 8 i) /\ Below w w wr) (λ _ s _ => (intOf s + 1).toNat)
 case atStart => exact ⟨0, GX, rfl, mG _ _, Below.refl _ _⟩
 case round =>
  obtain ⟨i, hi, rfl, hown, hb⟩ := hrel;have HO := hd2 hown hb;clear hown hb;by_cases hlt : i < 8
  ·obtain rfl | rfl | rfl | rfl | rfl | rfl | rfl | rfl : i = 0 \/ i = 1 \/ i = 2 \/ i = 3 \/ i = 4 \/ i = 5 \/ i = 6 \/ i = 7 := GX
   ·have hq : ((n : Int) / 72057594037927936).tmod 256 = ((n / 72057594037927936 % 256 : Nat) : Int) := by rw [Jn GX]; omega
    go_wp2_with (at_builtin; refine dP rfl (.tmp 13) (.tmp 21) rfl w.heap.size w.heap.size w (HO.2.alloc HO.2.size _) G7 _ (hp n 8 0) rfl (bi HO.1 (bla) G7) _ [UInt8.ofNat (n / 72057594037927936 % 256)] (λ _ => True) rfl (one_byte wr _ _ (byte_of n 72057594037927936 _ GX)) N7 M8 ?_; intro v' w2 ho b2 b2')
    exact Ph
   ·have hq : ((n : Int) / 281474976710656).tmod 256 = ((n / 281474976710656 % 256 : Nat) : Int) := by rw [Jn GX]; omega
    go_wp2_with (at_builtin; refine dP rfl (.tmp 13) (.tmp 21) rfl w.heap.size w.heap.size w (HO.2.alloc HO.2.size _) G7 _ (hp n 8 1) rfl (bi HO.1 (bla) G7) _ [UInt8.ofNat (n / 281474976710656 % 256)] (λ _ => True) rfl (one_byte wr _ _ (byte_of n 281474976710656 _ GX)) N7 M8 ?_; intro v' w2 ho b2 b2')
    exact Pi
   ·have hq : ((n : Int) / 1099511627776).tmod 256 = ((n / 1099511627776 % 256 : Nat) : Int) := by rw [Jn GX]; omega
    go_wp2_with (at_builtin; refine dP rfl (.tmp 13) (.tmp 21) rfl w.heap.size w.heap.size w (HO.2.alloc HO.2.size _) G7 _ (hp n 8 2) rfl (bi HO.1 (bla) G7) _ [UInt8.ofNat (n / 1099511627776 % 256)] (λ _ => True) rfl (one_byte wr _ _ (byte_of n 1099511627776 _ GX)) N7 M8 ?_; intro v' w2 ho b2 b2')
    exact P7
   ·have hq : ((n : Int) / 4294967296).tmod 256 = ((n / 4294967296 % 256 : Nat) : Int) := by rw [Jn GX]; omega
    go_wp2_with (at_builtin; refine dP rfl (.tmp 13) (.tmp 21) rfl w.heap.size w.heap.size w (HO.2.alloc HO.2.size _) G7 _ (hp n 8 3) rfl (bi HO.1 (bla) G7) _ [UInt8.ofNat (n / 4294967296 % 256)] (λ _ => True) rfl (one_byte wr _ _ (byte_of n 4294967296 _ GX)) N7 M8 ?_; intro v' w2 ho b2 b2')
    exact P8
   ·have hq : ((n : Int) / 16777216).tmod 256 = ((n / 16777216 % 256 : Nat) : Int) := by rw [Jn GX]; omega
    go_wp2_with (at_builtin; refine dP rfl (.tmp 13) (.tmp 21) rfl w.heap.size w.heap.size w (HO.2.alloc HO.2.size _) G7 _ (hp n 8 4) rfl (bi HO.1 (bla) G7) _ [UInt8.ofNat (n / 16777216 % 256)] (λ _ => True) rfl (one_byte wr _ _ (byte_of n 16777216 _ GX)) N7 M8 ?_; intro v' w2 ho b2 b2')
    have H2 := hd2 ho.out b2;clear ho b2 b2';go_wp2;go_roundw;case rel => exact ⟨4 + 1, GX, by go_num, by rw [fw]; exact H2.1, H2.2⟩
    case measure => simp [intOf]
   ·have hq : ((n : Int) / 65536).tmod 256 = ((n / 65536 % 256 : Nat) : Int) := by rw [Jn GX]; omega
    go_wp2_with (at_builtin; refine dP rfl (.tmp 13) (.tmp 21) rfl w.heap.size w.heap.size w (HO.2.alloc HO.2.size _) G7 _ (hp n 8 5) rfl (bi HO.1 (bla) G7) _ [UInt8.ofNat (n / 65536 % 256)] (λ _ => True) rfl (one_byte wr _ _ (byte_of n 65536 _ GX)) N7 M8 ?_; intro v' w2 ho b2 b2')
    have H2 := hd2 ho.out b2;clear ho b2 b2';go_wp2;go_roundw;case rel => exact ⟨5 + 1, GX, by go_num, by rw [fw]; exact H2.1, H2.2⟩
    case measure => simp [intOf]
   ·have hq : ((n : Int) / 256).tmod 256 = ((n / 256 % 256 : Nat) : Int) := by rw [Jn GX]; omega
    go_wp2_with (at_builtin; refine dP rfl (.tmp 13) (.tmp 21) rfl w.heap.size w.heap.size w (HO.2.alloc HO.2.size _) G7 _ (hp n 8 6) rfl (bi HO.1 (bla) G7) _ [UInt8.ofNat (n / 256 % 256)] (λ _ => True) rfl (one_byte wr _ _ (byte_of n 256 _ GX)) N7 M8 ?_; intro v' w2 ho b2 b2')
    have H2 := hd2 ho.out b2;clear ho b2 b2';go_wp2;go_roundw;case rel => exact ⟨6 + 1, GX, by go_num, by rw [fw]; exact H2.1, H2.2⟩
    case measure => simp [intOf]
   ·have hq : ((n : Int) / 1).tmod 256 = ((n / 1 % 256 : Nat) : Int) := by rw [Jn GX]; omega
    go_wp2_with (at_builtin; refine dP rfl (.tmp 13) (.tmp 21) rfl w.heap.size w.heap.size w (HO.2.alloc HO.2.size _) G7 _ (hp n 8 7) rfl (bi HO.1 (bla) G7) _ [UInt8.ofNat (n / 1 % 256)] (λ _ => True) rfl (one_byte wr _ _ (byte_of n 1 _ GX)) N7 M8 ?_; intro v' w2 ho b2 b2')
    have H2 := hd2 ho.out b2;clear ho b2 b2';go_wp2;go_roundw;case rel => exact ⟨7 + 1, GX, by go_num, by rw [fw]; exact H2.1, H2.2⟩
    case measure => simp [intOf]
  ·obtain rfl : i = 8 := GX
   exact Qb
theorem vT (w : World) (x : Int) (u : UInt8) (h : x = u.toNat) : b_ (w.alloc (.cells #[.int .u8 x] bV)) w.heap.size (.slice (some w.heap.size) 1 1) [u] := by
 subst h;exact ⟨rfl, IC ⟨w.heap.size, 1, _, rfl, Nat.le_refl _, II _ _, Nat.le_refl _, GY, rfl, rfl⟩⟩
theorem z0w (n k : Nat) : (Wm.high n k).length = k := by simp [Wm.high]
theorem vP (n : Nat) (w : World) (hn : n < 9223372036854775808) : Calls prog 137 #[.int .i64 n] w (gP w (Wm.aG n)) := by
 have h0 : (0 : Int) <= (n : Int) := GX;have h1 : (n : Int) < 9223372036854775808 := GX;have HN := hd1 hn;clear hn;by_cases c1 : n < 253
 ·have d1 : (n : Int) < 253 := GX
  have HW := hd1 (show Wm.aG n = [UInt8.ofNat (n / 1 % 256)] by unfold Wm.aG; rw [IE c1, Nat.div_one, La GX]);clear c1;go_in;go_wp2;go_ret;exact ⟨_, rfl, by rw [HW.out]; exact vT w _ _ (byte_of n 1 _ GX), bla⟩
 ·have d1 : ¬ (n : Int) < 253 := GX
  by_cases c2 : n < 65536
  ·have d2 : (n : Int) < 65536 := GX
   have HW := hd1 (show Wm.aG n = [253] ++ Wm.high n 2 by unfold Wm.aG; rw [IA c1, IE c2]; rfl);clear c1 c2;go_in
   go_wp2_with (first
    | (go_at_call 169; refine (y9w n _ HN.out).mono ?_; rintro e w2 ⟨v2, rfl, o2, b2⟩; have H2 := hd2 o2 b2; clear o2 b2)
    | (at_builtin; refine dP rfl (.tmp 12) (.tmp 14) rfl w.heap.size w.heap.size w ((bla).trans (H2.2.mono GZ)) G7 _ [253] rfl (bi (vT w _ 253 rfl) H2.2 G7) _ _ _ rfl H2.1.at (by rw [z0w]; simp) MW ?_; intro v' w3 ho b3 b3'))
   exact Qg
  ·have d2 : ¬ (n : Int) < 65536 := GX
   by_cases c3 : n < 4294967296
   ·have d3 : (n : Int) < 4294967296 := GX
    have HW := hd1 (show Wm.aG n = [254] ++ Wm.high n 4 by unfold Wm.aG; rw [IA c1, IA c2, IE c3]; rfl);clear c1 c2 c3;go_in
    go_wp2_with (first
     | (go_at_call 169; refine (y9x n _ HN.out).mono ?_; rintro e w2 ⟨v2, rfl, o2, b2⟩; have H2 := hd2 o2 b2; clear o2 b2)
     | (at_builtin; refine dP rfl (.tmp 19) (.tmp 21) rfl w.heap.size w.heap.size w ((bla).trans (H2.2.mono GZ)) G7 _ [254] rfl (bi (vT w _ 254 rfl) H2.2 G7) _ _ _ rfl H2.1.at (by rw [z0w]; simp) MW ?_; intro v' w3 ho b3 b3'))
    exact Qg
   ·have d3 : ¬ (n : Int) < 4294967296 := GX
    have HW := hd1 (show Wm.aG n = [255] ++ Wm.high n 8 by unfold Wm.aG; rw [IA c1, IA c2, IA c3]; rfl);clear c1 c2 c3;go_in
    go_wp2_with (first
     | (go_at_call 169; refine (y9y n _ HN.out).mono ?_; rintro e w2 ⟨v2, rfl, o2, b2⟩; have H2 := hd2 o2 b2; clear o2 b2)
     | (at_builtin; refine dP rfl (.tmp 23) (.tmp 25) rfl w.heap.size w.heap.size w ((bla).trans (H2.2.mono GZ)) G7 _ [255] rfl (bi (vT w _ 255 rfl) H2.2 G7) _ _ _ rfl H2.1.at (by rw [z0w]; simp) MW ?_; intro v' w3 ho b3 b3'))
    exact Qg
theorem kY (n : Nat) : (Wm.aG n).length <= 9 := by
 unfold Wm.aG;repeat' split
 all_goals simp [Wm.high]
theorem y7b (s : List UInt8) (w : World) (hs : s.length <= 1000000000) : Calls prog 138 #[ag s] w (gP w (Wm.cB s)) := by
 have HW := hd1 (show Wm.cB s = Wm.aG s.length ++ s from rfl);have WS := kY s.length;have NC := hd1 (vP s.length w GX);have hz : ByteArray.size ⟨s.toArray⟩ = s.length := by simp [ByteArray.size]
 go_in
 go_wp2_with (first
  | (go_at_call 137; refine NC.mono ?_; rintro e w2 ⟨v2, rfl, o2, b2⟩; have H2 := hd2 o2 b2; clear o2 b2)
  | (at_builtin; refine wpList_append_text rfl (.tmp 5) (.tmp 6) rfl w.heap.size _ _ rfl H2.1 s rfl GX H2.2.size ?_; intro v' w3 ho hg))
 go_ret;exact ⟨_, rfl, by rw [HW.out]; exact ho.out, (H2.2.trans ((hg.below H2.1 H2.2.size)))⟩
theorem y7c (b : Bool) (w : World) : Calls prog 139 #[.bool b] w (gP w (Wm.jf b)) := by
 cases b
 ·go_in
  go_wp2;go_ret;exact ⟨_, rfl, vT w 0 0 rfl, bla⟩
 ·go_in
  go_wp2;go_ret;exact ⟨_, rfl, vT w 1 1 rfl, bla⟩
theorem Fe (h : BytesAt w.heap F v l) (hl : l.length <= 1000000) : Calls prog 88 #[v] w (gP w (Wm.frame l)) := by
 have SC := hd1 (z5v h GX);have HW := hd1 (show Wm.frame l = Wm.aG (Cm.dm l).length ++ Cm.dm l from rfl);have SL : (Cm.dm l).length = l.length + 4 := by unfold Cm.dm; rw [IQ, Cm.oJ]
 have SB : (Cm.dm l).length <= 1000004 := GX;have WS := kY (Cm.dm l).length;clear SL h;generalize Cm.dm l = s at *;have NC := hd1 (λ (w' : World) => vP s.length w' GX);go_in
 go_wp2_with (first
  | (go_at_call 136; refine SC.mono ?_; rintro e w1 ⟨v1, rfl, o1, b1⟩
     obtain ⟨va, vc, e1⟩ := o1.at.slice;subst e1;have H1 := hd2 o1 b1; clear o1 b1)
  | (go_at_call 137; refine (NC.out _).mono ?_; rintro e w2 ⟨v2, rfl, o2, b2⟩; have H2 := hd2 o2 b2; clear o2 b2)
  | (at_builtin; refine dP rfl (.tmp 8) (.tmp 9) rfl w.heap.size w.heap.size w (H1.2.trans (H2.2.mono H1.2.size)) G7 _ _ rfl (bi H2.1 G6 H1.2.size) _ _ _ rfl (H1.1.at.below H2.2) GX (IV H1.2.size H2.2.size) ?_; intro v' w3 ho b3 b3'))
 exact Qg
def z2v (w : World) (base : Nat) (l : List UInt8) (e : Ending) (w' : World) : Prop := ∃ v', e = .returned v' /\ b_ w' base v' l /\ Below base w w'
theorem Bd {base : Nat} (hb : base <= w.heap.size) (hv : b_ w base v l) (hl : l.length <= 1000000000) (hn : n < 9223372036854775808) : Calls prog 89 #[v, .int .i64 n] w (z2v w base (l ++ Wm.aG n)) := by
 have NC := hd1 (vP n w hn);have WS := kY n;have HV := hd2 hv hb;obtain ⟨va, vc, e1⟩ := hv.at.slice;subst e1;clear hv hb;go_in
 go_wp2_with (first
  | (go_at_call 137; refine NC.mono ?_; rintro e w2 ⟨v2, rfl, o2, b2⟩; have H2 := hd2 o2 b2; clear o2 b2)
  | (at_builtin; refine dP rfl (.tmp 5) (.tmp 7) rfl base base w (H2.2.mono HV.2) G7 _ _ rfl (bi HV.1 H2.2 G7) _ _ _ rfl H2.1.at GX (IV HV.2 H2.2.size) ?_; intro v' w3 ho b3 b3'))
 go_ret;exact ⟨_, rfl, ho.out, b3⟩
theorem AX {base : Nat} {s : List UInt8} (hb : base <= w.heap.size) (hv : b_ w base v l) (hl : l.length <= 1000000000) (hs : s.length <= 1000000000) : Calls prog 90 #[v, ag s] w (z2v w base (l ++ Wm.cB s)) := by
 have NC := hd1 (y7b s w hs);have WS : (Wm.cB s).length <= 1000000009 := by unfold Wm.cB; rw [IQ]; have := kY s.length; omega
 have HV := hd2 hv hb;obtain ⟨va, vc, e1⟩ := hv.at.slice;subst e1;clear hv hb;go_in
 go_wp2_with (first
  | (go_at_call 138; refine NC.mono ?_; rintro e w2 ⟨v2, rfl, o2, b2⟩; have H2 := hd2 o2 b2; clear o2 b2)
  | (at_builtin; refine dP rfl (.tmp 5) (.tmp 7) rfl base base w (H2.2.mono HV.2) G7 _ _ rfl (bi HV.1 H2.2 G7) _ _ _ rfl H2.1.at GX (IV HV.2 H2.2.size) ?_; intro v' w3 ho b3 b3'))
 go_ret;exact ⟨_, rfl, ho.out, b3⟩
open Dm
def qE (w : World) (F : Nat -> Prop) (x : St) (many : Int) (e : Ending) (w' : World) : Prop :=
 ∃ sv t0 t1 t2 t3, e = .returned (.agg #[sv, t0, t1, t2, t3]) /\ Below w.heap.size w w' /\ RB w'.heap (plus F w w') sv t0 t1 t2 t3 x many
theorem nV.one {h : Array Obj} {l : List (Int × List UInt8)} (x : nV h F v l) : v.oneCell' = true := by
 obtain ⟨a, c, rfl, _⟩ := x.slice;rfl
theorem RB.ones {h : Array Obj} {sv t0 t1 t2 t3 : Value} {x : St} {many : Int} (r : RB h F sv t0 t1 t2 t3 x many) : (#[sv, t0, t1, t2, t3] : Array Value).all (·.oneCell') = true := by
 obtain ⟨secs, s1, s2, b0, b1, b2, b3⟩ := r;simp [s1.one, b0.one, b1.one, b2.one, b3.one]
theorem yz {sv t0 t1 t2 t3 : Value} {x : St} {many : Int} (r : RB w.heap F sv t0 t1 t2 t3 x many) (hm : many <= 4096) {s : Step} (hs : s.ok many) {u : Value} (hu : BytesAt w.heap F u s.b) (hx : ∀ t, (x.tp t).length <= 1048576) :
 Calls prog 85 #[.agg #[sv, t0, t1, t2, t3], .agg #[.int .i64 s.what, .int .i64 s.n, .int .i64 s.many, u]] w (qE w F (x.done s) many) := by
 have ones := r.ones;rcases hs with ⟨h1, h2, h3, h4, h5⟩ | ⟨h1, h2, h3, h4, h5⟩ | ⟨h1, h2, h3, h4, h5, h6⟩
 ·obtain ⟨secs, s1, s2, b0, b1, b2, b3⟩ := r
  rw [h1, h4];refine (x0t sv t0 t1 t2 t3 u s.n many s.b F x.sec secs w s1 s2 hm hu h2 h3 ones).mono ?_;rintro e w' ⟨v', nz, rfl, hb, g1, g2⟩;refine ⟨v', t0, t1, t2, t3, rfl, hb, nz, g1, ?_, ?_, ?_, ?_, ?_⟩
  ·simpa [St.done, h1] using g2
  all_goals
   simp only [St.done, h1, I6];first | exact b0.plus hb | exact b1.plus hb | exact b2.plus hb | exact b3.plus hb
 ·obtain ⟨t, et, ht⟩ := lF h2 h3
  obtain ⟨ti, g1, g2⟩ := r.tape t GX;have lx := hx t;rw [h1, et];refine (x6q sv t0 t1 t2 t3 ti u t s.many (x.tp t) s.b F w GX g1 g2 hu GX ones).mono ?_;rintro e w' ⟨v', rfl, hb, bv⟩;obtain ⟨u0, u1, u2, u3, e1, e2⟩ := (r.plus hb).z4g t GX (v := v') (l := x.tp t ++ s.b) (bv.keeps (λ _ _ _ => rfl) (λ k hk hl => by
   rcases hk with hk | hk
   ·exact IB hk
   ·exact IC ⟨hk, hl⟩))
  refine ⟨sv, u0, u1, u2, u3, by rw [e1], hb, ?_⟩;simpa [St.done, h1, et] using e2
 ·obtain ⟨t, et, ht⟩ := lF h2 h3
  obtain ⟨m, em, hmm⟩ := lF h4 h5;obtain ⟨ti, g1, g2⟩ := r.tape t GX;rw [h1, et, em];have fin : ∀ (e : Ending) (w' : World), (e = .returned (.agg (#[sv, t0, t1, t2, t3].setIfInBounds (1 + t) (cutV ti m))) /\ Below w w w') -> qE w F (x.done s) many e w' := by
   rintro e w' ⟨rfl, hb⟩;obtain ⟨u0, u1, u2, u3, e1, e2⟩ := (r.plus hb).z4g t GX (v := cutV ti m) (l := (x.tp t).take m) ((x6g g2 m).plus hb);refine ⟨sv, u0, u1, u2, u3, by rw [e1], hb, ?_⟩;have q1 : ¬ (3 : Int) = 1 := GX;simpa [St.done, h1, et, em] using e2
  rcases g2 with ⟨rfl, hl⟩ | ⟨b, o, cap, c, tt, fr, rfl, r2, r3, r4, r5, r6⟩
  ·refine (x6r sv t0 t1 t2 t3 u t m w GX GX g1 ones).mono ?_
   rintro e w' ⟨rfl, hb⟩;exact fin _ _ ⟨by simp [cutV], hb⟩
  ·refine (x6s sv t0 t1 t2 t3 u b o _ cap t m w GX r2 r3 GX g1 ones).mono ?_
   rintro e w' ⟨rfl, hb⟩;exact fin _ _ ⟨rfl, hb⟩
theorem iC.at {a : Option Addr} {c : Nat} {l : List Step} (x : iC w.heap F (.slice a n c) l) {i : Nat} {s : Step} (hi : l[i]? = some s) :
 n = l.length /\ ∃ b o u, a = some ⟨b, o, none⟩ /\ b < w.heap.size /\ BytesAt w.heap F u s.b /\ w.rangeAt b (o + i * 4) [.int .i64 s.what, .int .i64 s.n, .int .i64 s.many, u] := by
 rcases x with ⟨_, rfl⟩ | ⟨b, o, cap, c', t, fr, h1, h2, h3, g2, g3, g4⟩
 ·cases hi
 ·obtain ⟨w0, w1, w2, u, e0, e1, e2, e3, ⟨rfl, rfl, rfl, e4⟩⟩ := g4 i s hi
  obtain ⟨h4, h5, h6⟩ := JB h1;refine ⟨h5, b, o, u, h4, aa g3, e4, λ j v hj => ?_⟩;rw [IM _ _ _ _ _ _ g3];match j, hj with
  | 0, hj => cases hj; exact e0
  | 1, hj => cases hj; exact e1
  | 2, hj => cases hj; exact e2
  | 3, hj => cases hj; exact e3
  | n + 4, hj => cases hj
theorem iC.slice {h : Array Obj} {l : List Step} (x : iC h F v l) : ∃ a c, v = .slice a l.length c /\ l.length <= c /\ c <= 9223372036854775807 := by
 exact Qt
theorem iC.one {h : Array Obj} {l : List Step} (x : iC h F v l) : v.oneCell' = true := by
 obtain ⟨a, c, rfl, _⟩ := x.slice;rfl
def StF (F : Nat -> Prop) (w : World) : Nat -> Prop := λ k => (F k /\ k < w.heap.size) \/ w.heap.size + 3 <= k
structure zM (w : World) (F : Nat -> Prop) (d : D) (C : Array Value) (k : Nat) (wr : World) : Prop where
 below : Below w.heap.size w wr
 r0 : wr.heap[w.heap.size]? = some (.cells C af (0, 0))
 r1 : wr.heap[w.heap.size + 1]? = some (.cells eX aO (0, 0))
 rb : ∃ sv t0 t1 t2 t3, wr.heap[w.heap.size + 1 + 1]? = some (.cells #[sv, t0, t1, t2, t3] aO (0, 0)) /\ RB wr.heap (StF F w) sv t0 t1 t2 t3 (d.upto k) d.many
theorem zM.step {d : D} {k : Nat} {s : Step} (h : zM w F d C k wr) (hs : d.waits[k]? = some s) {sv t0 t1 t2 t3 : Value} (hb : Below wr wr W1) (hr : RB W1.heap (plus (StF F w) wr W1) sv t0 t1 t2 t3 ((d.upto k).done s) d.many)
 (hm : Moves (λ i => i = w.heap.size + 1 + 1) W1 W2) (hw : W2.heap[w.heap.size + 1 + 1]? = some (.cells #[sv, t0, t1, t2, t3] aO)) : zM w F d C (k + 1) W2 := by
 have z := aa h.r1;obtain ⟨_, _, _, _, _, r2, _⟩ := h.rb;have z2 := aa r2;have hz := h.below.size;have hz1 := hb.size;refine ⟨Moves.new (h.below.trans (hb.mono hz)) hm GX, ?_, ?_, sv, t0, t1, t2, t3, hw, ?_⟩
 ·rw [hm.block _ GX GX, hb.block _ GX]; exact h.r0
 ·rw [hm.block _ GX GX, hb.block _ GX]; exact h.r1
 ·rw [xN hs]
  refine hr.keeps (λ i hi hl => hm.block i hl ?_) (λ i hi _ => ?_)
  ·intro e
   subst e;rcases hi with (hi | hi) | hi
   ·omega
   ·omega
   ·omega
  ·rcases hi with hi | hi
   ·exact hi
   ·exact IC GX
theorem rD : (prog.info? bJ).map (·.size) = some 4 := GV
theorem qQ {d : D} (hr : bU w.heap F v d) (ok : d.ok) (hn : d.waits.length <= 1000000000000) : Calls prog 49 #[v] w (qE w F d.stand d.many) := by
 obtain ⟨sv, t0, t1, t2, t3, wv, rfl, rb, st⟩ := hr;obtain ⟨wa, wc, rfl, hwc, x3d⟩ := st.slice;have ones := rb.ones;generalize hC : dC d.many d.room sv t0 t1 t2 t3 (.slice wa d.waits.length wc) d.dead d.stops = C;have mid : ∀ X : World, X.heap[w.heap.size]? = some (.cells C af) -> X.rangeAt w.heap.size 2 [sv, t0, t1, t2, t3] /\ X.cell? (w.heap.size, 7) = some (.slice wa d.waits.length wc) := λ X hX => by
  rw [<-hC] at hX;refine ⟨λ j u hj => ?_, ae hX rfl⟩;exact PW
 have HD := hd5 rb st ones mid ok;clear rb st ones mid ok hC;have hb0 : Below w w ((w.alloc (.cells C af)).alloc (.cells eX aO)) := (bla).alloc GZ _;have q0 : ((w.alloc (.cells C af)).alloc (.cells eX aO)).heap[w.heap.size]? = some (.cells C af) := aM GZ (II w _);have q1 : ((w.alloc (.cells C af)).alloc (.cells eX aO)).heap[w.heap.size + 1]? = some (.cells eX aO) := bC (w := w.alloc _) _ GZ;have Q := hd3 hb0 q0 q1;clear hb0 q0 q1;go_in
 go_upto_region 2 with (first
  | (refine JE rfl aO (.tmp 5) rfl w.heap.size 2 rfl [sv, t0, t1, t2, t3] _ (HD.2.2.2.1 _ Q.2.1).1 Ib rfl bX ?_)
  | (refine aD rfl aO _ _ rfl (w.heap.size + 1 + 1) #[sv, t0, t1, t2, t3] rfl rfl aO eX (bC (w := (w.alloc (.cells C af)).alloc (.cells eX aO)) _ GZ) bX rfl HD.2.2.1 ?_
     intro W1 HW1 dx jM))
 have z1 : W1.heap.size = w.heap.size + 3 := by rw [jM]; simp
 have z6r : zM w F d C 0 W1 := by
  have b1 : Below w w W1 := Moves.new (Q.1.alloc NP _) dx GX;refine ⟨b1, ?_, ?_, sv, t0, t1, t2, t3, HW1.out, ?_⟩
  ·rw [dx.block _ NP GX]; exact aM NP Q.2.1
  ·rw [dx.block _ NP GX]; exact aM GZ Q.2.2
  ·have : d.upto 0 = d.lasts := by simp [D.upto]
   rw [this];exact HD.1.keeps (λ k _ hl => b1.block k hl) (λ k h hl => IB ⟨h, hl⟩)
 have nX := hd1 z6r;clear z6r dx jM HW1 z1 Q;go_wp2;go_loopg [4] d.waits.length (λ g i wr => ∃ k : Nat, i = .int .i64 (k : Int) /\ g + k = d.waits.length /\ zM w F d C k wr)
 case atStart => exact ⟨0, rfl, rfl, nX.out⟩
 case round =>
  obtain ⟨k, rfl, hg, rel⟩ := hrel;have c7 := (HD.2.2.2.1 _ rel.r0).2;by_cases hlt : k < d.waits.length
  ·obtain ⟨s, hs⟩ : ∃ s, d.waits[k]? = some s := ⟨_, IX hlt⟩
   have pJ : iC wr.heap (StF F w) (.slice wa d.waits.length wc) d.waits := HD.2.1.keeps (λ k _ hl => rel.below.block k hl) (λ k h hl => IB ⟨h, hl⟩);obtain ⟨_, b, o, u, rfl, lb, bu, qW⟩ := pJ.at hs;obtain ⟨sM, t0', t1', t2', Aw, r2, kM⟩ := rel.rb;have ok := HD.2.2.2.2;have pO : s.ok d.many := ok.waits s (Jg hs);have hx : ∀ t, ((d.upto k).tp t).length <= 1048576 := λ t => Ho (ok.tape k t) ok.fE;have DC := hd1 (yz (w := wr.drew) kM ok.many1 pO bu hx);have l0 : w.heap.size < wr.heap.size := aa rel.r0;have x7 : ∀ x : Wd (Below wr wr), x.world.cell? (w.heap.size, 7) = some (.slice (some (b, o)) d.waits.length wc) := λ x => (x.ok.cell (p := ⟨w.heap.size, 7, none⟩) l0).trans c7;have LD0 : Hid (∀ w', (∃ x : Wd (Below wr wr), w' = x.world) -> (Instr.loadAt aO (.pointer (some (w.heap.size + 1 + 1, 0)))).run prog w' = .ok (.agg #[sM, t0', t1', t2', Aw]) w') := by
    rintro w' ⟨x, rfl⟩;exact gy ((x.ok.block _ (aa r2)).trans r2) Ib rfl bX
   have LD5 : Hid (∀ w', (∃ x : Wd (Below wr wr), w' = x.world) -> (Instr.loadAt bJ (.pointer (some ⟨b, o + k * 4, none⟩))).run prog w' = .ok (.agg #[.int .i64 s.what, .int .i64 s.n, .int .i64 s.many, u]) w') := by
    rintro w' ⟨x, rfl⟩;exact Lc x.world b (o + k * 4) bJ [.int .i64 s.what, .int .i64 s.n, .int .i64 s.many, u] _ (λ j v hj => (x.ok.cell (p := ⟨b, o + k * 4 + j, none⟩) lb).trans (qW j v hj)) Il rfl rD
   have H := hd5 rel hs hg r2 kM;have hk0 : (0 : Int) <= (k : Int) := GX;have hk1 : (k : Int) < (d.waits.length : Int) := GX;clear rel hs hg r2 kM bu qW pJ hx pO ok;have ne : Nonempty (Wd (Below wr wr)) := ⟨⟨_, Below.refl _ _⟩⟩;go_upto_region 5 with fail
   refine bD (λ w' => ∃ x : Wd (Below wr wr), w' = x.world) [7] GV ?_;refine aL [0, 1, 2, 3, 4, 5] 2 _ Hu GV ?_;simp only [fmc, fmn, gta, gcs, gcz];refine eH rfl aO (.tmp 3) rfl _ LD0.out ?_;refine ak (λ K hK => ?_); simp only [au, aj]; go_simp; refine hK _ ?_; clear hK K;refine ak (λ K hK => ?_); simp only [au, aj]; go_simp; refine hK _ ?_; clear hK K;refine ak (λ K hK => ?_); simp only [au, aj]; go_simp; refine hK _ ?_; clear hK K;refine ak (λ K hK => ?_); simp only [au, aj]; go_simp; refine hK _ ?_; clear hK K;refine eH rfl bJ (.tmp 18) rfl _ LD5.out ?_;refine aB ?_;refine aA 6 1 _ _ rfl GV ?_;refine IJ rfl λ K hK => ?_;go_simp;go_at_call 85;refine DC.mono ?_;rintro e W1 ⟨gU, u0, u1, u2, u3, rfl, hb1, dI⟩;have hb1' : Below wr wr W1 := G6.drew.trans hb1;refine hK _ _ (IG ⟨rfl, λ _ => ⟨⟨_, hb1'⟩, rfl⟩, ?_⟩);clear hK K;have R1 := hd2 hb1' dI;clear dI hb1;refine aA 7 0 _ _ rfl GV ?_;refine aD rfl aO _ _ rfl (w.heap.size + 1 + 1) #[gU, u0, u1, u2, u3] rfl rfl aO _ ((hb1'.block _ (aa H.2.2.2.1)).trans H.2.2.2.1) bX rfl R1.2.ones ?_;intro W2 HW2 cu HS2;refine IG ⟨rfl, λ h => absurd GY h, GV, ?_⟩;have H2 := hd2 cu HW2.out;clear cu HS2 HW2;go_wp2_with fail
   go_roundg (d.waits.length - (k + 1))
   case measure => have := H.2.2.1; omega
   case rel => exact ⟨k + 1, by go_num, Hm H.2.2.1, H.1.step H.2.1 R1.1 R1.2 H2.1 H2.2⟩
  ·obtain rfl : k = d.waits.length := GX
   obtain ⟨sM, t0', t1', t2', Aw, r2, kM⟩ := rel.rb;have H := hd3 rel r2 kM;clear rel r2 kM
   go_wp2_with (first
    | (refine He H.2.1 Ib bX ?_)
    | (refine aD rfl aO _ _ rfl (w.heap.size + 1) #[sM, t0', t1', t2', Aw] rfl rfl aO eX H.1.r1 bX rfl H.2.2.ones ?_
       intro W5 aF az bf))
   refine Hg aF.out Ib bX ?_;have hz := H.1.below.size;refine ⟨sM, t0', t1', t2', Aw, rfl, Moves.new H.1.below az GX, ?_⟩;have e : d.upto d.waits.length = d.stand := by unfold D.upto D.stand; rw [Jh G7]
   have rb := H.2.2;rw [e] at rb;refine rb.keeps (λ i hi hl => az.block i hl ?_) (λ i hi hl => ?_)
   ·intro ei
    subst ei;rcases hi with hi | hi
    ·omega
    ·omega
   ·rcases hi with hi | hi
    ·exact IB hi.1
    ·exact IC ⟨GX, by rw [bf]; exact hl⟩
section
attribute [local go_sem] Oper.semAt_some
theorem y9n (w : World) (v : Value) (F : Nat -> Prop) (h : BytesAt w.heap F v []) :
 Calls prog 163 #[v] w λ e w' => e = .returned (.tuple #[.int .i64 0, .int .i64 0]) /\ w = w' := by
 exact Rm
theorem zC {c : UInt8} (h : BytesAt w.heap F v (c :: l)) : ∃ b o n cap, v = .slice (some ⟨b, o, none⟩) n cap /\ n = l.length + 1 /\ w.cell? ⟨b, o, none⟩ = some (.int .u8 c.toNat) /\ ∀ i x, l[i]? = some x -> w.cell? ⟨b, o + (i + 1), none⟩ = some (.int .u8 x.toNat) := by
 rcases h with ⟨_, h⟩ | ⟨b, o, cap, cs, t, fr, rfl, hle, hcap, hF, hrow, hcell⟩
 ·cases h
 ·exact ⟨b, o, _, cap, rfl, rfl, (IM _ _ _ _ _ _ hrow).trans (hcell 0 c rfl), λ i x hi => (IM _ _ _ _ _ _ hrow).trans (hcell (i + 1) x hi)⟩
theorem y9o (w : World) (v : Value) (F : Nat -> Prop) (c : UInt8) (l : List UInt8) (h : BytesAt w.heap F v (c :: l)) (hl : l.length <= 1000000000) (hc : Wm.many c = 0) :
 Calls prog 163 #[v] w λ e w' => e = .returned (.tuple #[.int .i64 c.toNat, .int .i64 1]) /\ w = w' := by
 obtain ⟨b, o, n, cap, rfl, hn, k0, _⟩ := zC h;have n0 : ¬ (n : Int) = 0 := GX;have n1 : (0 : Int) < (n : Int) := GX;have c1 : (c.toNat : Int) < 253 := by
  have hq : c.toNat ≠ 253 /\ c.toNat ≠ 254 /\ c.toNat ≠ 255 := by
   refine ⟨λ e => ?_, λ e => ?_, λ e => ?_⟩
   ·have e' : c = 253 := Kc.1 e
    subst e'; cases hc
   ·have e' : c = 254 := Kc.1 e
    subst e'; cases hc
   ·have e' : c = 255 := Kc.1 e
    subst e'; cases hc
  have := c.toNat_lt;omega
 have c0 : (0 : Int) <= (c.toNat : Int) := GX;generalize c.toNat = x at *;clear h hn hc;go_in;go_wp2;go_ret2;exact ⟨rfl, rfl⟩
theorem Gf (l : List UInt8) (i : Nat) (hi : i <= 7) (h : i <= l.length) : nk l i < 72057594037927936 :=
 Je (Gg l i h) (LH (n := 256) GY hi)
theorem Gd (l : List UInt8) (i : Nat) (hi : i <= 8) (h : i <= l.length) : nk l i < 18446744073709551616 :=
 Je (Gg l i h) (LH (n := 256) GY hi)
theorem y9k (w : World) (v : Value) (F : Nat -> Prop) (l : List UInt8) (h : BytesAt w.heap F v (253 :: l)) (hl : l.length <= 1000000000) :
 Calls prog 163 #[v] w λ e w' => e = .returned (.tuple #[.int .i64 (Wm.first (253 :: l)).1, .int .i64 (Wm.first (253 :: l)).2]) /\ Below w w w' := by
 obtain ⟨b, o, n, cap, rfl, hn, k0, hcell⟩ := zC h;have k0 : w.cell? (b, o) = some (.int .u8 253) := k0;have n0 : ¬ (n : Int) = 0 := GX;have n1 : (0 : Int) < (n : Int) := GX;have hm : Wm.many 253 = 2 := rfl;by_cases hf : l.length < 2
 ·have e : Wm.first (253 :: l) = (0, 0) := by
   show (if Wm.many 253 = 0 then ((253 : UInt8).toNat, (1 : Int)) else if l.length < Wm.many 253 then (0, 0) else _) = _;rw [IA GY, hm, IE hf]
  rw [e];have d1 : (n : Int) < 3 := GX;exact Qm
 ·have FG := hd1 (CO 253 l GY NT)
  have FN := hd1 (CK 253 l GY NT);rw [hm] at FG FN;have d1 : ¬ (n : Int) < 3 := GX;have HC := hd3 hcell hn hf;clear h hn hcell hm hf;go_in;go_wp2;go_loopw [5, 6] (λ x s wr => ∃ i : Nat, i <= 2 /\ s = .int .i64 ((i : Int) + 1) /\ x = .int .u64 (nk l i : Nat) /\ w = wr) (λ _ s _ => 2 + 1 - (intOf s).toNat)
  case atStart => exact ⟨0, GX, rfl, rfl, rfl⟩
  case round =>
   obtain ⟨i, hi, rfl, rfl, rfl⟩ := hrel;have hlen : i <= l.length := Hm HC.2.2;by_cases hlt : i < 2
   ·have i0 : (0 : Int) <= (i : Int) := GX
    have i1 : (i : Int) + 1 <= 2 := GX;exact Ox
   ·obtain rfl : i = 2 := GX
    have nJ := Gd l 2 GY hlen;clear hlen hlt;by_cases htop : nk l 2 <= 4611686018427387904
    ·have NC := hd1 (vP (nk l 2) w GX)
     by_cases hq : (Wm.aG (nk l 2)).length = 3
     ·have FE := hd1 (FG.out htop hq)
      generalize nk l 2 = R at *;exact Oz
     ·have FE := hd1 (FN.out (IC hq))
      generalize nk l 2 = R at *;have r0 : (0 : Int) <= (R : Int) := GX;have r2 : ¬ (4611686018427387904 : Int) < (R : Int) := GX;have r3 : (R : Int) <= 4611686018427387904 := GX;have hq' : (((Wm.aG R).length : Int) != 3) = true := by rw [Lb]; omega
      exact OT
    ·have FE := hd1 (FN.out (IB htop))
     generalize nk l 2 = R at *;exact O6
theorem y9l (w : World) (v : Value) (F : Nat -> Prop) (l : List UInt8) (h : BytesAt w.heap F v (254 :: l)) (hl : l.length <= 1000000000) :
 Calls prog 163 #[v] w λ e w' => e = .returned (.tuple #[.int .i64 (Wm.first (254 :: l)).1, .int .i64 (Wm.first (254 :: l)).2]) /\ Below w w w' := by
 obtain ⟨b, o, n, cap, rfl, hn, k0, hcell⟩ := zC h;have k0 : w.cell? (b, o) = some (.int .u8 254) := k0;have n0 : ¬ (n : Int) = 0 := GX;have n1 : (0 : Int) < (n : Int) := GX;have hm : Wm.many 254 = 4 := rfl;by_cases hf : l.length < 4
 ·have e : Wm.first (254 :: l) = (0, 0) := by
   show (if Wm.many 254 = 0 then ((254 : UInt8).toNat, (1 : Int)) else if l.length < Wm.many 254 then (0, 0) else _) = _;rw [IA GY, hm, IE hf]
  rw [e];have d1 : (n : Int) < 5 := GX;exact Qm
 ·have FG := hd1 (CO 254 l GY NT)
  have FN := hd1 (CK 254 l GY NT);rw [hm] at FG FN;have d1 : ¬ (n : Int) < 5 := GX;have HC := hd3 hcell hn hf;clear h hn hcell hm hf;go_in;go_wp2;go_loopw [5, 6] (λ x s wr => ∃ i : Nat, i <= 4 /\ s = .int .i64 ((i : Int) + 1) /\ x = .int .u64 (nk l i : Nat) /\ w = wr) (λ _ s _ => 4 + 1 - (intOf s).toNat)
  case atStart => exact ⟨0, GX, rfl, rfl, rfl⟩
  case round =>
   obtain ⟨i, hi, rfl, rfl, rfl⟩ := hrel;have hlen : i <= l.length := Hm HC.2.2;by_cases hlt : i < 4
   ·have i0 : (0 : Int) <= (i : Int) := GX
    have i1 : (i : Int) + 1 <= 4 := GX;exact Ox
   ·obtain rfl : i = 4 := GX
    have nJ := Gd l 4 GY hlen;clear hlen hlt;by_cases htop : nk l 4 <= 4611686018427387904
    ·have NC := hd1 (vP (nk l 4) w GX)
     by_cases hq : (Wm.aG (nk l 4)).length = 5
     ·have FE := hd1 (FG.out htop hq)
      generalize nk l 4 = R at *;exact Oz
     ·have FE := hd1 (FN.out (IC hq))
      generalize nk l 4 = R at *;have r0 : (0 : Int) <= (R : Int) := GX;have r2 : ¬ (4611686018427387904 : Int) < (R : Int) := GX;have r3 : (R : Int) <= 4611686018427387904 := GX;have hq' : (((Wm.aG R).length : Int) != 5) = true := by rw [Lb]; omega
      exact OT
    ·have FE := hd1 (FN.out (IB htop))
     generalize nk l 4 = R at *;exact O6
theorem y9m (w : World) (v : Value) (F : Nat -> Prop) (l : List UInt8) (h : BytesAt w.heap F v (255 :: l)) (hl : l.length <= 1000000000) :
 Calls prog 163 #[v] w λ e w' => e = .returned (.tuple #[.int .i64 (Wm.first (255 :: l)).1, .int .i64 (Wm.first (255 :: l)).2]) /\ Below w w w' := by
 obtain ⟨b, o, n, cap, rfl, hn, k0, hcell⟩ := zC h;have k0 : w.cell? (b, o) = some (.int .u8 255) := k0;have n0 : ¬ (n : Int) = 0 := GX;have n1 : (0 : Int) < (n : Int) := GX;have hm : Wm.many 255 = 8 := rfl;by_cases hf : l.length < 8
 ·have e : Wm.first (255 :: l) = (0, 0) := by
   show (if Wm.many 255 = 0 then ((255 : UInt8).toNat, (1 : Int)) else if l.length < Wm.many 255 then (0, 0) else _) = _;rw [IA GY, hm, IE hf]
  rw [e];have d1 : (n : Int) < 9 := GX;exact Qm
 ·have FG := hd1 (CO 255 l GY NT)
  have FN := hd1 (CK 255 l GY NT);rw [hm] at FG FN;have d1 : ¬ (n : Int) < 9 := GX;have HC := hd3 hcell hn hf;clear h hn hcell hm hf;go_in;go_wp2;go_loopw [5, 6] (λ x s wr => ∃ i : Nat, i <= 8 /\ s = .int .i64 ((i : Int) + 1) /\ x = .int .u64 (nk l i : Nat) /\ w = wr) (λ _ s _ => 8 + 1 - (intOf s).toNat)
  case atStart => exact ⟨0, GX, rfl, rfl, rfl⟩
  case round =>
   obtain ⟨i, hi, rfl, rfl, rfl⟩ := hrel;have hlen : i <= l.length := Hm HC.2.2;by_cases hlt : i < 8
   ·have i0 : (0 : Int) <= (i : Int) := GX
    have i1 : (i : Int) + 1 <= 8 := GX;exact Ox
   ·obtain rfl : i = 8 := GX
    have nJ := Gd l 8 GY hlen;clear hlen hlt;by_cases htop : nk l 8 <= 4611686018427387904
    ·have NC := hd1 (vP (nk l 8) w GX)
     by_cases hq : (Wm.aG (nk l 8)).length = 9
     ·have FE := hd1 (FG.out htop hq)
      generalize nk l 8 = R at *;exact Oz
     ·have FE := hd1 (FN.out (IC hq))
      generalize nk l 8 = R at *;have r0 : (0 : Int) <= (R : Int) := GX;have r2 : ¬ (4611686018427387904 : Int) < (R : Int) := GX;have r3 : (R : Int) <= 4611686018427387904 := GX;have hq' : (((Wm.aG R).length : Int) != 9) = true := by rw [Lb]; omega
      exact OT
    ·have FE := hd1 (FN.out (IB htop))
     generalize nk l 8 = R at *;exact O6
theorem Ff (h : BytesAt w.heap F v l) (hl : l.length <= 1000000000) :
 Calls prog 163 #[v] w λ e w' => e = .returned (.tuple #[.int .i64 (Wm.first l).1, .int .i64 (Wm.first l).2]) /\ Below w w w' := by
 cases l with
 | nil => exact (y9n w v F h).mono ML
 | cons c r =>
  have hr : r.length <= 1000000000 := by rw [I8] at hl; omega
  by_cases h1 : c = 253
  ·subst h1; exact y9k w v F r h hr
  ·by_cases h2 : c = 254
   ·subst h2; exact y9l w v F r h hr
   ·by_cases h3 : c = 255
    ·subst h3; exact y9m w v F r h hr
    ·have hc : Wm.many c = 0 := by unfold Wm.many; rw [IA h1, IA h2, IA h3]
     have e : Wm.first (c :: r) = (c.toNat, 1) := IE hc;rw [e];exact (y9o w v F c r h hr hc).mono ML
end
end Go.Proofs.YtgffifleflkjoaaGreat
