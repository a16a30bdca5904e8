/-
  Parts of a proof.
-/
import Derived.Test.YtgffifleflkjoaaGreatFin08
import Derived.Test.YtgffifleflkjoaaGreatFin10
import Derived.Laws.Tables
set_option linter.unusedSimpArgs false
set_option linter.unusedVariables false
set_option maxRecDepth 100000
set_option maxHeartbeats 16000000
namespace Go.Proofs.YtgffifleflkjoaaGreat
open _root_.Go.Proofs.Tryz
variable {w W w' w0 wr w1 W0 W1 W2 A B : World} {F G F' O : Nat → Prop} {v : Value} {l : List UInt8} {n q m pd md pl g p : Nat} {C : Array Value} {c : Int}
open Go.RowKit
theorem mG (w : World) (base : Nat) : b_ w base (.slice none 0 0) [] := ⟨rfl, IB ⟨rfl, rfl⟩⟩
theorem one_byte (wr : World) (x : Int) (u : UInt8) (h : x = u.toNat) : BytesAt (wr.alloc (.cells #[.int .u8 x] bV)).heap (λ _ => True) (.slice (some wr.heap.size) 1 1) [u] := by
 refine IC ⟨wr.heap.size, 0, 1, _, _, (0, 0), rfl, Nat.le_refl _, GY, trivial, II wr _, λ i y hi => ?_⟩;match i, hi with
 | 0, hi => cases hi; rw [h]; rfl
 | i + 1, hi => simp at hi
theorem byte_of (n d : Nat) (x : Int) (h : x = ((n / d % 256 : Nat) : Int)) : x = ((UInt8.ofNat (n / d % 256)).toNat : Int) := by
 rw [h, Mg];congr 1
 exact (La (KA _ GY)).symm
def gP (w : World) (l : List UInt8) (e : Ending) (w' : World) : Prop := ∃ v, e = .returned v /\ b_ w' w.heap.size v l /\ Below w.heap.size w w'
theorem y1y (n : Nat) (w : World) (hn : n < 4294967296) : Calls prog 171 #[w32 n] w (gP w (Cm.low n 4)) := by
 have h0 : (0 : Int) <= (n : Int) := GX;have h1 : (n : Int) < 4294967296 := GX;go_in;go_wp2;go_loopw [2, 3, 4] (λ v _ s wr => ∃ k : Nat, k <= 4 /\ s = .int .i64 (k : Int) /\ b_ wr w.heap.size v (Cm.low n k) /\ Below w w wr) (λ _ _ s _ => 4 - (intOf s).toNat)
 case atStart => exact ⟨0, GX, rfl, mG _ _, Below.refl _ _⟩
 case round =>
  obtain ⟨k, hk, rfl, hown, hb⟩ := hrel;have HO := hd2 hown hb;clear hown hb;by_cases hlt : k < 4
  ·obtain rfl | rfl | rfl | rfl : k = 0 \/ k = 1 \/ k = 2 \/ k = 3 := GX
   ·go_wp2_with (at_builtin; refine dP rfl (.tmp 7) (.tmp 13) rfl w.heap.size w.heap.size w (HO.2.alloc HO.2.size _) G7 _ (Cm.low n 0) rfl (bi HO.1 (bla) G7) _ [UInt8.ofNat (n / 1 % 256)] (λ _ => True) rfl (one_byte wr _ _ (byte_of n 1 _ GX)) Ny M8 ?_; intro v' w2 ho hb1 hb2)
    have H2 := hd2 ho.out hb1;clear ho hb1 hb2;go_wp2;go_roundw;case rel => exact ⟨0 + 1, GX, by go_num, H2.1, H2.2⟩
    case measure => simp [intOf]
   ·go_wp2_with (at_builtin; refine dP rfl (.tmp 7) (.tmp 13) rfl w.heap.size w.heap.size w (HO.2.alloc HO.2.size _) G7 _ (Cm.low n 1) rfl (bi HO.1 (bla) G7) _ [UInt8.ofNat (n / 256 % 256)] (λ _ => True) rfl (one_byte wr _ _ (byte_of n 256 _ GX)) Ny M8 ?_; intro v' w2 ho hb1 hb2)
    have H2 := hd2 ho.out hb1;clear ho hb1 hb2;go_wp2;go_roundw;case rel => exact ⟨1 + 1, GX, by go_num, H2.1, H2.2⟩
    case measure => simp [intOf]
   ·go_wp2_with (at_builtin; refine dP rfl (.tmp 7) (.tmp 13) rfl w.heap.size w.heap.size w (HO.2.alloc HO.2.size _) G7 _ (Cm.low n 2) rfl (bi HO.1 (bla) G7) _ [UInt8.ofNat (n / 65536 % 256)] (λ _ => True) rfl (one_byte wr _ _ (byte_of n 65536 _ GX)) Ny M8 ?_; intro v' w2 ho hb1 hb2)
    have H2 := hd2 ho.out hb1;clear ho hb1 hb2;go_wp2;go_roundw;case rel => exact ⟨2 + 1, GX, by go_num, H2.1, H2.2⟩
    case measure => simp [intOf]
   ·go_wp2_with (at_builtin; refine dP rfl (.tmp 7) (.tmp 13) rfl w.heap.size w.heap.size w (HO.2.alloc HO.2.size _) G7 _ (Cm.low n 3) rfl (bi HO.1 (bla) G7) _ [UInt8.ofNat (n / 16777216 % 256)] (λ _ => True) rfl (one_byte wr _ _ (byte_of n 16777216 _ GX)) Ny M8 ?_; intro v' w2 ho hb1 hb2)
    have H2 := hd2 ho.out hb1;clear ho hb1 hb2;go_wp2;go_roundw;case rel => exact ⟨3 + 1, GX, by go_num, H2.1, H2.2⟩
    case measure => simp [intOf]
  ·obtain rfl : k = 4 := GX
   exact Qb
end Go.Proofs.YtgffifleflkjoaaGreat
