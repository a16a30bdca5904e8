/-
  Parts of a proof.
-/
import Derived.Test.YtgffifleflkjoaaGreatFin13
set_option linter.unusedSimpArgs false
set_option linter.unusedVariables false
set_option maxRecDepth 100000
set_option maxHeartbeats 16000000
namespace Go.Proofs.YtgffifleflkjoaaGreat
open _root_.Go.Proofs.Tryz
variable {w W w' w0 wr w1 W0 W1 W2 A B : World} {F G F' O : Nat → Prop} {v : Value} {l : List UInt8} {n q m pd md pl g p : Nat} {C : Array Value} {c : Int}
open Go.RowKit
def z2z (w : World) (l : List UInt8) (e : Ending) (w' : World) : Prop :=
 Below w.heap.size w w' /\ match Wm.opened l with
  | none => e = .returned (.tuple #[.slice none 0 0, .int .i64 130])
  | some b => ∃ v, e = .returned (.tuple #[v, .int .i64 0]) /\ BytesAt w'.heap (λ k => w.heap.size <= k) v b
theorem BytesAt.front {h : Array Obj} {b o cap : Nat} (x : BytesAt h F (.slice (some (b, o)) l.length cap) l) (hn : n <= l.length) : BytesAt h F (.slice (some (b, o)) n cap) (l.take n) := by
 rcases x with ⟨h1, _⟩ | ⟨b', o', cap', c, t, fr, h1, h2, h3, g2, g3, g4⟩
 ·cases h1
 ·cases h1
  refine IC ⟨b, o, cap, c, t, fr, by rw [I7, Nat.min_eq_left hn], by rw [I7]; omega, h3, g2, g3, λ i y hi => ?_⟩;exact Rz
theorem BytesAt.back {h : Array Obj} {b o cap : Nat} (x : BytesAt h F (.slice (some (b, o)) l.length cap) l) (hn : n <= l.length) : BytesAt h F (.slice (some (b, o + n)) (l.length - n) (cap - n)) (l.drop n) := by
 rcases x with ⟨h1, _⟩ | ⟨b', o', cap', c, t, fr, h1, h2, h3, g2, g3, g4⟩
 ·cases h1
 ·cases h1
  refine IC ⟨b, o + n, cap - n, c, t, fr, by rw [I9], by rw [I9]; omega, GX, g2, g3, λ i y hi => ?_⟩;rw [List.getElem?_drop] at hi;rw [JD];exact g4 (n + i) y hi
theorem BytesAt.row {h : Array Obj} {a : Option Addr} {cap : Nat} (x : BytesAt h F (.slice a n cap) l) (hn : 0 < l.length) : ∃ b o, a = some ⟨b, o, none⟩ /\ l.length <= cap /\ cap <= 9223372036854775807 /\ b < h.size := by
 rcases x with ⟨_, rfl⟩ | ⟨b', o', cap', c, t, fr, h1, h2, h3, g2, g3, g4⟩
 ·simp at hn
 ·cases h1
  exact ⟨b', o', rfl, h2, h3, aa g3⟩
theorem x7w (h : BytesAt w.heap F v l) (hl : l.length <= 1000000000) : Calls prog 145 #[v] w (z2z w l) := by
 obtain ⟨a, cap, rfl⟩ := h.slice;have H := hd1 h;clear h;have l1 : (l.length : Int) <= 1000000000 := GX;by_cases h4 : l.length < 4
 ·have ho : Wm.opened l = none := by unfold Wm.opened; rw [IE h4]
  have HO := hd1 ho;have e1 : decide ((l.length : Int) - 4 < 0) = true := by simp; omega
  exact Qq
 ·obtain ⟨b, o, rfl, hcap, hcap2, hbl⟩ := H.row GX
  obtain ⟨n, hn⟩ : ∃ n, l.length = n + 4 := ⟨l.length - 4, GX⟩;have front := H.front (n := n) GX;have back := H.back (n := n) GX;have ht : (l.take n).length = n := by rw [I7]; omega
  have hd : (l.drop n).length = 4 := by rw [I9]; omega
  rw [show l.length - n = 4 by omega] at back;have P := hd4 front back ht hd;have opn : Wm.opened l = if Cm.low (Cm.sum (l.take n)) 4 = l.drop n then some (l.take n) else none := by
   unfold Wm.opened;rw [IA h4, show l.length - 4 = n by omega];have e : (Cm.dm (l.take n) = l) ↔ Cm.low (Cm.sum (l.take n)) 4 = l.drop n := by
    conv => lhs; rhs; rw [<-List.take_append_drop n l]
    unfold Cm.dm;rw [List.append_cancel_left_eq]
   by_cases q : Cm.low (Cm.sum (l.take n)) 4 = l.drop n
   ·rw [IE q, IE (e.2 q)]
   ·rw [IA q, IA (λ r => q (e.1 r))]
  have OP := hd1 opn;have hs : Cm.sum (l.take n) < 4294967296 := by unfold Cm.sum Cm.top; omega
  have e1 : decide ((n : Int) < 0) = false := GZ;have n0 : (0 : Int) <= (n : Int) := GX;have n1 : (n : Int) <= (cap : Int) := GX;have n2 : ¬ (cap : Int) = (n : Int) := GX;have n3 : ¬ cap = n := GX;have n4 : n <= cap := GX;have n5 : n < cap := GX;have n6 : (n : Int) <= (n : Int) + 4 := GX;rw [hn] at l1 hcap ⊢;have HN := hd1 hn;clear front back ht hd opn h4 hn;have ne : Nonempty (Wd (Below w w)) := ⟨⟨w, Below.refl _ _⟩⟩;go_in;go_upto_region 2 with fail
  refine bD (λ w' => ∃ x : Wd (Below w w), w' = x.world) [] GV ?_;refine aL [0, 1, 2, 3, 4, 5, 9, 10, 11] 6 _ Hu GV ?_;simp only [fmc, fmn, gta, gcs, gcz];iterate 9 (with_reducible refine ak (λ K hK => ?_); simp only [au, aj]; go_simp; refine hK _ ?_; clear hK K)
  with_reducible refine aB ?_
  refine aA 6 5 _ _ rfl GV ?_;with_reducible refine Jy λ K hK => ?_
  go_simp;have c1 : BytesAt (w.drew).heap F (.slice (some (b, o)) n cap) (l.take n) := P.1
  have yF : og ((w.alloc (.cells #[.slice (some (b, o)) n cap] dH)).drew) F (.slice (some w.heap.size) 1 1) (l.take n) :=
   ⟨w.heap.size, _, rfl, (IM _ _ _ _ _ _ (II w _)).trans rfl, P.1.below (bla).drew⟩
  have hb3 : Below w w ((w.alloc (.cells #[.slice (some (b, o)) n cap] dH)).drew) := (bla).drew;have SC := hd1 (y1z yF (by rw [P.2.2.1]; omega));have HB3 := hd1 hb3;clear yF hb3 c1;refine hK _ _ (IG ⟨rfl, λ _ => ⟨⟨_, HB3.out⟩, rfl⟩, ?_⟩);clear hK K;refine aA 7 4 _ _ rfl GV ?_;with_reducible refine Jy λ K hK => ?_
  go_simp;go_at_call 172;refine SC.mono ?_;rintro e w4 ⟨rfl, b4⟩;have ol := hd1 (HB3.trans (b4.mono HB3.size));clear b4 SC;refine hK _ _ (IG ⟨rfl, λ _ => ⟨⟨_, ol.out⟩, rfl⟩, ?_⟩);clear hK K;refine aA 8 3 _ _ rfl GV ?_;with_reducible refine Jy λ K hK => ?_
  go_simp;go_at_call 171;refine (y1y _ _ hs).mono ?_;rintro e w5 ⟨v5, rfl, o5, b5⟩;have uW := hd2 (ol.trans (b5.mono ol.size)) o5;clear b5 o5;refine hK _ _ (IG ⟨rfl, λ _ => ⟨⟨_, uW.1⟩, rfl⟩, ?_⟩);clear hK K;have EQ := hd1 (x5b uW.2.at (P.2.1.below uW.1) (by rw [Cm.oJ]; decide) (by rw [P.2.2.2]; decide));by_cases q : Cm.low (Cm.sum (l.take n)) 4 = l.drop n
  ·rw [KD q] at EQ
   have uK := OP.out;rw [IE q] at uK;have OQ := hd1 uK;clear q uK;refine aA 12 2 _ _ rfl GV ?_;with_reducible refine Jy λ K hK => ?_
   go_simp;go_at_call 170;refine EQ.mono ?_;rintro e w6 ⟨rfl, b6⟩;have kE := hd1 (uW.1.trans (b6.mono uW.1.size));clear b6;refine hK _ _ (IG ⟨rfl, λ _ => ⟨⟨_, kE.out⟩, rfl⟩, ?_⟩);clear hK K;refine aL [13, 14] 0 _ ⟨⟨_, kE.out⟩, rfl⟩ GV ?_;simp only [fmc, fmn, gta, gcs, gcz];iterate 2 (with_reducible refine ak (λ K hK => ?_); simp only [au, aj]; go_simp; refine hK _ ?_; clear hK K)
   with_reducible refine aB ?_
   refine ⟨GV, ?_⟩;have CL := hd1 (Dk (P.1.below kE.out) (by rw [P.2.2.1]; omega));go_wp2_with fail
   refine CL.mono ?_;rintro e w7 ⟨v7, rfl, b7, y7⟩;have Y7 := hd2 b7 y7;clear b7 y7;go_wp2;go_ret2;have z6 := kE.size;refine ⟨kE.trans (Y7.1.mono z6), ?_⟩;rw [OQ.out];exact ⟨v7, rfl, Y7.2.keeps (λ _ _ _ => rfl) (λ k hk _ => IV z6 hk)⟩
  ·rw [J7 q] at EQ
   have uK := OP.out;rw [IA q] at uK;have OQ := hd1 uK;clear q uK;refine aA 12 2 _ _ rfl GV ?_;with_reducible refine Jy λ K hK => ?_
   go_simp;go_at_call 170;refine EQ.mono ?_;rintro e w6 ⟨rfl, b6⟩;have kE := hd1 (uW.1.trans (b6.mono uW.1.size));clear b6;refine hK _ _ (IG ⟨rfl, λ _ => ⟨⟨_, kE.out⟩, rfl⟩, ?_⟩);clear hK K;refine aL [13, 14] 0 _ ⟨⟨_, kE.out⟩, rfl⟩ GV ?_;simp only [fmc, fmn, gta, gcs, gcz];iterate 2 (with_reducible refine ak (λ K hK => ?_); simp only [au, aj]; go_simp; refine hK _ ?_; clear hK K)
   with_reducible refine aB ?_
   refine ⟨GV, ?_⟩;go_wp2;go_ret2;refine ⟨kE.out, ?_⟩;rw [OQ.out];rfl
end Go.Proofs.YtgffifleflkjoaaGreat
