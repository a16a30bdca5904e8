/-
  Parts of a proof.
-/
import Derived.Test.YtgffifleflkjoaaGreatFin12
set_option linter.unusedSimpArgs false
set_option linter.unusedVariables false
set_option maxRecDepth 100000
set_option maxHeartbeats 16000000
namespace Go.Proofs.YtgffifleflkjoaaGreat
open _root_.Go.Proofs.Tryz
variable {w W w' w0 wr w1 W0 W1 W2 A B : World} {F G F' O : Nat → Prop} {v : Value} {l : List UInt8} {n q m pd md pl g p : Nat} {C : Array Value} {c : Int}
open Go.RowKit
def hp (n k i : Nat) : List UInt8 := (List.range i).map λ j => UInt8.ofNat (n / 256 ^ (k - 1 - j) % 256)
theorem fw (n k i : Nat) : hp n k (i + 1) = hp n k i ++ [UInt8.ofNat (n / 256 ^ (k - 1 - i) % 256)] := by
 unfold hp;rw [List.range_succ, J6];rfl
theorem fA (n k i : Nat) : (hp n k i).length = i := by simp [hp]
def zT (w : World) (base : Nat) (v : Value) (l : List UInt8) (e : Ending) (w' : World) : Prop := ∃ v', e = .returned v' /\ bY w' base v' l /\ Below base w w' /\ cz w w' v v'
theorem x4p (n : Nat) (w : World) (base : Nat) (hbase : base <= w.heap.size) (v : Value) (l : List UInt8) (hv : bY w base v l) (hl : l.length <= 1000000000) (hn : n < 9223372036854775808) :
 Calls prog 182 #[v, .int .i64 n, .int .i64 2] w (zT w base v (l ++ Wm.high n 2)) := by
 have h0 : (0 : Int) <= (n : Int) := GR;have h1 : (n : Int) < 9223372036854775808 := GR;have HB := hd2 hbase hl;have HV := hd1 hv;clear hbase hl hv;go_in;go_wp2;go_loopw [0, 7, 9] (λ x _ s wr => ∃ i : Nat, i <= 2 /\ s = .int .i64 (i : Int) /\ bY wr base x (l ++ hp n 2 i) /\ cz w wr v x /\ w.heap.size <= wr.heap.size) (λ _ _ s _ => 2 - (intOf s).toNat)
 case atStart => exact ⟨0, GR, rfl, by rw [show hp n 2 0 = [] from rfl, Ju]; exact HV.out, cz.refl _ _, Nat.le_refl _⟩
 case round =>
  obtain ⟨i, hi, rfl, hown, hb, hsz⟩ := hrel;have HO := hd3 hown hb hsz;clear hown hb hsz;by_cases hlt : i < 2
  ·obtain rfl | rfl : i = 0 \/ i = 1 := GR
   ·go_wp2_with (at_builtin; refine append_grow_e base _ (l ++ hp n 2 0) (bi HO.1 (bla) GZ) (one_byte wr _ _ (byte_of n 256 _ GR)) MS MR ?_; intro v' w2 ho hg)
    exact OT
   ·go_wp2_with (at_builtin; refine append_grow_e base _ (l ++ hp n 2 1) (bi HO.1 (bla) GZ) (one_byte wr _ _ (byte_of n 1 _ GR)) MS MR ?_; intro v' w2 ho hg)
    exact OU
  ·obtain rfl : i = 2 := GR
   exact Qm
theorem x4q (n : Nat) (w : World) (base : Nat) (hbase : base <= w.heap.size) (v : Value) (l : List UInt8) (hv : bY w base v l) (hl : l.length <= 1000000000) (hn : n < 9223372036854775808) :
 Calls prog 182 #[v, .int .i64 n, .int .i64 4] w (zT w base v (l ++ Wm.high n 4)) := by
 have h0 : (0 : Int) <= (n : Int) := GR;have h1 : (n : Int) < 9223372036854775808 := GR;have HB := hd2 hbase hl;have HV := hd1 hv;clear hbase hl hv;go_in;go_wp2;go_loopw [0, 7, 9] (λ x _ s wr => ∃ i : Nat, i <= 4 /\ s = .int .i64 (i : Int) /\ bY wr base x (l ++ hp n 4 i) /\ cz w wr v x /\ w.heap.size <= wr.heap.size) (λ _ _ s _ => 4 - (intOf s).toNat)
 case atStart => exact ⟨0, GR, rfl, by rw [show hp n 4 0 = [] from rfl, Ju]; exact HV.out, cz.refl _ _, Nat.le_refl _⟩
 case round =>
  obtain ⟨i, hi, rfl, hown, hb, hsz⟩ := hrel;have HO := hd3 hown hb hsz;clear hown hb hsz;by_cases hlt : i < 4
  ·obtain rfl | rfl | rfl | rfl : i = 0 \/ i = 1 \/ i = 2 \/ i = 3 := GR
   ·go_wp2_with (at_builtin; refine append_grow_e base _ (l ++ hp n 4 0) (bi HO.1 (bla) GZ) (one_byte wr _ _ (byte_of n 16777216 _ GR)) MS MR ?_; intro v' w2 ho hg)
    exact OT
   ·go_wp2_with (at_builtin; refine append_grow_e base _ (l ++ hp n 4 1) (bi HO.1 (bla) GZ) (one_byte wr _ _ (byte_of n 65536 _ GR)) MS MR ?_; intro v' w2 ho hg)
    exact OU
   ·go_wp2_with (at_builtin; refine append_grow_e base _ (l ++ hp n 4 2) (bi HO.1 (bla) GZ) (one_byte wr _ _ (byte_of n 256 _ GR)) MS MR ?_; intro v' w2 ho hg)
    exact Ph
   ·go_wp2_with (at_builtin; refine append_grow_e base _ (l ++ hp n 4 3) (bi HO.1 (bla) GZ) (one_byte wr _ _ (byte_of n 1 _ GR)) MS MR ?_; intro v' w2 ho hg)
    exact Pi
  ·obtain rfl : i = 4 := GR
   exact Qm
theorem x4r (n : Nat) (w : World) (base : Nat) (hbase : base <= w.heap.size) (v : Value) (l : List UInt8) (hv : bY w base v l) (hl : l.length <= 1000000000) (hn : n < 9223372036854775808) :
 Calls prog 182 #[v, .int .i64 n, .int .i64 8] w (zT w base v (l ++ Wm.high n 8)) := by
 have h0 : (0 : Int) <= (n : Int) := GR;have h1 : (n : Int) < 9223372036854775808 := GR;have HB := hd2 hbase hl;have HV := hd1 hv;clear hbase hl hv;go_in;go_wp2;go_loopw [0, 7, 9] (λ x _ s wr => ∃ i : Nat, i <= 8 /\ s = .int .i64 (i : Int) /\ bY wr base x (l ++ hp n 8 i) /\ cz w wr v x /\ w.heap.size <= wr.heap.size) (λ _ _ s _ => 8 - (intOf s).toNat)
 case atStart => exact ⟨0, GR, rfl, by rw [show hp n 8 0 = [] from rfl, Ju]; exact HV.out, cz.refl _ _, Nat.le_refl _⟩
 case round =>
  obtain ⟨i, hi, rfl, hown, hb, hsz⟩ := hrel;have HO := hd3 hown hb hsz;clear hown hb hsz;by_cases hlt : i < 8
  ·obtain rfl | rfl | rfl | rfl | rfl | rfl | rfl | rfl : i = 0 \/ i = 1 \/ i = 2 \/ i = 3 \/ i = 4 \/ i = 5 \/ i = 6 \/ i = 7 := GR
   ·go_wp2_with (at_builtin; refine append_grow_e base _ (l ++ hp n 8 0) (bi HO.1 (bla) GZ) (one_byte wr _ _ (byte_of n 72057594037927936 _ GR)) MS MR ?_; intro v' w2 ho hg)
    exact OT
   ·go_wp2_with (at_builtin; refine append_grow_e base _ (l ++ hp n 8 1) (bi HO.1 (bla) GZ) (one_byte wr _ _ (byte_of n 281474976710656 _ GR)) MS MR ?_; intro v' w2 ho hg)
    exact OU
   ·go_wp2_with (at_builtin; refine append_grow_e base _ (l ++ hp n 8 2) (bi HO.1 (bla) GZ) (one_byte wr _ _ (byte_of n 1099511627776 _ GR)) MS MR ?_; intro v' w2 ho hg)
    exact Ph
   ·go_wp2_with (at_builtin; refine append_grow_e base _ (l ++ hp n 8 3) (bi HO.1 (bla) GZ) (one_byte wr _ _ (byte_of n 4294967296 _ GR)) MS MR ?_; intro v' w2 ho hg)
    exact Pi
   ·go_wp2_with (at_builtin; refine append_grow_e base _ (l ++ hp n 8 4) (bi HO.1 (bla) GZ) (one_byte wr _ _ (byte_of n 16777216 _ GR)) MS MR ?_; intro v' w2 ho hg)
    have H2 := hd2 ho.out (HO.2.1.trans (((cz.refl _ _).alloc _).trans hg.out));have HS := hd1 hg.grown.size;clear ho hg;go_wp2;go_roundw;case rel => exact ⟨4 + 1, GR, by go_num, by rw [fw, <-IZ]; exact H2.1, H2.2, by have := HO.2.2; have := HS.out; simp at this; omega⟩
    case measure => simp [intOf]
   ·go_wp2_with (at_builtin; refine append_grow_e base _ (l ++ hp n 8 5) (bi HO.1 (bla) GZ) (one_byte wr _ _ (byte_of n 65536 _ GR)) MS MR ?_; intro v' w2 ho hg)
    have H2 := hd2 ho.out (HO.2.1.trans (((cz.refl _ _).alloc _).trans hg.out));have HS := hd1 hg.grown.size;clear ho hg;go_wp2;go_roundw;case rel => exact ⟨5 + 1, GR, by go_num, by rw [fw, <-IZ]; exact H2.1, H2.2, by have := HO.2.2; have := HS.out; simp at this; omega⟩
    case measure => simp [intOf]
   ·go_wp2_with (at_builtin; refine append_grow_e base _ (l ++ hp n 8 6) (bi HO.1 (bla) GZ) (one_byte wr _ _ (byte_of n 256 _ GR)) MS MR ?_; intro v' w2 ho hg)
    have H2 := hd2 ho.out (HO.2.1.trans (((cz.refl _ _).alloc _).trans hg.out));have HS := hd1 hg.grown.size;clear ho hg;go_wp2;go_roundw;case rel => exact ⟨6 + 1, GR, by go_num, by rw [fw, <-IZ]; exact H2.1, H2.2, by have := HO.2.2; have := HS.out; simp at this; omega⟩
    case measure => simp [intOf]
   ·go_wp2_with (at_builtin; refine append_grow_e base _ (l ++ hp n 8 7) (bi HO.1 (bla) GZ) (one_byte wr _ _ (byte_of n 1 _ GR)) MS MR ?_; intro v' w2 ho hg)
    have H2 := hd2 ho.out (HO.2.1.trans (((cz.refl _ _).alloc _).trans hg.out));have HS := hd1 hg.grown.size;clear ho hg;go_wp2;go_roundw;case rel => exact ⟨7 + 1, GR, by go_num, by rw [fw, <-IZ]; exact H2.1, H2.2, by have := HO.2.2; have := HS.out; simp at this; omega⟩
    case measure => simp [intOf]
  ·obtain rfl : i = 8 := GR
   exact Qm
def z2t (w : World) (l : List UInt8) (e : Ending) (w' : World) : Prop :=
 Below w.heap.size w w' /\ match Wm.opened l with
  | none => e = .returned (.tuple #[.slice none 0 0, .int .i64 130])
  | some b => ∃ v, e = .returned (.tuple #[v, .int .i64 0]) /\ BytesAt w'.heap (λ k => w.heap.size <= k) v b
theorem BytesAt.front {h : Array Obj} {b o cap : Nat} (x : BytesAt h F (.slice (some (b, o)) l.length cap) l) (hn : n <= l.length) : BytesAt h F (.slice (some (b, o)) n cap) (l.take n) := by
 rcases x with ⟨h1, _⟩ | ⟨b', o', cap', c, t, fr, h1, h2, h3, g2, g3, g4⟩
 ·cases h1
 ·cases h1
  refine Iz ⟨b, o, cap, c, t, fr, by rw [I4, Nat.min_eq_left hn], by rw [I4]; omega, h3, g2, g3, λ i y hi => ?_⟩;exact Rt
theorem BytesAt.back {h : Array Obj} {b o cap : Nat} (x : BytesAt h F (.slice (some (b, o)) l.length cap) l) (hn : n <= l.length) : BytesAt h F (.slice (some (b, o + n)) (l.length - n) (cap - n)) (l.drop n) := by
 rcases x with ⟨h1, _⟩ | ⟨b', o', cap', c, t, fr, h1, h2, h3, g2, g3, g4⟩
 ·cases h1
 ·cases h1
  refine Iz ⟨b, o + n, cap - n, c, t, fr, by rw [I5], by rw [I5]; omega, GR, g2, g3, λ i y hi => ?_⟩;rw [List.getElem?_drop] at hi;rw [Jz];exact g4 (n + i) y hi
theorem BytesAt.row {h : Array Obj} {a : Option Addr} {cap : Nat} (x : BytesAt h F (.slice a n cap) l) (hn : 0 < l.length) : ∃ b o, a = some ⟨b, o, none⟩ /\ l.length <= cap /\ cap <= 9223372036854775807 /\ b < h.size := by
 rcases x with ⟨_, rfl⟩ | ⟨b', o', cap', c, t, fr, h1, h2, h3, g2, g3, g4⟩
 ·simp at hn
 ·cases h1
  exact ⟨b', o', rfl, h2, h3, aa g3⟩
theorem x7v (h : BytesAt w.heap F v l) (hl : l.length <= 1000000000) : Calls prog 145 #[v] w (z2t w l) := by
 obtain ⟨a, cap, rfl⟩ := h.slice;have H := hd1 h;clear h;have l1 : (l.length : Int) <= 1000000000 := GR;by_cases h4 : l.length < 4
 ·have ho : Wm.opened l = none := by unfold Wm.opened; rw [IA h4]
  have HO := hd1 ho;have e1 : decide ((l.length : Int) - 4 < 0) = true := by simp; omega
  exact Qk
 ·obtain ⟨b, o, rfl, hcap, hcap2, hbl⟩ := H.row GR
  obtain ⟨n, hn⟩ : ∃ n, l.length = n + 4 := ⟨l.length - 4, GR⟩;have front := H.front (n := n) GR;have back := H.back (n := n) GR;have ht : (l.take n).length = n := by rw [I4]; omega
  have hd : (l.drop n).length = 4 := by rw [I5]; omega
  rw [show l.length - n = 4 by omega] at back;have P := hd4 front back ht hd;have opn : Wm.opened l = if Cm.low (Cm.sum (l.take n)) 4 = l.drop n then some (l.take n) else none := by
   unfold Wm.opened;rw [Iw h4, show l.length - 4 = n by omega];have e : (Cm.dw (l.take n) = l) ↔ Cm.low (Cm.sum (l.take n)) 4 = l.drop n := by
    conv => lhs; rhs; rw [<-List.take_append_drop n l]
    unfold Cm.dw;rw [List.append_cancel_left_eq]
   by_cases q : Cm.low (Cm.sum (l.take n)) 4 = l.drop n
   ·rw [IA q, IA (e.2 q)]
   ·rw [Iw q, Iw (λ r => q (e.1 r))]
  have OP := hd1 opn;have hs : Cm.sum (l.take n) < 4294967296 := by unfold Cm.sum Cm.top; omega
  have e1 : decide ((n : Int) < 0) = false := GV;have n0 : (0 : Int) <= (n : Int) := GR;have n1 : (n : Int) <= (cap : Int) := GR;have n2 : ¬ (cap : Int) = (n : Int) := GR;have n3 : ¬ cap = n := GR;have n4 : n <= cap := GR;have n5 : n < cap := GR;have n6 : (n : Int) <= (n : Int) + 4 := GR;rw [hn] at l1 hcap ⊢;have HN := hd1 hn;clear front back ht hd opn h4 hn;have ne : Nonempty (Wd (Below w w)) := ⟨⟨w, Below.refl _ _⟩⟩;go_in;go_upto_region 2 with fail
  refine bC (λ w' => ∃ x : Wd (Below w w), w' = x.world) [] GQ ?_;refine aI [0, 1, 2, 3, 4, 5, 9, 10, 11] 6 _ Hq GQ ?_;simp only [fmc, fmn, gta, gcs, gcz];iterate 9 (with_reducible refine ak (λ K hK => ?_); simp only [au, ah]; go_simp; refine hK _ ?_; clear hK K)
  with_reducible refine aA ?_
  refine az 6 5 _ _ rfl GQ ?_;with_reducible refine Js λ K hK => ?_
  go_simp;have c1 : BytesAt (w.drew).heap F (.slice (some (b, o)) n cap) (l.take n) := P.1
  have yz : nP ((w.alloc (.cells #[.slice (some (b, o)) n cap] df)).drew) F (.slice (some w.heap.size) 1 1) (l.take n) :=
   ⟨w.heap.size, _, rfl, (IJ _ _ _ _ _ _ (IC w _)).trans rfl, P.1.below (bla).drew⟩
  have hb3 : Below w w ((w.alloc (.cells #[.slice (some (b, o)) n cap] df)).drew) := (bla).drew;have SC := hd1 (y1z yz (by rw [P.2.2.1]; omega));have HB3 := hd1 hb3;clear yz hb3 c1;refine hK _ _ (IB ⟨rfl, λ _ => ⟨⟨_, HB3.out⟩, rfl⟩, ?_⟩);clear hK K;refine az 7 4 _ _ rfl GQ ?_;with_reducible refine Js λ K hK => ?_
  go_simp;go_at_call 172;refine SC.mono ?_;rintro e w4 ⟨rfl, b4⟩;have nS := hd1 (HB3.trans (b4.mono HB3.size));clear b4 SC;refine hK _ _ (IB ⟨rfl, λ _ => ⟨⟨_, nS.out⟩, rfl⟩, ?_⟩);clear hK K;refine az 8 3 _ _ rfl GQ ?_;with_reducible refine Js λ K hK => ?_
  go_simp;go_at_call 171;refine (y1y _ _ hs).mono ?_;rintro e w5 ⟨v5, rfl, o5, b5⟩;have uO := hd2 (nS.trans (b5.mono nS.size)) o5;clear b5 o5;refine hK _ _ (IB ⟨rfl, λ _ => ⟨⟨_, uO.1⟩, rfl⟩, ?_⟩);clear hK K;have EQ := hd1 (x5b uO.2.at (P.2.1.below uO.1) (by rw [Cm.ol]; decide) (by rw [P.2.2.2]; decide));by_cases q : Cm.low (Cm.sum (l.take n)) 4 = l.drop n
  ·rw [Km q] at EQ
   have uB := OP.out;rw [IA q] at uB;have OQ := hd1 uB;clear q uB;refine az 12 2 _ _ rfl GQ ?_;with_reducible refine Js λ K hK => ?_
   go_simp;go_at_call 170;refine EQ.mono ?_;rintro e w6 ⟨rfl, b6⟩;have kg := hd1 (uO.1.trans (b6.mono uO.1.size));clear b6;refine hK _ _ (IB ⟨rfl, λ _ => ⟨⟨_, kg.out⟩, rfl⟩, ?_⟩);clear hK K;refine aI [13, 14] 0 _ ⟨⟨_, kg.out⟩, rfl⟩ GQ ?_;simp only [fmc, fmn, gta, gcs, gcz];iterate 2 (with_reducible refine ak (λ K hK => ?_); simp only [au, ah]; go_simp; refine hK _ ?_; clear hK K)
   with_reducible refine aA ?_
   refine ⟨GQ, ?_⟩;have CL := hd1 (De (P.1.below kg.out) (by rw [P.2.2.1]; omega));go_wp2_with fail
   refine CL.mono ?_;rintro e w7 ⟨v7, rfl, b7, y7⟩;have Y7 := hd2 b7 y7;clear b7 y7;go_wp2;go_ret2;have z6 := kg.size;refine ⟨kg.trans (Y7.1.mono z6), ?_⟩;rw [OQ.out];exact ⟨v7, rfl, Y7.2.keeps (λ _ _ _ => rfl) (λ k hk _ => IP z6 hk)⟩
  ·rw [JV q] at EQ
   have uB := OP.out;rw [Iw q] at uB;have OQ := hd1 uB;clear q uB;refine az 12 2 _ _ rfl GQ ?_;with_reducible refine Js λ K hK => ?_
   go_simp;go_at_call 170;refine EQ.mono ?_;rintro e w6 ⟨rfl, b6⟩;have kg := hd1 (uO.1.trans (b6.mono uO.1.size));clear b6;refine hK _ _ (IB ⟨rfl, λ _ => ⟨⟨_, kg.out⟩, rfl⟩, ?_⟩);clear hK K;refine aI [13, 14] 0 _ ⟨⟨_, kg.out⟩, rfl⟩ GQ ?_;simp only [fmc, fmn, gta, gcs, gcz];iterate 2 (with_reducible refine ak (λ K hK => ?_); simp only [au, ah]; go_simp; refine hK _ ?_; clear hK K)
   with_reducible refine aA ?_
   refine ⟨GQ, ?_⟩;go_wp2;go_ret2;refine ⟨kg.out, ?_⟩;rw [OQ.out];rfl
theorem Bw (n : Nat) (w : World) (base : Nat) (hbase : base <= w.heap.size) (v : Value) (l : List UInt8) (hv : bY w base v l) (hl : l.length <= 999999999) (hn : n < 9223372036854775808) :
 Calls prog 158 #[v, .int .i64 n] w (zT w base v (l ++ Wm.aG n)) := by
 have h0 : (0 : Int) <= (n : Int) := GR;have h1 : (n : Int) < 9223372036854775808 := GR;have HB := hd2 hbase hl;have HV := hd1 hv;have HN := hd1 hn;clear hbase hl hv hn;by_cases c1 : n < 253
 ·have d1 : (n : Int) < 253 := GR
  have HW := hd1 (show Wm.aG n = [UInt8.ofNat (n / 1 % 256)] by unfold Wm.aG; rw [IA c1, Nat.div_one, KM GR]);clear c1;go_in;go_wp2_with (at_builtin; refine append_grow_e base _ l (bi HV.out (bla) GZ) (one_byte w _ _ (byte_of n 1 _ GR)) Nf Ng ?_; intro v' w2 ho hg)
  go_ret;have G := (((cz.refl w v).alloc _).trans hg.out);exact ⟨_, rfl, by rw [HW.out]; exact ho.out, G.below HV.out HB.1, G⟩
 ·have d1 : ¬ (n : Int) < 253 := GR
  by_cases c2 : n < 65536
  ·have d2 : (n : Int) < 65536 := GR
   have HW := hd1 (show Wm.aG n = [253] ++ Wm.high n 2 by unfold Wm.aG; rw [Iw c1, IA c2]; rfl);clear c1 c2;go_in
   go_wp2_with (first
    | (at_builtin; refine append_grow_e base [253] l (bi HV.out (bla) GZ) (one_byte w _ _ rfl) Nf Ng ?_; intro v' w2 ho hg
       have H2 := hd3 ho.out (((cz.refl w v).alloc _).trans hg.out) hg.grown.size;clear ho hg)
    | (go_at_call 182; refine (x4p n w2 base Mq v' (l ++ [253]) H2.1 Nf HN.out).mono ?_; rintro e w3 ⟨v3, rfl, o3, b3⟩))
   exact PI
  ·have d2 : ¬ (n : Int) < 65536 := GR
   by_cases c3 : n < 4294967296
   ·have d3 : (n : Int) < 4294967296 := GR
    have HW := hd1 (show Wm.aG n = [254] ++ Wm.high n 4 by unfold Wm.aG; rw [Iw c1, Iw c2, IA c3]; rfl);clear c1 c2 c3;go_in
    go_wp2_with (first
     | (at_builtin; refine append_grow_e base [254] l (bi HV.out (bla) GZ) (one_byte w _ _ rfl) Nf Ng ?_; intro v' w2 ho hg
        have H2 := hd3 ho.out (((cz.refl w v).alloc _).trans hg.out) hg.grown.size;clear ho hg)
     | (go_at_call 182; refine (x4q n w2 base Mq v' (l ++ [254]) H2.1 Nf HN.out).mono ?_; rintro e w3 ⟨v3, rfl, o3, b3⟩))
    exact PI
   ·have d3 : ¬ (n : Int) < 4294967296 := GR
    have HW := hd1 (show Wm.aG n = [255] ++ Wm.high n 8 by unfold Wm.aG; rw [Iw c1, Iw c2, Iw c3]; rfl);clear c1 c2 c3;go_in
    go_wp2_with (first
     | (at_builtin; refine append_grow_e base [255] l (bi HV.out (bla) GZ) (one_byte w _ _ rfl) Nf Ng ?_; intro v' w2 ho hg
        have H2 := hd3 ho.out (((cz.refl w v).alloc _).trans hg.out) hg.grown.size;clear ho hg)
     | (go_at_call 182; refine (x4r n w2 base Mq v' (l ++ [255]) H2.1 Nf HN.out).mono ?_; rintro e w3 ⟨v3, rfl, o3, b3⟩))
    exact PI
theorem x9v (h : n <= 36028797018963968) : ¬ (36028797018963968 : Int) < (n : Int) := GR
theorem x9u (h : ¬ n <= 36028797018963968) : (36028797018963968 : Int) < (n : Int) := GR
theorem wrap_small (h : n <= 9223372036854775807) : wrap64 (n : Int) = n := by unfold wrap64; omega
theorem x1w (n x : Nat) (hn : n <= 36028797018963968) (hx : x < 256) : bits .or .i64 (wrap64 ((n : Int) * 256)) (x : Int) = wrap64 ((256 * n + x : Nat) : Int) := by
 show IntKind.i64.wrap ((BitVec.ofInt 64 (wrap64 ((n : Int) * 256)) ||| BitVec.ofInt 64 (x : Int)).toNat : Int) = _;have a1 : (BitVec.ofInt 64 (wrap64 ((n : Int) * 256))).toNat = n * 256 := by
  rw [BitVec.toNat_ofInt];unfold wrap64;omega
 have a2 : (BitVec.ofInt 64 (x : Int)).toNat = x := by
  rw [BitVec.toNat_ofInt];omega
 have a3 : n * 256 ||| x = 256 * n + x := by
  have h := Nat.two_pow_add_eq_or_of_lt (i := 8) (b := x) hx n;rw [show n * 256 = 2 ^ 8 * n by omega, <-h]
 rw [BitVec.toNat_or, a1, a2, a3];rw [IntKind.wrap_i64];unfold wrap64;rfl
def nk (l : List UInt8) (i : Nat) : Nat := Wm.iM (l.take i)
theorem sQ (l : List UInt8) (i : Nat) (x : UInt8) (h : l[i]? = some x) : nk l (i + 1) = 256 * nk l i + x.toNat := by
 unfold nk Wm.iM;rw [JC, h];simp [Kr]
theorem Gh (l : List UInt8) : nk l 0 = 0 := rfl
theorem x1a (l : List UInt8) (i j : Nat) (h : i + j <= l.length) : 256 ^ j * nk l i <= nk l (i + j) := by
 induction j with
 | zero => simp
 | succ j ih =>
  have hx := IR (l := l) (i := i + j) GR;have e := sQ l (i + j) _ hx;rw [<-Jz, e, KO, Nat.mul_comm (256 ^ j) 256, Nat.mul_assoc];have := ih GR;omega
theorem Gl (l : List UInt8) (i : Nat) (h : i <= l.length) : nk l i < 256 ^ i := by
 induction i with
 | zero => simp [Gh]
 | succ i ih =>
  have hx := IR (l := l) (i := i) GR;have e := sQ l i _ hx;have := ih GR;have h2 := (l[i]'GR).toNat_lt;rw [e, KO];omega
theorem x5e (c : UInt8) (l : List UInt8) (i : Nat) (h0 : Wm.many c ≠ 0) (hf : Wm.many c <= l.length) (hi : i < Wm.many c) (hbig : ¬ nk l i <= 36028797018963968) : Wm.first (c :: l) = (0, -1) := by
 have hg := x1a l i (Wm.many c - i) GR;rw [show i + (Wm.many c - i) = Wm.many c by omega] at hg;have hp : 256 <= 256 ^ (Wm.many c - i) := by
  obtain ⟨d, hd⟩ : ∃ d, Wm.many c - i = d + 1 := ⟨Wm.many c - i - 1, GR⟩;rw [hd, KO];have := Nat.one_le_two_pow (n := 8 * d);have h1 : 0 < 256 ^ d := Nat.pow_pos GU;omega
 have hm := Kj (nk l i) hp;have ht : Wm.kz < nk l (Wm.many c) := by unfold Wm.kz; omega
 show (if Wm.many c = 0 then (c.toNat, (1 : Int)) else if l.length < Wm.many c then (0, 0) else if Wm.iM (l.take (Wm.many c)) > Wm.kz \/ (Wm.aG (Wm.iM (l.take (Wm.many c)))).length ≠ 1 + Wm.many c then (0, -1) else (Wm.iM (l.take (Wm.many c)), 1 + (Wm.many c : Int))) = (0, -1);rw [Iw h0, Iw GR];exact IA (Iy ht)
theorem x1g (x : Int) (w : World) (hx : x < 0) :
 Calls prog 158 #[(), .int .i64 x] w λ e w' => ∃ u : UInt8, zT w w.heap.size (.slice none 0 0) [u] e w' := by
 have d1 : x < 253 := GR;have hb : x % 256 = ((UInt8.ofNat (x % 256).toNat).toNat : Int) := by
  rw [Ll];omega
 have HB := hd1 hb;clear hb;go_in;go_wp2_with (at_builtin; refine append_grow_e w.heap.size [UInt8.ofNat (x % 256).toNat] [] (lY _ _) (one_byte w _ _ HB.out) GV GV ?_; intro v' w2 ho hg)
 go_ret;have G := (((cz.refl w (.slice none 0 0)).alloc _).trans hg.out);exact ⟨_, _, rfl, ho.out, G.below (lY _ _) GZ, G⟩
theorem z1v (c : UInt8) (l : List UInt8) (h0 : Wm.many c ≠ 0) (hf : Wm.many c <= l.length) :
 Wm.first (c :: l) = if nk l (Wm.many c) > Wm.kz \/ (Wm.aG (nk l (Wm.many c))).length ≠ 1 + Wm.many c then (0, -1) else (nk l (Wm.many c), 1 + (Wm.many c : Int)) := by
 show (if Wm.many c = 0 then (c.toNat, (1 : Int)) else if l.length < Wm.many c then (0, 0) else _) = _;rw [Iw h0, Iw GR];rfl
theorem z3n (h : n <= 4611686018427387904) : ¬ (4611686018427387904 : Int) < (n : Int) := GR
theorem y5v (h : ¬ n <= 4611686018427387904) : (4611686018427387904 : Int) < (n : Int) := GR
theorem z3m (h : n <= 4611686018427387904) : n < 9223372036854775808 := GR
theorem CE (c : UInt8) (l : List UInt8) (h0 : Wm.many c ≠ 0) (hf : Wm.many c <= l.length) (ht : nk l (Wm.many c) <= 4611686018427387904) (hq : (Wm.aG (nk l (Wm.many c))).length = 1 + Wm.many c) :
 Wm.first (c :: l) = (nk l (Wm.many c), 1 + (Wm.many c : Int)) := by
 rw [z1v c l h0 hf];refine Iw λ h => ?_;rcases h with h | h
 ·exact absurd ht (Nat.not_le.2 h)
 ·exact h hq
theorem Cz (c : UInt8) (l : List UInt8) (h0 : Wm.many c ≠ 0) (hf : Wm.many c <= l.length) (h : ¬ nk l (Wm.many c) <= 4611686018427387904 \/ (Wm.aG (nk l (Wm.many c))).length ≠ 1 + Wm.many c) :
 Wm.first (c :: l) = (0, -1) := by
 rw [z1v c l h0 hf];exact IA (h.imp Nat.not_le.1 id)
theorem y3i (h1 : ¬ n <= 9223372036854775807) (h2 : n <= 9223372036854776063) : wrap64 (n : Int) < 0 := by unfold wrap64; omega
theorem x1b (l : List UInt8) (k : Nat) (hk : k + 1 <= l.length) (h : nk l k <= 36028797018963968) : nk l (k + 1) <= 9223372036854776063 := by
 rw [sQ l k _ (IR GR)];have := (l[k]'GR).toNat_lt;omega
end Go.Proofs.YtgffifleflkjoaaGreat
