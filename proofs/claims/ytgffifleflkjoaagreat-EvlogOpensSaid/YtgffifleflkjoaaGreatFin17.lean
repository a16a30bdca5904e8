/-
  Parts of a proof.
-/
import Derived.Test.YtgffifleflkjoaaGreatFin16
set_option linter.unusedSimpArgs false
set_option linter.unusedVariables false
set_option maxRecDepth 100000
set_option maxHeartbeats 16000000
namespace Go.Proofs.YtgffifleflkjoaaGreat
open _root_.Go.Proofs.Tryz
variable {w W w' w0 wr w1 W0 W1 W2 A B : World} {F G F' O : Nat → Prop} {v : Value} {l : List UInt8} {n q m pd md pl g p : Nat} {C : Array Value} {c : Int}
open Go.RowKit
def w1i (w : World) (D : Em.Rows) (l : List Em.ay) (e : Ending) (w' : World) : Prop :=
 Below w.heap.size w w' /\ ((Em.aW D l ≠ 0 /\ e = .returned (.tuple #[.map none, .int .i64 (Em.aW D l)])) ∨
  (Em.aW D l = 0 /\ ∃ m, e = .returned (.tuple #[.map (some m), .int .i64 0]) /\ w.heap.size <= m /\ RowsIn w' m (Maps.size (Em.behind D l)) (Em.behind D l)))
theorem x_ {D : Em.Rows} (h : RowsIn w m n D) : RowsIn w m (Maps.size D) D := by
 obtain ⟨es, clock, hb, F, hs, rfl⟩ := h;exact ⟨es, clock, hb, F, by simp [Maps.size, length_sorted], rfl⟩
theorem dZ {D : Em.Rows} {B : Nat} (h : RowsIn w m n D) (hb : Below B w w') (hm : m < B) : RowsIn w' m n D := by
 obtain ⟨es, clock, h1, F, hs, hD⟩ := h;exact ⟨es, clock, (hb.block m hm).trans h1, F, hs, hD⟩
theorem Dn {B : Nat} (h : w.mapTurned w' m) (hm : B <= m) (hB : B <= w.heap.size) : Below B w w' :=
 GY.grown h.grown hB (λ k e => by cases e; exact hm)
theorem x9o {D : Em.Rows} {l : List Em.ay} {i : Nat} {c : Em.ay} (h : l[i]? = some c) : Em.behind D (l.take (i + 1)) = Em.one (Em.behind D (l.take i)) c := by
 unfold Em.behind;rw [JC, h];simp [Kr]
theorem CY {l : List Em.ay} {D : Em.Rows} (hm : RowsIn w m n D) (hn : n <= 1000000) (h : dJ w F v l) (hl : l.length <= 1000000) (hk : ∀ c ∈ l, c.key.length <= 1000000000 /\ c.value.length <= 1000000000) :
 Calls prog 37 #[.map (some m), v] w (w1i w D l) := by
 have RC := hd1 (y8e h GR);obtain ⟨a, cap, rfl⟩ := h.slice;by_cases hr : Em.right l = 0
 ·rw [hr] at RC
  have H := hd4 hm h hk hr;clear hm h hk hr;generalize hN : l.length = N at *;have HN := hd1 hN;clear hN;go_in
  go_wp2_with (first
   | (go_at_call 77; (refine RC.mono ?_); rintro e w1 ⟨rfl, b1⟩; have H1 := hd1 b1; clear b1)
   | (go_at_call 78
      obtain ⟨es, clock, k1, k2⟩ := dZ H.1 H1.out H.1.lt;refine (x8m m es clock w1 k1).mono ?_; rintro e w2 ⟨rfl, e2⟩;have R2 : RowsIn w2 w1.heap.size n D := by rw [e2]; exact ⟨es, clock, IC w1 _, k2⟩
      have B2 : Below w w w2 := by rw [e2]; exact H1.alloc H1.size _
      have H2 := hd3 R2 B2 H1.size;clear k1 k2 e2 R2 B2))
  go_loopw [9, 19] (λ _ s wr => ∃ i : Nat, i <= N /\ s = .int .i64 (i : Int) /\ RowsIn wr w1.heap.size (n + i) (Em.behind D (l.take i)) /\ Below w w wr) (λ _ s _ => N - (intOf s).toNat)
  case atStart => exact ⟨0, GR, rfl, by simpa [Em.behind] using H2.1, H2.2.1⟩
  case round =>
   obtain ⟨i, hi, rfl, hrow, hb⟩ := hrel;by_cases hlt : i < N
   ·have i0 : (0 : Int) <= (i : Int) := GR
    have i1 : (i : Int) < (N : Int) := GR;obtain ⟨c, hc⟩ : ∃ c, l[i]? = some c := ⟨_, IR Nk⟩;have kc := H.2.2.1 c (Jb hc);obtain ⟨b, o, rfl, fb, lb, rg⟩ := H.2.1.at hc;have RG := hd1 (show wr.rangeAt b (o + i * 3) [ag c.key, ag c.value, .bool c.gone] from λ j v hj => (hb.cell (p := ⟨b, o + i * 3 + j, none⟩) lb).trans (rg j v hj));have BT := hd1 (x9o (D := D) hc);obtain ⟨k, vv, gn⟩ := c;have Z := IC wr (.cells #[ag k, ag vv, .bool gn] a_);have z0 : (wr.alloc (.cells #[ag k, ag vv, .bool gn] a_)).cell? ⟨wr.heap.size, 0, none⟩ = some (ag k) := (IJ _ _ _ _ _ _ Z).trans rfl;have z1 : (wr.alloc (.cells #[ag k, ag vv, .bool gn] a_)).cell? ⟨wr.heap.size, 1, none⟩ = some (ag vv) := (IJ _ _ _ _ _ _ Z).trans rfl;have z2 : (wr.alloc (.cells #[ag k, ag vv, .bool gn] a_)).cell? ⟨wr.heap.size, 2, none⟩ = some (.bool gn) := (IJ _ _ _ _ _ _ Z).trans rfl;have HA := hd4 (hrow.alloc (.cells #[ag k, ag vv, .bool gn] a_)) (hb.alloc hb.size (.cells #[ag k, ag vv, .bool gn] a_)) (yI k (by simp only at kc; omega)) (zg vv (by simp only at kc; omega));have SZ := hd2 hb.size H2.2.2;clear hrow hb rg hc kc Z;cases gn
    ·go_wp2_with (first
      | (refine JA rfl a_ (.tmp 21) rfl b (o + i * 3) rfl _ _ RG.out Ic rfl jS ?_)
      | (refine Eg rfl a_ (.tmp 9) (.tmp 22) rfl _ #[ag k, ag vv, .bool false] rfl rfl a_ jS rfl rfl ?_)
      | (at_mapUpdate; refine L_ _ rfl (.tmp 28) (.tmp 30) (.tmp 32) jM rfl dB dB vE Ie (plainElem prog dB) w1.heap.size (n + i) (Em.behind D (l.take i)) rfl HA.1 Nr (ag k) (ag vv) _ rfl rfl HA.2.2.1 _ [] HA.2.2.2 ?_
         intro w3 pG xK;have H3 := hd2 pG (Dn xK SZ.2 (by have := SZ.1; simp; omega));clear pG xK))
     go_roundw;case rel => exact ⟨i + 1, GR, by go_num, by rw [BT.out]; exact H3.1, HA.2.1.trans H3.2⟩
     case measure => simp [intOf]; omega
    ·go_wp2_with (first
      | (refine JA rfl a_ (.tmp 21) rfl b (o + i * 3) rfl _ _ RG.out Ic rfl jS ?_)
      | (refine Eg rfl a_ (.tmp 9) (.tmp 22) rfl _ #[ag k, ag vv, .bool true] rfl rfl a_ jS rfl rfl ?_)
      | (at_delete; refine wpList_delete_own _ rfl (.tmp 25) (.tmp 27) jM dB rfl dB vE Ie (plainElem prog dB) w1.heap.size (n + i) (Em.behind D (l.take i)) rfl HA.1 (ag k) _ rfl HA.2.2.1 ?_
         intro w3 pG xK;have H3 := hd2 pG (Dn xK SZ.2 (by have := SZ.1; simp; omega));clear pG xK))
     go_roundw;case rel => exact ⟨i + 1, GR, by go_num, by rw [BT.out]; exact H3.1.mono GR, HA.2.1.trans H3.2⟩
     case measure => simp [intOf]; omega
   ·obtain rfl : i = N := GR
    rw [Je M0] at hrow;have HR := hd2 hrow hb;clear hrow hb;by_cases kL : 256 < Maps.size (Em.behind D l)
    ·have d1 : (256 : Int) < (Maps.size (Em.behind D l) : Int) := GR
     have HE := hd1 (show Em.aW D l = 3 by unfold Em.aW; rw [Iw (by rw [H.2.2.2]; decide), IA kL]);clear kL;go_wp2_with (at_len; refine Lf _ rfl (.tmp 34) jM rfl dB dB Ie (plainElem prog dB) w1.heap.size (n + i) (Em.behind D l) rfl HR.1 ?_)
     go_ret2;exact ⟨HR.2, Iy ⟨by rw [HE.out]; decide, by rw [HE.out]; rfl⟩⟩
    ·have d1 : ¬ (256 : Int) < (Maps.size (Em.behind D l) : Int) := GR
     have HE := hd1 (show Em.aW D l = 0 by unfold Em.aW; rw [Iw (by rw [H.2.2.2]; decide), Iw kL]);clear kL;go_wp2_with (at_len; refine Lf _ rfl (.tmp 34) jM rfl dB dB Ie (plainElem prog dB) w1.heap.size (n + i) (Em.behind D l) rfl HR.1 ?_)
     go_ret2;exact ⟨HR.2, Iz ⟨HE.out, _, rfl, H2.2.2, x_ HR.1⟩⟩
 ·have HE := hd1 (show Em.aW D l = Em.right l by unfold Em.aW; rw [IA hr])
  have hr' : ¬ Em.right l = 0 := hr;have HH := hd1 hr;clear hm h hk hr;generalize l.length = N at *;generalize Em.right l = R at *;go_in;go_wp2_with (go_at_call 77; (refine RC.mono ?_); rintro e w1 ⟨rfl, b1⟩)
  go_ret2;exact ⟨b1, Iy ⟨by rw [HE.out]; exact HH.out, by rw [HE.out]; rfl⟩⟩
def uw (w : World) (v : Value) (D : Em.Rows) : Prop := (v = .map none /\ D = .map []) \/ ∃ m n, v = .map (some m) /\ RowsIn w m n D
theorem uw.later {D : Em.Rows} (h : uw w v D) (hb : Below w w w') : uw w' v D := by
 rcases h with h | ⟨m, n, h1, h2⟩
 ·exact Iy h
 ·exact Iz ⟨m, n, h1, dZ h2 hb h2.lt⟩
theorem x4m {b : Nat} {gen : Nat} {D : Em.Rows} (hw : fH w q []) (hg : w.cell? g = some (.int .i64 gen)) (hb : w.cell? b = some v) (h : uw w v D) (hs : Maps.size D <= 1000000) (yN : gen <= 4611686018427387904) :
 Calls prog 116 #[q, g, b] w λ e w' => e = .returned (.tuple #[]) /\ fH w' q (Wm.aG 1 ++ Wm.aG gen ++ Wm.aG (Maps.size D)) /\ Below q w w' := by
 have lq : q < w.heap.size := let ⟨_, _, _, _, _, _, x⟩ := hw.cells; x;have W0 : fH (w.alloc (.cells #[.int .i64 1, .int .i64 gen, .int .i64 (Maps.size D)] oZ)) q [] := hw.below (bla);have N0 : ql (w.alloc (.cells #[.int .i64 1, .int .i64 gen, .int .i64 (Maps.size D)] oZ)) w.heap.size [1, gen, Maps.size D] := ⟨_, _, IC w _, λ i x hx => by
  match i, hx with
  | 0, hx => cases hx; rfl
  | 1, hx => cases hx; rfl
  | 2, hx => cases hx; rfl
  | i + 3, hx => simp at hx⟩
 have WN := hd1 (Ed (cap := 3) W0 N0 M8 GV GV);have HW := hd1 (show Below q w (w.alloc (.cells #[.int .i64 1, .int .i64 gen, .int .i64 (Maps.size D)] oZ)) from GY.alloc (Jn lq) _);clear W0 N0 hw;rcases h with ⟨rfl, rfl⟩ | ⟨m, n, rfl, hm⟩
 ·go_in
  go_wp2_with (go_at_call 117; refine WN.mono ?_; rintro e w1 ⟨rfl, q1, s1⟩)
  exact Ru
 ·have HM := hd1 hm
  clear hm;go_in
  go_wp2_with (first
   | (at_len; refine Lf _ rfl (.tmp 6) jM rfl dB dB Ie (plainElem prog dB) m n D rfl HM.out ?_)
   | (go_at_call 117; refine WN.mono ?_; rintro e w1 ⟨rfl, q1, s1⟩))
  exact Ru
theorem z8s {D : Em.Rows} (h : RowsIn w m n D) (k : List UInt8) (hk : k.length <= 1000000) : (Instr.lookup jM (.map (some m)) (ag k) false).run prog w = .ok (ag (Em.valueOf D k)) w := by
 obtain ⟨v, ps, hrun, hv⟩ := h.lookup vE Ie (zeroValue9 w) (zg [] GV) (yI k GR);exact PE
theorem y8m {b : Nat} {D : Em.Rows} {k : List UInt8} (hw : fH w q []) (hg : w.cell? g = some (ag k)) (hb : w.cell? b = some (.map (some m))) (h : RowsIn w m n D) (mf : g < q) (hbq : b < q) (ou : m < q) (hk : k.length <= 1000) (hD : Em.bI D) :
 Calls prog 118 #[q, g, b] w λ e w' => e = .returned (.tuple #[]) /\ fH w' q (Wm.aG 2 ++ Wm.cB k ++ Wm.cB (Em.valueOf D k)) /\ Below q w w' := by
 have lq : q < w.heap.size := let ⟨_, _, _, _, _, _, x⟩ := hw.cells; x;have W0 : fH (w.alloc (.cells #[.int .i64 2] oZ)) q [] := hw.below (bla);have N0 : ql (w.alloc (.cells #[.int .i64 2] oZ)) w.heap.size [2] := ⟨_, _, IC w _, λ i x hx => by
  match i, hx with
  | 0, hx => cases hx; rfl
  | i + 1, hx => simp at hx⟩
 have WN := hd1 (Ed (cap := 1) W0 N0 M8 GV GV);have HW := hd1 (show Below q w (w.alloc (.cells #[.int .i64 2] oZ)) from GY.alloc (Jn lq) _);have VL := hd1 (Em.uZ hD k);have HM := hd3 h hg hb;clear W0 N0 hw h;go_in
 go_wp2_with (first
  | (go_at_call 117; refine WN.mono ?_; rintro e w1 ⟨rfl, q1, s1⟩
     have B1 := hd1 (HW.trans s1.below);have T1 := hd1 (xE q1 k GU GR);have c1 : w1.cell? g = some (ag k) := (B1.cell (p := ⟨g, 0, none⟩) mf).trans HM.2.1;clear q1 s1)
  | (go_at_call 119; (with_reducible refine T1.out.mono ?_); rintro e w2 ⟨rfl, q2, s2⟩
     have B2 := hd1 (B1.trans s2.below);have c2 : w2.cell? g = some (ag k) := (B2.cell (p := ⟨g, 0, none⟩) mf).trans HM.2.1;have c3 : w2.cell? b = some (.map (some m)) := (B2.cell (p := ⟨b, 0, none⟩) hbq).trans HM.2.2;have lk := z8s (dZ HM.1 B2.out ou) k GR;have T2 := hd1 (xE q2 (Em.valueOf D k) (by have := Em.jf k; simp only [Ji, IL]; have := (Em.h_ 2).1; simp; omega) (Hf VL.out));clear q2 s2)
  | (go_at_call 119; (with_reducible refine T2.out.mono ?_); rintro e w3 ⟨rfl, q3, s3⟩))
 go_end0
 exact ⟨rfl, by simpa [IZ] using q3, B2.trans s3.below⟩
theorem y8n {D : Em.Rows} {ks : List (List UInt8)} {i : Nat} {k : List UInt8} (h : ks[i]? = some k) : (ks.take (i + 1)).flatMap (Em.rowOf D) = (ks.take i).flatMap (Em.rowOf D) ++ Em.rowOf D k := by
 rw [JC, h];simp
theorem uw.sorted {D : Em.Rows} (h : uw w v D) (hs : Maps.size D <= 1000000) : Calls prog 44 #[v] w (z2v w D) := by
 rcases h with ⟨rfl, rfl⟩ | ⟨m, n, rfl, h⟩
 ·exact y6i w
 ·exact y6j h hs
theorem y0v {D : Em.Rows} {gen : Nat} (h : uw w v D) (hD : Em.bI D) (hs : Maps.size D <= 256) (yN : gen <= 2147483647) : Calls prog 70 #[.int .i64 gen, v] w (gT w (Em.folded gen D)) := by
 obtain ⟨mo, rfl⟩ : ∃ mo, v = .map mo := by rcases h with ⟨rfl, _⟩ | ⟨m, n, rfl, _⟩ <;> exact ⟨_, rfl⟩
 have eg1 := enters_of func116 GQ rfl;have CW := enters_of func118 GQ rfl;obtain ⟨W0, hW0⟩ := G5 ((w.alloc (.cells #[.int .i64 gen] 2)).alloc (.cells #[.map mo] 66));have z0 : W0.heap.size = w.heap.size + 2 := by rw [<-hW0]; simp
 have B0 : Below w w W0 := by rw [<-hW0]; exact (bla).alloc GV _
 have k0 : W0.cell? w.heap.size = some (.int .i64 gen) := by rw [<-hW0]; exact ae (aM GV (IC w _)) rfl
 have k1 : W0.cell? (w.heap.size + 1, 0) = some (.map mo) := by rw [<-hW0]; exact ae (bD (w := w.alloc _) _ GV) rfl
 have h0 := h.later B0
 have FC := hd1 (z0c (w := W0) (fn := 116) (lb := #[.pointer (some ⟨w.heap.size, 0, none⟩), .pointer (some ⟨w.heap.size + 1, 0, none⟩)]) (body := Wm.aG 1 ++ Wm.aG gen ++ Wm.aG (Maps.size D)) eg1
  (by have := (Em.h_ 1).1; have := (Em.h_ gen).1; have := (Em.h_ (Maps.size D)).1; rw [IL, IL]; omega)
  (λ W hb q1 => x4m q1 ((hb.cell (p := ⟨w.heap.size, 0, none⟩) N_).trans k0) ((hb.cell (p := ⟨w.heap.size + 1, 0, none⟩) N_).trans k1) (h0.later hb) GR GR))
 have H := hd6 h0 hD hs B0 z0 k1;have EG := hd1 CW;have lens : ∀ i, (Em.fT (Wm.aG 1 ++ Wm.aG gen ++ Wm.aG (Maps.size D)) ++ ((Em.cO D).take i).flatMap (Em.rowOf D)).length <= 2300000 := λ i => by
  have h1 := Em.q9 (Wm.aG 1 ++ Wm.aG gen ++ Wm.aG (Maps.size D));have h2 := Em.wB (Em.rowOf D) 8205 ((Em.cO D).take i) (λ k _ => Em.q9 _);have h3 : ((Em.cO D).take i).length * 8205 <= 256 * 8205 := Kj _ (by rw [I4, Em.su]; omega);rw [IL];omega
 have LN := hd1 lens;have HF := hd1 (show Em.folded gen D = Em.fT (Wm.aG 1 ++ Wm.aG gen ++ Wm.aG (Maps.size D)) ++ (Em.cO D).flatMap (Em.rowOf D) from rfl);have HW0 := hd1 hW0;clear h hD hs k0 k1 h0 eg1 CW lens B0;have gN : ∀ (fn : Fn) (first cap : Array Value) (w : World), (Instr.makeFunc fn first cap).run prog w = .ok (.func fn first cap) w := λ _ _ _ _ => rfl;generalize Em.fT (Wm.aG 1 ++ Wm.aG gen ++ Wm.aG (Maps.size D)) = head at *;go_in
 go_wp2_with (first
  | (go_at_call 115; refine FC.mono ?_; rintro e w1 ⟨v1, rfl, o1, b1⟩
     have c1 : w1.cell? (w.heap.size + 1, 0) = some (.map mo) := (b1.cell (p := ⟨w.heap.size + 1, 0, none⟩) (by simp; have := H.2.2.2.2.1; omega)).trans H.2.2.2.2.2;have SC := hd1 ((H.1.later b1).sorted (Hf H.2.2.1));have H1 := hd2 o1 b1;clear o1 b1)
  | (go_at_call 44; refine SC.mono ?_; rintro e w2 ⟨kv, rfl, y2, b2⟩
     obtain ⟨ka, kc, rfl⟩ := y2.slice;have H2 := hd3 y2 b2 (H1.2.trans (b2.mono H1.2.size));clear y2 b2))
 have hlen : (Em.cO D).length <= 256 := by rw [Em.su]; exact H.2.2.1
 generalize hN : (Em.cO D).length = N at *;have HN := hd1 hN;clear hN;go_loopw [5, 7, 13] (λ x _ s wr => ∃ i : Nat, i <= N /\ s = .int .i64 (i : Int) /\ bY wr W0.heap.size x (head ++ ((Em.cO D).take i).flatMap (Em.rowOf D)) /\ jb wr (.slice ka N kc) (Em.cO D) /\ Below W0 W0 wr) (λ _ _ s _ => N - (intOf s).toNat)
 case atStart => exact ⟨0, GR, rfl, by simpa using bi H1.1 H2.2.1 GZ, H2.1, H2.2.2⟩
 case round =>
  obtain ⟨i, hi, rfl, hown, hkeys, hb⟩ := hrel;by_cases hlt : i < N
  ·have i0 : (0 : Int) <= (i : Int) := GR
   have i1 : (i : Int) < (N : Int) := GR;obtain ⟨k, hk⟩ : ∃ k, (Em.cO D)[i]? = some k := ⟨_, IR Nk⟩;have z8e := Em.sj H.2.1 (Jb hk);obtain ⟨b, rfl, hc⟩ := hkeys.at hk;obtain ⟨m, n, hmo, hmap⟩ : ∃ m n, mo = some m /\ RowsIn W0 m n D := by
    rcases H.1 with ⟨_, h2⟩ | ⟨m, n, h1, h2⟩
    ·rw [h2] at hk
     simp [Em.cO, strKeys] at hk
    ·cases h1
     exact ⟨m, n, rfl, h2⟩
   have lm := hmap.lt
   have FR := hd1 (z0c (w := wr.alloc (.cells #[ag k] dB)) (fn := 118) (lb := #[.pointer (some ⟨wr.heap.size, 0, none⟩), .pointer (some ⟨w.heap.size + 1, 0, none⟩)]) (body := Wm.aG 2 ++ Wm.cB k ++ Wm.cB (Em.valueOf D k)) EG.out
    (Hf (Em.y8k H.2.1 z8e.2))
    (λ W hbW q1 => y8m q1 ((hbW.cell (p := ⟨wr.heap.size, 0, none⟩) GV).trans (ae (IC wr _) rfl))
     ((((hb.trans (GY.alloc hb.size _)).trans (hbW.mono M_)).cell (p := ⟨w.heap.size + 1, 0, none⟩) N_).trans (by rw [H.2.2.2.2.2, hmo]))
     (dZ hmap ((hb.trans (GY.alloc hb.size _)).trans (hbW.mono M_)) lm)
     GV M_ M_ GR H.2.1))
   have HT := hd1 (y8n (D := D) hk);have HA := hd3 hown hkeys hb;clear hown hkeys hb hk z8e hmo hmap lm
   go_wp2_with (first
    | (go_at_call 115; refine FR.mono ?_; rintro e w3 ⟨v3, rfl, o3, b3⟩
       have H3 := hd2 o3 (((Below.refl wr wr).alloc GZ _).trans (b3.mono GV));clear o3 b3)
    | (at_builtin; refine gU rfl (.tmp 17) (.tmp 19) rfl W0.heap.size _ (head ++ ((Em.cO D).take i).flatMap (Em.rowOf D)) rfl (bi HA.1 H3.2 GZ) _ _ _ rfl H3.1.at (by have h1 := LN.out i; have h2 : (Em.fT (Wm.aG 2 ++ Wm.cB k ++ Wm.cB (Em.valueOf D k))).length <= 8205 := Em.q9 _; omega) (IP HA.2.2.size H3.2.size) ?_
       intro v4 w4 o4 g4;have pG := bi HA.1 H3.2 GZ;have H4 := hd3 o4.out ((HA.2.1.later H3.2).adds pG g4.out) ((HA.2.2.trans (H3.2.mono HA.2.2.size)).trans (g4.below pG (IP HA.2.2.size H3.2.size)));clear o4 g4 pG))
   go_roundw;case rel => exact ⟨i + 1, GR, by go_num, by rw [HT.out, <-IZ]; exact H4.1, H4.2.1, H4.2.2⟩
   case measure => simp [intOf]; omega
  ·obtain rfl : i = N := GR
   go_wp2;go_ret;rw [Je M0, <-HF.out] at hown;exact ⟨_, rfl, bi hown GY H.2.2.2.1.size, H.2.2.2.1.trans (hb.mono H.2.2.2.1.size)⟩
end Go.Proofs.YtgffifleflkjoaaGreat
