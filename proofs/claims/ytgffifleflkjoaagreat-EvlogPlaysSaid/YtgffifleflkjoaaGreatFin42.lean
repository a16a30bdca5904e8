/-
  Parts of a proof.
-/
import Derived.Test.YtgffifleflkjoaaGreatFin36
import Derived.Test.YtgffifleflkjoaaGreatFin38
set_option linter.unusedSimpArgs false
set_option linter.unusedVariables false
set_option maxRecDepth 100000
set_option maxHeartbeats 16000000
namespace Go.Proofs.YtgffifleflkjoaaGreat
open _root_.Go.Proofs.Tryz
variable {w W w' w0 wr w1 W0 W1 W2 A B : World} {F G F' O : Nat → Prop} {v : Value} {l : List UInt8} {n q m pd md pl g p : Nat} {C : Array Value} {c : Int}
open Go.RowKit Dm
theorem y0m (h : aV w q l) : Calls prog 149 #[q] w λ e w' => e = .returned (.int .i64 (if l = [] then 0 else 140)) /\ Moves (λ k => k = q) w w' := by
 by_cases hl : l = []
 ·subst hl
  rw [IE rfl];exact (uu h).mono (by rintro e w' ⟨rfl, hb⟩; exact ⟨rfl, Moves.of_below hb⟩)
 ·rw [IA hl]
  exact y0n h hl
theorem x4n {T g1 g2 : Nat} (h : fQ w g1 g2 l 0) (hl : l.length <= 1000000000) (hr : ∀ body m0, Wm.split l = some (body, m0) -> Em.fI body = none) :
 Calls prog 112 #[.pointer (some T), .func (.func 107) #[] #[.pointer (some g1), .pointer (some g2)]] w λ e w' => e = .panicked fM /\ Moves (λ k => k = g2) w w' := by
 have eg := enters_of func107 GV rfl;cases hsp : Wm.split l with
 | none =>
  have NX := hd1 (Gi h hl NH);clear h hr hsp;exact Tc
 | some p =>
  obtain ⟨body, m0⟩ := p;have hh := hr body m0 hsp;obtain ⟨_, _, fK⟩ := jA hsp;have lb : body.length <= 1000000000 := GX;have NX := hd1 (rf h hl NH);by_cases hk : ∃ ra, Wm.bF 3 body = some (1, ra)
  ·obtain ⟨ra, hk⟩ := hk
   have la := g_ hk;have RC := hd1 (λ (X : World) (F : Nat -> Prop) (v : Value) (hv : BytesAt X.heap F v body) => qX hv lb hk);cases hg : Wm.bF 2147483647 ra with
   | none =>
    have GC := hd1 (λ (X : World) (q : Nat) (hx : aV X q ra) => CV hx GX hg);clear h hr hsp hh hk hg la lb fK hl;go_in
    go_upto_region 1 with (first
     | (with_reducible refine NX.out.mono ?_; rintro e w1 ⟨v1, rfl, y1, x1, m1⟩; have H1 := hd3 y1 x1 m1; clear y1 x1 m1)
     | (go_at_call 147; refine (RC.out _ _ _ H1.1).mono ?_; rintro e w2 ⟨q, rfl, x2, hq, b2⟩; have H2 := hd3 x2 hq b2; clear x2 hq b2))
    obtain ⟨W2, hW2⟩ := G8 (w2.alloc (.cells #[.pointer (some ⟨q, 0, none⟩)] cK));have B2 : Below w2 w2 W2 := by rw [<-hW2]; exact bla
    have r4 : W2.heap[w2.heap.size]? = some (.cells #[q] cK) := by rw [<-hW2]; exact II w2 _
    have lq := H2.1.lt;rw [hW2];obtain ⟨g4, hg4⟩ := G8 w2.heap.size;have X2 := hd1 (H2.1.later B2);rw [hg4] at r4 lq ⊢;have f4 : ∀ x : Wd (Moves (λ k => k = q) W2), x.world.cell? g4 = some (.pointer (some q)) := λ x => (I1 (x.ok.block g4 (aa r4) GX)).trans (ae r4 rfl);have ne : Nonempty (Wd (Moves (λ k => k = q) W2)) := ⟨⟨_, Moves.refl _ _⟩⟩;have HB := hd4 B2 r4 lq hg4;clear B2 r4 lq hW2 hg4;refine Ai (λ w' => ∃ x : Wd (Moves (λ k => k = q) W2), w' = x.world) [3, 4, 5, 6] (λ c w' => c = fM /\ Moves (λ k => k = q) W2 w') ?_ GV ?_
    ·exact SH
    ·refine Al [0, 2] 5 _ ⟨⟨_, Moves.of_below G6.drew⟩, rfl⟩ GV ?_
     simp only [fmc, fmn, gta, gcs, gcz];iterate 2 (with_reducible refine ak (λ K hK => ?_); simp only [au, aj]; go_simp; refine hK _ ?_; clear hK K)
     with_reducible refine aB ?_
     refine vz 1 4 _ _ rfl GV ?_;refine IJ rfl λ K hK => ?_;go_simp;go_at_call 148;refine (GC.out W2.drew q (X2.later G6.drew)).mono ?_;exact SI
   | some p =>
    obtain ⟨g, rb⟩ := p;have gL := g_ hg;have GC := hd1 (λ (X : World) (q : Nat) (hx : aV X q ra) => oO hx GX hg);cases hn : Wm.bF 256 rb with
    | none =>
     have MC := hd1 (λ (X : World) (q : Nat) (hx : aV X q rb) => CV hx GX hn);clear h hr hsp hh hk hg hn la gL lb fK hl;go_in
     go_upto_region 1 with (first
      | (with_reducible refine NX.out.mono ?_; rintro e w1 ⟨v1, rfl, y1, x1, m1⟩; have H1 := hd3 y1 x1 m1; clear y1 x1 m1)
      | (go_at_call 147; refine (RC.out _ _ _ H1.1).mono ?_; rintro e w2 ⟨q, rfl, x2, hq, b2⟩; have H2 := hd3 x2 hq b2; clear x2 hq b2))
     obtain ⟨W2, hW2⟩ := G8 (w2.alloc (.cells #[.pointer (some ⟨q, 0, none⟩)] cK));have B2 : Below w2 w2 W2 := by rw [<-hW2]; exact bla
     have r4 : W2.heap[w2.heap.size]? = some (.cells #[q] cK) := by rw [<-hW2]; exact II w2 _
     have lq := H2.1.lt;rw [hW2];obtain ⟨g4, hg4⟩ := G8 w2.heap.size;have X2 := hd1 (H2.1.later B2);rw [hg4] at r4 lq ⊢;have f4 : ∀ x : Wd (Moves (λ k => k = q) W2), x.world.cell? g4 = some (.pointer (some q)) := λ x => (I1 (x.ok.block g4 (aa r4) GX)).trans (ae r4 rfl);have ne : Nonempty (Wd (Moves (λ k => k = q) W2)) := ⟨⟨_, Moves.refl _ _⟩⟩;have HB := hd4 B2 r4 lq hg4;clear B2 r4 lq hW2 hg4;refine Ai (λ w' => ∃ x : Wd (Moves (λ k => k = q) W2), w' = x.world) [3, 4, 5, 6] (λ c w' => c = fM /\ Moves (λ k => k = q) W2 w') ?_ GV ?_
     ·exact SH
     ·refine Al [0, 2] 5 _ ⟨⟨_, Moves.of_below G6.drew⟩, rfl⟩ GV ?_
      simp only [fmc, fmn, gta, gcs, gcz];iterate 2 (with_reducible refine ak (λ K hK => ?_); simp only [au, aj]; go_simp; refine hK _ ?_; clear hK K)
      with_reducible refine aB ?_
      refine vz 1 4 _ _ rfl GV ?_;refine IJ rfl λ K hK => ?_;go_simp;go_at_call 148;refine (GC.out W2.drew q (X2.later G6.drew)).mono ?_;rintro e w3 ⟨rfl, x3, m3⟩;have M3 : Moves (λ k => k = q) W2 w3 := (Moves.of_below (Below.refl W2 W2).drew).trans m3 (λ _ _ h => h);have H3 := hd2 x3 M3;clear x3 m3;refine hK _ _ (IG (IB ⟨rfl, λ _ => ⟨⟨_, M3⟩, rfl⟩, ?_⟩));clear hK K;clear M3;refine vz 3 3 _ _ rfl GV ?_;refine IJ rfl λ K hK => ?_;go_simp;go_at_call 148;refine (MC.out w3 q H3.1).mono ?_;exact SV
    | some p =>
     obtain ⟨N, rc⟩ := p;have MC := hd1 (λ (X : World) (q : Nat) (hx : aV X q rb) => oO hx GX hn);have hbad : ¬ (rc = [] /\ 0 < g) := by
      intro hc;unfold Em.fI at hh;rw [hk] at hh;simp only [ne_eq, not_true, JS] at hh;rw [hg] at hh;simp only at hh;rw [hn] at hh;simp only at hh;rw [IE hc] at hh;cases hh
     clear h hr hsp hh hk hg hn la gL lb fK hl;go_in
     go_upto_region 1 with (first
      | (with_reducible refine NX.out.mono ?_; rintro e w1 ⟨v1, rfl, y1, x1, m1⟩; have H1 := hd3 y1 x1 m1; clear y1 x1 m1)
      | (go_at_call 147; refine (RC.out _ _ _ H1.1).mono ?_; rintro e w2 ⟨q, rfl, x2, hq, b2⟩; have H2 := hd3 x2 hq b2; clear x2 hq b2))
     obtain ⟨W2, hW2⟩ := G8 (w2.alloc (.cells #[.pointer (some ⟨q, 0, none⟩)] cK));have B2 : Below w2 w2 W2 := by rw [<-hW2]; exact bla
     have r4 : W2.heap[w2.heap.size]? = some (.cells #[q] cK) := by rw [<-hW2]; exact II w2 _
     have lq := H2.1.lt;rw [hW2];obtain ⟨g4, hg4⟩ := G8 w2.heap.size;have X2 := hd1 (H2.1.later B2);rw [hg4] at r4 lq ⊢;have f4 : ∀ x : Wd (Moves (λ k => k = q) W2), x.world.cell? g4 = some (.pointer (some q)) := λ x => (I1 (x.ok.block g4 (aa r4) GX)).trans (ae r4 rfl);have ne : Nonempty (Wd (Moves (λ k => k = q) W2)) := ⟨⟨_, Moves.refl _ _⟩⟩;have HB := hd4 B2 r4 lq hg4;clear B2 r4 lq hW2 hg4;refine bD (λ w' => ∃ x : Wd (Moves (λ k => k = q) W2), w' = x.world) [3, 4, 5, 6] GV ?_;refine aL [0, 2] 5 _ ⟨⟨_, Moves.of_below G6.drew⟩, rfl⟩ GV ?_;simp only [fmc, fmn, gta, gcs, gcz];iterate 2 (with_reducible refine ak (λ K hK => ?_); simp only [au, aj]; go_simp; refine hK _ ?_; clear hK K)
     with_reducible refine aB ?_
     refine aA 1 4 _ _ rfl GV ?_;refine IJ rfl λ K hK => ?_;go_simp;go_at_call 148;refine (GC.out W2.drew q (X2.later G6.drew)).mono ?_;rintro e w3 ⟨rfl, x3, m3⟩;have M3 : Moves (λ k => k = q) W2 w3 := (Moves.of_below (Below.refl W2 W2).drew).trans m3 (λ _ _ h => h);have H3 := hd2 x3 M3;clear x3 m3;refine hK _ _ (IG ⟨rfl, λ _ => ⟨⟨_, M3⟩, rfl⟩, ?_⟩);clear hK K;clear M3;refine aA 3 3 _ _ rfl GV ?_;refine IJ rfl λ K hK => ?_;go_simp;go_at_call 148;refine (MC.out w3 q H3.1).mono ?_;rintro e w4 ⟨rfl, x4, m4⟩;have H4 := hd2 x4 (H3.2.trans m4 (λ _ _ h => h));clear x4 m4 f4 ne;refine hK _ _ (IG ⟨rfl, λ h => absurd GY h, ?_⟩);clear hK K;refine eY [4, 5, 6] 0 _ GV ?_;refine Hd ?_;refine ⟨GV, ?_⟩;have c4 : w4.cell? g4 = some (.pointer (some q)) := (I1 (H4.2.block g4 (aa HB.2.1) (Hm HB.2.2.1))).trans (ae HB.2.1 rfl);have EC := hd1 (y0m H4.1);by_cases hre : rc = []
     ·have g0 : ¬ 0 < g := λ h => hbad ⟨hre, h⟩
      rw [IE hre] at EC;exact Sy
     ·rw [IA hre] at EC
      exact Sy
  ·have RC := hd1 (λ (X : World) (F : Nat -> Prop) (v : Value) (hv : BytesAt X.heap F v body) => Fs (kind := 1) hv lb (λ r e => hk ⟨r, e⟩))
   clear h hr hsp hh hk lb hl fK;exact SG
theorem y8o {T g1 g2 N m0 : Nat} {at' : Int} {rv : Value} {b0 e0 g0 : Nat} {body : List UInt8} (h : fQ w g1 g2 l 0) (hl : l.length <= 1000000000)
 (hT : w.heap[T]? = some (.cells (jh at' g0 rv b0 e0) dK (0, 0))) (h1 : g1 < T) (h2 : T < g2) (hsp : Wm.split l = some (body, m0)) (hh : Em.fI body = some (g, N)) (hrw : Em.dS l N m0 [] (.map []) = none) :
 Calls prog 112 #[.pointer (some T), .func (.func 107) #[] #[.pointer (some g1), .pointer (some g2)]] w λ e w' => e = .panicked fM /\ Moves (λ k => k = g2) w w' := by
 have eg := enters_of func107 GV rfl;obtain ⟨ra, rb, hk, hg, hn, g0'⟩ := Be hh;obtain ⟨_, _, fK⟩ := jA hsp;have la := g_ hk;have gL := g_ hg;have yL := g_ hn;have w1w : N <= 256 := yL.2.1;have NX := hd1 (rf h hl NH);have RC := hd1 (λ (X : World) (F : Nat -> Prop) (v : Value) (hv : BytesAt X.heap F v body) => qX hv GX hk);have GC := hd1 (λ (X : World) (q : Nat) (hx : aV X q ra) => oO hx GX hg);have MC := hd1 (λ (X : World) (q : Nat) (hx : aV X q rb) => oO hx GX hn);have HH := hd6 h hT hrw hl h1 h2;have x4d : (0 : Int) < (g : Int) := GX;have x4e : 0 < g := g0';clear h hT hrw hh hk hg hn hsp la gL yL fK hl g0';go_in
 go_upto_region 1 with (first
  | (with_reducible refine NX.out.mono ?_; rintro e w1 ⟨v1, rfl, y1, x1, m1⟩; have H1 := hd3 y1 x1 m1; clear y1 x1 m1)
  | (go_at_call 147; refine (RC.out _ _ _ H1.1).mono ?_; rintro e w2 ⟨q, rfl, x2, hq, b2⟩; have H2 := hd3 x2 hq b2; clear x2 hq b2))
 obtain ⟨W2, hW2⟩ := G8 (w2.alloc (.cells #[.pointer (some ⟨q, 0, none⟩)] cK));have B2 : Below w2 w2 W2 := by rw [<-hW2]; exact bla
 have r4 : W2.heap[w2.heap.size]? = some (.cells #[q] cK) := by rw [<-hW2]; exact II w2 _
 have lq := H2.1.lt;rw [hW2];obtain ⟨g4, hg4⟩ := G8 w2.heap.size;have X2 := hd1 (H2.1.later B2);rw [hg4] at r4 lq ⊢;have f4 : ∀ x : Wd (Moves (λ k => k = q) W2), x.world.cell? g4 = some (.pointer (some q)) := λ x => (I1 (x.ok.block g4 (aa r4) GX)).trans (ae r4 rfl);have ne : Nonempty (Wd (Moves (λ k => k = q) W2)) := ⟨⟨_, Moves.refl _ _⟩⟩;have HB := hd4 B2 r4 lq hg4;clear B2 r4 lq hW2 hg4;refine bD (λ w' => ∃ x : Wd (Moves (λ k => k = q) W2), w' = x.world) [3, 4, 5, 6] GV ?_;refine aL [0, 2] 5 _ ⟨⟨_, Moves.of_below G6.drew⟩, rfl⟩ GV ?_;simp only [fmc, fmn, gta, gcs, gcz];iterate 2 (with_reducible refine ak (λ K hK => ?_); simp only [au, aj]; go_simp; refine hK _ ?_; clear hK K)
 with_reducible refine aB ?_
 refine aA 1 4 _ _ rfl GV ?_;refine IJ rfl λ K hK => ?_;go_simp;go_at_call 148;refine (GC.out W2.drew q (X2.later G6.drew)).mono ?_;rintro e w3 ⟨rfl, x3, m3⟩;have M3 : Moves (λ k => k = q) W2 w3 := (Moves.of_below (Below.refl W2 W2).drew).trans m3 (λ _ _ h => h);have H3 := hd2 x3 M3;clear x3 m3;refine hK _ _ (IG ⟨rfl, λ _ => ⟨⟨_, M3⟩, rfl⟩, ?_⟩);clear hK K;clear M3;refine aA 3 3 _ _ rfl GV ?_;refine IJ rfl λ K hK => ?_;go_simp;go_at_call 148;refine (MC.out w3 q H3.1).mono ?_;rintro e w4 ⟨rfl, x4, m4⟩;have H4 := hd2 x4 (H3.2.trans m4 (λ _ _ h => h));clear x4 m4 f4 ne;refine hK _ _ (IG ⟨rfl, λ h => absurd GY h, ?_⟩);clear hK K;refine eY [4, 5, 6] 0 _ GV ?_;refine Hd ?_;refine ⟨GV, ?_⟩;have c4 : w4.cell? g4 = some (.pointer (some q)) := (I1 (H4.2.block g4 (aa HB.2.1) (Hm HB.2.2.1))).trans (ae HB.2.1 rfl);have EC := hd1 (uu H4.1);have hmm := @Ky prog
 go_wp2_with (first
  | (go_at_call 149; refine EC.mono ?_; rintro e w5 ⟨rfl, b5⟩; have H5 := hd1 b5; clear b5 c4)
  | (go_at_call 109; refine (kN _).mono ?_; rintro e w' ⟨rfl, rfl⟩))
 obtain ⟨W5, qc⟩ := G8 (w5.alloc (.map #[] 0));have b5 : Below w5 w5 W5 := by rw [<-qc]; exact bla
 have rM : RowsIn W5 w5.heap.size 0 (.map []) := by rw [<-qc]; exact Mj (H := Unit) w5 prog dB (plainElem prog dB)
 have BW : Below w1 w1 W5 := (((Moves.of_below (O := λ k => w1.heap.size <= k) (H2.2.2)).trans (Moves.of_below (O := λ k => w1.heap.size <= k) HB.1) (λ _ _ h => h)).trans ((H4.2.mono (O' := λ k => w1.heap.size <= k) (λ k hk => Hm H2.2.1)).trans (Moves.of_below (O := λ k => w1.heap.size <= k) (H5.trans (b5.mono H5.size))) (λ _ _ h => h)) (λ _ _ h => h)).low (O' := λ _ => False) (λ i hi h => GX) |>.below
 have lM : w1.heap.size <= w5.heap.size := by have := H2.2.2.size; have := HB.1.size; have := H4.2.size; have := H5.size; omega
 rw [qc];obtain ⟨M, hM⟩ := G8 w5.heap.size;rw [hM] at rM lM ⊢;have ST := hd1 (show D9 w g1 g2 M N m0 l 0 [] W5 (.map []) m0 from ⟨by have := H1.2.1.later BW; rwa [Ja] at this, rM, rfl, (H1.2.2.mono (O' := λ k => k = g2 \/ w.heap.size <= k) (λ _ h => IB h)).trans (Moves.of_below (O := λ k => k = g2 \/ w.heap.size <= k) BW) (λ _ _ h => h)⟩);have HM := hd1 (show w.heap.size <= M by have := H1.2.2.size; omega);clear qc b5 rM BW lM hM H1 H2 H3 H4 H5 HB X2 EC NX RC GC MC;go_loopw [7, 30] (λ s7 s wr => ∃ (i : Nat) (last : List UInt8) (D : Em.Rows) (fin : Nat), i <= N /\ s = .int .i64 (i : Int) /\ s7 = ag last /\ D9 w g1 g2 M N m0 l i last wr D fin) (λ _ s _ => N - (intOf s).toNat)
 case atStart => exact ⟨0, [], _, _, IY _, rfl, rfl, ST.out⟩
 case round =>
  obtain ⟨i, last, Di, fi, hi, rfl, rfl, hrel⟩ := hrel;have heq := hrel.cZ;have FL := hd1 (show ∀ wX, Moves (λ k => k = g2) wr wX -> Moves (λ k => k = g2) w wX from λ wX hx => (hrel.mv.trans (hx.mono (O' := λ k => k = g2 \/ w.heap.size <= k) (λ _ h => IB h)) (λ _ _ h => h)).low (λ i hi h => by rcases h with h | h; exact h; omega));by_cases hlt : i < N
  ·have i0 : (0 : Int) <= (i : Int) := GX
   have i1 : (i : Int) < (N : Int) := GX;obtain ⟨j, hj⟩ : ∃ j, N - i = j + 1 := ⟨N - i - 1, GX⟩;have kP := HH.2.2.2.1;have oK : (l.drop fi).length <= l.length := by rw [I9]; omega
   cases hsp : Wm.split (l.drop fi) with
   | none =>
    have NX := hd1 (Gi hrel.next kP hsp);clear hrel heq hsp kP oK;go_wp2_with (with_reducible refine NX.out.mono ?_; rintro e w1 ⟨rfl, b1⟩)
    exact ⟨rfl, rfl, FL.out _ (Moves.of_below b1)⟩
   | some p =>
    obtain ⟨qo, m'⟩ := p;obtain ⟨_, _, fK⟩ := jA hsp;cases hrr : Em.jl last qo with
    | none =>
     have NX := hd1 (rf hrel.next kP hsp);by_cases hk : ∃ iW, Wm.bF 3 qo = some (2, iW)
     ·obtain ⟨iW, hk⟩ := hk
      have la := g_ hk;have RC := hd1 (λ (X : World) (F : Nat -> Prop) (v : Value) (hv : BytesAt X.heap F v qo) => qX hv GX hk);cases ht : Wm.df 64 iW with
      | none =>
       have KC := hd1 (λ (X : World) (q : Nat) (hx : aV X q iW) => CU hx GX ht);clear hrel heq hsp hrr hk ht fK la oK kP
       go_upto_region 7 with (first
        | (with_reducible refine NX.out.mono ?_; rintro e w1 ⟨v1, rfl, y1, x1, m1⟩; have H1 := hd3 y1 x1 m1; clear y1 x1 m1)
        | (go_at_call 147; refine (RC.out _ _ _ H1.1).mono ?_; rintro e w2 ⟨q, rfl, x2, hq, b2⟩; have H2 := hd3 x2 hq b2; clear x2 hq b2))
       obtain ⟨W2, hW2⟩ := G8 (w2.alloc (.cells #[.pointer (some ⟨q, 0, none⟩)] cK));have B2 : Below w2 w2 W2 := by rw [<-hW2]; exact bla
       have r4 : W2.heap[w2.heap.size]? = some (.cells #[q] cK) := by rw [<-hW2]; exact II w2 _
       have lq := H2.1.lt;rw [hW2];obtain ⟨g4, hg4⟩ := G8 w2.heap.size;have X2 := hd1 (H2.1.later B2);rw [hg4] at r4 lq ⊢;have f4 : ∀ x : Wd (Moves (λ k => k = q) W2), x.world.cell? g4 = some (.pointer (some q)) := λ x => (I1 (x.ok.block g4 (aa r4) GX)).trans (ae r4 rfl);have ne : Nonempty (Wd (Moves (λ k => k = q) W2)) := ⟨⟨_, Moves.refl _ _⟩⟩;have HB := hd4 B2 r4 lq hg4;clear B2 r4 lq hW2 hg4;refine Ai (λ w' => ∃ x : Wd (Moves (λ k => k = q) W2), w' = x.world) [3, 4, 5] (λ c w' => c = fM /\ Moves (λ k => k = q) W2 w') ?_ GV ?_
       ·exact SF
       ·refine Al [0, 2] 4 _ ⟨⟨_, Moves.of_below G6.drew⟩, rfl⟩ GV ?_
        simp only [fmc, fmn, gta, gcs, gcz];iterate 2 (with_reducible refine ak (λ K hK => ?_); simp only [au, aj]; go_simp; refine hK _ ?_; clear hK K)
        with_reducible refine aB ?_
        refine vz 1 3 _ _ rfl GV ?_;refine IJ rfl λ K hK => ?_;go_simp;go_at_call 150;refine (KC.out W2.drew q (X2.later G6.drew)).mono ?_;exact SI
      | some p =>
       obtain ⟨k, kM⟩ := p;have lk := lC ht;have KC := hd1 (λ (X : World) (q : Nat) (hx : aV X q iW) => qi hx GX ht);cases hv : Wm.df 4096 kM with
       | none =>
        have VC := hd1 (λ (X : World) (q : Nat) (hx : aV X q kM) => CU hx GX hv);clear hrel heq hsp hrr hk ht hv fK la lk oK kP
        go_upto_region 7 with (first
         | (with_reducible refine NX.out.mono ?_; rintro e w1 ⟨v1, rfl, y1, x1, m1⟩; have H1 := hd3 y1 x1 m1; clear y1 x1 m1)
         | (go_at_call 147; refine (RC.out _ _ _ H1.1).mono ?_; rintro e w2 ⟨q, rfl, x2, hq, b2⟩; have H2 := hd3 x2 hq b2; clear x2 hq b2))
        obtain ⟨W2, hW2⟩ := G8 (w2.alloc (.cells #[.pointer (some ⟨q, 0, none⟩)] cK));have B2 : Below w2 w2 W2 := by rw [<-hW2]; exact bla
        have r4 : W2.heap[w2.heap.size]? = some (.cells #[q] cK) := by rw [<-hW2]; exact II w2 _
        have lq := H2.1.lt;rw [hW2];obtain ⟨g4, hg4⟩ := G8 w2.heap.size;have X2 := hd1 (H2.1.later B2);rw [hg4] at r4 lq ⊢;have f4 : ∀ x : Wd (Moves (λ k => k = q) W2), x.world.cell? g4 = some (.pointer (some q)) := λ x => (I1 (x.ok.block g4 (aa r4) GX)).trans (ae r4 rfl);have ne : Nonempty (Wd (Moves (λ k => k = q) W2)) := ⟨⟨_, Moves.refl _ _⟩⟩;have HB := hd4 B2 r4 lq hg4;clear B2 r4 lq hW2 hg4;refine Ai (λ w' => ∃ x : Wd (Moves (λ k => k = q) W2), w' = x.world) [3, 4, 5] (λ c w' => c = fM /\ Moves (λ k => k = q) W2 w') ?_ GV ?_
        ·exact SF
        ·refine Al [0, 2] 4 _ ⟨⟨_, Moves.of_below G6.drew⟩, rfl⟩ GV ?_
         simp only [fmc, fmn, gta, gcs, gcz];iterate 2 (with_reducible refine ak (λ K hK => ?_); simp only [au, aj]; go_simp; refine hK _ ?_; clear hK K)
         with_reducible refine aB ?_
         refine vz 1 3 _ _ rfl GV ?_;refine IJ rfl λ K hK => ?_;go_simp;go_at_call 150;refine (KC.out W2.drew q (X2.later G6.drew)).mono ?_;rintro e w3 ⟨rfl, x3, m3⟩;have M3 : Moves (λ k => k = q) W2 w3 := (Moves.of_below (Below.refl W2 W2).drew).trans m3 (λ _ _ h => h);have H3 := hd2 x3 M3;clear x3 m3;refine hK _ _ (IG (IB ⟨rfl, λ _ => ⟨⟨_, M3⟩, rfl⟩, ?_⟩));clear hK K;clear M3;refine vz 3 2 _ _ rfl GV ?_;refine IJ rfl λ K hK => ?_;go_simp;go_at_call 150;refine (VC.out w3 q H3.1).mono ?_;exact SV
       | some p =>
        obtain ⟨vv, rc⟩ := p;have VC := hd1 (λ (X : World) (q : Nat) (hx : aV X q kM) => qi hx GX hv);have hbad : rc = [] -> k <= last := by
         intro hc;refine Decidable.byContradiction λ hn => ?_;unfold Em.jl at hrr;rw [hk] at hrr;simp only [ne_eq, not_true, JS] at hrr;rw [ht] at hrr;simp only at hrr;rw [hv] at hrr;simp only at hrr;rw [IE ⟨hc, hn⟩] at hrr;cases hrr
        clear hrel heq hsp hrr hk ht hv fK la lk oK kP
        go_upto_region 7 with (first
         | (with_reducible refine NX.out.mono ?_; rintro e w1 ⟨v1, rfl, y1, x1, m1⟩; have H1 := hd3 y1 x1 m1; clear y1 x1 m1)
         | (go_at_call 147; refine (RC.out _ _ _ H1.1).mono ?_; rintro e w2 ⟨q, rfl, x2, hq, b2⟩; have H2 := hd3 x2 hq b2; clear x2 hq b2))
        obtain ⟨W2, hW2⟩ := G8 (w2.alloc (.cells #[.pointer (some ⟨q, 0, none⟩)] cK));have B2 : Below w2 w2 W2 := by rw [<-hW2]; exact bla
        have r4 : W2.heap[w2.heap.size]? = some (.cells #[q] cK) := by rw [<-hW2]; exact II w2 _
        have lq := H2.1.lt;rw [hW2];obtain ⟨g4, hg4⟩ := G8 w2.heap.size;have X2 := hd1 (H2.1.later B2);rw [hg4] at r4 lq ⊢;have f4 : ∀ x : Wd (Moves (λ k => k = q) W2), x.world.cell? g4 = some (.pointer (some q)) := λ x => (I1 (x.ok.block g4 (aa r4) GX)).trans (ae r4 rfl);have ne : Nonempty (Wd (Moves (λ k => k = q) W2)) := ⟨⟨_, Moves.refl _ _⟩⟩;have HB := hd4 B2 r4 lq hg4;clear B2 r4 lq hW2 hg4;refine bD (λ w' => ∃ x : Wd (Moves (λ k => k = q) W2), w' = x.world) [3, 4, 5] GV ?_;refine aL [0, 2] 4 _ ⟨⟨_, Moves.of_below G6.drew⟩, rfl⟩ GV ?_;simp only [fmc, fmn, gta, gcs, gcz];iterate 2 (with_reducible refine ak (λ K hK => ?_); simp only [au, aj]; go_simp; refine hK _ ?_; clear hK K)
        with_reducible refine aB ?_
        refine aA 1 3 _ _ rfl GV ?_;refine IJ rfl λ K hK => ?_;go_simp;go_at_call 150;refine (KC.out W2.drew q (X2.later G6.drew)).mono ?_;rintro e w3 ⟨rfl, x3, m3⟩;have M3 : Moves (λ k => k = q) W2 w3 := (Moves.of_below (Below.refl W2 W2).drew).trans m3 (λ _ _ h => h);have H3 := hd2 x3 M3;clear x3 m3;refine hK _ _ (IG ⟨rfl, λ _ => ⟨⟨_, M3⟩, rfl⟩, ?_⟩);clear hK K;clear M3;refine aA 3 2 _ _ rfl GV ?_;refine IJ rfl λ K hK => ?_;go_simp;go_at_call 150;refine (VC.out w3 q H3.1).mono ?_;rintro e w4 ⟨rfl, x4, m4⟩;have H4 := hd2 x4 (H3.2.trans m4 (λ _ _ h => h));clear x4 m4 f4 ne;refine hK _ _ (IG ⟨rfl, λ h => absurd GY h, ?_⟩);clear hK K;refine eY [4, 5] 0 _ GV ?_;refine Hd ?_;refine ⟨GV, ?_⟩;have c4 : w4.cell? g4 = some (.pointer (some q)) := (I1 (H4.2.block g4 (aa HB.2.1) (Hm HB.2.2.1))).trans (ae HB.2.1 rfl);have EC := hd1 (y0m H4.1);by_cases hre : rc = []
        ·have hkl := hbad hre
         rw [IE hre] at EC;clear hbad hre;by_cases hkq : k = last
         ·have q1 : Op.bytesLess k last = false := by rw [uA, LW, hkq]; exact List.lt_irrefl _
          have q2 : (k == last) = true := by rw [beq_iff_eq]; exact hkq
          clear hkl hkq;exact Sw
         ·have q1 : Op.bytesLess k last = true := by rw [uA, decide_eq_true_iff]; exact List.not_le.1 (λ h => hkq (KW hkl h))
          clear hkl hkq;exact Sw
        ·rw [IA hre] at EC
         clear hbad hre;exact Sw
     ·have RC := hd1 (λ (X : World) (F : Nat -> Prop) (v : Value) (hv : BytesAt X.heap F v qo) => Fs (kind := 2) hv GX (λ r e => hk ⟨r, e⟩))
      clear hrel heq hsp hrr hk fK oK kP
      go_wp2_with (first
       | (with_reducible refine NX.out.mono ?_; rintro e w1 ⟨v1, rfl, y1, x1, m1⟩; have H1 := hd3 y1 x1 m1; clear y1 x1 m1)
       | (go_at_call 147; refine (RC.out _ _ _ H1.1).mono ?_; rintro e w2 ⟨rfl, b2⟩))
      exact ⟨rfl, rfl, FL.out _ (H1.2.2.trans (Moves.of_below b2) (λ _ _ h => h))⟩
    | some p =>
     obtain ⟨k, vv⟩ := p;clear heq oK kP fK;obtain ⟨iW, kM, hk, ht, hv, hlast⟩ := Ba hrr;obtain ⟨_, _, fK⟩ := jA hsp;have la := g_ hk;have lk := lC ht;have lv := lC hv;have oK : (l.drop fi).length <= l.length := by rw [I9]; omega
     have kP := HH.2.2.2.1;have NX := hd1 (rf hrel.next kP hsp);have RC := hd1 (λ (X : World) (F : Nat -> Prop) (v : Value) (hv : BytesAt X.heap F v qo) => qX hv GX hk);have KC := hd1 (λ (X : World) (q : Nat) (hx : aV X q iW) => qi hx GX ht);have VC := hd1 (λ (X : World) (q : Nat) (hx : aV X q kM) => qi hx GX hv);have q1 : Op.bytesLess k last = false := z3a _ _ hlast;have q2 : (k == last) = false := z3b _ _ hlast;have HR := hd4 hrel trivial lk.2 lv.2;have HRR := hd2 hsp hrr;clear hrel hsp hrr hk ht hv hlast fK la lk lv oK kP;exact Sn
  ·obtain rfl : i = N := GX
   rw [J_, HH.2.2.1, Em.dS] at heq;cases heq
theorem x9o {T g1 g2 : Nat} {at' : Int} {rv : Value} {b0 e0 g0 : Nat} (h : fQ w g1 g2 l 0) (hl : l.length <= 1000000000)
 (hT : w.heap[T]? = some (.cells (jh at' g0 rv b0 e0) dK (0, 0))) (h1 : g1 < T) (h2 : T < g2) (hr : Em.fe l = none) :
 Calls prog 112 #[.pointer (some T), .func (.func 107) #[] #[.pointer (some g1), .pointer (some g2)]] w λ e w' => e = .panicked fM /\ Moves (λ k => k = g2) w w' := by
 by_cases hz : ∀ body m0, Wm.split l = some (body, m0) -> Em.fI body = none
 ·exact x4n h hl hz
 ·obtain ⟨body, hz⟩ := Classical.not_forall.1 hz
  obtain ⟨m0, hz⟩ := Classical.not_forall.1 hz;obtain ⟨hsp, hz⟩ := Classical.not_imp.1 hz;cases hh : Em.fI body with
  | none => exact absurd hh hz
  | some p =>
   obtain ⟨g, N⟩ := p;refine y8o h hl hT h1 h2 hsp hh ?_;unfold Em.fe at hr;rw [hsp] at hr;simp only at hr;rw [hh] at hr;simp only at hr;cases hrw : Em.dS l N m0 [] (.map []) with
   | none => rfl
   | some p => rw [hrw] at hr; cases hr
theorem tL {e : Em.E} (x : bL w pl pd md e F) : bL w pl pd md e (λ k => F k /\ k < w.heap.size) := by
 obtain ⟨l1, l2, l3, l4, l5⟩ := x.disk.lt;exact ⟨x.good, x.disk.weak (λ k hk hl => ⟨hk, hl⟩) (λ h => l4 h.1) (λ h => l5 h.1), x.row, x.ne.1, x.ne.2.1, λ h => x.ne.2.2 h.1⟩
theorem mJ {e : Em.E} (x : bL w pl pd md e F) (hm : Moves O w w') (h1 : ¬ O pl) (h2 : ¬ O pd) (h3 : ¬ O md) (h4 : ∀ k, F k -> ¬ O k)
 (h5 : ∀ k, O k -> k < w.heap.size -> ∃ c t fr, w.heap[k]? = some (.cells c t fr)) : bL w' pl pd md e F := by
 obtain ⟨m, row, rows, hne⟩ := x.row;have lm := rows.lt;obtain ⟨l1, l2, _, _, _⟩ := x.disk.lt;have hO : ¬ O m := by
  intro h;obtain ⟨c, t, fr, hc⟩ := h5 m h lm;obtain ⟨es, clock, k1, _⟩ := rows;rw [k1] at hc;cases hc
 refine ⟨x.good, x.disk.keeps (hm.block pd l1 h2) (hm.block md l2 h3) (λ k hk hl => hm.block k hl (h4 k hk)) (λ _ h _ => h) (λ _ h => IB h), ⟨m, (hm.block pl (aa row) h1).trans row, ?_, hne⟩, x.ne⟩;obtain ⟨es, clock, k1, G, hs, hD⟩ := rows;exact ⟨es, clock, (hm.block m lm hO).trans k1, G, hs, hD⟩
theorem kT (hb : Below w0 w0 A) (hm : Moves O A B) (hO : ∀ k, O k -> w0.heap.size <= k) : Below w0 w0 B :=
 ⟨hm.os.trans hb.os, hm.tape.trans hb.tape, hm.output.trans hb.output, IV hb.size hm.size, λ k hk => (hm.block k (Je hk hb.size) (λ h => Hm (hO k h))).trans (hb.block k hk)⟩
theorem mI {k : Nat} {o : Obj} (h : w.heap[k]? = some o) : k < w.heap.size := (Jk.1 h).1
theorem m_.all {Q : List iR} (h : m_ w v Q) : ∀ q ∈ Q, pE w q := by
 intro q hq;rcases h with ⟨_, rfl⟩ | ⟨b, o, cap, cs, t, fr, h1, h2, h3⟩
 ·cases hq
 ·obtain ⟨i, hi⟩ := KH.1 hq
  exact (h3 i q hi).1
section
attribute [local go_sem] Oper.semAt_some
theorem y4w {α : Type} {P : Program} {g : Operand} {r s : Nat} {assign body : Code} {Q : Exit -> Act -> World -> Prop} {a : Act}
 {gf : Nat} {lb : Array Value} (hg : a.eval g = .func (.func gf) #[] lb) (eg : ∀ args w, (callFunc gf args).run P w = .ok (.enter gf args) w)
 {u v : α -> Value} {xs : List α} {R : Nat -> Prop} (hseq : Iter P gf lb (λ x => #[u x, v x]) xs R w0) (hR : ∀ i, R i -> i < w.heap.size) (hb0 : Below w0 w0 w)
 (I : Nat -> (Nat -> Prop) -> World -> Prop) (Ix : Nat -> (Nat -> Prop) -> World -> Prop) (hI : Stable I) (hIx : Stable Ix)
 (lJ : ∀ k O (r : Loop) (o : Obj) W, W.heap[w.heap.size + 1]? = some (.loop r) -> I k O W -> I k O (W.putObj (w.heap.size + 1) o))
 (nQ : ∀ k O (r : Loop) (o : Obj) W, W.heap[w.heap.size + 1]? = some (.loop r) -> Ix k O W -> Ix k O (W.putObj (w.heap.size + 1) o))
 (h0 : ∀ W, Below w w W -> W.heap.size = w.heap.size + 2 -> I 0 (λ _ => False) W)
 (hassign : ∀ (x : α) (l : Nat) (W : World), assign.wpIn (Fence.wide.inRound l) 0 P (Exit.then (λ a' W' => a' = { tmps := (((a.tmps.setIfInBounds p (u x)).setIfInBounds q (v x)).setIfInBounds r (u x)).setIfInBounds s (v x), defers := [] } /\ W' = W) (λ _ _ _ => False))
  { tmps := (a.tmps.setIfInBounds p (u x)).setIfInBounds q (v x), defers := [] } W)
 (hbody : ∀ (k : Nat) (x : α) (O : Nat -> Prop) (W : World), xs[k]? = some x -> ¬ O (w.heap.size + 1) -> ¬ O w.heap.size -> I k O W ->
  body.wpIn (Fence.wide.inRound (w.heap.size + 1)) 0 P (GJ (λ i => O i \/ R i \/ i = w.heap.size + 1 \/ i = w.heap.size) I (λ c k O W => c = .ret /\ Ix k O W) xs k O W)
   { tmps := (((a.tmps.setIfInBounds p (u x)).setIfInBounds q (v x)).setIfInBounds r (u x)).setIfInBounds s (v x), defers := [] } W)
 (hdone : ∀ (O : Nat -> Prop) (W : World), I xs.length O W -> ¬ O w.heap.size -> W.heap[w.heap.size]? = some (.deferred (some [])) -> Q .normal { a with defers := { target := .collected w.heap.size, args := #[] } :: a.defers } W)
 (hstop : ∀ (k : Nat) (O : Nat -> Prop) (W : World), k <= xs.length -> Ix k O W -> ¬ O w.heap.size -> W.heap[w.heap.size]? = some (.deferred (some [])) -> Code.ret.wpIn Fence.wide 0 P Q { a with defers := { target := .collected w.heap.size, args := #[] } :: a.defers } W) :
 (Code.rangeFunc g #[p, q] assign body).wpIn Fence.wide 0 P Q a w := by
 have hz : ∀ x, (#[p, q].zip #[u x, v x]).foldl (λ t (x : Nat × Value) => t.setIfInBounds x.1 x.2) a.tmps = (a.tmps.setIfInBounds p (u x)).setIfInBounds q (v x) := λ x => GZ
 refine Ej hg eg hseq hR hb0 (λ _ => rfl) I (λ c k O W => c = .ret /\ Ix k O W) hI (λ c k O O' A B h hm h1 h2 => ⟨h.1, hIx k O O' A B h.2 hm h1 h2⟩) lJ (λ c k O r o W h hx => ⟨hx.1, nQ k O r o W h hx.2⟩) h0
  (λ x a' _ => a' = { tmps := (((a.tmps.setIfInBounds p (u x)).setIfInBounds q (v x)).setIfInBounds r (u x)).setIfInBounds s (v x), defers := [] }) (λ x a' W l r o _ h => h) ?_ ?_ ?_ ?_
 ·intro k x O W hx hi _ _ _
  have := hassign x (w.heap.size + 1) W;rw [<-hz x] at this;refine KI this (λ e a' W' he => ?_);cases e with
  | normal =>
   obtain ⟨rfl, rfl⟩ := he;exact ⟨hi, di.refl _ _, by rw [hz x]⟩
  | ret => exact he
  | exit id => exact he
  | goto t => exact he
  | panic ch => exact he
  | outgrown => exact he
 ·rintro k x O a' W hx _ _ h1 h2 hi rfl
  exact hbody k x O W hx h1 h2 hi
 ·exact hdone
 ·rintro c k O W hk ⟨rfl, hx⟩ ho hD
  exact hstop k O W hk hx ho hD
def nW (W8 : World) (q4 q5 : Nat) (S : Nat -> Int -> Prop) (k : Nat) (O : Nat -> Prop) (W : World) : Prop :=
 Moves (λ i => i = q4 \/ i = q5) W8 W /\ W.heap[q4]? = some (.cells #[.bool false] 4 (0, 0)) /\ (∃ n : Int, W.heap[q5]? = some (.cells #[.int .i64 n] 3 (0, 0)) /\ S k n) /\ ∀ i, O i -> W8.heap.size <= i
theorem z4d {W8 : World} {q4 q5 : Nat} {S : Nat -> Int -> Prop} (h4 : q4 < W8.heap.size) (h5 : q5 < W8.heap.size) : Stable (nW W8 q4 q5 S) := by
 rintro k O O' A B ⟨h1, h2, ⟨n, h3, hS⟩, ho⟩ hm ho1 ho2;refine ⟨h1.trans hm (λ i hi h => absurd (ho i h) GX), (hm.block q4 (aa h2) (λ h => absurd (ho q4 h) GX)).trans h2, ⟨n, (hm.block q5 (aa h3) (λ h => absurd (ho q5 h) GX)).trans h3, hS⟩, λ i hi => ?_⟩;rcases ho2 i hi with h | h
 ·exact ho i h
 ·exact IV h1.size h
theorem z4c {W8 : World} {q4 q5 : Nat} {S : Nat -> Int -> Prop} (h4 : q4 < W8.heap.size) (h5 : q5 < W8.heap.size) (k : Nat) (O : Nat -> Prop) (o : Obj) (W : World) (h : nW W8 q4 q5 S k O W) : nW W8 q4 q5 S k O (W.putObj (W8.heap.size + 1) o) := by
 obtain ⟨h1, h2, ⟨n, h3, hS⟩, ho⟩ := h;exact ⟨h1.trans (ru (l := W8.heap.size + 1) o) (λ i hi h => GX), (Jf GX).trans h2, ⟨n, (Jf GX).trans h3, hS⟩, ho⟩
theorem y7p {W8 : World} {q4 q5 : Nat} {S : Nat -> Int -> Prop} (r4 : W8.heap[q4]? = some (.cells #[false] 4)) (r5 : W8.heap[q5]? = some (.cells #[.int .i64 0] 3)) (h0 : S 0 0) (W : World) (hb : Below W8 W8 W) : nW W8 q4 q5 S 0 (λ _ => False) W :=
 ⟨Moves.of_below hb, (hb.block q4 (aa r4)).trans r4, ⟨0, (hb.block q5 (aa r5)).trans r5, h0⟩, λ i h => h.elim⟩
theorem nW.row {W8 : World} {q4 q5 k : Nat} {S : Nat -> Int -> Prop} (h : nW W8 q4 q5 S k O W) {b : Nat} {o : Obj} (r : W8.heap[b]? = some o) (h4 : b ≠ q4) (h5 : b ≠ q5) : W.heap[b]? = some o :=
 (h.1.block b (mI r) (λ e => by rcases e with e | e; exact h4 e; exact h5 e)).trans r
theorem E5 {q4 D : Nat} {r b : Bool} {tmps : Array Value} (hb : Below w w W) (hq : w.heap.size <= q4) (r4 : W.heap[q4]? = some (.cells #[.bool r] 4))
 (hd : W.heap[D]? = some (.deferred (some []))) (hD : w.heap.size <= D) (ht : tmps.getD 4 undef = .pointer (some q4)) (hr : r = b) :
 LeavesInM Fence.wide 0 prog Tryz.f18 tmps (λ e w' => e = .returned (.bool b) /\ Below w w w') [{ target := .collected D, args := #[] }] .returning W := by
 subst hr;have hne : q4 ≠ D := λ e => by subst e; rw [r4] at hd; cases hd
 refine wo hd (Fg rfl _ _ ⟨q4, 0, none⟩ (.bool r) ht ?_ GV) ⟨rfl, ?_⟩
 ·exact ae ((Jf hne).trans r4) rfl
 ·exact kT hb (ru (l := D) _) (λ k hk => GX)
theorem y8k {e : Em.E} {R : Em.bB} (x : bL w pl pd md e F) (h : dw w G v R) (hR : R.length <= 100000) :
 Calls prog 18 #[pl, v] w λ en w' => en = .returned (.bool (decide (Em.tell e.rows = R))) /\ Below w w w' := by
 obtain ⟨ra, rc, rfl⟩ := h.slice;obtain ⟨KF, hKF, x⟩ : ∃ KF : Nat -> Prop, (∀ k, KF k -> k < w.heap.size) /\ bL w pl pd md e KF := ⟨_, λ k h => h.2, tL x⟩;generalize hN : R.length = N at *;obtain ⟨W4, fq⟩ := G8 ((((w.alloc (.cells #[.pointer (some ⟨pl, 0, none⟩)] lh)).alloc (.cells #[.slice ra N rc] xV)).alloc (.cells #[false] 4)).alloc (.cells #[.int .i64 0] 3));have B4 : Below w w W4 := by rw [<-fq]; exact ((((bla).alloc GZ _).alloc NP _).alloc NP _)
 have s4 : W4.heap.size = w.heap.size + 4 := by rw [<-fq]; simp
 have r2 : W4.heap[w.heap.size]? = some (.cells #[pl] lh) := by rw [<-fq]; exact aM NP (aM NP (aM GZ (II w _)))
 have r3 : W4.heap[w.heap.size + 1]? = some (.cells #[.slice ra N rc] xV) := by rw [<-fq]; exact aM NP (aM NP (bC (w := w.alloc _) _ GZ))
 have r4 : W4.heap[w.heap.size + 2]? = some (.cells #[false] 4) := by rw [<-fq]; exact aM GZ (bC (w := (w.alloc _).alloc _) _ GZ)
 have r5 : W4.heap[w.heap.size + 3]? = some (.cells #[.int .i64 0] 3) := by rw [<-fq]; exact bC (w := ((w.alloc _).alloc _).alloc _) _ GZ
 have k2 := ae r2 (j := 0) rfl;have lx := x.disk.lt;have lp := aa x.row.choose_spec.1;have x4 : bL W4 pl pd md e KF := mJ x (Moves.of_below (O := λ _ => False) B4) (λ h => h) (λ h => h) (λ h => h) (λ _ _ h => h) (λ _ h => h.elim);have A1 := hd1 (y2y x4);have HX := hd7 x4 lx lp h hR hN hKF;have H4 := hd6 B4 s4 r2 r3 r4 r5;have iF := hd1 fq;clear x x4 lx lp h hR hN hKF B4 s4 r2 r3 r4 r5 fq;have hfe := @z0b _ _ _ _ underlying48;refine (Ji (n := 0)).1 ?_;refine Lv func18 rfl trivial ?_ rfl;simp only [ntmps18, Kl, I8, Jw, Nat.reduceAdd, Nat.reduceSub, J3, J4, J5, J6, Jj, JG];refine wpIn_wide.2 ?_;go_upto_region 2 with fail
 rw [iF.out];go_upto_region 4 with (go_at_call 15; refine A1.mono ?_; rintro en w5 ⟨m1, rfl, h5, _⟩)
 have B5 : Below W4 W4 w5 := by rw [<-h5]; exact bla
 have k2' := aN B5 k2;have x5 : bL w5 pl pd md e KF := mJ HX.1 (Moves.of_below (O := λ _ => False) B5) (λ h => h) (λ h => h) (λ h => h) (λ _ _ h => h) (λ _ h => h.elim);have A2 := hd1 (y2y x5);have H5 := hd2 B5 x5;clear B5 x5 h5 k2;go_wp2_with (go_at_call 15; refine A2.mono ?_; rintro en w6 ⟨m, rfl, h6, rm, hm⟩)
 have B6 : Below w5 w5 w6 := by rw [<-h6]; exact bla
 have g6 : w6.heap[w5.heap.size]? = some (.cells #[.map (some m)] jN) := by rw [<-h6]; exact II _ _
 have x6 : bL w6 pl pd md e KF := mJ H5.2 (Moves.of_below (O := λ _ => False) B6) (λ h => h) (λ h => h) (λ h => h) (λ _ _ h => h) (λ _ h => h.elim);have b6 : Below W4 W4 w6 := H5.1.trans (B6.mono H5.1.size);have ok := x6.good.rows;have IT := hd1 (w0p (w := w6) (ae g6 rfl) (d9 rm B6 rm.lt) x6.good.few ok);have LR : ∀ i, i = m \/ i = w5.heap.size -> i < w6.heap.size := by
  rintro i (rfl | rfl)
  ·exact Je rm.lt B6.size
  ·exact aa g6
 obtain ⟨g, hg⟩ := G8 w5.heap.size;rw [hg] at IT LR ⊢;obtain ⟨T, hT⟩ := G8 (Em.tell e.rows);rw [hT] at IT;have TL : T.length = Maps.size e.rows := by rw [<-hT]; exact Em.pG _
 have w2y : T.length <= 256 := by rw [TL]; exact x6.good.few
 have s6 : w.heap.size + 4 <= w6.heap.size := Ho b6.size H4.2.1;have q4 : w6.heap[w.heap.size + 2]? = _ := (b6.block _ (aa H4.2.2.2.2.1)).trans H4.2.2.2.2.1;have q5 : w6.heap[w.heap.size + 3]? = _ := (b6.block _ (aa H4.2.2.2.2.2)).trans H4.2.2.2.2.2;have l4 := aa q4;have l5 := aa q5
 have KEEP := hd1 (show ∀ (S : Nat -> Int -> Prop) (k : Nat) (O : Nat -> Prop) (W : World), nW w6 (w.heap.size + 2) (w.heap.size + 3) S k O W -> bL W pl pd md e KF /\ Below w w W ∧
  W.cell? w.heap.size = some (.pointer (some ⟨pl, 0, none⟩)) /\ W.cell? (w.heap.size + 1, 0) = some (.slice ra N rc) /\ dw W (λ k => G k /\ k < w.heap.size) (.slice ra N rc) R from λ S k O W hi => by
  have B46 : Below w w W := kT (H4.1.trans (b6.mono H4.1.size)) hi.1 (λ k hk => GX);refine ⟨mJ x6 hi.1 (λ h => Hm HX.2.2.1) (λ h => Hm HX.2.1) (λ h => Hm HX.2.1) (λ k hk h => Hm (HX.2.2.2.2.2.2 k hk)) (λ k hk _ => ?_), B46, ?_, ?_, ?_⟩
  ·rcases hk with rfl | rfl
   ·exact ⟨_, _, _, q4⟩
   ·exact ⟨_, _, _, q5⟩
  ·exact ae (hi.row ((b6.block _ (aa H4.2.2.1)).trans H4.2.2.1) GX GX) rfl
  ·exact ae (hi.row ((b6.block _ (aa H4.2.2.2.1)).trans H4.2.2.2.1) GX GX) rfl
  ·exact (HX.2.2.2.1.weak (λ b hb hl => ⟨hb, hl⟩)).later B46)
 have GM := hd1 (show m ≠ w.heap.size + 2 /\ g ≠ w.heap.size + 2 /\ m ≠ w.heap.size + 3 /\ g ≠ w.heap.size + 3 from by
  obtain ⟨es, clock, k1, _⟩ := d9 rm B6 rm.lt;have := H5.1.size;have := H4.2.1;refine ⟨λ h => ?_, GX, λ h => ?_, GX⟩
  ·rw [h, q4] at k1; cases k1
  ·rw [h, q5] at k1; cases k1)
 have H6 := hd6 b6 ok hT TL q4 q5;clear B6 g6 x6 b6 ok rm hm h6 q4 q5 hg hT TL k2';refine (wpIn_wide (n := 0)).1 ?_
 refine y4w (r := 6) (s := 7) (u := λ (x : Em.Bytes × Em.Bytes) => ag x.1) (v := λ (x : Em.Bytes × Em.Bytes) => ag x.2) (gf := 43) (lb := #[.pointer (some ⟨g, 0, none⟩)]) rfl (enters_of func43 GV rfl) IT.out
  LR G6 (nW w6 (w.heap.size + 2) (w.heap.size + 3) (λ k n => n = (k : Int) /\ Em.Alike T R k)) (nW w6 (w.heap.size + 2) (w.heap.size + 3) (λ _ _ => T ≠ R)) (z4d l4 l5) (z4d l4 l5) (λ k O r o W _ h => z4c l4 l5 k O o W h) (λ k O r o W _ h => z4c l4 l5 k O o W h)
  (λ W hb _ => y7p H6.2.2.2.2.1 H6.2.2.2.2.2 ⟨rfl, Em.w0n _ _⟩ W hb) ?assign ?body ?done ?stop
 case assign =>
  intro x l W;simp only [LQ, LU, LV];gi_wp2;exact ⟨trivial, trivial⟩
 case body =>
  rintro k ⟨x1, x2⟩ O W hx ho1 ho2 hi;simp only [LQ, LU, LV];obtain ⟨xW, bW, c2, c3, pW⟩ := KEEP.out _ _ _ _ hi;obtain ⟨tX, h4, ⟨n, h5, rfl, hal⟩, hO⟩ := hi;have hkT : k < T.length := (I4.1 hx).1;obtain ⟨t1, t2, t3⟩ := Em.z3l H6.2.1 (x := (x1, x2)) (by rw [H6.2.2.1]; exact Jg hx);simp only at t1 t2 t3;have GC := hd1 (zg xW x1 GX);rw [t1, t2] at GC;have c5 : W.cell? (w.heap.size + 3, 0) = some (.int .i64 (k : Int)) := ae h5 rfl;have z4 := aU h4 0;have z5 := aU h5 0;have c4 := ae h4 (j := 0) rfl;have ret : T ≠ R -> di (λ i => O i \/ (i = m \/ i = g) \/ i = w6.heap.size + 1 \/ i = w6.heap.size) W (W.setCell (w.heap.size + 2, 0) (.bool false)) /\ Code.ret = .ret /\ nW w6 (w.heap.size + 2) (w.heap.size + 3) (λ _ _ => T ≠ R) (k + 1) O (W.setCell (w.heap.size + 2, 0) (.bool false)) := by
   intro hne;have ms := eD W (w.heap.size + 2) 0 (.bool false);refine ⟨di.Ga ms (λ i hi' e => ?_), rfl, tX.trans ms (λ i _ h => IB h), IU _ _ 0 _ _ _ h4, ⟨_, (ms.block _ (aa h5) GX).trans h5, hne⟩, hO⟩;subst e;rcases hi' with h | h | h | h
   ·have := hO _ h; omega
   ·rcases h with h | h
    ·exact GM.1 h.symm
    ·exact GM.2.1 h.symm
   ·omega
   ·omega
  have RET := hd1 ret;have nor : Em.Alike T R (k + 1) -> di (λ i => O i \/ (i = m \/ i = g) \/ i = w6.heap.size + 1 \/ i = w6.heap.size) W (W.setCell (w.heap.size + 3, 0) (.int .i64 ((k + 1 : Nat) : Int))) /\ nW w6 (w.heap.size + 2) (w.heap.size + 3) (λ k n => n = (k : Int) /\ Em.Alike T R k) (k + 1) O (W.setCell (w.heap.size + 3, 0) (.int .i64 ((k + 1 : Nat) : Int))) := by
   intro x4h;have ms := eD W (w.heap.size + 3) 0 (.int .i64 ((k + 1 : Nat) : Int));refine ⟨di.Ga ms (λ i hi' e => ?_), tX.trans ms (λ i _ h => IC h), (ms.block _ (aa h4) GX).trans h4, ⟨_, IU _ _ 0 _ _ _ h5, rfl, x4h⟩, hO⟩;subst e;rcases hi' with h | h | h | h
   ·have := hO _ h; omega
   ·rcases h with h | h
    ·exact GM.2.2.1 h.symm
    ·exact GM.2.2.2 h.symm
   ·omega
   ·omega
  have NOR := hd1 nor;have HI := hd3 hx hal hkT;have hw1 : IntKind.i64.wrap ((k : Int) + 1) = ((k + 1 : Nat) : Int) := Jd _ GX;have i0 : (0 : Int) <= (k : Int) := GX;by_cases hkN : N <= k
  ·have i1 : (N : Int) <= (k : Int) := GX
   have NE : T ≠ R := Em.w0m hx (by rw [HX.2.2.2.2.2.1]; exact hkN);have FIN := hd1 (RET.out NE);clear hx hal tX h4 h5 hO xW bW pW ret nor NE;exact O7
  ·have i1 : (k : Int) < (N : Int) := GX
   obtain ⟨⟨y1, y2⟩, hy⟩ : ∃ y, R[k]? = some y := ⟨_, IX (by rw [HX.2.2.2.2.2.1]; omega)⟩;obtain ⟨b, o, rfl, _, lb, rg⟩ := pW.at hy;have y0 : W.cell? ⟨b, o + k * 2, none⟩ = some (ag y1) := rg 0 _ rfl;have y1' : W.cell? ⟨b, o + k * 2 + 1, none⟩ = some (ag y2) := rg 1 _ rfl;by_cases e1 : x1 = y1
   ·subst e1
    by_cases e2 : x2 = y2
    ·subst e2
     have FIN := hd1 (NOR.out (Em.w0l hal hx hy));clear hx hal tX h4 h5 hO xW bW pW ret nor hy rg;exact O7
    ·have FIN := hd1 (RET.out (Em.y2x hx hy (λ e => e2 (IK Prod.snd e))))
     have q2 : (!x2 == y2) = true := by simp [e2]
     clear hx hal tX h4 h5 hO xW bW pW ret nor hy rg e2;exact O7
   ·have FIN := hd1 (RET.out (Em.y2x hx hy (λ e => e1 (IK Prod.fst e))))
    have q1 : (!x1 == y1) = true := by simp [e1]
    clear hx hal tX h4 h5 hO xW bW pW ret nor hy rg e1;exact O7
 case stop =>
  rintro k O W _ hi ho hD;obtain ⟨xW, bW, c2, c3, pW⟩ := KEEP.out _ _ _ _ hi;obtain ⟨_, h4, ⟨n, _, hne⟩, _⟩ := hi;have HD := hd4 hD bW h4 hne;clear hD bW h4 hne xW pW;gi_wp2;exact E5 HD.2.1 GX HD.2.2.1 HD.1 GX rfl (by rw [H6.2.2.1]; exact (J7 HD.2.2.2).symm)
 case done =>
  rintro O W hi ho hD;obtain ⟨xW, bW, c2, c3, pW⟩ := KEEP.out _ _ _ _ hi;obtain ⟨_, h4, ⟨n, h5, rfl, hal⟩, _⟩ := hi;have ne : Nonempty (Wd (Below W W)) := ⟨⟨_, Below.refl _ _⟩⟩;have f2 : ∀ y : Wd (Below W W), y.world.cell? w.heap.size = some (.pointer (some pl)) := λ y => aN y.ok c2;have f3 : ∀ y : Wd (Below W W), y.world.cell? (w.heap.size + 1, 0) = some (.slice ra N rc) := λ y => aN y.ok c3;have f5 : ∀ y : Wd (Below W W), y.world.cell? (w.heap.size + 3, 0) = some (.int .i64 (T.length : Int)) := λ y => aN y.ok (ae h5 rfl);have xD : bL W.drew pl pd md e KF := mJ xW (Moves.of_below (O := λ _ => False) G6.drew) (λ h => h) (λ h => h) (λ h => h) (λ _ _ h => h) (λ _ h => h.elim);have GC := hd1 (zg xW [] (IY _));rw [Em.x4j H6.2.1] at GC;have LC := hd1 (z8r xD);rw [<-H6.2.2.2.1] at LC;have z4 : W.drew.frozen? ⟨w.heap.size + 2, 0, none⟩ = false := aU (w := W.drew) h4 0;have c4 : W.drew.cell? (w.heap.size + 2, 0) = some (.bool false) := ae (w := W.drew) h4 rfl;have fin : ∀ r : Bool, r = decide (T = R) -> Below w w (W.drew.setCell (w.heap.size + 2, 0) (.bool r)) /\ (W.drew.setCell (w.heap.size + 2, 0) (.bool r)).heap[w.heap.size + 2]? = some (.cells #[.bool r] 4) /\ (W.drew.setCell (w.heap.size + 2, 0) (.bool r)).heap[w6.heap.size]? = some (.deferred (some [])) := λ r _ => by
   have ms := eD W.drew (w.heap.size + 2) 0 (.bool r);refine ⟨kT bW.drew ms (λ k hk => GX), IU W.drew _ 0 _ _ _ h4, (ms.block _ (mI (w := W.drew) hD) GX).trans hD⟩
  have FIN := hd1 fin;have AL := hd1 (Em.w0k hal);rw [HX.2.2.2.2.2.1] at AL;clear hD bW h4 h5 hal xW xD pW fin;go_upto_region 12 with (go_at_call 21; refine GC.mono ?_; rintro e w' ⟨rfl, rfl⟩)
  by_cases hTN : T.length = N
  ·rw [KD hTN] at AL
   have FIN := hd1 (FIN.out true AL.symm);obtain rfl := hTN;refine bD (λ w' => ∃ x : Wd (Below W W), w' = x.world) [14] GV ?_;refine aL [0, 1, 2, 3, 4, 5, 7] 8 _ Hu GV ?_;simp only [fmc, fmn, gta, gcs, gcz];iterate 7 (with_reducible refine ak (λ K hK => ?_); simp only [au, aj]; go_simp; refine hK _ ?_; clear hK K)
   with_reducible refine aB ?_
   refine aA 6 7 _ _ rfl GV ?_;with_reducible refine Jy λ K hK => ?_
   go_simp;refine LC.mono ?_;rintro en w9 ⟨rfl, rfl⟩;exact Sz
  ·rw [J7 hTN] at AL
   have FIN := hd1 (FIN.out false AL.symm);have w1b : ¬ (T.length : Int) = (N : Int) := GX;generalize T.length = tl at *;refine bD (λ w' => ∃ x : Wd (Below W W), w' = x.world) [14] GV ?_;refine aL [0, 1, 2, 3, 4, 5, 7] 8 _ Hu GV ?_;simp only [fmc, fmn, gta, gcs, gcz];iterate 7 (with_reducible refine ak (λ K hK => ?_); simp only [au, aj]; go_simp; refine hK _ ?_; clear hK K)
   with_reducible refine aB ?_
   refine aA 6 7 _ _ rfl GV ?_;with_reducible refine Jy λ K hK => ?_
   go_simp;exact Sz
end
theorem y4j {d : D} (x : aQ w.heap p m d F) : Calls prog 62 #[p] w λ e w' => e = .returned (.int .i64 d.waits.length) /\ w = w' := by
 have k16 := x.lQ.1;obtain ⟨ok, t0, t1, t2, t3, ml, l0, l1, l2, l3, wv, stops, after, c1, c2, c3, c4, c5, c6, c7, c8, c9, b0, b1, b2, b3, b4, b5, b6, b7, st⟩ := x;obtain ⟨a, c, rfl, _⟩ := st.slice;exact y4k p a d.waits.length c w k16 (ae c1 rfl)
theorem x6n {d : D} (x : aQ w.heap p m d F) : Calls prog 63 #[p] w λ e w' => e = .returned (.bool d.dead) /\ w = w' :=
 x6o p d.dead w x.lQ.1 x.lQ.2.2.2
theorem y5k {d : D} (x : aQ w.heap p m d F) (hr : bU w.heap G v d) (hn : d.waits.length <= 1000000000000) :
 Calls prog 30 #[p, v] w λ e w' => e = .returned (.bool true) /\ Below w w w' := by
 have ok := x.ok;have hr0 := hr;obtain ⟨A_, A9, A8, A7, AZ, rwv, rfl, rrb, rst⟩ := hr;obtain ⟨rwa, vJ, rfl, _⟩ := rst.slice;have hb0 : Below w w (w.alloc (.cells (dC d.many d.room A_ A9 A8 A7 AZ (.slice rwa d.waits.length vJ) d.dead d.stops) af)) := bla;have r0 := II w (.cells (dC d.many d.room A_ A9 A8 A7 AZ (.slice rwa d.waits.length vJ) d.dead d.stops) af);obtain ⟨W0, hW0⟩ := G8 (w.alloc (.cells (dC d.many d.room A_ A9 A8 A7 AZ (.slice rwa d.waits.length vJ) d.dead d.stops) af));rw [hW0] at hb0 r0;have mid : ∀ X : World, Below W0 W0 X -> X.cell? (w.heap.size, 7) = some (.slice rwa d.waits.length vJ) /\ X.cell? (w.heap.size, 8) = some (.bool d.dead) := λ X hb => by
  have hX := (hb.block _ (aa r0)).trans r0;exact ⟨ae hX rfl, ae hX rfl⟩
 have o_ := hd1 mid;have SD := hd1 (qQ (hr0.keeps (h' := W0.heap) (F' := G) (λ k _ hl => hb0.block k hl) (λ _ h _ => h)) ok hn);generalize hC : dC d.many d.room A_ A9 A8 A7 AZ (.slice rwa d.waits.length vJ) d.dead d.stops = C at *;have dA : C.size = 10 := by rw [<-hC]; rfl
 have H0 := hd3 hb0 r0 dA;have X := hd1 (x.below hb0);have HW := hd1 hW0;clear mid rrb rst hb0 r0 x ok hn hr0 dA hC hW0;go_in;go_upto_region 1 with fail
 rw [HW.out]
 go_upto_region 2 with (first
  | (refine IL rfl af (.tmp 3) rfl w.heap.size rfl af C (0, 0) _ H0.2.1 Hz rfl (by rw [aI, H0.2.2]) ?_)
  | (go_at_call 49; refine SD.mono ?_; rintro e X1 ⟨sv, t0, t1, t2, t3, rfl, hb1, dI⟩
     have R1 := hd2 hb1 dI;clear hb1 dI)
  | (refine aD rfl aO _ _ rfl X1.heap.size #[sv, t0, t1, t2, t3] rfl rfl aO eX (II X1 _) bX rfl R1.2.ones ?_
     intro W1 HW1 dx jM))
 have z0u : Below W0 W0 W1 := R1.1.trans (Moves.new (bla) dx G7 |>.mono R1.1.size);have dI : RB W1.heap (λ _ => True) sv t0 t1 t2 t3 d.stand d.many := R1.2.keeps (λ k hk hl => dx.block k Oa GX |>.trans (heap_old_own _ _ _ hl)) (λ _ _ _ => trivial);have H1 := hd3 z0u HW1.out dI;have X1d := hd1 (X.below z0u);clear z0u dI dx jM HW1 R1 SD;generalize X1.heap.size = xb at *;go_wp2;go_loopg [6] 4 (λ g s wr => ∃ i : Nat, s = .int .i64 (i : Int) /\ g + i = 4 /\ Below W1 W1 wr)
 case atStart => exact ⟨0, rfl, rfl, Below.refl _ _⟩
 case round =>
  obtain ⟨t, rfl, hg, rel⟩ := hrel;by_cases hlt : t < 4
  ·have T1 := hd1 (EA (X1d.below rel) (t : Int))
   rw [IA GX, IA GX] at T1;have nX := hd2 rel hg;clear rel hg;have n4 : (t : Int) < 4 := GX;have n00 : (0 : Int) <= (t : Int) := GX;obtain ⟨tv, e1, e2⟩ := H1.2.2.tape t GX;have E := hd2 e1 e2;clear e1 e2;go_upto_region 6 with (go_at_call 61; refine T1.mono ?_; rintro e w2 ⟨v2, rfl, hb2, f2⟩)
   have Cq : Below W1 W1 w2 := nX.1.trans (hb2.mono nX.1.size);have kt : ∀ n, (w2.drewN n).cell? (xb, 1 + t) = some tv := λ n => ae (w := w2.drewN n) ((Cq.block _ (aa H1.2.1)).trans H1.2.1) E.1;have c1 := λ n => qU (w := w2.drewN n) f2.bytes;have c2 := λ n => qU (w := w2.drewN n) (E.2.below (below_drewN Cq n));obtain ⟨ra, rc, rfl⟩ := f2.bytes.slice;obtain ⟨ta, tc, rfl⟩ := E.2.slice;have F2 := hd1 Cq;clear hb2 f2 Cq;go_quiet ((go_at_call 12; exact Kz ((nL _ _).mono λ e w' h => ⟨h.1, h.2.symm⟩)))
   go_wp2;go_roundg (4 - (t + 1))
   case measure => have := nX.2; omega
   case rel => exact ⟨t + 1, by go_num, Hm nX.2, below_drewN F2.out _⟩
  ·obtain rfl : t = 4 := GX
   have wE : Below W0 W0 wr := H1.1.trans (rel.mono H1.1.size);have XD := hd1 (X1d.below rel);have x7 : ∀ x : Wd (Below wr wr), x.world.cell? (w.heap.size, 7) = some (.slice rwa d.waits.length vJ) := λ x => (o_.out x.world (wE.trans (x.ok.mono wE.size))).1;have x8 : ∀ x : Wd (Below wr wr), x.world.cell? (w.heap.size, 8) = some (.bool d.dead) := λ x => (o_.out x.world (wE.trans (x.ok.mono wE.size))).2;have ne : Nonempty (Wd (Below wr wr)) := ⟨⟨_, Below.refl _ _⟩⟩;have B2 := hd1 wE;clear rel hg wE hlt;go_upto_region 8 with fail
   refine bD (λ w' => ∃ x : Wd (Below wr wr), w' = x.world) [] GV ?_;refine aL [0, 2, 3, 4] 10 _ Hu GV ?_;refine Hd ?_;refine aA 1 9 _ _ rfl GV ?_;refine IJ rfl λ K hK => ?_;go_simp;go_at_call 62;refine (y4j (w := wr.drew) XD.out).mono ?_;rintro e w' ⟨rfl, rfl⟩;refine hK _ _ (IG ⟨rfl, λ _ => Hu, ?_⟩);clear hK K;refine aL [5, 6, 7, 9, 10] 4 _ Hu GV ?_;refine Hd ?_;refine aA 8 3 _ _ rfl GV ?_;refine Jy λ K hK => ?_;go_simp;go_at_call 63;refine (x6n (w := wr.drew) XD.out).mono ?_;rintro e w' ⟨rfl, rfl⟩;refine hK _ _ (IG ⟨rfl, λ _ => Hu, ?_⟩);clear hK K;have FIN := hd1 (H0.1.trans ((B2.trans ((Below.refl wr wr).drew.mono B2.size)).mono H0.1.size));refine aL [11, 12, 13] 0 _ Hu GV ?_;refine Hd ?_;refine ⟨GV, ?_⟩;go_wp2;go_ret;exact ⟨rfl, FIN.out⟩
section
attribute [local go_sem] Oper.semAt_some
theorem z1v {e : Em.E} (x : bL w pl pd md e F) : Calls prog 24 #[pl] w λ en w' => en = .returned (.pointer (some pd)) /\ w = w' := by
 have NC := hd1 x.none;obtain ⟨m, row, rows, _⟩ := x.row;have f5 : w.cell? (pl, 5) = some (.pointer (some pd)) := ae row rfl;clear x row rows;go_in;go_wp2_with (go_at_call 36; refine NC.mono ?_; rintro en w0 ⟨rfl, rfl⟩)
 exact OI
theorem x7l {e : Em.E} (x : bL w pl pd md e F) : Calls prog 25 #[pl] w λ en w' =>
 ∃ eF fo md' F', en = .returned (.pointer (some ⟨eF, 0, none⟩)) /\ Below w w w' /\ w.heap.size <= eF /\ w.heap.size <= fo /\ w.heap.size <= md' /\ bL w' eF fo md' e F' /\ ∀ k, F' k -> (F k /\ k < w.heap.size) \/ (w.heap.size <= k /\ k < w'.heap.size) := by
 have NC := hd1 x.none;obtain ⟨m, row, rows, hne⟩ := x.row;have CC := hd1 (x7m (w := w.drew) x.disk);have f5 : ∀ y : Wd (Below w w), y.world.cell? (pl, 5) = some (.pointer (some pd)) := λ y => aN y.ok (ae row rfl);have f6 : ∀ y : Wd (Below w w), y.world.cell? (pl, 6) = some (.bool e.gone) := λ y => aN y.ok (ae row rfl);have LD : Hid (∀ w', (∃ y : Wd (Below w w), w' = y.world) -> (Instr.loadAt dK (.pointer (some pl))).run prog w' = .ok (.agg #[.int .i64 e.tp, .int .i64 e.gen, .map (some m), .int .i64 e.aK, .int .i64 e.fin]) w') := by
  rintro w' ⟨y, rfl⟩
  exact Lc y.world pl 0 dK [.int .i64 e.tp, .int .i64 e.gen, .map (some m), .int .i64 e.aK, .int .i64 e.fin] _ (λ j v hj => aN y.ok (ae row (by
   match j, hj with
   | 0, hj => cases hj; rfl
   | 1, hj => cases hj; rfl
   | 2, hj => cases hj; rfl
   | 3, hj => cases hj; rfl
   | 4, hj => cases hj; rfl
   | n + 5, hj => cases hj))) Iw rfl p_
 have HX := hd3 x rows hne;have ne : Nonempty (Wd (Below w w)) := ⟨⟨_, Below.refl _ _⟩⟩;clear x row rows hne;go_in;go_upto_region 3 with (go_at_call 36; refine NC.mono ?_; rintro en w0 ⟨rfl, rfl⟩)
 refine bD (λ w' => ∃ x : Wd (Below w w), w' = x.world) [14, 15] GV ?_;refine aL [0, 1, 2, 3, 4, 5, 6, 7, 9, 10, 11, 12] 4 _ Hu GV ?_;simp only [fmc, fmn, gta, gcs, gcz];refine ak (λ K hK => ?_); simp only [au, aj]; go_simp; refine hK _ ?_; clear hK K;refine ak (λ K hK => ?_); simp only [au, aj]; go_simp; refine hK _ ?_; clear hK K;refine ak (λ K hK => ?_); simp only [au, aj]; go_simp; refine hK _ ?_; clear hK K;refine eH rfl dK (.tmp 7) rfl _ LD.out ?_;repeat refine Ha ?_
 refine aB ?_;refine aA 8 3 _ _ rfl GV ?_;refine IJ rfl λ K hK => ?_;go_simp;go_at_call 47;refine CC.mono ?_;rintro en w8 ⟨m', rfl, b8, hm', x8⟩;have rX : Below w w w8 := G6.drew.trans b8;have X8 := hd3 rX hm' x8;clear b8 hm' x8;refine hK _ _ (IG ⟨rfl, λ _ => ⟨⟨_, rX⟩, rfl⟩, ?_⟩);clear hK K;refine aL [13] 2 _ ⟨⟨_, rX⟩, rfl⟩ GV ?_;refine Hd ?_;refine aA 14 1 _ _ rfl GV ?_;refine IJ rfl λ K hK => ?_;go_simp;refine hK _ _ (IG ⟨rfl, λ h => absurd GY h, ?_⟩);clear hK K;refine aA 15 0 _ _ rfl GV ?_;refine IJ rfl λ K hK => ?_;go_simp;refine hK _ _ (IG ⟨rfl, λ h => absurd GY h, GV, ?_⟩);clear hK K;go_wp2;go_ret;obtain ⟨b8, hm', x8⟩ := X8.out;obtain ⟨x, rows, hne⟩ := HX.out;have ba : Below w8 w8 (w8.alloc (.cells (jE e.tp e.gen (.map (some m)) e.aK e.fin w.heap.size e.gone) eO)) := bla;have l8 := x8.lt;have lm := rows.lt;have z8 := b8.size;have w1g : w.heap.size <= m' := hm';have lw : w.drew.heap.size = w.heap.size := rfl;refine ⟨_, w.heap.size, m', _, rfl, b8.alloc b8.size _, b8.size, Nat.le_refl _, hm', ⟨x.good, x8.below ba, ⟨m, II w8 _, ?_, GX, GX, GX⟩, GX, GX, ?_⟩, ?_⟩
 ·exact d9 (d9 rows b8 lm) ba GX
 ·rintro (h | h)
  ·omega
  ·omega
 ·rintro k (h | h)
  ·exact IB h
  ·exact IC ⟨h.1, by simp; omega⟩
end
abbrev jS (g1 g2 : Nat) : Value := .func (.func 107) #[] #[.pointer (some ⟨g1, 0, none⟩), .pointer (some ⟨g2, 0, none⟩)]
theorem x9m {T g1 g2 g7 : Nat} {R : World -> Prop} (c3 : w.cell? g7 = some (jS g1 g2)) (BC : Calls prog 112 #[T, jS g1 g2] w λ e w' => e = .returned (.tuple #[]) /\ R w') :
 Calls prog 111 #[T, g7] w λ e w' => e = .returned (.tuple #[]) /\ R w' := by
 go_in;go_wp2_with (go_at_call 112; refine BC.mono ?_; rintro e w1 ⟨rfl, h1⟩)
 go_end0
 exact ⟨rfl, h1⟩
theorem x9l {T g1 g2 g7 : Nat} {R : World -> Prop} (c3 : w.cell? g7 = some (jS g1 g2)) (BC : Calls prog 112 #[T, jS g1 g2] w λ e w' => e = .panicked fM /\ R w') :
 Calls prog 111 #[T, g7] w λ e w' => e = .panicked fM /\ R w' := by
 go_in;go_wp2_with (go_at_call 112; refine BC.mono ?_; rintro e w1 ⟨rfl, h1⟩)
 exact ⟨rfl, rfl, h1⟩
theorem x5w {T g1 g2 g7 : Nat} {R : World -> Prop} (c3 : w.cell? g7 = some (jS g1 g2)) (BC : Calls prog 114 #[T, jS g1 g2] w λ e w' => e = .returned (.tuple #[]) /\ R w') :
 Calls prog 113 #[T, g7] w λ e w' => e = .returned (.tuple #[]) /\ R w' := by
 go_in;go_wp2_with (go_at_call 114; refine BC.mono ?_; rintro e w1 ⟨rfl, h1⟩)
 go_end0
 exact ⟨rfl, h1⟩
theorem x5v {T g1 g2 g7 : Nat} {R : World -> Prop} (c3 : w.cell? g7 = some (jS g1 g2)) (BC : Calls prog 114 #[T, jS g1 g2] w λ e w' => e = .panicked fM /\ R w') :
 Calls prog 113 #[T, g7] w λ e w' => e = .panicked fM /\ R w' := by
 go_in;go_wp2_with (go_at_call 114; refine BC.mono ?_; rintro e w1 ⟨rfl, h1⟩)
 exact ⟨rfl, rfl, h1⟩
structure y2o (W : World) (g1 T g2 : Nat) (at' : Int) (gen : Nat) (l : List UInt8) (fin n iB : Nat) (D : Em.Rows) (wr : World) : Prop where
 next : fQ wr g1 g2 l fin
 row : ∃ m, wr.heap[T]? = some (.cells (jh at' gen (.map (some m)) n iB) dK (0, 0)) /\ RowsIn wr m (Maps.size D) D /\ W.heap.size <= m
 mv : Moves (λ k => k = T \/ k = g2 \/ W.heap.size <= k) W wr
theorem y5x {g1 T g2 g7 gen fin : Nat} {at' : Int} {D : Em.Rows} (h : fQ W g1 g2 l 0) (hl : l.length <= 1000000000)
 (hT : W.heap[T]? = some (.cells (jh at' 0 (.map none) 0 0) dK (0, 0))) (h1 : g1 < T) (h2 : T < g2) (c3 : W.cell? g7 = some (jS g1 g2)) (hr : Em.fe l = some (gen, D, fin)) :
 Calls prog 110 #[.func (.func 111) #[] #[.pointer (some T), .pointer (some g7)]] W λ e w' => e = .returned (.bool true) /\ y2o W g1 T g2 at' gen l fin 0 0 D w' := by
 have B : Below W W (W.alloc (.cells #[false] iU)) := bla;have lg := aa h.far;have BC := x9p (h.later B) hl ((B.block T (aa hT)).trans hT) h1 h2 hr
 refine (z3s (w := W) (R := λ w' => fQ w' g1 g2 l fin /\ (∃ m', w'.heap[T]? = some (.cells (jh at' gen (.map (some m')) 0 0) dK (0, 0)) /\ RowsIn w' m' (Maps.size D) D /\ (W.alloc (.cells #[false] iU)).heap.size <= m') /\ Moves (λ k => k = T \/ k = g2) (W.alloc (.cells #[false] iU)) w') (fs := #[]) (cs := #[.pointer (some ⟨T, 0, none⟩), .pointer (some ⟨g7, 0, none⟩)]) (enters_of func111 GV rfl) (by rw [JM]; exact x9m (aN B c3) BC)
  (λ w' hw => (hw.2.2.block W.heap.size GZ GX).trans (II W _))).mono ?_
 rintro e w' ⟨rfl, X, ⟨nx, ⟨m, rT, rm, hm⟩, mx⟩, rfl⟩;have ms := eD X W.heap.size 0 (.bool true);simp only [Jm] at hm;refine ⟨rfl, nx.moves ms (λ k hk => Hm h.lt), ⟨m, (ms.block T (aa rT) GX).trans rT, jQ rm ms GX, GX⟩, ?_⟩;exact SX
theorem y5y {g1 T g2 g7 : Nat} {at' : Int} (h : fQ W g1 g2 l 0) (hl : l.length <= 1000000000)
 (hT : W.heap[T]? = some (.cells (jh at' 0 (.map none) 0 0) dK (0, 0))) (h1 : g1 < T) (h2 : T < g2) (c3 : W.cell? g7 = some (jS g1 g2)) (hr : Em.fe l = none) :
 Calls prog 110 #[.func (.func 111) #[] #[.pointer (some T), .pointer (some g7)]] W λ e w' => e = .returned (.bool false) /\ Moves (λ k => k = g2) W w' := by
 have B : Below W W (W.alloc (.cells #[false] iU)) := bla;have lg := aa h.far;have BC := x9o (h.later B) hl ((B.block T (aa hT)).trans hT) h1 h2 hr
 refine (Eu (w := W) (R := λ w' => Moves (λ k => k = g2) (W.alloc (.cells #[false] iU)) w') (fs := #[]) (cs := #[.pointer (some ⟨T, 0, none⟩), .pointer (some ⟨g7, 0, none⟩)]) (enters_of func111 GV rfl) (by rw [JM]; exact x9l (aN B c3) BC)
  (λ w' hw => (hw.block W.heap.size GZ GX).trans (II W _))).mono ?_
 exact S_
theorem y5z {g1 T g2 g7 gen fin iB : Nat} {at' : Int} {D : Em.Rows} (h : fQ W g1 g2 l fin) (hl : l.length <= 1000000000) (hs : Maps.size D <= 256) (hn : n <= 1000000000)
 (hT : W.heap[T]? = some (.cells (jh at' gen (.map (some m)) n iB) dK (0, 0))) (hm : RowsIn W m (Maps.size D) D) (h1 : g1 < T) (h2 : T < g2) (c3 : W.cell? g7 = some (jS g1 g2)) :
 Calls prog 110 #[.func (.func 113) #[] #[.pointer (some T), .pointer (some g7)]] W λ e w' =>
  match Em.eP l fin D with
  | none => e = .returned (.bool false) /\ Moves (λ k => k = g2) W w'
  | some r => e = .returned (.bool true) /\ y2o W g1 T g2 at' gen l r.2 (n + 1) iB r.1 w' := by
 have B : Below W W (W.alloc (.cells #[false] iU)) := bla;have lg := aa h.far;have rT := (B.block T (aa hT)).trans hT;have rm := d9 hm B hm.lt;cases hr : Em.eP l fin D with
 | none =>
  have BC := x4b (h.later B) hl rT rm hs h2 hr
  refine (Eu (w := W) (R := λ w' => Moves (λ k => k = g2) (W.alloc (.cells #[false] iU)) w') (fs := #[]) (cs := #[.pointer (some ⟨T, 0, none⟩), .pointer (some ⟨g7, 0, none⟩)]) (enters_of func113 GV rfl) (by rw [JM]; exact x5v (aN B c3) BC)
   (λ w' hw => (hw.block W.heap.size GZ GX).trans (II W _))).mono ?_
  exact S_
 | some r =>
  obtain ⟨D', fin'⟩ := r;have BC := x4c (h.later B) hl rT rm hs h1 h2 hn hr
  refine (z3s (w := W) (R := λ w' => fQ w' g1 g2 l fin' /\ (∃ m', w'.heap[T]? = some (.cells (jh at' gen (.map (some m')) (n + 1) iB) dK (0, 0)) /\ RowsIn w' m' (Maps.size D') D' /\ (W.alloc (.cells #[false] iU)).heap.size <= m') /\ Moves (λ k => k = T \/ k = g2) (W.alloc (.cells #[false] iU)) w') (fs := #[]) (cs := #[.pointer (some ⟨T, 0, none⟩), .pointer (some ⟨g7, 0, none⟩)]) (enters_of func113 GV rfl) (by rw [JM]; exact x5w (aN B c3) BC)
   (λ w' hw => (hw.2.2.block W.heap.size GZ GX).trans (II W _))).mono ?_
  rintro e w' ⟨rfl, X, ⟨nx, ⟨m', rT', rm', hm'⟩, mx⟩, rfl⟩;have ms := eD X W.heap.size 0 (.bool true);simp only [Jm] at hm';refine ⟨rfl, nx.moves ms (λ k hk => Hm h.lt), ⟨m', (ms.block T (aa rT') GX).trans rT', jQ rm' ms GX, GX⟩, ?_⟩;exact SX
structure y2l (W : World) (g1 T g2 : Nat) (at' : Int) (gen : Nat) (l : List UInt8) (want : Em.Rows × Nat × Nat) (b : Bool) (ghost : Nat) (fin n iB : Nat) (D : Em.Rows) (wr : World) : Prop where
 goes : b = true -> fQ wr g1 g2 l fin /\ ghost = l.length - fin + 1 /\ ∃ f, l.length < f + fin /\ want = Em.dN l f fin D n
 ends : b = false -> ghost = 0 /\ want = (D, n, iB)
 rows : Em.bI D /\ Maps.size D <= 256 /\ n <= fin /\ fin <= l.length
 row : ∃ m, wr.heap[T]? = some (.cells (jh at' gen (.map (some m)) n iB) dK (0, 0)) /\ RowsIn wr m (Maps.size D) D /\ W.heap.size <= m
 mv : Moves (λ k => k = T \/ k = g2 \/ W.heap.size <= k) W wr
theorem z6o (hl : l.length <= 900000000) (at' : Nat) : zO l at' (aH l) := by
 intro w v G h;obtain ⟨va, vc, rfl⟩ := h.slice;have gM : ∀ (fn : Fn) (first cap : Array Value) (w : World), (Instr.makeFunc fn first cap).run prog w = .ok (.func fn first cap) w := λ _ _ _ _ => rfl
 obtain ⟨W, hW⟩ : ∃ W, ((((w.alloc (.cells #[.slice va l.length vc] dH)).alloc (.cells #[.int .i64 0, .int .i64 0, .map none, .int .i64 0, .int .i64 0] dK)).alloc (.cells #[.int .i64 at', .int .i64 0, .map none, .int .i64 0, .int .i64 0] dK)).alloc (.cells #[.int .i64 0] vF)).alloc
  (.cells #[jS w.heap.size (w.heap.size + 1 + 1 + 1)] Av) = W := ⟨_, rfl⟩
 have B : Below w w W := by rw [<-hW]; exact ((((bla).alloc GZ _).alloc Oa _).alloc Oa _).alloc Oa _
 have s : W.heap.size = w.heap.size + 5 := by rw [<-hW]; simp
 have r0 : W.heap[w.heap.size]? = some (.cells #[.slice va l.length vc] dH) := by rw [<-hW]; exact aM Oa (aM Oa (aM Oa (aM GZ (II w _))))
 have r1 : W.heap[w.heap.size + 1]? = some (.cells #[.int .i64 0, .int .i64 0, .map none, .int .i64 0, .int .i64 0] dK) := by rw [<-hW]; exact aM NP (aM NP (aM NP (bC (w := w.alloc _) _ GZ)))
 have r2 : W.heap[w.heap.size + 1 + 1]? = some (.cells (jh at' 0 (.map none) 0 0) dK (0, 0)) := by rw [<-hW]; exact aM NP (aM NP (bC (w := (w.alloc _).alloc _) _ GZ))
 have r3 : W.heap[w.heap.size + 1 + 1 + 1]? = some (.cells #[.int .i64 0] vF) := by rw [<-hW]; exact aM GZ (bC (w := (((w.alloc _).alloc _).alloc _)) _ GZ)
 have r4 : W.heap[w.heap.size + 1 + 1 + 1 + 1]? = some (.cells #[jS w.heap.size (w.heap.size + 1 + 1 + 1)] Av) := by rw [<-hW]; exact bC (w := ((((w.alloc _).alloc _).alloc _).alloc _)) _ GZ
 have y : BytesAt W.heap (λ k => k < w.heap.size) (.slice va l.length vc) l := h.keeps (λ k _ hl => B.block k hl) (λ k hk hl => hl);have NX : fQ W w.heap.size (w.heap.size + 1 + 1 + 1) l 0 := ⟨⟨_, ae r0 rfl, y⟩, r3, GX, IY _⟩;have c3 : W.cell? (w.heap.size + 1 + 1 + 1 + 1, 0) = some (jS w.heap.size (w.heap.size + 1 + 1 + 1)) := ae r4 rfl;have HW := hd1 hW;have HB := hd3 B s r1;cases hb : Em.fe l with
 | none =>
  have TC := hd1 (y5y NX GX r2 GX GX c3 hb);have HT := hd1 (show aH l = Em.T.none by unfold aH; rw [hb]);clear hW B s r0 r1 r2 r3 r4 y NX c3 hb h;go_in;go_upto_region 4 with fail
  rw [HW.out]
  go_wp2_with (first
   | (go_at_call 110; refine TC.mono ?_; rintro e w1 ⟨rfl, m1⟩
      have q1 := (m1.block (w.heap.size + 1) (Hm HB.2.1) GX).trans HB.2.2;have H2 := hd1 m1;clear m1)
   | (refine ou rfl dK (.tmp 4) (.tmp 16) rfl (w.heap.size + 1) 0 #[.int .i64 at', .int .i64 0, .map none, .int .i64 0, .int .i64 0] rfl rfl dK _ q1 p_ GZ Nq ?_
      intro W3 HW3 bQ fT))
  have k3 : W3.heap[w.heap.size + 1]? = some (.cells #[.int .i64 at', .int .i64 0, .map none, .int .i64 0, .int .i64 0] dK) := HW3.out;refine Hg k3 Iw p_ ?_;refine ⟨⟨_, rfl, _, by rw [HT.out]; rfl, IB ⟨rfl, HT.out⟩⟩, ?_⟩;exact (((Moves.of_below (O := λ _ => False) HB.1).trans H2.out (λ i hi h => GX)).trans bQ (λ i hi h => GX)).below
 | some p =>
  obtain ⟨gen, D0, uo⟩ := p;have TC := hd1 (y5x NX GX r2 GX GX c3 hb);obtain ⟨ok1, ok2, ok3, ok4, ok5⟩ := Br hb;have HT := hd1 (show aH l = ⟨gen, (Em.dN l (l.length + 1) uo D0 0).1, (Em.dN l (l.length + 1) uo D0 0).2.1, (Em.dN l (l.length + 1) uo D0 0).2.2⟩ by unfold aH; rw [hb]);obtain ⟨want, hwant⟩ := G8 (Em.dN l (l.length + 1) uo D0 0);have HWT := hd1 hwant;have HO := hd2 ok1 ok3;have C3 := hd1 r4;have HLL := hd1 hl;have w1f : l.length <= 900000000 := hl;clear hW B s r0 r1 r2 r3 r4 y NX c3 hb h ok1 ok2 ok3 ok4 ok5 hwant;go_in;go_upto_region 4 with fail
  rw [HW.out];go_wp2_with (go_at_call 110; refine TC.mono ?_; rintro e w1 ⟨rfl, st1⟩; have S1 := hd1 st1; clear st1)
  have ST := hd1 (show y2l W w.heap.size (w.heap.size + 1 + 1) (w.heap.size + 1 + 1 + 1) at' gen l want true (l.length - uo + 1) uo 0 0 D0 w1 from
   ⟨λ _ => ⟨S1.next, rfl, l.length + 1, GX, HWT.symm⟩, (λ h => by cases h), ⟨HO.1, HO.2, IY _, S1.next.le⟩, S1.row, S1.mv⟩)
  clear S1 TC;go_loopg [8] (l.length - uo + 1) (λ gh s8 wr => ∃ (b : Bool) (fin n iB : Nat) (D : Em.Rows), s8 = .bool b /\ y2l W w.heap.size (w.heap.size + 1 + 1) (w.heap.size + 1 + 1 + 1) at' gen l want b gh fin n iB D wr)
  case atStart => exact ⟨true, _, _, _, _, rfl, ST.out⟩
  case round =>
   obtain ⟨b, fin, n, iB, D, rfl, hrel⟩ := hrel;obtain ⟨m, rT, rm, hm⟩ := hrel.row;have Ay := HB.2.1;cases b
   ·obtain ⟨_, hw⟩ := hrel.ends rfl
    have q1 := (hrel.mv.block (w.heap.size + 1) GX GX).trans HB.2.2;have k0 := ae rT (j := 0) rfl;have k1 := ae rT (j := 1) rfl;have k2 := ae rT (j := 2) rfl;have k3 := ae rT (j := 3) rfl;have k4 := ae rT (j := 4) rfl;have HR := hd4 hrel.mv rm hm hw;clear hrel rT rm hm hw Ay
    go_wp2_with (refine ou rfl dK (.tmp 4) (.tmp 22) rfl (w.heap.size + 1) 0 (jh at' gen (.map (some m)) n iB) rfl rfl dK _ q1 p_ GZ Nq ?_
                 intro W3 HW3 bQ fT)
    have k3 : W3.heap[w.heap.size + 1]? = some (.cells (jh at' gen (.map (some m)) n iB) dK (0, 0)) := HW3.out;refine Hg k3 Iw p_ ?_;obtain ⟨mv, rm, hm, hw⟩ := HR.out;have sB := HB.1.size;have Ay := HB.2.1;have ht : aH l = ⟨gen, D, n, iB⟩ := by rw [HT.out, HWT.out, hw]
    refine ⟨⟨_, rfl, .map (some m), by rw [ht], IC ⟨m, rfl, by rw [ht]; exact jQ rm bQ GX, GX⟩⟩, ?_⟩;exact (((Moves.of_below (O := λ _ => False) HB.1).trans mv (λ i hi h => GX)).trans bQ (λ i hi h => GX)).below
   ·obtain ⟨nx, hgh, f, hf, hw⟩ := hrel.goes rfl
    obtain ⟨o1, o2, o3, o4⟩ := hrel.rows;have c3 : wr.cell? (w.heap.size + 1 + 1 + 1 + 1, 0) = some (jS w.heap.size (w.heap.size + 1 + 1 + 1)) := ae ((hrel.mv.block _ (aa C3.out) GX).trans C3.out) rfl;have u3 := ae nx.far (j := 0) rfl;have u4 := ae rT (j := 4) rfl;have z4 := aU rT 4;have ms := eD wr (w.heap.size + 1 + 1) 4 (.int .i64 (fin : Int));have tq := IU _ _ 4 _ dK (.int .i64 (fin : Int)) rT;have yG := nx.moves ms (λ k hk => GX);have vQ := jQ rm ms GX;have TG := hd1 (y5z (W := wr.setCell (w.heap.size + 1 + 1, 4) (.int .i64 (fin : Int))) (gen := gen) (n := n) (iB := fin) (at' := (at' : Int)) yG GX o2 GX tq vQ GX GX ((I1 (ms.block (w.heap.size + 1 + 1 + 1 + 1) (IZ c3) GX)).trans c3));have HR := hd12 hrel.mv ms tq vQ hm hw hf o1 hgh o3 o4 o2;clear hrel rT rm hm hw hf nx o1 o2 o3 o4 ms tq yG vQ Ay hgh;cases hr : Em.eP l fin D with
    | none =>
     rw [hr] at TG;have HG := hd1 hr;clear hr;go_wp2_with (go_at_call 110; refine TG.mono ?_; rintro e w6 ⟨rfl, m6⟩; have H6 := hd1 m6; clear m6)
     obtain ⟨mv, ms, tq, vQ, hm, hw, hf, o1, hgh, o3, o4, o2⟩ := HR.out;have Ay := HB.2.1;go_roundg 0
     case measure => omega
     case rel =>
      refine ⟨false, fin, n, fin, D, rfl, (λ h => by cases h), λ _ => ⟨rfl, ?_⟩, ⟨o1, ?_, o3, o4⟩, ⟨m, (H6.block _ (aa tq) GX).trans tq, jQ vQ H6.out GX, hm⟩, ?_⟩
      ·obtain ⟨f', rfl⟩ : ∃ f', f = f' + 1 := ⟨f - 1, GX⟩
       rw [hw, Em.dN, HG.out]
      ·exact o2
      ·exact (mv.trans (ms.mono (O' := λ k => k = w.heap.size + 1 + 1 \/ k = w.heap.size + 1 + 1 + 1 \/ W.heap.size <= k) (λ _ h => IB h)) (λ _ _ h => h)).trans (H6.mono (λ _ h => IC (IB h))) (λ _ _ h => h)
    | some r =>
     obtain ⟨D', fin'⟩ := r;rw [hr] at TG;have HG := hd1 hr;clear hr;go_wp2_with (go_at_call 110; refine TG.mono ?_; rintro e w6 ⟨rfl, s6⟩; have S6 := hd1 s6; clear s6)
     obtain ⟨mv, ms, tq, vQ, hm, hw, hf, o1, hgh, o3, o4, o2⟩ := HR.out;obtain ⟨p1, p2, p3⟩ := Bf HG.out o1;obtain ⟨m', rT6, rm6, tX⟩ := S6.row;have le6 := S6.next.le;have sv := mv.size;have s2 := ms.size;go_roundg (l.length - fin' + 1)
     case measure => omega
     case rel =>
      refine ⟨true, fin', n + 1, fin, D', rfl, λ _ => ⟨S6.next, rfl, f - 1, GX, ?_⟩, (λ h => by cases h), ⟨p1, p2, GX, le6⟩, ⟨m', rT6, rm6, GX⟩, ?_⟩
      ·obtain ⟨f', rfl⟩ : ∃ f', f = f' + 1 := ⟨f - 1, GX⟩
       rw [hw, Em.dN, HG.out];rfl
      ·exact (mv.trans (ms.mono (O' := λ k => k = w.heap.size + 1 + 1 \/ k = w.heap.size + 1 + 1 + 1 \/ W.heap.size <= k) (λ _ h => IB h)) (λ _ _ h => h)).trans (S6.mv.mono (λ k h => by rcases h with h | h | h; exact IB h; exact IC (IB h); exact IC (IC GX))) (λ _ _ h => h)
theorem CQ {L : List Em.iq} {x : Em.iq} {most : Int} (hx : x ∈ L) (h : x.small = false) : Em.uq L most = false := by
 have : L.all Em.iq.small = false := by
  rw [Bool.eq_false_iff];intro h2;have := JK.1 h2 x hx;rw [h] at this;cases this
 simp [Em.uq, this]
theorem AB {x : Em.iq} (h : 70 < x.l.length \/ 40 < x.aT.keep.length \/ ∃ c ∈ x.l, 70 < c.key.length \/ 200 < c.value.length) : x.small = false := by
 rw [Bool.eq_false_iff];intro h2;obtain ⟨h3, h4, h5⟩ := Em.iq.z4k h2;rcases h with h | h | ⟨c, hc, h⟩
 ·omega
 ·omega
 ·have := h5 c hc; omega
theorem x5d {Q : List iR} (hv : m_ w v Q) (most : Int) (hl : Q.length <= 9223372036854775807) :
 Calls prog 13 #[v, .int .i64 most] w λ e w' => e = .returned (.bool (Em.uq (Q.map (·.1)) most)) /\ w = w' := by
 obtain ⟨va, vc, rfl⟩ := hv.slice;have AT := hd1 (λ (i : Nat) (q : iR) (hi : Q[i]? = some q) => hv.at hi);have hl1 : (Q.length : Int) <= 9223372036854775807 := GX;clear hv;generalize hn : Q.length = n at *;have HN := hd1 hn;clear hn;go_in;go_wp2;go_loop [5] (λ i => ∃ k : Nat, k <= n /\ i = .int .i64 (k : Int) /\ ∀ (j : Nat) (x : iR), j < k -> Q[j]? = some x -> x.1.small = true) (λ i => n - (intOf i).toNat)
 case atStart => exact ⟨0, IY _, rfl, λ j x hj => absurd hj GX⟩
 case round =>
  obtain ⟨k, hk, rfl, hall⟩ := hrel;by_cases hlt : k < n
  ·obtain ⟨⟨x, lv, kv⟩, hq⟩ : ∃ q, Q[k]? = some q := ⟨_, IX Nl⟩
   obtain ⟨b, o, rfl, lb, rg, is⟩ := AT.out k _ hq;obtain ⟨la, lc, e1⟩ := is.l.slice;obtain ⟨ka, kc, e2⟩ := is.keep.slice;simp only at e1 e2;subst e1;subst e2;have k1 : w.cell? (b, o + k * 6 + 1) = some (.slice la x.l.length lc) := rg 1 _ rfl;have k3 : w.cell? (b, o + k * 6 + 3) = some (.slice ka x.aT.keep.length kc) := rg 3 _ rfl;have isl : dJ w (λ _ => True) (.slice la x.l.length lc) x.l := is.l;have CH := hd1 (λ (j : Nat) (c : Em.ay) (hc : x.l[j]? = some c) => isl.at hc);have hb1 : x.l.length <= 9223372036854775807 := is.z8t;have hb2 : x.aT.keep.length <= 9223372036854775807 := is.z8g;have i0 : (0 : Int) <= (k : Int) := GX;have i1 : (k : Int) < (n : Int) := GX;have DU := hd1 (show x ∈ Q.map (·.1) from Jq.2 ⟨_, Jg hq, rfl⟩);have HQ := hd2 hq hall;clear hq hall rg is isl lb;generalize hbl : x.l.length = bl at *;generalize hkk : x.aT.keep.length = kl at *;have HB := hd2 hbl hkk;clear hbl hkk;by_cases h1 : 70 < bl
   ·have d1 : (70 : Int) < (bl : Int) := GX
    have qF := hd1 (CQ (most := most) DU.out (AB (IB (by rw [HB.1]; exact h1))));clear h1;exact PZ
   ·have d1 : ¬ (70 : Int) < (bl : Int) := GX
    by_cases h2 : 40 < kl
    ·have d2 : (40 : Int) < (kl : Int) := GX
     have qF := hd1 (CQ (most := most) DU.out (AB (IC (IB (by rw [HB.2]; exact h2)))));clear h1 h2;exact PZ
    ·have d2 : ¬ (40 : Int) < (kl : Int) := GX
     go_wp2;go_loop [6] (λ i => ∃ j : Nat, j <= bl /\ i = .int .i64 (j : Int) /\ ∀ (m : Nat) (c : Em.ay), m < j -> x.l[m]? = some c -> c.tiny = true) (λ i => bl - (intOf i).toNat)
     case atStart => exact ⟨0, IY _, rfl, λ j x hj => absurd hj GX⟩
     case round =>
      obtain ⟨j, hj, rfl, Cc⟩ := hrel;by_cases hjl : j < bl
      ·obtain ⟨c, hc⟩ : ∃ c, x.l[j]? = some c := ⟨_, IX (by rw [HB.1]; exact hjl)⟩
       obtain ⟨b2, o2, rfl, _, lb2, Fb⟩ := CH.out j c hc;have z0 : w.cell? ⟨b2, o2 + j * 3, none⟩ = some (ag c.key) := Fb 0 _ rfl;have z1 : w.cell? ⟨b2, o2 + j * 3 + 1, none⟩ = some (ag c.value) := Fb 1 _ rfl;have j0 : (0 : Int) <= (j : Int) := GX;have j1 : (j : Int) < (bl : Int) := GX;have HC := hd2 hc Cc;clear hc Cc Fb;by_cases g1 : 70 < c.key.length
       ·have d3 : (70 : Int) < (c.key.length : Int) := GX
        have qF := hd1 (CQ (most := most) DU.out (AB (IC (IC ⟨c, Jg HC.1, IB g1⟩))));clear g1;exact PZ
       ·have d3 : ¬ (70 : Int) < (c.key.length : Int) := GX
        by_cases g2 : 200 < c.value.length
        ·have d4 : (200 : Int) < (c.value.length : Int) := GX
         have qF := hd1 (CQ (most := most) DU.out (AB (IC (IC ⟨c, Jg HC.1, IC g2⟩))));clear g1 g2;exact PZ
        ·have d4 : ¬ (200 : Int) < (c.value.length : Int) := GX
         have HT := hd1 (show c.tiny = true by simp only [Em.ay.tiny, Jl, Kg]; omega);clear g1 g2;go_wp2;go_round
         case rel =>
          refine ⟨j + 1, GX, by go_num, λ m c' hm hc' => ?_⟩;by_cases e : m = j
          ·subst e
           rw [HC.1] at hc';cases hc';exact HT.out
          ·exact HC.2 m c' GX hc'
         case measure => simp [intOf]; omega
      ·obtain rfl : j = bl := GX
       have HS := hd1 (show x.small = true by
        simp only [Em.iq.small, Jl, Kg, HB.1, HB.2, JK];refine ⟨⟨GX, GX⟩, λ c hc => ?_⟩;obtain ⟨m, hm⟩ := KH.1 hc;exact Cc m c (Ho ((I4.1 hm).1) HB.1) hm)
       clear Cc;go_wp2;go_round
       case rel =>
        refine ⟨k + 1, GX, by go_num, λ m q' hm hq' => ?_⟩;by_cases e : m = k
        ·subst e
         rw [HQ.1] at hq';cases hq';exact HS.out
        ·exact HQ.2 m q' GX hq'
       case measure => simp [intOf]; omega
  ·obtain rfl : k = n := GX
   have HA := hd1 (show (Q.map (·.1)).all Em.iq.small = true by
    rw [JK];intro x hx;obtain ⟨q, hq, rfl⟩ := Jq.1 hx;obtain ⟨m, hm⟩ := KH.1 hq;exact hall m q (Ho ((I4.1 hm).1) HN.out) hm)
   clear hall;go_wp2;go_ret;refine ⟨?_, rfl⟩;simp [Em.uq, HA.out, HN.out]
section
attribute [local go_sem] Oper.semAt_some
def kX (w : World) (v : Value) : Prop :=
 v = .pointer none \/ ∃ g, v = .pointer (some ⟨g, 0, none⟩) /\ w.heap[g]? = some (.cells #[.int .i64 0, .int .i64 0, .map none, .int .i64 0, .int .i64 0, .pointer none, .bool false] eO (0, 0))
theorem kX.later (h : kX w v) (hb : Below w w w') : kX w' v := by
 rcases h with h | ⟨g, h, r⟩
 ·exact IB h
 ·exact IC ⟨g, h, (hb.block _ (aa r)).trans r⟩
theorem q9 (h : kX w v) : Calls prog 36 #[v] w λ en w' => en = .returned (.bool true) /\ w = w' := by
 rcases h with rfl | ⟨g, rfl, r⟩
 ·go_in
  go_wp2;exact OI
 ·exact z8u (p := none) (ae r rfl)
theorem z9d (h : kX w v) (k : Value) : Calls prog 21 #[v, k] w λ en w' => en = .returned (.tuple #[.string ⟨#[]⟩, .bool false]) /\ w = w' := by
 have NC := hd1 (q9 h);clear h;exact QU
theorem z8s (h : kX w v) : Calls prog 22 #[v] w λ en w' => en = .returned (.int .i64 0) /\ w = w' := by
 have NC := hd1 (q9 h);clear h;go_in;go_wp2_with (go_at_call 36; refine NC.mono ?_; rintro en w0 ⟨rfl, rfl⟩)
 exact OI
theorem z9c (h : kX w v) : Calls prog 23 #[v] w λ en w' => en = .returned (.int .i64 0) /\ w = w' := by
 have NC := hd1 (q9 h);clear h;go_in;go_wp2_with (go_at_call 36; refine NC.mono ?_; rintro en w0 ⟨rfl, rfl⟩)
 exact OI
theorem z9i (h : kX w v) : Calls prog 17 #[v] w λ en w' => en = .returned (.bool false) /\ w = w' := by
 have NC := hd1 (q9 h);clear h;go_in;go_wp2_with (go_at_call 36; refine NC.mono ?_; rintro en w0 ⟨rfl, rfl⟩)
 exact OI
theorem y0e (h : kX w v) : Calls prog 24 #[v] w λ en w' => en = .returned (.pointer none) /\ w = w' := by
 have NC := hd1 (q9 h);clear h;go_in;go_wp2_with (go_at_call 36; refine NC.mono ?_; rintro en w0 ⟨rfl, rfl⟩)
 exact OI
theorem z8n (h : kX w v) : Calls prog 25 #[v] w λ en w' => en = .returned (.pointer none) /\ w = w' := by
 have NC := hd1 (q9 h);clear h;go_in;go_wp2_with (go_at_call 36; refine NC.mono ?_; rintro en w0 ⟨rfl, rfl⟩)
 exact OI
theorem y2z (h : kX w v) : Calls prog 15 #[v] w λ en w' => en = .returned (.func (.func 42) #[] #[]) /\ w = w' := by
 have NC := hd1 (q9 h);clear h;go_in;go_wp2_with (go_at_call 36; refine NC.mono ?_; rintro en w0 ⟨rfl, rfl⟩)
 exact OI
theorem y1a (w : World) : Iter prog 42 #[] z0a [] (λ _ => False) w := by
 intro l J Jx W hb hJ hJx hy h0;refine Lu func42 rfl trivial ?_ rfl;simp only [ntmps42, Kl, I8, Jw, Nat.reduceAdd, Nat.reduceSub, J3, J4, J5, J6, Jj, JG];gi_wp2;refine Kv (Kw rfl _ _ _) rfl ?_;exact ⟨⟨_, rfl⟩, _, IB h0⟩
theorem y1u (h : kX w v) (l : Value) : Calls prog 11 #[v, l] w λ en w' => en = .returned (.int .i64 1) /\ Below w w w' := by
 have NC := hd1 (q9 h);clear h;go_in;go_wp2;refine sG 0 rfl ?_;go_wp2_with (go_at_call 36; refine NC.mono ?_; rintro en w0 ⟨rfl, rfl⟩)
 refine wp_goto ?_;refine Exit.zh ?_;go_wp2;try go_step3
 go_wp2;rw [KG];go_ret;exact ⟨rfl, Below.refl _ _⟩
theorem y7q (w : World) : Calls prog 32 #[.pointer none, .pointer none] w λ e w' => e = .returned (.bool true) /\ w = w' := by
 have NN := hd1 (z7d (w := w) (v := .pointer none) (IB rfl));go_in;go_wp2_with (go_at_call 45; (with_reducible refine (NN.out).mono ?_); rintro e w' ⟨rfl, rfl⟩)
 exact OI
theorem z7h (w : World) : Calls prog 10 #[.pointer none] w λ en w' => en = .returned (.tuple #[.pointer none, .int .i64 1]) /\ Below w w w' := by
 obtain ⟨W1, hW1⟩ := G8 (w.alloc (.cells #[.pointer none] lh));have B1 : Below w w W1 := by rw [<-hW1]; exact bla
 have r1 : W1.heap[w.heap.size]? = some (.cells #[.pointer none] lh) := by rw [<-hW1]; exact II w _
 have SC := hd1 (y7q W1);have HB := hd2 B1 r1;have HW := hd1 hW1;clear B1 r1 hW1;go_in;go_upto_region 1 with fail
 rw [HW.out];go_wp2;refine sG 0 rfl ?_;have c1 : W1.cell? w.heap.size = some (.pointer none) := ae HB.2 rfl;have z1 : W1.frozen? ⟨w.heap.size, 0, none⟩ = false := aU HB.2 0;go_wp2_with (go_at_call 32; refine SC.mono ?_; rintro en w0 ⟨rfl, rfl⟩)
 refine wp_goto ?_;refine Exit.zh ?_;go_wp2;try go_step3
 go_wp2;rw [KG];refine IP (nG (p := 2) (u := 3) rfl _ _ ⟨w.heap.size, 0, none⟩ (.pointer none) rfl (ae (IU W1 _ 0 _ _ _ HB.2) rfl) GV) rfl ?_;exact ⟨rfl, kT HB.1 (eD W1 w.heap.size 0 _) (λ k hk => GX)⟩
end
end Go.Proofs.YtgffifleflkjoaaGreat
