/-
  Parts of a proof.
-/
import Derived.Test.YtgffifleflkjoaaGreatFin15
import Derived.Test.YtgffifleflkjoaaGreatFin40
import Derived.Test.YtgffifleflkjoaaGreatFin41
import Derived.Test.YtgffifleflkjoaaGreatFin42
set_option linter.unusedSimpArgs false
set_option linter.unusedVariables false
set_option maxRecDepth 100000
set_option maxHeartbeats 16000000
namespace Go.Proofs.YtgffifleflkjoaaGreat
open _root_.Go.Proofs.Tryz
variable {w W w' w0 wr w1 W0 W1 W2 A B : World} {F G F' O : Nat → Prop} {v : Value} {l : List UInt8} {n q m pd md pl g p : Nat} {C : Array Value} {c : Int}
section
open Go.RowKit Dm
attribute [local go_sem] Oper.semAt_some
def D5 (w : World) (d : D) (en : Ending) (w' : World) : Prop :=
 ∃ pd md F v, en = .returned (.tuple #[.pointer (some ⟨pd, 0, none⟩), v, .bool true]) /\ Below w.heap.size w w' /\ w.heap.size <= pd /\ w.heap.size <= md /\ aQ w'.heap pd md d F /\ bR w'.heap (λ k => k ≠ pd /\ k ≠ md) v d
structure qm (w W : World) (pd md g11 s0 : Nat) (d d' : D) (F : Nat -> Prop) (C : Array Value) : Prop where
 below : Below w.heap.size w W
 new : w.heap.size < pd /\ w.heap.size < md /\ pd < s0 /\ md < s0
 disk : aQ W.heap pd md d F
 foot : ∀ k, F k -> w.heap.size < k /\ k ≠ g11
 row : W.heap[g11]? = some (.cells C af (0, 0))
 r7 : W.heap[w.heap.size]? = some (.cells bV af (0, 0))
 lt : w.heap.size < g11 /\ s0 <= g11
 ref : bR W.heap (λ k => s0 <= k /\ k ≠ g11) (.agg C) d'
 bN : C.size = 10
 ones : C.all (·.oneCell') = true
 ok : d'.ok
section
variable {w W : World} {pd md g11 s0 : Nat} {d d' : D} {F : Nat -> Prop} {C : Array Value}
theorem qm.CQ (h : qm w W pd md g11 s0 d d' F C) {W' : World} {r : D × Int} {en : Ending} (hl : Left W pd md F r en W') : qm w W' pd md g11 s0 r.1 d' (plus F W W') C := by
 obtain ⟨_, m, x⟩ := hl;have n := h.new;have l := h.lt;have lg := aa h.row
 refine ⟨mE h.below m (λ k hk => by rcases hk with q | q <;> omega), h.new, x, λ k hk => ?_, (m.block _ lg (λ q => by rcases q with q | q <;> omega)).trans h.row, (m.block _ (aa h.r7) (λ q => by rcases q with q | q <;> omega)).trans h.r7, h.lt,
  h.ref.keeps (λ k hk hl => m.block k hl (λ q => by rcases q with q | q <;> omega)) (λ _ hk _ => hk), h.bN, h.ones, h.ok⟩
 rcases hk with q | q
 ·exact h.foot k q
 ·exact ⟨GR, GR⟩
theorem qm.step (h : qm w W pd md g11 s0 d d' F C) {C1 : Array Value} {r : D × Int} (hb : Below W W W1) (f : bR W1.heap (plus (λ k => s0 <= k /\ k ≠ g11) W W1) (.agg C1) r.1) (hC : C1.size = 10) (hO : C1.all (·.oneCell') = true)
 (hm : Moves (λ k => k = g11) W1 W2) (hr : W2.heap[g11]? = some (.cells C1 af)) (ok : r.1.ok) : qm w W2 pd md g11 s0 d r.1 F C1 := by
 have n := h.new;have l := h.lt;have lg := aa h.row;have lx := h.disk.lt;have z := hb.size;refine ⟨mE (h.below.trans (hb.mono h.below.size)) hm (λ k hk => GR), h.new, ?_, h.foot, hr, (hm.block _ GR GR).trans ((hb.block _ GR).trans h.r7), h.lt, f.keeps (λ k hk hl => hm.block k hl ?_) (λ k hk hl => ?_), hC, hO, ok⟩
 ·exact (h.disk.below hb).keeps (hm.block pd GR GR) (hm.block md GR GR) (λ k hk hl => hm.block k hl (h.foot k hk).2) (λ _ h _ => h) (λ _ h => Iy h)
 ·rcases hk with q | q
  ·exact q.2
  ·omega
 ·rcases hk with q | q
  ·exact q
  ·exact ⟨GR, GR⟩
theorem qm.give (h : qm w W pd md g11 s0 d d F C) {W' : World} (hm : Moves (λ k => k = w.heap.size) W W') : D5 w d (.returned (.tuple #[.pointer (some pd), .agg C, .bool true])) W' := by
 have n := h.new;have lx := h.disk.lt;refine ⟨pd, md, F, .agg C, rfl, mE h.below hm (λ k hk => GR), GR, GR, ?_, h.ref.keeps (λ k hk hl => hm.block k hl GR) (λ k hk _ => ⟨GR, GR⟩)⟩;exact h.disk.keeps (hm.block pd GR GR) (hm.block md GR GR) (λ k hk hl => hm.block k hl (Hf ((h.foot k hk).1))) (λ _ h _ => h) (λ _ h => Iy h)
end
theorem x3l {v1 v2 : Value} {one two : List UInt8} (h1 : one.length <= 4000) (h2 : two.length <= 4000) (stop : Int) (hstop : stop <= 9223372036854775807)
 (A1 : ∀ (W : World) (p m : Nat) (d : D) (F : Nat -> Prop), Below w w W -> aQ W.heap p m d F -> d.waits.length <= 1000 -> Calls prog 59 #[p, .int .i64 0, v1] W (Left W p m F (d.append 0 one)))
 (A2 : ∀ (W : World) (p m : Nat) (d : D) (F : Nat -> Prop), Below w w W -> aQ W.heap p m d F -> d.waits.length <= 1000 -> Calls prog 59 #[p, .int .i64 1, v2] W (Left W p m F (d.append 1 two)))
 (R1 : ∀ (W : World) (F : Nat -> Prop) (v : Value) (d : D), Below w w W -> bR W.heap F v d -> d.ok -> d.waits.length <= 1000 -> Calls prog 51 #[v, .int .i64 0, v1] W (gK W F (d.append 0 one)))
 (R2 : ∀ (W : World) (F : Nat -> Prop) (v : Value) (d : D), Below w w W -> bR W.heap F v d -> d.ok -> d.waits.length <= 1000 -> Calls prog 51 #[v, .int .i64 1, v2] W (gK W F (d.append 1 two))) :
 Calls prog 29 #[v1, v2, .int .i64 stop] w (D5 w (nz one two (if 0 <= stop then stop else -1))) := by
 obtain ⟨W1, hW1⟩ := G5 (w.alloc (.cells bV af));have B1 : Below w w W1 := by rw [<-hW1]; exact bla
 have r7 : W1.heap[w.heap.size]? = some (.cells bV af) := by rw [<-hW1]; exact IC w _
 have s1 : W1.heap.size = w.heap.size + 1 := by rw [<-hW1]; simp
 obtain ⟨d1, d2, p1, p2, p3⟩ := x3o h1 h2;have NW := hd1 (z8w 0 20000 W1 rfl);have RN := hd1 (λ W => y8g 0 20000 W (λ _ => False) rfl);have HP := hd4 p1 p2 p3 hstop;have HA := hd2 A1 A2;have HR := hd2 R1 R2;have H1 := hd3 B1 r7 s1;have HW1 := hd1 hW1;have OK0 := hd1 (z8x 0 20000 GU GU GU GU);clear h1 h2 A1 A2 R1 R2 B1 r7 s1 p1 p2 p3 hW1 hstop;go_in;go_upto_region 1 with fail
 rw [show w.alloc (.cells #[.int .i64 0, .int .i64 0, (), (), (), (), (), (), false, .int .i64 0] af) = W1 from HW1.out];go_upto_region 2 with (go_at_call 9; refine NW.mono ?_; rintro en w3 ⟨pd, md, rfl, b3, hp, hm, x3⟩)
 have H3 := hd4 b3 hp hm x3;clear b3 hp hm x3 NW
 go_upto_region 3 with (first
  | (go_at_call 20; refine (RN.out _).mono ?_; rintro en w3' ⟨v3, rfl, b4, f4⟩; obtain ⟨C4, rfl, p9, hO4⟩ := f4.cells)
  | (refine aC rfl af _ _ rfl w3'.heap.size C4 rfl rfl af bV (IC w3' _) (by rw [aH, p9]) (by rw [p9]; rfl) hO4 ?_; intro W4 g_ jc mH))
 obtain ⟨g11, hg⟩ := G5 w3'.heap.size;rw [hg] at g_ ⊢
 have S4 := hd1 (show qm w W4 pd md g11 w3.heap.size (Dm.new 0 20000) (Dm.new 0 20000) (λ k => DR W1 pd md k /\ k < w3.heap.size /\ w.heap.size < k) C4 from by
  obtain ⟨b3, hp, hm, x3⟩ := H3.out;have lx := x3.lt;have s1 := H1.2.2;have z3 := b3.size;have z4 := b4.size;have jo : Below w3' w3' W4 := Moves.new ((Below.refl w3' w3').alloc GZ _) jc GR;have b14 : Below W1 W1 W4 := b3.trans ((b4.trans (jo.mono b4.size)).mono b3.size);have x4 : aQ w3.heap pd md (Dm.new 0 20000) (λ k => DR W1 pd md k /\ k < w3.heap.size /\ w.heap.size < k) := x3.weak (λ k hk hl => ⟨hk, hl, by have := hk; unfold DR at this; omega⟩) (λ q => lx.2.2.2.1 q.1) (λ q => lx.2.2.2.2 q.1);refine ⟨H1.1.trans (b14.mono H1.1.size), ⟨GR, GR, GR, GR⟩, x4.below (b4.trans (jo.mono b4.size)), λ k hk => ⟨hk.2.2, GR⟩, g_.out, (b14.block _ GR).trans H1.2.1, ⟨GR, GR⟩, f4.keeps (λ k hk hl => jo.block k hl) (λ k hk hl => ?_), p9, hO4, OK0.out⟩;rcases hk with q | q
  ·exact q.elim
  ·exact ⟨q.1, GR⟩)
 clear p9 hO4 g_ jc mH b4 f4 hg RN H3;have W0 : (Dm.new 0 20000).waits.length <= 1000 := IV _;have W1' : d1.waits.length <= 1000 := by have := Em.qc (Dm.new 0 20000) 0 one; rw [HP.1] at this; have h0 : (Dm.new 0 20000).waits.length = 0 := rfl; simp only at this; omega
 have W2' : d2.waits.length <= 1000 := by have := Em.qc d1 1 two; rw [HP.2.1] at this; have h1 := Em.qc (Dm.new 0 20000) 0 one; rw [HP.1] at h1; have h0 : (Dm.new 0 20000).waits.length = 0 := rfl; simp only at this h1; omega
 have ja := wG (t := 0) OK0.out GU GU one;rw [HP.1] at ja;have iG := wG (t := 1) ja GU GU two;rw [HP.2.1] at iG;have gy := t_ iG;rw [HP.2.2.1] at gy;have HO := hd5 ja iG gy W1' W2';clear ja iG gy W1' W2';have E1 := HA.1 _ _ _ _ _ S4.below S4.disk W0;rw [HP.1] at E1;replace E1 := hd1 E1
 go_upto_region 4 with (first
  | (go_at_call 59; (with_reducible refine E1.out.mono ?_); rintro en w5 l5
     obtain ⟨rfl, _⟩ := id l5;have S5 := hd1 (S4.CQ l5);clear l5;have E2 := HA.2 _ _ _ _ _ S5.below S5.disk HO.2.2.2.1;rw [HP.2.1] at E2;replace E2 := hd1 E2)
  | (go_at_call 59; (with_reducible refine E2.out.mono ?_); rintro en w6 l6
     obtain ⟨rfl, _⟩ := id l6;have S6 := hd1 (S5.CQ l6);clear l6;have E3 := z4z S6.disk;rw [HP.2.2.1] at E3;replace E3 := hd1 E3)
  | (go_at_call 60; (with_reducible refine E3.out.mono ?_); rintro en w7 l7
     obtain ⟨rfl, _⟩ := id l7;have S7 := hd1 (S6.CQ l7);clear l7))
 clear E1 E2 E3 S4 S5 S6;have Q1 := HR.1 _ _ _ _ S7.below S7.ref S7.ok W0;rw [HP.1] at Q1;replace Q1 := hd1 Q1
 go_upto_region 5 with (first
  | (refine G_ S7.row Hu (by rw [aH, S7.bN]) ?_)
  | (go_at_call 51; refine (Q1.out).mono ?_; rintro en w8 ⟨v8, rfl, b8, f8⟩; obtain ⟨C8, rfl, Cr, hO8⟩ := f8.cells)
  | (refine aC rfl af _ _ rfl g11 C8 rfl rfl af _ ((b8.block _ (aa S7.row)).trans S7.row) (by rw [aH, Cr]) (by rw [Cr, S7.bN]) hO8 ?_; intro W8 fB dA jw))
 have S8 := hd1 (S7.step (r := (d1, 0)) b8 f8 Cr hO8 dA fB.out HO.1);clear b8 f8 Cr hO8 dA fB jw S7;have Q2 := HR.2 _ _ _ _ S8.below S8.ref HO.1 HO.2.2.2.1;rw [HP.2.1] at Q2;replace Q2 := hd1 Q2
 go_upto_region 6 with (first
  | (refine G_ S8.row Hu (by rw [aH, S8.bN]) ?_)
  | (go_at_call 51; refine (Q2.out).mono ?_; rintro en w9 ⟨v9, rfl, b9, f9⟩; obtain ⟨C9, rfl, Cq, hO9⟩ := f9.cells)
  | (refine aC rfl af _ _ rfl g11 C9 rfl rfl af _ ((b9.block _ (aa S8.row)).trans S8.row) (by rw [aH, Cq]) (by rw [Cq, S8.bN]) hO9 ?_; intro W9 bM aR eX))
 have S9 := hd1 (S8.step (r := (d2, 0)) b9 f9 Cq hO9 aR bM.out HO.2.1);clear b9 f9 Cq hO9 aR bM eX S8;have Q3 := sD S9.ref HO.2.1 (IP HO.2.2.2.2 GU);rw [HP.2.2.1] at Q3;replace Q3 := hd1 Q3
 go_upto_region 7 with (first
  | (refine G_ S9.row Hu (by rw [aH, S9.bN]) ?_)
  | (go_at_call 53; refine (Q3.out).mono ?_; rintro en Et ⟨v10, rfl, b10, f10⟩; obtain ⟨C10, rfl, Ct, z0l⟩ := f10.cells)
  | (refine aC rfl af _ _ rfl g11 C10 rfl rfl af _ ((b10.block _ (aa S9.row)).trans S9.row) (by rw [aH, Ct]) (by rw [Ct, S9.bN]) z0l ?_; intro Dw y2g y2b w1m))
 have fJ := hd1 (S9.step (r := (nz one two (-1), 0)) b10 f10 Ct z0l y2b y2g.out HO.2.2.1);clear b10 f10 Ct z0l y2b y2g w1m S9;clear Q1 Q2 Q3 W0;by_cases hs : 0 <= stop
 ·rw [IA hs]
  have T1 := EM fJ.disk stop HP.2.2.2;rw [z8g one two hs] at T1;replace T1 := hd1 T1;go_upto_region 9 with (go_at_call 16; refine T1.mono ?_; rintro en w11 GH; obtain ⟨rfl, _⟩ := id GH; have dV := hd1 (fJ.CQ GH); clear GH)
  have T2 := z5s dV.ref stop;rw [z8g one two hs] at T2;replace T2 := hd1 T2;have OK4 : (nz one two stop).ok := dV.disk.ok;replace OK4 := hd1 OK4;clear fJ T1
  go_upto_region 10 with (first
   | (refine G_ dV.row Hu (by rw [aH, dV.bN]) ?_)
   | (go_at_call 55; refine (T2.out).mono ?_; rintro en w12 ⟨v12, rfl, b12, f12⟩; obtain ⟨D_, rfl, Cs, z0m⟩ := f12.cells)
   | (refine aC rfl af _ _ rfl g11 D_ rfl rfl af _ ((b12.block _ (aa dV.row)).trans dV.row) (by rw [aH, Cs]) (by rw [Cs, dV.bN]) z0m ?_; intro wQ uF uK DX))
  have fI := hd1 (dV.step (r := (nz one two stop, 0)) b12 f12 Cs z0m uK uF.out OK4.out);clear b12 f12 Cs z0m uK uF DX dV;have LD : Hid (∀ w', (∃ y : Wd (Moves (λ k => k = w.heap.size) wQ), w' = y.world) -> (Instr.loadAt af (.pointer (some g11))).run prog w' = .ok (.agg D_) w') := by
   rintro w' ⟨y, rfl⟩;exact fK ((y.ok.block _ (aa fI.row) (Hf fI.lt)).trans fI.row) Hu rfl (by rw [aH, fI.bN])
  have ne : Nonempty (Wd (Moves (λ k => k = w.heap.size) wQ)) := ⟨⟨_, Moves.refl _ _⟩⟩;refine bC (λ w' => ∃ x : Wd (Moves (λ k => k = w.heap.size) wQ), w' = x.world) [] GQ ?_;refine aI [0, 1, 2, 4, 7, 10, 13] 13 _ ⟨⟨_, (Moves.of_below GY.drew)⟩, rfl⟩ GQ ?_;simp only [fmc, fmn, gta, gcs, gcz];refine ak (λ K hK => ?_); simp only [au, ah]; go_simp; refine hK _ ?_; clear hK K;refine dX rfl af (.tmp 11) rfl _ LD.out ?_;repeat refine G8 ?_
  refine aA ?_;refine az 3 12 _ _ rfl GQ ?_;refine IE rfl λ K hK => ?_;go_simp;go_at_call 12;refine (iX _ _).mono ?_;rintro en w' ⟨rfl, rfl⟩;refine hK _ _ (IB ⟨rfl, λ _ => ⟨⟨_, (Moves.of_below GY.drew)⟩, rfl⟩, ?_⟩);clear hK K;refine az 5 11 _ _ rfl GQ ?_;refine IE rfl λ K hK => ?_;go_simp;go_at_call 12;refine (iX _ _).mono ?_;rintro en w' ⟨rfl, rfl⟩;refine hK _ _ (IB ⟨rfl, λ _ => ⟨⟨_, (Moves.of_below GY.drew)⟩, rfl⟩, ?_⟩);clear hK K;refine aI [6] 10 _ ⟨⟨_, (Moves.of_below GY.drew)⟩, rfl⟩ GQ ?_;refine G9 ?_;refine az 8 9 _ _ rfl GQ ?_;refine IE rfl λ K hK => ?_;go_simp;go_at_call 12;refine (iX _ _).mono ?_;rintro en w' ⟨rfl, rfl⟩;refine hK _ _ (IB ⟨rfl, λ _ => ⟨⟨_, (Moves.of_below GY.drew)⟩, rfl⟩, ?_⟩);clear hK K;refine aI [9] 8 _ ⟨⟨_, (Moves.of_below GY.drew)⟩, rfl⟩ GQ ?_;refine G9 ?_;refine az 11 7 _ _ rfl GQ ?_;refine IE rfl λ K hK => ?_;go_simp;go_at_call 12;refine (iX _ _).mono ?_;rintro en w' ⟨rfl, rfl⟩;refine hK _ _ (IB ⟨rfl, λ _ => ⟨⟨_, (Moves.of_below GY.drew)⟩, rfl⟩, ?_⟩);clear hK K;refine aI [12] 6 _ ⟨⟨_, (Moves.of_below GY.drew)⟩, rfl⟩ GQ ?_;refine G9 ?_;refine az 14 5 _ _ rfl GQ ?_;refine IE rfl λ K hK => ?_;go_simp;go_at_call 12;refine (iX _ _).mono ?_;rintro en w' ⟨rfl, rfl⟩;refine hK _ _ (IB ⟨rfl, λ _ => ⟨⟨_, (Moves.of_below GY.drew)⟩, rfl⟩, ?_⟩);clear hK K;refine aI [15, 16, 17] 2 _ ⟨⟨_, (Moves.of_below GY.drew)⟩, rfl⟩ GQ ?_;refine G9 ?_;refine az 18 1 _ _ rfl GQ ?_;refine aC rfl af _ _ rfl w.heap.size D_ rfl rfl af bV fI.r7 (by rw [aH, fI.bN]) (by rw [fI.bN]; rfl) fI.ones ?_
  intro W99 z2r nR w1r;have sS : Moves (λ k => k = w.heap.size) wQ W99 := ⟨nR.os, nR.tape, nR.output, nR.size, nR.block⟩;refine IB ⟨rfl, λ _ => ⟨⟨_, sS⟩, rfl⟩, ?_⟩;refine aI [19] 0 _ ⟨⟨_, sS⟩, rfl⟩ GQ ?_;refine G9 ?_;refine ⟨GQ, ?_⟩;go_wp2;refine IK (vI rfl _ _ w.heap.size _ _ _ _ _ _ rfl rfl rfl z2r.out Hu rfl (by rw [aH, fI.bN])) rfl ?_;exact fI.give sS
 ·rw [Iw hs]
  go_upto_region 11 with fail
  have LD : Hid (∀ w', (∃ y : Wd (Moves (λ k => k = w.heap.size) Dw), w' = y.world) -> (Instr.loadAt af (.pointer (some g11))).run prog w' = .ok (.agg C10) w') := by
   rintro w' ⟨y, rfl⟩;exact fK ((y.ok.block _ (aa fJ.row) (Hf fJ.lt)).trans fJ.row) Hu rfl (by rw [aH, fJ.bN])
  have ne : Nonempty (Wd (Moves (λ k => k = w.heap.size) Dw)) := ⟨⟨_, Moves.refl _ _⟩⟩;refine bC (λ w' => ∃ x : Wd (Moves (λ k => k = w.heap.size) Dw), w' = x.world) [] GQ ?_;refine aI [0, 1, 2, 4, 7, 10] 11 _ ⟨⟨_, (Moves.of_below GY.drew)⟩, rfl⟩ GQ ?_;simp only [fmc, fmn, gta, gcs, gcz];refine ak (λ K hK => ?_); simp only [au, ah]; go_simp; refine hK _ ?_; clear hK K;refine dX rfl af (.tmp 11) rfl _ LD.out ?_;repeat refine G8 ?_
  refine aA ?_;refine az 3 10 _ _ rfl GQ ?_;refine IE rfl λ K hK => ?_;go_simp;go_at_call 12;refine (iX _ _).mono ?_;rintro en w' ⟨rfl, rfl⟩;refine hK _ _ (IB ⟨rfl, λ _ => ⟨⟨_, (Moves.of_below GY.drew)⟩, rfl⟩, ?_⟩);clear hK K;refine az 5 9 _ _ rfl GQ ?_;refine IE rfl λ K hK => ?_;go_simp;go_at_call 12;refine (iX _ _).mono ?_;rintro en w' ⟨rfl, rfl⟩;refine hK _ _ (IB ⟨rfl, λ _ => ⟨⟨_, (Moves.of_below GY.drew)⟩, rfl⟩, ?_⟩);clear hK K;refine aI [6] 8 _ ⟨⟨_, (Moves.of_below GY.drew)⟩, rfl⟩ GQ ?_;refine G9 ?_;refine az 8 7 _ _ rfl GQ ?_;refine IE rfl λ K hK => ?_;go_simp;go_at_call 12;refine (iX _ _).mono ?_;rintro en w' ⟨rfl, rfl⟩;refine hK _ _ (IB ⟨rfl, λ _ => ⟨⟨_, (Moves.of_below GY.drew)⟩, rfl⟩, ?_⟩);clear hK K;refine aI [9] 6 _ ⟨⟨_, (Moves.of_below GY.drew)⟩, rfl⟩ GQ ?_;refine G9 ?_;refine az 11 5 _ _ rfl GQ ?_;refine IE rfl λ K hK => ?_;go_simp;go_at_call 12;refine (iX _ _).mono ?_;rintro en w' ⟨rfl, rfl⟩;refine hK _ _ (IB ⟨rfl, λ _ => ⟨⟨_, (Moves.of_below GY.drew)⟩, rfl⟩, ?_⟩);clear hK K;refine aI [12, 13, 14] 2 _ ⟨⟨_, (Moves.of_below GY.drew)⟩, rfl⟩ GQ ?_;refine G9 ?_;refine az 15 1 _ _ rfl GQ ?_;refine aC rfl af _ _ rfl w.heap.size C10 rfl rfl af bV fJ.r7 (by rw [aH, fJ.bN]) (by rw [fJ.bN]; rfl) fJ.ones ?_;intro W99 z2r nR w1r;have sS : Moves (λ k => k = w.heap.size) Dw W99 := ⟨nR.os, nR.tape, nR.output, nR.size, nR.block⟩;refine IB ⟨rfl, λ _ => ⟨⟨_, sS⟩, rfl⟩, ?_⟩;refine aI [16] 0 _ ⟨⟨_, sS⟩, rfl⟩ GQ ?_;refine G9 ?_;refine ⟨GQ, ?_⟩;go_wp2;refine IK (vI rfl _ _ w.heap.size _ _ _ _ _ _ rfl rfl rfl z2r.out Hu rfl (by rw [aH, fJ.bN])) rfl ?_
  exact fJ.give sS
end
section
open Go.RowKit Dm
attribute [local go_sem] Oper.semAt_some
theorem z9w : (prog.info? jh).map (·.size) = some 3 := GQ
abbrev z1s (e : Em.E) (c : bH) : Em.E × Int := Em.bZ (e.d.aT c) (aP (λ k => aJ ((e.d.aT c).stand.tp k)) 2)
theorem w0e {e : Em.E} (x : bO w pl pd md e F) (hr : dW w (λ k => Apart pl pd md k /\ G k) v e) (hf : Fit e) (n : Int) (lv : Value) (c : bH) {kv : Value} (hk : nT w.heap kv c.keep) (hkl : c.keep.length <= 1000000) (ht : i64' c.bq) (hp : i64' c.part) :
 Calls prog 27 #[pl, v, .agg (iQ 2 lv n kv c.bq c.part)] w (xB w pl pd md F G (z1s e c).1) := by
 have hr' := hr.clip;obtain ⟨C, ra, rn, rc, rfl, hC, gH, fF, _⟩ := hr;have hin := Dt w (bQ C e.gone (.slice ra rn rc) (dG e)) (iQ 2 lv n kv c.bq c.part);obtain ⟨W0, hW0⟩ := G5 (((w.alloc (.cells (bQ C e.gone (.slice ra rn rc) (dG e)) aj)).alloc (.cells (iQ 2 lv n kv c.bq c.part) iV)).alloc (.cells bP aj));rw [hW0] at hin;have k0 : W0.cell? (w.heap.size + 1, 0) = some (.int .i64 2) := ae hin.r5 rfl;have hk0 : ∀ X : World, Below W0 W0 X -> nT X.heap kv c.keep := λ X hb => (hk.later hin.below).later hb;have oM : Hid (∀ X : World, Below W0 W0 X -> X.rangeAt (w.heap.size + 1) 3 [kv, .int .i64 c.bq, .int .i64 c.part]) := hd1 (λ X hb => by
  have hX := (hb.block _ (aa hin.r5)).trans hin.r5;intro j u hj;rw [IJ _ _ _ _ _ _ hX];match j, hj with
  | 0, hj => cases hj; rfl
  | 1, hj => cases hj; rfl
  | 2, hj => cases hj; rfl
  | n + 3, hj => cases hj)
 have LDK : Hid (∀ w', (∃ y : Wd (Below W0 W0), w' = y.world) -> (Instr.loadAt jh (.pointer (some (w.heap.size + 1, 3)))).run prog w' = .ok (.agg #[kv, .int .i64 c.bq, .int .i64 c.part]) w') := by
  rintro w' ⟨y, rfl⟩;exact Kk y.world (w.heap.size + 1) 3 jh [kv, .int .i64 c.bq, .int .i64 c.part] _ (oM.out _ y.ok) underlying41 rfl z9w
 have x0 := (sU x).grow hin.below;have DC := hd1 (z1o (x0.grow GY.drew));have PC := hd1 (x7n (w := W0.drew) x0.disk c (hk0 _ GY.drew) ht.1 ht.2 hp.1 hp.2 (Hf hf.waits));have RCC := hd1 (λ (X : World) (hb : Below W0 W0 X) => x0t (w := X) (F := λ k => (Apart pl pd md k /\ G k) /\ k < w.heap.size) (v := .agg C) (fF.keeps (λ k _ hl => (hb.block k (Hf hin.size)).trans (hin.below.block k hl)) (λ k h hl => ⟨h, hl⟩)) hf.ok (Hf hf.waits) c (hk0 X hb) hkl ht.1 ht.2 hp.1 hp.2);have aD := hd1 hin;have HX := hd4 x hC hf x0;have HW := hd1 hW0;have ne : Nonempty (Wd (Below W0 W0)) := ⟨⟨_, Below.refl _ _⟩⟩;clear x hr' hin hW0 fF gH hC hk0 hk hf ht hp hkl x0;generalize dG e = gk at *;generalize e.gone = go at *;go_in;go_upto_region 1 with fail
 rw [show (((w.alloc (.cells (bQ C go (.slice ra rn rc) gk) aj)).alloc (.cells (iQ 2 lv n kv c.bq c.part) iV)).alloc (.cells #[.int .i64 0, .int .i64 0, (), (), (), (), (), (), false, .int .i64 0, false, (), .int .i64 0] aj)) = W0 from HW.out];go_upto_region 12 with fail
 refine bC (λ w' => ∃ x : Wd (Below W0 W0), w' = x.world) [] GQ ?_;refine aI [0, 2, 3] 7 _ Hq GQ ?_;simp only [fmc, fmn, gta, gcs, gcz];refine ak (λ K hK => ?_); simp only [au, ah]; go_simp; refine hK _ ?_; clear hK K;refine ak (λ K hK => ?_); simp only [au, ah]; go_simp; refine hK _ ?_; clear hK K;refine dX rfl jh (.tmp 72) rfl _ LDK.out ?_;refine aA ?_;refine az 1 6 _ _ rfl GQ ?_;refine IE rfl λ K hK => ?_;go_simp;go_at_call 24;refine DC.mono ?_;rintro en w' ⟨rfl, rfl⟩;refine hK _ _ (IB ⟨rfl, λ _ => Hq, ?_⟩);clear hK K;refine az 4 5 _ _ rfl GQ ?_;refine IE rfl λ K hK => ?_;go_simp;go_at_call 19;refine PC.mono ?_;rintro en w1 ⟨p', m', F1, rfl, b1, hp1, hm1, x1, hF1⟩;have b1' : Below W0 W0 w1 := GY.drew.trans b1;have hp1 : W0.heap.size <= p' := hp1;have hm1 : W0.heap.size <= m' := hm1;have X1 := hd5 b1' hp1 hm1 x1 hF1;clear b1 hp1 hm1 x1 hF1 PC DC;refine hK _ _ (IB ⟨rfl, λ _ => ⟨⟨_, b1'⟩, rfl⟩, ?_⟩);clear hK K;refine aI [5, 6, 7, 8, 9] 0 _ ⟨⟨_, b1'⟩, rfl⟩ GQ ?_;refine G9 ?_;refine ⟨GQ, ?_⟩;have RC := hd1 (RCC.out w1 b1');have R4 := hd1 ((b1'.block _ (aa aD.r4)).trans aD.r4);have M1 := hd1 (oM.out w1 b1');clear b1' oM LDK RCC ne k0;have ok1 := X1.2.2.2.1.ok;have rm1 : (e.d.aT c).room <= 1000000 := HX.2.2.1.room;have tk : ∀ k : Nat, ((e.d.aT c).stand.tp k).length <= 1000000 := λ k => Hf (kC ok1 k);obtain ⟨o1, _⟩ := HX.2.2.1.gF.aT c (λ k _ => tk k);have HT := hd3 ok1 rm1 tk;have TG := hd1 (EA (d := e.d.aT c) (λ k _ => tk k));obtain ⟨R9, yP⟩ := G5 (z1s e c);have HR := hd1 yP;rw [show Em.bZ (e.d.aT c) (aP (λ k => aJ ((e.d.aT c).stand.tp k)) 2) = R9 from yP] at o1
 clear ok1 rm1 tk yP
 go_upto_region 14 with (first
  | (refine uW rfl (.tmp 78) rfl w.heap.size rfl R4.out HX.2.1 ?_)
  | (refine JA rfl jh (.tmp 80) rfl (w.heap.size + 1) 3 rfl [kv, .int .i64 c.bq, .int .i64 c.part] _ M1.out underlying41 rfl z9w ?_)
  | (go_at_call 56; refine RC.mono ?_; rintro en w2 ⟨v2, rfl, b2, f2⟩; obtain ⟨C2, rfl, _, _⟩ := f2.cells; have F2 := hd1 f2; clear f2)
  | (go_at_call 26; refine (z5d F2.out HT.1 (IV _) HT.2.1).mono ?_; rintro en w3 ⟨v3, e3, b3, f3⟩
     rw [show Em.bZ (e.d.aT c) (aP (λ k => aJ ((e.d.aT c).stand.tp k)) 2) = R9 from HR.out] at e3 f3;rw [o1] at e3;subst e3;obtain ⟨C3, a3, n3, c3, rfl, p_, hO3, y9m⟩ := id f3;have F3 := hd1 f3;clear f3 y9m)
  | (refine aC rfl aj _ _ rfl w3.heap.size _ rfl rfl aj bP (IC w3 _) (by rw [aX, aV p_]) (by rw [aV p_]; rfl) (d_ hO3 _ _ _ _ _) ?_; intro W4 g_ jc mH))
 have jo : Below w3 w3 W4 := Moves.new ((Below.refl w3 w3).alloc GZ _) jc GZ;obtain ⟨E3, Co⟩ := G5 (bQ C3 R9.1.gone (.slice a3 n3 c3) (dG R9.1));have z9j : E3.size = 13 := by rw [<-Co]; exact aV p_ _ _ _
 have z9i : E3.all (·.oneCell') = true := by rw [<-Co]; exact d_ hO3 _ _ _ _ _
 rw [Co] at F3 g_;obtain ⟨g17, BX⟩ := G5 w3.heap.size;rw [BX] at g_ ⊢;have b14 : Below w1 w1 W4 := b2.trans ((b3.trans (jo.mono b3.size)).mono b2.size);have x4 : aQ W4.heap p' m' (e.d.aT c) (λ k => F1 k /\ k < w1.heap.size) := by
  obtain ⟨l1, l2, l3, l4, l5⟩ := X1.2.2.2.1.lt;exact (X1.2.2.2.1.weak (λ k hk hl => (⟨hk, hl⟩ : F1 k /\ k < w1.heap.size)) (λ h => l4 h.1) (λ h => l5 h.1)).below b14
 have OC := Gb (ts := λ k => aJ ((e.d.aT c).stand.tp k)) x4 (IV _) (λ k hk => Jc hk.2 b14.size) (λ k hk => z6i (Hf (HT.2.2 k)) k) TG.out;rw [show Em.bZ (e.d.aT c) (aP (λ k => aJ ((e.d.aT c).stand.tp k)) 2) = R9 from HR.out] at OC;have OC := hd1 OC;have O1 := hd1 o1;have H4 := hd9 b2 b3 jo b14 g_.out z9j z9i BX x4;clear b2 b3 jo b14 g_ jc mH z9j z9i Co p_ hO3 BX RC x4 o1 R4 M1;go_upto_region 15 with (go_at_call 10; refine OC.mono ?_; rintro en w9 ⟨m9, o9, _⟩; obtain ⟨pl9, F9, rfl, x9, z0s, hF9, yU⟩ := o9 O1.out)
 have s0 := aD.size;have z1 := X1.1.size;have z4 := H4.2.2.2.1.size;have z2 := H4.1.size;have z3 := H4.2.1.size;have z34 := H4.2.2.1.size;have x5u := H4.2.2.2.2.2.2.2.1;have lx1 := X1.2.2.2.1.lt;have n1 := X1.2.1;have n2 := X1.2.2.1;have R17 : w9.heap[g17]? = some (.cells E3 aj) := (m9.block _ (aa H4.2.2.2.2.1) (λ h => by rcases h with h | h <;> omega)).trans H4.2.2.2.2.1;have R7 : w9.heap[w.heap.size + 1 + 1]? = some (.cells bP aj) := (m9.block _ GR (λ h => by rcases h with h | h <;> omega)).trans ((H4.2.2.2.1.block _ GR).trans ((X1.1.block _ (aa aD.r7)).trans aD.r7));have LD : Hid (∀ w', (∃ y : Wd (Moves (λ k => k = w.heap.size + 1 + 1) w9), w' = y.world) -> (Instr.loadAt aj (.pointer (some g17))).run prog w' = .ok (.agg E3) w') := by
  rintro w' ⟨y, rfl⟩;exact fK ((y.ok.block _ (aa R17) GR).trans R17) Hw rfl Ni
 have H9 := hd5 m9 x9 z0s yU R7;have ne : Nonempty (Wd (Moves (λ k => k = w.heap.size + 1 + 1) w9)) := ⟨⟨_, Moves.refl _ _⟩⟩;clear m9 o9 x9 z0s hF9 yU R17 R7 OC s0 z1 z4 z2 z3 z34 x5u lx1 n1 n2;refine bC (λ w' => ∃ x : Wd (Moves (λ k => k = w.heap.size + 1 + 1) w9), w' = x.world) [] GQ ?_;refine aI [0, 1, 2] 15 _ ⟨⟨_, (Moves.of_below GY.drew)⟩, rfl⟩ GQ ?_;simp only [fmc, fmn, gta, gcs, gcz];refine ak (λ K hK => ?_); simp only [au, ah]; go_simp; refine hK _ ?_; clear hK K;refine dX rfl aj (.tmp 17) rfl _ LD.out ?_;repeat refine G8 ?_
 refine aA ?_;refine az 3 14 _ _ rfl GQ ?_;refine IE rfl λ K hK => ?_;go_simp;go_at_call 12;refine (iX _ _).mono ?_;rintro en w' ⟨rfl, rfl⟩;refine hK _ _ (IB ⟨rfl, λ _ => ⟨⟨_, (Moves.of_below GY.drew)⟩, rfl⟩, ?_⟩);clear hK K;refine aI [4, 5, 6, 8] 10 _ ⟨⟨_, (Moves.of_below GY.drew)⟩, rfl⟩ GQ ?_;refine G9 ?_;refine az 7 9 _ _ rfl GQ ?_;refine Js λ K hK => ?_;go_simp;go_at_call 12;refine (iX _ _).mono ?_;rintro en w' ⟨rfl, rfl⟩;refine hK _ _ (IB ⟨rfl, λ _ => ⟨⟨_, (Moves.of_below GY.drew)⟩, rfl⟩, ?_⟩);clear hK K;refine aI [9, 10, 11, 12, 13, 14, 15] 2 _ ⟨⟨_, (Moves.of_below GY.drew)⟩, rfl⟩ GQ ?_;refine G9 ?_;refine az 16 1 _ _ rfl GQ ?_;refine aC rfl aj _ _ rfl (w.heap.size + 1 + 1) E3 rfl rfl aj bP H9.2.2.2.2 Ni (by rw [H4.2.2.2.2.2.1]; rfl) H4.2.2.2.2.2.2.1 ?_;intro W9 bM aR eX;have qU : Moves (λ k => k = w.heap.size + 1 + 1) w9 W9 := ⟨aR.os, aR.tape, aR.output, aR.size, aR.block⟩;refine IB ⟨rfl, λ _ => ⟨⟨_, qU⟩, rfl⟩, ?_⟩;refine aI [17] 0 _ ⟨⟨_, qU⟩, rfl⟩ GQ ?_;refine G9 ?_;refine ⟨GQ, ?_⟩;go_wp2;refine IK (vI rfl _ _ (w.heap.size + 1 + 1) _ _ _ _ _ _ rfl rfl rfl bM.out Hw rfl Ni) rfl ?_;obtain ⟨b2, b3, jo, b14, r17, _, _, BX, x4⟩ := H4.out;obtain ⟨m9, x9, z0s, yU, R7⟩ := H9.out;obtain ⟨b1, n1, n2, x1, hF1⟩ := X1.out;have aR : Moves (λ k => k = w.heap.size + 1 + 1) w9 W9 := ⟨aR.os, aR.tape, aR.output, aR.size, aR.block⟩;have s0 := aD.size;have z1 := b1.size;have z2 := b2.size;have z3 := b3.size;have z34 := jo.size;have z9 := m9.size;have lx1 := x1.lt;have bw4 : Below w w W4 := aD.below.trans ((b1.trans (b14.mono b1.size)).mono aD.below.size)
 have bw9 : Below w w W9 := Moves.new (mE bw4 m9 (λ k hk => by rcases hk with h | h <;> omega)) aR GR;have yP := HR.out;subst yP;refine ⟨pl9, p', m', F9, .agg E3, rfl, Moves.of_below bw9, lZ x9 aR GR GR GR (λ k hk h => ?_) (λ k hk _ => ?_), F3.keeps (λ k hk hl => ?_) (λ k hk hl => ?_), Iz ⟨GR, GR, GR⟩, λ k hk => ?_⟩
 ·rcases yU k hk with q | q
  ·rcases hF1 k q.1 with q' | q'
   ·have := q'.1.2; omega
   ·have : W0.drew.heap.size = W0.heap.size := rfl
    omega
  ·omega
 ·subst hk
  exact ⟨_, _, _, R7⟩
 ·have hap : k ≠ p' /\ k ≠ m' /\ k ≠ w.heap.size + 1 + 1 := by
   rcases hk with (q | q) | q
   ·have := q.2; exact ⟨GR, GR, GR⟩
   ·exact Rb
   ·exact Rb
  exact (aR.block k GR hap.2.2).trans ((m9.block k GR (λ h => by rcases h with h | h; exact hap.1 h; exact hap.2.1 h)).trans (jo.block k hl))
 ·rcases hk with (q | q) | q
  ·have := q.2; exact ⟨⟨GR, GR, GR⟩, Iy ⟨q.1.2, q.2⟩⟩
  ·exact ⟨⟨GR, GR, GR⟩, Iz GR⟩
  ·exact ⟨⟨GR, GR, GR⟩, Iz GR⟩
 ·have : W0.drew.heap.size = W0.heap.size := rfl
  rcases yU k hk with q | q
  ·rcases hF1 k q.1 with q' | q'
   ·exact Iy q'.1
   ·exact Iz GR
  ·exact Iz GR
end
open Go.RowKit Dm
theorem x3m {v1 v2 : Value} {one two : List UInt8} (hv1 : BytesIn w.heap (λ _ => True) v1 one) (hv2 : BytesIn w.heap (λ _ => True) v2 two) (h1 : one.length <= 4000) (h2 : two.length <= 4000) (stop : Int) (hstop : stop <= 9223372036854775807) :
 Calls prog 29 #[v1, v2, .int .i64 stop] w (D5 w (nz one two (if 0 <= stop then stop else -1))) :=
 x3l h1 h2 stop hstop
  (λ _ _ _ _ _ hb x hw => z2z x 0 (hv1.below hb) (IP h1 GU) (IP hw GU))
  (λ _ _ _ _ _ hb x hw => z2z x 1 (hv2.below hb) (IP h2 GU) (IP hw GU))
  (λ _ _ _ _ hb hr ok hw => FK hr ok (IP hw GU) 0 (hv1.below hb) (IP h1 GU))
  (λ _ _ _ _ hb hr ok hw => FK hr ok (IP hw GU) 1 (hv2.below hb) (IP h2 GU))
end Go.Proofs.YtgffifleflkjoaaGreat
