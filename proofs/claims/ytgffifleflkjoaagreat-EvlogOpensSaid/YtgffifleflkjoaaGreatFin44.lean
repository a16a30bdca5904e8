/-
  Parts of a proof.
-/
import Derived.Test.YtgffifleflkjoaaGreatFin40
import Derived.Test.YtgffifleflkjoaaGreatFin41
set_option linter.unusedSimpArgs false
set_option linter.unusedVariables false
set_option maxRecDepth 100000
set_option maxHeartbeats 16000000
namespace Go.Proofs.YtgffifleflkjoaaGreat
open _root_.Go.Proofs.Tryz
variable {w W w' w0 wr w1 W0 W1 W2 A B : World} {F G F' O : Nat → Prop} {v : Value} {l : List UInt8} {n q m pd md pl g p : Nat} {C : Array Value} {c : Int}
section
open Go.RowKit Dm
attribute [local go_sem] Oper.semAt_some
theorem x8y {e : Em.E} {l : List Em.ay} (h : Em.aW e.rows l = 0) (hg : e.gone = false) (hq : (32 <= e.aL \/ (Em.aY l).length = 0 \/ e.d.room / 2 < e.fin + (Em.aY l).length) \/ Em.wrote e.d e.tp (Em.aY l) = (e.d, 280)) (hm : 2147483647 <= e.gen) : e.bE l = (e, 280) := by
 rw [z1i h hg, z4p hq, Em.ww hm];obtain ⟨tp, gen, rows, aL, fin, d, gone⟩ := e;have hg : gone = false := hg;subst hg;rfl
theorem yh {g9 g10 : Nat} {T E : Array Value} {e : Em.E} {rv : Value} {R : Em.bB} {d : D} (h : iI w W F g9 g10 T E C e rv R d) (hf : Fit e) :
 Calls prog 93 #[.agg E, .agg C] W λ en w' => ∃ v, en = .returned (.tuple #[v, .int .i64 281]) /\ Below W W w' /\ dW w' (λ k => nO F w (g10 + 1) k \/ W.heap.size <= k) v { e with d := d, gone := true } :=
 y9y (F := nO F w (g10 + 1)) (h.log.keeps (λ _ _ _ => rfl) (λ k hk _ => Iy hk)) hf h.ref
theorem y9o {d d1 : D} {o : Nat} (b : List UInt8) (h : Em.b_ d o = (d1, 0)) : Em.bK d o b = Em.next (d1.append (o : Nat) b) D.sync := by
 unfold Em.bK;rw [h];rfl
theorem y5o (a0 a1 a2 a3 : Option Addr) (n0 n1 n2 n3 c0 c1 c2 c3 : Nat) {t : Nat} {oi : Int} (ht : t <= 1) (ho : oi = ((1 - t : Nat) : Int)) : ∃ ax nx cx,
 (∀ W : World, (Instr.index 58 (.agg #[.slice a0 n0 c0, .slice a1 n1 c1, .slice a2 n2 c2, .slice a3 n3 c3]) (.int .i64 oi)).run prog W = .ok (.slice ax nx cx) W) /\ (t = 0 -> nx = n1) /\ (t = 1 -> nx = n0) := by
 subst ho;rcases Nat.le_one_iff_eq_zero_or_eq_one.1 ht with rfl | rfl
 ·exact ⟨a1, n1, c1, λ W => z3g a0 a1 a2 a3 n0 n1 n2 n3 c0 c1 c2 c3 W, λ _ => rfl, λ h => Od⟩
 ·exact ⟨a0, n0, c0, λ W => z3f a0 a1 a2 a3 n0 n1 n2 n3 c0 c1 c2 c3 W, λ h => Od, λ _ => rfl⟩
theorem x0r {lv : Value} {e : Em.E} {l : List Em.ay} (hr : dW w F v e) (hf : Fit e) (hc : dJ w G lv l) (hl : l.length <= 1000) (hk : ∀ c ∈ l, c.key.length <= 1000 /\ c.value.length <= 5000) :
 Calls prog 54 #[v, lv] w (uP w F (e.bE l)) := by
 have hr' := hr.clip;obtain ⟨C, ra, rn, rc, rfl, hC, gH, fF, _⟩ := hr;obtain ⟨la, lc, rfl⟩ := hc.slice;obtain ⟨E, hE⟩ := G5 (bQ C e.gone (.slice ra rn rc) (dG e));have jU : E.size = 13 := by rw [<-hE]; exact aV hC _ _ _
 have yX : E.all (·.oneCell') = true := by rw [<-hE]; exact d_ gH _ _ _ _ _
 have yY : E[10]? = some (.bool e.gone) := by rw [<-hE]; exact (vU hC _ _ _).1
 have hE1 : E[1]? = some (.int .i64 e.d.room) := by
  rw [<-hE, z8p _ _ _ GR];obtain ⟨sv, t0, t1, t2, t3, wv, e1, _, _⟩ := fF;cases e1;rfl
 rw [hE] at hr' ⊢;obtain ⟨W0, hW0⟩ := G5 ((w.alloc (.cells E aj)).alloc (.cells bP aj));have B0 : Below w w W0 := by rw [<-hW0]; exact (bla).alloc GV _
 have r2 : W0.heap[w.heap.size]? = some (.cells E aj) := by rw [<-hW0]; exact aM GV (IC w _)
 have r4 : W0.heap[w.heap.size + 1]? = some (.cells bP aj) := by rw [<-hW0]; exact bD (w := w.alloc _) _ GV
 have s0 : W0.heap.size = w.heap.size + 2 := by rw [<-hW0]; simp
 have TC := hd1 (E8 (hr'.later B0) hf);have HB := hd4 B0 r2 r4 s0;have HE := hd5 jU yX yY hE1 hE;have HF := hd1 hf;have HL := hd7 hr' hC gH fF hc hl hk;have HW := hd1 hW0;have TL : (Em.tell e.rows).length <= 256 := by rw [Em.oW]; exact hf.gF.good.few
 have HT := hd2 TL (Em.Bn hf.gF.good.rows hf.gF.tidy l);clear B0 r2 r4 s0 hW0 jU yX yY hE1 hE hf hr' hC gH fF hc hk TL;generalize hln : l.length = ln at *;have HLN := hd1 hln;clear hln hl;go_in;go_upto_region 1 with fail
 rw [show ((w.alloc (.cells E aj)).alloc (.cells #[.int .i64 0, .int .i64 0, (), (), (), (), (), (), false, .int .i64 0, false, (), .int .i64 0] aj)) = W0 from HW.out];by_cases hd : Em.aW e.rows l = 0
 ·have AC : Hid (∀ (W : World) (F1 : Nat -> Prop) (u : Value), dx W F1 u (Em.tell e.rows) -> Below w w W -> Calls prog 14 #[u, .slice la ln lc] W λ en w' => ∃ a n c, en = .returned (.tuple #[.slice a n c, .int .i64 0]) /\ dx w' (λ b => F1 b \/ W.heap.size <= b) (.slice a n c) (Em.tell (Em.behind e.rows l)) /\ Below W W w') := hd1 (λ W F1 u hu hb => by
   have := FO hu (Hf HT.1) (HL.2.2.2.2.1.later hb) (Hg HL.2.2.2.2.2.1 HLN.out);rw [HT.2, IA hd] at this;refine this.mono ?_;rintro en w' ⟨v', rfl, p, b⟩;obtain ⟨a, c, rfl⟩ := p.slice;exact ⟨a, _, c, rfl, p, b⟩)
  have HD := hd1 hd;clear hd
  go_upto_region 2 with (first
   | (refine G_ HB.2.1 Hw N7 ?_)
   | (go_at_call 57; refine TC.mono ?_; rintro en w1 ⟨b1, xa, xn, xc, rfl, p1⟩)
   | (go_at_call 14; refine (AC.out _ _ _ p1 (HB.1.trans (b1.mono HB.1.size))).mono ?_; rintro en w2 ⟨ya, yn, yc, rfl, p2, b2⟩))
  have B2 := hd1 (show Below W0 W0 w2 from b1.trans (b2.mono b1.size));have P2 := hd1 (show dx w2 (λ b => b ≠ w.heap.size /\ b ≠ w.heap.size + 1) (.slice ya yn yc) (Em.tell (Em.behind e.rows l)) from p2.weak (λ b hb _ => by have := HB.2.2.2; have := b1.size; rcases hb with (hb | hb) | hb <;> omega));clear b1 b2 p1 p2 TC AC;have R2 := hd1 ((B2.block _ (aa HB.2.1)).trans HB.2.1);have R4 := hd1 ((B2.block _ (aa HB.2.2.1)).trans HB.2.2.1);have oQ := hd1 (HB.1.trans (B2.mono HB.1.size));have k10 := ae R2.out HE.2.2.1;cases hg : e.gone with
  | true =>
   rw [hg] at k10;have HCM := hd1 (x7h HD.out hg);clear hg
   repeat (first
    | (go_big_may; (first
     | (refine G_ R2.out Hw N7 ?_)
     | (refine aC rfl aj _ _ rfl (w.heap.size + 1) _ rfl rfl aj bP R4.out N7 (by rw [HE.1]; rfl) HE.2.1 ?_; intro W9 bM aR eX)))
    | go_values | go_skip | go_guarded | go_step | go_upon | (simp only [I9, I_] at *; go_simp) | (go_values <;> (try go_simp)) | (go_ite <;> go_prune <;> (try go_simp)) | (split <;> (first | (rename_i hx; exact (hx _ rfl).elim) | go_prune)))
   refine IK (results_cell_tmp rfl _ _ (w.heap.size + 1) _ _ _ _ (.int .i64 290) GQ GQ bM.out Hw rfl N7) rfl ?_;exact RP
  | false =>
   rw [hg] at k10;have hlive := HF.live hg;obtain ⟨D1, hbt, _, yN, hlen⟩ := hlive;have WC : Hid (∀ W : World, Below W0 W0 W -> Calls prog 48 #[.agg C] W λ en w' => Below W W w' /\ ∃ a n c, en = .returned (.tuple #[.int .i64 (e.tp : Int), .agg #[.int .i64 (e.gen : Int), .slice a n c, .int .i64 (e.aL : Int), .int .i64 (e.fin : Int)]])) := hd1 (λ W hb => by
    have b0 := HB.1.trans (hb.mono HB.1.size);refine (Er (w := W) (HL.2.2.2.1.keeps (λ k _ hl => b0.block k hl) (λ _ h _ => h)) HF.ok HF.bound (λ k _ => HF.tapes k)).mono ?_;rintro en w' ⟨h1, v1, rfl, a, n, c, rfl, _⟩;rw [hbt];refine ⟨h1, a, n, c, ?_⟩;have : lV (e.tp, (⟨e.gen, D1, e.aL, e.fin⟩ : Em.T)) = (e.tp : Int) := by unfold lV; exact Iw yN
    rw [this])
   have HG := hd3 hg yN hlen;have DK : Hid (w2.heap[w.heap.size]? = some (.cells (bQ C e.gone (.slice ra rn rc) (dG e)) aj (0, 0))) := hd1 (by rw [HE.2.2.2.2]; exact R2.out);clear hbt hg yN hlen
   go_upto_region 7 with (first
    | (refine uW rfl (.tmp 27) rfl w.heap.size rfl DK.out HL.2.1 ?_)
    | (go_at_call 48; refine (WC.out _ B2.out).mono ?_; rintro en w3 ⟨b3, xa', xn', xc', rfl⟩))
   obtain ⟨T, hT⟩ : ∃ T : Array Value, #[.int .i64 (e.gen : Int), .slice xa' xn' xc', .int .i64 (e.aL : Int), .int .i64 (e.fin : Int)] = T := ⟨_, rfl⟩;obtain ⟨W4, fq⟩ := G5 (w3.alloc (.cells #[(e.gen : Int), .slice xa' xn' xc', (e.aL : Int), (e.fin : Int)] aS));rw [fq];obtain ⟨g9, yO⟩ := G5 w3.heap.size;rw [yO];have B4 : Below w2 w2 W4 := by rw [<-fq]; exact b3.alloc b3.size _
   have R9 : W4.heap[g9]? = some (.cells T aS) := by rw [<-fq, <-hT]; exact bD _ yO.symm
   have S4 : W4.heap.size = g9 + 1 := by rw [<-fq, <-yO]; simp
   have N9 : w2.heap.size <= g9 := by rw [<-yO]; exact b3.size
   have K := hd1 (show T[0]? = some (.int .i64 (e.gen : Int)) /\ T[2]? = some (.int .i64 (e.aL : Int)) /\ T[3]? = some (.int .i64 (e.fin : Int)) by rw [<-hT]; exact ⟨rfl, rfl, rfl⟩);have y2o : Hid (W4.heap[w.heap.size]? = some (.cells (bQ C e.gone (.slice ra rn rc) (dG e)) aj (0, 0))) := hd1 ((B4.block _ (aa DK.out)).trans DK.out);have nS := hd4 B4 R9 S4 N9;clear b3 hT fq yO B4 R9 S4 N9 WC k10
   go_upto_region 8 with (first
    | (refine uW rfl (.tmp 32) rfl w.heap.size rfl y2o.out HL.2.1 ?_)
    | (refine aC rfl af _ _ rfl W4.heap.size C rfl rfl af bV (IC W4 _) (by rw [aH, HL.2.1]) (by rw [HL.2.1]; rfl) HL.2.2.1 ?_; intro W5 aF aB bf))
   obtain ⟨g10, mg⟩ := G5 W4.heap.size;have S8 : iI w W5 F g9 g10 T E C e (.slice ya yn yc) (Em.tell (Em.behind e.rows l)) e.d := by
    have qh : Below W4 W4 W5 := Moves.new (bla) aB GZ;have uo : Below w2 w2 W5 := nS.1.trans (qh.mono nS.1.size);have nH : Below w w W5 := oQ.trans (uo.mono oQ.size);have n9 := nS.2.2.2;have s4 := nS.2.2.1;have s2 := B2.size;have s0 := HB.2.2.2;refine ⟨nH, (uo.block _ (aa R2.out)).trans R2.out, (uo.block _ (aa R4.out)).trans R4.out, (qh.block _ (aa nS.2.1)).trans nS.2.1, by rw [<-mg]; exact aF.out, HL.1.later nH, ?_, ?_, ⟨GR, GR⟩, HL.2.1, HL.2.2.1, HF.ok⟩
    ·exact (P2.weak (λ b hb hl => ⟨hb.1, hb.2, GR, GR⟩)).later uo
    ·exact HL.2.2.2.1.keeps (λ k _ hl => nH.block k hl) (λ k h hl => Iy ⟨h, hl⟩)
   rw [mg];replace S8 := hd1 S8;clear aF aB bf mg nS DK y2o P2 R2 R4 B2;have BR := (Em.jV HD.out).1;have BL := Em.y1h BR;have BC := hd1 (λ (W : World) (hb : Below w w W) => x0g (w := W) (HL.2.2.2.2.1.later hb) (by rw [HLN.out]; exact HL.2.2.2.2.2.1) HL.2.2.2.2.2.2);obtain ⟨BB, hBB⟩ := G5 (Em.dQ l);rw [hBB] at BL BC;have xy := hd2 hBB BL;clear BR BL hBB
   go_upto_region 9 with (first
    | (go_at_call 92; refine (BC.out _ S8.below).mono ?_; rintro en w6 ⟨bv, rfl, o6, b6⟩; obtain ⟨ba, bc, rfl⟩ := o6.at.slice)
    | (go_at_call 88; refine (Fj o6.at (IP xy.2 GU)).mono ?_; rintro en w7 ⟨fv, rfl, o7, b7⟩; obtain ⟨fa, fc, rfl⟩ := o7.at.slice))
   have S9 := hd1 (S8.later (b6.trans (b7.mono b6.size)));have Y9 := hd1 (show BytesAt w7.heap (λ _ => True) (.slice fa (Wm.frame BB).length fc) (Wm.frame BB) from o7.at.keeps (λ _ _ _ => rfl) (λ _ _ _ => trivial));clear b6 b7 o6 o7 S8;have BT : Em.aY l = Em.fT BB := by rw [<-xy.1]; rfl
   have zS := hd1 BT;clear BT;obtain ⟨FL, Ck⟩ := G5 ((Wm.frame BB).length);rw [Ck] at Y9 ⊢;have jd := hd2 Ck (show FL <= 400000 by rw [<-Ck]; have := Cx BB; have := xy.2; omega);clear Ck;obtain ⟨bl, hbl⟩ := G5 BB.length;have rR := hd1 hbl;clear hbl;have qy : Hid (∀ q : Prop, q ↔ q) := hd1 (λ _ => Iff.rfl);obtain ⟨bb, hbb⟩ : ∃ bb : Bool, bb = decide (e.aL < 32 /\ bl <= 8192 /\ (e.fin : Int) + (FL : Int) <= e.d.room / 2) := ⟨_, rfl⟩;have uN := hd1 hbb;clear hbb qy;go_cut [57] (λ s57 wx => s57 = .bool bb /\ iI w wx F g9 g10 T E C e (.slice ya yn yc) (Em.tell (Em.behind e.rows l)) e.d /\ BytesAt wx.heap (λ _ => True) (.slice fa FL fc) (Wm.frame BB))
   case first =>
    have k92 := ae S9.r9 K.2.1;have k93 := ae S9.r9 K.2.2;have kr := ae S9.r2 HE.2.2.2.1;have hr0 := HF.ok.pz;have hr1 := HF.room;have hfl := jd.2;have w2y := HF.gF.good.aL;have hfin := HF.gF.good.fin;have ew : IntKind.i64.wrap ((e.fin : Int) + (FL : Int)) = (e.fin : Int) + (FL : Int) := Ja _ GR;have g5 : (e.d.room).tdiv 2 = e.d.room / 2 := L8 hr0;have g6 : IntKind.i64.wrap (e.d.room / 2) = e.d.room / 2 := Ja _ GR;by_cases h1 : e.aL < 32
    ·have h1' : (e.aL : Int) < 32 := GR
     by_cases h2 : bl <= 8192
     ·have h2' : (bl : Int) <= 8192 := GR
      by_cases h3 : (e.fin : Int) + (FL : Int) <= e.d.room / 2
      ·have hb : bb = true := by rw [uN.out]; simp [h1, h2, h3]
       exact Pn
      ·have hb : bb = false := by rw [uN.out]; simp [h3]
       subst hb;go_wp2_with (go_at_call 92; refine (BC.out _ S9.below).mono ?_; rintro en Et ⟨wN, rfl, qQ, b10⟩; obtain ⟨ba2, bc2, rfl⟩ := qQ.at.slice; rw [rR.out]; have z8a := aN b10 k93; have kr' := aN b10 kr; clear qQ)
       go_meet
       case rel => exact ⟨IG Value.bool (JV GR), S9.later b10, Y9.below b10⟩
     ·have h2' : ¬ (bl : Int) <= 8192 := GR
      have hb : bb = false := by rw [uN.out]; simp [h2]
      exact Pn
    ·have hb : bb = false := by rw [uN.out]; simp [h1]
     subst hb;have h1' : ¬ (e.aL : Int) < 32 := GR;go_wp2;go_meet
     case rel => exact ⟨rfl, S9.out, Y9.out⟩
   case rest =>
    obtain ⟨rfl, fJ, Dv⟩ := hcut;replace fJ := hd1 fJ;replace Dv := hd1 Dv;clear S9 Y9 BC;go_upto_if 57 with fail
    go_cut [] (λ wx => iI w wx F g9 g10 T E C e (.slice ya yn yc) (Em.tell (Em.behind e.rows l)) e.d /\ (bb = false \/ Em.wrote e.d e.tp (Em.aY l) = (e.d, 280)))
    case first =>
     cases bb with
     | false =>
      go_wp2;go_meet
      case rel => exact ⟨fJ.out, Iy (by trivial)⟩
     | true =>
      obtain ⟨h1, h2, h3⟩ : e.aL < 32 /\ bl <= 8192 /\ (e.fin : Int) + (FL : Int) <= e.d.room / 2 := of_decide_eq_true uN.symm;have DW := hd1 (show Em.aY l = Wm.frame BB by rw [zS.out]; exact Em.tT Nq);have hpos : 0 < FL := by
       have := (Em.Cw (b := BB) Nq).2;rw [Em.tT Nq, jd.1] at this;exact this
      have HQ := hd1 (show ¬ (32 <= e.aL \/ (Em.aY l).length = 0 \/ e.d.room / 2 < e.fin + (Em.aY l).length) by rw [DW.out, jd.1]; omega);have lL := hd2 HF.gF.good.tp (HF.gF.sound HG.1).dead;have HA := Dr lL.2 lL.1 (Wm.frame BB);have AC := FM fJ.ref fJ.ok (IP HF.waits GU) (e.tp : Int) Dv.out (by have h := jd.out; rw [h.1]; omega);have iG := wG (t := (e.tp : Int)) fJ.ok (Hf lL.1) (Hf lL.1) (Wm.frame BB);have W2 := Em.qc e.d (e.tp : Int) (Wm.frame BB);obtain ⟨r2, hr2⟩ := G5 (e.d.append (e.tp : Int) (Wm.frame BB));rw [hr2] at AC iG W2 HA;obtain ⟨d2, e2⟩ := r2;have HR2 := hd1 hr2;replace AC := hd1 AC;replace iG := hd1 iG;replace W2 := hd1 W2;replace HA := hd1 HA;clear hr2 h1 h2 h3 hpos
      go_upto_region 11 with (first
       | (refine G_ fJ.eQ Hu (by rw [aH, fJ.size]) ?_)
       | (go_at_call 51; refine AC.mono ?_; rintro en w11 ⟨v11, rfl, b11, f11⟩; obtain ⟨C11, rfl, _, _⟩ := f11.cells)
       | (refine aC rfl af _ _ rfl g10 _ rfl rfl af _ ((b11.block _ (aa fJ.eQ)).trans fJ.eQ) (by obtain ⟨_, e, h1, _⟩ := f11.cells; cases e; rw [aH, h1]) (by obtain ⟨_, e, h1, _⟩ := f11.cells; cases e; rw [h1, fJ.size]) (by obtain ⟨_, e, _, h2⟩ := f11.cells; cases e; exact h2) ?_; intro W11 y2h y2c w1n))
      have dV := hd1 (fJ.call b11 GY f11 y2c y2h.out iG.out);clear b11 f11 y2h y2c w1n AC;rcases HA.out with hA | ⟨s, hA⟩ | ⟨s, hA⟩
      ·have q1 : d2 = e.d := IG Prod.fst hA
       have q2 : e2 = 280 := IG Prod.snd hA;clear hA HA;subst q2;replace dV := hd1 (show iI w W11 F g9 g10 T E C11 e (.slice ya yn yc) (Em.tell (Em.behind e.rows l)) e.d by rw [<-q1]; exact dV.out);have iq := hd1 (show Em.wrote e.d e.tp (Em.aY l) = (e.d, 280) by rw [DW.out]; unfold Em.wrote Em.next; rw [HR2.out, q1]; exact Iw (show ¬ (280 : Int) = 0 by decide));have RL := hd1 (show W11.heap[w.heap.size]? = some (.cells (bQ C e.gone (.slice ra rn rc) (dG e)) aj (0, 0)) by rw [HE.2.2.2.2]; exact dV.r2);clear q1
       go_wp2_with (first
        | (refine uW rfl (.tmp 83) rfl w.heap.size rfl RL.out HL.2.1 ?_)
        | (refine aC rfl af _ _ rfl g10 _ rfl rfl af _ dV.eQ (by rw [aH, HL.2.1]) (by rw [HL.2.1, dV.size]) HL.2.2.1 ?_; intro wQ uF uK DX))
       go_meet
       case rel => exact ⟨dV.call GY GY (HL.2.2.2.1.keeps (λ k _ hl => dV.below.block k hl) (λ k h hl => Iy (Iy ⟨h, hl⟩))) uK uF.out HF.ok, Iz iq.out⟩
      ·have q2 : e2 = 0 := IG Prod.snd hA
       have q3 : d2.dead = false := by rw [show d2 = _ from IG Prod.fst hA]; exact lL.2
       clear hA HA;subst q2;have SC := sD dV.ref dV.ok (by have := HF.waits; have h : d2.waits.length <= e.d.waits.length + 1 := W2.out; omega);have gy := t_ dV.ok;have HB3 := xS q3;have iq : Em.wrote e.d e.tp (Em.aY l) = d2.sync := by rw [DW.out]; unfold Em.wrote Em.next; rw [HR2.out]; exact IA rfl
       obtain ⟨r3, hr3⟩ := G5 d2.sync;rw [hr3] at SC gy HB3 iq;obtain ⟨d3, e3⟩ := r3;replace SC := hd1 SC;replace gy := hd1 gy;replace iq := hd1 iq;replace HB3 := hd1 (show e3 = 0 \/ e3 = 281 by rcases HB3 with ⟨s', h⟩ | ⟨s', h⟩; exact Iy (IG Prod.snd h); exact Iz (IG Prod.snd h));clear hr3 q3
       go_upto_region 13 with (first
        | (refine G_ dV.eQ Hu (by rw [aH, dV.size]) ?_)
        | (go_at_call 53; refine SC.mono ?_; rintro en w12 ⟨v12, rfl, b12, f12⟩; obtain ⟨D_, rfl, _, _⟩ := f12.cells)
        | (refine aC rfl af _ _ rfl g10 _ rfl rfl af _ ((b12.block _ (aa dV.eQ)).trans dV.eQ) (by obtain ⟨_, e, h1, _⟩ := f12.cells; cases e; rw [aH, h1]) (by obtain ⟨_, e, h1, _⟩ := f12.cells; cases e; rw [h1, dV.size]) (by obtain ⟨_, e, _, h2⟩ := f12.cells; cases e; exact h2) ?_; intro wQ uF uK DX))
       have fI := hd1 (dV.call b12 GY f12 uK uF.out gy.out);clear b12 f12 uF uK DX SC dV;rcases HB3.out with q | q
       ·clear HB3
        subst q
        repeat (first
         | (go_big_may; (first
          | (refine G_ fI.eQ Hu (by rw [aH, fI.size]) ?_)
          | (refine iT rfl aj _ rfl _ (by simp only [Jo, Jj, Jm, Act.eval]; exact jI fI.ref) ?_)
          | (refine aC rfl aj _ _ rfl (w.heap.size + 1) _ rfl rfl aj bP fI.r4 (by rw [aX, aV fI.size]) (by rw [aV fI.size]; rfl) (d_ fI.ones _ _ _ _ _) ?_; intro W9 bM aR eX)))
         | go_values | go_skip | go_guarded | go_step | go_upon | (simp only [I9, I_] at *; go_simp) | (go_values <;> (try go_simp)) | (go_ite <;> go_prune <;> (try go_simp)) | (split <;> (first | (rename_i hx; exact (hx _ rfl).elim) | go_prune)))
        refine IK (results_cell_tmp rfl _ _ (w.heap.size + 1) _ _ _ _ (.int .i64 0) GQ GQ bM.out Hw rfl (by rw [aX, aV fI.size])) rfl ?_;exact fI.give aR (Gs HD.out HG.1 HQ.out iq.out (Iy rfl))
       ·clear HB3
        subst q
        repeat (first
         | (go_big_may; (first
          | (refine G_ fI.r2 Hw N7 ?_)
          | (refine G_ fI.eQ Hu (by rw [aH, fI.size]) ?_)
          | (go_at_call 93; refine (yh fI.out HF.out).mono ?_; rintro en wg ⟨vg, rfl, bg, lg⟩; obtain ⟨Cg, ga, gn, gc, rfl, iN, pR, rest⟩ := id lg; have LG := hd1 lg; clear lg rest)
          | (refine aC rfl aj _ _ rfl (w.heap.size + 1) _ rfl rfl aj bP ((bg.block _ (aa fI.r4)).trans fI.r4) NT NH (d_ pR _ _ _ _ _) ?_; intro W9 bM aR eX)))
         | go_values | go_skip | go_guarded | go_step | go_upon | (simp only [I9, I_] at *; go_simp) | (go_values <;> (try go_simp)) | (go_ite <;> go_prune <;> (try go_simp)) | (split <;> (first | (rename_i hx; exact (hx _ rfl).elim) | go_prune)))
        refine IK (results_cell_tmp rfl _ _ (w.heap.size + 1) _ _ _ _ (.int .i64 281) GQ GQ bM.out Hw rfl NT) rfl ?_;exact fI.lost bg LG.out aR (Gs HD.out HG.1 HQ.out iq.out (Iz rfl)) rfl
      ·have q2 : e2 = 281 := IG Prod.snd hA
       clear hA HA;subst q2;have iq := hd1 (show Em.wrote e.d e.tp (Em.aY l) = (d2, 281) by rw [DW.out]; unfold Em.wrote Em.next; rw [HR2.out]; exact Iw (show ¬ (281 : Int) = 0 by decide))
       repeat (first
        | (go_big_may; (first
         | (refine G_ dV.r2 Hw N7 ?_)
         | (refine G_ dV.eQ Hu (by rw [aH, dV.size]) ?_)
         | (go_at_call 93; refine (yh dV.out HF.out).mono ?_; rintro en wg ⟨vg, rfl, bg, lg⟩; obtain ⟨Cg, ga, gn, gc, rfl, iN, pR, rest⟩ := id lg; have LG := hd1 lg; clear lg rest)
         | (refine aC rfl aj _ _ rfl (w.heap.size + 1) _ rfl rfl aj bP ((bg.block _ (aa dV.r4)).trans dV.r4) NT NH (d_ pR _ _ _ _ _) ?_; intro W9 bM aR eX)))
        | go_values | go_skip | go_guarded | go_step | go_upon | (simp only [I9, I_] at *; go_simp) | (go_values <;> (try go_simp)) | (go_ite <;> go_prune <;> (try go_simp)) | (split <;> (first | (rename_i hx; exact (hx _ rfl).elim) | go_prune)))
       refine IK (results_cell_tmp rfl _ _ (w.heap.size + 1) _ _ _ _ (.int .i64 281) GQ GQ bM.out Hw rfl NT) rfl ?_;exact dV.lost bg LG.out aR (Gs HD.out HG.1 HQ.out iq.out (Iz rfl)) rfl
    case rest =>
     obtain ⟨lG, hq⟩ := hcut
     have HQ := hd1 (show (32 <= e.aL \/ (Em.aY l).length = 0 \/ e.d.room / 2 < e.fin + (Em.aY l).length) \/ Em.wrote e.d e.tp (Em.aY l) = (e.d, 280) by
      rcases hq with hq | hq
      ·have hb := of_decide_eq_false (uN.symm.trans hq)
       left
       rw [zS.out];by_cases h2 : bl <= 8192
       ·rw [Em.tT Nq, jd.1]
        omega
       ·refine Iz (Iy ?_)
        unfold Em.fT;rw [IA (by rw [rR.out]; omega)];rfl
      ·exact Iz hq)
     clear hq fJ Dv uN;have k90 := ae lG.r9 K.1;have hgm := HF.gF.good.gen;replace lG := hd1 lG;by_cases hm : 2147483647 <= e.gen
     ·have HCM := hd1 (x8y HD.out HG.1 HQ.out hm)
      have he : (e.gen : Int) = 2147483647 := GR;rw [he] at k90;clear hm he hgm
      repeat (first
       | (go_big_may; (first
        | (refine G_ lG.r2 Hw N7 ?_)
        | (refine aC rfl aj _ _ rfl (w.heap.size + 1) _ rfl rfl aj bP lG.r4 N7 (by rw [HE.1]; rfl) HE.2.1 ?_; intro W9 bM aR eX)))
       | go_values | go_skip | go_guarded | go_step | go_upon | (simp only [I9, I_] at *; go_simp) | (go_values <;> (try go_simp)) | (go_ite <;> go_prune <;> (try go_simp)) | (split <;> (first | (rename_i hx; exact (hx _ rfl).elim) | go_prune)))
      refine IK (results_cell_tmp rfl _ _ (w.heap.size + 1) _ _ _ _ (.int .i64 280) GQ GQ bM.out Hw rfl N7) rfl ?_;rw [HCM.out];exact iI.same lG.log lG.below aR rfl
     ·have HM := hd1 hm
      have hne : ¬ (e.gen : Int) = 2147483647 := GR;have lL := hd2 HF.gF.good.tp (HF.gF.sound HG.1).dead;obtain ⟨oi, hoi⟩ : ∃ oi : Int, oi = ((1 - e.tp : Nat) : Int) := ⟨_, rfl⟩;have hw1 : IntKind.i64.wrap (1 - (e.tp : Int)) = oi := by rw [Ja _ (Hf lL.1), hoi]; have := lL.1; omega
      have qp := hd2 hoi (show 0 <= oi /\ oi <= 3 by omega);have ST := hd1 (qI lG.ref lG.ok (IP HF.waits GU));have wm := y1n;have w1c : ((e.gen : Int) == 2147483647) = false := by simp [hne]
      clear hm hoi hgm
      go_upto_if 96 with (first
       | (refine G_ lG.eQ Hu (by rw [aH, lG.size]) ?_)
       | (go_at_call 49; refine ST.mono ?_; rintro en w20 ⟨sv, u0, u1, u2, u3, rfl, b20, x0f⟩
          obtain ⟨secs, _, _, y0, y1, y2, y3⟩ := x0f;obtain ⟨a0, c0, rfl⟩ := y0.slice;obtain ⟨a1, c1, rfl⟩ := y1.slice;obtain ⟨a2, c2, rfl⟩ := y2.slice;obtain ⟨a3, c3, rfl⟩ := y3.slice;obtain ⟨ax, nx, cx, hix, hnx⟩ := y5o a0 a1 a2 a3 (e.d.stand.tp 0).length (e.d.stand.tp 1).length (e.d.stand.tp 2).length (e.d.stand.tp 3).length c0 c1 c2 c3 lL.1 qp.1;have zN := hd1 hnx;clear hnx y0 y1 y2 y3))
      have mF := hd1 (lG.later b20);clear b20 lG ST hix wm;have hnx : nx = (e.d.stand.tp (1 - e.tp : Nat)).length := by
       have h := zN.out;rcases Nat.le_one_iff_eq_zero_or_eq_one.1 lL.1 with q | q
       ·rw [h.1 q, q]; rfl
       ·rw [h.2 q, q]; rfl
      have zN := hd1 hnx;clear hnx;go_cut [] (λ wx => ∃ (C1 : Array Value) (d1 : D), Em.b_ e.d (1 - e.tp) = (d1, 0) /\ d1.dead = false /\ d1.waits.length <= e.d.waits.length + 1 /\ iI w wx F g9 g10 T E C1 e (.slice ya yn yc) (Em.tell (Em.behind e.rows l)) d1)
      case first =>
       by_cases hz : nx = 0
       ·have hz1 : ¬ (0 : Int) < (nx : Int) := GR
        have uM := hd1 (show Em.b_ e.d (1 - e.tp) = (e.d, 0) by unfold Em.b_; rw [IA (by rw [<-zN.out]; exact hz)]);clear hz;go_wp2;go_meet
        case rel => exact ⟨C, e.d, uM.out, lL.2, Nat.le_succ _, mF.out⟩
       ·have hz1 : (0 : Int) < (nx : Int) := GR
        have uM := hd1 (show Em.b_ e.d (1 - e.tp) = e.d.cut oi 0 by unfold Em.b_; rw [Iw (by rw [<-zN.out]; exact hz), qp.1]);have CC := Bh mF.ref mF.ok (IP HF.waits GU) oi 0;have ja := CZ (t := oi) (n := 0) mF.ok (Hf qp.2) (Hf qp.2);have W1 := Em.wF e.d oi 0;have HA := y0d lL.2 (t := 1 - e.tp) GR;rw [<-qp.1] at HA;obtain ⟨r1, hr1⟩ := G5 (e.d.cut oi 0);rw [hr1] at CC ja W1 HA;have HR1 := hd1 hr1;clear hr1 hz;obtain ⟨d1, e1⟩ := r1;replace CC := hd1 CC;replace ja := hd1 ja;replace W1 := hd1 W1;replace HA := hd1 HA
        go_upto_region 22 with (first
         | (refine G_ mF.eQ Hu (by rw [aH, mF.size]) ?_)
         | (go_at_call 50; refine CC.mono ?_; rintro en w21 ⟨v21, rfl, b21, f21⟩; obtain ⟨C21, rfl, _, _⟩ := f21.cells)
         | (refine aC rfl af _ _ rfl g10 _ rfl rfl af _ ((b21.block _ (aa mF.eQ)).trans mF.eQ) (by obtain ⟨_, e, h1, _⟩ := f21.cells; cases e; rw [aH, h1]) (by obtain ⟨_, e, h1, _⟩ := f21.cells; cases e; rw [h1, mF.size]) (by obtain ⟨_, e, _, h2⟩ := f21.cells; cases e; exact h2) ?_; intro W21 y2i y2d w1o))
        have rF := hd1 (mF.call b21 GY f21 y2d y2i.out ja.out);clear b21 f21 y2i y2d w1o mF CC;rcases HA.out with ⟨s, hA⟩ | ⟨s, hA⟩
        ·have q2 : e1 = 0 := IG Prod.snd hA
         have q3 : d1.dead = false := by rw [show d1 = _ from IG Prod.fst hA]; exact lL.2
         clear hA HA;subst q2;have HD1 := hd1 q3;clear q3;go_wp2;go_meet
         case rel => exact ⟨C21, d1, uM.trans HR1.out, HD1.out, W1.out, rF.out⟩
        ·have q2 : e1 = 281 := IG Prod.snd hA
         clear hA HA;subst q2
         have iq := hd1 (show Em.bK e.d (1 - e.tp) (Em.folded (e.gen + 1) (Em.behind e.rows l)) = (d1, 281) by
          unfold Em.bK;rw [uM.out, HR1.out];unfold Em.next;rw [Iw (show ¬ (281 : Int) = 0 by decide), Iw (show ¬ (281 : Int) = 0 by decide)])
         repeat (first
          | (go_big_may; (first
           | (refine G_ rF.r2 Hw N7 ?_)
           | (refine G_ rF.eQ Hu (by rw [aH, rF.size]) ?_)
           | (go_at_call 93; refine (yh rF.out HF.out).mono ?_; rintro en wg ⟨vg, rfl, bg, lg⟩; obtain ⟨Cg, ga, gn, gc, rfl, iN, pR, rest⟩ := id lg; have LG := hd1 lg; clear lg rest)
           | (refine aC rfl aj _ _ rfl (w.heap.size + 1) _ rfl rfl aj bP ((bg.block _ (aa rF.r4)).trans rF.r4) NT NH (d_ pR _ _ _ _ _) ?_; intro W9 bM aR eX)))
          | go_values | go_skip | go_guarded | go_step | go_upon | (simp only [I9, I_] at *; go_simp) | (go_values <;> (try go_simp)) | (go_ite <;> go_prune <;> (try go_simp)) | (split <;> (first | (rename_i hx; exact (hx _ rfl).elim) | go_prune)))
         refine IK (results_cell_tmp rfl _ _ (w.heap.size + 1) _ _ _ _ (.int .i64 281) GQ GQ bM.out Hw rfl NT) rfl ?_;exact rF.lost bg LG.out aR (yD HD.out HG.1 HQ.out HM.out iq.out) rfl
      case rest =>
       obtain ⟨C1, d1, he1, hdd, hw, jY⟩ := hcut;replace jY := hd1 jY;have zR := hd3 he1 hdd hw;clear he1 hdd hw mF zN;have uH := Em.qL HF.gF.good.rows (Em.jV HD.out).1;have HSZ := (Em.jV HD.out).2;obtain ⟨g1, hg1⟩ : ∃ g1 : Int, g1 = ((e.gen + 1 : Nat) : Int) := ⟨_, rfl⟩;have hw2 : IntKind.i64.wrap ((e.gen : Int) + 1) = g1 := by rw [Ja _ (Hf HF.gF.good.gen), hg1]; omega
       have HH := hd1 (show ∀ W : World, Below wc wc W -> Calls prog 52 #[.int .i64 g1, .slice ya yn yc] W (gT W (Em.jT (e.gen + 1) (Em.tell (Em.behind e.rows l)))) from λ W hb => by
        rw [hg1];exact Fg (jY.rows.later hb) (by rw [Em.oW]; omega) (λ r hr => by
         obtain ⟨k1, k2, k3⟩ := Em.z3h uH hr;exact ⟨k3, by rw [<-k2]; exact Em.uZ uH _⟩) (Hf HF.gF.good.gen))
       have zQ := z0p (e.gen + 1) uH;have jd : (Em.jT (e.gen + 1) (Em.tell (Em.behind e.rows l))).length <= 4000000 := by rw [zQ]; exact IP (Em.tV _ HSZ) GU
       obtain ⟨hF, ow⟩ := G5 (Em.jT (e.gen + 1) (Em.tell (Em.behind e.rows l)));rw [ow] at HH jd zQ;replace zQ := hd1 zQ;replace jd := hd1 jd;clear ow hg1 HSZ uH;have ne : Nonempty (Wd (Below wc wc)) := ⟨⟨_, Below.refl _ _⟩⟩;have LD : Hid (∀ w', (∃ x : Wd (Below wc wc), w' = x.world) -> (Instr.loadAt af (.pointer (some g10))).run prog w' = .ok (.agg C1) w') := by
        rintro w' ⟨x, rfl⟩;exact fK ((x.ok.block _ (aa jY.eQ)).trans jY.eQ) Hu rfl (by rw [aH, jY.size])
       have f90 : ∀ x : Wd (Below wc wc), x.world.cell? g9 = some (.int .i64 (e.gen : Int)) := λ x => aN x.ok (ae jY.r9 K.1);have iG := wG (t := oi) jY.ok (Hf qp.2) (Hf qp.2) hF;have W2 := Em.qc d1 oi hF;have HA := Dr zR.2.1 (t := 1 - e.tp) GR hF;rw [<-qp.1] at HA;obtain ⟨r2, hr2⟩ := G5 (d1.append oi hF);rw [hr2] at iG W2 HA;obtain ⟨d2, e2⟩ := r2;replace W2 := hd1 W2;replace iG := hd1 iG;replace HA := hd1 HA;have AC : Hid (∀ (W : World) (bv : Value), Below wc wc W -> BytesAt W.heap (λ _ => True) bv hF -> Calls prog 51 #[.agg C1, .int .i64 oi, bv] W (gK W (nO F w (g10 + 1)) (d2, e2))) := hd1 (λ W bv hb hy => by
        have := z7u ((jY.later hb).ref) jY.ok (Hg HF.waits zR.2.2) oi hy jd.out;rw [hr2] at this;exact this)
       have HRW := hd1 (show Em.bK e.d (1 - e.tp) (Em.folded (e.gen + 1) (Em.behind e.rows l)) = Em.next (d2, e2) D.sync by
        rw [<-zQ.out, y9o _ zR.1, <-qp.1, hr2])
       clear hr2;go_upto_region 24 with fail
       refine bC (λ w' => ∃ x : Wd (Below wc wc), w' = x.world) [10, 11, 12, 13] GQ ?_;refine aI [0, 1, 2, 3, 4, 5, 6] 7 _ Hq GQ ?_;simp only [fmc, fmn, gta, gcs, gcz];refine dX rfl af (.tmp 10) rfl _ LD.out ?_;repeat refine G8 ?_
       refine aA ?_;refine az 7 6 _ _ rfl GQ ?_;refine IE rfl λ K hK => ?_;go_simp;go_at_call 52;refine (HH.out _ GY.drew).mono ?_;rintro en w24 ⟨hv, rfl, z7f, b24⟩;have wO : Below wc wc w24 := GY.drew.trans b24;have Y24 := hd1 (show BytesAt w24.heap (λ _ => True) hv hF from z7f.at.keeps (λ _ _ _ => rfl) (λ _ _ _ => trivial));clear z7f b24;refine hK _ _ (IB ⟨rfl, λ _ => ⟨⟨_, wO⟩, rfl⟩, ?_⟩);clear hK K;obtain ⟨ha, hc, rfl⟩ := Y24.slice;refine az 8 5 _ _ rfl GQ ?_;refine IE rfl λ K hK => ?_;go_simp;go_at_call 51;refine (AC.out _ _ wO Y24.out).mono ?_;rintro en w25 ⟨v25, rfl, uo, f25⟩;obtain ⟨C25, rfl, z0j, z9n⟩ := f25.cells;have zy : Below wc wc w25 := wO.trans (uo.mono wO.size);refine hK _ _ (IB ⟨rfl, λ _ => ⟨⟨_, zy⟩, rfl⟩, ?_⟩);clear hK K;refine aI [9] 4 _ ⟨⟨_, zy⟩, rfl⟩ GQ ?_;refine G9 ?_;refine eY [10, 11] 2 _ GQ ?_;refine G9 ?_;refine az 12 1 _ _ rfl GQ ?_;refine aC rfl af _ _ rfl g10 _ rfl rfl af _ ((zy.block _ (aa jY.eQ)).trans jY.eQ) (by rw [aH, z0j]) (by rw [z0j, jY.size]) z9n ?_;intro W24 y2j y2e w1p;refine IB ⟨rfl, λ h => absurd GU h, ?_⟩;refine az 13 0 _ _ rfl GQ ?_;refine IE rfl λ K hK => ?_;go_simp;refine hK _ _ (IB ⟨rfl, λ h => absurd GU h, GQ, ?_⟩);clear hK K;have fU := hd1 (jY.call zy wO f25 y2e y2j.out iG.out);clear zy wO uo f25 y2j y2e w1p Y24 AC HH z0j z9n ne LD f90 jY;rcases HA.out with hA | ⟨s, hA⟩ | ⟨s, hA⟩
       ·have q2 : e2 = 280 := IG Prod.snd hA
        clear hA HA;subst q2;have iq := hd1 (HRW.trans (show Em.next (d2, (280 : Int)) D.sync = (d2, 280) from Iw (show ¬ (280 : Int) = 0 by decide)))
        repeat (first
         | (go_big_may; (first
          | (refine G_ fU.eQ Hu (by rw [aH, fU.size]) ?_)
          | (refine iT rfl aj _ rfl _ (by simp only [Jo, Jj, Jm, Act.eval]; exact jI fU.ref) ?_)
          | (refine aC rfl aj _ _ rfl (w.heap.size + 1) _ rfl rfl aj bP fU.r4 (by rw [aX, aV fU.size]) (by rw [aV fU.size]; rfl) (d_ fU.ones _ _ _ _ _) ?_; intro W9 bM aR eX)))
         | go_values | go_skip | go_guarded | go_step | go_upon | (simp only [I9, I_] at *; go_simp) | (go_values <;> (try go_simp)) | (go_ite <;> go_prune <;> (try go_simp)) | (split <;> (first | (rename_i hx; exact (hx _ rfl).elim) | go_prune)))
        refine IK (results_cell_tmp rfl _ _ (w.heap.size + 1) _ _ _ _ (.int .i64 280) GQ GQ bM.out Hw rfl (by rw [aX, aV fU.size])) rfl ?_;exact fU.give aR (yD HD.out HG.1 HQ.out HM.out iq.out)
       ·have q2 : e2 = 0 := IG Prod.snd hA
        have q3 : d2.dead = false := by rw [show d2 = _ from IG Prod.fst hA]; exact zR.2.1
        clear hA HA;subst q2;have SC := sD fU.ref fU.ok (by have := HF.waits; have h : d2.waits.length <= d1.waits.length + 1 := W2.out; have := zR.2.2; show d2.waits.length <= 1000000000000; omega);have gy := t_ fU.ok;have HB3 := xS q3;have iq := HRW.trans (show Em.next (d2, (0 : Int)) D.sync = d2.sync from IA rfl);obtain ⟨r3, hr3⟩ := G5 d2.sync;rw [hr3] at SC gy HB3 iq;obtain ⟨d3, e3⟩ := r3;replace SC := hd1 SC;replace gy := hd1 gy;replace iq := hd1 iq;replace HB3 := hd1 (show e3 = 0 \/ e3 = 281 by rcases HB3 with ⟨s', h⟩ | ⟨s', h⟩; exact Iy (IG Prod.snd h); exact Iz (IG Prod.snd h));clear hr3 q3
        go_upto_region 29 with (first
         | (refine G_ fU.eQ Hu (by rw [aH, fU.size]) ?_)
         | (go_at_call 53; refine SC.mono ?_; rintro en w28 ⟨v28, rfl, b28, f28⟩; obtain ⟨C28, rfl, _, _⟩ := f28.cells)
         | (refine aC rfl af _ _ rfl g10 _ rfl rfl af _ ((b28.block _ (aa fU.eQ)).trans fU.eQ) (by obtain ⟨_, e, h1, _⟩ := f28.cells; cases e; rw [aH, h1]) (by obtain ⟨_, e, h1, _⟩ := f28.cells; cases e; rw [h1, fU.size]) (by obtain ⟨_, e, _, h2⟩ := f28.cells; cases e; exact h2) ?_; intro W28 y2k y2f w1q))
        have jL := hd1 (fU.call b28 GY f28 y2f y2k.out gy.out);clear b28 f28 y2k y2f w1q SC fU;rcases HB3.out with q | q
        ·clear HB3
         subst q
         repeat (first
          | (go_big_may; (first
           | (refine G_ jL.eQ Hu (by rw [aH, jL.size]) ?_)
           | (refine iT rfl aj _ rfl _ (by simp only [Jo, Jj, Jm, Act.eval]; exact jI jL.ref) ?_)
           | (refine aC rfl aj _ _ rfl (w.heap.size + 1) _ rfl rfl aj bP jL.r4 (by rw [aX, aV jL.size]) (by rw [aV jL.size]; rfl) (d_ jL.ones _ _ _ _ _) ?_; intro W9 bM aR eX)))
          | go_values | go_skip | go_guarded | go_step | go_upon | (simp only [I9, I_] at *; go_simp) | (go_values <;> (try go_simp)) | (go_ite <;> go_prune <;> (try go_simp)) | (split <;> (first | (rename_i hx; exact (hx _ rfl).elim) | go_prune)))
         refine IK (results_cell_tmp rfl _ _ (w.heap.size + 1) _ _ _ _ (.int .i64 0) GQ GQ bM.out Hw rfl (by rw [aX, aV jL.size])) rfl ?_;exact jL.give aR (yD HD.out HG.1 HQ.out HM.out iq.out)
        ·clear HB3
         subst q
         repeat (first
          | (go_big_may; (first
           | (refine G_ jL.r2 Hw N7 ?_)
           | (refine G_ jL.eQ Hu (by rw [aH, jL.size]) ?_)
           | (go_at_call 93; refine (yh jL.out HF.out).mono ?_; rintro en wg ⟨vg, rfl, bg, lg⟩; obtain ⟨Cg, ga, gn, gc, rfl, iN, pR, rest⟩ := id lg; have LG := hd1 lg; clear lg rest)
           | (refine aC rfl aj _ _ rfl (w.heap.size + 1) _ rfl rfl aj bP ((bg.block _ (aa jL.r4)).trans jL.r4) NT NH (d_ pR _ _ _ _ _) ?_; intro W9 bM aR eX)))
          | go_values | go_skip | go_guarded | go_step | go_upon | (simp only [I9, I_] at *; go_simp) | (go_values <;> (try go_simp)) | (go_ite <;> go_prune <;> (try go_simp)) | (split <;> (first | (rename_i hx; exact (hx _ rfl).elim) | go_prune)))
         refine IK (results_cell_tmp rfl _ _ (w.heap.size + 1) _ _ _ _ (.int .i64 281) GQ GQ bM.out Hw rfl NT) rfl ?_;exact jL.lost bg LG.out aR (yD HD.out HG.1 HQ.out HM.out iq.out) rfl
       ·have q2 : e2 = 281 := IG Prod.snd hA
        clear hA HA;subst q2;have iq := hd1 (HRW.trans (show Em.next (d2, (281 : Int)) D.sync = (d2, 281) from Iw (show ¬ (281 : Int) = 0 by decide)))
        repeat (first
         | (go_big_may; (first
          | (refine G_ fU.r2 Hw N7 ?_)
          | (refine G_ fU.eQ Hu (by rw [aH, fU.size]) ?_)
          | (go_at_call 93; refine (yh fU.out HF.out).mono ?_; rintro en wg ⟨vg, rfl, bg, lg⟩; obtain ⟨Cg, ga, gn, gc, rfl, iN, pR, rest⟩ := id lg; have LG := hd1 lg; clear lg rest)
          | (refine aC rfl aj _ _ rfl (w.heap.size + 1) _ rfl rfl aj bP ((bg.block _ (aa fU.r4)).trans fU.r4) NT NH (d_ pR _ _ _ _ _) ?_; intro W9 bM aR eX)))
         | go_values | go_skip | go_guarded | go_step | go_upon | (simp only [I9, I_] at *; go_simp) | (go_values <;> (try go_simp)) | (go_ite <;> go_prune <;> (try go_simp)) | (split <;> (first | (rename_i hx; exact (hx _ rfl).elim) | go_prune)))
        refine IK (results_cell_tmp rfl _ _ (w.heap.size + 1) _ _ _ _ (.int .i64 281) GQ GQ bM.out Hw rfl NT) rfl ?_;exact fU.lost bg LG.out aR (yD HD.out HG.1 HQ.out HM.out iq.out) rfl
 ·have AC : Hid (∀ (W : World) (F1 : Nat -> Prop) (u : Value), dx W F1 u (Em.tell e.rows) -> Below w w W -> Calls prog 14 #[u, .slice la ln lc] W λ en w' => ∃ a n c, en = .returned (.tuple #[.slice a n c, .int .i64 (Em.aW e.rows l)]) /\ Below W W w') := hd1 (λ W F1 u hu hb => by
   have := FO hu (Hf HT.1) (HL.2.2.2.2.1.later hb) (Hg HL.2.2.2.2.2.1 HLN.out);rw [HT.2, Iw hd] at this;refine this.mono ?_;rintro en w' ⟨v', rfl, p, b⟩;obtain ⟨a, c, rfl⟩ := p.slice;exact ⟨a, _, c, rfl, b⟩)
  have HCM := hd1 (x7a hd);generalize Em.aW e.rows l = er at *
  go_upto_region 2 with (first
   | (refine G_ HB.2.1 Hw N7 ?_)
   | (go_at_call 57; refine TC.mono ?_; rintro en w1 ⟨b1, xa, xn, xc, rfl, p1⟩)
   | (go_at_call 14; refine (AC.out _ _ _ p1 (HB.1.trans (b1.mono HB.1.size))).mono ?_; rintro en w2 ⟨ya, yn, yc, rfl, b2⟩))
  have B2 := hd1 (show Below W0 W0 w2 from b1.trans (b2.mono b1.size));clear b1 b2 p1 TC AC;have R2 := hd1 ((B2.block _ (aa HB.2.1)).trans HB.2.1);have R4 := hd1 ((B2.block _ (aa HB.2.2.1)).trans HB.2.2.1);have oQ := hd1 (HB.1.trans (B2.mono HB.1.size))
  repeat (first
   | (go_big_may; (first
    | (refine G_ R2.out Hw N7 ?_)
    | (refine aC rfl aj _ _ rfl (w.heap.size + 1) _ rfl rfl aj bP R4.out N7 (by rw [HE.1]; rfl) HE.2.1 ?_; intro W9 bM aR eX)))
   | go_values | go_skip | go_guarded | go_step | go_upon | (simp only [I9, I_] at *; go_simp) | (go_values <;> (try go_simp)) | (go_ite <;> go_prune <;> (try go_simp)) | (split <;> (first | (rename_i hx; exact (hx _ rfl).elim) | go_prune)))
  refine IK (results_cell_tmp rfl _ _ (w.heap.size + 1) _ _ _ _ (.int .i64 er) GQ GQ bM.out Hw rfl N7) rfl ?_;exact RP
end
section
open Go.RowKit Dm
attribute [local go_sem] Oper.semAt_some
theorem run_append_nothing {P : Program} (base : Nat) (t ty e : TypeId) (i : TypeInfo) (size : Nat) (ht : P.underlying t = some (.slice e)) (hi : P.info? e = some i)
 (v : Value) (n : Nat) (xs : List Value) (hown : w.ownsRow base e size v n xs) (c : Nat) :
 (Builtin.append_ #[t, t] ty #[v, .slice none 0 c]).run P w = .ok v w := by
 rcases hown.2 with ⟨rfl, rfl⟩ | ⟨g, cap, cur, rfl, _, _, hnc, _⟩
 ·simp [Builtin.append_, J4 ht, sizeOf, typeInfo, hi, Builtin.lenOf, Builtin.firstCells]
 ·simp [Builtin.append_, J4 ht, sizeOf, typeInfo, hi, Builtin.lenOf, Builtin.firstCells, hnc, storeCells]
theorem y3c {P : Program} {ops : Array Oper} {rest : List Oper} {o : Oper} {a : Act} {Q : Exit -> Act -> World -> Prop} (hgd : o.guard = none) (s x : Operand) (t : TypeId)
 (ho : o.op = .call { callee := .builtin .append, args := #[s, x], argTypes := #[t, t] })
 (base : Nat) (e : TypeId) (i : TypeInfo) (size : Nat) (ht : P.underlying t = some (.slice e)) (hi : P.info? e = some i)
 (v : Value) (n : Nat) (xs : List Value) (hs : a.eval s = v) (hown : w.ownsRow base e size v n xs) (c : Nat) (hx : a.eval x = .slice none 0 c)
 (h : wpList P ops Q rest (a.put o.dst v) w) : wpList P ops Q (o :: rest) a w := by
 refine IE hgd λ K hK => ?_;have hrun := run_append_nothing (P := P) (w := w) base t o.type e i size ht hi v n xs hown c;unfold Oper.wp;simp [execOp, ho, resolve, invoke, builtin, hs, hx, hrun, Result.andThen];exact hK _ _ h
theorem x1x (w : World) : j6 (w.alloc (.cells #[] a_)) w.heap.size (.slice (some w.heap.size) 0 0) [] :=
 ⟨rfl, Iz ⟨w.heap.size, 0, #[], rfl, Nat.le_refl _, IC _ _, Nat.le_refl _, IV _, rfl, rfl⟩⟩
theorem y1p : ∀ (l : List Em.ay) (k : Nat) (u : Value), (jH l)[k]? = some u -> ∃ i c j, l[i]? = some c /\ [ag c.key, ag c.value, Value.bool c.gone][j]? = some u /\ k = i * 3 + j /\ j < 3
 | [], k, u, h => by simp at h
 | c :: l, k, u, h => by
  by_cases hk : k < 3
  ·refine ⟨0, c, k, rfl, ?_, GR, hk⟩
   have e : jH (c :: l) = [ag c.key, ag c.value, Value.bool c.gone] ++ jH l := rfl;rw [e, KA NJ] at h;exact h
  ·have e : jH (c :: l) = [ag c.key, ag c.value, Value.bool c.gone] ++ jH l := rfl
   rw [e, Kl (by simpa using Nat.le_of_not_lt hk)] at h;obtain ⟨i, c', j, h1, h2, h3, h4⟩ := y1p l _ u h;refine ⟨i + 1, c', j, h1, h2, ?_, h4⟩;simp only [I6, Jy] at h3;omega
theorem y3b {ops : Array Oper} {rest : List Oper} {o : Oper} {a : Act} {Q : Exit -> Act -> World -> Prop} (hgd : o.guard = none) (s x : Operand) (ho : o.op = .call { callee := .builtin .append, args := #[s, x], argTypes := #[qH, qH] })
 (B base : Nat) (w0 : World) (hb : Below B w0 w) (hB : B <= base) (v : Value) (hs : a.eval s = v) (hown : j6 w base v []) (v2 : Value) (l : List Em.ay) (G : Nat -> Prop) (hx : a.eval x = v2) (hsrc : dJ w G v2 l) (hl : l.length <= 1000000) (hbase : base <= w.heap.size)
 (h : ∀ v' w', Hid (j6 w' base v' l) -> Below B w0 w' -> Below base w w' -> wpList prog ops Q rest (a.put o.dst v') w') : wpList prog ops Q (o :: rest) a w := by
 obtain ⟨i0, hi0, hz0, hz1, hz2⟩ := JG z0w;have key : ∀ ad c news, v2 = .slice (some ad) l.length c -> news = jH l -> (∀ (j : Nat) u, news[j]? = some u -> w.cell? (ad.add j) = some u) -> wpList prog ops Q (o :: rest) a w := λ ad c news e en hc => by
  subst e; subst en;refine lS hgd s x qH ho B base w0 hb hB a_ _ 3 40 Ir z0w rfl GU v 0 [] hs hown _ l.length (jH l) hx (Iz ⟨ad, c, rfl, x8g l, hc, λ u hu => ?_⟩) Nr GR hbase ?_
  ·obtain ⟨c', _, hu⟩ := List.mem_flatMap.1 hu
   exact Rm
  ·intro v' w' ho' h1 h2
   refine h v' w' (hd1 ?_) h1 h2;have := ho'.out;rw [I8, Ji] at this;exact this
 rcases hsrc with ⟨⟨ad, c, rfl⟩, rfl⟩ | ⟨b, o', cap, cs, t, fr, rfl, _, _, _, hr, hc⟩
 ·cases ad with
  | none => exact y3c hgd s x qH ho base a_ i0 3 Ir hi0 v 0 [] hs hown c hx (h v w (hd1 hown) hb GY)
  | some ad => exact key ad c [] rfl rfl (λ j u hj => by simp at hj)
 ·refine key ⟨b, o', none⟩ cap _ rfl rfl (λ j u hj => ?_)
  obtain ⟨i, c, k, h1, h2, rfl, hk⟩ := y1p l j u hj;rw [addr_add, IJ _ _ _ _ _ _ hr, <-Jz];obtain ⟨c0, c1, c2⟩ := hc i c h1;match k, hk, h2 with
  | 0, _, h2 => cases h2; exact c0
  | 1, _, h2 => cases h2; exact c1
  | 2, _, h2 => cases h2; exact c2
theorem w0b {e : Em.E} (x : bO w pl pd md e F) (hr : dW w (λ k => Apart pl pd md k /\ G k) v e) (hf : Fit e) {lv : Value} {l : List Em.ay} (hl : dJ w (λ _ => True) lv l) (hll : l.length <= 70) (hkl : ∀ c ∈ l, c.key.length <= 70 /\ c.value.length <= 200)
 (hw : e.d.waits.length <= 800000000) (n : Int) (kv : Value) (bq part : Int) :
 Calls prog 27 #[pl, v, .agg (iQ 0 lv n kv bq part)] w (xB w pl pd md F G (e.bE l).1) := by
 have hr' := hr.clip;obtain ⟨C, ra, rn, rc, rfl, hC, gH, fF, _⟩ := hr;obtain ⟨la, lc, rfl⟩ := hl.slice;obtain ⟨E, hE⟩ := G5 (bQ C e.gone (.slice ra rn rc) (dG e));have jU : E.size = 13 := by rw [<-hE]; exact aV hC _ _ _
 rw [hE] at hr' ⊢;obtain ⟨xl, hxl⟩ := G5 l.length;rw [hxl];have hin := Dt w E (iQ 0 (.slice la xl lc) n kv bq part);obtain ⟨W0, hW0⟩ := G5 (((w.alloc (.cells E aj)).alloc (.cells (iQ 0 (.slice la xl lc) n kv bq part) iV)).alloc (.cells bP aj));rw [hW0] at hin;have k0 : W0.cell? (w.heap.size + 1, 0) = some (.int .i64 0) := ae hin.r5 rfl;have k1 : (W0.alloc (.cells #[] a_)).cell? (w.heap.size + 1, 1) = some (.slice la xl lc) := aN (bla) (ae hin.r5 rfl);rw [hxl] at hl;have aD := hd1 hin;have HX := hd9 x hr' jU hf hl hxl hll hkl hw;have HW := hd1 hW0;have OC := hd1 (x1x W0);obtain ⟨R1, hR1⟩ := G5 (e.bE l);have HR := hd1 hR1;rw [hR1];clear x hr' hE jU hin hW0 fF gH hC hl hxl hll hkl hw hf hR1;go_in;go_upto_region 1 with fail
 rw [show (((w.alloc (.cells E aj)).alloc (.cells (iQ 0 (.slice la xl lc) n kv bq part) iV)).alloc (.cells #[.int .i64 0, .int .i64 0, (), (), (), (), (), (), false, .int .i64 0, false, (), .int .i64 0] aj)) = W0 from HW.out]
 go_upto_region 4 with (first
  | (refine y3b rfl (.tmp 25) (.tmp 27) rfl w.heap.size W0.heap.size w (aD.below.alloc aD.below.size _) aD.below.size _ rfl OC.out _ l (λ _ => True) rfl (HX.2.2.2.2.1.later (aD.below.alloc aD.below.size _)) (Hf HX.2.2.2.2.2.2.1) GV ?_; intro mv w3 OM b3 b3'))
 have B3 : Below W0 W0 w3 := (bla).trans (b3'.mono GV);have OMA := (j6.at OM.out);obtain ⟨ma, mk, rfl⟩ := OMA.slice;rw [HX.2.2.2.2.2.1];have R4 := (B3.block _ (aa aD.r4)).trans aD.r4;have k1' : w3.cell? (w.heap.size + 1, 1) = some (.slice la xl lc) := aN B3 (ae aD.r5 rfl);have RC := x0r (w := w3) (l := l) (HX.2.1.later b3) HX.2.2.2.1 (HX.2.2.2.2.1.later b3) (Hf HX.2.2.2.2.2.2.1) (λ c hc => Hf (HX.2.2.2.2.2.2.2.1 c hc));rw [HR.out] at RC;have RC := hd1 RC;have H3 := hd4 B3 b3 OMA R4;clear B3 b3 b3' OM OMA R4 k0 k1
 go_upto_region 5 with (first
  | (refine G_ H3.2.2.2 Hw (by rw [aX, HX.2.2.1]) ?_)
  | (go_at_call 54; refine RC.mono ?_; rintro en w4 ⟨v4, rfl, b4, f4⟩; obtain ⟨C4, a4, n4, c4, rfl, p9, hO4, y9n⟩ := id f4; have F4 := hd1 f4; clear f4 y9n)
  | (refine aC rfl aj _ _ rfl w4.heap.size _ rfl rfl aj bP (IC w4 _) (by rw [aX, aV p9]) (by rw [aV p9]; rfl) (d_ hO4 _ _ _ _ _) ?_; intro W5 aF aB bf))
 have qh : Below w4 w4 W5 := Moves.new ((Below.refl w4 w4).alloc GZ _) aB GZ;obtain ⟨E4, Cn⟩ := G5 (bQ C4 R1.1.gone (.slice a4 n4 c4) (dG R1.1));have z9l : E4.size = 13 := by rw [<-Cn]; exact aV p9 _ _ _
 have z9k : E4.all (·.oneCell') = true := by rw [<-Cn]; exact d_ hO4 _ _ _ _ _
 rw [Cn] at F4 aF;obtain ⟨g10, mg⟩ := G5 w4.heap.size;rw [mg] at aF ⊢;have zx : Below w3 w3 W5 := b4.trans (qh.mono b4.size);have nH : Below W0 W0 W5 := H3.1.trans (zx.mono H3.1.size);have zu : Below w w W5 := aD.below.trans (nH.mono aD.below.size);have x5 := (sU HX.1).grow zu;have CC := Db (l := l) x5 HX.2.2.2.2.2.2.2.2 (H3.2.2.1.later zx) (Hf HX.2.2.2.2.2.2.1) (λ c hc => Hf (HX.2.2.2.2.2.2.2.1 c hc));rw [HR.out, HX.2.2.2.2.2.1] at CC;have CC := hd1 CC;have H5 := hd10 b4 qh zx nH zu x5 aF.out z9l z9k mg;clear b4 qh zx nH zu x5 aF aB bf z9l z9k p9 hO4 Cn mg RC k1';go_upto_region 6 with (go_at_call 11; refine CC.mono ?_; rintro en w6 ⟨rfl, m6, x6⟩)
 have lx := HX.1.disk.lt;have lp := aa HX.1.row.choose_spec.1;have s0 := aD.size;have z5 := H5.2.2.2.1.size;have z4 := H5.2.2.1.size;have z3 := H3.1.size;have x5t := H5.2.2.2.2.2.2.2.2.2;have zz4 := H5.1.size;have R10 : w6.heap[g10]? = some (.cells E4 aj) := (m6.block _ (aa H5.2.2.2.2.2.2.1) GR).trans H5.2.2.2.2.2.2.1;have R7 : w6.heap[w.heap.size + 1 + 1]? = some (.cells bP aj) := (m6.block _ GR GR).trans ((H5.2.2.2.1.block _ (aa aD.r7)).trans aD.r7);have LD : Hid (∀ w', (∃ y : Wd (Moves (λ k => k = w.heap.size + 1 + 1) w6), w' = y.world) -> (Instr.loadAt aj (.pointer (some g10))).run prog w' = .ok (.agg E4) w') := by
  rintro w' ⟨y, rfl⟩;exact fK ((y.ok.block _ (aa R10) GR).trans R10) Hw rfl Nc
 have H6 := hd5 m6 x6 R7 lx lp;have ne : Nonempty (Wd (Moves (λ k => k = w.heap.size + 1 + 1) w6)) := ⟨⟨_, Moves.refl _ _⟩⟩;clear m6 x6 R10 R7 lx lp s0 z5 z4 z3 x5t zz4 CC;refine bC (λ w' => ∃ x : Wd (Moves (λ k => k = w.heap.size + 1 + 1) w6), w' = x.world) [] GQ ?_;refine aI [0, 1, 2, 4] 5 _ ⟨⟨_, (Moves.of_below GY.drew)⟩, rfl⟩ GQ ?_;simp only [fmc, fmn, gta, gcs, gcz];refine ak (λ K hK => ?_); simp only [au, ah]; go_simp; refine hK _ ?_; clear hK K;refine dX rfl aj (.tmp 10) rfl _ LD.out ?_;repeat refine G8 ?_
 refine aA ?_;refine az 3 4 _ _ rfl GQ ?_;refine IE rfl λ K hK => ?_;go_simp;go_at_call 12;refine (iX _ _).mono ?_;rintro en w' ⟨rfl, rfl⟩;refine hK _ _ (IB ⟨rfl, λ _ => ⟨⟨_, (Moves.of_below GY.drew)⟩, rfl⟩, ?_⟩);clear hK K;refine aI [5, 6] 2 _ ⟨⟨_, (Moves.of_below GY.drew)⟩, rfl⟩ GQ ?_;refine G9 ?_;refine az 7 1 _ _ rfl GQ ?_;refine aC rfl aj _ _ rfl (w.heap.size + 1 + 1) E4 rfl rfl aj bP H6.2.2.1 Nc (by rw [H5.2.2.2.2.2.2.2.1]; rfl) H5.2.2.2.2.2.2.2.2.1 ?_;intro W9 bM aR eX;have qU : Moves (λ k => k = w.heap.size + 1 + 1) w6 W9 := ⟨aR.os, aR.tape, aR.output, aR.size, aR.block⟩;refine IB ⟨rfl, λ _ => ⟨⟨_, qU⟩, rfl⟩, ?_⟩;refine aI [8] 0 _ ⟨⟨_, qU⟩, rfl⟩ GQ ?_;refine G9 ?_;refine ⟨GQ, ?_⟩;go_wp2;refine IK (vI rfl _ _ (w.heap.size + 1 + 1) _ _ _ _ _ _ rfl rfl rfl bM.out Hw rfl Nc) rfl ?_;obtain ⟨b4, qh, zx, nH, zu, x5, r5, _, _, mg⟩ := H5.out;obtain ⟨m6, x6, R7, lx, lp⟩ := H6.out;have aR : Moves (λ k => k = w.heap.size + 1 + 1) w6 W9 := ⟨aR.os, aR.tape, aR.output, aR.size, aR.block⟩;have s0 := aD.size;have z0 := nH.size;have z3 := H3.1.size;have z4 := b4.size;have z5 := qh.size;have z6 := m6.size;have m9 : Moves (eH pl pd md) w W9 := ((Moves.of_below zu).trans m6 (λ _ _ h => h)).trans aR (λ k hk h => GR);refine ⟨pl, pd, md, _, .agg E4, rfl, m9, lZ x6 aR GR GR GR (λ k hk h => ?_) (λ k hk _ => ?_), F4.keeps (λ k hk hl => ?_) (λ k hk hl => ?_), Iy ⟨rfl, rfl, rfl⟩, λ k hk => ?_⟩
 ·rcases hk with q | q
  ·have := q.2; omega
  ·omega
 ·subst hk
  exact ⟨_, _, _, R7⟩
 ·have hap : Apart pl pd md k /\ k ≠ w.heap.size + 1 + 1 := by
   rcases hk with q | q
   ·exact ⟨q.1.1, Hf q.2⟩
   ·exact ⟨⟨GR, GR, GR⟩, GR⟩
  exact (aR.block k GR hap.2).trans ((m6.block k GR (λ h => by rcases h with h | h | h; exact hap.1.1 h; exact hap.1.2.1 h; exact hap.1.2.2 h)).trans (qh.block k hl))
 ·exact QG
 ·exact Sc
end
end Go.Proofs.YtgffifleflkjoaaGreat
