/-
  Parts of a proof.
-/
import Derived.Test.YtgffifleflkjoaaGreatFin41
set_option linter.unusedSimpArgs false
set_option linter.unusedVariables false
set_option maxRecDepth 100000
set_option maxHeartbeats 16000000
namespace Go.Proofs.YtgffifleflkjoaaGreat
open _root_.Go.Proofs.Tryz
variable {w W w' w0 wr w1 W0 W1 W2 A B : World} {F G F' O : Nat → Prop} {v : Value} {l : List UInt8} {n q m pd md pl g p : Nat} {C : Array Value} {c : Int}
section
open Go.RowKit Dm
attribute [local go_sem] Oper.semAt_some
theorem x8z {e : Em.E} {l : List Em.ay} (h : Em.aX e.rows l = 0) (hg : e.gone = false) (hq : (32 <= e.aK \/ (Em.aZ l).length = 0 \/ e.d.room / 2 < e.fin + (Em.aZ l).length) \/ Em.wrote e.d e.tp (Em.aZ l) = (e.d, 280)) (hm : 2147483647 <= e.gen) : e.bE l = (e, 280) := by
 rw [z1p h hg, z4t hq, Em.wH hm];obtain ⟨tp, gen, rows, aK, fin, d, gone⟩ := e;have hg : gone = false := hg;subst hg;rfl
theorem yt {g9 g10 : Nat} {T E : Array Value} {e : Em.E} {rv : Value} {R : Em.bB} {d : D} (h : iH w W F g9 g10 T E C e rv R d) (hf : Fit e) :
 Calls prog 93 #[.agg E, .agg C] W λ en w' => ∃ v, en = .returned (.tuple #[v, .int .i64 281]) /\ Below W W w' /\ dX w' (λ k => n_ F w (g10 + 1) k \/ W.heap.size <= k) v { e with d := d, gone := true } :=
 y9t (F := n_ F w (g10 + 1)) (h.log.keeps (λ _ _ _ => rfl) (λ k hk _ => IB hk)) hf h.ref
theorem y9j {d d1 : D} {o : Nat} (b : List UInt8) (h : Em.bZ d o = (d1, 0)) : Em.bK d o b = Em.next (d1.append (o : Nat) b) D.sync := by
 unfold Em.bK;rw [h];rfl
theorem y5n (a0 a1 a2 a3 : Option Addr) (n0 n1 n2 n3 c0 c1 c2 c3 : Nat) {t : Nat} {oi : Int} (ht : t <= 1) (ho : oi = ((1 - t : Nat) : Int)) : ∃ ax nx cx,
 (∀ W : World, (Instr.index 58 (.agg #[.slice a0 n0 c0, .slice a1 n1 c1, .slice a2 n2 c2, .slice a3 n3 c3]) (.int .i64 oi)).run prog W = .ok (.slice ax nx cx) W) /\ (t = 0 -> nx = n1) /\ (t = 1 -> nx = n0) := by
 subst ho;rcases Nat.le_one_iff_eq_zero_or_eq_one.1 ht with rfl | rfl
 ·exact ⟨a1, n1, c1, λ W => z3k a0 a1 a2 a3 n0 n1 n2 n3 c0 c1 c2 c3 W, λ _ => rfl, λ h => Oe⟩
 ·exact ⟨a0, n0, c0, λ W => z3j a0 a1 a2 a3 n0 n1 n2 n3 c0 c1 c2 c3 W, λ h => Oe, λ _ => rfl⟩
theorem x0m {lv : Value} {e : Em.E} {l : List Em.ay} (hr : dX w F v e) (hf : Fit e) (hc : dJ w G lv l) (hl : l.length <= 1000) (hk : ∀ c ∈ l, c.key.length <= 1000 /\ c.value.length <= 5000) :
 Calls prog 54 #[v, lv] w (uY w F (e.bE l)) := by
 have hr' := hr.clip;obtain ⟨C, ra, rn, rc, rfl, hC, gF, fF, _⟩ := hr;obtain ⟨la, lc, rfl⟩ := hc.slice;obtain ⟨E, hE⟩ := G8 (bT C e.gone (.slice ra rn rc) (dG e));have jV : E.size = 13 := by rw [<-hE]; exact aW hC _ _ _
 have y9 : E.all (·.oneCell') = true := by rw [<-hE]; exact eB gF _ _ _ _ _
 have y_ : E[10]? = some (.bool e.gone) := by rw [<-hE]; exact (wh hC _ _ _).1
 have hE1 : E[1]? = some (.int .i64 e.d.room) := by
  rw [<-hE, z8v _ _ _ GX];obtain ⟨sv, t0, t1, t2, t3, wv, e1, _, _⟩ := fF;cases e1;rfl
 rw [hE] at hr' ⊢;obtain ⟨W0, hW0⟩ := G8 ((w.alloc (.cells E ah)).alloc (.cells bM ah));have B0 : Below w w W0 := by rw [<-hW0]; exact (bla).alloc GZ _
 have r2 : W0.heap[w.heap.size]? = some (.cells E ah) := by rw [<-hW0]; exact aM GZ (II w _)
 have r4 : W0.heap[w.heap.size + 1]? = some (.cells bM ah) := by rw [<-hW0]; exact bC (w := w.alloc _) _ GZ
 have s0 : W0.heap.size = w.heap.size + 2 := by rw [<-hW0]; simp
 have TC := hd1 (EX (hr'.later B0) hf);have HB := hd4 B0 r2 r4 s0;have HE := hd5 jV y9 y_ hE1 hE;have HF := hd1 hf;have HL := hd7 hr' hC gF fF hc hl hk;have HW := hd1 hW0;have TL : (Em.tell e.rows).length <= 256 := by rw [Em.pG]; exact hf.gz.good.few
 have HT := hd2 TL (Em.Bv hf.gz.good.rows hf.gz.tidy l);clear B0 r2 r4 s0 hW0 jV y9 y_ hE1 hE hf hr' hC gF fF hc hk TL;generalize hln : l.length = ln at *;have HLN := hd1 hln;clear hln hl;go_in;go_upto_region 1 with fail
 rw [show ((w.alloc (.cells E ah)).alloc (.cells #[.int .i64 0, .int .i64 0, (), (), (), (), (), (), false, .int .i64 0, false, (), .int .i64 0] ah)) = W0 from HW.out];by_cases hd : Em.aX e.rows l = 0
 ·have AC : Hid (∀ (W : World) (F1 : Nat -> Prop) (u : Value), dw W F1 u (Em.tell e.rows) -> Below w w W -> Calls prog 14 #[u, .slice la ln lc] W λ en w' => ∃ a n c, en = .returned (.tuple #[.slice a n c, .int .i64 0]) /\ dw w' (λ b => F1 b \/ W.heap.size <= b) (.slice a n c) (Em.tell (Em.behind e.rows l)) /\ Below W W w') := hd1 (λ W F1 u hu hb => by
   have := FJ hu (Hm HT.1) (HL.2.2.2.2.1.later hb) (Ho HL.2.2.2.2.2.1 HLN.out);rw [HT.2, IE hd] at this;refine this.mono ?_;rintro en w' ⟨v', rfl, p, b⟩;obtain ⟨a, c, rfl⟩ := p.slice;exact ⟨a, _, c, rfl, p, b⟩)
  have HD := hd1 hd;clear hd
  go_upto_region 2 with (first
   | (refine He HB.2.1 H_ N8 ?_)
   | (go_at_call 57; refine TC.mono ?_; rintro en w1 ⟨b1, xa, xn, xc, rfl, p1⟩)
   | (go_at_call 14; refine (AC.out _ _ _ p1 (HB.1.trans (b1.mono HB.1.size))).mono ?_; rintro en w2 ⟨ya, yn, yc, rfl, p2, b2⟩))
  have B2 := hd1 (show Below W0 W0 w2 from b1.trans (b2.mono b1.size));have P2 := hd1 (show dw w2 (λ b => b ≠ w.heap.size /\ b ≠ w.heap.size + 1) (.slice ya yn yc) (Em.tell (Em.behind e.rows l)) from p2.weak (λ b hb _ => by have := HB.2.2.2; have := b1.size; rcases hb with (hb | hb) | hb <;> omega));clear b1 b2 p1 p2 TC AC;have R2 := hd1 ((B2.block _ (aa HB.2.1)).trans HB.2.1);have R4 := hd1 ((B2.block _ (aa HB.2.2.1)).trans HB.2.2.1);have pz := hd1 (HB.1.trans (B2.mono HB.1.size));have k10 := ae R2.out HE.2.2.1;cases hg : e.gone with
  | true =>
   rw [hg] at k10;have HCM := hd1 (x7i HD.out hg);clear hg
   repeat (first
    | (go_big_may; (first
     | (refine He R2.out H_ N8 ?_)
     | (refine aD rfl ah _ _ rfl (w.heap.size + 1) _ rfl rfl ah bM R4.out N8 (by rw [HE.1]; rfl) HE.2.1 ?_; intro W9 bN aS fB)))
    | go_values | go_skip | go_guarded | go_step | go_upon | (simp only [Jb, Jc] at *; go_simp) | (go_values <;> (try go_simp)) | (go_ite <;> go_prune <;> (try go_simp)) | (split <;> (first | (rename_i hx; exact (hx _ rfl).elim) | go_prune)))
   refine IP (results_cell_tmp rfl _ _ (w.heap.size + 1) _ _ _ _ (.int .i64 290) GV GV bN.out H_ rfl N8) rfl ?_;exact Sc
  | false =>
   rw [hg] at k10;have hlive := HF.live hg;obtain ⟨D1, hbt, _, yR, hlen⟩ := hlive;have WC : Hid (∀ W : World, Below W0 W0 W -> Calls prog 48 #[.agg C] W λ en w' => Below W W w' /\ ∃ a n c, en = .returned (.tuple #[.int .i64 (e.tp : Int), .agg #[.int .i64 (e.gen : Int), .slice a n c, .int .i64 (e.aK : Int), .int .i64 (e.fin : Int)]])) := hd1 (λ W hb => by
    have b0 := HB.1.trans (hb.mono HB.1.size);refine (Eo (w := W) (HL.2.2.2.1.keeps (λ k _ hl => b0.block k hl) (λ _ h _ => h)) HF.ok HF.bound (λ k _ => HF.tapes k)).mono ?_;rintro en w' ⟨h1, v1, rfl, a, n, c, rfl, _⟩;rw [hbt];refine ⟨h1, a, n, c, ?_⟩;have : mD (e.tp, (⟨e.gen, D1, e.aK, e.fin⟩ : Em.T)) = (e.tp : Int) := by unfold mD; exact IA yR
    rw [this])
   have HG := hd3 hg yR hlen;have DL : Hid (w2.heap[w.heap.size]? = some (.cells (bT C e.gone (.slice ra rn rc) (dG e)) ah (0, 0))) := hd1 (by rw [HE.2.2.2.2]; exact R2.out);clear hbt hg yR hlen
   go_upto_region 7 with (first
    | (refine vw rfl (.tmp 27) rfl w.heap.size rfl DL.out HL.2.1 ?_)
    | (go_at_call 48; refine (WC.out _ B2.out).mono ?_; rintro en w3 ⟨b3, xa', xn', xc', rfl⟩))
   obtain ⟨T, hT⟩ : ∃ T : Array Value, #[.int .i64 (e.gen : Int), .slice xa' xn' xc', .int .i64 (e.aK : Int), .int .i64 (e.fin : Int)] = T := ⟨_, rfl⟩;obtain ⟨W4, fq⟩ := G8 (w3.alloc (.cells #[(e.gen : Int), .slice xa' xn' xc', (e.aK : Int), (e.fin : Int)] aR));rw [fq];obtain ⟨g9, yS⟩ := G8 w3.heap.size;rw [yS];have B4 : Below w2 w2 W4 := by rw [<-fq]; exact b3.alloc b3.size _
   have R9 : W4.heap[g9]? = some (.cells T aR) := by rw [<-fq, <-hT]; exact bC _ yS.symm
   have S4 : W4.heap.size = g9 + 1 := by rw [<-fq, <-yS]; simp
   have N9 : w2.heap.size <= g9 := by rw [<-yS]; exact b3.size
   have K := hd1 (show T[0]? = some (.int .i64 (e.gen : Int)) /\ T[2]? = some (.int .i64 (e.aK : Int)) /\ T[3]? = some (.int .i64 (e.fin : Int)) by rw [<-hT]; exact ⟨rfl, rfl, rfl⟩);have y2m : Hid (W4.heap[w.heap.size]? = some (.cells (bT C e.gone (.slice ra rn rc) (dG e)) ah (0, 0))) := hd1 ((B4.block _ (aa DL.out)).trans DL.out);have ol := hd4 B4 R9 S4 N9;clear b3 hT fq yS B4 R9 S4 N9 WC k10
   go_upto_region 8 with (first
    | (refine vw rfl (.tmp 32) rfl w.heap.size rfl y2m.out HL.2.1 ?_)
    | (refine aD rfl af _ _ rfl W4.heap.size C rfl rfl af bS (II W4 _) (by rw [aI, HL.2.1]) (by rw [HL.2.1]; rfl) HL.2.2.1 ?_; intro W5 aF az bf))
   obtain ⟨g10, rF⟩ := G8 W4.heap.size;have S8 : iH w W5 F g9 g10 T E C e (.slice ya yn yc) (Em.tell (Em.behind e.rows l)) e.d := by
    have qp : Below W4 W4 W5 := Moves.new (bla) az G7;have uE : Below w2 w2 W5 := ol.1.trans (qp.mono ol.1.size);have nT : Below w w W5 := pz.trans (uE.mono pz.size);have n9 := ol.2.2.2;have s4 := ol.2.2.1;have s2 := B2.size;have s0 := HB.2.2.2;refine ⟨nT, (uE.block _ (aa R2.out)).trans R2.out, (uE.block _ (aa R4.out)).trans R4.out, (qp.block _ (aa ol.2.1)).trans ol.2.1, by rw [<-rF]; exact aF.out, HL.1.later nT, ?_, ?_, ⟨GX, GX⟩, HL.2.1, HL.2.2.1, HF.ok⟩
    ·exact (P2.weak (λ b hb hl => ⟨hb.1, hb.2, GX, GX⟩)).later uE
    ·exact HL.2.2.2.1.keeps (λ k _ hl => nT.block k hl) (λ k h hl => IB ⟨h, hl⟩)
   rw [rF];replace S8 := hd1 S8;clear aF az bf rF ol DL y2m P2 R2 R4 B2;have Ce := (Em.jW HD.out).1;have BL := Em.y1h Ce;have BC := hd1 (λ (W : World) (hb : Below w w W) => x0b (w := W) (HL.2.2.2.2.1.later hb) (by rw [HLN.out]; exact HL.2.2.2.2.2.1) HL.2.2.2.2.2.2);obtain ⟨BB, hBB⟩ := G8 (Em.dU l);rw [hBB] at BL BC;have xG := hd2 hBB BL;clear Ce BL hBB
   go_upto_region 9 with (first
    | (go_at_call 92; refine (BC.out _ S8.below).mono ?_; rintro en w6 ⟨bv, rfl, o6, b6⟩; obtain ⟨ba, bc, rfl⟩ := o6.at.slice)
    | (go_at_call 88; refine (Fe o6.at (IV xG.2 GY)).mono ?_; rintro en w7 ⟨fv, rfl, o7, b7⟩; obtain ⟨fa, fc, rfl⟩ := o7.at.slice))
   have S9 := hd1 (S8.later (b6.trans (b7.mono b6.size)));have Y9 := hd1 (show BytesAt w7.heap (λ _ => True) (.slice fa (Wm.frame BB).length fc) (Wm.frame BB) from o7.at.keeps (λ _ _ _ => rfl) (λ _ _ _ => trivial));clear b6 b7 o6 o7 S8;have BT : Em.aZ l = Em.fO BB := by rw [<-xG.1]; rfl
   have z_ := hd1 BT;clear BT;obtain ⟨FL, Cu⟩ := G8 ((Wm.frame BB).length);rw [Cu] at Y9 ⊢;have je := hd2 Cu (show FL <= 400000 by rw [<-Cu]; have := CG BB; have := xG.2; omega);clear Cu;obtain ⟨bl, hbl⟩ := G8 BB.length;have sD := hd1 hbl;clear hbl;have qF : Hid (∀ q : Prop, q ↔ q) := hd1 (λ _ => Iff.rfl);obtain ⟨bb, hbb⟩ : ∃ bb : Bool, bb = decide (e.aK < 32 /\ bl <= 8192 /\ (e.fin : Int) + (FL : Int) <= e.d.room / 2) := ⟨_, rfl⟩;have uV := hd1 hbb;clear hbb qF;go_cut [57] (λ s57 wx => s57 = .bool bb /\ iH w wx F g9 g10 T E C e (.slice ya yn yc) (Em.tell (Em.behind e.rows l)) e.d /\ BytesAt wx.heap (λ _ => True) (.slice fa FL fc) (Wm.frame BB))
   case first =>
    have k92 := ae S9.r9 K.2.1;have GH := ae S9.r9 K.2.2;have kr := ae S9.r2 HE.2.2.2.1;have hr0 := HF.ok.pR;have hr1 := HF.room;have hfl := je.2;have w1d := HF.gz.good.aK;have hfin := HF.gz.good.fin;have ew : IntKind.i64.wrap ((e.fin : Int) + (FL : Int)) = (e.fin : Int) + (FL : Int) := Jd _ GX;have g5 : (e.d.room).tdiv 2 = e.d.room / 2 := Mk hr0;have g6 : IntKind.i64.wrap (e.d.room / 2) = e.d.room / 2 := Jd _ GX;by_cases h1 : e.aK < 32
    ·have h1' : (e.aK : Int) < 32 := GX
     by_cases h2 : bl <= 8192
     ·have h2' : (bl : Int) <= 8192 := GX
      by_cases h3 : (e.fin : Int) + (FL : Int) <= e.d.room / 2
      ·have hb : bb = true := by rw [uV.out]; simp [h1, h2, h3]
       exact Pt
      ·have hb : bb = false := by rw [uV.out]; simp [h3]
       subst hb;go_wp2_with (go_at_call 92; refine (BC.out _ S9.below).mono ?_; rintro en w10 ⟨wV, rfl, q8, b10⟩; obtain ⟨ba2, bc2, rfl⟩ := q8.at.slice; rw [sD.out]; have z8d := aN b10 GH; have kr' := aN b10 kr; clear q8)
       go_meet
       case rel => exact ⟨IK Value.bool (J7 GX), S9.later b10, Y9.below b10⟩
     ·have h2' : ¬ (bl : Int) <= 8192 := GX
      have hb : bb = false := by rw [uV.out]; simp [h2]
      exact Pt
    ·have hb : bb = false := by rw [uV.out]; simp [h1]
     subst hb;have h1' : ¬ (e.aK : Int) < 32 := GX;go_wp2;go_meet
     case rel => exact ⟨rfl, S9.out, Y9.out⟩
   case rest =>
    obtain ⟨rfl, lW, Dy⟩ := hcut;replace lW := hd1 lW;replace Dy := hd1 Dy;clear S9 Y9 BC;go_upto_if 57 with fail
    go_cut [] (λ wx => iH w wx F g9 g10 T E C e (.slice ya yn yc) (Em.tell (Em.behind e.rows l)) e.d /\ (bb = false \/ Em.wrote e.d e.tp (Em.aZ l) = (e.d, 280)))
    case first =>
     cases bb with
     | false =>
      go_wp2;go_meet
      case rel => exact ⟨lW.out, IB (by trivial)⟩
     | true =>
      obtain ⟨h1, h2, h3⟩ : e.aK < 32 /\ bl <= 8192 /\ (e.fin : Int) + (FL : Int) <= e.d.room / 2 := of_decide_eq_true uV.symm;have DX := hd1 (show Em.aZ l = Wm.frame BB by rw [z_.out]; exact Em.uj Nr);have hpos : 0 < FL := by
       have := (Em.CE (b := BB) Nr).2;rw [Em.uj Nr, je.1] at this;exact this
      have HQ := hd1 (show ¬ (32 <= e.aK \/ (Em.aZ l).length = 0 \/ e.d.room / 2 < e.fin + (Em.aZ l).length) by rw [DX.out, je.1]; omega);have mf := hd2 HF.gz.good.tp (HF.gz.sound HG.1).dead;have HA := Dv mf.2 mf.1 (Wm.frame BB);have AC := FI lW.ref lW.ok (IV HF.waits GY) (e.tp : Int) Dy.out (by have h := je.out; rw [h.1]; omega);have ku := Dc (t := (e.tp : Int)) lW.ok (Hm mf.1) (Hm mf.1) (Wm.frame BB);have W2 := Em.wP e.d (e.tp : Int) (Wm.frame BB);obtain ⟨r2, hr2⟩ := G8 (e.d.append (e.tp : Int) (Wm.frame BB));rw [hr2] at AC ku W2 HA;obtain ⟨d2, e2⟩ := r2;have HR2 := hd1 hr2;replace AC := hd1 AC;replace ku := hd1 ku;replace W2 := hd1 W2;replace HA := hd1 HA;clear hr2 h1 h2 h3 hpos
      go_upto_region 11 with (first
       | (refine He lW.eU Hz (by rw [aI, lW.size]) ?_)
       | (go_at_call 51; refine AC.mono ?_; rintro en w11 ⟨v11, rfl, b11, f11⟩; obtain ⟨C11, rfl, _, _⟩ := f11.cells)
       | (refine aD rfl af _ _ rfl g10 _ rfl rfl af _ ((b11.block _ (aa lW.eU)).trans lW.eU) (by obtain ⟨_, e, h1, _⟩ := f11.cells; cases e; rw [aI, h1]) (by obtain ⟨_, e, h1, _⟩ := f11.cells; cases e; rw [h1, lW.size]) (by obtain ⟨_, e, _, h2⟩ := f11.cells; cases e; exact h2) ?_; intro W11 y2f y2a w1s))
      have gJ := hd1 (lW.call b11 G6 f11 y2a y2f.out ku.out);clear b11 f11 y2f y2a w1s AC;rcases HA.out with hA | ⟨s, hA⟩ | ⟨s, hA⟩
      ·have q1 : d2 = e.d := IK Prod.fst hA
       have q2 : e2 = 280 := IK Prod.snd hA;clear hA HA;subst q2;replace gJ := hd1 (show iH w W11 F g9 g10 T E C11 e (.slice ya yn yc) (Em.tell (Em.behind e.rows l)) e.d by rw [<-q1]; exact gJ.out);have ig := hd1 (show Em.wrote e.d e.tp (Em.aZ l) = (e.d, 280) by rw [DX.out]; unfold Em.wrote Em.next; rw [HR2.out, q1]; exact IA (show ¬ (280 : Int) = 0 by decide));have RL := hd1 (show W11.heap[w.heap.size]? = some (.cells (bT C e.gone (.slice ra rn rc) (dG e)) ah (0, 0)) by rw [HE.2.2.2.2]; exact gJ.r2);clear q1
       go_wp2_with (first
        | (refine vw rfl (.tmp 83) rfl w.heap.size rfl RL.out HL.2.1 ?_)
        | (refine aD rfl af _ _ rfl g10 _ rfl rfl af _ gJ.eU (by rw [aI, HL.2.1]) (by rw [HL.2.1, gJ.size]) HL.2.2.1 ?_; intro W12 DV DY y2e))
       go_meet
       case rel => exact ⟨gJ.call G6 G6 (HL.2.2.2.1.keeps (λ k _ hl => gJ.below.block k hl) (λ k h hl => IB (IB ⟨h, hl⟩))) DY DV.out HF.ok, IC ig.out⟩
      ·have q2 : e2 = 0 := IK Prod.snd hA
       have q3 : d2.dead = false := by rw [show d2 = _ from IK Prod.fst hA]; exact mf.2
       clear hA HA;subst q2;have SC := vL gJ.ref gJ.ok (by have := HF.waits; have h : d2.waits.length <= e.d.waits.length + 1 := W2.out; omega);have ic := wM gJ.ok;have HB3 := xZ q3;have ig : Em.wrote e.d e.tp (Em.aZ l) = d2.sync := by rw [DX.out]; unfold Em.wrote Em.next; rw [HR2.out]; exact IE rfl
       obtain ⟨r3, hr3⟩ := G8 d2.sync;rw [hr3] at SC ic HB3 ig;obtain ⟨d3, e3⟩ := r3;replace SC := hd1 SC;replace ic := hd1 ic;replace ig := hd1 ig;replace HB3 := hd1 (show e3 = 0 \/ e3 = 281 by rcases HB3 with ⟨s', h⟩ | ⟨s', h⟩; exact IB (IK Prod.snd h); exact IC (IK Prod.snd h));clear hr3 q3
       go_upto_region 13 with (first
        | (refine He gJ.eU Hz (by rw [aI, gJ.size]) ?_)
        | (go_at_call 53; refine SC.mono ?_; rintro en w12 ⟨v12, rfl, b12, f12⟩; obtain ⟨C12, rfl, _, _⟩ := f12.cells)
        | (refine aD rfl af _ _ rfl g10 _ rfl rfl af _ ((b12.block _ (aa gJ.eU)).trans gJ.eU) (by obtain ⟨_, e, h1, _⟩ := f12.cells; cases e; rw [aI, h1]) (by obtain ⟨_, e, h1, _⟩ := f12.cells; cases e; rw [h1, gJ.size]) (by obtain ⟨_, e, _, h2⟩ := f12.cells; cases e; exact h2) ?_; intro W12 DV DY y2e))
       have jL := hd1 (gJ.call b12 G6 f12 DY DV.out ic.out);clear b12 f12 DV DY y2e SC gJ;rcases HB3.out with q | q
       ·clear HB3
        subst q
        repeat (first
         | (go_big_may; (first
          | (refine He jL.eU Hz (by rw [aI, jL.size]) ?_)
          | (refine iT rfl ah _ rfl _ (by simp only [Js, Jo, Jr, Act.eval]; exact jH jL.ref) ?_)
          | (refine aD rfl ah _ _ rfl (w.heap.size + 1) _ rfl rfl ah bM jL.r4 (by rw [aY, aW jL.size]) (by rw [aW jL.size]; rfl) (eB jL.ones _ _ _ _ _) ?_; intro W9 bN aS fB)))
         | go_values | go_skip | go_guarded | go_step | go_upon | (simp only [Jb, Jc] at *; go_simp) | (go_values <;> (try go_simp)) | (go_ite <;> go_prune <;> (try go_simp)) | (split <;> (first | (rename_i hx; exact (hx _ rfl).elim) | go_prune)))
        refine IP (results_cell_tmp rfl _ _ (w.heap.size + 1) _ _ _ _ (.int .i64 0) GV GV bN.out H_ rfl (by rw [aY, aW jL.size])) rfl ?_;exact jL.give aS (Gn HD.out HG.1 HQ.out ig.out (IB rfl))
       ·clear HB3
        subst q
        repeat (first
         | (go_big_may; (first
          | (refine He jL.r2 H_ N8 ?_)
          | (refine He jL.eU Hz (by rw [aI, jL.size]) ?_)
          | (go_at_call 93; refine (yt jL.out HF.out).mono ?_; rintro en wg ⟨vg, rfl, bg, lg⟩; obtain ⟨Cg, ga, gn, gc, rfl, iM, qd, rest⟩ := id lg; have LG := hd1 lg; clear lg rest)
          | (refine aD rfl ah _ _ rfl (w.heap.size + 1) _ rfl rfl ah bM ((bg.block _ (aa jL.r4)).trans jL.r4) NU NI (eB qd _ _ _ _ _) ?_; intro W9 bN aS fB)))
         | go_values | go_skip | go_guarded | go_step | go_upon | (simp only [Jb, Jc] at *; go_simp) | (go_values <;> (try go_simp)) | (go_ite <;> go_prune <;> (try go_simp)) | (split <;> (first | (rename_i hx; exact (hx _ rfl).elim) | go_prune)))
        refine IP (results_cell_tmp rfl _ _ (w.heap.size + 1) _ _ _ _ (.int .i64 281) GV GV bN.out H_ rfl NU) rfl ?_;exact jL.lost bg LG.out aS (Gn HD.out HG.1 HQ.out ig.out (IC rfl)) rfl
      ·have q2 : e2 = 281 := IK Prod.snd hA
       clear hA HA;subst q2;have ig := hd1 (show Em.wrote e.d e.tp (Em.aZ l) = (d2, 281) by rw [DX.out]; unfold Em.wrote Em.next; rw [HR2.out]; exact IA (show ¬ (281 : Int) = 0 by decide))
       repeat (first
        | (go_big_may; (first
         | (refine He gJ.r2 H_ N8 ?_)
         | (refine He gJ.eU Hz (by rw [aI, gJ.size]) ?_)
         | (go_at_call 93; refine (yt gJ.out HF.out).mono ?_; rintro en wg ⟨vg, rfl, bg, lg⟩; obtain ⟨Cg, ga, gn, gc, rfl, iM, qd, rest⟩ := id lg; have LG := hd1 lg; clear lg rest)
         | (refine aD rfl ah _ _ rfl (w.heap.size + 1) _ rfl rfl ah bM ((bg.block _ (aa gJ.r4)).trans gJ.r4) NU NI (eB qd _ _ _ _ _) ?_; intro W9 bN aS fB)))
        | go_values | go_skip | go_guarded | go_step | go_upon | (simp only [Jb, Jc] at *; go_simp) | (go_values <;> (try go_simp)) | (go_ite <;> go_prune <;> (try go_simp)) | (split <;> (first | (rename_i hx; exact (hx _ rfl).elim) | go_prune)))
       refine IP (results_cell_tmp rfl _ _ (w.heap.size + 1) _ _ _ _ (.int .i64 281) GV GV bN.out H_ rfl NU) rfl ?_;exact gJ.lost bg LG.out aS (Gn HD.out HG.1 HQ.out ig.out (IC rfl)) rfl
    case rest =>
     obtain ⟨lV, hq⟩ := hcut
     have HQ := hd1 (show (32 <= e.aK \/ (Em.aZ l).length = 0 \/ e.d.room / 2 < e.fin + (Em.aZ l).length) \/ Em.wrote e.d e.tp (Em.aZ l) = (e.d, 280) by
      rcases hq with hq | hq
      ·have hb := of_decide_eq_false (uV.symm.trans hq)
       left
       rw [z_.out];by_cases h2 : bl <= 8192
       ·rw [Em.uj Nr, je.1]
        omega
       ·refine IC (IB ?_)
        unfold Em.fO;rw [IE (by rw [sD.out]; omega)];rfl
      ·exact IC hq)
     clear hq lW Dy uV;have k90 := ae lV.r9 K.1;have hgm := HF.gz.good.gen;replace lV := hd1 lV;by_cases hm : 2147483647 <= e.gen
     ·have HCM := hd1 (x8z HD.out HG.1 HQ.out hm)
      have he : (e.gen : Int) = 2147483647 := GX;rw [he] at k90;clear hm he hgm
      repeat (first
       | (go_big_may; (first
        | (refine He lV.r2 H_ N8 ?_)
        | (refine aD rfl ah _ _ rfl (w.heap.size + 1) _ rfl rfl ah bM lV.r4 N8 (by rw [HE.1]; rfl) HE.2.1 ?_; intro W9 bN aS fB)))
       | go_values | go_skip | go_guarded | go_step | go_upon | (simp only [Jb, Jc] at *; go_simp) | (go_values <;> (try go_simp)) | (go_ite <;> go_prune <;> (try go_simp)) | (split <;> (first | (rename_i hx; exact (hx _ rfl).elim) | go_prune)))
      refine IP (results_cell_tmp rfl _ _ (w.heap.size + 1) _ _ _ _ (.int .i64 280) GV GV bN.out H_ rfl N8) rfl ?_;rw [HCM.out];exact iH.same lV.log lV.below aS rfl
     ·have HM := hd1 hm
      have hne : ¬ (e.gen : Int) = 2147483647 := GX;have mf := hd2 HF.gz.good.tp (HF.gz.sound HG.1).dead;obtain ⟨oi, hoi⟩ : ∃ oi : Int, oi = ((1 - e.tp : Nat) : Int) := ⟨_, rfl⟩;have hw1 : IntKind.i64.wrap (1 - (e.tp : Int)) = oi := by rw [Jd _ (Hm mf.1), hoi]; have := mf.1; omega
      have qC := hd2 hoi (show 0 <= oi /\ oi <= 3 by omega);have ST := hd1 (qQ lV.ref lV.ok (IV HF.waits GY));have wD := y1n;have w1h : ((e.gen : Int) == 2147483647) = false := by simp [hne]
      clear hm hoi hgm
      go_upto_if 96 with (first
       | (refine He lV.eU Hz (by rw [aI, lV.size]) ?_)
       | (go_at_call 49; refine ST.mono ?_; rintro en w20 ⟨sv, u0, u1, u2, u3, rfl, b20, x1z⟩
          obtain ⟨secs, _, _, y0, y1, y2, y3⟩ := x1z;obtain ⟨a0, c0, rfl⟩ := y0.slice;obtain ⟨a1, c1, rfl⟩ := y1.slice;obtain ⟨a2, c2, rfl⟩ := y2.slice;obtain ⟨a3, c3, rfl⟩ := y3.slice;obtain ⟨ax, nx, cx, hix, hnx⟩ := y5n a0 a1 a2 a3 (e.d.stand.tp 0).length (e.d.stand.tp 1).length (e.d.stand.tp 2).length (e.d.stand.tp 3).length c0 c1 c2 c3 mf.1 qC.1;have zU := hd1 hnx;clear hnx y0 y1 y2 y3))
      have mU := hd1 (lV.later b20);clear b20 lV ST hix wD;have hnx : nx = (e.d.stand.tp (1 - e.tp : Nat)).length := by
       have h := zU.out;rcases Nat.le_one_iff_eq_zero_or_eq_one.1 mf.1 with q | q
       ·rw [h.1 q, q]; rfl
       ·rw [h.2 q, q]; rfl
      have zU := hd1 hnx;clear hnx;go_cut [] (λ wx => ∃ (C1 : Array Value) (d1 : D), Em.bZ e.d (1 - e.tp) = (d1, 0) /\ d1.dead = false /\ d1.waits.length <= e.d.waits.length + 1 /\ iH w wx F g9 g10 T E C1 e (.slice ya yn yc) (Em.tell (Em.behind e.rows l)) d1)
      case first =>
       by_cases hz : nx = 0
       ·have hz1 : ¬ (0 : Int) < (nx : Int) := GX
        have uU := hd1 (show Em.bZ e.d (1 - e.tp) = (e.d, 0) by unfold Em.bZ; rw [IE (by rw [<-zU.out]; exact hz)]);clear hz;go_wp2;go_meet
        case rel => exact ⟨C, e.d, uU.out, mf.2, Nat.le_succ _, mU.out⟩
       ·have hz1 : (0 : Int) < (nx : Int) := GX
        have uU := hd1 (show Em.bZ e.d (1 - e.tp) = e.d.cut oi 0 by unfold Em.bZ; rw [IA (by rw [<-zU.out]; exact hz), qC.1]);have CC := Bq mU.ref mU.ok (IV HF.waits GY) oi 0;have l6 := Db (t := oi) (n := 0) mU.ok (Hm qC.2) (Hm qC.2);have W1 := Em.wO e.d oi 0;have HA := y0d mf.2 (t := 1 - e.tp) GX;rw [<-qC.1] at HA;obtain ⟨r1, hr1⟩ := G8 (e.d.cut oi 0);rw [hr1] at CC l6 W1 HA;have HR1 := hd1 hr1;clear hr1 hz;obtain ⟨d1, e1⟩ := r1;replace CC := hd1 CC;replace l6 := hd1 l6;replace W1 := hd1 W1;replace HA := hd1 HA
        go_upto_region 22 with (first
         | (refine He mU.eU Hz (by rw [aI, mU.size]) ?_)
         | (go_at_call 50; refine CC.mono ?_; rintro en w21 ⟨v21, rfl, b21, f21⟩; obtain ⟨C21, rfl, _, _⟩ := f21.cells)
         | (refine aD rfl af _ _ rfl g10 _ rfl rfl af _ ((b21.block _ (aa mU.eU)).trans mU.eU) (by obtain ⟨_, e, h1, _⟩ := f21.cells; cases e; rw [aI, h1]) (by obtain ⟨_, e, h1, _⟩ := f21.cells; cases e; rw [h1, mU.size]) (by obtain ⟨_, e, _, h2⟩ := f21.cells; cases e; exact h2) ?_; intro W21 y2g y2b w1t))
        have rY := hd1 (mU.call b21 G6 f21 y2b y2g.out l6.out);clear b21 f21 y2g y2b w1t mU CC;rcases HA.out with ⟨s, hA⟩ | ⟨s, hA⟩
        ·have q2 : e1 = 0 := IK Prod.snd hA
         have q3 : d1.dead = false := by rw [show d1 = _ from IK Prod.fst hA]; exact mf.2
         clear hA HA;subst q2;have HD1 := hd1 q3;clear q3;go_wp2;go_meet
         case rel => exact ⟨C21, d1, uU.trans HR1.out, HD1.out, W1.out, rY.out⟩
        ·have q2 : e1 = 281 := IK Prod.snd hA
         clear hA HA;subst q2
         have ig := hd1 (show Em.bK e.d (1 - e.tp) (Em.folded (e.gen + 1) (Em.behind e.rows l)) = (d1, 281) by
          unfold Em.bK;rw [uU.out, HR1.out];unfold Em.next;rw [IA (show ¬ (281 : Int) = 0 by decide), IA (show ¬ (281 : Int) = 0 by decide)])
         repeat (first
          | (go_big_may; (first
           | (refine He rY.r2 H_ N8 ?_)
           | (refine He rY.eU Hz (by rw [aI, rY.size]) ?_)
           | (go_at_call 93; refine (yt rY.out HF.out).mono ?_; rintro en wg ⟨vg, rfl, bg, lg⟩; obtain ⟨Cg, ga, gn, gc, rfl, iM, qd, rest⟩ := id lg; have LG := hd1 lg; clear lg rest)
           | (refine aD rfl ah _ _ rfl (w.heap.size + 1) _ rfl rfl ah bM ((bg.block _ (aa rY.r4)).trans rY.r4) NU NI (eB qd _ _ _ _ _) ?_; intro W9 bN aS fB)))
          | go_values | go_skip | go_guarded | go_step | go_upon | (simp only [Jb, Jc] at *; go_simp) | (go_values <;> (try go_simp)) | (go_ite <;> go_prune <;> (try go_simp)) | (split <;> (first | (rename_i hx; exact (hx _ rfl).elim) | go_prune)))
         refine IP (results_cell_tmp rfl _ _ (w.heap.size + 1) _ _ _ _ (.int .i64 281) GV GV bN.out H_ rfl NU) rfl ?_;exact rY.lost bg LG.out aS (yJ HD.out HG.1 HQ.out HM.out ig.out) rfl
      case rest =>
       obtain ⟨C1, d1, he1, hdd, hw, j_⟩ := hcut;replace j_ := hd1 j_;have zZ := hd3 he1 hdd hw;clear he1 hdd hw mU zU;have uQ := Em.qV HF.gz.good.rows (Em.jW HD.out).1;have HSZ := (Em.jW HD.out).2;obtain ⟨g1, hg1⟩ : ∃ g1 : Int, g1 = ((e.gen + 1 : Nat) : Int) := ⟨_, rfl⟩;have hw2 : IntKind.i64.wrap ((e.gen : Int) + 1) = g1 := by rw [Jd _ (Hm HF.gz.good.gen), hg1]; omega
       have HH := hd1 (show ∀ W : World, Below wc wc W -> Calls prog 52 #[.int .i64 g1, .slice ya yn yc] W (gP W (Em.jU (e.gen + 1) (Em.tell (Em.behind e.rows l)))) from λ W hb => by
        rw [hg1];exact Fa (j_.rows.later hb) (by rw [Em.pG]; omega) (λ r hr => by
         obtain ⟨k1, k2, k3⟩ := Em.z3l uQ hr;exact ⟨k3, by rw [<-k2]; exact Em.vC uQ _⟩) (Hm HF.gz.good.gen))
       have zY := z0v (e.gen + 1) uQ;have je : (Em.jU (e.gen + 1) (Em.tell (Em.behind e.rows l))).length <= 4000000 := by rw [zY]; exact IV (Em.um _ HSZ) GY
       obtain ⟨hF, oM⟩ := G8 (Em.jU (e.gen + 1) (Em.tell (Em.behind e.rows l)));rw [oM] at HH je zY;replace zY := hd1 zY;replace je := hd1 je;clear oM hg1 HSZ uQ;have ne : Nonempty (Wd (Below wc wc)) := ⟨⟨_, Below.refl _ _⟩⟩;have LD : Hid (∀ w', (∃ x : Wd (Below wc wc), w' = x.world) -> (Instr.loadAt af (.pointer (some g10))).run prog w' = .ok (.agg C1) w') := by
        rintro w' ⟨x, rfl⟩;exact gy ((x.ok.block _ (aa j_.eU)).trans j_.eU) Hz rfl (by rw [aI, j_.size])
       have f90 : ∀ x : Wd (Below wc wc), x.world.cell? g9 = some (.int .i64 (e.gen : Int)) := λ x => aN x.ok (ae j_.r9 K.1);have ku := Dc (t := oi) j_.ok (Hm qC.2) (Hm qC.2) hF;have W2 := Em.wP d1 oi hF;have HA := Dv zZ.2.1 (t := 1 - e.tp) GX hF;rw [<-qC.1] at HA;obtain ⟨r2, hr2⟩ := G8 (d1.append oi hF);rw [hr2] at ku W2 HA;obtain ⟨d2, e2⟩ := r2;replace W2 := hd1 W2;replace ku := hd1 ku;replace HA := hd1 HA;have AC : Hid (∀ (W : World) (bv : Value), Below wc wc W -> BytesAt W.heap (λ _ => True) bv hF -> Calls prog 51 #[.agg C1, .int .i64 oi, bv] W (il W (n_ F w (g10 + 1)) (d2, e2))) := hd1 (λ W bv hb hy => by
        have := z6a ((j_.later hb).ref) j_.ok (Ho HF.waits zZ.2.2) oi hy je.out;rw [hr2] at this;exact this)
       have HRW := hd1 (show Em.bK e.d (1 - e.tp) (Em.folded (e.gen + 1) (Em.behind e.rows l)) = Em.next (d2, e2) D.sync by
        rw [<-zY.out, y9j _ zZ.1, <-qC.1, hr2])
       clear hr2;go_upto_region 24 with fail
       refine bD (λ w' => ∃ x : Wd (Below wc wc), w' = x.world) [10, 11, 12, 13] GV ?_;refine aL [0, 1, 2, 3, 4, 5, 6] 7 _ Hu GV ?_;simp only [fmc, fmn, gta, gcs, gcz];refine eH rfl af (.tmp 10) rfl _ LD.out ?_;repeat refine Ha ?_
       refine aB ?_;refine aA 7 6 _ _ rfl GV ?_;refine IJ rfl λ K hK => ?_;go_simp;go_at_call 52;refine (HH.out _ G6.drew).mono ?_;rintro en w24 ⟨hv, rfl, z7l, b24⟩;have wW : Below wc wc w24 := G6.drew.trans b24;have Y24 := hd1 (show BytesAt w24.heap (λ _ => True) hv hF from z7l.at.keeps (λ _ _ _ => rfl) (λ _ _ _ => trivial));clear z7l b24;refine hK _ _ (IG ⟨rfl, λ _ => ⟨⟨_, wW⟩, rfl⟩, ?_⟩);clear hK K;obtain ⟨ha, hc, rfl⟩ := Y24.slice;refine aA 8 5 _ _ rfl GV ?_;refine IJ rfl λ K hK => ?_;go_simp;go_at_call 51;refine (AC.out _ _ wW Y24.out).mono ?_;rintro en w25 ⟨v25, rfl, uE, f25⟩;obtain ⟨C25, rfl, z0r, z9q⟩ := f25.cells;have zI : Below wc wc w25 := wW.trans (uE.mono wW.size);refine hK _ _ (IG ⟨rfl, λ _ => ⟨⟨_, zI⟩, rfl⟩, ?_⟩);clear hK K;refine aL [9] 4 _ ⟨⟨_, zI⟩, rfl⟩ GV ?_;refine Hd ?_;refine eY [10, 11] 2 _ GV ?_;refine Hd ?_;refine aA 12 1 _ _ rfl GV ?_;refine aD rfl af _ _ rfl g10 _ rfl rfl af _ ((zI.block _ (aa j_.eU)).trans j_.eU) (by rw [aI, z0r]) (by rw [z0r, j_.size]) z9q ?_;intro W24 y2h y2c w1u;refine IG ⟨rfl, λ h => absurd GY h, ?_⟩;refine aA 13 0 _ _ rfl GV ?_;refine IJ rfl λ K hK => ?_;go_simp;refine hK _ _ (IG ⟨rfl, λ h => absurd GY h, GV, ?_⟩);clear hK K;have fP := hd1 (j_.call zI wW f25 y2c y2h.out ku.out);clear zI wW uE f25 y2h y2c w1u Y24 AC HH z0r z9q ne LD f90 j_;rcases HA.out with hA | ⟨s, hA⟩ | ⟨s, hA⟩
       ·have q2 : e2 = 280 := IK Prod.snd hA
        clear hA HA;subst q2;have ig := hd1 (HRW.trans (show Em.next (d2, (280 : Int)) D.sync = (d2, 280) from IA (show ¬ (280 : Int) = 0 by decide)))
        repeat (first
         | (go_big_may; (first
          | (refine He fP.eU Hz (by rw [aI, fP.size]) ?_)
          | (refine iT rfl ah _ rfl _ (by simp only [Js, Jo, Jr, Act.eval]; exact jH fP.ref) ?_)
          | (refine aD rfl ah _ _ rfl (w.heap.size + 1) _ rfl rfl ah bM fP.r4 (by rw [aY, aW fP.size]) (by rw [aW fP.size]; rfl) (eB fP.ones _ _ _ _ _) ?_; intro W9 bN aS fB)))
         | go_values | go_skip | go_guarded | go_step | go_upon | (simp only [Jb, Jc] at *; go_simp) | (go_values <;> (try go_simp)) | (go_ite <;> go_prune <;> (try go_simp)) | (split <;> (first | (rename_i hx; exact (hx _ rfl).elim) | go_prune)))
        refine IP (results_cell_tmp rfl _ _ (w.heap.size + 1) _ _ _ _ (.int .i64 280) GV GV bN.out H_ rfl (by rw [aY, aW fP.size])) rfl ?_;exact fP.give aS (yJ HD.out HG.1 HQ.out HM.out ig.out)
       ·have q2 : e2 = 0 := IK Prod.snd hA
        have q3 : d2.dead = false := by rw [show d2 = _ from IK Prod.fst hA]; exact zZ.2.1
        clear hA HA;subst q2;have SC := vL fP.ref fP.ok (by have := HF.waits; have h : d2.waits.length <= d1.waits.length + 1 := W2.out; have := zZ.2.2; show d2.waits.length <= 1000000000000; omega);have ic := wM fP.ok;have HB3 := xZ q3;have ig := HRW.trans (show Em.next (d2, (0 : Int)) D.sync = d2.sync from IE rfl);obtain ⟨r3, hr3⟩ := G8 d2.sync;rw [hr3] at SC ic HB3 ig;obtain ⟨d3, e3⟩ := r3;replace SC := hd1 SC;replace ic := hd1 ic;replace ig := hd1 ig;replace HB3 := hd1 (show e3 = 0 \/ e3 = 281 by rcases HB3 with ⟨s', h⟩ | ⟨s', h⟩; exact IB (IK Prod.snd h); exact IC (IK Prod.snd h));clear hr3 q3
        go_upto_region 29 with (first
         | (refine He fP.eU Hz (by rw [aI, fP.size]) ?_)
         | (go_at_call 53; refine SC.mono ?_; rintro en w28 ⟨v28, rfl, b28, f28⟩; obtain ⟨C28, rfl, _, _⟩ := f28.cells)
         | (refine aD rfl af _ _ rfl g10 _ rfl rfl af _ ((b28.block _ (aa fP.eU)).trans fP.eU) (by obtain ⟨_, e, h1, _⟩ := f28.cells; cases e; rw [aI, h1]) (by obtain ⟨_, e, h1, _⟩ := f28.cells; cases e; rw [h1, fP.size]) (by obtain ⟨_, e, _, h2⟩ := f28.cells; cases e; exact h2) ?_; intro W28 y2i y2d w1v))
        have jK := hd1 (fP.call b28 G6 f28 y2d y2i.out ic.out);clear b28 f28 y2i y2d w1v SC fP;rcases HB3.out with q | q
        ·clear HB3
         subst q
         repeat (first
          | (go_big_may; (first
           | (refine He jK.eU Hz (by rw [aI, jK.size]) ?_)
           | (refine iT rfl ah _ rfl _ (by simp only [Js, Jo, Jr, Act.eval]; exact jH jK.ref) ?_)
           | (refine aD rfl ah _ _ rfl (w.heap.size + 1) _ rfl rfl ah bM jK.r4 (by rw [aY, aW jK.size]) (by rw [aW jK.size]; rfl) (eB jK.ones _ _ _ _ _) ?_; intro W9 bN aS fB)))
          | go_values | go_skip | go_guarded | go_step | go_upon | (simp only [Jb, Jc] at *; go_simp) | (go_values <;> (try go_simp)) | (go_ite <;> go_prune <;> (try go_simp)) | (split <;> (first | (rename_i hx; exact (hx _ rfl).elim) | go_prune)))
         refine IP (results_cell_tmp rfl _ _ (w.heap.size + 1) _ _ _ _ (.int .i64 0) GV GV bN.out H_ rfl (by rw [aY, aW jK.size])) rfl ?_;exact jK.give aS (yJ HD.out HG.1 HQ.out HM.out ig.out)
        ·clear HB3
         subst q
         repeat (first
          | (go_big_may; (first
           | (refine He jK.r2 H_ N8 ?_)
           | (refine He jK.eU Hz (by rw [aI, jK.size]) ?_)
           | (go_at_call 93; refine (yt jK.out HF.out).mono ?_; rintro en wg ⟨vg, rfl, bg, lg⟩; obtain ⟨Cg, ga, gn, gc, rfl, iM, qd, rest⟩ := id lg; have LG := hd1 lg; clear lg rest)
           | (refine aD rfl ah _ _ rfl (w.heap.size + 1) _ rfl rfl ah bM ((bg.block _ (aa jK.r4)).trans jK.r4) NU NI (eB qd _ _ _ _ _) ?_; intro W9 bN aS fB)))
          | go_values | go_skip | go_guarded | go_step | go_upon | (simp only [Jb, Jc] at *; go_simp) | (go_values <;> (try go_simp)) | (go_ite <;> go_prune <;> (try go_simp)) | (split <;> (first | (rename_i hx; exact (hx _ rfl).elim) | go_prune)))
         refine IP (results_cell_tmp rfl _ _ (w.heap.size + 1) _ _ _ _ (.int .i64 281) GV GV bN.out H_ rfl NU) rfl ?_;exact jK.lost bg LG.out aS (yJ HD.out HG.1 HQ.out HM.out ig.out) rfl
       ·have q2 : e2 = 281 := IK Prod.snd hA
        clear hA HA;subst q2;have ig := hd1 (HRW.trans (show Em.next (d2, (281 : Int)) D.sync = (d2, 281) from IA (show ¬ (281 : Int) = 0 by decide)))
        repeat (first
         | (go_big_may; (first
          | (refine He fP.r2 H_ N8 ?_)
          | (refine He fP.eU Hz (by rw [aI, fP.size]) ?_)
          | (go_at_call 93; refine (yt fP.out HF.out).mono ?_; rintro en wg ⟨vg, rfl, bg, lg⟩; obtain ⟨Cg, ga, gn, gc, rfl, iM, qd, rest⟩ := id lg; have LG := hd1 lg; clear lg rest)
          | (refine aD rfl ah _ _ rfl (w.heap.size + 1) _ rfl rfl ah bM ((bg.block _ (aa fP.r4)).trans fP.r4) NU NI (eB qd _ _ _ _ _) ?_; intro W9 bN aS fB)))
         | go_values | go_skip | go_guarded | go_step | go_upon | (simp only [Jb, Jc] at *; go_simp) | (go_values <;> (try go_simp)) | (go_ite <;> go_prune <;> (try go_simp)) | (split <;> (first | (rename_i hx; exact (hx _ rfl).elim) | go_prune)))
        refine IP (results_cell_tmp rfl _ _ (w.heap.size + 1) _ _ _ _ (.int .i64 281) GV GV bN.out H_ rfl NU) rfl ?_;exact fP.lost bg LG.out aS (yJ HD.out HG.1 HQ.out HM.out ig.out) rfl
 ·have AC : Hid (∀ (W : World) (F1 : Nat -> Prop) (u : Value), dw W F1 u (Em.tell e.rows) -> Below w w W -> Calls prog 14 #[u, .slice la ln lc] W λ en w' => ∃ a n c, en = .returned (.tuple #[.slice a n c, .int .i64 (Em.aX e.rows l)]) /\ Below W W w') := hd1 (λ W F1 u hu hb => by
   have := FJ hu (Hm HT.1) (HL.2.2.2.2.1.later hb) (Ho HL.2.2.2.2.2.1 HLN.out);rw [HT.2, IA hd] at this;refine this.mono ?_;rintro en w' ⟨v', rfl, p, b⟩;obtain ⟨a, c, rfl⟩ := p.slice;exact ⟨a, _, c, rfl, b⟩)
  have HCM := hd1 (x7b hd);generalize Em.aX e.rows l = er at *
  go_upto_region 2 with (first
   | (refine He HB.2.1 H_ N8 ?_)
   | (go_at_call 57; refine TC.mono ?_; rintro en w1 ⟨b1, xa, xn, xc, rfl, p1⟩)
   | (go_at_call 14; refine (AC.out _ _ _ p1 (HB.1.trans (b1.mono HB.1.size))).mono ?_; rintro en w2 ⟨ya, yn, yc, rfl, b2⟩))
  have B2 := hd1 (show Below W0 W0 w2 from b1.trans (b2.mono b1.size));clear b1 b2 p1 TC AC;have R2 := hd1 ((B2.block _ (aa HB.2.1)).trans HB.2.1);have R4 := hd1 ((B2.block _ (aa HB.2.2.1)).trans HB.2.2.1);have pz := hd1 (HB.1.trans (B2.mono HB.1.size))
  repeat (first
   | (go_big_may; (first
    | (refine He R2.out H_ N8 ?_)
    | (refine aD rfl ah _ _ rfl (w.heap.size + 1) _ rfl rfl ah bM R4.out N8 (by rw [HE.1]; rfl) HE.2.1 ?_; intro W9 bN aS fB)))
   | go_values | go_skip | go_guarded | go_step | go_upon | (simp only [Jb, Jc] at *; go_simp) | (go_values <;> (try go_simp)) | (go_ite <;> go_prune <;> (try go_simp)) | (split <;> (first | (rename_i hx; exact (hx _ rfl).elim) | go_prune)))
  refine IP (results_cell_tmp rfl _ _ (w.heap.size + 1) _ _ _ _ (.int .i64 er) GV GV bN.out H_ rfl N8) rfl ?_;exact Sc
end
end Go.Proofs.YtgffifleflkjoaaGreat
