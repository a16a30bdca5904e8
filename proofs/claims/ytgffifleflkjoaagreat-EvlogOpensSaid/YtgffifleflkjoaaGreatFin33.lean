/-
  Parts of a proof.
-/
import Derived.Test.YtgffifleflkjoaaGreatFin27
import Derived.Test.YtgffifleflkjoaaGreatFin30
import Derived.Test.YtgffifleflkjoaaGreatFin31
set_option linter.unusedSimpArgs false
set_option linter.unusedVariables false
set_option maxRecDepth 100000
set_option maxHeartbeats 16000000
namespace Go.Proofs.YtgffifleflkjoaaGreat
open _root_.Go.Proofs.Tryz
variable {w W w' w0 wr w1 W0 W1 W2 A B : World} {F G F' O : Nat → Prop} {v : Value} {l : List UInt8} {n q m pd md pl g p : Nat} {C : Array Value} {c : Int}
section
open Go.RowKit
attribute [local go_sem] Oper.semAt_some
theorem l_ : (prog.info? fC).map (·.size) = some 2 := GQ
theorem yf (a b : List UInt8) : (#[ag a, ag b]).all (·.oneCell') = true := by
 exact R_
theorem y8x (last l : List UInt8) : Em.jk last l = if ((dF 4096 (dF 64 (bS 3 (some l)).1).1).1 = some [] /\ (bS 3 (some l)).2 = 2 /\ (dF 64 (bS 3 (some l)).1).2 ≠ []) /\ ¬ (dF 64 (bS 3 (some l)).1).2 <= last
 then some ((dF 64 (bS 3 (some l)).1).2, (dF 4096 (dF 64 (bS 3 (some l)).1).1).2) else none := by
 unfold Em.jk;have e0 : bS 3 (some l) = match Wm.bF 3 l with | some (n, l) => (some l, n) | none => (none, 0) := rfl
 cases h1 : Wm.bF 3 l with
 | none =>
  rw [h1] at e0;simp only [e0];exact Q0
 | some p =>
  obtain ⟨k, ra⟩ := p;rw [h1] at e0;simp only [e0];have e1 : dF 64 (some ra) = match Wm.dh 64 ra with | some (n, l) => (some l, n) | none => (none, []) := rfl
  by_cases hk : k ≠ 2
  ·rw [IA hk, Iw]
   rintro ⟨⟨_, h, _⟩, _⟩;exact hk h
  ·rw [Iw hk]
   cases h2 : Wm.dh 64 ra with
   | none =>
    rw [h2] at e1;simp only [e1];exact Q0
   | some p =>
    obtain ⟨key, rb⟩ := p;rw [h2] at e1;simp only [e1];have e2 : dF 4096 (some rb) = match Wm.dh 4096 rb with | some (n, l) => (some l, n) | none => (none, []) := rfl
    cases h3 : Wm.dh 4096 rb with
    | none =>
     rw [h3] at e2;simp only [e2];exact Q0
    | some p =>
     obtain ⟨v, rc⟩ := p;rw [h3] at e2;simp only [e2];by_cases hq : rc = [] /\ ¬ key <= last
     ·rw [IA hq, IA]
      refine ⟨⟨by rw [hq.1], by simpa using hk, ?_⟩, hq.2⟩;rintro rfl;exact hq.2 (List.nil_le _)
     ·rw [Iw hq, Iw]
      rintro ⟨⟨h, _⟩, h2⟩;exact hq ⟨IM h, h2⟩
def y2r (w : World) (l : List UInt8) (e : Ending) (w' : World) : Prop :=
 Below w.heap.size w w' /\ ∃ (key value : List UInt8) (ok : Bool), e = .returned (.tuple #[.agg #[ag key, ag value], .bool ok]) /\ key.length <= 1000000 /\ value.length <= 1000000 /\ (ok = true -> key ≠ []) /\ ∀ last, Em.jk last l = if ok = true /\ ¬ key <= last then some (key, value) else none
theorem z7y {most : Nat} {o : Rd} (hm : most <= 1000000) : (dF most o).2.length <= most := by
 unfold dF;cases hn : o.bind (Wm.dh most) with
 | none => exact IV _
 | some p =>
  obtain ⟨s, l'⟩ := p;cases o with
  | none => cases hn
  | some l => exact (kS (show Wm.dh most l = some (s, l') from hn)).2
theorem z6g (h : BytesAt w.heap F v l) (hl' : l.length <= 1000000) :
 Calls prog 134 #[v] w (y2r w l) := by
 obtain ⟨a, c, rfl⟩ := h.slice;obtain ⟨W0, hW0⟩ := G5 (w.alloc (.cells #[ag [], ag []] fC));have B0 : Below w w W0 := by rw [<-hW0]; exact bla
 have r0 : W0.heap[w.heap.size]? = some (.cells #[ag [], ag []] fC (0, 0)) := by rw [<-hW0]; exact IC _ _
 replace h := h.below B0;have hl : jK (some l) := λ x hx => by cases hx; exact hl'
 have RS := hd1 (λ last => y8x last l);have S1 := yu (most := 3) hl;have S2 := yt (most := 64) S1;have L2 := z7y (most := 64) (o := (bS 3 (some l)).1) GU;have L3 := z7y (most := 4096) (o := (dF 64 (bS 3 (some l)).1).1) GU;generalize hN : l.length = N at *;have HB := hd2 B0 r0;have HW := hd1 hW0;clear hN B0 r0 hW0;go_in;go_upto_region 1 with fail
 rw [show Value.string { data := #[] } = ag [] from rfl, HW.out]
 go_upto_region 2 with (first
  | (go_at_call 165; refine (vJ (o := some l) ⟨_, rfl, h⟩ hl GU).mono ?_; rintro e w1 ⟨b1, r1, rfl, y1⟩; obtain ⟨a1, n1, c1, rfl, z1, m1⟩ := y1.form)
  | (refine aC rfl aK _ _ rfl w1.heap.size _ rfl rfl aK _ (IC w1 _) Ob rfl Nz ?_; intro W1 HW1 dH j_))
 have H1 := hd3 (show Below W0 W0 W1 from b1.trans (Below.mono (Moves.new ((Below.refl w1 w1).alloc GZ _) dH GZ) b1.size)) HW1.out (show dR W1 F _ _ from z1.later (Moves.new ((Below.refl w1 w1).alloc GZ _) dH GZ));have q1 : W0.heap.size <= w1.heap.size := b1.size;clear b1 HW1 dH j_ y1 z1;generalize ho1 : bS 3 (some l) = p1 at *;obtain ⟨o1, k⟩ := p1;simp only at H1 S1 S2 L2 L3 RS m1 ⊢
 go_upto_region 3 with (first
  | (refine G_ H1.2.1 Hy bG ?_)
  | (go_at_call 166; refine (Bf H1.2.2 S1 GU).mono ?_; rintro e w2 ⟨b2, r2, rfl, y2⟩; obtain ⟨a2, n2, c2, rfl, z2, m2⟩ := y2.form)
  | (refine aC rfl aK _ _ rfl w1.heap.size _ rfl rfl aK _ ((b2.block _ (aa H1.2.1)).trans H1.2.1) Ob rfl Nz ?_; intro W2 HW2 cu HS2))
 have H2 := hd3 (show Below W0 W0 W2 from nE (H1.1.trans (b2.mono H1.1.size)) cu q1 (Jc (aa H1.2.1) b2.size)) HW2.out (show dR W2 F _ _ from z2.through cu ((b2.block _ (aa H1.2.1)).trans H1.2.1) HW2.out);clear b2 HW2 cu HS2 y2 z2;generalize ho2 : dF 64 o1 = p2 at *;obtain ⟨o2, key⟩ := p2;simp only at H2 S2 L2 L3 RS m2 ⊢
 go_upto_region 4 with (first
  | (refine G_ H2.2.1 Hy bG ?_)
  | (go_at_call 166; refine (Bf H2.2.2 S2 GU).mono ?_; rintro e w3 ⟨b3, r3, rfl, y3⟩; obtain ⟨a3, n3, c3, rfl, z3, m3⟩ := y3.form)
  | (refine aC rfl aK _ _ rfl w1.heap.size _ rfl rfl aK _ ((b3.block _ (aa H2.2.1)).trans H2.2.1) Ob rfl Nz ?_; intro W3 HW3 bU fZ))
 have H3 := hd3 (show Below W0 W0 W3 from nE (H2.1.trans (b3.mono H2.1.size)) bU q1 (Jc (aa H2.2.1) b3.size)) HW3.out (show dR W3 F _ _ from z3.through bU ((b3.block _ (aa H2.2.1)).trans H2.2.1) HW3.out);clear b3 HW3 bU fZ y3 z3;generalize ho3 : dF 4096 o2 = p3 at *;obtain ⟨o3, value⟩ := p3;simp only at H3 RS L3 m3 ⊢;have f0 := ae H3.2.1 (j := 0) rfl;have f1 := ae H3.2.1 (j := 1) rfl;have r3 := (H3.1.block _ (aa HB.2)).trans HB.2;have R3 := hd2 r3 (HB.1.trans (H3.1.mono HB.1.size));have HL := hd2 L2 L3;have hkey : (!key == []) = !key.isEmpty := by cases key <;> rfl
 have FIN := hd1 (show ∀ (W5 : World) (ok : Bool), Below w w W5 -> (ok = true ↔ (o3 = some [] /\ k = 2 /\ key ≠ [])) -> y2r w l (.returned (.tuple #[.agg #[ag key, ag value], .bool ok])) W5 from λ W5 ok hb hok =>
  ⟨hb, key, value, ok, rfl, IP HL.1 GU, IP HL.2 GU, λ h => (hok.1 h).2.2, λ last => by
   rw [RS.out last];by_cases q : ok = true /\ ¬ key <= last
   ·rw [IA q, IA ⟨hok.1 q.1, q.2⟩]
   ·rw [Iw q, Iw (λ h => q ⟨hok.2 h.1, h.2⟩)]⟩)
 clear H1 H2 S1 S2 ho1 ho2 ho3 m1 m2 hl h r3 L2 L3 RS;cases o3 with
 | none =>
  simp only [Mk] at f1;clear m3 hkey;go_wp2_with (refine aC rfl fC _ _ rfl w.heap.size _ rfl rfl fC _ R3.1 (by exact l_) rfl N8 ?_; intro W5 aF aB bf)
  refine Ha aF.out Ij l_ ?_;exact FIN.out _ _ (Moves.new R3.2 aB GZ) ⟨λ h => Od, λ h => (by cases h.1)⟩
 | some l3 =>
  have e3 := m3 l3 rfl;simp only [Option.isNone_some] at f1;by_cases h0 : n3 = 0
  ·have Gz : l3 = [] := JU GR
   subst Gz;subst h0;by_cases hk : k = 2
   ·subst hk
    clear m3 e3;cases key with
    | nil =>
     clear hkey;go_wp2_with (refine aC rfl fC _ _ rfl w.heap.size _ rfl rfl fC _ R3.1 (by exact l_) rfl N8 ?_; intro W5 aF aB bf)
     refine Ha aF.out Ij l_ ?_;exact FIN.out _ _ (Moves.new R3.2 aB GZ) ⟨λ h => Od, λ h => absurd rfl h.2.2⟩
    | cons x key =>
     clear hkey;go_wp2_with (refine aC rfl fC _ _ rfl w.heap.size _ rfl rfl fC _ R3.1 (by exact l_) rfl N8 ?_; intro W5 aF aB bf)
     refine Ha aF.out Ij l_ ?_;exact FIN.out _ _ (Moves.new R3.2 aB GZ) ⟨λ _ => GV, λ _ => rfl⟩
   ·have hk' : ¬ (k : Int) = 2 := GR
    have HK := hd1 hk;clear m3 e3 hk hkey;go_wp2_with (refine aC rfl fC _ _ rfl w.heap.size _ rfl rfl fC _ R3.1 (by exact l_) rfl N8 ?_; intro W5 aF aB bf)
    refine Ha aF.out Ij l_ ?_;exact FIN.out _ _ (Moves.new R3.2 aB GZ) ⟨λ h => Od, λ h => absurd h.2.1 HK.out⟩
  ·have h0' : ¬ (n3 : Int) = 0 := GR
   have H0 := hd1 (show ¬ some l3 = some [] from λ h => h0 (by rw [e3, IM h]; rfl));clear m3 e3 h0 hkey;go_wp2_with (refine aC rfl fC _ _ rfl w.heap.size _ rfl rfl fC _ R3.1 (by exact l_) rfl N8 ?_; intro W5 aF aB bf)
   refine Ha aF.out Ij l_ ?_;exact FIN.out _ _ (Moves.new R3.2 aB GZ) ⟨λ h => Od, λ h => absurd h.1 H0.out⟩
end
open Go.RowKit Dm
theorem dx.weak {l : Em.bB} (h : dx w F v l) (hF : ∀ b, F b -> b < w.heap.size -> F' b) : dx w F' v l := by
 exact Qi
theorem dx.moves {l : Em.bB} (h : dx w F v l) (hm : Moves O w w') (hF : ∀ b, F b -> b < w.heap.size -> ¬ O b) : dx w' F v l := by
 rcases h with h | ⟨b, o, cap, cs, t, fr, h1, h2, h3, h4, h5, h6⟩
 ·exact Iy h
 ·exact Iz ⟨b, o, cap, cs, t, fr, h1, h2, h3, h4, (hm.block b (aa h5) (hF b h4 (aa h5))).trans h5, h6⟩
theorem FO {lv : Value} {R : Em.bB} {l : List Em.ay} (h : dx w F v R) (hR : R.length <= 100000) (hc : dJ w G lv l) (hl : l.length <= 100000) :
 Calls prog 14 #[v, lv] w λ e w' => ∃ v', e = .returned (.tuple #[v', .int .i64 (Em.og R l).2]) /\ dx w' (λ b => F b \/ w.heap.size <= b) v' (Em.og R l).1 /\ Below w w w' := by
 obtain ⟨ra, rc, rfl⟩ := h.slice;obtain ⟨a, cap, rfl⟩ := hc.slice;have h' : dx w (λ b => F b \/ w.heap.size <= b) (.slice ra R.length rc) R := h.weak (λ b hb _ => Iy hb);have BC := hd1 (z7v hc GR);have H := hd3 h' hc hR;clear h h' hc hR;generalize hN : l.length = N at *;generalize hM : R.length = M at *;have HN := hd2 hN hM;clear hN hM;by_cases hr : Em.right l ≠ 0
 ·have HR := hd1 (show Em.og R l = (R, Em.right l) from IA hr)
  have g1 : (!(Em.right l == 0)) = true := by simpa using hr
  go_in;go_wp2_with (go_at_call 40; refine BC.mono ?_; rintro e w1 ⟨rfl, b1⟩; have B1 := hd1 b1; clear b1)
  go_ret2;rw [HR.out];exact ⟨_, rfl, H.1.later B1.out, B1.out⟩
 ·have hr : Em.right l = 0 := GR
  rw [hr] at BC;have HR := hd1 hr;clear hr;go_in;go_wp2_with (go_at_call 40; refine BC.mono ?_; rintro e w1 ⟨rfl, b1⟩; have B1 := hd1 b1; clear b1)
  go_loopw [7, 8] (λ x s wr => ∃ i : Nat, i <= N /\ s = .int .i64 (i : Int) /\ dx wr (λ b => F b \/ w.heap.size <= b) x ((l.take i).foldl Em.gX R) /\ Below w w wr) (λ _ s _ => N - (intOf s).toNat)
  case atStart => exact ⟨0, GR, rfl, H.1.later B1.out, B1.out⟩
  case round =>
   obtain ⟨i, hi, rfl, hp, hb⟩ := hrel;have hlen : ((l.take i).foldl Em.gX R).length <= 200000 := by
    have h1 := Em.y9u (l.take i) R;have h2 := HN.out;have h3 := H.2.2;exact RI
   by_cases hlt : i < N
   ·have i0 : (0 : Int) <= (i : Int) := GR
    have i1 : (i : Int) < (N : Int) := GR;obtain ⟨c, hc⟩ : ∃ c, l[i]? = some c := ⟨_, IR (by rw [HN.1]; exact hlt)⟩;obtain ⟨b, o, rfl, fb, lb, rg⟩ := H.2.1.at hc;have RG := hd1 (show wr.rangeAt b (o + i * 3) [ag c.key, ag c.value, .bool c.gone] from λ j v hj => (hb.cell (p := ⟨b, o + i * 3 + j, none⟩) lb).trans (rg j v hj));have DC := hd1 (y9l (c := c) hp GR);have HI := hd2 hb hc;clear hp hb hc rg
    go_wp2_with (first
     | (refine JA rfl a_ (.tmp 25) rfl b (o + i * 3) rfl _ _ RG.out Ic rfl jS ?_)
     | (go_at_call 41; refine DC.mono ?_; rintro e w2 ⟨v', rfl, o2, b2⟩; have H2 := hd2 o2 b2; clear o2 b2))
    go_roundw
    case rel =>
     refine ⟨i + 1, GR, by go_num, ?_, um HI.1 H2.2⟩;have e : (l.take (i + 1)).foldl Em.gX R = Em.gX ((l.take i).foldl Em.gX R) c := by
      have hil := (IY.1 HI.2).1;rw [List.take_succ_eq_append_getElem hil, Kr, (IY.1 HI.2).2];rfl
     rw [e];exact H2.1.at.weak (λ b hb _ => Iz (IP HI.1.size hb))
    case measure => simp [intOf]; omega
   ·obtain rfl : i = N := GR
    have e0 : (l.take i).foldl Em.gX R = l.foldl Em.gX R := by rw [Je (by rw [HN.1]; exact Nat.le_refl _)]
    rw [e0] at hp hlen;obtain ⟨xa, xc, rfl⟩ := hp.slice;have HP := hd2 hp hb;clear hp hb e0;generalize hK : (l.foldl Em.gX R).length = K at *;have HK := hd1 hK;clear hK;by_cases kL : 256 < K
    ·have d1 : (256 : Int) < (K : Int) := GR
     have HA := hd1 (show Em.og R l = (R, 3) by unfold Em.og; rw [Iw (by rw [HR.out]; decide), HK.out, IA kL]);clear kL;go_wp2;go_ret2;rw [HA.out];exact ⟨_, rfl, H.1.later HP.2, HP.2⟩
    ·have d1 : ¬ (256 : Int) < (K : Int) := GR
     have HA := hd1 (show Em.og R l = (l.foldl Em.gX R, 0) by unfold Em.og; rw [Iw (by rw [HR.out]; decide), HK.out, Iw kL]);clear kL;go_wp2;go_ret2;rw [HA.out];exact ⟨_, rfl, HP.1, HP.2⟩
end Go.Proofs.YtgffifleflkjoaaGreat
