/-
  Parts of a proof.
-/
import Derived.Test.YtgffifleflkjoaaGreatFin30
import Derived.Test.YtgffifleflkjoaaGreatFin31
set_option linter.unusedSimpArgs false
set_option linter.unusedVariables false
set_option maxRecDepth 100000
set_option maxHeartbeats 16000000
namespace Go.Proofs.YtgffifleflkjoaaGreat
open _root_.Go.Proofs.Tryz
variable {w W w' w0 wr w1 W0 W1 W2 A B : World} {F G F' O : Nat → Prop} {v : Value} {l : List UInt8} {n q m pd md pl g p : Nat} {C : Array Value} {c : Int}
section
open Go.RowKit
attribute [local go_sem] Oper.semAt_some
def nZ (o : Rd) : Rd × Em.ay :=
 if (ig o).2 = true then ((dF 64 (ig o).1).1, ⟨(dF 64 (ig o).1).2, [], true⟩)
 else ((dF 4096 (dF 64 (ig o).1).1).1, ⟨(dF 64 (ig o).1).2, (dF 4096 (dF 64 (ig o).1).1).2, false⟩)
theorem x0w (r : List UInt8) : Em.kE r = (nZ (some r)).1.map λ l => ((nZ (some r)).2, l) := by
 unfold Em.kE nZ;have e0 : ig (some r) = match Wm.iJ r with | some (b, l) => (some l, b) | none => (none, false) := rfl
 cases h1 : Wm.iJ r with
 | none =>
  rw [h1] at e0;simp only [e0];rfl
 | some p =>
  obtain ⟨g, ra⟩ := p;rw [h1] at e0;simp only [e0];have e1 : dF 64 (some ra) = match Wm.dh 64 ra with | some (n, l) => (some l, n) | none => (none, []) := rfl
  cases h2 : Wm.dh 64 ra with
  | none =>
   rw [h2] at e1;simp only [e1];cases g <;> rfl
  | some p =>
   obtain ⟨k, rb⟩ := p;rw [h2] at e1;simp only [e1];cases g with
   | true => rfl
   | false =>
    have e2 : dF 4096 (some rb) = match Wm.dh 4096 rb with | some (n, l) => (some l, n) | none => (none, []) := rfl
    simp only [KJ, JM];cases h3 : Wm.dh 4096 rb with
    | none => rw [h3] at e2; simp only [e2]; rfl
    | some p => rw [h3] at e2; simp only [e2]; rfl
theorem x0v {o : Rd} (h : jK o) : jK (nZ o).1 := by
 unfold nZ;split
 ·exact yt (FD h)
 ·exact yt (yt (FD h))
theorem x0i (l : List UInt8) (cs : List Em.ay) : Em.iK l = some cs ↔ (bS 3 (some l)).2 = 3 /\ ∃ r, (bS 64 (bS 3 (some l)).1).1 = some r /\ Em.eZ (bS 64 (bS 3 (some l)).1).2 r = some (cs, []) := by
 unfold Em.iK;have e0 : bS 3 (some l) = match Wm.bF 3 l with | some (n, l) => (some l, n) | none => (none, 0) := rfl
 cases h1 : Wm.bF 3 l with
 | none =>
  rw [h1] at e0;simp only [e0];exact ⟨λ h => Od, λ h => (by have := h.1; cases this)⟩
 | some p =>
  obtain ⟨k, ra⟩ := p;rw [h1] at e0;simp only [e0];have e1 : bS 64 (some ra) = match Wm.bF 64 ra with | some (n, l) => (some l, n) | none => (none, 0) := rfl
  by_cases hk : k ≠ 3
  ·rw [IA hk]
   exact ⟨λ h => Od, λ h => absurd h.1 hk⟩
  ·rw [Iw hk]
   have hk : k = 3 := by simpa using hk
   cases h2 : Wm.bF 64 ra with
   | none =>
    rw [h2] at e1;simp only [e1];exact ⟨λ h => Od, λ ⟨_, r, h, _⟩ => Od⟩
   | some p =>
    obtain ⟨n, rb⟩ := p;rw [h2] at e1;simp only [e1];cases h3 : Em.eZ n rb with
    | none => exact ⟨λ h => Od, λ ⟨_, r, h, h'⟩ => (by cases h; rw [h3] at h'; cases h')⟩
    | some p =>
     obtain ⟨c2, rc⟩ := p;simp only;by_cases hq : rc = []
     ·rw [IA hq]
      subst hq;exact ⟨λ h => ⟨hk, rb, rfl, by rw [h3, IM h]⟩, λ ⟨_, r, h, h'⟩ => (by cases h; rw [h3] at h'; cases h'; rfl)⟩
     ·rw [Iw hq]
      exact ⟨λ h => Od, λ ⟨_, r, h, h'⟩ => (by cases h; rw [h3] at h'; cases h'; exact absurd rfl hq)⟩
def z2o (w : World) (l : List UInt8) (e : Ending) (w' : World) : Prop :=
 Below w.heap.size w w' /\ ∃ (v : Value) (cs : List Em.ay) (ok : Bool), e = .returned (.tuple #[v, .bool ok]) /\ dJ w' (λ k => w.heap.size <= k) v cs /\ cs.length <= 64 ∧
  (ok = true -> Em.iK l = some cs /\ Em.right cs = 0) /\ (ok = false -> ∀ c, Em.iK l = some c -> Em.right c ≠ 0)
theorem x8b {W' : World} {t' : TypeId} {fr' : Nat × Nat} {cs : Array Value} (h : BytesAt W.heap F v l) (hm : Moves (λ k => k = g) W W')
 (hn : ∀ (o : Nat) (k : Int), W.cell? (g, o) ≠ some (.int .u8 k)) (r' : W'.heap[g]? = some (.cells cs t' fr')) : BytesAt W'.heap F v l := by
 rcases h with h | ⟨b, o, cap, cc, t2, mi, h1, h2, h3, h4, h5, h6⟩
 ·exact Iy h
 ·by_cases hb : b = g
  ·subst hb
   cases l with
   | nil => exact Iz ⟨b, o, cap, cs, t', fr', h1, h2, h3, h4, r', λ i y hi => by simp at hi⟩
   | cons y l => exact absurd ((IJ W b o cc t2 mi h5).trans (h6 0 y rfl)) (hn o _)
  ·exact Qb
theorem dR.off {W' : World} {o : Rd} {r : Value} {t' : TypeId} {fr' : Nat × Nat} {cs : Array Value} (h : dR W F o r) (hm : Moves (λ k => k = g) W W')
 (hn : ∀ (o : Nat) (k : Int), W.cell? (g, o) ≠ some (.int .u8 k)) (r2 : W'.heap[g]? = some (.cells cs t' fr')) : dR W' F o r := by
 cases o with
 | none => exact h
 | some l =>
  obtain ⟨v, h1, h2⟩ := h;exact ⟨v, h1, x8b h2 hm hn r2⟩
theorem dR.yJ {W' : World} {o : Rd} {r : Value} (h : dR W F o r) (hs : ∀ k, F k -> k < W.heap.size -> W'.heap[k]? = W.heap[k]?) : dR W' F o r := by
 cases o with
 | none => exact h
 | some l =>
  obtain ⟨v, h1, h2⟩ := h;exact ⟨v, h1, h2.keeps hs (λ _ h _ => h)⟩
theorem x8l {k v : List UInt8} {b : Bool} {t : TypeId} {fr : Nat × Nat} (r : W.heap[g]? = some (.cells #[ag k, ag v, .bool b] t fr)) (o : Nat) (x : Int) : W.cell? (g, o) ≠ some (.int .u8 x) := by
 rw [IJ _ _ _ _ _ _ r];match o with
 | 0 => intro h; cases h
 | 1 => intro h; cases h
 | 2 => intro h; cases h
 | o + 3 => intro h; simp at h
theorem dJ.weak {l : List Em.ay} (h : dJ w F v l) (hF : ∀ k, F k -> k < w.heap.size -> F' k) : dJ w F' v l := by
 exact Qi
structure rU (wr W : World) (q g : Nat) (F : Nat -> Prop) (o : Rd) (a : Option Addr) (n c : Nat) (k v : List UInt8) (b : Bool) : Prop where
 mv : Moves (λ k => k = q) wr W
 cell : W.heap[q]? = some (.cells #[.slice a n c, .bool o.isNone] aK (0, 0))
 rd : dR W F o (.agg #[.slice a n c, .bool o.isNone])
 row : W.heap[g]? = some (.cells #[ag k, ag v, .bool b] a_ (0, 0))
theorem rU.call {o o1 : Rd} {a a1 : Option Addr} {c n1 c1 : Nat} {k v : List UInt8} {b : Bool} (h : rU wr W q g F o a n c k v b) (hb : Below W W W1) (hr : dR W1 F o1 (.agg #[.slice a1 n1 c1, .bool o1.isNone]))
 (hm : Moves (λ k => k = q) W1 W2) (hc : W2.heap[q]? = some (.cells #[.slice a1 n1 c1, .bool o1.isNone] aK)) (hg : g ≠ q) : rU wr W2 q g F o1 a1 n1 c1 k v b := by
 have s1 := hb.size;refine ⟨(h.mv.trans (Moves.of_below (O := λ k => k = q) hb) (λ _ _ h => h)).trans hm (λ _ _ h => h), hc, hr.through hm ((hb.block _ (aa h.cell)).trans h.cell) hc, (hm.block g (Hf (aa h.row)) hg).trans ((hb.block _ (aa h.row)).trans h.row)⟩
theorem rU.set {o : Rd} {a : Option Addr} {c : Nat} {k v k2 v2 : List UInt8} {b b2 : Bool} (h : rU wr W q g F o a n c k v b) (hm : Moves (λ k => k = g) W W2)
 (hr : W2.heap[g]? = some (.cells #[ag k2, ag v2, .bool b2] a_)) (hg : g ≠ q) (hl : wr.heap.size <= g) : rU wr W2 q g F o a n c k2 v2 b2 :=
 ⟨h.mv.trans hm (λ i hi e => GR), (hm.block q (aa h.cell) (λ e => hg e.symm)).trans h.cell, h.rd.off hm (x8l h.row) hr, hr⟩
structure z2p (w wr : World) (q base N : Nat) (F : Nat -> Prop) (Q : Option (List Em.ay × List UInt8)) (i : Nat) (acc : List Em.ay) (x : Value) (o : Rd) (a : Option Addr) (n c : Nat) : Prop where
 own : j6 wr base x acc
 cell : wr.heap[q]? = some (.cells #[.slice a n c, .bool o.isNone] aK (0, 0))
 rd : dR wr F o (.agg #[.slice a n c, .bool o.isNone])
 len : ∀ l, o = some l -> n = l.length
 below : Below w.heap.size w wr
 short : jK o
 wP : acc.length = i
 some : ∀ r, o = some r -> (Em.eZ (N - i) r).map (λ p => (acc ++ p.1, p.2)) = Q
 none : o = none -> Q = none
theorem x9w {N i : Nat} {r : List UInt8} {Q : Option (List Em.ay × List UInt8)} {acc : List Em.ay} (hi : i < N) (h : (Em.eZ (N - i) r).map (λ p => (acc ++ p.1, p.2)) = Q) :
 (∀ l, (nZ (some r)).1 = some l -> (Em.eZ (N - (i + 1)) l).map (λ p => ((acc ++ [(nZ (some r)).2]) ++ p.1, p.2)) = Q) /\ ((nZ (some r)).1 = none -> Q = none) := by
 obtain ⟨j, hj⟩ : ∃ j, N - i = j + 1 := ⟨N - i - 1, GR⟩;rw [hj, Em.eZ, x0w] at h;rw [show N - (i + 1) = j by omega];refine ⟨λ l hl => ?_, λ hn => ?_⟩
 ·rw [hl] at h
  simp only [Ku] at h;rw [<-h];cases Em.eZ j l with
  | none => rfl
  | some p => simp
 ·rw [hn] at h
  exact h.symm
theorem y9j {F0 : Nat -> Prop} (h : BytesAt w.heap F0 v l) (hl' : l.length <= 1000000) :
 Calls prog 135 #[v] w (z2o w l) := by
 obtain ⟨F, hF, h⟩ : ∃ F : Nat -> Prop, (∀ k, F k -> k < w.heap.size) /\ BytesAt w.heap F v l := ⟨λ k => k < w.heap.size, λ _ h => h, h.keeps (λ _ _ _ => rfl) (λ _ _ h => h)⟩;obtain ⟨a, c, rfl⟩ := h.slice;have hl : jK (some l) := λ x hx => by cases hx; exact hl'
 have RS := hd1 (λ cs => x0i l cs);have S1 := yu (most := 3) hl;have S2 := yu (most := 64) S1;have N2 : (bS 64 (bS 3 (some l)).1).2 <= 64 := by
  unfold bS;split
  ·rename_i n l' hn
   generalize (match (some l).bind (Wm.bF 3) with | some (n, l) => (some l, n) | none => (none, 0)).1 = o1 at hn;cases o1 with
   | none => cases hn
   | some r =>
    obtain ⟨_, _, _, _, h3, _⟩ := yg (show Wm.bF 64 r = some (n, l') from hn);exact h3
  ·exact IV _
 generalize hN : l.length = N at *;clear hN;go_in;go_upto_region 2 with (go_at_call 165; refine (vJ (o := some l) ⟨_, rfl, h⟩ hl GU).mono ?_; rintro e w1 ⟨b1, r1, rfl, y1⟩; obtain ⟨a1, n1, c1, rfl, z1, m1⟩ := y1.form)
 obtain ⟨W1, hW1⟩ := G5 (w1.alloc (.cells #[.slice a1 n1 c1, .bool (bS 3 (some l)).1.isNone] aK));have b11 : Below w1 w1 W1 := by rw [<-hW1]; exact bla
 have r11 : W1.heap[w1.heap.size]? = some (.cells #[.slice a1 n1 c1, .bool (bS 3 (some l)).1.isNone] aK) := by rw [<-hW1]; exact IC _ _
 rw [hW1];have H1 := hd3 (show Below w w W1 from b1.trans (b11.mono b1.size)) r11 (show dR W1 F _ _ from z1.later b11);have q1 : w.heap.size <= w1.heap.size := b1.size;clear b1 b11 r11 hW1 y1 z1;obtain ⟨q, hq⟩ := G5 w1.heap.size;rw [hq] at H1 q1 ⊢;clear hq;generalize ho1 : bS 3 (some l) = p1 at *;obtain ⟨o1, kk⟩ := p1;simp only at H1 S1 S2 N2 RS m1 ⊢
 go_upto_region 3 with (first
  | (refine G_ H1.2.1 Hy bG ?_)
  | (go_at_call 165; refine (vJ H1.2.2 S1 GU).mono ?_; rintro e w2 ⟨b2, r2, rfl, y2⟩; obtain ⟨a2, n2, c2, rfl, z2, m2⟩ := y2.form)
  | (refine aC rfl aK _ _ rfl q _ rfl rfl aK _ ((b2.block _ (aa H1.2.1)).trans H1.2.1) Ob rfl Nz ?_; intro W2 HW2 cu HS2))
 have lq2 : q < w2.heap.size := Jc (aa H1.2.1) b2.size;have H2 := hd3 (show Below w w W2 from nE (H1.1.trans (b2.mono H1.1.size)) cu q1 lq2) HW2.out (show dR W2 F _ _ from z2.through cu ((b2.block _ (aa H1.2.1)).trans H1.2.1) HW2.out);clear b2 HW2 cu HS2 y2 z2 lq2;generalize ho2 : bS 64 o1 = p2 at *;obtain ⟨o2, M⟩ := p2;simp only at H2 S2 N2 RS m2 ⊢;obtain ⟨base, hbase⟩ : ∃ base, base = q + 1 := ⟨_, rfl⟩
 have ST := hd1 (show z2p w W2 q base M F (o2.bind (Em.eZ M)) 0 [] (.slice none 0 0) o2 a2 n2 c2 from
  ⟨F_ _ _, H2.2.1, H2.2.2, m2, H2.1, S2, rfl, λ r hr => by rw [hr]; exact Ga, λ hn => by rw [hn]; rfl⟩)
 have HQ := hd3 hbase hF q1;obtain ⟨QQ, yQ⟩ := G5 (o2.bind (Em.eZ M));rw [yQ] at ST;have RT := hd1 (show ∀ cs, Em.iK l = some cs ↔ kk = 3 /\ QQ = some (cs, []) from λ cs => by
  rw [RS.out cs, <-yQ];cases o2 with
  | none => exact ⟨λ ⟨_, r, h, _⟩ => Od, λ ⟨_, h⟩ => Od⟩
  | some r => exact ⟨λ ⟨h1, r', h2, h3⟩ => ⟨h1, by cases h2; exact h3⟩, λ ⟨h1, h2⟩ => ⟨h1, r, rfl, h2⟩⟩)
 clear H1 H2 S1 S2 ho1 ho2 m1 m2 hl h hbase yQ RS hF;go_wp2;go_loopw [9, 10] (λ x s wr => ∃ (i : Nat) (acc : List Em.ay) (o : Rd) (a : Option Addr) (n c : Nat), i <= M /\ s = .int .i64 (i : Int) /\ z2p w wr q base M F QQ i acc x o a n c) (λ _ s _ => M - (intOf s).toNat)
 case atStart => exact ⟨0, [], o2, a2, n2, c2, IV _, rfl, ST.out⟩
 case round =>
  obtain ⟨i, acc, o, ra, rn, rc, hi, rfl, hrel⟩ := hrel;obtain ⟨xa, xc, e1⟩ := hrel.own.at.slice;subst e1;have f1 := ae hrel.cell (j := 1) rfl;have f0 := ae hrel.cell (j := 0) rfl;have k0 : (0 : Int) <= (i : Int) := GR;have HR := hd1 hrel;have m3 := hrel.len;clear hrel;generalize acc.length = an at *;cases o with
  | none =>
   simp only [Mk] at f1;clear m3
   have FIN := hd1 (show z2o w l (.returned (.tuple #[.slice xa an xc, .bool false])) wr from by
    refine ⟨HR.below, _, acc, false, rfl, HR.own.at.weak (λ k hk _ => Hg HQ.1 HQ.2.2), ?_, λ h => Od, λ _ c hc => ?_⟩
    ·rw [HR.wP]; omega
    ·have := ((RT.out c).1 hc).2
     rw [HR.none rfl] at this;cases this)
   by_cases hlt : i < M
   ·have i1 : (i : Int) < (M : Int) := GR
    exact RY
   ·have i1 : ¬ (i : Int) < (M : Int) := GR
    exact RY
  | some r =>
   simp only [Option.isNone_some] at f1;have e3 := m3 r rfl;clear m3;by_cases hlt : i < M
   ·have i1 : (i : Int) < (M : Int) := GR
    obtain ⟨nx1, yA⟩ := x9w (acc := acc) hlt (HR.some r rfl);have NX := hd2 nx1 yA;have SH0 := HR.short;have SH1 := FD SH0;have SH2 := yt (most := 64) SH1;have SHC := hd1 (x0v SH0);obtain ⟨WA, Ci⟩ := G5 (wr.alloc (.cells #[ag [], ag [], .bool false] a_));have BA : Below wr wr WA := by rw [<-Ci]; exact bla
    have rA : WA.heap[wr.heap.size]? = some (.cells #[ag [], ag [], .bool false] a_ (0, 0)) := by rw [<-Ci]; exact IC _ _
    have mf : wr.heap.size ≠ q := Hf (aa HR.cell);have S0 := hd1 (show rU wr WA q wr.heap.size F (some r) ra rn rc [] [] false from ⟨Moves.of_below BA, (BA.block _ (aa HR.cell)).trans HR.cell, HR.rd.later BA, rA⟩);have HWA := hd1 Ci;obtain ⟨g, hg⟩ := G5 wr.heap.size;have HG := hd1 hg;rw [hg] at S0 mf;have hrC : nZ (some r) = if (ig (some r)).2 = true then ((dF 64 (ig (some r)).1).1, ⟨(dF 64 (ig (some r)).1).2, [], true⟩) else ((dF 4096 (dF 64 (ig (some r)).1).1).1, ⟨(dF 64 (ig (some r)).1).2, (dF 4096 (dF 64 (ig (some r)).1).1).2, false⟩) := rfl
    have uG := hd1 hrC;clear BA rA Ci nx1 yA hlt e3 hrC;go_upto_region 8 with fail
    clear f0 f1;rw [show Value.string { data := #[] } = ag [] from rfl, HWA.out];clear hg
    go_upto_region 9 with (first
     | (refine G_ S0.cell Hy bG ?_)
     | (go_at_call 167; refine (y9h S0.rd SH0).mono ?_; rintro e w2 ⟨b2, r2, rfl, y2⟩; obtain ⟨a2, n2, c2, rfl, z2, m2⟩ := y2.form)
     | (refine aC rfl aK _ _ rfl q _ rfl rfl aK _ ((b2.block _ (aa S0.cell)).trans S0.cell) Ob rfl Nz ?_; intro W2 HW2 cu HS2
        have T2 := hd1 (S0.call b2 z2 cu HW2.out mf);have kg2 := ae T2.row (j := 2) rfl;have zg2 := aZ T2.row 2;have M2 := hd1 m2;clear b2 y2 z2 HW2 cu HS2 m2))
    obtain ⟨V2, e2, u2, mv2⟩ := gm T2.row 2 (.bool (ig (some r)).2);rw [e2];have S1 := hd1 (T2.set mv2 u2 mf M5);clear e2 u2 mv2 kg2 zg2 T2;generalize hoB : ig (some r) = pB at *;obtain ⟨oB, gB⟩ := pB;simp only at S1 SH1 SH2 uG M2 ⊢
    go_upto_region 10 with (first
     | (refine G_ S1.cell Hy bG ?_)
     | (go_at_call 166; refine (Bf S1.rd SH1 GU).mono ?_; rintro e w3 ⟨b3, r3, rfl, y3⟩; obtain ⟨a3, n3, c3, rfl, z3, m3⟩ := y3.form)
     | (refine aC rfl aK _ _ rfl q _ rfl rfl aK _ ((b3.block _ (aa S1.cell)).trans S1.cell) Ob rfl Nz ?_; intro W3 HW3 bU fZ
        have T3 := hd1 (S1.call b3 z3 bU HW3.out mf);have kg3 := ae T3.row (j := 0) rfl;have zg3 := aZ T3.row 0;have M3 := hd1 m3;clear b3 y3 z3 HW3 bU fZ m3))
    obtain ⟨V3, e3, u3, mv3⟩ := gm T3.row 0 (ag (dF 64 oB).2);rw [e3];have S2 := hd1 (T3.set mv3 u3 mf M5);clear e3 u3 mv3 kg3 zg3 T3;generalize hoT : dF 64 oB = pT at *;obtain ⟨oT, key⟩ := pT;simp only at S2 SH2 uG M3 ⊢;have kb := ae S2.row (j := 2) rfl
    have NEXT := hd1 (show ∀ (W : World) (o' : Rd) (a n c : _) (k v : List UInt8) (b : Bool) (x' : Value) (W5 : World) (WX : World), rU wr W q g F o' a n c k v b -> (∀ l, o' = some l -> n = l.length) -> nZ (some r) = (o', ⟨k, v, b⟩) ->
     Below W W WX -> j6 W5 base x' (acc ++ [⟨k, v, b⟩]) -> Below base WX W5 -> z2p w W5 q base M F QQ (i + 1) (acc ++ [⟨k, v, b⟩]) x' o' a n c from λ W o' a n c k v b x' W5 WX S hn hC hX ho hb => by
     have hq := HQ.1;have hq2 := HQ.2.2;have lq := aa S.cell;have sX := hX.size;have cX := (hX.block _ lq).trans S.cell;have x8e := (hb.block q GR).trans cX;refine ⟨ho, x8e, ?_, hn, ?_, by have := SHC.out; rw [hC] at this; exact this, by rw [IL, HR.wP]; rfl, λ l hl => ?_, λ hn => ?_⟩
     ·exact (S.rd.later hX).yJ (λ k hk _ => hb.block k (Hf (HQ.2.1 k hk)))
     ·exact ((nE HR.below S.mv hq2 (aa HR.cell)).trans (hX.mono (IP HR.below.size S.mv.size))).trans (hb.mono GR)
     ·have := NX.1 l (by rw [hC]; exact hl)
      rw [hC] at this;exact this
     ·exact NX.2 (by rw [hC]; exact hn))
    cases gB with
    | false =>
     rw [Iw GU] at uG
     go_upto_region 12 with (first
      | (refine G_ S2.cell Hy bG ?_)
      | (go_at_call 166; refine (Bf S2.rd SH2 GU).mono ?_; rintro e w4 ⟨b4, r4, rfl, y4⟩; obtain ⟨a4, n4, c4, rfl, z4, m4⟩ := y4.form)
      | (refine aC rfl aK _ _ rfl q _ rfl rfl aK _ ((b4.block _ (aa S2.cell)).trans S2.cell) Ob rfl Nz ?_; intro W4 g_ jc mH
         have T4 := hd1 (S2.call b4 z4 jc g_.out mf);have kg4 := ae T4.row (j := 1) rfl;have zg4 := aZ T4.row 1;have M4 := hd1 m4;clear b4 y4 z4 g_ jc mH m4))
     obtain ⟨V4, e4, u4, mv4⟩ := gm T4.row 1 (ag (dF 4096 oT).2);rw [e4];have S3 := hd1 (T4.set mv4 u4 mf M5);clear e4 u4 mv4 kg4 zg4 T4 kb;generalize hoV : dF 4096 oT = pV at *;obtain ⟨oV, vv⟩ := pV;simp only at S3 uG M4 ⊢
     go_wp2_with (first
      | (refine G_ S3.row Ic jS ?_)
      | (at_builtin; refine Ac rfl (.tmp 59) (.tmp 61) rfl base _ acc ⟨key, vv, false⟩ rfl ((HR.own.moves S3.mv (λ k hk e => Hf HQ.1)).moves (Moves.of_below (O := λ _ => False) (bla)) (λ _ _ h => h)) V4.heap.size 1 rfl (IC V4 _) (by rw [HR.wP]; omega) MQ (Below.refl _ (V4.alloc (.cells #[ag key, ag vv, false] a_))) ?_; intro v5 w5 h5 h6))
     go_roundw;case rel => exact ⟨i + 1, acc ++ [⟨key, vv, false⟩], oV, _, _, _, GR, by go_num, NEXT.out _ _ _ _ _ _ _ _ _ _ _ S3.out M4.out uG.out (bla) h5.out h6.out⟩
     case measure => simp [intOf]; omega
    | true =>
     rw [IA rfl] at uG;go_upto_region 12 with fail
     clear kb;have S3 := hd1 S2.out;have M4 := hd1 M3.out
     go_wp2_with (first
      | (refine G_ S3.row Ic jS ?_)
      | (at_builtin; refine Ac rfl (.tmp 59) (.tmp 61) rfl base _ acc ⟨key, [], true⟩ rfl ((HR.own.moves S3.mv (λ k hk e => Hf HQ.1)).moves (Moves.of_below (O := λ _ => False) (bla)) (λ _ _ h => h)) V3.heap.size 1 rfl (IC V3 _) (by rw [HR.wP]; omega) MQ (Below.refl _ (V3.alloc (.cells #[ag key, ag [], .bool true] a_))) ?_; intro v5 w5 h5 h6))
     go_roundw;case rel => exact ⟨i + 1, acc ++ [⟨key, [], true⟩], oT, _, _, _, GR, by go_num, NEXT.out _ _ _ _ _ _ _ _ _ _ _ S3.out M4.out uG.out (bla) h5.out h6.out⟩
     case measure => simp [intOf]; omega
   ·obtain rfl : i = M := GR
    have hQ : QQ = some (acc, r) := by
     have := HR.some r rfl;rw [J3] at this;rw [<-this];show some (acc ++ [], r) = _;rw [Ju]
    have HQQ := hd1 hQ;clear hQ hlt;have CH := hd1 (show dJ wr (λ k => w.heap.size <= k) (.slice xa an xc) acc from HR.own.at.weak (λ k hk _ => Hg HQ.1 HQ.2.2));have FIN := hd1 (show ∀ (W : World) (ok : Bool), Below wr wr W -> (ok = true -> r = [] /\ kk = 3 /\ Em.right acc = 0) -> (ok = false -> ¬ (r = [] /\ kk = 3 /\ Em.right acc = 0)) -> z2o w l (.returned (.tuple #[.slice xa an xc, .bool ok])) W from λ W ok hb h1 h2 => by
     refine ⟨HR.below.trans (hb.mono HR.below.size), _, acc, ok, rfl, CH.later hb, by rw [HR.wP]; exact N2, λ h => ?_, λ h c hc => ?_⟩
     ·obtain ⟨rfl, e2, e3⟩ := h1 h
      exact ⟨(RT.out acc).2 ⟨e2, HQQ.out⟩, e3⟩
     ·obtain ⟨e2, e3⟩ := (RT.out c).1 hc
      rw [HQQ.out] at e3;have e3 := IM e3;have e4 : acc = c := IG Prod.fst e3;have e5 : r = [] := IG Prod.snd e3;subst e4;exact λ h0 => h2 h ⟨e5, e2, h0⟩)
    by_cases h0 : rn = 0
    ·have r0 : r = [] := JU GR
     subst h0;clear e3;by_cases hk : kk = 3
     ·subst hk
      have BC := hd1 (z7v CH.out (by rw [HR.wP]; omega));by_cases hr : Em.right acc = 0
      ·rw [hr] at BC
       have HX := hd2 r0 hr;clear hr r0;go_wp2_with (go_at_call 40; refine BC.mono ?_; rintro e w9 ⟨rfl, b9⟩)
       go_ret2;exact FIN.out _ _ b9 (λ _ => ⟨HX.1, trivial, HX.2⟩) (λ h => by cases h)
      ·have HX := hd1 hr
       generalize Em.right acc = ee at *;clear r0;go_wp2_with (go_at_call 40; refine BC.mono ?_; rintro e w9 ⟨rfl, b9⟩)
       go_ret2;exact FIN.out _ _ b9 (λ h => absurd NU HX.out) (λ _ h => HX.out h.2.2)
     ·have hk' : ¬ (kk : Int) = 3 := GR
      have HX := hd1 hk;clear hk r0;go_wp2;go_ret2;exact FIN.out _ _ GY (λ h => by cases h) (λ _ h => HX.out h.2.1)
    ·have h0' : ¬ (rn : Int) = 0 := GR
     have HX := hd1 (show ¬ r = [] from λ h => h0 (by rw [e3, h]; rfl));clear e3 h0;go_wp2;go_ret2;exact FIN.out _ _ GY (λ h => by cases h) (λ _ h => HX.out h.1)
end
end Go.Proofs.YtgffifleflkjoaaGreat
