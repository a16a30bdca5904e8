/-
  Parts of a proof.
-/
import Derived.Test.YtgffifleflkjoaaGreatFin27
import Derived.Test.YtgffifleflkjoaaGreatFin28
set_option linter.unusedSimpArgs false
set_option linter.unusedVariables false
set_option maxRecDepth 100000
set_option maxHeartbeats 16000000
namespace Go.Proofs.YtgffifleflkjoaaGreat
open _root_.Go.Proofs.Tryz
variable {w W w' w0 wr w1 W0 W1 W2 A B : World} {F G F' O : Nat → Prop} {v : Value} {l : List UInt8} {n q m pd md pl g p : Nat} {C : Array Value} {c : Int}
section
open Go.RowKit Dm
attribute [local go_sem] Oper.semAt_some
def Em.mY (r : Em.Bytes × Em.Bytes) : Em.Bytes := Wm.frame (Wm.aG 2 ++ Wm.cB r.1 ++ Wm.cB r.2)
def Em.jT (g : Nat) (R : Em.bB) : Em.Bytes := Wm.frame (Wm.aG 1 ++ Wm.aG g ++ Wm.aG R.length) ++ R.flatMap Em.mY
theorem Cx (b : List UInt8) : (Wm.frame b).length <= b.length + 13 := by
 unfold Wm.frame;rw [IL];have h1 : (Cm.dw b).length = b.length + 4 := by unfold Cm.dw; rw [IL, Cm.ol]
 have := kQ (Cm.dw b).length;omega
theorem jf (s : List UInt8) : (Wm.cB s).length <= s.length + 9 := by
 unfold Wm.cB;rw [IL];have := kQ s.length;omega
theorem y8l {r : Em.Bytes × Em.Bytes} (h : r.1.length <= 64 /\ r.2.length <= 4096) : (Em.mY r).length <= 4300 := by
 have h1 := Cx (Wm.aG 2 ++ Wm.cB r.1 ++ Wm.cB r.2);have h2 := jf r.1;have h3 := jf r.2;have h4 := kQ 2;unfold Em.mY;rw [IL, IL] at h1;omega
theorem z5g : ∀ {R : Em.bB}, (∀ r ∈ R, r.1.length <= 64 /\ r.2.length <= 4096) -> (R.flatMap Em.mY).length <= 4300 * R.length
 | [], _ => GV
 | r :: R, h => by
  have h1 := y8l (h r (Jp ..));have h2 := z5g (R := R) (λ x hx => h x (JB _ hx));rw [J9, IL, I6];omega
theorem Ff (n : Nat) (w : World) (hn : n < 9223372036854775808) : Calls prog 89 #[(), .int .i64 n] w (z2q w w.heap.size (Wm.aG n)) :=
 (A7 GZ (lY w w.heap.size) GV hn).mono λ _ _ h => h
theorem Fg {R : Em.bB} (h : dx w F v R) (hR : R.length <= 1000) (hk : ∀ r ∈ R, r.1.length <= 64 /\ r.2.length <= 4096) (hg : g < 9223372036854775808) :
 Calls prog 52 #[.int .i64 g, v] w (gT w (Em.jT g R)) := by
 obtain ⟨ra, rc, e1⟩ := h.slice;subst e1;have HV := hd2 h hk;clear h hk;have W1 := kQ 1;have W2 := kQ g;have W3 := kQ R.length;have HW := hd1 (show Em.jT g R = Wm.frame (Wm.aG 1 ++ Wm.aG g ++ Wm.aG R.length) ++ R.flatMap Em.mY from rfl);generalize hN : R.length = N at *;have HN := hd1 hN;clear hN;obtain ⟨H, hH⟩ := G5 (Wm.frame (Wm.aG 1 ++ Wm.aG g ++ Wm.aG N));have HL : H.length <= 100 := by
  rw [<-hH];have := Cx (Wm.aG 1 ++ Wm.aG g ++ Wm.aG N);simp only [IL] at this;omega
 have HH := hd1 hH;clear hH;go_in
 go_upto_region 2 with (first
  | (go_at_call 89; refine (Ff 1 w GU).mono ?_; rintro e w1 ⟨v1, rfl, o1, b1⟩; have H1 := hd2 o1 b1; clear o1 b1)
  | (go_at_call 89; refine (A7 (w := w1) (base := w.heap.size) (n := g) H1.2.size H1.1 GR hg).mono ?_; rintro e w2 ⟨v2, rfl, o2, b2⟩; have H2 := hd2 o2 (H1.2.trans b2); clear o2 b2)
  | (go_at_call 89; refine (A7 (w := w2) (base := w.heap.size) (n := N) H2.2.size H2.1 N_ GR).mono ?_; rintro e w3 ⟨v3, rfl, o3, b3⟩; have H3 := hd2 o3 (H2.2.trans b3); clear o3 b3)
  | (go_at_call 88; refine (Fj H3.1.at N_).mono ?_; rintro e w4 ⟨v4, rfl, o4, b4⟩; have H4 := hd2 (bi o4 GY H3.2.size) (H3.2.trans (b4.mono H3.2.size)); clear o4 b4))
 rw [HH.out] at H4;clear H1 H2 H3;go_wp2;go_loopw [5, 6] (λ x s wr => ∃ i : Nat, i <= N /\ s = .int .i64 (i : Int) /\ bY wr w.heap.size x (H ++ (R.take i).flatMap Em.mY) /\ Below w w wr) (λ _ s _ => N - (intOf s).toNat)
 case atStart => exact ⟨0, IV _, rfl, by simpa using H4.1, H4.2⟩
 case round =>
  obtain ⟨i, hi, rfl, hown, hb⟩ := hrel;obtain ⟨xa, xn, xc, e1⟩ := hown.at.slice3;subst e1;by_cases hlt : i < N
  ·have i0 : (0 : Int) <= (i : Int) := GR
   have i1 : (i : Int) < (N : Int) := GR;obtain ⟨r, hr⟩ : ∃ r, R[i]? = some r := ⟨_, IR Nk⟩;have hk := HV.2 r (Jb hr);obtain ⟨b, o, rfl, _, lb, rg⟩ := HV.1.at hr;have y0 : ∀ y : Wd (Below w w), y.world.cell? (b, o + i * 2) = some (ag r.1) := λ y => (y.ok.cell (p := ⟨b, o + i * 2, none⟩) lb).trans (rg 0 _ rfl);have y1 : ∀ y : Wd (Below w w), y.world.cell? (b, o + i * 2 + 1) = some (ag r.2) := λ y => (y.ok.cell (p := ⟨b, o + i * 2 + 1, none⟩) lb).trans (rg 1 _ rfl);have ne : Nonempty (Wd (Below w w)) := ⟨⟨_, Below.refl _ _⟩⟩;have hl : (H ++ (R.take i).flatMap Em.mY).length <= 5000000 := by
    rw [IL];have h1 := z5g (R := R.take i) (λ x hx => HV.2 x (Ma hx));exact RI
   have hn : H ++ (R.take (i + 1)).flatMap Em.mY = (H ++ (R.take i).flatMap Em.mY) ++ Wm.frame (Wm.aG 2 ++ Wm.cB r.1 ++ Wm.cB r.2) := by
    rw [JC, hr, LW, <-IZ];simp [Em.mY]
   have l1 := jf r.1;have l2 := jf r.2;have l3 := kQ 2;have l4 : (Wm.frame (Wm.aG 2 ++ Wm.cB r.1 ++ Wm.cB r.2)).length <= 5000 := by
    have := Cx (Wm.aG 2 ++ Wm.cB r.1 ++ Wm.cB r.2);simp only [IL] at this;omega
   have D := hb.drew;have HO := hd3 hown hb hn;clear hown rg hr hn hb;go_upto_region 5 with fail
   refine bC (λ w' => ∃ x : Wd (Below w w), w' = x.world) [16] GQ ?_;refine aI [0, 2, 3, 4, 5, 6, 8, 9, 10, 11, 12] 6 _ ⟨⟨_, D⟩, rfl⟩ GQ ?_;simp only [fmc, fmn, gta, gcs, gcz];iterate 11 (with_reducible refine ak (λ K hK => ?_); simp only [au, ah]; go_simp; refine hK _ ?_; clear hK K)
   with_reducible refine aA ?_
   refine az 1 5 _ _ rfl GQ ?_;refine IE rfl λ K hK => ?_;go_simp;refine (Ff 2 wr.drew GU).mono ?_;rintro e w1 ⟨v1, rfl, o1, b1⟩;have b1 : Below wr wr w1 := GY.drew.trans b1;have B1 : Below w w w1 := HO.2.1.trans (b1.mono HO.2.1.size);refine hK _ _ (IB ⟨rfl, λ _ => ⟨⟨_, B1⟩, rfl⟩, ?_⟩);clear hK K;refine az 7 4 _ _ rfl GQ ?_;refine IE rfl λ K hK => ?_;go_simp;refine (AJ b1.size o1 GR GR).mono ?_;rintro e w2 ⟨v2, rfl, o2, b2⟩;have b2 : Below wr wr w2 := b1.trans b2;have B2 : Below w w w2 := HO.2.1.trans (b2.mono HO.2.1.size);refine hK _ _ (IB ⟨rfl, λ _ => ⟨⟨_, B2⟩, rfl⟩, ?_⟩);clear hK K;refine az 13 3 _ _ rfl GQ ?_;refine IE rfl λ K hK => ?_;go_simp;refine (AJ b2.size o2 (by simp only [IL]; omega) GR).mono ?_;rintro e w3 ⟨v3, rfl, o3, b3⟩;have b3 : Below wr wr w3 := b2.trans b3;have B3 : Below w w w3 := HO.2.1.trans (b3.mono HO.2.1.size);refine hK _ _ (IB ⟨rfl, λ _ => ⟨⟨_, B3⟩, rfl⟩, ?_⟩);clear hK K;refine az 14 2 _ _ rfl GQ ?_;refine IE rfl λ K hK => ?_;go_simp;refine (Fj o3.at (by simp only [IL]; omega)).mono ?_;rintro e w4 ⟨v4, rfl, o4, b4⟩;have b4 : Below wr wr w4 := b3.trans (b4.mono b3.size);have B4 : Below w w w4 := HO.2.1.trans (b4.mono HO.2.1.size);refine hK _ _ (IB ⟨rfl, λ _ => ⟨⟨_, B4⟩, rfl⟩, ?_⟩);clear hK K;refine az 15 1 _ _ rfl GQ ?_;refine dS rfl (.tmp 20) (.tmp 34) rfl w.heap.size w.heap.size w B4 GZ _ (H ++ (R.take i).flatMap Em.mY) rfl (bi HO.1 b4 GZ) _ (Wm.frame (Wm.aG 2 ++ Wm.cB r.1 ++ Wm.cB r.2)) _ rfl o4.at GR B4.size ?_;intro v5 w5 o5 B5 _;rw [<-HO.2.2] at o5
   have H5 := hd2 o5.out B5;clear o5 o1 o2 o3 o4;refine IB ⟨rfl, λ _ => ⟨⟨_, B5⟩, rfl⟩, ?_⟩;refine eY [16] 0 _ GQ ?_;refine G9 ?_;refine ⟨GQ, ?_⟩;clear B1 B2 B3 B4 B5 b1 b2 b3 b4 D y0 y1 ne;go_wp2;go_roundw;case rel => exact ⟨i + 1, GR, by go_num, H5.1, H5.2⟩
   case measure => simp [intOf]; omega
  ·exact PL
end
section
open Go.RowKit Dm Go.Shelf
attribute [local go_sem] Oper.semAt_some
def y0l (x : Em.Bytes × Em.Bytes) : Array Value := #[ag x.1, ag x.2]
theorem y1a {e : Em.E} (x : bO w pl pd md e F) : Calls prog 15 #[pl] w λ en w' =>
 ∃ m, en = .returned (.func (.func 43) #[] #[.pointer (some w.heap.size)]) /\ w.alloc (.cells #[.map (some m)] jM) = w' /\ RowsIn w m (Maps.size e.rows) e.rows /\ m ≠ pd /\ m ≠ md /\ m ≠ pl := by
 have gN : ∀ (fn : Fn) (first cap : Array Value) (w : World), (Instr.makeFunc fn first cap).run prog w = .ok (.func fn first cap) w := λ _ _ _ _ => rfl;have NC := hd1 x.none;obtain ⟨m, row, rows, hne⟩ := x.row;have f2 : w.cell? (pl, 2) = some (.map (some m)) := ae row rfl;have HR := hd2 rows hne;clear x row rows hne;go_in;go_wp2_with (go_at_call 36; refine NC.mono ?_; rintro en w0 ⟨rfl, rfl⟩)
 go_ret;exact ⟨m, rfl, rfl, HR.1, HR.2⟩
theorem jb.keeps {K : Nat -> Prop} {a : Option Addr} {c : Nat} {ks : List (List UInt8)} (h : jb A (.slice a n c) ks) (hk : dm K A B) (hK : ∀ b o x, a = some ⟨b, o, x⟩ -> K b) : jb B (.slice a n c) ks := by
 rcases h with h | ⟨b, cap, cs, h1, h2, h3⟩
 ·exact Iy h
 ·have e : a = some ⟨b, 0, none⟩ := by cases h1; rfl
  exact Iz ⟨b, cap, cs, h1, (hk.block b (hK b 0 none e) (aa h2)).trans h2, h3⟩
theorem y8q {K : Nat -> Prop} {D : Em.Rows} (h : RowsIn A m n D) (hk : dm K A B) (hK : K m) : RowsIn B m n D := by
 have lt := h.lt;obtain ⟨es, clock, k1, F, hs, hD⟩ := h;exact ⟨es, clock, (hk.block m hK lt).trans k1, F, hs, hD⟩
theorem y6h {D : Em.Rows} (h : RowsIn w m n D) (hn : Maps.size D <= 1000000) : Calls prog 44 #[.map (some m)] w λ e w' =>
 ∃ v, e = .returned v /\ jb w' v (Em.cO D) /\ Below w w w' /\ ∀ a n c, v = .slice (some a) n c -> w.heap.size <= a.block /\ a.block < w'.heap.size := by
 have K := hd1 (Jg.1 (Gr (some m) w));have S := hd1 (Jg.1 (z4f m n D (plainElem prog dB) w h Nr GR));clear h;go_in
 go_wp2_with (first
  | (go_at_call 83; refine K.mono ?_; rintro e w' ⟨rfl, rfl⟩)
  | (go_at_call 82; refine S.mono ?_; rintro e w1 ⟨v, ss, rfl, hS, hrow, hnil, hb⟩))
 go_ret;have e1 : ss.mergeSort (λ x y => decide (x <= y)) = Em.cO D := mergeSort_of_perm hS;have e2 : ss.length = (Em.cO D).length := by rw [<-e1, List.length_mergeSort]
 rw [e1, e2] at hrow;have hb' := ((Below.refl _ w).alloc GZ _).trans (hb.mono GV);refine ⟨v, rfl, z8b hrow, hb', ?_⟩;rintro a n' c rfl;rcases hrow.2 with ⟨h1, _⟩ | ⟨g, cap, cur, h1, h2, h3, _⟩
 ·cases h1
 ·cases h1
  simp only [Jk] at h2;exact ⟨by simp only; omega, aa h3⟩
theorem w0m {D : Em.Rows} (hg : w.cell? g = some (.map (some m))) (hm : RowsIn w m n D) (hs : Maps.size D <= 256) (hD : Em.bI D) :
 Iter prog 43 #[.pointer (some g)] y0l (Em.tell D) (λ i => i = m \/ i = g) w := by
 intro l J Jx W hW hJ hJx hY h0;have lg : g < w.heap.size := IX hg;have f0 := (hW.cell (p := ⟨g, 0, none⟩) lg).trans hg;have r0 := dZ hm hW hm.lt;have sW := hW.size;have lm := hm.lt;have SC := hd1 ((Jg (n := 0)).2 (y6h r0 GR));have HH := hd3 h0 r0 hD;clear hm hg h0 r0;refine callsIn_of_wp func43 rfl trivial ?_ rfl;simp only [ntmps43, KE, I6, Jy, Nat.reduceAdd, Nat.reduceSub, J_, Ka, Kb, Kc, Ji, JK];gi_wp2;refine En (Eo ?_)
 gi_wp2_with (refine ⟨trivial, rfl, ?_⟩; gi_at_call 44; refine SC.mono ?_; rintro e w1 ⟨kv, rfl, y1, b1, l1⟩
              obtain ⟨ka, kc, rfl⟩ := y1.slice;have H1 := hd2 y1 b1;have L1 := hd1 (show ∀ b o x, ka = some ⟨b, o, x⟩ -> W.heap.size <= b /\ b < w1.heap.size from λ b o x e => l1 ⟨b, o, x⟩ _ _ (by rw [e]));clear y1 b1 l1)
 have hN : (Em.cO D).length <= 256 := by rw [Em.su]; exact hs
 have hO := hJ 0 (λ _ => False) (λ k => W.heap.size <= k /\ k < w1.heap.size) W w1 HH.1 (Moves.of_below H1.2) (λ _ h => h.elim) (λ _ h => Iz h.1);have R1 := dZ HH.2.1 H1.2 GR;have G1 := (H1.2.cell (p := ⟨g, 0, none⟩) Ny).trans f0;have HS := hd4 hO R1 G1 H1.1;clear hO R1 G1 f0;generalize hn : (Em.cO D).length = N at *;have HN := hd1 hn;clear hn;gi_loopw [8] (λ p wr => ∃ k : Nat, p = .int .i64 (k : Int) /\ k <= N /\ J k (λ k => W.heap.size <= k /\ k < w1.heap.size) wr /\ RowsIn wr m n D /\ wr.cell? g = some (.map (some m)) /\ jb wr (.slice ka N kc) (Em.cO D) /\ w1.heap.size <= wr.heap.size) (λ p _ => N + 1 - (intOf p).toNat)
 case atStart => exact ⟨0, rfl, GR, HS.1, HS.2.1, HS.2.2.1, HS.2.2.2, Nat.le_refl _⟩
 case round =>
  obtain ⟨k, rfl, hk, pU, rk, fk, yk, sk⟩ := hrel;by_cases hlt : k < N
  ·have i0 : (0 : Int) <= (k : Int) := GR
   have i1 : (k : Int) < (N : Int) := GR;obtain ⟨kk, hkk⟩ : ∃ x, (Em.cO D)[k]? = some x := ⟨_, IR Nk⟩;obtain ⟨b, rfl, hc⟩ := yk.at hkk;have lk := z8s rk kk (Hf ((Em.sj HH.2.2 (Jb hkk)).2));have hx : (Em.tell D)[k]? = some (kk, Em.valueOf D kk) := by unfold Em.tell; rw [Kq, hkk]; rfl
   obtain ⟨fn, tmps, assign, body, hy, hR⟩ := hY k _ _ wr hx pU;simp only [y0l] at hy;have H2 := hd4 rk fk yk sk;clear rk yk sk hkk hx;gi_wp2;refine ⟨rfl, hR.mono ?_⟩;rintro e W' (⟨rfl, hJ', hk'⟩ | ⟨rfl, qY, hk'⟩)
   ·have hw1 : IntKind.i64.wrap ((k : Int) + 1) = ((k + 1 : Nat) : Int) := Ja _ GR
    gi_wp2;obtain ⟨rk, fk, yk, sk⟩ := H2.out;refine ⟨⟨k + 1, GV, GR, hJ', y8q rk hk' (Iz (Iy rfl)), ?_, yk.keeps hk' (λ b o x e => Iy (L1.out b o x e)), IP sk hk'.size⟩, ?_⟩
    ·have := H1.2.size
     exact (IW (hk'.block g (Iz (Iz rfl)) GR)).trans fk
    ·simp [intOf]; omega
   ·gi_wp2
    simp +zetaDelta only [KG]; refine KH (KI rfl _ _ _) rfl ?_;exact ⟨⟨_, rfl⟩, _, .inr ⟨k + 1, by have e : (Em.tell D).length = N := (by unfold Em.tell; rw [Le]; exact HN.out); omega, qY⟩⟩
  ·obtain rfl : k = N := GR
   gi_wp2;simp +zetaDelta only [KG]; refine KH (KI rfl _ _ _) rfl ?_;exact ⟨⟨_, rfl⟩, _, .inl (by have e : (Em.tell D).length = k := (by unfold Em.tell; rw [Le]; exact HN.out); rw [e]; exact pU)⟩
end
open Go.RowKit Dm
abbrev iV : Nat := 43
abbrev z3b : Nat := 37
abbrev jy := Em.iy × Value × Value
def zD (q : jy) : List Value := [.int .i64 q.1.what, q.2.1, .int .i64 q.1.n, q.2.2, .int .i64 q.1.aT.bq, .int .i64 q.1.aT.part]
def i64' (n : Int) : Prop := -9223372036854775808 <= n /\ n <= 9223372036854775807
structure qA (w : World) (q : jy) : Prop where
 l : dJ w (λ _ => True) q.2.1 q.1.l
 keep : nT w.heap q.2.2 q.1.aT.keep
 what : i64' q.1.what
 n : i64' q.1.n
 bq : i64' q.1.aT.bq
 part : i64' q.1.aT.part
 z8o : q.1.l.length <= 9223372036854775807
 z8d : q.1.aT.keep.length <= 9223372036854775807
def uU (w : World) (v : Value) (Q : List jy) : Prop :=
 ((v = .slice none 0 0 \/ ∃ ad c, v = .slice (some ad) 0 c) /\ Q = []) \/ ∃ (b o cap : Nat) (cs : Array Value) (t : TypeId) (fr : Nat × Nat), v = .slice (some ⟨b, o, none⟩) Q.length cap /\ w.heap[b]? = some (.cells cs t fr) ∧
   ∀ (i : Nat) (q : jy), Q[i]? = some q -> qA w q /\ ∀ (j : Nat) u, (zD q)[j]? = some u -> cs[o + i * 6 + j]? = some u
theorem uU.slice {Q : List jy} (h : uU w v Q) : ∃ a c, v = .slice a Q.length c := by
 rcases h with ⟨rfl | ⟨_, _, rfl⟩, rfl⟩ | ⟨b, o, cap, cs, t, fr, rfl, _⟩
 ·exact ⟨_, _, rfl⟩
 ·exact ⟨_, _, rfl⟩
 ·exact ⟨_, _, rfl⟩
theorem nT.later {l : List Bool} (x : nT w.heap v l) (hb : Below w w w') : nT w'.heap v l := by
 rcases x with x | ⟨b, o, cap, c, t, fr, h1, h2, h3⟩
 ·exact Iy x
 ·exact Iz ⟨b, o, cap, c, t, fr, h1, (hb.block b (aa h2)).trans h2, h3⟩
theorem qA.later {q : jy} (h : qA w q) (hb : Below w w w') : qA w' q :=
 ⟨h.l.later hb, h.keep.later hb, h.what, h.n, h.bq, h.part, h.z8o, h.z8d⟩
theorem uU.at {a : Option Addr} {cap : Nat} {Q : List jy} (h : uU w (.slice a n cap) Q) {i : Nat} {q : jy} (hi : Q[i]? = some q) :
 ∃ b o, a = some ⟨b, o, none⟩ /\ b < w.heap.size /\ w.rangeAt b (o + i * 6) (zD q) /\ qA w q := by
 rcases h with ⟨_, rfl⟩ | ⟨b, o, cap', cs, t, fr, h1, h5, h6⟩
 ·simp at hi
 ·cases h1
  obtain ⟨g1, g2⟩ := h6 i q hi;exact ⟨b, o, rfl, aa h5, λ j v hj => (IJ _ _ _ _ _ _ h5).trans (g2 j v hj), g1⟩
theorem y4k {d : D} (x : aQ w.heap p m d F) : Calls prog 62 #[p] w λ e w' => e = .returned (.int .i64 d.waits.length) /\ w = w' := by
 have k16 := x.lu.1;obtain ⟨ok, t0, t1, t2, t3, ml, l0, l1, l2, l3, wv, stops, after, c1, c2, c3, c4, c5, c6, c7, c8, c9, b0, b1, b2, b3, b4, b5, b6, b7, st⟩ := x;obtain ⟨a, c, rfl, _⟩ := st.slice;exact y4l p a d.waits.length c w k16 (ae c1 rfl)
theorem x6m {d : D} (x : aQ w.heap p m d F) : Calls prog 63 #[p] w λ e w' => e = .returned (.bool d.dead) /\ w = w' :=
 x6n p d.dead w x.lu.1 x.lu.2.2.2
theorem ED {d : D} (x : aQ w.heap p m d F) (hr : bR w.heap G v d) (hn : d.waits.length <= 1000000000000) :
 Calls prog 30 #[p, v] w λ e w' => e = .returned (.bool true) /\ Below w w w' := by
 have ok := x.ok;have hr0 := hr;obtain ⟨AV, AU, AR, AQ, AP, rwv, rfl, rrb, rst⟩ := hr;obtain ⟨rwa, vB, rfl, _⟩ := rst.slice;have hb0 : Below w w (w.alloc (.cells (dC d.many d.room AV AU AR AQ AP (.slice rwa d.waits.length vB) d.dead d.stops) af)) := bla;have r0 := IC w (.cells (dC d.many d.room AV AU AR AQ AP (.slice rwa d.waits.length vB) d.dead d.stops) af);obtain ⟨W0, hW0⟩ := G5 (w.alloc (.cells (dC d.many d.room AV AU AR AQ AP (.slice rwa d.waits.length vB) d.dead d.stops) af));rw [hW0] at hb0 r0;have mid : ∀ X : World, Below W0 W0 X -> X.cell? (w.heap.size, 7) = some (.slice rwa d.waits.length vB) /\ X.cell? (w.heap.size, 8) = some (.bool d.dead) := λ X hb => by
  have hX := (hb.block _ (aa r0)).trans r0;exact ⟨ae hX rfl, ae hX rfl⟩
 have oM := hd1 mid;have SD := hd1 (qI (hr0.keeps (h' := W0.heap) (F' := G) (λ k _ hl => hb0.block k hl) (λ _ h _ => h)) ok hn);generalize hC : dC d.many d.room AV AU AR AQ AP (.slice rwa d.waits.length vB) d.dead d.stops = C at *;have bN : C.size = 10 := by rw [<-hC]; rfl
 have H0 := hd3 hb0 r0 bN;have X := hd1 (x.below hb0);have HW := hd1 hW0;clear mid rrb rst hb0 r0 x ok hn hr0 bN hC hW0;go_in;go_upto_region 1 with fail
 rw [HW.out]
 go_upto_region 2 with (first
  | (refine II rfl af (.tmp 3) rfl w.heap.size rfl af C (0, 0) _ H0.2.1 Hu rfl (by rw [aH, H0.2.2]) ?_)
  | (go_at_call 49; refine SD.mono ?_; rintro e X1 ⟨sv, t0, t1, t2, t3, rfl, hb1, dI⟩
     have R1 := hd2 hb1 dI;clear hb1 dI)
  | (refine aC rfl aO _ _ rfl X1.heap.size #[sv, t0, t1, t2, t3] rfl rfl aO eT (IC X1 _) bX rfl R1.2.ones ?_
     intro W1 HW1 dH j_))
 have z0o : Below W0 W0 W1 := R1.1.trans (Moves.new (bla) dH GZ |>.mono R1.1.size);have dI : RB W1.heap (λ _ => True) sv t0 t1 t2 t3 d.stand d.many := R1.2.keeps (λ k hk hl => dH.block k N_ GR |>.trans (heap_old_own _ _ _ hl)) (λ _ _ _ => trivial);have H1 := hd3 z0o HW1.out dI;have X1d := hd1 (X.below z0o);clear z0o dI dH j_ HW1 R1 SD;generalize X1.heap.size = xb at *;go_wp2;go_loopg [6] 4 (λ g s wr => ∃ i : Nat, s = .int .i64 (i : Int) /\ g + i = 4 /\ Below W1 W1 wr)
 case atStart => exact ⟨0, rfl, rfl, Below.refl _ _⟩
 case round =>
  obtain ⟨t, rfl, hg, rel⟩ := hrel;by_cases hlt : t < 4
  ·have T1 := hd1 (EE (X1d.below rel) (t : Int))
   rw [Iw GR, Iw GR] at T1;have nL := hd2 rel hg;clear rel hg;have n4 : (t : Int) < 4 := GR;have n00 : (0 : Int) <= (t : Int) := GR;obtain ⟨tv, e1, e2⟩ := H1.2.2.tape t GR;have E := hd2 e1 e2;clear e1 e2;go_upto_region 6 with (go_at_call 61; refine T1.mono ?_; rintro e w2 ⟨v2, rfl, hb2, f2⟩)
   have Ce : Below W1 W1 w2 := nL.1.trans (hb2.mono nL.1.size);have kt : ∀ n, (w2.drewN n).cell? (xb, 1 + t) = some tv := λ n => ae (w := w2.drewN n) ((Ce.block _ (aa H1.2.1)).trans H1.2.1) E.1;have c1 := λ n => qK (w := w2.drewN n) f2.bytes;have c2 := λ n => qK (w := w2.drewN n) (E.2.below (below_drewN Ce n));obtain ⟨ra, rc, rfl⟩ := f2.bytes.slice;obtain ⟨ta, tc, rfl⟩ := E.2.slice;have F2 := hd1 Ce;clear hb2 f2 Ce;go_quiet ((go_at_call 12; exact Kn ((iX _ _).mono λ e w' h => ⟨h.1, h.2.symm⟩)))
   go_wp2;go_roundg (4 - (t + 1))
   case measure => have := nL.2; omega
   case rel => exact ⟨t + 1, by go_num, Hf nL.2, below_drewN F2.out _⟩
  ·obtain rfl : t = 4 := GR
   have wo : Below W0 W0 wr := H1.1.trans (rel.mono H1.1.size);have XD := hd1 (X1d.below rel);have x7 : ∀ x : Wd (Below wr wr), x.world.cell? (w.heap.size, 7) = some (.slice rwa d.waits.length vB) := λ x => (oM.out x.world (wo.trans (x.ok.mono wo.size))).1;have x8 : ∀ x : Wd (Below wr wr), x.world.cell? (w.heap.size, 8) = some (.bool d.dead) := λ x => (oM.out x.world (wo.trans (x.ok.mono wo.size))).2;have ne : Nonempty (Wd (Below wr wr)) := ⟨⟨_, Below.refl _ _⟩⟩;have B2 := hd1 wo;clear rel hg wo hlt;go_upto_region 8 with fail
   refine bC (λ w' => ∃ x : Wd (Below wr wr), w' = x.world) [] GQ ?_;refine aI [0, 2, 3, 4] 10 _ Hq GQ ?_;refine G9 ?_;refine az 1 9 _ _ rfl GQ ?_;refine IE rfl λ K hK => ?_;go_simp;go_at_call 62;refine (y4k (w := wr.drew) XD.out).mono ?_;rintro e w' ⟨rfl, rfl⟩;refine hK _ _ (IB ⟨rfl, λ _ => Hq, ?_⟩);clear hK K;refine aI [5, 6, 7, 9, 10] 4 _ Hq GQ ?_;refine G9 ?_;refine az 8 3 _ _ rfl GQ ?_;refine Js λ K hK => ?_;go_simp;go_at_call 63;refine (x6m (w := wr.drew) XD.out).mono ?_;rintro e w' ⟨rfl, rfl⟩;refine hK _ _ (IB ⟨rfl, λ _ => Hq, ?_⟩);clear hK K;have FIN := hd1 (H0.1.trans ((B2.trans ((Below.refl wr wr).drew.mono B2.size)).mono H0.1.size));refine aI [11, 12, 13] 0 _ Hq GQ ?_;refine G9 ?_;refine ⟨GQ, ?_⟩;go_wp2;go_ret;exact ⟨rfl, FIN.out⟩
section
attribute [local go_sem] Oper.semAt_some
theorem z1o {e : Em.E} (x : bO w pl pd md e F) : Calls prog 24 #[pl] w λ en w' => en = .returned (.pointer (some pd)) /\ w = w' := by
 have NC := hd1 x.none;obtain ⟨m, row, rows, _⟩ := x.row;have f5 : w.cell? (pl, 5) = some (.pointer (some pd)) := ae row rfl;clear x row rows;go_in;go_wp2_with (go_at_call 36; refine NC.mono ?_; rintro en w0 ⟨rfl, rfl⟩)
 exact OJ
theorem x7k {e : Em.E} (x : bO w pl pd md e F) : Calls prog 25 #[pl] w λ en w' =>
 ∃ eB fo md' F', en = .returned (.pointer (some ⟨eB, 0, none⟩)) /\ Below w w w' /\ w.heap.size <= eB /\ w.heap.size <= fo /\ w.heap.size <= md' /\ bO w' eB fo md' e F' /\ ∀ k, F' k -> (F k /\ k < w.heap.size) \/ (w.heap.size <= k /\ k < w'.heap.size) := by
 have NC := hd1 x.none;obtain ⟨m, row, rows, hne⟩ := x.row;have CC := hd1 (x7l (w := w.drew) x.disk);have f5 : ∀ y : Wd (Below w w), y.world.cell? (pl, 5) = some (.pointer (some pd)) := λ y => aN y.ok (ae row rfl);have f6 : ∀ y : Wd (Below w w), y.world.cell? (pl, 6) = some (.bool e.gone) := λ y => aN y.ok (ae row rfl);have LD : Hid (∀ w', (∃ y : Wd (Below w w), w' = y.world) -> (Instr.loadAt dK (.pointer (some pl))).run prog w' = .ok (.agg #[.int .i64 e.tp, .int .i64 e.gen, .map (some m), .int .i64 e.aL, .int .i64 e.fin]) w') := by
  rintro w' ⟨y, rfl⟩
  exact Kk y.world pl 0 dK [.int .i64 e.tp, .int .i64 e.gen, .map (some m), .int .i64 e.aL, .int .i64 e.fin] _ (λ j v hj => aN y.ok (ae row (by
   match j, hj with
   | 0, hj => cases hj; rfl
   | 1, hj => cases hj; rfl
   | 2, hj => cases hj; rfl
   | 3, hj => cases hj; rfl
   | 4, hj => cases hj; rfl
   | n + 5, hj => cases hj))) Iq rfl pK
 have HX := hd3 x rows hne;have ne : Nonempty (Wd (Below w w)) := ⟨⟨_, Below.refl _ _⟩⟩;clear x row rows hne;go_in;go_upto_region 3 with (go_at_call 36; refine NC.mono ?_; rintro en w0 ⟨rfl, rfl⟩)
 refine bC (λ w' => ∃ x : Wd (Below w w), w' = x.world) [14, 15] GQ ?_;refine aI [0, 1, 2, 3, 4, 5, 6, 7, 9, 10, 11, 12] 4 _ Hq GQ ?_;simp only [fmc, fmn, gta, gcs, gcz];refine ak (λ K hK => ?_); simp only [au, ah]; go_simp; refine hK _ ?_; clear hK K;refine ak (λ K hK => ?_); simp only [au, ah]; go_simp; refine hK _ ?_; clear hK K;refine ak (λ K hK => ?_); simp only [au, ah]; go_simp; refine hK _ ?_; clear hK K;refine dX rfl dK (.tmp 7) rfl _ LD.out ?_;repeat refine G8 ?_
 refine aA ?_;refine az 8 3 _ _ rfl GQ ?_;refine IE rfl λ K hK => ?_;go_simp;go_at_call 47;refine CC.mono ?_;rintro en w8 ⟨m', rfl, b8, hm', x8⟩;have rC : Below w w w8 := GY.drew.trans b8;have X8 := hd3 rC hm' x8;clear b8 hm' x8;refine hK _ _ (IB ⟨rfl, λ _ => ⟨⟨_, rC⟩, rfl⟩, ?_⟩);clear hK K;refine aI [13] 2 _ ⟨⟨_, rC⟩, rfl⟩ GQ ?_;refine G9 ?_;refine az 14 1 _ _ rfl GQ ?_;refine IE rfl λ K hK => ?_;go_simp;refine hK _ _ (IB ⟨rfl, λ h => absurd GU h, ?_⟩);clear hK K;refine az 15 0 _ _ rfl GQ ?_;refine IE rfl λ K hK => ?_;go_simp;refine hK _ _ (IB ⟨rfl, λ h => absurd GU h, GQ, ?_⟩);clear hK K;go_wp2;go_ret;obtain ⟨b8, hm', x8⟩ := X8.out;obtain ⟨x, rows, hne⟩ := HX.out;have ba : Below w8 w8 (w8.alloc (.cells (jF e.tp e.gen (.map (some m)) e.aL e.fin w.heap.size e.gone) eO)) := bla;have l8 := x8.lt;have lm := rows.lt;have z8 := b8.size;have w1b : w.heap.size <= m' := hm';have lw : w.drew.heap.size = w.heap.size := rfl;refine ⟨_, w.heap.size, m', _, rfl, b8.alloc b8.size _, b8.size, Nat.le_refl _, hm', ⟨x.good, x8.below ba, ⟨m, IC w8 _, ?_, GR, GR, GR⟩, GR, GR, ?_⟩, ?_⟩
 ·exact dZ (dZ rows b8 lm) ba GR
 ·rintro (h | h)
  ·omega
  ·omega
 ·rintro k (h | h)
  ·exact Iy h
  ·exact Iz ⟨h.1, by simp; omega⟩
end
end Go.Proofs.YtgffifleflkjoaaGreat
