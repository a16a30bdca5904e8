/-
  Parts of a proof.
-/
import Derived.Test.YtgffifleflkjoaaGreatFin33
set_option linter.unusedSimpArgs false
set_option linter.unusedVariables false
set_option maxRecDepth 100000
set_option maxHeartbeats 16000000
namespace Go.Proofs.YtgffifleflkjoaaGreat
open _root_.Go.Proofs.Tryz
variable {w W w' w0 wr w1 W0 W1 W2 A B : World} {F G F' O : Nat → Prop} {v : Value} {l : List UInt8} {n q m pd md pl g p : Nat} {C : Array Value} {c : Int}
open Go.RowKit Dm
theorem Be {b : List UInt8} (h : Em.fI b = some (g, n)) : ∃ ra rb, Wm.bF 3 b = some (1, ra) /\ Wm.bF 2147483647 ra = some (g, rb) /\ Wm.bF 256 rb = some (n, []) /\ 0 < g := by
 unfold Em.fI at h;cases hk : Wm.bF 3 b with
 | none => rw [hk] at h; cases h
 | some p =>
  obtain ⟨k, ra⟩ := p;rw [hk] at h;simp only at h;by_cases hk1 : k ≠ 1
  ·rw [IE hk1] at h; cases h
  ·rw [IA hk1] at h
   have hk1 : k = 1 := GX;subst hk1;cases hg : Wm.bF 2147483647 ra with
   | none => rw [hg] at h; cases h
   | some p =>
    obtain ⟨g', rb⟩ := p;rw [hg] at h;simp only at h;cases hn : Wm.bF 256 rb with
    | none => rw [hn] at h; cases h
    | some p =>
     obtain ⟨n', rc⟩ := p;rw [hn] at h;simp only at h;by_cases hc : rc = [] /\ 0 < g'
     ·rw [IE hc] at h
      have e := IR h;have e1 : g' = g := IK Prod.fst e;have e2 : n' = n := IK Prod.snd e;exact QX
     ·rw [IA hc] at h; cases h
theorem Ba {last b k v : List UInt8} (h : Em.jl last b = some (k, v)) : ∃ ra rb, Wm.bF 3 b = some (2, ra) /\ Wm.df 64 ra = some (k, rb) /\ Wm.df 4096 rb = some (v, []) /\ ¬ k <= last := by
 unfold Em.jl at h;cases hk : Wm.bF 3 b with
 | none => rw [hk] at h; cases h
 | some p =>
  obtain ⟨kd, ra⟩ := p;rw [hk] at h;simp only at h;by_cases hk1 : kd ≠ 2
  ·rw [IE hk1] at h; cases h
  ·rw [IA hk1] at h
   have hk1 : kd = 2 := GX;subst hk1;cases hg : Wm.df 64 ra with
   | none => rw [hg] at h; cases h
   | some p =>
    obtain ⟨k', rb⟩ := p;rw [hg] at h;simp only at h;cases hn : Wm.df 4096 rb with
    | none => rw [hn] at h; cases h
    | some p =>
     obtain ⟨v', rc⟩ := p;rw [hn] at h;simp only at h;by_cases hc : rc = [] /\ ¬ k' <= last
     ·rw [IE hc] at h
      have e := IR h;have e1 : k' = k := IK Prod.fst e;have e2 : v' = v := IK Prod.snd e;exact QX
     ·rw [IA hc] at h; cases h
structure D9 (w : World) (g1 g2 M N m0 : Nat) (l : List UInt8) (i : Nat) (last : List UInt8) (wr : World) (D : Em.Rows) (fin : Nat) : Prop where
 next : fQ wr g1 g2 l fin
 rows : RowsIn wr M i D
 cZ : Em.dS l N m0 [] (.map []) = Em.dS l (N - i) fin last D
 mv : Moves (λ k => k = g2 \/ w.heap.size <= k) w wr
theorem z3a (a b : List UInt8) (h : ¬ a <= b) : Op.bytesLess a b = false := by
 rw [uA, LW];exact λ h2 => h (List.le_of_lt h2)
theorem z3b (a b : List UInt8) (h : ¬ a <= b) : (a == b) = false := by
 rw [J9];rintro rfl;exact h (KX _)
theorem x9p {T g1 g2 gen fin : Nat} {at' : Int} {rv : Value} {b0 e0 g0 : Nat} {D : Em.Rows} (h : fQ w g1 g2 l 0) (hl : l.length <= 1000000000)
 (hT : w.heap[T]? = some (.cells (jh at' g0 rv b0 e0) dK (0, 0))) (h1 : g1 < T) (h2 : T < g2) (hr : Em.fe l = some (gen, D, fin)) :
 Calls prog 112 #[.pointer (some T), .func (.func 107) #[] #[.pointer (some g1), .pointer (some g2)]] w λ e w' =>
  e = .returned (.tuple #[]) /\ fQ w' g1 g2 l fin /\ (∃ m', w'.heap[T]? = some (.cells (jh at' gen (.map (some m')) b0 e0) dK (0, 0)) /\ RowsIn w' m' (Maps.size D) D /\ w.heap.size <= m') /\ Moves (λ k => k = T \/ k = g2) w w' := by
 have eg := enters_of func107 GV rfl;unfold Em.fe at hr;cases hsp : Wm.split l with
 | none => rw [hsp] at hr; cases hr
 | some p =>
  obtain ⟨body, m0⟩ := p;rw [hsp] at hr;simp only at hr;cases hh : Em.fI body with
  | none => rw [hh] at hr; cases hr
  | some p =>
   obtain ⟨g, N⟩ := p;rw [hh] at hr;simp only at hr;obtain ⟨ra, rb, hk, hg, hn, g0'⟩ := Be hh;cases hrw : Em.dS l N m0 [] (.map []) with
   | none => rw [hrw] at hr; cases hr
   | some p =>
    obtain ⟨D', fin'⟩ := p;rw [hrw] at hr;obtain ⟨rfl, rfl, rfl⟩ : g = gen /\ D' = D /\ fin' = fin := by
     have e := IR hr;exact ⟨IK Prod.fst e, IK (λ p => p.2.1) e, IK (λ p => p.2.2) e⟩
    obtain ⟨_, _, fK⟩ := jA hsp;have la := g_ hk;have gL := g_ hg;have yL := g_ hn;have w1w : N <= 256 := yL.2.1;have NX := hd1 (rf h hl NH);have RC := hd1 (λ (X : World) (F : Nat -> Prop) (v : Value) (hv : BytesAt X.heap F v body) => qX hv GX hk);have GC := hd1 (λ (X : World) (q : Nat) (hx : aV X q ra) => oO hx GX hg);have MC := hd1 (λ (X : World) (q : Nat) (hx : aV X q rb) => oO hx GX hn);have HH := hd6 h hT hrw hl h1 h2;have x4d : (0 : Int) < (g : Int) := GX;have x4e : 0 < g := g0';clear h hT hrw hr hh hk hg hn hsp la gL yL fK hl g0';go_in
    go_upto_region 1 with (first
     | (with_reducible refine NX.out.mono ?_; rintro e w1 ⟨v1, rfl, y1, x1, m1⟩; have H1 := hd3 y1 x1 m1; clear y1 x1 m1)
     | (go_at_call 147; refine (RC.out _ _ _ H1.1).mono ?_; rintro e w2 ⟨q, rfl, x2, hq, b2⟩; have H2 := hd3 x2 hq b2; clear x2 hq b2))
    obtain ⟨W2, hW2⟩ := G8 (w2.alloc (.cells #[.pointer (some ⟨q, 0, none⟩)] cK));have B2 : Below w2 w2 W2 := by rw [<-hW2]; exact bla
    have r4 : W2.heap[w2.heap.size]? = some (.cells #[q] cK) := by rw [<-hW2]; exact II w2 _
    have lq := H2.1.lt;rw [hW2];obtain ⟨g4, hg4⟩ := G8 w2.heap.size;have X2 := hd1 (H2.1.later B2);rw [hg4] at r4 lq ⊢;have f4 : ∀ x : Wd (Moves (λ k => k = q) W2), x.world.cell? g4 = some (.pointer (some q)) := λ x => (I1 (x.ok.block g4 (aa r4) GX)).trans (ae r4 rfl);have ne : Nonempty (Wd (Moves (λ k => k = q) W2)) := ⟨⟨_, Moves.refl _ _⟩⟩;have HB := hd4 B2 r4 lq hg4;clear B2 r4 lq hW2 hg4;refine bD (λ w' => ∃ x : Wd (Moves (λ k => k = q) W2), w' = x.world) [3, 4, 5, 6] GV ?_;refine aL [0, 2] 5 _ ⟨⟨_, Moves.of_below G6.drew⟩, rfl⟩ GV ?_;simp only [fmc, fmn, gta, gcs, gcz];iterate 2 (with_reducible refine ak (λ K hK => ?_); simp only [au, aj]; go_simp; refine hK _ ?_; clear hK K)
    with_reducible refine aB ?_
    refine aA 1 4 _ _ rfl GV ?_;refine IJ rfl λ K hK => ?_;go_simp;go_at_call 148;refine (GC.out W2.drew q (X2.later G6.drew)).mono ?_;rintro e w3 ⟨rfl, x3, m3⟩;have M3 : Moves (λ k => k = q) W2 w3 := (Moves.of_below (Below.refl W2 W2).drew).trans m3 (λ _ _ h => h);have H3 := hd2 x3 M3;clear x3 m3;refine hK _ _ (IG ⟨rfl, λ _ => ⟨⟨_, M3⟩, rfl⟩, ?_⟩);clear hK K;clear M3;refine aA 3 3 _ _ rfl GV ?_;refine IJ rfl λ K hK => ?_;go_simp;go_at_call 148;refine (MC.out w3 q H3.1).mono ?_;rintro e w4 ⟨rfl, x4, m4⟩;have H4 := hd2 x4 (H3.2.trans m4 (λ _ _ h => h));clear x4 m4 f4 ne;refine hK _ _ (IG ⟨rfl, λ h => absurd GY h, ?_⟩);clear hK K;refine eY [4, 5, 6] 0 _ GV ?_;refine Hd ?_;refine ⟨GV, ?_⟩;have c4 : w4.cell? g4 = some (.pointer (some q)) := (I1 (H4.2.block g4 (aa HB.2.1) (Hm HB.2.2.1))).trans (ae HB.2.1 rfl);have EC := hd1 (uu H4.1);have hmm := @Ky prog
    go_wp2_with (first
     | (go_at_call 149; refine EC.mono ?_; rintro e w5 ⟨rfl, b5⟩; have H5 := hd1 b5; clear b5 c4)
     | (go_at_call 109; refine (kN _).mono ?_; rintro e w' ⟨rfl, rfl⟩))
    obtain ⟨W5, qc⟩ := G8 (w5.alloc (.map #[] 0));have b5 : Below w5 w5 W5 := by rw [<-qc]; exact bla
    have rM : RowsIn W5 w5.heap.size 0 (.map []) := by rw [<-qc]; exact Mj (H := Unit) w5 prog dB (plainElem prog dB)
    have BW : Below w1 w1 W5 := (((Moves.of_below (O := λ k => w1.heap.size <= k) (H2.2.2)).trans (Moves.of_below (O := λ k => w1.heap.size <= k) HB.1) (λ _ _ h => h)).trans ((H4.2.mono (O' := λ k => w1.heap.size <= k) (λ k hk => Hm H2.2.1)).trans (Moves.of_below (O := λ k => w1.heap.size <= k) (H5.trans (b5.mono H5.size))) (λ _ _ h => h)) (λ _ _ h => h)).low (O' := λ _ => False) (λ i hi h => GX) |>.below
    have lM : w1.heap.size <= w5.heap.size := by have := H2.2.2.size; have := HB.1.size; have := H4.2.size; have := H5.size; omega
    rw [qc];obtain ⟨M, hM⟩ := G8 w5.heap.size;rw [hM] at rM lM ⊢;have ST := hd1 (show D9 w g1 g2 M N m0 l 0 [] W5 (.map []) m0 from ⟨by have := H1.2.1.later BW; rwa [Ja] at this, rM, rfl, (H1.2.2.mono (O' := λ k => k = g2 \/ w.heap.size <= k) (λ _ h => IB h)).trans (Moves.of_below (O := λ k => k = g2 \/ w.heap.size <= k) BW) (λ _ _ h => h)⟩);have HM := hd1 (show w.heap.size <= M by have := H1.2.2.size; omega);clear qc b5 rM BW lM hM H1 H2 H3 H4 H5 HB X2 EC NX RC GC MC;go_loopw [7, 30] (λ s7 s wr => ∃ (i : Nat) (last : List UInt8) (D : Em.Rows) (fin : Nat), i <= N /\ s = .int .i64 (i : Int) /\ s7 = ag last /\ D9 w g1 g2 M N m0 l i last wr D fin) (λ _ s _ => N - (intOf s).toNat)
    case atStart => exact ⟨0, [], _, _, IY _, rfl, rfl, ST.out⟩
    case round =>
     obtain ⟨i, last, Di, fi, hi, rfl, rfl, hrel⟩ := hrel;by_cases hlt : i < N
     ·have i0 : (0 : Int) <= (i : Int) := GX
      have i1 : (i : Int) < (N : Int) := GX;obtain ⟨j, hj⟩ : ∃ j, N - i = j + 1 := ⟨N - i - 1, GX⟩;have heq := hrel.cZ;rw [hj, Em.dS, HH.2.2.1] at heq;cases hsp : Wm.split (l.drop fi) with
      | none => rw [hsp] at heq; cases heq
      | some p =>
       obtain ⟨qo, m'⟩ := p;rw [hsp] at heq;simp only at heq;cases hrr : Em.jl last qo with
       | none => rw [hrr] at heq; cases heq
       | some p =>
        obtain ⟨k, vv⟩ := p;rw [hrr] at heq;simp only at heq;obtain ⟨iW, kM, hk, ht, hv, hlast⟩ := Ba hrr;obtain ⟨_, _, fK⟩ := jA hsp;have la := g_ hk;have lk := lC ht;have lv := lC hv;have oK : (l.drop fi).length <= l.length := by rw [I9]; omega
        have kP := HH.2.2.2.1;have NX := hd1 (rf hrel.next kP hsp);have RC := hd1 (λ (X : World) (F : Nat -> Prop) (v : Value) (hv : BytesAt X.heap F v qo) => qX hv GX hk);have KC := hd1 (λ (X : World) (q : Nat) (hx : aV X q iW) => qi hx GX ht);have VC := hd1 (λ (X : World) (q : Nat) (hx : aV X q kM) => qi hx GX hv);have q1 : Op.bytesLess k last = false := z3a _ _ hlast;have q2 : (k == last) = false := z3b _ _ hlast;have HR := hd4 hrel heq lk.2 lv.2;have HRR := hd2 hsp hrr;clear hrel heq hsp hrr hk ht hv hlast fK la lk lv oK kP;exact Sn
     ·obtain rfl : i = N := GX
      have heq := hrel.cZ;rw [J_, HH.2.2.1, Em.dS] at heq;obtain ⟨e1, e2⟩ : D' = Di /\ fin' = fi := by
       have e := IR heq;exact ⟨IK Prod.fst e, IK Prod.snd e⟩
      subst e1;subst e2;have rT := (hrel.mv.block T (aa HH.2.1) (Ho (aa HH.2.1) HH.2.2.2.2.2)).trans HH.2.1;have u1 := ae rT (j := 1) rfl;have u2 := ae rT (j := 2) rfl;have z1 := aU rT 1;have z2 := aU rT 2;have HE := hd2 rT hrel;clear rT hrel heq;go_wp2;go_end0
      obtain ⟨rT, hrel⟩ := HE.out;obtain ⟨V1, e1, y1, n1⟩ := fV rT 1 (.int .i64 (g : Int));obtain ⟨V2, e2, y2, n2⟩ := fV y1 2 (.map (some M));rw [e1, e2];have n12 := n1.trans n2 (λ _ _ h => h);have lT := aa HH.2.1;have lg := aa HH.1.far;have hm0 := HM.out;obtain ⟨_, _, _, _, hh1, hh2⟩ := HH.out;refine ⟨rfl, hrel.next.moves n12 (λ k hk => GX), ⟨M, y2, yl (jQ hrel.rows n12 GX), hm0⟩, ?_⟩;exact (hrel.mv.low (O' := λ k => k = T \/ k = g2) (λ k hk h => by rcases h with h | h; exact IC h; omega)).trans (n12.mono (λ _ h => IB h)) (λ _ _ h => h)
theorem z5p {last b k v : List UInt8} (h : Em.jl last b = some (k, v)) : k ≠ [] /\ k.length <= 64 /\ v.length <= 4096 := by
 obtain ⟨ra, rb, hk, ht, hv, hl⟩ := Ba h;exact ⟨λ e => hl (by rw [e]; exact List.nil_le _), (lC ht).2, (lC hv).2⟩
theorem z7x {D : Em.Rows} {k v : List UInt8} (h : Em.bI D) (ht : Maps.Tidy D) (h1 : k ≠ []) (h2 : k.length <= 64) (h3 : v.length <= 4096) :
 Em.bI (D.put (.string k) (.lit (.string v))) /\ Maps.Tidy (D.put (.string k) (.lit (.string v))) /\ Maps.size (D.put (.string k) (.lit (.string v))) <= Maps.size D + 1 := by
 have e : Em.one D ⟨k, v, false⟩ = D.put (.string k) (.lit (.string v)) := by unfold Em.one; rw [IA GZ]
 refine ⟨?_, ht.put (show WideAt.IsKeyLit (.string k) from trivial) _, ?_⟩
 ·rw [<-e]
  refine Em.vO h ?_ ?_
  ·exact RH
  ·unfold Em.ay.long
   simp;omega
 ·rw [Maps.size_put ht]
  split <;> omega
theorem z5t : ∀ {n fin : Nat} {last : List UInt8} {D D' : Em.Rows} {f' : Nat}, Em.dS l n fin last D = some (D', f') -> Em.bI D -> Maps.Tidy D -> Em.bI D' /\ Maps.Tidy D' /\ Maps.size D' <= Maps.size D + n
 | 0, fin, last, D, D', f', h, ho, ht => by
  have e : D = D' := IK Prod.fst (IR h);subst e;exact ⟨ho, ht, Nat.le_refl _⟩
 | n + 1, fin, last, D, D', f', h, ho, ht => by
  rw [Em.dS] at h;cases hs : Wm.split (l.drop fin) with
  | none => rw [hs] at h; cases h
  | some p =>
   obtain ⟨body, m⟩ := p;rw [hs] at h;simp only at h;cases hr : Em.jl last body with
   | none => rw [hr] at h; cases h
   | some p =>
    obtain ⟨k, v⟩ := p;rw [hr] at h;simp only at h;obtain ⟨k1, k2, k3⟩ := z5p hr;obtain ⟨p1, p2, p3⟩ := z7x ho ht k1 k2 k3;obtain ⟨q1, q2, q3⟩ := z5t h p1 p2;exact ⟨q1, q2, GX⟩
theorem Br {fin : Nat} {D : Em.Rows} (h : Em.fe l = some (g, D, fin)) : Em.bI D /\ Maps.Tidy D /\ Maps.size D <= 256 /\ 0 < g /\ g <= 2147483647 := by
 unfold Em.fe at h;cases hs : Wm.split l with
 | none => rw [hs] at h; cases h
 | some p =>
  obtain ⟨body, m⟩ := p;rw [hs] at h;simp only at h;cases hh : Em.fI body with
  | none => rw [hh] at h; cases h
  | some p =>
   obtain ⟨g', n⟩ := p;rw [hh] at h;simp only at h;cases hr : Em.dS l n m [] (.map []) with
   | none => rw [hr] at h; cases h
   | some p =>
    obtain ⟨D', f'⟩ := p;rw [hr] at h;have e := IR h;have e1 : g' = g := IK Prod.fst e;have e2 : D' = D := IK (λ p => p.2.1) e;subst e1; subst e2;obtain ⟨ra, rb, hk, hg, hn, hpos⟩ := Be hh;obtain ⟨q1, q2, q3⟩ := z5t hr Em.oz Maps.tidy_empty;have := (g_ hn).2.1;have e0 : Maps.size (.map [] : Em.Rows) = 0 := rfl;exact ⟨q1, q2, GX, hpos, (g_ hg).2.1⟩
theorem Bf {fin fin' : Nat} {D D' : Em.Rows} (h : Em.eP l fin D = some (D', fin')) (ho : Em.bI D) : Em.bI D' /\ Maps.size D' <= 256 /\ fin < fin' := by
 unfold Em.eP at h;cases hs : Wm.split (l.drop fin) with
 | none => rw [hs] at h; cases h
 | some p =>
  obtain ⟨body, m⟩ := p;rw [hs] at h;simp only at h;cases hb : Em.iJ body with
  | none => rw [hb] at h; cases h
  | some c =>
   rw [hb] at h;simp only at h;by_cases hd : Em.aX D c = 0
   ·rw [IE hd] at h
    have e := IR h;have e1 : Em.behind D c = D' := IK Prod.fst e;have e2 : fin + m = fin' := IK Prod.snd e;subst e1; subst e2;obtain ⟨k1, k2⟩ := Em.jW hd;exact ⟨Em.qV ho k1, k2, Hm ((jA hs).1)⟩
   ·rw [IA hd] at h; cases h
def aH (l : List UInt8) : Em.T :=
 match Em.fe l with
 | none => Em.T.none
 | some (g, D, fin) => ⟨g, (Em.dN l (l.length + 1) fin D 0).1, (Em.dN l (l.length + 1) fin D 0).2.1, (Em.dN l (l.length + 1) fin D 0).2.2⟩
open Go.Maps Cm Em
structure kU (L : List UInt8) (g : Nat) (D : Em.Rows) (n : Nat) : Prop where
 few : n <= L.length
 g0 : 0 < g
 g1 : g <= 2147483647
 rows : bI D
 tidy : Tidy D
 size : size D <= 256
 more : ∃ D0 f0, (∀ rest, fe (L ++ rest) = some (g, D0, f0)) /\ ∀ rest k, dN (L ++ rest) (n + k) f0 D0 0 = dN (L ++ rest) k L.length D n
theorem EU {D : Em.Rows} (h : bI D) (ht : Tidy D) (hs : Maps.size D <= 256) (h0 : 0 < g) (h1 : g <= 2147483647) : kU (folded g D) g (again D) 0 := by
 obtain ⟨a1, a2⟩ := y2w h;refine ⟨IY _, h0, h1, a1, a2, ?_, again D, (folded g D).length, λ rest => x0g h ht hs h0 h1 rest, λ rest k => by rw [Ja]⟩;rw [<-pG, Aq h ht, pG];exact hs
theorem z4a {L : List UInt8} {D : Em.Rows} {l : List ay} (h : kU L g D n) (hd : aX D l = 0) (hb : (dU l).length <= 8192) : kU (L ++ Wm.frame (dU l)) g (behind D l) (n + 1) := by
 obtain ⟨k1, k2⟩ := jW hd;have hp := Wm.x5s (dU l);have hl : (L ++ Wm.frame (dU l)).length = L.length + (Wm.frame (dU l)).length := IQ;obtain ⟨D0, f0, m1, m2⟩ := h.more;refine ⟨Hm h.few, h.g0, h.g1, qV h.rows k1, (xU (pU k1).2 h.rows h.tidy).2, k2, D0, f0, λ rest => by rw [I5]; exact m1 _, λ rest k => ?_⟩;rw [I5, JD, m2, Nat.add_comm 1 k, dN];have hg : eP (L ++ (Wm.frame (dU l) ++ rest)) L.length D = some (behind D l, L.length + (Wm.frame (dU l)).length) := by
  unfold eP;rw [List.drop_left, Wm.yh hb];simp only;rw [x0c k1];simp only;rw [IE hd]
 rw [hg];simp only;rw [IQ]
theorem z4b {L J : List UInt8} {D : Em.Rows} (h : kU L g D n) (hj : Wm.split J = none) : aH (L ++ J) = ⟨g, D, n, L.length⟩ := by
 obtain ⟨D0, f0, m1, m2⟩ := h.more;have hf := h.few;unfold aH;rw [m1];simp only;obtain ⟨k, hk⟩ : ∃ k, (L ++ J).length + 1 = n + (k + 1) := ⟨(L ++ J).length - n, by rw [IQ]; omega⟩;rw [hk, m2, dN];have hg : eP (L ++ J) L.length D = none := by
  unfold eP;rw [List.drop_left, hj]
 rw [hg]
theorem nA {L : List UInt8} {D : Em.Rows} (h : kU L g D n) : aH L = ⟨g, D, n, L.length⟩ := by
 have := z4b (J := []) h rfl;rwa [JA] at this
theorem y7n {L b : List UInt8} {k : Nat} {D : Em.Rows} (h : kU L g D n) (hb : b.length <= 8192) (hk : k < (Wm.frame b).length) : aH (L ++ (Wm.frame b).take k) = ⟨g, D, n, L.length⟩ := z4b h (Wm.ER hb hk)
theorem AY : aH [] = Em.T.none := rfl
theorem y7a {D : Em.Rows} (h : bI D) (ht : Tidy D) (hs : Maps.size D <= 256) (h0 : 0 < g) (h1 : g <= 2147483647) (hn : n < (folded g D).length) : aH ((folded g D).take n) = Em.T.none := by
 unfold aH;rw [x0i h ht hs h0 h1 hn]
theorem y7s {D D' : Em.Rows} (h : bI D) (ht : Tidy D) (h' : bI D') (ht' : Tidy D') (e : tell D = tell D') (l : List ay) : aX D l = aX D' l /\ (aX D l = 0 -> tell (behind D l) = tell (behind D' l)) := by
 have r := Bv h ht l;rw [e, Bv h' ht' l] at r;by_cases h0 : aX D l = 0 <;> by_cases h1 : aX D' l = 0
 ·rw [IE h0, IE h1] at r
  exact ⟨by rw [h0, h1], λ _ => (IK Prod.fst r).symm⟩
 ·rw [IE h0, IA h1] at r
  have e2 : aX D' l = 0 := IK Prod.snd r;exact absurd e2 h1
 ·rw [IA h0, IE h1] at r
  have e2 : 0 = aX D l := IK Prod.snd r;exact absurd e2.symm h0
 ·rw [IA h0, IA h1] at r
  have e2 : aX D' l = aX D l := IK Prod.snd r;exact ⟨e2.symm, λ h => absurd h h0⟩
theorem z5e : ∀ {f fin n : Nat} {D D' : Em.Rows} {n' fin' : Nat}, dN l f fin D n = (D', n', fin') -> bI D -> Maps.size D <= 256 -> fin <= l.length -> bI D' /\ Maps.size D' <= 256 /\ fin' <= l.length /\ n' + fin <= n + fin'
 | 0, fin, n, D, D', n', fin', h, ho, hs, hf => by
  have e1 : D = D' := IK Prod.fst h;have e2 : n = n' := IK (λ p => p.2.1) h;have e3 : fin = fin' := IK (λ p => p.2.2) h;subst e1; subst e2; subst e3;exact ⟨ho, hs, hf, Nat.le_refl _⟩
 | f + 1, fin, n, D, D', n', fin', h, ho, hs, hf => by
  rw [dN] at h;cases hg : eP l fin D with
  | none =>
   rw [hg] at h;have e1 : D = D' := IK Prod.fst h;have e2 : n = n' := IK (λ p => p.2.1) h;have e3 : fin = fin' := IK (λ p => p.2.2) h;subst e1; subst e2; subst e3;exact ⟨ho, hs, hf, Nat.le_refl _⟩
  | some p =>
   obtain ⟨D1, f1⟩ := p;rw [hg] at h;obtain ⟨q1, q2, q3⟩ := Bf hg ho;have hf1 : f1 <= l.length := by
    unfold eP at hg;cases hsp : Wm.split (l.drop fin) with
    | none => rw [hsp] at hg; cases hg
    | some p =>
     obtain ⟨body, m⟩ := p;have hm := (jA hsp).2.1;rw [I9] at hm;rw [hsp] at hg;simp only at hg;cases hb : iJ body with
     | none => rw [hb] at hg; cases hg
     | some c =>
      rw [hb] at hg;simp only at hg;by_cases hd : aX D c = 0
      ·rw [IE hd] at hg
       have e := IK Prod.snd (IR hg);have e : fin + m = f1 := e;omega
      ·rw [IA hd] at hg; cases hg
   obtain ⟨r1, r2, r3, r4⟩ := z5e (f := f) h q1 q2 hf1;exact ⟨r1, r2, r3, GX⟩
theorem z5q : ∀ {n fin : Nat} {last : List UInt8} {D D' : Em.Rows} {f' : Nat}, dS l n fin last D = some (D', f') -> fin <= l.length -> f' <= l.length
 | 0, fin, last, D, D', f', h, hf => by
  have e : fin = f' := IK Prod.snd (IR h);omega
 | n + 1, fin, last, D, D', f', h, hf => by
  rw [dS] at h;cases hs : Wm.split (l.drop fin) with
  | none => rw [hs] at h; cases h
  | some p =>
   obtain ⟨body, m⟩ := p;have hm := (jA hs).2.1;rw [I9] at hm;rw [hs] at h;simp only at h;cases hr : jl last body with
   | none => rw [hr] at h; cases h
   | some p =>
    obtain ⟨k, v⟩ := p;rw [hr] at h;simp only at h;exact z5q h GX
theorem x0f {fin : Nat} {D : Em.Rows} (h : fe l = some (g, D, fin)) : fin <= l.length := by
 unfold fe at h;cases hs : Wm.split l with
 | none => rw [hs] at h; cases h
 | some p =>
  obtain ⟨body, m⟩ := p;rw [hs] at h;simp only at h;cases hh : fI body with
  | none => rw [hh] at h; cases h
  | some p =>
   obtain ⟨g', n⟩ := p;rw [hh] at h;simp only at h;cases hr : dS l n m [] (.map []) with
   | none => rw [hr] at h; cases h
   | some p =>
    obtain ⟨D', f'⟩ := p;rw [hr] at h;have e := IR h;have e2 : f' = fin := IK (λ p => p.2.2) e;have := z5q hr (jA hs).2.1;omega
theorem yj (l : List UInt8) : (aH l).gen <= 2147483647 /\ bI (aH l).rows /\ Maps.size (aH l).rows <= 256 /\ (aH l).fin <= l.length /\ (aH l).aK <= (aH l).fin := by
 unfold aH;cases hb : fe l with
 | none => exact ⟨IY _, oz, IY _, IY _, IY _⟩
 | some p =>
  obtain ⟨g, D, fin⟩ := p;obtain ⟨b1, b2, b3, b4, b5⟩ := Br hb;have hf := x0f hb;obtain ⟨r1, r2, r3, r4⟩ := z5e (f := l.length + 1) (n := 0) (D' := (dN l (l.length + 1) fin D 0).1) (n' := (dN l (l.length + 1) fin D 0).2.1) (fin' := (dN l (l.length + 1) fin D 0).2.2) rfl b1 b3 hf;exact ⟨b5, r1, r2, r3, by show (dN l (l.length + 1) fin D 0).2.1 <= (dN l (l.length + 1) fin D 0).2.2; omega⟩
namespace Wm
theorem x5g {b : Bytes} {k : Int} (h : first b = (n, k)) (hk : 0 < k) : k.toNat <= b.length /\ ∀ (j : Nat) (rest : Bytes), k.toNat <= j -> first (b.take j ++ rest) = (n, k) := by
 cases b with
 | nil =>
  have e : (0 : Int) = k := IK Prod.snd h;omega
 | cons c r =>
  by_cases hm : many c = 0
  ·have h1 : first (c :: r) = (c.toNat, 1) := IE hm
   rw [h1] at h;have e1 : c.toNat = n := IK Prod.fst h;have e2 : (1 : Int) = k := IK Prod.snd h;subst e1; subst e2;refine ⟨GZ, λ j rest hj => ?_⟩;obtain ⟨j', rfl⟩ : ∃ j', j = j' + 1 := ⟨j - 1, GX⟩;rw [Jv, JG];exact IE hm
  ·by_cases hl : r.length < many c
   ·have h1 : first (c :: r) = (0, 0) := by unfold first; simp only; rw [IA hm, IE hl]
    rw [h1] at h;have e : (0 : Int) = k := IK Prod.snd h;omega
   ·have h1 : first (c :: r) = if iL (r.take (many c)) > kJ \/ (aG (iL (r.take (many c)))).length ≠ 1 + many c then (0, -1) else (iL (r.take (many c)), 1 + (many c : Int)) := by
     unfold first; simp only; rw [IA hm, IA hl]
    rw [h1] at h;by_cases hq : iL (r.take (many c)) > kJ \/ (aG (iL (r.take (many c)))).length ≠ 1 + many c
    ·rw [IE hq] at h
     have e : (-1 : Int) = k := IK Prod.snd h;omega
    ·rw [IA hq] at h
     have e1 : iL (r.take (many c)) = n := IK Prod.fst h;have e2 : (1 + (many c : Int)) = k := IK Prod.snd h;refine ⟨by rw [I8]; omega, λ j rest hj => ?_⟩;obtain ⟨j', rfl⟩ : ∃ j', j = j' + 1 := ⟨j - 1, GX⟩;rw [Jv, JG];have ht : (r.take j' ++ rest).take (many c) = r.take (many c) := by
      rw [Kq NM, List.take_take];congr 1
      omega
     unfold first;simp only;rw [IA hm, IA (by rw [IQ, I7]; omega), ht, IA hq, e1, e2]
theorem yg {l body : Bytes} (h : split l = some (body, m)) : 0 < m /\ m <= l.length /\ ∀ (j : Nat) (rest : Bytes), m <= j -> split (l.take j ++ rest) = some (body, m) := by
 unfold split at h;simp only at h;cases hf : first l with
 | mk n k =>
  rw [hf] at h;simp only at h;by_cases h1 : k <= 0 \/ n < 4 \/ n > 8196
  ·rw [IE h1] at h; cases h
  ·rw [IA h1] at h
   by_cases h2 : (l.length : Int) - k < n
   ·exact Si
   ·rw [IA h2] at h
    obtain ⟨f1, f2⟩ := x5g hf GX;cases ho : opened ((l.drop k.toNat).take n) with
    | none => rw [ho] at h; cases h
    | some x =>
     rw [ho] at h;have e1 : x = body := IK Prod.fst (IR h);have e2 : k.toNat + n = m := IK Prod.snd (IR h);subst e1;refine ⟨GX, GX, λ j rest hj => ?_⟩;have hlen : m <= (l.take j ++ rest).length := by rw [IQ, I7]; omega
     have hd : ((l.take j ++ rest).drop k.toNat).take n = (l.drop k.toNat).take n := by
      rw [List.drop_append_of_le_length NM, List.drop_take, Kq (by rw [I7, I9]; omega), List.take_take];congr 1
      omega
     unfold split;simp only;rw [f2 j rest GX];simp only;rw [IA h1, IA GX, hd, ho, e2]
end Wm
theorem y0h {fin f : Nat} (rest : List UInt8) (h1 : fin <= f) (h2 : f <= l.length) : (l.take f ++ rest).drop fin = (l.drop fin).take (f - fin) ++ rest := by
 rw [List.drop_append_of_le_length NM, List.drop_take]
theorem z5s : ∀ {n fin : Nat} {last : List UInt8} {D D' : Em.Rows} {f' : Nat}, dS l n fin last D = some (D', f') -> fin <= l.length -> fin <= f' /\ f' <= l.length /\ ∀ (j : Nat) (rest : List UInt8), f' <= j -> j <= l.length -> dS (l.take j ++ rest) n fin last D = some (D', f')
 | 0, fin, last, D, D', f', h, hf => by
  have e : fin = f' := IK Prod.snd (IR h);subst e;exact ⟨Nat.le_refl _, hf, λ _ _ _ _ => h⟩
 | n + 1, fin, last, D, D', f', h, hf => by
  rw [dS] at h;cases hs : Wm.split (l.drop fin) with
  | none => rw [hs] at h; cases h
  | some p =>
   obtain ⟨body, m⟩ := p;obtain ⟨m0, m1, m2⟩ := Wm.yg hs;rw [I9] at m1;rw [hs] at h;simp only at h;cases hr : jl last body with
   | none => rw [hr] at h; cases h
   | some p =>
    obtain ⟨k, v⟩ := p;rw [hr] at h;simp only at h;obtain ⟨r1, r2, r3⟩ := z5s h GX;refine ⟨GX, r2, λ j rest hj hl => ?_⟩;rw [dS, y0h rest GX hl, m2 _ rest GX];simp only;rw [hr];exact r3 j rest hj hl
theorem x0h {fin : Nat} {D : Em.Rows} (h : fe l = some (g, D, fin)) : fin <= l.length /\ ∀ (j : Nat) (rest : List UInt8), fin <= j -> j <= l.length -> fe (l.take j ++ rest) = some (g, D, fin) := by
 unfold fe at h;cases hs : Wm.split l with
 | none => rw [hs] at h; cases h
 | some p =>
  obtain ⟨body, m⟩ := p;obtain ⟨m0, m1, m2⟩ := Wm.yg hs;rw [hs] at h;simp only at h;cases hh : fI body with
  | none => rw [hh] at h; cases h
  | some p =>
   obtain ⟨g', n⟩ := p;rw [hh] at h;simp only at h;cases hr : dS l n m [] (.map []) with
   | none => rw [hr] at h; cases h
   | some p =>
    obtain ⟨D', f'⟩ := p;obtain ⟨r1, r2, r3⟩ := z5s hr m1;rw [hr] at h;have e := IR h;have e2 : f' = fin := IK (λ p => p.2.2) e;subst e2;refine ⟨r2, λ j rest hj hl => ?_⟩;unfold fe;rw [m2 j rest GX];simp only;rw [hh];simp only;rw [r3 j rest hj hl];exact IK some e
theorem z6z {fin fin' : Nat} {D D' : Em.Rows} (h : eP l fin D = some (D', fin')) (hf : fin <= l.length) : fin < fin' /\ fin' <= l.length /\ ∀ (j : Nat) (rest : List UInt8), fin' <= j -> j <= l.length -> eP (l.take j ++ rest) fin D = some (D', fin') := by
 unfold eP at h;cases hs : Wm.split (l.drop fin) with
 | none => rw [hs] at h; cases h
 | some p =>
  obtain ⟨body, m⟩ := p;obtain ⟨m0, m1, m2⟩ := Wm.yg hs;rw [I9] at m1;rw [hs] at h;simp only at h;cases hb : iJ body with
  | none => rw [hb] at h; cases h
  | some c =>
   rw [hb] at h;simp only at h;by_cases hd : aX D c = 0
   ·rw [IE hd] at h
    have e2 : fin + m = fin' := IK Prod.snd (IR h);refine ⟨GX, GX, λ j rest hj hl => ?_⟩;unfold eP;rw [y0h rest GX hl, m2 _ rest GX];simp only;rw [hb];simp only;rw [IE hd];exact h
   ·rw [IA hd] at h; cases h
theorem z5a {fin fin' : Nat} {D D' : Em.Rows} (h : eP l fin D = some (D', fin')) (ho : bI D) (ht : Tidy D) : Tidy D' := by
 unfold eP at h;cases hs : Wm.split (l.drop fin) with
 | none => rw [hs] at h; cases h
 | some p =>
  obtain ⟨body, m⟩ := p;rw [hs] at h;simp only at h;cases hb : iJ body with
  | none => rw [hb] at h; cases h
  | some c =>
   rw [hb] at h;simp only at h;by_cases hd : aX D c = 0
   ·rw [IE hd] at h
    have e1 : behind D c = D' := IK Prod.fst (IR h);rw [<-e1];exact (xU (pU (jW hd).1).2 ho ht).2
   ·rw [IA hd] at h; cases h
theorem z5d : ∀ {f fin n : Nat} {D D' : Em.Rows} {n' fin' : Nat}, dN l f fin D n = (D', n', fin') -> bI D -> Tidy D -> fin <= l.length ->
 Tidy D' /\ n <= n' /\ fin <= fin' /\ fin' <= l.length /\ ∀ (rest : List UInt8) (k : Nat), dN (l.take fin' ++ rest) (n' - n + k) fin D n = dN (l.take fin' ++ rest) k fin' D' n'
 | 0, fin, n, D, D', n', fin', h, ho, ht, hf => by
  have e1 : D = D' := IK Prod.fst h;have e2 : n = n' := IK (λ p => p.2.1) h;have e3 : fin = fin' := IK (λ p => p.2.2) h;subst e1; subst e2; subst e3;exact ⟨ht, Nat.le_refl _, Nat.le_refl _, hf, λ rest k => by rw [J_, Ja]⟩
 | f + 1, fin, n, D, D', n', fin', h, ho, ht, hf => by
  rw [dN] at h;cases hg : eP l fin D with
  | none =>
   rw [hg] at h;have e1 : D = D' := IK Prod.fst h;have e2 : n = n' := IK (λ p => p.2.1) h;have e3 : fin = fin' := IK (λ p => p.2.2) h;subst e1; subst e2; subst e3;exact ⟨ht, Nat.le_refl _, Nat.le_refl _, hf, λ rest k => by rw [J_, Ja]⟩
  | some p =>
   obtain ⟨D1, f1⟩ := p;rw [hg] at h;simp only at h;obtain ⟨g1, g2, g3⟩ := z6z hg hf;obtain ⟨q1, q2, q3⟩ := Bf hg ho;obtain ⟨r1, r2, r3, r4, r5⟩ := z5d h q1 (z5a hg ho ht) g2;refine ⟨r1, GX, GX, r4, λ rest k => ?_⟩;have e : n' - n + k = (n' - (n + 1) + k) + 1 := GX;rw [e, dN, g3 fin' rest r3 r4];exact r5 rest k
theorem y8z (h : (aH l).gen ≠ 0) : kU (l.take (aH l).fin) (aH l).gen (aH l).rows (aH l).aK /\ (l.take (aH l).fin).length = (aH l).fin := by
 obtain ⟨k1, k2, k3, k4, k5⟩ := yj l;have hl : (l.take (aH l).fin).length = (aH l).fin := by rw [I7]; omega
 refine ⟨?_, hl⟩;cases hb : fe l with
 | none =>
  exfalso
  apply h
  unfold aH;rw [hb];rfl
 | some p =>
  obtain ⟨g, D, fin⟩ := p;obtain ⟨b1, b2, b3, b4, b5⟩ := Br hb;obtain ⟨c1, c2⟩ := x0h hb;obtain ⟨r1, r2, r3, r4, r5⟩ := z5d (f := l.length + 1) (n := 0) (D' := (dN l (l.length + 1) fin D 0).1) (n' := (dN l (l.length + 1) fin D 0).2.1) (fin' := (dN l (l.length + 1) fin D 0).2.2) rfl b1 b2 c1;have e : aH l = ⟨g, (dN l (l.length + 1) fin D 0).1, (dN l (l.length + 1) fin D 0).2.1, (dN l (l.length + 1) fin D 0).2.2⟩ := by
   unfold aH;rw [hb]
  rw [e] at k1 k2 k3 k4 k5 hl ⊢;refine ⟨by rw [hl]; exact k5, b4, k1, k2, r1, k3, D, fin, λ rest => c2 _ rest r3 k4, λ rest k => ?_⟩;rw [hl];have := r5 rest k;rw [Nat.sub_zero] at this;exact this
theorem z6w {c : ay} : ∀ {l : bB}, (∀ x ∈ l, ¬ c.key <= x.1) -> iy c false l = l ++ [(c.key, c.value)]
 | [], _ => rfl
 | r :: l, h => by
  have h1 := h r (Jp ..);have h2 := z6w (c := c) (l := l) (λ x hx => h x (Jz _ hx));have h3 : r.1 ≠ c.key := λ e => h1 (by rw [e]; exact KX _);rw [iy, IA (λ h => h1 h.2), IE h3, J7 h1];show [] ++ ([r] ++ iy c false l) = _;rw [h2];rfl
theorem y5o {D : Em.Rows} {last k v : List UInt8} (h : bI D) (ht : Tidy D) (hr : ∀ x ∈ tell D, x.1 <= last) (hk : ¬ k <= last) (h1 : k ≠ []) (h2 : k.length <= 64) (h3 : v.length <= 4096) :
 tell (D.put (.string k) (.lit (.string v))) = tell D ++ [(k, v)] /\ bI (D.put (.string k) (.lit (.string v))) /\ Tidy (D.put (.string k) (.lit (.string v))) /\ ∀ x ∈ tell D ++ [(k, v)], x.1 <= k := by
 obtain ⟨p1, p2, _⟩ := z7x h ht h1 h2 h3;have e : Em.one D ⟨k, v, false⟩ = D.put (.string k) (.lit (.string v)) := by unfold Em.one; rw [IA GZ]
 have hw : (⟨k, v, false⟩ : ay).wrong = false := by
  unfold ay.wrong;exact RH
 have hl : (⟨k, v, false⟩ : ay).long = false := by
  unfold ay.long;simp;omega
 have ho := z3m h ht hw hl;rw [e] at ho;have hg : gV (tell D) ⟨k, v, false⟩ = tell D ++ [(k, v)] := z6w (c := ⟨k, v, false⟩) (λ x hx hq => hk (LX hq (hr x hx)));refine ⟨by rw [ho, hg], p1, p2, λ x hx => ?_⟩;rcases J2.1 hx with hx | hx
 ·exact LX (hr x hx) ((LY last k).resolve_right hk)
 ·rw [JX.1 hx]
  exact KX _
structure pg (l : List UInt8) (N : Nat) (Q : Option (Em.Rows × Nat)) (i fin : Nat) (R : bB) (D : Em.Rows) (last : List UInt8) : Prop where
 cZ : dS l (N - i) fin last D = Q
 rows : tell D = R
 ok : bI D
 tidy : Tidy D
 rise : ∀ x ∈ R, x.1 <= last
 len : R.length = i
 ends : ∀ x, R[i - 1]? = some x -> i ≠ 0 -> x.1 = last
 start : i = 0 -> last = []
 fin : fin <= l.length
theorem hdSt_start {N : Nat} (hm : m <= l.length) : pg l N (dS l N m [] (.map [])) 0 m [] (.map []) [] :=
 ⟨rfl, xS, oz, tidy_empty, λ x hx => (by cases hx), rfl, λ x h => Oe, λ _ => rfl, hm⟩
theorem pg.cut {N i fin : Nat} {Q : Option (Em.Rows × Nat)} {R : bB} {D : Em.Rows} {last : List UInt8} (h : pg l N Q i fin R D last) (hi : i < N) (hs : Wm.split (l.drop fin) = .none) : Q = .none := by
 obtain ⟨j, hj⟩ : ∃ j, N - i = j + 1 := ⟨N - i - 1, GX⟩;have := h.cZ;rw [hj, dS, hs] at this;exact this.symm
theorem pg.bad {body : List UInt8} {N i fin : Nat} {Q : Option (Em.Rows × Nat)} {R : bB} {D : Em.Rows} {last : List UInt8} (h : pg l N Q i fin R D last) (hi : i < N) (hs : Wm.split (l.drop fin) = some (body, m)) (hr : jl last body = .none) : Q = .none := by
 obtain ⟨j, hj⟩ : ∃ j, N - i = j + 1 := ⟨N - i - 1, GX⟩;have := h.cZ;rw [hj, dS, hs] at this;simp only at this;rw [hr] at this;exact this.symm
theorem pg.next {body k v : List UInt8} {N i fin : Nat} {Q : Option (Em.Rows × Nat)} {R : bB} {D : Em.Rows} {last : List UInt8} (h : pg l N Q i fin R D last) (hi : i < N) (hs : Wm.split (l.drop fin) = some (body, m)) (hr : jl last body = some (k, v)) :
 pg l N Q (i + 1) (fin + m) (R ++ [(k, v)]) (D.put (.string k) (.lit (.string v))) k := by
 obtain ⟨j, hj⟩ : ∃ j, N - i = j + 1 := ⟨N - i - 1, GX⟩;have he := h.cZ;rw [hj, dS, hs] at he;simp only at he;rw [hr] at he;obtain ⟨k1, k2, k3⟩ := z5p hr;have hk : ¬ k <= last := by
  obtain ⟨_, _, _, _, _, hl⟩ := Ba hr;exact hl
 have hrise := h.rise;rw [<-h.rows] at hrise;obtain ⟨t1, t2, t3, t4⟩ := y5o h.ok h.tidy hrise hk k1 k2 k3;rw [h.rows] at t1 t4;have hm := (Wm.yg hs).2.1;rw [I9] at hm;have hf := h.fin;refine ⟨by rw [show N - (i + 1) = j by omega]; exact he, t1, t2, t3, t4, by rw [IQ, h.len]; rfl, λ x hx _ => ?_, λ h => GX, Hm ((Wm.yg hs).1)⟩;rw [show i + 1 - 1 = R.length by rw [h.len]; omega, Kt G7, J_] at hx;cases hx;rfl
structure xI (l : List UInt8) (Q : Em.Rows × Nat × Nat) (n fin : Nat) (R : bB) (D : Em.Rows) : Prop where
 cZ : ∃ f, dN l (f + 1) fin D n = Q /\ l.length <= f + fin
 rows : tell D = R
 ok : bI D
 tidy : Tidy D
 few : Maps.size D <= 256
 inside : fin <= l.length
 many : n <= fin
theorem xI.stop {Q : Em.Rows × Nat × Nat} {fin : Nat} {R : bB} {D : Em.Rows} (h : xI l Q n fin R D) (hg : eP l fin D = none) : Q = (D, n, fin) := by
 obtain ⟨f, e, _⟩ := h.cZ;rw [dN, hg] at e;exact e.symm
theorem xI.next {body : List UInt8} {Q : Em.Rows × Nat × Nat} {fin : Nat} {R : bB} {D : Em.Rows} {c : List ay} (h : xI l Q n fin R D) (hs : Wm.split (l.drop fin) = some (body, m)) (hb : iJ body = some c) (hd : aX D c = 0) :
 xI l Q (n + 1) (fin + m) (tell (behind D c)) (behind D c) /\ fin < fin + m := by
 have hg : eP l fin D = some (behind D c, fin + m) := by
  unfold eP;rw [hs];simp only;rw [hb];simp only;rw [IE hd]
 obtain ⟨g1, g2, g3⟩ := z6z hg h.inside;obtain ⟨q1, q2, q3⟩ := Bf hg h.ok;obtain ⟨f, e, hf⟩ := h.cZ;rw [dN, hg] at e;simp only at e;have hm := h.many;refine ⟨⟨?_, rfl, q1, z5a hg h.ok h.tidy, q2, g2, GX⟩, g1⟩;cases f with
 | zero => omega
 | succ f => exact ⟨f, e, GX⟩
theorem y9s {fin : Nat} {D : Em.Rows} (hs : Wm.split (l.drop fin) = none) : eP l fin D = none := by
 unfold eP;rw [hs]
theorem z6x {body : List UInt8} {fin : Nat} {D : Em.Rows} (hs : Wm.split (l.drop fin) = some (body, m)) (hb : ∀ c, iJ body = some c -> aX D c ≠ 0) : eP l fin D = none := by
 unfold eP;rw [hs];simp only;cases h : iJ body with
 | none => rfl
 | some c =>
  simp only;rw [IA (hb c h)]
end Go.Proofs.YtgffifleflkjoaaGreat
