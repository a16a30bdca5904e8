/-
  Parts of a proof.
-/
import Derived.Test.YtgffifleflkjoaaGreatFin27
import Derived.Test.YtgffifleflkjoaaGreatFin28
set_option linter.unusedSimpArgs false
set_option linter.unusedVariables false
set_option maxRecDepth 100000
set_option maxHeartbeats 16000000
namespace Go.Proofs.YtgffifleflkjoaaGreat
open _root_.Go.Proofs.Tryz
variable {w W w' w0 wr w1 W0 W1 W2 A B : World} {F G F' O : Nat → Prop} {v : Value} {l : List UInt8} {n q m pd md pl g p : Nat} {C : Array Value} {c : Int}
open Go.RowKit Dm
theorem A8 {b : List UInt8} (h : Em.fM b = some (g, n)) : ∃ ra rb, Wm.bF 3 b = some (1, ra) /\ Wm.bF 2147483647 ra = some (g, rb) /\ Wm.bF 256 rb = some (n, []) /\ 0 < g := by
 unfold Em.fM at h;cases hk : Wm.bF 3 b with
 | none => rw [hk] at h; cases h
 | some p =>
  obtain ⟨k, ra⟩ := p;rw [hk] at h;simp only at h;by_cases hk1 : k ≠ 1
  ·rw [IA hk1] at h; cases h
  ·rw [Iw hk1] at h
   have hk1 : k = 1 := GR;subst hk1;cases hg : Wm.bF 2147483647 ra with
   | none => rw [hg] at h; cases h
   | some p =>
    obtain ⟨g', rb⟩ := p;rw [hg] at h;simp only at h;cases hn : Wm.bF 256 rb with
    | none => rw [hn] at h; cases h
    | some p =>
     obtain ⟨n', rc⟩ := p;rw [hn] at h;simp only at h;by_cases hc : rc = [] /\ 0 < g'
     ·rw [IA hc] at h
      have e := IM h;have e1 : g' = g := IG Prod.fst e;have e2 : n' = n := IG Prod.snd e;exact QR
     ·rw [Iw hc] at h; cases h
theorem AX {last b k v : List UInt8} (h : Em.jk last b = some (k, v)) : ∃ ra rb, Wm.bF 3 b = some (2, ra) /\ Wm.dh 64 ra = some (k, rb) /\ Wm.dh 4096 rb = some (v, []) /\ ¬ k <= last := by
 unfold Em.jk at h;cases hk : Wm.bF 3 b with
 | none => rw [hk] at h; cases h
 | some p =>
  obtain ⟨kd, ra⟩ := p;rw [hk] at h;simp only at h;by_cases hk1 : kd ≠ 2
  ·rw [IA hk1] at h; cases h
  ·rw [Iw hk1] at h
   have hk1 : kd = 2 := GR;subst hk1;cases hg : Wm.dh 64 ra with
   | none => rw [hg] at h; cases h
   | some p =>
    obtain ⟨k', rb⟩ := p;rw [hg] at h;simp only at h;cases hn : Wm.dh 4096 rb with
    | none => rw [hn] at h; cases h
    | some p =>
     obtain ⟨v', rc⟩ := p;rw [hn] at h;simp only at h;by_cases hc : rc = [] /\ ¬ k' <= last
     ·rw [IA hc] at h
      have e := IM h;have e1 : k' = k := IG Prod.fst e;have e2 : v' = v := IG Prod.snd e;exact QR
     ·rw [Iw hc] at h; cases h
structure Ea (w : World) (g1 g2 M N m0 : Nat) (l : List UInt8) (i : Nat) (last : List UInt8) (wr : World) (D : Em.Rows) (fin : Nat) : Prop where
 next : fV wr g1 g2 l fin
 rows : RowsIn wr M i D
 cZ : Em.dP l N m0 [] (.map []) = Em.dP l (N - i) fin last D
 mv : Moves (λ k => k = g2 \/ w.heap.size <= k) w wr
theorem z4v (a b : List UInt8) (h : ¬ a <= b) : Op.bytesLess a b = false := by
 rw [ui, LK];exact λ h2 => h (List.le_of_lt h2)
theorem z4w (a b : List UInt8) (h : ¬ a <= b) : (a == b) = false := by
 rw [J2];rintro rfl;exact h (KV _)
theorem x9m {T g1 g2 gen fin : Nat} {at' : Int} {rv : Value} {b0 e0 g0 : Nat} {D : Em.Rows} (h : fV w g1 g2 l 0) (hl : l.length <= 1000000000)
 (hT : w.heap[T]? = some (.cells (jg at' g0 rv b0 e0) dK (0, 0))) (h1 : g1 < T) (h2 : T < g2) (hr : Em.fe l = some (gen, D, fin)) :
 Calls prog 112 #[.pointer (some T), .func (.func 107) #[] #[.pointer (some g1), .pointer (some g2)]] w λ e w' =>
  e = .returned (.tuple #[]) /\ fV w' g1 g2 l fin /\ (∃ m', w'.heap[T]? = some (.cells (jg at' gen (.map (some m')) b0 e0) dK (0, 0)) /\ RowsIn w' m' (Maps.size D) D /\ w.heap.size <= m') /\ Moves (λ k => k = T \/ k = g2) w w' := by
 have eg := enters_of func107 GQ rfl;unfold Em.fe at hr;cases hsp : Wm.split l with
 | none => rw [hsp] at hr; cases hr
 | some p =>
  obtain ⟨body, m0⟩ := p;rw [hsp] at hr;simp only at hr;cases hh : Em.fM body with
  | none => rw [hh] at hr; cases hr
  | some p =>
   obtain ⟨g, N⟩ := p;rw [hh] at hr;simp only at hr;obtain ⟨ra, rb, hk, hg, hn, g0'⟩ := A8 hh;cases hrw : Em.dP l N m0 [] (.map []) with
   | none => rw [hrw] at hr; cases hr
   | some p =>
    obtain ⟨D', fin'⟩ := p;rw [hrw] at hr;obtain ⟨rfl, rfl, rfl⟩ : g = gen /\ D' = D /\ fin' = fin := by
     have e := IM hr;exact ⟨IG Prod.fst e, IG (λ p => p.2.1) e, IG (λ p => p.2.2) e⟩
    obtain ⟨_, _, fP⟩ := jB hsp;have la := ic hk;have gM := ic hg;have yG := ic hn;have w1s : N <= 256 := yG.2.1;have NX := hd1 (qR h hl NG);have RC := hd1 (λ (X : World) (F : Nat -> Prop) (v : Value) (hv : BytesAt X.heap F v body) => qN hv GR hk);have GC := hd1 (λ (X : World) (q : Nat) (hx : aU X q ra) => oC hx GR hg);have MC := hd1 (λ (X : World) (q : Nat) (hx : aU X q rb) => oC hx GR hn);have HH := hd6 h hT hrw hl h1 h2;have x4d : (0 : Int) < (g : Int) := GR;have x4e : 0 < g := g0';clear h hT hrw hr hh hk hg hn hsp la gM yG fP hl g0';go_in
    go_upto_region 1 with (first
     | (with_reducible refine NX.out.mono ?_; rintro e w1 ⟨v1, rfl, y1, x1, m1⟩; have H1 := hd3 y1 x1 m1; clear y1 x1 m1)
     | (go_at_call 147; refine (RC.out _ _ _ H1.1).mono ?_; rintro e w2 ⟨q, rfl, x2, hq, b2⟩; have H2 := hd3 x2 hq b2; clear x2 hq b2))
    obtain ⟨W2, hW2⟩ := G5 (w2.alloc (.cells #[.pointer (some ⟨q, 0, none⟩)] cK));have B2 : Below w2 w2 W2 := by rw [<-hW2]; exact bla
    have r4 : W2.heap[w2.heap.size]? = some (.cells #[q] cK) := by rw [<-hW2]; exact IC w2 _
    have lq := H2.1.lt;rw [hW2];obtain ⟨g4, hg4⟩ := G5 w2.heap.size;have X2 := hd1 (H2.1.later B2);rw [hg4] at r4 lq ⊢;have f4 : ∀ x : Wd (Moves (λ k => k = q) W2), x.world.cell? g4 = some (.pointer (some q)) := λ x => (IW (x.ok.block g4 (aa r4) GR)).trans (ae r4 rfl);have ne : Nonempty (Wd (Moves (λ k => k = q) W2)) := ⟨⟨_, Moves.refl _ _⟩⟩;have HB := hd4 B2 r4 lq hg4;clear B2 r4 lq hW2 hg4;refine bC (λ w' => ∃ x : Wd (Moves (λ k => k = q) W2), w' = x.world) [3, 4, 5, 6] GQ ?_;refine aI [0, 2] 5 _ ⟨⟨_, Moves.of_below GY.drew⟩, rfl⟩ GQ ?_;simp only [fmc, fmn, gta, gcs, gcz];iterate 2 (with_reducible refine ak (λ K hK => ?_); simp only [au, ah]; go_simp; refine hK _ ?_; clear hK K)
    with_reducible refine aA ?_
    refine az 1 4 _ _ rfl GQ ?_;refine IE rfl λ K hK => ?_;go_simp;go_at_call 148;refine (GC.out W2.drew q (X2.later GY.drew)).mono ?_;rintro e w3 ⟨rfl, x3, m3⟩;have M3 : Moves (λ k => k = q) W2 w3 := (Moves.of_below (Below.refl W2 W2).drew).trans m3 (λ _ _ h => h);have H3 := hd2 x3 M3;clear x3 m3;refine hK _ _ (IB ⟨rfl, λ _ => ⟨⟨_, M3⟩, rfl⟩, ?_⟩);clear hK K;clear M3;refine az 3 3 _ _ rfl GQ ?_;refine IE rfl λ K hK => ?_;go_simp;go_at_call 148;refine (MC.out w3 q H3.1).mono ?_;rintro e w4 ⟨rfl, x4, m4⟩;have H4 := hd2 x4 (H3.2.trans m4 (λ _ _ h => h));clear x4 m4 f4 ne;refine hK _ _ (IB ⟨rfl, λ h => absurd GU h, ?_⟩);clear hK K;refine eY [4, 5, 6] 0 _ GQ ?_;refine G9 ?_;refine ⟨GQ, ?_⟩;have c4 : w4.cell? g4 = some (.pointer (some q)) := (IW (H4.2.block g4 (aa HB.2.1) (Hf HB.2.2.1))).trans (ae HB.2.1 rfl);have EC := hd1 (tZ H4.1);have hmm := @Ko prog
    go_wp2_with (first
     | (go_at_call 149; refine EC.mono ?_; rintro e w5 ⟨rfl, b5⟩; have H5 := hd1 b5; clear b5 c4)
     | (go_at_call 109; refine (kH _).mono ?_; rintro e w' ⟨rfl, rfl⟩))
    obtain ⟨W5, pQ⟩ := G5 (w5.alloc (.map #[] 0));have b5 : Below w5 w5 W5 := by rw [<-pQ]; exact bla
    have rM : RowsIn W5 w5.heap.size 0 (.map []) := by rw [<-pQ]; exact L9 (H := Unit) w5 prog dB (plainElem prog dB)
    have BW : Below w1 w1 W5 := (((Moves.of_below (O := λ k => w1.heap.size <= k) (H2.2.2)).trans (Moves.of_below (O := λ k => w1.heap.size <= k) HB.1) (λ _ _ h => h)).trans ((H4.2.mono (O' := λ k => w1.heap.size <= k) (λ k hk => Hf H2.2.1)).trans (Moves.of_below (O := λ k => w1.heap.size <= k) (H5.trans (b5.mono H5.size))) (λ _ _ h => h)) (λ _ _ h => h)).low (O' := λ _ => False) (λ i hi h => GR) |>.below
    have lM : w1.heap.size <= w5.heap.size := by have := H2.2.2.size; have := HB.1.size; have := H4.2.size; have := H5.size; omega
    rw [pQ];obtain ⟨M, hM⟩ := G5 w5.heap.size;rw [hM] at rM lM ⊢;have ST := hd1 (show Ea w g1 g2 M N m0 l 0 [] W5 (.map []) m0 from ⟨by have := H1.2.1.later BW; rwa [I8] at this, rM, rfl, (H1.2.2.mono (O' := λ k => k = g2 \/ w.heap.size <= k) (λ _ h => Iy h)).trans (Moves.of_below (O := λ k => k = g2 \/ w.heap.size <= k) BW) (λ _ _ h => h)⟩);have HM := hd1 (show w.heap.size <= M by have := H1.2.2.size; omega);clear pQ b5 rM BW lM hM H1 H2 H3 H4 H5 HB X2 EC NX RC GC MC;go_loopw [7, 30] (λ s7 s wr => ∃ (i : Nat) (last : List UInt8) (D : Em.Rows) (fin : Nat), i <= N /\ s = .int .i64 (i : Int) /\ s7 = ag last /\ Ea w g1 g2 M N m0 l i last wr D fin) (λ _ s _ => N - (intOf s).toNat)
    case atStart => exact ⟨0, [], _, _, IV _, rfl, rfl, ST.out⟩
    case round =>
     obtain ⟨i, last, Di, fi, hi, rfl, rfl, hrel⟩ := hrel;by_cases hlt : i < N
     ·have i0 : (0 : Int) <= (i : Int) := GR
      have i1 : (i : Int) < (N : Int) := GR;obtain ⟨j, hj⟩ : ∃ j, N - i = j + 1 := ⟨N - i - 1, GR⟩;have heq := hrel.cZ;rw [hj, Em.dP, HH.2.2.1] at heq;cases hsp : Wm.split (l.drop fi) with
      | none => rw [hsp] at heq; cases heq
      | some p =>
       obtain ⟨qg, m'⟩ := p;rw [hsp] at heq;simp only at heq;cases hrr : Em.jk last qg with
       | none => rw [hrr] at heq; cases heq
       | some p =>
        obtain ⟨k, vv⟩ := p;rw [hrr] at heq;simp only at heq;obtain ⟨iW, kG, hk, ht, hv, hlast⟩ := AX hrr;obtain ⟨_, _, fP⟩ := jB hsp;have la := ic hk;have lk := kS ht;have lv := kS hv;have oq : (l.drop fi).length <= l.length := by rw [I5]; omega
        have kI := HH.2.2.2.1;have NX := hd1 (qR hrel.next kI hsp);have RC := hd1 (λ (X : World) (F : Nat -> Prop) (v : Value) (hv : BytesAt X.heap F v qg) => qN hv GR hk);have KC := hd1 (λ (X : World) (q : Nat) (hx : aU X q iW) => qa hx GR ht);have VC := hd1 (λ (X : World) (q : Nat) (hx : aU X q kG) => qa hx GR hv);have q1 : Op.bytesLess k last = false := z4v _ _ hlast;have q2 : (k == last) = false := z4w _ _ hlast;have HR := hd4 hrel heq lk.2 lv.2;have HRR := hd2 hsp hrr;clear hrel heq hsp hrr hk ht hv hlast fP la lk lv oq kI;exact Og
     ·obtain rfl : i = N := GR
      have heq := hrel.cZ;rw [J3, HH.2.2.1, Em.dP] at heq;obtain ⟨e1, e2⟩ : D' = Di /\ fin' = fi := by
       have e := IM heq;exact ⟨IG Prod.fst e, IG Prod.snd e⟩
      subst e1;subst e2;have rT := (hrel.mv.block T (aa HH.2.1) (Hg (aa HH.2.1) HH.2.2.2.2.2)).trans HH.2.1;have u1 := ae rT (j := 1) rfl;have u2 := ae rT (j := 2) rfl;have z1 := aZ rT 1;have z2 := aZ rT 2;have HE := hd2 rT hrel;clear rT hrel heq;go_wp2;go_end0
      obtain ⟨rT, hrel⟩ := HE.out;obtain ⟨V1, e1, y1, n1⟩ := gm rT 1 (.int .i64 (g : Int));obtain ⟨V2, e2, y2, n2⟩ := gm y1 2 (.map (some M));rw [e1, e2];have n12 := n1.trans n2 (λ _ _ h => h);have lT := aa HH.2.1;have lg := aa HH.1.far;have hm0 := HM.out;obtain ⟨_, _, _, _, hh1, hh2⟩ := HH.out;refine ⟨rfl, hrel.next.moves n12 (λ k hk => GR), ⟨M, y2, x_ (jP hrel.rows n12 GR), hm0⟩, ?_⟩;exact (hrel.mv.low (O' := λ k => k = T \/ k = g2) (λ k hk h => by rcases h with h | h; exact Iz h; omega)).trans (n12.mono (λ _ h => Iy h)) (λ _ _ h => h)
theorem z5k {last b k v : List UInt8} (h : Em.jk last b = some (k, v)) : k ≠ [] /\ k.length <= 64 /\ v.length <= 4096 := by
 obtain ⟨ra, rb, hk, ht, hv, hl⟩ := AX h;exact ⟨λ e => hl (by rw [e]; exact List.nil_le _), (kS ht).2, (kS hv).2⟩
theorem z7r {D : Em.Rows} {k v : List UInt8} (h : Em.bI D) (ht : Maps.Tidy D) (h1 : k ≠ []) (h2 : k.length <= 64) (h3 : v.length <= 4096) :
 Em.bI (D.put (.string k) (.lit (.string v))) /\ Maps.Tidy (D.put (.string k) (.lit (.string v))) /\ Maps.size (D.put (.string k) (.lit (.string v))) <= Maps.size D + 1 := by
 have e : Em.one D ⟨k, v, false⟩ = D.put (.string k) (.lit (.string v)) := by unfold Em.one; rw [Iw GV]
 refine ⟨?_, ht.put (show WideAt.IsKeyLit (.string k) from trivial) _, ?_⟩
 ·rw [<-e]
  refine Em.vF h ?_ ?_
  ·exact Rw
  ·unfold Em.ay.long
   simp;omega
 ·rw [Maps.size_put ht]
  split <;> omega
theorem z5o : ∀ {n fin : Nat} {last : List UInt8} {D D' : Em.Rows} {f' : Nat}, Em.dP l n fin last D = some (D', f') -> Em.bI D -> Maps.Tidy D -> Em.bI D' /\ Maps.Tidy D' /\ Maps.size D' <= Maps.size D + n
 | 0, fin, last, D, D', f', h, ho, ht => by
  have e : D = D' := IG Prod.fst (IM h);subst e;exact ⟨ho, ht, Nat.le_refl _⟩
 | n + 1, fin, last, D, D', f', h, ho, ht => by
  rw [Em.dP] at h;cases hs : Wm.split (l.drop fin) with
  | none => rw [hs] at h; cases h
  | some p =>
   obtain ⟨body, m⟩ := p;rw [hs] at h;simp only at h;cases hr : Em.jk last body with
   | none => rw [hr] at h; cases h
   | some p =>
    obtain ⟨k, v⟩ := p;rw [hr] at h;simp only at h;obtain ⟨k1, k2, k3⟩ := z5k hr;obtain ⟨p1, p2, p3⟩ := z7r ho ht k1 k2 k3;obtain ⟨q1, q2, q3⟩ := z5o h p1 p2;exact ⟨q1, q2, GR⟩
theorem Bi {fin : Nat} {D : Em.Rows} (h : Em.fe l = some (g, D, fin)) : Em.bI D /\ Maps.Tidy D /\ Maps.size D <= 256 /\ 0 < g /\ g <= 2147483647 := by
 unfold Em.fe at h;cases hs : Wm.split l with
 | none => rw [hs] at h; cases h
 | some p =>
  obtain ⟨body, m⟩ := p;rw [hs] at h;simp only at h;cases hh : Em.fM body with
  | none => rw [hh] at h; cases h
  | some p =>
   obtain ⟨g', n⟩ := p;rw [hh] at h;simp only at h;cases hr : Em.dP l n m [] (.map []) with
   | none => rw [hr] at h; cases h
   | some p =>
    obtain ⟨D', f'⟩ := p;rw [hr] at h;have e := IM h;have e1 : g' = g := IG Prod.fst e;have e2 : D' = D := IG (λ p => p.2.1) e;subst e1; subst e2;obtain ⟨ra, rb, hk, hg, hn, hpos⟩ := A8 hh;obtain ⟨q1, q2, q3⟩ := z5o hr Em.nW Maps.tidy_empty;have := (ic hn).2.1;have e0 : Maps.size (.map [] : Em.Rows) = 0 := rfl;exact ⟨q1, q2, GR, hpos, (ic hg).2.1⟩
theorem A9 {fin fin' : Nat} {D D' : Em.Rows} (h : Em.eF l fin D = some (D', fin')) (ho : Em.bI D) : Em.bI D' /\ Maps.size D' <= 256 /\ fin < fin' := by
 unfold Em.eF at h;cases hs : Wm.split (l.drop fin) with
 | none => rw [hs] at h; cases h
 | some p =>
  obtain ⟨body, m⟩ := p;rw [hs] at h;simp only at h;cases hb : Em.iK body with
  | none => rw [hb] at h; cases h
  | some c =>
   rw [hb] at h;simp only at h;by_cases hd : Em.aW D c = 0
   ·rw [IA hd] at h
    have e := IM h;have e1 : Em.behind D c = D' := IG Prod.fst e;have e2 : fin + m = fin' := IG Prod.snd e;subst e1; subst e2;obtain ⟨k1, k2⟩ := Em.jV hd;exact ⟨Em.qL ho k1, k2, Hf ((jB hs).1)⟩
   ·rw [Iw hd] at h; cases h
def aJ (l : List UInt8) : Em.T :=
 match Em.fe l with
 | none => Em.T.none
 | some (g, D, fin) => ⟨g, (Em.dM l (l.length + 1) fin D 0).1, (Em.dM l (l.length + 1) fin D 0).2.1, (Em.dM l (l.length + 1) fin D 0).2.2⟩
open Go.Maps Cm Em
structure kM (L : List UInt8) (g : Nat) (D : Em.Rows) (n : Nat) : Prop where
 few : n <= L.length
 g0 : 0 < g
 g1 : g <= 2147483647
 rows : bI D
 tidy : Tidy D
 size : size D <= 256
 more : ∃ D0 f0, (∀ rest, fe (L ++ rest) = some (g, D0, f0)) /\ ∀ rest k, dM (L ++ rest) (n + k) f0 D0 0 = dM (L ++ rest) k L.length D n
theorem EZ {D : Em.Rows} (h : bI D) (ht : Tidy D) (hs : Maps.size D <= 256) (h0 : 0 < g) (h1 : g <= 2147483647) : kM (folded g D) g (again D) 0 := by
 obtain ⟨a1, a2⟩ := y2y h;refine ⟨IV _, h0, h1, a1, a2, ?_, again D, (folded g D).length, λ rest => x0l h ht hs h0 h1 rest, λ rest k => by rw [I8]⟩;rw [<-oW, Ai h ht, oW];exact hs
theorem z5w {L : List UInt8} {D : Em.Rows} {l : List ay} (h : kM L g D n) (hd : aW D l = 0) (hb : (dQ l).length <= 8192) : kM (L ++ Wm.frame (dQ l)) g (behind D l) (n + 1) := by
 obtain ⟨k1, k2⟩ := jV hd;have hp := Wm.x5s (dQ l);have hl : (L ++ Wm.frame (dQ l)).length = L.length + (Wm.frame (dQ l)).length := IL;obtain ⟨D0, f0, m1, m2⟩ := h.more;refine ⟨Hf h.few, h.g0, h.g1, qL h.rows k1, (xO (pE k1).2 h.rows h.tidy).2, k2, D0, f0, λ rest => by rw [IZ]; exact m1 _, λ rest k => ?_⟩;rw [IZ, Jz, m2, Nat.add_comm 1 k, dM];have hg : eF (L ++ (Wm.frame (dQ l) ++ rest)) L.length D = some (behind D l, L.length + (Wm.frame (dQ l)).length) := by
  unfold eF;rw [List.drop_left, Wm.xY hb];simp only;rw [x0h k1];simp only;rw [IA hd]
 rw [hg];simp only;rw [IL]
theorem z5x {L J : List UInt8} {D : Em.Rows} (h : kM L g D n) (hj : Wm.split J = none) : aJ (L ++ J) = ⟨g, D, n, L.length⟩ := by
 obtain ⟨D0, f0, m1, m2⟩ := h.more;have hf := h.few;unfold aJ;rw [m1];simp only;obtain ⟨k, hk⟩ : ∃ k, (L ++ J).length + 1 = n + (k + 1) := ⟨(L ++ J).length - n, by rw [IL]; omega⟩;rw [hk, m2, dM];have hg : eF (L ++ J) L.length D = none := by
  unfold eF;rw [List.drop_left, hj]
 rw [hg]
theorem mU {L : List UInt8} {D : Em.Rows} (h : kM L g D n) : aJ L = ⟨g, D, n, L.length⟩ := by
 have := z5x (J := []) h rfl;rwa [Ju] at this
theorem y7r {L b : List UInt8} {k : Nat} {D : Em.Rows} (h : kM L g D n) (hb : b.length <= 8192) (hk : k < (Wm.frame b).length) : aJ (L ++ (Wm.frame b).take k) = ⟨g, D, n, L.length⟩ := z5x h (Wm.EW hb hk)
theorem AO : aJ [] = Em.T.none := rfl
theorem y7d {D : Em.Rows} (h : bI D) (ht : Tidy D) (hs : Maps.size D <= 256) (h0 : 0 < g) (h1 : g <= 2147483647) (hn : n < (folded g D).length) : aJ ((folded g D).take n) = Em.T.none := by
 unfold aJ;rw [x0n h ht hs h0 h1 hn]
theorem y7v {D D' : Em.Rows} (h : bI D) (ht : Tidy D) (h' : bI D') (ht' : Tidy D') (e : tell D = tell D') (l : List ay) : aW D l = aW D' l /\ (aW D l = 0 -> tell (behind D l) = tell (behind D' l)) := by
 have r := Bn h ht l;rw [e, Bn h' ht' l] at r;by_cases h0 : aW D l = 0 <;> by_cases h1 : aW D' l = 0
 ·rw [IA h0, IA h1] at r
  exact ⟨by rw [h0, h1], λ _ => (IG Prod.fst r).symm⟩
 ·rw [IA h0, Iw h1] at r
  have e2 : aW D' l = 0 := IG Prod.snd r;exact absurd e2 h1
 ·rw [Iw h0, IA h1] at r
  have e2 : 0 = aW D l := IG Prod.snd r;exact absurd e2.symm h0
 ·rw [Iw h0, Iw h1] at r
  have e2 : aW D' l = aW D l := IG Prod.snd r;exact ⟨e2.symm, λ h => absurd h h0⟩
theorem z6z : ∀ {f fin n : Nat} {D D' : Em.Rows} {n' fin' : Nat}, dM l f fin D n = (D', n', fin') -> bI D -> Maps.size D <= 256 -> fin <= l.length -> bI D' /\ Maps.size D' <= 256 /\ fin' <= l.length /\ n' + fin <= n + fin'
 | 0, fin, n, D, D', n', fin', h, ho, hs, hf => by
  have e1 : D = D' := IG Prod.fst h;have e2 : n = n' := IG (λ p => p.2.1) h;have e3 : fin = fin' := IG (λ p => p.2.2) h;subst e1; subst e2; subst e3;exact ⟨ho, hs, hf, Nat.le_refl _⟩
 | f + 1, fin, n, D, D', n', fin', h, ho, hs, hf => by
  rw [dM] at h;cases hg : eF l fin D with
  | none =>
   rw [hg] at h;have e1 : D = D' := IG Prod.fst h;have e2 : n = n' := IG (λ p => p.2.1) h;have e3 : fin = fin' := IG (λ p => p.2.2) h;subst e1; subst e2; subst e3;exact ⟨ho, hs, hf, Nat.le_refl _⟩
  | some p =>
   obtain ⟨D1, f1⟩ := p;rw [hg] at h;obtain ⟨q1, q2, q3⟩ := A9 hg ho;have hf1 : f1 <= l.length := by
    unfold eF at hg;cases hsp : Wm.split (l.drop fin) with
    | none => rw [hsp] at hg; cases hg
    | some p =>
     obtain ⟨body, m⟩ := p;have hm := (jB hsp).2.1;rw [I5] at hm;rw [hsp] at hg;simp only at hg;cases hb : iK body with
     | none => rw [hb] at hg; cases hg
     | some c =>
      rw [hb] at hg;simp only at hg;by_cases hd : aW D c = 0
      ·rw [IA hd] at hg
       have e := IG Prod.snd (IM hg);have e : fin + m = f1 := e;omega
      ·rw [Iw hd] at hg; cases hg
   obtain ⟨r1, r2, r3, r4⟩ := z6z (f := f) h q1 q2 hf1;exact ⟨r1, r2, r3, GR⟩
theorem z5l : ∀ {n fin : Nat} {last : List UInt8} {D D' : Em.Rows} {f' : Nat}, dP l n fin last D = some (D', f') -> fin <= l.length -> f' <= l.length
 | 0, fin, last, D, D', f', h, hf => by
  have e : fin = f' := IG Prod.snd (IM h);omega
 | n + 1, fin, last, D, D', f', h, hf => by
  rw [dP] at h;cases hs : Wm.split (l.drop fin) with
  | none => rw [hs] at h; cases h
  | some p =>
   obtain ⟨body, m⟩ := p;have hm := (jB hs).2.1;rw [I5] at hm;rw [hs] at h;simp only at h;cases hr : jk last body with
   | none => rw [hr] at h; cases h
   | some p =>
    obtain ⟨k, v⟩ := p;rw [hr] at h;simp only at h;exact z5l h GR
theorem x0k {fin : Nat} {D : Em.Rows} (h : fe l = some (g, D, fin)) : fin <= l.length := by
 unfold fe at h;cases hs : Wm.split l with
 | none => rw [hs] at h; cases h
 | some p =>
  obtain ⟨body, m⟩ := p;rw [hs] at h;simp only at h;cases hh : fM body with
  | none => rw [hh] at h; cases h
  | some p =>
   obtain ⟨g', n⟩ := p;rw [hh] at h;simp only at h;cases hr : dP l n m [] (.map []) with
   | none => rw [hr] at h; cases h
   | some p =>
    obtain ⟨D', f'⟩ := p;rw [hr] at h;have e := IM h;have e2 : f' = fin := IG (λ p => p.2.2) e;have := z5l hr (jB hs).2.1;omega
theorem xZ (l : List UInt8) : (aJ l).gen <= 2147483647 /\ bI (aJ l).rows /\ Maps.size (aJ l).rows <= 256 /\ (aJ l).fin <= l.length /\ (aJ l).aL <= (aJ l).fin := by
 unfold aJ;cases hb : fe l with
 | none => exact ⟨IV _, nW, IV _, IV _, IV _⟩
 | some p =>
  obtain ⟨g, D, fin⟩ := p;obtain ⟨b1, b2, b3, b4, b5⟩ := Bi hb;have hf := x0k hb;obtain ⟨r1, r2, r3, r4⟩ := z6z (f := l.length + 1) (n := 0) (D' := (dM l (l.length + 1) fin D 0).1) (n' := (dM l (l.length + 1) fin D 0).2.1) (fin' := (dM l (l.length + 1) fin D 0).2.2) rfl b1 b3 hf;exact ⟨b5, r1, r2, r3, by show (dM l (l.length + 1) fin D 0).2.1 <= (dM l (l.length + 1) fin D 0).2.2; omega⟩
namespace Wm
theorem x5g {b : Bytes} {k : Int} (h : first b = (n, k)) (hk : 0 < k) : k.toNat <= b.length /\ ∀ (j : Nat) (rest : Bytes), k.toNat <= j -> first (b.take j ++ rest) = (n, k) := by
 cases b with
 | nil =>
  have e : (0 : Int) = k := IG Prod.snd h;omega
 | cons c r =>
  by_cases hm : many c = 0
  ·have h1 : first (c :: r) = (c.toNat, 1) := IA hm
   rw [h1] at h;have e1 : c.toNat = n := IG Prod.fst h;have e2 : (1 : Int) = k := IG Prod.snd h;subst e1; subst e2;refine ⟨GV, λ j rest hj => ?_⟩;obtain ⟨j', rfl⟩ : ∃ j', j = j' + 1 := ⟨j - 1, GR⟩;rw [Jt, JK];exact IA hm
  ·by_cases hl : r.length < many c
   ·have h1 : first (c :: r) = (0, 0) := by unfold first; simp only; rw [Iw hm, IA hl]
    rw [h1] at h;have e : (0 : Int) = k := IG Prod.snd h;omega
   ·have h1 : first (c :: r) = if iM (r.take (many c)) > kz \/ (aG (iM (r.take (many c)))).length ≠ 1 + many c then (0, -1) else (iM (r.take (many c)), 1 + (many c : Int)) := by
     unfold first; simp only; rw [Iw hm, Iw hl]
    rw [h1] at h;by_cases hq : iM (r.take (many c)) > kz \/ (aG (iM (r.take (many c)))).length ≠ 1 + many c
    ·rw [IA hq] at h
     have e : (-1 : Int) = k := IG Prod.snd h;omega
    ·rw [Iw hq] at h
     have e1 : iM (r.take (many c)) = n := IG Prod.fst h;have e2 : (1 + (many c : Int)) = k := IG Prod.snd h;refine ⟨by rw [I6]; omega, λ j rest hj => ?_⟩;obtain ⟨j', rfl⟩ : ∃ j', j = j' + 1 := ⟨j - 1, GR⟩;rw [Jt, JK];have ht : (r.take j' ++ rest).take (many c) = r.take (many c) := by
      rw [Kw NK, List.take_take];congr 1
      omega
     unfold first;simp only;rw [Iw hm, Iw (by rw [IL, I4]; omega), ht, Iw hq, e1, e2]
theorem xX {l body : Bytes} (h : split l = some (body, m)) : 0 < m /\ m <= l.length /\ ∀ (j : Nat) (rest : Bytes), m <= j -> split (l.take j ++ rest) = some (body, m) := by
 unfold split at h;simp only at h;cases hf : first l with
 | mk n k =>
  rw [hf] at h;simp only at h;by_cases h1 : k <= 0 \/ n < 4 \/ n > 8196
  ·rw [IA h1] at h; cases h
  ·rw [Iw h1] at h
   by_cases h2 : (l.length : Int) - k < n
   ·exact R8
   ·rw [Iw h2] at h
    obtain ⟨f1, f2⟩ := x5g hf GR;cases ho : opened ((l.drop k.toNat).take n) with
    | none => rw [ho] at h; cases h
    | some x =>
     rw [ho] at h;have e1 : x = body := IG Prod.fst (IM h);have e2 : k.toNat + n = m := IG Prod.snd (IM h);subst e1;refine ⟨GR, GR, λ j rest hj => ?_⟩;have hlen : m <= (l.take j ++ rest).length := by rw [IL, I4]; omega
     have hd : ((l.take j ++ rest).drop k.toNat).take n = (l.drop k.toNat).take n := by
      rw [List.drop_append_of_le_length NK, List.drop_take, Kw (by rw [I4, I5]; omega), List.take_take];congr 1
      omega
     unfold split;simp only;rw [f2 j rest GR];simp only;rw [Iw h1, Iw GR, hd, ho, e2]
end Wm
theorem y0g {fin f : Nat} (rest : List UInt8) (h1 : fin <= f) (h2 : f <= l.length) : (l.take f ++ rest).drop fin = (l.drop fin).take (f - fin) ++ rest := by
 rw [List.drop_append_of_le_length NK, List.drop_take]
theorem z5n : ∀ {n fin : Nat} {last : List UInt8} {D D' : Em.Rows} {f' : Nat}, dP l n fin last D = some (D', f') -> fin <= l.length -> fin <= f' /\ f' <= l.length /\ ∀ (j : Nat) (rest : List UInt8), f' <= j -> j <= l.length -> dP (l.take j ++ rest) n fin last D = some (D', f')
 | 0, fin, last, D, D', f', h, hf => by
  have e : fin = f' := IG Prod.snd (IM h);subst e;exact ⟨Nat.le_refl _, hf, λ _ _ _ _ => h⟩
 | n + 1, fin, last, D, D', f', h, hf => by
  rw [dP] at h;cases hs : Wm.split (l.drop fin) with
  | none => rw [hs] at h; cases h
  | some p =>
   obtain ⟨body, m⟩ := p;obtain ⟨m0, m1, m2⟩ := Wm.xX hs;rw [I5] at m1;rw [hs] at h;simp only at h;cases hr : jk last body with
   | none => rw [hr] at h; cases h
   | some p =>
    obtain ⟨k, v⟩ := p;rw [hr] at h;simp only at h;obtain ⟨r1, r2, r3⟩ := z5n h GR;refine ⟨GR, r2, λ j rest hj hl => ?_⟩;rw [dP, y0g rest GR hl, m2 _ rest GR];simp only;rw [hr];exact r3 j rest hj hl
theorem x0m {fin : Nat} {D : Em.Rows} (h : fe l = some (g, D, fin)) : fin <= l.length /\ ∀ (j : Nat) (rest : List UInt8), fin <= j -> j <= l.length -> fe (l.take j ++ rest) = some (g, D, fin) := by
 unfold fe at h;cases hs : Wm.split l with
 | none => rw [hs] at h; cases h
 | some p =>
  obtain ⟨body, m⟩ := p;obtain ⟨m0, m1, m2⟩ := Wm.xX hs;rw [hs] at h;simp only at h;cases hh : fM body with
  | none => rw [hh] at h; cases h
  | some p =>
   obtain ⟨g', n⟩ := p;rw [hh] at h;simp only at h;cases hr : dP l n m [] (.map []) with
   | none => rw [hr] at h; cases h
   | some p =>
    obtain ⟨D', f'⟩ := p;obtain ⟨r1, r2, r3⟩ := z5n hr m1;rw [hr] at h;have e := IM h;have e2 : f' = fin := IG (λ p => p.2.2) e;subst e2;refine ⟨r2, λ j rest hj hl => ?_⟩;unfold fe;rw [m2 j rest GR];simp only;rw [hh];simp only;rw [r3 j rest hj hl];exact IG some e
theorem z6u {fin fin' : Nat} {D D' : Em.Rows} (h : eF l fin D = some (D', fin')) (hf : fin <= l.length) : fin < fin' /\ fin' <= l.length /\ ∀ (j : Nat) (rest : List UInt8), fin' <= j -> j <= l.length -> eF (l.take j ++ rest) fin D = some (D', fin') := by
 unfold eF at h;cases hs : Wm.split (l.drop fin) with
 | none => rw [hs] at h; cases h
 | some p =>
  obtain ⟨body, m⟩ := p;obtain ⟨m0, m1, m2⟩ := Wm.xX hs;rw [I5] at m1;rw [hs] at h;simp only at h;cases hb : iK body with
  | none => rw [hb] at h; cases h
  | some c =>
   rw [hb] at h;simp only at h;by_cases hd : aW D c = 0
   ·rw [IA hd] at h
    have e2 : fin + m = fin' := IG Prod.snd (IM h);refine ⟨GR, GR, λ j rest hj hl => ?_⟩;unfold eF;rw [y0g rest GR hl, m2 _ rest GR];simp only;rw [hb];simp only;rw [IA hd];exact h
   ·rw [Iw hd] at h; cases h
theorem z6v {fin fin' : Nat} {D D' : Em.Rows} (h : eF l fin D = some (D', fin')) (ho : bI D) (ht : Tidy D) : Tidy D' := by
 unfold eF at h;cases hs : Wm.split (l.drop fin) with
 | none => rw [hs] at h; cases h
 | some p =>
  obtain ⟨body, m⟩ := p;rw [hs] at h;simp only at h;cases hb : iK body with
  | none => rw [hb] at h; cases h
  | some c =>
   rw [hb] at h;simp only at h;by_cases hd : aW D c = 0
   ·rw [IA hd] at h
    have e1 : behind D c = D' := IG Prod.fst (IM h);rw [<-e1];exact (xO (pE (jV hd).1).2 ho ht).2
   ·rw [Iw hd] at h; cases h
theorem z6y : ∀ {f fin n : Nat} {D D' : Em.Rows} {n' fin' : Nat}, dM l f fin D n = (D', n', fin') -> bI D -> Tidy D -> fin <= l.length ->
 Tidy D' /\ n <= n' /\ fin <= fin' /\ fin' <= l.length /\ ∀ (rest : List UInt8) (k : Nat), dM (l.take fin' ++ rest) (n' - n + k) fin D n = dM (l.take fin' ++ rest) k fin' D' n'
 | 0, fin, n, D, D', n', fin', h, ho, ht, hf => by
  have e1 : D = D' := IG Prod.fst h;have e2 : n = n' := IG (λ p => p.2.1) h;have e3 : fin = fin' := IG (λ p => p.2.2) h;subst e1; subst e2; subst e3;exact ⟨ht, Nat.le_refl _, Nat.le_refl _, hf, λ rest k => by rw [J3, I8]⟩
 | f + 1, fin, n, D, D', n', fin', h, ho, ht, hf => by
  rw [dM] at h;cases hg : eF l fin D with
  | none =>
   rw [hg] at h;have e1 : D = D' := IG Prod.fst h;have e2 : n = n' := IG (λ p => p.2.1) h;have e3 : fin = fin' := IG (λ p => p.2.2) h;subst e1; subst e2; subst e3;exact ⟨ht, Nat.le_refl _, Nat.le_refl _, hf, λ rest k => by rw [J3, I8]⟩
  | some p =>
   obtain ⟨D1, f1⟩ := p;rw [hg] at h;simp only at h;obtain ⟨g1, g2, g3⟩ := z6u hg hf;obtain ⟨q1, q2, q3⟩ := A9 hg ho;obtain ⟨r1, r2, r3, r4, r5⟩ := z6y h q1 (z6v hg ho ht) g2;refine ⟨r1, GR, GR, r4, λ rest k => ?_⟩;have e : n' - n + k = (n' - (n + 1) + k) + 1 := GR;rw [e, dM, g3 fin' rest r3 r4];exact r5 rest k
theorem y7c (h : (aJ l).gen ≠ 0) : kM (l.take (aJ l).fin) (aJ l).gen (aJ l).rows (aJ l).aL /\ (l.take (aJ l).fin).length = (aJ l).fin := by
 obtain ⟨k1, k2, k3, k4, k5⟩ := xZ l;have hl : (l.take (aJ l).fin).length = (aJ l).fin := by rw [I4]; omega
 refine ⟨?_, hl⟩;cases hb : fe l with
 | none =>
  exfalso
  apply h
  unfold aJ;rw [hb];rfl
 | some p =>
  obtain ⟨g, D, fin⟩ := p;obtain ⟨b1, b2, b3, b4, b5⟩ := Bi hb;obtain ⟨c1, c2⟩ := x0m hb;obtain ⟨r1, r2, r3, r4, r5⟩ := z6y (f := l.length + 1) (n := 0) (D' := (dM l (l.length + 1) fin D 0).1) (n' := (dM l (l.length + 1) fin D 0).2.1) (fin' := (dM l (l.length + 1) fin D 0).2.2) rfl b1 b2 c1;have e : aJ l = ⟨g, (dM l (l.length + 1) fin D 0).1, (dM l (l.length + 1) fin D 0).2.1, (dM l (l.length + 1) fin D 0).2.2⟩ := by
   unfold aJ;rw [hb]
  rw [e] at k1 k2 k3 k4 k5 hl ⊢;refine ⟨by rw [hl]; exact k5, b4, k1, k2, r1, k3, D, fin, λ rest => c2 _ rest r3 k4, λ rest k => ?_⟩;rw [hl];have := r5 rest k;rw [Nat.sub_zero] at this;exact this
theorem z6r {c : ay} : ∀ {l : bB}, (∀ x ∈ l, ¬ c.key <= x.1) -> iB c false l = l ++ [(c.key, c.value)]
 | [], _ => rfl
 | r :: l, h => by
  have h1 := h r (Jp ..);have h2 := z6r (c := c) (l := l) (λ x hx => h x (JB _ hx));have h3 : r.1 ≠ c.key := λ e => h1 (by rw [e]; exact KV _);rw [iB, Iw (λ h => h1 h.2), IA h3, JV h1];show [] ++ ([r] ++ iB c false l) = _;rw [h2];rfl
theorem y5p {D : Em.Rows} {last k v : List UInt8} (h : bI D) (ht : Tidy D) (hr : ∀ x ∈ tell D, x.1 <= last) (hk : ¬ k <= last) (h1 : k ≠ []) (h2 : k.length <= 64) (h3 : v.length <= 4096) :
 tell (D.put (.string k) (.lit (.string v))) = tell D ++ [(k, v)] /\ bI (D.put (.string k) (.lit (.string v))) /\ Tidy (D.put (.string k) (.lit (.string v))) /\ ∀ x ∈ tell D ++ [(k, v)], x.1 <= k := by
 obtain ⟨p1, p2, _⟩ := z7r h ht h1 h2 h3;have e : Em.one D ⟨k, v, false⟩ = D.put (.string k) (.lit (.string v)) := by unfold Em.one; rw [Iw GV]
 have hw : (⟨k, v, false⟩ : ay).wrong = false := by
  unfold ay.wrong;exact Rw
 have hl : (⟨k, v, false⟩ : ay).long = false := by
  unfold ay.long;simp;omega
 have ho := z3i h ht hw hl;rw [e] at ho;have hg : gX (tell D) ⟨k, v, false⟩ = tell D ++ [(k, v)] := z6r (c := ⟨k, v, false⟩) (λ x hx hq => hk (LJ hq (hr x hx)));refine ⟨by rw [ho, hg], p1, p2, λ x hx => ?_⟩;rcases JY.1 hx with hx | hx
 ·exact LJ (hr x hx) ((LH last k).resolve_right hk)
 ·rw [J8.1 hx]
  exact KV _
structure oN (l : List UInt8) (N : Nat) (Q : Option (Em.Rows × Nat)) (i fin : Nat) (R : bB) (D : Em.Rows) (last : List UInt8) : Prop where
 cZ : dP l (N - i) fin last D = Q
 rows : tell D = R
 ok : bI D
 tidy : Tidy D
 rise : ∀ x ∈ R, x.1 <= last
 len : R.length = i
 ends : ∀ x, R[i - 1]? = some x -> i ≠ 0 -> x.1 = last
 start : i = 0 -> last = []
 fin : fin <= l.length
theorem hdSt_start {N : Nat} (hm : m <= l.length) : oN l N (dP l N m [] (.map [])) 0 m [] (.map []) [] :=
 ⟨rfl, xN, nW, tidy_empty, λ x hx => (by cases hx), rfl, λ x h => Od, λ _ => rfl, hm⟩
theorem oN.cut {N i fin : Nat} {Q : Option (Em.Rows × Nat)} {R : bB} {D : Em.Rows} {last : List UInt8} (h : oN l N Q i fin R D last) (hi : i < N) (hs : Wm.split (l.drop fin) = .none) : Q = .none := by
 obtain ⟨j, hj⟩ : ∃ j, N - i = j + 1 := ⟨N - i - 1, GR⟩;have := h.cZ;rw [hj, dP, hs] at this;exact this.symm
theorem oN.bad {body : List UInt8} {N i fin : Nat} {Q : Option (Em.Rows × Nat)} {R : bB} {D : Em.Rows} {last : List UInt8} (h : oN l N Q i fin R D last) (hi : i < N) (hs : Wm.split (l.drop fin) = some (body, m)) (hr : jk last body = .none) : Q = .none := by
 obtain ⟨j, hj⟩ : ∃ j, N - i = j + 1 := ⟨N - i - 1, GR⟩;have := h.cZ;rw [hj, dP, hs] at this;simp only at this;rw [hr] at this;exact this.symm
theorem oN.next {body k v : List UInt8} {N i fin : Nat} {Q : Option (Em.Rows × Nat)} {R : bB} {D : Em.Rows} {last : List UInt8} (h : oN l N Q i fin R D last) (hi : i < N) (hs : Wm.split (l.drop fin) = some (body, m)) (hr : jk last body = some (k, v)) :
 oN l N Q (i + 1) (fin + m) (R ++ [(k, v)]) (D.put (.string k) (.lit (.string v))) k := by
 obtain ⟨j, hj⟩ : ∃ j, N - i = j + 1 := ⟨N - i - 1, GR⟩;have he := h.cZ;rw [hj, dP, hs] at he;simp only at he;rw [hr] at he;obtain ⟨k1, k2, k3⟩ := z5k hr;have hk : ¬ k <= last := by
  obtain ⟨_, _, _, _, _, hl⟩ := AX hr;exact hl
 have hrise := h.rise;rw [<-h.rows] at hrise;obtain ⟨t1, t2, t3, t4⟩ := y5p h.ok h.tidy hrise hk k1 k2 k3;rw [h.rows] at t1 t4;have hm := (Wm.xX hs).2.1;rw [I5] at hm;have hf := h.fin;refine ⟨by rw [show N - (i + 1) = j by omega]; exact he, t1, t2, t3, t4, by rw [IL, h.len]; rfl, λ x hx _ => ?_, λ h => GR, Hf ((Wm.xX hs).1)⟩;rw [show i + 1 - 1 = R.length by rw [h.len]; omega, Kl GZ, J3] at hx;cases hx;rfl
structure xA (l : List UInt8) (Q : Em.Rows × Nat × Nat) (n fin : Nat) (R : bB) (D : Em.Rows) : Prop where
 cZ : ∃ f, dM l (f + 1) fin D n = Q /\ l.length <= f + fin
 rows : tell D = R
 ok : bI D
 tidy : Tidy D
 few : Maps.size D <= 256
 inside : fin <= l.length
 many : n <= fin
theorem xA.stop {Q : Em.Rows × Nat × Nat} {fin : Nat} {R : bB} {D : Em.Rows} (h : xA l Q n fin R D) (hg : eF l fin D = none) : Q = (D, n, fin) := by
 obtain ⟨f, e, _⟩ := h.cZ;rw [dM, hg] at e;exact e.symm
theorem xA.next {body : List UInt8} {Q : Em.Rows × Nat × Nat} {fin : Nat} {R : bB} {D : Em.Rows} {c : List ay} (h : xA l Q n fin R D) (hs : Wm.split (l.drop fin) = some (body, m)) (hb : iK body = some c) (hd : aW D c = 0) :
 xA l Q (n + 1) (fin + m) (tell (behind D c)) (behind D c) /\ fin < fin + m := by
 have hg : eF l fin D = some (behind D c, fin + m) := by
  unfold eF;rw [hs];simp only;rw [hb];simp only;rw [IA hd]
 obtain ⟨g1, g2, g3⟩ := z6u hg h.inside;obtain ⟨q1, q2, q3⟩ := A9 hg h.ok;obtain ⟨f, e, hf⟩ := h.cZ;rw [dM, hg] at e;simp only at e;have hm := h.many;refine ⟨⟨?_, rfl, q1, z6v hg h.ok h.tidy, q2, g2, GR⟩, g1⟩;cases f with
 | zero => omega
 | succ f => exact ⟨f, e, GR⟩
theorem y9x {fin : Nat} {D : Em.Rows} (hs : Wm.split (l.drop fin) = none) : eF l fin D = none := by
 unfold eF;rw [hs]
theorem z6s {body : List UInt8} {fin : Nat} {D : Em.Rows} (hs : Wm.split (l.drop fin) = some (body, m)) (hb : ∀ c, iK body = some c -> aW D c ≠ 0) : eF l fin D = none := by
 unfold eF;rw [hs];simp only;cases h : iK body with
 | none => rfl
 | some c =>
  simp only;rw [Iw (hb c h)]
end Go.Proofs.YtgffifleflkjoaaGreat
