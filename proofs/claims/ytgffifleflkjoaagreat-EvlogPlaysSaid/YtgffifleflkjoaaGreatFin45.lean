/-
  Parts of a proof.
-/
import Derived.Test.YtgffifleflkjoaaGreatFin43
import Derived.Test.YtgffifleflkjoaaGreatFin44
set_option linter.unusedSimpArgs false
set_option linter.unusedVariables false
set_option maxRecDepth 100000
set_option maxHeartbeats 16000000
namespace Go.Proofs.YtgffifleflkjoaaGreat
open _root_.Go.Proofs.Tryz
variable {w W w' w0 wr w1 W0 W1 W2 A B : World} {F G F' O : Nat → Prop} {v : Value} {l : List UInt8} {n q m pd md pl g p : Nat} {C : Array Value} {c : Int}
section
open Go.RowKit Dm
attribute [local go_sem] Oper.semAt_some
theorem run_append_nothing {P : Program} (base : Nat) (t ty e : TypeId) (i : TypeInfo) (size : Nat) (ht : P.underlying t = some (.slice e)) (hi : P.info? e = some i)
 (v : Value) (n : Nat) (xs : List Value) (hown : w.ownsRow base e size v n xs) (c : Nat) :
 (Builtin.append_ #[t, t] ty #[v, .slice none 0 c]).run P w = .ok v w := by
 rcases hown.2 with ⟨rfl, rfl⟩ | ⟨g, cap, cur, rfl, _, _, hnc, _⟩
 ·simp [Builtin.append_, Ka ht, sizeOf, typeInfo, hi, Builtin.lenOf, Builtin.firstCells]
 ·simp [Builtin.append_, Ka ht, sizeOf, typeInfo, hi, Builtin.lenOf, Builtin.firstCells, hnc, storeCells]
theorem y3a {P : Program} {ops : Array Oper} {rest : List Oper} {o : Oper} {a : Act} {Q : Exit -> Act -> World -> Prop} (hgd : o.guard = none) (s x : Operand) (t : TypeId)
 (ho : o.op = .call { callee := .builtin .append, args := #[s, x], argTypes := #[t, t] })
 (base : Nat) (e : TypeId) (i : TypeInfo) (size : Nat) (ht : P.underlying t = some (.slice e)) (hi : P.info? e = some i)
 (v : Value) (n : Nat) (xs : List Value) (hs : a.eval s = v) (hown : w.ownsRow base e size v n xs) (c : Nat) (hx : a.eval x = .slice none 0 c)
 (h : wpList P ops Q rest (a.put o.dst v) w) : wpList P ops Q (o :: rest) a w := by
 refine IJ hgd λ K hK => ?_;have hrun := run_append_nothing (P := P) (w := w) base t o.type e i size ht hi v n xs hown c;unfold Oper.wp;simp [execOp, ho, resolve, invoke, builtin, hs, hx, hrun, Result.andThen];exact hK _ _ h
theorem x1r (w : World) : ja (w.alloc (.cells #[] a_)) w.heap.size (.slice (some w.heap.size) 0 0) [] :=
 ⟨rfl, IC ⟨w.heap.size, 0, #[], rfl, Nat.le_refl _, II _ _, Nat.le_refl _, IY _, rfl, rfl⟩⟩
theorem y1p : ∀ (l : List Em.ay) (k : Nat) (u : Value), (jG l)[k]? = some u -> ∃ i c j, l[i]? = some c /\ [ag c.key, ag c.value, Value.bool c.gone][j]? = some u /\ k = i * 3 + j /\ j < 3
 | [], k, u, h => by simp at h
 | c :: l, k, u, h => by
  by_cases hk : k < 3
  ·refine ⟨0, c, k, rfl, ?_, GX, hk⟩
   have e : jG (c :: l) = [ag c.key, ag c.value, Value.bool c.gone] ++ jG l := rfl;rw [e, KQ NK] at h;exact h
  ·have e : jG (c :: l) = [ag c.key, ag c.value, Value.bool c.gone] ++ jG l := rfl
   rw [e, Kt (by simpa using Nat.le_of_not_lt hk)] at h;obtain ⟨i, c', j, h1, h2, h3, h4⟩ := y1p l _ u h;refine ⟨i + 1, c', j, h1, h2, ?_, h4⟩;simp only [I8, Jw] at h3;omega
theorem y4z {ops : Array Oper} {rest : List Oper} {o : Oper} {a : Act} {Q : Exit -> Act -> World -> Prop} (hgd : o.guard = none) (s x : Operand) (ho : o.op = .call { callee := .builtin .append, args := #[s, x], argTypes := #[qP, qP] })
 (B base : Nat) (w0 : World) (hb : Below B w0 w) (hB : B <= base) (v : Value) (hs : a.eval s = v) (hown : ja w base v []) (v2 : Value) (l : List Em.ay) (G : Nat -> Prop) (hx : a.eval x = v2) (hsrc : dJ w G v2 l) (hl : l.length <= 1000000) (hbase : base <= w.heap.size)
 (h : ∀ v' w', Hid (ja w' base v' l) -> Below B w0 w' -> Below base w w' -> wpList prog ops Q rest (a.put o.dst v') w') : wpList prog ops Q (o :: rest) a w := by
 obtain ⟨i0, hi0, hz0, hz1, hz2⟩ := JL GQ;have key : ∀ ad c news, v2 = .slice (some ad) l.length c -> news = jG l -> (∀ (j : Nat) u, news[j]? = some u -> w.cell? (ad.add j) = some u) -> wpList prog ops Q (o :: rest) a w := λ ad c news e en hc => by
  subst e; subst en;refine ng hgd s x qP ho B base w0 hb hB a_ _ 3 40 Iy GQ rfl GY v 0 [] hs hown _ l.length (jG l) hx (IC ⟨ad, c, rfl, x8i l, hc, λ u hu => ?_⟩) Ns GX hbase ?_
  ·obtain ⟨c', _, hu⟩ := List.mem_flatMap.1 hu
   exact Rq
  ·intro v' w' ho' h1 h2
   refine h v' w' (hd1 ?_) h1 h2;have := ho'.out;rw [Ja, Jj] at this;exact this
 rcases hsrc with ⟨⟨ad, c, rfl⟩, rfl⟩ | ⟨b, o', cap, cs, t, fr, rfl, _, _, _, hr, hc⟩
 ·cases ad with
  | none => exact y3a hgd s x qP ho base a_ i0 3 Iy hi0 v 0 [] hs hown c hx (h v w (hd1 hown) hb G6)
  | some ad => exact key ad c [] rfl rfl (λ j u hj => by simp at hj)
 ·refine key ⟨b, o', none⟩ cap _ rfl rfl (λ j u hj => ?_)
  obtain ⟨i, c, k, h1, h2, rfl, hk⟩ := y1p l j u hj;rw [addr_add, IM _ _ _ _ _ _ hr, <-JD];obtain ⟨c0, c1, c2⟩ := hc i c h1;match k, hk, h2 with
  | 0, _, h2 => cases h2; exact c0
  | 1, _, h2 => cases h2; exact c1
  | 2, _, h2 => cases h2; exact c2
theorem w0e {e : Em.E} (x : bL w pl pd md e F) (hr : dX w (λ k => Apart pl pd md k /\ G k) v e) (hf : Fit e) {lv : Value} {l : List Em.ay} (hl : dJ w (λ _ => True) lv l) (hll : l.length <= 70) (hkl : ∀ c ∈ l, c.key.length <= 70 /\ c.value.length <= 200)
 (hw : e.d.waits.length <= 800000000) (n : Int) (kv : Value) (bq part : Int) :
 Calls prog 27 #[pl, v, .agg (iP 0 lv n kv bq part)] w (xJ w pl pd md F G (e.bE l).1) := by
 have hr' := hr.clip;obtain ⟨C, ra, rn, rc, rfl, hC, gF, fF, _⟩ := hr;obtain ⟨la, lc, rfl⟩ := hl.slice;obtain ⟨E, hE⟩ := G8 (bT C e.gone (.slice ra rn rc) (dG e));have jV : E.size = 13 := by rw [<-hE]; exact aW hC _ _ _
 rw [hE] at hr' ⊢;obtain ⟨xl, hxl⟩ := G8 l.length;rw [hxl];have hin := Dw w E (iP 0 (.slice la xl lc) n kv bq part);obtain ⟨W0, hW0⟩ := G8 (((w.alloc (.cells E ah)).alloc (.cells (iP 0 (.slice la xl lc) n kv bq part) iV)).alloc (.cells bM ah));rw [hW0] at hin;have k0 : W0.cell? (w.heap.size + 1, 0) = some (.int .i64 0) := ae hin.r5 rfl;have k1 : (W0.alloc (.cells #[] a_)).cell? (w.heap.size + 1, 1) = some (.slice la xl lc) := aN (bla) (ae hin.r5 rfl);rw [hxl] at hl;have aC := hd1 hin;have HX := hd9 x hr' jV hf hl hxl hll hkl hw;have HW := hd1 hW0;have OC := hd1 (x1r W0);obtain ⟨R1, hR1⟩ := G8 (e.bE l);have HR := hd1 hR1;rw [hR1];clear x hr' hE jV hin hW0 fF gF hC hl hxl hll hkl hw hf hR1;go_in;go_upto_region 1 with fail
 rw [show (((w.alloc (.cells E ah)).alloc (.cells (iP 0 (.slice la xl lc) n kv bq part) iV)).alloc (.cells #[.int .i64 0, .int .i64 0, (), (), (), (), (), (), false, .int .i64 0, false, (), .int .i64 0] ah)) = W0 from HW.out]
 go_upto_region 4 with (first
  | (refine y4z rfl (.tmp 25) (.tmp 27) rfl w.heap.size W0.heap.size w (aC.below.alloc aC.below.size _) aC.below.size _ rfl OC.out _ l (λ _ => True) rfl (HX.2.2.2.2.1.later (aC.below.alloc aC.below.size _)) (Hm HX.2.2.2.2.2.2.1) GZ ?_; intro mv w3 OM b3 b3'))
 have B3 : Below W0 W0 w3 := (bla).trans (b3'.mono GZ);have OMA := (ja.at OM.out);obtain ⟨ma, mk, rfl⟩ := OMA.slice;rw [HX.2.2.2.2.2.1];have R4 := (B3.block _ (aa aC.r4)).trans aC.r4;have k1' : w3.cell? (w.heap.size + 1, 1) = some (.slice la xl lc) := aN B3 (ae aC.r5 rfl);have RC := x0m (w := w3) (l := l) (HX.2.1.later b3) HX.2.2.2.1 (HX.2.2.2.2.1.later b3) (Hm HX.2.2.2.2.2.2.1) (λ c hc => Hm (HX.2.2.2.2.2.2.2.1 c hc));rw [HR.out] at RC;have RC := hd1 RC;have H3 := hd4 B3 b3 OMA R4;clear B3 b3 b3' OM OMA R4 k0 k1
 go_upto_region 5 with (first
  | (refine He H3.2.2.2 H_ (by rw [aY, HX.2.2.1]) ?_)
  | (go_at_call 54; refine RC.mono ?_; rintro en w4 ⟨v4, rfl, b4, f4⟩; obtain ⟨C4, a4, n4, c4, rfl, lK, hO4, y9i⟩ := id f4; have F4 := hd1 f4; clear f4 y9i)
  | (refine aD rfl ah _ _ rfl w4.heap.size _ rfl rfl ah bM (II w4 _) (by rw [aY, aW lK]) (by rw [aW lK]; rfl) (eB hO4 _ _ _ _ _) ?_; intro W5 aF az bf))
 have qp : Below w4 w4 W5 := Moves.new ((Below.refl w4 w4).alloc G7 _) az G7;obtain ⟨E4, Cv⟩ := G8 (bT C4 R1.1.gone (.slice a4 n4 c4) (dG R1.1));have z9o : E4.size = 13 := by rw [<-Cv]; exact aW lK _ _ _
 have z9n : E4.all (·.oneCell') = true := by rw [<-Cv]; exact eB hO4 _ _ _ _ _
 rw [Cv] at F4 aF;obtain ⟨g10, rF⟩ := G8 w4.heap.size;rw [rF] at aF ⊢;have zH : Below w3 w3 W5 := b4.trans (qp.mono b4.size);have nT : Below W0 W0 W5 := H3.1.trans (zH.mono H3.1.size);have zD : Below w w W5 := aC.below.trans (nT.mono aC.below.size);have x5 := (tL HX.1).grow zD;have CC := Dh (l := l) x5 HX.2.2.2.2.2.2.2.2 (H3.2.2.1.later zH) (Hm HX.2.2.2.2.2.2.1) (λ c hc => Hm (HX.2.2.2.2.2.2.2.1 c hc));rw [HR.out, HX.2.2.2.2.2.1] at CC;have CC := hd1 CC;have H5 := hd10 b4 qp zH nT zD x5 aF.out z9o z9n rF;clear b4 qp zH nT zD x5 aF az bf z9o z9n lK hO4 Cv rF RC k1';go_upto_region 6 with (go_at_call 11; refine CC.mono ?_; rintro en w6 ⟨rfl, m6, x6⟩)
 have lx := HX.1.disk.lt;have lp := aa HX.1.row.choose_spec.1;have s0 := aC.size;have z5 := H5.2.2.2.1.size;have z4 := H5.2.2.1.size;have z3 := H3.1.size;have x5t := H5.2.2.2.2.2.2.2.2.2;have zz4 := H5.1.size;have R10 : w6.heap[g10]? = some (.cells E4 ah) := (m6.block _ (aa H5.2.2.2.2.2.2.1) GX).trans H5.2.2.2.2.2.2.1;have R7 : w6.heap[w.heap.size + 1 + 1]? = some (.cells bM ah) := (m6.block _ GX GX).trans ((H5.2.2.2.1.block _ (aa aC.r7)).trans aC.r7);have LD : Hid (∀ w', (∃ y : Wd (Moves (λ k => k = w.heap.size + 1 + 1) w6), w' = y.world) -> (Instr.loadAt ah (.pointer (some g10))).run prog w' = .ok (.agg E4) w') := by
  rintro w' ⟨y, rfl⟩;exact gy ((y.ok.block _ (aa R10) GX).trans R10) H_ rfl Nf
 have H6 := hd5 m6 x6 R7 lx lp;have ne : Nonempty (Wd (Moves (λ k => k = w.heap.size + 1 + 1) w6)) := ⟨⟨_, Moves.refl _ _⟩⟩;clear m6 x6 R10 R7 lx lp s0 z5 z4 z3 x5t zz4 CC;refine bD (λ w' => ∃ x : Wd (Moves (λ k => k = w.heap.size + 1 + 1) w6), w' = x.world) [] GV ?_;refine aL [0, 1, 2, 4] 5 _ ⟨⟨_, (Moves.of_below G6.drew)⟩, rfl⟩ GV ?_;simp only [fmc, fmn, gta, gcs, gcz];refine ak (λ K hK => ?_); simp only [au, aj]; go_simp; refine hK _ ?_; clear hK K;refine eH rfl ah (.tmp 10) rfl _ LD.out ?_;repeat refine Ha ?_
 refine aB ?_;refine aA 3 4 _ _ rfl GV ?_;refine IJ rfl λ K hK => ?_;go_simp;go_at_call 12;refine (nL _ _).mono ?_;rintro en w' ⟨rfl, rfl⟩;refine hK _ _ (IG ⟨rfl, λ _ => ⟨⟨_, (Moves.of_below G6.drew)⟩, rfl⟩, ?_⟩);clear hK K;refine aL [5, 6] 2 _ ⟨⟨_, (Moves.of_below G6.drew)⟩, rfl⟩ GV ?_;refine Hd ?_;refine aA 7 1 _ _ rfl GV ?_;refine aD rfl ah _ _ rfl (w.heap.size + 1 + 1) E4 rfl rfl ah bM H6.2.2.1 Nf (by rw [H5.2.2.2.2.2.2.2.1]; rfl) H5.2.2.2.2.2.2.2.2.1 ?_;intro W9 bN aS fB;have rC : Moves (λ k => k = w.heap.size + 1 + 1) w6 W9 := ⟨aS.os, aS.tape, aS.output, aS.size, aS.block⟩;refine IG ⟨rfl, λ _ => ⟨⟨_, rC⟩, rfl⟩, ?_⟩;refine aL [8] 0 _ ⟨⟨_, rC⟩, rfl⟩ GV ?_;refine Hd ?_;refine ⟨GV, ?_⟩;go_wp2;refine IP (Bj rfl _ _ (w.heap.size + 1 + 1) _ _ _ _ _ _ rfl rfl rfl bN.out H_ rfl Nf) rfl ?_;obtain ⟨b4, qp, zH, nT, zD, x5, r5, _, _, rF⟩ := H5.out;obtain ⟨m6, x6, R7, lx, lp⟩ := H6.out;have aS : Moves (λ k => k = w.heap.size + 1 + 1) w6 W9 := ⟨aS.os, aS.tape, aS.output, aS.size, aS.block⟩;have s0 := aC.size;have z0 := nT.size;have z3 := H3.1.size;have z4 := b4.size;have z5 := qp.size;have z6 := m6.size;have m9 : Moves (eT pl pd md) w W9 := ((Moves.of_below zD).trans m6 (λ _ _ h => h)).trans aS (λ k hk h => GX);refine ⟨pl, pd, md, _, .agg E4, rfl, m9, mJ x6 aS GX GX GX (λ k hk h => ?_) (λ k hk _ => ?_), F4.keeps (λ k hk hl => ?_) (λ k hk hl => ?_), IB ⟨rfl, rfl, rfl⟩, λ k hk => ?_⟩
 ·rcases hk with q | q
  ·have := q.2; omega
  ·omega
 ·subst hk
  exact ⟨_, _, _, R7⟩
 ·have hap : Apart pl pd md k /\ k ≠ w.heap.size + 1 + 1 := by
   rcases hk with q | q
   ·exact ⟨q.1.1, Hm q.2⟩
   ·exact Rx
  exact (aS.block k GX hap.2).trans ((m6.block k GX (λ h => by rcases h with h | h | h; exact hap.1.1 h; exact hap.1.2.1 h; exact hap.1.2.2 h)).trans (qp.block k hl))
 ·exact QL
 ·exact Sm
end
open Go.RowKit Dm
def jF (e : Em.E) (a : Em.iq) : Em.E :=
 if a.what = 0 then (e.bE a.l).1 else if a.what = 1 then { e with d := (e.d.stop a.n).1 } else if a.what = 2 then (z1z e a.aT).1 else e
theorem x2l (d : D) (t n : Nat) : (Em.mended d t n).1.waits.length <= d.waits.length + 1 := by
 unfold Em.mended;split
 ·exact Nat.le_succ _
 ·have h := Em.wO d t n
  unfold Em.next;split
  ·exact IV (Em.z1y _) h
  ·exact h
theorem z7k (d : D) (b : Nat × Em.T) : (Em.bY d b).1.d.waits.length <= d.waits.length + 2 := by
 unfold Em.bY;split
 ·exact Em.Bg d 0 _
 ·exact IV (x2l d b.1 b.2.fin) GX
theorem z7i (d : D) (b : Nat × Em.T) : (Em.bY d b).1.d.room = d.room := by
 unfold Em.bY;split
 ·exact z6u d 0 _
 ·show (Em.mended d b.1 b.2.fin).1.room = d.room
  unfold Em.mended;split
  ·rfl
  ·unfold Em.next
   split
   ·rw [EF, z1u]
   ·exact z1u _ _ _
theorem z4y (d : D) (n : Int) : (d.stop n).1.room = d.room /\ (d.stop n).1.waits = d.waits := by
 unfold D.stop;split
 ·exact ⟨rfl, rfl⟩
 ·split <;> exact ⟨rfl, rfl⟩
theorem y2v (e : Em.E) (a : Em.iq) : (jF e a).d.waits.length <= e.d.waits.length + 3 := by
 unfold jF;split
 ·exact Em.z1q e a.l
 ·split
  ·show (e.d.stop a.n).1.waits.length <= _
   rw [(z4y e.d a.n).2];omega
  ·split
   ·have := z7k (e.d.aT a.aT) (aP (λ k => aH ((e.d.aT a.aT).stand.tp k)) 2)
    have h0 : (e.d.aT a.aT).waits.length = 0 := rfl;show (Em.bY (e.d.aT a.aT) (aP (λ k => aH ((e.d.aT a.aT).stand.tp k)) 2)).1.d.waits.length <= _;omega
   ·omega
theorem w0j (e : Em.E) (a : Em.iq) : (jF e a).d.room = e.d.room := by
 unfold jF;split
 ·exact x7d e a.l
 ·split
  ·exact (z4y e.d a.n).1
  ·split
   ·exact z7i _ _
   ·rfl
theorem Fit.next {e : Em.E} (h : Fit e) {a : Em.iq} (ok : (jF e a).d.ok) (hw : e.d.waits.length <= 900000000) : Fit (jF e a) := by
 refine ⟨?_, ok, IV (y2v e a) GX, by rw [w0j]; exact h.room⟩;unfold jF;split
 ·exact h.gz.bE a.l
 ·split
  ·exact h.gz.stop a.n
  ·split
   ·refine (h.gz.aT a.aT (λ k _ => ?_)).2
    have h1 := kK (y1x h.ok a.aT) k;have h2 := h.room;have h3 : (e.d.aT a.aT).room = e.d.room := rfl;omega
   ·exact h.gz
theorem w0f {e : Em.E} (x : bL w pl pd md e F) (hr : dX w (λ k => Apart pl pd md k /\ G k) v e) (hf : Fit e) (hw : e.d.waits.length <= 800000000) {q : iR} (ha : pE w q) (hs : q.1.small = true) :
 Calls prog 27 #[pl, v, .agg (iP q.1.what q.2.1 q.1.n q.2.2 q.1.aT.bq q.1.aT.part)] w (xJ w pl pd md F G (jF e q.1)) := by
 obtain ⟨s1, s2, s3⟩ := Em.iq.z4k hs;obtain ⟨⟨what, l, n, c⟩, lv, kv⟩ := q;simp only at s1 s2 s3 ha ⊢;unfold jF;by_cases h0 : what = 0
 ·subst h0
  rw [IE rfl];exact w0e x hr hf ha.l s1 s3 hw n kv c.bq c.part
 ·rw [IA h0]
  by_cases h1 : what = 1
  ·subst h1
   rw [IE rfl];exact w0g x hr n ha.n.2 lv kv c.bq c.part
  ·rw [IA h1]
   by_cases h2 : what = 2
   ·subst h2
    rw [IE rfl];exact w0h x hr hf n lv c ha.keep GX ha.bq ha.part
   ·rw [IA h2]
    exact w0i x hr what n h0 h1 h2 lv kv c.bq c.part
theorem z2k {α : Type} {P : Program} {g : Operand} {p q : Tmp} {assign body : Code} {Q : Exit -> Act -> World -> Prop} {a : Act}
 {gf : Nat} {lb : Array Value} (hg : a.eval g = .func (.func gf) #[] lb) (eg : ∀ args w, (callFunc gf args).run P w = .ok (.enter gf args) w)
 {encs : α -> Array Value} (hseq : Iter P gf lb encs [] (λ _ => False) w) (hps : ∀ x, (encs x).size = 2)
 (h : ∀ W, Below w w W -> W.heap[w.heap.size]? = some (.deferred (some [])) -> Q .normal { a with defers := { target := .collected w.heap.size, args := #[] } :: a.defers } W) :
 (Code.rangeFunc g #[p, q] assign body).wpIn Fence.wide 0 P Q a w := by
 refine Ej hg eg hseq (λ i h => h.elim) G6 hps (λ _ O W => Below w w W /\ ∀ i, O i -> w.heap.size <= i) (λ _ _ _ _ => False) ?_ (λ c k O O' A B h _ _ _ => h) ?_ (λ c k O r o W _ h => h) (λ W hb _ => ⟨hb, λ i h => h.elim⟩) (λ _ _ _ => True) (λ x a' W l r o _ h => h) ?_ ?_ (λ O W hi _ hd => h W hi.1 hd) (λ c k O W _ hx => hx.elim)
 ·rintro k O O' A B ⟨h1, h2⟩ hm ho1 ho2
  refine ⟨kT h1 hm h2, λ i hi => ?_⟩;rcases ho2 i hi with h | h
  ·exact h2 i h
  ·exact IV h1.size h
 ·rintro k O r o W _ ⟨h1, h2⟩
  exact ⟨kT h1 (ru (l := w.heap.size + 1) o) (λ i hi => GX), h2⟩
 ·intro k x O W hx
  simp at hx
 ·intro k x O a' W hx
  simp at hx
structure oZ (w0 Z W : World) (K : Nat -> Prop) (gw pl pd md : Nat) (e : Em.E) (F : Nat -> Prop) (Ev : Array Value) : Prop where
 below : Below w0.heap.size w0 W
 new : w0.heap.size <= pl /\ w0.heap.size <= pd /\ w0.heap.size <= md /\ w0.heap.size <= gw
 ne : Apart pl pd md gw
 log : bL W pl pd md e F
 row : W.heap[gw]? = some (.cells Ev ah (0, 0))
 ref : dX W (λ k => Apart pl pd md k /\ k ≠ gw) (.agg Ev) e
 size : Ev.size = 13
 foot : ∀ k, F k -> k ≠ gw
 fit : Fit e
 keep : ∀ k, K k -> k < Z.heap.size /\ Z.heap.size <= W.heap.size /\ W.heap[k]? = Z.heap[k]? /\ Apart pl pd md k /\ k ≠ gw
structure DN (w0 Z W : World) (K : Nat -> Prop) (gw b pl pd md : Nat) (e : Em.E) (F : Nat -> Prop) (Ev Ew : Array Value) : Prop where
 below : Below w0.heap.size w0 W
 new : w0.heap.size <= pl /\ w0.heap.size <= pd /\ w0.heap.size <= md /\ w0.heap.size <= gw
 ne : Apart pl pd md gw
 log : bL W pl pd md e F
 row : W.heap[gw]? = some (.cells Ev ah (0, 0))
 z5k : W.heap[b]? = some (.cells Ew ah (0, 0))
 neb : b ≠ gw
 ref : dX W (λ k => Apart pl pd md k /\ k ≠ gw) (.agg Ew) e
 y6b : Ev.size = 13
 size : Ew.size = 13
 ones : Ew.all (·.oneCell') = true
 foot : ∀ k, F k -> k ≠ gw
 fit : Fit e
 keep : ∀ k, K k -> k < Z.heap.size /\ Z.heap.size <= W.heap.size /\ W.heap[k]? = Z.heap[k]? /\ Apart pl pd md k /\ k ≠ gw
section
variable {w0 Z W : World} {K : Nat -> Prop} {gw pl pd md : Nat} {e : Em.E} {F : Nat -> Prop} {Ev : Array Value}
theorem oZ.later (h : oZ w0 Z W K gw pl pd md e F Ev) {W' : World} (hb : Below W W W') : oZ w0 Z W' K gw pl pd md e F Ev :=
 ⟨h.below.trans (hb.mono h.below.size), h.new, h.ne, h.log.grow hb, (hb.block _ (aa h.row)).trans h.row, h.ref.later hb, h.size, h.foot, h.fit,
  λ k hk => by
   obtain ⟨k1, k2, k3, k4, k5⟩ := h.keep k hk;exact ⟨k1, IV k2 hb.size, (hb.block k GX).trans k3, k4, k5⟩⟩
theorem oZ.call (h : oZ w0 Z W K gw pl pd md e F Ev) (hw : e.d.waits.length <= 800000000) {X : World} (hb : Below W W X) {q : iR} (ha : pE w0 q) (hs : q.1.small = true) :
 Calls prog 27 #[pl, .agg Ev, .agg (iP q.1.what q.2.1 q.1.n q.2.2 q.1.aT.bq q.1.aT.part)] X (xJ X pl pd md (λ k => F k /\ k < W.heap.size) (λ k => k ≠ gw /\ k < W.heap.size) (jF e q.1)) :=
 w0f ((tL h.log).grow hb) (h.ref.keeps (λ k _ hl => hb.block k hl) (λ k hk hl => ⟨hk.1, hk.2, hl⟩)) h.fit hw (ha.later (h.below.trans (hb.mono h.below.size))) hs
theorem oZ.y2u (h : oZ w0 Z W K gw pl pd md e F Ev) {X w5 w6 : World} (hb : Below W W X) {eF fo md' b : Nat} {e' : Em.E} {Ew : Array Value} (m5 : Moves (eT pl pd md) X w5) (x5 : bL w5 eF fo md' e' F')
 (r5 : dX w5 (λ k => Apart eF fo md' k /\ (((k ≠ gw /\ k < W.heap.size) /\ k < X.heap.size) \/ X.heap.size <= k)) (.agg Ew) e')
 (hp : (eF = pl /\ fo = pd /\ md' = md) \/ (X.heap.size <= eF /\ X.heap.size <= fo /\ X.heap.size <= md')) (hF : ∀ k, F' k -> ((F k /\ k < W.heap.size) /\ k < X.heap.size) \/ X.heap.size <= k)
 (m6 : Moves (λ k => k = b) w5 w6) (rb : w6.heap[b]? = some (.cells Ew ah)) (hbn : W.heap.size <= b /\ (b < X.heap.size \/ w5.heap.size <= b)) (hc : b < w5.heap.size -> ∃ c t fr, w5.heap[b]? = some (.cells c t fr))
 (fit : Fit e') (hs : Ew.size = 13) (ho : Ew.all (·.oneCell') = true) : DN w0 Z w6 K gw b eF fo md' e' (λ k => F' k /\ k < w5.heap.size) Ev Ew := by
 have lx := h.log.disk.lt;have lp := aa h.log.row.choose_spec.1;have lg := aa h.row;have z1 := hb.size;have z5 := m5.size;have z6 := m6.size;have zb := h.below.size;have x5c := tL x5;have lx5 := x5.disk.lt;have lp5 := aa x5.row.choose_spec.1;have nn := h.new;have ne := h.ne;have nb : ¬ eF = b /\ ¬ fo = b /\ ¬ md' = b := by
  rcases hp with ⟨rfl, rfl, rfl⟩ | hp
  ·exact Ri
  ·exact Ri
 have nT : Below w0 w0 w5 := kT (h.below.trans (hb.mono h.below.size)) m5 (λ k hk => by rcases hk with q | q | q <;> omega);have b06 : Below w0 w0 w6 := kT nT m6 (λ k hk => GX);have neg : Apart eF fo md' gw := by
  rcases hp with ⟨rfl, rfl, rfl⟩ | hp
  ·exact ne
  ·exact Ri
 refine ⟨b06, ?_, neg, mJ x5c m6 nb.1 nb.2.1 nb.2.2 (λ k hk q => ?_) (λ k hk hl => ?_), ?_, rb, GX, r5.keeps (λ k hk hl => m6.block k hl ?_) (λ k hk hl => ?_), h.size, hs, ho, λ k hk => ?_, fit, λ k hk => ?_⟩
 ·rcases hp with ⟨rfl, rfl, rfl⟩ | hp
  ·exact nn
  ·exact ⟨GX, GX, GX, nn.2.2.2⟩
 ·rcases hF k hk.1 with q' | q'
  ·have := q'.1.2; omega
  ·have := hk.2; omega
 ·subst hk
  exact hc hl
 ·exact (m6.block gw GX GX).trans ((m5.block gw GX (λ q => by rcases q with q | q | q; exact ne.1 q; exact ne.2.1 q; exact ne.2.2 q)).trans ((hb.block gw lg).trans h.row))
 ·rcases hk.2 with q | q
  ·have := q.1.2; omega
  ·omega
 ·refine ⟨hk.1, ?_⟩
  rcases hk.2 with q | q
  ·exact q.1.1
  ·omega
 ·rcases hF k hk.1 with q | q
  ·exact h.foot k q.1.1
  ·omega
 ·obtain ⟨k1, k2, k3, k4, k5⟩ := h.keep k hk
  refine ⟨k1, GX, (m6.block k GX GX).trans ((m5.block k GX (λ q => by rcases q with q | q | q; exact k4.1 q; exact k4.2.1 q; exact k4.2.2 q)).trans ((hb.block k GX).trans k3)), ?_, k5⟩;rcases hp with ⟨rfl, rfl, rfl⟩ | hp
  ·exact k4
  ·exact Ri
theorem DN.store {b : Nat} {Ew : Array Value} (h : DN w0 Z W K gw b pl pd md e F Ev Ew) {W' : World} (hm : Moves (λ k => k = gw) W W') (hrow : W'.heap[gw]? = some (.cells Ew ah)) : oZ w0 Z W' K gw pl pd md e F Ew := by
 have ne := h.ne;refine ⟨kT h.below hm (λ k hk => Hm h.new.2.2.2), h.new, h.ne, mJ h.log hm (λ q => ne.1 q.symm) (λ q => ne.2.1 q.symm) (λ q => ne.2.2 q.symm) (λ k hk q => h.foot k hk q) (λ k hk _ => ?_), hrow, h.ref.keeps (λ k hk hl => hm.block k hl hk.2) (λ k hk _ => hk), h.size, h.foot, h.fit, λ k hk => ?_⟩
 ·subst hk
  exact ⟨_, _, _, h.row⟩
 ·obtain ⟨k1, k2, k3, k4, k5⟩ := h.keep k hk
  exact ⟨k1, IV k2 hm.size, (hm.block k GX k5).trans k3, k4, k5⟩
end
section
attribute [local go_sem] Oper.semAt_some
theorem infoAct6 : (prog.info? iV).map (·.size) = some 6 := GV
theorem y3b {P : Program} {ops : Array Oper} {rest : List Oper} {o : Oper} {a : Act} {Q : Exit -> Act -> World -> Prop} (hw : Region.wanted o (yielded ops a.tmps) = true) (ty : TypeId) (x : Operand) (ho : o.op = .load ty x) (v : Value)
 (hrun : (Instr.loadAt ty (a.eval x)).run P w = .ok v w) (h : wpList P ops Q rest (a.put o.dst v) w) : wpList P ops Q (o :: rest) a w :=
 Jy λ K hK => by
  simp only [hw, I6];unfold Oper.wp execOp;simp only [ho, JI, hrun, JJ, JY];exact hK _ _ h
theorem yC {q4 : Nat} {ds : List Nat} {tmps : Array Value} (hb : Below w w W) (hq : w.heap.size <= q4) (r4 : W.heap[q4]? = some (.cells #[false] 4)) (hn : ds.Nodup)
 (hd : ∀ D ∈ ds, W.heap[D]? = some (.deferred (some [])) /\ w.heap.size <= D) (ht : tmps.getD 4 undef = .pointer (some q4)) :
 LeavesInM Fence.wide 0 prog Tryz.f6 tmps (λ e w' => e = .returned (.bool true) /\ Below w w w') (ds.map λ D => { target := .collected D, args := #[] }) .returning (W.setCell q4 (.bool true)) := by
 have ms := eD W q4 0 (.bool true);have r6' : (W.setCell q4 (.bool true)).heap[q4]? = some (.cells #[true] 4) := IU W q4 0 _ 4 (.bool true) r4;have hne : ∀ D ∈ ds, D ≠ q4 := by
  rintro D hD rfl;have := (hd D hD).1;rw [r4] at this;cases this
 refine z8o ds _ hn (λ D hD => (ms.block D (mI (hd D hD).1) (hne D hD)).trans (hd D hD).1) (λ w' hm => ⟨.bool true, ?_, rfl, ?_⟩)
 ·refine Fg rfl _ _ ⟨q4, 0, none⟩ (.bool true) ht ?_ GV
  exact ae ((hm.block q4 (aa r6') (λ h => hne q4 h rfl)).trans r6') rfl
 ·exact kT (kT hb ms (λ k hk => GX)) hm (λ k hk => (hd k hk).2)
theorem x1v {av : Value} {Q : List iR} (hv : m_ w av Q) (hq : (Q.length + 1) * 80 <= 140737488355328) (room : Int) (w2z : i64' room) :
 Calls prog 6 #[.int .i64 room, av] w λ e w' => e = .returned (.bool true) /\ Below w w w' := by
 obtain ⟨va, vc, rfl⟩ := hv.slice;obtain ⟨W1, hW1⟩ := G8 (w.alloc (.cells #[false] 4));have B1 : Below w w W1 := by rw [<-hW1]; exact bla
 have r4 : W1.heap[w.heap.size]? = some (.cells #[false] 4) := by rw [<-hW1]; exact II w _
 have s1 : W1.heap.size = w.heap.size + 1 := by rw [<-hW1]; simp
 obtain ⟨bb, hbb⟩ := G8 (Em.uq (Q.map (·.1)) 60);have FW := x5d (hv.later B1) 60 GX;rw [hbb] at FW;replace FW := hd1 FW;have H0 := hd2 hv hbb;have H1 := hd3 B1 r4 s1;have HW1 := hd1 hW1;have i0 : (0 : Int) <= (Q.length : Int) := GX;clear hv hbb B1 r4 s1 hW1;generalize hqn : Q.length = n at *;have HN := hd1 hqn;clear hqn;refine (Ji (n := 0)).1 ?_;refine Lv func6 rfl trivial ?_ rfl;simp only [ntmps6, Kl, I8, Jw, Nat.reduceAdd, Nat.reduceSub, J3, J4, J5, J6, Jj, JG];refine wpIn_wide.2 ?_;go_upto_region 1 with fail
 rw [HW1.out];have WC := hd1 (λ X => y4p X);by_cases hbad : bb = false \/ 20000 < room
 ·cases bb
  ·exact Pe
  ·have h2 : 20000 < room := hbad.resolve_left GY
   exact Pe
 ·obtain ⟨rfl, h2⟩ : bb = true /\ ¬ 20000 < room := by
   refine ⟨?_, λ h => hbad (IC h)⟩;cases bb
   ·exact absurd (IB rfl) hbad
   ·rfl
  clear hbad;have SM := hd1 (show ∀ q ∈ Q, q.1.small = true from λ q hq => (Em.y0p H0.2).1 _ (Jq.2 ⟨q, hq, rfl⟩));have n60 : n <= 60 := by
   have h := (Em.y0p H0.2).2;rw [L8, HN.out] at h;omega
  by_cases hneg : room < 0
  ·have NW := hd1 (x2s 0 room W1 (by unfold mH; rw [IE GX]; decide))
   have RN := hd1 ((y8c 0 room W1 (by unfold mH; rw [IE GX]; decide)).mono (λ en w' h => (⟨bS, rfl, GV, h.1, h.2⟩ : ∃ C : Array Value, C.size = 10 /\ C.all (·.oneCell') = true /\ en = .returned (.tuple #[.agg C, .int .i64 2]) /\ Below W1 W1 w')))
   go_upto_region 5 with (first
    | (go_at_call 13; refine FW.mono ?_; rintro en w' ⟨rfl, rfl⟩)
    | (go_at_call 9; refine NW.mono ?_; rintro en w' ⟨rfl, rfl⟩)
    | (go_at_call 20; refine RN.mono ?_; rintro en w3 ⟨C4, lK, hO4, rfl, b3⟩)
    | (refine aD rfl af _ _ rfl w3.heap.size C4 rfl rfl af bS (II w3 _) (by rw [aI, lK]) (by rw [lK]; rfl) hO4 ?_; intro w4 iF jd mW))
   have jY : Below w3 w3 w4 := Moves.new ((Below.refl w3 w3).alloc G7 _) jd G7;have B4 := hd1 (show Below w w w4 /\ w4.heap[w.heap.size]? = some (.cells #[false] 4) from ⟨H1.1.trans ((b3.trans (jY.mono b3.size)).mono H1.1.size), ((b3.trans (jY.mono b3.size)).block _ (aa H1.2.1)).trans H1.2.1⟩);clear b3 jY iF jd mW lK hO4 NW RN FW;go_upto_if 43 with fail
   go_cut [9] from 40 to 45 (λ s9 wx => kX wx s9 /\ Below w4 w4 wx)
   case first =>
    exact Pm
   case rest =>
    have NL := hd1 hcut.1;have BL := hd1 hcut.2;clear hcut;have hfe := @z0b _ _ _ _ underlying48;have GN := hd1 (z9d NL.out);have AN := hd1 (y2z NL.out)
    go_upto_region 11 with (first
     | (go_at_call 21; refine (GN.out _).mono ?_; rintro en w' ⟨rfl, rfl⟩)
     | (go_at_call 15; refine AN.mono ?_; rintro en w' ⟨rfl, rfl⟩))
    go_wp2_with (go_at_call 15; refine AN.mono ?_; rintro en w' ⟨rfl, rfl⟩)
    refine (wpIn_wide (n := 0)).1 ?_;refine z2k (gf := 42) (lb := #[]) rfl (enters_of func42 GV rfl) (y1a _) (λ x => rfl) ?_;intro WR bR dR;have ky := hd1 (λ (W : World) (hb : Below WR WR W) => (NL.later bR).later hb);obtain ⟨dn, hdn⟩ := G8 wc.heap.size;rw [hdn] at dR ⊢;have HD := hd3 dR (show Below w4 w4 WR from BL.trans (bR.mono BL.size)) (show w4.heap.size <= dn by rw [<-hdn]; exact BL.size);clear bR dR hfe GN AN NL BL hdn;have ON := hd1 (z7h WR);go_upto_region 14 with (go_at_call 10; refine ON.mono ?_; rintro en Er ⟨rfl, b13⟩)
    have CN := hd1 (y1u (ky.out Er b13) (.slice none 0 0));clear ON
    go_upto_region 16 with (first
     | (go_at_call 11; refine CN.mono ?_; rintro en qL ⟨rfl, b14⟩
        have jw := hd1 (b13.trans (b14.mono b13.size));clear b14)
     | (go_at_call 12; refine (nL _ _).mono ?_; rintro en w' ⟨rfl, rfl⟩)
     | (go_at_call 22; refine (z8s (ky.out _ jw.out)).mono ?_; rintro en w' ⟨rfl, rfl⟩)
     | (go_at_call 23; refine (z9c (ky.out _ jw.out)).mono ?_; rintro en w' ⟨rfl, rfl⟩)
     | (go_at_call 17; refine (z9i (ky.out _ jw.out)).mono ?_; rintro en w' ⟨rfl, rfl⟩)
     | (go_at_call 24; refine (y0e (ky.out _ jw.out)).mono ?_; rintro en w' ⟨rfl, rfl⟩)
     | (go_at_call 25; refine (z8n (ky.out _ jw.out)).mono ?_; rintro en w' ⟨rfl, rfl⟩))
    have dY := hd1 (show qL.heap[dn]? = some (.deferred (some [])) /\ Below w4 w4 qL /\ w4.heap.size <= dn from ⟨(jw.block _ (mI HD.1)).trans HD.1, HD.2.1.trans (jw.mono HD.2.1.size), HD.2.2⟩);clear CN b13 jw HD ky;have R4 := (dY.2.1.block _ (aa B4.2)).trans B4.2;have rZ := hd1 R4;clear R4
    go_wp2_with (first
     | (go_at_call 12; refine (nL _ _).mono ?_; rintro en w' ⟨rfl, rfl⟩)
     | (go_at_call 8; refine (WC.out _).mono ?_; rintro en wz ⟨rfl, bz⟩; have rz := (bz.block _ (aa rZ.out)).trans rZ.out; have zz := aU rz 0; have kz := ae rz (j := 0) rfl; have BZ := hd2 bz rz; clear bz rz))
    exact yC (ds := [dn]) (B4.1.trans ((dY.2.1.trans (BZ.1.mono dY.2.1.size)).mono B4.1.size)) G7 BZ.2 GZ (λ D hD => by rw [JX.1 hD]; exact ⟨(BZ.1.block _ (mI dY.1)).trans dY.1, IV B4.1.size dY.2.2⟩) rfl
  ·have NW := hd1 (z7b 0 room W1 (by unfold mH; rw [IA GX]))
   have RN := hd1 (λ W => y8b 0 room W (λ _ => False) (by unfold mH; rw [IA GX]))
   go_upto_region 4 with (first
    | (go_at_call 13; refine FW.mono ?_; rintro en w' ⟨rfl, rfl⟩)
    | (go_at_call 9; refine NW.mono ?_; rintro en w3 ⟨pd, md, rfl, hb3, hp, hm, x3⟩))
   have H3 := hd4 hb3 hp hm x3;clear hb3 hp hm x3 NW FW
   go_upto_region 5 with (first
    | (go_at_call 20; refine (RN.out _).mono ?_; rintro en w3' ⟨v3, rfl, b3, f3⟩; obtain ⟨C4, rfl, lK, hO4⟩ := f3.cells)
    | (refine aD rfl af _ _ rfl w3'.heap.size C4 rfl rfl af bS (II w3' _) (by rw [aI, lK]) (by rw [lK]; rfl) hO4 ?_; intro w4 iF jd mW))
   have jY : Below w3' w3' w4 := Moves.new ((Below.refl w3' w3').alloc G7 _) jd G7;have b4 : Below w3 w3 w4 := b3.trans (jY.mono b3.size);have b14 : Below W1 W1 w4 := H3.1.trans (b4.mono H3.1.size);have B4 := hd1 (show Below w w w4 /\ w4.heap[w.heap.size]? = some (.cells #[false] 4) from ⟨H1.1.trans (b14.mono H1.1.size), (b14.block _ (aa H1.2.1)).trans H1.2.1⟩);obtain ⟨g7, hg7⟩ := G8 w3'.heap.size;rw [hg7] at iF ⊢;have RF4 : bU w4.heap (λ k => w3.heap.size <= k /\ k < w4.heap.size) (.agg C4) (Dm.new 0 room) := f3.keeps (λ k hk hl => jY.block k hl) (λ k hk hl => by
    rcases hk with h | h
    ·exact h.elim
    ·have := jY.size; exact ⟨h.1, GX⟩)
   have H4 := hd5 b4 iF.out RF4 lK (show w3.heap.size <= g7 by have := b3.size; omega);clear b3 f3 hO4 jY b4 b14 iF jd mW hg7 RF4 lK RN;go_upto_if 43 with fail
   go_cut [9] from 40 to 45 (λ s9 wx => kX wx s9 /\ Below w4 w4 wx)
   case first =>
    exact Pm
   case rest =>
    have NL := hd1 hcut.1;have BL := hd1 hcut.2;clear hcut;have hfe := @z0b _ _ _ _ underlying48;have GN := hd1 (z9d NL.out);have AN := hd1 (y2z NL.out)
    go_upto_region 11 with (first
     | (go_at_call 21; refine (GN.out _).mono ?_; rintro en w' ⟨rfl, rfl⟩)
     | (go_at_call 15; refine AN.mono ?_; rintro en w' ⟨rfl, rfl⟩))
    go_wp2_with (go_at_call 15; refine AN.mono ?_; rintro en w' ⟨rfl, rfl⟩)
    refine (wpIn_wide (n := 0)).1 ?_;refine z2k (gf := 42) (lb := #[]) rfl (enters_of func42 GV rfl) (y1a _) (λ x => rfl) ?_;intro WR bR dR;have ky := hd1 (λ (W : World) (hb : Below WR WR W) => (NL.later bR).later hb);obtain ⟨dn, hdn⟩ := G8 wc.heap.size;rw [hdn] at dR ⊢;have HD := hd3 dR (show Below w4 w4 WR from BL.trans (bR.mono BL.size)) (show w4.heap.size <= dn by rw [<-hdn]; exact BL.size);clear bR dR hfe GN AN NL BL hdn;have ON := hd1 (z7h WR);go_upto_region 14 with (go_at_call 10; refine ON.mono ?_; rintro en Er ⟨rfl, b13⟩)
    have CN := hd1 (y1u (ky.out Er b13) (.slice none 0 0));clear ON
    go_upto_region 16 with (first
     | (go_at_call 11; refine CN.mono ?_; rintro en qL ⟨rfl, b14⟩
        have jw := hd1 (b13.trans (b14.mono b13.size));clear b14)
     | (go_at_call 12; refine (nL _ _).mono ?_; rintro en w' ⟨rfl, rfl⟩)
     | (go_at_call 22; refine (z8s (ky.out _ jw.out)).mono ?_; rintro en w' ⟨rfl, rfl⟩)
     | (go_at_call 23; refine (z9c (ky.out _ jw.out)).mono ?_; rintro en w' ⟨rfl, rfl⟩)
     | (go_at_call 17; refine (z9i (ky.out _ jw.out)).mono ?_; rintro en w' ⟨rfl, rfl⟩)
     | (go_at_call 24; refine (y0e (ky.out _ jw.out)).mono ?_; rintro en w' ⟨rfl, rfl⟩)
     | (go_at_call 25; refine (z8n (ky.out _ jw.out)).mono ?_; rintro en w' ⟨rfl, rfl⟩))
    have dY := hd1 (show qL.heap[dn]? = some (.deferred (some [])) /\ Below w4 w4 qL /\ w4.heap.size <= dn from ⟨(jw.block _ (mI HD.1)).trans HD.1, HD.2.1.trans (jw.mono HD.2.1.size), HD.2.2⟩);clear CN b13 jw HD ky;go_upto_region 18 with fail
    have tk : ∀ k : Nat, ((Dm.new 0 room).stand.tp k).length <= 1000000 := λ k => IY _;have x14 : aQ qL.heap pd md (Dm.new 0 room) (λ k => z2x W1 pd md k /\ k < w3.heap.size) := by
     obtain ⟨l1, l2, l3, l4, l5⟩ := H3.2.2.2.lt;exact (H3.2.2.2.weak (λ k hk hl => (⟨hk, hl⟩ : z2x W1 pd md k /\ k < w3.heap.size)) (λ h => l4 h.1) (λ h => l5 h.1)).below (H4.1.trans (dY.2.1.mono H4.1.size))
    have OC := F8 (ts := λ k => aH ((Dm.new 0 room).stand.tp k)) x14 (IY _) (λ k hk => Hq H4.1.size dY.2.1.size hk.2) (λ k _ => z6o (IY _) k) (Ey (λ k _ => tk k));have SND := λ h0 => z7j (d := Dm.new 0 room) rfl rfl (λ k _ => tk k) h0;have WTS := z7k (Dm.new 0 room) (aP (λ k => aH ((Dm.new 0 room).stand.tp k)) 2);have RMS := z7i (Dm.new 0 room) (aP (λ k => aH ((Dm.new 0 room).stand.tp k)) 2);have zQ := λ (W : World) (hr : bU W.heap (λ k => w3.heap.size <= k /\ k < w4.heap.size) (.agg C4) (Dm.new 0 room)) => z5i (w := W) hr (z7c 0 room GY GY GX GX) (IY _) (by show room <= 1000000; omega);obtain ⟨R0, hR0⟩ := G8 (Em.bY (Dm.new 0 room) (aP (λ k => aH ((Dm.new 0 room).stand.tp k)) 2));rw [hR0] at OC SND WTS RMS;simp only [hR0] at zQ;replace OC := hd1 OC;have SR := hd3 SND WTS RMS;replace zQ := hd1 zQ;clear SND WTS RMS hR0 tk x14;by_cases h0 : R0.2 = 0
    ·go_upto_region 19 with (go_at_call 10; refine OC.mono ?_; rintro en kZ ⟨m18, BM, BJ⟩; obtain ⟨pl, F18, rfl, qH, hpl, wF, _⟩ := BM h0)
     have zR : bU kZ.heap (λ k => w3.heap.size <= k /\ k < w4.heap.size) (.agg C4) (Dm.new 0 room) := H4.2.2.1.keeps (λ k hk hl => by
      obtain ⟨l1, l2, l3, l4, l5⟩ := H3.2.2.2.lt;have := dY.2.1.size;exact (m18.block k GX (λ h => by rcases h with h | h <;> omega)).trans (dY.2.1.block k hl)) (λ k hk _ => hk)
     have R7 := hd1 (show kZ.heap[g7]? = some (.cells C4 af) from by
      obtain ⟨l1, l2, l3, l4, l5⟩ := H3.2.2.2.lt;have := dY.2.1.size;have := aa H4.2.1;have := H4.2.2.2.2;exact (m18.block g7 GX (λ h => by rcases h with h | h <;> omega)).trans ((dY.2.1.block g7 GX).trans H4.2.1))
     have RC := hd1 (zQ.out kZ zR);clear zR;have uX := hd4 m18 qH hpl wF;have HZ := hd1 h0;clear BM BJ m18 qH hpl wF h0
     go_upto_region 20 with (first
      | (refine He R7.out Hz (by rw [aI, H4.2.2.2.1]) ?_)
      | (go_at_call 26; refine RC.mono ?_; rintro en kI ⟨v19, e19, b19, f19⟩
         obtain ⟨C9, a9, n9, c9, rfl, rJ, yV, Fh⟩ := id f19;rw [HZ.out] at e19;subst e19)
      | (refine aD rfl ah _ _ rfl kI.heap.size _ rfl rfl ah bM (II kI _) (by rw [aY, aW rJ]) (by rw [aW rJ]; rfl) (eB yV _ _ _ _ _) ?_; intro j6 uO zW z2w))
     obtain ⟨KK, hKK⟩ : ∃ KK : Nat -> Prop, KK = λ k => k = dn \/ k = w.heap.size := ⟨_, rfl⟩;have uD : Below kI kI j6 := Moves.new ((Below.refl kI kI).alloc G7 _) zW G7;obtain ⟨Ev0, hEv⟩ := G8 (bT C9 R0.1.gone (.slice a9 n9 c9) (dG R0.1));have z9p : Ev0.size = 13 := by rw [<-hEv]; exact aW rJ _ _ _
     rw [hEv] at f19 uO;obtain ⟨gw, hgw⟩ := G8 kI.heap.size;rw [hgw] at uO ⊢;have oP : Below kZ kZ j6 := b19.trans (uD.mono b19.size)
     have ST := hd1 (show oZ w j6 j6 (λ k => k = dn \/ k = w.heap.size) gw pl pd md R0.1 F18 Ev0 from by
      obtain ⟨l1, l2, l3, l4, l5⟩ := H3.2.2.2.lt;obtain ⟨m18, qH, hpl, wF⟩ := uX.out;have lx := qH.disk.lt;have lp := aa qH.row.choose_spec.1;have z1 := H1.1.size;have s1 := H1.2.2;have z3 := H3.1.size;have z4 := H4.1.size;have z14 := dY.2.1.size;have z18 := m18.size;have z19 := b19.size;have w1k := uD.size;have n1 := H3.2.1;have n2 := H3.2.2.1;have n3 := dY.2.2;have z1k : Below w w qL := B4.1.trans (dY.2.1.mono B4.1.size);have zF : Below w w kZ := kT z1k m18 (λ k hk => by rcases hk with h | h <;> omega);have hg : gw < j6.heap.size := aa uO.out;refine ⟨zF.trans (oP.mono zF.size), ⟨GX, GX, GX, GX⟩, ⟨GX, GX, GX⟩, qH.grow oP, uO.out, f19.keeps (λ k hk hl => uD.block k hl) (λ k hk hl => ?_), z9p, λ k hk => Hm (wF k hk), ⟨(SR.1 HZ.out).gz, qH.disk.ok, ?_, ?_⟩, λ k hk => ?_⟩
      ·rcases hk with h | h
       ·exact Rx
       ·exact Rx
      ·have := SR.2.1
       have h0 : (Dm.new 0 room).waits.length = 0 := rfl;omega
      ·rw [SR.2.2]
       show room <= 1000000;omega
      ·rcases hk with rfl | rfl
       ·have ld := mI dY.1
        exact ⟨GX, Nat.le_refl _, rfl, ⟨GX, GX, GX⟩, GX⟩
       ·exact ⟨GX, Nat.le_refl _, rfl, ⟨GX, GX, GX⟩, GX⟩)
     have WT0 := hd1 (show R0.1.d.waits.length <= 100 by have := SR.2.1; have h0 : (Dm.new 0 room).waits.length = 0 := rfl; omega)
     have KEEP := hd1 (show j6.heap[dn]? = some (.deferred (some [])) /\ j6.heap[w.heap.size]? = some (.cells #[false] 4) from by
      obtain ⟨l1, l2, l3, l4, l5⟩ := H3.2.2.2.lt;obtain ⟨m18, qH, hpl, wF⟩ := uX.out;have z1 := H1.1.size;have s1 := H1.2.2;have z3 := H3.1.size;have z4 := H4.1.size;have z14 := dY.2.1.size;have z18 := m18.size;have n1 := H3.2.1;have n2 := H3.2.2.1;have n3 := dY.2.2;have ld := mI dY.1
      exact ⟨(oP.block dn GX).trans ((m18.block dn ld (λ h => by rcases h with h | h <;> omega)).trans dY.1),
       (oP.block _ GX).trans ((m18.block _ GX (λ h => by rcases h with h | h <;> omega)).trans ((dY.2.1.block _ GX).trans B4.2))⟩)
     rw [<-hKK] at ST;have HKK := hd1 (show KK dn /\ KK w.heap.size by rw [hKK]; exact ⟨IB rfl, IC rfl⟩);clear hKK;clear uD oP f19 uO zW z2w z9p hEv rJ yV hgw b19 Fh;go_wp2_with (go_at_call 12; refine (nL _ _).mono ?_; rintro en w' ⟨rfl, rfl⟩)
     go_loopg [14, 18] n (λ g sE sC wr => ∃ (k pl pd md : Nat) (e : Em.E) (F : Nat -> Prop) (Ev : Array Value), sC = .int .i64 (k : Int) /\ g + k = n /\ sE = .pointer (some ⟨pl, 0, none⟩) /\ oZ w j6 wr KK gw pl pd md e F Ev /\ e.d.waits.length <= 100 + 3 * k)
     case atStart => exact ⟨0, pl, pd, md, _, _, _, rfl, rfl, rfl, ST.out, WT0.out⟩
     case round =>
      obtain ⟨k, pl, pd, md, e, F, Ev, rfl, hg, rfl, pm, hwt⟩ := hrel;by_cases hlt : k < n
      ·obtain ⟨q, hqi⟩ : ∃ q, Q[k]? = some q := ⟨_, IX Nl⟩
       obtain ⟨b, o, eva, lb, rg, is⟩ := H0.1.at hqi;subst eva;have i0 : (0 : Int) <= (k : Int) := GX;have i1 : (k : Int) < (n : Int) := GX;have hsm : q.1.small = true := SM.out q (Jg hqi);have AC := hd1 (λ (X : World) (hb : Below wr wr X) => pm.call GX hb is hsm);have hbn : ¬ eT pl pd md b := λ h => by have := pm.new; rcases h with h | h | h <;> omega
       have hgn : ¬ eT pl pd md gw := λ h => by have := pm.ne; rcases h with h | h | h; exact this.1 h; exact this.2.1 h; exact this.2.2 h
       have LDW : Hid (∀ w', (∃ y : Wd (Moves (eT pl pd md) wr), w' = y.world) -> (Instr.loadAt ah (.pointer (some gw))).run prog w' = .ok (.agg Ev) w') := by
        rintro w' ⟨y, rfl⟩;exact gy ((y.ok.block _ (aa pm.row) hgn).trans pm.row) H_ rfl (by rw [aY, pm.size])
       have LDA : Hid (∀ w', (∃ y : Wd (Moves (eT pl pd md) wr), w' = y.world) -> (Instr.loadAt iV (.pointer (some ⟨b, o + k * 6, none⟩))).run prog w' = .ok (.agg (iP q.1.what q.2.1 q.1.n q.2.2 q.1.aT.bq q.1.aT.part)) w') := by
        rintro w' ⟨y, rfl⟩;exact Lc y.world b (o + k * 6) iV [.int .i64 q.1.what, q.2.1, .int .i64 q.1.n, q.2.2, .int .i64 q.1.aT.bq, .int .i64 q.1.aT.part] _ (λ j v hj => (I1 (y.ok.block b (Je lb pm.below.size) hbn)).trans ((pm.below.cell (p := ⟨b, o + k * 6 + j, none⟩) lb).trans (rg j v hj))) underlying43 rfl infoAct6
       have ne : Nonempty (Wd (Moves (eT pl pd md) wr)) := ⟨⟨_, Moves.refl _ _⟩⟩;have nZ := hd3 pm hg hwt;clear pm hg hwt hqi rg is hsm lb hbn hgn;go_upto_region 25 with fail
       go_cut [19, 20, 21] from 140 to 166 (λ s1 s2 s3 wx => ∃ (b20 eF fo md' : Nat) (F' : Nat -> Prop) (Ew : Array Value), s1 = .pointer (some ⟨eF, 0, none⟩) /\ s2 = .pointer (some ⟨b20, 0, none⟩) /\ s3 = .bool true /\ DN w j6 wx KK gw b20 eF fo md' (jF e q.1) F' Ev Ew)
       case first =>
        refine bD (λ w' => ∃ x : Wd (Moves (eT pl pd md) wr), w' = x.world) [] GV ?_;refine aL [0, 1, 2, 3, 4, 5] 9 _ ⟨⟨_, (Moves.of_below G6.drew)⟩, rfl⟩ GV ?_;simp only [fmc, fmn, gta, gcs, gcz];refine ak (λ K hK => ?_); simp only [au, aj]; go_simp; refine hK _ ?_; clear hK K;refine eH rfl ah (.tmp 16) rfl _ LDW.out ?_;refine ak (λ K hK => ?_); simp only [au, aj]; go_simp; refine hK _ ?_; clear hK K;refine ak (λ K hK => ?_); simp only [au, aj]; go_simp; refine hK _ ?_; clear hK K;refine ak (λ K hK => ?_); simp only [au, aj]; go_simp; refine hK _ ?_; clear hK K;refine eH rfl iV (.tmp 151) rfl _ LDA.out ?_;refine aB ?_;refine Ak 6 11 8 _ _ _ rfl rfl GV ?_ ?_
        ·refine IJ rfl λ K hK => ?_
         go_simp;go_at_call 27;have HX : Below wr wr wr.drew := G6.drew;refine (AC.out _ HX).mono ?_;rintro en w5 ⟨eF, fo, md', F', v5, rfl, m5, x5, r5, qa, qg⟩;obtain ⟨C5, a5, n5, c5, rfl, za, yY, Fj⟩ := id r5;obtain ⟨Ew, qh⟩ := G8 (bT C5 (jF e q.1).gone (.slice a5 n5 c5) (dG (jF e q.1)));have uf : Ew.size = 13 := by rw [<-qh]; exact aW za _ _ _
         have y8 : Ew.all (·.oneCell') = true := by rw [<-qh]; exact eB yY _ _ _ _ _
         rw [qh] at r5 ⊢;have FT := nZ.1.fit.next (a := q.1) x5.disk.ok (Hm nZ.2.2);have lN : Moves (eT pl pd md) wr w5 := (Moves.of_below HX).trans m5 (λ _ _ h => h);have A5 := hd6 m5 x5 r5 qa qg FT;clear m5 x5 r5 qa qg FT qh za yY Fj;refine hK _ _ (IG ⟨rfl, λ _ => ⟨⟨_, lN⟩, rfl⟩, ?_⟩);clear hK K;refine aL [7, 8, 9, 10] 4 _ ⟨⟨_, lN⟩, rfl⟩ GV ?_;refine Hd ?_;refine aA 11 3 _ _ rfl GV ?_;refine IJ rfl λ K hK => ?_;go_simp;have ba : Below w5 w5 (w5.alloc (.cells bM ah)) := (Below.refl w5 w5).alloc G7 _;have cl6 : Moves (eT pl pd md) wr (w5.alloc (.cells bM ah)) := lN.trans (Moves.of_below (O := eT pl pd md) ba) (λ _ _ h => h);refine hK _ _ (IG ⟨rfl, λ _ => ⟨⟨_, cl6⟩, rfl⟩, ?_⟩);clear hK K;refine aL [12] 2 _ ⟨⟨_, cl6⟩, rfl⟩ GV ?_;refine Hd ?_;refine aA 13 1 _ _ rfl GV ?_;refine aD rfl ah _ _ rfl w5.heap.size Ew rfl rfl ah _ (II w5 _) (by rw [aY, uf]) (by rw [uf]; rfl) y8 ?_;intro w6 iQ ik oh;have m6 : Moves (λ k => k = w5.heap.size) w5 w6 := (Moves.of_below ba).trans ik (λ _ _ h => h);have uz : Moves (eT pl pd md) wr w6 := lN.trans m6 (λ i hi h => Hm lN.size);refine IG ⟨rfl, λ _ => ⟨⟨_, uz⟩, rfl⟩, ?_⟩;have R6 := hd3 m6 iQ.out lN.size;clear ba cl6 m6 ik oh iQ;refine aL [14] 0 _ ⟨⟨_, uz⟩, rfl⟩ GV ?_;refine Hd ?_;refine ⟨GV, ?_⟩;clear lN uz;go_wp2_with fail
         go_meet
         case rel =>
          obtain ⟨m5, x5, r5, qa, qg, FT⟩ := A5.out;exact ⟨w5.heap.size, eF, fo, md', _, Ew, rfl, rfl, rfl, nZ.1.y2u HX m5 x5 r5 qa qg R6.1 R6.2.1 ⟨R6.2.2, IC G7⟩ (λ h => absurd h GX) FT uf y8⟩
        ·refine IJ rfl λ K hK => ?_
         go_simp;have HX : Below wr wr (wr.drew.alloc (.cells bM ah)) := (Below.refl wr wr).drew.alloc G7 _;have cl4 : Moves (eT pl pd md) wr (wr.drew.alloc (.cells bM ah)) := Moves.of_below HX;refine hK _ _ (IG ⟨rfl, λ _ => ⟨⟨_, cl4⟩, rfl⟩, ?_⟩);clear hK K;refine aA 6 7 _ _ rfl GV ?_;refine IJ rfl λ K hK => ?_;go_simp;go_at_call 27;refine (AC.out _ HX).mono ?_;rintro en w5 ⟨eF, fo, md', F', v5, rfl, m5, x5, r5, qa, qg⟩;obtain ⟨C5, a5, n5, c5, rfl, za, yY, Fj⟩ := id r5;obtain ⟨Ew, qh⟩ := G8 (bT C5 (jF e q.1).gone (.slice a5 n5 c5) (dG (jF e q.1)));have uf : Ew.size = 13 := by rw [<-qh]; exact aW za _ _ _
         have y8 : Ew.all (·.oneCell') = true := by rw [<-qh]; exact eB yY _ _ _ _ _
         rw [qh] at r5 ⊢;have FT := nZ.1.fit.next (a := q.1) x5.disk.ok (Hm nZ.2.2);have lN : Moves (eT pl pd md) wr w5 := cl4.trans m5 (λ _ _ h => h);have lxx := nZ.1.log.disk.lt;have lpp := aa nZ.1.log.row.choose_spec.1;have ra : (wr.drew.alloc (.cells bM ah)).heap[wr.heap.size]? = some (.cells bM ah) := II wr.drew _;have sa : (wr.drew.alloc (.cells bM ah)).heap.size = wr.heap.size + 1 := GZ;have FO : w5.heap[wr.heap.size]? = some (.cells bM ah) := (m5.block _ GX GX).trans ra;have A5 := hd6 m5 x5 r5 qa qg FT;clear m5 x5 r5 qa qg FT qh za yY Fj cl4 ra;refine hK _ _ (IG ⟨rfl, λ _ => ⟨⟨_, lN⟩, rfl⟩, ?_⟩);clear hK K;refine aL [7, 8, 9, 10] 3 _ ⟨⟨_, lN⟩, rfl⟩ GV ?_;refine Hd ?_;refine aL [12] 2 _ ⟨⟨_, lN⟩, rfl⟩ GV ?_;refine Hd ?_;refine aA 13 1 _ _ rfl GV ?_;refine aD rfl ah _ _ rfl wr.heap.size Ew rfl rfl ah _ FO (by rw [aY, uf]) (by rw [uf]; rfl) y8 ?_;intro w6 iQ ik oh;have uz : Moves (eT pl pd md) wr w6 := lN.trans ik (λ i hi h => GX);refine IG ⟨rfl, λ _ => ⟨⟨_, uz⟩, rfl⟩, ?_⟩;have R6 := hd4 ik iQ.out FO sa;clear ik oh iQ FO sa lxx lpp;refine aL [14] 0 _ ⟨⟨_, uz⟩, rfl⟩ GV ?_;refine Hd ?_;refine ⟨GV, ?_⟩;clear lN uz;go_wp2_with fail
         go_meet
         case rel =>
          obtain ⟨m5, x5, r5, qa, qg, FT⟩ := A5.out;exact ⟨wr.heap.size, eF, fo, md', _, Ew, rfl, rfl, rfl, nZ.1.y2u HX m5 x5 r5 qa qg R6.1 R6.2.1 ⟨Nat.le_refl _, IB (by rw [R6.2.2.2]; omega)⟩ (λ _ => ⟨_, _, _, R6.2.2.1⟩) FT uf y8⟩
       case rest =>
        obtain ⟨b20, eF, fo, md', F', Ew, rfl, rfl, rfl, pn⟩ := hcut;have y2k : Hid (∀ w', (∃ y : Wd (Moves (λ k => k = gw) wc), w' = y.world) -> (Instr.loadAt ah (.pointer (some b20))).run prog w' = .ok (.agg Ew) w') := by
         rintro w' ⟨y, rfl⟩;exact gy ((y.ok.block _ (aa pn.z5k) pn.neb).trans pn.z5k) H_ rfl (by rw [aY, pn.size])
        have ne6 : Nonempty (Wd (Moves (λ k => k = gw) wc)) := ⟨⟨_, Moves.refl _ _⟩⟩;have PN := hd1 pn;have WT := hd1 (y2v e q.1);clear pn LDW LDA AC ne;go_upto_region 26 with fail
        refine bD (λ w' => ∃ x : Wd (Moves (λ k => k = gw) wc), w' = x.world) [3] GV ?_;refine aL [0, 1, 2] 1 _ ⟨⟨_, (Moves.of_below G6.drew)⟩, rfl⟩ GV ?_;simp only [fmc, fmn, gta, gcs, gcz];refine ak (λ K hK => ?_); simp only [au, aj]; go_simp; refine hK _ ?_; clear hK K;refine eH rfl ah (.tmp 20) rfl _ y2k.out ?_;repeat refine Ha ?_
        refine aB ?_;refine aA 3 0 _ _ rfl GV ?_;refine aD rfl ah _ _ rfl gw Ew rfl rfl ah Ev PN.row (by rw [aY, PN.size]) (by rw [PN.size, PN.y6b]) PN.ones ?_;intro w7 iE jc qB;refine IG ⟨rfl, λ h => absurd GY h, GV, ?_⟩;have xx := hd1 (PN.store (W' := w7) ⟨jc.os, jc.tape, jc.output, jc.size, jc.block⟩ iE.out);have IS := hd1 (z8b xx.log xx.ref xx.fit);clear iE jc qB y2k ne6 PN
        go_wp2_with (first
         | (refine y3b (by go_simp) ah (.tmp 16) rfl _ (gy xx.row H_ rfl (by rw [aY, xx.size])) ?_)
         | (go_at_call 28; refine IS.mono ?_; rintro en w8 ⟨rfl, b8⟩))
        go_roundg (n - (k + 1))
        case measure => have := nZ.2.1; omega
        case rel => exact ⟨k + 1, eF, fo, md', jF e q.1, _, Ew, by go_num, Hm nZ.2.1, rfl, xx.later b8, Ho nZ.2.2 WT.out⟩
      ·obtain rfl : k = n := GX
       have IS := hd1 (z8b pm.log pm.ref pm.fit);have PM := hd1 pm;clear pm hg hwt hlt;have kd := PM.keep dn HKK.1;have kq := PM.keep w.heap.size HKK.2;have RQ := hd1 (kq.2.2.1.trans KEEP.2);have RD := hd1 (kd.2.2.1.trans KEEP.1);clear kd kq
       go_wp2_with (first
        | (refine He PM.row H_ (by rw [aY, PM.size]) ?_)
        | (go_at_call 28; refine IS.mono ?_; rintro en w8 ⟨rfl, b8⟩; have RQ8 := hd1 ((b8.block _ (aa RQ.out)).trans RQ.out); have B8 := hd1 b8; clear b8)
        | (go_at_call 8; refine (WC.out _).mono ?_; rintro en wz ⟨rfl, bz⟩; have rz := (bz.block _ (aa RQ8.out)).trans RQ8.out; have zz := aU rz 0; have kz := ae rz (j := 0) rfl; have BZ := hd2 bz rz; clear bz rz))
       exact yC (ds := [dn]) (PM.below.trans ((B8.trans (BZ.1.mono B8.size)).mono PM.below.size)) G7 BZ.2 GZ (λ D hD => by rw [JX.1 hD]; exact ⟨(BZ.1.block _ (Je (mI RD.out) B8.size)).trans ((B8.block _ (mI RD.out)).trans RD.out), IV B4.1.size dY.2.2⟩) rfl
    ·go_upto_region 19 with (go_at_call 10; refine OC.mono ?_; rintro en kZ ⟨m18, BM, BJ⟩; obtain ⟨rfl, _⟩ := BJ h0)
     have zR : bU kZ.heap (λ k => w3.heap.size <= k /\ k < w4.heap.size) (.agg C4) (Dm.new 0 room) := H4.2.2.1.keeps (λ k hk hl => by
      obtain ⟨l1, l2, l3, l4, l5⟩ := H3.2.2.2.lt;have := dY.2.1.size;exact (m18.block k GX (λ h => by rcases h with h | h <;> omega)).trans (dY.2.1.block k hl)) (λ k hk _ => hk)
     have R7 := hd1 (show kZ.heap[g7]? = some (.cells C4 af) from by
      obtain ⟨l1, l2, l3, l4, l5⟩ := H3.2.2.2.lt;have := dY.2.1.size;have := aa H4.2.1;have := H4.2.2.2.2;exact (m18.block g7 GX (λ h => by rcases h with h | h <;> omega)).trans ((dY.2.1.block g7 GX).trans H4.2.1))
     have RC := hd1 (zQ.out kZ zR);clear zR;have uX := hd1 m18;have HZ := hd1 h0;have hz := h0;clear BM BJ m18 h0
     go_upto_region 20 with (first
      | (refine He R7.out Hz (by rw [aI, H4.2.2.2.1]) ?_)
      | (go_at_call 26; refine RC.mono ?_; rintro en kI ⟨v19, e19, b19, f19⟩
         obtain ⟨C9, a9, n9, c9, rfl, rJ, yV, Fh⟩ := id f19;skip
         subst e19)
      | (refine aD rfl ah _ _ rfl kI.heap.size _ rfl rfl ah bM (II kI _) (by rw [aY, aW rJ]) (by rw [aW rJ]; rfl) (eB yV _ _ _ _ _) ?_; intro j6 uO zW z2w))
     have R4 := (dY.2.1.block _ (aa B4.2)).trans B4.2;have uD : Below kI kI j6 := Moves.new ((Below.refl kI kI).alloc G7 _) zW G7;have oP : Below kZ kZ j6 := b19.trans (uD.mono b19.size)
     have FIN := hd1 (show Below w w j6 /\ j6.heap[w.heap.size]? = some (.cells #[false] 4) /\ j6.heap[dn]? = some (.deferred (some [])) from by
      obtain ⟨l1, l2, l3, l4, l5⟩ := H3.2.2.2.lt;have z1 := H1.1.size;have s1 := H1.2.2;have z3 := H3.1.size;have z4 := H4.1.size;have z14 := dY.2.1.size;have z18 := uX.size;have n1 := H3.2.1;have n2 := H3.2.2.1;have n3 := dY.2.2;have ld := mI dY.1;have z1k : Below w w qL := B4.1.trans (dY.2.1.mono B4.1.size);have zF : Below w w kZ := kT z1k uX.out (λ k hk => by rcases hk with h | h <;> omega);exact ⟨zF.trans (oP.mono zF.size), (oP.block _ GX).trans ((uX.block _ GX (λ h => by rcases h with h | h <;> omega)).trans R4), (oP.block dn GX).trans ((uX.block dn ld (λ h => by rcases h with h | h <;> omega)).trans dY.1)⟩)
     clear R4 uD oP f19 uO zW z2w rJ yV b19 Fh;generalize R0.2 = er at *
     go_wp2_with (first
      | (go_at_call 12; refine (nL _ _).mono ?_; rintro en w' ⟨rfl, rfl⟩)
      | (go_at_call 8; refine (WC.out _).mono ?_; rintro en wz ⟨rfl, bz⟩; have rz := (bz.block _ (aa FIN.2.1)).trans FIN.2.1; have zz := aU rz 0; have kz := ae rz (j := 0) rfl; have BZ := hd2 bz rz; clear bz rz))
     exact yC (ds := [dn]) (FIN.1.trans (BZ.1.mono FIN.1.size)) G7 BZ.2 GZ (λ D hD => by rw [JX.1 hD]; exact ⟨(BZ.1.block _ (mI FIN.2.2)).trans FIN.2.2, IV B4.1.size dY.2.2⟩) rfl
end
end Go.Proofs.YtgffifleflkjoaaGreat
