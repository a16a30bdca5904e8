/-
  Parts of a proof.
-/
import Derived.Test.YtgffifleflkjoaaGreatFin18
import Derived.Test.YtgffifleflkjoaaGreatFin41
import Derived.Test.YtgffifleflkjoaaGreatFin49
import Derived.Test.YtgffifleflkjoaaGreatFin42
import Derived.ProofKit
import Derived.OpenShut
import Derived.Below
import Derived.Deep.Slices
import Derived.Deep.Grids
import Derived.ChangeSlices
import Derived.ChangeArms
set_option linter.unusedSimpArgs false
set_option linter.unusedVariables false
set_option maxRecDepth 100000
set_option maxHeartbeats 16000000
namespace Go.Proofs.YtgffifleflkjoaaGreat
open _root_.Go.Proofs.Tryz
variable {w W w' w0 wr w1 W0 W1 W2 A B : World} {F G F' O : Nat → Prop} {v : Value} {l : List UInt8} {n q m pd md pl g p : Nat} {C : Array Value} {c : Int}
section
open Go.RowKit Dm
attribute [local go_sem] Oper.semAt_some
theorem bL.grow {e : Em.E} (x : bL w pl pd md e F) (hb : Below w w w') : bL w' pl pd md e F :=
 mJ x (Moves.of_below (O := λ _ => False) hb) (λ h => h) (λ h => h) (λ h => h) (λ _ _ h => h) (λ _ h => h.elim)
theorem z8b {e : Em.E} (x : bL w pl pd md e F) (hr : dX w G v e) (hf : Fit e) :
 Calls prog 28 #[pl, v] w λ en w' => en = .returned (.bool true) /\ Below w w w' := by
 have hr' := hr;obtain ⟨C, ra, rn, rc, rfl, hC, gF, fF, _⟩ := hr;obtain ⟨E, hE⟩ := G8 (bT C e.gone (.slice ra rn rc) (dG e));have jV : E.size = 13 := by rw [<-hE]; exact aW hC _ _ _
 have y_ : E[10]? = some (.bool e.gone) := by rw [<-hE]; exact (wh hC _ _ _).1
 rw [hE] at hr' ⊢;obtain ⟨W0, hW0⟩ := G8 (w.alloc (.cells E ah));have B0 : Below w w W0 := by rw [<-hW0]; exact bla
 have r0 : W0.heap[w.heap.size]? = some (.cells E ah) := by rw [<-hW0]; exact II w _
 have LD : Hid (∀ w', (∃ y : Wd (Below W0 W0), w' = y.world) -> (Instr.loadAt ah (.pointer (some w.heap.size))).run prog w' = .ok (.agg E) w') := by
  rintro w' ⟨y, rfl⟩;exact gy ((y.ok.block _ (aa r0)).trans r0) H_ rfl (by rw [aY, jV])
 have LDC : Hid (∀ w', (∃ y : Wd (Below W0 W0), w' = y.world) -> (Instr.loadAt af (.pointer (some w.heap.size))).run prog w' = .ok (.agg C) w') := by
  rintro w' ⟨y, rfl⟩;have ry : y.world.heap[w.heap.size]? = some (.cells (bT C e.gone (.slice ra rn rc) (dG e)) ah (0, 0)) := by rw [hE]; exact (y.ok.block _ (aa r0)).trans r0
  have := Lc y.world w.heap.size 0 af C.toList _ (z7z ry) Hz rfl (by rw [aI]; simp [hC]);rw [Array.toArray_toList] at this;exact this
 have f10 : ∀ y : Wd (Below W0 W0), y.world.cell? (w.heap.size, 10) = some (.bool e.gone) := λ y => aN y.ok (ae r0 y_);have TC := hd1 (λ (W : World) (hb : Below W0 W0 W) => EX ((hr'.later B0).later hb) hf);have GC := hd1 (λ (W : World) (hb : Below W0 W0 W) => z6v ((hr'.later B0).later hb) hf);have XC := hd1 (λ (W : World) (hb : Below W0 W0 W) => (x.grow B0).grow hb);have RD := hd1 (λ (W : World) (hb : Below W0 W0 W) => (fF.keeps (λ k _ hl => B0.block k hl) (λ _ h _ => h) : bU W0.heap G (.agg C) e.d).keeps (h' := W.heap) (F' := G) (λ k _ hl => hb.block k hl) (λ _ h _ => h));have HB := hd2 B0 hf;have HW := hd1 hW0;have ne : Nonempty (Wd (Below W0 W0)) := ⟨⟨_, Below.refl _ _⟩⟩;clear x hr' hC gF fF hE jV y_ B0 r0 hW0 hf;go_in;go_upto_region 1 with fail
 rw [HW.out];refine bD (λ w' => ∃ x : Wd (Below W0 W0), w' = x.world) [] GV ?_;refine aL [0, 1] 24 _ Hu GV ?_;simp only [fmc, fmn, gta, gcs, gcz];refine ak (λ K hK => ?_); simp only [au, aj]; go_simp; refine hK _ ?_; clear hK K;refine eH rfl ah (.tmp 3) rfl _ LD.out ?_;refine aB ?_;refine aA 2 23 _ _ rfl GV ?_;refine IJ rfl λ K hK => ?_;go_simp;go_at_call 57;refine (TC.out _ G6.drew).mono ?_;rintro en w1 ⟨b1, xa, xn, xc, rfl, p1⟩;have b1' : Below W0 W0 w1 := G6.drew.trans b1;have P1 := hd1 p1;clear b1 p1;refine hK _ _ (IG ⟨rfl, λ _ => ⟨⟨_, b1'⟩, rfl⟩, ?_⟩);clear hK K;refine aA 3 22 _ _ rfl GV ?_;refine IJ rfl λ K hK => ?_;go_simp;go_at_call 18;refine (y8k (XC.out _ b1') P1.out (by rw [Em.pG]; have := HB.2.gz.good.few; omega)).mono ?_;rintro en w2 ⟨rfl, b2⟩;rw [KD rfl];have b2' : Below W0 W0 w2 := b1'.trans (b2.mono b1'.size);clear b2 b1' P1;refine hK _ _ (IG ⟨rfl, λ _ => ⟨⟨_, b2'⟩, rfl⟩, ?_⟩);clear hK K;refine aL [4, 5, 7] 19 _ ⟨⟨_, b2'⟩, rfl⟩ GV ?_;simp only [fmc, fmn, gta, gcs, gcz];refine ak (λ K hK => ?_); simp only [au, aj]; go_simp; refine hK _ ?_; clear hK K;refine ak (λ K hK => ?_); simp only [au, aj]; go_simp; refine hK _ ?_; clear hK K;refine z2j (by go_simp) ah (.tmp 3) rfl _ LD.out ?_;refine aB ?_;refine aA 6 18 _ _ rfl GV ?_;refine Jy λ K hK => ?_;go_simp;go_at_call 23;refine (z9b (XC.out _ b2')).mono ?_;rintro en w' ⟨rfl, rfl⟩;refine hK _ _ (IG ⟨rfl, λ _ => ⟨⟨_, b2'⟩, rfl⟩, ?_⟩);clear hK K;refine aA 8 17 _ _ rfl GV ?_;refine Jy λ K hK => ?_;go_simp;go_at_call 58
 refine (GC.out _ b2').mono ?_;rintro en w3 ⟨rfl, b3⟩;have b3' : Below W0 W0 w3 := b2'.trans (b3.mono b2'.size);clear b3 b2';refine hK _ _ (IG ⟨rfl, λ _ => ⟨⟨_, b3'⟩, rfl⟩, ?_⟩);clear hK K;refine aL [9, 10, 11, 12, 14, 15] 11 _ ⟨⟨_, b3'⟩, rfl⟩ GV ?_;refine Hd ?_;refine aA 13 10 _ _ rfl GV ?_;refine Jy λ K hK => ?_;go_simp;go_at_call 17;refine (z9h (XC.out _ b3')).mono ?_;rintro en w' ⟨rfl, rfl⟩;refine hK _ _ (IG ⟨rfl, λ _ => ⟨⟨_, b3'⟩, rfl⟩, ?_⟩);clear hK K;refine aL [16, 17, 18, 19, 21, 22] 4 _ ⟨⟨_, b3'⟩, rfl⟩ GV ?_;simp only [fmc, fmn, gta, gcs, gcz];refine ak (λ K hK => ?_); simp only [au, aj]; go_simp; refine hK _ ?_; clear hK K;refine ak (λ K hK => ?_); simp only [au, aj]; go_simp; refine hK _ ?_; clear hK K;refine ak (λ K hK => ?_); simp only [au, aj]; go_simp; refine hK _ ?_; clear hK K;refine ak (λ K hK => ?_); simp only [au, aj]; go_simp; refine hK _ ?_; clear hK K;refine ak (λ K hK => ?_); simp only [au, aj]; go_simp; refine hK _ ?_; clear hK K;refine z2j (by go_simp) af (.tmp 26) rfl _ LDC.out ?_;refine aB ?_;refine aA 20 3 _ _ rfl GV ?_;refine Jy λ K hK => ?_;go_simp;go_at_call 24;refine (z1v (XC.out _ b3')).mono ?_;rintro en w' ⟨rfl, rfl⟩;refine hK _ _ (IG ⟨rfl, λ _ => ⟨⟨_, b3'⟩, rfl⟩, ?_⟩);clear hK K;refine aA 23 2 _ _ rfl GV ?_;refine Jy λ K hK => ?_;go_simp;go_at_call 30;refine (y5k (XC.out _ b3').disk (RD.out _ b3') HB.2.bound).mono ?_;rintro en w4 ⟨rfl, b4⟩;have lU : Below W0 W0 w4 := b3'.trans (b4.mono b3'.size);clear b4;refine hK _ _ (IG ⟨rfl, λ _ => ⟨⟨_, lU⟩, rfl⟩, ?_⟩)
 clear hK K;refine aL [24, 25] 0 _ ⟨⟨_, lU⟩, rfl⟩ GV ?_;refine Hd ?_;refine ⟨GV, ?_⟩;go_wp2;go_ret;exact ⟨rfl, HB.1.trans (lU.mono HB.1.size)⟩
end
section
open Go.RowKit Dm
attribute [local go_sem] Oper.semAt_some
theorem Bj {P : Program} {fn : Func} {p q r : Tmp} {ty : TypeId} (h : fn.results = #[.tmp p, .cell q ty, .tmp r]) (tmps : Array Value) (w : World) (g : Nat) (t : TypeId) (cs : Array Value) (fr : Nat × Nat) (d : TypeDesc) (v v2 : Value)
 (hp : tmps.getD p undef = v) (hq : tmps.getD q undef = .pointer (some g)) (hr : tmps.getD r undef = v2) (hg : w.heap[g]? = some (.cells cs t fr))
 (hu : P.underlying ty = some d) (hd : (match d with | .struct _ | .array _ _ => true | _ => false) = true) (hi : (P.info? ty).map (·.size) = some cs.size) :
 (results fn tmps).run P w = .ok (.tuple #[v, .agg cs, v2]) w := by
 have hp' : tmps[p]?.getD undef = v := by simpa using hp
 have hq' : tmps[q]?.getD undef = .pointer (some g) := by simpa using hq
 exact QF
abbrev Apart (pl pd md : Nat) : Nat -> Prop := λ k => k ≠ pl /\ k ≠ pd /\ k ≠ md
def xJ (w : World) (pl pd md : Nat) (F G : Nat -> Prop) (e' : Em.E) (en : Ending) (w' : World) : Prop :=
 ∃ eF fo md' F' v', en = .returned (.tuple #[.pointer (some ⟨eF, 0, none⟩), v', .bool true]) /\ Moves (eT pl pd md) w w' /\ bL w' eF fo md' e' F' /\ dX w' (λ k => Apart eF fo md' k /\ ((G k /\ k < w.heap.size) \/ w.heap.size <= k)) v' e' ∧
  ((eF = pl /\ fo = pd /\ md' = md) \/ (w.heap.size <= eF /\ w.heap.size <= fo /\ w.heap.size <= md')) /\ ∀ k, F' k -> (F k /\ k < w.heap.size) \/ w.heap.size <= k
abbrev iP (what : Int) (lv : Value) (n : Int) (kv : Value) (bq part : Int) : Array Value := #[.int .i64 what, lv, .int .i64 n, kv, .int .i64 bq, .int .i64 part]
abbrev r_ (w : World) (pl pd md : Nat) : Nat -> Prop := λ k => eT pl pd md k \/ k = w.heap.size + 1 + 1
structure w1l (w W0 : World) (E A : Array Value) : Prop where
 below : Below w.heap.size w W0
 r4 : W0.heap[w.heap.size]? = some (.cells E ah (0, 0))
 r5 : W0.heap[w.heap.size + 1]? = some (.cells A iV (0, 0))
 r7 : W0.heap[w.heap.size + 1 + 1]? = some (.cells bM ah (0, 0))
 size : W0.heap.size = w.heap.size + 3
theorem Dw (w : World) (E A : Array Value) : w1l w (((w.alloc (.cells E ah)).alloc (.cells A iV)).alloc (.cells bM ah)) E A :=
 ⟨((bla).alloc GZ _).alloc Oa _, aM NP (aM GZ (II w _)), aM GZ (bC (w := w.alloc _) _ GZ), bC (w := (w.alloc _).alloc _) _ GZ, GZ⟩
theorem y6h {h h' : Array Obj} {C1 : Array Value} {d d1 : D} (x : bU h F (.agg C) d) (y : bU h' F' (.agg C1) d1) (g : Bool) (rv : Value) (k : Int) : qR (bT C g rv k) 0 C1.toList = bT C1 g rv k := by
 obtain ⟨sv, t0, t1, t2, t3, wv, e, _, _⟩ := x;cases e;obtain ⟨sM, u0, u1, u2, u3, wv', e, _, _⟩ := y;cases e;simp [bT, dC, qR]
theorem dX.stays {eF fo md' : Nat} {e : Em.E} (h : dX w (λ k => (Apart pl pd md k /\ G k) /\ k < w.heap.size) v e) (hm : Moves (eT pl pd md) w w') (hp : w.heap.size <= eF) (hd : w.heap.size <= fo) (hmd : w.heap.size <= md') :
 dX w' (λ k => Apart eF fo md' k /\ ((G k /\ k < w.heap.size) \/ w.heap.size <= k)) v e :=
 h.keeps (λ k hk hl => hm.block k hl (λ q => by rcases q with q | q | q; exact hk.1.1.1 q; exact hk.1.1.2.1 q; exact hk.1.1.2.2 q)) (λ k hk hl => ⟨⟨GX, GX, GX⟩, IB ⟨hk.1.2, hl⟩⟩)
theorem w0i {e : Em.E} (x : bL w pl pd md e F) (hr : dX w (λ k => Apart pl pd md k /\ G k) v e) (what n : Int) (h0 : ¬ what = 0) (h1 : ¬ what = 1) (h2 : ¬ what = 2) (lv kv : Value) (bq part : Int) :
 Calls prog 27 #[pl, v, .agg (iP what lv n kv bq part)] w (xJ w pl pd md F G e) := by
 have hr' := hr.clip;obtain ⟨C, ra, rn, rc, rfl, hC, gF, fF, _⟩ := hr;obtain ⟨E, hE⟩ := G8 (bT C e.gone (.slice ra rn rc) (dG e));have jV : E.size = 13 := by rw [<-hE]; exact aW hC _ _ _
 have y9 : E.all (·.oneCell') = true := by rw [<-hE]; exact eB gF _ _ _ _ _
 rw [hE] at hr' ⊢;have hin := Dw w E (iP what lv n kv bq part);obtain ⟨W0, hW0⟩ := G8 (((w.alloc (.cells E ah)).alloc (.cells (iP what lv n kv bq part) iV)).alloc (.cells bM ah));rw [hW0] at hin;have k0 : W0.cell? (w.heap.size + 1, 0) = some (.int .i64 what) := ae hin.r5 rfl;have LD : Hid (∀ w', (∃ y : Wd (Below W0 W0), w' = y.world) -> (Instr.loadAt ah (.pointer (some w.heap.size))).run prog w' = .ok (.agg E) w') := by
  rintro w' ⟨y, rfl⟩;exact gy ((y.ok.block _ (aa hin.r4)).trans hin.r4) H_ rfl (by rw [aY, jV])
 have CC := hd1 (x7l (w := W0.drew) (((tL x).grow hin.below).grow G6.drew));have aC := hd1 hin;have HX := hd4 x hr' jV y9;have HW := hd1 hW0;have ne : Nonempty (Wd (Below W0 W0)) := ⟨⟨_, Below.refl _ _⟩⟩;clear x hr' hE jV y9 hin hW0 fF gF hC;go_in;go_upto_region 1 with fail
 rw [show (((w.alloc (.cells E ah)).alloc (.cells (iP what lv n kv bq part) iV)).alloc (.cells #[.int .i64 0, .int .i64 0, (), (), (), (), (), (), false, .int .i64 0, false, (), .int .i64 0] ah)) = W0 from HW.out];go_upto_region 16 with fail
 refine bD (λ w' => ∃ x : Wd (Below W0 W0), w' = x.world) [4, 5] GV ?_;refine aL [0, 2] 4 _ Hu GV ?_;simp only [fmc, fmn, gta, gcs, gcz];refine ak (λ K hK => ?_); simp only [au, aj]; go_simp; refine hK _ ?_; clear hK K;refine eH rfl ah (.tmp 4) rfl _ LD.out ?_;refine aB ?_;refine aA 1 3 _ _ rfl GV ?_;refine IJ rfl λ K hK => ?_;go_simp;go_at_call 25;refine CC.mono ?_;rintro en w8 ⟨eF, fo, md', F', rfl, b8, hp', hd', hm', x8, hF'⟩;have rX : Below W0 W0 w8 := G6.drew.trans b8;have X8 := hd6 rX hp' hd' hm' x8 hF';clear b8 hp' hd' hm' x8 hF';refine hK _ _ (IG ⟨rfl, λ _ => ⟨⟨_, rX⟩, rfl⟩, ?_⟩);clear hK K;refine aL [3] 2 _ ⟨⟨_, rX⟩, rfl⟩ GV ?_;refine Hd ?_;refine aA 4 1 _ _ rfl GV ?_;refine aD rfl ah _ _ rfl (w.heap.size + 1 + 1) E rfl rfl ah bM ((rX.block _ (aa aC.r7)).trans aC.r7) (by rw [aY, HX.2.2.1]) (by rw [HX.2.2.1]; rfl) HX.2.2.2 ?_;intro W9 bN aS fB;refine IG ⟨rfl, λ h => absurd GY h, ?_⟩;refine aA 5 0 _ _ rfl GV ?_;refine IJ rfl λ K hK => ?_;go_simp;refine hK _ _ (IG ⟨rfl, λ h => absurd GY h, GV, ?_⟩);clear hK K;go_wp2;refine IP (Bj rfl _ _ (w.heap.size + 1 + 1) _ _ _ _ _ _ rfl rfl rfl bN.out H_ rfl (by rw [aY, HX.2.2.1])) rfl ?_;obtain ⟨b8, hp', hd', hm', x8, hF'⟩ := X8.out;have s0 := aC.size;have hp' : W0.heap.size <= eF := hp';have hd' : W0.heap.size <= fo := hd';have hm' : W0.heap.size <= md' := hm';have b9 : Below w w W9 := Moves.new (aC.below.trans (b8.mono aC.below.size)) aS GX;refine ⟨eF, fo, md', F', .agg E, rfl, Moves.of_below b9, mJ x8 aS GX GX GX (λ k hk h => ?_) (λ k hk _ => ?_), dX.stays HX.2.1 (Moves.of_below b9) GX GX GX, IC ⟨GX, GX, GX⟩, λ k hk => ?_⟩
 ·have : W0.drew.heap.size = W0.heap.size := rfl
  rcases hF' k hk with q | q
  ·have := q.1.2; omega
  ·omega
 ·subst hk
  exact ⟨_, _, _, (b8.block _ (aa aC.r7)).trans aC.r7⟩
 ·have : W0.drew.heap.size = W0.heap.size := rfl
  rcases hF' k hk with q | q
  ·exact IB q.1
  ·exact IC GX
theorem w0g {e : Em.E} (x : bL w pl pd md e F) (hr : dX w (λ k => Apart pl pd md k /\ G k) v e) (n : Int) (hn : n <= 9223372036854775807) (lv kv : Value) (bq part : Int) :
 Calls prog 27 #[pl, v, .agg (iP 1 lv n kv bq part)] w (xJ w pl pd md F G { e with d := (e.d.stop n).1 }) := by
 have hr' := hr.clip;obtain ⟨C, ra, rn, rc, rfl, hC, gF, fF, hp⟩ := hr;have hin := Dw w (bT C e.gone (.slice ra rn rc) (dG e)) (iP 1 lv n kv bq part);obtain ⟨W0, hW0⟩ := G8 (((w.alloc (.cells (bT C e.gone (.slice ra rn rc) (dG e)) ah)).alloc (.cells (iP 1 lv n kv bq part) iV)).alloc (.cells bM ah));rw [hW0] at hin;have k0 : W0.cell? (w.heap.size + 1, 0) = some (.int .i64 1) := ae hin.r5 rfl;have k2 : W0.cell? (w.heap.size + 1, 2) = some (.int .i64 n) := ae hin.r5 rfl;have RS := y8x (w := W0) (F := λ k => (Apart pl pd md k /\ G k) /\ k < w.heap.size) (fF.keeps (λ k _ hl => hin.below.block k hl) (λ k h hl => ⟨h, hl⟩)) n;obtain ⟨r, hr⟩ := G8 (e.d.stop n);rw [hr] at RS;have RS := hd1 RS;have HR := hd1 hr;have aC := hd1 hin;have HX := hd7 x hr' hC gF fF hp hn;have HW := hd1 hW0;rw [hr];obtain ⟨e2, he2⟩ : ∃ e2 : Em.E, { e with d := r.1 } = e2 := ⟨_, rfl⟩;rw [he2];have HE2 := hd1 he2;clear x hr' hin hW0 fF gF hC hp hr hn he2;obtain ⟨gk, Ch⟩ := G8 (dG e);obtain ⟨go, hgo⟩ := G8 e.gone;rw [hgo, Ch] at aC HW;rw [hgo, Ch];have HGO := hd1 hgo;have HGK := hd1 Ch;clear hgo Ch;go_in;go_upto_region 1 with fail
 rw [show (((w.alloc (.cells (bT C go (.slice ra rn rc) gk) ah)).alloc (.cells (iP 1 lv n kv bq part) iV)).alloc (.cells #[.int .i64 0, .int .i64 0, (), (), (), (), (), (), false, .int .i64 0, false, (), .int .i64 0] ah)) = W0 from HW.out]
 go_upto_region 10 with (first
  | (refine vw rfl (.tmp 48) rfl w.heap.size rfl aC.r4 HX.2.2.1 ?_)
  | (go_at_call 55; refine RS.mono ?_; rintro en w1 ⟨v1, rfl, b1, f1⟩; obtain ⟨C1, rfl, oN, t_⟩ := f1.cells)
  | (refine aD rfl af _ _ rfl w1.heap.size C1 rfl rfl af bS (II w1 _) (by rw [aI, oN]) (by rw [oN]; rfl) t_ ?_; intro W2 HW2 cu HS2)
  | (refine IL rfl af (.tmp 13) rfl w1.heap.size rfl af C1 (0, 0) _ HW2.out Hz rfl (by rw [aI, oN]) ?_)
  | (refine ou rfl af (.tmp 56) (.tmp 55) rfl w.heap.size 0 C1 rfl rfl ah _ (((Moves.new ((Below.refl w1 w1).alloc G7 _) cu G7).block _ (Je (aa aC.r4) b1.size)).trans ((b1.block _ (aa aC.r4)).trans aC.r4)) (by rw [aI, oN]) (by rw [aW HX.2.2.1, oN]; decide) t_ ?_; intro W3 HW3 bQ fT))
 have s0 := aC.size;have b12 : Below w1 w1 W2 := Moves.new ((Below.refl w1 w1).alloc G7 _) cu G7;have b02 : Below W0 W0 W2 := b1.trans (b12.mono b1.size);have b3 : Below w w W3 := Moves.new (aC.below.trans (b02.mono aC.below.size)) bQ G7;have R3 : W3.heap[w.heap.size]? = some (.cells (bT C1 go (.slice ra rn rc) gk) ah (0, 0)) := by rw [<-y6h HX.2.2.2.2.1 f1 go (.slice ra rn rc) gk]; exact HW3.out
 obtain ⟨E1, hE1⟩ := G8 (bT C1 go (.slice ra rn rc) gk);have z0s : E1.size = 13 := by rw [<-hE1]; exact aW oN _ _ _
 have z9k : E1.all (·.oneCell') = true := by rw [<-hE1]; exact eB t_ _ _ _ _ _
 rw [hE1] at R3;have R5 := ((bQ.block _ (Hm b02.size) GX).trans ((b02.block _ (aa aC.r5)))).trans aC.r5;have R7 := ((bQ.block _ (Hm b02.size) GX).trans ((b02.block _ (aa aC.r7)))).trans aC.r7;have lx := HX.1.disk.lt;have lp := aa HX.1.row.choose_spec.1;have LD : Hid (∀ w', (∃ y : Wd (Moves (r_ w pl pd md) W3), w' = y.world) -> (Instr.loadAt ah (.pointer (some w.heap.size))).run prog w' = .ok (.agg E1) w') := by
  rintro w' ⟨y, rfl⟩;exact gy ((y.ok.block _ (aa R3) (by unfold r_; omega)).trans R3) H_ rfl (by rw [aY, z0s])
 have f2 : ∀ y : Wd (Moves (r_ w pl pd md) W3), y.world.cell? (w.heap.size + 1, 2) = some (.int .i64 n) := λ y => ae ((y.ok.block _ (aa R5) (by unfold r_; omega)).trans R5) rfl;have x3 := ((tL HX.1).grow b3).grow (Below.refl W3 W3).drew;have DC := hd1 (z1v x3);have SC := z4x x3.disk n HX.2.2.2.2.2.2;rw [HR.out] at SC;have SC := hd1 SC;have H3 := hd16 b1 b02 b3 R7 z0s z9k hE1 x3 f1 oN t_ bQ s0 lx lp b12;have ne : Nonempty (Wd (Moves (r_ w pl pd md) W3)) := ⟨⟨_, Moves.refl _ _⟩⟩;clear b1 b12 b02 b3 R3 R5 R7 z0s z9k hE1 x3 f1 oN t_ HW2 cu HS2 HW3 bQ fT k0 k2 s0 lx lp;refine bD (λ w' => ∃ x : Wd (Moves (r_ w pl pd md) W3), w' = x.world) [] GV ?_;refine aL [0, 1, 2, 4, 5, 8] 7 _ ⟨⟨_, (Moves.of_below G6.drew)⟩, rfl⟩ GV ?_;simp only [fmc, fmn, gta, gcs, gcz];refine ak (λ K hK => ?_); simp only [au, aj]; go_simp; refine hK _ ?_; clear hK K;refine eH rfl ah (.tmp 4) rfl _ LD.out ?_;repeat refine Ha ?_
 refine aB ?_;refine aA 3 6 _ _ rfl GV ?_;refine IJ rfl λ K hK => ?_;go_simp;go_at_call 24;refine DC.mono ?_;rintro en w' ⟨rfl, rfl⟩;refine hK _ _ (IG ⟨rfl, λ _ => ⟨⟨_, (Moves.of_below G6.drew)⟩, rfl⟩, ?_⟩);clear hK K;refine aA 6 5 _ _ rfl GV ?_;refine IJ rfl λ K hK => ?_;go_simp;go_at_call 16;refine SC.mono ?_;rintro en w5 h5;obtain ⟨rfl, m5, x5⟩ := z8w H3.2.2.2.2.2.2.2.1 h5;have BU : Moves (r_ w pl pd md) W3 w5 := (Moves.of_below (Below.refl W3 W3).drew).trans m5 (λ _ _ h => IB h);have X5 := hd2 (show Moves (eT pl pd md) W3 w5 from (Moves.of_below (Below.refl W3 W3).drew).trans m5 (λ _ _ h => h)) x5;clear h5 m5 x5;refine hK _ _ (IG ⟨rfl, λ _ => ⟨⟨_, BU⟩, rfl⟩, ?_⟩);clear hK K;refine aA 7 4 _ _ rfl GV ?_;refine IJ rfl λ K hK => ?_;go_simp;go_at_call 12;refine (nL _ _).mono ?_;rintro en w' ⟨rfl, rfl⟩;refine hK _ _ (IG ⟨rfl, λ _ => ⟨⟨_, BU⟩, rfl⟩, ?_⟩);clear hK K;refine aL [9, 10] 2 _ ⟨⟨_, BU⟩, rfl⟩ GV ?_;refine Hd ?_;refine aA 11 1 _ _ rfl GV ?_;refine aD rfl ah _ _ rfl (w.heap.size + 1 + 1) E1 rfl rfl ah bM ((X5.1.block _ (aa H3.2.2.2.1) (Ho H3.2.2.2.2.2.2.2.2.2.2.2.2.2.1 H3.2.2.2.2.2.2.2.2.2.2.2.2.2.2.1)).trans H3.2.2.2.1) (by rw [aY, H3.2.2.2.2.1]) (by rw [H3.2.2.2.2.1]; rfl) H3.2.2.2.2.2.1 ?_;intro W9 bN aS fB;have rC : Moves (r_ w pl pd md) W3 W9 := BU.trans aS (λ k _ h => IC h);refine IG ⟨rfl, λ _ => ⟨⟨_, rC⟩, rfl⟩, ?_⟩;refine aL [12] 0 _ ⟨⟨_, rC⟩, rfl⟩ GV ?_;refine Hd ?_;refine ⟨GV, ?_⟩;go_wp2;refine IP (Bj rfl _ _ (w.heap.size + 1 + 1) _ _ _ _ _ _ rfl rfl rfl bN.out H_ rfl (by rw [aY, H3.2.2.2.2.1])) rfl ?_
 have aS : Moves (λ k => k = w.heap.size + 1 + 1) w5 W9 := ⟨aS.os, aS.tape, aS.output, aS.size, aS.block⟩;obtain ⟨b1, b02, b3, R7, _, _, hE1, x3, f1, oN, t_, bQ, s0, lx, lp, b12⟩ := H3.out;obtain ⟨m5, x5⟩ := X5.out;have z1 := b1.size;have z2 := b02.size;have z3 := bQ.size;have z5 := m5.size;have m9 : Moves (eT pl pd md) w W9 := ((Moves.of_below b3).trans m5 (λ _ _ h => h)).trans aS (λ k hk h => GX);have he2 := HE2.out;subst he2;refine ⟨pl, pd, md, _, .agg E1, rfl, m9, mJ x5 aS GX GX GX (λ k hk h => ?_) (λ k hk _ => ?_), ⟨C1, ra, rn, rc, ?_, oN, t_, ?_, ?_⟩, IB ⟨rfl, rfl, rfl⟩, λ k hk => ?_⟩
 ·have : W3.drew.heap.size = W3.heap.size := rfl
  rcases hk with q | q
  ·have := q.2; omega
  ·have := b3.size; omega
 ·subst hk
  exact ⟨_, _, _, (m5.block _ (aa R7) GX).trans R7⟩
 ·rw [<-hE1, <-HGO.out, <-HGK.out]
  rfl
 ·refine f1.keeps (λ k hk hl => ?_) (λ k hk hl => ?_)
  ·have hap : Apart pl pd md k /\ k ≠ w.heap.size /\ k ≠ w.heap.size + 1 + 1 := by
    rcases hk with q | q
    ·exact ⟨q.1.1, Hm q.2, Hm q.2⟩
    ·exact ⟨⟨GX, GX, GX⟩, GX, GX⟩
   have z12 := b12.size;exact (aS.block k GX hap.2.2).trans ((m5.block k GX (λ h => by rcases h with h | h | h; exact hap.1.1 h; exact hap.1.2.1 h; exact hap.1.2.2 h)).trans ((bQ.block k GX hap.2.1).trans (b12.block k hl)))
  ·exact QL
 ·exact HX.2.2.2.2.2.1.yO (λ k hk hl => m9.block k hl (λ h => by rcases h with h | h | h; exact hk.1.1 h; exact hk.1.2.1 h; exact hk.1.2.2 h)) (λ k hk hl => ⟨hk.1, IB ⟨hk.2, hl⟩⟩)
 ·have := b3.size
  have : W3.drew.heap.size = W3.heap.size := rfl;exact Sm
end
section
open Go.RowKit Dm
attribute [local go_sem] Oper.semAt_some
theorem z9z : (prog.info? ji).map (·.size) = some 3 := GV
abbrev z1z (e : Em.E) (c : bH) : Em.E × Int := Em.bY (e.d.aT c) (aP (λ k => aH ((e.d.aT c).stand.tp k)) 2)
theorem w0h {e : Em.E} (x : bL w pl pd md e F) (hr : dX w (λ k => Apart pl pd md k /\ G k) v e) (hf : Fit e) (n : Int) (lv : Value) (c : bH) {kv : Value} (hk : oq w.heap kv c.keep) (hkl : c.keep.length <= 1000000) (ht : i64' c.bq) (hp : i64' c.part) :
 Calls prog 27 #[pl, v, .agg (iP 2 lv n kv c.bq c.part)] w (xJ w pl pd md F G (z1z e c).1) := by
 have hr' := hr.clip;obtain ⟨C, ra, rn, rc, rfl, hC, gF, fF, _⟩ := hr;have hin := Dw w (bT C e.gone (.slice ra rn rc) (dG e)) (iP 2 lv n kv c.bq c.part);obtain ⟨W0, hW0⟩ := G8 (((w.alloc (.cells (bT C e.gone (.slice ra rn rc) (dG e)) ah)).alloc (.cells (iP 2 lv n kv c.bq c.part) iV)).alloc (.cells bM ah));rw [hW0] at hin;have k0 : W0.cell? (w.heap.size + 1, 0) = some (.int .i64 2) := ae hin.r5 rfl;have hk0 : ∀ X : World, Below W0 W0 X -> oq X.heap kv c.keep := λ X hb => (hk.later hin.below).later hb;have o_ : Hid (∀ X : World, Below W0 W0 X -> X.rangeAt (w.heap.size + 1) 3 [kv, .int .i64 c.bq, .int .i64 c.part]) := hd1 (λ X hb => by
  have hX := (hb.block _ (aa hin.r5)).trans hin.r5;intro j u hj;rw [IM _ _ _ _ _ _ hX];match j, hj with
  | 0, hj => cases hj; rfl
  | 1, hj => cases hj; rfl
  | 2, hj => cases hj; rfl
  | n + 3, hj => cases hj)
 have LDK : Hid (∀ w', (∃ y : Wd (Below W0 W0), w' = y.world) -> (Instr.loadAt ji (.pointer (some (w.heap.size + 1, 3)))).run prog w' = .ok (.agg #[kv, .int .i64 c.bq, .int .i64 c.part]) w') := by
  rintro w' ⟨y, rfl⟩;exact Lc y.world (w.heap.size + 1) 3 ji [kv, .int .i64 c.bq, .int .i64 c.part] _ (o_.out _ y.ok) underlying41 rfl z9z
 have x0 := (tL x).grow hin.below;have DC := hd1 (z1v (x0.grow G6.drew));have PC := hd1 (x7o (w := W0.drew) x0.disk c (hk0 _ G6.drew) ht.1 ht.2 hp.1 hp.2 (Hm hf.waits));have RCC := hd1 (λ (X : World) (hb : Below W0 W0 X) => x0o (w := X) (F := λ k => (Apart pl pd md k /\ G k) /\ k < w.heap.size) (v := .agg C) (fF.keeps (λ k _ hl => (hb.block k (Hm hin.size)).trans (hin.below.block k hl)) (λ k h hl => ⟨h, hl⟩)) hf.ok (Hm hf.waits) c (hk0 X hb) hkl ht.1 ht.2 hp.1 hp.2);have aC := hd1 hin;have HX := hd4 x hC hf x0;have HW := hd1 hW0;have ne : Nonempty (Wd (Below W0 W0)) := ⟨⟨_, Below.refl _ _⟩⟩;clear x hr' hin hW0 fF gF hC hk0 hk hf ht hp hkl x0;generalize dG e = gk at *;generalize e.gone = go at *;go_in;go_upto_region 1 with fail
 rw [show (((w.alloc (.cells (bT C go (.slice ra rn rc) gk) ah)).alloc (.cells (iP 2 lv n kv c.bq c.part) iV)).alloc (.cells #[.int .i64 0, .int .i64 0, (), (), (), (), (), (), false, .int .i64 0, false, (), .int .i64 0] ah)) = W0 from HW.out];go_upto_region 12 with fail
 refine bD (λ w' => ∃ x : Wd (Below W0 W0), w' = x.world) [] GV ?_;refine aL [0, 2, 3] 7 _ Hu GV ?_;simp only [fmc, fmn, gta, gcs, gcz];refine ak (λ K hK => ?_); simp only [au, aj]; go_simp; refine hK _ ?_; clear hK K;refine ak (λ K hK => ?_); simp only [au, aj]; go_simp; refine hK _ ?_; clear hK K;refine eH rfl ji (.tmp 72) rfl _ LDK.out ?_;refine aB ?_;refine aA 1 6 _ _ rfl GV ?_;refine IJ rfl λ K hK => ?_;go_simp;go_at_call 24;refine DC.mono ?_;rintro en w' ⟨rfl, rfl⟩;refine hK _ _ (IG ⟨rfl, λ _ => Hu, ?_⟩);clear hK K;refine aA 4 5 _ _ rfl GV ?_;refine IJ rfl λ K hK => ?_;go_simp;go_at_call 19;refine PC.mono ?_;rintro en w1 ⟨p', m', F1, rfl, b1, hp1, hm1, x1, hF1⟩;have b1' : Below W0 W0 w1 := G6.drew.trans b1;have hp1 : W0.heap.size <= p' := hp1;have hm1 : W0.heap.size <= m' := hm1;have X1 := hd5 b1' hp1 hm1 x1 hF1;clear b1 hp1 hm1 x1 hF1 PC DC;refine hK _ _ (IG ⟨rfl, λ _ => ⟨⟨_, b1'⟩, rfl⟩, ?_⟩);clear hK K;refine aL [5, 6, 7, 8, 9] 0 _ ⟨⟨_, b1'⟩, rfl⟩ GV ?_;refine Hd ?_;refine ⟨GV, ?_⟩;have RC := hd1 (RCC.out w1 b1');have R4 := hd1 ((b1'.block _ (aa aC.r4)).trans aC.r4);have M1 := hd1 (o_.out w1 b1');clear b1' o_ LDK RCC ne k0;have ok1 := X1.2.2.2.1.ok;have rm1 : (e.d.aT c).room <= 1000000 := HX.2.2.1.room;have tk : ∀ k : Nat, ((e.d.aT c).stand.tp k).length <= 1000000 := λ k => Hm (kK ok1 k);obtain ⟨o1, _⟩ := HX.2.2.1.gz.aT c (λ k _ => tk k);have HT := hd3 ok1 rm1 tk;have TG := hd1 (Ey (d := e.d.aT c) (λ k _ => tk k));obtain ⟨R9, yT⟩ := G8 (z1z e c);have HR := hd1 yT;rw [show Em.bY (e.d.aT c) (aP (λ k => aH ((e.d.aT c).stand.tp k)) 2) = R9 from yT] at o1
 clear ok1 rm1 tk yT
 go_upto_region 14 with (first
  | (refine vw rfl (.tmp 78) rfl w.heap.size rfl R4.out HX.2.1 ?_)
  | (refine JE rfl ji (.tmp 80) rfl (w.heap.size + 1) 3 rfl [kv, .int .i64 c.bq, .int .i64 c.part] _ M1.out underlying41 rfl z9z ?_)
  | (go_at_call 56; refine RC.mono ?_; rintro en w2 ⟨v2, rfl, b2, f2⟩; obtain ⟨C2, rfl, _, _⟩ := f2.cells; have F2 := hd1 f2; clear f2)
  | (go_at_call 26; refine (z5i F2.out HT.1 (IY _) HT.2.1).mono ?_; rintro en w3 ⟨v3, e3, b3, f3⟩
     rw [show Em.bY (e.d.aT c) (aP (λ k => aH ((e.d.aT c).stand.tp k)) 2) = R9 from HR.out] at e3 f3;rw [o1] at e3;subst e3;obtain ⟨C3, a3, n3, c3, rfl, Cx, hO3, y9h⟩ := id f3;have F3 := hd1 f3;clear f3 y9h)
  | (refine aD rfl ah _ _ rfl w3.heap.size _ rfl rfl ah bM (II w3 _) (by rw [aY, aW Cx]) (by rw [aW Cx]; rfl) (eB hO3 _ _ _ _ _) ?_; intro W4 iF jd mW))
 have jY : Below w3 w3 W4 := Moves.new ((Below.refl w3 w3).alloc G7 _) jd G7;obtain ⟨E3, Cw⟩ := G8 (bT C3 R9.1.gone (.slice a3 n3 c3) (dG R9.1));have z9m : E3.size = 13 := by rw [<-Cw]; exact aW Cx _ _ _
 have z9l : E3.all (·.oneCell') = true := by rw [<-Cw]; exact eB hO3 _ _ _ _ _
 rw [Cw] at F3 iF;obtain ⟨g17, Ci⟩ := G8 w3.heap.size;rw [Ci] at iF ⊢;have b14 : Below w1 w1 W4 := b2.trans ((b3.trans (jY.mono b3.size)).mono b2.size);have x4 : aQ W4.heap p' m' (e.d.aT c) (λ k => F1 k /\ k < w1.heap.size) := by
  obtain ⟨l1, l2, l3, l4, l5⟩ := X1.2.2.2.1.lt;exact (X1.2.2.2.1.weak (λ k hk hl => (⟨hk, hl⟩ : F1 k /\ k < w1.heap.size)) (λ h => l4 h.1) (λ h => l5 h.1)).below b14
 have OC := F8 (ts := λ k => aH ((e.d.aT c).stand.tp k)) x4 (IY _) (λ k hk => Je hk.2 b14.size) (λ k hk => z6o (Hm (HT.2.2 k)) k) TG.out;rw [show Em.bY (e.d.aT c) (aP (λ k => aH ((e.d.aT c).stand.tp k)) 2) = R9 from HR.out] at OC;have OC := hd1 OC;have O1 := hd1 o1;have H4 := hd9 b2 b3 jY b14 iF.out z9m z9l Ci x4;clear b2 b3 jY b14 iF jd mW z9m z9l Cw Cx hO3 Ci RC x4 o1 R4 M1;go_upto_region 15 with (go_at_call 10; refine OC.mono ?_; rintro en w9 ⟨m9, o9, _⟩; obtain ⟨pl9, F9, rfl, x9, z0y, hF9, yZ⟩ := o9 O1.out)
 have s0 := aC.size;have z1 := X1.1.size;have z4 := H4.2.2.2.1.size;have z2 := H4.1.size;have z3 := H4.2.1.size;have z34 := H4.2.2.1.size;have x5u := H4.2.2.2.2.2.2.2.1;have lx1 := X1.2.2.2.1.lt;have n1 := X1.2.1;have n2 := X1.2.2.1;have R17 : w9.heap[g17]? = some (.cells E3 ah) := (m9.block _ (aa H4.2.2.2.2.1) (λ h => by rcases h with h | h <;> omega)).trans H4.2.2.2.2.1;have R7 : w9.heap[w.heap.size + 1 + 1]? = some (.cells bM ah) := (m9.block _ GX (λ h => by rcases h with h | h <;> omega)).trans ((H4.2.2.2.1.block _ GX).trans ((X1.1.block _ (aa aC.r7)).trans aC.r7));have LD : Hid (∀ w', (∃ y : Wd (Moves (λ k => k = w.heap.size + 1 + 1) w9), w' = y.world) -> (Instr.loadAt ah (.pointer (some g17))).run prog w' = .ok (.agg E3) w') := by
  rintro w' ⟨y, rfl⟩;exact gy ((y.ok.block _ (aa R17) GX).trans R17) H_ rfl Nj
 have H9 := hd5 m9 x9 z0y yZ R7;have ne : Nonempty (Wd (Moves (λ k => k = w.heap.size + 1 + 1) w9)) := ⟨⟨_, Moves.refl _ _⟩⟩;clear m9 o9 x9 z0y hF9 yZ R17 R7 OC s0 z1 z4 z2 z3 z34 x5u lx1 n1 n2;refine bD (λ w' => ∃ x : Wd (Moves (λ k => k = w.heap.size + 1 + 1) w9), w' = x.world) [] GV ?_;refine aL [0, 1, 2] 15 _ ⟨⟨_, (Moves.of_below G6.drew)⟩, rfl⟩ GV ?_;simp only [fmc, fmn, gta, gcs, gcz];refine ak (λ K hK => ?_); simp only [au, aj]; go_simp; refine hK _ ?_; clear hK K;refine eH rfl ah (.tmp 17) rfl _ LD.out ?_;repeat refine Ha ?_
 refine aB ?_;refine aA 3 14 _ _ rfl GV ?_;refine IJ rfl λ K hK => ?_;go_simp;go_at_call 12;refine (nL _ _).mono ?_;rintro en w' ⟨rfl, rfl⟩;refine hK _ _ (IG ⟨rfl, λ _ => ⟨⟨_, (Moves.of_below G6.drew)⟩, rfl⟩, ?_⟩);clear hK K;refine aL [4, 5, 6, 8] 10 _ ⟨⟨_, (Moves.of_below G6.drew)⟩, rfl⟩ GV ?_;refine Hd ?_;refine aA 7 9 _ _ rfl GV ?_;refine Jy λ K hK => ?_;go_simp;go_at_call 12;refine (nL _ _).mono ?_;rintro en w' ⟨rfl, rfl⟩;refine hK _ _ (IG ⟨rfl, λ _ => ⟨⟨_, (Moves.of_below G6.drew)⟩, rfl⟩, ?_⟩);clear hK K;refine aL [9, 10, 11, 12, 13, 14, 15] 2 _ ⟨⟨_, (Moves.of_below G6.drew)⟩, rfl⟩ GV ?_;refine Hd ?_;refine aA 16 1 _ _ rfl GV ?_;refine aD rfl ah _ _ rfl (w.heap.size + 1 + 1) E3 rfl rfl ah bM H9.2.2.2.2 Nj (by rw [H4.2.2.2.2.2.1]; rfl) H4.2.2.2.2.2.2.1 ?_;intro W9 bN aS fB;have rC : Moves (λ k => k = w.heap.size + 1 + 1) w9 W9 := ⟨aS.os, aS.tape, aS.output, aS.size, aS.block⟩;refine IG ⟨rfl, λ _ => ⟨⟨_, rC⟩, rfl⟩, ?_⟩;refine aL [17] 0 _ ⟨⟨_, rC⟩, rfl⟩ GV ?_;refine Hd ?_;refine ⟨GV, ?_⟩;go_wp2;refine IP (Bj rfl _ _ (w.heap.size + 1 + 1) _ _ _ _ _ _ rfl rfl rfl bN.out H_ rfl Nj) rfl ?_;obtain ⟨b2, b3, jY, b14, r17, _, _, Ci, x4⟩ := H4.out;obtain ⟨m9, x9, z0y, yZ, R7⟩ := H9.out;obtain ⟨b1, n1, n2, x1, hF1⟩ := X1.out;have aS : Moves (λ k => k = w.heap.size + 1 + 1) w9 W9 := ⟨aS.os, aS.tape, aS.output, aS.size, aS.block⟩;have s0 := aC.size;have z1 := b1.size;have z2 := b2.size;have z3 := b3.size;have z34 := jY.size;have z9 := m9.size;have lx1 := x1.lt;have bw4 : Below w w W4 := aC.below.trans ((b1.trans (b14.mono b1.size)).mono aC.below.size)
 have bw9 : Below w w W9 := Moves.new (kT bw4 m9 (λ k hk => by rcases hk with h | h <;> omega)) aS GX;have yT := HR.out;subst yT;refine ⟨pl9, p', m', F9, .agg E3, rfl, Moves.of_below bw9, mJ x9 aS GX GX GX (λ k hk h => ?_) (λ k hk _ => ?_), F3.keeps (λ k hk hl => ?_) (λ k hk hl => ?_), IC ⟨GX, GX, GX⟩, λ k hk => ?_⟩
 ·rcases yZ k hk with q | q
  ·rcases hF1 k q.1 with q' | q'
   ·have := q'.1.2; omega
   ·have : W0.drew.heap.size = W0.heap.size := rfl
    omega
  ·omega
 ·subst hk
  exact ⟨_, _, _, R7⟩
 ·have hap : k ≠ p' /\ k ≠ m' /\ k ≠ w.heap.size + 1 + 1 := by
   rcases hk with (q | q) | q
   ·have := q.2; exact ⟨GX, GX, GX⟩
   ·exact Ri
   ·exact Ri
  exact (aS.block k GX hap.2.2).trans ((m9.block k GX (λ h => by rcases h with h | h; exact hap.1 h; exact hap.2.1 h)).trans (jY.block k hl))
 ·rcases hk with (q | q) | q
  ·have := q.2; exact ⟨⟨GX, GX, GX⟩, IB ⟨q.1.2, q.2⟩⟩
  ·exact ⟨⟨GX, GX, GX⟩, IC GX⟩
  ·exact ⟨⟨GX, GX, GX⟩, IC GX⟩
 ·have : W0.drew.heap.size = W0.heap.size := rfl
  rcases yZ k hk with q | q
  ·rcases hF1 k q.1 with q' | q'
   ·exact IB q'.1
   ·exact IC GX
  ·exact IC GX
end
end Go.Proofs.YtgffifleflkjoaaGreat
