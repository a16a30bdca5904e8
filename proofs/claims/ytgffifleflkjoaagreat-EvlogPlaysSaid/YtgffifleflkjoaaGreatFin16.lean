/-
  Parts of a proof.
-/
import Derived.Test.YtgffifleflkjoaaGreatFin09
import Derived.Deep.LoopGhost
import Derived.Deep.CutRange
set_option linter.unusedSimpArgs false
set_option linter.unusedVariables false
set_option maxRecDepth 100000
set_option maxHeartbeats 16000000
namespace Go.Proofs.YtgffifleflkjoaaGreat
open _root_.Go.Proofs.Tryz
variable {w W w' w0 wr w1 W0 W1 W2 A B : World} {F G F' O : Nat → Prop} {v : Value} {l : List UInt8} {n q m pd md pl g p : Nat} {C : Array Value} {c : Int}
open Go.RowKit Dm
abbrev EE : Nat := 89
theorem x2e (m : Nat) (es : Array MapEntry) (clock : Nat) (w : World) (hb : w.heap[m]? = some (.map es clock)) :
 Calls prog 64 #[.map (some m)] w λ e w' => e = .returned (.map (some w.heap.size)) /\ w' = w.alloc (.map es clock) := by
 have hq := λ w => run_eql_map_nil_sl (P := prog) w EE _ _ (some m) underlying89;go_in;go_wp2;rw [run_callFunc_extern func103 GV GV GV (e := Extern.MapsClone.clone) GV, run_maps_clone_sl w EE hb];simp only [Result.andThen];rw [Oper.upon_value];go_wp2;rw [run_typeAssert_map_sl _ EE 20 _ _ _ underlying89];simp only [Result.andThen];rw [Oper.upon_value];go_wp2;exact OI
abbrev pK : Array Value := #[.map none, .slice none 0 0, .slice none 0 0, .slice none 0 0, .slice none 0 0]
theorem wR (q o m : Nat) (ho : o = 0 \/ o = 5) (t0 t1 t2 t3 : Value) (es : Array MapEntry) (clock : Nat) (w : World) (h0 : w.cell? (q, o) = some (.map (some m))) (h1 : w.cell? (q, o + 1) = some t0)
 (h2 : w.cell? (q, o + 2) = some t1) (h3 : w.cell? (q, o + 3) = some t2) (h4 : w.cell? (q, o + 4) = some t3) (hm : w.heap[m]? = some (.map es clock)) (h5 : #[t0, t1, t2, t3].all (·.oneCell') = true) :
 Calls prog 31 #[(q, o)] w λ e w' => e = .returned (.agg #[.map (some (w.heap.size + 1)), t0, t1, t2, t3]) /\ Below w w w' ∧
  w'.heap[w.heap.size + 1]? = some (.map es clock) := by
 have HM := hd1 hm;have H5 := hd1 h5;clear h5;have ltm : m < w.heap.size := (Jk.1 hm).1;have lt := IZ h0;simp only at lt;have ne : Nonempty (Wd (Below w w)) := ⟨⟨w, Below.refl _ _⟩⟩;clear hm;rcases ho with rfl | rfl
 all_goals
  have x0 : ∀ x : Wd (Below w w), _ := λ x => (x.ok.cell (p := ⟨q, _, none⟩) lt).trans h0;have x1 : ∀ x : Wd (Below w w), _ := λ x => (x.ok.cell (p := ⟨q, _, none⟩) lt).trans h1;have x2 : ∀ x : Wd (Below w w), _ := λ x => (x.ok.cell (p := ⟨q, _, none⟩) lt).trans h2;have x3 : ∀ x : Wd (Below w w), _ := λ x => (x.ok.cell (p := ⟨q, _, none⟩) lt).trans h3;have x4 : ∀ x : Wd (Below w w), _ := λ x => (x.ok.cell (p := ⟨q, _, none⟩) lt).trans h4;simp only [Ja, Nat.reduceAdd] at x0 x1 x2 x3 x4;go_in;go_wp2;refine bD (λ w' => ∃ x : Wd (Below w w), w' = x.world) [] GV ?_;refine aL [0, 1, 2, 3, 5, 6, 7, 8] 3 _ ⟨⟨_, (bla).drew⟩, rfl⟩ GV ?_;refine Hd ?_;refine aA 4 2 _ _ rfl GV ?_;refine IJ rfl λ K hK => ?_;go_simp;go_at_call 64;refine (x2e m es clock _ ?_).mono ?_
  ·exact (JN w _ m ltm).trans HM.out
  rintro e w' ⟨rfl, rfl⟩;refine hK _ _ (IG ⟨rfl, λ _ => ⟨⟨_, ((bla).drew.alloc GZ _)⟩, rfl⟩, ?_⟩);clear hK K;refine aL [9] 1 _ ⟨⟨_, ((bla).drew.alloc GZ _)⟩, rfl⟩ GV ?_;refine Hd ?_;refine aA 10 0 _ _ rfl GV ?_;have r0 : ((w.alloc (.cells pK 91)).drew.alloc (.map es clock)).heap[w.heap.size]? = some (.cells pK 91) := (JN _ _ _ GZ).trans (II w _);have r1 : ((w.alloc (.cells pK 91)).drew.alloc (.map es clock)).heap[w.heap.size + 1]? = some (.map es clock) := by
   have := II (w.alloc (.cells pK 91)).drew (.map es clock);simpa using this
  refine aD rfl 91 _ _ rfl w.heap.size #[.map (some (w.heap.size + 1)), t0, t1, t2, t3] rfl rfl 91 pK r0 GV GV (by have := H5.out; simp at this ⊢; exact ⟨rfl, this⟩) ?_;intro W1 HW dx HS;have HW1 := hd1 ((dx.block (w.heap.size + 1) GZ GX).trans r1);have HB : Below w w W1 := ((bla).drew.alloc GZ _).trans ⟨dx.os, dx.tape, dx.output, dx.size, λ k hk => dx.block k Oa GX⟩;clear r0 r1;refine IG ⟨rfl, λ _ => ⟨⟨_, HB⟩, rfl⟩, GV, ?_⟩;go_wp2;refine Hg HW.out underlying91 GV ?_;exact ⟨rfl, HB, HW1.out⟩
abbrev fu : Nat := 91
abbrev dW : Value := .slice none 0 0
theorem x2r (s b : Int) (w : World) (h : s < 0 \/ (¬ s < 0 /\ 4096 < s) \/ (¬ s < 0 /\ ¬ 4096 < s /\ b < 0) \/ (¬ s < 0 /\ ¬ 4096 < s /\ ¬ b < 0 /\ 1048576 < b)) :
 Calls prog 9 #[.int .i64 s, .int .i64 b] w λ e w' => e = .returned (.tuple #[.pointer none, .int .i64 2]) /\ w = w' := by
 rcases h with h | ⟨h1, h2⟩ | ⟨h1, h2, h3⟩ | ⟨h1, h2, h3, h4⟩
 all_goals
  go_in;go_wp2;go_ret2;exact ⟨rfl, rfl⟩
abbrev x2q (m ml : Nat) (s b : Int) : Array Value := uw m dW dW dW dW ml dW dW dW dW dW s b false false 0
theorem x2u (s b : Int) (w : World) (h1 : ¬ s < 0) (h2 : ¬ 4096 < s) (h3 : ¬ b < 0) (h4 : ¬ 1048576 < b) :
 Calls prog 9 #[.int .i64 s, .int .i64 b] w λ e w' => ∃ p m ml, e = .returned (.tuple #[.pointer (some ⟨p, 0, none⟩), .int .i64 0]) /\ Below w w w' /\ w.heap.size <= m /\ m < ml /\ ml < p ∧
  w'.heap[p]? = some (.cells (x2q m ml s b) dQ (0, 0)) /\ w'.heap[m]? = some (.map #[] 0) /\ w'.heap[ml]? = some (.map #[] 0) := by
 have hmm := @Ky prog;have hi : (prog.info? fu).map (·.size) = some 5 := GV;have HI := hd1 hi;clear hi;go_in
 go_wp2_with (refine aD rfl fu _ _ rfl (w.heap.size + 1) #[.map (some w.heap.size), dW, dW, dW, dW] rfl rfl fu pK (bC (w := w.alloc (.map #[] 0)) _ GZ) HI.out GV GV ?_
              intro W1 HW dx HS)
 have hb1 : Below w w W1 := Moves.new ((bla).alloc GZ _) dx GX;have z1 : W1.heap.size = w.heap.size + 2 := by rw [HS]; simp
 have r1 : W1.heap[w.heap.size]? = some (.map #[] 0) := (dx.block w.heap.size Oa (λ e => GX)).trans (aM GZ (II w _));have r2 := HW.out;clear dx HS HW hmm;have H1 := hd4 hb1 z1 r1 r2;have k : ∀ j v, (#[.map (some w.heap.size), dW, dW, dW, dW] : Array Value)[j]? = some v -> W1.drew.cell? ⟨w.heap.size + 1, j, none⟩ = some v := λ j v hj => ae (w := W1.drew) r2 hj;have CP := hd1 (wR (w.heap.size + 1) 0 w.heap.size (IB rfl) dW dW dW dW #[] 0 W1.drew (k 0 _ rfl) (k 1 _ rfl) (k 2 _ rfl) (k 3 _ rfl) (k 4 _ rfl) r1 GV);have ld : ∀ w', (∃ x : Wd (Below W1 W1), w' = x.world) -> (Instr.loadAt fu (.pointer (some (w.heap.size + 1, 0)))).run prog w' = .ok (.agg #[.map (some w.heap.size), dW, dW, dW, dW]) w' := by
  rintro w' ⟨x, rfl⟩;exact gy ((x.ok.block _ (aa r2)).trans r2) underlying91 rfl HI.out
 have LD := hd1 ld;clear k ld hb1 z1 r1 r2;have ne : Nonempty (Wd (Below W1 W1)) := ⟨⟨_, Below.refl _ _⟩⟩;refine bD (λ w' => ∃ x : Wd (Below W1 W1), w' = x.world) [] GV ?_;refine aL [0, 2, 3] 5 _ Hu GV ?_;simp only [fmc, fmn, gta, gcs, gcz];refine eH rfl fu (.tmp 6) rfl _ LD.out ?_;repeat refine Ha ?_
 refine aB ?_;refine aA 1 4 _ _ rfl GV ?_;refine IJ rfl λ K hK => ?_;go_simp;go_at_call 31;refine CP.mono ?_;rintro e W2 ⟨rfl, hb2, r3⟩;have hb2' : Below W1 W1 W2 := G6.drew.trans hb2;have R3 := hd1 r3;clear r3 hb2;refine hK _ _ (IG ⟨rfl, λ _ => ⟨⟨_, hb2'⟩, rfl⟩, ?_⟩);clear hK K;refine aL [4] 3 _ ⟨⟨_, hb2'⟩, rfl⟩ GV ?_;refine Hd ?_;refine aA 5 2 _ _ rfl GV ?_;refine IJ rfl λ K hK => ?_;go_simp;refine hK _ _ (IG ⟨rfl, λ _ => ⟨⟨_, hb2'.alloc hb2'.size _⟩, rfl⟩, ?_⟩);clear hK K;refine aL [6, 7] 0 _ ⟨⟨_, hb2'.alloc hb2'.size _⟩, rfl⟩ GV ?_;refine Hd ?_;refine ⟨GV, ?_⟩;go_wp2;go_ret2;obtain ⟨b1, z1, r1, r2⟩ := H1.out;have r3 : W2.heap[W1.heap.size + 1]? = some (.map #[] 0) := R3.out;have z2 := hb2'.size;have lt3 : W1.heap.size + 1 < W2.heap.size := aa r3;refine ⟨W2.heap.size, w.heap.size, W1.heap.size + 1, rfl, b1.trans ((hb2'.alloc hb2'.size _).mono GX), Nat.le_refl _, GX, lt3, II _ _, ?_, aM lt3 r3⟩;exact aM GX ((hb2'.block _ GX).trans r1)
theorem z4e {h : Array Obj} (hm : h[m]? = some (.map #[] 0)) : iZ h m (λ _ => zeros) :=
 ⟨#[], 0, hm, (λ e he => by simp at he), (λ e he => by simp at he), (λ _ _ => rfl), GZ, GZ⟩
theorem z7c (s b : Int) (h1 : ¬ s < 0) (h2 : ¬ 4096 < s) (h3 : ¬ b < 0) (h4 : ¬ 1048576 < b) : (Dm.new s b).ok :=
 ⟨by show 0 <= s; omega, by show s <= 4096; omega, by show 0 <= b; omega, by show b <= 1048576; omega, λ n => List.length_replicate, λ k t => (by show ((List.foldl St.done St.empty (List.take k [])).tp t).length <= b; rw [List.take_nil]; show (0 : Int) <= b; omega), (λ s hs => by cases hs), (by show (-1 : Int) <= -1; omega), MQ⟩
def z2x (w : World) (p m : Nat) : Nat -> Prop := λ k => w.heap.size <= k /\ k ≠ p /\ k ≠ m
theorem z7b (s b : Int) (w : World) (h : mH s b = 0) :
 Calls prog 9 #[.int .i64 s, .int .i64 b] w λ e w' => ∃ p m, e = .returned (.tuple #[.pointer (some ⟨p, 0, none⟩), .int .i64 0]) /\ Below w w w' /\ w.heap.size <= p /\ w.heap.size <= m /\ aQ w'.heap p m (Dm.new s b) (z2x w p m) := by
 have hh : ¬ (s < 0 \/ s > 4096 \/ b < 0 \/ b > 1048576) := by
  intro hh;unfold mH at h;rw [IE hh] at h;cases h
 refine (x2u s b w GX GX GX GX).mono ?_;rintro e w' ⟨p, m, ml, rfl, hb, g1, g2, g3, c1, c2, c3⟩
 refine ⟨p, m, rfl, hb, GX, g1, z7c s b GX GX GX GX, dW, dW, dW, dW, ml, dW, dW, dW, dW, dW, false, 0, c1, rfl, (λ h => by cases h), z4e c2, z4e c3, ⟨GX, GX, GX⟩, (λ h => h.2.2 rfl), (λ h => h.2.1 rfl), GX,
  IB ⟨rfl, rfl⟩, IB ⟨rfl, rfl⟩, IB ⟨rfl, rfl⟩, IB ⟨rfl, rfl⟩, IB ⟨rfl, rfl⟩, IB ⟨rfl, rfl⟩, IB ⟨rfl, rfl⟩, IB ⟨rfl, rfl⟩, IB ⟨rfl, rfl⟩⟩
theorem x2s (s b : Int) (w : World) (h : mH s b ≠ 0) :
 Calls prog 9 #[.int .i64 s, .int .i64 b] w λ e w' => e = .returned (.tuple #[.pointer none, .int .i64 2]) /\ w = w' := by
 have hh : s < 0 \/ s > 4096 \/ b < 0 \/ b > 1048576 := by
  exact Rt
 exact x2r s b w GX
theorem y6y (p : Nat) (c : Int) (w : World) (R : World -> Prop) (hc : c = 281) (h : w.cell? (p, 16) = some (.bool true))
 (hg : Calls prog 102 #[p] w λ e w' => e = .returned (.int .i64 c) /\ R w') :
 Calls prog 60 #[p] w λ e w' => e = .returned (.int .i64 281) /\ R w' := by
 subst hc;have HG := hd1 hg;clear hg;go_in;go_wp2_with (first | (go_at_call 45; refine (gW p true _ h).mono ?_; rintro e w' ⟨rfl, rfl⟩) | (go_at_call 102; refine HG.mono ?_; rintro e w' ⟨rfl, hr⟩))
 go_ret;exact ⟨rfl, hr⟩
def mQ (m : Nat) (t0 t1 t2 t3 : Value) (ml : Nat) (l0 l1 l2 l3 wv : Value) (many most : Int) (dead stops : Bool) (after : Int) : List Value := .map (some m) :: t0 :: t1 :: t2 :: t3 :: fZ ml l0 l1 l2 l3 wv many most dead stops after
def w0a (p m : Nat) (R1 : World -> Prop) (P1 : World -> Nat -> Value -> Value -> Value -> Value -> Value -> Value -> Value -> Value -> Value -> Int -> Int -> Bool -> Bool -> Int -> Array MapEntry -> Nat -> Prop) (e : Ending) (w' : World) : Prop :=
 e = .returned (.int .i64 0) /\ ∃ W1 t0 t1 t2 t3 ml l0 l1 l2 l3 wv many most dead stops after es clock lG,
  R1 W1 /\ P1 W1 ml t0 t1 t2 t3 l0 l1 l2 l3 wv many most dead stops after es clock /\ Moves (λ k => k = p) W1 w' /\ W1.heap.size <= lG /\ w'.heap[lG]? = some (.map es clock) ∧
  w'.heap[p]? = some (.cells (mQ m t0 t1 t2 t3 lG t0 t1 t2 t3 (.slice none 0 0) many most dead stops after).toArray dQ (0, 0))
theorem y6z (p m : Nat) (t0 t1 t2 t3 : Value) (w : World) (R1 : World -> Prop) (P1 : World -> Nat -> Value -> Value -> Value -> Value -> Value -> Value -> Value -> Value -> Value -> Int -> Int -> Bool -> Bool -> Int -> Array MapEntry -> Nat -> Prop) (h : w.cell? (p, 16) = some (.bool true))
 (hg : Calls prog 102 #[p] w λ e w' => e = .returned (.int .i64 0) /\ R1 w')
 (hr : ∀ W1, R1 W1 -> ∃ t0 t1 t2 t3 ml l0 l1 l2 l3 wv many most dead stops after es clock, W1.heap[p]? = some (.cells (mQ m t0 t1 t2 t3 ml l0 l1 l2 l3 wv many most dead stops after).toArray dQ (0, 0)) /\ W1.heap[m]? = some (.map es clock) /\ #[t0, t1, t2, t3].all (·.oneCell') = true ∧
  P1 W1 ml t0 t1 t2 t3 l0 l1 l2 l3 wv many most dead stops after es clock) :
 Calls prog 60 #[p] w (w0a p m R1 P1) := by
 have hi : (prog.info? fu).map (·.size) = some 5 := GV;have HI := hd1 hi;have HG := hd1 hg;have HR := hd1 hr;clear hi hg hr;go_in
 go_wp2_with (first
  | (go_at_call 45; refine (gW p true _ h).mono ?_; rintro e w' ⟨rfl, rfl⟩)
  | (go_at_call 102; refine HG.mono ?_; rintro e W1 ⟨rfl, q1⟩
     obtain ⟨t0, t1, t2, t3, ml, l0, l1, l2, l3, wv, many, most, dead, stops, after, es, clock, c1, c2, c3, q2⟩ := HR.out W1 q1;have Q := hd2 q1 q2;have C := hd3 c1 c2 c3;clear c1 c2 c3 q1 q2)
  | (go_at_call 31
     refine (wR p 0 m (IB rfl) t0 t1 t2 t3 es clock W1 (ae C.1 rfl) (ae C.1 rfl) (ae C.1 rfl) (ae C.1 rfl) (ae C.1 rfl) C.2.1 C.2.2).mono ?_;rintro e W2 ⟨rfl, hb2, r2⟩;have C2 := hd3 hb2 r2 ((hb2.block p (aa C.1)).trans C.1);clear hb2 r2)
  | (refine ou rfl fu (.tmp 18) (.tmp 16) rfl p 5 #[.map (some (W1.heap.size + 1)), t0, t1, t2, t3] rfl rfl dQ _ C2.2.2 HI.out (by simp [mQ, fZ]) (by have := C.2.2; simp at this ⊢; exact ⟨rfl, this⟩) ?_
     intro W3 HW HM HS;have k10 : ∃ v, W3.cell? (p, 10) = some v := ⟨_, ae HW.out rfl⟩;have f10 : W3.frozen? ⟨p, 10, none⟩ = false := aU HW.out _;obtain ⟨v10, k10⟩ := k10;have bQ := hd2 HM HS;clear HM HS))
 go_ret;obtain ⟨q1, q2⟩ := Q.out;obtain ⟨b2, r2, r3⟩ := C2.out;obtain ⟨m3, z3⟩ := bQ.out;have y := IU W3 p 10 _ dQ (.slice none 0 0) HW.out;have hp : p < W1.heap.size := aa C.1;refine ⟨rfl, W1, t0, t1, t2, t3, ml, l0, l1, l2, l3, wv, many, most, dead, stops, after, es, clock, W1.heap.size + 1, q1, q2, ?_, GX, ?_, ?_⟩
 ·have s2 := b2.size
  exact ⟨(m3.os.trans b2.os), m3.tape.trans b2.tape, m3.output.trans b2.output, by have := m3.size; simp; omega, λ k hk hn => by rw [IW _ _ _ _ hn, m3.block k GX hn, b2.block k hk]⟩
 ·rw [IW _ _ _ _ (by show W1.heap.size + 1 ≠ p; omega), m3.block _ (aa r2) GX, r2]
 ·rw [y]
  simp [mQ, fZ, qR]
theorem BytesAt.one {h : Array Obj} (x : BytesAt h F v l) : v.oneCell' = true := by
 obtain ⟨a, c, rfl⟩ := x.slice;rfl
theorem z3e {d : D} (h : d.ok) (d' : D) (e1 : d'.many = d.many) (e2 : d'.room = d.room) (e3 : d'.lasts = d.stand) (e4 : d'.waits = []) (h1 : -1 <= d'.stops) (h2 : d'.stops <= 9223372036854775807) : d'.ok := by
 refine ⟨by rw [e1]; exact h.vY, by rw [e1]; exact h.many1, by rw [e2]; exact h.pR, by rw [e2]; exact h.fE, by rw [e3]; exact y6i h, λ k t => ?_, λ y hy => ?_, h1, h2⟩
 ·unfold D.upto
  rw [e2, e3, e4, List.take_nil];exact kK h t
 ·rw [e4] at hy; cases hy
theorem y6x {d : D} (x : aQ w.heap p m d F) : Calls prog 60 #[p] w (Left w p m F d.sync) := by
 obtain ⟨lp, lm, hne, np, nm⟩ := x.lt;obtain ⟨k16, _⟩ := x.lQ;have hg := z9e x;have pn : ∀ w' : World, ¬ plus F w w' p /\ ¬ plus F w w' m := λ w' => ⟨λ h => by rcases h with h | h; exact np h; omega, λ h => by rcases h with h | h; exact nm h; omega⟩;rcases Cz d with h0 | h0
 ·have e2 : d.sync = ({ d.goes.1 with lasts := d.stand, waits := [] }, 0) := by unfold D.sync; rw [IE h0]
  rw [e2];rw [h0] at hg
  refine (y6z p m .nilFunc .nilFunc .nilFunc .nilFunc w _ (λ W1 ml t0 t1 t2 t3 l0 l1 l2 l3 wv many most dead stops after es clock => many = d.many /\ most = d.room /\ dead = d.goes.1.dead /\ iY W1.heap p m d.stand F dQ (fZ ml l0 l1 l2 l3 wv many most dead stops after) ∧
   (d.goes.1.stops = if stops then after else -1) /\ (stops = true -> 0 <= after) /\ BytesAt W1.heap F t0 (d.stand.tp 0) /\ BytesAt W1.heap F t1 (d.stand.tp 1) /\ BytesAt W1.heap F t2 (d.stand.tp 2) /\ BytesAt W1.heap F t3 (d.stand.tp 3) /\ W1.heap[m]? = some (.map es clock) /\ iZ W1.heap m d.stand.sec) k16 hg ?_).mono ?_
  ·rintro W1 ⟨hm1, hz1, hd1⟩
   obtain ⟨ml, l0, l1, l2, l3, wv, stops, after, sa, ra⟩ := hd1.parts;rw [z0q, rQ, uh] at sa;have sa' := sa;obtain ⟨t0, t1, t2, t3, c1, c2, b0, b1, b2, b3, n1, n2, n3⟩ := sa;have c2' := c2;obtain ⟨es, clock, c3, _⟩ := c2;exact ⟨t0, t1, t2, t3, ml, l0, l1, l2, l3, wv, d.many, d.room, d.goes.1.dead, stops, after, es, clock, c1, c3, by simp [b0.one, b1.one, b2.one, b3.one], rfl, rfl, rfl, sa', ra.hst, ra.tZ, b0, b1, b2, b3, c3, c2'⟩
  ·rintro e w' ⟨rfl, W1, t0, t1, t2, t3, ml, l0, l1, l2, l3, wv, many, most, dead, stops, after, es, clock, lG, ⟨hm1, hz1, hd1⟩, ⟨rfl, rfl, rfl, sa, hst, tZ, b0, b1, b2, b3, c3, c2⟩, mv, g1, g2, g3⟩
   have s1 := mv.size;have hmv : Moves (λ k => k = p \/ k = m) w w' := (hm1.mono (λ _ => IB)).trans mv (λ i _ e => IB e);have g1' := zf x.ok;have keep : ∀ k, F k -> k < W1.heap.size -> w'.heap[k]? = W1.heap[k]? := λ k hk hl => mv.block k hl (λ e => np (e ▸ hk));have big : ∀ k, F k -> k < W1.heap.size -> plus F w w' k := λ k h _ => IB h;have st : ({ d.goes.1 with lasts := d.stand, waits := [] } : D).stand = d.stand := rfl;have hl' : lG < w'.heap.size := aa g2;have sm : iZ w'.heap lG d.stand.sec := by
    obtain ⟨es', cl', y1, y2⟩ := c2;rw [c3] at y1;simp only [JC, Obj.map.injEq] at y1;obtain ⟨rfl, rfl⟩ := y1;exact ⟨es, clock, g2, y2⟩
   refine ⟨rfl, hmv, aQ.of (ml := lG) (l0 := t0) (l1 := t1) (l2 := t2) (l3 := t3) (wv := .slice none 0 0) (stops := stops) (after := after) ?_ ?_ ?_⟩
   ·exact z3e x.ok _ (rQ d) (uh d) rfl rfl g1'.stops g1'.sN
   ·rw [st]
    refine ⟨t0, t1, t2, t3, ?_, c2.stays (mv.block m GX hne), b0.keeps keep big, b1.keeps keep big, b2.keeps keep big, b3.keeps keep big, (pn w').2, (pn w').1, hne⟩;simp only [rQ, uh];exact g3
   ·exact ⟨hst, tZ, sm, IC ⟨GX, hl'⟩, b0.keeps keep big, b1.keeps keep big, b2.keeps keep big, b3.keeps keep big, IB ⟨rfl, rfl⟩⟩
 ·have hne0 : ¬ d.goes.2 = 0 := GX
  have e2 : d.sync = (d.goes.1, d.goes.2) := by unfold D.sync; rw [IA hne0]
  rw [e2];refine (y6y p d.goes.2 w _ h0 k16 hg).mono ?_;rintro e w' ⟨rfl, hm1, hz1, hd1⟩;exact ⟨by rw [h0], hm1.mono (λ _ => IB), hd1.weak (λ k h _ => IB h) (pn _).1 (pn _).2⟩
def w1m (w : World) (t0 t1 t2 t3 l0 l1 l2 l3 wv : Value) (many most : Int) (dead stops : Bool) (after : Int) (es es2 : Array MapEntry) (clock clock2 : Nat) (e : Ending) (w' : World) : Prop :=
 ∃ m' lG, e = .returned (.pointer (some ⟨w.heap.size, 0, none⟩)) /\ Below w.heap.size w w' /\ w.heap.size < m' /\ m' < lG /\ w'.heap[m']? = some (.map es clock) /\ w'.heap[lG]? = some (.map es2 clock2) ∧
  w'.heap[w.heap.size]? = some (.cells (mQ m' t0 t1 t2 t3 lG l0 l1 l2 l3 wv many most dead stops after).toArray dQ (0, 0))
theorem x7n (p m ml : Nat) (t0 t1 t2 t3 l0 l1 l2 l3 wv : Value) (many most : Int) (dead stops : Bool) (after : Int) (es es2 : Array MapEntry) (clock clock2 : Nat) (w : World)
 (h : w.cell? (p, 16) = some (.bool true)) (c1 : w.heap[p]? = some (.cells (mQ m t0 t1 t2 t3 ml l0 l1 l2 l3 wv many most dead stops after).toArray dQ (0, 0))) (c2 : w.heap[m]? = some (.map es clock)) (c3 : w.heap[ml]? = some (.map es2 clock2))
 (h5 : #[t0, t1, t2, t3].all (·.oneCell') = true) (h6 : #[l0, l1, l2, l3].all (·.oneCell') = true) (h7 : wv.oneCell' = true) :
 Calls prog 47 #[p] w (w1m w t0 t1 t2 t3 l0 l1 l2 l3 wv many most dead stops after es es2 clock clock2) := by
 have hi : (prog.info? fu).map (·.size) = some 5 := GV;have hi2 : (prog.info? dQ).map (·.size) = some 17 := GV;have ones : (mQ m t0 t1 t2 t3 ml l0 l1 l2 l3 wv many most dead stops after).toArray.all (·.oneCell') = true := by
  simp at h5 h6;simp [mQ, fZ, h5, h6, h7];simp [Value.oneCell']
 have HI := hd3 hi hi2 ones;have C := hd5 c1 c2 c3 h5 h6;clear hi hi2 c1 c2 c3 h5 h6 h7 ones;generalize hL : (mQ m t0 t1 t2 t3 ml l0 l1 l2 l3 wv many most dead stops after).toArray = L at *;have HL := hd1 hL;clear hL;go_in
 go_wp2_with (first
  | (go_at_call 45; refine (gW p true _ h).mono ?_; rintro e w' ⟨rfl, rfl⟩)
  | (refine IL rfl dQ (.tmp 7) rfl p rfl dQ L (0, 0) _ C.1 underlying95 rfl (by rw [<-HL.out]; exact HI.2.1) ?_)
  | (refine aD rfl dQ _ _ rfl w.heap.size L rfl rfl dQ _ (II w _) (by rw [<-HL.out]; exact HI.2.1) (by rw [<-HL.out]; rfl) HI.2.2 ?_
     intro W1 HW dx HS))
 have hb1 : Below w w W1 := Moves.new (bla) dx G7;have z1 : W1.heap.size = w.heap.size + 1 := by rw [HS]; simp
 have HB := hd2 hb1 z1;clear dx HS hb1 z1;have ne : Nonempty (Wd (Below w w)) := ⟨⟨_, Below.refl _ _⟩⟩;refine bD (λ w' => ∃ x : Wd (Below w w), w' = x.world) [] GV ?_;refine aL [0, 1, 2, 4, 5, 6] 6 _ ⟨⟨_, HB.1.drew⟩, rfl⟩ GV ?_;refine Hd ?_;refine aA 3 5 _ _ rfl GV ?_;refine IJ rfl λ K hK => ?_;go_simp;go_at_call 31;have lt : p < w.heap.size := aa C.1;have r1 : W1.drew.heap[p]? = some (.cells L dQ) := (HB.1.block p lt).trans C.1;rw [<-HL.out] at r1;refine (wR p 0 m (IB rfl) t0 t1 t2 t3 es clock W1.drew (ae r1 rfl) (ae r1 rfl) (ae r1 rfl) (ae r1 rfl) (ae r1 rfl) ((HB.1.block m (aa C.2.1)).trans C.2.1) C.2.2.2.1).mono ?_;rintro e W2 ⟨rfl, hb2, r2⟩;have hb2' : Below w w W2 := HB.1.drew.trans (hb2.mono (by have := HB.2; show w.heap.size <= W1.heap.size; omega));have H2 := hd3 hb2 r2 ((hb2.block p (by have := HB.2; show p < W1.heap.size; omega)).trans r1);clear hb2 r2 r1;refine hK _ _ (IG ⟨rfl, λ _ => ⟨⟨_, hb2'⟩, rfl⟩, ?_⟩);clear hK K;refine aA 7 4 _ _ rfl GV ?_;refine IJ rfl λ K hK => ?_;go_simp;go_at_call 31;have r1 := H2.2.2;refine (wR p 5 ml (IC rfl) l0 l1 l2 l3 es2 clock2 W2 (ae r1 rfl) (ae r1 rfl) (ae r1 rfl) (ae r1 rfl) (ae r1 rfl) ((hb2'.block ml (aa C.2.2.1)).trans C.2.2.1) C.2.2.2.2).mono ?_;rintro e W3 ⟨rfl, hb3, r3⟩;have z2 : w.heap.size + 1 <= W2.heap.size := by have := HB.2; have := H2.1.size; have : W1.heap.size <= W2.heap.size := this; omega
 have rG : Below w w W3 := hb2'.trans (hb3.mono GX);have rn : W3.heap[w.heap.size]? = some (.cells L dQ) := by
  rw [hb3.block _ GX, H2.1.block _ (by have := HB.2; show w.heap.size < W1.heap.size; omega)];exact HW.out
 rw [<-HL.out] at rn;have H3 := hd4 hb3 r3 rn z2;clear hb3 r3 rn r1;refine hK _ _ (IG ⟨rfl, λ _ => ⟨⟨_, rG⟩, rfl⟩, ?_⟩);clear hK K;refine aL [8] 3 _ ⟨⟨_, rG⟩, rfl⟩ GV ?_;refine Hd ?_;refine aA 9 2 _ _ rfl GV ?_;refine ou rfl fu (.tmp 17) (.tmp 12) rfl w.heap.size 0 #[.map (some (W1.heap.size + 1)), t0, t1, t2, t3] rfl rfl dQ _ H3.2.2.1 HI.1 (by simp [mQ, fZ]) (by have := C.2.2.2.1; simp at this ⊢; exact ⟨rfl, this⟩) ?_;intro W4 iF jd mW;have hb4 : Below w w W4 := Moves.new rG jd G7;have H4 := hd2 jd mW;clear jd mW;refine IG ⟨rfl, λ _ => ⟨⟨_, hb4⟩, rfl⟩, ?_⟩;refine aL [10] 1 _ ⟨⟨_, hb4⟩, rfl⟩ GV ?_;refine Hd ?_;refine aA 11 0 _ _ rfl GV ?_;refine ou rfl fu (.tmp 18) (.tmp 16) rfl w.heap.size 5 #[.map (some (W2.heap.size + 1)), l0, l1, l2, l3] rfl rfl dQ _ iF.out HI.1 (by simp [mQ, fZ, qR]) (by have := C.2.2.2.2; simp at this ⊢; exact ⟨rfl, this⟩) ?_;intro W5 aF az bf;have hb5 : Below w w W5 := Moves.new hb4 az G7;have H5 := hd2 az bf;clear az bf;refine IG ⟨rfl, λ _ => ⟨⟨_, hb5⟩, rfl⟩, GV, ?_⟩;go_wp2;go_ret;obtain ⟨b2, r2, _⟩ := H2.out;obtain ⟨b3, r3, _, z2⟩ := H3.out;obtain ⟨m4, s4⟩ := H4.out;obtain ⟨m5, s5⟩ := H5.out;have z1 := HB.2;have r2' : W2.heap[W1.heap.size + 1]? = some (.map es clock) := r2;have l2' := aa r2';have l3 := aa r3;refine ⟨W1.heap.size + 1, W2.heap.size + 1, rfl, hb5, GX, GX, ?_, ?_, ?_⟩
 ·rw [m5.block _ GX GX, m4.block _ GX GX, b3.block _ l2', r2']
 ·rw [m5.block _ GX GX, m4.block _ l3 GX, r3]
 ·rw [aF.out]
  simp [mQ, fZ, qR]
def y3u (F : Nat -> Prop) (w w' : World) (p m : Nat) : Nat -> Prop := λ k => (F k /\ k < w.heap.size) \/ (w.heap.size <= k /\ k < w'.heap.size /\ k ≠ p /\ k ≠ m)
theorem iZ.other {h h' : Array Obj} {m' : Nat} {f : Int -> List UInt8} {es : Array MapEntry} {clock : Nat} (x : iZ h m f) (h1 : h[m]? = some (.map es clock)) (h2 : h'[m']? = some (.map es clock)) : iZ h' m' f := by
 obtain ⟨es', cl', y1, y2⟩ := x;rw [h1] at y1;simp only [JC, Obj.map.injEq] at y1;obtain ⟨rfl, rfl⟩ := y1;exact ⟨es, clock, h2, y2⟩
theorem iX.one {h : Array Obj} {l : List Step} (x : iX h F v l) : v.oneCell' = true := by
 rcases x with ⟨rfl, _⟩ | ⟨b, o, cap, c, t, fr, rfl, _⟩ <;> rfl
theorem x7m {d : D} (x : aQ w.heap p m d F) : Calls prog 47 #[p] w λ e w' =>
 ∃ m', e = .returned (.pointer (some w.heap.size)) /\ Below w w w' /\ w.heap.size <= m' /\ aQ w'.heap w.heap.size m' d (y3u F w w' w.heap.size m') := by
 obtain ⟨k16, _⟩ := x.lQ;have ok := x.ok;obtain ⟨_, t0, t1, t2, t3, ml, l0, l1, l2, l3, wv, stops, after, c1, c2, c3, c4, c5, c6, c7, c8, c9, b0, b1, b2, b3, b4, b5, b6, b7, st⟩ := x;obtain ⟨es, clock, q1, q2⟩ := c4;obtain ⟨es2, clock2, q3, q4⟩ := c5;refine (x7n p m ml t0 t1 t2 t3 l0 l1 l2 l3 wv d.many d.room d.dead stops after es es2 clock clock2 w k16 c1 q1 q3 (by simp [b0.one, b1.one, b2.one, b3.one]) (by simp [b4.one, b5.one, b6.one, b7.one]) st.one).mono ?_;rintro e w' ⟨m', lG, rfl, hb, g1, g2, r1, r2, r3⟩;have keep : ∀ k, F k -> k < w.heap.size -> w'.heap[k]? = w.heap[k]? := λ k _ hl => hb.block k hl;have big : ∀ k, F k -> k < w.heap.size -> y3u F w w' w.heap.size m' k := λ k h hl => IB ⟨h, hl⟩
 refine ⟨m', rfl, hb, GX, ok, t0, t1, t2, t3, lG, l0, l1, l2, l3, wv, stops, after, r3, c2, c3, ?_, ?_, IC ⟨GX, aa r2, GX, GX⟩, ?_, ?_, GX,
  b0.keeps keep big, b1.keeps keep big, b2.keeps keep big, b3.keeps keep big, b4.keeps keep big, b5.keeps keep big, b6.keeps keep big, b7.keeps keep big, st.keeps keep big⟩
 ·exact ⟨es, clock, r1, q2⟩
 ·exact ⟨es2, clock2, r2, q4⟩
 ·rintro (h | h)
  ·omega
  ·exact h.2.2.2 rfl
 ·exact Q6
def eG (c : bH) (n i : Nat) (s : Step) (x : St) : St := if c.dz n i then x.part s c.part else if c.kept i then x.done s else x
def f_ (c : bH) (n i : Nat) (s : Step) (en : Int -> Bool) : Int -> Bool := if s.what ≠ 1 then upd en s.n (c.dz n i || !c.kept i) else en
theorem Df (c : bH) (n i : Nat) (s : Step) (l : List Step) (x : St) (en : Int -> Bool) (h : s.what ≠ 1 /\ en s.n = true) : eQ c n (s :: l) i x en = eQ c n l (i + 1) x en := by
 rw [eQ, IE h]
theorem ql (c : bH) (n i : Nat) (s : Step) (l : List Step) (x : St) (en : Int -> Bool) (h : ¬ (s.what ≠ 1 /\ en s.n = true)) : eQ c n (s :: l) i x en = eQ c n l (i + 1) (eG c n i s x) (f_ c n i s en) := by
 rw [eQ, IA h]; rfl
theorem xN {d : D} {i : Nat} {s : Step} (h : d.waits[i]? = some s) : d.upto (i + 1) = (d.upto i).done s := by
 unfold D.upto;have hl := (I4.1 h).1;rw [List.take_succ_eq_append_getElem hl, Kr, (I4.1 h).2];rfl
theorem y0g (x : St) (s : Step) (t : Int) (h : s.what = 1) : (x.done s).tp t = x.tp t := by simp [St.done, h]
theorem C_ (x : St) (s : Step) (t : Int) (h : t ≠ s.n) : (x.done s).tp t = x.tp t := by
 unfold St.done;split
 ·rfl
 ·split <;> simp [upd, h]
theorem x1t (x : St) (s : Step) (t k : Int) (h : s.what = 1) : (x.part s k).tp t = x.tp t := by simp [St.part, St.done, h]
theorem z7r (x : St) (s : Step) (t k : Int) (h : t ≠ s.n) : (x.part s k).tp t = x.tp t := by
 unfold St.part;split
 ·simp [St.done]
 ·split
  ·simp [St.done, upd, h]
  ·rfl
theorem x1s (x : St) (s : Step) (k : Int) (h : s.what ≠ 1) : (x.part s k).tp s.n <+: (x.done s).tp s.n \/ (x.part s k).tp s.n = x.tp s.n := by
 by_cases h2 : s.what = 2
 ·left
  simp only [St.part, IA h, IE h2, St.done, upd_same];rw [IA GX, IE trivial];simp only [upd_same];exact List.prefix_append_right_inj _ |>.2 (List.take_prefix _ _)
 ·right
  simp [St.part, h, h2]
theorem z7q {x : St} {s : Step} {many : Int} (hx : ∀ n, (x.sec n).length = 256) (hs : s.ok many) (k : Int) : ∀ n, ((x.part s k).sec n).length = 256 := by
 intro n;unfold St.part;split
 ·rename_i h1
  have hb : s.b.length = 256 := by
   exact PI
  simp only [St.done, I6, upd];split
  ·have p1 : 0 <= pick k 257 := Ls _ GX
   have p2 : pick k 257 < 257 := Int.emod_lt_of_pos _ GX;have := hx s.n;simp only [IQ, I7, I9];omega
  ·exact hx n
 ·split
  ·simp only [St.done]
   simpa using hx n
  ·exact hx n
structure gq (d : D) (i : Nat) (x : St) (en : Int -> Bool) : Prop where
 tp : ∀ t, en t = false -> x.tp t = (d.upto i).tp t
 pre : ∀ t, ∃ k, k <= i /\ x.tp t <+: (d.upto k).tp t
 sec : ∀ n, (x.sec n).length = 256
theorem gq.room {d : D} {i : Nat} {x : St} {en : Int -> Bool} (h : gq d i x en) (hd : d.ok) (t : Int) : (x.tp t).length <= d.room := by
 obtain ⟨k, _, hk⟩ := h.pre t;have := hd.tape k t;have := hk.length_le;omega
theorem gq.start {d : D} (hd : d.ok) : gq d 0 d.lasts (λ _ => false) :=
 ⟨λ t _ => by simp [D.upto], λ t => ⟨0, Nat.le_refl _, by simp [D.upto]⟩, hd.sec⟩
theorem gq.skip {d : D} {i : Nat} {x : St} {en : Int -> Bool} (h : gq d i x en) {s : Step} (hs : d.waits[i]? = some s) (hk : s.what ≠ 1 /\ en s.n = true) : gq d (i + 1) x en := by
 refine ⟨λ t ht => ?_, λ t => ?_, h.sec⟩
 ·have hne : t ≠ s.n := λ e => by rw [e, hk.2] at ht; cases ht
  rw [xN hs, C_ _ _ _ hne];exact h.tp t ht
 ·obtain ⟨k, h1, h2⟩ := h.pre t
  exact ⟨k, GX, h2⟩
theorem gq.step {d : D} (hd : d.ok) {i : Nat} {x : St} {en : Int -> Bool} (h : gq d i x en) {s : Step} (hs : d.waits[i]? = some s) (c : bH) (n : Nat) (hk : ¬ (s.what ≠ 1 /\ en s.n = true)) : gq d (i + 1) (eG c n i s x) (f_ c n i s en) := by
 have ok : s.ok d.many := hd.waits s (Jg hs);have old : ∀ t, ∃ k, k <= i + 1 /\ x.tp t <+: (d.upto k).tp t := λ t => by
  obtain ⟨k, h1, h2⟩ := h.pre t;exact ⟨k, GX, h2⟩
 by_cases h1 : s.what = 1
 ·have tpx : ∀ t, (eG c n i s x).tp t = x.tp t := λ t => by
   unfold eG;split
   ·exact x1t _ _ _ _ h1
   ·split
    ·exact y0g _ _ _ h1
    ·rfl
  have ee : f_ c n i s en = en := by simp [f_, h1]
  refine ⟨λ t ht => ?_, λ t => ?_, ?_⟩
  ·rw [ee] at ht
   rw [tpx, xN hs, y0g _ _ _ h1];exact h.tp t ht
  ·rw [tpx]; exact old t
  ·exact QD
 ·have hen : en s.n = false := by
   cases he : en s.n
   ·rfl
   ·exact absurd ⟨h1, he⟩ hk
  have ee : f_ c n i s en = upd en s.n (c.dz n i || !c.kept i) := by simp [f_, h1]
  have tpo : ∀ t, t ≠ s.n -> (eG c n i s x).tp t = x.tp t := λ t ht => by
   unfold eG;split
   ·exact z7r _ _ _ _ ht
   ·split
    ·exact C_ _ _ _ ht
    ·rfl
  have dn : (x.done s).tp s.n = (d.upto (i + 1)).tp s.n := by
   rw [xN hs];have := h.tp s.n hen;unfold St.done;rw [IA h1, IA h1];split <;> simp [upd, this]
  refine ⟨λ t ht => ?_, λ t => ?_, ?_⟩
  ·rw [ee] at ht
   by_cases e : t = s.n
   ·subst e
    rw [upd_same] at ht;simp only [Bool.or_eq_false_iff, Bool.not_eq_false'] at ht;unfold eG;rw [IA (by simp [ht.1]), IE ht.2];exact dn
   ·rw [sJ _ _ _ _ e] at ht
    rw [tpo t e, xN hs, C_ _ _ _ e];exact h.tp t ht
  ·by_cases e : t = s.n
   ·subst e
    unfold eG;split
    ·rcases x1s x s c.part h1 with hp | hp
     ·exact ⟨i + 1, Nat.le_refl _, by rw [<-dn]; exact hp⟩
     ·rw [hp]; exact old _
    ·split
     ·exact ⟨i + 1, Nat.le_refl _, by rw [dn]; exact List.prefix_refl _⟩
     ·exact old _
   ·rw [tpo t e]; exact old t
  ·exact QD
theorem gq.all {d : D} (hd : d.ok) (c : bH) (n : Nat) : ∀ (l : List Step) (i : Nat) (x : St) (en : Int -> Bool), d.waits.drop i = l -> gq d i x en -> ∃ en', gq d d.waits.length (eQ c n l i x en) en'
 | [], i, x, en, hl, h => by
  have hi : d.waits.length <= i := Mf.1 hl;refine ⟨en, λ t ht => ?_, λ t => ?_, h.sec⟩
  ·rw [eQ, h.tp t ht]
   unfold D.upto;rw [Jh hi, Jh G7]
  ·obtain ⟨k, h1, h2⟩ := h.pre t
   rw [eQ];by_cases hk : k <= d.waits.length
   ·exact ⟨k, hk, h2⟩
   ·refine ⟨d.waits.length, Nat.le_refl _, ?_⟩
    unfold D.upto at h2 ⊢;rw [Jh GX] at h2 ⊢;exact h2
 | s :: l, i, x, en, hl, h => by
  have hs : d.waits[i]? = some s := by
   have := IK (·[0]?) hl;simpa using this
  have hl' : d.waits.drop (i + 1) = l := by
   rw [<-List.drop_drop, hl]; rfl
  by_cases hk : s.what ≠ 1 /\ en s.n = true
  ·rw [Df _ _ _ _ _ _ _ hk]
   exact gq.all hd c n l (i + 1) x en hl' (h.skip hs hk)
  ·rw [ql _ _ _ _ _ _ _ hk]
   exact gq.all hd c n l (i + 1) _ _ hl' (h.step hd hs c n hk)
theorem y1x {d : D} (hd : d.ok) (c : bH) : (d.aT c).ok := by
 obtain ⟨en, h⟩ := gq.all hd c d.waits.length d.waits 0 d.lasts (λ _ => false) rfl (gq.start hd);refine ⟨hd.vY, hd.many1, hd.pR, hd.fE, h.sec, λ k t => ?_, (λ s hs => by cases hs), (by show (-1 : Int) <= -1; omega), MQ⟩;have e : (d.aT c).upto k = (d.aT c).lasts := by unfold D.upto; show List.foldl St.done _ (List.take k []) = _; rw [List.take_nil]; rfl
 rw [e];exact h.room hd t
def oq (h : Array Obj) (v : Value) (l : List Bool) : Prop :=
 ((∃ a c, v = .slice a 0 c) /\ l = []) \/ ∃ (b o cap : Nat) (c : Array Value) (t : TypeId) (fr : Nat × Nat), v = .slice (some ⟨b, o, none⟩) l.length cap /\ h[b]? = some (.cells c t fr) /\ ∀ (i : Nat) (x : Bool), l[i]? = some x -> c[o + i]? = some (.bool x)
theorem oq.slice {h : Array Obj} {l : List Bool} (x : oq h v l) : ∃ a c, v = .slice a l.length c := by
 rcases x with ⟨⟨_, _, rfl⟩, rfl⟩ | ⟨b, o, cap, c, t, fr, rfl, _⟩
 ·exact ⟨_, _, rfl⟩
 ·exact ⟨_, _, rfl⟩
abbrev ji : Nat := 41
abbrev mE : Nat := 110
def iG (F : Nat -> Prop) (w : World) (q mq e0 : Nat) : Nat -> Prop := λ k => (F k /\ k < w.heap.size) \/ (w.heap.size <= k /\ k ≠ q /\ k ≠ mq /\ k ≠ e0)
structure kG (w W : World) (F : Nat -> Prop) (kv : Value) (c : bH) (q mq e0 : Nat) (x : St) (en : Int -> Bool) : Prop where
 below : Below w.heap.size w W
 hq : w.heap.size <= q
 oL : w.heap.size <= mq
 he0 : w.heap.size <= e0
 ne1 : mq ≠ q
 vX : e0 ≠ q
 vW : e0 ≠ mq
 nb : w.heap.size ≠ q /\ w.heap.size ≠ mq /\ w.heap.size ≠ e0
 box : W.heap[w.heap.size]? = some (.cells #[kv, .int .i64 c.bq, .int .i64 c.part] ji (0, 0))
 stand : iY W.heap q mq x (iG F w q mq e0) fu []
 ends : W.heap[e0]? = some (.cells #[.bool (en 0), .bool (en 1), .bool (en 2), .bool (en 3)] mE (0, 0))
theorem kG.next {W' : World} {kv : Value} {c : bH} {mq e0 : Nat} {x : St} {en : Int -> Bool} (h : kG w W F kv c q mq e0 x en) (hb : Below W W W') : kG w W' F kv c q mq e0 x en := by
 have hs := h.below.size;refine ⟨h.below.trans (hb.mono hs), h.hq, h.oL, h.he0, h.ne1, h.vX, h.vW, h.nb, (hb.block _ (aa h.box)).trans h.box, ?_, (hb.block _ (aa h.ends)).trans h.ends⟩;obtain ⟨t0, t1, t2, t3, c1, c2, b0, b1, b2, b3, n1, n2, n3⟩ := h.stand;have keep : ∀ k, iG F w q mq e0 k -> k < W.heap.size -> W'.heap[k]? = W.heap[k]? := λ k _ hl => hb.block k hl;have big : ∀ k, iG F w q mq e0 k -> k < W.heap.size -> iG F w q mq e0 k := λ _ h _ => h;have lm : mq < W.heap.size := by obtain ⟨es, cl, g, _⟩ := c2; exact aa g
 exact ⟨t0, t1, t2, t3, (hb.block _ (aa c1)).trans c1, c2.stays (hb.block _ lm), b0.keeps keep big, b1.keeps keep big, b2.keeps keep big, b3.keeps keep big, n1, n2, n3⟩
theorem kG.did {W' : World} {kv : Value} {c : bH} {mq e0 : Nat} {x x' : St} {en : Int -> Bool} {e : Ending} (h : kG w W F kv c q mq e0 x en) (hd : u_ W q mq x' (iG F w q mq e0) fu [] e W') : kG w W' F kv c q mq e0 x' en := by
 have hs := h.below.size;have hm := hd.moves;have lq : q < W.heap.size := by obtain ⟨t0, t1, t2, t3, c1, _⟩ := h.stand; exact aa c1
 have lm : mq < W.heap.size := by obtain ⟨t0, t1, t2, t3, c1, ⟨es, cl, g, _⟩, _⟩ := h.stand; exact aa g
 have le := aa h.ends;have hq := h.hq;have oL := h.oL;have nb := h.nb;have vX := h.vX;have vW := h.vW
 refine ⟨⟨hm.os.trans h.below.os, hm.tape.trans h.below.tape, hm.output.trans h.below.output, Hm hm.size, λ k hk => (hm.block k GX GX).trans (h.below.block k hk)⟩, h.hq, h.oL, h.he0, h.ne1, h.vX, h.vW, h.nb,
  (hm.block _ (aa h.box) GX).trans h.box, ?_, (hm.block _ le GX).trans h.ends⟩
 refine hd.stand.weak (λ k hk hl => ?_) ?_ ?_
 ·rcases hk with hk | hk
  ·exact hk
  ·exact IC ⟨GX, GX, GX, GX⟩
 ·rintro (h | h)
  ·omega
  ·exact h.2.1 rfl
 ·exact Q6
theorem kG.rW {kv : Value} {c : bH} {mq e0 : Nat} {x : St} {en : Int -> Bool} (h : kG w W F kv c q mq e0 x en) (t : Nat) (ht : t < 4) : W.cell? (e0, t) = some (.bool (en t)) := by
 exact Ra
theorem kG.wL {kv : Value} {c : bH} {mq e0 : Nat} {x : St} {en : Int -> Bool} (h : kG w W F kv c q mq e0 x en) (t : Nat) (ht : t < 4) (b : Bool) : kG w (W.setCell (e0, t) (.bool b)) F kv c q mq e0 x (upd en t b) := by
 have ho : ∀ k, k ≠ e0 -> (W.setCell (e0, t) (.bool b)).heap[k]? = W.heap[k]? := λ k hk => IW W _ k _ hk;have he0 := h.he0;have nb := h.nb;refine ⟨⟨h.below.os, h.below.tape, h.below.output, by simpa using h.below.size, λ k hk => (ho k GX).trans (h.below.block k hk)⟩, h.hq, h.oL, h.he0, h.ne1, h.vX, h.vW, h.nb, (ho _ nb.2.2).trans h.box, ?_, ?_⟩
 ·obtain ⟨t0, t1, t2, t3, c1, c2, b0, b1, b2, b3, n1, n2, n3⟩ := h.stand
  have keep : ∀ k, iG F w q mq e0 k -> k < W.heap.size -> (W.setCell (e0, t) (.bool b)).heap[k]? = W.heap[k]? := λ k hk hl => ho k (λ e => by
   subst e;rcases hk with hk | hk
   ·omega
   ·exact hk.2.2.2 rfl)
  have big : ∀ k, iG F w q mq e0 k -> k < W.heap.size -> iG F w q mq e0 k := λ _ h _ => h;exact ⟨t0, t1, t2, t3, (ho _ h.vX.symm).trans c1, c2.stays (ho _ h.vW.symm), b0.keeps keep big, b1.keeps keep big, b2.keeps keep big, b3.keeps keep big, n1, n2, n3⟩
 ·exact QJ
theorem iX.slice {h : Array Obj} {l : List Step} (x : iX h F v l) : ∃ a c, v = .slice a l.length c /\ l.length <= c /\ (a = none -> l = []) := by
 rcases x with ⟨rfl, rfl⟩ | ⟨b, o, cap, c, t, fr, rfl, h, _⟩
 ·exact ⟨_, _, rfl, Nat.le_refl _, λ _ => rfl⟩
 ·exact ⟨_, _, rfl, h, λ h => by cases h⟩
abbrev z1r (w : World) (kv : Value) (c : bH) : World := w.alloc (.cells #[kv, .int .i64 c.bq, .int .i64 c.part] ji)
theorem x7t {kv : Value} {c : bH} {d : D} {l0 l1 l2 l3 : Value} {ml : Nat} {es2 : Array MapEntry} {clock2 : Nat} (hm : iZ w.heap ml d.lasts.sec) (hml : w.heap[ml]? = some (.map es2 clock2)) (b0 : BytesAt w.heap F l0 (d.lasts.tp 0)) (b1 : BytesAt w.heap F l1 (d.lasts.tp 1)) (b2 : BytesAt w.heap F l2 (d.lasts.tp 2)) (b3 : BytesAt w.heap F l3 (d.lasts.tp 3))
 (hb1 : Below (z1r w kv c).heap.size (z1r w kv c) W1) (r1 : W1.heap[w.heap.size + 1 + 1]? = some (.map es2 clock2)) (HW : W2.heap[W1.heap.size]? = some (.cells #[.map (some (w.heap.size + 1 + 1)), l0, l1, l2, l3] fu))
 (HM : Moves (λ k => k = W1.heap.size) (W1.alloc (.cells pK fu)) W2) (HS : W2.heap.size = (W1.alloc (.cells pK fu)).heap.size) :
 kG w (W2.alloc (.cells #[false, false, false, false] mE)) F kv c W1.heap.size (w.heap.size + 1 + 1) W2.heap.size d.lasts (λ _ => false) /\ W2.heap.size = W1.heap.size + 1 := by
 have z1 := aa r1;have z2 : W2.heap.size = W1.heap.size + 1 := by rw [HS]; simp
 have zb : (z1r w kv c).heap.size = w.heap.size + 1 := GZ;have hbw : Below w w W1 := (bla).trans (hb1.mono GZ);have hb2 : Below w w W2 := Moves.new (hbw.alloc GX _) HM GX;have hb3 : Below w w (W2.alloc (.cells #[false, false, false, false] mE)) := hb2.alloc GX _
 have up : ∀ k o, k ≠ W1.heap.size -> k < W1.heap.size -> W1.heap[k]? = some o -> (W2.alloc (.cells #[false, false, false, false] mE)).heap[k]? = some o := λ k o h1 h2 h3 =>
  aM GX ((HM.block k Oa h1).trans (aM h2 h3))
 refine ⟨⟨hb3, GX, GX, GX, GX, GX, GX, ⟨GX, GX, GX⟩, ?_, ?_, II _ _⟩, z2⟩
 ·exact up _ _ GX GX ((hb1.block _ GZ).trans (II w _))
 ·have keep : ∀ k, F k -> k < w.heap.size -> (W2.alloc (.cells #[false, false, false, false] mE)).heap[k]? = w.heap[k]? := λ k _ hl => hb3.block k hl
  have big : ∀ k, F k -> k < w.heap.size -> iG F w W1.heap.size (w.heap.size + 1 + 1) W2.heap.size k := λ k h hl => IB ⟨h, hl⟩;refine ⟨l0, l1, l2, l3, aM GX HW, hm.other hml (up _ _ GX z1 r1), b0.keeps keep big, b1.keeps keep big, b2.keeps keep big, b3.keeps keep big, ?_, ?_, GX⟩
  ·exact Q6
  ·rintro (h | h)
   ·omega
   ·exact h.2.1 rfl
def pu (w : World) (d : D) (F : Nat -> Prop) (kv : Value) (c : bH) (q mq e0 : Nat) (k : Nat) (W : World) : Prop :=
 ∃ x en, kG w W F kv c q mq e0 x en /\ gq d k x en /\ eQ c d.waits.length (d.waits.drop k) k x en = eQ c d.waits.length d.waits 0 d.lasts (λ _ => false)
theorem pu.next {d : D} {kv : Value} {c : bH} {mq e0 k : Nat} {x : St} {en : Int -> Bool} {s : Step} (ok : d.ok) (inv : gq d k x en) (cZ : eQ c d.waits.length (d.waits.drop k) k x en = eQ c d.waits.length d.waits 0 d.lasts (λ _ => false))
 (hs : d.waits[k]? = some s) (hk : ¬ (s.what ≠ 1 /\ en s.n = true)) {x' : St} {en' : Int -> Bool} (cs : kG w W F kv c q mq e0 x' en') (hx : x' = eG c d.waits.length k s x) (he : en' = f_ c d.waits.length k s en) : pu w d F kv c q mq e0 (k + 1) W := by
 exact Qz
def y3v (w : World) (F : Nat -> Prop) (d' : D) (e : Ending) (w' : World) : Prop :=
 ∃ p' m' F', e = .returned (.tuple #[.pointer (some ⟨p', 0, none⟩), .int .i64 0]) /\ Below w.heap.size w w' /\ w.heap.size <= p' /\ w.heap.size <= m' /\ aQ w'.heap p' m' d' F' /\ ∀ k, F' k -> (F k /\ k < w.heap.size) \/ (w.heap.size <= k /\ k < w'.heap.size)
theorem x7s {W9 : World} {d : D} {kv : Value} {c : bH} {mq e0 : Nat} {x : St} {en : Int -> Bool} {u0 u1 u2 u3 : Value} {es : Array MapEntry} {clock : Nat} (ok : d.ok) (cs : kG w wr F kv c q mq e0 x en) (inv : gq d d.waits.length x en)
 (cZ : x = eQ c d.waits.length d.waits 0 d.lasts (λ _ => false)) (r1 : wr.heap[q]? = some (.cells [.map (some mq), u0, u1, u2, u3].toArray fu (0, 0))) (r2 : iZ wr.heap mq x.sec) (r3 : wr.heap[mq]? = some (.map es clock))
 (v0 : BytesAt wr.heap (iG F w q mq e0) u0 (x.tp 0)) (v1 : BytesAt wr.heap (iG F w q mq e0) u1 (x.tp 1)) (v2 : BytesAt wr.heap (iG F w q mq e0) u2 (x.tp 2)) (v3 : BytesAt wr.heap (iG F w q mq e0) u3 (x.tp 3))
 (hb : Below wr wr W9) (r9 : W9.heap[wr.drew.heap.size + 1]? = some (.map es clock)) :
 y3v w F (d.aT c) (.returned (.tuple #[.pointer (some W9.heap.size), .int .i64 0])) (W9.alloc (.cells (uw mq u0 u1 u2 u3 (wr.heap.size + 1) u0 u1 u2 u3 (.slice none 0 0) d.many d.room false false 0) dQ)) := by
 have r9' : W9.heap[wr.heap.size + 1]? = some (.map es clock) := r9;have z9 := aa r9';have zq := aa r1;have zm := aa r3;have hz := cs.below.size;have oL := cs.oL;have hq := cs.hq;have hb' : Below w w (W9.alloc (.cells (uw mq u0 u1 u2 u3 (wr.heap.size + 1) u0 u1 u2 u3 (.slice none 0 0) d.many d.room false false 0) dQ)) := (cs.below.trans (hb.mono hz)).alloc GX _;have hx : (d.aT c).lasts = x := cZ.symm;have hst : (d.aT c).stand = x := cZ.symm;have sz : (W9.alloc (.cells (uw mq u0 u1 u2 u3 (wr.heap.size + 1) u0 u1 u2 u3 (.slice none 0 0) d.many d.room false false 0) dQ)).heap.size = W9.heap.size + 1 := GZ;refine ⟨W9.heap.size, mq, λ k => (F k /\ k < w.heap.size) \/ (w.heap.size <= k /\ k < W9.heap.size /\ k ≠ mq), rfl, hb', GX, oL, ?_, λ k hk => ?_⟩
 ·have keep : ∀ k, iG F w q mq e0 k -> k < wr.heap.size -> (W9.alloc (.cells (uw mq u0 u1 u2 u3 (wr.heap.size + 1) u0 u1 u2 u3 (.slice none 0 0) d.many d.room false false 0) dQ)).heap[k]? = wr.heap[k]? := λ k _ hl => (heap_old_own _ _ _ GX).trans (hb.block k hl)
  have big : ∀ k, iG F w q mq e0 k -> k < wr.heap.size -> ((F k /\ k < w.heap.size) \/ (w.heap.size <= k /\ k < W9.heap.size /\ k ≠ mq)) := λ k hk hl => by
   rcases hk with hk | hk
   ·exact IB hk
   ·exact IC ⟨hk.1, GX, hk.2.2.1⟩
  have rm : (W9.alloc (.cells (uw mq u0 u1 u2 u3 (wr.heap.size + 1) u0 u1 u2 u3 (.slice none 0 0) d.many d.room false false 0) dQ)).heap[mq]? = some (.map es clock) := aM GX ((hb.block _ zm).trans r3);refine ⟨y1x ok c, u0, u1, u2, u3, wr.heap.size + 1, u0, u1, u2, u3, .slice none 0 0, false, 0, II _ _, rfl, (λ h => by cases h), ?_, ?_, IC ⟨GX, z9, GX⟩, ?_, ?_, GX, ?_, ?_, ?_, ?_, ?_, ?_, ?_, ?_, IB ⟨rfl, rfl⟩⟩
  ·rw [hst]; exact r2.other r3 rm
  ·rw [hx]; exact r2.other r3 (aM z9 r9')
  ·rintro (h | h)
   ·omega
   ·exact h.2.2 rfl
  ·rintro (h | h)
   ·omega
   ·omega
  ·rw [hst]; exact v0.keeps keep big
  ·rw [hst]; exact v1.keeps keep big
  ·rw [hst]; exact v2.keeps keep big
  ·rw [hst]; exact v3.keeps keep big
  ·rw [hx]; exact v0.keeps keep big
  ·rw [hx]; exact v1.keeps keep big
  ·rw [hx]; exact v2.keeps keep big
  ·rw [hx]; exact v3.keeps keep big
 ·rcases hk with hk | hk
  ·exact IB hk
  ·exact IC ⟨hk.1, by rw [sz]; omega⟩
theorem Ap (x : St) : 0 <= x.used := by unfold St.used; omega
theorem Es {d : D} (h : d.ok) : d.stand.used <= 4194304 := by
 have b : ∀ t, ((d.stand.tp t).length : Int) <= 1048576 := λ t => Int.le_trans (by exact_mod_cast kK h t) h.fE;have := b 0; have := b 1; have := b 2; have := b 3;unfold St.used; omega
theorem y5w (x : St) (t : Int) (h0 : 0 <= t) (h1 : t <= 3) : ((x.tp t).length : Int) <= x.used := by
 obtain rfl | rfl | rfl | rfl : t = 0 \/ t = 1 \/ t = 2 \/ t = 3 := GX;all_goals unfold St.used; omega
theorem y1e {d : D} (h : d.ok) (t : Int) (l : List UInt8) (h0 : 0 <= t) (h1 : t <= 3) (hu : ¬ d.stand.used + l.length > d.room) : (∀ k, ((d.stand.done ⟨2, t, 0, l⟩).tp k).length <= d.room) /\ l.length <= 1048576 := by
 have := h.fE;have := y5w d.stand t h0 h1;have := Ap d.stand;refine ⟨λ k => ?_, GX⟩;simp only [St.done];by_cases hk : k = t
 ·subst hk
  simp [upd];omega
 ·simp [upd, hk]
  exact kK h k
theorem w0x {d : D} (x : aQ w.heap p m d F) (n : Int) {bv : Value} (hv : BytesAt w.heap G bv l) (hl : l.length <= 1099511627776) (hn : d.waits.length <= 1000000000000) :
 Calls prog 59 #[p, .int .i64 n, bv] w (Left w p m F (d.append n l)) := by
 obtain ⟨k16, k11, k12, _⟩ := x.lQ;obtain ⟨a, c, rfl⟩ := hv.slice;have lt := x.lt;by_cases h1 : n < 0 \/ 4 <= n
 ·have e : d.append n l = (d, 4) := by
   unfold D.append;rw [IE GX]
  rw [e];refine (x9a p _ n w k16 h1).mono ?_;exact QR
 ·have hU : ∀ W, Below w w W -> Calls prog 97 #[p] W λ e w' => e = .returned (.int .i64 d.stand.used) /\ Below W W w' := λ W hb => y4i (x.below hb)
  by_cases h2 : d.stand.used + l.length > d.room
  ·have e : d.append n l = (d, 280) := by
    unfold D.append;rw [IA GX, IE h2]
   rw [e];refine (w0y p l.length c a n d.room d.stand.used w k16 k12 GX GX (Ap _) (Es x.ok) hl h2 hU).mono ?_;exact QR
  ·have e : d.append n l = d.step ⟨2, n, 0, l⟩ := by
    unfold D.append;rw [IA GX, IA h2]
   rw [e];obtain ⟨o1, o2⟩ := y1e x.ok n l GX GX h2;refine w0z p l.length c a n d.room d.stand.used l w _ k16 k12 GX GX (Ap _) (Es x.ok) hl h2 hU G hv ?_;intro W g v hb hg r0 r1 r2 r3 hz hv1;have x1 := x.plus hb;have hok : (⟨2, n, 0, l⟩ : Step).ok d.many := IC (IB ⟨rfl, by show 0 <= n; omega, by show n <= 3; omega, rfl, o2⟩)
   have st : gI W.heap (plus F w W) ⟨2, n, 0, l⟩ (.func (.func 142) #[] #[.pointer (some (g + 1, 0)), .pointer (some (g + 2, 0))])
    (.func (.func 101) #[] #[.pointer (some ⟨w.heap.size, 0, none⟩), .pointer (some ⟨g, 0, none⟩)]) (.int .i64 n) (.int .i64 2) (.int .i64 n) (.int .i64 0) (.string ⟨l.toArray⟩) :=
    ⟨rfl, rfl, rfl, ⟨_, rfl, GZ⟩, IC (IB ⟨rfl, rfl, w.heap.size, g, g + 1, g + 2, v, IC ⟨GX, GX⟩, IC ⟨GX, GX⟩, IC ⟨GX, GX⟩, IC ⟨GX, GX⟩, rfl, rfl, r0, r2, r1, r3,
     hv1.keeps (λ _ _ _ => rfl) (λ k hk hl => IC ⟨hk, hl⟩)⟩)⟩
   refine (z4s x1 ⟨2, n, 0, l⟩ hok hn o1 st).mono ?_;rintro e w' h;exact ⟨_, h.1, Gt x hb h⟩
abbrev iO (w : World) (t n : Int) : World := (w.alloc (.cells #[.int .i64 t] 3)).alloc (.cells #[.int .i64 n] 3)
theorem wQ (w : World) (t n : Int) : Below w w (iO w t n) := (bla).alloc GZ _
theorem x6i (p : Nat) (t n : Int) (w : World) (h : w.cell? (p, 16) = some (.bool true)) (h1 : t < 0) :
 Calls prog 76 #[p, .int .i64 t, .int .i64 n] w λ e w' => e = .returned (.int .i64 4) /\ Below w w w' := by
 have hb := wQ w t n;have lt := IZ h;have h' := (hb.cell (p := ⟨p, 16, none⟩) lt).trans h;have k1 : (iO w t n).cell? w.heap.size = some (.int .i64 t) := ae (aM GZ (II w _)) rfl;have k2 : (iO w t n).cell? (w.heap.size + 1, 0) = some (.int .i64 n) := ae (bC (w := w.alloc _) _ GZ) rfl;have b1 : decide (t < 0) = true := by simp; omega
 exact O_
theorem x6j (p : Nat) (t n : Int) (w : World) (h : w.cell? (p, 16) = some (.bool true)) (h1 : ¬ t < 0) (h2 : 4 <= t) :
 Calls prog 76 #[p, .int .i64 t, .int .i64 n] w λ e w' => e = .returned (.int .i64 4) /\ Below w w w' := by
 have hb := wQ w t n;have lt := IZ h;have h' := (hb.cell (p := ⟨p, 16, none⟩) lt).trans h;have k1 : (iO w t n).cell? w.heap.size = some (.int .i64 t) := ae (aM GZ (II w _)) rfl;have k2 : (iO w t n).cell? (w.heap.size + 1, 0) = some (.int .i64 n) := ae (bC (w := w.alloc _) _ GZ) rfl;have b1 : decide (t < 0) = false := by simp; omega
 have b2 : decide (4 <= t) = true := by simp; omega
 exact O_
theorem x6k (p : Nat) (t n : Int) (w : World) (h : w.cell? (p, 16) = some (.bool true)) (h1 : ¬ t < 0) (h2 : ¬ 4 <= t) (h3 : n < 0) :
 Calls prog 76 #[p, .int .i64 t, .int .i64 n] w λ e w' => e = .returned (.int .i64 4) /\ Below w w w' := by
 have hb := wQ w t n;have lt := IZ h;have h' := (hb.cell (p := ⟨p, 16, none⟩) lt).trans h;have k1 : (iO w t n).cell? w.heap.size = some (.int .i64 t) := ae (aM GZ (II w _)) rfl;have k2 : (iO w t n).cell? (w.heap.size + 1, 0) = some (.int .i64 n) := ae (bC (w := w.alloc _) _ GZ) rfl;have b1 : decide (t < 0) = false := by simp; omega
 have b2 : decide (4 <= t) = false := by simp; omega
 have b3 : decide (n < 0) = true := by simp; omega
 exact O_
theorem x6h (p : Nat) (t n : Int) (w : World) (h : w.cell? (p, 16) = some (.bool true)) (hn : t < 0 \/ (¬ t < 0 /\ 4 <= t) \/ (¬ t < 0 /\ ¬ 4 <= t /\ n < 0)) :
 Calls prog 76 #[p, .int .i64 t, .int .i64 n] w λ e w' => e = .returned (.int .i64 4) /\ Below w w w' := by
 rcases hn with h1 | ⟨h1, h2⟩ | ⟨h1, h2, h3⟩
 ·exact x6i p t n w h h1
 ·exact x6j p t n w h h1 h2
 ·exact x6k p t n w h h1 h2 h3
theorem x6m (p t len c : Nat) (a : Option Addr) (n : Int) (w : World) (h : w.cell? (p, 16) = some (.bool true)) (ht : t < 4) (hq : w.cell? (p, 1 + t) = some (.slice a len c)) (hn : (len : Int) < n) :
 Calls prog 76 #[p, .int .i64 t, .int .i64 n] w λ e w' => e = .returned (.int .i64 4) /\ Below w w w' := by
 have hb := wQ w t n;have lt := IZ h;have h' := (hb.cell (p := ⟨p, 16, none⟩) lt).trans h;have k1 : (iO w t n).cell? w.heap.size = some (.int .i64 t) := ae (aM GZ (II w _)) rfl;have k2 : (iO w t n).cell? (w.heap.size + 1, 0) = some (.int .i64 n) := ae (bC (w := w.alloc _) _ GZ) rfl;have k3 : (iO w t n).cell? (p, 1 + t) = some (.slice a len c) := (hb.cell (p := ⟨p, 1 + t, none⟩) lt).trans hq;have h1 : ¬ (t : Int) < 0 := GX;have h2 : ¬ 4 <= (t : Int) := GX;have h3 : ¬ n < 0 := GX;have h4 : (0 : Int) <= t := GX;have h5 : (t : Int) < 4 := GX;have h6 : ¬ 4 <= t := GX;exact O_
theorem x6l (p t len c n : Nat) (a : Option Addr) (w : World) (R : Ending -> World -> Prop) (h : w.cell? (p, 16) = some (.bool true)) (ht : t < 4) (hq : w.cell? (p, 1 + t) = some (.slice a len c)) (hn : n <= len)
 (hR : ∀ nq, Calls prog 99 #[.pointer (some p), .agg #[.func (.func 122) #[] #[.pointer (some w.heap.size), .pointer (some (w.heap.size + 1, 0))],
  .func (.func 123) #[] #[], .int .i64 t, .int .i64 3, .int .i64 t, .int .i64 n, .string ⟨#[]⟩]] ((iO w t n).drewN nq) λ e w' => ∃ k, e = .returned (.int .i64 k) /\ R e w') :
 Calls prog 76 #[p, .int .i64 t, .int .i64 n] w R := by
 have hb := wQ w t n;have lt := IZ h;have h' := (hb.cell (p := ⟨p, 16, none⟩) lt).trans h;have k1 : (iO w t n).cell? w.heap.size = some (.int .i64 t) := ae (aM GZ (II w _)) rfl;have k2 : (iO w t n).cell? (w.heap.size + 1, 0) = some (.int .i64 n) := ae (bC (w := w.alloc _) _ GZ) rfl;have k3 : (iO w t n).cell? (p, 1 + t) = some (.slice a len c) := (hb.cell (p := ⟨p, 1 + t, none⟩) lt).trans hq;have h1 : ¬ (t : Int) < 0 := GX;have h2 : ¬ 4 <= (t : Int) := GX;have h3 : ¬ (n : Int) < 0 := GX;have h4 : (0 : Int) <= t := GX;have h5 : (t : Int) < 4 := GX;have h6 : ¬ 4 <= t := GX;have h7 : ¬ len < n := GX;have HR := hd1 hR;clear hR;go_in;go_wp2_with (go_at_call 45; refine (gW p true _ h').mono ?_; rintro e w' ⟨rfl, rfl⟩)
 go_quiet (fail)
 go_wp2_with (go_at_call 99; refine (HR.out nq).mono ?_; rintro e w' ⟨k, rfl, hr⟩)
 exact hr
theorem y0b {d : D} (h : d.ok) (t n : Int) : ∀ k, ((d.stand.done ⟨3, t, n, []⟩).tp k).length <= d.room := by
 intro k;have := kK h k;by_cases hk : k = t
 ·subst hk
  simp [St.done, upd];omega
 ·simp [St.done, upd, hk]
  exact this
theorem y0a {d : D} (x : aQ w.heap p m d F) (t n : Int) (hn : d.waits.length <= 1000000000000) :
 Calls prog 76 #[p, .int .i64 t, .int .i64 n] w (Left w p m F (d.cut t n)) := by
 obtain ⟨k16, k11, k12, _⟩ := x.lQ;by_cases h1 : t < 0 \/ t > 3 \/ n < 0
 ·have e : d.cut t n = (d, 4) := by
   unfold D.cut;rw [IE GX]
  rw [e];refine (x6h p t n w k16 GX).mono ?_;exact QR
 ·obtain ⟨t, rfl, ht⟩ := lF (n := t) (k := 3) GX GX
  obtain ⟨ml, l0, l1, l2, l3, wv, stops, after, sa, ra⟩ := x.parts;obtain ⟨v, hv, hf, bv⟩ := sa.cell.2 t GX;obtain ⟨a, c, rfl⟩ := bv.slice;by_cases h2 : n > (d.stand.tp t).length
  ·have e : d.cut t n = (d, 4) := by
    unfold D.cut;rw [IE GX]
   rw [e];refine (x6m p t _ c a n w k16 GX hv h2).mono ?_;exact QR
  ·have e : d.cut t n = d.step ⟨3, t, n, []⟩ := by
    unfold D.cut;rw [IA GX]
   rw [e];have hl := kK x.ok t;have hr := x.ok.fE;obtain ⟨n, rfl, hn1⟩ := lF (n := n) (k := 1048576) GX GX;refine x6l p t _ c n a w _ k16 GX hv GX ?_;intro nq;have hb0 := wQ w t n;have hb : Below w w ((iO w t n).drewN nq) := below_drewN hb0 nq;have x1 := x.plus hb;have hok : (⟨3, t, n, []⟩ : Step).ok d.many := IC (IC ⟨rfl, by show (0 : Int) <= t; omega, by show (t : Int) <= 3; omega, by show (0 : Int) <= n; omega, by show (n : Int) <= 1048576; omega, rfl⟩);have hz : ((iO w t n).drewN nq).heap.size = w.heap.size + 2 := by show (iO w t n).heap.size = _; simp
   have st : gI ((iO w t n).drewN nq).heap (plus F w ((iO w t n).drewN nq)) ⟨3, t, n, []⟩ (.func (.func 122) #[] #[.pointer (some w.heap.size), .pointer (some (w.heap.size + 1, 0))])
    (.func (.func 123) #[] #[]) (.int .i64 t) (.int .i64 3) (.int .i64 t) (.int .i64 n) (.string ⟨#[]⟩) :=
    ⟨rfl, rfl, rfl, ⟨_, rfl, rfl⟩, IC (IC ⟨rfl, rfl, w.heap.size, w.heap.size + 1, IC ⟨GX, GX⟩, IC ⟨GX, GX⟩, rfl, rfl, aM GZ (II w _), bC (w := w.alloc _) _ GZ⟩)⟩
   refine (z4s x1 ⟨3, t, n, []⟩ hok hn (y0b x.ok _ _) st).mono ?_;rintro e w' h;exact ⟨_, h.1, Gt x hb h⟩
end Go.Proofs.YtgffifleflkjoaaGreat
