/-
  Parts of a proof.
-/
import Derived.Test.YtgffifleflkjoaaGreatFin09
import Derived.Deep.LoopGhost
import Derived.Deep.CutRange
set_option linter.unusedSimpArgs false
set_option linter.unusedVariables false
set_option maxRecDepth 100000
set_option maxHeartbeats 16000000
namespace Go.Proofs.YtgffifleflkjoaaGreat
open _root_.Go.Proofs.Tryz
variable {w W w' w0 wr w1 W0 W1 W2 A B : World} {F G F' O : Nat → Prop} {v : Value} {l : List UInt8} {n q m pd md pl g p : Nat} {C : Array Value} {c : Int}
open Go.RowKit Dm
abbrev EI : Nat := 89
theorem x2k (m : Nat) (es : Array MapEntry) (clock : Nat) (w : World) (hb : w.heap[m]? = some (.map es clock)) :
 Calls prog 64 #[.map (some m)] w λ e w' => e = .returned (.map (some w.heap.size)) /\ w' = w.alloc (.map es clock) := by
 have hq := λ w => run_eql_map_nil_sl (P := prog) w EI _ _ (some m) underlying89;go_in;go_wp2;rw [run_callFunc_extern func103 GQ GQ GQ (e := Extern.MapsClone.clone) GQ, run_maps_clone_sl w EI hb];simp only [Result.andThen];rw [Oper.upon_value];go_wp2;rw [run_typeAssert_map_sl _ EI 20 _ _ _ underlying89];simp only [Result.andThen];rw [Oper.upon_value];go_wp2;exact OJ
abbrev o_ : Array Value := #[.map none, .slice none 0 0, .slice none 0 0, .slice none 0 0, .slice none 0 0]
theorem wI (q o m : Nat) (ho : o = 0 \/ o = 5) (t0 t1 t2 t3 : Value) (es : Array MapEntry) (clock : Nat) (w : World) (h0 : w.cell? (q, o) = some (.map (some m))) (h1 : w.cell? (q, o + 1) = some t0)
 (h2 : w.cell? (q, o + 2) = some t1) (h3 : w.cell? (q, o + 3) = some t2) (h4 : w.cell? (q, o + 4) = some t3) (hm : w.heap[m]? = some (.map es clock)) (h5 : #[t0, t1, t2, t3].all (·.oneCell') = true) :
 Calls prog 31 #[(q, o)] w λ e w' => e = .returned (.agg #[.map (some (w.heap.size + 1)), t0, t1, t2, t3]) /\ Below w w w' ∧
  w'.heap[w.heap.size + 1]? = some (.map es clock) := by
 have HM := hd1 hm;have H5 := hd1 h5;clear h5;have ltm : m < w.heap.size := (Jf.1 hm).1;have lt := IX h0;simp only at lt;have ne : Nonempty (Wd (Below w w)) := ⟨⟨w, Below.refl _ _⟩⟩;clear hm;rcases ho with rfl | rfl
 all_goals
  have x0 : ∀ x : Wd (Below w w), _ := λ x => (x.ok.cell (p := ⟨q, _, none⟩) lt).trans h0;have x1 : ∀ x : Wd (Below w w), _ := λ x => (x.ok.cell (p := ⟨q, _, none⟩) lt).trans h1;have x2 : ∀ x : Wd (Below w w), _ := λ x => (x.ok.cell (p := ⟨q, _, none⟩) lt).trans h2;have x3 : ∀ x : Wd (Below w w), _ := λ x => (x.ok.cell (p := ⟨q, _, none⟩) lt).trans h3;have x4 : ∀ x : Wd (Below w w), _ := λ x => (x.ok.cell (p := ⟨q, _, none⟩) lt).trans h4;simp only [I8, Nat.reduceAdd] at x0 x1 x2 x3 x4;go_in;go_wp2;refine bC (λ w' => ∃ x : Wd (Below w w), w' = x.world) [] GQ ?_;refine aI [0, 1, 2, 3, 5, 6, 7, 8] 3 _ ⟨⟨_, (bla).drew⟩, rfl⟩ GQ ?_;refine G9 ?_;refine az 4 2 _ _ rfl GQ ?_;refine IE rfl λ K hK => ?_;go_simp;go_at_call 64;refine (x2k m es clock _ ?_).mono ?_
  ·exact (JL w _ m ltm).trans HM.out
  rintro e w' ⟨rfl, rfl⟩;refine hK _ _ (IB ⟨rfl, λ _ => ⟨⟨_, ((bla).drew.alloc GV _)⟩, rfl⟩, ?_⟩);clear hK K;refine aI [9] 1 _ ⟨⟨_, ((bla).drew.alloc GV _)⟩, rfl⟩ GQ ?_;refine G9 ?_;refine az 10 0 _ _ rfl GQ ?_;have r0 : ((w.alloc (.cells o_ 91)).drew.alloc (.map es clock)).heap[w.heap.size]? = some (.cells o_ 91) := (JL _ _ _ GV).trans (IC w _);have r1 : ((w.alloc (.cells o_ 91)).drew.alloc (.map es clock)).heap[w.heap.size + 1]? = some (.map es clock) := by
   have := IC (w.alloc (.cells o_ 91)).drew (.map es clock);simpa using this
  refine aC rfl 91 _ _ rfl w.heap.size #[.map (some (w.heap.size + 1)), t0, t1, t2, t3] rfl rfl 91 o_ r0 GQ GQ (by have := H5.out; simp at this ⊢; exact ⟨rfl, this⟩) ?_;intro W1 HW dH HS;have HW1 := hd1 ((dH.block (w.heap.size + 1) GV GR).trans r1);have HB : Below w w W1 := ((bla).drew.alloc GV _).trans ⟨dH.os, dH.tape, dH.output, dH.size, λ k hk => dH.block k N_ GR⟩;clear r0 r1;refine IB ⟨rfl, λ _ => ⟨⟨_, HB⟩, rfl⟩, GQ, ?_⟩;go_wp2;refine Hd HW.out underlying91 GQ ?_;exact ⟨rfl, HB, HW1.out⟩
abbrev fu : Nat := 91
abbrev dU : Value := .slice none 0 0
abbrev x2w (m ml : Nat) (s b : Int) : Array Value := uf m dU dU dU dU ml dU dU dU dU dU s b false false 0
theorem x2y (s b : Int) (w : World) (h1 : ¬ s < 0) (h2 : ¬ 4096 < s) (h3 : ¬ b < 0) (h4 : ¬ 1048576 < b) :
 Calls prog 9 #[.int .i64 s, .int .i64 b] w λ e w' => ∃ p m ml, e = .returned (.tuple #[.pointer (some ⟨p, 0, none⟩), .int .i64 0]) /\ Below w w w' /\ w.heap.size <= m /\ m < ml /\ ml < p ∧
  w'.heap[p]? = some (.cells (x2w m ml s b) dO (0, 0)) /\ w'.heap[m]? = some (.map #[] 0) /\ w'.heap[ml]? = some (.map #[] 0) := by
 have hmm := @Ko prog;have hi : (prog.info? fu).map (·.size) = some 5 := GQ;have HI := hd1 hi;clear hi;go_in
 go_wp2_with (refine aC rfl fu _ _ rfl (w.heap.size + 1) #[.map (some w.heap.size), dU, dU, dU, dU] rfl rfl fu o_ (bD (w := w.alloc (.map #[] 0)) _ GV) HI.out GQ GQ ?_
              intro W1 HW dH HS)
 have hb1 : Below w w W1 := Moves.new ((bla).alloc GV _) dH GR;have z1 : W1.heap.size = w.heap.size + 2 := by rw [HS]; simp
 have r1 : W1.heap[w.heap.size]? = some (.map #[] 0) := (dH.block w.heap.size N_ (λ e => GR)).trans (aM GV (IC w _));have r2 := HW.out;clear dH HS HW hmm;have H1 := hd4 hb1 z1 r1 r2;have k : ∀ j v, (#[.map (some w.heap.size), dU, dU, dU, dU] : Array Value)[j]? = some v -> W1.drew.cell? ⟨w.heap.size + 1, j, none⟩ = some v := λ j v hj => ae (w := W1.drew) r2 hj;have CP := hd1 (wI (w.heap.size + 1) 0 w.heap.size (Iy rfl) dU dU dU dU #[] 0 W1.drew (k 0 _ rfl) (k 1 _ rfl) (k 2 _ rfl) (k 3 _ rfl) (k 4 _ rfl) r1 GQ);have ld : ∀ w', (∃ x : Wd (Below W1 W1), w' = x.world) -> (Instr.loadAt fu (.pointer (some (w.heap.size + 1, 0)))).run prog w' = .ok (.agg #[.map (some w.heap.size), dU, dU, dU, dU]) w' := by
  rintro w' ⟨x, rfl⟩;exact fK ((x.ok.block _ (aa r2)).trans r2) underlying91 rfl HI.out
 have LD := hd1 ld;clear k ld hb1 z1 r1 r2;have ne : Nonempty (Wd (Below W1 W1)) := ⟨⟨_, Below.refl _ _⟩⟩;refine bC (λ w' => ∃ x : Wd (Below W1 W1), w' = x.world) [] GQ ?_;refine aI [0, 2, 3] 5 _ Hq GQ ?_;simp only [fmc, fmn, gta, gcs, gcz];refine dX rfl fu (.tmp 6) rfl _ LD.out ?_;repeat refine G8 ?_
 refine aA ?_;refine az 1 4 _ _ rfl GQ ?_;refine IE rfl λ K hK => ?_;go_simp;go_at_call 31;refine CP.mono ?_;rintro e W2 ⟨rfl, hb2, r3⟩;have hb2' : Below W1 W1 W2 := GY.drew.trans hb2;have R3 := hd1 r3;clear r3 hb2;refine hK _ _ (IB ⟨rfl, λ _ => ⟨⟨_, hb2'⟩, rfl⟩, ?_⟩);clear hK K;refine aI [4] 3 _ ⟨⟨_, hb2'⟩, rfl⟩ GQ ?_;refine G9 ?_;refine az 5 2 _ _ rfl GQ ?_;refine IE rfl λ K hK => ?_;go_simp;refine hK _ _ (IB ⟨rfl, λ _ => ⟨⟨_, hb2'.alloc hb2'.size _⟩, rfl⟩, ?_⟩);clear hK K;refine aI [6, 7] 0 _ ⟨⟨_, hb2'.alloc hb2'.size _⟩, rfl⟩ GQ ?_;refine G9 ?_;refine ⟨GQ, ?_⟩;go_wp2;go_ret2;obtain ⟨b1, z1, r1, r2⟩ := H1.out;have r3 : W2.heap[W1.heap.size + 1]? = some (.map #[] 0) := R3.out;have z2 := hb2'.size;have lt3 : W1.heap.size + 1 < W2.heap.size := aa r3;refine ⟨W2.heap.size, w.heap.size, W1.heap.size + 1, rfl, b1.trans ((hb2'.alloc hb2'.size _).mono GR), Nat.le_refl _, GR, lt3, IC _ _, ?_, aM lt3 r3⟩;exact aM GR ((hb2'.block _ GR).trans r1)
theorem z4a {h : Array Obj} (hm : h[m]? = some (.map #[] 0)) : iZ h m (λ _ => zeros) :=
 ⟨#[], 0, hm, (λ e he => by simp at he), (λ e he => by simp at he), (λ _ _ => rfl), GV, GV⟩
theorem z8x (s b : Int) (h1 : ¬ s < 0) (h2 : ¬ 4096 < s) (h3 : ¬ b < 0) (h4 : ¬ 1048576 < b) : (Dm.new s b).ok :=
 ⟨by show 0 <= s; omega, by show s <= 4096; omega, by show 0 <= b; omega, by show b <= 1048576; omega, λ n => List.length_replicate, λ k t => (by show ((List.foldl St.done St.empty (List.take k [])).tp t).length <= b; rw [List.take_nil]; show (0 : Int) <= b; omega), (λ s hs => by cases hs), (by show (-1 : Int) <= -1; omega), MO⟩
def DR (w : World) (p m : Nat) : Nat -> Prop := λ k => w.heap.size <= k /\ k ≠ p /\ k ≠ m
theorem z8w (s b : Int) (w : World) (h : BD s b = 0) :
 Calls prog 9 #[.int .i64 s, .int .i64 b] w λ e w' => ∃ p m, e = .returned (.tuple #[.pointer (some ⟨p, 0, none⟩), .int .i64 0]) /\ Below w w w' /\ w.heap.size <= p /\ w.heap.size <= m /\ aQ w'.heap p m (Dm.new s b) (DR w p m) := by
 have hh : ¬ (s < 0 \/ s > 4096 \/ b < 0 \/ b > 1048576) := by
  intro hh;unfold BD at h;rw [IA hh] at h;cases h
 refine (x2y s b w GR GR GR GR).mono ?_;rintro e w' ⟨p, m, ml, rfl, hb, g1, g2, g3, c1, c2, c3⟩
 refine ⟨p, m, rfl, hb, GR, g1, z8x s b GR GR GR GR, dU, dU, dU, dU, ml, dU, dU, dU, dU, dU, false, 0, c1, rfl, (λ h => by cases h), z4a c2, z4a c3, ⟨GR, GR, GR⟩, (λ h => h.2.2 rfl), (λ h => h.2.1 rfl), GR,
  Iy ⟨rfl, rfl⟩, Iy ⟨rfl, rfl⟩, Iy ⟨rfl, rfl⟩, Iy ⟨rfl, rfl⟩, Iy ⟨rfl, rfl⟩, Iy ⟨rfl, rfl⟩, Iy ⟨rfl, rfl⟩, Iy ⟨rfl, rfl⟩, Iy ⟨rfl, rfl⟩⟩
theorem y5a (p : Nat) (c : Int) (w : World) (R : World -> Prop) (hc : c = 281) (h : w.cell? (p, 16) = some (.bool true))
 (hg : Calls prog 102 #[p] w λ e w' => e = .returned (.int .i64 c) /\ R w') :
 Calls prog 60 #[p] w λ e w' => e = .returned (.int .i64 281) /\ R w' := by
 subst hc;have HG := hd1 hg;clear hg;go_in;go_wp2_with (first | (go_at_call 45; refine (gY p true _ h).mono ?_; rintro e w' ⟨rfl, rfl⟩) | (go_at_call 102; refine HG.mono ?_; rintro e w' ⟨rfl, hr⟩))
 go_ret;exact ⟨rfl, hr⟩
def mD (m : Nat) (t0 t1 t2 t3 : Value) (ml : Nat) (l0 l1 l2 l3 wv : Value) (many most : Int) (dead stops : Bool) (after : Int) : List Value := .map (some m) :: t0 :: t1 :: t2 :: t3 :: gp ml l0 l1 l2 l3 wv many most dead stops after
def w1x (p m : Nat) (R1 : World -> Prop) (P1 : World -> Nat -> Value -> Value -> Value -> Value -> Value -> Value -> Value -> Value -> Value -> Int -> Int -> Bool -> Bool -> Int -> Array MapEntry -> Nat -> Prop) (e : Ending) (w' : World) : Prop :=
 e = .returned (.int .i64 0) /\ ∃ W1 t0 t1 t2 t3 ml l0 l1 l2 l3 wv many most dead stops after es clock kV,
  R1 W1 /\ P1 W1 ml t0 t1 t2 t3 l0 l1 l2 l3 wv many most dead stops after es clock /\ Moves (λ k => k = p) W1 w' /\ W1.heap.size <= kV /\ w'.heap[kV]? = some (.map es clock) ∧
  w'.heap[p]? = some (.cells (mD m t0 t1 t2 t3 kV t0 t1 t2 t3 (.slice none 0 0) many most dead stops after).toArray dO (0, 0))
theorem y5b (p m : Nat) (t0 t1 t2 t3 : Value) (w : World) (R1 : World -> Prop) (P1 : World -> Nat -> Value -> Value -> Value -> Value -> Value -> Value -> Value -> Value -> Value -> Int -> Int -> Bool -> Bool -> Int -> Array MapEntry -> Nat -> Prop) (h : w.cell? (p, 16) = some (.bool true))
 (hg : Calls prog 102 #[p] w λ e w' => e = .returned (.int .i64 0) /\ R1 w')
 (hr : ∀ W1, R1 W1 -> ∃ t0 t1 t2 t3 ml l0 l1 l2 l3 wv many most dead stops after es clock, W1.heap[p]? = some (.cells (mD m t0 t1 t2 t3 ml l0 l1 l2 l3 wv many most dead stops after).toArray dO (0, 0)) /\ W1.heap[m]? = some (.map es clock) /\ #[t0, t1, t2, t3].all (·.oneCell') = true ∧
  P1 W1 ml t0 t1 t2 t3 l0 l1 l2 l3 wv many most dead stops after es clock) :
 Calls prog 60 #[p] w (w1x p m R1 P1) := by
 have hi : (prog.info? fu).map (·.size) = some 5 := GQ;have HI := hd1 hi;have HG := hd1 hg;have HR := hd1 hr;clear hi hg hr;go_in
 go_wp2_with (first
  | (go_at_call 45; refine (gY p true _ h).mono ?_; rintro e w' ⟨rfl, rfl⟩)
  | (go_at_call 102; refine HG.mono ?_; rintro e W1 ⟨rfl, q1⟩
     obtain ⟨t0, t1, t2, t3, ml, l0, l1, l2, l3, wv, many, most, dead, stops, after, es, clock, c1, c2, c3, q2⟩ := HR.out W1 q1;have Q := hd2 q1 q2;have C := hd3 c1 c2 c3;clear c1 c2 c3 q1 q2)
  | (go_at_call 31
     refine (wI p 0 m (Iy rfl) t0 t1 t2 t3 es clock W1 (ae C.1 rfl) (ae C.1 rfl) (ae C.1 rfl) (ae C.1 rfl) (ae C.1 rfl) C.2.1 C.2.2).mono ?_;rintro e W2 ⟨rfl, hb2, r2⟩;have C2 := hd3 hb2 r2 ((hb2.block p (aa C.1)).trans C.1);clear hb2 r2)
  | (refine nU rfl fu (.tmp 18) (.tmp 16) rfl p 5 #[.map (some (W1.heap.size + 1)), t0, t1, t2, t3] rfl rfl dO _ C2.2.2 HI.out (by simp [mD, gp]) (by have := C.2.2; simp at this ⊢; exact ⟨rfl, this⟩) ?_
     intro W3 HW HM HS;have k10 : ∃ v, W3.cell? (p, 10) = some v := ⟨_, ae HW.out rfl⟩;have f10 : W3.frozen? ⟨p, 10, none⟩ = false := aZ HW.out _;obtain ⟨v10, k10⟩ := k10;have bU := hd2 HM HS;clear HM HS))
 go_ret;obtain ⟨q1, q2⟩ := Q.out;obtain ⟨b2, r2, r3⟩ := C2.out;obtain ⟨m3, z3⟩ := bU.out;have y := IQ W3 p 10 _ dO (.slice none 0 0) HW.out;have hp : p < W1.heap.size := aa C.1;refine ⟨rfl, W1, t0, t1, t2, t3, ml, l0, l1, l2, l3, wv, many, most, dead, stops, after, es, clock, W1.heap.size + 1, q1, q2, ?_, GR, ?_, ?_⟩
 ·have s2 := b2.size
  exact ⟨(m3.os.trans b2.os), m3.tape.trans b2.tape, m3.output.trans b2.output, by have := m3.size; simp; omega, λ k hk hn => by rw [IU _ _ _ _ hn, m3.block k GR hn, b2.block k hk]⟩
 ·rw [IU _ _ _ _ (by show W1.heap.size + 1 ≠ p; omega), m3.block _ (aa r2) GR, r2]
 ·rw [y]
  simp [mD, gp, qJ]
theorem BytesAt.one {h : Array Obj} (x : BytesAt h F v l) : v.oneCell' = true := by
 obtain ⟨a, c, rfl⟩ := x.slice;rfl
theorem z3a {d : D} (h : d.ok) (d' : D) (e1 : d'.many = d.many) (e2 : d'.room = d.room) (e3 : d'.lasts = d.stand) (e4 : d'.waits = []) (h1 : -1 <= d'.stops) (h2 : d'.stops <= 9223372036854775807) : d'.ok := by
 refine ⟨by rw [e1]; exact h.vR, by rw [e1]; exact h.many1, by rw [e2]; exact h.pz, by rw [e2]; exact h.fE, by rw [e3]; exact y6l h, λ k t => ?_, λ y hy => ?_, h1, h2⟩
 ·unfold D.upto
  rw [e2, e3, e4, List.take_nil];exact kC h t
 ·rw [e4] at hy; cases hy
theorem z4z {d : D} (x : aQ w.heap p m d F) : Calls prog 60 #[p] w (Left w p m F d.sync) := by
 obtain ⟨lp, lm, hne, np, nm⟩ := x.lt;obtain ⟨k16, _⟩ := x.lu;have hg := z9c x;have pn : ∀ w' : World, ¬ plus F w w' p /\ ¬ plus F w w' m := λ w' => ⟨λ h => by rcases h with h | h; exact np h; omega, λ h => by rcases h with h | h; exact nm h; omega⟩;rcases Cv d with h0 | h0
 ·have e2 : d.sync = ({ d.goes.1 with lasts := d.stand, waits := [] }, 0) := by unfold D.sync; rw [IA h0]
  rw [e2];rw [h0] at hg
  refine (y5b p m .nilFunc .nilFunc .nilFunc .nilFunc w _ (λ W1 ml t0 t1 t2 t3 l0 l1 l2 l3 wv many most dead stops after es clock => many = d.many /\ most = d.room /\ dead = d.goes.1.dead /\ iY W1.heap p m d.stand F dO (gp ml l0 l1 l2 l3 wv many most dead stops after) ∧
   (d.goes.1.stops = if stops then after else -1) /\ (stops = true -> 0 <= after) /\ BytesAt W1.heap F t0 (d.stand.tp 0) /\ BytesAt W1.heap F t1 (d.stand.tp 1) /\ BytesAt W1.heap F t2 (d.stand.tp 2) /\ BytesAt W1.heap F t3 (d.stand.tp 3) /\ W1.heap[m]? = some (.map es clock) /\ iZ W1.heap m d.stand.sec) k16 hg ?_).mono ?_
  ·rintro W1 ⟨hm1, hz1, hd1⟩
   obtain ⟨ml, l0, l1, l2, l3, wv, stops, after, sa, ra⟩ := hd1.parts;rw [z0i, q8, tO] at sa;have sa' := sa;obtain ⟨t0, t1, t2, t3, c1, c2, b0, b1, b2, b3, n1, n2, n3⟩ := sa;have c2' := c2;obtain ⟨es, clock, c3, _⟩ := c2;exact ⟨t0, t1, t2, t3, ml, l0, l1, l2, l3, wv, d.many, d.room, d.goes.1.dead, stops, after, es, clock, c1, c3, by simp [b0.one, b1.one, b2.one, b3.one], rfl, rfl, rfl, sa', ra.hst, ra.tJ, b0, b1, b2, b3, c3, c2'⟩
  ·rintro e w' ⟨rfl, W1, t0, t1, t2, t3, ml, l0, l1, l2, l3, wv, many, most, dead, stops, after, es, clock, kV, ⟨hm1, hz1, hd1⟩, ⟨rfl, rfl, rfl, sa, hst, tJ, b0, b1, b2, b3, c3, c2⟩, mv, g1, g2, g3⟩
   have s1 := mv.size;have hmv : Moves (λ k => k = p \/ k = m) w w' := (hm1.mono (λ _ => Iy)).trans mv (λ i _ e => Iy e);have g1' := y9 x.ok;have keep : ∀ k, F k -> k < W1.heap.size -> w'.heap[k]? = W1.heap[k]? := λ k hk hl => mv.block k hl (λ e => np (e ▸ hk));have big : ∀ k, F k -> k < W1.heap.size -> plus F w w' k := λ k h _ => Iy h;have st : ({ d.goes.1 with lasts := d.stand, waits := [] } : D).stand = d.stand := rfl;have hl' : kV < w'.heap.size := aa g2;have sm : iZ w'.heap kV d.stand.sec := by
    obtain ⟨es', cl', y1, y2⟩ := c2;rw [c3] at y1;simp only [Jv, Obj.map.injEq] at y1;obtain ⟨rfl, rfl⟩ := y1;exact ⟨es, clock, g2, y2⟩
   refine ⟨rfl, hmv, aQ.of (ml := kV) (l0 := t0) (l1 := t1) (l2 := t2) (l3 := t3) (wv := .slice none 0 0) (stops := stops) (after := after) ?_ ?_ ?_⟩
   ·exact z3a x.ok _ (q8 d) (tO d) rfl rfl g1'.stops g1'.si
   ·rw [st]
    refine ⟨t0, t1, t2, t3, ?_, c2.stays (mv.block m GR hne), b0.keeps keep big, b1.keeps keep big, b2.keeps keep big, b3.keeps keep big, (pn w').2, (pn w').1, hne⟩;simp only [q8, tO];exact g3
   ·exact ⟨hst, tJ, sm, Iz ⟨GR, hl'⟩, b0.keeps keep big, b1.keeps keep big, b2.keeps keep big, b3.keeps keep big, Iy ⟨rfl, rfl⟩⟩
 ·have hne0 : ¬ d.goes.2 = 0 := GR
  have e2 : d.sync = (d.goes.1, d.goes.2) := by unfold D.sync; rw [Iw hne0]
  rw [e2];refine (y5a p d.goes.2 w _ h0 k16 hg).mono ?_;rintro e w' ⟨rfl, hm1, hz1, hd1⟩;exact ⟨by rw [h0], hm1.mono (λ _ => Iy), hd1.weak (λ k h _ => Iy h) (pn _).1 (pn _).2⟩
def w1g (w : World) (t0 t1 t2 t3 l0 l1 l2 l3 wv : Value) (many most : Int) (dead stops : Bool) (after : Int) (es es2 : Array MapEntry) (clock clock2 : Nat) (e : Ending) (w' : World) : Prop :=
 ∃ m' kV, e = .returned (.pointer (some ⟨w.heap.size, 0, none⟩)) /\ Below w.heap.size w w' /\ w.heap.size < m' /\ m' < kV /\ w'.heap[m']? = some (.map es clock) /\ w'.heap[kV]? = some (.map es2 clock2) ∧
  w'.heap[w.heap.size]? = some (.cells (mD m' t0 t1 t2 t3 kV l0 l1 l2 l3 wv many most dead stops after).toArray dO (0, 0))
theorem x7m (p m ml : Nat) (t0 t1 t2 t3 l0 l1 l2 l3 wv : Value) (many most : Int) (dead stops : Bool) (after : Int) (es es2 : Array MapEntry) (clock clock2 : Nat) (w : World)
 (h : w.cell? (p, 16) = some (.bool true)) (c1 : w.heap[p]? = some (.cells (mD m t0 t1 t2 t3 ml l0 l1 l2 l3 wv many most dead stops after).toArray dO (0, 0))) (c2 : w.heap[m]? = some (.map es clock)) (c3 : w.heap[ml]? = some (.map es2 clock2))
 (h5 : #[t0, t1, t2, t3].all (·.oneCell') = true) (h6 : #[l0, l1, l2, l3].all (·.oneCell') = true) (h7 : wv.oneCell' = true) :
 Calls prog 47 #[p] w (w1g w t0 t1 t2 t3 l0 l1 l2 l3 wv many most dead stops after es es2 clock clock2) := by
 have hi : (prog.info? fu).map (·.size) = some 5 := GQ;have hi2 : (prog.info? dO).map (·.size) = some 17 := GQ;have ones : (mD m t0 t1 t2 t3 ml l0 l1 l2 l3 wv many most dead stops after).toArray.all (·.oneCell') = true := by
  simp at h5 h6;simp [mD, gp, h5, h6, h7];simp [Value.oneCell']
 have HI := hd3 hi hi2 ones;have C := hd5 c1 c2 c3 h5 h6;clear hi hi2 c1 c2 c3 h5 h6 h7 ones;generalize hL : (mD m t0 t1 t2 t3 ml l0 l1 l2 l3 wv many most dead stops after).toArray = L at *;have HL := hd1 hL;clear hL;go_in
 go_wp2_with (first
  | (go_at_call 45; refine (gY p true _ h).mono ?_; rintro e w' ⟨rfl, rfl⟩)
  | (refine II rfl dO (.tmp 7) rfl p rfl dO L (0, 0) _ C.1 underlying95 rfl (by rw [<-HL.out]; exact HI.2.1) ?_)
  | (refine aC rfl dO _ _ rfl w.heap.size L rfl rfl dO _ (IC w _) (by rw [<-HL.out]; exact HI.2.1) (by rw [<-HL.out]; rfl) HI.2.2 ?_
     intro W1 HW dH HS))
 have hb1 : Below w w W1 := Moves.new (bla) dH GZ;have z1 : W1.heap.size = w.heap.size + 1 := by rw [HS]; simp
 have HB := hd2 hb1 z1;clear dH HS hb1 z1;have ne : Nonempty (Wd (Below w w)) := ⟨⟨_, Below.refl _ _⟩⟩;refine bC (λ w' => ∃ x : Wd (Below w w), w' = x.world) [] GQ ?_;refine aI [0, 1, 2, 4, 5, 6] 6 _ ⟨⟨_, HB.1.drew⟩, rfl⟩ GQ ?_;refine G9 ?_;refine az 3 5 _ _ rfl GQ ?_;refine IE rfl λ K hK => ?_;go_simp;go_at_call 31;have lt : p < w.heap.size := aa C.1;have r1 : W1.drew.heap[p]? = some (.cells L dO) := (HB.1.block p lt).trans C.1;rw [<-HL.out] at r1;refine (wI p 0 m (Iy rfl) t0 t1 t2 t3 es clock W1.drew (ae r1 rfl) (ae r1 rfl) (ae r1 rfl) (ae r1 rfl) (ae r1 rfl) ((HB.1.block m (aa C.2.1)).trans C.2.1) C.2.2.2.1).mono ?_;rintro e W2 ⟨rfl, hb2, r2⟩;have hb2' : Below w w W2 := HB.1.drew.trans (hb2.mono (by have := HB.2; show w.heap.size <= W1.heap.size; omega));have H2 := hd3 hb2 r2 ((hb2.block p (by have := HB.2; show p < W1.heap.size; omega)).trans r1);clear hb2 r2 r1;refine hK _ _ (IB ⟨rfl, λ _ => ⟨⟨_, hb2'⟩, rfl⟩, ?_⟩);clear hK K;refine az 7 4 _ _ rfl GQ ?_;refine IE rfl λ K hK => ?_;go_simp;go_at_call 31;have r1 := H2.2.2;refine (wI p 5 ml (Iz rfl) l0 l1 l2 l3 es2 clock2 W2 (ae r1 rfl) (ae r1 rfl) (ae r1 rfl) (ae r1 rfl) (ae r1 rfl) ((hb2'.block ml (aa C.2.2.1)).trans C.2.2.1) C.2.2.2.2).mono ?_;rintro e W3 ⟨rfl, hb3, r3⟩;have z2 : w.heap.size + 1 <= W2.heap.size := by have := HB.2; have := H2.1.size; have : W1.heap.size <= W2.heap.size := this; omega
 have qX : Below w w W3 := hb2'.trans (hb3.mono GR);have rn : W3.heap[w.heap.size]? = some (.cells L dO) := by
  rw [hb3.block _ GR, H2.1.block _ (by have := HB.2; show w.heap.size < W1.heap.size; omega)];exact HW.out
 rw [<-HL.out] at rn;have H3 := hd4 hb3 r3 rn z2;clear hb3 r3 rn r1;refine hK _ _ (IB ⟨rfl, λ _ => ⟨⟨_, qX⟩, rfl⟩, ?_⟩);clear hK K;refine aI [8] 3 _ ⟨⟨_, qX⟩, rfl⟩ GQ ?_;refine G9 ?_;refine az 9 2 _ _ rfl GQ ?_;refine nU rfl fu (.tmp 17) (.tmp 12) rfl w.heap.size 0 #[.map (some (W1.heap.size + 1)), t0, t1, t2, t3] rfl rfl dO _ H3.2.2.1 HI.1 (by simp [mD, gp]) (by have := C.2.2.2.1; simp at this ⊢; exact ⟨rfl, this⟩) ?_;intro W4 g_ jc mH;have hb4 : Below w w W4 := Moves.new qX jc GZ;have H4 := hd2 jc mH;clear jc mH;refine IB ⟨rfl, λ _ => ⟨⟨_, hb4⟩, rfl⟩, ?_⟩;refine aI [10] 1 _ ⟨⟨_, hb4⟩, rfl⟩ GQ ?_;refine G9 ?_;refine az 11 0 _ _ rfl GQ ?_;refine nU rfl fu (.tmp 18) (.tmp 16) rfl w.heap.size 5 #[.map (some (W2.heap.size + 1)), l0, l1, l2, l3] rfl rfl dO _ g_.out HI.1 (by simp [mD, gp, qJ]) (by have := C.2.2.2.2; simp at this ⊢; exact ⟨rfl, this⟩) ?_;intro W5 aF aB bf;have hb5 : Below w w W5 := Moves.new hb4 aB GZ;have H5 := hd2 aB bf;clear aB bf;refine IB ⟨rfl, λ _ => ⟨⟨_, hb5⟩, rfl⟩, GQ, ?_⟩;go_wp2;go_ret;obtain ⟨b2, r2, _⟩ := H2.out;obtain ⟨b3, r3, _, z2⟩ := H3.out;obtain ⟨m4, s4⟩ := H4.out;obtain ⟨m5, s5⟩ := H5.out;have z1 := HB.2;have r2' : W2.heap[W1.heap.size + 1]? = some (.map es clock) := r2;have l2' := aa r2';have l3 := aa r3;refine ⟨W1.heap.size + 1, W2.heap.size + 1, rfl, hb5, GR, GR, ?_, ?_, ?_⟩
 ·rw [m5.block _ GR GR, m4.block _ GR GR, b3.block _ l2', r2']
 ·rw [m5.block _ GR GR, m4.block _ l3 GR, r3]
 ·rw [aF.out]
  simp [mD, gp, qJ]
def y3v (F : Nat -> Prop) (w w' : World) (p m : Nat) : Nat -> Prop := λ k => (F k /\ k < w.heap.size) \/ (w.heap.size <= k /\ k < w'.heap.size /\ k ≠ p /\ k ≠ m)
theorem iZ.other {h h' : Array Obj} {m' : Nat} {f : Int -> List UInt8} {es : Array MapEntry} {clock : Nat} (x : iZ h m f) (h1 : h[m]? = some (.map es clock)) (h2 : h'[m']? = some (.map es clock)) : iZ h' m' f := by
 obtain ⟨es', cl', y1, y2⟩ := x;rw [h1] at y1;simp only [Jv, Obj.map.injEq] at y1;obtain ⟨rfl, rfl⟩ := y1;exact ⟨es, clock, h2, y2⟩
theorem jX.one {h : Array Obj} {l : List Step} (x : jX h F v l) : v.oneCell' = true := by
 rcases x with ⟨rfl, _⟩ | ⟨b, o, cap, c, t, fr, rfl, _⟩ <;> rfl
theorem x7l {d : D} (x : aQ w.heap p m d F) : Calls prog 47 #[p] w λ e w' =>
 ∃ m', e = .returned (.pointer (some w.heap.size)) /\ Below w w w' /\ w.heap.size <= m' /\ aQ w'.heap w.heap.size m' d (y3v F w w' w.heap.size m') := by
 obtain ⟨k16, _⟩ := x.lu;have ok := x.ok;obtain ⟨_, t0, t1, t2, t3, ml, l0, l1, l2, l3, wv, stops, after, c1, c2, c3, c4, c5, c6, c7, c8, c9, b0, b1, b2, b3, b4, b5, b6, b7, st⟩ := x;obtain ⟨es, clock, q1, q2⟩ := c4;obtain ⟨es2, clock2, q3, q4⟩ := c5;refine (x7m p m ml t0 t1 t2 t3 l0 l1 l2 l3 wv d.many d.room d.dead stops after es es2 clock clock2 w k16 c1 q1 q3 (by simp [b0.one, b1.one, b2.one, b3.one]) (by simp [b4.one, b5.one, b6.one, b7.one]) st.one).mono ?_;rintro e w' ⟨m', kV, rfl, hb, g1, g2, r1, r2, r3⟩;have keep : ∀ k, F k -> k < w.heap.size -> w'.heap[k]? = w.heap[k]? := λ k _ hl => hb.block k hl;have big : ∀ k, F k -> k < w.heap.size -> y3v F w w' w.heap.size m' k := λ k h hl => Iy ⟨h, hl⟩
 refine ⟨m', rfl, hb, GR, ok, t0, t1, t2, t3, kV, l0, l1, l2, l3, wv, stops, after, r3, c2, c3, ?_, ?_, Iz ⟨GR, aa r2, GR, GR⟩, ?_, ?_, GR,
  b0.keeps keep big, b1.keeps keep big, b2.keeps keep big, b3.keeps keep big, b4.keeps keep big, b5.keeps keep big, b6.keeps keep big, b7.keeps keep big, st.keeps keep big⟩
 ·exact ⟨es, clock, r1, q2⟩
 ·exact ⟨es2, clock2, r2, q4⟩
 ·rintro (h | h)
  ·omega
  ·exact h.2.2.2 rfl
 ·exact QY
def eD (c : bH) (n i : Nat) (s : Step) (x : St) : St := if c.dz n i then x.part s c.part else if c.kept i then x.done s else x
def gq (c : bH) (n i : Nat) (s : Step) (en : Int -> Bool) : Int -> Bool := if s.what ≠ 1 then upd en s.n (c.dz n i || !c.kept i) else en
theorem Da (c : bH) (n i : Nat) (s : Step) (l : List Step) (x : St) (en : Int -> Bool) (h : s.what ≠ 1 /\ en s.n = true) : eG c n (s :: l) i x en = eG c n l (i + 1) x en := by
 rw [eG, IA h]
theorem qd (c : bH) (n i : Nat) (s : Step) (l : List Step) (x : St) (en : Int -> Bool) (h : ¬ (s.what ≠ 1 /\ en s.n = true)) : eG c n (s :: l) i x en = eG c n l (i + 1) (eD c n i s x) (gq c n i s en) := by
 rw [eG, Iw h]; rfl
theorem xI {d : D} {i : Nat} {s : Step} (h : d.waits[i]? = some s) : d.upto (i + 1) = (d.upto i).done s := by
 unfold D.upto;have hl := (IY.1 h).1;rw [List.take_succ_eq_append_getElem hl, Kr, (IY.1 h).2];rfl
theorem y0f (x : St) (s : Step) (t : Int) (h : s.what = 1) : (x.done s).tp t = x.tp t := by simp [St.done, h]
theorem CX (x : St) (s : Step) (t : Int) (h : t ≠ s.n) : (x.done s).tp t = x.tp t := by
 unfold St.done;split
 ·rfl
 ·split <;> simp [upd, h]
theorem x1z (x : St) (s : Step) (t k : Int) (h : s.what = 1) : (x.part s k).tp t = x.tp t := by simp [St.part, St.done, h]
theorem z7l (x : St) (s : Step) (t k : Int) (h : t ≠ s.n) : (x.part s k).tp t = x.tp t := by
 unfold St.part;split
 ·simp [St.done]
 ·split
  ·simp [St.done, upd, h]
  ·rfl
theorem x1y (x : St) (s : Step) (k : Int) (h : s.what ≠ 1) : (x.part s k).tp s.n <+: (x.done s).tp s.n \/ (x.part s k).tp s.n = x.tp s.n := by
 by_cases h2 : s.what = 2
 ·left
  simp only [St.part, Iw h, IA h2, St.done, upd_same];rw [Iw GR, IA trivial];simp only [upd_same];exact List.prefix_append_right_inj _ |>.2 (List.take_prefix _ _)
 ·right
  simp [St.part, h, h2]
theorem z7k {x : St} {s : Step} {many : Int} (hx : ∀ n, (x.sec n).length = 256) (hs : s.ok many) (k : Int) : ∀ n, ((x.part s k).sec n).length = 256 := by
 intro n;unfold St.part;split
 ·rename_i h1
  have hb : s.b.length = 256 := by
   exact Pz
  simp only [St.done, I1, upd];split
  ·have p1 : 0 <= pick k 257 := LA _ GR
   have p2 : pick k 257 < 257 := Int.emod_lt_of_pos _ GR;have := hx s.n;simp only [IL, I4, I5];omega
  ·exact hx n
 ·split
  ·simp only [St.done]
   simpa using hx n
  ·exact hx n
structure gz (d : D) (i : Nat) (x : St) (en : Int -> Bool) : Prop where
 tp : ∀ t, en t = false -> x.tp t = (d.upto i).tp t
 pre : ∀ t, ∃ k, k <= i /\ x.tp t <+: (d.upto k).tp t
 sec : ∀ n, (x.sec n).length = 256
theorem gz.room {d : D} {i : Nat} {x : St} {en : Int -> Bool} (h : gz d i x en) (hd : d.ok) (t : Int) : (x.tp t).length <= d.room := by
 obtain ⟨k, _, hk⟩ := h.pre t;have := hd.tape k t;have := hk.length_le;omega
theorem gz.start {d : D} (hd : d.ok) : gz d 0 d.lasts (λ _ => false) :=
 ⟨λ t _ => by simp [D.upto], λ t => ⟨0, Nat.le_refl _, by simp [D.upto]⟩, hd.sec⟩
theorem gz.skip {d : D} {i : Nat} {x : St} {en : Int -> Bool} (h : gz d i x en) {s : Step} (hs : d.waits[i]? = some s) (hk : s.what ≠ 1 /\ en s.n = true) : gz d (i + 1) x en := by
 refine ⟨λ t ht => ?_, λ t => ?_, h.sec⟩
 ·have hne : t ≠ s.n := λ e => by rw [e, hk.2] at ht; cases ht
  rw [xI hs, CX _ _ _ hne];exact h.tp t ht
 ·obtain ⟨k, h1, h2⟩ := h.pre t
  exact ⟨k, GR, h2⟩
theorem gz.step {d : D} (hd : d.ok) {i : Nat} {x : St} {en : Int -> Bool} (h : gz d i x en) {s : Step} (hs : d.waits[i]? = some s) (c : bH) (n : Nat) (hk : ¬ (s.what ≠ 1 /\ en s.n = true)) : gz d (i + 1) (eD c n i s x) (gq c n i s en) := by
 have ok : s.ok d.many := hd.waits s (Jb hs);have old : ∀ t, ∃ k, k <= i + 1 /\ x.tp t <+: (d.upto k).tp t := λ t => by
  obtain ⟨k, h1, h2⟩ := h.pre t;exact ⟨k, GR, h2⟩
 by_cases h1 : s.what = 1
 ·have tpx : ∀ t, (eD c n i s x).tp t = x.tp t := λ t => by
   unfold eD;split
   ·exact x1z _ _ _ _ h1
   ·split
    ·exact y0f _ _ _ h1
    ·rfl
  have ee : gq c n i s en = en := by simp [gq, h1]
  refine ⟨λ t ht => ?_, λ t => ?_, ?_⟩
  ·rw [ee] at ht
   rw [tpx, xI hs, y0f _ _ _ h1];exact h.tp t ht
  ·rw [tpx]; exact old t
  ·exact Qy
 ·have hen : en s.n = false := by
   cases he : en s.n
   ·rfl
   ·exact absurd ⟨h1, he⟩ hk
  have ee : gq c n i s en = upd en s.n (c.dz n i || !c.kept i) := by simp [gq, h1]
  have tpo : ∀ t, t ≠ s.n -> (eD c n i s x).tp t = x.tp t := λ t ht => by
   unfold eD;split
   ·exact z7l _ _ _ _ ht
   ·split
    ·exact CX _ _ _ ht
    ·rfl
  have dn : (x.done s).tp s.n = (d.upto (i + 1)).tp s.n := by
   rw [xI hs];have := h.tp s.n hen;unfold St.done;rw [Iw h1, Iw h1];split <;> simp [upd, this]
  refine ⟨λ t ht => ?_, λ t => ?_, ?_⟩
  ·rw [ee] at ht
   by_cases e : t = s.n
   ·subst e
    rw [upd_same] at ht;simp only [Bool.or_eq_false_iff, Bool.not_eq_false'] at ht;unfold eD;rw [Iw (by simp [ht.1]), IA ht.2];exact dn
   ·rw [rY _ _ _ _ e] at ht
    rw [tpo t e, xI hs, CX _ _ _ e];exact h.tp t ht
  ·by_cases e : t = s.n
   ·subst e
    unfold eD;split
    ·rcases x1y x s c.part h1 with hp | hp
     ·exact ⟨i + 1, Nat.le_refl _, by rw [<-dn]; exact hp⟩
     ·rw [hp]; exact old _
    ·split
     ·exact ⟨i + 1, Nat.le_refl _, by rw [dn]; exact List.prefix_refl _⟩
     ·exact old _
   ·rw [tpo t e]; exact old t
  ·exact Qy
theorem gz.all {d : D} (hd : d.ok) (c : bH) (n : Nat) : ∀ (l : List Step) (i : Nat) (x : St) (en : Int -> Bool), d.waits.drop i = l -> gz d i x en -> ∃ en', gz d d.waits.length (eG c n l i x en) en'
 | [], i, x, en, hl, h => by
  have hi : d.waits.length <= i := Mh.1 hl;refine ⟨en, λ t ht => ?_, λ t => ?_, h.sec⟩
  ·rw [eG, h.tp t ht]
   unfold D.upto;rw [Je hi, Je GZ]
  ·obtain ⟨k, h1, h2⟩ := h.pre t
   rw [eG];by_cases hk : k <= d.waits.length
   ·exact ⟨k, hk, h2⟩
   ·refine ⟨d.waits.length, Nat.le_refl _, ?_⟩
    unfold D.upto at h2 ⊢;rw [Je GR] at h2 ⊢;exact h2
 | s :: l, i, x, en, hl, h => by
  have hs : d.waits[i]? = some s := by
   have := IG (·[0]?) hl;simpa using this
  have hl' : d.waits.drop (i + 1) = l := by
   rw [<-List.drop_drop, hl]; rfl
  by_cases hk : s.what ≠ 1 /\ en s.n = true
  ·rw [Da _ _ _ _ _ _ _ hk]
   exact gz.all hd c n l (i + 1) x en hl' (h.skip hs hk)
  ·rw [qd _ _ _ _ _ _ _ hk]
   exact gz.all hd c n l (i + 1) _ _ hl' (h.step hd hs c n hk)
theorem y1x {d : D} (hd : d.ok) (c : bH) : (d.aT c).ok := by
 obtain ⟨en, h⟩ := gz.all hd c d.waits.length d.waits 0 d.lasts (λ _ => false) rfl (gz.start hd);refine ⟨hd.vR, hd.many1, hd.pz, hd.fE, h.sec, λ k t => ?_, (λ s hs => by cases hs), (by show (-1 : Int) <= -1; omega), MO⟩;have e : (d.aT c).upto k = (d.aT c).lasts := by unfold D.upto; show List.foldl St.done _ (List.take k []) = _; rw [List.take_nil]; rfl
 rw [e];exact h.room hd t
def nT (h : Array Obj) (v : Value) (l : List Bool) : Prop :=
 ((∃ a c, v = .slice a 0 c) /\ l = []) \/ ∃ (b o cap : Nat) (c : Array Value) (t : TypeId) (fr : Nat × Nat), v = .slice (some ⟨b, o, none⟩) l.length cap /\ h[b]? = some (.cells c t fr) /\ ∀ (i : Nat) (x : Bool), l[i]? = some x -> c[o + i]? = some (.bool x)
theorem nT.slice {h : Array Obj} {l : List Bool} (x : nT h v l) : ∃ a c, v = .slice a l.length c := by
 rcases x with ⟨⟨_, _, rfl⟩, rfl⟩ | ⟨b, o, cap, c, t, fr, rfl, _⟩
 ·exact ⟨_, _, rfl⟩
 ·exact ⟨_, _, rfl⟩
abbrev jh : Nat := 41
abbrev lW : Nat := 110
def iH (F : Nat -> Prop) (w : World) (q mq e0 : Nat) : Nat -> Prop := λ k => (F k /\ k < w.heap.size) \/ (w.heap.size <= k /\ k ≠ q /\ k ≠ mq /\ k ≠ e0)
structure ku (w W : World) (F : Nat -> Prop) (kv : Value) (c : bH) (q mq e0 : Nat) (x : St) (en : Int -> Bool) : Prop where
 below : Below w.heap.size w W
 hq : w.heap.size <= q
 ou : w.heap.size <= mq
 he0 : w.heap.size <= e0
 ne1 : mq ≠ q
 vP : e0 ≠ q
 vO : e0 ≠ mq
 nb : w.heap.size ≠ q /\ w.heap.size ≠ mq /\ w.heap.size ≠ e0
 box : W.heap[w.heap.size]? = some (.cells #[kv, .int .i64 c.bq, .int .i64 c.part] jh (0, 0))
 stand : iY W.heap q mq x (iH F w q mq e0) fu []
 ends : W.heap[e0]? = some (.cells #[.bool (en 0), .bool (en 1), .bool (en 2), .bool (en 3)] lW (0, 0))
theorem ku.next {W' : World} {kv : Value} {c : bH} {mq e0 : Nat} {x : St} {en : Int -> Bool} (h : ku w W F kv c q mq e0 x en) (hb : Below W W W') : ku w W' F kv c q mq e0 x en := by
 have hs := h.below.size;refine ⟨h.below.trans (hb.mono hs), h.hq, h.ou, h.he0, h.ne1, h.vP, h.vO, h.nb, (hb.block _ (aa h.box)).trans h.box, ?_, (hb.block _ (aa h.ends)).trans h.ends⟩;obtain ⟨t0, t1, t2, t3, c1, c2, b0, b1, b2, b3, n1, n2, n3⟩ := h.stand;have keep : ∀ k, iH F w q mq e0 k -> k < W.heap.size -> W'.heap[k]? = W.heap[k]? := λ k _ hl => hb.block k hl;have big : ∀ k, iH F w q mq e0 k -> k < W.heap.size -> iH F w q mq e0 k := λ _ h _ => h;have lm : mq < W.heap.size := by obtain ⟨es, cl, g, _⟩ := c2; exact aa g
 exact ⟨t0, t1, t2, t3, (hb.block _ (aa c1)).trans c1, c2.stays (hb.block _ lm), b0.keeps keep big, b1.keeps keep big, b2.keeps keep big, b3.keeps keep big, n1, n2, n3⟩
theorem ku.did {W' : World} {kv : Value} {c : bH} {mq e0 : Nat} {x x' : St} {en : Int -> Bool} {e : Ending} (h : ku w W F kv c q mq e0 x en) (hd : uR W q mq x' (iH F w q mq e0) fu [] e W') : ku w W' F kv c q mq e0 x' en := by
 have hs := h.below.size;have hm := hd.moves;have lq : q < W.heap.size := by obtain ⟨t0, t1, t2, t3, c1, _⟩ := h.stand; exact aa c1
 have lm : mq < W.heap.size := by obtain ⟨t0, t1, t2, t3, c1, ⟨es, cl, g, _⟩, _⟩ := h.stand; exact aa g
 have le := aa h.ends;have hq := h.hq;have ou := h.ou;have nb := h.nb;have vP := h.vP;have vO := h.vO
 refine ⟨⟨hm.os.trans h.below.os, hm.tape.trans h.below.tape, hm.output.trans h.below.output, Hf hm.size, λ k hk => (hm.block k GR GR).trans (h.below.block k hk)⟩, h.hq, h.ou, h.he0, h.ne1, h.vP, h.vO, h.nb,
  (hm.block _ (aa h.box) GR).trans h.box, ?_, (hm.block _ le GR).trans h.ends⟩
 refine hd.stand.weak (λ k hk hl => ?_) ?_ ?_
 ·rcases hk with hk | hk
  ·exact hk
  ·exact Iz ⟨GR, GR, GR, GR⟩
 ·rintro (h | h)
  ·omega
  ·exact h.2.1 rfl
 ·exact QY
theorem ku.ru {kv : Value} {c : bH} {mq e0 : Nat} {x : St} {en : Int -> Bool} (h : ku w W F kv c q mq e0 x en) (t : Nat) (ht : t < 4) : W.cell? (e0, t) = some (.bool (en t)) := by
 exact Q6
theorem ku.wD {kv : Value} {c : bH} {mq e0 : Nat} {x : St} {en : Int -> Bool} (h : ku w W F kv c q mq e0 x en) (t : Nat) (ht : t < 4) (b : Bool) : ku w (W.setCell (e0, t) (.bool b)) F kv c q mq e0 x (upd en t b) := by
 have ho : ∀ k, k ≠ e0 -> (W.setCell (e0, t) (.bool b)).heap[k]? = W.heap[k]? := λ k hk => IU W _ k _ hk;have he0 := h.he0;have nb := h.nb;refine ⟨⟨h.below.os, h.below.tape, h.below.output, by simpa using h.below.size, λ k hk => (ho k GR).trans (h.below.block k hk)⟩, h.hq, h.ou, h.he0, h.ne1, h.vP, h.vO, h.nb, (ho _ nb.2.2).trans h.box, ?_, ?_⟩
 ·obtain ⟨t0, t1, t2, t3, c1, c2, b0, b1, b2, b3, n1, n2, n3⟩ := h.stand
  have keep : ∀ k, iH F w q mq e0 k -> k < W.heap.size -> (W.setCell (e0, t) (.bool b)).heap[k]? = W.heap[k]? := λ k hk hl => ho k (λ e => by
   subst e;rcases hk with hk | hk
   ·omega
   ·exact hk.2.2.2 rfl)
  have big : ∀ k, iH F w q mq e0 k -> k < W.heap.size -> iH F w q mq e0 k := λ _ h _ => h;exact ⟨t0, t1, t2, t3, (ho _ h.vP.symm).trans c1, c2.stays (ho _ h.vO.symm), b0.keeps keep big, b1.keeps keep big, b2.keeps keep big, b3.keeps keep big, n1, n2, n3⟩
 ·exact QE
theorem jX.slice {h : Array Obj} {l : List Step} (x : jX h F v l) : ∃ a c, v = .slice a l.length c /\ l.length <= c /\ (a = none -> l = []) := by
 rcases x with ⟨rfl, rfl⟩ | ⟨b, o, cap, c, t, fr, rfl, h, _⟩
 ·exact ⟨_, _, rfl, Nat.le_refl _, λ _ => rfl⟩
 ·exact ⟨_, _, rfl, h, λ h => by cases h⟩
abbrev z1k (w : World) (kv : Value) (c : bH) : World := w.alloc (.cells #[kv, .int .i64 c.bq, .int .i64 c.part] jh)
theorem x7s {kv : Value} {c : bH} {d : D} {l0 l1 l2 l3 : Value} {ml : Nat} {es2 : Array MapEntry} {clock2 : Nat} (hm : iZ w.heap ml d.lasts.sec) (hml : w.heap[ml]? = some (.map es2 clock2)) (b0 : BytesAt w.heap F l0 (d.lasts.tp 0)) (b1 : BytesAt w.heap F l1 (d.lasts.tp 1)) (b2 : BytesAt w.heap F l2 (d.lasts.tp 2)) (b3 : BytesAt w.heap F l3 (d.lasts.tp 3))
 (hb1 : Below (z1k w kv c).heap.size (z1k w kv c) W1) (r1 : W1.heap[w.heap.size + 1 + 1]? = some (.map es2 clock2)) (HW : W2.heap[W1.heap.size]? = some (.cells #[.map (some (w.heap.size + 1 + 1)), l0, l1, l2, l3] fu))
 (HM : Moves (λ k => k = W1.heap.size) (W1.alloc (.cells o_ fu)) W2) (HS : W2.heap.size = (W1.alloc (.cells o_ fu)).heap.size) :
 ku w (W2.alloc (.cells #[false, false, false, false] lW)) F kv c W1.heap.size (w.heap.size + 1 + 1) W2.heap.size d.lasts (λ _ => false) /\ W2.heap.size = W1.heap.size + 1 := by
 have z1 := aa r1;have z2 : W2.heap.size = W1.heap.size + 1 := by rw [HS]; simp
 have zb : (z1k w kv c).heap.size = w.heap.size + 1 := GV;have hbw : Below w w W1 := (bla).trans (hb1.mono GV);have hb2 : Below w w W2 := Moves.new (hbw.alloc GR _) HM GR;have hb3 : Below w w (W2.alloc (.cells #[false, false, false, false] lW)) := hb2.alloc GR _
 have up : ∀ k o, k ≠ W1.heap.size -> k < W1.heap.size -> W1.heap[k]? = some o -> (W2.alloc (.cells #[false, false, false, false] lW)).heap[k]? = some o := λ k o h1 h2 h3 =>
  aM GR ((HM.block k N_ h1).trans (aM h2 h3))
 refine ⟨⟨hb3, GR, GR, GR, GR, GR, GR, ⟨GR, GR, GR⟩, ?_, ?_, IC _ _⟩, z2⟩
 ·exact up _ _ GR GR ((hb1.block _ GV).trans (IC w _))
 ·have keep : ∀ k, F k -> k < w.heap.size -> (W2.alloc (.cells #[false, false, false, false] lW)).heap[k]? = w.heap[k]? := λ k _ hl => hb3.block k hl
  have big : ∀ k, F k -> k < w.heap.size -> iH F w W1.heap.size (w.heap.size + 1 + 1) W2.heap.size k := λ k h hl => Iy ⟨h, hl⟩;refine ⟨l0, l1, l2, l3, aM GR HW, hm.other hml (up _ _ GR z1 r1), b0.keeps keep big, b1.keeps keep big, b2.keeps keep big, b3.keeps keep big, ?_, ?_, GR⟩
  ·exact QY
  ·rintro (h | h)
   ·omega
   ·exact h.2.1 rfl
def oP (w : World) (d : D) (F : Nat -> Prop) (kv : Value) (c : bH) (q mq e0 : Nat) (k : Nat) (W : World) : Prop :=
 ∃ x en, ku w W F kv c q mq e0 x en /\ gz d k x en /\ eG c d.waits.length (d.waits.drop k) k x en = eG c d.waits.length d.waits 0 d.lasts (λ _ => false)
theorem oP.next {d : D} {kv : Value} {c : bH} {mq e0 k : Nat} {x : St} {en : Int -> Bool} {s : Step} (ok : d.ok) (inv : gz d k x en) (cZ : eG c d.waits.length (d.waits.drop k) k x en = eG c d.waits.length d.waits 0 d.lasts (λ _ => false))
 (hs : d.waits[k]? = some s) (hk : ¬ (s.what ≠ 1 /\ en s.n = true)) {x' : St} {en' : Int -> Bool} (cs : ku w W F kv c q mq e0 x' en') (hx : x' = eD c d.waits.length k s x) (he : en' = gq c d.waits.length k s en) : oP w d F kv c q mq e0 (k + 1) W := by
 exact Qt
def y3w (w : World) (F : Nat -> Prop) (d' : D) (e : Ending) (w' : World) : Prop :=
 ∃ p' m' F', e = .returned (.tuple #[.pointer (some ⟨p', 0, none⟩), .int .i64 0]) /\ Below w.heap.size w w' /\ w.heap.size <= p' /\ w.heap.size <= m' /\ aQ w'.heap p' m' d' F' /\ ∀ k, F' k -> (F k /\ k < w.heap.size) \/ (w.heap.size <= k /\ k < w'.heap.size)
theorem x7r {W9 : World} {d : D} {kv : Value} {c : bH} {mq e0 : Nat} {x : St} {en : Int -> Bool} {u0 u1 u2 u3 : Value} {es : Array MapEntry} {clock : Nat} (ok : d.ok) (cs : ku w wr F kv c q mq e0 x en) (inv : gz d d.waits.length x en)
 (cZ : x = eG c d.waits.length d.waits 0 d.lasts (λ _ => false)) (r1 : wr.heap[q]? = some (.cells [.map (some mq), u0, u1, u2, u3].toArray fu (0, 0))) (r2 : iZ wr.heap mq x.sec) (r3 : wr.heap[mq]? = some (.map es clock))
 (v0 : BytesAt wr.heap (iH F w q mq e0) u0 (x.tp 0)) (v1 : BytesAt wr.heap (iH F w q mq e0) u1 (x.tp 1)) (v2 : BytesAt wr.heap (iH F w q mq e0) u2 (x.tp 2)) (v3 : BytesAt wr.heap (iH F w q mq e0) u3 (x.tp 3))
 (hb : Below wr wr W9) (r9 : W9.heap[wr.drew.heap.size + 1]? = some (.map es clock)) :
 y3w w F (d.aT c) (.returned (.tuple #[.pointer (some W9.heap.size), .int .i64 0])) (W9.alloc (.cells (uf mq u0 u1 u2 u3 (wr.heap.size + 1) u0 u1 u2 u3 (.slice none 0 0) d.many d.room false false 0) dO)) := by
 have r9' : W9.heap[wr.heap.size + 1]? = some (.map es clock) := r9;have z9 := aa r9';have zq := aa r1;have zm := aa r3;have hz := cs.below.size;have ou := cs.ou;have hq := cs.hq;have hb' : Below w w (W9.alloc (.cells (uf mq u0 u1 u2 u3 (wr.heap.size + 1) u0 u1 u2 u3 (.slice none 0 0) d.many d.room false false 0) dO)) := (cs.below.trans (hb.mono hz)).alloc GR _;have hx : (d.aT c).lasts = x := cZ.symm;have hst : (d.aT c).stand = x := cZ.symm;have sz : (W9.alloc (.cells (uf mq u0 u1 u2 u3 (wr.heap.size + 1) u0 u1 u2 u3 (.slice none 0 0) d.many d.room false false 0) dO)).heap.size = W9.heap.size + 1 := GV;refine ⟨W9.heap.size, mq, λ k => (F k /\ k < w.heap.size) \/ (w.heap.size <= k /\ k < W9.heap.size /\ k ≠ mq), rfl, hb', GR, ou, ?_, λ k hk => ?_⟩
 ·have keep : ∀ k, iH F w q mq e0 k -> k < wr.heap.size -> (W9.alloc (.cells (uf mq u0 u1 u2 u3 (wr.heap.size + 1) u0 u1 u2 u3 (.slice none 0 0) d.many d.room false false 0) dO)).heap[k]? = wr.heap[k]? := λ k _ hl => (heap_old_own _ _ _ GR).trans (hb.block k hl)
  have big : ∀ k, iH F w q mq e0 k -> k < wr.heap.size -> ((F k /\ k < w.heap.size) \/ (w.heap.size <= k /\ k < W9.heap.size /\ k ≠ mq)) := λ k hk hl => by
   rcases hk with hk | hk
   ·exact Iy hk
   ·exact Iz ⟨hk.1, GR, hk.2.2.1⟩
  have rm : (W9.alloc (.cells (uf mq u0 u1 u2 u3 (wr.heap.size + 1) u0 u1 u2 u3 (.slice none 0 0) d.many d.room false false 0) dO)).heap[mq]? = some (.map es clock) := aM GR ((hb.block _ zm).trans r3);refine ⟨y1x ok c, u0, u1, u2, u3, wr.heap.size + 1, u0, u1, u2, u3, .slice none 0 0, false, 0, IC _ _, rfl, (λ h => by cases h), ?_, ?_, Iz ⟨GR, z9, GR⟩, ?_, ?_, GR, ?_, ?_, ?_, ?_, ?_, ?_, ?_, ?_, Iy ⟨rfl, rfl⟩⟩
  ·rw [hst]; exact r2.other r3 rm
  ·rw [hx]; exact r2.other r3 (aM z9 r9')
  ·rintro (h | h)
   ·omega
   ·exact h.2.2 rfl
  ·rintro (h | h)
   ·omega
   ·omega
  ·rw [hst]; exact v0.keeps keep big
  ·rw [hst]; exact v1.keeps keep big
  ·rw [hst]; exact v2.keeps keep big
  ·rw [hst]; exact v3.keeps keep big
  ·rw [hx]; exact v0.keeps keep big
  ·rw [hx]; exact v1.keeps keep big
  ·rw [hx]; exact v2.keeps keep big
  ·rw [hx]; exact v3.keeps keep big
 ·rcases hk with hk | hk
  ·exact Iy hk
  ·exact Iz ⟨hk.1, by rw [sz]; omega⟩
theorem Ah (x : St) : 0 <= x.used := by unfold St.used; omega
theorem Eu {d : D} (h : d.ok) : d.stand.used <= 4194304 := by
 have b : ∀ t, ((d.stand.tp t).length : Int) <= 1048576 := λ t => Int.le_trans (by exact_mod_cast kC h t) h.fE;have := b 0; have := b 1; have := b 2; have := b 3;unfold St.used; omega
theorem y5x (x : St) (t : Int) (h0 : 0 <= t) (h1 : t <= 3) : ((x.tp t).length : Int) <= x.used := by
 obtain rfl | rfl | rfl | rfl : t = 0 \/ t = 1 \/ t = 2 \/ t = 3 := GR;all_goals unfold St.used; omega
theorem y1e {d : D} (h : d.ok) (t : Int) (l : List UInt8) (h0 : 0 <= t) (h1 : t <= 3) (hu : ¬ d.stand.used + l.length > d.room) : (∀ k, ((d.stand.done ⟨2, t, 0, l⟩).tp k).length <= d.room) /\ l.length <= 1048576 := by
 have := h.fE;have := y5x d.stand t h0 h1;have := Ah d.stand;refine ⟨λ k => ?_, GR⟩;simp only [St.done];by_cases hk : k = t
 ·subst hk
  simp [upd];omega
 ·simp [upd, hk]
  exact kC h k
theorem z2z {d : D} (x : aQ w.heap p m d F) (n : Int) {bv : Value} (hv : BytesIn w.heap G bv l) (hl : l.length <= 1099511627776) (hn : d.waits.length <= 1000000000000) :
 Calls prog 59 #[p, .int .i64 n, bv] w (Left w p m F (d.append n l)) := by
 obtain ⟨k16, k11, k12, _⟩ := x.lu;obtain ⟨a, c, rfl⟩ := hv.slice;have lt := x.lt;by_cases h1 : n < 0 \/ 4 <= n
 ·have e : d.append n l = (d, 4) := by
   unfold D.append;rw [IA GR]
  rw [e];refine (w0x p _ n w k16 h1).mono ?_;exact QM
 ·have hU : ∀ W, Below w w W -> Calls prog 97 #[p] W λ e w' => e = .returned (.int .i64 d.stand.used) /\ Below W W w' := λ W hb => y4j (x.below hb)
  by_cases h2 : d.stand.used + l.length > d.room
  ·have e : d.append n l = (d, 280) := by
    unfold D.append;rw [Iw GR, IA h2]
   rw [e];refine (w0v p l.length c a n d.room d.stand.used w k16 k12 GR GR (Ah _) (Eu x.ok) hl h2 hU).mono ?_;exact QM
  ·have e : d.append n l = d.step ⟨2, n, 0, l⟩ := by
    unfold D.append;rw [Iw GR, Iw h2]
   rw [e];obtain ⟨o1, o2⟩ := y1e x.ok n l GR GR h2;refine w0w p l.length c a n d.room d.stand.used l w _ k16 k12 GR GR (Ah _) (Eu x.ok) hl h2 hU G hv ?_;intro W g v hb hg r0 r1 r2 r3 hz hv1;have x1 := x.plus hb;have hok : (⟨2, n, 0, l⟩ : Step).ok d.many := Iz (Iy ⟨rfl, by show 0 <= n; omega, by show n <= 3; omega, rfl, o2⟩)
   have st : il W.heap (plus F w W) ⟨2, n, 0, l⟩ (.func (.func 142) #[] #[.pointer (some (g + 1, 0)), .pointer (some (g + 2, 0))])
    (.func (.func 101) #[] #[.pointer (some ⟨w.heap.size, 0, none⟩), .pointer (some ⟨g, 0, none⟩)]) (.int .i64 n) (.int .i64 2) (.int .i64 n) (.int .i64 0) (.string ⟨l.toArray⟩) :=
    ⟨rfl, rfl, rfl, ⟨_, rfl, GV⟩, Iz (Iy ⟨rfl, rfl, w.heap.size, g, g + 1, g + 2, v, Iz ⟨GR, GR⟩, Iz ⟨GR, GR⟩, Iz ⟨GR, GR⟩, Iz ⟨GR, GR⟩, rfl, rfl, r0, r2, r1, r3,
     hv1.keeps (λ _ _ _ => rfl) (λ k hk hl => Iz ⟨hk, hl⟩)⟩)⟩
   refine (z4o x1 ⟨2, n, 0, l⟩ hok hn o1 st).mono ?_;rintro e w' h;exact ⟨_, h.1, Gx x hb h⟩
theorem w0u {d : D} (x : aQ w.heap p m d F) (n : Int) {bv : Value} (hv : BytesAt w.heap G bv l) (hl : l.length <= 1099511627776) (hn : d.waits.length <= 1000000000000) :
 Calls prog 59 #[p, .int .i64 n, bv] w (Left w p m F (d.append n l)) := z2z x n (Iz hv) hl hn
abbrev iP (w : World) (t n : Int) : World := (w.alloc (.cells #[.int .i64 t] 3)).alloc (.cells #[.int .i64 n] 3)
theorem wH (w : World) (t n : Int) : Below w w (iP w t n) := (bla).alloc GV _
theorem x6h (p : Nat) (t n : Int) (w : World) (h : w.cell? (p, 16) = some (.bool true)) (h1 : t < 0) :
 Calls prog 76 #[p, .int .i64 t, .int .i64 n] w λ e w' => e = .returned (.int .i64 4) /\ Below w w w' := by
 have hb := wH w t n;have lt := IX h;have h' := (hb.cell (p := ⟨p, 16, none⟩) lt).trans h;have k1 : (iP w t n).cell? w.heap.size = some (.int .i64 t) := ae (aM GV (IC w _)) rfl;have k2 : (iP w t n).cell? (w.heap.size + 1, 0) = some (.int .i64 n) := ae (bD (w := w.alloc _) _ GV) rfl;have b1 : decide (t < 0) = true := by simp; omega
 exact O9
theorem x6i (p : Nat) (t n : Int) (w : World) (h : w.cell? (p, 16) = some (.bool true)) (h1 : ¬ t < 0) (h2 : 4 <= t) :
 Calls prog 76 #[p, .int .i64 t, .int .i64 n] w λ e w' => e = .returned (.int .i64 4) /\ Below w w w' := by
 have hb := wH w t n;have lt := IX h;have h' := (hb.cell (p := ⟨p, 16, none⟩) lt).trans h;have k1 : (iP w t n).cell? w.heap.size = some (.int .i64 t) := ae (aM GV (IC w _)) rfl;have k2 : (iP w t n).cell? (w.heap.size + 1, 0) = some (.int .i64 n) := ae (bD (w := w.alloc _) _ GV) rfl;have b1 : decide (t < 0) = false := by simp; omega
 have b2 : decide (4 <= t) = true := by simp; omega
 exact O9
theorem x6j (p : Nat) (t n : Int) (w : World) (h : w.cell? (p, 16) = some (.bool true)) (h1 : ¬ t < 0) (h2 : ¬ 4 <= t) (h3 : n < 0) :
 Calls prog 76 #[p, .int .i64 t, .int .i64 n] w λ e w' => e = .returned (.int .i64 4) /\ Below w w w' := by
 have hb := wH w t n;have lt := IX h;have h' := (hb.cell (p := ⟨p, 16, none⟩) lt).trans h;have k1 : (iP w t n).cell? w.heap.size = some (.int .i64 t) := ae (aM GV (IC w _)) rfl;have k2 : (iP w t n).cell? (w.heap.size + 1, 0) = some (.int .i64 n) := ae (bD (w := w.alloc _) _ GV) rfl;have b1 : decide (t < 0) = false := by simp; omega
 have b2 : decide (4 <= t) = false := by simp; omega
 have b3 : decide (n < 0) = true := by simp; omega
 exact O9
theorem x6g (p : Nat) (t n : Int) (w : World) (h : w.cell? (p, 16) = some (.bool true)) (hn : t < 0 \/ (¬ t < 0 /\ 4 <= t) \/ (¬ t < 0 /\ ¬ 4 <= t /\ n < 0)) :
 Calls prog 76 #[p, .int .i64 t, .int .i64 n] w λ e w' => e = .returned (.int .i64 4) /\ Below w w w' := by
 rcases hn with h1 | ⟨h1, h2⟩ | ⟨h1, h2, h3⟩
 ·exact x6h p t n w h h1
 ·exact x6i p t n w h h1 h2
 ·exact x6j p t n w h h1 h2 h3
theorem x6l (p t len c : Nat) (a : Option Addr) (n : Int) (w : World) (h : w.cell? (p, 16) = some (.bool true)) (ht : t < 4) (hq : w.cell? (p, 1 + t) = some (.slice a len c)) (hn : (len : Int) < n) :
 Calls prog 76 #[p, .int .i64 t, .int .i64 n] w λ e w' => e = .returned (.int .i64 4) /\ Below w w w' := by
 have hb := wH w t n;have lt := IX h;have h' := (hb.cell (p := ⟨p, 16, none⟩) lt).trans h;have k1 : (iP w t n).cell? w.heap.size = some (.int .i64 t) := ae (aM GV (IC w _)) rfl;have k2 : (iP w t n).cell? (w.heap.size + 1, 0) = some (.int .i64 n) := ae (bD (w := w.alloc _) _ GV) rfl;have k3 : (iP w t n).cell? (p, 1 + t) = some (.slice a len c) := (hb.cell (p := ⟨p, 1 + t, none⟩) lt).trans hq;have h1 : ¬ (t : Int) < 0 := GR;have h2 : ¬ 4 <= (t : Int) := GR;have h3 : ¬ n < 0 := GR;have h4 : (0 : Int) <= t := GR;have h5 : (t : Int) < 4 := GR;have h6 : ¬ 4 <= t := GR;exact O9
theorem x6k (p t len c n : Nat) (a : Option Addr) (w : World) (R : Ending -> World -> Prop) (h : w.cell? (p, 16) = some (.bool true)) (ht : t < 4) (hq : w.cell? (p, 1 + t) = some (.slice a len c)) (hn : n <= len)
 (hR : ∀ nq, Calls prog 99 #[.pointer (some p), .agg #[.func (.func 122) #[] #[.pointer (some w.heap.size), .pointer (some (w.heap.size + 1, 0))],
  .func (.func 123) #[] #[], .int .i64 t, .int .i64 3, .int .i64 t, .int .i64 n, .string ⟨#[]⟩]] ((iP w t n).drewN nq) λ e w' => ∃ k, e = .returned (.int .i64 k) /\ R e w') :
 Calls prog 76 #[p, .int .i64 t, .int .i64 n] w R := by
 have hb := wH w t n;have lt := IX h;have h' := (hb.cell (p := ⟨p, 16, none⟩) lt).trans h;have k1 : (iP w t n).cell? w.heap.size = some (.int .i64 t) := ae (aM GV (IC w _)) rfl;have k2 : (iP w t n).cell? (w.heap.size + 1, 0) = some (.int .i64 n) := ae (bD (w := w.alloc _) _ GV) rfl;have k3 : (iP w t n).cell? (p, 1 + t) = some (.slice a len c) := (hb.cell (p := ⟨p, 1 + t, none⟩) lt).trans hq;have h1 : ¬ (t : Int) < 0 := GR;have h2 : ¬ 4 <= (t : Int) := GR;have h3 : ¬ (n : Int) < 0 := GR;have h4 : (0 : Int) <= t := GR;have h5 : (t : Int) < 4 := GR;have h6 : ¬ 4 <= t := GR;have h7 : ¬ len < n := GR;have HR := hd1 hR;clear hR;go_in;go_wp2_with (go_at_call 45; refine (gY p true _ h').mono ?_; rintro e w' ⟨rfl, rfl⟩)
 go_quiet (fail)
 go_wp2_with (go_at_call 99; refine (HR.out nq).mono ?_; rintro e w' ⟨k, rfl, hr⟩)
 exact hr
theorem y0b {d : D} (h : d.ok) (t n : Int) : ∀ k, ((d.stand.done ⟨3, t, n, []⟩).tp k).length <= d.room := by
 intro k;have := kC h k;by_cases hk : k = t
 ·subst hk
  simp [St.done, upd];omega
 ·simp [St.done, upd, hk]
  exact this
theorem y0a {d : D} (x : aQ w.heap p m d F) (t n : Int) (hn : d.waits.length <= 1000000000000) :
 Calls prog 76 #[p, .int .i64 t, .int .i64 n] w (Left w p m F (d.cut t n)) := by
 obtain ⟨k16, k11, k12, _⟩ := x.lu;by_cases h1 : t < 0 \/ t > 3 \/ n < 0
 ·have e : d.cut t n = (d, 4) := by
   unfold D.cut;rw [IA GR]
  rw [e];refine (x6g p t n w k16 GR).mono ?_;exact QM
 ·obtain ⟨t, rfl, ht⟩ := kU (n := t) (k := 3) GR GR
  obtain ⟨ml, l0, l1, l2, l3, wv, stops, after, sa, ra⟩ := x.parts;obtain ⟨v, hv, hf, bv⟩ := sa.cell.2 t GR;obtain ⟨a, c, rfl⟩ := bv.slice;by_cases h2 : n > (d.stand.tp t).length
  ·have e : d.cut t n = (d, 4) := by
    unfold D.cut;rw [IA GR]
   rw [e];refine (x6l p t _ c a n w k16 GR hv h2).mono ?_;exact QM
  ·have e : d.cut t n = d.step ⟨3, t, n, []⟩ := by
    unfold D.cut;rw [Iw GR]
   rw [e];have hl := kC x.ok t;have hr := x.ok.fE;obtain ⟨n, rfl, hn1⟩ := kU (n := n) (k := 1048576) GR GR;refine x6k p t _ c n a w _ k16 GR hv GR ?_;intro nq;have hb0 := wH w t n;have hb : Below w w ((iP w t n).drewN nq) := below_drewN hb0 nq;have x1 := x.plus hb;have hok : (⟨3, t, n, []⟩ : Step).ok d.many := Iz (Iz ⟨rfl, by show (0 : Int) <= t; omega, by show (t : Int) <= 3; omega, by show (0 : Int) <= n; omega, by show (n : Int) <= 1048576; omega, rfl⟩);have hz : ((iP w t n).drewN nq).heap.size = w.heap.size + 2 := by show (iP w t n).heap.size = _; simp
   have st : il ((iP w t n).drewN nq).heap (plus F w ((iP w t n).drewN nq)) ⟨3, t, n, []⟩ (.func (.func 122) #[] #[.pointer (some w.heap.size), .pointer (some (w.heap.size + 1, 0))])
    (.func (.func 123) #[] #[]) (.int .i64 t) (.int .i64 3) (.int .i64 t) (.int .i64 n) (.string ⟨#[]⟩) :=
    ⟨rfl, rfl, rfl, ⟨_, rfl, rfl⟩, Iz (Iz ⟨rfl, rfl, w.heap.size, w.heap.size + 1, Iz ⟨GR, GR⟩, Iz ⟨GR, GR⟩, rfl, rfl, aM GV (IC w _), bD (w := w.alloc _) _ GV⟩)⟩
   refine (z4o x1 ⟨3, t, n, []⟩ hok hn (y0b x.ok _ _) st).mono ?_;rintro e w' h;exact ⟨_, h.1, Gx x hb h⟩
end Go.Proofs.YtgffifleflkjoaaGreat
