/-
  Parts of a proof.
-/
import Derived.Test.YtgffifleflkjoaaGreatFin32
set_option linter.unusedSimpArgs false
set_option linter.unusedVariables false
set_option maxRecDepth 100000
set_option maxHeartbeats 16000000
namespace Go.Proofs.YtgffifleflkjoaaGreat
open _root_.Go.Proofs.Tryz
variable {w W w' w0 wr w1 W0 W1 W2 A B : World} {F G F' O : Nat → Prop} {v : Value} {l : List UInt8} {n q m pd md pl g p : Nat} {C : Array Value} {c : Int}
open Go.RowKit Dm
theorem AY (k n : Int) (w : World) (hk : -9223372036854775808 <= k) (hk' : k <= 9223372036854775807) (h1 : 1 <= n) (h2 : n <= 1152921504606846976) :
 Calls prog 94 #[.int .i64 k, .int .i64 n] w λ e w' => e = .returned (.int .i64 (pick k n)) /\ w = w' := by
 exact Qj
def w1l (w : World) (F : Nat -> Prop) (l : List UInt8) (e : Ending) (w' : World) : Prop := ∃ v', e = .returned v' /\ Below w.heap.size w w' /\ BytesAt w'.heap (plus F w w') v' l
theorem x2t (W : World) : (Instr.makeSlice df (.int .i64 256) (.int .i64 256)).run prog W = .ok (.slice (some W.heap.size) 256 256) (W.alloc (.cells (Array.replicate 256 (.int .u8 0)) bT)) := GQ
theorem y8y {sv t0 t1 t2 t3 : Value} {x : St} {many : Int} (r : RB w.heap F sv t0 t1 t2 t3 x many) (hm : many <= 4096) (n : Int) : Calls prog 140 #[.agg #[sv, t0, t1, t2, t3], .int .i64 n] w (w1l w F (x.sec n)) := by
 obtain ⟨secs, s1, s2, b0, b1, b2, b3⟩ := r;have hlen := s2.len hm;obtain ⟨sa, sc, rfl, hsc, hsc2⟩ := s1.slice;have hb0 : Below w w (w.alloc (.cells #[.slice sa secs.length sc, t0, t1, t2, t3] aO)) := bla;have r0 := IC w (.cells #[.slice sa secs.length sc, t0, t1, t2, t3] aO);obtain ⟨W0, hW0⟩ := G5 (w.alloc (.cells #[.slice sa secs.length sc, t0, t1, t2, t3] aO));rw [hW0] at hb0 r0;have k0 : W0.cell? w.heap.size = some (.slice sa secs.length sc) := ae r0 rfl;have HD := hd3 s1 s2 hb0;clear s1 s2 b0 b1 b2 b3 r0 hb0;have hmk := x2t;go_in;go_upto_region 1 with fail
 clear hW0;go_wp2;go_loop [5] (λ i => ∃ k : Nat, i = .int .i64 (k : Int) /\ k <= secs.length /\ ∀ (j : Nat) m l, j < k -> secs[j]? = some (m, l) -> m ≠ n) (λ i => secs.length - (intOf i).toNat)
 case atStart => exact ⟨0, rfl, IV _, λ j m l hj => GR⟩
 case round =>
  obtain ⟨k, rfl, hk, hno⟩ := hrel;by_cases hlt : k < secs.length
  ·obtain ⟨e, he⟩ : ∃ e, secs[k]? = some e := ⟨_, IR hlt⟩
   obtain ⟨m, ml⟩ := e;obtain ⟨b, o, uk, rfl, e1, e2, e3⟩ : ∃ b o uk, sa = some ⟨b, o, none⟩ /\ W0.cell? ⟨b, o + k * 2, none⟩ = some (.int .i64 m) /\ W0.cell? ⟨b, o + k * 2 + 1, none⟩ = some uk /\ BytesAt w.heap F uk ml := by
    rcases HD.1 with ⟨h1, h2⟩ | ⟨b, o, cap, c', tt, fr, h1, h2, h3, g2, g3, g4⟩
    ·rw [h2] at hlt; simp at hlt
    ·obtain ⟨uk, q1, q2, q3⟩ := g4 k m ml he
     have g3' : W0.heap[b]? = some (.cells c' tt fr) := (HD.2.2.block _ (aa g3)).trans g3;exact ⟨b, o, uk, (Jw h1).1, ae g3' q1, ae g3' q2, q3⟩
   have z9s := HD.2.1.qb (m, ml) (Jb he);have hk0 : (0 : Int) <= (k : Int) := GR;have hk1 : (k : Int) < (secs.length : Int) := GR;have H := hd4 he e3 z9s hno;clear he e3 z9s hno;by_cases heq : m = n
   ·have b1 : (m == n) = true := by simpa using heq
    have HE := hd1 heq;clear heq;go_wp2;go_ret;refine ⟨uk, rfl, HD.2.2, ?_⟩;have := H.2.1;rw [H.2.2.1.1, HE.out] at this;exact this.plus HD.2.2
   ·have b1 : (m == n) = false := by simpa using heq
    have HE := hd1 heq;clear heq;go_wp2;go_round
    case rel =>
     refine ⟨k + 1, by go_num, GR, λ j m' l' hj hs => ?_⟩;by_cases hjk : j = k
     ·subst hjk
      rw [H.1] at hs;cases hs;exact HE.out
     ·exact H.2.2.2 j m' l' GR hs
    case measure => simp [intOf]; omega
  ·obtain rfl : k = secs.length := GR
   have hz : x.sec n = zeros := HD.2.1.no n (λ e he hen => by
    obtain ⟨j, hj⟩ := KS.1 he;exact hno j e.1 e.2 (IY.1 hj).1 hj hen)
   have HZ := hd1 hz;clear hz hno;go_wp2;go_ret;refine ⟨_, rfl, HD.2.2.alloc HD.2.2.size _, ?_⟩;rw [HZ.out];refine Iz ⟨W0.heap.size, 0, 256, _, bT, (0, 0), by simp [zeros], by simp [zeros], GU, Iz ⟨HD.2.2.size, GV⟩, IC _ _, λ i y hi => ?_⟩;have hi2 := IY.1 hi;have hlt2 : i < 256 := by have := hi2.1; rw [zeros, List.length_replicate] at this; exact this
   have hy : y = 0 := by have := hi2.2; simp only [zeros, List.getElem_replicate] at this; exact this.symm
   subst hy;simp [hlt2];rfl
structure zL (w W0 : World) (F : Nat -> Prop) (sv t0 t1 t2 t3 : Value) (x : St) (many : Int) (s : Step) (u : Value) : Prop where
 below : Below w.heap.size w W0
 r0 : W0.heap[w.heap.size]? = some (.cells #[sv, t0, t1, t2, t3] aO (0, 0))
 r1 : W0.heap[w.heap.size + 1]? = some (.cells #[.int .i64 s.what, .int .i64 s.n, .int .i64 s.many, u] bJ (0, 0))
 r2 : W0.heap[w.heap.size + 1 + 1]? = some (.cells eT aO (0, 0))
 size : W0.heap.size = w.heap.size + 3
 rb : RB w.heap F sv t0 t1 t2 t3 x many
 hu : BytesAt w.heap F u s.b
def uE (F : Nat -> Prop) (w : World) : Nat -> Prop := λ k => (F k /\ k < w.heap.size) \/ w.heap.size + 3 <= k
theorem zL.Bj {X : World} {sv t0 t1 t2 t3 : Value} {x : St} {many : Int} {s : Step} {u : Value} (h : zL w W0 F sv t0 t1 t2 t3 x many s u) (hb : Below W0 W0 X) : RB X.heap (uE F w) sv t0 t1 t2 t3 x many :=
 h.rb.keeps (λ k _ hl => (hb.block k (Hf h.size)).trans (h.below.block k hl)) (λ k hk hl => Iy ⟨hk, hl⟩)
theorem zL.uAt {X : World} {sv t0 t1 t2 t3 : Value} {x : St} {many : Int} {s : Step} {u : Value} (h : zL w W0 F sv t0 t1 t2 t3 x many s u) (hb : Below W0 W0 X) : BytesAt X.heap (uE F w) u s.b :=
 h.hu.keeps (λ k _ hl => (hb.block k (Hf h.size)).trans (h.below.block k hl)) (λ k hk hl => Iy ⟨hk, hl⟩)
theorem F8 {sv t0 t1 t2 t3 : Value} {x : St} {many : Int} {s : Step} {u : Value} (r : RB w.heap F sv t0 t1 t2 t3 x many) (hu : BytesAt w.heap F u s.b) :
 zL w (kZ w #[sv, t0, t1, t2, t3] #[.int .i64 s.what, .int .i64 s.n, .int .i64 s.many, u]) F sv t0 t1 t2 t3 x many s u := by
 obtain ⟨r0, r1, r2, z0⟩ := zl w #[sv, t0, t1, t2, t3] #[.int .i64 s.what, .int .i64 s.n, .int .i64 s.many, u];exact ⟨zn _ _ _, r0, r1, r2, z0, r, hu⟩
theorem F7 {W4 W5 : World} {sv t0 t1 t2 t3 : Value} {x : St} {many : Int} (hb0 : Below w w W0) (z0 : W0.heap.size = w.heap.size + 3) (hb4 : Below W0 W0 W4) (hr : RB W4.heap G sv t0 t1 t2 t3 x many)
 (hG : ∀ k, G k -> (F k /\ k < w.heap.size) \/ w.heap.size + 3 <= k) (hM : Moves (λ k => k = w.heap.size + 1 + 1) W4 W5) : qx w F x many (.returned (.agg #[sv, t0, t1, t2, t3])) W5 := by
 have z4 := hb4.size;have z5 := hM.size;refine ⟨sv, t0, t1, t2, t3, rfl, Moves.new (hb0.trans (hb4.mono GR)) hM GR, hr.keeps (λ k hk hl => hM.block k hl ?_) (λ k hk hl => ?_)⟩
 ·rcases hG k hk with h | h <;> omega
 ·exact Qp
theorem z7n {X Y : World} (hX : w.heap.size + 3 <= X.heap.size) : ∀ k, plus (uE F w) X Y k -> (F k /\ k < w.heap.size) \/ w.heap.size + 3 <= k := λ k hk => by
 exact Q5
theorem y8v {sv t0 t1 t2 t3 : Value} {x : St} {many : Int} (sn sm : Int) (sb : List UInt8) {u : Value} (r : RB w.heap F sv t0 t1 t2 t3 x many) (hu : BytesAt w.heap F u sb) (k : Int) :
 Calls prog 95 #[.agg #[sv, t0, t1, t2, t3], .agg #[.int .i64 3, .int .i64 sn, .int .i64 sm, u], .int .i64 k] w (qx w F (x.part ⟨3, sn, sm, sb⟩ k) many) := by
 have hin := F8 (s := ⟨3, sn, sm, sb⟩) r hu;have ones := r.ones;obtain ⟨W0, hW0⟩ := G5 (kZ w #[sv, t0, t1, t2, t3] #[.int .i64 3, .int .i64 sn, .int .i64 sm, u]);rw [hW0] at hin;have e : x.part ⟨3, sn, sm, sb⟩ k = x := by simp [St.part]
 rw [e];have k0 : W0.cell? (w.heap.size + 1, 0) = some (.int .i64 3) := ae hin.r1 rfl;have aD := hd2 hin ones;clear hin ones r hu e;go_in;go_upto_region 1 with fail
 clear hW0
 go_wp2_with (first
  | (refine G_ aD.1.r0 Hz bX ?_)
  | (refine aC rfl aO _ _ rfl (w.heap.size + 1 + 1) #[sv, t0, t1, t2, t3] rfl rfl aO eT aD.1.r2 bX rfl aD.2 ?_
     intro W5 aF aB bf))
 refine Hd aF.out Hz bX ?_;exact F7 aD.1.below aD.1.size GY (aD.1.Bj GY) (λ k hk => hk) aB
theorem y8w {sv t0 t1 t2 t3 : Value} {x : St} {many : Int} (sn sm : Int) (sb : List UInt8) {u : Value} (r : RB w.heap F sv t0 t1 t2 t3 x many) (hu : BytesAt w.heap F u sb) (hm : many <= 4096) (h0 : 0 <= sn) (h3 : sn <= 3) (hb : sb.length <= 1048576)
 (hx : ∀ t, (x.tp t).length <= 1048576) (k : Int) (hk : -9223372036854775808 <= k) (hk' : k <= 9223372036854775807) :
 Calls prog 95 #[.agg #[sv, t0, t1, t2, t3], .agg #[.int .i64 2, .int .i64 sn, .int .i64 sm, u], .int .i64 k] w (qx w F (x.part ⟨2, sn, sm, sb⟩ k) many) := by
 have hin := F8 (s := ⟨2, sn, sm, sb⟩) r hu;obtain ⟨W0, hW0⟩ := G5 (kZ w #[sv, t0, t1, t2, t3] #[.int .i64 2, .int .i64 sn, .int .i64 sm, u]);rw [hW0] at hin;have p0 : 0 <= pick k ((sb.length : Int) + 1) := LA _ GR;have p1 : pick k ((sb.length : Int) + 1) < (sb.length : Int) + 1 := Int.emod_lt_of_pos _ GR;have e : x.part ⟨2, sn, sm, sb⟩ k = x.done ⟨2, sn, 0, sb.take (pick k ((sb.length : Int) + 1)).toNat⟩ := by simp [St.part]
 rw [e];have PK := hd1 (λ w => AY k ((sb.length : Int) + 1) w hk hk' GR GR);obtain ⟨j, ej, hj⟩ := kU (n := pick k ((sb.length : Int) + 1)) (k := (sb.length : Int)) p0 GR;rw [ej] at PK ⊢;rw [Kv];have hwr : IntKind.i64.wrap ((sb.length : Int) + 1) = (sb.length : Int) + 1 := Ja _ GR;clear p0 p1 ej e;obtain ⟨ua, uc, rfl⟩ := hu.slice;have huc : sb.length <= uc /\ (ua = none -> sb.length = 0) := by
  rcases hu with ⟨h1, h2⟩ | ⟨b, o, cap, cc, t, fr, h1, h2, h3, g2, g3, g4⟩
  ·rw [h2]; exact ⟨IV _, λ _ => rfl⟩
  ·rw [(Jw h1).2.2, (Jw h1).1]; exact ⟨h2, λ h => by cases h⟩
 have k0 : W0.cell? ⟨w.heap.size + 1, 0, none⟩ = some (.int .i64 2) := ae hin.r1 rfl;have x1 : ∀ x : Wd (Below W0 W0), x.world.cell? ⟨w.heap.size + 1, 1, none⟩ = some (.int .i64 sn) := λ x => (x.ok.cell (p := ⟨w.heap.size + 1, 1, none⟩) (aa hin.r1)).trans (ae hin.r1 rfl);have x3 : ∀ x : Wd (Below W0 W0), x.world.cell? ⟨w.heap.size + 1, 3, none⟩ = some (.slice ua sb.length uc) := λ x => (x.ok.cell (p := ⟨w.heap.size + 1, 3, none⟩) (aa hin.r1)).trans (ae hin.r1 rfl);have LD : Hid (∀ w', (∃ x : Wd (Below W0 W0), w' = x.world) -> (Instr.loadAt aO (.pointer (some ⟨w.heap.size, 0, none⟩))).run prog w' = .ok (.agg #[sv, t0, t1, t2, t3]) w') := by
  rintro w' ⟨x, rfl⟩;exact fK ((x.ok.block _ (aa hin.r0)).trans hin.r0) Hz rfl bX
 have ne : Nonempty (Wd (Below W0 W0)) := ⟨⟨_, Below.refl _ _⟩⟩;have aD := hd1 hin;have HB := hd5 hb hx hm h0 h3;have hj0 : (0 : Int) <= (j : Int) := GR;have hj1 : (j : Int) <= (uc : Int) := GR;have hbb : (sb.length : Int) <= 1048576 := GR;clear hin r hu hb hx hk hk' hm h0 h3;have HJ := hd1 hj;have HUC := hd1 huc;clear hj huc;go_in;go_upto_region 1 with fail
 clear hW0;go_upto_region 7 with fail
 clear k0;refine bC (λ w' => ∃ x : Wd (Below W0 W0), w' = x.world) [14] GQ ?_;refine aI [0, 1, 2, 3, 4, 5, 6, 7, 8, 9] 5 _ Hq GQ ?_;simp only [fmc, fmn, gta, gcs, gcz];refine dX rfl aO (.tmp 3) rfl _ LD.out ?_;repeat refine G8 ?_
 refine aA ?_;refine az 10 4 _ _ rfl GQ ?_;refine IE rfl λ K hK => ?_;go_simp;go_at_call 94;refine (PK.out _).mono ?_;rintro e w' ⟨rfl, rfl⟩;refine hK _ _ (IB ⟨rfl, λ _ => Hq, ?_⟩);clear hK K;refine aI [11, 12] 2 _ Hq GQ ?_;refine G9 ?_;refine az 13 1 _ _ rfl GQ ?_;refine IE rfl λ K hK => ?_;go_simp;go_at_call 85;refine (yo (s := ⟨2, sn, 0, sb.take j⟩) (aD.Bj GY.drew) HB.2.2.1 (Iz (Iy ⟨rfl, HB.2.2.2.1, HB.2.2.2.2, rfl, by have := HB.1; simp; omega⟩)) (BytesAt.take (aD.uAt (X := W0.drew) GY.drew) j (Hf HJ.out)) HB.2.1).mono ?_;rintro e W1 ⟨gW, u0, u1, u2, u3, rfl, hb1, dI⟩;have hb1' : Below W0 W0 W1 := GY.drew.trans hb1;refine hK _ _ (IB ⟨rfl, λ _ => ⟨⟨_, hb1'⟩, rfl⟩, ?_⟩);clear hK K;have R1 := hd2 hb1' dI;clear dI hb1;refine az 14 0 _ _ rfl GQ ?_;refine aC rfl aO _ _ rfl (w.heap.size + 1 + 1) #[gW, u0, u1, u2, u3] rfl rfl aO eT ((hb1'.block _ (aa aD.r2)).trans aD.r2) bX rfl R1.2.ones ?_;intro W5 aF aB bf;refine IB ⟨rfl, λ h => absurd GU h, GQ, ?_⟩;have H5 := hd1 aB;clear aB bf;go_wp2;refine Hd aF.out Hz bX ?_;exact F7 aD.below aD.size R1.1 R1.2 (z7n (by have := aD.size; show _ <= W0.heap.size; omega)) H5.out
theorem BytesAt.x6t {h : Array Obj} {b o c : Nat} (x : BytesAt h F (.slice (some (b, o)) n c) l) (k : Nat) (hk : k <= n) : BytesAt h F (.slice (some (b, o + k)) (n - k) (c - k)) (l.drop k) := by
 rcases x with ⟨h1, _⟩ | ⟨b', o', cap, cc, t, fr, h1, h2, h3, g2, g3, g4⟩
 ·cases h1
 ·obtain ⟨e1, rfl, rfl⟩ := Jw h1
  simp only [Jv, Addr.mk.injEq] at e1;obtain ⟨rfl, rfl, _⟩ := e1;refine Iz ⟨b, o + k, c - k, cc, t, fr, GV, by simp; omega, GR, g2, g3, λ i y hi => ?_⟩;rw [List.getElem?_drop] at hi;rw [Jz];exact g4 (k + i) y hi
theorem y8u {sv t0 t1 t2 t3 : Value} {x : St} {many : Int} (sn sm : Int) (sb : List UInt8) {u : Value} (r : RB w.heap F sv t0 t1 t2 t3 x many) (hu : BytesAt w.heap F u sb) (hm : many <= 4096) (h0 : 0 <= sn) (h3 : sn < many) (hb : sb.length = 256)
 (hx : ∀ t, (x.tp t).length <= 1048576) (hxs : ∀ n, (x.sec n).length = 256) (k : Int) (hk : -9223372036854775808 <= k) (hk' : k <= 9223372036854775807) :
 Calls prog 95 #[.agg #[sv, t0, t1, t2, t3], .agg #[.int .i64 1, .int .i64 sn, .int .i64 sm, u], .int .i64 k] w (qx w F (x.part ⟨1, sn, sm, sb⟩ k) many) := by
 have hin := F8 (s := ⟨1, sn, sm, sb⟩) r hu;obtain ⟨W0, hW0⟩ := G5 (kZ w #[sv, t0, t1, t2, t3] #[.int .i64 1, .int .i64 sn, .int .i64 sm, u]);rw [hW0] at hin;have p0 : 0 <= pick k 257 := LA _ GR;have p1 : pick k 257 < 257 := Int.emod_lt_of_pos _ GR;have e : x.part ⟨1, sn, sm, sb⟩ k = x.done ⟨1, sn, 0, sb.take (pick k 257).toNat ++ (x.sec sn).drop (pick k 257).toNat⟩ := by simp [St.part]
 rw [e];have PK := hd1 (λ w => AY k 257 w hk hk' GR GR);obtain ⟨j, ej, hj⟩ := kU (n := pick k 257) (k := 256) p0 GR;rw [ej] at PK ⊢;rw [Kv];have SC := hd1 (y8y (hin.Bj GY) hm sn);have hsl := hxs sn;generalize x.sec sn = os at *;clear p0 p1 ej e;obtain ⟨ua, uc, rfl⟩ := hu.slice;have huc : 256 <= uc := by
  rcases hu with ⟨h1, h2⟩ | ⟨b, o, cap, cc, t, fr, h1, h2, h3, g2, g3, g4⟩
  ·rw [h2] at hb; simp at hb
  ·rw [(Jw h1).2.2]; omega
 have k0 : W0.cell? ⟨w.heap.size + 1, 0, none⟩ = some (.int .i64 1) := ae hin.r1 rfl;have k1 : W0.cell? ⟨w.heap.size + 1, 1, none⟩ = some (.int .i64 sn) := ae hin.r1 rfl;have aD := hd1 hin;have HB := hd6 hb hx hm h0 h3 hsl;have hj0 : (0 : Int) <= (j : Int) := GR;have hj1 : (j : Int) <= (uc : Int) := GR;have hj2 : (j : Int) <= 256 := hj;clear hin r hx hxs hk hk' hm h0 h3;have pI : (sb.take j).length = j := by rw [I4]; omega
 have LT := hd1 pI;clear pI;rw [hb] at *;clear hb;have HJ := hd1 hj;clear hj;go_in;go_upto_region 1 with fail
 clear hW0
 go_upto_region 5 with (first
  | (go_at_call 94; refine (PK.out _).mono ?_; rintro e w' ⟨rfl, rfl⟩)
  | (refine G_ aD.r0 Hz bX ?_)
  | (go_at_call 140; refine SC.mono ?_; rintro e W1 ⟨v1, rfl, hb1, f1⟩))
 obtain ⟨ob, oo, oc, rfl, hoc, w1d⟩ : ∃ ob oo oc, v1 = .slice (some ⟨ob, oo, none⟩) 256 oc /\ 256 <= oc /\ (oc : Int) <= 9223372036854775807 := by
  rcases f1 with ⟨h1, h2⟩ | ⟨b, o, cap, cc, t, fr, h1, h2, h3, g2, g3, g4⟩
  ·rw [h2] at hsl; simp at hsl
  ·exact ⟨b, o, cap, by rw [h1, hsl], GR, GR⟩
 have r0 := (hb1.block _ (aa aD.r0)).trans aD.r0;have r1 := (hb1.block _ (aa aD.r1)).trans aD.r1;have x1 : ∀ x : Wd (Below W1 W1), x.world.cell? ⟨w.heap.size + 1, 1, none⟩ = some (.int .i64 sn) := λ x => (x.ok.cell (p := ⟨w.heap.size + 1, 1, none⟩) (aa r1)).trans (ae r1 rfl);have x3 : ∀ x : Wd (Below W1 W1), x.world.cell? ⟨w.heap.size + 1, 3, none⟩ = some (.slice ua 256 uc) := λ x => (x.ok.cell (p := ⟨w.heap.size + 1, 3, none⟩) (aa r1)).trans (ae r1 rfl);have LD : Hid (∀ w', (∃ x : Wd (Below W1 W1), w' = x.world) -> (Instr.loadAt aO (.pointer (some ⟨w.heap.size, 0, none⟩))).run prog w' = .ok (.agg #[sv, t0, t1, t2, t3]) w') := by
  rintro w' ⟨x, rfl⟩;exact fK ((x.ok.block _ (aa r0)).trans r0) Hz rfl bX
 have ne : Nonempty (Wd (Below W1 W1)) := ⟨⟨_, Below.refl _ _⟩⟩;have hj4 : (j : Int) <= (oc : Int) := GR;have H1 := hd4 hb1 f1 r0 r1;clear hb1 f1 r0 r1 k0 k1 SC hsl;have bt : BytesAt W1.heap (plus (uE F w) W0 W1) (.slice (if oc = j then some ⟨ob, oo, none⟩ else some ⟨ob, oo + j, none⟩) (256 - j) (oc - j)) (os.drop j) := by
  split
  ·rename_i h
   subst h;have e1 : oc = 256 := GR;have e2 : os.drop oc = [] := by rw [Mh, HB.2.2.2.2.2]; omega
   rw [e2, e1];rcases H1.2.1 with ⟨h1, _⟩ | ⟨b, o, cap, cc, t, fr, h1, h2, h3, g2, g3, g4⟩
   ·cases h1
   ·obtain ⟨e1, _, _⟩ := Jw h1
    simp only [Jv, Addr.mk.injEq] at e1;obtain ⟨rfl, rfl, _⟩ := e1;exact Iz ⟨ob, oo, 0, cc, t, fr, rfl, Nat.le_refl _, GR, g2, g3, λ i y hi => by simp at hi⟩
  ·exact H1.2.1.x6t j GR
 have ut : BytesAt W1.heap (uE F w) (.slice ua j uc) (sb.take j) := (aD.uAt H1.1).take j GR;have BT := hd2 bt ut;have pI := LT.out;have ld1 : (os.drop j).length = 256 - j := by rw [I5, HB.2.2.2.2.2]
 clear bt ut;have LL := hd2 pI ld1;clear pI ld1;generalize sb.take j = la at *;generalize os.drop j = lb at *;go_wp2;refine bC (λ w' => ∃ x : Wd (Below W1 W1), w' = x.world) [15] GQ ?_;refine aI [0, 1, 2, 4, 5, 6, 7, 9, 10, 11] 6 _ Hq GQ ?_;simp only [fmc, fmn, gta, gcs, gcz];refine dX rfl aO (.tmp 3) rfl _ LD.out ?_;repeat refine G8 ?_
 refine aA ?_;generalize (if oc = j then some ⟨ob, oo, none⟩ else some ⟨ob, oo + j, none⟩ : Option Addr) = ta at *;refine az 3 5 _ _ rfl GQ ?_;refine IE rfl λ K hK => ?_;go_simp;have hb2 : Below W1 W1 (W1.alloc (.cells #[] bT)).drew := (bla).drew;have qP : bY (W1.alloc (.cells #[] bT)).drew W1.heap.size (.slice (some W1.heap.size) 0 0) [] := Bu W1;refine hK _ _ (IB ⟨rfl, λ _ => ⟨⟨_, hb2⟩, rfl⟩, ?_⟩);clear hK K;have lJ := hd1 qP;clear qP;generalize (W1.alloc (.cells #[] bT)).drew = W2 at *;refine az 8 4 _ _ rfl GQ ?_;refine dS rfl (.tmp 22) (.tmp 26) rfl W1.heap.size W1.heap.size W1 hb2 GZ _ [] rfl lJ.out _ la (uE F w) (by rw [<-LL.1]; rfl) (LL.1 ▸ BT.2.keeps (λ k _ hl => hb2.block k hl) (λ _ h _ => h)) (by have := LL.1; simp; omega) hb2.size ?_;intro v3 W3 iF hb3 _;refine IB ⟨rfl, λ _ => ⟨⟨_, hb3⟩, rfl⟩, ?_⟩;rw [Ji] at iF;refine az 12 3 _ _ rfl GQ ?_;refine dS rfl (.tmp 27) (.tmp 30) rfl W1.heap.size W1.heap.size W1 hb3 GZ _ la rfl iF.out _ lb (plus (uE F w) W0 W1) (by rw [<-LL.2]; rfl) (LL.2 ▸ BT.1.keeps (λ k _ hl => hb3.block k hl) (λ _ h _ => h)) (Hg LL.1 LL.2) hb3.size ?_;intro v4 W4 kP hb4 _;refine IB ⟨rfl, λ _ => ⟨⟨_, hb4⟩, rfl⟩, ?_⟩;have z8f : (la ++ lb).length = 256 := by have := LL.1; have := LL.2; simp; omega
 generalize la ++ lb = lc at *;obtain ⟨a4, c4, rfl⟩ := kP.bytes.bytes.slice;have L4 := hd1 z8f;clear z8f;refine aI [13] 2 _ ⟨⟨_, hb4⟩, rfl⟩ GQ ?_;refine G9 ?_;have z0 := aD.size;have z1 := H1.1.size;have Cf : Below W0 W0 W4 := H1.1.trans (hb4.mono z1);have DC := hd1 (yo (s := ⟨1, sn, 0, lc⟩) (aD.Bj Cf) HB.2.2.1 (Iy ⟨rfl, HB.2.2.2.1, HB.2.2.2.2.1, rfl, L4.out⟩) (kP.bytes.bytes.keeps (λ _ _ _ => rfl) (λ k hk _ => Iz (by have : W1.heap.size <= k := hk; omega))) HB.2.1);refine az 14 1 _ _ rfl GQ ?_;refine IE rfl λ K hK => ?_;go_simp;go_at_call 85;refine DC.mono ?_;rintro e W5 ⟨gW, u0, u1, u2, u3, rfl, hb5, rb5⟩;have x4k : Below W1 W1 W5 := hb4.trans (hb5.mono hb4.size);refine hK _ _ (IB ⟨rfl, λ _ => ⟨⟨_, x4k⟩, rfl⟩, ?_⟩);clear hK K;have R5 := hd2 (Cf.trans (hb5.mono Cf.size)) rb5;clear rb5 hb5 DC;refine az 15 0 _ _ rfl GQ ?_;refine aC rfl aO _ _ rfl (w.heap.size + 1 + 1) #[gW, u0, u1, u2, u3] rfl rfl aO eT ((R5.1.block _ (aa aD.r2)).trans aD.r2) bX rfl R5.2.ones ?_;intro W6 iR iw nQ;refine IB ⟨rfl, λ h => absurd GU h, GQ, ?_⟩;have H6 := hd1 iw;clear iw nQ;go_wp2;refine Hd iR.out Hz bX ?_;exact F7 aD.below aD.size R5.1 R5.2 (z7n (Hf Cf.size)) H6.out
theorem z5i {sv t0 t1 t2 t3 : Value} {x : St} {many : Int} {s : Step} {u : Value} (r : RB w.heap F sv t0 t1 t2 t3 x many) (hm : many <= 4096) (hs : s.ok many) (hu : BytesAt w.heap F u s.b)
 (hx : ∀ t, (x.tp t).length <= 1048576) (hxs : ∀ n, (x.sec n).length = 256) (k : Int) (hk : -9223372036854775808 <= k) (hk' : k <= 9223372036854775807) :
 Calls prog 95 #[.agg #[sv, t0, t1, t2, t3], .agg #[.int .i64 s.what, .int .i64 s.n, .int .i64 s.many, u], .int .i64 k] w (qx w F (x.part s k) many) := by
 obtain ⟨what, n, mm, b⟩ := s;rcases hs with ⟨h1, h2, h3, h4, h5⟩ | ⟨h1, h2, h3, h4, h5⟩ | ⟨h1, h2, h3, h4, h5, h6⟩
 ·simp only at h1
  subst h1;exact y8u n mm b r hu hm h2 h3 h5 hx hxs k hk hk'
 ·simp only at h1
  subst h1;exact y8w n mm b r hu hm h2 h3 h5 hx k hk hk'
 ·simp only at h1
  subst h1;exact y8v n mm b r hu k
def wW (F : Nat -> Prop) (w : World) (e0 : Nat) : Nat -> Prop := λ k => (F k /\ k < w.heap.size) \/ e0 < k
structure jZ (w W : World) (F : Nat -> Prop) (d : D) (C : Array Value) (kv : Value) (c : bH) (e0 : Nat) (x : St) (en : Int -> Bool) : Prop where
 below : Below w.heap.size w W
 far : w.heap.size + 3 < e0
 r0 : W.heap[w.heap.size]? = some (.cells C af (0, 0))
 r1 : W.heap[w.heap.size + 1]? = some (.cells #[kv, .int .i64 c.bq, .int .i64 c.part] jh (0, 0))
 r2 : W.heap[w.heap.size + 1 + 1]? = some (.cells bV af (0, 0))
 ends : W.heap[e0]? = some (.cells #[.bool (en 0), .bool (en 1), .bool (en 2), .bool (en 3)] lW (0, 0))
 rb : ∃ sv t0 t1 t2 t3, W.heap[w.heap.size + 1 + 1 + 1]? = some (.cells #[sv, t0, t1, t2, t3] aO (0, 0)) /\ RB W.heap (wW F w e0) sv t0 t1 t2 t3 x d.many
section
variable {w W W' : World} {F : Nat -> Prop} {d : D} {C : Array Value} {kv : Value} {c : bH} {e0 : Nat} {x x' : St} {en : Int -> Bool}
theorem jZ.next (h : jZ w W F d C kv c e0 x en) (hb : Below W W W') : jZ w W' F d C kv c e0 x en := by
 obtain ⟨sv, t0, t1, t2, t3, r3, rb⟩ := h.rb
 exact ⟨h.below.trans (hb.mono h.below.size), h.far, (hb.block _ (aa h.r0)).trans h.r0, (hb.block _ (aa h.r1)).trans h.r1, (hb.block _ (aa h.r2)).trans h.r2, (hb.block _ (aa h.ends)).trans h.ends,
  sv, t0, t1, t2, t3, (hb.block _ (aa r3)).trans r3, rb.keeps (λ k _ hl => hb.block k hl) (λ k hk _ => hk)⟩
theorem jZ.did (h : jZ w W F d C kv c e0 x en) {sv t0 t1 t2 t3 : Value} (hb : Below W W W1) (r : RB W1.heap (plus (wW F w e0) W W1) sv t0 t1 t2 t3 x' d.many)
 (hm : Moves (λ k => k = w.heap.size + 1 + 1 + 1) W1 W2) (hw : W2.heap[w.heap.size + 1 + 1 + 1]? = some (.cells #[sv, t0, t1, t2, t3] aO)) : jZ w W2 F d C kv c e0 x' en := by
 have h1 := h.next hb;have hz := h.below.size;have le := aa h.ends;have hf := h.far
 refine ⟨Moves.new h1.below hm GR, h.far, (hm.block _ (aa h1.r0) GR).trans h1.r0, (hm.block _ (aa h1.r1) GR).trans h1.r1, (hm.block _ (aa h1.r2) GR).trans h1.r2, (hm.block _ (aa h1.ends) GR).trans h1.ends,
  sv, t0, t1, t2, t3, hw, r.keeps (λ k hk hl => hm.block k hl (λ e => ?_)) (λ k hk _ => ?_)⟩
 ·rcases hk with (hk | hk) | hk <;> omega
 ·exact Q5
theorem jZ.ru (h : jZ w W F d C kv c e0 x en) (t : Nat) (ht : t < 4) : W.cell? (e0, t) = some (.bool (en t)) := by
 exact Q6
theorem jZ.wD (h : jZ w W F d C kv c e0 x en) (t : Nat) (ht : t < 4) (b : Bool) : jZ w (W.setCell (e0, t) (.bool b)) F d C kv c e0 x (upd en t b) := by
 have ho : ∀ k, k ≠ e0 -> (W.setCell (e0, t) (.bool b)).heap[k]? = W.heap[k]? := λ k hk => IU W _ k _ hk;have hf := h.far;obtain ⟨sv, t0, t1, t2, t3, r3, rb⟩ := h.rb
 refine ⟨⟨h.below.os, h.below.tape, h.below.output, by simpa using h.below.size, λ k hk => (ho k GR).trans (h.below.block k hk)⟩, h.far, (ho _ GR).trans h.r0, (ho _ GR).trans h.r1, (ho _ GR).trans h.r2, ?_,
  sv, t0, t1, t2, t3, (ho _ GR).trans r3, rb.keeps (λ k hk _ => ho k (by rcases hk with hk | hk <;> omega)) (λ k hk _ => hk)⟩
 exact QE
end
theorem y4f {en : Int -> Bool} {n : Int} (h : en n = false) : upd en n false = en := by
 funext k
 unfold upd;split
 ·rename_i e; rw [e, h]
 ·rfl
def lI (w : World) (F : Nat -> Prop) (d : D) (C : Array Value) (kv : Value) (c : bH) (e0 : Nat) (k : Nat) (W : World) : Prop :=
 ∃ x en, jZ w W F d C kv c e0 x en /\ gz d k x en /\ eG c d.waits.length (d.waits.drop k) k x en = eG c d.waits.length d.waits 0 d.lasts (λ _ => false)
theorem lI.next {d : D} {kv : Value} {c : bH} {e0 k : Nat} {x : St} {en : Int -> Bool} {s : Step} (ok : d.ok) (inv : gz d k x en) (cZ : eG c d.waits.length (d.waits.drop k) k x en = eG c d.waits.length d.waits 0 d.lasts (λ _ => false))
 (hs : d.waits[k]? = some s) (hk : ¬ (s.what ≠ 1 /\ en s.n = true)) {x' : St} {en' : Int -> Bool} (cs : jZ w W F d C kv c e0 x' en') (hx : x' = eD c d.waits.length k s x) (he : en' = gq c d.waits.length k s en) : lI w F d C kv c e0 (k + 1) W := by
 exact Qt
theorem lI.skip {d : D} {kv : Value} {c : bH} {e0 k : Nat} {x : St} {en : Int -> Bool} {s : Step} (inv : gz d k x en) (cZ : eG c d.waits.length (d.waits.drop k) k x en = eG c d.waits.length d.waits 0 d.lasts (λ _ => false))
 (hs : d.waits[k]? = some s) (hk : s.what ≠ 1 /\ en s.n = true) (cs : jZ w W F d C kv c e0 x en) : lI w F d C kv c e0 (k + 1) W := by
 refine ⟨_, _, cs, inv.skip hs hk, ?_⟩;obtain ⟨hlt, e⟩ := IY.1 hs;rw [<-cZ, La hlt, e, Da _ _ _ _ _ _ _ hk]
theorem x0s {d : D} {sv t0 t1 t2 t3 kv : Value} {c : bH} (rb : RB w.heap F sv t0 t1 t2 t3 d.lasts d.many)
 (hm : Moves (λ k => k = w.heap.size + 1 + 1 + 1) ((((w.alloc (.cells C af)).alloc (.cells #[kv, .int .i64 c.bq, .int .i64 c.part] jh)).alloc (.cells bV af)).alloc (.cells eT aO)) W1)
 (hw : W1.heap[w.heap.size + 1 + 1 + 1]? = some (.cells #[sv, t0, t1, t2, t3] aO)) :
 jZ w (W1.alloc (.cells #[false, false, false, false] lW)) F d C kv c W1.heap.size d.lasts (λ _ => false) := by
 have z := aa hw;have a0 : ((((w.alloc (.cells C af)).alloc (.cells #[kv, .int .i64 c.bq, .int .i64 c.part] jh)).alloc (.cells bV af)).alloc (.cells eT aO)).heap[w.heap.size]? = some (.cells C af) := aM NM (aM NM (aM GV (IC w _)));have a1 : ((((w.alloc (.cells C af)).alloc (.cells #[kv, .int .i64 c.bq, .int .i64 c.part] jh)).alloc (.cells bV af)).alloc (.cells eT aO)).heap[w.heap.size + 1]? = some (.cells #[kv, .int .i64 c.bq, .int .i64 c.part] jh) := aM NM (aM GV (bD (w := w.alloc _) _ GV));have a2 : ((((w.alloc (.cells C af)).alloc (.cells #[kv, .int .i64 c.bq, .int .i64 c.part] jh)).alloc (.cells bV af)).alloc (.cells eT aO)).heap[w.heap.size + 1 + 1]? = some (.cells bV af) := aM GV (bD (w := (w.alloc _).alloc _) _ GV);have hb : Below w w ((((w.alloc (.cells C af)).alloc (.cells #[kv, .int .i64 c.bq, .int .i64 c.part] jh)).alloc (.cells bV af)).alloc (.cells eT aO)) := (((bla).alloc GV _).alloc NM _).alloc NM _;have hb1 : Below w w W1 := Moves.new hb hm GR;have hb2 : Below w w (W1.alloc (.cells #[false, false, false, false] lW)) := hb1.alloc hb1.size _;have q0 := (hm.block _ (aa a0) GR).trans a0;have q1 := (hm.block _ (aa a1) GR).trans a1;have q2 := (hm.block _ (aa a2) GR).trans a2;refine ⟨hb2, GR, aM (aa q0) q0, aM (aa q1) q1, aM (aa q2) q2, IC _ _, sv, t0, t1, t2, t3, aM z hw, rb.keeps (λ k _ hl => hb2.block k hl) (λ k hk hl => Iy ⟨hk, hl⟩)⟩
theorem x0t {d : D} (hr : bR w.heap F v d) (ok : d.ok) (hn : d.waits.length <= 1000000000000) (c : bH) {kv : Value} (hk : nT w.heap kv c.keep) (hkl : c.keep.length <= 1000000) (ht0 : -9223372036854775808 <= c.bq) (ht1 : c.bq <= 9223372036854775807) (hp0 : -9223372036854775808 <= c.part) (hp1 : c.part <= 9223372036854775807) :
 Calls prog 56 #[v, .agg #[kv, .int .i64 c.bq, .int .i64 c.part]] w λ e w' => ∃ v', e = .returned v' /\ Below w w w' /\ bR w'.heap (plus F w w') v' (d.aT c) := by
 obtain ⟨sv, t0, t1, t2, t3, wv, rfl, rb, st⟩ := hr;obtain ⟨wa, wc, rfl, hwc, x3f⟩ := st.slice;obtain ⟨ka, kc, rfl⟩ := hk.slice;have ones := rb.ones;generalize hC : dC d.many d.room sv t0 t1 t2 t3 (.slice wa d.waits.length wc) d.dead d.stops = C;have mid : ∀ X : World, X.heap[w.heap.size]? = some (.cells C af) -> X.rangeAt w.heap.size 2 [sv, t0, t1, t2, t3] /\ X.cell? (w.heap.size, 7) = some (.slice wa d.waits.length wc) /\ X.cell? w.heap.size = some (.int .i64 d.many) /\ X.cell? (w.heap.size, 1) = some (.int .i64 d.room) := λ X hX => by
  rw [<-hC] at hX;refine ⟨λ j u hj => ?_, ae hX rfl, ae hX rfl, ae hX rfl⟩;exact PQ
 have HD := hd6 rb st ones mid ok hk;have hl0 : (0 : Int) <= (d.waits.length : Int) := GR;have hl1 : (d.waits.length : Int) <= 1000000000000 := GR;have w2z : (c.keep.length : Int) <= 1000000 := GR;have RS := λ W1 hm hw => x0s (w := w) (W1 := W1) (F := F) (d := d) (kv := .slice ka c.keep.length kc) (c := c) (C := C) rb hm hw;have RS := hd1 RS;have qq : ((((w.alloc (.cells C af)).alloc (.cells #[.slice ka c.keep.length kc, .int .i64 c.bq, .int .i64 c.part] jh)).alloc (.cells bV af))).heap[w.heap.size]? = some (.cells C af) := aM NM (aM GV (IC w _));have QQ := hd1 qq;clear rb st ones mid ok hC qq hk;go_in
 go_upto_region 3 with (first
  | (refine JA rfl aO (.tmp 12) rfl w.heap.size 2 rfl [sv, t0, t1, t2, t3] _ (HD.2.2.2.1 _ QQ.out).1 Hz rfl bX ?_)
  | (refine aC rfl aO _ _ rfl (w.heap.size + 1 + 1 + 1) #[sv, t0, t1, t2, t3] rfl rfl aO eT (bD (w := ((w.alloc (.cells C af)).alloc (.cells #[.slice ka c.keep.length kc, .int .i64 c.bq, .int .i64 c.part] jh)).alloc (.cells bV af)) _ GV) bX rfl HD.2.2.1 ?_
     intro W1 HW1 dH j_))
 have cs0 := RS.out W1 dH HW1.out;have nL := hd1 (show lI w F d C (.slice ka c.keep.length kc) c W1.heap.size 0 (W1.alloc (.cells #[false, false, false, false] lW)) from ⟨_, _, cs0, gz.start HD.2.2.2.2.1, rfl⟩);have ez : W1.heap.size = w.heap.size + 1 + 1 + 1 + 1 := by rw [j_]; simp
 rw [ez] at nL;clear cs0 dH j_ HW1 RS QQ ez;generalize (W1.alloc (.cells #[false, false, false, false] lW)) = W2 at *;generalize w.heap.size + 1 + 1 + 1 + 1 = e0 at *;go_wp2;go_loopg [7] d.waits.length (λ g s wr => ∃ k : Nat, s = .int .i64 (k : Int) /\ g + k = d.waits.length /\ lI w F d C (.slice ka c.keep.length kc) c e0 k wr)
 case atStart => exact ⟨0, rfl, rfl, nL.out⟩
 case round =>
  obtain ⟨k, rfl, hg, hrel⟩ := hrel;obtain ⟨x, en, cs, inv, cZ⟩ := hrel;have c7 := (HD.2.2.2.1 _ cs.r0).2.1;by_cases hlt : k < d.waits.length
  ·obtain ⟨s, hs⟩ : ∃ s, d.waits[k]? = some s := ⟨_, IR hlt⟩
   have o8 : iE wr.heap (wW F w e0) (.slice wa d.waits.length wc) d.waits := HD.2.1.keeps (λ k _ hl => cs.below.block k hl) (λ k h hl => Iy ⟨h, hl⟩);obtain ⟨_, b, o, u, rfl, lb, bu, qM⟩ := o8.at hs;have pq : s.ok d.many := HD.2.2.2.2.1.waits s (Jb hs);have hk0 : (0 : Int) <= (k : Int) := GR;have hk1 : (k : Int) < (d.waits.length : Int) := GR;have CS := hd7 cs inv cZ hs hg bu qM;have oJ := hd1 pq;have u1 : u.oneCell' = true := bu.one;have U1 := hd1 u1;clear cs inv cZ hs hg bu qM o8 u1
   go_upto_region 7 with (first
    | (refine JA rfl bJ (.tmp 24) rfl b (o + k * 4) rfl [.int .i64 s.what, .int .i64 s.n, .int .i64 s.many, u] _ CS.2.2.2.2.2.2 Ii rfl qV ?_)
    | (refine aC rfl bJ _ _ rfl wr.heap.size #[.int .i64 s.what, .int .i64 s.n, .int .i64 s.many, u] rfl rfl bJ _ (IC wr _) qV (by rfl) (by simp [U1.out]; simp [Value.oneCell']) ?_
       intro W5 aF aB bf))
   have hb5 : Below wr wr W5 := Moves.new (bla) aB GZ;have C5 := hd3 (CS.1.next hb5) aF.out (CS.2.2.2.2.2.1.keeps (F' := wW F w e0) (λ k _ hl => hb5.block k hl) (λ _ h _ => h));have kw : W5.cell? ⟨wr.heap.size, 0, none⟩ = some (.int .i64 s.what) := ae aF.out rfl;have kn : W5.cell? ⟨wr.heap.size, 1, none⟩ = some (.int .i64 s.n) := ae aF.out rfl;clear aB bf aF hb5 c7;by_cases h1 : s.what = 1
   ·have hneq : (s.what != 1) = false := by simpa using h1
    have H1 := hd2 h1 trivial;have uC := hd1 (show ¬ (s.what ≠ 1 /\ en s.n = true) from λ h => h.1 h1);clear h1 kn;go_upto_region 9 with fail
    go_cut [10] (λ s10 wx => s10 = .bool (c.dz d.waits.length k) /\ W5 = wx)
    case first =>
     exact Ow
    case rest =>
     obtain ⟨rfl, rfl⟩ := hcut;have kk : W5.cell? (w.heap.size + 1, 0) = some (.slice ka c.keep.length kc) := ae C5.1.r1 rfl;go_upto_region 10 with fail
     go_cut [11] (λ s11 wx => s11 = .bool (c.kept k) /\ ∃ nq, wx = W5.drewN nq)
     case first =>
      exact Om
     case rest =>
      obtain ⟨rfl, nq, rfl⟩ := hcut;obtain ⟨W7, gI⟩ := G5 (W5.drewN nq);have ik : Below W5 W5 W7 := by rw [<-gI]; exact below_drewN GY nq
      have C7 := hd3 (C5.1.next ik) ((ik.block _ (aa C5.2.1)).trans C5.2.1) (C5.2.2.keeps (F' := wW F w e0) (λ k _ hl => ik.block k hl) (λ _ h _ => h));rw [gI];clear gI ik C5 kk kw;have fE := HD.2.2.2.2.1.fE;have hx : ∀ t, (x.tp t).length <= 1048576 := λ t => Hf (CS.2.1.room HD.2.2.2.2.1 t);obtain ⟨xU, y0, y1, y2, y3, r7, n_⟩ := C7.1.rb;have vN : w.heap.size + 1 + 1 + 1 < wr.heap.size := by obtain ⟨_, _, _, _, _, r, _⟩ := CS.1.rb; exact aa r
      have kp : W7.cell? (w.heap.size + 1, 2) = some (.int .i64 c.part) := ae C7.1.r1 rfl;have lQ := hd1 (yo n_ HD.2.2.2.2.1.many1 oJ.out C7.2.2 hx);have lN := hd1 (z5i n_ HD.2.2.2.2.1.many1 oJ.out C7.2.2 hx CS.2.1.sec c.part hp0 hp1);have R7 := hd2 r7 vN;clear n_ r7 vN hx fE;cases hT : c.dz d.waits.length k
      ·cases hK : c.kept k
       ·have HT := hd2 hT hK
        clear hT hK;obtain ⟨W8, eW8⟩ : ∃ W8, W8 = W7 := ⟨_, rfl⟩;subst eW8;have C8 := hd2 C7.1 C7.2.1;clear kp lQ lN C7;exact Ps
       ·have HT := hd2 hT hK
        clear hT hK
        go_upto_region 15 with (first
         | (refine G_ R7.1 Hz bX ?_)
         | (refine G_ C7.2.1 Ii qV ?_)
         | (go_at_call 85; refine lQ.mono ?_; rintro e W1 ⟨gW, z0, z1, z2, z3, rfl, hb1, dI⟩)
         | (refine aC rfl aO _ _ rfl (w.heap.size + 1 + 1 + 1) #[gW, z0, z1, z2, z3] rfl rfl aO _ ((hb1.block _ (aa R7.1)).trans R7.1) bX rfl dI.ones ?_
            intro W8 fB dA jw;have C8 := hd2 (C7.1.did hb1 dI dA fB.out) ((dA.block _ (Hg hb1.size (aa C7.2.1)) (Hf R7.2)).trans ((hb1.block _ (aa C7.2.1)).trans C7.2.1));clear hb1 dI fB dA jw kp lQ lN C7))
        exact Ps
      ·have HT := hd1 hT
       clear hT
       go_upto_region 15 with (first
        | (refine G_ R7.1 Hz bX ?_)
        | (refine G_ C7.2.1 Ii qV ?_)
        | (go_at_call 95; refine lN.mono ?_; rintro e W1 ⟨gW, z0, z1, z2, z3, rfl, hb1, dI⟩)
        | (refine aC rfl aO _ _ rfl (w.heap.size + 1 + 1 + 1) #[gW, z0, z1, z2, z3] rfl rfl aO _ ((hb1.block _ (aa R7.1)).trans R7.1) bX rfl dI.ones ?_
           intro W8 fB dA jw;have C8 := hd2 (C7.1.did hb1 dI dA fB.out) ((dA.block _ (Hg hb1.size (aa C7.2.1)) (Hf R7.2)).trans ((hb1.block _ (aa C7.2.1)).trans C7.2.1));clear hb1 dI fB dA jw kp lQ lN C7))
       go_wp2;go_roundg (d.waits.length - (k + 1))
       case measure => have := CS.2.2.2.2.1; omega
       case rel => exact ⟨k + 1, by go_num, Hf CS.2.2.2.2.1, lI.next HD.2.2.2.2.1 CS.2.1 CS.2.2.1 CS.2.2.2.1 uC.out C8.1 Nv (by simp [gq, H1.1])⟩
   ·obtain ⟨t, et, ht⟩ : ∃ t : Nat, s.n = t /\ t < 4 := by
     rcases oJ.out with h | h | h
     ·exact absurd h.1 h1
     ·exact Rf
     ·exact Rf
    have hneq : (s.what != 1) = true := by simpa using h1
    rw [et] at kn;have k3 := C5.1.ru t ht;have t0' : (0 : Int) <= t := GR;have t1' : (t : Int) < 4 := GR;cases hen : en t
    ·rw [hen] at k3
     have uC := hd1 (show ¬ (s.what ≠ 1 /\ en s.n = true) from λ h => by have := h.2; rw [et, hen] at this; cases this);have H1 := hd4 h1 et ht hen;clear h1 et hen;go_upto_region 9 with fail
     go_cut [10] (λ s10 wx => s10 = .bool (c.dz d.waits.length k) /\ W5 = wx)
     case first =>
      exact Ow
     case rest =>
      obtain ⟨rfl, rfl⟩ := hcut;have kk : W5.cell? (w.heap.size + 1, 0) = some (.slice ka c.keep.length kc) := ae C5.1.r1 rfl;go_upto_region 10 with fail
      go_cut [11] (λ s11 wx => s11 = .bool (c.kept k) /\ ∃ nq, wx = W5.drewN nq)
      case first =>
       exact Om
      case rest =>
       obtain ⟨rfl, nq, rfl⟩ := hcut;obtain ⟨W7, gI⟩ := G5 (W5.drewN nq);have ik : Below W5 W5 W7 := by rw [<-gI]; exact below_drewN GY nq
       have C7 := hd3 (C5.1.next ik) ((ik.block _ (aa C5.2.1)).trans C5.2.1) (C5.2.2.keeps (F' := wW F w e0) (λ k _ hl => ik.block k hl) (λ _ h _ => h));rw [gI];clear gI ik C5 kk kw;have fE := HD.2.2.2.2.1.fE;have hx : ∀ t, (x.tp t).length <= 1048576 := λ t => Hf (CS.2.1.room HD.2.2.2.2.1 t);obtain ⟨xU, y0, y1, y2, y3, r7, n_⟩ := C7.1.rb;have vN : w.heap.size + 1 + 1 + 1 < wr.heap.size := by obtain ⟨_, _, _, _, _, r, _⟩ := CS.1.rb; exact aa r
       have kp : W7.cell? (w.heap.size + 1, 2) = some (.int .i64 c.part) := ae C7.1.r1 rfl;have lQ := hd1 (yo n_ HD.2.2.2.2.1.many1 oJ.out C7.2.2 hx);have lN := hd1 (z5i n_ HD.2.2.2.2.1.many1 oJ.out C7.2.2 hx CS.2.1.sec c.part hp0 hp1);have R7 := hd2 r7 vN;clear n_ r7 vN hx fE;cases hT : c.dz d.waits.length k
       ·cases hK : c.kept k
        ·have HT := hd2 hT hK
         clear hT hK;obtain ⟨W8, eW8⟩ : ∃ W8, W8 = W7 := ⟨_, rfl⟩;subst eW8;have C8 := hd2 C7.1 C7.2.1;clear kp lQ lN C7;have kn8 : W8.cell? ⟨wr.heap.size, 1, none⟩ = some (.int .i64 (t : Int)) := by rw [<-H1.2.1]; exact ae C8.2 rfl
         have ke8 := C8.1.ru t H1.2.2.1;have fe8 : W8.frozen? ⟨e0, t, none⟩ = false := aZ C8.1.ends _;go_wp2;go_roundg (d.waits.length - (k + 1))
         case measure => have := CS.2.2.2.2.1; omega
         case rel => exact ⟨k + 1, by go_num, Hf CS.2.2.2.2.1, lI.next HD.2.2.2.2.1 CS.2.1 CS.2.2.1 CS.2.2.2.1 uC.out (C8.1.wD t H1.2.2.1 true) Nn (by simp [gq, H1.1, HT.1, HT.2, H1.2.1])⟩
        ·have HT := hd2 hT hK
         clear hT hK
         go_upto_region 15 with (first
          | (refine G_ R7.1 Hz bX ?_)
          | (refine G_ C7.2.1 Ii qV ?_)
          | (go_at_call 85; refine lQ.mono ?_; rintro e W1 ⟨gW, z0, z1, z2, z3, rfl, hb1, dI⟩)
          | (refine aC rfl aO _ _ rfl (w.heap.size + 1 + 1 + 1) #[gW, z0, z1, z2, z3] rfl rfl aO _ ((hb1.block _ (aa R7.1)).trans R7.1) bX rfl dI.ones ?_
             intro W8 fB dA jw;have C8 := hd2 (C7.1.did hb1 dI dA fB.out) ((dA.block _ (Hg hb1.size (aa C7.2.1)) (Hf R7.2)).trans ((hb1.block _ (aa C7.2.1)).trans C7.2.1));clear hb1 dI fB dA jw kp lQ lN C7))
         go_wp2;go_roundg (d.waits.length - (k + 1))
         case measure => have := CS.2.2.2.2.1; omega
         case rel => exact ⟨k + 1, by go_num, Hf CS.2.2.2.2.1, lI.next HD.2.2.2.2.1 CS.2.1 CS.2.2.1 CS.2.2.2.1 uC.out C8.1 Nn (by
          simp only [gq, HT.1, HT.2, H1.1, ne_eq, LB, I1, Bool.not_true, Bool.or_false];exact (y4f (H1.2.1 ▸ H1.2.2.2)).symm)⟩
       ·have HT := hd1 hT
        clear hT
        go_upto_region 15 with (first
         | (refine G_ R7.1 Hz bX ?_)
         | (refine G_ C7.2.1 Ii qV ?_)
         | (go_at_call 95; refine lN.mono ?_; rintro e W1 ⟨gW, z0, z1, z2, z3, rfl, hb1, dI⟩)
         | (refine aC rfl aO _ _ rfl (w.heap.size + 1 + 1 + 1) #[gW, z0, z1, z2, z3] rfl rfl aO _ ((hb1.block _ (aa R7.1)).trans R7.1) bX rfl dI.ones ?_
            intro W8 fB dA jw;have C8 := hd2 (C7.1.did hb1 dI dA fB.out) ((dA.block _ (Hg hb1.size (aa C7.2.1)) (Hf R7.2)).trans ((hb1.block _ (aa C7.2.1)).trans C7.2.1));clear hb1 dI fB dA jw kp lQ lN C7))
        have kn8 : W8.cell? ⟨wr.heap.size, 1, none⟩ = some (.int .i64 (t : Int)) := by rw [<-H1.2.1]; exact ae C8.2 rfl
        have ke8 := C8.1.ru t H1.2.2.1;have fe8 : W8.frozen? ⟨e0, t, none⟩ = false := aZ C8.1.ends _;go_wp2;go_roundg (d.waits.length - (k + 1))
        case measure => have := CS.2.2.2.2.1; omega
        case rel => exact ⟨k + 1, by go_num, Hf CS.2.2.2.2.1, lI.next HD.2.2.2.2.1 CS.2.1 CS.2.2.1 CS.2.2.2.1 uC.out (C8.1.wD t H1.2.2.1 true) Nv (by simp [gq, H1.1, HT.out, H1.2.1])⟩
    ·rw [hen] at k3
     have SK := hd1 (show s.what ≠ 1 /\ en s.n = true from ⟨h1, by rw [et]; exact hen⟩);clear h1 et hen;go_wp2;go_roundg (d.waits.length - (k + 1))
     case measure => have := CS.2.2.2.2.1; omega
     case rel => exact ⟨k + 1, by go_num, Hf CS.2.2.2.2.1, lI.skip CS.2.1 CS.2.2.1 CS.2.2.2.1 SK.out C5.1⟩
  ·obtain rfl : k = d.waits.length := GR
   have ex : x = eG c d.waits.length d.waits 0 d.lasts (λ _ => false) := by
    rw [<-cZ, Mh.2 GZ];rfl
   obtain ⟨xU, y0, y1, y2, y3, r7, n_⟩ := cs.rb;have c0 := (HD.2.2.2.1 _ cs.r0).2.2.1;have c1 := (HD.2.2.2.1 _ cs.r0).2.2.2;have E := hd4 cs r7 n_ ex;clear cs inv cZ r7 n_ ex hg;have z7a : (dC d.many d.room xU y0 y1 y2 y3 (.slice none 0 0) false (-1)).all (·.oneCell') = true := yj E.2.2.1 rfl _ _ _ _;have OF := hd1 z7a;clear z7a
   go_wp2_with (first
    | (refine G_ E.2.1 Hz bX ?_)
    | (refine aC rfl af _ _ rfl (w.heap.size + 1 + 1) (dC d.many d.room xU y0 y1 y2 y3 (.slice none 0 0) false (-1)) rfl rfl af bV E.1.r2 aH rfl OF.out ?_
       intro W9 bM aR eX))
   refine Hd bM.out Hu aH ?_;have hf := E.1.far;have hz := E.1.below.size;have hz9 := aR.size;refine ⟨_, rfl, Moves.new E.1.below aR GR, xU, y0, y1, y2, y3, .slice none 0 0, rfl, ?_, Iy ⟨rfl, rfl⟩⟩;have hx : (d.aT c).lasts = x := E.2.2.2.symm;rw [hx];refine E.2.2.1.keeps (λ k hk hl => aR.block k hl (λ e => by rcases hk with hk | hk <;> omega)) (λ k hk hl => ?_);exact Ri
theorem x8k (h : aU w q l) (hl : l.length <= 1000000000) (hr : Em.kE l = none) :
 Calls prog 151 #[.agg #[.pointer (some q)]] w λ e w' => e = .panicked fQ /\ Moves (λ k => k = q) w w' := by
 have lq := h.lt;obtain ⟨W, hW⟩ := G5 ((w.alloc (.cells #[.pointer (some ⟨q, 0, none⟩)] cK)).alloc (.cells (Df (.string ⟨#[]⟩) (.string ⟨#[]⟩) false) a_));have B : Below w w W := by rw [<-hW]; exact (bla).alloc GV _
 have r1 : W.heap[w.heap.size]? = some (.cells #[q] cK) := by rw [<-hW]; exact aM GV (IC w _)
 have r2 : W.heap[w.heap.size + 1]? = some (.cells (Df (.string ⟨#[]⟩) (.string ⟨#[]⟩) false) a_ (0, 0)) := by rw [<-hW]; exact bD (w := w.alloc _) _ GV
 have c1 := ae r1 (j := 0) rfl;unfold Em.kE at hr;cases ht : Wm.iJ l with
 | none =>
  have TC := hd1 (y4c (h.later B) hl ht);have HB := hd1 B;have HW := hd1 hW;clear h B r1 r2 lq hW ht hr;go_in;go_upto_region 1 with fail
  rw [HW.out]
  go_wp2_with (first
   | (go_at_call 179; refine TC.mono ?_; rintro e w1 ⟨rfl, m1⟩; have H1 := hd1 m1; clear m1 c1)
   | (go_at_call 109; refine (iL _).mono ?_; rintro e w' ⟨rfl, rfl⟩))
  exact Qu
 | some p =>
  obtain ⟨g, ra⟩ := p;rw [ht] at hr;simp only at hr;have la := AA ht;have TC := hd1 (z3p (h.later B) hl ht);have HB := hd4 B r1 r2 lq;have HW := hd1 hW;clear h B r1 r2 lq hW ht;cases hk : Wm.dh 64 ra with
  | none =>
   have KC := hd1 (λ (X : World) (hx : aU X q ra) => CK hx GR hk);clear hr hk;go_in;go_upto_region 1 with fail
   rw [HW.out]
   go_wp2_with (first
    | (go_at_call 179; refine TC.mono ?_; rintro e w1 ⟨rfl, x1, m1⟩
       have j1 := (IW (m1.block w.heap.size (aa HB.2.1) (Hf HB.2.2.2))).trans c1;have H1 := hd2 x1 m1;clear x1 m1 c1)
    | (go_at_call 109; refine (kH _).mono ?_; rintro e w' ⟨rfl, rfl⟩)
    | (go_at_call 150; refine (KC.out _ H1.1).mono ?_; rintro e w2 ⟨rfl, m2⟩))
   exact ⟨rfl, rfl, ((Moves.of_below HB.1).trans H1.2 (λ _ _ h => h)).trans m2 (λ _ _ h => h)⟩
  | some p =>
   obtain ⟨k, rb⟩ := p;rw [hk] at hr;simp only at hr;have lb := (kS hk).1;have KC := hd1 (λ (X : World) (hx : aU X q ra) => qa hx GR hk);clear hk;cases g with
   | true => rw [IA rfl] at hr; cases hr
   | false =>
    rw [Iw GU] at hr;have hv : Wm.dh 4096 rb = none := by
     cases hv : Wm.dh 4096 rb with
     | none => rfl
     | some p => rw [hv] at hr; cases hr
    have VC := hd1 (λ (X : World) (hx : aU X q rb) => CK hx GR hv);clear hr hv;go_in;go_upto_region 1 with fail
    rw [HW.out]
    go_upto_region 4 with (first
     | (go_at_call 179; refine TC.mono ?_; rintro e w1 ⟨rfl, x1, m1⟩
        have j1 := (IW (m1.block w.heap.size (aa HB.2.1) (Hf HB.2.2.2))).trans c1;have H1 := hd2 x1 m1;clear x1 m1)
     | (go_at_call 109; refine (kH _).mono ?_; rintro e w' ⟨rfl, rfl⟩)
     | (go_at_call 150; refine (KC.out _ H1.1).mono ?_; rintro e w2 ⟨rfl, x2, m2⟩
        have t2 := (m2.block (w.heap.size + 1) (Hg (aa HB.2.2.1) H1.2.size) (Hf HB.2.2.2)).trans ((H1.2.block (w.heap.size + 1) (aa HB.2.2.1) (Hf HB.2.2.2)).trans HB.2.2.1);have q1 := (IW (m2.block w.heap.size (Hg (aa HB.2.1) H1.2.size) (Hf HB.2.2.2))).trans j1;have k0 := ae t2 (j := 0) rfl;have k2 := ae t2 (j := 2) rfl;have z0 := aZ t2 0;have z2 := aZ t2 2;have H2 := hd4 x2 m2 t2 q1;clear x2 m2 t2 q1 j1 c1))
    obtain ⟨x2, m2, t2, q1⟩ := H2.out;obtain ⟨V1, e1, u1, n1⟩ := gm t2 2 (.bool false);obtain ⟨V2, e2, u2, n2⟩ := gm u1 0 (ag k);rw [e1, e2];have n12 := n1.trans n2 (λ _ _ h => h);have lw := aa HB.2.2.1;have q2 := (IW (n12.block w.heap.size (IX q1) GR)).trans q1;have x3 := x2.moves n12 (λ i hi => Hf HB.2.2.2);have HV := hd3 x3 u2 n12;clear x2 m2 t2 q1 e1 e2 u1 u2 n1 n2 n12 x3 k0 k2 z0 z2 lw;go_wp2_with (go_at_call 150; refine (VC.out _ HV.1).mono ?_; rintro e w3 ⟨rfl, m4⟩)
    obtain ⟨B, r1, r2, lq⟩ := HB.out;obtain ⟨x2, m2, t2, q1⟩ := H2.out;exact ⟨rfl, rfl, (((((Moves.of_below B).trans H1.2 (λ _ _ h => h)).trans m2 (λ _ _ h => h)).trans HV.2.2 (λ i hi h => GR)).trans m4 (λ _ _ h => h))⟩
theorem ni {wX : World} {g2 : Nat} (h : Moves (λ k => k = g2) w w1) (k : Moves O w1 wX) (ho : ∀ i, O i -> w1.heap.size <= i) : Moves (λ k => k = g2) w wX :=
 h.trans k (λ i hi hO => Hg (ho i hO) h.size)
theorem x4b {T g1 g2 gen aL iD fin : Nat} {at' : Int} {D : Em.Rows} (h : fV w g1 g2 l fin) (hl : l.length <= 1000000000)
 (hT : w.heap[T]? = some (.cells (jg at' gen (.map (some m)) aL iD) dK (0, 0))) (hm : RowsIn w m (Maps.size D) D) (hs : Maps.size D <= 256) (h2 : T < g2) (hr : Em.eF l fin D = none) :
 Calls prog 114 #[.pointer (some T), .func (.func 107) #[] #[.pointer (some g1), .pointer (some g2)]] w λ e w' => e = .panicked fQ /\ Moves (λ k => k = g2) w w' := by
 have eg := enters_of func107 GQ rfl;cases hsp : Wm.split (l.drop fin) with
 | none =>
  have NX := hd1 (Gn h hl hsp);clear h hT hm hs hr hsp;exact QA
 | some p =>
  obtain ⟨body, n⟩ := p;obtain ⟨_, _, fP⟩ := jB hsp;have lb : body.length <= 1000000000 := by rw [I5] at fP; omega
  have NX := hd1 (qR h hl hsp);by_cases hk : ∃ ra, Wm.bF 3 body = some (3, ra)
  ·obtain ⟨ra, hk⟩ := hk
   have la := ic hk;have RC := hd1 (λ (X : World) (F : Nat -> Prop) (v : Value) (hv : BytesAt X.heap F v body) => qN hv lb hk);cases hn : Wm.bF 64 ra with
   | none =>
    have MC := hd1 (λ (X : World) (q : Nat) (hx : aU X q ra) => CO hx GR hn);clear h hT hm hs hr hsp hk hn lb la hl fP;go_in
    go_upto_region 1 with (first
     | (with_reducible refine NX.out.mono ?_; rintro e w1 ⟨v1, rfl, y1, x1, m1⟩; have H1 := hd3 y1 x1 m1; clear y1 x1 m1)
     | (go_at_call 147; refine (RC.out _ _ _ H1.1).mono ?_; rintro e w2 ⟨q, rfl, x2, hq, b2⟩; have H2 := hd3 x2 hq b2; clear x2 hq b2))
    obtain ⟨W2, hW2⟩ := G5 (w2.alloc (.cells #[.pointer (some ⟨q, 0, none⟩)] cK));have B2 : Below w2 w2 W2 := by rw [<-hW2]; exact bla
    have r4 : W2.heap[w2.heap.size]? = some (.cells #[q] cK) := by rw [<-hW2]; exact IC w2 _
    have lq := H2.1.lt;rw [hW2];obtain ⟨g4, hg4⟩ := G5 w2.heap.size;have NC := hd1 (MC.out W2 q (H2.1.later B2));rw [hg4] at r4 lq ⊢;have c4 := ae r4 (j := 0) rfl;have l4 := aa r4;have HB := hd5 B2 r4 lq hg4 l4;clear B2 r4 lq hW2 hg4 l4;go_wp2_with (go_at_call 148; refine NC.mono ?_; rintro e w3 ⟨rfl, m3⟩)
    exact ⟨rfl, rfl, ni H1.2.2 (((Moves.of_below (O := λ k => w1.heap.size <= k) H2.2.2).trans (Moves.of_below (O := λ k => w1.heap.size <= k) HB.1) (λ _ _ h => h)).trans (m3.mono (O' := λ k => w1.heap.size <= k) (λ k hk => Hf H2.2.1)) (λ _ _ h => h)) (λ _ h => h)⟩
   | some p =>
    obtain ⟨N, rb⟩ := p;have gM := ic hn;have MC := hd1 (λ (X : World) (q : Nat) (hx : aU X q ra) => oC hx GR hn);have HH := hd11 h hT hm hs hr hsp lb la gM hk hn;have N64 : N <= 64 := gM.2.1;clear h hT hm hs hr hk hn hsp lb la gM hl fP;go_in
    go_upto_region 1 with (first
     | (with_reducible refine NX.out.mono ?_; rintro e w1 ⟨v1, rfl, y1, x1, m1⟩; have H1 := hd3 y1 x1 m1; clear y1 x1 m1)
     | (go_at_call 147; refine (RC.out _ _ _ H1.1).mono ?_; rintro e w2 ⟨q, rfl, x2, hq, b2⟩; have H2 := hd3 x2 hq b2; clear x2 hq b2))
    obtain ⟨W2, hW2⟩ := G5 (w2.alloc (.cells #[.pointer (some ⟨q, 0, none⟩)] cK));have B2 : Below w2 w2 W2 := by rw [<-hW2]; exact bla
    have r4 : W2.heap[w2.heap.size]? = some (.cells #[q] cK) := by rw [<-hW2]; exact IC w2 _
    have lq := H2.1.lt;rw [hW2];obtain ⟨g4, hg4⟩ := G5 w2.heap.size;have NC := hd1 (MC.out W2 q (H2.1.later B2));rw [hg4] at r4 lq ⊢;have c4 := ae r4 (j := 0) rfl;have l4 := aa r4;have HB := hd5 B2 r4 lq hg4 l4;clear B2 r4 lq hW2 hg4 l4;go_upto_region 3 with (go_at_call 148; refine NC.mono ?_; rintro e w3 ⟨rfl, x3, m3⟩; have H3 := hd2 x3 m3; clear x3 m3 c4)
    obtain ⟨b2', r4, lq, hg4, l4⟩ := HB.out;have ST := hd1 (show D9 W2 q N rb 0 (.slice none 0 0) w3 [] rb from ⟨F_ _ _, H3.1, Ga.symm, H3.2.mono (λ _ h => Iy h), rfl, Nat.le_refl _⟩);clear b2' r4 lq hg4 l4
    have FAR := hd1 (show ∀ wX wY, Moves (λ k => k = q \/ W2.heap.size <= k) W2 wX -> Moves (λ k => k = q) wX wY -> Moves (λ k => k = g2) w wY from λ wX wY h h' =>
     ni H1.2.2 (((Moves.of_below (O := λ k => w1.heap.size <= k) H2.2.2).trans (Moves.of_below (O := λ k => w1.heap.size <= k) HB.1) (λ _ _ h => h)).trans ((h.mono (O' := λ k => w1.heap.size <= k) (λ k hk => by have := H2.2.1; have := HB.1.size; have := H2.2.2.size; rcases hk with h | h <;> omega)).trans (h'.mono (O' := λ k => w1.heap.size <= k) (λ k hk => by have := H2.2.1; omega)) (λ _ _ h => h)) (λ _ _ h => h)) (λ _ h => h))
    go_loopw [5, 13] (λ v s wr => ∃ (i : Nat) (acc : List Em.ay) (r : List UInt8), i <= N /\ s = .int .i64 (i : Int) /\ D9 W2 q N rb i v wr acc r) (λ _ s _ => N - (intOf s).toNat)
    case atStart => exact ⟨0, [], rb, IV _, rfl, ST.out⟩
    case round =>
     obtain ⟨i, acc, r, hi, rfl, hrel⟩ := hrel;have j4 : wr.cell? g4 = some (.pointer (some q)) := (IW (hrel.mv.block g4 HB.2.2.2.2 (Hg HB.2.2.1 HB.2.2.2.2))).trans (ae HB.2.1 rfl);have vS := hrel.len.2;have vY := HH.2.2.2.2.2.2.2.2.1.1;have gM := HH.2.2.2.2.2.2.2.1.1;have vX := HH.2.2.2.2.2.2.1;by_cases hlt : i < N
     ·have i0 : (0 : Int) <= (i : Int) := GR
      have i1 : (i : Int) < (N : Int) := GR;obtain ⟨j, hj⟩ : ∃ j, N - i = j + 1 := ⟨N - i - 1, GR⟩;cases hc : Em.kE r with
      | none =>
       have CC := hd1 (x8k hrel.rd GR hc);have HM := hd1 hrel.mv;clear hrel hc vS vY gM vX;go_wp2_with (go_at_call 151; refine CC.mono ?_; rintro e w4 ⟨rfl, m4⟩)
       exact ⟨rfl, rfl, FAR.out _ _ HM.out m4⟩
      | some p =>
       obtain ⟨c, r'⟩ := p;obtain ⟨lr, _, _⟩ := FI hc;have CC := hd1 (y1r hrel.rd GR hc);have HR := hd3 hrel lr hc;clear hrel hc lr vS vY gM vX
       go_wp2_with (first
        | (go_at_call 151; refine CC.mono ?_; rintro e w4 ⟨rfl, x4, m4⟩
           have o4 := HR.1.own.moves m4 (λ k hk => Hg HB.2.2.1 HB.2.2.2.2);have H4 := hd3 x4 m4 o4;clear x4 m4 o4)
        | (at_builtin; refine Ac rfl (.tmp 15) (.tmp 18) rfl W2.heap.size _ acc c rfl (H4.2.2.moves (Moves.of_below (O := λ _ => False) (bla)) (λ _ _ h => h)) w4.heap.size 1 rfl (IC w4 _) (Hf HR.1.len.1) MB (Below.refl _ (w4.alloc (.cells #[ag c.key, ag c.value, .bool c.gone] a_))) ?_; intro v5 w5 h5 h6))
       go_roundw
       case rel =>
        have b4 : Below w4 w4 (w4.alloc (.cells #[ag c.key, ag c.value, .bool c.gone] a_)) := bla;have bm := Dq h6.out MB;have lq := HB.2.2.1;have l4 := HB.2.2.2.2;refine ⟨i + 1, acc ++ [c], r', GR, by go_num, h5.out, (H4.1.later b4).moves bm (λ k hk => GR), ?_, ?_, by rw [IL, HR.1.len.1]; rfl, Hg HR.2.1 HR.1.len.2⟩
        ·rw [HR.1.cZ, hj, Em.eZ, HR.2.2, show N - (i + 1) = j by omega]
         exact Qq
        ·exact Pv
       case measure => simp [intOf]; omega
     ·obtain rfl : i = N := GR
      have heq := hrel.cZ;rw [J3] at heq;have heq : Em.eZ i rb = some (acc, r) := by rw [heq]; simp [Em.eZ]
      obtain ⟨hN, hT, hm, hs, hr, hsp, lb, la, z8j, hk, hn⟩ := HH.out;have hbt : Em.iK body = if r = [] then some acc else none := by
       unfold Em.iK;rw [hk];simp only [ne_eq, not_true, JM];rw [hn];simp only;rw [heq]
      by_cases hre : r = []
      ·subst hre
       rw [IA rfl] at hbt;have hd : Em.aW D acc ≠ 0 := by
        intro hd;unfold Em.eF at hr;rw [hsp] at hr;simp only at hr;rw [hbt] at hr;simp only at hr;rw [IA hd] at hr;cases hr
       have BW : Below w1 w1 wr := (((Moves.of_below (O := λ k => w1.heap.size <= k) H2.2.2).trans (Moves.of_below (O := λ k => w1.heap.size <= k) HB.1) (λ _ _ h => h)).trans (hrel.mv.mono (O' := λ k => w1.heap.size <= k) (λ k hk => by have := H2.2.1; have := HB.1.size; have := H2.2.2.size; rcases hk with h | h <;> omega)) (λ _ _ h => h)).low (O' := λ _ => False) (λ i hi h => GR) |>.below
       have sK := (H1.2.2.block T (aa hT) GR).trans hT;have rT := (BW.block T (aa sK)).trans sK;have yM : m ≠ g2 := by
        exact Qd
       have rm := dZ (jP hm H1.2.2 yM) BW (Hg hm.lt H1.2.2.size);have EC := hd1 (tZ hrel.rd);have DC := hd1 (λ (X : World) (hb : Below wr wr X) => CY (dZ rm hb rm.lt) GR (hrel.own.at.later hb) (Hf hrel.len.1) (λ c hc => Hf ((FH heq).2.2 c hc)));have HX := hd3 rT hrel.mv hd;obtain ⟨oa, oc, rfl⟩ := hrel.own.at.slice;have hdz : ((Em.aW D acc) == 0) = false := by rw [J2]; exact hd
       have hdz' : ¬ Em.aW D acc = 0 := hd;generalize acc.length = cl at *;clear hrel heq hN hT hm hs hd lb la gM z8j sK rT rm BW yM hr hsp hk hn hbt vS vY vX
       go_wp2_with (first
        | (go_at_call 149; refine EC.mono ?_; rintro e w6 ⟨rfl, b6⟩
           have t2 := ae ((b6.block T (aa HX.1)).trans HX.1) (j := 2) rfl;have D6 := hd1 (DC.out w6 b6);have B6 := hd1 b6;clear b6)
        | (go_at_call 109; refine (kH _).mono ?_; rintro e w' ⟨rfl, rfl⟩)
        | (go_at_call 109; refine (iL _).mono ?_; rintro e w' ⟨rfl, rfl⟩)
        | (go_at_call 37; refine D6.mono ?_; intro e w7 h7; obtain ⟨b7, h7⟩ := h7
           obtain rfl := h7.elim (λ h => h.2) (λ h => absurd h.1 HX.2.2);have H7 := hd1 b7;clear b7 h7 t2))
       exact ⟨rfl, rfl, FAR.out _ _ HX.2.1 (Moves.of_below (B6.trans (H7.mono B6.size)))⟩
      ·have EC := hd1 (y0n hrel.rd hre)
       have HM := hd1 hrel.mv;clear hrel heq hN hT hm hs lb la gM z8j hr hsp hk hn hbt vS vY vX
       go_wp2_with (first
        | (go_at_call 149; refine EC.mono ?_; rintro e w6 ⟨rfl, m6⟩; have H6 := hd1 m6; clear m6)
        | (go_at_call 109; refine (iL _).mono ?_; rintro e w' ⟨rfl, rfl⟩))
       exact ⟨rfl, rfl, FAR.out _ _ HM.out H6.out⟩
  ·have RC := hd1 (λ (X : World) (F : Nat -> Prop) (v : Value) (hv : BytesAt X.heap F v body) => Fv (kind := 3) hv lb (λ r e => hk ⟨r, e⟩))
   clear h hT hm hs hr hsp hk lb hl fP;exact Po
theorem y0m (h : aU w q l) : Calls prog 149 #[q] w λ e w' => e = .returned (.int .i64 (if l = [] then 0 else 140)) /\ Moves (λ k => k = q) w w' := by
 by_cases hl : l = []
 ·subst hl
  rw [IA rfl];exact (tZ h).mono (by rintro e w' ⟨rfl, hb⟩; exact ⟨rfl, Moves.of_below hb⟩)
 ·rw [Iw hl]
  exact y0n h hl
theorem x4n {T g1 g2 : Nat} (h : fV w g1 g2 l 0) (hl : l.length <= 1000000000) (hr : ∀ body m0, Wm.split l = some (body, m0) -> Em.fM body = none) :
 Calls prog 112 #[.pointer (some T), .func (.func 107) #[] #[.pointer (some g1), .pointer (some g2)]] w λ e w' => e = .panicked fQ /\ Moves (λ k => k = g2) w w' := by
 have eg := enters_of func107 GQ rfl;cases hsp : Wm.split l with
 | none =>
  have NX := hd1 (Gn h hl NG);clear h hr hsp;exact QA
 | some p =>
  obtain ⟨body, m0⟩ := p;have hh := hr body m0 hsp;obtain ⟨_, _, fP⟩ := jB hsp;have lb : body.length <= 1000000000 := GR;have NX := hd1 (qR h hl NG);by_cases hk : ∃ ra, Wm.bF 3 body = some (1, ra)
  ·obtain ⟨ra, hk⟩ := hk
   have la := ic hk;have RC := hd1 (λ (X : World) (F : Nat -> Prop) (v : Value) (hv : BytesAt X.heap F v body) => qN hv lb hk);cases hg : Wm.bF 2147483647 ra with
   | none =>
    have GC := hd1 (λ (X : World) (q : Nat) (hx : aU X q ra) => CO hx GR hg);clear h hr hsp hh hk hg la lb fP hl;go_in
    go_upto_region 1 with (first
     | (with_reducible refine NX.out.mono ?_; rintro e w1 ⟨v1, rfl, y1, x1, m1⟩; have H1 := hd3 y1 x1 m1; clear y1 x1 m1)
     | (go_at_call 147; refine (RC.out _ _ _ H1.1).mono ?_; rintro e w2 ⟨q, rfl, x2, hq, b2⟩; have H2 := hd3 x2 hq b2; clear x2 hq b2))
    obtain ⟨W2, hW2⟩ := G5 (w2.alloc (.cells #[.pointer (some ⟨q, 0, none⟩)] cK));have B2 : Below w2 w2 W2 := by rw [<-hW2]; exact bla
    have r4 : W2.heap[w2.heap.size]? = some (.cells #[q] cK) := by rw [<-hW2]; exact IC w2 _
    have lq := H2.1.lt;rw [hW2];obtain ⟨g4, hg4⟩ := G5 w2.heap.size;have X2 := hd1 (H2.1.later B2);rw [hg4] at r4 lq ⊢;have f4 : ∀ x : Wd (Moves (λ k => k = q) W2), x.world.cell? g4 = some (.pointer (some q)) := λ x => (IW (x.ok.block g4 (aa r4) GR)).trans (ae r4 rfl);have ne : Nonempty (Wd (Moves (λ k => k = q) W2)) := ⟨⟨_, Moves.refl _ _⟩⟩;have HB := hd4 B2 r4 lq hg4;clear B2 r4 lq hW2 hg4;refine Ab (λ w' => ∃ x : Wd (Moves (λ k => k = q) W2), w' = x.world) [3, 4, 5, 6] (λ c w' => c = fQ /\ Moves (λ k => k = q) W2 w') ?_ GQ ?_
    ·exact Pq
    ·refine Ae [0, 2] 5 _ ⟨⟨_, Moves.of_below GY.drew⟩, rfl⟩ GQ ?_
     simp only [fmc, fmn, gta, gcs, gcz];iterate 2 (with_reducible refine ak (λ K hK => ?_); simp only [au, ah]; go_simp; refine hK _ ?_; clear hK K)
     with_reducible refine aA ?_
     refine uX 1 4 _ _ rfl GQ ?_;refine IE rfl λ K hK => ?_;go_simp;go_at_call 148;refine (GC.out W2.drew q (X2.later GY.drew)).mono ?_;exact Pt
   | some p =>
    obtain ⟨g, rb⟩ := p;have gM := ic hg;have GC := hd1 (λ (X : World) (q : Nat) (hx : aU X q ra) => oC hx GR hg);cases hn : Wm.bF 256 rb with
    | none =>
     have MC := hd1 (λ (X : World) (q : Nat) (hx : aU X q rb) => CO hx GR hn);clear h hr hsp hh hk hg hn la gM lb fP hl;go_in
     go_upto_region 1 with (first
      | (with_reducible refine NX.out.mono ?_; rintro e w1 ⟨v1, rfl, y1, x1, m1⟩; have H1 := hd3 y1 x1 m1; clear y1 x1 m1)
      | (go_at_call 147; refine (RC.out _ _ _ H1.1).mono ?_; rintro e w2 ⟨q, rfl, x2, hq, b2⟩; have H2 := hd3 x2 hq b2; clear x2 hq b2))
     obtain ⟨W2, hW2⟩ := G5 (w2.alloc (.cells #[.pointer (some ⟨q, 0, none⟩)] cK));have B2 : Below w2 w2 W2 := by rw [<-hW2]; exact bla
     have r4 : W2.heap[w2.heap.size]? = some (.cells #[q] cK) := by rw [<-hW2]; exact IC w2 _
     have lq := H2.1.lt;rw [hW2];obtain ⟨g4, hg4⟩ := G5 w2.heap.size;have X2 := hd1 (H2.1.later B2);rw [hg4] at r4 lq ⊢;have f4 : ∀ x : Wd (Moves (λ k => k = q) W2), x.world.cell? g4 = some (.pointer (some q)) := λ x => (IW (x.ok.block g4 (aa r4) GR)).trans (ae r4 rfl);have ne : Nonempty (Wd (Moves (λ k => k = q) W2)) := ⟨⟨_, Moves.refl _ _⟩⟩;have HB := hd4 B2 r4 lq hg4;clear B2 r4 lq hW2 hg4;refine Ab (λ w' => ∃ x : Wd (Moves (λ k => k = q) W2), w' = x.world) [3, 4, 5, 6] (λ c w' => c = fQ /\ Moves (λ k => k = q) W2 w') ?_ GQ ?_
     ·exact Pq
     ·refine Ae [0, 2] 5 _ ⟨⟨_, Moves.of_below GY.drew⟩, rfl⟩ GQ ?_
      simp only [fmc, fmn, gta, gcs, gcz];iterate 2 (with_reducible refine ak (λ K hK => ?_); simp only [au, ah]; go_simp; refine hK _ ?_; clear hK K)
      with_reducible refine aA ?_
      refine uX 1 4 _ _ rfl GQ ?_;refine IE rfl λ K hK => ?_;go_simp;go_at_call 148;refine (GC.out W2.drew q (X2.later GY.drew)).mono ?_;rintro e w3 ⟨rfl, x3, m3⟩;have M3 : Moves (λ k => k = q) W2 w3 := (Moves.of_below (Below.refl W2 W2).drew).trans m3 (λ _ _ h => h);have H3 := hd2 x3 M3;clear x3 m3;refine hK _ _ (IB (Iy ⟨rfl, λ _ => ⟨⟨_, M3⟩, rfl⟩, ?_⟩));clear hK K;clear M3;refine uX 3 3 _ _ rfl GQ ?_;refine IE rfl λ K hK => ?_;go_simp;go_at_call 148;refine (MC.out w3 q H3.1).mono ?_;exact PG
    | some p =>
     obtain ⟨N, rc⟩ := p;have MC := hd1 (λ (X : World) (q : Nat) (hx : aU X q rb) => oC hx GR hn);have hbad : ¬ (rc = [] /\ 0 < g) := by
      intro hc;unfold Em.fM at hh;rw [hk] at hh;simp only [ne_eq, not_true, JM] at hh;rw [hg] at hh;simp only at hh;rw [hn] at hh;simp only at hh;rw [IA hc] at hh;cases hh
     clear h hr hsp hh hk hg hn la gM lb fP hl;go_in
     go_upto_region 1 with (first
      | (with_reducible refine NX.out.mono ?_; rintro e w1 ⟨v1, rfl, y1, x1, m1⟩; have H1 := hd3 y1 x1 m1; clear y1 x1 m1)
      | (go_at_call 147; refine (RC.out _ _ _ H1.1).mono ?_; rintro e w2 ⟨q, rfl, x2, hq, b2⟩; have H2 := hd3 x2 hq b2; clear x2 hq b2))
     obtain ⟨W2, hW2⟩ := G5 (w2.alloc (.cells #[.pointer (some ⟨q, 0, none⟩)] cK));have B2 : Below w2 w2 W2 := by rw [<-hW2]; exact bla
     have r4 : W2.heap[w2.heap.size]? = some (.cells #[q] cK) := by rw [<-hW2]; exact IC w2 _
     have lq := H2.1.lt;rw [hW2];obtain ⟨g4, hg4⟩ := G5 w2.heap.size;have X2 := hd1 (H2.1.later B2);rw [hg4] at r4 lq ⊢;have f4 : ∀ x : Wd (Moves (λ k => k = q) W2), x.world.cell? g4 = some (.pointer (some q)) := λ x => (IW (x.ok.block g4 (aa r4) GR)).trans (ae r4 rfl);have ne : Nonempty (Wd (Moves (λ k => k = q) W2)) := ⟨⟨_, Moves.refl _ _⟩⟩;have HB := hd4 B2 r4 lq hg4;clear B2 r4 lq hW2 hg4;refine bC (λ w' => ∃ x : Wd (Moves (λ k => k = q) W2), w' = x.world) [3, 4, 5, 6] GQ ?_;refine aI [0, 2] 5 _ ⟨⟨_, Moves.of_below GY.drew⟩, rfl⟩ GQ ?_;simp only [fmc, fmn, gta, gcs, gcz];iterate 2 (with_reducible refine ak (λ K hK => ?_); simp only [au, ah]; go_simp; refine hK _ ?_; clear hK K)
     with_reducible refine aA ?_
     refine az 1 4 _ _ rfl GQ ?_;refine IE rfl λ K hK => ?_;go_simp;go_at_call 148;refine (GC.out W2.drew q (X2.later GY.drew)).mono ?_;rintro e w3 ⟨rfl, x3, m3⟩;have M3 : Moves (λ k => k = q) W2 w3 := (Moves.of_below (Below.refl W2 W2).drew).trans m3 (λ _ _ h => h);have H3 := hd2 x3 M3;clear x3 m3;refine hK _ _ (IB ⟨rfl, λ _ => ⟨⟨_, M3⟩, rfl⟩, ?_⟩);clear hK K;clear M3;refine az 3 3 _ _ rfl GQ ?_;refine IE rfl λ K hK => ?_;go_simp;go_at_call 148;refine (MC.out w3 q H3.1).mono ?_;rintro e w4 ⟨rfl, x4, m4⟩;have H4 := hd2 x4 (H3.2.trans m4 (λ _ _ h => h));clear x4 m4 f4 ne;refine hK _ _ (IB ⟨rfl, λ h => absurd GU h, ?_⟩);clear hK K;refine eY [4, 5, 6] 0 _ GQ ?_;refine G9 ?_;refine ⟨GQ, ?_⟩;have c4 : w4.cell? g4 = some (.pointer (some q)) := (IW (H4.2.block g4 (aa HB.2.1) (Hf HB.2.2.1))).trans (ae HB.2.1 rfl);have EC := hd1 (y0m H4.1);by_cases hre : rc = []
     ·have g0 : ¬ 0 < g := λ h => hbad ⟨hre, h⟩
      rw [IA hre] at EC;exact O0
     ·rw [Iw hre] at EC
      exact O0
  ·have RC := hd1 (λ (X : World) (F : Nat -> Prop) (v : Value) (hv : BytesAt X.heap F v body) => Fv (kind := 1) hv lb (λ r e => hk ⟨r, e⟩))
   clear h hr hsp hh hk lb hl fP;exact Po
theorem y8s {T g1 g2 N m0 : Nat} {at' : Int} {rv : Value} {b0 e0 g0 : Nat} {body : List UInt8} (h : fV w g1 g2 l 0) (hl : l.length <= 1000000000)
 (hT : w.heap[T]? = some (.cells (jg at' g0 rv b0 e0) dK (0, 0))) (h1 : g1 < T) (h2 : T < g2) (hsp : Wm.split l = some (body, m0)) (hh : Em.fM body = some (g, N)) (hrw : Em.dP l N m0 [] (.map []) = none) :
 Calls prog 112 #[.pointer (some T), .func (.func 107) #[] #[.pointer (some g1), .pointer (some g2)]] w λ e w' => e = .panicked fQ /\ Moves (λ k => k = g2) w w' := by
 have eg := enters_of func107 GQ rfl;obtain ⟨ra, rb, hk, hg, hn, g0'⟩ := A8 hh;obtain ⟨_, _, fP⟩ := jB hsp;have la := ic hk;have gM := ic hg;have yG := ic hn;have w1s : N <= 256 := yG.2.1;have NX := hd1 (qR h hl NG);have RC := hd1 (λ (X : World) (F : Nat -> Prop) (v : Value) (hv : BytesAt X.heap F v body) => qN hv GR hk);have GC := hd1 (λ (X : World) (q : Nat) (hx : aU X q ra) => oC hx GR hg);have MC := hd1 (λ (X : World) (q : Nat) (hx : aU X q rb) => oC hx GR hn);have HH := hd6 h hT hrw hl h1 h2;have x4d : (0 : Int) < (g : Int) := GR;have x4e : 0 < g := g0';clear h hT hrw hh hk hg hn hsp la gM yG fP hl g0';go_in
 go_upto_region 1 with (first
  | (with_reducible refine NX.out.mono ?_; rintro e w1 ⟨v1, rfl, y1, x1, m1⟩; have H1 := hd3 y1 x1 m1; clear y1 x1 m1)
  | (go_at_call 147; refine (RC.out _ _ _ H1.1).mono ?_; rintro e w2 ⟨q, rfl, x2, hq, b2⟩; have H2 := hd3 x2 hq b2; clear x2 hq b2))
 obtain ⟨W2, hW2⟩ := G5 (w2.alloc (.cells #[.pointer (some ⟨q, 0, none⟩)] cK));have B2 : Below w2 w2 W2 := by rw [<-hW2]; exact bla
 have r4 : W2.heap[w2.heap.size]? = some (.cells #[q] cK) := by rw [<-hW2]; exact IC w2 _
 have lq := H2.1.lt;rw [hW2];obtain ⟨g4, hg4⟩ := G5 w2.heap.size;have X2 := hd1 (H2.1.later B2);rw [hg4] at r4 lq ⊢;have f4 : ∀ x : Wd (Moves (λ k => k = q) W2), x.world.cell? g4 = some (.pointer (some q)) := λ x => (IW (x.ok.block g4 (aa r4) GR)).trans (ae r4 rfl);have ne : Nonempty (Wd (Moves (λ k => k = q) W2)) := ⟨⟨_, Moves.refl _ _⟩⟩;have HB := hd4 B2 r4 lq hg4;clear B2 r4 lq hW2 hg4;refine bC (λ w' => ∃ x : Wd (Moves (λ k => k = q) W2), w' = x.world) [3, 4, 5, 6] GQ ?_;refine aI [0, 2] 5 _ ⟨⟨_, Moves.of_below GY.drew⟩, rfl⟩ GQ ?_;simp only [fmc, fmn, gta, gcs, gcz];iterate 2 (with_reducible refine ak (λ K hK => ?_); simp only [au, ah]; go_simp; refine hK _ ?_; clear hK K)
 with_reducible refine aA ?_
 refine az 1 4 _ _ rfl GQ ?_;refine IE rfl λ K hK => ?_;go_simp;go_at_call 148;refine (GC.out W2.drew q (X2.later GY.drew)).mono ?_;rintro e w3 ⟨rfl, x3, m3⟩;have M3 : Moves (λ k => k = q) W2 w3 := (Moves.of_below (Below.refl W2 W2).drew).trans m3 (λ _ _ h => h);have H3 := hd2 x3 M3;clear x3 m3;refine hK _ _ (IB ⟨rfl, λ _ => ⟨⟨_, M3⟩, rfl⟩, ?_⟩);clear hK K;clear M3;refine az 3 3 _ _ rfl GQ ?_;refine IE rfl λ K hK => ?_;go_simp;go_at_call 148;refine (MC.out w3 q H3.1).mono ?_;rintro e w4 ⟨rfl, x4, m4⟩;have H4 := hd2 x4 (H3.2.trans m4 (λ _ _ h => h));clear x4 m4 f4 ne;refine hK _ _ (IB ⟨rfl, λ h => absurd GU h, ?_⟩);clear hK K;refine eY [4, 5, 6] 0 _ GQ ?_;refine G9 ?_;refine ⟨GQ, ?_⟩;have c4 : w4.cell? g4 = some (.pointer (some q)) := (IW (H4.2.block g4 (aa HB.2.1) (Hf HB.2.2.1))).trans (ae HB.2.1 rfl);have EC := hd1 (tZ H4.1);have hmm := @Ko prog
 go_wp2_with (first
  | (go_at_call 149; refine EC.mono ?_; rintro e w5 ⟨rfl, b5⟩; have H5 := hd1 b5; clear b5 c4)
  | (go_at_call 109; refine (kH _).mono ?_; rintro e w' ⟨rfl, rfl⟩))
 obtain ⟨W5, pQ⟩ := G5 (w5.alloc (.map #[] 0));have b5 : Below w5 w5 W5 := by rw [<-pQ]; exact bla
 have rM : RowsIn W5 w5.heap.size 0 (.map []) := by rw [<-pQ]; exact L9 (H := Unit) w5 prog dB (plainElem prog dB)
 have BW : Below w1 w1 W5 := (((Moves.of_below (O := λ k => w1.heap.size <= k) (H2.2.2)).trans (Moves.of_below (O := λ k => w1.heap.size <= k) HB.1) (λ _ _ h => h)).trans ((H4.2.mono (O' := λ k => w1.heap.size <= k) (λ k hk => Hf H2.2.1)).trans (Moves.of_below (O := λ k => w1.heap.size <= k) (H5.trans (b5.mono H5.size))) (λ _ _ h => h)) (λ _ _ h => h)).low (O' := λ _ => False) (λ i hi h => GR) |>.below
 have lM : w1.heap.size <= w5.heap.size := by have := H2.2.2.size; have := HB.1.size; have := H4.2.size; have := H5.size; omega
 rw [pQ];obtain ⟨M, hM⟩ := G5 w5.heap.size;rw [hM] at rM lM ⊢;have ST := hd1 (show Ea w g1 g2 M N m0 l 0 [] W5 (.map []) m0 from ⟨by have := H1.2.1.later BW; rwa [I8] at this, rM, rfl, (H1.2.2.mono (O' := λ k => k = g2 \/ w.heap.size <= k) (λ _ h => Iy h)).trans (Moves.of_below (O := λ k => k = g2 \/ w.heap.size <= k) BW) (λ _ _ h => h)⟩);have HM := hd1 (show w.heap.size <= M by have := H1.2.2.size; omega);clear pQ b5 rM BW lM hM H1 H2 H3 H4 H5 HB X2 EC NX RC GC MC;go_loopw [7, 30] (λ s7 s wr => ∃ (i : Nat) (last : List UInt8) (D : Em.Rows) (fin : Nat), i <= N /\ s = .int .i64 (i : Int) /\ s7 = ag last /\ Ea w g1 g2 M N m0 l i last wr D fin) (λ _ s _ => N - (intOf s).toNat)
 case atStart => exact ⟨0, [], _, _, IV _, rfl, rfl, ST.out⟩
 case round =>
  obtain ⟨i, last, Di, fi, hi, rfl, rfl, hrel⟩ := hrel;have heq := hrel.cZ;have FL := hd1 (show ∀ wX, Moves (λ k => k = g2) wr wX -> Moves (λ k => k = g2) w wX from λ wX hx => (hrel.mv.trans (hx.mono (O' := λ k => k = g2 \/ w.heap.size <= k) (λ _ h => Iy h)) (λ _ _ h => h)).low (λ i hi h => by rcases h with h | h; exact h; omega));by_cases hlt : i < N
  ·have i0 : (0 : Int) <= (i : Int) := GR
   have i1 : (i : Int) < (N : Int) := GR;obtain ⟨j, hj⟩ : ∃ j, N - i = j + 1 := ⟨N - i - 1, GR⟩;have kI := HH.2.2.2.1;have oq : (l.drop fi).length <= l.length := by rw [I5]; omega
   cases hsp : Wm.split (l.drop fi) with
   | none =>
    have NX := hd1 (Gn hrel.next kI hsp);clear hrel heq hsp kI oq;go_wp2_with (with_reducible refine NX.out.mono ?_; rintro e w1 ⟨rfl, b1⟩)
    exact ⟨rfl, rfl, FL.out _ (Moves.of_below b1)⟩
   | some p =>
    obtain ⟨qg, m'⟩ := p;obtain ⟨_, _, fP⟩ := jB hsp;cases hrr : Em.jk last qg with
    | none =>
     have NX := hd1 (qR hrel.next kI hsp);by_cases hk : ∃ iW, Wm.bF 3 qg = some (2, iW)
     ·obtain ⟨iW, hk⟩ := hk
      have la := ic hk;have RC := hd1 (λ (X : World) (F : Nat -> Prop) (v : Value) (hv : BytesAt X.heap F v qg) => qN hv GR hk);cases ht : Wm.dh 64 iW with
      | none =>
       have KC := hd1 (λ (X : World) (q : Nat) (hx : aU X q iW) => CK hx GR ht);clear hrel heq hsp hrr hk ht fP la oq kI
       go_upto_region 7 with (first
        | (with_reducible refine NX.out.mono ?_; rintro e w1 ⟨v1, rfl, y1, x1, m1⟩; have H1 := hd3 y1 x1 m1; clear y1 x1 m1)
        | (go_at_call 147; refine (RC.out _ _ _ H1.1).mono ?_; rintro e w2 ⟨q, rfl, x2, hq, b2⟩; have H2 := hd3 x2 hq b2; clear x2 hq b2))
       obtain ⟨W2, hW2⟩ := G5 (w2.alloc (.cells #[.pointer (some ⟨q, 0, none⟩)] cK));have B2 : Below w2 w2 W2 := by rw [<-hW2]; exact bla
       have r4 : W2.heap[w2.heap.size]? = some (.cells #[q] cK) := by rw [<-hW2]; exact IC w2 _
       have lq := H2.1.lt;rw [hW2];obtain ⟨g4, hg4⟩ := G5 w2.heap.size;have X2 := hd1 (H2.1.later B2);rw [hg4] at r4 lq ⊢;have f4 : ∀ x : Wd (Moves (λ k => k = q) W2), x.world.cell? g4 = some (.pointer (some q)) := λ x => (IW (x.ok.block g4 (aa r4) GR)).trans (ae r4 rfl);have ne : Nonempty (Wd (Moves (λ k => k = q) W2)) := ⟨⟨_, Moves.refl _ _⟩⟩;have HB := hd4 B2 r4 lq hg4;clear B2 r4 lq hW2 hg4;refine Ab (λ w' => ∃ x : Wd (Moves (λ k => k = q) W2), w' = x.world) [3, 4, 5] (λ c w' => c = fQ /\ Moves (λ k => k = q) W2 w') ?_ GQ ?_
       ·exact Pj
       ·refine Ae [0, 2] 4 _ ⟨⟨_, Moves.of_below GY.drew⟩, rfl⟩ GQ ?_
        simp only [fmc, fmn, gta, gcs, gcz];iterate 2 (with_reducible refine ak (λ K hK => ?_); simp only [au, ah]; go_simp; refine hK _ ?_; clear hK K)
        with_reducible refine aA ?_
        refine uX 1 3 _ _ rfl GQ ?_;refine IE rfl λ K hK => ?_;go_simp;go_at_call 150;refine (KC.out W2.drew q (X2.later GY.drew)).mono ?_;exact Pt
      | some p =>
       obtain ⟨k, kG⟩ := p;have lk := kS ht;have KC := hd1 (λ (X : World) (q : Nat) (hx : aU X q iW) => qa hx GR ht);cases hv : Wm.dh 4096 kG with
       | none =>
        have VC := hd1 (λ (X : World) (q : Nat) (hx : aU X q kG) => CK hx GR hv);clear hrel heq hsp hrr hk ht hv fP la lk oq kI
        go_upto_region 7 with (first
         | (with_reducible refine NX.out.mono ?_; rintro e w1 ⟨v1, rfl, y1, x1, m1⟩; have H1 := hd3 y1 x1 m1; clear y1 x1 m1)
         | (go_at_call 147; refine (RC.out _ _ _ H1.1).mono ?_; rintro e w2 ⟨q, rfl, x2, hq, b2⟩; have H2 := hd3 x2 hq b2; clear x2 hq b2))
        obtain ⟨W2, hW2⟩ := G5 (w2.alloc (.cells #[.pointer (some ⟨q, 0, none⟩)] cK));have B2 : Below w2 w2 W2 := by rw [<-hW2]; exact bla
        have r4 : W2.heap[w2.heap.size]? = some (.cells #[q] cK) := by rw [<-hW2]; exact IC w2 _
        have lq := H2.1.lt;rw [hW2];obtain ⟨g4, hg4⟩ := G5 w2.heap.size;have X2 := hd1 (H2.1.later B2);rw [hg4] at r4 lq ⊢;have f4 : ∀ x : Wd (Moves (λ k => k = q) W2), x.world.cell? g4 = some (.pointer (some q)) := λ x => (IW (x.ok.block g4 (aa r4) GR)).trans (ae r4 rfl);have ne : Nonempty (Wd (Moves (λ k => k = q) W2)) := ⟨⟨_, Moves.refl _ _⟩⟩;have HB := hd4 B2 r4 lq hg4;clear B2 r4 lq hW2 hg4;refine Ab (λ w' => ∃ x : Wd (Moves (λ k => k = q) W2), w' = x.world) [3, 4, 5] (λ c w' => c = fQ /\ Moves (λ k => k = q) W2 w') ?_ GQ ?_
        ·exact Pj
        ·refine Ae [0, 2] 4 _ ⟨⟨_, Moves.of_below GY.drew⟩, rfl⟩ GQ ?_
         simp only [fmc, fmn, gta, gcs, gcz];iterate 2 (with_reducible refine ak (λ K hK => ?_); simp only [au, ah]; go_simp; refine hK _ ?_; clear hK K)
         with_reducible refine aA ?_
         refine uX 1 3 _ _ rfl GQ ?_;refine IE rfl λ K hK => ?_;go_simp;go_at_call 150;refine (KC.out W2.drew q (X2.later GY.drew)).mono ?_;rintro e w3 ⟨rfl, x3, m3⟩;have M3 : Moves (λ k => k = q) W2 w3 := (Moves.of_below (Below.refl W2 W2).drew).trans m3 (λ _ _ h => h);have H3 := hd2 x3 M3;clear x3 m3;refine hK _ _ (IB (Iy ⟨rfl, λ _ => ⟨⟨_, M3⟩, rfl⟩, ?_⟩));clear hK K;clear M3;refine uX 3 2 _ _ rfl GQ ?_;refine IE rfl λ K hK => ?_;go_simp;go_at_call 150;refine (VC.out w3 q H3.1).mono ?_;exact PG
       | some p =>
        obtain ⟨vv, rc⟩ := p;have VC := hd1 (λ (X : World) (q : Nat) (hx : aU X q kG) => qa hx GR hv);have hbad : rc = [] -> k <= last := by
         intro hc;refine Decidable.byContradiction λ hn => ?_;unfold Em.jk at hrr;rw [hk] at hrr;simp only [ne_eq, not_true, JM] at hrr;rw [ht] at hrr;simp only at hrr;rw [hv] at hrr;simp only at hrr;rw [IA ⟨hc, hn⟩] at hrr;cases hrr
        clear hrel heq hsp hrr hk ht hv fP la lk oq kI
        go_upto_region 7 with (first
         | (with_reducible refine NX.out.mono ?_; rintro e w1 ⟨v1, rfl, y1, x1, m1⟩; have H1 := hd3 y1 x1 m1; clear y1 x1 m1)
         | (go_at_call 147; refine (RC.out _ _ _ H1.1).mono ?_; rintro e w2 ⟨q, rfl, x2, hq, b2⟩; have H2 := hd3 x2 hq b2; clear x2 hq b2))
        obtain ⟨W2, hW2⟩ := G5 (w2.alloc (.cells #[.pointer (some ⟨q, 0, none⟩)] cK));have B2 : Below w2 w2 W2 := by rw [<-hW2]; exact bla
        have r4 : W2.heap[w2.heap.size]? = some (.cells #[q] cK) := by rw [<-hW2]; exact IC w2 _
        have lq := H2.1.lt;rw [hW2];obtain ⟨g4, hg4⟩ := G5 w2.heap.size;have X2 := hd1 (H2.1.later B2);rw [hg4] at r4 lq ⊢;have f4 : ∀ x : Wd (Moves (λ k => k = q) W2), x.world.cell? g4 = some (.pointer (some q)) := λ x => (IW (x.ok.block g4 (aa r4) GR)).trans (ae r4 rfl);have ne : Nonempty (Wd (Moves (λ k => k = q) W2)) := ⟨⟨_, Moves.refl _ _⟩⟩;have HB := hd4 B2 r4 lq hg4;clear B2 r4 lq hW2 hg4;refine bC (λ w' => ∃ x : Wd (Moves (λ k => k = q) W2), w' = x.world) [3, 4, 5] GQ ?_;refine aI [0, 2] 4 _ ⟨⟨_, Moves.of_below GY.drew⟩, rfl⟩ GQ ?_;simp only [fmc, fmn, gta, gcs, gcz];iterate 2 (with_reducible refine ak (λ K hK => ?_); simp only [au, ah]; go_simp; refine hK _ ?_; clear hK K)
        with_reducible refine aA ?_
        refine az 1 3 _ _ rfl GQ ?_;refine IE rfl λ K hK => ?_;go_simp;go_at_call 150;refine (KC.out W2.drew q (X2.later GY.drew)).mono ?_;rintro e w3 ⟨rfl, x3, m3⟩;have M3 : Moves (λ k => k = q) W2 w3 := (Moves.of_below (Below.refl W2 W2).drew).trans m3 (λ _ _ h => h);have H3 := hd2 x3 M3;clear x3 m3;refine hK _ _ (IB ⟨rfl, λ _ => ⟨⟨_, M3⟩, rfl⟩, ?_⟩);clear hK K;clear M3;refine az 3 2 _ _ rfl GQ ?_;refine IE rfl λ K hK => ?_;go_simp;go_at_call 150;refine (VC.out w3 q H3.1).mono ?_;rintro e w4 ⟨rfl, x4, m4⟩;have H4 := hd2 x4 (H3.2.trans m4 (λ _ _ h => h));clear x4 m4 f4 ne;refine hK _ _ (IB ⟨rfl, λ h => absurd GU h, ?_⟩);clear hK K;refine eY [4, 5] 0 _ GQ ?_;refine G9 ?_;refine ⟨GQ, ?_⟩;have c4 : w4.cell? g4 = some (.pointer (some q)) := (IW (H4.2.block g4 (aa HB.2.1) (Hf HB.2.2.1))).trans (ae HB.2.1 rfl);have EC := hd1 (y0m H4.1);by_cases hre : rc = []
        ·have hkl := hbad hre
         rw [IA hre] at EC;clear hbad hre;by_cases hkq : k = last
         ·have q1 : Op.bytesLess k last = false := by rw [ui, LK, hkq]; exact List.lt_irrefl _
          have q2 : (k == last) = true := by rw [beq_iff_eq]; exact hkq
          clear hkl hkq;exact Oz
         ·have q1 : Op.bytesLess k last = true := by rw [ui, decide_eq_true_iff]; exact List.not_le.1 (λ h => hkq (KU hkl h))
          clear hkl hkq;exact Oz
        ·rw [Iw hre] at EC
         clear hbad hre;exact Oz
     ·have RC := hd1 (λ (X : World) (F : Nat -> Prop) (v : Value) (hv : BytesAt X.heap F v qg) => Fv (kind := 2) hv GR (λ r e => hk ⟨r, e⟩))
      clear hrel heq hsp hrr hk fP oq kI
      go_wp2_with (first
       | (with_reducible refine NX.out.mono ?_; rintro e w1 ⟨v1, rfl, y1, x1, m1⟩; have H1 := hd3 y1 x1 m1; clear y1 x1 m1)
       | (go_at_call 147; refine (RC.out _ _ _ H1.1).mono ?_; rintro e w2 ⟨rfl, b2⟩))
      exact ⟨rfl, rfl, FL.out _ (H1.2.2.trans (Moves.of_below b2) (λ _ _ h => h))⟩
    | some p =>
     obtain ⟨k, vv⟩ := p;clear heq oq kI fP;obtain ⟨iW, kG, hk, ht, hv, hlast⟩ := AX hrr;obtain ⟨_, _, fP⟩ := jB hsp;have la := ic hk;have lk := kS ht;have lv := kS hv;have oq : (l.drop fi).length <= l.length := by rw [I5]; omega
     have kI := HH.2.2.2.1;have NX := hd1 (qR hrel.next kI hsp);have RC := hd1 (λ (X : World) (F : Nat -> Prop) (v : Value) (hv : BytesAt X.heap F v qg) => qN hv GR hk);have KC := hd1 (λ (X : World) (q : Nat) (hx : aU X q iW) => qa hx GR ht);have VC := hd1 (λ (X : World) (q : Nat) (hx : aU X q kG) => qa hx GR hv);have q1 : Op.bytesLess k last = false := z4v _ _ hlast;have q2 : (k == last) = false := z4w _ _ hlast;have HR := hd4 hrel trivial lk.2 lv.2;have HRR := hd2 hsp hrr;clear hrel hsp hrr hk ht hv hlast fP la lk lv oq kI;exact Og
  ·obtain rfl : i = N := GR
   rw [J3, HH.2.2.1, Em.dP] at heq;cases heq
theorem x9l {T g1 g2 : Nat} {at' : Int} {rv : Value} {b0 e0 g0 : Nat} (h : fV w g1 g2 l 0) (hl : l.length <= 1000000000)
 (hT : w.heap[T]? = some (.cells (jg at' g0 rv b0 e0) dK (0, 0))) (h1 : g1 < T) (h2 : T < g2) (hr : Em.fe l = none) :
 Calls prog 112 #[.pointer (some T), .func (.func 107) #[] #[.pointer (some g1), .pointer (some g2)]] w λ e w' => e = .panicked fQ /\ Moves (λ k => k = g2) w w' := by
 by_cases hz : ∀ body m0, Wm.split l = some (body, m0) -> Em.fM body = none
 ·exact x4n h hl hz
 ·obtain ⟨body, hz⟩ := Classical.not_forall.1 hz
  obtain ⟨m0, hz⟩ := Classical.not_forall.1 hz;obtain ⟨hsp, hz⟩ := Classical.not_imp.1 hz;cases hh : Em.fM body with
  | none => exact absurd hh hz
  | some p =>
   obtain ⟨g, N⟩ := p;refine y8s h hl hT h1 h2 hsp hh ?_;unfold Em.fe at hr;rw [hsp] at hr;simp only at hr;rw [hh] at hr;simp only at hr;cases hrw : Em.dP l N m0 [] (.map []) with
   | none => rfl
   | some p => rw [hrw] at hr; cases hr
abbrev jR (g1 g2 : Nat) : Value := .func (.func 107) #[] #[.pointer (some ⟨g1, 0, none⟩), .pointer (some ⟨g2, 0, none⟩)]
theorem x9j {T g1 g2 g7 : Nat} {R : World -> Prop} (c3 : w.cell? g7 = some (jR g1 g2)) (BC : Calls prog 112 #[T, jR g1 g2] w λ e w' => e = .returned (.tuple #[]) /\ R w') :
 Calls prog 111 #[T, g7] w λ e w' => e = .returned (.tuple #[]) /\ R w' := by
 go_in;go_wp2_with (go_at_call 112; refine BC.mono ?_; rintro e w1 ⟨rfl, h1⟩)
 go_end0
 exact ⟨rfl, h1⟩
theorem x9i {T g1 g2 g7 : Nat} {R : World -> Prop} (c3 : w.cell? g7 = some (jR g1 g2)) (BC : Calls prog 112 #[T, jR g1 g2] w λ e w' => e = .panicked fQ /\ R w') :
 Calls prog 111 #[T, g7] w λ e w' => e = .panicked fQ /\ R w' := by
 go_in;go_wp2_with (go_at_call 112; refine BC.mono ?_; rintro e w1 ⟨rfl, h1⟩)
 exact ⟨rfl, rfl, h1⟩
theorem x5w {T g1 g2 g7 : Nat} {R : World -> Prop} (c3 : w.cell? g7 = some (jR g1 g2)) (BC : Calls prog 114 #[T, jR g1 g2] w λ e w' => e = .returned (.tuple #[]) /\ R w') :
 Calls prog 113 #[T, g7] w λ e w' => e = .returned (.tuple #[]) /\ R w' := by
 go_in;go_wp2_with (go_at_call 114; refine BC.mono ?_; rintro e w1 ⟨rfl, h1⟩)
 go_end0
 exact ⟨rfl, h1⟩
theorem x5v {T g1 g2 g7 : Nat} {R : World -> Prop} (c3 : w.cell? g7 = some (jR g1 g2)) (BC : Calls prog 114 #[T, jR g1 g2] w λ e w' => e = .panicked fQ /\ R w') :
 Calls prog 113 #[T, g7] w λ e w' => e = .panicked fQ /\ R w' := by
 go_in;go_wp2_with (go_at_call 114; refine BC.mono ?_; rintro e w1 ⟨rfl, h1⟩)
 exact ⟨rfl, rfl, h1⟩
structure y2q (W : World) (g1 T g2 : Nat) (at' : Int) (gen : Nat) (l : List UInt8) (fin n iD : Nat) (D : Em.Rows) (wr : World) : Prop where
 next : fV wr g1 g2 l fin
 row : ∃ m, wr.heap[T]? = some (.cells (jg at' gen (.map (some m)) n iD) dK (0, 0)) /\ RowsIn wr m (Maps.size D) D /\ W.heap.size <= m
 mv : Moves (λ k => k = T \/ k = g2 \/ W.heap.size <= k) W wr
theorem y5y {g1 T g2 g7 gen fin : Nat} {at' : Int} {D : Em.Rows} (h : fV W g1 g2 l 0) (hl : l.length <= 1000000000)
 (hT : W.heap[T]? = some (.cells (jg at' 0 (.map none) 0 0) dK (0, 0))) (h1 : g1 < T) (h2 : T < g2) (c3 : W.cell? g7 = some (jR g1 g2)) (hr : Em.fe l = some (gen, D, fin)) :
 Calls prog 110 #[.func (.func 111) #[] #[.pointer (some T), .pointer (some g7)]] W λ e w' => e = .returned (.bool true) /\ y2q W g1 T g2 at' gen l fin 0 0 D w' := by
 have B : Below W W (W.alloc (.cells #[false] iU)) := bla;have lg := aa h.far;have BC := x9m (h.later B) hl ((B.block T (aa hT)).trans hT) h1 h2 hr
 refine (z3o (w := W) (R := λ w' => fV w' g1 g2 l fin /\ (∃ m', w'.heap[T]? = some (.cells (jg at' gen (.map (some m')) 0 0) dK (0, 0)) /\ RowsIn w' m' (Maps.size D) D /\ (W.alloc (.cells #[false] iU)).heap.size <= m') /\ Moves (λ k => k = T \/ k = g2) (W.alloc (.cells #[false] iU)) w') (fs := #[]) (cs := #[.pointer (some ⟨T, 0, none⟩), .pointer (some ⟨g7, 0, none⟩)]) (enters_of func111 GQ rfl) (by rw [JH]; exact x9j (aN B c3) BC)
  (λ w' hw => (hw.2.2.block W.heap.size GV GR).trans (IC W _))).mono ?_
 rintro e w' ⟨rfl, X, ⟨nx, ⟨m, rT, rm, hm⟩, mx⟩, rfl⟩;have ms := eP X W.heap.size 0 (.bool true);simp only [Jk] at hm;refine ⟨rfl, nx.moves ms (λ k hk => Hf h.lt), ⟨m, (ms.block T (aa rT) GR).trans rT, jP rm ms GR, GR⟩, ?_⟩;exact PO
theorem y5z {g1 T g2 g7 : Nat} {at' : Int} (h : fV W g1 g2 l 0) (hl : l.length <= 1000000000)
 (hT : W.heap[T]? = some (.cells (jg at' 0 (.map none) 0 0) dK (0, 0))) (h1 : g1 < T) (h2 : T < g2) (c3 : W.cell? g7 = some (jR g1 g2)) (hr : Em.fe l = none) :
 Calls prog 110 #[.func (.func 111) #[] #[.pointer (some T), .pointer (some g7)]] W λ e w' => e = .returned (.bool false) /\ Moves (λ k => k = g2) W w' := by
 have B : Below W W (W.alloc (.cells #[false] iU)) := bla;have lg := aa h.far;have BC := x9l (h.later B) hl ((B.block T (aa hT)).trans hT) h1 h2 hr
 refine (Ey (w := W) (R := λ w' => Moves (λ k => k = g2) (W.alloc (.cells #[false] iU)) w') (fs := #[]) (cs := #[.pointer (some ⟨T, 0, none⟩), .pointer (some ⟨g7, 0, none⟩)]) (enters_of func111 GQ rfl) (by rw [JH]; exact x9i (aN B c3) BC)
  (λ w' hw => (hw.block W.heap.size GV GR).trans (IC W _))).mono ?_
 exact Qn
theorem y4a {g1 T g2 g7 gen fin iD : Nat} {at' : Int} {D : Em.Rows} (h : fV W g1 g2 l fin) (hl : l.length <= 1000000000) (hs : Maps.size D <= 256) (hn : n <= 1000000000)
 (hT : W.heap[T]? = some (.cells (jg at' gen (.map (some m)) n iD) dK (0, 0))) (hm : RowsIn W m (Maps.size D) D) (h1 : g1 < T) (h2 : T < g2) (c3 : W.cell? g7 = some (jR g1 g2)) :
 Calls prog 110 #[.func (.func 113) #[] #[.pointer (some T), .pointer (some g7)]] W λ e w' =>
  match Em.eF l fin D with
  | none => e = .returned (.bool false) /\ Moves (λ k => k = g2) W w'
  | some r => e = .returned (.bool true) /\ y2q W g1 T g2 at' gen l r.2 (n + 1) iD r.1 w' := by
 have B : Below W W (W.alloc (.cells #[false] iU)) := bla;have lg := aa h.far;have rT := (B.block T (aa hT)).trans hT;have rm := dZ hm B hm.lt;cases hr : Em.eF l fin D with
 | none =>
  have BC := x4b (h.later B) hl rT rm hs h2 hr
  refine (Ey (w := W) (R := λ w' => Moves (λ k => k = g2) (W.alloc (.cells #[false] iU)) w') (fs := #[]) (cs := #[.pointer (some ⟨T, 0, none⟩), .pointer (some ⟨g7, 0, none⟩)]) (enters_of func113 GQ rfl) (by rw [JH]; exact x5v (aN B c3) BC)
   (λ w' hw => (hw.block W.heap.size GV GR).trans (IC W _))).mono ?_
  exact Qn
 | some r =>
  obtain ⟨D', fin'⟩ := r;have BC := x4c (h.later B) hl rT rm hs h1 h2 hn hr
  refine (z3o (w := W) (R := λ w' => fV w' g1 g2 l fin' /\ (∃ m', w'.heap[T]? = some (.cells (jg at' gen (.map (some m')) (n + 1) iD) dK (0, 0)) /\ RowsIn w' m' (Maps.size D') D' /\ (W.alloc (.cells #[false] iU)).heap.size <= m') /\ Moves (λ k => k = T \/ k = g2) (W.alloc (.cells #[false] iU)) w') (fs := #[]) (cs := #[.pointer (some ⟨T, 0, none⟩), .pointer (some ⟨g7, 0, none⟩)]) (enters_of func113 GQ rfl) (by rw [JH]; exact x5w (aN B c3) BC)
   (λ w' hw => (hw.2.2.block W.heap.size GV GR).trans (IC W _))).mono ?_
  rintro e w' ⟨rfl, X, ⟨nx, ⟨m', rT', rm', hm'⟩, mx⟩, rfl⟩;have ms := eP X W.heap.size 0 (.bool true);simp only [Jk] at hm';refine ⟨rfl, nx.moves ms (λ k hk => Hf h.lt), ⟨m', (ms.block T (aa rT') GR).trans rT', jP rm' ms GR, GR⟩, ?_⟩;exact PO
structure y2n (W : World) (g1 T g2 : Nat) (at' : Int) (gen : Nat) (l : List UInt8) (want : Em.Rows × Nat × Nat) (b : Bool) (ghost : Nat) (fin n iD : Nat) (D : Em.Rows) (wr : World) : Prop where
 goes : b = true -> fV wr g1 g2 l fin /\ ghost = l.length - fin + 1 /\ ∃ f, l.length < f + fin /\ want = Em.dM l f fin D n
 ends : b = false -> ghost = 0 /\ want = (D, n, iD)
 rows : Em.bI D /\ Maps.size D <= 256 /\ n <= fin /\ fin <= l.length
 row : ∃ m, wr.heap[T]? = some (.cells (jg at' gen (.map (some m)) n iD) dK (0, 0)) /\ RowsIn wr m (Maps.size D) D /\ W.heap.size <= m
 mv : Moves (λ k => k = T \/ k = g2 \/ W.heap.size <= k) W wr
theorem z6i (hl : l.length <= 900000000) (at' : Nat) : zI l at' (aJ l) := by
 intro w v G h;obtain ⟨va, vc, rfl⟩ := h.slice;have gN : ∀ (fn : Fn) (first cap : Array Value) (w : World), (Instr.makeFunc fn first cap).run prog w = .ok (.func fn first cap) w := λ _ _ _ _ => rfl
 obtain ⟨W, hW⟩ : ∃ W, ((((w.alloc (.cells #[.slice va l.length vc] df)).alloc (.cells #[.int .i64 0, .int .i64 0, .map none, .int .i64 0, .int .i64 0] dK)).alloc (.cells #[.int .i64 at', .int .i64 0, .map none, .int .i64 0, .int .i64 0] dK)).alloc (.cells #[.int .i64 0] vk)).alloc
  (.cells #[jR w.heap.size (w.heap.size + 1 + 1 + 1)] Al) = W := ⟨_, rfl⟩
 have B : Below w w W := by rw [<-hW]; exact ((((bla).alloc GV _).alloc N_ _).alloc N_ _).alloc N_ _
 have s : W.heap.size = w.heap.size + 5 := by rw [<-hW]; simp
 have r0 : W.heap[w.heap.size]? = some (.cells #[.slice va l.length vc] df) := by rw [<-hW]; exact aM N_ (aM N_ (aM N_ (aM GV (IC w _))))
 have r1 : W.heap[w.heap.size + 1]? = some (.cells #[.int .i64 0, .int .i64 0, .map none, .int .i64 0, .int .i64 0] dK) := by rw [<-hW]; exact aM NM (aM NM (aM NM (bD (w := w.alloc _) _ GV)))
 have r2 : W.heap[w.heap.size + 1 + 1]? = some (.cells (jg at' 0 (.map none) 0 0) dK (0, 0)) := by rw [<-hW]; exact aM NM (aM NM (bD (w := (w.alloc _).alloc _) _ GV))
 have r3 : W.heap[w.heap.size + 1 + 1 + 1]? = some (.cells #[.int .i64 0] vk) := by rw [<-hW]; exact aM GV (bD (w := (((w.alloc _).alloc _).alloc _)) _ GV)
 have r4 : W.heap[w.heap.size + 1 + 1 + 1 + 1]? = some (.cells #[jR w.heap.size (w.heap.size + 1 + 1 + 1)] Al) := by rw [<-hW]; exact bD (w := ((((w.alloc _).alloc _).alloc _).alloc _)) _ GV
 have y : BytesAt W.heap (λ k => k < w.heap.size) (.slice va l.length vc) l := h.keeps (λ k _ hl => B.block k hl) (λ k hk hl => hl);have NX : fV W w.heap.size (w.heap.size + 1 + 1 + 1) l 0 := ⟨⟨_, ae r0 rfl, y⟩, r3, GR, IV _⟩;have c3 : W.cell? (w.heap.size + 1 + 1 + 1 + 1, 0) = some (jR w.heap.size (w.heap.size + 1 + 1 + 1)) := ae r4 rfl;have HW := hd1 hW;have HB := hd3 B s r1;cases hb : Em.fe l with
 | none =>
  have TC := hd1 (y5z NX GR r2 GR GR c3 hb);have HT := hd1 (show aJ l = Em.T.none by unfold aJ; rw [hb]);clear hW B s r0 r1 r2 r3 r4 y NX c3 hb h;go_in;go_upto_region 4 with fail
  rw [HW.out]
  go_wp2_with (first
   | (go_at_call 110; refine TC.mono ?_; rintro e w1 ⟨rfl, m1⟩
      have q1 := (m1.block (w.heap.size + 1) (Hf HB.2.1) GR).trans HB.2.2;have H2 := hd1 m1;clear m1)
   | (refine nU rfl dK (.tmp 4) (.tmp 16) rfl (w.heap.size + 1) 0 #[.int .i64 at', .int .i64 0, .map none, .int .i64 0, .int .i64 0] rfl rfl dK _ q1 pK GV Np ?_
      intro W3 HW3 bU fZ))
  have k3 : W3.heap[w.heap.size + 1]? = some (.cells #[.int .i64 at', .int .i64 0, .map none, .int .i64 0, .int .i64 0] dK) := HW3.out;refine Hd k3 Iq pK ?_;refine ⟨⟨_, rfl, _, by rw [HT.out]; rfl, Iy ⟨rfl, HT.out⟩⟩, ?_⟩;exact (((Moves.of_below (O := λ _ => False) HB.1).trans H2.out (λ i hi h => GR)).trans bU (λ i hi h => GR)).below
 | some p =>
  obtain ⟨gen, D0, tX⟩ := p;have TC := hd1 (y5y NX GR r2 GR GR c3 hb);obtain ⟨ok1, ok2, ok3, ok4, ok5⟩ := Bi hb;have HT := hd1 (show aJ l = ⟨gen, (Em.dM l (l.length + 1) tX D0 0).1, (Em.dM l (l.length + 1) tX D0 0).2.1, (Em.dM l (l.length + 1) tX D0 0).2.2⟩ by unfold aJ; rw [hb]);obtain ⟨want, hwant⟩ := G5 (Em.dM l (l.length + 1) tX D0 0);have HWT := hd1 hwant;have HO := hd2 ok1 ok3;have C3 := hd1 r4;have HLL := hd1 hl;have w1a : l.length <= 900000000 := hl;clear hW B s r0 r1 r2 r3 r4 y NX c3 hb h ok1 ok2 ok3 ok4 ok5 hwant;go_in;go_upto_region 4 with fail
  rw [HW.out];go_wp2_with (go_at_call 110; refine TC.mono ?_; rintro e w1 ⟨rfl, st1⟩; have S1 := hd1 st1; clear st1)
  have ST := hd1 (show y2n W w.heap.size (w.heap.size + 1 + 1) (w.heap.size + 1 + 1 + 1) at' gen l want true (l.length - tX + 1) tX 0 0 D0 w1 from
   ⟨λ _ => ⟨S1.next, rfl, l.length + 1, GR, HWT.symm⟩, (λ h => by cases h), ⟨HO.1, HO.2, IV _, S1.next.le⟩, S1.row, S1.mv⟩)
  clear S1 TC;go_loopg [8] (l.length - tX + 1) (λ gh s8 wr => ∃ (b : Bool) (fin n iD : Nat) (D : Em.Rows), s8 = .bool b /\ y2n W w.heap.size (w.heap.size + 1 + 1) (w.heap.size + 1 + 1 + 1) at' gen l want b gh fin n iD D wr)
  case atStart => exact ⟨true, _, _, _, _, rfl, ST.out⟩
  case round =>
   obtain ⟨b, fin, n, iD, D, rfl, hrel⟩ := hrel;obtain ⟨m, rT, rm, hm⟩ := hrel.row;have Ao := HB.2.1;cases b
   ·obtain ⟨_, hw⟩ := hrel.ends rfl
    have q1 := (hrel.mv.block (w.heap.size + 1) GR GR).trans HB.2.2;have k0 := ae rT (j := 0) rfl;have k1 := ae rT (j := 1) rfl;have k2 := ae rT (j := 2) rfl;have k3 := ae rT (j := 3) rfl;have k4 := ae rT (j := 4) rfl;have HR := hd4 hrel.mv rm hm hw;clear hrel rT rm hm hw Ao
    go_wp2_with (refine nU rfl dK (.tmp 4) (.tmp 22) rfl (w.heap.size + 1) 0 (jg at' gen (.map (some m)) n iD) rfl rfl dK _ q1 pK GV Np ?_
                 intro W3 HW3 bU fZ)
    have k3 : W3.heap[w.heap.size + 1]? = some (.cells (jg at' gen (.map (some m)) n iD) dK (0, 0)) := HW3.out;refine Hd k3 Iq pK ?_;obtain ⟨mv, rm, hm, hw⟩ := HR.out;have sB := HB.1.size;have Ao := HB.2.1;have ht : aJ l = ⟨gen, D, n, iD⟩ := by rw [HT.out, HWT.out, hw]
    refine ⟨⟨_, rfl, .map (some m), by rw [ht], Iz ⟨m, rfl, by rw [ht]; exact jP rm bU GR, GR⟩⟩, ?_⟩;exact (((Moves.of_below (O := λ _ => False) HB.1).trans mv (λ i hi h => GR)).trans bU (λ i hi h => GR)).below
   ·obtain ⟨nx, hgh, f, hf, hw⟩ := hrel.goes rfl
    obtain ⟨o1, o2, o3, o4⟩ := hrel.rows;have c3 : wr.cell? (w.heap.size + 1 + 1 + 1 + 1, 0) = some (jR w.heap.size (w.heap.size + 1 + 1 + 1)) := ae ((hrel.mv.block _ (aa C3.out) GR).trans C3.out) rfl;have u3 := ae nx.far (j := 0) rfl;have u4 := ae rT (j := 4) rfl;have z4 := aZ rT 4;have ms := eP wr (w.heap.size + 1 + 1) 4 (.int .i64 (fin : Int));have sJ := IQ _ _ 4 _ dK (.int .i64 (fin : Int)) rT;have yA := nx.moves ms (λ k hk => GR);have vH := jP rm ms GR;have TG := hd1 (y4a (W := wr.setCell (w.heap.size + 1 + 1, 4) (.int .i64 (fin : Int))) (gen := gen) (n := n) (iD := fin) (at' := (at' : Int)) yA GR o2 GR sJ vH GR GR ((IW (ms.block (w.heap.size + 1 + 1 + 1 + 1) (IX c3) GR)).trans c3));have HR := hd12 hrel.mv ms sJ vH hm hw hf o1 hgh o3 o4 o2;clear hrel rT rm hm hw hf nx o1 o2 o3 o4 ms sJ yA vH Ao hgh;cases hr : Em.eF l fin D with
    | none =>
     rw [hr] at TG;have HG := hd1 hr;clear hr;go_wp2_with (go_at_call 110; refine TG.mono ?_; rintro e w6 ⟨rfl, m6⟩; have H6 := hd1 m6; clear m6)
     obtain ⟨mv, ms, sJ, vH, hm, hw, hf, o1, hgh, o3, o4, o2⟩ := HR.out;have Ao := HB.2.1;go_roundg 0
     case measure => omega
     case rel =>
      refine ⟨false, fin, n, fin, D, rfl, (λ h => by cases h), λ _ => ⟨rfl, ?_⟩, ⟨o1, ?_, o3, o4⟩, ⟨m, (H6.block _ (aa sJ) GR).trans sJ, jP vH H6.out GR, hm⟩, ?_⟩
      ·obtain ⟨f', rfl⟩ : ∃ f', f = f' + 1 := ⟨f - 1, GR⟩
       rw [hw, Em.dM, HG.out]
      ·exact o2
      ·exact (mv.trans (ms.mono (O' := λ k => k = w.heap.size + 1 + 1 \/ k = w.heap.size + 1 + 1 + 1 \/ W.heap.size <= k) (λ _ h => Iy h)) (λ _ _ h => h)).trans (H6.mono (λ _ h => Iz (Iy h))) (λ _ _ h => h)
    | some r =>
     obtain ⟨D', fin'⟩ := r;rw [hr] at TG;have HG := hd1 hr;clear hr;go_wp2_with (go_at_call 110; refine TG.mono ?_; rintro e w6 ⟨rfl, s6⟩; have S6 := hd1 s6; clear s6)
     obtain ⟨mv, ms, sJ, vH, hm, hw, hf, o1, hgh, o3, o4, o2⟩ := HR.out;obtain ⟨p1, p2, p3⟩ := A9 HG.out o1;obtain ⟨m', rT6, rm6, tF⟩ := S6.row;have le6 := S6.next.le;have sv := mv.size;have s2 := ms.size;go_roundg (l.length - fin' + 1)
     case measure => omega
     case rel =>
      refine ⟨true, fin', n + 1, fin, D', rfl, λ _ => ⟨S6.next, rfl, f - 1, GR, ?_⟩, (λ h => by cases h), ⟨p1, p2, GR, le6⟩, ⟨m', rT6, rm6, GR⟩, ?_⟩
      ·obtain ⟨f', rfl⟩ : ∃ f', f = f' + 1 := ⟨f - 1, GR⟩
       rw [hw, Em.dM, HG.out];rfl
      ·exact (mv.trans (ms.mono (O' := λ k => k = w.heap.size + 1 + 1 \/ k = w.heap.size + 1 + 1 + 1 \/ W.heap.size <= k) (λ _ h => Iy h)) (λ _ _ h => h)).trans (S6.mv.mono (λ k h => by rcases h with h | h | h; exact Iy h; exact Iz (Iy h); exact Iz (Iz GR))) (λ _ _ h => h)
end Go.Proofs.YtgffifleflkjoaaGreat
