/-
  Parts of a proof.
-/
import Derived.Test.YtgffifleflkjoaaGreatFin19
import Derived.Test.YtgffifleflkjoaaGreatFin26
set_option linter.unusedSimpArgs false
set_option linter.unusedVariables false
set_option maxRecDepth 100000
set_option maxHeartbeats 16000000
namespace Go.Proofs.YtgffifleflkjoaaGreat
open _root_.Go.Proofs.Tryz
variable {w W w' w0 wr w1 W0 W1 W2 A B : World} {F G F' O : Nat → Prop} {v : Value} {l : List UInt8} {n q m pd md pl g p : Nat} {C : Array Value} {c : Int}
section
open Go.RowKit
attribute [local go_sem] Oper.semAt_some
abbrev aK : Nat := 233
theorem bG : (prog.info? aK).map (·.size) = some 2 := GQ
theorem jD {P : Program} {fn : Func} {p q r : Tmp} {ty : TypeId} (h : fn.results = #[.cell p ty, .tmp q, .tmp r]) (tmps : Array Value) (w : World) (g : Nat) (t : TypeId) (cs : Array Value) (fr : Nat × Nat) (d : TypeDesc) (v v2 : Value)
 (hp : tmps.getD p undef = .pointer (some g)) (hq : tmps.getD q undef = v) (hr : tmps.getD r undef = v2) (hg : w.heap[g]? = some (.cells cs t fr))
 (hu : P.underlying ty = some d) (hd : (match d with | .struct _ | .array _ _ => true | _ => false) = true) (hi : (P.info? ty).map (·.size) = some cs.size) :
 (results fn tmps).run P w = .ok (.tuple #[.agg cs, v, v2]) w := by
 have hp' : tmps[p]?.getD undef = .pointer (some g) := by simpa using hp
 have hq' : tmps[q]?.getD undef = v := by simpa using hq
 exact QB
theorem d9 (a : Option Addr) (n c : Nat) (b : Bool) : (#[Value.slice a n c, Value.bool b]).all (·.oneCell') = true := by
 exact R_
def dR (w : World) (F : Nat -> Prop) (o : Option (List UInt8)) (r : Value) : Prop :=
 match o with
 | some l => ∃ v, r = .agg #[v, .bool false] /\ BytesAt w.heap F v l
 | none => ∃ a n c, r = .agg #[.slice a n c, .bool true]
theorem dR.later {o : Option (List UInt8)} {r : Value} (h : dR w F o r) (hb : Below w w w') : dR w' F o r := by
 cases o with
 | none => exact h
 | some l =>
  obtain ⟨v, h1, h2⟩ := h;exact ⟨v, h1, h2.below hb⟩
def gZ (w : World) (F : Nat -> Prop) (o : Option (List UInt8)) (u : Value) (x : Int) (e : Ending) (w' : World) : Prop :=
 Below w.heap.size w w' /\ ∃ r', e = .returned (.tuple #[r', u, .int .i64 x]) /\ dR w' F o r'
theorem z7z {r : Value} {most : Nat} (h : dR w F none r) : Calls prog 165 #[r, .int .i64 most] w (gZ w F none (.int .i64 0) 140) := by
 obtain ⟨a, n, c, rfl⟩ := h;obtain ⟨W, hW⟩ := G5 ((w.alloc (.cells #[.slice a n c, true] aK)).alloc (.cells #[(), false] aK));have B : Below w w W := by rw [<-hW]; exact (bla).alloc GV _
 have r0 : W.heap[w.heap.size]? = some (.cells #[.slice a n c, true] aK) := by rw [<-hW]; exact aM GV (IC w _)
 have r1 : W.heap[w.heap.size + 1]? = some (.cells #[(), false] aK) := by rw [<-hW]; exact bD (w := w.alloc _) _ GV
 have k1 := ae r0 (j := 1) rfl;have H := hd3 B r0 r1;have HW := hd1 hW;clear B r0 r1 hW;go_in;go_upto_region 1 with fail
 rw [HW.out]
 go_wp2_with (first
  | (refine G_ H.2.1 Hy bG ?_)
  | (refine aC rfl aK _ _ rfl (w.heap.size + 1) #[.slice a n c, .bool true] rfl rfl aK _ H.2.2 bG rfl (d9 a n c true) ?_; intro W5 aF aB bf))
 refine He aF.out Hy bG ?_;exact ⟨Moves.new H.1 aB GR, _, rfl, a, n, c, rfl⟩
theorem yg {most : Nat} {l' : List UInt8} (h : Wm.bF most l = some (n, l')) : ∃ k : Nat, Wm.first l = (n, (k : Int)) /\ 1 <= k /\ k <= l.length /\ n <= most /\ n <= 4611686018427387904 /\ l' = l.drop k := by
 obtain ⟨f1, f2⟩ := za l;unfold Wm.bF at h;simp only at h;by_cases q : (Wm.first l).2 <= 0 \/ (Wm.first l).1 > most
 ·rw [IA q] at h; cases h
 ·rw [Iw q] at h
  have e1 : (Wm.first l).1 = n := IG Prod.fst (IM h);have e2 : l.drop (Wm.first l).2.toNat = l' := IG Prod.snd (IM h);rcases f1 with f | f | ⟨k, f, k1, _, k3⟩
  ·omega
  ·omega
  ·refine ⟨k, by rw [<-e1, <-f], k1, k3, GR, GR, ?_⟩
   rw [f, Kv] at e2;exact e2.symm
theorem y8h {most : Nat} (h : Wm.bF most l = none) : (Wm.first l).2 <= 0 \/ (most : Int) < ((Wm.first l).1 : Int) := by
 unfold Wm.bF at h;simp only at h;by_cases q : (Wm.first l).2 <= 0 \/ (Wm.first l).1 > most
 ·rcases q with q | q
  ·exact Iy q
  ·exact Iz GR
 ·rw [Iw q] at h; cases h
theorem Fw {most : Nat} {l' : List UInt8} (h : BytesAt w.heap F v l) (hl : l.length <= 1000000000) (hm : most <= 4611686018427387904) (hn : Wm.bF most l = some (n, l')) :
 Calls prog 165 #[.agg #[v, .bool false], .int .i64 most] w (gZ w F (some l') (.int .i64 n) 0) := by
 obtain ⟨k, hf, h1, h2, h3, h4, rfl⟩ := yg hn;obtain ⟨a, c, rfl⟩ := h.slice;obtain ⟨b, o, rfl, hcap, hcap2, hbl⟩ := h.row GR;have back := h.back h2
 have hc := hd1 (λ hh : c = k => show BytesAt w.heap F (.slice (some ⟨b, o, none⟩) (l.length - k) (c - k)) (l.drop k) from by
  rcases h with ⟨h1, _⟩ | ⟨b', o', cap', cs, t, fr, g1, g2, g3, g4, g5, g6⟩
  ·cases h1
  ·cases g1
   exact Iz ⟨b, o, c - k, cs, t, fr, by rw [I5], by rw [I5]; omega, GR, g4, g5, λ i y hi => by rw [Lb GR] at hi; simp at hi⟩)
 generalize hN : l.length = N at *;obtain ⟨W, hW⟩ := G5 ((w.alloc (.cells #[.slice (some ⟨b, o, none⟩) N c, false] aK)).alloc (.cells #[(), false] aK));have B : Below w w W := by rw [<-hW]; exact (bla).alloc GV _
 have sW : W.heap.size = w.heap.size + 2 := by rw [<-hW]; simp
 have r0 : W.heap[w.heap.size]? = some (.cells #[.slice (some (b, o)) N c, false] aK) := by rw [<-hW]; exact aM GV (IC w _)
 have r1 : W.heap[w.heap.size + 1]? = some (.cells #[(), false] aK) := by rw [<-hW]; exact bD (w := w.alloc _) _ GV
 have k1 := ae r0 (j := 1) rfl;have k0 := ae r0 (j := 0) rfl;have FC := hd1 (Fp (h.below B) GR);rw [hf] at FC;have H := hd3 B r0 r1;have HB := hd2 back hc;have HW := hd1 hW;have d1 : ¬ (k : Int) <= 0 := GR;have d2 : ¬ (most : Int) < (n : Int) := GR;have d3 : (k : Int) <= (N : Int) := GR;have d4 : (k : Int) <= (c : Int) := GR;have d5 : (0 : Int) <= (k : Int) := GR;have d6 : ¬ (most : Int) < 0 := GR;clear B r0 r1 hW hf hn back hN h;by_cases hck : c = k
 ·have d7 : (c : Int) = (k : Int) := GR
  have HC := hd1 hck;clear hck;go_in;go_upto_region 1 with fail
  rw [HW.out]
  go_wp2_with (first
   | (go_at_call 163; refine FC.mono ?_; rintro e w2 ⟨rfl, b2⟩
      have j0 := aN b2 k0;have B2 := hd1 b2;clear b2 k0 k1)
   | (refine aC rfl aK _ _ rfl (w.heap.size + 1) _ rfl rfl aK _ ((B2.block _ (aa H.2.2)).trans H.2.2) Ob rfl Nz ?_; intro W5 aF aB bf))
  refine He aF.out Hy bG ?_;have BB : Below w w W5 := Moves.new (H.1.trans (B2.mono H.1.size)) aB GR;exact ⟨BB, _, rfl, _, rfl, (HB.2.out HC.out).below BB⟩
 ·have d7 : ¬ (c : Int) = (k : Int) := GR
  clear hck;go_in;go_upto_region 1 with fail
  rw [HW.out]
  go_wp2_with (first
   | (go_at_call 163; refine FC.mono ?_; rintro e w2 ⟨rfl, b2⟩
      have j0 := aN b2 k0;have B2 := hd1 b2;clear b2 k0 k1)
   | (refine aC rfl aK _ _ rfl (w.heap.size + 1) _ rfl rfl aK _ ((B2.block _ (aa H.2.2)).trans H.2.2) Ob rfl Nz ?_; intro W5 aF aB bf))
  refine He aF.out Hy bG ?_;have BB : Below w w W5 := Moves.new (H.1.trans (B2.mono H.1.size)) aB GR;exact ⟨BB, _, rfl, _, rfl, HB.1.below BB⟩
theorem z6a {most : Nat} (h : BytesAt w.heap F v l) (hl : l.length <= 1000000000) (hn : Wm.bF most l = none) :
 Calls prog 165 #[.agg #[v, .bool false], .int .i64 most] w (gZ w F none (.int .i64 0) 140) := by
 have hr := y8h hn;obtain ⟨a, c, rfl⟩ := h.slice;obtain ⟨W, hW⟩ := G5 ((w.alloc (.cells #[.slice a l.length c, false] aK)).alloc (.cells #[(), false] aK));have B : Below w w W := by rw [<-hW]; exact (bla).alloc GV _
 have sW : W.heap.size = w.heap.size + 2 := by rw [<-hW]; simp
 have r0 : W.heap[w.heap.size]? = some (.cells #[.slice a l.length c, false] aK) := by rw [<-hW]; exact aM GV (IC w _)
 have r1 : W.heap[w.heap.size + 1]? = some (.cells #[(), false] aK) := by rw [<-hW]; exact bD (w := w.alloc _) _ GV
 have k1 := ae r0 (j := 1) rfl;have k0 := ae r0 (j := 0) rfl;have FC := hd1 (Fp (h.below B) GR);generalize (Wm.first l).1 = n at *;generalize (Wm.first l).2 = k at *;generalize l.length = N at *;have H := hd3 B r0 r1;have HW := hd1 hW;have d6 : ¬ (most : Int) < 0 := GR;clear B r0 r1 hW hn h;by_cases hk : k <= 0
 ·exact O8
 ·have d2 : (most : Int) < (n : Int) := hr.resolve_left hk
  exact O8
end
section
open Go.RowKit
attribute [local go_sem] Oper.semAt_some
def y2p (w : World) (F : Nat -> Prop) (l k : List UInt8) (e : Ending) (w' : World) : Prop :=
 Below w.heap.size w w' /\ ∃ r' u, e = .returned (.tuple #[r', u, .int .i64 0]) /\ dR w' F (some k) r' /\ BytesAt w'.heap F u l
theorem nE {B : Nat} {W' : World} (hb : Below B A W) (hm : Moves (λ k => k = g) W W') (hB : B <= g) (hl : g < W.heap.size) : Below B A W' :=
 hb.trans ⟨hm.os, hm.tape, hm.output, hm.size, λ k hk => hm.block k GR GR⟩
theorem z6b (h : BytesAt w.heap F v l) (hn : l.length < n) (hm : n <= 4611686018427387904) :
 Calls prog 194 #[.agg #[v, .bool false], .int .i64 n] w (gZ w F none (.slice none 0 0) 140) := by
 obtain ⟨a, c, rfl⟩ := h.slice;have d1 : (l.length : Int) < (n : Int) := GR;generalize l.length = N at *;obtain ⟨W, hW⟩ := G5 ((w.alloc (.cells #[.slice a N c, false] aK)).alloc (.cells #[(), false] aK));have B : Below w w W := by rw [<-hW]; exact (bla).alloc GV _
 have r0 : W.heap[w.heap.size]? = some (.cells #[.slice a N c, false] aK) := by rw [<-hW]; exact aM GV (IC w _)
 have r1 : W.heap[w.heap.size + 1]? = some (.cells #[(), false] aK) := by rw [<-hW]; exact bD (w := w.alloc _) _ GV
 have k1 := ae r0 (j := 1) rfl;have k0 := ae r0 (j := 0) rfl;have H := hd3 B r0 r1;have HW := hd1 hW;clear B r0 r1 hW h hn hm;exact PH
theorem y1g {h : Array Obj} {b o c : Nat} (x : BytesAt h F (.slice (some (b, o)) l.length c) l) (hn : n <= l.length) (hc : c = n) : BytesAt h F (.slice (some (b, o)) (l.length - n) (c - n)) (l.drop n) := by
 rcases x with ⟨h1, _⟩ | ⟨b', o', cap', cs, t, fr, g1, g2, g3, g4, g5, g6⟩
 ·cases h1
 ·cases g1
  exact Iz ⟨b, o, c - n, cs, t, fr, by rw [I5], by rw [I5]; omega, GR, g4, g5, λ i y hi => by rw [Lb GR] at hi; simp at hi⟩
theorem y9b : Calls prog 194 #[.agg #[.slice none 0 0, .bool false], .int .i64 0] w (y2p w F [] []) := by
 obtain ⟨W, hW⟩ := G5 ((w.alloc (.cells #[(), false] aK)).alloc (.cells #[(), false] aK));have B : Below w w W := by rw [<-hW]; exact (bla).alloc GV _
 have r0 : W.heap[w.heap.size]? = some (.cells #[(), false] aK) := by rw [<-hW]; exact aM GV (IC w _)
 have r1 : W.heap[w.heap.size + 1]? = some (.cells #[(), false] aK) := by rw [<-hW]; exact bD (w := w.alloc _) _ GV
 have k1 := ae r0 (j := 1) rfl;have k0 := ae r0 (j := 0) rfl;have ne : Nonempty (Wd (Below (w.heap.size + 1) W)) := ⟨⟨_, Below.refl _ _⟩⟩;have f0 : ∀ y : Wd (Below (w.heap.size + 1) W), y.world.cell? w.heap.size = some (.slice none 0 0) := λ y => (y.ok.cell (p := ⟨w.heap.size, 0, none⟩) GV).trans k0;have H := hd3 B r0 r1;have HW := hd1 hW;clear B r0 r1 hW;go_in;go_upto_region 1 with fail
 rw [HW.out];go_upto_region 3 with fail
 refine bC (λ w' => ∃ x : Wd (Below (w.heap.size + 1) W), w' = x.world) [10, 11] GQ ?_;refine aI [0, 1, 2, 3, 4, 5, 6, 7, 8] 3 _ Hq GQ ?_;simp only [fmc, fmn, gta, gcs, gcz];iterate 9 (with_reducible refine ak (λ K hK => ?_); simp only [au, ah]; go_simp; refine hK _ ?_; clear hK K)
 with_reducible refine aA ?_
 refine az 9 2 _ _ rfl GQ ?_;refine aC rfl aK _ _ rfl (w.heap.size + 1) _ rfl rfl aK _ (show W.drew.heap[w.heap.size + 1]? = _ from H.2.2) Ob rfl Nz ?_;intro W5 aF aB bf;refine IB ⟨rfl, λ _ => ⟨⟨_, nE (Below.refl _ W).drew aB GZ (aa H.2.2)⟩, rfl⟩, ?_⟩;refine eY [10, 11] 0 _ GQ ?_;refine G9 ?_;refine ⟨GQ, ?_⟩;go_wp2;refine He aF.out Hy bG ?_;exact ⟨Moves.new H.1.drew aB GR, _, _, rfl, ⟨_, rfl, Iy ⟨rfl, rfl⟩⟩, Iy ⟨rfl, rfl⟩⟩
theorem z6c (h : BytesAt w.heap F v l) (hn : n <= l.length) (hl : l.length <= 1000000000) :
 Calls prog 194 #[.agg #[v, .bool false], .int .i64 n] w (y2p w F (l.take n) (l.drop n)) := by
 rcases h with ⟨rfl, rfl⟩ | ⟨b, o, c, cs, t, fr, rfl, h1, h2, h3, h4, h5⟩
 ·obtain rfl : n = 0 := by simpa using hn
  exact y9b
 ·have y : BytesAt w.heap F (.slice (some (b, o)) l.length c) l := Iz ⟨b, o, c, cs, t, fr, rfl, h1, h2, h3, h4, h5⟩
  have front := y.front hn;have back := y.back hn;have full := hd1 (λ hc : c = n => y1g y hn hc);have HY := hd2 front back;clear front back y h3 h4 h5;generalize l.length = N at *;obtain ⟨W, hW⟩ := G5 ((w.alloc (.cells #[.slice (some ⟨b, o, none⟩) N c, false] aK)).alloc (.cells #[(), false] aK));have B : Below w w W := by rw [<-hW]; exact (bla).alloc GV _
  have r0 : W.heap[w.heap.size]? = some (.cells #[.slice (some (b, o)) N c, false] aK) := by rw [<-hW]; exact aM GV (IC w _)
  have r1 : W.heap[w.heap.size + 1]? = some (.cells #[(), false] aK) := by rw [<-hW]; exact bD (w := w.alloc _) _ GV
  have k1 := ae r0 (j := 1) rfl;have k0 := ae r0 (j := 0) rfl;have ne : Nonempty (Wd (Below (w.heap.size + 1) W)) := ⟨⟨_, Below.refl _ _⟩⟩;have f0 : ∀ y : Wd (Below (w.heap.size + 1) W), y.world.cell? w.heap.size = some (.slice (some (b, o)) N c) := λ y => (y.ok.cell (p := ⟨w.heap.size, 0, none⟩) GV).trans k0;have H := hd3 B r0 r1;have HW := hd1 hW;have d1 : ¬ (N : Int) < (n : Int) := GR;have d2 : (n : Int) <= (N : Int) := GR;have d3 : (n : Int) <= (c : Int) := GR;have d4 : (0 : Int) <= (n : Int) := GR;have d6 : ¬ (n : Int) < 0 := GR;clear B r0 r1 hW;by_cases hc : c = n
  ·subst hc
   go_in;go_upto_region 1 with fail
   rw [HW.out];go_upto_region 3 with fail
   refine bC (λ w' => ∃ x : Wd (Below (w.heap.size + 1) W), w' = x.world) [10, 11] GQ ?_;refine aI [0, 1, 2, 3, 4, 5, 6, 7, 8] 3 _ Hq GQ ?_;simp only [fmc, fmn, gta, gcs, gcz];iterate 9 (with_reducible refine ak (λ K hK => ?_); simp only [au, ah]; go_simp; refine hK _ ?_; clear hK K)
   with_reducible refine aA ?_
   refine az 9 2 _ _ rfl GQ ?_;refine aC rfl aK _ _ rfl (w.heap.size + 1) _ rfl rfl aK _ (show W.drew.heap[w.heap.size + 1]? = _ from H.2.2) Ob rfl Nz ?_;intro W5 aF aB bf;refine IB ⟨rfl, λ _ => ⟨⟨_, nE (Below.refl _ W).drew aB GZ (aa H.2.2)⟩, rfl⟩, ?_⟩;refine eY [10, 11] 0 _ GQ ?_;refine G9 ?_;refine ⟨GQ, ?_⟩;go_wp2;refine He aF.out Hy bG ?_;have BB : Below w w W5 := Moves.new H.1.drew aB GR;exact ⟨BB, _, _, rfl, ⟨_, rfl, by have h := (full.out trivial).below BB; rw [J3, show N - c = 0 by omega] at h; exact h⟩, HY.1.below BB⟩
  ·have d5 : ¬ (c : Int) = (n : Int) := GR
   go_in;go_upto_region 1 with fail
   rw [HW.out];go_upto_region 3 with fail
   refine bC (λ w' => ∃ x : Wd (Below (w.heap.size + 1) W), w' = x.world) [10, 11] GQ ?_;refine aI [0, 1, 2, 3, 4, 5, 6, 7, 8] 3 _ Hq GQ ?_;simp only [fmc, fmn, gta, gcs, gcz];iterate 9 (with_reducible refine ak (λ K hK => ?_); simp only [au, ah]; go_simp; refine hK _ ?_; clear hK K)
   with_reducible refine aA ?_
   refine az 9 2 _ _ rfl GQ ?_;refine aC rfl aK _ _ rfl (w.heap.size + 1) _ rfl rfl aK _ (show W.drew.heap[w.heap.size + 1]? = _ from H.2.2) Ob rfl Nz ?_;intro W5 aF aB bf;refine IB ⟨rfl, λ _ => ⟨⟨_, nE (Below.refl _ W).drew aB GZ (aa H.2.2)⟩, rfl⟩, ?_⟩;refine eY [10, 11] 0 _ GQ ?_;refine G9 ?_;refine ⟨GQ, ?_⟩;go_wp2;refine He aF.out Hy bG ?_;have BB : Below w w W5 := Moves.new H.1.drew aB GR;exact ⟨BB, _, _, rfl, ⟨_, rfl, HY.2.below BB⟩, HY.1.below BB⟩
end
section
open Go.RowKit
attribute [local go_sem] Oper.semAt_some
theorem y9a {r : Value} (h : dR w F none r) : Calls prog 194 #[r, .int .i64 n] w (gZ w F none (.slice none 0 0) 140) := by
 obtain ⟨a, N, c, rfl⟩ := h;obtain ⟨W, hW⟩ := G5 ((w.alloc (.cells #[.slice a N c, true] aK)).alloc (.cells #[(), false] aK));have B : Below w w W := by rw [<-hW]; exact (bla).alloc GV _
 have r0 : W.heap[w.heap.size]? = some (.cells #[.slice a N c, true] aK) := by rw [<-hW]; exact aM GV (IC w _)
 have r1 : W.heap[w.heap.size + 1]? = some (.cells #[(), false] aK) := by rw [<-hW]; exact bD (w := w.alloc _) _ GV
 have k1 := ae r0 (j := 1) rfl;have k0 := ae r0 (j := 0) rfl;have H := hd3 B r0 r1;have HW := hd1 hW;clear B r0 r1 hW;exact PH
theorem ym (w : World) (a : Option Addr) (N c : Nat) (b : Bool) : ∃ W, (w.alloc (.cells #[.slice a N c, .bool b] aK)).alloc (.cells #[(), false] aK) = W /\ Below w w W /\ W.heap[w.heap.size]? = some (.cells #[.slice a N c, .bool b] aK) ∧
 W.heap[w.heap.size + 1]? = some (.cells #[(), false] aK) :=
 ⟨_, rfl, (bla).alloc GV _, aM GV (IC w _), bD (w := w.alloc _) _ GV⟩
theorem z6e {a : Option Addr} {N c : Nat} {b : Bool}
 (ht : ∀ W : World, Below w w W -> Calls prog 194 #[.agg #[.slice a N c, .bool b], .int .i64 1] W (gZ W F none (.slice none 0 0) 140)) :
 Calls prog 167 #[.agg #[.slice a N c, .bool b]] w (gZ w F none (.bool false) 140) := by
 obtain ⟨W, hW, B, r0, r1⟩ := ym w a N c b;have k0 := ae r0 (j := 0) rfl;have TC := hd1 (ht W B);have H := hd3 B r0 r1;have HW := hd1 hW;clear B r0 r1 hW ht;go_in;go_upto_region 1 with fail
 rw [HW.out]
 go_upto_region 2 with (first
  | (refine G_ H.2.1 Hy bG ?_)
  | (go_at_call 194; refine TC.mono ?_; rintro e w2 ⟨b2, r', rfl, a2, n2, c2, rfl⟩)
  | (refine aC rfl aK _ _ rfl w2.heap.size _ rfl rfl aK _ (IC w2 _) Ob rfl Nz ?_; intro W3 HW3 bU fZ))
 have B3 : Below W W W3 := b2.trans (Moves.new (bla) bU GZ |>.mono b2.size);have j0 := aN B3 k0;have H3 := hd1 B3;clear b2 HW3 bU fZ B3 k0;go_wp2_with (refine aC rfl aK _ _ rfl (w.heap.size + 1) _ rfl rfl aK _ ((H3.block _ (aa H.2.2)).trans H.2.2) Ob rfl Nz ?_; intro W5 aF aB bf)
 refine He aF.out Hy bG ?_;exact ⟨Moves.new (H.1.trans (H3.mono H.1.size)) aB GR, _, rfl, _, _, _, rfl⟩
theorem y1m {b o : Nat} {a : Option Addr} {c : Nat} {x : Bool} {t : TypeId} {fr : Nat × Nat} {k : Int} (r : w.heap[g]? = some (.cells #[.slice a n c, .bool x] t fr)) (h : w.cell? (b, o) = some (.int .u8 k)) : b ≠ g := by
 rintro rfl;rw [IJ _ _ _ _ _ _ r] at h;match o, h with
 | 0, h => cases h
 | 1, h => cases h
 | o + 2, h => simp at h
theorem wL {W' : World} {a : Option Addr} {c : Nat} {x : Bool} {t t' : TypeId} {fr fr' : Nat × Nat} {cs : Array Value} (h : BytesAt W.heap F v l) (hm : Moves (λ k => k = g) W W')
 (r : W.heap[g]? = some (.cells #[.slice a n c, .bool x] t fr)) (r' : W'.heap[g]? = some (.cells cs t' fr')) : BytesAt W'.heap F v l := by
 rcases h with h | ⟨b, o, cap, cc, t2, mi, h1, h2, h3, h4, h5, h6⟩
 ·exact Iy h
 ·by_cases hb : b = g
  ·subst hb
   cases l with
   | nil => exact Iz ⟨b, o, cap, cs, t', fr', h1, h2, h3, h4, r', λ i y hi => by simp at hi⟩
   | cons y l =>
    have := (IJ W b o cc t2 mi h5).trans (h6 0 y rfl);exact absurd rfl (y1m r this)
  ·exact Qb
theorem y9g {u : UInt8} (h : BytesAt w.heap F v (u :: l)) (hl : l.length <= 1000000) :
 Calls prog 167 #[.agg #[v, .bool false]] w λ e w' => (u <= 1 -> gZ w F (some l) (.bool (u == 1)) 0 e w') /\ (¬ u <= 1 -> gZ w F none (.bool false) 140 e w') := by
 obtain ⟨a, c, rfl⟩ := h.slice;obtain ⟨W, hW, B, r0, r1⟩ := ym w a (u :: l).length c false;have k0 := ae r0 (j := 0) rfl;have TC := hd1 (z6c (n := 1) (h.below B) GV (by rw [I6]; omega));simp only [Jt, JN, JO, JP] at TC;generalize (u :: l).length = N at *;have H := hd3 B r0 r1;have HW := hd1 hW;clear B r0 r1 hW h;go_in;go_upto_region 1 with fail
 rw [HW.out]
 go_upto_region 2 with (first
  | (refine G_ H.2.1 Hy bG ?_)
  | (go_at_call 194; refine TC.mono ?_; rintro e w2 ⟨b2, r', u2, rfl, ⟨v2, rfl, y2⟩, z2⟩
     obtain ⟨a2, n2, c2, rfl⟩ := y2.slice3)
  | (refine aC rfl aK _ _ rfl w2.heap.size _ rfl rfl aK _ (IC w2 _) Ob rfl Nz ?_; intro W3 HW3 bU fZ))
 have mK : Below w2 w2 W3 := Moves.new (bla) bU GZ;have B3 : Below W W W3 := b2.trans (mK.mono b2.size);have j0 := aN B3 k0;obtain ⟨b, o, n, cap, rfl, hn, q0, _⟩ := zt (z2.below mK);simp only [Jy, I8] at hn;subst hn;have Y3 := y2.below mK;have lq : w.heap.size + 1 < w2.heap.size := Hg (aa H.2.2) b2.size;have H3 := hd3 B3 HW3.out Y3;have u0 : (0 : Int) <= (u.toNat : Int) := GR;clear b2 HW3 bU fZ B3 mK k0 y2 z2 Y3;by_cases hu : u <= 1
 ·have HU := hd1 hu
  have u1 : ¬ (1 : Int) < (u.toNat : Int) := by have : u.toNat <= (1 : UInt8).toNat := Mi.1 hu; have e : (1 : UInt8).toNat = 1 := rfl; omega
  have ub : ((u.toNat : Int) == 1) = (u == 1) := by
   by_cases e : u = 1
   ·subst e; rfl
   ·have : ¬ u.toNat = 1 := λ h => e (J7.1 h)
    rw [show (u == 1) = false by simpa using e, J2];omega
  have UB := hd1 ub;clear hu ub;generalize hx : u.toNat = x at *;clear hx;have FV := (H3.1.block _ (aa H.2.2)).trans H.2.2;have bo := y1m FV q0;have lb := IX q0;have ne : Nonempty (Wd (Moves (λ k => k = w.heap.size + 1) W3)) := ⟨⟨_, Moves.refl _ _⟩⟩;have f0 : ∀ y : Wd (Moves (λ k => k = w.heap.size + 1) W3), y.world.cell? (b, o) = some (.int .u8 x) := λ y => (IW (y.ok.block b lb bo)).trans q0;have g0 : ∀ y : Wd (Moves (λ k => k = w.heap.size + 1) W3), y.world.cell? w2.heap.size = some (.slice a2 n2 c2) := λ y => (IW (y.ok.block w2.heap.size (aa H3.2.1) GR)).trans (ae H3.2.1 rfl);have g1 : ∀ y : Wd (Moves (λ k => k = w.heap.size + 1) W3), y.world.cell? (w2.heap.size, 1) = some (.bool false) := λ y => (IW (y.ok.block w2.heap.size (aa H3.2.1) GR)).trans (ae H3.2.1 rfl);have R13 := hd1 FV;clear FV;go_upto_region 4 with fail
  refine bC (λ w' => ∃ x : Wd (Moves (λ k => k = w.heap.size + 1) W3), w' = x.world) [6, 7] GQ ?_;refine aI [0, 1, 2, 3, 4] 3 _ ⟨⟨_, (Moves.of_below (Below.refl _ W3).drew)⟩, rfl⟩ GQ ?_;simp only [fmc, fmn, gta, gcs, gcz];iterate 5 (with_reducible refine ak (λ K hK => ?_); simp only [au, ah]; go_simp; refine hK _ ?_; clear hK K)
  with_reducible refine aA ?_
  refine az 5 2 _ _ rfl GQ ?_;refine aC rfl aK _ _ rfl (w.heap.size + 1) _ rfl rfl aK _ (show W3.drew.heap[w.heap.size + 1]? = _ from R13.out) Ob rfl Nz ?_;intro W5 aF aB bf;refine IB ⟨rfl, λ _ => ⟨⟨_, (Moves.of_below (Below.refl _ W3).drew).trans aB (λ _ _ h => h)⟩, rfl⟩, ?_⟩;refine eY [6, 7] 0 _ GQ ?_;refine G9 ?_;refine ⟨GQ, ?_⟩;go_wp2;refine He aF.out Hy bG ?_;refine ⟨λ _ => ⟨Moves.new (H.1.trans ((H3.1.trans ((Below.refl _ W3).drew.mono H3.1.size)).mono H.1.size)) aB GR, _, ?_, ⟨_, rfl, wL (W := W3.drew) H3.2.2 aB R13.out aF.out⟩⟩, λ h => absurd HU.out h⟩;rw [<-UB.out];rfl
 ·have HU := hd1 hu
  have u1 : (1 : Int) < (u.toNat : Int) := by
   have : ¬ u.toNat <= (1 : UInt8).toNat := λ h => hu (Mi.2 h);have e : (1 : UInt8).toNat = 1 := rfl;omega
  clear hu;generalize hx : u.toNat = x at *;clear hx;go_wp2_with (refine aC rfl aK _ _ rfl (w.heap.size + 1) _ rfl rfl aK _ ((H3.1.block _ (aa H.2.2)).trans H.2.2) Ob rfl Nz ?_; intro W5 aF aB bf)
  refine He aF.out Hy bG ?_;exact ⟨λ h => absurd h HU.out, λ _ => ⟨Moves.new (H.1.trans (H3.1.mono H.1.size)) aB GR, _, rfl, _, _, _, rfl⟩⟩
theorem y9f {o : Option (List UInt8)} {r : Value} (h : dR w F o r) (hl : ∀ l, o = some l -> l.length <= 1000000) :
 Calls prog 167 #[r] w λ e w' => match o.bind Wm.iJ with
  | some (g, l') => gZ w F (some l') (.bool g) 0 e w'
  | none => gZ w F none (.bool false) 140 e w' := by
 cases o with
 | none =>
  obtain ⟨a, n, c, rfl⟩ := h;exact z6e (λ W _ => y9a (n := 1) ⟨a, n, c, rfl⟩)
 | some l =>
  obtain ⟨v, rfl, hv⟩ := h;have hl := hl l rfl;cases l with
  | nil =>
   obtain ⟨a, c, rfl⟩ := hv.slice;exact z6e (λ W hb => z6b (n := 1) (hv.below hb) GU GU)
  | cons u l =>
   refine (y9g hv (by rw [I6] at hl; omega)).mono (λ e w' hh => ?_);by_cases hu : u <= 1
   ·have e1 : (some (u :: l)).bind Wm.iJ = some (u == 1, l) := by
     show (if u > 1 then none else some (u == 1, l)) = _;rw [Iw (UInt8.not_lt.2 hu)]
    rw [e1];exact hh.1 hu
   ·have e1 : (some (u :: l)).bind Wm.iJ = none := by
     show (if u > 1 then none else some (u == 1, l)) = _;rw [IA (UInt8.not_le.1 hu)]
    rw [e1];exact hh.2 hu
theorem x0z {o : Option (List UInt8)} {r : Value} {most : Nat} (h : dR w F o r) (hl : ∀ l, o = some l -> l.length <= 1000000) (hm : most <= 4611686018427387904) :
 Calls prog 165 #[r, .int .i64 most] w λ e w' => match o.bind (Wm.bF most) with
  | some (n, l') => gZ w F (some l') (.int .i64 n) 0 e w'
  | none => gZ w F none (.int .i64 0) 140 e w' := by
 cases o with
 | none => exact z7z h
 | some l =>
  obtain ⟨v, rfl, hv⟩ := h;have hl := hl l rfl;show Calls _ _ _ _ (λ e w' => match Wm.bF most l with | some (n, l') => _ | none => _);cases hn : Wm.bF most l with
  | none => exact z6a hv GR hn
  | some p => exact Fw hv GR hm hn
end
section
open Go.RowKit
attribute [local go_sem] Oper.semAt_some
def zM (q : Nat) (W X : World) : Prop := Moves (λ k => k = q) W X /\ ∃ cs t fr, X.heap[q]? = some (.cells cs t fr)
theorem z6d {a : Option Addr} {N c most : Nat} {b : Bool}
 (ht : ∀ W : World, Below w w W -> Calls prog 165 #[.agg #[.slice a N c, .bool b], .int .i64 most] W (gZ W F none (.int .i64 0) 140)) :
 Calls prog 166 #[.agg #[.slice a N c, .bool b], .int .i64 most] w (gZ w F none (ag []) 140) := by
 obtain ⟨W, hW, B, r0, r1⟩ := ym w a N c b;have k0 := ae r0 (j := 0) rfl;have TC := hd1 (ht W B);have H := hd3 B r0 r1;have HW := hd1 hW;clear B r0 r1 hW ht;go_in;go_upto_region 1 with fail
 rw [HW.out]
 go_upto_region 2 with (first
  | (refine G_ H.2.1 Hy bG ?_)
  | (go_at_call 165; refine TC.mono ?_; rintro e w2 ⟨b2, r', rfl, a2, n2, c2, rfl⟩)
  | (refine aC rfl aK _ _ rfl w2.heap.size _ rfl rfl aK _ (IC w2 _) Ob rfl Nz ?_; intro W3 HW3 bU fZ))
 have B3 : Below W W W3 := b2.trans (Moves.new (bla) bU GZ |>.mono b2.size);have H3 := hd2 B3 HW3.out;clear b2 HW3 bU fZ B3 k0
 go_wp2_with (first
  | (refine G_ H3.2 Hy bG ?_)
  | (refine aC rfl aK _ _ rfl (w.heap.size + 1) _ rfl rfl aK _ ((H3.1.block _ (aa H.2.2)).trans H.2.2) Ob rfl Nz ?_; intro W5 aF aB bf))
 refine He aF.out Hy bG ?_;exact ⟨Moves.new (H.1.trans (H3.1.mono H.1.size)) aB GR, _, rfl, _, _, _, rfl⟩
theorem y9d {most : Nat} {l1 : List UInt8} (h : BytesAt w.heap F v l) (hl : l.length <= 1000000) (hm : most <= 4611686018427387904) (hn : Wm.bF most l = some (n, l1)) (hs : l1.length < n) :
 Calls prog 166 #[.agg #[v, .bool false], .int .i64 most] w (gZ w F none (ag []) 140) := by
 obtain ⟨a, c, rfl⟩ := h.slice;obtain ⟨W, hW, B, r0, r1⟩ := ym w a l.length c false;obtain ⟨k, _, _, _, _, hn4, _⟩ := yg hn;have TC := hd1 (Fw (h.below B) GR hm hn);have k0 := ae r0 (j := 0) rfl;generalize l.length = N at *;have H := hd3 B r0 r1;have HW := hd1 hW;clear B r0 r1 hW h hn;go_in;go_upto_region 1 with fail
 rw [HW.out]
 go_upto_region 2 with (first
  | (refine G_ H.2.1 Hy bG ?_)
  | (go_at_call 165; refine TC.mono ?_; rintro e w2 ⟨b2, r', rfl, v2, rfl, y2⟩; obtain ⟨a2, n2, c2, rfl⟩ := y2.slice3)
  | (refine aC rfl aK _ _ rfl w2.heap.size _ rfl rfl aK _ (IC w2 _) Ob rfl Nz ?_; intro W3 HW3 bU fZ))
 have mK : Below w2 w2 W3 := Moves.new (bla) bU GZ;have B3 : Below W W W3 := b2.trans (mK.mono b2.size);have KC := hd1 (z6b (n := n) (y2.below mK) hs hn4);have j0 := aN B3 k0;have lq : w.heap.size + 1 < w2.heap.size := Hg (aa H.2.2) b2.size;have lw : W.heap.size <= w2.heap.size := b2.size;have H3 := hd2 B3 HW3.out;clear b2 HW3 bU fZ B3 mK k0 y2
 go_upto_region 5 with (first
  | (refine G_ H3.2 Hy bG ?_)
  | (go_at_call 194; refine KC.mono ?_; rintro e w4 ⟨b4, r4, rfl, a4, n4, c4, rfl⟩)
  | (refine aC rfl aK _ _ rfl w2.heap.size _ rfl rfl aK _ ((b4.block _ (aa H3.2)).trans H3.2) Ob rfl Nz ?_; intro W5 aF aB bf))
 have B5 : Below W W W5 := nE (H3.1.trans (b4.mono H3.1.size)) aB lw (Jc (aa H3.2) b4.size);have j5 := (IW (aB.block w.heap.size (by have h : w.heap.size < W3.heap.size := IX j0; have := b4.size; omega) GR)).trans (aN b4 j0);have H5 := hd1 B5;clear b4 aF aB bf B5 j0;go_wp2_with (refine aC rfl aK _ _ rfl (w.heap.size + 1) _ rfl rfl aK _ ((H5.block _ (aa H.2.2)).trans H.2.2) Ob rfl Nz ?_; intro W6 iR iw nQ)
 refine He iR.out Hy bG ?_;exact ⟨Moves.new (H.1.trans (H5.mono H.1.size)) iw GR, _, rfl, _, _, _, rfl⟩
theorem y9e {most : Nat} {l1 : List UInt8} (h : BytesAt w.heap F v l) (hl : l.length <= 1000000) (hm : most <= 4611686018427387904) (hn : Wm.bF most l = some (n, l1)) (hs : n <= l1.length) :
 Calls prog 166 #[.agg #[v, .bool false], .int .i64 most] w (gZ w F (some (l1.drop n)) (ag (l1.take n)) 0) := by
 obtain ⟨a, c, rfl⟩ := h.slice;obtain ⟨W, hW, B, r0, r1⟩ := ym w a l.length c false;obtain ⟨k, _, _, _, _, hn4, hd⟩ := yg hn;have hl1 : l1.length <= 1000000 := by rw [hd, I5]; omega
 clear hd;have TC := hd1 (Fw (h.below B) GR hm hn);have k0 := ae r0 (j := 0) rfl;generalize l.length = N at *;have H := hd3 B r0 r1;have HW := hd1 hW;clear B r0 r1 hW h hn;go_in;go_upto_region 1 with fail
 rw [HW.out]
 go_upto_region 2 with (first
  | (refine G_ H.2.1 Hy bG ?_)
  | (go_at_call 165; refine TC.mono ?_; rintro e w2 ⟨b2, r', rfl, v2, rfl, y2⟩; obtain ⟨a2, n2, c2, rfl⟩ := y2.slice3)
  | (refine aC rfl aK _ _ rfl w2.heap.size _ rfl rfl aK _ (IC w2 _) Ob rfl Nz ?_; intro W3 HW3 bU fZ))
 have mK : Below w2 w2 W3 := Moves.new (bla) bU GZ;have B3 : Below W W W3 := b2.trans (mK.mono b2.size);have KC := hd1 (z6c (n := n) (y2.below mK) hs GR);have j0 := aN B3 k0;have lq : w.heap.size + 1 < w2.heap.size := Hg (aa H.2.2) b2.size;have lw : W.heap.size <= w2.heap.size := b2.size;have H3 := hd2 B3 HW3.out;clear b2 HW3 bU fZ B3 mK k0 y2
 go_upto_region 5 with (first
  | (refine G_ H3.2 Hy bG ?_)
  | (go_at_call 194; refine KC.mono ?_; rintro e w4 ⟨b4, r4, u4, rfl, ⟨v4, rfl, y4⟩, z4⟩; obtain ⟨a4, n4, c4, rfl⟩ := y4.slice3; obtain ⟨ua, un, uc, rfl⟩ := z4.slice3)
  | (refine aC rfl aK _ _ rfl w2.heap.size _ rfl rfl aK _ ((b4.block _ (aa H3.2)).trans H3.2) Ob rfl Nz ?_; intro W5 aF aB bf))
 have FQ := (b4.block _ (aa H3.2)).trans H3.2;have B5 : Below W W W5 := nE (H3.1.trans (b4.mono H3.1.size)) aB lw (Jc (aa H3.2) b4.size);have y5 := wL y4 aB FQ aF.out;have z5 := wL z4 aB FQ aF.out;have R5 := hd3 aF.out y5 ((B5.block _ (aa H.2.2)).trans H.2.2);have ne : Nonempty (Wd (zM (w.heap.size + 1) W5)) := ⟨⟨_, Moves.refl _ _, _, _, _, R5.2.2⟩⟩;have g0 : ∀ y : Wd (zM (w.heap.size + 1) W5), y.world.cell? w2.heap.size = some (.slice a4 n4 c4) := λ y => (IW (y.ok.1.block w2.heap.size (aa R5.1) GR)).trans (ae R5.1 rfl);have g1 : ∀ y : Wd (zM (w.heap.size + 1) W5), y.world.cell? (w2.heap.size, 1) = some (.bool false) := λ y => (IW (y.ok.1.block w2.heap.size (aa R5.1) GR)).trans (ae R5.1 rfl);have xc : ∀ y : Wd (zM (w.heap.size + 1) W5), (convert df 9 (.slice ua un uc)).run prog y.world = .ok (.string ⟨(l1.take n).toArray⟩) y.world := λ y => by
  obtain ⟨cs, t, fr, hr⟩ := y.ok.2;exact qK (wL z5 y.ok.1 R5.2.2 hr)
 have H5 := hd1 B5;clear b4 aF aB bf B5 j0 FQ y4 z4 y5 z5 KC;go_upto_region 7 with fail
 refine bC (λ w' => ∃ x : Wd (zM (w.heap.size + 1) W5), w' = x.world) [4, 5] GQ ?_;refine aI [0, 1, 2] 3 _ ⟨⟨_, ⟨Moves.of_below (Below.refl _ W5).drew, _, _, _, (show W5.drew.heap[w.heap.size + 1]? = _ from R5.2.2)⟩⟩, rfl⟩ GQ ?_;simp only [fmc, fmn, gta, gcs, gcz];iterate 3 (with_reducible refine ak (λ K hK => ?_); simp only [au, ah]; go_simp; refine hK _ ?_; clear hK K)
 with_reducible refine aA ?_
 refine az 3 2 _ _ rfl GQ ?_;refine aC rfl aK _ _ rfl (w.heap.size + 1) _ rfl rfl aK _ (show W5.drew.heap[w.heap.size + 1]? = _ from R5.2.2) Ob rfl Nz ?_;intro W6 iR iw nQ;refine IB ⟨rfl, λ _ => ⟨⟨_, (Moves.of_below (Below.refl _ W5).drew).trans iw (λ _ _ h => h), _, _, _, iR.out⟩, rfl⟩, ?_⟩;refine eY [4, 5] 0 _ GQ ?_;refine G9 ?_;refine ⟨GQ, ?_⟩;go_wp2;refine He iR.out Hy bG ?_;exact ⟨Moves.new (H.1.trans ((H5.trans ((Below.refl _ W5).drew.mono H5.size)).mono H.1.size)) iw GR, _, rfl, _, rfl, wL (W := W5.drew) R5.2.1 iw R5.2.2 iR.out⟩
theorem y9c {o : Option (List UInt8)} {r : Value} {most : Nat} (h : dR w F o r) (hl : ∀ l, o = some l -> l.length <= 1000000) (hm : most <= 4611686018427387904) :
 Calls prog 166 #[r, .int .i64 most] w λ e w' => match o.bind (Wm.dh most) with
  | some (s, l') => gZ w F (some l') (ag s) 0 e w'
  | none => gZ w F none (ag []) 140 e w' := by
 cases o with
 | none =>
  obtain ⟨a, n, c, rfl⟩ := h;exact z6d (λ W _ => z7z ⟨a, n, c, rfl⟩)
 | some l =>
  obtain ⟨v, rfl, hv⟩ := h;have hl := hl l rfl;show Calls _ _ _ _ (λ e w' => match Wm.dh most l with | some (s, l') => _ | none => _);unfold Wm.dh;cases hn : Wm.bF most l with
  | none =>
   obtain ⟨a, c, rfl⟩ := hv.slice;exact z6d (λ W hb => z6a (hv.below hb) GR hn)
  | some p =>
   obtain ⟨n, l1⟩ := p;by_cases hs : n > l1.length
   ·simp only [IA hs]
    exact y9d hv hl hm hn hs
   ·simp only [Iw hs]
    exact y9e hv hl hm hn GR
end
end Go.Proofs.YtgffifleflkjoaaGreat
