/-
  Parts of a proof.
-/
import Derived.Test.YtgffifleflkjoaaGreatFin04
import Derived.Test.YtgffifleflkjoaaGreatFin05
import Derived.Shelf.SlMaps.Clone
set_option linter.unusedSimpArgs false
set_option linter.unusedVariables false
set_option maxRecDepth 100000
set_option maxHeartbeats 16000000
namespace Go.Proofs.YtgffifleflkjoaaGreat
open _root_.Go.Proofs.Tryz
variable {w W w' w0 wr w1 W0 W1 W2 A B : World} {F G F' O : Nat → Prop} {v : Value} {l : List UInt8} {n q m pd md pl g p : Nat} {C : Array Value} {c : Int}
open Go.RowKit Dm
theorem BytesAt.keeps {h h' : Array Obj} (x : BytesAt h F v l) (hs : ∀ k, F k -> k < h.size -> h'[k]? = h[k]?) (hF : ∀ k, F k -> k < h.size -> F' k) : BytesAt h' F' v l := by
 rcases x with x | ⟨b, o, cap, c, t, fr, h1, h2, h3, g2, g3, g4⟩
 ·exact Iy x
 ·have lt := (Jf.1 g3).1
  exact Iz ⟨b, o, cap, c, t, fr, h1, h2, h3, hF _ g2 lt, (hs _ g2 lt).trans g3, g4⟩
theorem aa {h : Array Obj} {b : Nat} {o : Obj} (g : h[b]? = some o) : b < h.size := (Jf.1 g).1
theorem il.keeps {h h' : Array Obj} {s : Step} {a b c d e f g : Value} (x : il h F s a b c d e f g) (hs : ∀ k, F k -> k < h.size -> h'[k]? = h[k]?) (hF : ∀ k, F k -> k < h.size -> F' k) : il h' F' s a b c d e f g := by
 obtain ⟨h1, h2, h3, h4, h5⟩ := x;refine ⟨h1, h2, h3, h4, ?_⟩;rcases h5 with ⟨g1, g2, bn, bx, f1, f2, g3, g4, g5, g6⟩ | ⟨g1, g2, bt, bx, oF, bx', v, f1, f2, f3, f4, g3, g4, g5, g6, g7, g8, g9⟩ | ⟨g1, g2, bt, bn, f1, f2, g3, g4, g5, g6⟩
 ·exact Iy ⟨g1, g2, bn, bx, hF _ f1 (aa g5), hF _ f2 (aa g6), g3, g4, (hs _ f1 (aa g5)).trans g5, (hs _ f2 (aa g6)).trans g6⟩
 ·exact Iz (Iy ⟨g1, g2, bt, bx, oF, bx', v, hF _ f1 (aa g5), hF _ f2 (aa g7), hF _ f3 (aa g6), hF _ f4 (aa g8), g3, g4, (hs _ f1 (aa g5)).trans g5, (hs _ f3 (aa g6)).trans g6, (hs _ f2 (aa g7)).trans g7, (hs _ f4 (aa g8)).trans g8, g9.keeps hs hF⟩)
 ·exact Iz (Iz ⟨g1, g2, bt, bn, hF _ f1 (aa g5), hF _ f2 (aa g6), g3, g4, (hs _ f1 (aa g5)).trans g5, (hs _ f2 (aa g6)).trans g6⟩)
theorem jX.keeps {h h' : Array Obj} {l : List Step} (x : jX h F v l) (hs : ∀ k, F k -> k < h.size -> h'[k]? = h[k]?) (hF : ∀ k, F k -> k < h.size -> F' k) : jX h' F' v l := by
 rcases x with x | ⟨b, o, cap, c, t, fr, h1, h2, h3, g2, g3, g4⟩
 ·exact Iy x
 ·refine Iz ⟨b, o, cap, c, t, fr, h1, h2, h3, hF _ g2 (aa g3), (hs _ g2 (aa g3)).trans g3, λ i s hi => ?_⟩
  obtain ⟨d, p, tp, w0, w1, w2, st, e0, e1, e2, e3, e4, e5, e6, e7⟩ := g4 i s hi;exact ⟨d, p, tp, w0, w1, w2, st, e0, e1, e2, e3, e4, e5, e6, e7.keeps hs hF⟩
def iY (h : Array Obj) (q m : Nat) (x : St) (F : Nat -> Prop) (ty : TypeId) (rest : List Value) : Prop :=
 ∃ t0 t1 t2 t3, h[q]? = some (.cells (.map (some m) :: t0 :: t1 :: t2 :: t3 :: rest).toArray ty (0, 0)) /\ iZ h m x.sec ∧
  BytesAt h F t0 (x.tp 0) /\ BytesAt h F t1 (x.tp 1) /\ BytesAt h F t2 (x.tp 2) /\ BytesAt h F t3 (x.tp 3) /\ ¬ F m /\ ¬ F q /\ m ≠ q
theorem iY.keeps {h h' : Array Obj} {x : St} {ty : TypeId} {rest : List Value} (s : iY h q m x F ty rest) (hq : h'[q]? = h[q]?) (hm : h'[m]? = h[m]?) (hs : ∀ k, F k -> k < h.size -> h'[k]? = h[k]?)
 (hF : ∀ k, F k -> k < h.size -> F' k) (hF' : ∀ k, F' k -> F k \/ h.size <= k) : iY h' q m x F' ty rest := by
 obtain ⟨t0, t1, t2, t3, c1, c2, b0, b1, b2, b3, n1, n2, n3⟩ := s;have lq := aa c1;have lm : m < h.size := by obtain ⟨es, cl, g, _⟩ := c2; exact aa g
 refine ⟨t0, t1, t2, t3, hq.trans c1, c2.stays hm, b0.keeps hs hF, b1.keeps hs hF, b2.keeps hs hF, b3.keeps hs hF, λ k => ?_, λ k => ?_, n3⟩
 ·rcases hF' _ k with k | k
  ·exact n1 k
  ·omega
 ·rcases hF' _ k with k | k
  ·exact n2 k
  ·omega
def plus (F : Nat -> Prop) (w w' : World) : Nat -> Prop := λ k => F k \/ (w.heap.size <= k /\ k < w'.heap.size)
structure uR (w : World) (q m : Nat) (x : St) (F : Nat -> Prop) (ty : TypeId) (rest : List Value) (e : Ending) (w' : World) : Prop where
 ret : e = .returned (.tuple #[])
 moves : Moves (λ k => k = q \/ k = m) w w'
 stand : iY w'.heap q m x (plus F w w') ty rest
theorem ES {x : St} {ty : TypeId} {rest : List Value} (s : iY w.heap q m x F ty rest) (t : Nat) (ht : t < 4) (l : List UInt8) (v : Value) (hb : Below w w w1)
 (hv : BytesAt w1.heap (λ k => F k \/ w.heap.size <= k) v l) :
 iY (w1.setCell (q, 1 + t) v).heap q m { x with tp := upd x.tp t l } (plus F w (w1.setCell (q, 1 + t) v)) ty rest /\ Moves (λ k => k = q \/ k = m) w (w1.setCell (q, 1 + t) v) := by
 have hsz : (w1.setCell (q, 1 + t) v).heap.size = w1.heap.size := GV;obtain ⟨t0, t1, t2, t3, c1, c2, b0, b1, b2, b3, n1, n2, n3⟩ := s;have lq := aa c1;have lm : m < w.heap.size := by obtain ⟨es, cl, g, _⟩ := c2; exact aa g
 have hq := IQ w1 q (1 + t) _ ty v ((hb.block q lq).trans c1);have ho : ∀ k, k ≠ q -> (w1.setCell (q, 1 + t) v).heap[k]? = w1.heap[k]? := λ k hk => IU w1 _ k v hk
 have st : ∀ {u : Value} {y : List UInt8}, BytesAt w.heap F u y -> BytesAt (w1.setCell (q, 1 + t) v).heap (plus F w (w1.setCell (q, 1 + t) v)) u y := λ h =>
  h.keeps (λ k hk hl => (ho k (λ e => n2 (e ▸ hk))).trans (hb.block k hl)) (λ k hk _ => Iy hk)
 have sv : BytesAt (w1.setCell (q, 1 + t) v).heap (plus F w (w1.setCell (q, 1 + t) v)) v l :=
  hv.keeps (λ k hk hl => ho k (λ e => by rcases hk with hk | hk; exact n2 (e ▸ hk); omega)) (λ k hk hl => by
   rcases hk with hk | hk
   ·exact Iy hk
   ·exact Iz ⟨hk, by rw [hsz]; exact hl⟩)
 refine ⟨?_, ⟨hb.os, hb.tape, hb.output, by rw [hsz]; exact hb.size, λ k hk hn => (ho k (λ e => hn (Iy e))).trans (hb.block k hk)⟩⟩;have nm : ¬ plus F w (w1.setCell (q, 1 + t) v) m := λ k => by rcases k with k | k; exact n1 k; omega
 have nq : ¬ plus F w (w1.setCell (q, 1 + t) v) q := λ k => by rcases k with k | k; exact n2 k; omega
 have sm : iZ (w1.setCell (q, 1 + t) v).heap m x.sec := c2.stays ((ho m n3).trans (hb.block m lm));obtain rfl | rfl | rfl | rfl : t = 0 \/ t = 1 \/ t = 2 \/ t = 3 := GR
 ·exact ⟨v, t1, t2, t3, hq.trans GV, sm, sv, st b1, st b2, st b3, nm, nq, n3⟩
 ·exact ⟨t0, v, t2, t3, hq.trans GV, sm, st b0, sv, st b2, st b3, nm, nq, n3⟩
 ·exact ⟨t0, t1, v, t3, hq.trans GV, sm, st b0, st b1, sv, st b3, nm, nq, n3⟩
 ·exact ⟨t0, t1, t2, v, hq.trans GV, sm, st b0, st b1, st b2, sv, nm, nq, n3⟩
theorem iY.cell {x : St} {ty : TypeId} {rest : List Value} (s : iY w.heap q m x F ty rest) :
 w.cell? q = some (.map (some m)) /\ ∀ t : Nat, t < 4 -> ∃ v, w.cell? ⟨q, 1 + t, none⟩ = some v /\ w.frozen? ⟨q, 1 + t, none⟩ = false /\ BytesAt w.heap F v (x.tp t) := by
 obtain ⟨t0, t1, t2, t3, c1, c2, b0, b1, b2, b3, n1, n2, n3⟩ := s;refine ⟨by rw [IJ _ _ _ _ _ _ c1]; simp, λ t ht => ?_⟩;have hf : ∀ i, w.frozen? ⟨q, i, none⟩ = false := λ i => by simp [World.frozen?, c1]
 obtain rfl | rfl | rfl | rfl : t = 0 \/ t = 1 \/ t = 2 \/ t = 3 := GR
 ·exact ⟨t0, by rw [IJ _ _ _ _ _ _ c1]; simp, hf _, b0⟩
 ·exact ⟨t1, by rw [IJ _ _ _ _ _ _ c1]; simp, hf _, b1⟩
 ·exact ⟨t2, by rw [IJ _ _ _ _ _ _ c1]; simp, hf _, b2⟩
 ·exact ⟨t3, by rw [IJ _ _ _ _ _ _ c1]; simp, hf _, b3⟩
def gp (ml : Nat) (l0 l1 l2 l3 wv : Value) (many most : Int) (dead stops : Bool) (after : Int) : List Value :=
 [.map (some ml), l0, l1, l2, l3, wv, .int .i64 many, .int .i64 most, .bool dead, .bool stops, .int .i64 after, .bool true]
structure wV (h : Array Obj) (d : D) (F : Nat -> Prop) (ml : Nat) (l0 l1 l2 l3 wv : Value) (stops : Bool) (after : Int) : Prop where
 hst : d.stops = if stops then after else -1
 tJ : stops = true -> 0 <= after
 sec : iZ h ml d.lasts.sec
 wy : F ml
 b0 : BytesAt h F l0 (d.lasts.tp 0)
 b1 : BytesAt h F l1 (d.lasts.tp 1)
 b2 : BytesAt h F l2 (d.lasts.tp 2)
 b3 : BytesAt h F l3 (d.lasts.tp 3)
 steps : jX h F wv d.waits
theorem aQ.parts {h : Array Obj} {d : D} (x : aQ h p m d F) :
 ∃ ml l0 l1 l2 l3 wv stops after, iY h p m d.stand F dO (gp ml l0 l1 l2 l3 wv d.many d.room d.dead stops after) /\ wV h d F ml l0 l1 l2 l3 wv stops after := by
 obtain ⟨ok, t0, t1, t2, t3, ml, l0, l1, l2, l3, wv, stops, after, c1, c2, c3, c4, c5, c6, c7, c8, c9, b0, b1, b2, b3, b4, b5, b6, b7, st⟩ := x;exact ⟨ml, l0, l1, l2, l3, wv, stops, after, ⟨t0, t1, t2, t3, c1, c4, b0, b1, b2, b3, c7, c8, c9⟩, ⟨c2, c3, c5, c6, b4, b5, b6, b7, st⟩⟩
theorem aQ.of {h : Array Obj} {d : D} (ok : d.ok) {ml : Nat} {l0 l1 l2 l3 wv : Value} {stops : Bool} {after : Int}
 (s : iY h p m d.stand F dO (gp ml l0 l1 l2 l3 wv d.many d.room d.dead stops after)) (r : wV h d F ml l0 l1 l2 l3 wv stops after) : aQ h p m d F := by
 obtain ⟨t0, t1, t2, t3, c1, c4, b0, b1, b2, b3, c7, c8, c9⟩ := s;exact ⟨ok, t0, t1, t2, t3, ml, l0, l1, l2, l3, wv, stops, after, c1, r.hst, r.tJ, c4, r.sec, r.wy, c7, c8, c9, b0, b1, b2, b3, r.b0, r.b1, r.b2, r.b3, r.steps⟩
theorem wV.keeps {h h' : Array Obj} {d : D} {ml : Nat} {l0 l1 l2 l3 wv : Value} {stops : Bool} {after : Int} (r : wV h d F ml l0 l1 l2 l3 wv stops after)
 (hs : ∀ k, F k -> k < h.size -> h'[k]? = h[k]?) (hF : ∀ k, F k -> k < h.size -> F' k) : wV h' d F' ml l0 l1 l2 l3 wv stops after := by
 have lt : ml < h.size := by obtain ⟨es, cl, g, _⟩ := r.sec; exact aa g
 exact ⟨r.hst, r.tJ, r.sec.stays (hs _ r.wy lt), hF _ r.wy lt, r.b0.keeps hs hF, r.b1.keeps hs hF, r.b2.keeps hs hF, r.b3.keeps hs hF, r.steps.keeps hs hF⟩
theorem aQ.keeps {h h' : Array Obj} {d : D} (x : aQ h p m d F) (hp : h'[p]? = h[p]?) (hm : h'[m]? = h[m]?) (hs : ∀ k, F k -> k < h.size -> h'[k]? = h[k]?)
 (hF : ∀ k, F k -> k < h.size -> F' k) (hF' : ∀ k, F' k -> F k \/ h.size <= k) : aQ h' p m d F' := by
 obtain ⟨ml, l0, l1, l2, l3, wv, stops, after, s, r⟩ := x.parts;exact aQ.of x.ok (s.keeps hp hm hs hF hF') (r.keeps hs hF)
theorem aQ.lt {h : Array Obj} {d : D} (x : aQ h p m d F) : p < h.size /\ m < h.size /\ m ≠ p /\ ¬ F p /\ ¬ F m := by
 obtain ⟨ml, l0, l1, l2, l3, wv, stops, after, ⟨t0, t1, t2, t3, c1, c4, b0, b1, b2, b3, c7, c8, c9⟩, r⟩ := x.parts;refine ⟨aa c1, ?_, c9, c8, c7⟩;obtain ⟨es, cl, g, _⟩ := c4;exact aa g
theorem y9 {d : D} (h : d.ok) : d.goes.1.ok := by
 have h1 := h.stops;have h2 := h.si;unfold D.goes;split
 ·exact h
 ·split
  ·exact ⟨h.vR, h.many1, h.pz, h.fE, h.sec, h.tape, h.waits, GV, GV⟩
  ·split
   ·refine ⟨h.vR, h.many1, h.pz, h.fE, h.sec, h.tape, h.waits, ?_, ?_⟩ <;> simp <;> omega
   ·exact h
theorem q8 (d : D) : d.goes.1.many = d.many := by unfold D.goes; split; rfl; split; rfl; split <;> rfl
theorem tO (d : D) : d.goes.1.room = d.room := by unfold D.goes; split; rfl; split; rfl; split <;> rfl
theorem z0h (d : D) : d.goes.1.lasts = d.lasts := by unfold D.goes; split; rfl; split; rfl; split <;> rfl
theorem qZ (d : D) : d.goes.1.waits = d.waits := by unfold D.goes; split; rfl; split; rfl; split <;> rfl
theorem z0i (d : D) : d.goes.1.stand = d.stand := by unfold D.stand; rw [z0h, qZ]
theorem z9c {d : D} (x : aQ w.heap p m d F) :
 Calls prog 102 #[p] w λ e w' => e = .returned (.int .i64 d.goes.2) /\ Moves (λ k => k = p) w w' /\ w'.heap.size = w.heap.size /\ aQ w'.heap p m d.goes.1 F := by
 have lt := x.lt;obtain ⟨ml, l0, l1, l2, l3, wv, stops, after, ⟨t0, t1, t2, t3, c1, c4, b0, b1, b2, b3, c7, c8, c9⟩, r⟩ := x.parts;have hf : ∀ i, w.frozen? ⟨p, i, none⟩ = false := λ i => by simp [World.frozen?, c1]
 have k13 : w.cell? (p, 13) = some (.bool d.dead) := by rw [IJ _ _ _ _ _ _ c1]; simp [gp]
 have k14 : w.cell? (p, 14) = some (.bool stops) := by rw [IJ _ _ _ _ _ _ c1]; simp [gp]
 have k15 : w.cell? (p, 15) = some (.int .i64 after) := by rw [IJ _ _ _ _ _ _ c1]; simp [gp]
 have gen : ∀ (d' : D) (wE stops' : Bool) (after' : Int) (w' : World), d' = { d with dead := wE, stops := if stops' then after' else -1 } -> d'.ok -> (stops' = true -> 0 <= after') ->
  Moves (λ k => k = p) w w' -> w'.heap.size = w.heap.size -> w'.heap[p]? = some (.cells (.map (some m) :: t0 :: t1 :: t2 :: t3 :: gp ml l0 l1 l2 l3 wv d.many d.room wE stops' after').toArray dO (0, 0)) ->
  aQ w'.heap p m d' F := by
  intro d' wE stops' after' w' ed hok ha hm hz hc;subst ed;have hs : ∀ k, F k -> k < w.heap.size -> w'.heap[k]? = w.heap[k]? := λ k hk hl => hm.block k hl (λ e => c8 (e ▸ hk));have hF : ∀ k, F k -> k < w.heap.size -> F k := λ _ h _ => h;refine aQ.of hok (ml := ml) (l0 := l0) (l1 := l1) (l2 := l2) (l3 := l3) (wv := wv) (stops := stops') (after := after') ?_ ?_
  ·exact ⟨t0, t1, t2, t3, hc, c4.stays (hm.block m lt.2.1 c9), b0.keeps hs hF, b1.keeps hs hF, b2.keeps hs hF, b3.keeps hs hF, c7, c8, c9⟩
  ·have r' := r.keeps (F' := F) hs hF
   exact ⟨rfl, ha, r'.sec, r'.wy, r'.b0, r'.b1, r'.b2, r'.b3, r'.steps⟩
 have hok := y9 x.ok;have hst := r.hst;cases hd : d.dead
 ·rw [hd] at k13
  cases stops
  ·have hs1 : d.stops = -1 := by rw [hst]; rfl
   have hg : d.goes = (d, 0) := by simp [D.goes, hd, hs1]
   rw [hg];refine (x4a p w k13 k14).mono ?_;exact Rs
  ·have hs1 : d.stops = after := by rw [hst]; rfl
   have ha := r.tJ rfl;by_cases h0 : after = 0
   ·subst h0
    have hg : d.goes = ({ d with dead := true, stops := -1 }, 281) := by simp [D.goes, hd, hs1]
    rw [hg] at hok ⊢;refine (x5z p w k13 k14 k15 (hf _) (hf _)).mono ?_;rintro e w' ⟨rfl, rfl⟩;have y1 := IQ w p 13 _ dO (.bool true) c1;have y2 := IQ _ p 14 _ dO (.bool false) y1;refine ⟨rfl, ⟨rfl, rfl, rfl, GV, λ k hk hn => ?_⟩, GV, gen _ true false 0 _ rfl hok (λ h => by cases h) ⟨rfl, rfl, rfl, GV, λ k hk hn => ?_⟩ GV ?_⟩
    ·rw [IU _ _ _ _ hn, IU _ _ _ _ hn]
    ·rw [IU _ _ _ _ hn, IU _ _ _ _ hn]
    ·rw [y2]; simp [gp]
   ·have hg : d.goes = ({ d with stops := d.stops - 1 }, 0) := by
     have e1 : ¬ after = 0 := h0;have e2 : after > 0 := GR;simp [D.goes, hd, hs1, e1, e2]
    rw [hg] at hok ⊢;have h63 := x.ok.si;refine (x5x p after w k13 k14 k15 GR GR (hf _)).mono ?_;rintro e w' ⟨rfl, rfl⟩;have y1 := IQ w p 15 _ dO (.int .i64 (after - 1)) c1;refine ⟨rfl, ⟨rfl, rfl, rfl, GV, λ k hk hn => ?_⟩, GV, gen _ false true (after - 1) _ ?_ hok (λ _ => GR) ⟨rfl, rfl, rfl, GV, λ k hk hn => ?_⟩ GV ?_⟩
    ·rw [IU _ _ _ _ hn]
    ·rw [hs1]; simp [hd]
    ·rw [IU _ _ _ _ hn]
    ·rw [y1]; simp [gp, hd]
 ·rw [hd] at k13
  have hg : d.goes = (d, 281) := by simp [D.goes, hd]
  rw [hg];refine (x5y p w k13).mono ?_;exact Rs
def ib (does part tape w0 w1 w2 str : Value) : List Value := [does, part, tape, w0, w1, w2, str]
theorem il.ones {h : Array Obj} {s : Step} {a b c d e f g : Value} (x : il h F s a b c d e f g) : ∀ u ∈ ib a b c d e f g, u.oneCell' = true := by
 obtain ⟨h1, h2, h3, ⟨ba, h4, _⟩, h5⟩ := x;subst h1; subst h2; subst h3; subst h4;rcases h5 with ⟨g1, g2, bn, bx, f1, f2, g3, g4, g5, g6⟩ | ⟨g1, g2, bt, bx, oF, bx', v, f1, f2, f3, f4, g3, g4, g5, g6, g7, g8, g9⟩ | ⟨g1, g2, bt, bn, f1, f2, g3, g4, g5, g6⟩;exact absurd rfl g3
 all_goals
  subst g2; subst g3; subst g4;intro u hu;simp only [ib, J5, KD, or_false] at hu;rcases hu with rfl | rfl | rfl | rfl | rfl | rfl | rfl <;> rfl
theorem jX.raw {l : List Step} (x : jX w.heap F v l) :
 (v = .slice none 0 0 /\ l = []) \/ ∃ (b o cap : Nat) (cs : List Value), v = .slice (some (b, o)) l.length cap /\ cs.length = l.length * 7 /\ F b /\ l.length <= cap /\ cap <= 9223372036854775807 /\ (∀ i y, cs[i]? = some y -> w.cell? ⟨b, o + i, none⟩ = some y) /\ (∀ u ∈ cs, u.oneCell' = true) ∧
  ∀ i s, l[i]? = some s -> ∃ d p tp w0 w1 w2 st, cs[i * 7]? = some d /\ cs[i * 7 + 1]? = some p /\ cs[i * 7 + 2]? = some tp /\ cs[i * 7 + 3]? = some w0 /\ cs[i * 7 + 4]? = some w1 /\ cs[i * 7 + 5]? = some w2 /\ cs[i * 7 + 6]? = some st /\ il w.heap F s d p tp w0 w1 w2 st := by
 rcases x with x | ⟨b, o, cap, c, t, fr, h1, h2, h3, g2, g3, g4⟩
 ·exact Iy x
 ·refine Iz ⟨b, o, cap, (List.range (l.length * 7)).map (λ i => (c[o + i]?).getD undef), h1, GV, g2, h2, h3, ?_, ?_, ?_⟩
  ·intro i y hi
   have hlt : i < l.length * 7 := by have := (IY.1 hi).1; simpa using this
   rw [IJ _ _ _ _ _ _ g3];simp only [Kq, Lm hlt, Ku, Jv] at hi;obtain ⟨d, p, tp, w0, w1, w2, st, e0, e1, e2, e3, e4, e5, e6, e7⟩ := g4 (i / 7) l[i / 7] (by rw [IR]);have hmod : i = i / 7 * 7 + i % 7 := GR;obtain hr | hr | hr | hr | hr | hr | hr : i % 7 = 0 \/ i % 7 = 1 \/ i % 7 = 2 \/ i % 7 = 3 \/ i % 7 = 4 \/ i % 7 = 5 \/ i % 7 = 6 := GR
   all_goals
    rw [hr] at hmod;have hoi : ∀ r, i = i / 7 * 7 + r -> c[o + i]? = c[o + i / 7 * 7 + r]? := λ r h => by congr 1; omega
    rw [hoi _ hmod] at hi ⊢
    first
     | (rw [Kz, e0] at hi ⊢; rw [<-hi]; rfl)
     | (rw [e1] at hi ⊢; rw [<-hi]; rfl)
     | (rw [e2] at hi ⊢; rw [<-hi]; rfl)
     | (rw [e3] at hi ⊢; rw [<-hi]; rfl)
     | (rw [e4] at hi ⊢; rw [<-hi]; rfl)
     | (rw [e5] at hi ⊢; rw [<-hi]; rfl)
     | (rw [e6] at hi ⊢; rw [<-hi]; rfl)
  ·intro u hu
   obtain ⟨i, hi, rfl⟩ := Jl.1 hu;have hlt : i < l.length * 7 := K7.1 hi;obtain ⟨d, p, tp, w0, w1, w2, st, e0, e1, e2, e3, e4, e5, e6, e7⟩ := g4 (i / 7) l[i / 7] (by rw [IR]);have ones := e7.ones;have hmod : i = i / 7 * 7 + i % 7 := GR;obtain hr | hr | hr | hr | hr | hr | hr : i % 7 = 0 \/ i % 7 = 1 \/ i % 7 = 2 \/ i % 7 = 3 \/ i % 7 = 4 \/ i % 7 = 5 \/ i % 7 = 6 := GR
   all_goals
    rw [hr] at hmod;have hoi : ∀ r, i = i / 7 * 7 + r -> c[o + i]? = c[o + i / 7 * 7 + r]? := λ r h => by congr 1; omega
    rw [hoi _ hmod]
    first
     | (rw [Kz, e0]; exact ones _ Oa)
     | (rw [e1]; exact ones _ Oa)
     | (rw [e2]; exact ones _ Oa)
     | (rw [e3]; exact ones _ Oa)
     | (rw [e4]; exact ones _ Oa)
     | (rw [e5]; exact ones _ Oa)
     | (rw [e6]; exact ones _ Oa)
  ·intro i s hi
   have hlt : i < l.length := (IY.1 hi).1;obtain ⟨d, p, tp, w0, w1, w2, st, e0, e1, e2, e3, e4, e5, e6, e7⟩ := g4 i s hi;have at_ : ∀ r, r < 7 -> ((List.range (l.length * 7)).map (λ i => (c[o + i]?).getD undef))[i * 7 + r]? = some ((c[o + i * 7 + r]?).getD undef) := by
    intro r hr;rw [Kq, Lm GR];simp [Jz]
   refine ⟨d, p, tp, w0, w1, w2, st, ?_, ?_, ?_, ?_, ?_, ?_, ?_, e7⟩
   ·have := at_ 0 GR; rw [Kz, Kz, e0] at this; exact this
   ·rw [at_ 1 GR, e1]; rfl
   ·rw [at_ 2 GR, e2]; rfl
   ·rw [at_ 3 GR, e3]; rfl
   ·rw [at_ 4 GR, e4]; rfl
   ·rw [at_ 5 GR, e5]; rfl
   ·rw [at_ 6 GR, e6]; rfl
abbrev step0 : Value := .agg #[.nilFunc, .nilFunc, .int .i64 0, .int .i64 0, .int .i64 0, .int .i64 0, .string ⟨#[]⟩]
theorem z9x : (prog.info? dY).map (λ i => (i.zero, i.size, i.bytes)) = some (some step0, 7, 64) := GQ
theorem x8s (w : World) : Calls prog 141 #[()] w λ e w' => e = .returned (.slice none 0 0) /\ w = w' := by
 have h1 := K_ (P := prog);go_in;go_wp2;exact OJ
theorem addr_add (b o j : Nat) : (⟨b, o, none⟩ : Addr).add j = ⟨b, o + j, none⟩ := by unfold Addr.add; split <;> simp_all
theorem x8t (b o n cap : Nat) (cs : List Value) (w : World) (hn : n <= 1099511627776) (hl : cs.length = n * 7) (hc : ∀ i x, cs[i]? = some x -> w.cell? ⟨b, o + i, none⟩ = some x) (h1 : ∀ u ∈ cs, u.oneCell' = true) :
 Calls prog 141 #[.slice (some (b, o)) n cap] w λ e w' => ∃ v', e = .returned v' /\ Below w w w' /\ w'.ownsRow w.heap.size dY 7 v' n cs := by
 obtain ⟨i0, hi, hz0, hz1, hz2⟩ := JG z9x
 have hown : (w.alloc (.cells #[] dY)).ownsRow w.heap.size dY 7 (.slice (some w.heap.size) 0 0) 0 [] :=
  ⟨rfl, Iz ⟨w.heap.size, 0, #[], rfl, Nat.le_refl _, IC _ _, Nat.le_refl _, IV _, rfl, rfl⟩⟩
 have s2 : ∀ j u, cs[j]? = some u -> (w.alloc (.cells #[] dY)).cell? ((⟨b, o, none⟩ : Addr).add j) = some u := by
  intro j u hj;have hc := hc j u hj;rw [addr_add, Mg _ _ _ (IX hc)];exact hc
 have HO := hd1 hown;have HI := hd4 hi hz0 hz1 hz2;have HS := hd2 s2 h1;clear hc hown hi hz0 hz1 hz2 s2 h1;have hnil := λ (w : World) (a : Option Addr) (n c : Nat) => K_ (P := prog) w 93 dY a n c 0 0 Ip;go_in;go_wp2_with (at_builtin; refine Ky _ rfl (.tmp 5) (.tmp 6) 93 rfl w.heap.size dY i0 step0 7 64 Ip HI.1 HI.2.1 HI.2.2.1 HI.2.2.2 rfl GU _ 0 [] rfl HO.out ⟨b, o, none⟩ n cap cs rfl hl HS.1 HS.2 Nr GR GV ?_; intro v' w1 hown1 hgrow _)
 go_ret;refine ⟨_, rfl, ((bla).grown hgrow GV (λ k e => by cases e; exact Nat.le_refl _)), ?_⟩;rw [Ji, I8] at hown1;exact hown1
theorem il.fn {h : Array Obj} {s : Step} {a b c d e f g : Value} (x : il h F s a b c d e f g) :
 ∃ fn lb, a = .func (.func fn) #[] lb /\ (∀ args w, (callFunc fn args).run prog w = .ok (.enter fn args) w) := by
 obtain ⟨h1, h2, h3, h4, h5⟩ := x;rcases h5 with ⟨g1, g2, bn, bx, f1, f2, g3, g4, g5, g6⟩ | ⟨g1, g2, bt, bx, oF, bx', v, f1, f2, f3, f4, g3, g4, g5, g6, g7, g8, g9⟩ | ⟨g1, g2, bt, bn, f1, f2, g3, g4, g5, g6⟩
 ·exact absurd rfl g3
 ·exact ⟨_, _, g3, enters_of func142 GQ rfl⟩
 ·exact ⟨_, _, g3, enters_of func122 GQ rfl⟩
theorem bi {X Y : World} {base base' : Nat} {e : TypeId} {size : Nat} {xs : List Value} (h : X.ownsRow base e size v n xs) (hb : Below X X Y) (hl : base' <= base) : Y.ownsRow base' e size v n xs := by
 obtain ⟨h0, h⟩ := h;refine ⟨h0, ?_⟩;rcases h with h | ⟨g, cap, cur, h1, h2, h3, h4, h5, h6, h7⟩
 ·exact Iy h
 ·exact Iz ⟨g, cap, cur, h1, IP hl h2, (hb.block g (aa h3)).trans h3, h4, h5, h6, h7⟩
theorem x8r {X : World} {wv : Value} {cs : List Value} (hn : n <= 1000000000000) (hcs : cs.length = n * 7) (h1 : ∀ u ∈ cs, u.oneCell' = true)
 (hw : (wv = .slice none 0 0 /\ n = 0) \/ ∃ b o cap, wv = .slice (some ⟨b, o, none⟩) n cap /\ ∀ i y, cs[i]? = some y -> W.cell? ⟨b, o + i, none⟩ = some y) (hb : Below W W X) :
 Calls prog 141 #[wv] X λ e w' => ∃ v', e = .returned v' /\ Below X X w' /\ w'.ownsRow W.heap.size dY 7 v' n cs := by
 rcases hw with ⟨rfl, rfl⟩ | ⟨b, o, cap, rfl, hc⟩
 ·refine (x8s X).mono ?_
  rintro e w' ⟨rfl, rfl⟩;exact ⟨_, rfl, Below.refl _ _, by simpa using hcs, Iy ⟨rfl, rfl⟩⟩
 ·refine (x8t b o n cap cs X GR hcs (λ i y hi => ?_) h1).mono ?_
  ·have := hc i y hi
   exact (hb.cell (p := ⟨b, o + i, none⟩) (IX this)).trans this
  ·rintro e w' ⟨v', rfl, h2, h3⟩
   exact ⟨v', rfl, h2, bi h3 GY hb.size⟩
theorem z0x : (prog.info? dY).map (·.size) = some 7 := GQ
theorem y6p (p : Nat) (c : Int) (a0 a1 a2 a3 a4 a5 a6 : Value) (w : World) (R : World -> Prop) (hc : c = 281)
 (hg : Calls prog 102 #[p] (w.alloc (.cells #[a0, a1, a2, a3, a4, a5, a6] dY)) λ e w' => e = .returned (.int .i64 c) /\ R w') :
 Calls prog 99 #[.pointer (some p), .agg #[a0, a1, a2, a3, a4, a5, a6]] w λ e w' => e = .returned (.int .i64 281) /\ R w' := by
 subst hc;have HG := hd1 hg;clear hg;go_in;go_wp2_with (go_at_call 102; refine HG.mono ?_; rintro e w' ⟨rfl, hr⟩)
 go_ret;exact ⟨rfl, hr⟩
theorem y6r (p fn : Nat) (lb : Array Value) (a1 a2 a3 a4 a5 a6 : Value) (w : World) (R1 : World -> Prop) (R2 : World -> World -> Prop) (eg : ∀ args w, (callFunc fn args).run prog w = .ok (.enter fn args) w)
 (n : Nat) (hn : n <= 1000000000000) (KK : World -> List Value -> Prop) (h2 : ∀ u ∈ ib (.func (.func fn) #[] lb) a1 a2 a3 a4 a5 a6, u.oneCell' = true)
 (hg : Calls prog 102 #[p] (w.alloc (.cells #[.func (.func fn) #[] lb, a1, a2, a3, a4, a5, a6] dY)) λ e w' => e = .returned (.int .i64 0) /\ R1 w')
 (hr1 : ∀ W1, R1 W1 -> W1.heap[w.heap.size]? = some (.cells #[.func (.func fn) #[] lb, a1, a2, a3, a4, a5, a6] dY (0, 0)) ∧
  Calls prog fn (#[.pointer (some p)] ++ lb) W1.drew λ e w' => e = .returned (.tuple #[]) /\ R2 W1 w')
 (hr2 : ∀ W1 W2, R1 W1 -> R2 W1 W2 -> W2.heap[w.heap.size]? = some (.cells #[.func (.func fn) #[] lb, a1, a2, a3, a4, a5, a6] dY (0, 0)) /\ ∃ wv cs, KK W2 cs /\ cs.length = n * 7 /\ (∀ u ∈ cs, u.oneCell' = true) /\ W2.cell? (p, 10) = some wv /\ W2.frozen? ⟨p, 10, none⟩ = false ∧
  ((wv = .slice none 0 0 /\ n = 0) \/ ∃ b o cap, wv = .slice (some ⟨b, o, none⟩) n cap /\ ∀ i y, cs[i]? = some y -> W2.cell? ⟨b, o + i, none⟩ = some y)) :
 Calls prog 99 #[.pointer (some p), .agg #[.func (.func fn) #[] lb, a1, a2, a3, a4, a5, a6]] w λ e w' => e = .returned (.int .i64 0) ∧
  ∃ W1 W2 W4 v cs, R1 W1 /\ R2 W1 W2 /\ KK W2 cs /\ Below W2 W2 W4 /\ W4.ownsRow W2.heap.size dY 7 v (n + 1) (cs ++ ib (.func (.func fn) #[] lb) a1 a2 a3 a4 a5 a6) /\ w' = W4.setCell (p, 10) v := by
 obtain ⟨i0, hi, hz0, hz1, hz2⟩ := JG z9x;have HI := hd4 hi hz0 hz1 hz2;clear hi hz0 hz1 hz2;have HG := hd1 hg;have HR1 := hd1 hr1;have HR2 := hd1 hr2;clear hg hr1 hr2;go_in;go_wp2_with (go_at_call 102; refine HG.mono ?_; rintro e W1 ⟨rfl, q1⟩)
 have Q1 := hd1 q1;obtain ⟨r1, r2⟩ := HR1.out W1 q1;clear q1;have R1' := hd1 r2;clear r2;have f0 : ∀ x : Wd (λ w' => w' = W1.drew), x.world.cell? ⟨w.heap.size, 0, none⟩ = some (.func (.func fn) #[] lb) := λ x => by rw [x.ok]; exact (IJ W1 _ _ _ _ _ r1).trans rfl
 clear r1;have ne : Nonempty (Wd (λ w' => w' = W1.drew)) := ⟨⟨_, rfl⟩⟩;refine bC (λ w' => ∃ x : Wd (λ w' => w' = W1.drew), w' = x.world) [5] GQ ?_;refine aI [0, 1, 2, 3, 4] 1 _ ⟨⟨_, rfl⟩, rfl⟩ GQ ?_;refine G9 ?_;refine az 5 0 _ _ rfl GQ ?_;refine IE rfl λ K hK => ?_;go_simp;refine R1'.mono ?_;rintro e W2 ⟨rfl, q2⟩;refine hK _ _ (IB ⟨rfl, λ h => absurd GU h, GQ, ?_⟩);clear hK K;clear f0 ne R1';obtain ⟨r3, wv, cs, hkk, hcs, h1, r4, r5, r6⟩ := HR2.out W1 W2 Q1.out q2;have H12 := hd2 h1 h2;have HN := hd2 hcs hn;have HK2 := hd1 hkk;clear h1 h2 hcs hn hkk;have Q2 := hd1 q2;clear q2;have lp := IX r4;simp only at lp;have lg : w.heap.size < W2.heap.size := aa r3;have f1 : ∀ x : Wd (Below W2 W2), x.world.cell? (p, 10) = some wv := λ x => (x.ok.cell (p := ⟨p, 10, none⟩) lp).trans r4;have ld : ∀ w', (∃ x : Wd (Below W2 W2), w' = x.world) -> (Instr.loadAt dY (.pointer (some ⟨w.heap.size, 0, none⟩))).run prog w' = .ok (.agg #[.func (.func fn) #[] lb, a1, a2, a3, a4, a5, a6]) w' := by
  rintro w' ⟨x, rfl⟩;exact fK ((x.ok.block _ lg).trans r3) underlying115 rfl (by rw [z0x]; rfl)
 have LD := hd1 ld;have R6 := hd1 r6;have DJ := hd2 r4 r5;clear ld r3 r4 r5 r6;have ne : Nonempty (Wd (Below W2 W2)) := ⟨⟨_, Below.refl _ _⟩⟩;go_wp2;refine bC (λ w' => ∃ x : Wd (Below W2 W2), w' = x.world) [11] GQ ?_;refine aI [0, 1, 2, 3, 4, 6] 6 _ Hq GQ ?_;simp only [fmc, fmn, gta, gcs, gcz];repeat refine G8 ?_
 refine dX rfl dY (.tmp 3) rfl _ LD.out ?_;refine aA ?_;have CL := hd1 (λ X (hb : Below W2 W2 X) => x8r HN.2 HN.1 H12.1 R6.out hb);refine Ad 5 7 5 _ _ _ rfl rfl GQ ?_ ?_
 ·refine IE rfl λ K hK => ?_
  go_simp;go_at_call 141;refine (CL.out W2.drew GY.drew).mono ?_;rintro e X1 ⟨v', rfl, b1, o1⟩;have B1 : Below W2 W2 X1 := GY.drew.trans b1;refine hK _ _ (IB ⟨rfl, λ _ => ⟨⟨_, B1⟩, rfl⟩, ?_⟩);clear hK K;refine az 7 4 _ _ rfl GQ ?_;refine IE rfl λ K hK => ?_;go_simp;have hg : (X1.alloc (.cells #[.func (.func fn) #[] lb, a1, a2, a3, a4, a5, a6] dY)).heap[X1.heap.size]? = some (.cells #[.func (.func fn) #[] lb, a1, a2, a3, a4, a5, a6] dY (0, 0)) := IC _ _;have hlt := B1.size;have B3 : Below W2 W2 (X1.alloc (.cells #[.func (.func fn) #[] lb, a1, a2, a3, a4, a5, a6] dY)) := B1.alloc hlt _;have O3 := hd1 (bi o1 (GY.alloc GZ (.cells #[.func (.func fn) #[] lb, a1, a2, a3, a4, a5, a6] dY)) GZ);refine hK _ _ (IB ⟨rfl, λ _ => ⟨⟨_, B3⟩, rfl⟩, ?_⟩);clear hK K;have uL := hd1 hg;clear o1 b1 B1 hg;generalize X1.alloc (.cells #[.func (.func fn) #[] lb, a1, a2, a3, a4, a5, a6] dY) = W3 at B3 O3 uL ⊢;generalize X1.heap.size = gb at uL hlt ⊢;refine az 8 3 _ _ rfl GQ ?_
  refine Ky _ rfl (.tmp 22) (.tmp 24) 93 rfl W2.heap.size dY i0 step0 7 64 Ip HI.1 HI.2.1 HI.2.2.1 HI.2.2.2 rfl GU _ n cs rfl O3.out ⟨gb, 0, none⟩ 1 1 (ib (.func (.func fn) #[] lb) a1 a2 a3 a4 a5 a6) rfl rfl
   (λ j u hj => by rw [addr_add, IJ _ _ _ _ _ _ uL.out, I8, List.getElem?_toArray]; exact hj) H12.2 (by unfold maxLen; have := HN.2; omega) (Hf HN.2) B3.size ?_
  exact OG
 ·refine IE rfl λ K hK => ?_
  go_simp;have hg : (W2.alloc (.cells #[.func (.func fn) #[] lb, a1, a2, a3, a4, a5, a6] dY)).heap[W2.heap.size]? = some (.cells #[.func (.func fn) #[] lb, a1, a2, a3, a4, a5, a6] dY (0, 0)) := IC _ _;have B1 : Below W2 W2 (W2.alloc (.cells #[.func (.func fn) #[] lb, a1, a2, a3, a4, a5, a6] dY)).drew := (bla).drew;refine hK _ _ (IB ⟨rfl, λ _ => ⟨⟨_, B1⟩, rfl⟩, ?_⟩);clear hK K;refine az 5 4 _ _ rfl GQ ?_;refine IE rfl λ K hK => ?_;go_simp;go_at_call 141;refine (CL.out _ B1).mono ?_;rintro e W3 ⟨v', rfl, b1, o1⟩;have B3 : Below W2 W2 W3 := B1.trans (b1.mono B1.size);refine hK _ _ (IB ⟨rfl, λ _ => ⟨⟨_, B3⟩, rfl⟩, ?_⟩);clear hK K;have O3 := hd1 o1;have uL := hd1 ((b1.block W2.heap.size GV).trans hg);have hlt : W2.heap.size <= W2.heap.size := Nat.le_refl _;clear o1 b1 B1 hg;refine az 8 3 _ _ rfl GQ ?_
  refine Ky _ rfl (.tmp 22) (.tmp 24) 93 rfl W2.heap.size dY i0 step0 7 64 Ip HI.1 HI.2.1 HI.2.2.1 HI.2.2.2 rfl GU _ n cs rfl O3.out ⟨W2.heap.size, 0, none⟩ 1 1 (ib (.func (.func fn) #[] lb) a1 a2 a3 a4 a5 a6) rfl rfl
   (λ j u hj => by rw [addr_add, IJ _ _ _ _ _ _ uL.out, I8, List.getElem?_toArray]; exact hj) H12.2 (by unfold maxLen; have := HN.2; omega) (Hf HN.2) B3.size ?_
  exact OG
end Go.Proofs.YtgffifleflkjoaaGreat
