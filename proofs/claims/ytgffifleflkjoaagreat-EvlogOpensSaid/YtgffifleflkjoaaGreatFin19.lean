/-
  Parts of a proof.
-/
import Derived.Test.YtgffifleflkjoaaGreatFin10
import Derived.Test.YtgffifleflkjoaaGreatFin13
set_option linter.unusedSimpArgs false
set_option linter.unusedVariables false
set_option maxRecDepth 100000
set_option maxHeartbeats 16000000
namespace Go.Proofs.YtgffifleflkjoaaGreat
open _root_.Go.Proofs.Tryz
variable {w W w' w0 wr w1 W0 W1 W2 A B : World} {F G F' O : Nat → Prop} {v : Value} {l : List UInt8} {n q m pd md pl g p : Nat} {C : Array Value} {c : Int}
open Go.RowKit Dm
abbrev jN : Nat := 199
abbrev bJ : Nat := 158
abbrev aO : Nat := 60
abbrev af : Nat := 63
def nJ (h : Array Obj) (F : Nat -> Prop) (v : Value) (secs : List (Int × List UInt8)) : Prop :=
 (v = .slice none 0 0 /\ secs = []) \/ ∃ (b o cap : Nat) (c : Array Value) (t : TypeId) (fr : Nat × Nat), v = .slice (some ⟨b, o, none⟩) secs.length cap /\ secs.length <= cap /\ cap <= 9223372036854775807 /\ F b /\ h[b]? = some (.cells c t fr) ∧
  ∀ (i : Nat) (n : Int) (l : List UInt8), secs[i]? = some (n, l) -> ∃ u, c[o + i * 2]? = some (.int .i64 n) /\ c[o + i * 2 + 1]? = some u /\ BytesAt h F u l
structure qi (secs : List (Int × List UInt8)) (f : Int -> List UInt8) (many : Int) : Prop where
 qb : ∀ e ∈ secs, e.2 = f e.1 /\ 0 <= e.1 /\ e.1 < many
 no : ∀ n, (∀ e ∈ secs, e.1 ≠ n) -> f n = zeros
 nodup : (secs.map (·.1)).Nodup
def RB (h : Array Obj) (F : Nat -> Prop) (sv t0 t1 t2 t3 : Value) (x : St) (many : Int) : Prop :=
 ∃ secs, nJ h F sv secs /\ qi secs x.sec many /\ BytesAt h F t0 (x.tp 0) /\ BytesAt h F t1 (x.tp 1) /\ BytesAt h F t2 (x.tp 2) /\ BytesAt h F t3 (x.tp 3)
def DI (h : Array Obj) (F : Nat -> Prop) (s : Step) (w0 w1 w2 u : Value) : Prop := w0 = .int .i64 s.what /\ w1 = .int .i64 s.n /\ w2 = .int .i64 s.many /\ BytesAt h F u s.b
def iE (h : Array Obj) (F : Nat -> Prop) (v : Value) (l : List Step) : Prop :=
 (v = .slice none 0 0 /\ l = []) \/ ∃ (b o cap : Nat) (c : Array Value) (t : TypeId) (fr : Nat × Nat), v = .slice (some ⟨b, o, none⟩) l.length cap /\ l.length <= cap /\ cap <= 9223372036854775807 /\ F b /\ h[b]? = some (.cells c t fr) ∧
  ∀ (i : Nat) (s : Step), l[i]? = some s -> ∃ w0 w1 w2 u, c[o + i * 4]? = some w0 /\ c[o + i * 4 + 1]? = some w1 /\ c[o + i * 4 + 2]? = some w2 /\ c[o + i * 4 + 3]? = some u /\ DI h F s w0 w1 w2 u
def dC (many room : Int) (sv t0 t1 t2 t3 wv : Value) (dead : Bool) (stops : Int) : Array Value := #[.int .i64 many, .int .i64 room, sv, t0, t1, t2, t3, wv, .bool dead, .int .i64 stops]
def bR (h : Array Obj) (F : Nat -> Prop) (v : Value) (d : D) : Prop :=
 ∃ sv t0 t1 t2 t3 wv, v = .agg (dC d.many d.room sv t0 t1 t2 t3 wv d.dead d.stops) /\ RB h F sv t0 t1 t2 t3 d.lasts d.many /\ iE h F wv d.waits
theorem nJ.keeps {h h' : Array Obj} {l : List (Int × List UInt8)} (x : nJ h F v l) (hs : ∀ k, F k -> k < h.size -> h'[k]? = h[k]?) (hF : ∀ k, F k -> k < h.size -> F' k) : nJ h' F' v l := by
 rcases x with x | ⟨b, o, cap, c, t, fr, h1, h2, h3, g2, g3, g4⟩
 ·exact Iy x
 ·refine Iz ⟨b, o, cap, c, t, fr, h1, h2, h3, hF _ g2 (aa g3), (hs _ g2 (aa g3)).trans g3, λ i n l hi => ?_⟩
  obtain ⟨u, e0, e1, e2⟩ := g4 i n l hi;exact ⟨u, e0, e1, e2.keeps hs hF⟩
theorem RB.keeps {h h' : Array Obj} {sv t0 t1 t2 t3 : Value} {x : St} {many : Int} (r : RB h F sv t0 t1 t2 t3 x many) (hs : ∀ k, F k -> k < h.size -> h'[k]? = h[k]?) (hF : ∀ k, F k -> k < h.size -> F' k) : RB h' F' sv t0 t1 t2 t3 x many := by
 obtain ⟨secs, s1, s2, b0, b1, b2, b3⟩ := r;exact ⟨secs, s1.keeps hs hF, s2, b0.keeps hs hF, b1.keeps hs hF, b2.keeps hs hF, b3.keeps hs hF⟩
theorem DI.keeps {h h' : Array Obj} {s : Step} {w0 w1 w2 u : Value} (x : DI h F s w0 w1 w2 u) (hs : ∀ k, F k -> k < h.size -> h'[k]? = h[k]?) (hF : ∀ k, F k -> k < h.size -> F' k) : DI h' F' s w0 w1 w2 u :=
 ⟨x.1, x.2.1, x.2.2.1, x.2.2.2.keeps hs hF⟩
theorem iE.keeps {h h' : Array Obj} {l : List Step} (x : iE h F v l) (hs : ∀ k, F k -> k < h.size -> h'[k]? = h[k]?) (hF : ∀ k, F k -> k < h.size -> F' k) : iE h' F' v l := by
 rcases x with x | ⟨b, o, cap, c, t, fr, h1, h2, h3, g2, g3, g4⟩
 ·exact Iy x
 ·refine Iz ⟨b, o, cap, c, t, fr, h1, h2, h3, hF _ g2 (aa g3), (hs _ g2 (aa g3)).trans g3, λ i s hi => ?_⟩
  obtain ⟨w0, w1, w2, u, e0, e1, e2, e3, e4⟩ := g4 i s hi;exact ⟨w0, w1, w2, u, e0, e1, e2, e3, e4.keeps hs hF⟩
theorem bR.keeps {h h' : Array Obj} {d : D} (x : bR h F v d) (hs : ∀ k, F k -> k < h.size -> h'[k]? = h[k]?) (hF : ∀ k, F k -> k < h.size -> F' k) : bR h' F' v d := by
 obtain ⟨sv, t0, t1, t2, t3, wv, e, r, st⟩ := x;exact ⟨sv, t0, t1, t2, t3, wv, e, r.keeps hs hF, st.keeps hs hF⟩
theorem RB.plus {sv t0 t1 t2 t3 : Value} {x : St} {many : Int} (r : RB w.heap F sv t0 t1 t2 t3 x many) (hb : Below w w w') : RB w'.heap (plus F w w') sv t0 t1 t2 t3 x many := r.keeps (λ k _ hl => hb.block k hl) (λ _ h _ => Iy h)
theorem iE.plus {l : List Step} (r : iE w.heap F v l) (hb : Below w w w') : iE w'.heap (plus F w w') v l := r.keeps (λ k _ hl => hb.block k hl) (λ _ h _ => Iy h)
theorem BytesAt.plus (r : BytesAt w.heap F v l) (hb : Below w w w') : BytesAt w'.heap (plus F w w') v l := r.keeps (λ k _ hl => hb.block k hl) (λ _ h _ => Iy h)
theorem bR.plus {d : D} (r : bR w.heap F v d) (hb : Below w w w') : bR w'.heap (plus F w w') v d := r.keeps (λ k _ hl => hb.block k hl) (λ _ h _ => Iy h)
theorem RB.tape {h : Array Obj} {sv t0 t1 t2 t3 : Value} {x : St} {many : Int} (r : RB h F sv t0 t1 t2 t3 x many) (t : Nat) (ht : t < 4) : ∃ v, #[sv, t0, t1, t2, t3][1 + t]? = some v /\ BytesAt h F v (x.tp t) := by
 obtain ⟨secs, s1, s2, b0, b1, b2, b3⟩ := r;obtain rfl | rfl | rfl | rfl : t = 0 \/ t = 1 \/ t = 2 \/ t = 3 := GR
 ·exact ⟨t0, rfl, b0⟩
 ·exact ⟨t1, rfl, b1⟩
 ·exact ⟨t2, rfl, b2⟩
 ·exact ⟨t3, rfl, b3⟩
theorem RB.z4c {h : Array Obj} {sv t0 t1 t2 t3 : Value} {x : St} {many : Int} (r : RB h F sv t0 t1 t2 t3 x many) (t : Nat) (ht : t < 4) (hv : BytesAt h F v l) :
 ∃ u0 u1 u2 u3, #[sv, t0, t1, t2, t3].setIfInBounds (1 + t) v = #[sv, u0, u1, u2, u3] /\ RB h F sv u0 u1 u2 u3 { x with tp := upd x.tp t l } many := by
 obtain ⟨secs, s1, s2, b0, b1, b2, b3⟩ := r;obtain rfl | rfl | rfl | rfl : t = 0 \/ t = 1 \/ t = 2 \/ t = 3 := GR
 ·exact ⟨v, t1, t2, t3, GV, secs, s1, s2, by simpa [upd] using hv, by simpa [upd] using b1, by simpa [upd] using b2, by simpa [upd] using b3⟩
 ·exact ⟨t0, v, t2, t3, GV, secs, s1, s2, by simpa [upd] using b0, by simpa [upd] using hv, by simpa [upd] using b2, by simpa [upd] using b3⟩
 ·exact ⟨t0, t1, v, t3, GV, secs, s1, s2, by simpa [upd] using b0, by simpa [upd] using b1, by simpa [upd] using hv, by simpa [upd] using b3⟩
 ·exact ⟨t0, t1, t2, v, GV, secs, s1, s2, by simpa [upd] using b0, by simpa [upd] using b1, by simpa [upd] using b2, by simpa [upd] using hv⟩
theorem Gg : ∀ (m : Nat) (l : List Int), l.Nodup -> (∀ x ∈ l, 0 <= x /\ x < m) -> l.length <= m
 | 0, l, _, h => by
  cases l with
  | nil => simp
  | cons a l => have := h a (Jp ..); omega
 | m + 1, l, hn, h => by
  by_cases hm : (m : Int) ∈ l
  ·have h1 := Gg m (l.erase (m : Int)) (hn.erase _) (λ x hx => by
    have hx' := (hn.mem_erase_iff).1 hx;have := h x hx'.2;have := hx'.1;omega)
   rw [List.length_erase_of_mem hm] at h1;omega
  ·have h1 := Gg m l hn (λ x hx => by
    have := h x hx;have : x ≠ m := λ e => hm (e ▸ hx);omega)
   omega
theorem qi.len {secs : List (Int × List UInt8)} {f : Int -> List UInt8} {many : Int} (h : qi secs f many) (hm : many <= 4096) : secs.length <= 4096 := by
 have := Gg 4096 (secs.map (·.1)) h.nodup (λ x hx => by
  obtain ⟨e, he, rfl⟩ := Jl.1 hx;have := h.qb e he;omega)
 simpa using this
abbrev eT : Array Value := #[.slice none 0 0, .slice none 0 0, .slice none 0 0, .slice none 0 0, .slice none 0 0]
abbrev kZ (w : World) (c s : Array Value) : World := ((w.alloc (.cells c aO)).alloc (.cells s bJ)).alloc (.cells eT aO)
theorem zn (w : World) (c s : Array Value) : Below w w (kZ w c s) := ((bla).alloc GV _).alloc N_ _
theorem zl (w : World) (c s : Array Value) : (kZ w c s).heap[w.heap.size]? = some (.cells c aO) /\ (kZ w c s).heap[w.heap.size + 1]? = some (.cells s bJ) /\ (kZ w c s).heap[w.heap.size + 2]? = some (.cells eT aO) /\ (kZ w c s).heap.size = w.heap.size + 3 :=
 ⟨aM N_ (aM GV (IC w _)), aM GV (bD (w := w.alloc _) _ GV), bD (w := (w.alloc _).alloc _) _ GV, GV⟩
theorem bX : (prog.info? aO).map (·.size) = some 5 := GQ
def w1j (w : World) (c : Array Value) (t : Nat) (l : List UInt8) (G : Nat -> Prop) (e : Ending) (w' : World) : Prop :=
 ∃ v', e = .returned (.agg (c.setIfInBounds (1 + t) v')) /\ Below w.heap.size w w' /\ BytesAt w'.heap (λ k => G k \/ w.heap.size <= k) v' l
theorem x6p (sv t0 t1 t2 t3 ti u : Value) (t : Nat) (many : Int) (l1 l2 : List UInt8) (G : Nat -> Prop) (w : World) (ht : t < 4) (hti : #[sv, t0, t1, t2, t3][1 + t]? = some ti) (h1 : BytesAt w.heap G ti l1) (h2 : BytesAt w.heap G u l2) (hl : l1.length + l2.length <= 1099511627776) (ho : (#[sv, t0, t1, t2, t3] : Array Value).all (·.oneCell') = true) :
 Calls prog 85 #[.agg #[sv, t0, t1, t2, t3], .agg #[.int .i64 2, .int .i64 t, .int .i64 many, u]] w (w1j w #[sv, t0, t1, t2, t3] t (l1 ++ l2) G) := by
 have hb0 := zn w #[sv, t0, t1, t2, t3] #[.int .i64 2, .int .i64 t, .int .i64 many, u];have rows := zl w #[sv, t0, t1, t2, t3] #[.int .i64 2, .int .i64 t, .int .i64 many, u];generalize hC : (#[sv, t0, t1, t2, t3] : Array Value) = C at *;have bN : C.size = 5 := by rw [<-hC]; rfl
 obtain ⟨W0, hW0⟩ := G5 (kZ w C #[.int .i64 2, .int .i64 t, .int .i64 many, u]);rw [hW0] at hb0 rows;obtain ⟨r0, r1, r2, z0⟩ := rows;have HD := hd10 h1 h2 hb0 r0 r1 r2 z0 hl ho bN;have x1 : ∀ x : Wd (Below W0 W0), x.world.cell? (w.heap.size + 1, 1) = some (.int .i64 t) := λ x => (x.ok.cell (p := ⟨w.heap.size + 1, 1, none⟩) (aa r1)).trans (ae r1 rfl);have x2 : ∀ x : Wd (Below W0 W0), x.world.cell? (w.heap.size + 1, 3) = some u := λ x => (x.ok.cell (p := ⟨w.heap.size + 1, 3, none⟩) (aa r1)).trans (ae r1 rfl);have x3 : ∀ x : Wd (Below W0 W0), x.world.cell? (w.heap.size, 1 + t) = some ti := λ x => (x.ok.cell (p := ⟨w.heap.size, 1 + t, none⟩) (aa r0)).trans (ae r0 hti);have k0 : W0.cell? (w.heap.size + 1, 0) = some (.int .i64 2) := ae r1 rfl;have hz : (0 : Int) <= (t : Int) := GR;have qW : (t : Int) < 4 := GR;have ne : Nonempty (Wd (Below W0 W0)) := ⟨⟨_, Below.refl _ _⟩⟩;have HW0 := hd1 hW0;clear h1 h2 hl hb0 r0 r1 r2 z0 ho bN hC hti;go_in;go_upto_region 1 with fail
 clear hW0;go_wp2;refine bC (λ w' => ∃ x : Wd (Below W0 W0), w' = x.world) [14] GQ ?_;refine aI [0, 1, 3, 4, 5, 6, 7, 9, 10, 12] 5 _ Hq GQ ?_;refine G9 ?_;refine az 2 4 _ _ rfl GQ ?_;refine IE rfl λ K hK => ?_;go_simp;have hb1 : Below W0 W0 (W0.alloc (.cells #[] bT)).drew := (bla).drew;have qP : bY (W0.alloc (.cells #[] bT)).drew W0.heap.size (.slice (some W0.heap.size) 0 0) [] := Bu W0;refine hK _ _ (IB ⟨rfl, λ _ => ⟨⟨_, hb1⟩, rfl⟩, ?_⟩);clear hK K;have lJ := hd1 qP;clear qP;generalize (W0.alloc (.cells #[] bT)).drew = W1 at *;refine az 8 3 _ _ rfl GQ ?_;refine dS rfl (.tmp 92) (.tmp 97) rfl W0.heap.size W0.heap.size W0 hb1 GZ _ [] rfl lJ.out _ l1 G rfl (HD.1.keeps (λ k _ hl => (hb1.block k (Hf HD.2.2.2.2.2.2.1)).trans (HD.2.2.1.block k hl)) (λ _ h _ => h)) (by have := HD.2.2.2.2.2.2.2.1; simp; omega) hb1.size ?_;intro v1 W2 jv hb2 _;refine IB ⟨rfl, λ _ => ⟨⟨_, hb2⟩, rfl⟩, ?_⟩;rw [Ji] at jv;refine az 11 2 _ _ rfl GQ ?_;refine dS rfl (.tmp 98) (.tmp 100) rfl W0.heap.size W0.heap.size W0 hb2 GZ _ l1 rfl jv.out _ l2 G rfl (HD.2.1.keeps (λ k _ hl => (hb2.block k (Hf HD.2.2.2.2.2.2.1)).trans (HD.2.2.1.block k hl)) (λ _ h _ => h)) HD.2.2.2.2.2.2.2.1 hb2.size ?_;intro v2 W3 iF hb3 _;generalize l1 ++ l2 = l3 at *;refine IB ⟨rfl, λ _ => ⟨⟨_, hb3⟩, rfl⟩, ?_⟩;refine aI [13] 1 _ ⟨⟨_, hb3⟩, rfl⟩ GQ ?_;refine G9 ?_;refine az 14 0 _ _ rfl GQ ?_;have q0 : W3.heap[w.heap.size]? = some (.cells C aO) := (hb3.block _ (aa HD.2.2.2.1)).trans HD.2.2.2.1;have q2 : W3.heap[w.heap.size + 1 + 1]? = some (.cells eT aO) := (hb3.block _ (aa HD.2.2.2.2.2.1)).trans HD.2.2.2.2.2.1
 have k3 : W3.cell? (w.heap.size, 1 + t) = some ti := x3 ⟨W3, hb3⟩;have f3 : W3.frozen? ⟨w.heap.size, 1 + t, none⟩ = false := aZ q0 _;obtain ⟨a2, c2, rfl⟩ := iF.bytes.bytes.slice;have s0 := IQ W3 w.heap.size (1 + t) C aO (.slice a2 l3.length c2) q0;have s2 := (IU W3 ⟨w.heap.size, 1 + t, none⟩ (w.heap.size + 1 + 1) (.slice a2 l3.length c2) MP).trans q2;have mv : Below w w (W3.setCell (w.heap.size, 1 + t) (.slice a2 l3.length c2)) := (HD.2.2.1.trans (hb3.mono (Hf HD.2.2.1.size))).setCell GZ _
 have bs : BytesAt (W3.setCell (w.heap.size, 1 + t) (.slice a2 l3.length c2)).heap (λ k => W0.heap.size <= k) (.slice a2 l3.length c2) l3 :=
  iF.bytes.bytes.keeps (λ k hk _ => IU W3 ⟨w.heap.size, 1 + t, none⟩ k _ (by have hk' : W0.heap.size <= k := hk; have := HD.2.2.2.2.2.2.1; show k ≠ w.heap.size; omega)) (λ _ h _ => h)
 refine IE rfl λ K hK => ?_;go_simp;have HS := hd4 s0 s2 mv bs;clear s0 s2 mv bs q0 q2 k3 f3;refine hK _ _ (IB ⟨rfl, λ h => absurd GU h, GQ, ?_⟩);clear hK K;generalize (W3.setCell (w.heap.size, 1 + t) (.slice a2 l3.length c2)) = W4 at *;have sc : (C.setIfInBounds (1 + t) (.slice a2 l3.length c2)).size = 5 := by rw [Lp]; exact HD.2.2.2.2.2.2.2.2.2
 have so : (C.setIfInBounds (1 + t) (.slice a2 l3.length c2)).all (·.oneCell') = true := by
  rw [JD];intro y hy;rcases Array.mem_or_eq_of_mem_setIfInBounds hy with h | h
  ·exact JD.1 HD.2.2.2.2.2.2.2.2.1 y h
  ·rw [h]; rfl
 have SC := hd2 sc so;clear sc so;generalize hC' : C.setIfInBounds (1 + t) (.slice a2 l3.length c2) = C' at *
 go_wp2_with (first
  | (refine II rfl aO (.tmp 2) rfl w.heap.size rfl aO C' (0, 0) _ HS.1 Hz rfl NY ?_)
  | (refine aC rfl aO _ _ rfl (w.heap.size + 1 + 1) C' rfl rfl aO eT HS.2.1 NY NP SC.2 ?_
     intro W5 aF aB bf))
 refine Hd aF.out Hz NY ?_;refine ⟨.slice a2 l3.length c2, by rw [hC'], Moves.new HS.2.2.1 aB GR, ?_⟩;have z0 := HD.2.2.2.2.2.2.1;exact HS.2.2.2.keeps (λ k hk hl => aB.block k hl (λ e => by have hk' : W0.heap.size <= k := hk; omega)) (λ k hk _ => Iz (by have hk' : W0.heap.size <= k := hk; omega))
def iO (acc : List (Int × Value)) : List Value := acc.flatMap (λ e => [.int .i64 e.1, e.2])
theorem wC (acc : List (Int × Value)) (e : Int × Value) : iO (acc ++ [e]) = iO acc ++ [.int .i64 e.1, e.2] := by simp [iO]
theorem x5k (acc : List (Int × Value)) (i : Nat) (e : Int × Value) (h : acc[i]? = some e) : (iO acc)[i * 2]? = some (.int .i64 e.1) /\ (iO acc)[i * 2 + 1]? = some e.2 := by
 induction acc generalizing i with
 | nil => cases h
 | cons a l ih =>
  cases i with
  | zero => cases h; exact ⟨rfl, rfl⟩
  | succ i =>
   have := ih i NU;have e1 : (i + 1) * 2 = i * 2 + 2 := GR;have e2 : i * 2 + 2 + 1 = i * 2 + 1 + 2 := GR;have e3 : iO (a :: l) = .int .i64 a.1 :: a.2 :: iO l := rfl;rw [e1, e3, e2, List.getElem?_cons_succ, List.getElem?_cons_succ, List.getElem?_cons_succ, List.getElem?_cons_succ];exact this
structure gu (h : Array Obj) (F : Nat -> Prop) (f : Int -> List UInt8) (many n : Int) (b : List UInt8) (secs : List (Int × List UInt8)) (k : Nat) (acc : List (Int × Value)) (pb : Bool) : Prop where
 qb : ∀ e ∈ acc, BytesAt h F e.2 (upd f n b e.1) /\ 0 <= e.1 /\ e.1 < many
 keys : ∀ e ∈ acc, (e.1 = n /\ pb = true) \/ (e.1 ≠ n /\ ∃ j l, j < k /\ secs[j]? = some (e.1, l))
 z0n : pb = true -> ∃ e ∈ acc, e.1 = n
 Ch : ∀ (j : Nat) m l, j < k -> secs[j]? = some (m, l) -> m = n \/ ∃ e ∈ acc, e.1 = m
 nodup : (acc.map (·.1)).Nodup
 len : acc.length <= k + (if pb then 1 else 0)
section
variable {h : Array Obj} {F : Nat -> Prop} {f : Int -> List UInt8} {many n : Int} {b : List UInt8} {secs : List (Int × List UInt8)} {k : Nat} {acc : List (Int × Value)} {pb : Bool}
theorem gu.start : gu h F f many n b secs 0 [] false := ⟨(λ e he => by cases he), (λ e he => by cases he), (λ h => by cases h), (λ j m l hj => GR), GV, GV⟩
theorem gu.new (r : gu h F f many n b secs k acc false) {u : Value} (hu : BytesAt h F u b) (h0 : 0 <= n) (h1 : n < many) : gu h F f many n b secs k (acc ++ [(n, u)]) true := by
 refine ⟨λ e he => ?_, λ e he => ?_, λ _ => ⟨(n, u), GV, rfl⟩, λ j m l hj hs => ?_, ?_, by have := r.len; simp at this ⊢; omega⟩
 ·rcases JY.1 he with he | he
  ·exact r.qb e he
  ·rw [J8] at he; subst he; exact ⟨by rw [upd_same]; exact hu, h0, h1⟩
 ·rcases JY.1 he with he | he
  ·rcases r.keys e he with ⟨_, hh⟩ | hh
   ·cases hh
   ·exact Iz hh
  ·rw [J8] at he; subst he; exact Iy ⟨rfl, rfl⟩
 ·rcases r.Ch j m l hj hs with hh | ⟨e, he, hh⟩
  ·exact Iy hh
  ·exact Iz ⟨e, KW _ he, hh⟩
 ·rw [J6, List.nodup_append]
  refine ⟨r.nodup, GV, λ a ha c hc => ?_⟩;simp at hc;obtain ⟨e, he, rfl⟩ := Jl.1 ha;rcases r.keys e he with ⟨_, hh⟩ | hh
  ·cases hh
  ·rw [hc]; exact hh.1
theorem gu.old (r : gu h F f many n b secs k acc pb) (hn : (secs.map (·.1)).Nodup) {m : Int} (hs : secs[k]? = some (m, l)) (hm : m ≠ n) {u : Value} (hu : BytesAt h F u (f m)) (h0 : 0 <= m) (h1 : m < many) : gu h F f many n b secs (k + 1) (acc ++ [(m, u)]) pb := by
 refine ⟨λ e he => ?_, λ e he => ?_, λ hp => ?_, λ j m' l' hj hs' => ?_, ?_, by have := r.len; simp at this ⊢; omega⟩
 ·rcases JY.1 he with he | he
  ·exact r.qb e he
  ·rw [J8] at he; subst he; exact ⟨by rw [rY _ _ _ _ hm]; exact hu, h0, h1⟩
 ·rcases JY.1 he with he | he
  ·exact QH
  ·rw [J8] at he; subst he; exact Iz ⟨hm, k, l, GR, hs⟩
 ·obtain ⟨e, he, hh⟩ := r.z0n hp
  exact ⟨e, KW _ he, hh⟩
 ·by_cases hjk : j = k
  ·subst hjk
   rw [hs] at hs';cases hs';exact Iz ⟨(m, u), GV, rfl⟩
  ·rcases r.Ch j m' l' GR hs' with hh | ⟨e, he, hh⟩
   ·exact Iy hh
   ·exact Iz ⟨e, KW _ he, hh⟩
 ·rw [J6, List.nodup_append]
  refine ⟨r.nodup, GV, λ a ha c hc => ?_⟩;simp at hc;obtain ⟨e, he, rfl⟩ := Jl.1 ha;subst hc;rcases r.keys e he with ⟨hh, _⟩ | ⟨_, j, l', hj, hl⟩
  ·rw [hh]; exact λ e => hm e.symm
  ·intro heq
   have e1 : (secs.map (·.1))[j]? = some e.1 := by simp [hl]
   have e2 : (secs.map (·.1))[k]? = some c := by simp [hs]
   rw [<-heq] at e2;have l1 := (IY.1 e1);have l2 := (IY.1 e2);have := (List.getElem_inj hn).1 (l1.2.trans l2.2.symm);omega
theorem gu.same (r : gu h F f many n b secs k acc pb) (hs : secs[k]? = some (n, l)) : gu h F f many n b secs (k + 1) acc pb := by
 refine ⟨r.qb, λ e he => ?_, r.z0n, λ j m' l' hj hs' => ?_, r.nodup, Hf r.len⟩
 ·exact QH
 ·by_cases hjk : j = k
  ·subst hjk
   rw [hs] at hs';cases hs';exact Iy rfl
  ·exact r.Ch j m' l' GR hs'
theorem gu.done (r : gu h F f many n b secs secs.length acc true) (x3b : qi secs f many) {base : Nat} (own : w'.ownsRow base jN 2 v acc.length (iO acc)) (hs : ∀ k, F k -> k < h.size -> w'.heap[k]? = h[k]?) (hF : ∀ k, F k -> k < h.size -> F' k) (hB : ∀ k, base <= k -> k < w'.heap.size -> F' k) :
 ∃ mR, nJ w'.heap F' v mR /\ qi mR (upd f n b) many := by
 refine ⟨acc.map (λ e => (e.1, upd f n b e.1)), ?_, ?_⟩
 ·obtain ⟨_, own⟩ := own
  rcases own with ⟨rfl, h0⟩ | ⟨g, cap, cur, rfl, hg, hh, h1, h2, h3, h4⟩
  ·refine Iy ⟨rfl, ?_⟩
   have : acc = [] := JU h0;rw [this]; rfl
  ·refine Iz ⟨g, 0, cap, cur, jN, (0, 0), GV, by simpa using h1, by unfold maxLen at h2; omega, hB g hg (aa hh), hh, λ i m l hi => ?_⟩
   obtain ⟨e, he, hel⟩ : ∃ e, acc[i]? = some e /\ (e.1, upd f n b e.1) = (m, l) := by simpa using hi
   simp only [Prod.mk.injEq] at hel;obtain ⟨rfl, rfl⟩ := hel;have hlt : i < acc.length := (IY.1 he).1;obtain ⟨q1, q2⟩ := x5k acc i e he;rw [<-h4, JI, IA GR] at q1 q2;refine ⟨e.2, by simpa using q1, by simpa using q2, (r.qb e (Jb he)).1.keeps hs hF⟩
 ·refine ⟨λ e he => ?_, λ m hm => ?_, ?_⟩
  ·obtain ⟨e', he', rfl⟩ := Jl.1 he
   exact ⟨rfl, (r.qb e' he').2⟩
  ·obtain ⟨e, he, hen⟩ := r.z0n rfl
   have wh : m ≠ n := λ e' => hm (e.1, upd f n b e.1) (Jl.2 ⟨e, he, rfl⟩) (by rw [e', <-hen]);rw [rY _ _ _ _ wh];refine x3b.no m (λ e' he' hem => ?_);obtain ⟨j, hj⟩ := KS.1 he';have hlt : j < secs.length := (IY.1 hj).1;rcases r.Ch j e'.1 e'.2 hlt hj with hh | ⟨e2, he2, hh⟩
   ·exact wh (by rw [<-hem, hh])
   ·exact hm (e2.1, upd f n b e2.1) (Jl.2 ⟨e2, he2, rfl⟩) (by rw [hh, hem])
  ·rw [List.map_map]
   exact r.nodup
end
theorem v_ : (prog.info? jN).map (λ i => (i.zero, i.size, i.bytes)) = some (some (.agg #[.int .i64 0, .slice none 0 0]), 2, 32) := GQ
def w1w (w W0 : World) (F : Nat -> Prop) (f : Int -> List UInt8) (many n : Int) (b : List UInt8) (secs : List (Int × List UInt8)) (k : Nat) (v : Value) (pb : Bool) (wr : World) : Prop :=
 ∃ acc, gu w.heap F f many n b secs k acc pb /\ wr.ownsRow W0.heap.size jN 2 v acc.length (iO acc) /\ Below W0.heap.size W0 wr
def y3z (w : World) (t0 t1 t2 t3 : Value) (F : Nat -> Prop) (f : Int -> List UInt8) (many : Int) (e : Ending) (w' : World) : Prop :=
 ∃ v' mR, e = .returned (.agg #[v', t0, t1, t2, t3]) /\ Below w.heap.size w w' /\ nJ w'.heap (plus F w w') v' mR /\ qi mR f many
theorem nJ.slice {h : Array Obj} {l : List (Int × List UInt8)} (x : nJ h F v l) : ∃ a c, v = .slice a l.length c /\ l.length <= c /\ c <= 9223372036854775807 := by
 exact Qo
theorem vo (w : World) (n : Int) (u : Value) (hu : u.oneCell' = true) : oH (w.alloc (.cells #[.int .i64 n, u] jN)) 2 (.slice (some w.heap.size) 1 1) 1 [.int .i64 n, u] := by
 refine Iz ⟨⟨w.heap.size, 0, none⟩, 1, rfl, rfl, λ j v hj => ?_, λ v hv => ?_⟩
 ·rw [addr_add, IJ _ _ _ _ _ _ (IC w _), I8]
  simpa using hj
 ·simp at hv
  rcases hv with rfl | rfl
  ·rfl
  ·exact hu
theorem z7i {X Y : World} {base : Nat} {e : TypeId} {size : Nat} {xs : List Value} (h : X.ownsRow base e size v n xs) (hk : ∀ k, base <= k -> k < X.heap.size -> Y.heap[k]? = X.heap[k]?) : Y.ownsRow base e size v n xs := by
 obtain ⟨h0, h⟩ := h;refine ⟨h0, ?_⟩;rcases h with h | ⟨g, cap, cur, h1, h2, h3, h4, h5, h6, h7⟩
 ·exact Iy h
 ·exact Iz ⟨g, cap, cur, h1, h2, (hk g h2 (aa h3)).trans h3, h4, h5, h6, h7⟩
theorem y0e {X W5 : World} {f : Int -> List UInt8} {many n : Int} {secs : List (Int × List UInt8)} {acc : List (Int × Value)} {t0 t1 t2 t3 : Value} (rel : gu w.heap F f many n l secs secs.length acc true) (hok : qi secs f many) (hb0 : Below w w W0) (z0 : W0.heap.size = w.heap.size + 3)
 (own : X.ownsRow W0.heap.size jN 2 v acc.length (iO acc)) (hX : Below W0 W0 X) (hM : Moves (λ k => k = w.heap.size + 1 + 1) (X.setCell w.heap.size v) W5) : y3z w t0 t1 t2 t3 F (upd f n l) many (.returned (.agg #[v, t0, t1, t2, t3])) W5 := by
 have hzX := hX.size;have hb1 : Below w w (X.setCell w.heap.size v) := (hb0.trans (hX.mono GR)).setCell GZ _;have hb5 : Below w w W5 := Moves.new hb1 hM GR;have hz5 := hM.size;have xR : (X.setCell w.heap.size v).heap.size = X.heap.size := GV;have pF : W5.ownsRow W0.heap.size jN 2 v acc.length (iO acc) := z7i own (λ k hk hl => by
  rw [hM.block k (by rw [xR]; exact hl) GR, IU _ _ _ _ (by show k ≠ w.heap.size; omega)])
 obtain ⟨mR, g1, g2⟩ := rel.done hok (w' := W5) (F' := plus F w W5) pF (λ k _ hl => hb5.block k hl) (λ k h _ => Iy h) (λ k h1 h2 => Iz ⟨GR, h2⟩);exact ⟨v, mR, rfl, hb5, g1, g2⟩
theorem x0y (sv t0 t1 t2 t3 u : Value) (n many : Int) (l : List UInt8) (F : Nat -> Prop) (f : Int -> List UInt8) (secs : List (Int × List UInt8)) (w : World) (hs : nJ w.heap F sv secs) (hok : qi secs f many) (hm : many <= 4096) (hu : BytesAt w.heap F u l) (hn0 : 0 <= n) (hn1 : n < many)
 (ho : (#[sv, t0, t1, t2, t3] : Array Value).all (·.oneCell') = true) :
 Calls prog 85 #[.agg #[sv, t0, t1, t2, t3], .agg #[.int .i64 1, .int .i64 n, .int .i64 0, u]] w (y3z w t0 t1 t2 t3 F (upd f n l) many) := by
 have hlen := hok.len hm;obtain ⟨sa, sc, rfl, hsc, hsc2⟩ := hs.slice;have hb0 := zn w #[.slice sa secs.length sc, t0, t1, t2, t3] #[.int .i64 1, .int .i64 n, .int .i64 0, u];obtain ⟨r0, r1, r2, z0⟩ := zl w #[.slice sa secs.length sc, t0, t1, t2, t3] #[.int .i64 1, .int .i64 n, .int .i64 0, u];obtain ⟨W0, hW0⟩ := G5 (kZ w #[.slice sa secs.length sc, t0, t1, t2, t3] #[.int .i64 1, .int .i64 n, .int .i64 0, u]);rw [hW0] at hb0 r0 r1 r2 z0;have k0 : W0.cell? (w.heap.size + 1, 0) = some (.int .i64 1) := ae r1 rfl;have HD := hd9 hs hok hu hb0 r0 r1 r2 z0 ho;clear hs hok hu hb0 r0 r1 r2 z0 ho;go_in;go_upto_region 1 with fail
 clear hW0;go_wp2;go_loopg [5, 6, 7] secs.length (λ g v p i wr => ∃ (k : Nat) (pb : Bool), i = .int .i64 (k : Int) /\ p = .bool pb /\ g + k = secs.length /\ w1w w W0 F f many n l secs k v pb wr)
 case atStart => exact ⟨0, false, rfl, rfl, rfl, [], gu.start, ⟨rfl, Iy ⟨rfl, rfl⟩⟩, Below.refl _ _⟩
 case round =>
  obtain ⟨k, pb, rfl, rfl, hg, acc, rel, own, hbl⟩ := hrel;obtain ⟨va, vc, rfl⟩ : ∃ va vc, u5 = .slice va acc.length vc := by
   rcases own.2 with ⟨h1, h2⟩ | ⟨g, cap, cur, h1, _⟩
   ·exact ⟨_, _, by rw [h1, h2]⟩
   ·exact ⟨_, _, h1⟩
  by_cases hlt : k < secs.length
  ·obtain ⟨e, he⟩ : ∃ e, secs[k]? = some e := ⟨_, IR hlt⟩
   obtain ⟨m, ml⟩ := e;obtain ⟨b, o, uk, rfl, fx, e3⟩ : ∃ b o uk, sa = some ⟨b, o, none⟩ /\ (∀ X, Below W0 W0 X -> X.cell? w.heap.size = some (.slice (some ⟨b, o, none⟩) secs.length sc) /\ X.cell? (w.heap.size + 1, 1) = some (.int .i64 n) /\ X.cell? (w.heap.size + 1, 3) = some u /\ X.cell? ⟨b, o + k * 2, none⟩ = some (.int .i64 m) /\ X.cell? ⟨b, o + k * 2 + 1, none⟩ = some uk) /\ BytesAt w.heap F uk ml := by
    rcases HD.1 with ⟨h1, h2⟩ | ⟨b, o, cap, c', tt, fr, h1, h2, h3, g2, g3, g4⟩
    ·rw [h2] at hlt; simp at hlt
    ·obtain ⟨uk, q1, q2, q3⟩ := g4 k m ml he
     obtain rfl : sa = some ⟨b, o, none⟩ := (Jw h1).1;refine ⟨b, o, uk, rfl, λ X hX => ?_, q3⟩;have g3' : X.heap[b]? = some (.cells c' tt fr) := (hX.block _ (Hg (aa g3) HD.2.2.2.1.size)).trans ((HD.2.2.2.1.block _ (aa g3)).trans g3);have g0 := (hX.block _ (aa HD.2.2.2.2.1)).trans HD.2.2.2.2.1;have g1 := (hX.block _ (aa HD.2.2.2.2.2.1)).trans HD.2.2.2.2.2.1;exact ⟨ae g0 rfl, ae g1 rfl, ae g1 rfl, ae g3' q1, ae g3' q2⟩
   have hmk := HD.2.1.qb (m, ml) (Jb he);have hal : acc.length <= 8192 := by have := rel.len; split at this <;> omega
   obtain ⟨ua, uc, eu⟩ := HD.2.2.1.slice;obtain ⟨ka, kc, ek⟩ := e3.slice;generalize l.length = ul at eu;generalize ml.length = kl at ek;subst eu;subst ek;have H := hd8 rel own hbl he hg e3 hmk hal;have FX := hd1 fx;clear rel own he hg e3 hmk hal fx;have hk0 : (0 : Int) <= (k : Int) := GR;have hk1 : (k : Int) < (secs.length : Int) := GR;have Bz := hd1 HD.2.1.nodup;cases pb
   ·by_cases wh : n <= m
    ·have b1 : decide (n <= m) = true := by simp; omega
     obtain ⟨x0, x1, x2, x3, x4⟩ := FX.out wr hbl;have HB2 := hd1 hbl;clear hbl;go_upto_region 9 with fail
     go_quiet (fail)
     go_upto_region 12 with (refine lS rfl (.tmp 51) (.tmp 57) 57 rfl W0.heap.size W0.heap.size W0 ((below_drewN HB2.out nq).alloc Na _) GZ jN (.agg #[.int .i64 0, .slice none 0 0]) 2 32 Ik v_ rfl GU _ acc.length (iO acc) rfl (bi (bi H.2.1 (below_drewN (Below.refl _ wr) nq) GZ) (bla) GZ) _ 1 [.int .i64 n, Value.slice ua ul uc] rfl (vo _ n (Value.slice ua ul uc) rfl) (by have := H.2.2.2.2.2.2.2; unfold maxLen; omega) (Hf H.2.2.2.2.2.2.2) MV ?_
                             intro v1 X2 lJ hb1 _;obtain ⟨g1, c1, rfl⟩ := kT lJ.out GR;clear HB2;have HB2 := hd1 hb1;clear hb1)
     have jv : Hid (X2.ownsRow W0.heap.size jN 2 (.slice (some g1) (acc.length + 1) c1) (acc ++ [(n, Value.slice ua ul uc)]).length (iO (acc ++ [(n, Value.slice ua ul uc)]))) := by
      exact RU
     clear lJ x0 x1 x2 x3 x4;obtain ⟨y0, y1, y2, y3, y4⟩ := FX.out X2 HB2.out;by_cases heq : m = n
     ·have HEQ := hd1 heq
      have b2 : (m == n) = true := by simpa using heq
      have b3 : (m != n) = false := by simpa using heq
      clear heq;go_quiet (fail)
      go_wp2_with fail
      go_roundg (secs.length - (k + 1))
      case measure => have := H.2.2.2.2.1; omega
      case rel => exact ⟨k + 1, true, by go_num, rfl, Hf H.2.2.2.2.1, (acc ++ [(n, Value.slice ua ul uc)]), gu.same (gu.new H.1 HD.2.2.1 hn0 hn1) MH, bi jv.out (below_drewN (Below.refl _ X2) nq) GZ, below_drewN HB2.out nq⟩
     ·have hne : m ≠ n := heq
      clear heq;have uI := hd1 hne;have b2 : (m == n) = false := by simpa using hne
      have b3 : (m != n) = true := by simpa using hne
      clear hne;go_quiet (fail)
      go_wp2_with (refine lS rfl (.tmp 68) (.tmp 74) 57 rfl W0.heap.size W0.heap.size W0 ((below_drewN HB2.out nq).alloc Na _) GZ jN (.agg #[.int .i64 0, .slice none 0 0]) 2 32 Ik v_ rfl GU _ (acc ++ [(n, Value.slice ua ul uc)]).length (iO (acc ++ [(n, Value.slice ua ul uc)])) rfl (bi (bi jv.out (below_drewN (Below.refl _ X2) nq) GZ) (bla) GZ) _ 1 [.int .i64 m, Value.slice ka kl kc] rfl (vo _ m (Value.slice ka kl kc) rfl) (by have := H.2.2.2.2.2.2.2; unfold maxLen; simp only [IL, K9]; omega) (by have := H.2.2.2.2.2.2.2; simp only [IL, K9]; omega) MV ?_
                   intro v3 W3 iF hb3 _;obtain ⟨g3, c3, rfl⟩ := kT iF.out GR;have HB3 := hd1 hb3;clear hb3)
      go_roundg (secs.length - (k + 1))
      case measure => have := H.2.2.2.2.1; omega
      case rel => exact ⟨k + 1, true, by go_num, rfl, Hf H.2.2.2.2.1, (acc ++ [(n, Value.slice ua ul uc)]) ++ [(m, Value.slice ka kl kc)], gu.old (gu.new H.1 HD.2.2.1 hn0 hn1) Bz.out H.2.2.2.1 uI.out Mt H.2.2.2.2.2.2.1.2.1 H.2.2.2.2.2.2.1.2.2, by rw [wC]; simpa using iF.out, HB3.out⟩
    ·have b1 : decide (n <= m) = false := by simp; omega
     obtain ⟨x0, x1, x2, x3, x4⟩ := FX.out wr hbl;have HB1 := hd1 hbl;clear hbl;go_upto_region 9 with fail
     go_quiet (fail)
     go_upto_region 12 with fail
     have HB2 := hd1 (below_drewN HB1.out nq);have jv := hd1 (bi H.2.1 (below_drewN (Below.refl _ wr) nq) GZ);clear x0 x1 x2 x3 x4;generalize wr.drewN nq = X2 at *;obtain ⟨y0, y1, y2, y3, y4⟩ := FX.out X2 HB2.out;have hne : m ≠ n := GR;have uI := hd1 hne;have b2 : (m == n) = false := by simpa using hne
     have b3 : (m != n) = true := by simpa using hne
     clear hne;go_quiet (fail)
     go_wp2_with (refine lS rfl (.tmp 68) (.tmp 74) 57 rfl W0.heap.size W0.heap.size W0 ((below_drewN HB2.out nq).alloc Na _) GZ jN (.agg #[.int .i64 0, .slice none 0 0]) 2 32 Ik v_ rfl GU _ acc.length (iO acc) rfl (bi (bi jv.out (below_drewN (Below.refl _ X2) nq) GZ) (bla) GZ) _ 1 [.int .i64 m, Value.slice ka kl kc] rfl (vo _ m (Value.slice ka kl kc) rfl) MI MW MV ?_
                  intro v3 W3 iF hb3 _;obtain ⟨g3, c3, rfl⟩ := kT iF.out GR;have HB3 := hd1 hb3;clear hb3)
     go_roundg (secs.length - (k + 1))
     case measure => have := H.2.2.2.2.1; omega
     case rel => exact ⟨k + 1, false, by go_num, rfl, Hf H.2.2.2.2.1, acc ++ [(m, Value.slice ka kl kc)], gu.old H.1 Bz.out H.2.2.2.1 uI.out Mt H.2.2.2.2.2.2.1.2.1 H.2.2.2.2.2.2.1.2.2, by rw [wC]; simpa using iF.out, HB3.out⟩
   ·by_cases wh : n <= m
    ·have b1 : decide (n <= m) = true := by simp; omega
     obtain ⟨x0, x1, x2, x3, x4⟩ := FX.out wr hbl;have HB1 := hd1 hbl;clear hbl;go_upto_region 9 with fail
     go_quiet (fail)
     go_upto_region 12 with fail
     have HB2 := hd1 (below_drewN HB1.out nq);have jv := hd1 (bi H.2.1 (below_drewN (Below.refl _ wr) nq) GZ);clear x0 x1 x2 x3 x4;generalize wr.drewN nq = X2 at *;obtain ⟨y0, y1, y2, y3, y4⟩ := FX.out X2 HB2.out;by_cases heq : m = n
     ·have HEQ := hd1 heq
      have b2 : (m == n) = true := by simpa using heq
      have b3 : (m != n) = false := by simpa using heq
      clear heq;go_quiet (fail)
      go_wp2_with fail
      go_roundg (secs.length - (k + 1))
      case measure => have := H.2.2.2.2.1; omega
      case rel => exact ⟨k + 1, true, by go_num, rfl, Hf H.2.2.2.2.1, acc, gu.same H.1 MH, bi jv.out (below_drewN (Below.refl _ X2) nq) GZ, below_drewN HB2.out nq⟩
     ·have hne : m ≠ n := heq
      clear heq;exact OB
    ·have b1 : decide (n <= m) = false := by simp; omega
     obtain ⟨x0, x1, x2, x3, x4⟩ := FX.out wr hbl;have HB1 := hd1 hbl;clear hbl;go_upto_region 9 with fail
     go_quiet (fail)
     go_upto_region 12 with fail
     have HB2 := hd1 (below_drewN HB1.out nq);have jv := hd1 (bi H.2.1 (below_drewN (Below.refl _ wr) nq) GZ);clear x0 x1 x2 x3 x4;generalize wr.drewN nq = X2 at *;obtain ⟨y0, y1, y2, y3, y4⟩ := FX.out X2 HB2.out;have hne : m ≠ n := GR;exact OB
  ·obtain rfl : k = secs.length := GR
   have OKS := hd1 HD.2.1;have hal : acc.length <= 8192 := by have := rel.len; split at this <;> omega
   obtain ⟨ua, uc, eu⟩ := HD.2.2.1.slice;generalize l.length = ul at eu;subst eu;have g0 := (hbl.block _ (aa HD.2.2.2.2.1)).trans HD.2.2.2.2.1;have g1 := (hbl.block _ (aa HD.2.2.2.2.2.1)).trans HD.2.2.2.2.2.1;have x0 : wr.cell? w.heap.size = some (.slice sa secs.length sc) := ae g0 rfl;have x1 : wr.cell? (w.heap.size + 1, 1) = some (.int .i64 n) := ae g1 rfl;have x2 : wr.cell? (w.heap.size + 1, 3) = some (Value.slice ua ul uc) := ae g1 rfl;have f0 : wr.frozen? ⟨w.heap.size, 0, none⟩ = false := aZ g0 _;have H := hd4 rel own hbl hal;have hrow : ∀ X, Below W0 W0 X -> ∀ v, (X.setCell w.heap.size v).heap[w.heap.size]? = some (.cells #[v, t0, t1, t2, t3] aO) /\ (X.setCell w.heap.size v).heap[w.heap.size + 1 + 1]? = some (.cells eT aO) /\ X.frozen? ⟨w.heap.size, 0, none⟩ = false /\ X.cell? w.heap.size = some (.slice sa secs.length sc) := λ X hX v => by
    have q0 := (hX.block _ (aa HD.2.2.2.2.1)).trans HD.2.2.2.2.1;have q2 := (hX.block _ (aa HD.2.2.2.2.2.2.1)).trans HD.2.2.2.2.2.2.1;exact ⟨(IQ X w.heap.size 0 _ aO v q0).trans rfl, (IU X ⟨w.heap.size, 0, none⟩ (w.heap.size + 1 + 1) v MP).trans q2, aZ q0 _, ae q0 rfl⟩
   have HR := hd1 hrow;clear rel own hbl hal g0 g1 hrow;have ones : ∀ a m c, (#[Value.slice a m c, t0, t1, t2, t3] : Array Value).all (·.oneCell') = true := λ a m c => by have := HD.2.2.2.2.2.2.2.2; simp at this ⊢; exact ⟨rfl, this.2⟩
   have ON := hd1 ones;clear ones;cases pb
   ·go_upto_region 16 with (refine lS rfl (.tmp 78) (.tmp 84) 57 rfl W0.heap.size W0.heap.size W0 (H.2.2.1.alloc (by have := H.2.2.1.size; exact this) _) GZ jN (.agg #[.int .i64 0, .slice none 0 0]) 2 32 Ik v_ rfl GU _ acc.length (iO acc) rfl (bi H.2.1 (bla) GZ) _ 1 [.int .i64 n, Value.slice ua ul uc] rfl (vo _ n (Value.slice ua ul uc) rfl) (by have := H.2.2.2; unfold maxLen; omega) (Hf H.2.2.2) (by have := H.2.2.1.size; simp; exact KT this) ?_
                            intro v1 X2 lJ hb1 _;obtain ⟨g1, c1, rfl⟩ := kT lJ.out GR;have HB2 := hd1 hb1;clear hb1)
    have jv : Hid (X2.ownsRow W0.heap.size jN 2 (.slice (some g1) (acc.length + 1) c1) (acc ++ [(n, Value.slice ua ul uc)]).length (iO (acc ++ [(n, Value.slice ua ul uc)]))) := by
     exact RU
    clear lJ x0 x1 x2 f0;obtain ⟨_, _, y3, y4⟩ := HR.out X2 HB2.out (.slice (some ⟨g1, 0, none⟩) (acc.length + 1) c1)
    go_wp2_with (first
     | (refine G_ (HR.out X2 HB2.out _).1 Hz bX ?_)
     | (refine aC rfl aO _ _ rfl (w.heap.size + 1 + 1) #[.slice (some ⟨g1, 0, none⟩) (acc.length + 1) c1, t0, t1, t2, t3] rfl rfl aO eT (HR.out X2 HB2.out _).2.1 bX rfl (ON.out _ _ _) ?_
        intro W5 aF aB bf))
    refine Hd aF.out Hz bX ?_;exact y0e (gu.new H.1 HD.2.2.1 hn0 hn1) OKS.out HD.2.2.2.1 HD.2.2.2.2.2.2.2.1 jv.out HB2.out aB
   ·obtain ⟨_, _, y3, y4⟩ := HR.out wr H.2.2.1 (.slice va acc.length vc)
    go_wp2_with (first
     | (refine G_ (HR.out wr H.2.2.1 _).1 Hz bX ?_)
     | (refine aC rfl aO _ _ rfl (w.heap.size + 1 + 1) #[.slice va acc.length vc, t0, t1, t2, t3] rfl rfl aO eT (HR.out wr H.2.2.1 _).2.1 bX rfl (ON.out _ _ _) ?_
        intro W5 aF aB bf))
    refine Hd aF.out Hz bX ?_;exact y0e H.1 OKS.out HD.2.2.2.1 HD.2.2.2.2.2.2.2.1 H.2.1 H.2.2.1 aB
def cutV (ti : Value) (m : Nat) : Value := match ti with
 | .slice a n c => .slice a (min n m) c
 | v => v
theorem x6f {h : Array Obj} (x : BytesAt h F v l) (m : Nat) : BytesAt h F (cutV v m) (l.take m) := by
 rcases x with ⟨rfl, rfl⟩ | ⟨b, o, cap, c, t, fr, rfl, h2, h3, g2, g3, g4⟩
 ·exact Iy ⟨by simp [cutV], GV⟩
 ·refine Iz ⟨b, o, cap, c, t, fr, ?_, ?_, h3, g2, g3, λ i y hi => g4 i y ?_⟩
  ·simp only [cutV, I4, Nat.min_comm]
  ·simp only [I4]; omega
  ·exact Qr
theorem x6r (sv t0 t1 t2 t3 u : Value) (b o n cap t m : Nat) (w : World) (ht : t < 4) (hnc : n <= cap) (hcap : cap <= 9223372036854775807) (hm : m <= 1048576) (hti : #[sv, t0, t1, t2, t3][1 + t]? = some (.slice (some (b, o)) n cap)) (ho : (#[sv, t0, t1, t2, t3] : Array Value).all (·.oneCell') = true) :
 Calls prog 85 #[.agg #[sv, t0, t1, t2, t3], .agg #[.int .i64 3, .int .i64 t, .int .i64 m, u]] w λ e w' => e = .returned (.agg (#[sv, t0, t1, t2, t3].setIfInBounds (1 + t) (.slice (some (b, o)) (min n m) cap))) /\ Below w w w' := by
 have hb0 := zn w #[sv, t0, t1, t2, t3] #[.int .i64 3, .int .i64 t, .int .i64 m, u];have rows := zl w #[sv, t0, t1, t2, t3] #[.int .i64 3, .int .i64 t, .int .i64 m, u];generalize hC : (#[sv, t0, t1, t2, t3] : Array Value) = C at *;have bN : C.size = 5 := by rw [<-hC]; rfl
 obtain ⟨W0, hW0⟩ := G5 (kZ w C #[.int .i64 3, .int .i64 t, .int .i64 m, u]);rw [hW0] at hb0 rows;obtain ⟨r0, r1, r2, z0⟩ := rows;have HD := hd6 hb0 r0 r2 z0 ho bN;have k0 : W0.cell? (w.heap.size + 1, 0) = some (.int .i64 3) := ae r1 rfl;have k1 : W0.cell? (w.heap.size + 1, 1) = some (.int .i64 t) := ae r1 rfl;have k2 : W0.cell? (w.heap.size + 1, 2) = some (.int .i64 m) := ae r1 rfl;have k3 : W0.cell? (w.heap.size, 1 + t) = some (.slice (some (b, o)) n cap) := ae r0 hti;have f3 : W0.frozen? ⟨w.heap.size, 1 + t, none⟩ = false := aZ r0 _;have hz : (0 : Int) <= (t : Int) := GR;have qW : (t : Int) < 4 := GR;have sc : (C.setIfInBounds (1 + t) (.slice (some (b, o)) (min n m) cap)).size = 5 := by rw [Lp]; exact bN
 have so : (C.setIfInBounds (1 + t) (.slice (some (b, o)) (min n m) cap)).all (·.oneCell') = true := by
  exact Qz
 have s0 := IQ W0 w.heap.size (1 + t) C aO (.slice (some ⟨b, o, none⟩) (min n m) cap) r0;have s2 := (IU W0 ⟨w.heap.size, 1 + t, none⟩ (w.heap.size + 1 + 1) (.slice (some ⟨b, o, none⟩) (min n m) cap) MP).trans r2;have mv : Below w w (W0.setCell (w.heap.size, 1 + t) (.slice (some (b, o)) (min n m) cap)) := hb0.setCell GZ _;generalize hC' : C.setIfInBounds (1 + t) (.slice (some ⟨b, o, none⟩) (min n m) cap) = C' at *;have SC := hd5 sc so s0 s2 mv;have HC' := hd1 hC';clear sc so s0 s2 mv hC' hb0 r0 r1 r2 z0 ho bN hC hti;by_cases wh : ¬ m < n
 ·have e1 : min n m = n := GR
  rw [e1] at SC;have HN := hd1 e1;clear e1;have c3 : n <= cap := hnc;have c4 : (n : Int) <= (cap : Int) := GR;go_in;go_upto_region 1 with fail
  clear hW0;go_wp2;refine qB 19 GQ GQ ?_;simp only [Jt, JN, JO, JP];repeat still_step
  refine Kg ?_;refine IE rfl λ K hK => ?_;go_simp;refine hK _ _ ?_;clear hK K;simp only [wpList];clear k0 k1 k2 k3 f3;generalize (W0.setCell (w.heap.size, 1 + t) (.slice (some ⟨b, o, none⟩) n cap)) = W4 at *;exact OV
 ·have wh : m < n := GR
  have e1 : min n m = m := GR;rw [e1] at SC;have HN := hd1 e1;clear e1;have c3 : m <= cap := GR;have c4 : (m : Int) <= (cap : Int) := GR;go_in;go_upto_region 1 with fail
  clear hW0;go_wp2;refine qB 19 GQ GQ ?_;simp only [Jt, JN, JO, JP];repeat still_step
  refine Kg ?_;refine IE rfl λ K hK => ?_;go_simp;refine hK _ _ ?_;clear hK K;simp only [wpList];clear k0 k1 k2 k3 f3;generalize (W0.setCell (w.heap.size, 1 + t) (.slice (some ⟨b, o, none⟩) m cap)) = W4 at *;exact OV
theorem x6q (sv t0 t1 t2 t3 u : Value) (t m : Nat) (w : World) (ht : t < 4) (hm : m <= 1048576) (hti : #[sv, t0, t1, t2, t3][1 + t]? = some (.slice none 0 0)) (ho : (#[sv, t0, t1, t2, t3] : Array Value).all (·.oneCell') = true) :
 Calls prog 85 #[.agg #[sv, t0, t1, t2, t3], .agg #[.int .i64 3, .int .i64 t, .int .i64 m, u]] w λ e w' => e = .returned (.agg (#[sv, t0, t1, t2, t3].setIfInBounds (1 + t) (.slice none 0 0))) /\ Below w w w' := by
 have hb0 := zn w #[sv, t0, t1, t2, t3] #[.int .i64 3, .int .i64 t, .int .i64 m, u];have rows := zl w #[sv, t0, t1, t2, t3] #[.int .i64 3, .int .i64 t, .int .i64 m, u];generalize hC : (#[sv, t0, t1, t2, t3] : Array Value) = C at *;have bN : C.size = 5 := by rw [<-hC]; rfl
 obtain ⟨W0, hW0⟩ := G5 (kZ w C #[.int .i64 3, .int .i64 t, .int .i64 m, u]);rw [hW0] at hb0 rows;obtain ⟨r0, r1, r2, z0⟩ := rows;have HD := hd6 hb0 r0 r2 z0 ho bN;have k0 : W0.cell? (w.heap.size + 1, 0) = some (.int .i64 3) := ae r1 rfl;have k1 : W0.cell? (w.heap.size + 1, 1) = some (.int .i64 t) := ae r1 rfl;have k2 : W0.cell? (w.heap.size + 1, 2) = some (.int .i64 m) := ae r1 rfl;have k3 : W0.cell? (w.heap.size, 1 + t) = some (.slice none 0 0) := ae r0 hti;have f3 : W0.frozen? ⟨w.heap.size, 1 + t, none⟩ = false := aZ r0 _;have hz : (0 : Int) <= (t : Int) := GR;have qW : (t : Int) < 4 := GR;have sc : (C.setIfInBounds (1 + t) (.slice none 0 0)).size = 5 := by rw [Lp]; exact bN
 have so : (C.setIfInBounds (1 + t) (.slice none 0 0)).all (·.oneCell') = true := by
  exact Qz
 have s0 := IQ W0 w.heap.size (1 + t) C aO (.slice none 0 0) r0;have s2 := (IU W0 ⟨w.heap.size, 1 + t, none⟩ (w.heap.size + 1 + 1) (.slice none 0 0) MP).trans r2;have mv : Below w w (W0.setCell (w.heap.size, 1 + t) (.slice none 0 0)) := hb0.setCell GZ _;generalize hC' : C.setIfInBounds (1 + t) (.slice none 0 0) = C' at *;have SC := hd5 sc so s0 s2 mv;have HC' := hd1 hC';clear sc so s0 s2 mv hC' hb0 r0 r1 r2 z0 ho bN hC hti;have hif : (if (m : Int) < 0 then (m : Int) else 0) = 0 := by rw [Iw GR]
 go_in;go_upto_region 1 with fail
 clear hW0;go_wp2;refine qB 19 GQ GQ ?_;simp only [Jt, JN, JO, JP];repeat still_step
 refine Kg ?_;refine IE rfl λ K hK => ?_;go_simp;refine hK _ _ ?_;clear hK K;simp only [wpList];clear k0 k1 k2 k3 f3;generalize (W0.setCell (w.heap.size, 1 + t) (.slice none 0 0)) = W4 at *;exact OV
def qx (w : World) (F : Nat -> Prop) (x : St) (many : Int) (e : Ending) (w' : World) : Prop :=
 ∃ sv t0 t1 t2 t3, e = .returned (.agg #[sv, t0, t1, t2, t3]) /\ Below w.heap.size w w' /\ RB w'.heap (plus F w w') sv t0 t1 t2 t3 x many
theorem nJ.one {h : Array Obj} {l : List (Int × List UInt8)} (x : nJ h F v l) : v.oneCell' = true := by
 obtain ⟨a, c, rfl, _⟩ := x.slice;rfl
theorem RB.ones {h : Array Obj} {sv t0 t1 t2 t3 : Value} {x : St} {many : Int} (r : RB h F sv t0 t1 t2 t3 x many) : (#[sv, t0, t1, t2, t3] : Array Value).all (·.oneCell') = true := by
 obtain ⟨secs, s1, s2, b0, b1, b2, b3⟩ := r;simp [s1.one, b0.one, b1.one, b2.one, b3.one]
theorem yo {sv t0 t1 t2 t3 : Value} {x : St} {many : Int} (r : RB w.heap F sv t0 t1 t2 t3 x many) (hm : many <= 4096) {s : Step} (hs : s.ok many) {u : Value} (hu : BytesAt w.heap F u s.b) (hx : ∀ t, (x.tp t).length <= 1048576) :
 Calls prog 85 #[.agg #[sv, t0, t1, t2, t3], .agg #[.int .i64 s.what, .int .i64 s.n, .int .i64 s.many, u]] w (qx w F (x.done s) many) := by
 have ones := r.ones;rcases hs with ⟨h1, h2, h3, h4, h5⟩ | ⟨h1, h2, h3, h4, h5⟩ | ⟨h1, h2, h3, h4, h5, h6⟩
 ·obtain ⟨secs, s1, s2, b0, b1, b2, b3⟩ := r
  rw [h1, h4];refine (x0y sv t0 t1 t2 t3 u s.n many s.b F x.sec secs w s1 s2 hm hu h2 h3 ones).mono ?_;rintro e w' ⟨v', mR, rfl, hb, g1, g2⟩;refine ⟨v', t0, t1, t2, t3, rfl, hb, mR, g1, ?_, ?_, ?_, ?_, ?_⟩
  ·simpa [St.done, h1] using g2
  all_goals
   simp only [St.done, h1, I1];first | exact b0.plus hb | exact b1.plus hb | exact b2.plus hb | exact b3.plus hb
 ·obtain ⟨t, et, ht⟩ := kU h2 h3
  obtain ⟨ti, g1, g2⟩ := r.tape t GR;have lx := hx t;rw [h1, et];refine (x6p sv t0 t1 t2 t3 ti u t s.many (x.tp t) s.b F w GR g1 g2 hu GR ones).mono ?_;rintro e w' ⟨v', rfl, hb, bv⟩;obtain ⟨u0, u1, u2, u3, e1, e2⟩ := (r.plus hb).z4c t GR (v := v') (l := x.tp t ++ s.b) (bv.keeps (λ _ _ _ => rfl) (λ k hk hl => by
   rcases hk with hk | hk
   ·exact Iy hk
   ·exact Iz ⟨hk, hl⟩))
  refine ⟨sv, u0, u1, u2, u3, by rw [e1], hb, ?_⟩;simpa [St.done, h1, et] using e2
 ·obtain ⟨t, et, ht⟩ := kU h2 h3
  obtain ⟨m, em, hmm⟩ := kU h4 h5;obtain ⟨ti, g1, g2⟩ := r.tape t GR;rw [h1, et, em];have fin : ∀ (e : Ending) (w' : World), (e = .returned (.agg (#[sv, t0, t1, t2, t3].setIfInBounds (1 + t) (cutV ti m))) /\ Below w w w') -> qx w F (x.done s) many e w' := by
   rintro e w' ⟨rfl, hb⟩;obtain ⟨u0, u1, u2, u3, e1, e2⟩ := (r.plus hb).z4c t GR (v := cutV ti m) (l := (x.tp t).take m) ((x6f g2 m).plus hb);refine ⟨sv, u0, u1, u2, u3, by rw [e1], hb, ?_⟩;have q1 : ¬ (3 : Int) = 1 := GR;simpa [St.done, h1, et, em] using e2
  rcases g2 with ⟨rfl, hl⟩ | ⟨b, o, cap, c, tt, fr, rfl, r2, r3, r4, r5, r6⟩
  ·refine (x6q sv t0 t1 t2 t3 u t m w GR GR g1 ones).mono ?_
   rintro e w' ⟨rfl, hb⟩;exact fin _ _ ⟨by simp [cutV], hb⟩
  ·refine (x6r sv t0 t1 t2 t3 u b o _ cap t m w GR r2 r3 GR g1 ones).mono ?_
   rintro e w' ⟨rfl, hb⟩;exact fin _ _ ⟨rfl, hb⟩
theorem iE.at {a : Option Addr} {c : Nat} {l : List Step} (x : iE w.heap F (.slice a n c) l) {i : Nat} {s : Step} (hi : l[i]? = some s) :
 n = l.length /\ ∃ b o u, a = some ⟨b, o, none⟩ /\ b < w.heap.size /\ BytesAt w.heap F u s.b /\ w.rangeAt b (o + i * 4) [.int .i64 s.what, .int .i64 s.n, .int .i64 s.many, u] := by
 rcases x with ⟨_, rfl⟩ | ⟨b, o, cap, c', t, fr, h1, h2, h3, g2, g3, g4⟩
 ·cases hi
 ·obtain ⟨w0, w1, w2, u, e0, e1, e2, e3, ⟨rfl, rfl, rfl, e4⟩⟩ := g4 i s hi
  obtain ⟨h4, h5, h6⟩ := Jw h1;refine ⟨h5, b, o, u, h4, aa g3, e4, λ j v hj => ?_⟩;rw [IJ _ _ _ _ _ _ g3];match j, hj with
  | 0, hj => cases hj; exact e0
  | 1, hj => cases hj; exact e1
  | 2, hj => cases hj; exact e2
  | 3, hj => cases hj; exact e3
  | n + 4, hj => cases hj
theorem iE.slice {h : Array Obj} {l : List Step} (x : iE h F v l) : ∃ a c, v = .slice a l.length c /\ l.length <= c /\ c <= 9223372036854775807 := by
 exact Qo
theorem iE.one {h : Array Obj} {l : List Step} (x : iE h F v l) : v.oneCell' = true := by
 obtain ⟨a, c, rfl, _⟩ := x.slice;rfl
def StF (F : Nat -> Prop) (w : World) : Nat -> Prop := λ k => (F k /\ k < w.heap.size) \/ w.heap.size + 3 <= k
structure zG (w : World) (F : Nat -> Prop) (d : D) (C : Array Value) (k : Nat) (wr : World) : Prop where
 below : Below w.heap.size w wr
 r0 : wr.heap[w.heap.size]? = some (.cells C af (0, 0))
 r1 : wr.heap[w.heap.size + 1]? = some (.cells eT aO (0, 0))
 rb : ∃ sv t0 t1 t2 t3, wr.heap[w.heap.size + 1 + 1]? = some (.cells #[sv, t0, t1, t2, t3] aO (0, 0)) /\ RB wr.heap (StF F w) sv t0 t1 t2 t3 (d.upto k) d.many
theorem zG.step {d : D} {k : Nat} {s : Step} (h : zG w F d C k wr) (hs : d.waits[k]? = some s) {sv t0 t1 t2 t3 : Value} (hb : Below wr wr W1) (hr : RB W1.heap (plus (StF F w) wr W1) sv t0 t1 t2 t3 ((d.upto k).done s) d.many)
 (hm : Moves (λ i => i = w.heap.size + 1 + 1) W1 W2) (hw : W2.heap[w.heap.size + 1 + 1]? = some (.cells #[sv, t0, t1, t2, t3] aO)) : zG w F d C (k + 1) W2 := by
 have z := aa h.r1;obtain ⟨_, _, _, _, _, r2, _⟩ := h.rb;have z2 := aa r2;have hz := h.below.size;have hz1 := hb.size;refine ⟨Moves.new (h.below.trans (hb.mono hz)) hm GR, ?_, ?_, sv, t0, t1, t2, t3, hw, ?_⟩
 ·rw [hm.block _ GR GR, hb.block _ GR]; exact h.r0
 ·rw [hm.block _ GR GR, hb.block _ GR]; exact h.r1
 ·rw [xI hs]
  refine hr.keeps (λ i hi hl => hm.block i hl ?_) (λ i hi _ => ?_)
  ·intro e
   subst e;rcases hi with (hi | hi) | hi
   ·omega
   ·omega
   ·omega
  ·rcases hi with hi | hi
   ·exact hi
   ·exact Iz GR
theorem qV : (prog.info? bJ).map (·.size) = some 4 := GQ
theorem qI {d : D} (hr : bR w.heap F v d) (ok : d.ok) (hn : d.waits.length <= 1000000000000) : Calls prog 49 #[v] w (qx w F d.stand d.many) := by
 obtain ⟨sv, t0, t1, t2, t3, wv, rfl, rb, st⟩ := hr;obtain ⟨wa, wc, rfl, hwc, x3f⟩ := st.slice;have ones := rb.ones;generalize hC : dC d.many d.room sv t0 t1 t2 t3 (.slice wa d.waits.length wc) d.dead d.stops = C;have mid : ∀ X : World, X.heap[w.heap.size]? = some (.cells C af) -> X.rangeAt w.heap.size 2 [sv, t0, t1, t2, t3] /\ X.cell? (w.heap.size, 7) = some (.slice wa d.waits.length wc) := λ X hX => by
  rw [<-hC] at hX;refine ⟨λ j u hj => ?_, ae hX rfl⟩;exact PQ
 have HD := hd5 rb st ones mid ok;clear rb st ones mid ok hC;have hb0 : Below w w ((w.alloc (.cells C af)).alloc (.cells eT aO)) := (bla).alloc GV _;have q0 : ((w.alloc (.cells C af)).alloc (.cells eT aO)).heap[w.heap.size]? = some (.cells C af) := aM GV (IC w _);have q1 : ((w.alloc (.cells C af)).alloc (.cells eT aO)).heap[w.heap.size + 1]? = some (.cells eT aO) := bD (w := w.alloc _) _ GV;have Q := hd3 hb0 q0 q1;clear hb0 q0 q1;go_in
 go_upto_region 2 with (first
  | (refine JA rfl aO (.tmp 5) rfl w.heap.size 2 rfl [sv, t0, t1, t2, t3] _ (HD.2.2.2.1 _ Q.2.1).1 Hz rfl bX ?_)
  | (refine aC rfl aO _ _ rfl (w.heap.size + 1 + 1) #[sv, t0, t1, t2, t3] rfl rfl aO eT (bD (w := (w.alloc (.cells C af)).alloc (.cells eT aO)) _ GV) bX rfl HD.2.2.1 ?_
     intro W1 HW1 dH j_))
 have z1 : W1.heap.size = w.heap.size + 3 := by rw [j_]; simp
 have z6l : zG w F d C 0 W1 := by
  have b1 : Below w w W1 := Moves.new (Q.1.alloc NM _) dH GR;refine ⟨b1, ?_, ?_, sv, t0, t1, t2, t3, HW1.out, ?_⟩
  ·rw [dH.block _ NM GR]; exact aM NM Q.2.1
  ·rw [dH.block _ NM GR]; exact aM GV Q.2.2
  ·have : d.upto 0 = d.lasts := by simp [D.upto]
   rw [this];exact HD.1.keeps (λ k _ hl => b1.block k hl) (λ k h hl => Iy ⟨h, hl⟩)
 have nL := hd1 z6l;clear z6l dH j_ HW1 z1 Q;go_wp2;go_loopg [4] d.waits.length (λ g i wr => ∃ k : Nat, i = .int .i64 (k : Int) /\ g + k = d.waits.length /\ zG w F d C k wr)
 case atStart => exact ⟨0, rfl, rfl, nL.out⟩
 case round =>
  obtain ⟨k, rfl, hg, rel⟩ := hrel;have c7 := (HD.2.2.2.1 _ rel.r0).2;by_cases hlt : k < d.waits.length
  ·obtain ⟨s, hs⟩ : ∃ s, d.waits[k]? = some s := ⟨_, IR hlt⟩
   have o8 : iE wr.heap (StF F w) (.slice wa d.waits.length wc) d.waits := HD.2.1.keeps (λ k _ hl => rel.below.block k hl) (λ k h hl => Iy ⟨h, hl⟩);obtain ⟨_, b, o, u, rfl, lb, bu, qM⟩ := o8.at hs;obtain ⟨r_, t0', t1', t2', Am, r2, kG⟩ := rel.rb;have ok := HD.2.2.2.2;have pq : s.ok d.many := ok.waits s (Jb hs);have hx : ∀ t, ((d.upto k).tp t).length <= 1048576 := λ t => Hg (ok.tape k t) ok.fE;have DC := hd1 (yo (w := wr.drew) kG ok.many1 pq bu hx);have l0 : w.heap.size < wr.heap.size := aa rel.r0;have x7 : ∀ x : Wd (Below wr wr), x.world.cell? (w.heap.size, 7) = some (.slice (some (b, o)) d.waits.length wc) := λ x => (x.ok.cell (p := ⟨w.heap.size, 7, none⟩) l0).trans c7;have LD0 : Hid (∀ w', (∃ x : Wd (Below wr wr), w' = x.world) -> (Instr.loadAt aO (.pointer (some (w.heap.size + 1 + 1, 0)))).run prog w' = .ok (.agg #[r_, t0', t1', t2', Am]) w') := by
    rintro w' ⟨x, rfl⟩;exact fK ((x.ok.block _ (aa r2)).trans r2) Hz rfl bX
   have LD5 : Hid (∀ w', (∃ x : Wd (Below wr wr), w' = x.world) -> (Instr.loadAt bJ (.pointer (some ⟨b, o + k * 4, none⟩))).run prog w' = .ok (.agg #[.int .i64 s.what, .int .i64 s.n, .int .i64 s.many, u]) w') := by
    rintro w' ⟨x, rfl⟩;exact Kk x.world b (o + k * 4) bJ [.int .i64 s.what, .int .i64 s.n, .int .i64 s.many, u] _ (λ j v hj => (x.ok.cell (p := ⟨b, o + k * 4 + j, none⟩) lb).trans (qM j v hj)) Ii rfl qV
   have H := hd5 rel hs hg r2 kG;have hk0 : (0 : Int) <= (k : Int) := GR;have hk1 : (k : Int) < (d.waits.length : Int) := GR;clear rel hs hg r2 kG bu qM o8 hx pq ok;have ne : Nonempty (Wd (Below wr wr)) := ⟨⟨_, Below.refl _ _⟩⟩;go_upto_region 5 with fail
   refine bC (λ w' => ∃ x : Wd (Below wr wr), w' = x.world) [7] GQ ?_;refine aI [0, 1, 2, 3, 4, 5] 2 _ Hq GQ ?_;simp only [fmc, fmn, gta, gcs, gcz];refine dX rfl aO (.tmp 3) rfl _ LD0.out ?_;refine ak (λ K hK => ?_); simp only [au, ah]; go_simp; refine hK _ ?_; clear hK K;refine ak (λ K hK => ?_); simp only [au, ah]; go_simp; refine hK _ ?_; clear hK K;refine ak (λ K hK => ?_); simp only [au, ah]; go_simp; refine hK _ ?_; clear hK K;refine ak (λ K hK => ?_); simp only [au, ah]; go_simp; refine hK _ ?_; clear hK K;refine dX rfl bJ (.tmp 18) rfl _ LD5.out ?_;refine aA ?_;refine az 6 1 _ _ rfl GQ ?_;refine IE rfl λ K hK => ?_;go_simp;go_at_call 85;refine DC.mono ?_;rintro e W1 ⟨gW, u0, u1, u2, u3, rfl, hb1, dI⟩;have hb1' : Below wr wr W1 := GY.drew.trans hb1;refine hK _ _ (IB ⟨rfl, λ _ => ⟨⟨_, hb1'⟩, rfl⟩, ?_⟩);clear hK K;have R1 := hd2 hb1' dI;clear dI hb1;refine az 7 0 _ _ rfl GQ ?_;refine aC rfl aO _ _ rfl (w.heap.size + 1 + 1) #[gW, u0, u1, u2, u3] rfl rfl aO _ ((hb1'.block _ (aa H.2.2.2.1)).trans H.2.2.2.1) bX rfl R1.2.ones ?_;intro W2 HW2 cu HS2;refine IB ⟨rfl, λ h => absurd GU h, GQ, ?_⟩;have H2 := hd2 cu HW2.out;clear cu HS2 HW2;go_wp2_with fail
   go_roundg (d.waits.length - (k + 1))
   case measure => have := H.2.2.1; omega
   case rel => exact ⟨k + 1, by go_num, Hf H.2.2.1, H.1.step H.2.1 R1.1 R1.2 H2.1 H2.2⟩
  ·obtain rfl : k = d.waits.length := GR
   obtain ⟨r_, t0', t1', t2', Am, r2, kG⟩ := rel.rb;have H := hd3 rel r2 kG;clear rel r2 kG
   go_wp2_with (first
    | (refine G_ H.2.1 Hz bX ?_)
    | (refine aC rfl aO _ _ rfl (w.heap.size + 1) #[r_, t0', t1', t2', Am] rfl rfl aO eT H.1.r1 bX rfl H.2.2.ones ?_
       intro W5 aF aB bf))
   refine Hd aF.out Hz bX ?_;have hz := H.1.below.size;refine ⟨r_, t0', t1', t2', Am, rfl, Moves.new H.1.below aB GR, ?_⟩;have e : d.upto d.waits.length = d.stand := by unfold D.upto D.stand; rw [Je GZ]
   have rb := H.2.2;rw [e] at rb;refine rb.keeps (λ i hi hl => aB.block i hl ?_) (λ i hi hl => ?_)
   ·intro ei
    subst ei;rcases hi with hi | hi
    ·omega
    ·omega
   ·rcases hi with hi | hi
    ·exact Iy hi.1
    ·exact Iz ⟨GR, by rw [bf]; exact hl⟩
theorem aQ.flags {d : D} (x : aQ w.heap p m d F) (wE stops' : Bool) (after' : Int) (d' : D) (ed : d' = { d with dead := wE, stops := if stops' then after' else -1 }) (hok : d'.ok) (ha : stops' = true -> 0 <= after')
 (hm : Moves (λ k => k = p) w w')
 (hc : ∀ c, w.heap[p]? = some (.cells c dO) -> w'.heap[p]? = some (.cells (((c.setIfInBounds 13 (.bool wE)).setIfInBounds 14 (.bool stops')).setIfInBounds 15 (.int .i64 after')) dO (0, 0))) : aQ w'.heap p m d' F := by
 subst ed;have lt := x.lt;obtain ⟨ml, l0, l1, l2, l3, wv, stops, after, ⟨t0, t1, t2, t3, c1, c4, b0, b1, b2, b3, c7, c8, c9⟩, r⟩ := x.parts;have hs : ∀ k, F k -> k < w.heap.size -> w'.heap[k]? = w.heap[k]? := λ k hk hl => hm.block k hl (λ e => c8 (e ▸ hk));have hF : ∀ k, F k -> k < w.heap.size -> F k := λ _ h _ => h;refine aQ.of hok (ml := ml) (l0 := l0) (l1 := l1) (l2 := l2) (l3 := l3) (wv := wv) (stops := stops') (after := after') ?_ ?_
 ·exact ⟨t0, t1, t2, t3, (hc _ c1).trans (by simp [gp]), c4.stays (hm.block m lt.2.1 c9), b0.keeps hs hF, b1.keeps hs hF, b2.keeps hs hF, b3.keeps hs hF, c7, c8, c9⟩
 ·have r' := r.keeps (F' := F) hs hF
  exact ⟨rfl, ha, r'.sec, r'.wy, r'.b0, r'.b1, r'.b2, r'.b3, r'.steps⟩
theorem y6w (p : Nat) (n : Int) (w : World) (h : w.cell? (p, 16) = some (.bool true)) (hn : n < 0) : Calls prog 16 #[p, .int .i64 n] w λ e w' => e = .returned (.int .i64 2) /\ w = w' := by
 go_in;go_wp2_with (go_at_call 45; refine (gY p true _ h).mono ?_; rintro e w' ⟨rfl, rfl⟩)
 exact OJ
theorem y6x (p : Nat) (n : Int) (w : World) (h : w.cell? (p, 16) = some (.bool true)) (h2 : w.cell? (p, 13) = some (.bool true)) (hn : ¬ n < 0) : Calls prog 16 #[p, .int .i64 n] w λ e w' => e = .returned (.int .i64 281) /\ w = w' := by
 go_in;go_wp2_with (go_at_call 45; refine (gY p true _ h).mono ?_; rintro e w' ⟨rfl, rfl⟩)
 exact OJ
theorem y6y (p : Nat) (n : Int) (u v : Value) (w : World) (h : w.cell? (p, 16) = some (.bool true)) (h2 : w.cell? (p, 13) = some (.bool false)) (hn : ¬ n < 0) (h3 : w.cell? (p, 14) = some u) (h4 : w.cell? (p, 15) = some v)
 (f1 : w.frozen? ⟨p, 14, none⟩ = false) (f2 : w.frozen? ⟨p, 15, none⟩ = false) :
 Calls prog 16 #[p, .int .i64 n] w λ e w' => e = .returned (.int .i64 0) /\ (w.setCell (p, 14) (.bool true)).setCell (p, 15) (.int .i64 n) = w' := by
 go_in;go_wp2_with (go_at_call 45; refine (gY p true _ h).mono ?_; rintro e w' ⟨rfl, rfl⟩)
 exact OJ
theorem z8l {d : D} (x : aQ w.heap p m d F) : Left w p m F (d, c) (.returned (.int .i64 c)) w := vV x GY
theorem EM {d : D} (x : aQ w.heap p m d F) (n : Int) (hn : n <= 9223372036854775807) : Calls prog 16 #[p, .int .i64 n] w (Left w p m F (d.stop n)) := by
 obtain ⟨k16, k11, k12, k13⟩ := x.lu;by_cases h1 : n < 0
 ·have e : d.stop n = (d, 2) := by unfold D.stop; rw [IA h1]
  rw [e];refine (y6w p n w k16 h1).mono ?_;rintro e w' ⟨rfl, rfl⟩;exact z8l x
 ·cases hd : d.dead
  ·have e : d.stop n = ({ d with stops := n }, 0) := by unfold D.stop; rw [Iw h1, hd]; rfl
   rw [e];rw [hd] at k13;have lt := x.lt;obtain ⟨ml, l0, l1, l2, l3, wv, stops, after, ⟨t0, t1, t2, t3, c1, _⟩, r⟩ := x.parts;refine (y6y p n (.bool stops) (.int .i64 after) w k16 k13 h1 (by rw [IJ _ _ _ _ _ _ c1]; simp [gp]) (by rw [IJ _ _ _ _ _ _ c1]; simp [gp]) (aZ c1 _) (aZ c1 _)).mono ?_;rintro e w' ⟨rfl, rfl⟩
   have mv : Moves (λ k => k = p) w ((w.setCell (p, 14) (.bool true)).setCell (p, 15) (.int .i64 n)) :=
    ⟨rfl, rfl, rfl, GV, λ k hk hne => by rw [IU _ _ _ _ hne, IU _ _ _ _ hne]⟩
   have hok : ({ d with stops := n } : D).ok := by
    have h := x.ok;exact ⟨h.vR, h.many1, h.pz, h.fE, h.sec, h.tape, h.waits, by show -1 <= n; omega, hn⟩
   have y := x.flags (w' := (w.setCell (p, 14) (.bool true)).setCell (p, 15) (.int .i64 n)) false true n { d with stops := n } (by rw [<-hd]; simp) hok (λ _ => GR) mv (λ c hc => by
    have e13 : c.setIfInBounds 13 (.bool false) = c := by
     rw [c1] at hc;have : (Value.map (some m) :: t0 :: t1 :: t2 :: t3 :: gp ml l0 l1 l2 l3 wv d.many d.room d.dead stops after).toArray = c := by simpa using hc
     rw [<-this, hd];simp [gp]
    have y1 := IQ w p 14 _ dO (.bool true) hc;rw [e13];exact IQ _ p 15 _ dO (.int .i64 n) y1)
   refine ⟨rfl, mv.mono (λ _ => Iy), y.weak (λ _ h _ => Iy h) (λ h => ?_) (λ h => ?_)⟩
   ·rcases h with h | h
    ·exact lt.2.2.2.1 h
    ·omega
   ·rcases h with h | h
    ·exact lt.2.2.2.2 h
    ·omega
  ·have e : d.stop n = (d, 281) := by unfold D.stop; rw [Iw h1, hd]; rfl
   rw [e];rw [hd] at k13;refine (y6x p n w k16 k13 h1).mono ?_;rintro e w' ⟨rfl, rfl⟩;exact z8l x
end Go.Proofs.YtgffifleflkjoaaGreat
