/-
  Parts of a proof.
-/
import Derived.Test.YtgffifleflkjoaaGreatFin10
import Derived.Test.YtgffifleflkjoaaGreatFin16
set_option linter.unusedSimpArgs false
set_option linter.unusedVariables false
set_option maxRecDepth 100000
set_option maxHeartbeats 16000000
namespace Go.Proofs.YtgffifleflkjoaaGreat
open _root_.Go.Proofs.Tryz
variable {w W w' w0 wr w1 W0 W1 W2 A B : World} {F G F' O : Nat → Prop} {v : Value} {l : List UInt8} {n q m pd md pl g p : Nat} {C : Array Value} {c : Int}
open Go.RowKit Dm
abbrev jO : Nat := 199
abbrev bJ : Nat := 158
abbrev aO : Nat := 60
abbrev af : Nat := 63
def nV (h : Array Obj) (F : Nat -> Prop) (v : Value) (secs : List (Int × List UInt8)) : Prop :=
 (v = .slice none 0 0 /\ secs = []) \/ ∃ (b o cap : Nat) (c : Array Value) (t : TypeId) (fr : Nat × Nat), v = .slice (some ⟨b, o, none⟩) secs.length cap /\ secs.length <= cap /\ cap <= 9223372036854775807 /\ F b /\ h[b]? = some (.cells c t fr) ∧
  ∀ (i : Nat) (n : Int) (l : List UInt8), secs[i]? = some (n, l) -> ∃ u, c[o + i * 2]? = some (.int .i64 n) /\ c[o + i * 2 + 1]? = some u /\ BytesAt h F u l
structure qx (secs : List (Int × List UInt8)) (f : Int -> List UInt8) (many : Int) : Prop where
 qj : ∀ e ∈ secs, e.2 = f e.1 /\ 0 <= e.1 /\ e.1 < many
 no : ∀ n, (∀ e ∈ secs, e.1 ≠ n) -> f n = zeros
 nodup : (secs.map (·.1)).Nodup
def RB (h : Array Obj) (F : Nat -> Prop) (sv t0 t1 t2 t3 : Value) (x : St) (many : Int) : Prop :=
 ∃ secs, nV h F sv secs /\ qx secs x.sec many /\ BytesAt h F t0 (x.tp 0) /\ BytesAt h F t1 (x.tp 1) /\ BytesAt h F t2 (x.tp 2) /\ BytesAt h F t3 (x.tp 3)
def DJ (h : Array Obj) (F : Nat -> Prop) (s : Step) (w0 w1 w2 u : Value) : Prop := w0 = .int .i64 s.what /\ w1 = .int .i64 s.n /\ w2 = .int .i64 s.many /\ BytesAt h F u s.b
def iC (h : Array Obj) (F : Nat -> Prop) (v : Value) (l : List Step) : Prop :=
 (v = .slice none 0 0 /\ l = []) \/ ∃ (b o cap : Nat) (c : Array Value) (t : TypeId) (fr : Nat × Nat), v = .slice (some ⟨b, o, none⟩) l.length cap /\ l.length <= cap /\ cap <= 9223372036854775807 /\ F b /\ h[b]? = some (.cells c t fr) ∧
  ∀ (i : Nat) (s : Step), l[i]? = some s -> ∃ w0 w1 w2 u, c[o + i * 4]? = some w0 /\ c[o + i * 4 + 1]? = some w1 /\ c[o + i * 4 + 2]? = some w2 /\ c[o + i * 4 + 3]? = some u /\ DJ h F s w0 w1 w2 u
def dC (many room : Int) (sv t0 t1 t2 t3 wv : Value) (dead : Bool) (stops : Int) : Array Value := #[.int .i64 many, .int .i64 room, sv, t0, t1, t2, t3, wv, .bool dead, .int .i64 stops]
def bU (h : Array Obj) (F : Nat -> Prop) (v : Value) (d : D) : Prop :=
 ∃ sv t0 t1 t2 t3 wv, v = .agg (dC d.many d.room sv t0 t1 t2 t3 wv d.dead d.stops) /\ RB h F sv t0 t1 t2 t3 d.lasts d.many /\ iC h F wv d.waits
theorem nV.keeps {h h' : Array Obj} {l : List (Int × List UInt8)} (x : nV h F v l) (hs : ∀ k, F k -> k < h.size -> h'[k]? = h[k]?) (hF : ∀ k, F k -> k < h.size -> F' k) : nV h' F' v l := by
 rcases x with x | ⟨b, o, cap, c, t, fr, h1, h2, h3, g2, g3, g4⟩
 ·exact IB x
 ·refine IC ⟨b, o, cap, c, t, fr, h1, h2, h3, hF _ g2 (aa g3), (hs _ g2 (aa g3)).trans g3, λ i n l hi => ?_⟩
  obtain ⟨u, e0, e1, e2⟩ := g4 i n l hi;exact ⟨u, e0, e1, e2.keeps hs hF⟩
theorem RB.keeps {h h' : Array Obj} {sv t0 t1 t2 t3 : Value} {x : St} {many : Int} (r : RB h F sv t0 t1 t2 t3 x many) (hs : ∀ k, F k -> k < h.size -> h'[k]? = h[k]?) (hF : ∀ k, F k -> k < h.size -> F' k) : RB h' F' sv t0 t1 t2 t3 x many := by
 obtain ⟨secs, s1, s2, b0, b1, b2, b3⟩ := r;exact ⟨secs, s1.keeps hs hF, s2, b0.keeps hs hF, b1.keeps hs hF, b2.keeps hs hF, b3.keeps hs hF⟩
theorem DJ.keeps {h h' : Array Obj} {s : Step} {w0 w1 w2 u : Value} (x : DJ h F s w0 w1 w2 u) (hs : ∀ k, F k -> k < h.size -> h'[k]? = h[k]?) (hF : ∀ k, F k -> k < h.size -> F' k) : DJ h' F' s w0 w1 w2 u :=
 ⟨x.1, x.2.1, x.2.2.1, x.2.2.2.keeps hs hF⟩
theorem iC.keeps {h h' : Array Obj} {l : List Step} (x : iC h F v l) (hs : ∀ k, F k -> k < h.size -> h'[k]? = h[k]?) (hF : ∀ k, F k -> k < h.size -> F' k) : iC h' F' v l := by
 rcases x with x | ⟨b, o, cap, c, t, fr, h1, h2, h3, g2, g3, g4⟩
 ·exact IB x
 ·refine IC ⟨b, o, cap, c, t, fr, h1, h2, h3, hF _ g2 (aa g3), (hs _ g2 (aa g3)).trans g3, λ i s hi => ?_⟩
  obtain ⟨w0, w1, w2, u, e0, e1, e2, e3, e4⟩ := g4 i s hi;exact ⟨w0, w1, w2, u, e0, e1, e2, e3, e4.keeps hs hF⟩
theorem bU.keeps {h h' : Array Obj} {d : D} (x : bU h F v d) (hs : ∀ k, F k -> k < h.size -> h'[k]? = h[k]?) (hF : ∀ k, F k -> k < h.size -> F' k) : bU h' F' v d := by
 obtain ⟨sv, t0, t1, t2, t3, wv, e, r, st⟩ := x;exact ⟨sv, t0, t1, t2, t3, wv, e, r.keeps hs hF, st.keeps hs hF⟩
theorem RB.plus {sv t0 t1 t2 t3 : Value} {x : St} {many : Int} (r : RB w.heap F sv t0 t1 t2 t3 x many) (hb : Below w w w') : RB w'.heap (plus F w w') sv t0 t1 t2 t3 x many := r.keeps (λ k _ hl => hb.block k hl) (λ _ h _ => IB h)
theorem iC.plus {l : List Step} (r : iC w.heap F v l) (hb : Below w w w') : iC w'.heap (plus F w w') v l := r.keeps (λ k _ hl => hb.block k hl) (λ _ h _ => IB h)
theorem BytesAt.plus (r : BytesAt w.heap F v l) (hb : Below w w w') : BytesAt w'.heap (plus F w w') v l := r.keeps (λ k _ hl => hb.block k hl) (λ _ h _ => IB h)
theorem bU.plus {d : D} (r : bU w.heap F v d) (hb : Below w w w') : bU w'.heap (plus F w w') v d := r.keeps (λ k _ hl => hb.block k hl) (λ _ h _ => IB h)
theorem FreshBytes.plus {base : Nat} (x : FreshBytes w'.heap base v l) (hb : w.heap.size <= base) : BytesAt w'.heap (plus F w w') v l :=
 x.bytes.keeps (λ _ _ _ => rfl) (λ k hk hl => IC ⟨by have : base <= k := hk; omega, hl⟩)
theorem RB.tape {h : Array Obj} {sv t0 t1 t2 t3 : Value} {x : St} {many : Int} (r : RB h F sv t0 t1 t2 t3 x many) (t : Nat) (ht : t < 4) : ∃ v, #[sv, t0, t1, t2, t3][1 + t]? = some v /\ BytesAt h F v (x.tp t) := by
 obtain ⟨secs, s1, s2, b0, b1, b2, b3⟩ := r;obtain rfl | rfl | rfl | rfl : t = 0 \/ t = 1 \/ t = 2 \/ t = 3 := GX
 ·exact ⟨t0, rfl, b0⟩
 ·exact ⟨t1, rfl, b1⟩
 ·exact ⟨t2, rfl, b2⟩
 ·exact ⟨t3, rfl, b3⟩
theorem RB.z4g {h : Array Obj} {sv t0 t1 t2 t3 : Value} {x : St} {many : Int} (r : RB h F sv t0 t1 t2 t3 x many) (t : Nat) (ht : t < 4) (hv : BytesAt h F v l) :
 ∃ u0 u1 u2 u3, #[sv, t0, t1, t2, t3].setIfInBounds (1 + t) v = #[sv, u0, u1, u2, u3] /\ RB h F sv u0 u1 u2 u3 { x with tp := upd x.tp t l } many := by
 obtain ⟨secs, s1, s2, b0, b1, b2, b3⟩ := r;obtain rfl | rfl | rfl | rfl : t = 0 \/ t = 1 \/ t = 2 \/ t = 3 := GX
 ·exact ⟨v, t1, t2, t3, GZ, secs, s1, s2, by simpa [upd] using hv, by simpa [upd] using b1, by simpa [upd] using b2, by simpa [upd] using b3⟩
 ·exact ⟨t0, v, t2, t3, GZ, secs, s1, s2, by simpa [upd] using b0, by simpa [upd] using hv, by simpa [upd] using b2, by simpa [upd] using b3⟩
 ·exact ⟨t0, t1, v, t3, GZ, secs, s1, s2, by simpa [upd] using b0, by simpa [upd] using b1, by simpa [upd] using hv, by simpa [upd] using b3⟩
 ·exact ⟨t0, t1, t2, v, GZ, secs, s1, s2, by simpa [upd] using b0, by simpa [upd] using b1, by simpa [upd] using b2, by simpa [upd] using hv⟩
theorem Gb : ∀ (m : Nat) (l : List Int), l.Nodup -> (∀ x ∈ l, 0 <= x /\ x < m) -> l.length <= m
 | 0, l, _, h => by
  cases l with
  | nil => simp
  | cons a l => have := h a (Jp ..); omega
 | m + 1, l, hn, h => by
  by_cases hm : (m : Int) ∈ l
  ·have h1 := Gb m (l.erase (m : Int)) (hn.erase _) (λ x hx => by
    have hx' := (hn.mem_erase_iff).1 hx;have := h x hx'.2;have := hx'.1;omega)
   rw [List.length_erase_of_mem hm] at h1;omega
  ·have h1 := Gb m l hn (λ x hx => by
    have := h x hx;have : x ≠ m := λ e => hm (e ▸ hx);omega)
   omega
theorem qx.len {secs : List (Int × List UInt8)} {f : Int -> List UInt8} {many : Int} (h : qx secs f many) (hm : many <= 4096) : secs.length <= 4096 := by
 have := Gb 4096 (secs.map (·.1)) h.nodup (λ x hx => by
  obtain ⟨e, he, rfl⟩ := Jq.1 hx;have := h.qj e he;omega)
 simpa using this
abbrev eX : Array Value := #[.slice none 0 0, .slice none 0 0, .slice none 0 0, .slice none 0 0, .slice none 0 0]
abbrev lL (w : World) (c s : Array Value) : World := ((w.alloc (.cells c aO)).alloc (.cells s bJ)).alloc (.cells eX aO)
theorem zx (w : World) (c s : Array Value) : Below w w (lL w c s) := ((bla).alloc GZ _).alloc Oa _
theorem zw (w : World) (c s : Array Value) : (lL w c s).heap[w.heap.size]? = some (.cells c aO) /\ (lL w c s).heap[w.heap.size + 1]? = some (.cells s bJ) /\ (lL w c s).heap[w.heap.size + 2]? = some (.cells eX aO) /\ (lL w c s).heap.size = w.heap.size + 3 :=
 ⟨aM Oa (aM GZ (II w _)), aM GZ (bC (w := w.alloc _) _ GZ), bC (w := (w.alloc _).alloc _) _ GZ, GZ⟩
theorem bX : (prog.info? aO).map (·.size) = some 5 := GV
def w1p (w : World) (c : Array Value) (t : Nat) (l : List UInt8) (G : Nat -> Prop) (e : Ending) (w' : World) : Prop :=
 ∃ v', e = .returned (.agg (c.setIfInBounds (1 + t) v')) /\ Below w.heap.size w w' /\ BytesAt w'.heap (λ k => G k \/ w.heap.size <= k) v' l
theorem x6q (sv t0 t1 t2 t3 ti u : Value) (t : Nat) (many : Int) (l1 l2 : List UInt8) (G : Nat -> Prop) (w : World) (ht : t < 4) (hti : #[sv, t0, t1, t2, t3][1 + t]? = some ti) (h1 : BytesAt w.heap G ti l1) (h2 : BytesAt w.heap G u l2) (hl : l1.length + l2.length <= 1099511627776) (ho : (#[sv, t0, t1, t2, t3] : Array Value).all (·.oneCell') = true) :
 Calls prog 85 #[.agg #[sv, t0, t1, t2, t3], .agg #[.int .i64 2, .int .i64 t, .int .i64 many, u]] w (w1p w #[sv, t0, t1, t2, t3] t (l1 ++ l2) G) := by
 have hb0 := zx w #[sv, t0, t1, t2, t3] #[.int .i64 2, .int .i64 t, .int .i64 many, u];have rows := zw w #[sv, t0, t1, t2, t3] #[.int .i64 2, .int .i64 t, .int .i64 many, u];generalize hC : (#[sv, t0, t1, t2, t3] : Array Value) = C at *;have dA : C.size = 5 := by rw [<-hC]; rfl
 obtain ⟨W0, hW0⟩ := G8 (lL w C #[.int .i64 2, .int .i64 t, .int .i64 many, u]);rw [hW0] at hb0 rows;obtain ⟨r0, r1, r2, z0⟩ := rows;have HD := hd10 h1 h2 hb0 r0 r1 r2 z0 hl ho dA;have x1 : ∀ x : Wd (Below W0 W0), x.world.cell? (w.heap.size + 1, 1) = some (.int .i64 t) := λ x => (x.ok.cell (p := ⟨w.heap.size + 1, 1, none⟩) (aa r1)).trans (ae r1 rfl);have x2 : ∀ x : Wd (Below W0 W0), x.world.cell? (w.heap.size + 1, 3) = some u := λ x => (x.ok.cell (p := ⟨w.heap.size + 1, 3, none⟩) (aa r1)).trans (ae r1 rfl);have x3 : ∀ x : Wd (Below W0 W0), x.world.cell? (w.heap.size, 1 + t) = some ti := λ x => (x.ok.cell (p := ⟨w.heap.size, 1 + t, none⟩) (aa r0)).trans (ae r0 hti);have k0 : W0.cell? (w.heap.size + 1, 0) = some (.int .i64 2) := ae r1 rfl;have hz : (0 : Int) <= (t : Int) := GX;have rE : (t : Int) < 4 := GX;have ne : Nonempty (Wd (Below W0 W0)) := ⟨⟨_, Below.refl _ _⟩⟩;have HW0 := hd1 hW0;clear h1 h2 hl hb0 r0 r1 r2 z0 ho dA hC hti;go_in;go_upto_region 1 with fail
 clear hW0;go_wp2;refine bD (λ w' => ∃ x : Wd (Below W0 W0), w' = x.world) [14] GV ?_;refine aL [0, 1, 3, 4, 5, 6, 7, 9, 10, 12] 5 _ Hu GV ?_;refine Hd ?_;refine aA 2 4 _ _ rfl GV ?_;refine IJ rfl λ K hK => ?_;go_simp;have hb1 : Below W0 W0 (W0.alloc (.cells #[] bV)).drew := (bla).drew;have qZ : b_ (W0.alloc (.cells #[] bV)).drew W0.heap.size (.slice (some W0.heap.size) 0 0) [] := BH W0;refine hK _ _ (IG ⟨rfl, λ _ => ⟨⟨_, hb1⟩, rfl⟩, ?_⟩);clear hK K;have lZ := hd1 qZ;clear qZ;generalize (W0.alloc (.cells #[] bV)).drew = W1 at *;refine aA 8 3 _ _ rfl GV ?_;refine dP rfl (.tmp 92) (.tmp 97) rfl W0.heap.size W0.heap.size W0 hb1 G7 _ [] rfl lZ.out _ l1 G rfl (HD.1.keeps (λ k _ hl => (hb1.block k (Hm HD.2.2.2.2.2.2.1)).trans (HD.2.2.1.block k hl)) (λ _ h _ => h)) (by have := HD.2.2.2.2.2.2.2.1; simp; omega) hb1.size ?_;intro v1 W2 jv hb2 _;refine IG ⟨rfl, λ _ => ⟨⟨_, hb2⟩, rfl⟩, ?_⟩;rw [Jj] at jv;refine aA 11 2 _ _ rfl GV ?_;refine dP rfl (.tmp 98) (.tmp 100) rfl W0.heap.size W0.heap.size W0 hb2 G7 _ l1 rfl jv.out _ l2 G rfl (HD.2.1.keeps (λ k _ hl => (hb2.block k (Hm HD.2.2.2.2.2.2.1)).trans (HD.2.2.1.block k hl)) (λ _ h _ => h)) HD.2.2.2.2.2.2.2.1 hb2.size ?_;intro v2 W3 iD hb3 _;generalize l1 ++ l2 = l3 at *;refine IG ⟨rfl, λ _ => ⟨⟨_, hb3⟩, rfl⟩, ?_⟩;refine aL [13] 1 _ ⟨⟨_, hb3⟩, rfl⟩ GV ?_;refine Hd ?_;refine aA 14 0 _ _ rfl GV ?_;have q0 : W3.heap[w.heap.size]? = some (.cells C aO) := (hb3.block _ (aa HD.2.2.2.1)).trans HD.2.2.2.1;have q2 : W3.heap[w.heap.size + 1 + 1]? = some (.cells eX aO) := (hb3.block _ (aa HD.2.2.2.2.2.1)).trans HD.2.2.2.2.2.1
 have k3 : W3.cell? (w.heap.size, 1 + t) = some ti := x3 ⟨W3, hb3⟩;have f3 : W3.frozen? ⟨w.heap.size, 1 + t, none⟩ = false := aU q0 _;obtain ⟨a2, c2, rfl⟩ := iD.bytes.bytes.slice;have s0 := IU W3 w.heap.size (1 + t) C aO (.slice a2 l3.length c2) q0;have s2 := (IW W3 ⟨w.heap.size, 1 + t, none⟩ (w.heap.size + 1 + 1) (.slice a2 l3.length c2) MR).trans q2;have mv : Below w w (W3.setCell (w.heap.size, 1 + t) (.slice a2 l3.length c2)) := (HD.2.2.1.trans (hb3.mono (Hm HD.2.2.1.size))).setCell G7 _
 have bs : BytesAt (W3.setCell (w.heap.size, 1 + t) (.slice a2 l3.length c2)).heap (λ k => W0.heap.size <= k) (.slice a2 l3.length c2) l3 :=
  iD.bytes.bytes.keeps (λ k hk _ => IW W3 ⟨w.heap.size, 1 + t, none⟩ k _ (by have hk' : W0.heap.size <= k := hk; have := HD.2.2.2.2.2.2.1; show k ≠ w.heap.size; omega)) (λ _ h _ => h)
 refine IJ rfl λ K hK => ?_;go_simp;have HS := hd4 s0 s2 mv bs;clear s0 s2 mv bs q0 q2 k3 f3;refine hK _ _ (IG ⟨rfl, λ h => absurd GY h, GV, ?_⟩);clear hK K;generalize (W3.setCell (w.heap.size, 1 + t) (.slice a2 l3.length c2)) = W4 at *;have sc : (C.setIfInBounds (1 + t) (.slice a2 l3.length c2)).size = 5 := by rw [LJ]; exact HD.2.2.2.2.2.2.2.2.2
 have so : (C.setIfInBounds (1 + t) (.slice a2 l3.length c2)).all (·.oneCell') = true := by
  rw [JF];intro y hy;rcases Array.mem_or_eq_of_mem_setIfInBounds hy with h | h
  ·exact JF.1 HD.2.2.2.2.2.2.2.2.1 y h
  ·rw [h]; rfl
 have SC := hd2 sc so;clear sc so;generalize hC' : C.setIfInBounds (1 + t) (.slice a2 l3.length c2) = C' at *
 go_wp2_with (first
  | (refine IL rfl aO (.tmp 2) rfl w.heap.size rfl aO C' (0, 0) _ HS.1 Ib rfl NZ ?_)
  | (refine aD rfl aO _ _ rfl (w.heap.size + 1 + 1) C' rfl rfl aO eX HS.2.1 NZ NQ SC.2 ?_
     intro W5 aF az bf))
 refine Hg aF.out Ib NZ ?_;refine ⟨.slice a2 l3.length c2, by rw [hC'], Moves.new HS.2.2.1 az GX, ?_⟩;have z0 := HD.2.2.2.2.2.2.1;exact HS.2.2.2.keeps (λ k hk hl => az.block k hl (λ e => by have hk' : W0.heap.size <= k := hk; omega)) (λ k hk _ => IC (by have hk' : W0.heap.size <= k := hk; omega))
def iN (acc : List (Int × Value)) : List Value := acc.flatMap (λ e => [.int .i64 e.1, e.2])
theorem wK (acc : List (Int × Value)) (e : Int × Value) : iN (acc ++ [e]) = iN acc ++ [.int .i64 e.1, e.2] := by simp [iN]
theorem x5k (acc : List (Int × Value)) (i : Nat) (e : Int × Value) (h : acc[i]? = some e) : (iN acc)[i * 2]? = some (.int .i64 e.1) /\ (iN acc)[i * 2 + 1]? = some e.2 := by
 induction acc generalizing i with
 | nil => cases h
 | cons a l ih =>
  cases i with
  | zero => cases h; exact ⟨rfl, rfl⟩
  | succ i =>
   have := ih i NV;have e1 : (i + 1) * 2 = i * 2 + 2 := GX;have e2 : i * 2 + 2 + 1 = i * 2 + 1 + 2 := GX;have e3 : iN (a :: l) = .int .i64 a.1 :: a.2 :: iN l := rfl;rw [e1, e3, e2, List.getElem?_cons_succ, List.getElem?_cons_succ, List.getElem?_cons_succ, List.getElem?_cons_succ];exact this
structure gm (h : Array Obj) (F : Nat -> Prop) (f : Int -> List UInt8) (many n : Int) (b : List UInt8) (secs : List (Int × List UInt8)) (k : Nat) (acc : List (Int × Value)) (pb : Bool) : Prop where
 qj : ∀ e ∈ acc, BytesAt h F e.2 (upd f n b e.1) /\ 0 <= e.1 /\ e.1 < many
 keys : ∀ e ∈ acc, (e.1 = n /\ pb = true) \/ (e.1 ≠ n /\ ∃ j l, j < k /\ secs[j]? = some (e.1, l))
 z0t : pb = true -> ∃ e ∈ acc, e.1 = n
 Cs : ∀ (j : Nat) m l, j < k -> secs[j]? = some (m, l) -> m = n \/ ∃ e ∈ acc, e.1 = m
 nodup : (acc.map (·.1)).Nodup
 len : acc.length <= k + (if pb then 1 else 0)
section
variable {h : Array Obj} {F : Nat -> Prop} {f : Int -> List UInt8} {many n : Int} {b : List UInt8} {secs : List (Int × List UInt8)} {k : Nat} {acc : List (Int × Value)} {pb : Bool}
theorem gm.start : gm h F f many n b secs 0 [] false := ⟨(λ e he => by cases he), (λ e he => by cases he), (λ h => by cases h), (λ j m l hj => GX), GZ, GZ⟩
theorem gm.new (r : gm h F f many n b secs k acc false) {u : Value} (hu : BytesAt h F u b) (h0 : 0 <= n) (h1 : n < many) : gm h F f many n b secs k (acc ++ [(n, u)]) true := by
 refine ⟨λ e he => ?_, λ e he => ?_, λ _ => ⟨(n, u), GZ, rfl⟩, λ j m l hj hs => ?_, ?_, by have := r.len; simp at this ⊢; omega⟩
 ·rcases J2.1 he with he | he
  ·exact r.qj e he
  ·rw [JX] at he; subst he; exact ⟨by rw [upd_same]; exact hu, h0, h1⟩
 ·rcases J2.1 he with he | he
  ·rcases r.keys e he with ⟨_, hh⟩ | hh
   ·cases hh
   ·exact IC hh
  ·rw [JX] at he; subst he; exact IB ⟨rfl, rfl⟩
 ·rcases r.Cs j m l hj hs with hh | ⟨e, he, hh⟩
  ·exact IB hh
  ·exact IC ⟨e, Ld _ he, hh⟩
 ·rw [Ki, List.nodup_append]
  refine ⟨r.nodup, GZ, λ a ha c hc => ?_⟩;simp at hc;obtain ⟨e, he, rfl⟩ := Jq.1 ha;rcases r.keys e he with ⟨_, hh⟩ | hh
  ·cases hh
  ·rw [hc]; exact hh.1
theorem gm.old (r : gm h F f many n b secs k acc pb) (hn : (secs.map (·.1)).Nodup) {m : Int} (hs : secs[k]? = some (m, l)) (hm : m ≠ n) {u : Value} (hu : BytesAt h F u (f m)) (h0 : 0 <= m) (h1 : m < many) : gm h F f many n b secs (k + 1) (acc ++ [(m, u)]) pb := by
 refine ⟨λ e he => ?_, λ e he => ?_, λ hp => ?_, λ j m' l' hj hs' => ?_, ?_, by have := r.len; simp at this ⊢; omega⟩
 ·rcases J2.1 he with he | he
  ·exact r.qj e he
  ·rw [JX] at he; subst he; exact ⟨by rw [sJ _ _ _ _ hm]; exact hu, h0, h1⟩
 ·rcases J2.1 he with he | he
  ·exact QM
  ·rw [JX] at he; subst he; exact IC ⟨hm, k, l, GX, hs⟩
 ·obtain ⟨e, he, hh⟩ := r.z0t hp
  exact ⟨e, Ld _ he, hh⟩
 ·by_cases hjk : j = k
  ·subst hjk
   rw [hs] at hs';cases hs';exact IC ⟨(m, u), GZ, rfl⟩
  ·rcases r.Cs j m' l' GX hs' with hh | ⟨e, he, hh⟩
   ·exact IB hh
   ·exact IC ⟨e, Ld _ he, hh⟩
 ·rw [Ki, List.nodup_append]
  refine ⟨r.nodup, GZ, λ a ha c hc => ?_⟩;simp at hc;obtain ⟨e, he, rfl⟩ := Jq.1 ha;subst hc;rcases r.keys e he with ⟨hh, _⟩ | ⟨_, j, l', hj, hl⟩
  ·rw [hh]; exact λ e => hm e.symm
  ·intro heq
   have e1 : (secs.map (·.1))[j]? = some e.1 := by simp [hl]
   have e2 : (secs.map (·.1))[k]? = some c := by simp [hs]
   rw [<-heq] at e2;have l1 := (I4.1 e1);have l2 := (I4.1 e2);have := (List.getElem_inj hn).1 (l1.2.trans l2.2.symm);omega
theorem gm.same (r : gm h F f many n b secs k acc pb) (hs : secs[k]? = some (n, l)) : gm h F f many n b secs (k + 1) acc pb := by
 refine ⟨r.qj, λ e he => ?_, r.z0t, λ j m' l' hj hs' => ?_, r.nodup, Hm r.len⟩
 ·exact QM
 ·by_cases hjk : j = k
  ·subst hjk
   rw [hs] at hs';cases hs';exact IB rfl
  ·exact r.Cs j m' l' GX hs'
theorem gm.done (r : gm h F f many n b secs secs.length acc true) (x4z : qx secs f many) {base : Nat} (own : w'.ownsRow base jO 2 v acc.length (iN acc)) (hs : ∀ k, F k -> k < h.size -> w'.heap[k]? = h[k]?) (hF : ∀ k, F k -> k < h.size -> F' k) (hB : ∀ k, base <= k -> k < w'.heap.size -> F' k) :
 ∃ nz, nV w'.heap F' v nz /\ qx nz (upd f n b) many := by
 refine ⟨acc.map (λ e => (e.1, upd f n b e.1)), ?_, ?_⟩
 ·obtain ⟨_, own⟩ := own
  rcases own with ⟨rfl, h0⟩ | ⟨g, cap, cur, rfl, hg, hh, h1, h2, h3, h4⟩
  ·refine IB ⟨rfl, ?_⟩
   have : acc = [] := JZ h0;rw [this]; rfl
  ·refine IC ⟨g, 0, cap, cur, jO, (0, 0), GZ, by simpa using h1, by unfold maxLen at h2; omega, hB g hg (aa hh), hh, λ i m l hi => ?_⟩
   obtain ⟨e, he, hel⟩ : ∃ e, acc[i]? = some e /\ (e.1, upd f n b e.1) = (m, l) := by simpa using hi
   simp only [Prod.mk.injEq] at hel;obtain ⟨rfl, rfl⟩ := hel;have hlt : i < acc.length := (I4.1 he).1;obtain ⟨q1, q2⟩ := x5k acc i e he;rw [<-h4, JR, IE GX] at q1 q2;refine ⟨e.2, by simpa using q1, by simpa using q2, (r.qj e (Jg he)).1.keeps hs hF⟩
 ·refine ⟨λ e he => ?_, λ m hm => ?_, ?_⟩
  ·obtain ⟨e', he', rfl⟩ := Jq.1 he
   exact ⟨rfl, (r.qj e' he').2⟩
  ·obtain ⟨e, he, hen⟩ := r.z0t rfl
   have wC : m ≠ n := λ e' => hm (e.1, upd f n b e.1) (Jq.2 ⟨e, he, rfl⟩) (by rw [e', <-hen]);rw [sJ _ _ _ _ wC];refine x4z.no m (λ e' he' hem => ?_);obtain ⟨j, hj⟩ := KH.1 he';have hlt : j < secs.length := (I4.1 hj).1;rcases r.Cs j e'.1 e'.2 hlt hj with hh | ⟨e2, he2, hh⟩
   ·exact wC (by rw [<-hem, hh])
   ·exact hm (e2.1, upd f n b e2.1) (Jq.2 ⟨e2, he2, rfl⟩) (by rw [hh, hem])
  ·rw [List.map_map]
   exact r.nodup
end
theorem wB : (prog.info? jO).map (λ i => (i.zero, i.size, i.bytes)) = some (some (.agg #[.int .i64 0, .slice none 0 0]), 2, 32) := GV
def w1z (w W0 : World) (F : Nat -> Prop) (f : Int -> List UInt8) (many n : Int) (b : List UInt8) (secs : List (Int × List UInt8)) (k : Nat) (v : Value) (pb : Bool) (wr : World) : Prop :=
 ∃ acc, gm w.heap F f many n b secs k acc pb /\ wr.ownsRow W0.heap.size jO 2 v acc.length (iN acc) /\ Below W0.heap.size W0 wr
def y3y (w : World) (t0 t1 t2 t3 : Value) (F : Nat -> Prop) (f : Int -> List UInt8) (many : Int) (e : Ending) (w' : World) : Prop :=
 ∃ v' nz, e = .returned (.agg #[v', t0, t1, t2, t3]) /\ Below w.heap.size w w' /\ nV w'.heap (plus F w w') v' nz /\ qx nz f many
theorem nV.slice {h : Array Obj} {l : List (Int × List UInt8)} (x : nV h F v l) : ∃ a c, v = .slice a l.length c /\ l.length <= c /\ c <= 9223372036854775807 := by
 exact Qt
theorem vG (w : World) (n : Int) (u : Value) (hu : u.oneCell' = true) : qw (w.alloc (.cells #[.int .i64 n, u] jO)) 2 (.slice (some w.heap.size) 1 1) 1 [.int .i64 n, u] := by
 refine IC ⟨⟨w.heap.size, 0, none⟩, 1, rfl, rfl, λ j v hj => ?_, λ v hv => ?_⟩
 ·rw [addr_add, IM _ _ _ _ _ _ (II w _), Ja]
  simpa using hj
 ·simp at hv
  rcases hv with rfl | rfl
  ·rfl
  ·exact hu
theorem z7o {X Y : World} {base : Nat} {e : TypeId} {size : Nat} {xs : List Value} (h : X.ownsRow base e size v n xs) (hk : ∀ k, base <= k -> k < X.heap.size -> Y.heap[k]? = X.heap[k]?) : Y.ownsRow base e size v n xs := by
 obtain ⟨h0, h⟩ := h;refine ⟨h0, ?_⟩;rcases h with h | ⟨g, cap, cur, h1, h2, h3, h4, h5, h6, h7⟩
 ·exact IB h
 ·exact IC ⟨g, cap, cur, h1, h2, (hk g h2 (aa h3)).trans h3, h4, h5, h6, h7⟩
theorem y0f {X W5 : World} {f : Int -> List UInt8} {many n : Int} {secs : List (Int × List UInt8)} {acc : List (Int × Value)} {t0 t1 t2 t3 : Value} (rel : gm w.heap F f many n l secs secs.length acc true) (hok : qx secs f many) (hb0 : Below w w W0) (z0 : W0.heap.size = w.heap.size + 3)
 (own : X.ownsRow W0.heap.size jO 2 v acc.length (iN acc)) (hX : Below W0 W0 X) (hM : Moves (λ k => k = w.heap.size + 1 + 1) (X.setCell w.heap.size v) W5) : y3y w t0 t1 t2 t3 F (upd f n l) many (.returned (.agg #[v, t0, t1, t2, t3])) W5 := by
 have hzX := hX.size;have hb1 : Below w w (X.setCell w.heap.size v) := (hb0.trans (hX.mono GX)).setCell G7 _;have hb5 : Below w w W5 := Moves.new hb1 hM GX;have hz5 := hM.size;have xY : (X.setCell w.heap.size v).heap.size = X.heap.size := GZ;have pX : W5.ownsRow W0.heap.size jO 2 v acc.length (iN acc) := z7o own (λ k hk hl => by
  rw [hM.block k (by rw [xY]; exact hl) GX, IW _ _ _ _ (by show k ≠ w.heap.size; omega)])
 obtain ⟨nz, g1, g2⟩ := rel.done hok (w' := W5) (F' := plus F w W5) pX (λ k _ hl => hb5.block k hl) (λ k h _ => IB h) (λ k h1 h2 => IC ⟨GX, h2⟩);exact ⟨v, nz, rfl, hb5, g1, g2⟩
theorem x0t (sv t0 t1 t2 t3 u : Value) (n many : Int) (l : List UInt8) (F : Nat -> Prop) (f : Int -> List UInt8) (secs : List (Int × List UInt8)) (w : World) (hs : nV w.heap F sv secs) (hok : qx secs f many) (hm : many <= 4096) (hu : BytesAt w.heap F u l) (hn0 : 0 <= n) (hn1 : n < many)
 (ho : (#[sv, t0, t1, t2, t3] : Array Value).all (·.oneCell') = true) :
 Calls prog 85 #[.agg #[sv, t0, t1, t2, t3], .agg #[.int .i64 1, .int .i64 n, .int .i64 0, u]] w (y3y w t0 t1 t2 t3 F (upd f n l) many) := by
 have hlen := hok.len hm;obtain ⟨sa, sc, rfl, hsc, hsc2⟩ := hs.slice;have hb0 := zx w #[.slice sa secs.length sc, t0, t1, t2, t3] #[.int .i64 1, .int .i64 n, .int .i64 0, u];obtain ⟨r0, r1, r2, z0⟩ := zw w #[.slice sa secs.length sc, t0, t1, t2, t3] #[.int .i64 1, .int .i64 n, .int .i64 0, u];obtain ⟨W0, hW0⟩ := G8 (lL w #[.slice sa secs.length sc, t0, t1, t2, t3] #[.int .i64 1, .int .i64 n, .int .i64 0, u]);rw [hW0] at hb0 r0 r1 r2 z0;have k0 : W0.cell? (w.heap.size + 1, 0) = some (.int .i64 1) := ae r1 rfl;have HD := hd9 hs hok hu hb0 r0 r1 r2 z0 ho;clear hs hok hu hb0 r0 r1 r2 z0 ho;go_in;go_upto_region 1 with fail
 clear hW0;go_wp2;go_loopg [5, 6, 7] secs.length (λ g v p i wr => ∃ (k : Nat) (pb : Bool), i = .int .i64 (k : Int) /\ p = .bool pb /\ g + k = secs.length /\ w1z w W0 F f many n l secs k v pb wr)
 case atStart => exact ⟨0, false, rfl, rfl, rfl, [], gm.start, ⟨rfl, IB ⟨rfl, rfl⟩⟩, Below.refl _ _⟩
 case round =>
  obtain ⟨k, pb, rfl, rfl, hg, acc, rel, own, hbl⟩ := hrel;obtain ⟨va, vc, rfl⟩ : ∃ va vc, u5 = .slice va acc.length vc := by
   rcases own.2 with ⟨h1, h2⟩ | ⟨g, cap, cur, h1, _⟩
   ·exact ⟨_, _, by rw [h1, h2]⟩
   ·exact ⟨_, _, h1⟩
  by_cases hlt : k < secs.length
  ·obtain ⟨e, he⟩ : ∃ e, secs[k]? = some e := ⟨_, IX hlt⟩
   obtain ⟨m, ml⟩ := e;obtain ⟨b, o, uk, rfl, fx, e3⟩ : ∃ b o uk, sa = some ⟨b, o, none⟩ /\ (∀ X, Below W0 W0 X -> X.cell? w.heap.size = some (.slice (some ⟨b, o, none⟩) secs.length sc) /\ X.cell? (w.heap.size + 1, 1) = some (.int .i64 n) /\ X.cell? (w.heap.size + 1, 3) = some u /\ X.cell? ⟨b, o + k * 2, none⟩ = some (.int .i64 m) /\ X.cell? ⟨b, o + k * 2 + 1, none⟩ = some uk) /\ BytesAt w.heap F uk ml := by
    rcases HD.1 with ⟨h1, h2⟩ | ⟨b, o, cap, c', tt, fr, h1, h2, h3, g2, g3, g4⟩
    ·rw [h2] at hlt; simp at hlt
    ·obtain ⟨uk, q1, q2, q3⟩ := g4 k m ml he
     obtain rfl : sa = some ⟨b, o, none⟩ := (JB h1).1;refine ⟨b, o, uk, rfl, λ X hX => ?_, q3⟩;have g3' : X.heap[b]? = some (.cells c' tt fr) := (hX.block _ (Ho (aa g3) HD.2.2.2.1.size)).trans ((HD.2.2.2.1.block _ (aa g3)).trans g3);have g0 := (hX.block _ (aa HD.2.2.2.2.1)).trans HD.2.2.2.2.1;have g1 := (hX.block _ (aa HD.2.2.2.2.2.1)).trans HD.2.2.2.2.2.1;exact ⟨ae g0 rfl, ae g1 rfl, ae g1 rfl, ae g3' q1, ae g3' q2⟩
   have hmk := HD.2.1.qj (m, ml) (Jg he);have hal : acc.length <= 8192 := by have := rel.len; split at this <;> omega
   obtain ⟨ua, uc, eu⟩ := HD.2.2.1.slice;obtain ⟨ka, kc, ek⟩ := e3.slice;generalize l.length = ul at eu;generalize ml.length = kl at ek;subst eu;subst ek;have H := hd8 rel own hbl he hg e3 hmk hal;have FX := hd1 fx;clear rel own he hg e3 hmk hal fx;have hk0 : (0 : Int) <= (k : Int) := GX;have hk1 : (k : Int) < (secs.length : Int) := GX;have BP := hd1 HD.2.1.nodup;cases pb
   ·by_cases wC : n <= m
    ·have b1 : decide (n <= m) = true := by simp; omega
     obtain ⟨x0, x1, x2, x3, x4⟩ := FX.out wr hbl;have HB2 := hd1 hbl;clear hbl;go_upto_region 9 with fail
     go_quiet (fail)
     go_upto_region 12 with (refine ng rfl (.tmp 51) (.tmp 57) 57 rfl W0.heap.size W0.heap.size W0 ((below_drewN HB2.out nq).alloc Nb _) G7 jO (.agg #[.int .i64 0, .slice none 0 0]) 2 32 Io wB rfl GY _ acc.length (iN acc) rfl (bi (bi H.2.1 (below_drewN (Below.refl _ wr) nq) G7) (bla) G7) _ 1 [.int .i64 n, Value.slice ua ul uc] rfl (vG _ n (Value.slice ua ul uc) rfl) (by have := H.2.2.2.2.2.2.2; unfold maxLen; omega) (Hm H.2.2.2.2.2.2.2) MX ?_
                             intro v1 X2 lZ hb1 _;obtain ⟨g1, c1, rfl⟩ := lD lZ.out GX;clear HB2;have HB2 := hd1 hb1;clear hb1)
     have jv : Hid (X2.ownsRow W0.heap.size jO 2 (.slice (some g1) (acc.length + 1) c1) (acc ++ [(n, Value.slice ua ul uc)]).length (iN (acc ++ [(n, Value.slice ua ul uc)]))) := by
      exact Sd
     clear lZ x0 x1 x2 x3 x4;obtain ⟨y0, y1, y2, y3, y4⟩ := FX.out X2 HB2.out;by_cases heq : m = n
     ·have HEQ := hd1 heq
      have b2 : (m == n) = true := by simpa using heq
      have b3 : (m != n) = false := by simpa using heq
      clear heq;go_quiet (fail)
      go_wp2_with fail
      go_roundg (secs.length - (k + 1))
      case measure => have := H.2.2.2.2.1; omega
      case rel => exact ⟨k + 1, true, by go_num, rfl, Hm H.2.2.2.2.1, (acc ++ [(n, Value.slice ua ul uc)]), gm.same (gm.new H.1 HD.2.2.1 hn0 hn1) MJ, bi jv.out (below_drewN (Below.refl _ X2) nq) G7, below_drewN HB2.out nq⟩
     ·have hne : m ≠ n := heq
      clear heq;have uR := hd1 hne;have b2 : (m == n) = false := by simpa using hne
      have b3 : (m != n) = true := by simpa using hne
      clear hne;go_quiet (fail)
      go_wp2_with (refine ng rfl (.tmp 68) (.tmp 74) 57 rfl W0.heap.size W0.heap.size W0 ((below_drewN HB2.out nq).alloc Nb _) G7 jO (.agg #[.int .i64 0, .slice none 0 0]) 2 32 Io wB rfl GY _ (acc ++ [(n, Value.slice ua ul uc)]).length (iN (acc ++ [(n, Value.slice ua ul uc)])) rfl (bi (bi jv.out (below_drewN (Below.refl _ X2) nq) G7) (bla) G7) _ 1 [.int .i64 m, Value.slice ka kl kc] rfl (vG _ m (Value.slice ka kl kc) rfl) (by have := H.2.2.2.2.2.2.2; unfold maxLen; simp only [IQ, K8]; omega) (by have := H.2.2.2.2.2.2.2; simp only [IQ, K8]; omega) MX ?_
                   intro v3 W3 iD hb3 _;obtain ⟨g3, c3, rfl⟩ := lD iD.out GX;have HB3 := hd1 hb3;clear hb3)
      go_roundg (secs.length - (k + 1))
      case measure => have := H.2.2.2.2.1; omega
      case rel => exact ⟨k + 1, true, by go_num, rfl, Hm H.2.2.2.2.1, (acc ++ [(n, Value.slice ua ul uc)]) ++ [(m, Value.slice ka kl kc)], gm.old (gm.new H.1 HD.2.2.1 hn0 hn1) BP.out H.2.2.2.1 uR.out Mx H.2.2.2.2.2.2.1.2.1 H.2.2.2.2.2.2.1.2.2, by rw [wK]; simpa using iD.out, HB3.out⟩
    ·have b1 : decide (n <= m) = false := by simp; omega
     obtain ⟨x0, x1, x2, x3, x4⟩ := FX.out wr hbl;have HB1 := hd1 hbl;clear hbl;go_upto_region 9 with fail
     go_quiet (fail)
     go_upto_region 12 with fail
     have HB2 := hd1 (below_drewN HB1.out nq);have jv := hd1 (bi H.2.1 (below_drewN (Below.refl _ wr) nq) G7);clear x0 x1 x2 x3 x4;generalize wr.drewN nq = X2 at *;obtain ⟨y0, y1, y2, y3, y4⟩ := FX.out X2 HB2.out;have hne : m ≠ n := GX;have uR := hd1 hne;have b2 : (m == n) = false := by simpa using hne
     have b3 : (m != n) = true := by simpa using hne
     clear hne;go_quiet (fail)
     go_wp2_with (refine ng rfl (.tmp 68) (.tmp 74) 57 rfl W0.heap.size W0.heap.size W0 ((below_drewN HB2.out nq).alloc Nb _) G7 jO (.agg #[.int .i64 0, .slice none 0 0]) 2 32 Io wB rfl GY _ acc.length (iN acc) rfl (bi (bi jv.out (below_drewN (Below.refl _ X2) nq) G7) (bla) G7) _ 1 [.int .i64 m, Value.slice ka kl kc] rfl (vG _ m (Value.slice ka kl kc) rfl) MK MZ MX ?_
                  intro v3 W3 iD hb3 _;obtain ⟨g3, c3, rfl⟩ := lD iD.out GX;have HB3 := hd1 hb3;clear hb3)
     go_roundg (secs.length - (k + 1))
     case measure => have := H.2.2.2.2.1; omega
     case rel => exact ⟨k + 1, false, by go_num, rfl, Hm H.2.2.2.2.1, acc ++ [(m, Value.slice ka kl kc)], gm.old H.1 BP.out H.2.2.2.1 uR.out Mx H.2.2.2.2.2.2.1.2.1 H.2.2.2.2.2.2.1.2.2, by rw [wK]; simpa using iD.out, HB3.out⟩
   ·by_cases wC : n <= m
    ·have b1 : decide (n <= m) = true := by simp; omega
     obtain ⟨x0, x1, x2, x3, x4⟩ := FX.out wr hbl;have HB1 := hd1 hbl;clear hbl;go_upto_region 9 with fail
     go_quiet (fail)
     go_upto_region 12 with fail
     have HB2 := hd1 (below_drewN HB1.out nq);have jv := hd1 (bi H.2.1 (below_drewN (Below.refl _ wr) nq) G7);clear x0 x1 x2 x3 x4;generalize wr.drewN nq = X2 at *;obtain ⟨y0, y1, y2, y3, y4⟩ := FX.out X2 HB2.out;by_cases heq : m = n
     ·have HEQ := hd1 heq
      have b2 : (m == n) = true := by simpa using heq
      have b3 : (m != n) = false := by simpa using heq
      clear heq;go_quiet (fail)
      go_wp2_with fail
      go_roundg (secs.length - (k + 1))
      case measure => have := H.2.2.2.2.1; omega
      case rel => exact ⟨k + 1, true, by go_num, rfl, Hm H.2.2.2.2.1, acc, gm.same H.1 MJ, bi jv.out (below_drewN (Below.refl _ X2) nq) G7, below_drewN HB2.out nq⟩
     ·have hne : m ≠ n := heq
      clear heq;exact OA
    ·have b1 : decide (n <= m) = false := by simp; omega
     obtain ⟨x0, x1, x2, x3, x4⟩ := FX.out wr hbl;have HB1 := hd1 hbl;clear hbl;go_upto_region 9 with fail
     go_quiet (fail)
     go_upto_region 12 with fail
     have HB2 := hd1 (below_drewN HB1.out nq);have jv := hd1 (bi H.2.1 (below_drewN (Below.refl _ wr) nq) G7);clear x0 x1 x2 x3 x4;generalize wr.drewN nq = X2 at *;obtain ⟨y0, y1, y2, y3, y4⟩ := FX.out X2 HB2.out;have hne : m ≠ n := GX;exact OA
  ·obtain rfl : k = secs.length := GX
   have OKS := hd1 HD.2.1;have hal : acc.length <= 8192 := by have := rel.len; split at this <;> omega
   obtain ⟨ua, uc, eu⟩ := HD.2.2.1.slice;generalize l.length = ul at eu;subst eu;have g0 := (hbl.block _ (aa HD.2.2.2.2.1)).trans HD.2.2.2.2.1;have g1 := (hbl.block _ (aa HD.2.2.2.2.2.1)).trans HD.2.2.2.2.2.1;have x0 : wr.cell? w.heap.size = some (.slice sa secs.length sc) := ae g0 rfl;have x1 : wr.cell? (w.heap.size + 1, 1) = some (.int .i64 n) := ae g1 rfl;have x2 : wr.cell? (w.heap.size + 1, 3) = some (Value.slice ua ul uc) := ae g1 rfl;have f0 : wr.frozen? ⟨w.heap.size, 0, none⟩ = false := aU g0 _;have H := hd4 rel own hbl hal;have hrow : ∀ X, Below W0 W0 X -> ∀ v, (X.setCell w.heap.size v).heap[w.heap.size]? = some (.cells #[v, t0, t1, t2, t3] aO) /\ (X.setCell w.heap.size v).heap[w.heap.size + 1 + 1]? = some (.cells eX aO) /\ X.frozen? ⟨w.heap.size, 0, none⟩ = false /\ X.cell? w.heap.size = some (.slice sa secs.length sc) := λ X hX v => by
    have q0 := (hX.block _ (aa HD.2.2.2.2.1)).trans HD.2.2.2.2.1;have q2 := (hX.block _ (aa HD.2.2.2.2.2.2.1)).trans HD.2.2.2.2.2.2.1;exact ⟨(IU X w.heap.size 0 _ aO v q0).trans rfl, (IW X ⟨w.heap.size, 0, none⟩ (w.heap.size + 1 + 1) v MR).trans q2, aU q0 _, ae q0 rfl⟩
   have HR := hd1 hrow;clear rel own hbl hal g0 g1 hrow;have ones : ∀ a m c, (#[Value.slice a m c, t0, t1, t2, t3] : Array Value).all (·.oneCell') = true := λ a m c => by have := HD.2.2.2.2.2.2.2.2; simp at this ⊢; exact ⟨rfl, this.2⟩
   have ON := hd1 ones;clear ones;cases pb
   ·go_upto_region 16 with (refine ng rfl (.tmp 78) (.tmp 84) 57 rfl W0.heap.size W0.heap.size W0 (H.2.2.1.alloc (by have := H.2.2.1.size; exact this) _) G7 jO (.agg #[.int .i64 0, .slice none 0 0]) 2 32 Io wB rfl GY _ acc.length (iN acc) rfl (bi H.2.1 (bla) G7) _ 1 [.int .i64 n, Value.slice ua ul uc] rfl (vG _ n (Value.slice ua ul uc) rfl) (by have := H.2.2.2; unfold maxLen; omega) (Hm H.2.2.2) (by have := H.2.2.1.size; simp; exact KV this) ?_
                            intro v1 X2 lZ hb1 _;obtain ⟨g1, c1, rfl⟩ := lD lZ.out GX;have HB2 := hd1 hb1;clear hb1)
    have jv : Hid (X2.ownsRow W0.heap.size jO 2 (.slice (some g1) (acc.length + 1) c1) (acc ++ [(n, Value.slice ua ul uc)]).length (iN (acc ++ [(n, Value.slice ua ul uc)]))) := by
     exact Sd
    clear lZ x0 x1 x2 f0;obtain ⟨_, _, y3, y4⟩ := HR.out X2 HB2.out (.slice (some ⟨g1, 0, none⟩) (acc.length + 1) c1)
    go_wp2_with (first
     | (refine He (HR.out X2 HB2.out _).1 Ib bX ?_)
     | (refine aD rfl aO _ _ rfl (w.heap.size + 1 + 1) #[.slice (some ⟨g1, 0, none⟩) (acc.length + 1) c1, t0, t1, t2, t3] rfl rfl aO eX (HR.out X2 HB2.out _).2.1 bX rfl (ON.out _ _ _) ?_
        intro W5 aF az bf))
    refine Hg aF.out Ib bX ?_;exact y0f (gm.new H.1 HD.2.2.1 hn0 hn1) OKS.out HD.2.2.2.1 HD.2.2.2.2.2.2.2.1 jv.out HB2.out az
   ·obtain ⟨_, _, y3, y4⟩ := HR.out wr H.2.2.1 (.slice va acc.length vc)
    go_wp2_with (first
     | (refine He (HR.out wr H.2.2.1 _).1 Ib bX ?_)
     | (refine aD rfl aO _ _ rfl (w.heap.size + 1 + 1) #[.slice va acc.length vc, t0, t1, t2, t3] rfl rfl aO eX (HR.out wr H.2.2.1 _).2.1 bX rfl (ON.out _ _ _) ?_
        intro W5 aF az bf))
    refine Hg aF.out Ib bX ?_;exact y0f H.1 OKS.out HD.2.2.2.1 HD.2.2.2.2.2.2.2.1 H.2.1 H.2.2.1 az
end Go.Proofs.YtgffifleflkjoaaGreat
