/-
  Parts of a proof.
-/
import Derived.Test.YtgffifleflkjoaaGreatFin03
import Derived.Shelf.SlMaps.Clone
set_option linter.unusedSimpArgs false
set_option linter.unusedVariables false
set_option maxRecDepth 100000
set_option maxHeartbeats 16000000
namespace Go.Proofs.YtgffifleflkjoaaGreat
open _root_.Go.Proofs.Tryz
variable {w W w' w0 wr w1 W0 W1 W2 A B : World} {F G F' O : Nat → Prop} {v : Value} {l : List UInt8} {n q m pd md pl g p : Nat} {C : Array Value} {c : Int}
open Go.RowKit Dm
theorem BytesAt.stays {h h' : Array Obj} (x : BytesAt h F v l) (hs : ∀ k, F k -> h'[k]? = h[k]?) (hF : ∀ k, F k -> F' k) : BytesAt h' F' v l := by
 rcases x with x | ⟨b, o, cap, c, t, fr, h1, h2, h3, g2, g3, g4⟩
 ·exact IB x
 ·exact IC ⟨b, o, cap, c, t, fr, h1, h2, h3, hF _ g2, (hs _ g2).trans g3, g4⟩
theorem iZ.stays {h h' : Array Obj} {f : Int -> List UInt8} (x : iZ h m f) (hs : h'[m]? = h[m]?) : iZ h' m f := by
 obtain ⟨es, clock, h1, h2⟩ := x;exact ⟨es, clock, hs.trans h1, h2⟩
theorem gI.stays {h h' : Array Obj} {s : Step} {a b c d e f g : Value} (x : gI h F s a b c d e f g) (hs : ∀ k, F k -> h'[k]? = h[k]?) (hF : ∀ k, F k -> F' k) : gI h' F' s a b c d e f g := by
 obtain ⟨h1, h2, h3, h4, h5⟩ := x;refine ⟨h1, h2, h3, h4, ?_⟩;rcases h5 with ⟨g1, g2, bn, bx, f1, f2, g3, g4, g5, g6⟩ | ⟨g1, g2, bt, bx, mR, bx', v, f1, f2, f3, f4, g3, g4, g5, g6, g7, g8, g9⟩ | ⟨g1, g2, bt, bn, f1, f2, g3, g4, g5, g6⟩
 ·exact IB ⟨g1, g2, bn, bx, hF _ f1, hF _ f2, g3, g4, (hs _ f1).trans g5, (hs _ f2).trans g6⟩
 ·exact IC (IB ⟨g1, g2, bt, bx, mR, bx', v, hF _ f1, hF _ f2, hF _ f3, hF _ f4, g3, g4, (hs _ f1).trans g5, (hs _ f3).trans g6, (hs _ f2).trans g7, (hs _ f4).trans g8, g9.stays hs hF⟩)
 ·exact IC (IC ⟨g1, g2, bt, bn, hF _ f1, hF _ f2, g3, g4, (hs _ f1).trans g5, (hs _ f2).trans g6⟩)
theorem iX.stays {h h' : Array Obj} {l : List Step} (x : iX h F v l) (hs : ∀ k, F k -> h'[k]? = h[k]?) (hF : ∀ k, F k -> F' k) : iX h' F' v l := by
 rcases x with x | ⟨b, o, cap, c, t, fr, h1, h2, h3, g2, g3, g4⟩
 ·exact IB x
 ·refine IC ⟨b, o, cap, c, t, fr, h1, h2, h3, hF _ g2, (hs _ g2).trans g3, λ i s hi => ?_⟩
  obtain ⟨d, p, tp, w0, w1, w2, st, e0, e1, e2, e3, e4, e5, e6, e7⟩ := g4 i s hi;exact ⟨d, p, tp, w0, w1, w2, st, e0, e1, e2, e3, e4, e5, e6, e7.stays hs hF⟩
theorem aQ.stays {h h' : Array Obj} {d : D} (x : aQ h p m d F) (hp : h'[p]? = h[p]?) (hm : h'[m]? = h[m]?) (hs : ∀ k, F k -> h'[k]? = h[k]?) : aQ h' p m d F := by
 obtain ⟨ok, t0, t1, t2, t3, ml, l0, l1, l2, l3, wv, stops, after, c1, c2, c3, c4, c5, c6, c7, c8, c9, b0, b1, b2, b3, b4, b5, b6, b7, st⟩ := x
 exact ⟨ok, t0, t1, t2, t3, ml, l0, l1, l2, l3, wv, stops, after, hp.trans c1, c2, c3, c4.stays hm, c5.stays (hs _ c6), c6, c7, c8, c9, b0.stays hs (λ _ h => h), b1.stays hs (λ _ h => h), b2.stays hs (λ _ h => h), b3.stays hs (λ _ h => h),
  b4.stays hs (λ _ h => h), b5.stays hs (λ _ h => h), b6.stays hs (λ _ h => h), b7.stays hs (λ _ h => h), st.stays hs (λ _ h => h)⟩
theorem infoByte : (prog.info? bV).map (λ i => (i.zero, i.size, i.bytes)) = some (some (.int .u8 0), 1, 1) := GV
def z2u (w : World) (l : List UInt8) (e : Ending) (w' : World) : Prop := ∃ v', e = .returned v' /\ Below w.heap.size w w' /\ BytesAt w'.heap (λ k => w.heap.size <= k) v' l
theorem Dn {base : Nat} (h : w.ownsRow base bV 1 v n (l.map bO)) (hn : n = l.length) : BytesAt w.heap (λ k => base <= k) v l := by
 subst hn;obtain ⟨_, h⟩ := h;rcases h with ⟨rfl, h⟩ | ⟨g, cap, cur, rfl, hg, hh, h1, h2, h3, h4⟩
 ·exact IB ⟨rfl, by simpa using h⟩
 ·refine IC ⟨g, 0, cap, cur, bV, (0, 0), rfl, h1, by unfold maxLen at h2; omega, hg, hh, λ i x hi => ?_⟩
  have hlt : i < l.length := (I4.1 hi).1;have e : (cur.toList.take (l.length * 1))[i]? = some (bO x) := by rw [h4]; simp [hi]
  rw [JR, IE GX] at e;rw [Ja];simpa using e
theorem y1s (w : World) : Calls prog 98 #[()] w λ e w' => e = .returned (.slice none 0 0) /\ w = w' := by
 have h1 := K5 (P := prog);go_in;go_wp2;exact OI
theorem x8r (b o cap : Nat) (l : List UInt8) (w : World) (hl : l.length <= 1099511627776) (hc : ∀ i x, l[i]? = some x -> w.cell? ⟨b, o + i, none⟩ = some (bO x)) :
 Calls prog 98 #[.slice (some (b, o)) l.length cap] w (z2u w l) := by
 obtain ⟨i0, hi, hz0, hz1, hz2⟩ := JL infoByte
 have hown : (w.alloc (.cells #[] bV)).ownsRow w.heap.size bV 1 (.slice (some w.heap.size) 0 0) 0 [] :=
  ⟨rfl, IC ⟨w.heap.size, 0, #[], rfl, Nat.le_refl _, II _ _, Nat.le_refl _, IY _, rfl, rfl⟩⟩
 have HC := hd1 hc;have HO := hd1 hown;have HI := hd4 hi hz0 hz1 hz2;clear hc hown hi hz0 hz1 hz2;have s2 : ∀ j u, (l.map bO)[j]? = some u -> (w.alloc (.cells #[] bV)).cell? ((⟨b, o, none⟩ : Addr).add j) = some u := by
  exact PD
 have s3 : ∀ u ∈ l.map bO, u.oneCell' = true := by
  intro u hu;exact QA
 have HS := hd2 s2 s3;clear s2 s3;have hnil := λ (w : World) (a : Option Addr) (n c : Nat) => K5 (P := prog) w 31 bV a n c 0 0 Ih;go_in;go_wp2_with (at_builtin; refine Kn _ rfl (.tmp 5) (.tmp 6) 31 rfl w.heap.size bV i0 (.int .u8 0) 1 1 Ih HI.1 HI.2.1 HI.2.2.1 HI.2.2.2 rfl GY _ 0 [] rfl HO.out ⟨b, o, none⟩ l.length cap (l.map bO) rfl GZ HS.1 HS.2 Ns GX GZ ?_; intro v' w1 hown1 hgrow _)
 go_ret;refine ⟨_, rfl, ((bla).grown hgrow GZ (λ k e => by cases e; exact Nat.le_refl _)), ?_⟩;rw [Jj] at hown1;exact Dn hown1 GZ
theorem lD {base e size : Nat} {xs : List Value} (h : w.ownsRow base e size v n xs) (hn : 0 < n) : ∃ g cap, v = .slice (some ⟨g, 0, none⟩) n cap := by
 rcases h.2 with ⟨_, h0⟩ | ⟨g, cap, cur, hv, _⟩
 ·omega
 ·exact ⟨g, cap, hv⟩
def z1c (w : World) (q t : Nat) (l : List UInt8) (w' : World) : Prop :=
 ∃ v' w1, Below w.heap.size w w1 /\ BytesAt w1.heap (λ k => w.heap.size <= k) v' l /\ w' = w1.setCell ⟨q, 1 + t, none⟩ v'
theorem x9d (q bt bx t b o len cap b2 o2 cap2 : Nat) (l l2 : List UInt8) (w : World) (ht : t < 4) (hb : len = l.length) (hcap : cap <= 9223372036854775807) (hlc : len <= cap) (h1 : l.length + l2.length <= 1099511627776) (h2 : 0 < l2.length)
 (hbt : w.cell? bt = some (.int .i64 t)) (hbx : w.cell? bx = some (.slice (some (b2, o2)) l2.length cap2)) (hq : w.cell? (q, 1 + t) = some (.slice (some ⟨b, o, none⟩) len cap)) (hf : w.frozen? ⟨q, 1 + t, none⟩ = false)
 (hc : ∀ i x, l[i]? = some x -> w.cell? ⟨b, o + i, none⟩ = some (bO x)) (hc2 : ∀ i x, l2[i]? = some x -> w.cell? ⟨b2, o2 + i, none⟩ = some (bO x)) :
 Calls prog 142 #[q, bt, bx] w λ e w' => e = .returned (.tuple #[]) /\ z1c w q t (l ++ l2) w' := by
 obtain ⟨i0, hi, hz0, hz1, hz2⟩ := JL infoByte;have HI := hd4 hi hz0 hz1 hz2;have HC := hd2 hc hc2;have HB := hd1 hb;clear hi hz0 hz1 hz2 hc hc2 hb;have hz : (0 : Int) <= (t : Int) := GX;have rE : (t : Int) < 4 := GX;go_in;go_wp2;go_quiet (fail)
 go_wp2;have hadd : ∀ (b o j : Nat), (⟨b, o, none⟩ : Addr).add j = ⟨b, o + j, none⟩ := λ b o j => by unfold Addr.add; split <;> simp_all
 have read : ∀ (b o : Nat) (l : List UInt8), (∀ i x, l[i]? = some x -> w.cell? ⟨b, o + i, none⟩ = some (bO x)) -> ∀ j u, (l.map bO)[j]? = some u -> w.cell? ((⟨b, o, none⟩ : Addr).add j) = some u := by
  exact QB
 have R1 := hd1 (read b o l HC.1);have R2 := hd1 (read b2 o2 l2 HC.2);have R3 : Hid (∀ u ∈ l2.map bO, u.oneCell' = true) := λ u hu => by
  exact QA
 clear read hadd;have p8 := IZ hbt;have yK := IZ hq;have ll : ((len : Nat) : Int) <= (cap : Int) := GX;go_region_law ((refine step_append_grows rfl (.tmp 18) (.tmp 19) 31 rfl bV i0 (.int .u8 0) 1 1 Ih HI.1 HI.2.1 HI.2.2.1 HI.2.2.2 rfl GY (some ⟨b, o, none⟩) len len (l.map bO) rfl (λ e => by cases e) (by rw [HB.out]; simp) (λ b' e j u hj => by cases e; exact R1.out j u hj) ⟨b2, o2, none⟩ l2.length cap2 (l2.map bO) rfl GZ (λ j u hj => R2.out j u hj) R3.out GX (by unfold maxLen; rw [HB.out]; omega) (by rw [HB.out]; omega) ?_; intro v' w1 hown1 hgrow1; obtain ⟨g1, y1o, rfl⟩ := lD hown1 GX; have k1 : w1.cell? bt = some (.int .i64 t) := (I1 (w := w) (hgrow1.block bt p8 GZ)).trans hbt; have k2 : w1.cell? (q, 1 + t) = some (.slice (some ⟨b, o, none⟩) len cap) := (I1 (w := w) (hgrow1.block q yK GZ)).trans hq; have k3 : w1.frozen? ⟨q, 1 + t, none⟩ = false := (World.frozen?_of_block (w := w) (hgrow1.block q yK GZ)).trans hf))
 all_goals
  go_end0
  refine ⟨rfl, _, w1, ⟨hgrow1.os, hgrow1.tape, hgrow1.output, hgrow1.size, λ k hk => hgrow1.block k hk GZ⟩, ?_, rfl⟩;rw [<-Ki] at hown1;exact Dn hown1 (by rw [HB.out]; simp)
theorem x9b (q bt bx t b2 o2 cap2 : Nat) (l2 : List UInt8) (w : World) (ht : t < 4) (h1 : l2.length <= 1099511627776) (h2 : 0 < l2.length)
 (hbt : w.cell? bt = some (.int .i64 t)) (hbx : w.cell? bx = some (.slice (some (b2, o2)) l2.length cap2)) (hq : w.cell? (q, 1 + t) = some (.slice none 0 0)) (hf : w.frozen? ⟨q, 1 + t, none⟩ = false)
 (hc2 : ∀ i x, l2[i]? = some x -> w.cell? ⟨b2, o2 + i, none⟩ = some (bO x)) :
 Calls prog 142 #[q, bt, bx] w λ e w' => e = .returned (.tuple #[]) /\ z1c w q t l2 w' := by
 obtain ⟨i0, hi, hz0, hz1, hz2⟩ := JL infoByte;have HI := hd4 hi hz0 hz1 hz2;have HC := hd1 hc2;clear hi hz0 hz1 hz2 hc2;have hz : (0 : Int) <= (t : Int) := GX;have rE : (t : Int) < 4 := GX;go_in;go_wp2;go_quiet (fail)
 go_wp2;have hadd : ∀ (b o j : Nat), (⟨b, o, none⟩ : Addr).add j = ⟨b, o + j, none⟩ := λ b o j => by unfold Addr.add; split <;> simp_all
 have read : ∀ (b o : Nat) (l : List UInt8), (∀ i x, l[i]? = some x -> w.cell? ⟨b, o + i, none⟩ = some (bO x)) -> ∀ j u, (l.map bO)[j]? = some u -> w.cell? ((⟨b, o, none⟩ : Addr).add j) = some u := by
  exact QB
 have R2 := hd1 (read b2 o2 l2 HC.out);have R3 : Hid (∀ u ∈ l2.map bO, u.oneCell' = true) := λ u hu => by
  exact QA
 clear read hadd;have p8 := IZ hbt;have yK := IZ hq;go_region_law ((refine step_append_grows rfl (.tmp 18) (.tmp 19) 31 rfl bV i0 (.int .u8 0) 1 1 Ih HI.1 HI.2.1 HI.2.2.1 HI.2.2.2 rfl GY none 0 0 [] rfl (λ _ => ⟨rfl, rfl⟩) rfl (λ b' e j u hj => by cases e) ⟨b2, o2, none⟩ l2.length cap2 (l2.map bO) rfl GZ (λ j u hj => R2.out j u hj) R3.out GX Ns GX ?_; intro v' w1 hown1 hgrow1; obtain ⟨g1, y1o, rfl⟩ := lD hown1 GX; have k1 : w1.cell? bt = some (.int .i64 t) := (I1 (w := w) (hgrow1.block bt p8 GZ)).trans hbt; have k2 : w1.cell? (q, 1 + t) = some (.slice none 0 0) := (I1 (w := w) (hgrow1.block q yK GZ)).trans hq; have k3 : w1.frozen? ⟨q, 1 + t, none⟩ = false := (World.frozen?_of_block (w := w) (hgrow1.block q yK GZ)).trans hf))
 all_goals
  go_end0
  refine ⟨rfl, _, w1, ⟨hgrow1.os, hgrow1.tape, hgrow1.output, hgrow1.size, λ k hk => hgrow1.block k hk GZ⟩, ?_, rfl⟩;have hown2 : w1.ownsRow w.heap.size bV 1 (.slice (some g1) l2.length y1o) l2.length (l2.map bO) := by simpa using hown1
  first
   | exact Dn hown2 rfl
   | (rw [Ja]; exact Dn hown2 rfl)
theorem x9c (q bt bx t len cap c2 : Nat) (ao a2 : Option Addr) (hao : (ao = none /\ len = 0 /\ cap = 0) \/ ∃ b o : Nat, ao = some ⟨b, o, none⟩) (ha2 : (a2 = none /\ c2 = 0) \/ ∃ b o : Nat, a2 = some ⟨b, o, none⟩) (w : World) (ht : t < 4) (hcap : cap <= 9223372036854775807) (hlc : len <= cap)
 (hbt : w.cell? bt = some (.int .i64 t)) (hbx : w.cell? bx = some (.slice a2 0 c2)) (hq : w.cell? (q, 1 + t) = some (.slice ao len cap)) (hf : w.frozen? ⟨q, 1 + t, none⟩ = false) :
 Calls prog 142 #[q, bt, bx] w λ e w' => e = .returned (.tuple #[]) /\ ∃ n, w' = (w.drewN n).setCell (q, 1 + t) (.slice ao len len) := by
 have hz : (0 : Int) <= (t : Int) := GX;have rE : (t : Int) < 4 := GX;have ll : ((len : Nat) : Int) <= (cap : Int) := GX;rcases hao with ⟨rfl, rfl, rfl⟩ | ⟨b, o, rfl⟩ <;> rcases ha2 with ⟨rfl, rfl⟩ | ⟨b2, o2, rfl⟩
 all_goals
  go_in;go_wp2;go_quiet (fail)
  go_wp2;go_region
  all_goals
   go_end0
   exact ⟨rfl, _, rfl⟩
def Dz (w : World) (F : Nat -> Prop) (q t : Nat) (l : List UInt8) (w' : World) : Prop :=
 ∃ v' w1, Below w.heap.size w w1 /\ BytesAt w1.heap (λ k => F k \/ w.heap.size <= k) v' l /\ w' = w1.setCell ⟨q, 1 + t, none⟩ v'
theorem BytesAt.cells {a : Option Addr} {c : Nat} (h : BytesAt w.heap F (.slice a n c) l) :
 n = l.length /\ l.length <= c /\ c <= 9223372036854775807 /\ ((a = none /\ n = 0 /\ c = 0 /\ l = []) \/ ∃ b o : Nat, a = some ⟨b, o, none⟩ /\ ∀ i x, l[i]? = some x -> w.cell? ⟨b, o + i, none⟩ = some (bO x)) := by
 rcases h with ⟨h1, rfl⟩ | ⟨b, o, cap, cs, t, fr, h1, h2, h3, g2, g3, g4⟩
 ·cases h1
  exact ⟨rfl, Nat.le_refl _, GX, IB ⟨rfl, rfl, rfl, rfl⟩⟩
 ·cases h1
  exact ⟨rfl, h2, h3, IC ⟨b, o, rfl, λ i x hi => (IM _ _ _ _ _ _ g3).trans (g4 i x hi)⟩⟩
theorem y1f (q bt bx t : Nat) (v v2 : Value) (l l2 : List UInt8) (F : Nat -> Prop) (w : World) (ht : t < 4) (h1 : l.length + l2.length <= 1099511627776)
 (hbt : w.cell? bt = some (.int .i64 t)) (hbx : w.cell? bx = some v2) (hq : w.cell? (q, 1 + t) = some v) (hf : w.frozen? ⟨q, 1 + t, none⟩ = false)
 (hv : BytesAt w.heap F v l) (hv2 : BytesAt w.heap F v2 l2) :
 Calls prog 142 #[q, bt, bx] w λ e w' => e = .returned (.tuple #[]) /\ Dz w F q t (l ++ l2) w' := by
 obtain ⟨a, n, c, rfl⟩ : ∃ a n c, v = .slice a n c := by rcases hv with ⟨rfl, _⟩ | ⟨b, o, cap, cs, t, fr, rfl, _⟩ <;> exact ⟨_, _, _, rfl⟩
 obtain ⟨a2, n2, c2, rfl⟩ : ∃ a n c, v2 = .slice a n c := by rcases hv2 with ⟨rfl, _⟩ | ⟨b, o, cap, cs, t, fr, rfl, _⟩ <;> exact ⟨_, _, _, rfl⟩
 obtain ⟨e1, e2, e3, e4⟩ := hv.cells;obtain ⟨k1, k2, k3, k4⟩ := hv2.cells;have up : ∀ w', z1c w q t (l ++ l2) w' -> Dz w F q t (l ++ l2) w' := λ w' ⟨v', w1, x1, x2, x3⟩ => ⟨v', w1, x1, x2.stays (λ _ _ => rfl) (λ _ => IC), x3⟩;rcases Md l2.length with h0 | h0
 ·obtain rfl : l2 = [] := JZ h0
  obtain rfl : n2 = 0 := k1;refine (x9c q bt bx t n c c2 a a2 ?_ ?_ w ht e3 GX hbt hbx hq hf).mono ?_
  ·rcases e4 with ⟨x1, x2, x3, _⟩ | ⟨b, o, x, _⟩
   ·exact IB ⟨x1, x2, x3⟩
   ·exact IC ⟨b, o, x⟩
  ·rcases k4 with ⟨x1, x2, x3, _⟩ | ⟨b, o, x, _⟩
   ·exact IB ⟨x1, x3⟩
   ·exact IC ⟨b, o, x⟩
  ·rintro e w' ⟨rfl, m, rfl⟩
   refine ⟨rfl, _, w.drewN m, ⟨rfl, rfl, rfl, Nat.le_refl _, λ _ _ => rfl⟩, ?_, rfl⟩;rw [JA];rcases hv with ⟨x1, rfl⟩ | ⟨b, o, cap, cs, t, fr, x1, x2, x3, g2, g3, g4⟩
   ·cases x1
    exact IB ⟨rfl, rfl⟩
   ·cases x1
    exact IC ⟨b, o, _, cs, t, fr, rfl, Nat.le_refl _, GX, IB g2, g3, g4⟩
 ·subst k1
  rcases k4 with ⟨_, x2, _⟩ | ⟨b2, o2, rfl, y⟩
  ·omega
  ·subst e1
   rcases e4 with ⟨rfl, x2, rfl, rfl⟩ | ⟨b, o, rfl, y1⟩
   ·refine (x9b q bt bx t b2 o2 c2 l2 w ht GX h0 hbt hbx hq hf y).mono ?_
    rintro e w' ⟨rfl, h⟩;exact ⟨rfl, up _ h⟩
   ·refine (x9d q bt bx t b o _ c b2 o2 c2 l l2 w ht rfl e3 e2 h1 h0 hbt hbx hq hf y1 y).mono ?_
    rintro e w' ⟨rfl, h⟩;exact ⟨rfl, up _ h⟩
theorem BytesAt.keeps {h h' : Array Obj} (x : BytesAt h F v l) (hs : ∀ k, F k -> k < h.size -> h'[k]? = h[k]?) (hF : ∀ k, F k -> k < h.size -> F' k) : BytesAt h' F' v l := by
 rcases x with x | ⟨b, o, cap, c, t, fr, h1, h2, h3, g2, g3, g4⟩
 ·exact IB x
 ·have lt := (Jk.1 g3).1
  exact IC ⟨b, o, cap, c, t, fr, h1, h2, h3, hF _ g2 lt, (hs _ g2 lt).trans g3, g4⟩
theorem aa {h : Array Obj} {b : Nat} {o : Obj} (g : h[b]? = some o) : b < h.size := (Jk.1 g).1
theorem gI.keeps {h h' : Array Obj} {s : Step} {a b c d e f g : Value} (x : gI h F s a b c d e f g) (hs : ∀ k, F k -> k < h.size -> h'[k]? = h[k]?) (hF : ∀ k, F k -> k < h.size -> F' k) : gI h' F' s a b c d e f g := by
 obtain ⟨h1, h2, h3, h4, h5⟩ := x;refine ⟨h1, h2, h3, h4, ?_⟩;rcases h5 with ⟨g1, g2, bn, bx, f1, f2, g3, g4, g5, g6⟩ | ⟨g1, g2, bt, bx, mR, bx', v, f1, f2, f3, f4, g3, g4, g5, g6, g7, g8, g9⟩ | ⟨g1, g2, bt, bn, f1, f2, g3, g4, g5, g6⟩
 ·exact IB ⟨g1, g2, bn, bx, hF _ f1 (aa g5), hF _ f2 (aa g6), g3, g4, (hs _ f1 (aa g5)).trans g5, (hs _ f2 (aa g6)).trans g6⟩
 ·exact IC (IB ⟨g1, g2, bt, bx, mR, bx', v, hF _ f1 (aa g5), hF _ f2 (aa g7), hF _ f3 (aa g6), hF _ f4 (aa g8), g3, g4, (hs _ f1 (aa g5)).trans g5, (hs _ f3 (aa g6)).trans g6, (hs _ f2 (aa g7)).trans g7, (hs _ f4 (aa g8)).trans g8, g9.keeps hs hF⟩)
 ·exact IC (IC ⟨g1, g2, bt, bn, hF _ f1 (aa g5), hF _ f2 (aa g6), g3, g4, (hs _ f1 (aa g5)).trans g5, (hs _ f2 (aa g6)).trans g6⟩)
theorem iX.keeps {h h' : Array Obj} {l : List Step} (x : iX h F v l) (hs : ∀ k, F k -> k < h.size -> h'[k]? = h[k]?) (hF : ∀ k, F k -> k < h.size -> F' k) : iX h' F' v l := by
 rcases x with x | ⟨b, o, cap, c, t, fr, h1, h2, h3, g2, g3, g4⟩
 ·exact IB x
 ·refine IC ⟨b, o, cap, c, t, fr, h1, h2, h3, hF _ g2 (aa g3), (hs _ g2 (aa g3)).trans g3, λ i s hi => ?_⟩
  obtain ⟨d, p, tp, w0, w1, w2, st, e0, e1, e2, e3, e4, e5, e6, e7⟩ := g4 i s hi;exact ⟨d, p, tp, w0, w1, w2, st, e0, e1, e2, e3, e4, e5, e6, e7.keeps hs hF⟩
def iY (h : Array Obj) (q m : Nat) (x : St) (F : Nat -> Prop) (ty : TypeId) (rest : List Value) : Prop :=
 ∃ t0 t1 t2 t3, h[q]? = some (.cells (.map (some m) :: t0 :: t1 :: t2 :: t3 :: rest).toArray ty (0, 0)) /\ iZ h m x.sec ∧
  BytesAt h F t0 (x.tp 0) /\ BytesAt h F t1 (x.tp 1) /\ BytesAt h F t2 (x.tp 2) /\ BytesAt h F t3 (x.tp 3) /\ ¬ F m /\ ¬ F q /\ m ≠ q
theorem iY.keeps {h h' : Array Obj} {x : St} {ty : TypeId} {rest : List Value} (s : iY h q m x F ty rest) (hq : h'[q]? = h[q]?) (hm : h'[m]? = h[m]?) (hs : ∀ k, F k -> k < h.size -> h'[k]? = h[k]?)
 (hF : ∀ k, F k -> k < h.size -> F' k) (hF' : ∀ k, F' k -> F k \/ h.size <= k) : iY h' q m x F' ty rest := by
 obtain ⟨t0, t1, t2, t3, c1, c2, b0, b1, b2, b3, n1, n2, n3⟩ := s;have lq := aa c1;have lm : m < h.size := by obtain ⟨es, cl, g, _⟩ := c2; exact aa g
 refine ⟨t0, t1, t2, t3, hq.trans c1, c2.stays hm, b0.keeps hs hF, b1.keeps hs hF, b2.keeps hs hF, b3.keeps hs hF, λ k => ?_, λ k => ?_, n3⟩
 ·rcases hF' _ k with k | k
  ·exact n1 k
  ·omega
 ·rcases hF' _ k with k | k
  ·exact n2 k
  ·omega
def plus (F : Nat -> Prop) (w w' : World) : Nat -> Prop := λ k => F k \/ (w.heap.size <= k /\ k < w'.heap.size)
structure u_ (w : World) (q m : Nat) (x : St) (F : Nat -> Prop) (ty : TypeId) (rest : List Value) (e : Ending) (w' : World) : Prop where
 ret : e = .returned (.tuple #[])
 moves : Moves (λ k => k = q \/ k = m) w w'
 stand : iY w'.heap q m x (plus F w w') ty rest
theorem EM {x : St} {ty : TypeId} {rest : List Value} (s : iY w.heap q m x F ty rest) (t : Nat) (ht : t < 4) (l : List UInt8) (v : Value) (hb : Below w w w1)
 (hv : BytesAt w1.heap (λ k => F k \/ w.heap.size <= k) v l) :
 iY (w1.setCell (q, 1 + t) v).heap q m { x with tp := upd x.tp t l } (plus F w (w1.setCell (q, 1 + t) v)) ty rest /\ Moves (λ k => k = q \/ k = m) w (w1.setCell (q, 1 + t) v) := by
 have hsz : (w1.setCell (q, 1 + t) v).heap.size = w1.heap.size := GZ;obtain ⟨t0, t1, t2, t3, c1, c2, b0, b1, b2, b3, n1, n2, n3⟩ := s;have lq := aa c1;have lm : m < w.heap.size := by obtain ⟨es, cl, g, _⟩ := c2; exact aa g
 have hq := IU w1 q (1 + t) _ ty v ((hb.block q lq).trans c1);have ho : ∀ k, k ≠ q -> (w1.setCell (q, 1 + t) v).heap[k]? = w1.heap[k]? := λ k hk => IW w1 _ k v hk
 have st : ∀ {u : Value} {y : List UInt8}, BytesAt w.heap F u y -> BytesAt (w1.setCell (q, 1 + t) v).heap (plus F w (w1.setCell (q, 1 + t) v)) u y := λ h =>
  h.keeps (λ k hk hl => (ho k (λ e => n2 (e ▸ hk))).trans (hb.block k hl)) (λ k hk _ => IB hk)
 have sv : BytesAt (w1.setCell (q, 1 + t) v).heap (plus F w (w1.setCell (q, 1 + t) v)) v l :=
  hv.keeps (λ k hk hl => ho k (λ e => by rcases hk with hk | hk; exact n2 (e ▸ hk); omega)) (λ k hk hl => by
   rcases hk with hk | hk
   ·exact IB hk
   ·exact IC ⟨hk, by rw [hsz]; exact hl⟩)
 refine ⟨?_, ⟨hb.os, hb.tape, hb.output, by rw [hsz]; exact hb.size, λ k hk hn => (ho k (λ e => hn (IB e))).trans (hb.block k hk)⟩⟩;have nm : ¬ plus F w (w1.setCell (q, 1 + t) v) m := λ k => by rcases k with k | k; exact n1 k; omega
 have nq : ¬ plus F w (w1.setCell (q, 1 + t) v) q := λ k => by rcases k with k | k; exact n2 k; omega
 have sm : iZ (w1.setCell (q, 1 + t) v).heap m x.sec := c2.stays ((ho m n3).trans (hb.block m lm));obtain rfl | rfl | rfl | rfl : t = 0 \/ t = 1 \/ t = 2 \/ t = 3 := GX
 ·exact ⟨v, t1, t2, t3, hq.trans GZ, sm, sv, st b1, st b2, st b3, nm, nq, n3⟩
 ·exact ⟨t0, v, t2, t3, hq.trans GZ, sm, st b0, sv, st b2, st b3, nm, nq, n3⟩
 ·exact ⟨t0, t1, v, t3, hq.trans GZ, sm, st b0, st b1, sv, st b3, nm, nq, n3⟩
 ·exact ⟨t0, t1, t2, v, hq.trans GZ, sm, st b0, st b1, st b2, sv, nm, nq, n3⟩
theorem iY.cell {x : St} {ty : TypeId} {rest : List Value} (s : iY w.heap q m x F ty rest) :
 w.cell? q = some (.map (some m)) /\ ∀ t : Nat, t < 4 -> ∃ v, w.cell? ⟨q, 1 + t, none⟩ = some v /\ w.frozen? ⟨q, 1 + t, none⟩ = false /\ BytesAt w.heap F v (x.tp t) := by
 obtain ⟨t0, t1, t2, t3, c1, c2, b0, b1, b2, b3, n1, n2, n3⟩ := s;refine ⟨by rw [IM _ _ _ _ _ _ c1]; simp, λ t ht => ?_⟩;have hf : ∀ i, w.frozen? ⟨q, i, none⟩ = false := λ i => by simp [World.frozen?, c1]
 obtain rfl | rfl | rfl | rfl : t = 0 \/ t = 1 \/ t = 2 \/ t = 3 := GX
 ·exact ⟨t0, by rw [IM _ _ _ _ _ _ c1]; simp, hf _, b0⟩
 ·exact ⟨t1, by rw [IM _ _ _ _ _ _ c1]; simp, hf _, b1⟩
 ·exact ⟨t2, by rw [IM _ _ _ _ _ _ c1]; simp, hf _, b2⟩
 ·exact ⟨t3, by rw [IM _ _ _ _ _ _ c1]; simp, hf _, b3⟩
end Go.Proofs.YtgffifleflkjoaaGreat
