/-
  Parts of a proof.
-/
import Derived.Test.YtgffifleflkjoaaGreatFin03
set_option linter.unusedSimpArgs false
set_option linter.unusedVariables false
set_option maxRecDepth 100000
set_option maxHeartbeats 16000000
namespace Go.Proofs.YtgffifleflkjoaaGreat
open _root_.Go.Proofs.Tryz
variable {w W w' w0 wr w1 W0 W1 W2 A B : World} {F G F' O : Nat → Prop} {v : Value} {l : List UInt8} {n q m pd md pl g p : Nat} {C : Array Value} {c : Int}
open Go.RowKit Dm
theorem kT {base e size : Nat} {xs : List Value} (h : w.ownsRow base e size v n xs) (hn : 0 < n) : ∃ g cap, v = .slice (some ⟨g, 0, none⟩) n cap := by
 rcases h.2 with ⟨_, h0⟩ | ⟨g, cap, cur, hv, _⟩
 ·omega
 ·exact ⟨g, cap, hv⟩
def z2w (w : World) (q t : Nat) (l : List UInt8) (w' : World) : Prop :=
 ∃ v' w1, Below w.heap.size w w1 /\ BytesAt w1.heap (λ k => w.heap.size <= k) v' l /\ w' = w1.setCell ⟨q, 1 + t, none⟩ v'
theorem x9a (q bt bx t b o len cap b2 o2 cap2 : Nat) (l l2 : List UInt8) (w : World) (ht : t < 4) (hb : len = l.length) (hcap : cap <= 9223372036854775807) (hlc : len <= cap) (h1 : l.length + l2.length <= 1099511627776) (h2 : 0 < l2.length)
 (hbt : w.cell? bt = some (.int .i64 t)) (hbx : w.cell? bx = some (.slice (some (b2, o2)) l2.length cap2)) (hq : w.cell? (q, 1 + t) = some (.slice (some ⟨b, o, none⟩) len cap)) (hf : w.frozen? ⟨q, 1 + t, none⟩ = false)
 (hc : ∀ i x, l[i]? = some x -> w.cell? ⟨b, o + i, none⟩ = some (bL x)) (hc2 : ∀ i x, l2[i]? = some x -> w.cell? ⟨b2, o2 + i, none⟩ = some (bL x)) :
 Calls prog 142 #[q, bt, bx] w λ e w' => e = .returned (.tuple #[]) /\ z2w w q t (l ++ l2) w' := by
 obtain ⟨i0, hi, hz0, hz1, hz2⟩ := JG infoByte;have HI := hd4 hi hz0 hz1 hz2;have HC := hd2 hc hc2;have HB := hd1 hb;clear hi hz0 hz1 hz2 hc hc2 hb;have hz : (0 : Int) <= (t : Int) := GR;have qW : (t : Int) < 4 := GR;go_in;go_wp2;go_quiet (fail)
 go_wp2;have hadd : ∀ (b o j : Nat), (⟨b, o, none⟩ : Addr).add j = ⟨b, o + j, none⟩ := λ b o j => by unfold Addr.add; split <;> simp_all
 have read : ∀ (b o : Nat) (l : List UInt8), (∀ i x, l[i]? = some x -> w.cell? ⟨b, o + i, none⟩ = some (bL x)) -> ∀ j u, (l.map bL)[j]? = some u -> w.cell? ((⟨b, o, none⟩ : Addr).add j) = some u := by
  exact Qw
 have R1 := hd1 (read b o l HC.1);have R2 := hd1 (read b2 o2 l2 HC.2);have R3 : Hid (∀ u ∈ l2.map bL, u.oneCell' = true) := λ u hu => by
  exact Qv
 clear read hadd;have pI := IX hbt;have yF := IX hq;have ll : ((len : Nat) : Int) <= (cap : Int) := GR;go_region_law ((refine step_append_grows rfl (.tmp 18) (.tmp 19) 31 rfl bT i0 (.int .u8 0) 1 1 Ia HI.1 HI.2.1 HI.2.2.1 HI.2.2.2 rfl GU (some ⟨b, o, none⟩) len len (l.map bL) rfl (λ e => by cases e) (by rw [HB.out]; simp) (λ b' e j u hj => by cases e; exact R1.out j u hj) ⟨b2, o2, none⟩ l2.length cap2 (l2.map bL) rfl GV (λ j u hj => R2.out j u hj) R3.out GR (by unfold maxLen; rw [HB.out]; omega) (by rw [HB.out]; omega) ?_; intro v' w1 hown1 hgrow1; obtain ⟨g1, y1o, rfl⟩ := kT hown1 GR; have k1 : w1.cell? bt = some (.int .i64 t) := (IW (w := w) (hgrow1.block bt pI GV)).trans hbt; have k2 : w1.cell? (q, 1 + t) = some (.slice (some ⟨b, o, none⟩) len cap) := (IW (w := w) (hgrow1.block q yF GV)).trans hq; have k3 : w1.frozen? ⟨q, 1 + t, none⟩ = false := (World.frozen?_of_block (w := w) (hgrow1.block q yF GV)).trans hf))
 all_goals
  go_end0
  refine ⟨rfl, _, w1, ⟨hgrow1.os, hgrow1.tape, hgrow1.output, hgrow1.size, λ k hk => hgrow1.block k hk GV⟩, ?_, rfl⟩;rw [<-J6] at hown1;exact Dj hown1 (by rw [HB.out]; simp)
theorem w0y (q bt bx t b2 o2 cap2 : Nat) (l2 : List UInt8) (w : World) (ht : t < 4) (h1 : l2.length <= 1099511627776) (h2 : 0 < l2.length)
 (hbt : w.cell? bt = some (.int .i64 t)) (hbx : w.cell? bx = some (.slice (some (b2, o2)) l2.length cap2)) (hq : w.cell? (q, 1 + t) = some (.slice none 0 0)) (hf : w.frozen? ⟨q, 1 + t, none⟩ = false)
 (hc2 : ∀ i x, l2[i]? = some x -> w.cell? ⟨b2, o2 + i, none⟩ = some (bL x)) :
 Calls prog 142 #[q, bt, bx] w λ e w' => e = .returned (.tuple #[]) /\ z2w w q t l2 w' := by
 obtain ⟨i0, hi, hz0, hz1, hz2⟩ := JG infoByte;have HI := hd4 hi hz0 hz1 hz2;have HC := hd1 hc2;clear hi hz0 hz1 hz2 hc2;have hz : (0 : Int) <= (t : Int) := GR;have qW : (t : Int) < 4 := GR;go_in;go_wp2;go_quiet (fail)
 go_wp2;have hadd : ∀ (b o j : Nat), (⟨b, o, none⟩ : Addr).add j = ⟨b, o + j, none⟩ := λ b o j => by unfold Addr.add; split <;> simp_all
 have read : ∀ (b o : Nat) (l : List UInt8), (∀ i x, l[i]? = some x -> w.cell? ⟨b, o + i, none⟩ = some (bL x)) -> ∀ j u, (l.map bL)[j]? = some u -> w.cell? ((⟨b, o, none⟩ : Addr).add j) = some u := by
  exact Qw
 have R2 := hd1 (read b2 o2 l2 HC.out);have R3 : Hid (∀ u ∈ l2.map bL, u.oneCell' = true) := λ u hu => by
  exact Qv
 clear read hadd;have pI := IX hbt;have yF := IX hq;go_region_law ((refine step_append_grows rfl (.tmp 18) (.tmp 19) 31 rfl bT i0 (.int .u8 0) 1 1 Ia HI.1 HI.2.1 HI.2.2.1 HI.2.2.2 rfl GU none 0 0 [] rfl (λ _ => ⟨rfl, rfl⟩) rfl (λ b' e j u hj => by cases e) ⟨b2, o2, none⟩ l2.length cap2 (l2.map bL) rfl GV (λ j u hj => R2.out j u hj) R3.out GR Nr GR ?_; intro v' w1 hown1 hgrow1; obtain ⟨g1, y1o, rfl⟩ := kT hown1 GR; have k1 : w1.cell? bt = some (.int .i64 t) := (IW (w := w) (hgrow1.block bt pI GV)).trans hbt; have k2 : w1.cell? (q, 1 + t) = some (.slice none 0 0) := (IW (w := w) (hgrow1.block q yF GV)).trans hq; have k3 : w1.frozen? ⟨q, 1 + t, none⟩ = false := (World.frozen?_of_block (w := w) (hgrow1.block q yF GV)).trans hf))
 all_goals
  go_end0
  refine ⟨rfl, _, w1, ⟨hgrow1.os, hgrow1.tape, hgrow1.output, hgrow1.size, λ k hk => hgrow1.block k hk GV⟩, ?_, rfl⟩;have hown2 : w1.ownsRow w.heap.size bT 1 (.slice (some g1) l2.length y1o) l2.length (l2.map bL) := by simpa using hown1
  first
   | exact Dj hown2 rfl
   | (rw [I8]; exact Dj hown2 rfl)
theorem w0z (q bt bx t len cap c2 : Nat) (ao a2 : Option Addr) (hao : (ao = none /\ len = 0 /\ cap = 0) \/ ∃ b o : Nat, ao = some ⟨b, o, none⟩) (ha2 : (a2 = none /\ c2 = 0) \/ ∃ b o : Nat, a2 = some ⟨b, o, none⟩) (w : World) (ht : t < 4) (hcap : cap <= 9223372036854775807) (hlc : len <= cap)
 (hbt : w.cell? bt = some (.int .i64 t)) (hbx : w.cell? bx = some (.slice a2 0 c2)) (hq : w.cell? (q, 1 + t) = some (.slice ao len cap)) (hf : w.frozen? ⟨q, 1 + t, none⟩ = false) :
 Calls prog 142 #[q, bt, bx] w λ e w' => e = .returned (.tuple #[]) /\ ∃ n, w' = (w.drewN n).setCell (q, 1 + t) (.slice ao len len) := by
 have hz : (0 : Int) <= (t : Int) := GR;have qW : (t : Int) < 4 := GR;have ll : ((len : Nat) : Int) <= (cap : Int) := GR;rcases hao with ⟨rfl, rfl, rfl⟩ | ⟨b, o, rfl⟩ <;> rcases ha2 with ⟨rfl, rfl⟩ | ⟨b2, o2, rfl⟩
 all_goals
  go_in;go_wp2;go_quiet (fail)
  go_wp2;go_region
  all_goals
   go_end0
   exact ⟨rfl, _, rfl⟩
def Dx (w : World) (F : Nat -> Prop) (q t : Nat) (l : List UInt8) (w' : World) : Prop :=
 ∃ v' w1, Below w.heap.size w w1 /\ BytesAt w1.heap (λ k => F k \/ w.heap.size <= k) v' l /\ w' = w1.setCell ⟨q, 1 + t, none⟩ v'
theorem BytesAt.cells {a : Option Addr} {c : Nat} (h : BytesAt w.heap F (.slice a n c) l) :
 n = l.length /\ l.length <= c /\ c <= 9223372036854775807 /\ ((a = none /\ n = 0 /\ c = 0 /\ l = []) \/ ∃ b o : Nat, a = some ⟨b, o, none⟩ /\ ∀ i x, l[i]? = some x -> w.cell? ⟨b, o + i, none⟩ = some (bL x)) := by
 rcases h with ⟨h1, rfl⟩ | ⟨b, o, cap, cs, t, fr, h1, h2, h3, g2, g3, g4⟩
 ·cases h1
  exact ⟨rfl, Nat.le_refl _, GR, Iy ⟨rfl, rfl, rfl, rfl⟩⟩
 ·cases h1
  exact ⟨rfl, h2, h3, Iz ⟨b, o, rfl, λ i x hi => (IJ _ _ _ _ _ _ g3).trans (g4 i x hi)⟩⟩
theorem y1f (q bt bx t : Nat) (v v2 : Value) (l l2 : List UInt8) (F : Nat -> Prop) (w : World) (ht : t < 4) (h1 : l.length + l2.length <= 1099511627776)
 (hbt : w.cell? bt = some (.int .i64 t)) (hbx : w.cell? bx = some v2) (hq : w.cell? (q, 1 + t) = some v) (hf : w.frozen? ⟨q, 1 + t, none⟩ = false)
 (hv : BytesAt w.heap F v l) (hv2 : BytesAt w.heap F v2 l2) :
 Calls prog 142 #[q, bt, bx] w λ e w' => e = .returned (.tuple #[]) /\ Dx w F q t (l ++ l2) w' := by
 obtain ⟨a, n, c, rfl⟩ : ∃ a n c, v = .slice a n c := by rcases hv with ⟨rfl, _⟩ | ⟨b, o, cap, cs, t, fr, rfl, _⟩ <;> exact ⟨_, _, _, rfl⟩
 obtain ⟨a2, n2, c2, rfl⟩ : ∃ a n c, v2 = .slice a n c := by rcases hv2 with ⟨rfl, _⟩ | ⟨b, o, cap, cs, t, fr, rfl, _⟩ <;> exact ⟨_, _, _, rfl⟩
 obtain ⟨e1, e2, e3, e4⟩ := hv.cells;obtain ⟨k1, k2, k3, k4⟩ := hv2.cells;have up : ∀ w', z2w w q t (l ++ l2) w' -> Dx w F q t (l ++ l2) w' := λ w' ⟨v', w1, x1, x2, x3⟩ => ⟨v', w1, x1, x2.stays (λ _ _ => rfl) (λ _ => Iz), x3⟩;rcases Mc l2.length with h0 | h0
 ·obtain rfl : l2 = [] := JU h0
  obtain rfl : n2 = 0 := k1;refine (w0z q bt bx t n c c2 a a2 ?_ ?_ w ht e3 GR hbt hbx hq hf).mono ?_
  ·rcases e4 with ⟨x1, x2, x3, _⟩ | ⟨b, o, x, _⟩
   ·exact Iy ⟨x1, x2, x3⟩
   ·exact Iz ⟨b, o, x⟩
  ·rcases k4 with ⟨x1, x2, x3, _⟩ | ⟨b, o, x, _⟩
   ·exact Iy ⟨x1, x3⟩
   ·exact Iz ⟨b, o, x⟩
  ·rintro e w' ⟨rfl, m, rfl⟩
   refine ⟨rfl, _, w.drewN m, ⟨rfl, rfl, rfl, Nat.le_refl _, λ _ _ => rfl⟩, ?_, rfl⟩;rw [Ju];rcases hv with ⟨x1, rfl⟩ | ⟨b, o, cap, cs, t, fr, x1, x2, x3, g2, g3, g4⟩
   ·cases x1
    exact Iy ⟨rfl, rfl⟩
   ·cases x1
    exact Iz ⟨b, o, _, cs, t, fr, rfl, Nat.le_refl _, GR, Iy g2, g3, g4⟩
 ·subst k1
  rcases k4 with ⟨_, x2, _⟩ | ⟨b2, o2, rfl, y⟩
  ·omega
  ·subst e1
   rcases e4 with ⟨rfl, x2, rfl, rfl⟩ | ⟨b, o, rfl, y1⟩
   ·refine (w0y q bt bx t b2 o2 c2 l2 w ht GR h0 hbt hbx hq hf y).mono ?_
    rintro e w' ⟨rfl, h⟩;exact ⟨rfl, up _ h⟩
   ·refine (x9a q bt bx t b o _ c b2 o2 c2 l l2 w ht rfl e3 e2 h1 h0 hbt hbx hq hf y1 y).mono ?_
    rintro e w' ⟨rfl, h⟩;exact ⟨rfl, up _ h⟩
end Go.Proofs.YtgffifleflkjoaaGreat
