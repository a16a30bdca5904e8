/-
  Parts of a proof.
-/
import Derived.Test.YtgffifleflkjoaaGreatFin28
import Derived.Test.YtgffifleflkjoaaGreatFin29
set_option linter.unusedSimpArgs false
set_option linter.unusedVariables false
set_option maxRecDepth 100000
set_option maxHeartbeats 16000000
namespace Go.Proofs.YtgffifleflkjoaaGreat
open _root_.Go.Proofs.Tryz
variable {w W w' w0 wr w1 W0 W1 W2 A B : World} {F G F' O : Nat → Prop} {v : Value} {l : List UInt8} {n q m pd md pl g p : Nat} {C : Array Value} {c : Int}
section
open Go.RowKit
attribute [local go_sem] Oper.semAt_some
abbrev Rd := Option (List UInt8)
def bS (most : Nat) (o : Rd) : Rd × Nat := match o.bind (Wm.bF most) with | some (n, l) => (some l, n) | none => (none, 0)
def dF (most : Nat) (o : Rd) : Rd × List UInt8 := match o.bind (Wm.dh most) with | some (s, l) => (some l, s) | none => (none, [])
def ig (o : Rd) : Rd × Bool := match o.bind Wm.iJ with | some (b, l) => (some l, b) | none => (none, false)
def Fz (o : Rd) : Int := match o with | some _ => 0 | none => 140
def jK (o : Rd) : Prop := ∀ l, o = some l -> l.length <= 1000000
theorem vz : jK none := λ _ h => by cases h
theorem yu {most : Nat} {o : Rd} (h : jK o) : jK (bS most o).1 := by
 unfold bS;cases o with
 | none => exact vz
 | some l =>
  cases hn : (some l).bind (Wm.bF most) with
  | none => exact vz
  | some p =>
   obtain ⟨n, l'⟩ := p;obtain ⟨k, _, _, _, _, _, hd⟩ := yg (show Wm.bF most l = some (n, l') from hn);intro x hx;cases hx;rw [hd, I5];have := h l rfl;omega
theorem yt {most : Nat} {o : Rd} (h : jK o) : jK (dF most o).1 := by
 unfold dF;cases o with
 | none => exact vz
 | some l =>
  cases hn : (some l).bind (Wm.dh most) with
  | none => exact vz
  | some p =>
   obtain ⟨s, l'⟩ := p;have := (kS (show Wm.dh most l = some (s, l') from hn)).1;intro x hx;cases hx;have := h l rfl;omega
theorem FD {o : Rd} (h : jK o) : jK (ig o).1 := by
 unfold ig;cases o with
 | none => exact vz
 | some l =>
  cases hn : (some l).bind Wm.iJ with
  | none => exact vz
  | some p =>
   obtain ⟨s, l'⟩ := p;have := AA (show Wm.iJ l = some (s, l') from hn);intro x hx;cases hx;have := h l rfl;omega
theorem vJ {o : Rd} {r : Value} {most : Nat} (h : dR w F o r) (hl : jK o) (hm : most <= 4611686018427387904) :
 Calls prog 165 #[r, .int .i64 most] w (gZ w F (bS most o).1 (.int .i64 (bS most o).2) (Fz (bS most o).1)) := by
 have := x0z h hl hm;unfold bS;cases hn : o.bind (Wm.bF most) with
 | none => rw [hn] at this; exact this
 | some p => rw [hn] at this; exact this
theorem Bf {o : Rd} {r : Value} {most : Nat} (h : dR w F o r) (hl : jK o) (hm : most <= 4611686018427387904) :
 Calls prog 166 #[r, .int .i64 most] w (gZ w F (dF most o).1 (ag (dF most o).2) (Fz (dF most o).1)) := by
 have := y9c h hl hm;unfold dF;cases hn : o.bind (Wm.dh most) with
 | none => rw [hn] at this; exact this
 | some p => rw [hn] at this; exact this
theorem y9h {o : Rd} {r : Value} (h : dR w F o r) (hl : jK o) :
 Calls prog 167 #[r] w (gZ w F (ig o).1 (.bool (ig o).2) (Fz (ig o).1)) := by
 have := y9f h hl;unfold ig;cases hn : o.bind Wm.iJ with
 | none => rw [hn] at this; exact this
 | some p => rw [hn] at this; exact this
theorem dR.form {o : Rd} {r : Value} (h : dR w F o r) : ∃ a n c, r = .agg #[.slice a n c, .bool o.isNone] /\ dR w F o (.agg #[.slice a n c, .bool o.isNone]) /\ ∀ l, o = some l -> n = l.length := by
 cases o with
 | none =>
  obtain ⟨a, n, c, rfl⟩ := h;exact ⟨a, n, c, rfl, ⟨a, n, c, rfl⟩, λ _ h => by cases h⟩
 | some l =>
  obtain ⟨v, rfl, hv⟩ := h;obtain ⟨a, c, rfl⟩ := hv.slice;exact ⟨a, _, c, rfl, ⟨_, rfl, hv⟩, λ _ h => by cases h; rfl⟩
theorem dR.through {W' : World} {o : Rd} {r : Value} {c : Nat} {a : Option Addr} {x : Bool} {t t' : TypeId} {fr fr' : Nat × Nat} {cs : Array Value} (h : dR W F o r) (hm : Moves (λ k => k = g) W W')
 (r1 : W.heap[g]? = some (.cells #[.slice a n c, .bool x] t fr)) (r2 : W'.heap[g]? = some (.cells cs t' fr')) : dR W' F o r := by
 cases o with
 | none => exact h
 | some l =>
  obtain ⟨v, h1, h2⟩ := h;exact ⟨v, h1, wL h2 hm r1 r2⟩
theorem y8a (l : List UInt8) : (match Em.fM l with
 | some (g, n) => (bS 3 (some l)).2 = 1 /\ (bS 2147483647 (bS 3 (some l)).1).2 = g /\ (bS 256 (bS 2147483647 (bS 3 (some l)).1).1).2 = n /\ (bS 256 (bS 2147483647 (bS 3 (some l)).1).1).1 = some [] /\ 0 < g
 | none => ¬ ((bS 256 (bS 2147483647 (bS 3 (some l)).1).1).1 = some [] /\ (bS 3 (some l)).2 = 1 /\ 0 < (bS 2147483647 (bS 3 (some l)).1).2)) := by
 unfold Em.fM;have e0 : bS 3 (some l) = match Wm.bF 3 l with | some (n, l) => (some l, n) | none => (none, 0) := rfl
 cases h1 : Wm.bF 3 l with
 | none =>
  rw [h1] at e0;simp only [e0];intro h;exact absurd h.1 (by simp [bS])
 | some p =>
  obtain ⟨k, ra⟩ := p;rw [h1] at e0;simp only [e0];have e1 : bS 2147483647 (some ra) = match Wm.bF 2147483647 ra with | some (n, l) => (some l, n) | none => (none, 0) := rfl
  by_cases hk : k ≠ 1
  ·rw [IA hk]
   exact λ h => hk h.2.1
  ·rw [Iw hk]
   cases h2 : Wm.bF 2147483647 ra with
   | none =>
    rw [h2] at e1;simp only [e1];intro h;exact absurd h.1 (by simp [bS])
   | some p =>
    obtain ⟨g, rb⟩ := p;rw [h2] at e1;simp only [e1];have e2 : bS 256 (some rb) = match Wm.bF 256 rb with | some (n, l) => (some l, n) | none => (none, 0) := rfl
    cases h3 : Wm.bF 256 rb with
    | none =>
     rw [h3] at e2;simp only [e2];intro h;cases h.1
    | some p =>
     obtain ⟨n, rc⟩ := p;rw [h3] at e2;simp only [e2];by_cases hq : rc = [] /\ 0 < g
     ·rw [IA hq]
      exact ⟨by simpa using hk, rfl, rfl, by rw [hq.1], hq.2⟩
     ·rw [Iw hq]
      intro h;exact hq ⟨IM h.1, h.2.2⟩
def xw (w : World) (l : List UInt8) (e : Ending) (w' : World) : Prop :=
 Below w.heap.size w w' /\ match Em.fM l with
  | some (g, n) => e = .returned (.tuple #[.int .i64 g, .int .i64 n, .bool true])
  | none => ∃ g n : Nat, e = .returned (.tuple #[.int .i64 g, .int .i64 n, .bool false])
theorem z6f (h : BytesAt w.heap F v l) (hl' : l.length <= 1000000) :
 Calls prog 133 #[v] w (xw w l) := by
 obtain ⟨a, c, rfl⟩ := h.slice;have hl : jK (some l) := λ x hx => by cases hx; exact hl'
 have RS := hd1 (y8a l);have S1 := yu (most := 3) hl;have S2 := yu (most := 2147483647) S1;generalize hN : l.length = N at *;clear hN;go_in
 go_upto_region 2 with (first
  | (go_at_call 165; refine (vJ (o := some l) ⟨_, rfl, h⟩ hl GU).mono ?_; rintro e w1 ⟨b1, r1, rfl, y1⟩; obtain ⟨a1, n1, c1, rfl, z1, m1⟩ := y1.form)
  | (refine aC rfl aK _ _ rfl w1.heap.size _ rfl rfl aK _ (IC w1 _) Ob rfl Nz ?_; intro W1 HW1 dH j_))
 have H1 := hd3 (show Below w w W1 from b1.trans (Below.mono (Moves.new ((Below.refl w1 w1).alloc GZ _) dH GZ) b1.size)) HW1.out (show dR W1 F _ _ from z1.later (Moves.new ((Below.refl w1 w1).alloc GZ _) dH GZ));have q1 : w.heap.size <= w1.heap.size := b1.size;clear b1 HW1 dH j_ y1 z1;generalize ho1 : bS 3 (some l) = p1 at *;obtain ⟨o1, k⟩ := p1;simp only at H1 S1 S2 RS m1 ⊢
 go_upto_region 3 with (first
  | (refine G_ H1.2.1 Hy bG ?_)
  | (go_at_call 165; refine (vJ H1.2.2 S1 GU).mono ?_; rintro e w2 ⟨b2, r2, rfl, y2⟩; obtain ⟨a2, n2, c2, rfl, z2, m2⟩ := y2.form)
  | (refine aC rfl aK _ _ rfl w1.heap.size _ rfl rfl aK _ ((b2.block _ (aa H1.2.1)).trans H1.2.1) Ob rfl Nz ?_; intro W2 HW2 cu HS2))
 have H2 := hd3 (show Below w w W2 from nE (H1.1.trans (b2.mono H1.1.size)) cu q1 (Jc (aa H1.2.1) b2.size)) HW2.out (show dR W2 F _ _ from z2.through cu ((b2.block _ (aa H1.2.1)).trans H1.2.1) HW2.out);clear b2 HW2 cu HS2 y2 z2;generalize ho2 : bS 2147483647 o1 = p2 at *;obtain ⟨o2, g⟩ := p2;simp only at H2 S2 RS m2 ⊢
 go_upto_region 4 with (first
  | (refine G_ H2.2.1 Hy bG ?_)
  | (go_at_call 165; refine (vJ H2.2.2 S2 GU).mono ?_; rintro e w3 ⟨b3, r3, rfl, y3⟩; obtain ⟨a3, n3, c3, rfl, z3, m3⟩ := y3.form)
  | (refine aC rfl aK _ _ rfl w1.heap.size _ rfl rfl aK _ ((b3.block _ (aa H2.2.1)).trans H2.2.1) Ob rfl Nz ?_; intro W3 HW3 bU fZ))
 have H3 := hd3 (show Below w w W3 from nE (H2.1.trans (b3.mono H2.1.size)) bU q1 (Jc (aa H2.2.1) b3.size)) HW3.out (show dR W3 F _ _ from z3.through bU ((b3.block _ (aa H2.2.1)).trans H2.2.1) HW3.out);clear b3 HW3 bU fZ y3 z3;generalize ho3 : bS 256 o2 = p3 at *;obtain ⟨o3, n⟩ := p3;simp only at H3 RS m3 ⊢;have f0 := ae H3.2.1 (j := 0) rfl;have f1 := ae H3.2.1 (j := 1) rfl;clear H1 H2 S1 S2 ho1 ho2 ho3 m1 m2 hl h;by_cases hb : o3 = some [] /\ k = 1 /\ 0 < g
 ·obtain ⟨rfl, rfl, hg⟩ := hb
  have e3 := m3 [] rfl;simp only [Jy] at e3;subst e3;have g0 : (0 : Int) < (g : Int) := GR;simp only [Option.isNone_some] at f1;clear m3;go_wp2;go_ret3
  refine ⟨H3.1, ?_⟩;have RS := RS.out;cases hr : Em.fM l with
  | none => rw [hr] at RS; exact absurd (by simpa using hg) RS
  | some p =>
   obtain ⟨g', n'⟩ := p;rw [hr] at RS;obtain ⟨_, rfl, rfl, _, _⟩ := RS;rfl
 ·have HN := hd1 (show Em.fM l = none by
   have RS := RS.out;cases hr : Em.fM l with
   | none => rfl
   | some p =>
    obtain ⟨g', n'⟩ := p;rw [hr] at RS;obtain ⟨e1, rfl, rfl, e4, e5⟩ := RS;exact absurd ⟨e4, e1, e5⟩ hb)
  have fin : ∀ (W : World), W = W3 -> xw w l (.returned (.tuple #[.int .i64 g, .int .i64 n, .bool false])) W := λ W hW => by
   subst hW;refine ⟨H3.1, ?_⟩;rw [HN.out];exact ⟨g, n, rfl⟩
  have FIN := hd1 (fin W3 rfl);clear fin;cases o3 with
  | none =>
   simp only [Mk] at f1;clear m3 hb;exact QO
  | some l3 =>
   have e3 := m3 l3 rfl;simp only [Option.isNone_some] at f1;by_cases h0 : n3 = 0
   ·have Gz : l3 = [] := JU GR
    subst Gz;subst h0;by_cases hk : k = 1
    ·subst hk
     obtain rfl : g = 0 := Nat.eq_zero_of_not_pos (λ h => hb ⟨rfl, rfl, h⟩);clear m3 hb e3;exact QO
    ·have hk' : ¬ (k : Int) = 1 := GR
     clear m3 hb e3 hk;exact QO
   ·have h0' : ¬ (n3 : Int) = 0 := GR
    clear m3 hb e3 h0;exact QO
end
end Go.Proofs.YtgffifleflkjoaaGreat
