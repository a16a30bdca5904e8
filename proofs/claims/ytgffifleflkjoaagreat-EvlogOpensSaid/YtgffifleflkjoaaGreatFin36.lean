/-
  Parts of a proof.
-/
import Derived.Test.YtgffifleflkjoaaGreatFin35
import Derived.Deep.Slices
import Derived.Deep.Grids
import Derived.ChangeSlices
import Derived.ChangeArms
import Derived.ProofKit
import Derived.OpenShut
import Derived.Below
set_option linter.unusedSimpArgs false
set_option linter.unusedVariables false
set_option maxRecDepth 100000
set_option maxHeartbeats 16000000
namespace Go.Proofs.YtgffifleflkjoaaGreat
open _root_.Go.Proofs.Tryz
variable {w W w' w0 wr w1 W0 W1 W2 A B : World} {F G F' O : Nat → Prop} {v : Value} {l : List UInt8} {n q m pd md pl g p : Nat} {C : Array Value} {c : Int}
open Go.ChangeShapes Go.WideShapes Go.ChangeAt Go.RowKit Go.Deep Dm
theorem Dh {a : Addr} (h : w.cell? a = some v) : ∃ c t fr, w.heap[a.block]? = some (.cells c t fr) /\ a.spot = none /\ c[a.off]? = some v := by
 unfold World.cell? at h;split at h
 ·rename_i c t fr hc
  cases hs : a.spot with
  | none => rw [hs] at h; exact ⟨c, t, fr, hc, rfl, by simpa using h⟩
  | some x => rw [hs] at h; simp at h
 ·cases h
section
variable {H : Type} {enc : TypeId × Value -> H} {w : World}
theorem wf_i64' {n : Int} (h : (Lit.int .i64 n).wf = true) : i64' n := by
 simp only [Lit.wf, IntKind.min, IntKind.max, IntKind.signed, IntKind.bits, Jh, JX, I1] at h;unfold i64';omega
theorem z4x (s : ByteArray) : Value.string s = ag s.data.toList := by
 obtain ⟨⟨l⟩⟩ := s;rfl
theorem x1o {fuel : Nat} {x : DataW H × List MemPlace} (h : DataW.trod enc prog w 0 (λ _ => true) true fuel 39 [v] = some x) : ∃ l, nT w.heap v l /\ l.length <= 9223372036854775807 := by
 rcases open_bools underlying39 Im GQ h with ⟨e, _⟩ | ⟨a, len, cap, B, e, _, hlc, hcm, _, hcell⟩
 ·obtain rfl := List.singleton_inj.1 e
  exact Ra
 ·obtain rfl := List.singleton_inj.1 e
  unfold maxLen at hcm;refine ⟨(List.range len).map B, ?_, by simp; omega⟩;by_cases hl : len = 0
  ·subst hl
   exact Iy ⟨⟨_, _, rfl⟩, rfl⟩
  ·obtain ⟨c, t, fr, hr, hs, h0⟩ := Dh (hcell 0 GR)
   have ha0 : a.add 0 = a := by simp [Addr.add]
   rw [ha0] at hr hs;obtain ⟨b, o, sp⟩ := a;simp only at hr hs;subst hs;refine Iz ⟨b, o, cap, c, t, fr, GV, hr, λ i y hi => ?_⟩;have hil : i < len := by have := (IY.1 hi).1; simpa using this
   have hc := hcell i GR;rw [addr_add, IJ _ _ _ _ _ _ hr] at hc;rw [hc];simp [hil] at hi;rw [hi]
theorem x2b {α : Type} {l : List α} (h : l.length = 3) : ∃ a b c, l = [a, b, c] := by
 match l, h with
 | [a, b, c], _ => exact ⟨a, b, c, rfl⟩
theorem x3z {α : Type} {l : List α} (h : l.length = 6) : ∃ a b c d e f, l = [a, b, c, d, e, f] := by
 match l, h with
 | [a, b, c, d, e, f], _ => exact ⟨a, b, c, d, e, f, rfl⟩
theorem x1q {fuel : Nat} {cs : List Value} {x : DataW H × List MemPlace} (h : DataW.trod enc prog w 0 (λ _ => true) true fuel a_ cs = some x) : ∃ c : Em.ay, cs = [ag c.key, ag c.value, .bool c.gone] := by
 obtain ⟨xs, n, _, _, hlen, hxl, hf⟩ := DataW.trod_struct Ic h;rw [show prog.cellsOf a_ = 3 by kernel_rfl] at hlen;obtain ⟨c0, c1, c2, rfl⟩ := x2b hlen;have hx : ∀ i, i < 3 -> ∃ y, xs[i]? = some y := λ i hi => ⟨_, IR (by rw [hxl]; exact hi)⟩;obtain ⟨x0, e0⟩ := hx 0 GU;obtain ⟨x1, e1⟩ := hx 1 GU;obtain ⟨x2, e2⟩ := hx 2 GU;have k1 : prog.cellsOf 9 = 1 := GQ;have k2 : prog.cellsOf 4 = 1 := GQ;have f0 := hf 0 _ rfl;have f1 := hf 1 _ rfl;have f2 := hf 2 _ rfl;simp only [Ml, Mm, Mo, k1, k2, JO, JP, Jt, JN, e0, e1, e2] at f0 f1 f2;obtain ⟨s0, g0, _, _⟩ := DataW.trod_string Ib f0;obtain ⟨s1, g1, _, _⟩ := DataW.trod_string Ib f1;obtain ⟨b2, g2, _⟩ := DataW.trod_bool Im f2;simp only [List.cons.injEq, and_true] at g0 g1 g2;subst g0; subst g1; subst g2;exact ⟨⟨s0.data.toList, s1.data.toList, b2⟩, by rw [z4x, z4x]⟩
theorem x1r {fuel : Nat} {x : DataW H × List MemPlace} (h : DataW.trod enc prog w 0 (λ _ => true) true fuel qH [v] = some x) : ∃ l, dJ w (λ _ => True) v l /\ l.length <= 9223372036854775807 := by
 rcases open_slice Ir h with ⟨e, _⟩ | ⟨a, len, cap, m, n, D, Pl, e, _, hlc, hcm, hm, _, hel⟩
 ·obtain rfl := List.singleton_inj.1 e
  exact Ra
 ·obtain rfl := List.singleton_inj.1 e
  simp only [I1] at hm;subst hm;unfold maxLen at hcm;rw [show prog.cellsOf a_ = 3 by kernel_rfl] at hel;by_cases hl : len = 0
  ·subst hl
   exact Ra
  ·have each : ∀ i, i < len -> ∃ c : Em.ay, w.cells? 0 (a.add (i * 3)) 3 = some [ag c.key, ag c.value, .bool c.gone] := by
    intro i hi;obtain ⟨cs, h1, h2⟩ := hel i GR;obtain ⟨c, rfl⟩ := x1q h2;exact ⟨c, h1⟩
   have : Inhabited Em.ay := ⟨⟨[], [], false⟩⟩;obtain ⟨q, hq⟩ := choose_lt each;refine ⟨(List.range len).map q, ?_, by simp; omega⟩;obtain ⟨_, _, h0⟩ := LX (hq 0 GR);have h00 := h0 0 GU;obtain ⟨c, t, fr, hr, hs, _⟩ := Dh (w := w) (v := ag (q 0).key) h00;have ha0 : (a.add (0 * 3)).add 0 = a := by simp [Addr.add]
   rw [ha0] at hr hs;obtain ⟨b, o, sp⟩ := a;simp only at hr hs;subst hs;refine Iz ⟨b, o, m, c, t, fr, GV, by simp; omega, hcm, trivial, hr, λ i y hi => ?_⟩;have hil : i < len := by have := (IY.1 hi).1; simpa using this
   simp [hil] at hi;subst hi;obtain ⟨_, _, hc⟩ := LX (hq i hil);have cell : ∀ j, j < 3 -> c[o + i * 3 + j]? = [ag (q i).key, ag (q i).value, Value.bool (q i).gone][j]? := by
    intro j hj;have := hc j hj;rw [addr_add, addr_add, IJ _ _ _ _ _ _ hr] at this;exact this
   exact ⟨cell 0 GU, cell 1 GU, cell 2 GU⟩
theorem x1m {fuel : Nat} {cs : List Value} {x : DataW H × List MemPlace} (h : DataW.trod enc prog w 0 (λ _ => true) true fuel iV cs = some x) :
 ∃ q : jy, cs = zD q /\ qA w q := by
 obtain ⟨xs, n, _, _, hlen, hxl, hf⟩ := DataW.trod_struct underlying43 h;rw [show prog.cellsOf iV = 6 by kernel_rfl] at hlen;obtain ⟨c0, c1, c2, c3, c4, c5, rfl⟩ := x3z hlen;have hx : ∀ i, i < 4 -> ∃ y, xs[i]? = some y := λ i hi => ⟨_, IR (by rw [hxl]; exact hi)⟩;obtain ⟨x0, e0⟩ := hx 0 GU;obtain ⟨x1, e1⟩ := hx 1 GU;obtain ⟨x2, e2⟩ := hx 2 GU;obtain ⟨x3, e3⟩ := hx 3 GU;have k1 : prog.cellsOf 3 = 1 := GQ;have k3 : prog.cellsOf 34 = 1 := GQ;have k4 : prog.cellsOf 41 = 3 := GQ;have k5 : prog.cellsOf 39 = 1 := GQ;have f0 := hf 0 _ rfl;have f1 := hf 1 _ rfl;have f2 := hf 2 _ rfl;have f3 := hf 3 _ rfl;simp only [Ml, Mm, Mo, k1, k3, k4, JO, JP, Jt, JN, e0, e1, e2, e3] at f0 f1 f2 f3;obtain ⟨n0, g0, _, w0⟩ := LY Ih f0;obtain ⟨l, hl, hll⟩ := x1r f1;obtain ⟨n2, g2, _, w2⟩ := LY Ih f2;obtain ⟨ys, n', _, _, _, hyl, hg⟩ := DataW.trod_struct underlying41 f3;have hy : ∀ i, i < 3 -> ∃ y, ys[i]? = some y := λ i hi => ⟨_, IR (by rw [hyl]; exact hi)⟩;obtain ⟨y0, d0⟩ := hy 0 GU;obtain ⟨y1, d1⟩ := hy 1 GU;obtain ⟨y2, d2⟩ := hy 2 GU;have q0 := hg 0 _ rfl;have q1 := hg 1 _ rfl;have q2 := hg 2 _ rfl;simp only [Ml, Mm, Mo, k1, k5, JO, JP, Jt, JN, d0, d1, d2] at q0 q1 q2;obtain ⟨kl, hk, hkl⟩ := x1o q0;obtain ⟨n6, g6, _, w6⟩ := LY Ih q1;obtain ⟨n7, g7, _, w7⟩ := LY Ih q2;simp only [List.cons.injEq, and_true] at g0 g2 g6 g7;subst g0; subst g2; subst g6; subst g7;exact ⟨(⟨n0, l, n2, ⟨kl, n6, n7⟩⟩, c1, c3), rfl, hl, hk, wf_i64' w0, wf_i64' w2, wf_i64' w6, wf_i64' w7, hll, hkl⟩
theorem x1n {base : Nat} {d : DataW H} {ps : List MemPlace} (hv : Value.okWide prog w .any base z3b v) (h : DataW.Trod enc prog w 0 (λ _ => true) true z3b v d ps) :
 ∃ Q, uU w v Q /\ ((d = .nil /\ Q = []) \/ ∃ elems spare, d = .slice elems spare /\ Q.length <= elems.length + spare.length) := by
 obtain ⟨a0, z8m, cap0, rfl⟩ := okWide_slice underlying37 hv;obtain ⟨fuel, hf⟩ := h;rcases open_slice underlying37 hf with ⟨e, ex⟩ | ⟨a, len, cap, m, n, D, Pl, e, _, hlc, hcm, hm, ex, hel⟩
 ·have e : Value.slice a0 z8m cap0 = .slice none 0 0 := List.singleton_inj.1 e
  rw [e];simp only [Prod.mk.injEq] at ex;exact ⟨[], Iy ⟨Iy rfl, rfl⟩, Iy ⟨ex.1, rfl⟩⟩
 ·have e : Value.slice a0 z8m cap0 = .slice (some a) len cap := List.singleton_inj.1 e
  rw [e];simp only [I1] at hm;subst hm;unfold maxLen at hcm;simp only [Prod.mk.injEq] at ex;rw [show prog.cellsOf iV = 6 by kernel_rfl] at hel;by_cases hl : len = 0
  ·subst hl
   exact ⟨[], Iy ⟨Iz ⟨_, _, rfl⟩, rfl⟩, Iz ⟨_, _, ex.1, IV _⟩⟩
  ·have each : ∀ i, i < len -> ∃ q : jy, w.cells? 0 (a.add (i * 6)) 6 = some (zD q) /\ qA w q := by
    intro i hi;obtain ⟨cs, h1, h2⟩ := hel i GR;obtain ⟨y, rfl, h3⟩ := x1m h2;exact ⟨y, h1, h3⟩
   have : Inhabited jy := ⟨(⟨0, [], 0, ⟨[], 0, 0⟩⟩, .bool false, .bool false)⟩;obtain ⟨q, hq⟩ := choose_lt each;refine ⟨(List.range len).map q, ?_, Iz ⟨_, _, ex.1, GV⟩⟩;obtain ⟨_, _, h0⟩ := LX (hq 0 GR).1;have h00 := h0 0 GU;obtain ⟨c, t, fr, hr, hs, _⟩ := Dh (w := w) (v := .int .i64 (q 0).1.what) h00;have ha0 : (a.add (0 * 6)).add 0 = a := by simp [Addr.add]
   rw [ha0] at hr hs;obtain ⟨b, o, sp⟩ := a;simp only at hr hs;subst hs;refine Iz ⟨b, o, m, c, t, fr, GV, hr, λ i y hi => ?_⟩;have hil : i < len := by have := (IY.1 hi).1; simpa using this
   simp [hil] at hi;subst hi;obtain ⟨h1, h2⟩ := hq i hil;obtain ⟨_, _, hc⟩ := LX h1;refine ⟨h2, λ j u hj => ?_⟩;have hjl : j < 6 := by
    have := (IY.1 hj).1;simpa [zD] using this
   have := hc j hjl;rw [addr_add, addr_add, IJ _ _ _ _ _ _ hr] at this;rw [this];exact hj
end
end Go.Proofs.YtgffifleflkjoaaGreat
