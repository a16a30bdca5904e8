/-
  Parts of a proof.
-/
import Derived.Test.YtgffifleflkjoaaGreatFin38
import Derived.Deep.Slices
import Derived.Deep.Grids
import Derived.ChangeSlices
import Derived.ChangeArms
import Derived.ProofKit
import Derived.OpenShut
import Derived.Below
set_option linter.unusedSimpArgs false
set_option linter.unusedVariables false
set_option maxRecDepth 100000
set_option maxHeartbeats 16000000
namespace Go.Proofs.YtgffifleflkjoaaGreat
open _root_.Go.Proofs.Tryz
variable {w W w' w0 wr w1 W0 W1 W2 A B : World} {F G F' O : Nat → Prop} {v : Value} {l : List UInt8} {n q m pd md pl g p : Nat} {C : Array Value} {c : Int}
open Go.ChangeShapes Go.WideShapes Go.ChangeAt Go.RowKit Go.Deep Dm
theorem z1m {a : Addr} (h : w.cell? a = some v) : ∃ c t fr, w.heap[a.block]? = some (.cells c t fr) /\ a.spot = none /\ c[a.off]? = some v := by
 unfold World.cell? at h;split at h
 ·rename_i c t fr hc
  cases hs : a.spot with
  | none => rw [hs] at h; exact ⟨c, t, fr, hc, rfl, by simpa using h⟩
  | some x => rw [hs] at h; simp at h
 ·cases h
section
variable {H : Type} {enc : TypeId × Value -> H} {w : World}
theorem wf_i64' {n : Int} (h : (Lit.int .i64 n).wf = true) : i64' n := by
 simp only [Lit.wf, IntKind.min, IntKind.max, IntKind.signed, IntKind.bits, Jl, Kg, I6] at h;unfold i64';omega
theorem z3c (s : ByteArray) : Value.string s = ag s.data.toList := by
 obtain ⟨⟨l⟩⟩ := s;rfl
theorem x1j {fuel : Nat} {x : DataW H × List MemPlace} (h : DataW.trod enc prog w 0 (λ _ => true) true fuel 39 [v] = some x) : ∃ l, oq w.heap v l /\ l.length <= 9223372036854775807 := by
 rcases open_bools underlying39 Iq GV h with ⟨e, _⟩ | ⟨a, len, cap, B, e, _, hlc, hcm, _, hcell⟩
 ·obtain rfl := List.singleton_inj.1 e
  exact Rh
 ·obtain rfl := List.singleton_inj.1 e
  unfold maxLen at hcm;refine ⟨(List.range len).map B, ?_, by simp; omega⟩;by_cases hl : len = 0
  ·subst hl
   exact IB ⟨⟨_, _, rfl⟩, rfl⟩
  ·obtain ⟨c, t, fr, hr, hs, h0⟩ := z1m (hcell 0 GX)
   have ha0 : a.add 0 = a := by simp [Addr.add]
   rw [ha0] at hr hs;obtain ⟨b, o, sp⟩ := a;simp only at hr hs;subst hs;refine IC ⟨b, o, cap, c, t, fr, GZ, hr, λ i y hi => ?_⟩;have hil : i < len := by have := (I4.1 hi).1; simpa using this
   have hc := hcell i GX;rw [addr_add, IM _ _ _ _ _ _ hr] at hc;rw [hc];simp [hil] at hi;rw [hi]
theorem x3v {α : Type} {l : List α} (h : l.length = 3) : ∃ a b c, l = [a, b, c] := by
 match l, h with
 | [a, b, c], _ => exact ⟨a, b, c, rfl⟩
theorem x3u {α : Type} {l : List α} (h : l.length = 6) : ∃ a b c d e f, l = [a, b, c, d, e, f] := by
 match l, h with
 | [a, b, c, d, e, f], _ => exact ⟨a, b, c, d, e, f, rfl⟩
theorem x1l {fuel : Nat} {cs : List Value} {x : DataW H × List MemPlace} (h : DataW.trod enc prog w 0 (λ _ => true) true fuel a_ cs = some x) : ∃ c : Em.ay, cs = [ag c.key, ag c.value, .bool c.gone] := by
 obtain ⟨xs, n, _, _, hlen, hxl, hf⟩ := DataW.trod_struct Ig h;rw [show prog.cellsOf a_ = 3 by kernel_rfl] at hlen;obtain ⟨c0, c1, c2, rfl⟩ := x3v hlen;have hx : ∀ i, i < 3 -> ∃ y, xs[i]? = some y := λ i hi => ⟨_, IX (by rw [hxl]; exact hi)⟩;obtain ⟨x0, e0⟩ := hx 0 GY;obtain ⟨x1, e1⟩ := hx 1 GY;obtain ⟨x2, e2⟩ := hx 2 GY;have k1 : prog.cellsOf 9 = 1 := GV;have k2 : prog.cellsOf 4 = 1 := GV;have f0 := hf 0 _ rfl;have f1 := hf 1 _ rfl;have f2 := hf 2 _ rfl;simp only [Mq, Mr, Ms, k1, k2, JP, JQ, Jv, JO, e0, e1, e2] at f0 f1 f2;obtain ⟨s0, g0, _, _⟩ := DataW.trod_string Ie f0;obtain ⟨s1, g1, _, _⟩ := DataW.trod_string Ie f1;obtain ⟨b2, g2, _⟩ := DataW.trod_bool Iq f2;simp only [List.cons.injEq, and_true] at g0 g1 g2;subst g0; subst g1; subst g2;exact ⟨⟨s0.data.toList, s1.data.toList, b2⟩, by rw [z3c, z3c]⟩
theorem x1m {fuel : Nat} {x : DataW H × List MemPlace} (h : DataW.trod enc prog w 0 (λ _ => true) true fuel qP [v] = some x) : ∃ l, dJ w (λ _ => True) v l /\ l.length <= 9223372036854775807 := by
 rcases open_slice Iy h with ⟨e, _⟩ | ⟨a, len, cap, m, n, D, Pl, e, _, hlc, hcm, hm, _, hel⟩
 ·obtain rfl := List.singleton_inj.1 e
  exact Rh
 ·obtain rfl := List.singleton_inj.1 e
  simp only [I6] at hm;subst hm;unfold maxLen at hcm;rw [show prog.cellsOf a_ = 3 by kernel_rfl] at hel;by_cases hl : len = 0
  ·subst hl
   exact Rh
  ·have each : ∀ i, i < len -> ∃ c : Em.ay, w.cells? 0 (a.add (i * 3)) 3 = some [ag c.key, ag c.value, .bool c.gone] := by
    intro i hi;obtain ⟨cs, h1, h2⟩ := hel i GX;obtain ⟨c, rfl⟩ := x1l h2;exact ⟨c, h1⟩
   have : Inhabited Em.ay := ⟨⟨[], [], false⟩⟩;obtain ⟨q, hq⟩ := choose_lt each;refine ⟨(List.range len).map q, ?_, by simp; omega⟩;obtain ⟨_, _, h0⟩ := L_ (hq 0 GX);have h00 := h0 0 GY;obtain ⟨c, t, fr, hr, hs, _⟩ := z1m (w := w) (v := ag (q 0).key) h00;have ha0 : (a.add (0 * 3)).add 0 = a := by simp [Addr.add]
   rw [ha0] at hr hs;obtain ⟨b, o, sp⟩ := a;simp only at hr hs;subst hs;refine IC ⟨b, o, m, c, t, fr, GZ, by simp; omega, hcm, trivial, hr, λ i y hi => ?_⟩;have hil : i < len := by have := (I4.1 hi).1; simpa using this
   simp [hil] at hi;subst hi;obtain ⟨_, _, hc⟩ := L_ (hq i hil);have cell : ∀ j, j < 3 -> c[o + i * 3 + j]? = [ag (q i).key, ag (q i).value, Value.bool (q i).gone][j]? := by
    intro j hj;have := hc j hj;rw [addr_add, addr_add, IM _ _ _ _ _ _ hr] at this;exact this
   exact ⟨cell 0 GY, cell 1 GY, cell 2 GY⟩
theorem x1h {fuel : Nat} {cs : List Value} {x : DataW H × List MemPlace} (h : DataW.trod enc prog w 0 (λ _ => true) true fuel iV cs = some x) :
 ∃ q : iR, cs = zK q /\ pE w q := by
 obtain ⟨xs, n, _, _, hlen, hxl, hf⟩ := DataW.trod_struct underlying43 h;rw [show prog.cellsOf iV = 6 by kernel_rfl] at hlen;obtain ⟨c0, c1, c2, c3, c4, c5, rfl⟩ := x3u hlen;have hx : ∀ i, i < 4 -> ∃ y, xs[i]? = some y := λ i hi => ⟨_, IX (by rw [hxl]; exact hi)⟩;obtain ⟨x0, e0⟩ := hx 0 GY;obtain ⟨x1, e1⟩ := hx 1 GY;obtain ⟨x2, e2⟩ := hx 2 GY;obtain ⟨x3, e3⟩ := hx 3 GY;have k1 : prog.cellsOf 3 = 1 := GV;have k3 : prog.cellsOf 34 = 1 := GV;have k4 : prog.cellsOf 41 = 3 := GV;have k5 : prog.cellsOf 39 = 1 := GV;have f0 := hf 0 _ rfl;have f1 := hf 1 _ rfl;have f2 := hf 2 _ rfl;have f3 := hf 3 _ rfl;simp only [Mq, Mr, Ms, k1, k3, k4, JP, JQ, Jv, JO, e0, e1, e2, e3] at f0 f1 f2 f3;obtain ⟨n0, g0, _, w0⟩ := Ma Ik f0;obtain ⟨l, hl, hll⟩ := x1m f1;obtain ⟨n2, g2, _, w2⟩ := Ma Ik f2;obtain ⟨ys, n', _, _, _, hyl, hg⟩ := DataW.trod_struct underlying41 f3;have hy : ∀ i, i < 3 -> ∃ y, ys[i]? = some y := λ i hi => ⟨_, IX (by rw [hyl]; exact hi)⟩;obtain ⟨y0, d0⟩ := hy 0 GY;obtain ⟨y1, d1⟩ := hy 1 GY;obtain ⟨y2, d2⟩ := hy 2 GY;have q0 := hg 0 _ rfl;have q1 := hg 1 _ rfl;have q2 := hg 2 _ rfl;simp only [Mq, Mr, Ms, k1, k5, JP, JQ, Jv, JO, d0, d1, d2] at q0 q1 q2;obtain ⟨kl, hk, hkl⟩ := x1j q0;obtain ⟨n6, g6, _, w6⟩ := Ma Ik q1;obtain ⟨n7, g7, _, w7⟩ := Ma Ik q2;simp only [List.cons.injEq, and_true] at g0 g2 g6 g7;subst g0; subst g2; subst g6; subst g7;exact ⟨(⟨n0, l, n2, ⟨kl, n6, n7⟩⟩, c1, c3), rfl, hl, hk, wf_i64' w0, wf_i64' w2, wf_i64' w6, wf_i64' w7, hll, hkl⟩
theorem x1i {base : Nat} {d : DataW H} {ps : List MemPlace} (hv : Value.okWide prog w .any base z3f v) (h : DataW.Trod enc prog w 0 (λ _ => true) true z3f v d ps) :
 ∃ Q, m_ w v Q /\ ((d = .nil /\ Q = []) \/ ∃ elems spare, d = .slice elems spare /\ Q.length <= elems.length + spare.length) := by
 obtain ⟨a0, z8q, cap0, rfl⟩ := okWide_slice underlying37 hv;obtain ⟨fuel, hf⟩ := h;rcases open_slice underlying37 hf with ⟨e, ex⟩ | ⟨a, len, cap, m, n, D, Pl, e, _, hlc, hcm, hm, ex, hel⟩
 ·have e : Value.slice a0 z8q cap0 = .slice none 0 0 := List.singleton_inj.1 e
  rw [e];simp only [Prod.mk.injEq] at ex;exact ⟨[], IB ⟨IB rfl, rfl⟩, IB ⟨ex.1, rfl⟩⟩
 ·have e : Value.slice a0 z8q cap0 = .slice (some a) len cap := List.singleton_inj.1 e
  rw [e];simp only [I6] at hm;subst hm;unfold maxLen at hcm;simp only [Prod.mk.injEq] at ex;rw [show prog.cellsOf iV = 6 by kernel_rfl] at hel;by_cases hl : len = 0
  ·subst hl
   exact ⟨[], IB ⟨IC ⟨_, _, rfl⟩, rfl⟩, IC ⟨_, _, ex.1, IY _⟩⟩
  ·have each : ∀ i, i < len -> ∃ q : iR, w.cells? 0 (a.add (i * 6)) 6 = some (zK q) /\ pE w q := by
    intro i hi;obtain ⟨cs, h1, h2⟩ := hel i GX;obtain ⟨y, rfl, h3⟩ := x1h h2;exact ⟨y, h1, h3⟩
   have : Inhabited iR := ⟨(⟨0, [], 0, ⟨[], 0, 0⟩⟩, .bool false, .bool false)⟩;obtain ⟨q, hq⟩ := choose_lt each;refine ⟨(List.range len).map q, ?_, IC ⟨_, _, ex.1, GZ⟩⟩;obtain ⟨_, _, h0⟩ := L_ (hq 0 GX).1;have h00 := h0 0 GY;obtain ⟨c, t, fr, hr, hs, _⟩ := z1m (w := w) (v := .int .i64 (q 0).1.what) h00;have ha0 : (a.add (0 * 6)).add 0 = a := by simp [Addr.add]
   rw [ha0] at hr hs;obtain ⟨b, o, sp⟩ := a;simp only at hr hs;subst hs;refine IC ⟨b, o, m, c, t, fr, GZ, hr, λ i y hi => ?_⟩;have hil : i < len := by have := (I4.1 hi).1; simpa using this
   simp [hil] at hi;subst hi;obtain ⟨h1, h2⟩ := hq i hil;obtain ⟨_, _, hc⟩ := L_ h1;refine ⟨h2, λ j u hj => ?_⟩;have hjl : j < 6 := by
    have := (I4.1 hj).1;simpa [zK] using this
   have := hc j hjl;rw [addr_add, addr_add, IM _ _ _ _ _ _ hr] at this;rw [this];exact hj
end
end Go.Proofs.YtgffifleflkjoaaGreat
