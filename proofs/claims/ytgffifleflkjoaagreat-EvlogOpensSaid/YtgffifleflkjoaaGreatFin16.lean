/-
  Parts of a proof.
-/
import Derived.Test.YtgffifleflkjoaaGreatFin11
import Derived.Test.YtgffifleflkjoaaGreatFin14
import Derived.Maps.OwnSet
import Derived.Maps.StringElems
import Derived.StringKeys
set_option linter.unusedSimpArgs false
set_option linter.unusedVariables false
set_option maxRecDepth 100000
set_option maxHeartbeats 16000000
namespace Go.Proofs.YtgffifleflkjoaaGreat
open _root_.Go.Proofs.Tryz
variable {w W w' w0 wr w1 W0 W1 W2 A B : World} {F G F' O : Nat → Prop} {v : Value} {l : List UInt8} {n q m pd md pl g p : Nat} {C : Array Value} {c : Int}
open Go.RowKit
abbrev EH : Nat := 224
abbrev oZ : Nat := 2
theorem BytesAt.slice3 {h : Array Obj} (x : BytesAt h F v l) : ∃ a n c, v = .slice a n c := let ⟨a, c, e⟩ := x.slice; ⟨a, _, c, e⟩
def fH (w : World) (q : Nat) (l : List UInt8) : Prop := ∃ v, w.heap[q]? = some (.cells #[v, .bool true] EH (0, 0)) /\ bY w q v l
structure lF (w w' : World) (q : Nat) : Prop where
 below : Below q w w'
 kept : ∀ (k : Nat) (cs : Array Value) (t : TypeId) (fr : Nat × Nat), w.heap[k]? = some (.cells cs t fr) -> t ≠ bT -> k ≠ q -> w'.heap[k]? = some (.cells cs t fr)
theorem lF.refl (w : World) (q : Nat) : lF w w q := ⟨Below.refl _ _, λ _ _ _ _ h _ _ => h⟩
theorem lF.trans {C : World} (h : lF A B q) (k : lF B C q) : lF A C q := ⟨h.below.trans k.below, λ i cs t fr a b c => k.kept i cs t fr (h.kept i cs t fr a b c) b c⟩
def Wrote (w : World) (q : Nat) (l : List UInt8) (e : Ending) (w' : World) : Prop := e = .returned (.int .i64 0) /\ fH w' q l /\ lF w w' q
theorem own_ne {base : Nat} {cs : Array Value} {t : TypeId} {fr : Nat × Nat} (ho : bY w base v l) (h : w.heap[q]? = some (.cells cs t fr)) (ht : t ≠ bT) : v.ownBlock ≠ some q := by
 intro e;rcases ho.2 with ⟨h1, _⟩ | ⟨g, cap, cur, h1, _, hg, _⟩
 ·rw [h1] at e; cases e
 ·rw [h1] at e
  cases e;rw [h] at hg;cases hg;exact ht rfl
theorem zZ {v' : Value} (h : w.heap[q]? = some (.cells #[v, true] EH)) (o : bY w q v' l) : fH (w.setCell q v') q l := by
 refine ⟨v', (EX v' h).1, ?_⟩;have hn := own_ne o h GU;refine ⟨o.1, ?_⟩;rcases o.2 with h1 | ⟨g, cap, cur, h1, h2, h3, h4, h5, h6, h7⟩
 ·exact Iy h1
 ·refine Iz ⟨g, cap, cur, h1, h2, ?_, h4, h5, h6, h7⟩
  have hg : g ≠ q := λ e => hn (by rw [h1, e]; rfl);exact (IU w _ g _ hg).trans h3
theorem x9q (v : Value) : Below q w (w.setCell q v) :=
 ⟨rfl, rfl, rfl, GV, λ k hk => IU w _ k _ N_⟩
theorem zY (v : Value) : lF w (w.setCell q v) q :=
 ⟨x9q v, λ k _ _ _ a _ c => (IU w _ k _ c).trans a⟩
theorem xC {v' : Value} (h : cz w w' v v') (ho : bY w q v l) (hq : q <= w.heap.size) : lF w w' q :=
 ⟨h.below ho hq, λ _ _ _ _ a b _ => h.kept a (own_ne ho a b)⟩
theorem fH.below (h : fH w q l) (hb : Below w w w') : fH w' q l := by
 obtain ⟨v, h1, h2⟩ := h;exact ⟨v, (hb.block q (aa h1)).trans h1, bi h2 hb GZ⟩
theorem y3k (w : World) : Calls prog 152 #[] w λ e w' => e = .returned (.pointer (some w.heap.size)) /\ fH w' w.heap.size [] /\ Below w w w' := by
 go_in;go_wp2;go_ret;exact ⟨rfl, ⟨_, IC w _, lY _ _⟩, bla⟩
theorem z_ (q : Nat) (w : World) (h : w.cell? (q, 1) = some (.bool true)) : Calls prog 155 #[q] w λ e w' => e = .returned (.bool false) /\ w = w' := by
 go_in;go_wp2;exact OJ
theorem x1e (n : Nat) (w : World) (h : n <= 4611686018427387904) : Calls prog 157 #[.int .i64 n] w λ e w' => e = .returned (.bool false) /\ w = w' := by
 have h0 : ¬ (n : Int) < 0 := GR;have h1 := z3n h;clear h;go_in;go_wp2;exact OJ
structure ql (w : World) (b : Nat) (ns : List Nat) : Prop where
 row : ∃ (cs : Array Value) (fr : Nat × Nat), w.heap[b]? = some (.cells cs oZ fr) /\ ∀ (i x : Nat), ns[i]? = some x -> cs[i]? = some (Value.int .i64 (x : Nat))
theorem ql.cell {b : Nat} {ns : List Nat} (h : ql w b ns) {i x : Nat} (hx : ns[i]? = some x) : w.cell? (b, i) = some (.int .i64 (x : Nat)) := by
 obtain ⟨cs, fr, h1, h2⟩ := h.row;exact (IJ _ _ _ _ _ _ h1).trans (h2 i x hx)
theorem x3i {b cap : Nat} {ns : List Nat} (h : ql w b ns) (hn : ∀ x ∈ ns, x <= 4611686018427387904) (hl : ns.length <= 1000) :
 Calls prog 181 #[.slice (some b) ns.length cap, .func (.func 157) #[] #[]] w λ e w' => e = .returned (.int .i64 (-1)) /\ w = w' := by
 have H := hd2 h hn;clear h hn;generalize hN : ns.length = N at *;have HN := hd1 hN;clear hN;go_in;go_wp2;go_loop [5, 8] (λ _ s => ∃ i : Nat, i <= N /\ s = .int .i64 (i : Int)) (λ _ s => N - (intOf s).toNat)
 case atStart => exact ⟨0, GR, rfl⟩
 case round =>
  obtain ⟨i, hi, rfl⟩ := hrel;by_cases hlt : i < N
  ·have i0 : (0 : Int) <= (i : Int) := GR
   have i1 : (i : Int) < (N : Int) := GR;obtain ⟨x, hx⟩ : ∃ x, ns[i]? = some x := ⟨_, IR Nk⟩;have hc := H.1.cell hx;have NB := hd1 (x1e x w (H.2 x (Jb hx)));clear hx;go_wp2_with (go_at_call 157; refine NB.mono ?_; rintro e w' ⟨rfl, rfl⟩)
   go_round
   case rel => exact ⟨i + 1, GR, by go_num⟩
   case measure => simp [intOf]; omega
  ·obtain rfl : i = N := GR
   go_wp2;exact OJ
theorem x7j {b cap : Nat} {ns : List Nat} (h : ql w b ns) (hn : ∀ x ∈ ns, x <= 4611686018427387904) (hl : ns.length <= 1000) :
 Calls prog 156 #[.slice (some b) ns.length cap, .func (.func 157) #[] #[]] w λ e w' => e = .returned (.bool false) /\ w = w' := by
 have H := hd1 (x3i (cap := cap) h hn hl);clear h hn;go_in;go_wp2_with (go_at_call 181; refine H.mono ?_; rintro e w' ⟨rfl, rfl⟩)
 exact OJ
theorem fH.cells (h : fH w q l) : ∃ v, w.cell? q = some v /\ w.cell? (q, 1) = some (.bool true) /\ w.frozen? ⟨q, 0, none⟩ = false /\ w.heap[q]? = some (.cells #[v, true] EH) /\ bY w q v l /\ q < w.heap.size := by
 obtain ⟨v, h1, h2⟩ := h;exact ⟨v, (IJ _ _ _ _ _ _ h1).trans rfl, (IJ _ _ _ _ _ _ h1).trans rfl, aZ h1 _, h1, h2, aa h1⟩
theorem Ed {b cap : Nat} {ns : List Nat} (hw : fH w q l) (h : ql w b ns) (hn : ∀ x ∈ ns, x <= 4611686018427387904) (hl : l.length <= 900000000) (hlen : ns.length <= 100) :
 Calls prog 117 #[q, .slice (some b) ns.length cap] w (Wrote w q (l ++ ns.flatMap Wm.aG)) := by
 obtain ⟨v0, _, c1, _, _, _, lq⟩ := hw.cells;have CF := hd1 (x7j (cap := cap) h hn GR);have H := hd4 hw h hn hl;clear hw h hn hl;generalize hN : ns.length = N at *;have HN := hd1 hN;clear hN;go_in
 go_wp2_with (first
  | (go_at_call 155; refine (z_ q w c1).mono ?_; rintro e w' ⟨rfl, rfl⟩)
  | (go_at_call 156; refine CF.mono ?_; rintro e w' ⟨rfl, rfl⟩))
 go_loopw [6, 15] (λ _ s wr => ∃ i : Nat, i <= N /\ s = .int .i64 (i : Int) /\ fH wr q (l ++ (ns.take i).flatMap Wm.aG) /\ ql wr b ns /\ lF w wr q) (λ _ s _ => N - (intOf s).toNat)
 case atStart => exact ⟨0, GR, rfl, by simpa using H.1, H.2.1, lF.refl _ _⟩
 case round =>
  obtain ⟨i, hi, rfl, hw, hns, hb⟩ := hrel;by_cases hlt : i < N
  ·have i0 : (0 : Int) <= (i : Int) := GR
   have i1 : (i : Int) < (N : Int) := GR;obtain ⟨x, hx⟩ : ∃ x, ns[i]? = some x := ⟨_, IR Nk⟩;have hc := hns.cell hx;obtain ⟨v, k0, k1, k2, k3, k4, k5⟩ := hw.cells;have x4v : ((ns.take i).flatMap Wm.aG).length <= 900 := by
    have h1 := Em.wB Wm.aG 9 (ns.take i) (λ y _ => (Em.h_ y).1);exact RI
   have NC := hd1 (Bw x wr q (Jn k5) v (l ++ (ns.take i).flatMap Wm.aG) k4 (by have := H.2.2.2; rw [IL]; omega) (z3m (H.2.2.1 x (Jb hx))));have HR := hd5 hns hb k3 k4 hx;clear hw hns hb k3 k4 hx x4v k2
   go_wp2_with (go_at_call 158; refine NC.mono ?_; rintro e w1 ⟨v1, rfl, o1, b1, g1⟩
                obtain ⟨va, vn, vc, rfl⟩ := o1.at.slice3;have r1 := g1.kept HR.2.2.1 (own_ne HR.2.2.2.1 HR.2.2.1 GU);have f0 : w1.cell? q = some v := (IJ _ _ _ _ _ _ r1).trans rfl;have f1 := aZ r1 0;have HX := hd4 r1 o1 b1 g1;clear r1 o1 b1 g1)
   go_roundw
   case rel =>
    refine ⟨i + 1, GR, by go_num, ?_, ?_, HR.2.1.trans ((xC HX.2.2.2 HR.2.2.2.1 (Jn k5)).trans (zY _))⟩
    ·have := zZ HX.1 HX.2.1
     rwa [IZ, show (ns.take i).flatMap Wm.aG ++ Wm.aG x = (ns.take (i + 1)).flatMap Wm.aG by rw [JC, HR.2.2.2.2]; simp] at this
    ·obtain ⟨cs, fr, r1, r2⟩ := HR.1.row
     have hbq : b ≠ q := λ e => by
      have := HR.2.2.1;rw [<-e, r1] at this;cases this
     exact ⟨cs, fr, (IU _ _ b _ hbq).trans (HX.2.2.2.kept r1 (own_ne HR.2.2.2.1 r1 GU)), r2⟩
   case measure => simp [intOf]; omega
  ·obtain rfl : i = N := GR
   go_wp2;go_ret;rw [Je M0] at hw;exact ⟨rfl, hw, hb⟩
abbrev ag (s : List UInt8) : Value := .string ⟨s.toArray⟩
theorem xE (hw : fH w q l) (s : List UInt8) (hl : l.length <= 900000000) (hs : s.length <= 1000000) :
 Calls prog 119 #[q, ag s] w (Wrote w q (l ++ Wm.cB s)) := by
 obtain ⟨v, c0, c1, f0, r0, o0, lq⟩ := hw.cells;have NC := hd1 (Bw s.length w q (Jn lq) v l o0 GR GR);have H := hd4 r0 o0 hl hs;have e1 : ¬ (1048576 : Int) < (s.length : Int) := GR;have HL := hd1 (show (l ++ Wm.aG s.length).length + s.length <= 1099511627776 by rw [IL]; have := (Em.h_ s.length).1; omega);have HT := hd1 (show l ++ Wm.cB s = l ++ Wm.aG s.length ++ s by unfold Wm.cB; rw [IZ]);clear hw r0 o0 hl hs f0;go_in
 go_wp2_with (first
  | (go_at_call 155; refine (z_ q w c1).mono ?_; rintro e w' ⟨rfl, rfl⟩)
  | (go_at_call 158; refine NC.mono ?_; rintro e w1 ⟨v1, rfl, o1, b1, g1⟩
     obtain ⟨va, vn, vc, rfl⟩ := o1.at.slice3;have r1 := g1.kept H.1 (own_ne H.2.1 H.1 GU);have H1 := hd4 r1 o1 b1 g1;clear r1 o1 b1 g1)
  | (at_builtin; refine wpList_append_text rfl (.tmp 19) (.tmp 20) rfl q _ (l ++ Wm.aG s.length) rfl H1.2.1 s rfl HL.out (IP (Jn lq) H1.2.2.2.grown.size) ?_; intro v' w2 o2 g2
     obtain ⟨vb, vm, vd, rfl⟩ := o2.at.slice3;have r2 := g2.kept H1.1 (own_ne H1.2.1 H1.1 GU);have f1 : w2.cell? q = some v := (IJ _ _ _ _ _ _ r2).trans rfl;have f2 := aZ r2 0;have H2 := hd3 r2 o2.out g2.out;clear r2 o2 g2))
 go_ret;refine ⟨rfl, ?_, (xC H1.2.2.2 H.2.1 (Jn lq)).trans ((xC H2.2.2 H1.2.1 (IP (Jn lq) H1.2.2.2.grown.size)).trans (zY _))⟩;rw [HT.out];exact zZ H2.1 H2.2.1
theorem y3l {b cap : Nat} (x : Bool) (hw : fH w q l) (h : w.heap[b]? = some (.cells #[.bool x] 4)) (hl : l.length <= 900000000) :
 Calls prog 128 #[q, .slice (some b) 1 cap] w (Wrote w q (l ++ Wm.je x)) := by
 have c1 : w.cell? (q, 1) = some (.bool true) := let ⟨_, _, c, _⟩ := hw.cells; c;have H := hd3 hw h hl;clear hw h hl;go_in;go_wp2_with (go_at_call 155; refine (z_ q w c1).mono ?_; rintro e w' ⟨rfl, rfl⟩)
 go_loopw [6, 7, 12] (λ _ _ s wr => ∃ i : Nat, i <= 1 /\ s = .int .i64 (i : Int) /\ fH wr q (l ++ if i = 0 then [] else Wm.je x) /\ (i = 0 -> wr = w) /\ lF w wr q) (λ _ _ s _ => 1 - (intOf s).toNat)
 case atStart => exact ⟨0, GR, rfl, by simpa using H.1, λ _ => rfl, lF.refl _ _⟩
 case round =>
  obtain ⟨i, hi, rfl, hw, h0, hb⟩ := hrel;by_cases hlt : i < 1
  ·obtain rfl : i = 0 := GR
   obtain rfl := h0 rfl;obtain ⟨v, k0, k1, k2, k3, k4, k5⟩ := H.1.cells;have hc : wr.cell? b = some (.bool x) := (IJ _ _ _ _ _ _ H.2.1).trans rfl;have HR := hd2 k3 k4;clear hw h0 hb k3 k4 k2;cases x
   ·go_wp2_with (at_builtin; refine append_grow_e q [0] l (bi HR.2 (bla) GZ) (one_byte wr _ _ rfl) (by have := H.2.2; simp; omega) N_ ?_; intro v' w2 ho hg
                 obtain ⟨vb, vm, vd, rfl⟩ := ho.at.slice3;have G := (((cz.refl wr v).alloc _).trans hg.out);have r2 := G.kept HR.1 (own_ne HR.2 HR.1 GU);have f1 : w2.cell? q = some v := (IJ _ _ _ _ _ _ r2).trans rfl;have f2 := aZ r2 0;have H2 := hd3 r2 ho.out G;clear r2 ho hg G)
    exact Qa
   ·go_wp2_with (at_builtin; refine append_grow_e q [1] l (bi HR.2 (bla) GZ) (one_byte wr _ _ rfl) (by have := H.2.2; simp; omega) N_ ?_; intro v' w2 ho hg
                 obtain ⟨vb, vm, vd, rfl⟩ := ho.at.slice3;have G := (((cz.refl wr v).alloc _).trans hg.out);have r2 := G.kept HR.1 (own_ne HR.2 HR.1 GU);have f1 : w2.cell? q = some v := (IJ _ _ _ _ _ _ r2).trans rfl;have f2 := aZ r2 0;have H2 := hd3 r2 ho.out G;clear r2 ho hg G)
    exact Qa
  ·obtain rfl : i = 1 := GR
   go_wp2;go_ret;exact ⟨rfl, by simpa using hw, hb⟩
theorem y3j (hw : fH w q l) (hl : l.length <= 900000000) :
 Calls prog 154 #[q] w (zU w l) := by
 obtain ⟨v, c0, c1, f0, r0, o0, lq⟩ := hw.cells;have CL := hd1 (De o0.at GR);clear hw r0 o0 f0;go_in
 go_wp2_with (first
  | (go_at_call 155; refine (z_ q w c1).mono ?_; rintro e w' ⟨rfl, rfl⟩)
  | (go_at_call 98; refine CL.mono ?_; rintro e w1 ⟨v1, rfl, b1, y1⟩))
 go_ret;exact ⟨_, rfl, b1, y1⟩
def w1k (w : World) (l : List UInt8) (e : Ending) (w' : World) : Prop :=
 ∃ v, e = .returned (.tuple #[v, .int .i64 (if 8192 < l.length then 3 else 0)]) /\ bY w' w.heap.size v (Em.fT l) /\ Below w.heap.size w w'
theorem y4o (h : BytesAt w.heap F v l) (hl : l.length <= 900000000) : Calls prog 153 #[v] w (w1k w l) := by
 obtain ⟨a, cap, rfl⟩ := h.slice;by_cases h8 : 8192 < l.length
 ·have e1 : (8192 : Int) < (l.length : Int) := GR
  have HF := hd1 (show Em.fT l = [] by unfold Em.fT; rw [IA h8]);have H8 := hd1 h8;clear h h8 hl;generalize hN : l.length = N at *;go_in;go_wp2;go_ret2;refine ⟨.slice none 0 0, by rw [hN, IA H8.out]; rfl, ?_, Below.refl _ _⟩;rw [HF.out];exact lY _ _
 ·have e1 : ¬ (8192 : Int) < (l.length : Int) := GR
  have HF := hd1 (show Em.fT l = Wm.frame l by unfold Em.fT; rw [Iw h8]);have H := hd3 h h8 hl;clear h h8 hl;generalize hN : l.length = N at *;have HN := hd1 hN
  have yz : nP (w.alloc (.cells #[.slice a N cap] df)) F (.slice (some w.heap.size) 1 1) l :=
   ⟨w.heap.size, _, rfl, (IJ _ _ _ _ _ _ (IC w _)).trans rfl, H.1.below (bla)⟩
  have SL := hd1 (x7w yz GR);clear yz hN;go_in
  go_wp2_with (first
   | (go_at_call 180; refine SL.mono ?_; rintro e w1 ⟨v1, rfl, o1, b1⟩
      obtain ⟨va, vc, rfl⟩ := o1.at.slice;have z1 := Em.EY l;have H1 := hd3 o1 ((((Below.refl w w).alloc GZ _).trans (b1.mono GV))) z1;have NC := hd1 (Bw (Cm.dw l).length w1 w1.heap.size GZ (.slice none 0 0) [] (lY _ _) GV (by rw [z1]; have := H.2.2; have := HN.out; omega));clear o1 b1 z1)
   | (go_at_call 158; refine NC.mono ?_; rintro e w2 ⟨v2, rfl, o2, b2, _⟩
      have H2 := hd3 o2 b2 (H1.2.1.trans (b2.mono H1.2.1.size));clear o2 b2)
   | (at_builtin; refine dS rfl (.tmp 13) (.tmp 14) rfl w.heap.size w1.heap.size w H2.2.2 H1.2.1.size _ ([] ++ Wm.aG (Cm.dw l).length) rfl H2.1 _ (Cm.dw l) _ rfl (H1.1.at.below H2.2.1) (by rw [H1.2.2]; have := (Em.h_ (Cm.dw l).length).1; rw [H1.2.2] at this; have := H.2.2; have := HN.out; simp; omega) H2.2.1.size ?_; intro v' w4 ho hb1 hb2))
  go_ret2;refine ⟨v', by rw [HN.out, Iw (Hg H.2.1 HN.out)]; rfl, ?_, hb1⟩;rw [HF.out];have := ho.out;exact bi this GY H1.2.1.size
theorem z0c {fn : Nat} {lb : Array Value} {body : List UInt8} (eg : ∀ args w, (callFunc fn args).run prog w = .ok (.enter fn args) w) (hl : body.length <= 900000000)
 (hbody : ∀ W, Below w w W -> fH W w.heap.size [] -> Calls prog fn (#[.pointer (some ⟨w.heap.size, 0, none⟩)] ++ lb) W λ e w' => e = .returned (.tuple #[]) /\ fH w' w.heap.size body /\ Below w W w') :
 Calls prog 115 #[.func (.func fn) #[] lb] w (gT w (Em.fT body)) := by
 have HB := hd1 hbody;clear hbody;go_in
 go_wp2_with (first
  | (go_at_call 152; refine (y3k w).mono ?_; rintro e w1 ⟨rfl, q1, b1⟩
     have BC := hd1 (HB.out w1 b1 q1);have H1 := hd1 b1;clear q1 b1)
  | (go_at_call 154; refine (y3j H2.1 hl).mono ?_; rintro e w3 ⟨v3, rfl, b3, y3⟩
     have H3 := hd2 (H2.2.trans (b3.mono H2.2.size)) y3;clear b3 y3)
  | (go_at_call 153; refine (y4o H3.2 hl).mono ?_; rintro e w4 ⟨v4, rfl, o4, b4⟩
     have H4 := hd2 (H3.1.trans (b4.mono H3.1.size)) o4;clear b4 o4)
  | (refine BC.mono ?_; rintro e w2 ⟨rfl, q2, b2⟩
     have H2 := hd2 q2 (H1.trans b2);clear q2 b2))
 all_goals
  go_ret;exact ⟨_, rfl, bi H4.2 GY H3.1.size, H4.1⟩
abbrev a_ : Nat := 33
def dJ (w : World) (F : Nat -> Prop) (v : Value) (l : List Em.ay) : Prop :=
 ((∃ a c, v = .slice a 0 c) /\ l = []) \/ ∃ (b o cap : Nat) (cs : Array Value) (t : TypeId) (fr : Nat × Nat), v = .slice (some ⟨b, o, none⟩) l.length cap /\ l.length <= cap /\ cap <= 9223372036854775807 /\ F b /\ w.heap[b]? = some (.cells cs t fr) ∧
   ∀ (i : Nat) (c : Em.ay), l[i]? = some c -> cs[o + i * 3]? = some (ag c.key) /\ cs[o + i * 3 + 1]? = some (ag c.value) /\ cs[o + i * 3 + 2]? = some (Value.bool c.gone)
theorem dJ.slice {l : List Em.ay} (h : dJ w F v l) : ∃ a c, v = .slice a l.length c := by
 rcases h with ⟨⟨_, _, rfl⟩, rfl⟩ | ⟨b, o, cap, cs, t, fr, rfl, _⟩
 ·exact ⟨_, _, rfl⟩
 ·exact ⟨_, _, rfl⟩
theorem dJ.below {l : List Em.ay} {B : Nat} (h : dJ w F v l) (hb : Below B w w') (hF : ∀ k, F k -> k < w.heap.size -> k < B) : dJ w' F v l := by
 rcases h with h | ⟨b, o, cap, cs, t, fr, h1, h2, h3, h4, h5, h6⟩
 ·exact Iy h
 ·exact Iz ⟨b, o, cap, cs, t, fr, h1, h2, h3, h4, (hb.block b (hF b h4 (aa h5))).trans h5, h6⟩
theorem dJ.at {a : Option Addr} {cap : Nat} {l : List Em.ay} (h : dJ w F (.slice a n cap) l) {i : Nat} {c : Em.ay} (hi : l[i]? = some c) :
 ∃ b o, a = some ⟨b, o, none⟩ /\ F b /\ b < w.heap.size /\ w.rangeAt b (o + i * 3) [ag c.key, ag c.value, .bool c.gone] := by
 rcases h with ⟨_, rfl⟩ | ⟨b, o, cap', cs, t, fr, h1, h2, h3, h4, h5, h6⟩
 ·simp at hi
 ·cases h1
  obtain ⟨g1, g2, g3⟩ := h6 i c hi;refine ⟨b, o, rfl, h4, aa h5, λ j v hj => ?_⟩;match j, hj with
  | 0, hj => cases hj; exact (IJ _ _ _ _ _ _ h5).trans g1
  | 1, hj => cases hj; exact (IJ _ _ _ _ _ _ h5).trans g2
  | 2, hj => cases hj; exact (IJ _ _ _ _ _ _ h5).trans g3
  | j + 3, hj => simp at hj
theorem jS : (prog.info? a_).map (·.size) = some 3 := GQ
theorem x3p {l : List Em.ay} {i : Nat} {c : Em.ay} (h : l[i]? = some c) : (l.take (i + 1)).flatMap Em.laid = (l.take i).flatMap Em.laid ++ (Wm.je c.gone ++ Wm.cB c.key ++ (if c.gone = true then [] else Wm.cB c.value)) := by
 rw [JC, h];simp [Em.laid]
theorem x9e {l : List Em.ay} (hw : fH w q []) (hg : w.cell? g = some v) (mf : g < q) (h : dJ w F v l) (hF : ∀ k, F k -> k < w.heap.size -> k < q) (hr : Em.right l = 0) :
 Calls prog 127 #[q, g] w λ e w' => e = .returned (.tuple #[]) /\ fH w' q (Em.dQ l) /\ Below q w w' := by
 obtain ⟨a, cap, rfl⟩ := h.slice;have lq : q < w.heap.size := let ⟨_, _, _, _, _, _, x⟩ := hw.cells; x;obtain ⟨r1, r2⟩ := Em.pE hr;have H := hd5 hw h hF r1 r2;have lens : ∀ i, ((l.take i).flatMap Em.laid).length <= 64 * 4179 := λ i => by
  have h1 := Em.wB Em.laid 4179 (l.take i) (λ c hc => Em.BM (r2 c (Ma hc)).2);have h2 : (l.take i).length * 4179 <= 64 * 4179 := Kj _ NK;omega
 have LN := hd1 lens;clear hw h hF r2 lens hr;generalize hN : l.length = N at *;have HN := hd1 hN;have W0 : fH (w.alloc (.cells #[.int .i64 3, .int .i64 N] oZ)) q [] := H.1.below (bla);have N0 : ql (w.alloc (.cells #[.int .i64 3, .int .i64 N] oZ)) w.heap.size [3, N] := ⟨_, _, IC w _, λ i x hx => by
  match i, hx with
  | 0, hx => cases hx; rfl
  | 1, hx => cases hx; rfl
  | i + 2, hx => simp at hx⟩
 have WN := hd1 (Ed (cap := 2) W0 N0 M8 GV GV);clear W0 N0 hN;go_in
 go_wp2_with (go_at_call 117; refine WN.mono ?_; rintro e w1 ⟨rfl, q1, s1⟩
              have B1 := hd1 ((GY.alloc (Jn lq) _).trans s1.below);have g1 : w1.cell? g = some (.slice a N cap) := (B1.cell (p := ⟨g, 0, none⟩) mf).trans hg;have H1 := hd1 q1;clear q1 s1)
 go_loopw [4, 12] (λ _ s wr => ∃ i : Nat, i <= N /\ s = .int .i64 (i : Int) /\ fH wr q (Wm.aG 3 ++ Wm.aG N ++ (l.take i).flatMap Em.laid) /\ Below q w wr) (λ _ s _ => N - (intOf s).toNat)
 case atStart => exact ⟨0, GR, rfl, by simpa using H1.out, B1.out⟩
 case round =>
  obtain ⟨i, hi, rfl, hw, hb⟩ := hrel;by_cases hlt : i < N
  ·have i0 : (0 : Int) <= (i : Int) := GR
   have i1 : (i : Int) < (N : Int) := GR;obtain ⟨c, hc⟩ : ∃ c, l[i]? = some c := ⟨_, IR Nk⟩;have cb := (H.2.2.2.2 c (Jb hc));have ck := Em.vT cb.2;have ch : dJ wr F (.slice a N cap) l := by have := H.2.1; exact this.below hb H.2.2.1
   obtain ⟨b, o, rfl, fb, lb, rg⟩ := ch.at hc;have wq : q < wr.heap.size := let ⟨_, _, _, _, _, _, x⟩ := hw.cells; x;obtain ⟨k, vv, gn⟩ := c;simp only at ck rg;have HT := hd1 (x3p hc);have Gw : (Wm.aG 3 ++ Wm.aG N ++ (l.take i).flatMap Em.laid).length <= 800000 := by
    have h1 := LN.out i;have h2 := (Em.h_ 3).1;have h3 := (Em.h_ N).1;rw [IL, IL]; omega
   obtain ⟨B, hB⟩ := G5 (Wm.aG 3 ++ Wm.aG N ++ (l.take i).flatMap Em.laid);rw [hB] at hw Gw;have xy := hd1 hB;clear hB;have ZC : (wr.alloc (.cells #[ag k, ag vv, .bool gn] a_)).heap[wr.heap.size]? = some (.cells #[ag k, ag vv, .bool gn] a_) := IC wr _;have z2 : (wr.alloc (.cells #[ag k, ag vv, .bool gn] a_)).cell? ⟨wr.heap.size, 2, none⟩ = some (.bool gn) := (IJ _ _ _ _ _ _ ZC).trans rfl;have W2 : fH ((wr.alloc (.cells #[ag k, ag vv, .bool gn] a_)).alloc (.cells #[.bool gn] 4)) q B := hw.below ((bla).alloc GV _);have TR := hd1 (y3l (b := wr.heap.size + 1) (cap := 1) gn W2 (by have := IC (wr.alloc (.cells #[ag k, ag vv, .bool gn] a_)) (.cells #[.bool gn] 4); simpa using this) GR);have HR := hd4 hb ZC ck Gw;have BK := hd1 (((Below.refl wr wr).alloc GZ (.cells #[ag k, ag vv, .bool gn] a_)).alloc GV (.cells #[.bool gn] 4));have ZK := hd1 (((bla : Below _ _ ((wr.alloc (.cells #[ag k, ag vv, .bool gn] a_)).alloc (.cells #[.bool gn] 4))).block _ (aa ZC)).trans ZC);have RG := hd1 rg;have wn : wr.heap.size ≠ q := GR;clear hw hb ZC W2 Gw ck rg hc cb ch;cases gn
   ·go_wp2_with (first
     | (refine JA rfl a_ (.tmp 14) rfl b (o + i * 3) rfl _ _ RG.out Ic rfl jS ?_)
     | (refine Eg rfl a_ (.tmp 4) (.tmp 15) rfl _ #[ag k, ag vv, .bool false] rfl rfl a_ jS rfl rfl ?_)
     | (go_at_call 128; (with_reducible refine TR.out.mono ?_); rintro e w3 ⟨rfl, q3, s3⟩
        have ZD := s3.kept _ _ _ _ ZK.out GU wn;have y0 : w3.cell? ⟨wr.heap.size, 0, none⟩ = some (ag k) := (IJ _ _ _ _ _ _ ZD).trans rfl;have H3 := hd3 q3 s3 ZD;have T1 := hd1 (xE q3 k MN (Hf HR.2.2.1));clear q3 s3 ZD)
     | (go_at_call 119; (with_reducible refine T1.out.mono ?_); rintro e w4 ⟨rfl, q4, s4⟩
        have ZE := s4.kept _ _ _ _ H3.2.2 GU wn;have x1 : w4.cell? ⟨wr.heap.size, 1, none⟩ = some (ag vv) := (IJ _ _ _ _ _ _ ZE).trans rfl;have x2 : w4.cell? ⟨wr.heap.size, 2, none⟩ = some (.bool false) := (IJ _ _ _ _ _ _ ZE).trans rfl;have H4 := hd2 q4 s4;have T2 := hd1 (xE q4 vv (by have := HR.2.2.2; have := Em.jf k; have := HR.2.2.1; rw [IL, IL]; simp [Wm.je]; omega) (Hf HR.2.2.1));clear q4 s4 ZE)
     | (go_at_call 119; (with_reducible refine T2.out.mono ?_); rintro e w5 ⟨rfl, q5, s5⟩
        have H5 := hd2 q5 s5;clear q5 s5))
    go_roundw
    case rel =>
     refine ⟨i + 1, GR, by go_num, ?_, HR.1.trans ((BK.mono (Jn wq)).trans (H3.2.1.below.trans (H4.2.below.trans H5.2.below)))⟩;have := H5.1;exact Sb
    case measure => simp [intOf]; omega
   ·go_wp2_with (first
     | (refine JA rfl a_ (.tmp 14) rfl b (o + i * 3) rfl _ _ RG.out Ic rfl jS ?_)
     | (refine Eg rfl a_ (.tmp 4) (.tmp 15) rfl _ #[ag k, ag vv, .bool true] rfl rfl a_ jS rfl rfl ?_)
     | (go_at_call 128; (with_reducible refine TR.out.mono ?_); rintro e w3 ⟨rfl, q3, s3⟩
        have ZD := s3.kept _ _ _ _ ZK.out GU wn;have y0 : w3.cell? ⟨wr.heap.size, 0, none⟩ = some (ag k) := (IJ _ _ _ _ _ _ ZD).trans rfl;have H3 := hd3 q3 s3 ZD;have T1 := hd1 (xE q3 k MN (Hf HR.2.2.1));clear q3 s3 ZD)
     | (go_at_call 119; (with_reducible refine T1.out.mono ?_); rintro e w4 ⟨rfl, q4, s4⟩
        have ZE := s4.kept _ _ _ _ H3.2.2 GU wn;have x2 : w4.cell? ⟨wr.heap.size, 2, none⟩ = some (.bool true) := (IJ _ _ _ _ _ _ ZE).trans rfl;have H4 := hd2 q4 s4;clear q4 s4 ZE))
    go_roundw
    case rel =>
     refine ⟨i + 1, GR, by go_num, ?_, HR.1.trans ((BK.mono (Jn wq)).trans (H3.2.1.below.trans H4.2.below))⟩;have := H4.1;exact Sb
    case measure => simp [intOf]; omega
  ·obtain rfl : i = N := GR
   go_wp2;go_end0
   rw [Je M0] at hw;refine ⟨rfl, ?_, hb⟩;unfold Em.dQ;rw [HN.out];exact hw
theorem y1i {l : List Em.ay} (h : dJ w F v l) (hr : Em.right l = 0) : Calls prog 79 #[v] w (gT w (Em.aY l)) := by
 have h' : dJ w (λ k => k < w.heap.size) v l := by
  rcases h with h | ⟨b, o, cap, cs, t, fr, h1, h2, h3, h4, h5, h6⟩
  ·exact Iy h
  ·exact Iz ⟨b, o, cap, cs, t, fr, h1, h2, h3, aa h5, h5, h6⟩
 clear h;obtain ⟨a, cap, rfl⟩ := h'.slice;have eg := enters_of func127 GQ rfl;have W0 := hd1 (IC w (.cells #[.slice a l.length cap] 34))
 have FC := hd1 (z0c (w := w.alloc (.cells #[.slice a l.length cap] 34)) (fn := 127) (lb := #[.pointer (some ⟨w.heap.size, 0, none⟩)]) eg
  (Hf (Em.y1h hr)) (λ W hb q1 => x9e q1 (((hb.cell (p := ⟨w.heap.size, 0, none⟩) GV).trans ((IJ _ _ _ _ _ _ W0.out).trans rfl))) GV (h'.below (((Below.refl w w).alloc GZ _).trans (hb.mono GV)) (λ _ a _ => a)) (λ k a _ => by simp; omega) hr))
 have H := hd1 h';clear h' eg;have gN : ∀ (fn : Fn) (first cap : Array Value) (w : World), (Instr.makeFunc fn first cap).run prog w = .ok (.func fn first cap) w := λ _ _ _ _ => rfl;go_in;go_wp2_with (go_at_call 115; refine FC.mono ?_; rintro e w1 ⟨v1, rfl, o1, b1⟩)
 go_ret;exact ⟨_, rfl, bi o1 GY GV, (bla).trans (b1.mono GV)⟩
theorem CU (s : List UInt8) : ((⟨s.toArray⟩ : ByteArray) == ⟨#[]⟩) = s.isEmpty := by
 show ((⟨s⟩ : Array UInt8) == ⟨[]⟩) = _;cases s <;> simp
theorem y3m (w : World) (c : Em.ay) : Calls prog 124 #[.agg #[ag c.key, ag c.value, .bool c.gone]] w λ e w' => e = .returned (.bool c.wrong) /\ Below w w w' := by
 obtain ⟨k, v, g⟩ := c;have HB := hd1 ((Below.refl w w).alloc GZ (.cells #[ag k, ag v, .bool g] a_));exact O5
theorem x2f (w : World) (c : Em.ay) : Calls prog 125 #[.agg #[ag c.key, ag c.value, .bool c.gone]] w λ e w' => e = .returned (.bool c.long) /\ Below w w w' := by
 obtain ⟨k, v, g⟩ := c;have Z := IC w (.cells #[ag k, ag v, .bool g] a_);have z0 : (w.alloc (.cells #[ag k, ag v, .bool g] a_)).cell? w.heap.size = some (ag k) := (IJ _ _ _ _ _ _ Z).trans rfl;have z1 : (w.alloc (.cells #[ag k, ag v, .bool g] a_)).cell? (w.heap.size, 1) = some (ag v) := (IJ _ _ _ _ _ _ Z).trans rfl;clear Z;by_cases h1 : 64 < k.length
 ·have d1 : (64 : Int) < (k.length : Int) := GR
  go_in;go_wp2;go_ret;refine ⟨?_, bla⟩;rw [show (Em.ay.mk k v g).long = true by simp [Em.ay.long, h1]];rfl
 ·have d1 : ¬ (64 : Int) < (k.length : Int) := GR
  have d2 : decide ((4096 : Int) < (v.length : Int)) = (Em.ay.mk k v g).long := by
   simp only [Em.ay.long, JV h1, Lh];exact decide_eq_decide.2 GR
  go_in;go_wp2;go_ret;refine ⟨?_, bla⟩;rw [<-d2];rfl
theorem x3j {l : List Em.ay} {fn : Nat} {p : Em.ay -> Bool} (eg : ∀ args w, (callFunc fn args).run prog w = .ok (.enter fn args) w)
 (hp : ∀ W c, Below w w W -> Calls prog fn #[.agg #[ag c.key, ag c.value, .bool c.gone]] W λ e w' => e = .returned (.bool (p c)) /\ Below W W w') (h : dJ w F v l) (hl : l.length <= 1000000000) :
 Calls prog 159 #[v, .func (.func fn) #[] #[]] w λ e w' => ∃ n : Int, e = .returned (.int .i64 n) /\ decide (0 <= n) = l.any p /\ Below w w w' := by
 obtain ⟨a, cap, rfl⟩ := h.slice;have H := hd1 h;have HP := hd1 hp;clear h hp;generalize hN : l.length = N at *;have HN := hd1 hN;clear hN;go_in;go_wp2;go_loopw [5, 8] (λ _ s wr => ∃ i : Nat, i <= N /\ s = .int .i64 (i : Int) /\ (l.take i).any p = false /\ Below w w wr) (λ _ s _ => N - (intOf s).toNat)
 case atStart => exact ⟨0, GR, rfl, rfl, Below.refl _ _⟩
 case round =>
  obtain ⟨i, hi, rfl, hall, hb⟩ := hrel;by_cases hlt : i < N
  ·have i0 : (0 : Int) <= (i : Int) := GR
   have i1 : (i : Int) < (N : Int) := GR;obtain ⟨c, hc⟩ : ∃ c, l[i]? = some c := ⟨_, IR Nk⟩;obtain ⟨b, o, rfl, fb, lb, rg⟩ := H.at hc;have RG := hd1 (show wr.rangeAt b (o + i * 3) [ag c.key, ag c.value, .bool c.gone] from λ j v hj => (hb.cell (p := ⟨b, o + i * 3 + j, none⟩) lb).trans (rg j v hj));have PC := hd1 (HP.out wr c hb);have HA := hd3 hall hb hc;clear hall hb rg hc;cases hpc : p c
   ·rw [hpc] at PC
    go_wp2_with (first
     | (refine JA rfl a_ (.tmp 14) rfl b (o + i * 3) rfl _ _ RG.out Ic rfl jS ?_)
     | (refine PC.mono ?_; rintro e w1 ⟨rfl, b1⟩; have H1 := hd1 b1; clear b1))
    go_roundw
    case rel =>
     refine ⟨i + 1, GR, by go_num, ?_, HA.2.1.trans (H1.mono HA.2.1.size)⟩;rw [JC, HA.2.2, List.any_append, HA.1];simp [hpc]
    case measure => simp [intOf]; omega
   ·rw [hpc] at PC
    go_wp2_with (first
     | (refine JA rfl a_ (.tmp 14) rfl b (o + i * 3) rfl _ _ RG.out Ic rfl jS ?_)
     | (refine PC.mono ?_; rintro e w1 ⟨rfl, b1⟩; have H1 := hd1 b1; clear b1))
    go_ret;refine ⟨i, rfl, ?_, HA.2.1.trans (H1.mono HA.2.1.size)⟩;rw [Km i0];exact (KL.2 ⟨c, Jb HA.2.2, hpc⟩).symm
  ·obtain rfl : i = N := GR
   go_wp2;go_ret;refine ⟨-1, rfl, ?_, hb⟩;rw [Je M0] at hall;rw [hall];rfl
theorem y1v {l : List Em.ay} {fn : Nat} {p : Em.ay -> Bool} (eg : ∀ args w, (callFunc fn args).run prog w = .ok (.enter fn args) w)
 (hp : ∀ W c, Below w w W -> Calls prog fn #[.agg #[ag c.key, ag c.value, .bool c.gone]] W λ e w' => e = .returned (.bool (p c)) /\ Below W W w') (h : dJ w F v l) (hl : l.length <= 1000000000) :
 Calls prog 126 #[v, .func (.func fn) #[] #[]] w λ e w' => e = .returned (.bool (l.any p)) /\ Below w w w' := by
 have H := hd1 (x3j eg hp h hl);obtain ⟨a, cap, rfl⟩ := h.slice;clear h hp eg;go_in;go_wp2_with (go_at_call 159; refine H.mono ?_; rintro e w' ⟨n, rfl, hn, b1⟩)
 go_ret;exact ⟨by rw [<-hn]; rfl, b1⟩
theorem dJ.later {l : List Em.ay} (h : dJ w F v l) (hb : Below w w w') : dJ w' F v l := by
 exact Qc
theorem y8e {l : List Em.ay} (h : dJ w F v l) (hl : l.length <= 1000000000) :
 Calls prog 77 #[v] w λ e w' => e = .returned (.int .i64 (Em.right l)) /\ Below w w w' := by
 have e1 := enters_of func124 GQ rfl;have e2 := enters_of func125 GQ rfl;have C1 := hd1 (y1v e1 (λ W c _ => y3m W c) h hl);have C2 := hd1 (λ W (hb : Below w w W) => y1v (w := W) e2 (λ W c _ => x2f W c) (h.later hb) hl);obtain ⟨a, cap, rfl⟩ := h.slice;clear h e1 e2;cases hw : l.any Em.ay.wrong
 ·rw [hw] at C1
  by_cases h64 : 64 < l.length
  ·have HR := hd1 (show Em.right l = 3 by unfold Em.right; rw [hw, Iw GU, IA h64])
   have d1 : (64 : Int) < (l.length : Int) := GR;clear hw h64;exact Qf
  ·have d1 : ¬ (64 : Int) < (l.length : Int) := GR
   cases hg : l.any Em.ay.long
   ·rw [hg] at C2
    have HR := hd1 (show Em.right l = 0 by unfold Em.right; rw [hw, hg, Iw GU, Iw h64, Iw GU]);exact Pb
   ·rw [hg] at C2
    have HR := hd1 (show Em.right l = 3 by unfold Em.right; rw [hw, hg, Iw GU, Iw h64, IA rfl]);exact Pb
 ·rw [hw] at C1
  have HR := hd1 (show Em.right l = 2 by unfold Em.right; rw [hw, IA rfl]);clear hw;exact Qf
abbrev jM : Nat := 66
abbrev dB : Nat := 9
theorem x8m (m : Nat) (es : Array MapEntry) (clock : Nat) (w : World) (hb : w.heap[m]? = some (.map es clock)) :
 Calls prog 78 #[.map (some m)] w λ e w' => e = .returned (.map (some w.heap.size)) /\ w' = w.alloc (.map es clock) := by
 have hq := λ w => run_eql_map_nil_sl (P := prog) w jM _ _ (some m) Ie;go_in;go_wp2;rw [run_callFunc_extern func103 GQ GQ GQ (e := Extern.MapsClone.clone) GQ, run_maps_clone_sl w jM hb];simp only [Result.andThen];rw [Oper.upon_value];go_wp2;rw [run_typeAssert_map_sl _ jM 20 _ _ _ Ie];simp only [Result.andThen];rw [Oper.upon_value];go_wp2;exact OJ
abbrev RowsIn (w : World) (m n : Nat) (D : Em.Rows) : Prop := w.ownsMap prog dB (plainElem prog dB) m n D
theorem yI (s : List UInt8) (h : s.length <= 9223372036854775807) : keyOf prog dB (ag s) = some (.string s) := by
 simpa using Go.WideMaps.keyOf_string_mk (P := prog) Ib (s := ⟨s.toArray⟩) (by simp [ByteArray.size]; exact h)
theorem zg (s : List UInt8) (h : s.length <= 9223372036854775807) : plainElem (H := Unit) prog dB (ag s) = some (.lit (.string s), []) := by
 have := plainElem_string (H := Unit) Ib (s := ⟨s.toArray⟩) (by simp [ByteArray.size]; exact h);simpa using this
theorem vE : Maps.Keyed prog dB := Maps.string_keyed Ib
def jb (w : World) (v : Value) (ks : List (List UInt8)) : Prop :=
 (v = .slice none 0 0 /\ ks = []) \/ ∃ (b cap : Nat) (cs : Array Value), v = .slice (some ⟨b, 0, none⟩) ks.length cap /\ w.heap[b]? = some (.cells cs dB (0, 0)) /\ ∀ (i : Nat) (k : List UInt8), ks[i]? = some k -> cs[i]? = some (ag k)
theorem jb.slice {ks : List (List UInt8)} (h : jb w v ks) : ∃ a c, v = .slice a ks.length c := by
 rcases h with ⟨rfl, rfl⟩ | ⟨b, cap, cs, rfl, _⟩
 ·exact ⟨_, _, rfl⟩
 ·exact ⟨_, _, rfl⟩
theorem jb.at {a : Option Addr} {cap : Nat} {ks : List (List UInt8)} (h : jb w (.slice a n cap) ks) {i : Nat} {k : List UInt8} (hi : ks[i]? = some k) : ∃ b, a = some ⟨b, 0, none⟩ /\ w.cell? ⟨b, i, none⟩ = some (ag k) := by
 rcases h with ⟨_, rfl⟩ | ⟨b, cap', cs, h1, h2, h3⟩
 ·simp at hi
 ·cases h1
  exact ⟨b, rfl, (IJ _ _ _ _ _ _ h2).trans (h3 i k hi)⟩
theorem z8b {base : Nat} {ks : List (List UInt8)} (h : w.ownsRow base dB 1 v ks.length (ks.map encStr)) : jb w v ks := by
 rcases h.2 with ⟨h1, h2⟩ | ⟨g, cap, cur, h1, h2, h3, h4, h5, h6, h7⟩
 ·exact Iy ⟨h1, JU h2⟩
 ·refine Iz ⟨g, cap, cur, h1, h3, λ i k hk => ?_⟩
  have hx : (ks.map encStr)[i]? = some (ag k) := by rw [Kq, hk]; rfl
  have := h.cells (g := g) (by rw [h1]; rfl) i _ hx;rw [addr_add] at this;rw [IJ _ _ _ _ _ _ h3] at this;simpa using this
theorem jb.later {ks : List (List UInt8)} (h : jb w v ks) (hb : Below w w w') : jb w' v ks := by
 rcases h with h | ⟨b, cap, cs, h1, h2, h3⟩
 ·exact Iy h
 ·exact Iz ⟨b, cap, cs, h1, (hb.block b (aa h2)).trans h2, h3⟩
theorem jb.adds {u u' : Value} {ks : List (List UInt8)} {base : Nat} (h : jb w v ks) (ho : bY w base u l) (ha : cz w w' u u') : jb w' v ks := by
 rcases h with h | ⟨b, cap, cs, h1, h2, h3⟩
 ·exact Iy h
 ·exact Iz ⟨b, cap, cs, h1, ha.kept h2 (own_ne ho h2 GU), h3⟩
def z2v (w : World) (D : Em.Rows) (e : Ending) (w' : World) : Prop := ∃ v, e = .returned v /\ jb w' v (Em.cO D) /\ Below w.heap.size w w'
theorem y6j {D : Em.Rows} (h : RowsIn w m n D) (hn : Maps.size D <= 1000000) : Calls prog 44 #[.map (some m)] w (z2v w D) := by
 have K := hd1 (Jg.1 (Gr (some m) w));have S := hd1 (Jg.1 (z4f m n D (plainElem prog dB) w h Nr GR));clear h;go_in
 go_wp2_with (first
  | (go_at_call 83; refine K.mono ?_; rintro e w' ⟨rfl, rfl⟩)
  | (go_at_call 82; refine S.mono ?_; rintro e w1 ⟨v, ss, rfl, hS, hrow, hnil, hb⟩))
 go_ret;refine ⟨v, rfl, ?_, ((Below.refl _ w).alloc GZ _).trans (hb.mono GV)⟩;have e1 : ss.mergeSort (λ x y => decide (x <= y)) = Em.cO D := mergeSort_of_perm hS;have e2 : ss.length = (Em.cO D).length := by rw [<-e1, List.length_mergeSort]
 rw [e1, e2] at hrow;exact z8b hrow
theorem y6i (w : World) : Calls prog 44 #[.map none] w (z2v w (.map [])) := by
 have K := hd1 (Jg.1 (Gr none w));have S := hd1 (Jg.1 (y6f w));go_in
 go_wp2_with (first
  | (go_at_call 83; refine K.mono ?_; rintro e w' ⟨rfl, rfl⟩)
  | (go_at_call 82; refine S.mono ?_; rintro e w1 ⟨v, ss, rfl, hS, hrow, hnil, hb⟩))
 go_ret;refine ⟨v, rfl, ?_, ((Below.refl _ w).alloc GZ _).trans (hb.mono GV)⟩;have e1 : Em.cO (.map []) = [] := by simp [Em.cO, strKeys]
 rw [e1];exact Iy ⟨hnil.2 hS, rfl⟩
end Go.Proofs.YtgffifleflkjoaaGreat
