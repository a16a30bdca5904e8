/-
  Parts of a proof.
-/
import Derived.Test.YtgffifleflkjoaaGreatFin24
set_option linter.unusedSimpArgs false
set_option linter.unusedVariables false
set_option maxRecDepth 100000
set_option maxHeartbeats 16000000
namespace Go.Proofs.YtgffifleflkjoaaGreat
open _root_.Go.Proofs.Tryz
variable {w W w' w0 wr w1 W0 W1 W2 A B : World} {F G F' O : Nat → Prop} {v : Value} {l : List UInt8} {n q m pd md pl g p : Nat} {C : Array Value} {c : Int}
open Go.RowKit Dm
theorem Fe (most : Nat) (l : List UInt8) : Wm.bF most l = if (Wm.first l).2 <= 0 \/ (Wm.first l).1 > most then none else some ((Wm.first l).1, l.drop (Wm.first l).2.toNat) := rfl
theorem Fb {r : List UInt8} {most : Nat} (h : aU w q l) (hl : l.length <= 1000000000) (hr : Wm.bF most l = some (n, r)) :
 Calls prog 199 #[q, .int .i64 most] w λ e w' => e = .returned (.int .i64 n) /\ aU w' q r /\ Moves (λ k => k = q) w w' := by
 have H := hd1 h;obtain ⟨v, row, y⟩ := h;have FC := hd1 (z1u w v _ l y hl);obtain ⟨hk, hn⟩ := za l;rw [Fe] at hr;by_cases hq : (Wm.first l).2 <= 0 \/ (Wm.first l).1 > most
 ·rw [IA hq] at hr; cases hr
 ·rw [Iw hq] at hr
  obtain ⟨q1, q2⟩ := not_or.1 hq;obtain ⟨rfl, rfl⟩ : (Wm.first l).1 = n /\ l.drop (Wm.first l).2.toNat = r := by
   exact Py
  obtain ⟨N, hN⟩ := G5 ((Wm.first l).1);rcases hk with hk | hk | ⟨k, hk, k1, k9, kl⟩
  ·omega
  ·omega
  ·rw [hN, hk] at FC
   rw [hN] at q2;rw [hN, hk, Kv];have d1 : (0 : Int) < (k : Int) := GR;have d2 : (N : Int) <= (most : Int) := GR;have c0 : w.cell? q = some v := ae row rfl;have HH := hd2 kl hl;clear hr hq q1 q2 hN hk hn k1 k9 kl hl row y;go_in
   go_wp2_with (first
    | (go_at_call 144; refine FC.mono ?_; rintro e w1 ⟨rfl, b1⟩; have B1 := hd1 b1; clear b1 c0)
    | (go_at_call 177; refine (rX _).mono ?_; rintro e w' ⟨rfl, rfl⟩)
    | (go_at_call 203; refine (Ak (H.later B1.out) HH.1 HH.2).mono ?_; rintro e w2 ⟨v2, rfl, _, r2, m2⟩; have H2 := hd2 r2 m2; clear r2 m2))
   go_ret;exact ⟨rfl, H2.1, (Moves.of_below B1.out).trans H2.2 (λ _ _ h => h)⟩
theorem z5b {most : Nat} (h : aU w q l) (hl : l.length <= 1000000000) (hr : Wm.bF most l = none) :
 Calls prog 199 #[q, .int .i64 most] w λ e w' => e = .panicked qD /\ Below w w w' := by
 obtain ⟨v, row, y⟩ := h;have FC := hd1 (z1u w v _ l y hl);rw [Fe] at hr;by_cases hq : (Wm.first l).2 <= 0 \/ (Wm.first l).1 > most
 ·obtain ⟨N, hN⟩ := G5 ((Wm.first l).1)
  obtain ⟨K, hK⟩ := G5 ((Wm.first l).2);rw [hN, hK] at FC hq;have c0 : w.cell? q = some v := ae row rfl;clear hr hN hK hl row y;by_cases hk : K <= 0
  ·have d1 : ¬ (0 : Int) < K := GR
   exact Px
  ·have d1 : (0 : Int) < K := GR
   have d2 : ¬ N <= most := GR;exact Px
 ·rw [Iw hq] at hr; cases hr
theorem Ag (w : World) (n : Nat) : Calls prog 197 #[.int .i64 n] w λ e w' => e = .returned (.int .i64 0) /\ w = w' := by
 have d1 : ¬ (n : Int) < 0 := GR;go_in;go_wp2;exact OJ
theorem z5a (h : aU w q l) : Calls prog 200 #[q] w λ e w' => e = .returned (.bool false) /\ w = w' := by
 obtain ⟨v, row, y⟩ := h;have c1 : w.cell? (q, 1) = some (.bool true) := ae row rfl;clear row y;go_in;go_wp2;exact OJ
abbrev qG : Nat := 24
abbrev z3c : Nat := 251
theorem y7q (w : World) : (Instr.typeAssert (.iface u_ (.agg #[])) 20 u_ true).run prog w = .ok (.tuple #[.agg #[], .bool true]) w := GQ
theorem y4m (a b c : Addr) (w : World) :
 CallsD prog 201 #[.pointer (some a), .pointer (some b), .pointer (some c)] .returning w λ e u' w' => e = .returned (.tuple #[]) /\ u' = .returning /\ w' = w := by
 refine Lg func201 rfl λ c₀ cs hu => ?_;apply wpS_seq
 apply Ke
 simp [wpOpsS, go_sem, recoverD, hu, ntmps201, Exit.thenS];refine wpS_of_wp ?_;simp only [J_, Ka, Kb, Kc, Ji, JK, LM, LP, LQ];go_wp2;cases c₀;simp_all [bodyPostS, results, Tryz.results201]
theorem y4n {a b c : Nat} {v0 v1 x : Value} {ba : Array Value} (older : List PanicEntry) (ca : w.cell? a = some v0) (cb : w.cell? b = some (.pointer (some q))) (rc : w.heap[c]? = some (.cells #[x] qG))
 (rq : w.heap[q]? = some (.cells #[v1, true, false] qF)) (hv : ∃ s n m, v0 = .slice s n m) (hcq : c ≠ q) :
 CallsD prog 201 #[.pointer (some a), .pointer (some b), .pointer (some c)] (.panicking ({ v := .iface u_ (.agg #[]), recovered := false } :: older)) w λ e u' w' =>
  e = .returned (.tuple #[]) /\ u' = .panicking ({ v := .iface u_ (.agg #[]), recovered := true } :: older) /\ Moves (λ k => k = q \/ k = c) w w' /\ w'.cell? c = some (.int .i64 140) := by
 obtain ⟨s, n, m, rfl⟩ := hv;refine Lg func201 rfl λ c₀ cs hu => ?_;have hrl := y7q;apply wpS_seq
 apply Ke
 simp [wpOpsS, go_sem, recoverD, hu, ntmps201, Exit.thenS];refine wpS_of_wp ?_;simp only [J_, Ka, Kb, Kc, Ji, JK, LM, LP, LQ];obtain ⟨W, hW⟩ := G5 (w.alloc (.cells #[] u_));have B : Below w w W := by rw [<-hW]; exact bla
 have ka : W.cell? a = some (.slice s n m) := aN B ca;have kb : W.cell? b = some (.pointer (some q)) := aN B cb;have sF := (B.block q (aa rq)).trans rq;have rc' := (B.block c (aa rc)).trans rc;have q0 := ae sF (j := 0) rfl;have q2 := ae sF (j := 2) rfl;have zq0 := aZ sF 0;have zq2 := aZ sF 2;have c0 := ae rc' (j := 0) rfl;have zc0 := aZ rc' 0;have HH := hd3 B sF rc';clear rq rc ca cb B sF rc';go_wp2;obtain ⟨B, sF, rc'⟩ := HH.out;have m1 := eP W q 0 (.slice s n m);have m2 := eP (W.setCell q (.slice s n m)) q 2 (.bool true);have m3 := eP ((W.setCell q (.slice s n m)).setCell (q, 2) (.bool true)) c 0 (.int .i64 140);have r3 := (m2.block c (Hg m1.size (aa rc')) hcq).trans ((m1.block c (aa rc') hcq).trans rc');have r4 := IQ _ c 0 _ qG (.int .i64 140) r3
 have mv : Moves (λ k => k = q \/ k = c) w (((W.setCell q (.slice s n m)).setCell (q, 2) (.bool true)).setCell c (.int .i64 140)) :=
  (Moves.of_below B).trans (((m1.mono (λ _ h => Iy h)).trans (m2.mono (λ _ h => Iy h)) (λ _ _ h => h)).trans (m3.mono (λ _ h => Iz h)) (λ _ _ h => h)) (λ _ _ h => h)
 have kc := ae r4 (j := 0) rfl;generalize (((W.setCell q (.slice s n m)).setCell (q, 2) (.bool true)).setCell c (.int .i64 140)) = W' at mv kc ⊢;simp [bodyPostS, results, Tryz.results201];exact ⟨mv, kc⟩
theorem zW {fn : Nat} {fs cs : Array Value} {R : World -> World -> Prop} (h : aU w q l) (eg : ∀ args w, (callFunc fn args).run prog w = .ok (.enter fn args) w)
 (HC : ∀ W, Below w w W -> Calls prog fn (fs ++ cs) W λ e w' => e = .returned (.tuple #[]) /\ R W w') (hR : ∀ W w', R W w' -> Moves (λ k => k < w.heap.size) W w') :
 Calls prog 175 #[q, .int .i64 0, .func (.func fn) fs cs] w λ e w' => e = .returned (.int .i64 0) /\ ∃ W W' x, Below w w W /\ R W W' /\ Moves (λ k => k = x) W' w' /\ w.heap.size <= x := by
 have gN : ∀ (fn : Fn) (first cap : Array Value) (w : World), (Instr.makeFunc fn first cap).run prog w = .ok (.func fn first cap) w := λ _ _ _ _ => rfl;have H := hd1 h;obtain ⟨v, row, y⟩ := h;obtain ⟨va, vc, rfl⟩ := y.slice;have lq := aa row;obtain ⟨W, hW⟩ := G5 ((w.alloc (.cells #[.pointer (some ⟨q, 0, none⟩)] iA)).alloc (.cells #[.int .i64 0] qG));have B : Below w w W := by rw [<-hW]; exact (bla).alloc GV _
 have s : W.heap.size = w.heap.size + 2 := by rw [<-hW]; simp
 have r3 : W.heap[w.heap.size]? = some (.cells #[q] iA) := by rw [<-hW]; exact aM GV (IC w _)
 have r6 : W.heap[w.heap.size + 1]? = some (.cells #[.int .i64 0] qG) := by rw [<-hW]; exact bD (w := w.alloc _) _ GV
 have c3 : W.cell? ⟨w.heap.size, 0, none⟩ = some (.pointer (some q)) := ae r3 rfl;have rq := (B.block q lq).trans row;have q0 := ae rq (j := 0) rfl;have q2 := ae rq (j := 2) rfl;have NC := hd1 (λ (X : World) (hb : Below w w X) => z5a (H.later hb));have HB := hd4 B s r6 rq;have HW := hd1 hW;clear row y B r3 r6 rq hW;go_enter_defers func175, ntmps175
 go_upto_region 1 with fail
 rw [HW.out]
 go_wp2_with (first
  | (go_at_call 200; refine (NC.out _ HB.1).mono ?_; rintro e w' ⟨rfl, rfl⟩)
  | (refine (HC _ (HB.1.alloc HB.1.size _)).mono ?_; rintro e w2 ⟨rfl, r2⟩
     have m2 := hR _ _ r2;have t6 := (m2.block (w.heap.size + 1) (by have := HB.2.1; simp; omega) GR).trans ((JL _ _ _ (Hf HB.2.1)).trans HB.2.2.1);have c6 := ae t6 (j := 0) rfl;have z6 := aZ t6 0;have H2 := hd2 r2 t6;clear m2 t6 r2))
 refine leaves_cons (f := 201) (args := #[.pointer (some ⟨w.heap.size + 2, 0, none⟩), .pointer (some ⟨w.heap.size, 0, none⟩), .pointer (some ⟨w.heap.size + 1, 0, none⟩)]) GV NV ?_;refine (y4m ⟨w.heap.size + 2, 0, none⟩ ⟨w.heap.size, 0, none⟩ ⟨w.heap.size + 1, 0, none⟩ _).mono ?_;rintro e u' w'' ⟨rfl, rfl, rfl⟩;have h1 : (w2.setCell ⟨w.heap.size + 1, 0, none⟩ (.int .i64 0)).cell? ⟨w.heap.size + 1, 0, none⟩ = some (.int .i64 0) := ae (IQ _ _ 0 _ qG (.int .i64 0) H2.2) rfl;have ms := eP w2 (w.heap.size + 1) 0 (.int .i64 0);simp [Leaves, settle, results, Tryz.results175, go_sem, h1];exact ⟨_, HB.1.alloc HB.1.size _, w2, H2.1, w.heap.size + 1, ms, GR⟩
theorem zX {fn : Nat} {fs cs : Array Value} {R : World -> World -> Prop} (h : aU w q l) (eg : ∀ args w, (callFunc fn args).run prog w = .ok (.enter fn args) w)
 (HC : ∀ W, Below w w W -> Calls prog fn (fs ++ cs) W λ e w' => e = .panicked qD /\ R W w') (hR : ∀ W w', Below w w W -> R W w' -> Moves (λ k => k = q) W w' /\ ∃ v', w'.heap[q]? = some (.cells #[v', true, false] qF)) :
 Calls prog 175 #[q, .int .i64 0, .func (.func fn) fs cs] w λ e w' => e = .returned (.int .i64 140) /\ Moves (λ k => k = q) w w' := by
 have gN : ∀ (fn : Fn) (first cap : Array Value) (w : World), (Instr.makeFunc fn first cap).run prog w = .ok (.func fn first cap) w := λ _ _ _ _ => rfl;have H := hd1 h;obtain ⟨v, row, y⟩ := h;obtain ⟨va, vc, rfl⟩ := y.slice;have lq := aa row;obtain ⟨W, hW⟩ := G5 ((w.alloc (.cells #[.pointer (some ⟨q, 0, none⟩)] iA)).alloc (.cells #[.int .i64 0] qG));have B : Below w w W := by rw [<-hW]; exact (bla).alloc GV _
 have s : W.heap.size = w.heap.size + 2 := by rw [<-hW]; simp
 have r3 : W.heap[w.heap.size]? = some (.cells #[q] iA) := by rw [<-hW]; exact aM GV (IC w _)
 have r6 : W.heap[w.heap.size + 1]? = some (.cells #[.int .i64 0] qG) := by rw [<-hW]; exact bD (w := w.alloc _) _ GV
 have c3 : W.cell? ⟨w.heap.size, 0, none⟩ = some (.pointer (some q)) := ae r3 rfl;have rq := (B.block q lq).trans row;have q0 := ae rq (j := 0) rfl;have q2 := ae rq (j := 2) rfl;have NC := hd1 (λ (X : World) (hb : Below w w X) => z5a (H.later hb));have HB := hd4 B s r6 rq;have HW := hd1 hW;clear row y B r3 r6 rq hW;go_enter_defers func175, ntmps175
 go_upto_region 1 with fail
 rw [HW.out]
 go_wp2_with (first
  | (go_at_call 200; refine (NC.out _ HB.1).mono ?_; rintro e w' ⟨rfl, rfl⟩)
  | (refine (HC _ (HB.1.alloc HB.1.size _)).mono ?_; rintro e w2 ⟨rfl, r2⟩
     obtain ⟨m2, v2, rv⟩ := hR _ _ (HB.1.alloc HB.1.size _) r2;have H2 := hd2 m2 rv;clear m2 rv r2))
 obtain ⟨B, s, r6, rq⟩ := HB.out;obtain ⟨m2, rv⟩ := H2.out;have s' : (W.alloc (.cells #[.slice va l.length vc] z3c)).heap.size = w.heap.size + 3 := by simp; omega
 have k6 : w2.heap[w.heap.size + 1]? = some (.cells #[.int .i64 0] qG) := (m2.block _ Nl GR).trans ((JL _ _ _ GR).trans r6);have k7 : w2.heap[w.heap.size + 2]? = some (.cells #[.slice va l.length vc] z3c) := (m2.block _ Nl GR).trans (bD _ GR);have k3 : w2.cell? ⟨w.heap.size, 0, none⟩ = some (.pointer (some q)) := (IW (m2.block w.heap.size Nl GR)).trans ((IW (JL _ _ _ Ny)).trans c3);refine leaves_cons (f := 201) (args := #[.pointer (some ⟨w.heap.size + 2, 0, none⟩), .pointer (some ⟨w.heap.size, 0, none⟩), .pointer (some ⟨w.heap.size + 1, 0, none⟩)]) GV NV ?_;refine (y4n (a := w.heap.size + 2) (b := w.heap.size) (c := w.heap.size + 1) (ba := #[]) [] (ae k7 rfl) k3 k6 rv ⟨_, _, _, rfl⟩ GR).mono ?_;rintro e u' w'' ⟨rfl, rfl, m3, h1⟩;simp [Leaves, settle, results, Tryz.results175, go_sem, h1];exact ((Moves.of_below (B.alloc B.size _)).trans m2 (λ _ _ h => h)).trans m3 (λ i hi h => by rcases h with h | h; exact h; omega)
theorem Moves.low {O' : Nat -> Prop} (h : Moves O A B) (ho : ∀ i, i < A.heap.size -> O i -> O' i) : Moves O' A B := ⟨h.os, h.tape, h.output, h.size, λ i hi hn => h.block i hi (λ e => hn (ho i hi e))⟩
theorem aU.moves (h : aU w q l) (hm : Moves O w w') (ho : ∀ k, k <= q -> ¬ O k) : aU w' q l := by
 obtain ⟨v, r, y⟩ := h;exact ⟨v, (hm.block q (aa r) (ho q GZ)).trans r, y.keeps (λ k hk hl => hm.block k hl (ho k (Jn hk))) (λ _ hk _ => hk)⟩
theorem Fy {X X' w5 : World} {x0 : Nat} {u : Value} (B : Below w w W) (b5 : Below W W X) (h5 : aU X' q l) (m5 : Moves (λ k => k = q \/ k = g) X X') (n5 : Moves (λ k => k = x0) X' w5)
 (hx : W.heap.size <= x0) (hg : w.heap.size <= g) (lq : q < w.heap.size) : aU (w5.setCell g u) q l /\ Moves (λ k => k = q) w (w5.setCell g u) := by
 have ms := eP w5 g 0 u;have sB := B.size;refine ⟨(h5.moves n5 (λ k hk => GR)).moves ms (λ k hk => GR), ?_⟩;have b := B.trans (b5.mono B.size);exact (((Moves.of_below b).trans m5 (λ _ _ h => h)).trans (n5.mono (O' := λ k => k = x0 \/ k = g) (λ _ h => Iy h)) (λ i hi h => by rcases h with h | h; omega; exact Iz h) |>.trans (ms.mono (O' := λ k => k = q \/ k = g) (λ _ h => Iz h)) (λ _ _ h => h)).low (λ i hi h => by rcases h with h | h; exact h; omega)
theorem Fx {w5 : World} {u : Value} (B : Below w w W) (m5 : Moves (λ k => k = q) W w5) (hg : w.heap.size <= g) : Moves (λ k => k = q) w (w5.setCell g u) :=
 (((Moves.of_below B).trans m5 (λ _ _ h => h)).trans (eP w5 g 0 u) (λ i hi h => GR))
abbrev jO : Nat := 2
theorem x1k {g2 g3 g4 : Nat} {r : List UInt8} {most : Nat} {x : Int} (h : aU w q l) (hl : l.length <= 1000000000) (hr : Wm.bF most l = some (n, r)) (c2 : w.cell? g2 = some (.pointer (some q))) (c3 : w.cell? g3 = some (.int .i64 most))
 (r4 : w.heap[g4]? = some (.cells #[.int .i64 x] jO)) (h4 : q < g4) :
 Calls prog 198 #[g2, g3, g4] w λ e w' => e = .returned (.tuple #[]) /\ aU w' q r /\ w'.heap[g4]? = some (.cells #[.int .i64 n] jO) /\ Moves (λ k => k = q \/ k = g4) w w' := by
 have NC := hd1 (Fb h hl hr);have l4 := aa r4;clear h hr;go_in
 go_wp2_with (go_at_call 199; refine NC.mono ?_; rintro e w1 ⟨rfl, x1, m1⟩
              have t4 := (m1.block g4 l4 GR).trans r4;have k4 := ae t4 (j := 0) rfl;have z4 := aZ t4 0;have H1 := hd3 x1 m1 t4;clear x1 m1 t4)
 go_end0
 obtain ⟨x1, m1, t4⟩ := H1.out;have ms := eP w1 g4 0 (.int .i64 n);obtain ⟨v1, e1, y1⟩ := x1;refine ⟨rfl, ⟨v1, (ms.block q (aa e1) GR).trans e1, y1.keeps (λ k hk hkl => ms.block k hkl GR) (λ _ hk _ => hk)⟩, IQ _ _ 0 _ _ _ t4, (m1.mono (λ _ h => Iy h)).trans (ms.mono (λ _ h => Iz h)) (λ _ _ h => h)⟩
theorem x1j {g2 g3 g4 : Nat} {most : Nat} (h : aU w q l) (hl : l.length <= 1000000000) (hr : Wm.bF most l = none) (c2 : w.cell? g2 = some (.pointer (some q))) (c3 : w.cell? g3 = some (.int .i64 most)) :
 Calls prog 198 #[g2, g3, g4] w λ e w' => e = .panicked qD /\ Below w w w' := by
 have NC := hd1 (z5b h hl hr);clear h hr;go_in;go_wp2_with (go_at_call 199; refine NC.mono ?_; rintro e w1 ⟨rfl, b1⟩)
 exact ⟨rfl, rfl, b1⟩
theorem x1i {r : List UInt8} {most : Nat} (h : aU w q l) (hl : l.length <= 1000000000) (hr : Wm.bF most l = some (n, r)) :
 Calls prog 174 #[q, .int .i64 most] w λ e w' => e = .returned (.tuple #[.int .i64 n, .int .i64 0]) /\ aU w' q r /\ Moves (λ k => k = q) w w' := by
 have gN : ∀ (fn : Fn) (first cap : Array Value) (w : World), (Instr.makeFunc fn first cap).run prog w = .ok (.func fn first cap) w := λ _ _ _ _ => rfl;obtain ⟨W, hW⟩ := G5 (((w.alloc (.cells #[.pointer (some ⟨q, 0, none⟩)] iA)).alloc (.cells #[.int .i64 most] jO)).alloc (.cells #[.int .i64 0] jO));have B : Below w w W := by rw [<-hW]; exact ((bla).alloc GV _).alloc N_ _
 have s : W.heap.size = w.heap.size + 3 := by rw [<-hW]; simp
 have r2 : W.heap[w.heap.size]? = some (.cells #[q] iA) := by rw [<-hW]; exact aM N_ (aM GV (IC w _))
 have r3 : W.heap[w.heap.size + 1]? = some (.cells #[.int .i64 most] jO) := by rw [<-hW]; exact aM GV (bD (w := w.alloc _) _ GV)
 have r4 : W.heap[w.heap.size + 1 + 1]? = some (.cells #[.int .i64 0] jO) := by rw [<-hW]; exact bD (w := (w.alloc _).alloc _) _ GV
 have lq := h.lt;have hx := h.later B
 have TC := hd1 (zW (w := W.drew) (q := q) (fn := 198) (fs := #[]) (cs := #[.pointer (some ⟨w.heap.size, 0, none⟩), .pointer (some ⟨w.heap.size + 1, 0, none⟩), .pointer (some ⟨w.heap.size + 1 + 1, 0, none⟩)])
  (R := λ X X' => aU X' q r /\ X'.heap[w.heap.size + 1 + 1]? = some (.cells #[.int .i64 n] jO) /\ Moves (λ k => k = q \/ k = w.heap.size + 1 + 1) X X') (hx.later GY.drew) (enters_of func198 GQ rfl)
  (λ X hb => by
   rw [JH];have hb' : Below W W X := ((Below.refl W W).drew).trans hb;exact x1k (hx.later hb') hl hr (aN hb' (ae r2 rfl)) (aN hb' (ae r3 rfl)) ((hb'.block _ (aa r4)).trans r4) GR)
  (λ X X' hX => hX.2.2.mono (λ k hk => by show k < W.heap.size; omega)))
 have ne : Nonempty (Wd (Below W W)) := ⟨⟨_, Below.refl _ _⟩⟩;have f2 : ∀ x : Wd (Below W W), x.world.cell? w.heap.size = some (.pointer (some q)) := λ x => aN x.ok (ae r2 rfl);have f3 : ∀ x : Wd (Below W W), x.world.cell? (w.heap.size + 1, 0) = some (.int .i64 most) := λ x => aN x.ok (ae r3 rfl);have HB := hd3 B s lq;have HW := hd1 hW;clear hW r2 r3 r4 hx h B s lq;go_in;go_upto_region 1 with fail
 rw [HW.out];refine bC (λ w' => ∃ x : Wd (Below W W), w' = x.world) [4, 5] GQ ?_;refine aI [0, 1, 3] 3 _ Hq GQ ?_;simp only [fmc, fmn, gta, gcs, gcz];iterate 3 (with_reducible refine ak (λ K hK => ?_); simp only [au, ah]; go_simp; refine hK _ ?_; clear hK K)
 with_reducible refine aA ?_
 refine az 2 2 _ _ rfl GQ ?_;refine IE rfl λ K hK => ?_;go_simp;go_at_call 197;refine (Ag _ most).mono ?_;rintro e w' ⟨rfl, rfl⟩;refine hK _ _ (IB ⟨rfl, λ _ => Hq, ?_⟩);clear hK K;refine az 4 1 _ _ rfl GQ ?_;refine IE rfl λ K hK => ?_;go_simp;go_at_call 175;refine TC.mono ?_;rintro e w5 ⟨rfl, X, X', x0, b5, ⟨h5, t5, m5⟩, n5, hx0⟩;have H5 := hd6 b5 h5 t5 m5 n5 hx0;clear b5 h5 t5 m5 n5 hx0;refine hK _ _ (IB ⟨rfl, λ h => absurd GU h, ?_⟩);clear hK K;refine eY [5] 0 _ GQ ?_;refine G9 ?_;refine ⟨GQ, ?_⟩;obtain ⟨b5, h5, t5, m5, n5, hx0⟩ := H5.out;obtain ⟨B, sz, lq⟩ := HB.out;have hx0 : W.heap.size <= x0 := hx0;have t6 : w5.heap[w.heap.size + 1 + 1]? = some (.cells #[.int .i64 n] jO) := (n5.block _ (aa t5) GR).trans t5;have c6 := ae t6 (j := 0) rfl;have z6 := aZ t6 0;have c7 := ae (IQ _ _ 0 _ jO (.int .i64 n) t6) (j := 0) rfl;obtain ⟨k1, k2⟩ := Fy (u := .int .i64 n) B (((Below.refl W W).drew).trans b5) h5 m5 n5 hx0 (by omega : w.heap.size <= w.heap.size + 1 + 1) lq;exact P5
theorem x1h {most : Nat} (h : aU w q l) (hl : l.length <= 1000000000) (hr : Wm.bF most l = none) :
 Calls prog 174 #[q, .int .i64 most] w λ e w' => e = .returned (.tuple #[.int .i64 0, .int .i64 140]) /\ Moves (λ k => k = q) w w' := by
 have gN : ∀ (fn : Fn) (first cap : Array Value) (w : World), (Instr.makeFunc fn first cap).run prog w = .ok (.func fn first cap) w := λ _ _ _ _ => rfl;obtain ⟨W, hW⟩ := G5 (((w.alloc (.cells #[.pointer (some ⟨q, 0, none⟩)] iA)).alloc (.cells #[.int .i64 most] jO)).alloc (.cells #[.int .i64 0] jO));have B : Below w w W := by rw [<-hW]; exact ((bla).alloc GV _).alloc N_ _
 have s : W.heap.size = w.heap.size + 3 := by rw [<-hW]; simp
 have r2 : W.heap[w.heap.size]? = some (.cells #[q] iA) := by rw [<-hW]; exact aM N_ (aM GV (IC w _))
 have r3 : W.heap[w.heap.size + 1]? = some (.cells #[.int .i64 most] jO) := by rw [<-hW]; exact aM GV (bD (w := w.alloc _) _ GV)
 have r4 : W.heap[w.heap.size + 1 + 1]? = some (.cells #[.int .i64 0] jO) := by rw [<-hW]; exact bD (w := (w.alloc _).alloc _) _ GV
 have lq := h.lt;have hx := h.later B
 have TC := hd1 (zX (w := W.drew) (q := q) (fn := 198) (fs := #[]) (cs := #[.pointer (some ⟨w.heap.size, 0, none⟩), .pointer (some ⟨w.heap.size + 1, 0, none⟩), .pointer (some ⟨w.heap.size + 1 + 1, 0, none⟩)])
  (R := λ X X' => Below X X X') (hx.later GY.drew) (enters_of func198 GQ rfl)
  (λ X hb => by
   rw [JH];have hb' : Below W W X := ((Below.refl W W).drew).trans hb;exact x1j (hx.later hb') hl hr (aN hb' (ae r2 rfl)) (aN hb' (ae r3 rfl)))
  (λ X X' hb hX => by
   obtain ⟨v, rq, _⟩ := hx.later (((Below.refl W W).drew).trans hb);exact ⟨Moves.of_below hX, v, (hX.block q (aa rq)).trans rq⟩))
 have ne : Nonempty (Wd (Below W W)) := ⟨⟨_, Below.refl _ _⟩⟩;have f2 : ∀ x : Wd (Below W W), x.world.cell? w.heap.size = some (.pointer (some q)) := λ x => aN x.ok (ae r2 rfl);have f3 : ∀ x : Wd (Below W W), x.world.cell? (w.heap.size + 1, 0) = some (.int .i64 most) := λ x => aN x.ok (ae r3 rfl);have HB := hd4 B s lq r4;have HW := hd1 hW;clear hW r2 r3 r4 hx h B s lq;go_in;go_upto_region 1 with fail
 rw [HW.out];refine bC (λ w' => ∃ x : Wd (Below W W), w' = x.world) [4, 5] GQ ?_;refine aI [0, 1, 3] 3 _ Hq GQ ?_;simp only [fmc, fmn, gta, gcs, gcz];iterate 3 (with_reducible refine ak (λ K hK => ?_); simp only [au, ah]; go_simp; refine hK _ ?_; clear hK K)
 with_reducible refine aA ?_
 refine az 2 2 _ _ rfl GQ ?_;refine IE rfl λ K hK => ?_;go_simp;go_at_call 197;refine (Ag _ most).mono ?_;rintro e w' ⟨rfl, rfl⟩;refine hK _ _ (IB ⟨rfl, λ _ => Hq, ?_⟩);clear hK K;refine az 4 1 _ _ rfl GQ ?_;refine IE rfl λ K hK => ?_;go_simp;go_at_call 175;refine TC.mono ?_;rintro e w5 ⟨rfl, m5⟩;have H5 := hd1 m5;clear m5;refine hK _ _ (IB ⟨rfl, λ h => absurd GU h, ?_⟩);clear hK K;refine eY [5] 0 _ GQ ?_;refine G9 ?_;refine ⟨GQ, ?_⟩;obtain ⟨B, sz, lq, r4⟩ := HB.out;have m5 : Moves (λ k => k = q) W w5 := (Moves.of_below ((Below.refl W W).drew)).trans H5.out (λ _ _ h => h);have t6 : w5.heap[w.heap.size + 1 + 1]? = some (.cells #[.int .i64 0] jO) := (m5.block _ (aa r4) GR).trans r4;have c6 := ae t6 (j := 0) rfl;have z6 := aZ t6 0;have c7 := ae (IQ _ _ 0 _ jO (.int .i64 0) t6) (j := 0) rfl;have k2 := Fx (u := .int .i64 0) B m5 (by omega : w.heap.size <= w.heap.size + 1 + 1);exact Qh
structure fV (w : World) (g1 g2 : Nat) (l : List UInt8) (fin : Nat) : Prop where
 tape : ∃ v, w.cell? ⟨g1, 0, none⟩ = some v /\ BytesAt w.heap (λ k => k < g1) v l
 far : w.heap[g2]? = some (.cells #[.int .i64 fin] vk (0, 0))
 lt : g1 < g2
 le : fin <= l.length
theorem fV.moves {g1 g2 : Nat} {fin : Nat} (h : fV w g1 g2 l fin) (hm : Moves O w w') (ho : ∀ k, k <= g1 \/ k = g2 -> ¬ O k) : fV w' g1 g2 l fin := by
 obtain ⟨v, c, y⟩ := h.tape;exact ⟨⟨v, (IW (hm.block g1 (IX c) (ho g1 (Iy GZ)))).trans c, y.keeps (λ k hk hl => hm.block k hl (ho k (Iy (Jn hk)))) (λ _ hk _ => hk)⟩, (hm.block g2 (aa h.far) (ho g2 (Iz rfl))).trans h.far, h.lt, h.le⟩
theorem fV.later {g1 g2 : Nat} {fin : Nat} (h : fV w g1 g2 l fin) (hb : Below w w w') : fV w' g1 g2 l fin := h.moves (Moves.of_below (O := λ _ => False) hb) (λ _ _ h => h)
theorem jB {b body : List UInt8} (h : Wm.split b = some (body, n)) : 0 < n /\ n <= b.length /\ body.length <= b.length := by
 have hs : Wm.split b = (if (Wm.first b).2 <= 0 \/ (Wm.first b).1 < 4 \/ (Wm.first b).1 > 8196 then none
  else if (b.length : Int) - (Wm.first b).2 < (Wm.first b).1 then none
  else match Wm.opened ((b.drop (Wm.first b).2.toNat).take (Wm.first b).1) with | some body => some (body, (Wm.first b).2.toNat + (Wm.first b).1) | none => none) := rfl
 rw [hs] at h;by_cases h1 : (Wm.first b).2 <= 0 \/ (Wm.first b).1 < 4 \/ (Wm.first b).1 > 8196
 ·rw [IA h1] at h; cases h
 ·rw [Iw h1] at h
  by_cases h2 : (b.length : Int) - (Wm.first b).2 < (Wm.first b).1
  ·exact R8
  ·rw [Iw h2] at h
   obtain ⟨q1, q2⟩ := not_or.1 h1;cases ho : Wm.opened ((b.drop (Wm.first b).2.toNat).take (Wm.first b).1) with
   | none => rw [ho] at h; cases h
   | some x =>
    rw [ho] at h;have e := IM h;have e1 : x = body := IG Prod.fst e;have e2 : (Wm.first b).2.toNat + (Wm.first b).1 = n := IG Prod.snd e;have hx : x.length <= b.length := by
     unfold Wm.opened at ho;split at ho
     ·cases ho
     ·split at ho
      ·have := IM ho
       rw [<-this, I4, I4, I5];omega
      ·cases ho
    rw [<-e1];refine ⟨GR, GR, hx⟩
theorem qR {g1 g2 : Nat} {body : List UInt8} {fin : Nat} (h : fV w g1 g2 l fin) (hl : l.length <= 1000000000) (hs : Wm.split (l.drop fin) = some (body, n)) :
 Calls prog 107 #[g1, g2] w λ e w' => ∃ v', e = .returned v' /\ BytesAt w'.heap (λ k => w.heap.size <= k) v' body /\ fV w' g1 g2 l (fin + n) /\ Moves (λ k => k = g2) w w' := by
 obtain ⟨hn0, hn1, _⟩ := jB hs;have H := hd1 h;obtain ⟨⟨v, c1, y⟩, r2, hlt, hle⟩ := h;have hdl : (l.drop fin).length = l.length - fin := I5;obtain ⟨ya, yc, rfl⟩ := y.slice;obtain ⟨b, o, rfl, hcap, hcap2, _⟩ := y.row GR;have back := y.back (n := fin) hle;rw [<-hdl] at back;have SC := hd1 (z4l back GR);have HS := hd1 hs;have c2 := ae r2 (j := 0) rfl;have l2 := aa r2;have R2 := hd1 r2;have HN := hd3 hn1 hle hdl;rw [hdl] at SC hn1;clear hs back y r2 hdl;generalize hL : l.length = L at *;have HL := hd1 hL;clear hL;have d1 : ¬ (yc : Int) = (fin : Int) := GR;have d2 : (fin : Int) <= (L : Int) := GR;have d3 : ¬ (fin : Int) < 0 := GR;have d6 : (fin : Int) <= (yc : Int) := GR;have d7 : (0 : Int) <= (fin : Int) := GR;have d4 : (0 : Int) < (n : Int) := GR;have d5 : IntKind.i64.wrap ((fin : Int) + (n : Int)) = ((fin + n : Nat) : Int) := Ja _ GR;clear hn1 hl hle d4;go_in
 go_wp2_with (first
  | (go_at_call 108; refine SC.mono ?_; intro e w1 h1; unfold Dy at h1; rw [HS.out] at h1; obtain ⟨b1, v1, rfl, y1⟩ := h1
     have r2 := (b1.block g2 l2).trans R2.out;have j2 := ae r2 (j := 0) rfl;have z2 := aZ r2 0;have H1 := hd3 b1 y1 r2;clear b1 y1 r2)
  | (go_at_call 109; refine (kH _).mono ?_; rintro e w' ⟨rfl, rfl⟩))
 go_ret;obtain ⟨b1, y1, r2⟩ := H1.out;have ms := eP w1 g2 0 (.int .i64 ((fin + n : Nat) : Int));have lt := H.lt;have h2 := (H.later b1).tape;obtain ⟨v0, k0, y0⟩ := h2;have mv : Moves (λ k => k = g2) w (w1.setCell g2 (.int .i64 ((fin + n : Nat) : Int))) := (Moves.of_below b1).trans ms (λ _ _ h => h);refine ⟨v1, rfl, y1.keeps (λ k hk hkl => ms.block k hkl (Hf (aa R2.out))) (λ _ hk _ => hk), ⟨⟨v0, (IW (ms.block g1 (IX k0) GR)).trans k0, y0.keeps (λ k hk hkl => ms.block k hkl GR) (λ _ hk _ => hk)⟩, IQ _ _ 0 _ vk _ r2, lt, ?_⟩, mv⟩;have hdl := HN.2.2;have h3 := HN.1;have h4 := HN.2.1;have h5 := HL.out;omega
theorem Gn {g1 g2 : Nat} {fin : Nat} (h : fV w g1 g2 l fin) (hl : l.length <= 1000000000) (hs : Wm.split (l.drop fin) = none) :
 Calls prog 107 #[g1, g2] w λ e w' => e = .panicked fQ /\ Below w w w' := by
 obtain ⟨⟨v, c1, y⟩, r2, hlt, hle⟩ := h;have c2 := ae r2 (j := 0) rfl;have hdl : (l.drop fin).length = l.length - fin := I5;clear r2 hlt;have wT : ∀ (u : Value), BytesAt w.heap (λ k => k < g1) u (l.drop fin) -> Calls prog 108 #[u] w λ e w' => Below w w w' /\ e = .returned (.tuple #[.slice none 0 0, .int .i64 0, .int .i64 (Wm.pg (l.drop fin))]) := λ u hu => by
  refine (z4l hu GR).mono ?_;intro e w1 h1;unfold Dy at h1;rw [hs] at h1;exact h1
 generalize Wm.pg (l.drop fin) = er at wT;rcases y with ⟨rfl, rfl⟩ | ⟨b, o, cap, cs, t, fr, rfl, h1, h2, h3, h4, h5⟩
 ·have e0 : fin = 0 := by simpa using hle
  subst e0;have SC := hd1 (wT (.slice none 0 0) (Iy ⟨rfl, rfl⟩));clear wT hdl hl hle hs;go_in;by_cases he : er = 0
  ·subst he
   exact OZ
  ·exact OZ
 ·have y : BytesAt w.heap (λ k => k < g1) (.slice (some (b, o)) l.length cap) l := Iz ⟨b, o, cap, cs, t, fr, rfl, h1, h2, h3, h4, h5⟩
  have back := y.back (n := fin) hle;have empty : l.length - fin = 0 -> BytesAt w.heap (λ k => k < g1) (.slice (some (b, o)) (l.length - fin) (cap - fin)) (l.drop fin) := λ e0 => by
   rw [Lb (show l.length <= fin by omega)];exact Iz ⟨b, o, cap - fin, cs, t, fr, by rw [e0]; rfl, IV _, IP (Nat.sub_le _ _) h2, h3, h4, λ i x hi => by simp at hi⟩
  have SC := hd1 (wT _ back);have SE := hd1 (λ e0 => wT _ (empty e0));clear wT back empty y h3 h4 h5 hdl hs;generalize l.length = L at *;have d2 : (fin : Int) <= (L : Int) := GR;have d3 : ¬ (fin : Int) < 0 := GR;have d6 : (fin : Int) <= (cap : Int) := GR;have d7 : (0 : Int) <= (fin : Int) := GR;go_in;by_cases hc : cap = fin
  ·have d1 : (cap : Int) = (fin : Int) := GR
   have S0 := hd1 (SE.out GR);clear hc hle hl h1 h2 SE SC;by_cases he : er = 0
   ·subst he
    exact PR
   ·exact PR
  ·have d1 : ¬ (cap : Int) = (fin : Int) := GR
   clear hc hle hl h1 h2 SE;by_cases he : er = 0
   ·subst he
    exact OZ
   ·exact OZ
def zJ (q : Nat) (w w' : World) : Prop := Moves (λ k => k = q) w w' /\ ∃ v, w'.heap[q]? = some (.cells #[v, .bool true, .bool false] qF (0, 0))
theorem aU.gone (h : aU w' q l) (hm : Moves (λ k => k = q) w w') : zJ q w w' := by
 obtain ⟨v, r, _⟩ := h;exact ⟨hm, v, r⟩
theorem E5 (most : Nat) (l : List UInt8) : Wm.dh most l = match Wm.bF most l with | none => none | some (n, r) => if n > r.length then none else some (r.take n, r.drop n) := rfl
theorem ic {most : Nat} {r : List UInt8} (h : Wm.bF most l = some (n, r)) : r.length <= l.length /\ n <= most /\ n <= 4611686018427387904 := by
 rw [Fe] at h;by_cases hq : (Wm.first l).2 <= 0 \/ (Wm.first l).1 > most
 ·rw [IA hq] at h; cases h
 ·rw [Iw hq] at h
  have := IM h;have e1 : (Wm.first l).1 = n := IG Prod.fst this;have e2 : l.drop (Wm.first l).2.toNat = r := IG Prod.snd this;have := (not_or.1 hq).2;have := (za l).2;refine ⟨by rw [<-e2, I5]; omega, GR, GR⟩
theorem y5t {g2 g3 g4 : Nat} {r s : List UInt8} {most : Nat} {x : Value} (h : aU w q l) (hl : l.length <= 1000000000) (hr : Wm.dh most l = some (s, r)) (c2 : w.cell? g2 = some (.pointer (some q))) (c3 : w.cell? g3 = some (.int .i64 most))
 (r4 : w.heap[g4]? = some (.cells #[x] 9)) (h2 : q < g2) (h4 : q < g4) :
 Calls prog 202 #[g2, g3, g4] w λ e w' => e = .returned (.tuple #[]) /\ aU w' q r /\ w'.heap[g4]? = some (.cells #[ag s] 9) /\ Moves (λ k => k = q \/ k = g4) w w' := by
 rw [E5] at hr;cases hn : Wm.bF most l with
 | none => rw [hn] at hr; cases hr
 | some p =>
  obtain ⟨n, r0⟩ := p;rw [hn] at hr;simp only at hr;by_cases hq : n > r0.length
  ·rw [IA hq] at hr; cases hr
  ·rw [Iw hq] at hr
   obtain ⟨rfl, rfl⟩ : r0.take n = s /\ r0.drop n = r := by
    exact Py
   have NC := hd1 (Fb h hl hn);obtain ⟨k1, k2, k3⟩ := ic hn;have d1 : n <= r0.length := GR;have d2 : (n : Int) <= (r0.length : Int) := GR;have HN := hd2 d1 (show r0.length <= 1000000000 by omega);have l2 := IX c2;have R4 := hd2 r4 (aa r4);clear h hr hn hq r4 d1 k1 k2 k3;go_in
   go_wp2_with (first
    | (go_at_call 199; refine NC.mono ?_; rintro e w1 ⟨rfl, x1, m1⟩
       have t2 : w1.cell? g2 = some (.pointer (some q)) := (IW (m1.block g2 l2 GR)).trans c2;have TK := hd1 (Ak x1 HN.1 HN.2);have H1 := hd2 x1 m1;obtain ⟨v1, e1, y1⟩ := x1;obtain ⟨a1, cc, rfl⟩ := y1.slice;have c0 : w1.cell? q = some (.slice a1 r0.length cc) := ae e1 rfl;clear m1 e1 y1 c2 c3)
    | (go_at_call 177; refine (rX _).mono ?_; rintro e w' ⟨rfl, rfl⟩)
    | (go_at_call 203; refine TK.mono ?_; rintro e w2 ⟨v2, rfl, y2, x2, m2⟩
       have hcv := qK y2;have t4 := (m2.block g4 (Hg R4.2 H1.2.size) GR).trans ((H1.2.block g4 R4.2 GR).trans R4.1);have z4 := aZ t4 0;have k4 := ae t4 (j := 0) rfl;have H2 := hd3 x2 m2 t4;clear y2 x2 m2 t4))
   go_end0
   obtain ⟨x2, m2, t4⟩ := H2.out;have ms := eP w2 g4 0 (ag (r0.take n));exact ⟨rfl, x2.moves ms (λ k hk => GR), IQ _ _ 0 _ _ _ t4, ((H1.2.trans m2 (λ _ _ h => h)).mono (λ _ h => Iy h)).trans (ms.mono (λ _ h => Iz h)) (λ _ _ h => h)⟩
theorem y5s {g2 g3 g4 : Nat} {most : Nat} (h : aU w q l) (hl : l.length <= 1000000000) (hr : Wm.dh most l = none) (c2 : w.cell? g2 = some (.pointer (some q))) (c3 : w.cell? g3 = some (.int .i64 most)) (h2 : q < g2) :
 Calls prog 202 #[g2, g3, g4] w λ e w' => e = .panicked qD /\ zJ q w w' := by
 rw [E5] at hr;cases hn : Wm.bF most l with
 | none =>
  have NC := hd1 (z5b h hl hn);have H := hd1 h;clear h hr hn;go_in;go_wp2_with (go_at_call 199; refine NC.mono ?_; rintro e w1 ⟨rfl, b1⟩)
  exact ⟨rfl, rfl, (H.later b1).gone (Moves.of_below b1)⟩
 | some p =>
  obtain ⟨n, r0⟩ := p;rw [hn] at hr;simp only at hr;by_cases hq : n > r0.length
  ·have NC := hd1 (Fb h hl hn)
   have d2 : ¬ n <= r0.length := GR;have l2 := IX c2;clear h hr hn hq;go_in
   go_wp2_with (first
    | (go_at_call 199; refine NC.mono ?_; rintro e w1 ⟨rfl, x1, m1⟩
       have t2 : w1.cell? g2 = some (.pointer (some q)) := (IW (m1.block g2 l2 GR)).trans c2;have H1 := hd2 x1 m1;obtain ⟨v1, e1, y1⟩ := x1;obtain ⟨a1, cc, rfl⟩ := y1.slice;have c0 : w1.cell? q = some (.slice a1 r0.length cc) := ae e1 rfl;clear m1 e1 y1 c2 c3)
    | (go_at_call 177; refine (uY _).mono ?_; rintro e w' ⟨rfl, rfl⟩))
   exact ⟨rfl, rfl, H1.1.gone H1.2⟩
  ·rw [Iw hq] at hr; cases hr
theorem y4e {g1 g2 : Nat} {r : List UInt8} {b : Bool} {x : Value} (h : aU w q l) (hl : l.length <= 1000000000) (hr : Wm.iJ l = some (b, r)) (c1 : w.cell? g1 = some (.pointer (some q)))
 (r4 : w.heap[g2]? = some (.cells #[x] 4)) (h4 : q < g2) :
 Calls prog 204 #[g1, g2] w λ e w' => e = .returned (.tuple #[]) /\ aU w' q r /\ w'.heap[g2]? = some (.cells #[.bool b] 4) /\ Moves (λ k => k = q \/ k = g2) w w' := by
 cases l with
 | nil => cases hr
 | cons c l =>
  have hr' : (if c > 1 then none else some (c == 1, l)) = some (b, r) := hr;by_cases hc : c > 1
  ·rw [IA hc] at hr'; cases hr'
  ·rw [Iw hc] at hr'
   obtain ⟨rfl, rfl⟩ : (c == 1) = b /\ l = r := by
    have := IM hr';exact ⟨IG Prod.fst this, IG Prod.snd this⟩
   have TK := hd1 (Ak (n := 1) h GV hl);have cN : c.toNat <= 1 := by
    have h1 : ¬ (1 : UInt8) < c := hc;have := UInt8.not_lt.1 h1;exact Mi.1 this
   have d1 : (c.toNat : Int) <= 1 := GR;have e1 : ((c.toNat : Int) == 1) = (c == 1) := by
    by_cases h1 : c = 1
    ·subst h1; rfl
    ·have : ¬ c.toNat = 1 := λ h2 => h1 (J7.1 h2)
     have h3 : ¬ (c.toNat : Int) = 1 := GR;have a1 : ((c.toNat : Int) == 1) = false := by rw [J2]; exact h3
     have a2 : (c == 1) = false := by rw [J2]; exact h1
     rw [a1, a2]
   have R4 := hd2 r4 (aa r4);clear h hr hr' hc r4;go_in
   go_wp2_with (first
    | (go_at_call 203; refine TK.mono ?_; rintro e w2 ⟨v2, rfl, y2, x2, m2⟩
       have t4 := (m2.block g2 R4.2 GR).trans R4.1;have z4 := aZ t4 0;have k4 := ae t4 (j := 0) rfl;have H2 := hd3 x2 m2 t4;obtain ⟨b0, o0, cap0, hv0, _, _, hcell⟩ : ∃ b0 o0 cap0, v2 = .slice (some ⟨b0, o0, none⟩) 1 cap0 /\ 1 <= cap0 /\ cap0 <= 9223372036854775807 /\ w2.cell? ⟨b0, o0, none⟩ = some (.int .u8 c.toNat) := by
        exact PD
       subst hv0;clear y2 x2 m2 t4)
    | (go_at_call 177; refine (rX _).mono ?_; rintro e w' ⟨rfl, rfl⟩))
   go_end0
   obtain ⟨x2, m2, t4⟩ := H2.out;have ms := eP w2 g2 0 (.bool (c == 1));exact ⟨rfl, x2.moves ms (λ k hk => GR), IQ _ _ 0 _ _ _ t4, (m2.mono (λ _ h => Iy h)).trans (ms.mono (λ _ h => Iz h)) (λ _ _ h => h)⟩
theorem y4d {g1 g2 : Nat} (h : aU w q l) (hl : l.length <= 1000000000) (hr : Wm.iJ l = none) (c1 : w.cell? g1 = some (.pointer (some q))) :
 Calls prog 204 #[g1, g2] w λ e w' => e = .panicked qD /\ zJ q w w' := by
 cases l with
 | nil =>
  have TK := hd1 (y5g (n := 1) h GV GU);have H := hd1 h;clear h hr;go_in;go_wp2_with (go_at_call 203; refine TK.mono ?_; rintro e w2 ⟨rfl, rfl⟩)
  exact ⟨rfl, rfl, H.gone (Moves.refl _ _)⟩
 | cons c l =>
  have hr' : (if c > 1 then none else some (c == 1, l)) = none := hr;by_cases hc : c > 1
  ·have TK := hd1 (Ak (n := 1) h GV hl)
   have cN : 1 < c.toNat := UInt8.lt_iff_toNat_lt.1 hc;have d1 : ¬ (c.toNat : Int) <= 1 := GR;have d2 : decide ((c.toNat : Int) <= 1) = false := by rw [LK]; exact d1
   have d3 : ¬ c.toNat <= 1 := GR;clear h hr hr' hc;go_in
   go_wp2_with (first
    | (go_at_call 203; refine TK.mono ?_; rintro e w2 ⟨v2, rfl, y2, x2, m2⟩
       have H2 := hd2 x2 m2;obtain ⟨b0, o0, cap0, hv0, _, _, hcell⟩ : ∃ b0 o0 cap0, v2 = .slice (some ⟨b0, o0, none⟩) 1 cap0 /\ 1 <= cap0 /\ cap0 <= 9223372036854775807 /\ w2.cell? ⟨b0, o0, none⟩ = some (.int .u8 c.toNat) := by
        exact PD
       subst hv0;clear y2 x2 m2)
    | (go_at_call 177; refine (uY _).mono ?_; rintro e w' ⟨rfl, rfl⟩))
   exact ⟨rfl, rfl, H2.1.gone H2.2⟩
  ·rw [Iw hc] at hr'; cases hr'
theorem x6y {g1 : Nat} (h : aU w q []) (c1 : w.cell? g1 = some (.pointer (some q))) :
 Calls prog 176 #[g1] w λ e w' => e = .returned (.tuple #[]) /\ w = w' := by
 obtain ⟨v1, e1, y1⟩ := h;obtain ⟨a1, cc, rfl⟩ := y1.slice;have c0 : w.cell? q = some (.slice a1 0 cc) := ae e1 rfl;clear e1 y1;go_in;go_wp2_with (go_at_call 177; refine (rX _).mono ?_; rintro e w' ⟨rfl, rfl⟩)
 exact Rc
theorem x6x {g1 : Nat} (h : aU w q l) (hl : l ≠ []) (c1 : w.cell? g1 = some (.pointer (some q))) :
 Calls prog 176 #[g1] w λ e w' => e = .panicked qD /\ w = w' := by
 obtain ⟨v1, e1, y1⟩ := h;obtain ⟨a1, cc, rfl⟩ := y1.slice;have c0 : w.cell? q = some (.slice a1 l.length cc) := ae e1 rfl;have d1 : ((l.length : Int) == 0) = false := by
  rw [J2];have := List.length_pos_iff.2 hl;omega
 clear e1 y1;generalize l.length = L at *;go_in;go_wp2_with (go_at_call 177; refine (uY _).mono ?_; rintro e w' ⟨rfl, rfl⟩)
 exact Qs
end Go.Proofs.YtgffifleflkjoaaGreat
