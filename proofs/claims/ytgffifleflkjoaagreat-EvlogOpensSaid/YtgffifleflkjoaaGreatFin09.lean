/-
  Parts of a proof.
-/
import Derived.Test.YtgffifleflkjoaaGreatFin06
import Derived.Test.YtgffifleflkjoaaGreatFin07
import Derived.Laws.IdiomStrings
import Derived.Laws.BytesArg
set_option linter.unusedSimpArgs false
set_option linter.unusedVariables false
set_option maxRecDepth 100000
set_option maxHeartbeats 16000000
namespace Go.Proofs.YtgffifleflkjoaaGreat
open _root_.Go.Proofs.Tryz
variable {w W w' w0 wr w1 W0 W1 W2 A B : World} {F G F' O : Nat → Prop} {v : Value} {l : List UInt8} {n q m pd md pl g p : Nat} {C : Array Value} {c : Int}
open Go.RowKit Dm
def y2s (v : Value) (args : Array Value) (w : World) (R : Ending -> World -> Prop) : Prop :=
 ∃ fn lb, v = .func (.func fn) #[] lb /\ (∀ args w, (callFunc fn args).run prog w = .ok (.enter fn args) w) /\ Calls prog fn (args ++ lb) w R
theorem kU {n k : Int} (h0 : 0 <= n) (h1 : n <= k) : ∃ t : Nat, n = t /\ (t : Int) <= k := ⟨n.toNat, GR, GR⟩
theorem z1p (s : Step) (many : Int) (hs : s.ok many) (q m : Nat) (x : St) (F : Nat -> Prop) (ty : TypeId) (rest : List Value) (w : World) (does part tape w0 w1 w2 str : Value) (hst : il w.heap F s does part tape w0 w1 w2 str)
 (hx : ∀ t, (x.tp t).length <= 1048576) (h : iY w.heap q m x F ty rest) : y2s does #[.pointer (some q)] w (uR w q m (x.done s) F ty rest) := by
 obtain ⟨_, _, _, _, h5⟩ := hst;obtain ⟨k0, kt⟩ := h.cell;rcases h5 with ⟨g1, g2, bn, bx, f1, f2, g3, g4, g5, g6⟩ | ⟨g1, g2, bt, bx, oF, bx', v, f1, f2, f3, f4, g3, g4, g5, g6, g7, g8, g9⟩ | ⟨g1, g2, bt, bn, f1, f2, g3, g4, g5, g6⟩
 ·have hb : s.b.length = 256 := by
   exact Pz
  exact QS
 ·have hb : 0 <= s.n /\ s.n <= 3 /\ s.b.length <= 1048576 := by
   exact QD
  obtain ⟨t, et, ht⟩ := kU hb.1 hb.2.1;obtain ⟨u, hu1, hu2, hu3⟩ := kt t GR;have lx := hx t;refine ⟨_, _, g3, enters_of func142 GQ rfl, (y1f q oF bx' t u v (x.tp t) s.b F w GR GR (by rw [IJ _ _ _ _ _ _ g6, et]; rfl) (by rw [IJ _ _ _ _ _ _ g8]; rfl) hu1 hu2 hu3 g9).mono ?_⟩;rintro e w' ⟨rfl, v', w1, z1, z2, rfl⟩;obtain ⟨y1, y2⟩ := ES h t GR _ _ z1 z2;exact ⟨rfl, y2, by simpa [St.done, g1, et] using y1⟩
 ·have hb : 0 <= s.n /\ s.n <= 3 /\ 0 <= s.many /\ s.many <= 1048576 := by
   rcases hs with hs | hs | hs
   ·omega
   ·omega
   ·exact ⟨hs.2.1, hs.2.2.1, hs.2.2.2.1, hs.2.2.2.2.1⟩
  obtain ⟨t, et, ht⟩ := kU hb.1 hb.2.1;obtain ⟨k, ek, hk⟩ := kU hb.2.2.1 hb.2.2.2;obtain ⟨u, hu1, hu2, hu3⟩ := kt t GR;have c1 : w.cell? bt = some (.int .i64 t) := by rw [IJ _ _ _ _ _ _ g5, et]; rfl
  have c2 : w.cell? bn = some (.int .i64 k) := by rw [IJ _ _ _ _ _ _ g6, ek]; rfl
  refine ⟨_, _, g3, enters_of func122 GQ rfl, ?_⟩;have fin : ∀ v', BytesAt w.heap F v' ((x.tp t).take k) -> ∀ e w', (e = .returned (.tuple #[]) /\ (w.setCell ⟨q, 1 + t, none⟩ v').drew = w') -> uR w q m (x.done s) F ty rest e w' := by
   rintro v' hv' e w' ⟨rfl, rfl⟩;obtain ⟨y1, y2⟩ := ES h t GR _ v' GY (hv'.stays (λ _ _ => rfl) (λ _ => Iy));refine ⟨rfl, ⟨y2.os, y2.tape, y2.output, y2.size, y2.block⟩, ?_⟩;have e1 : s.what ≠ 1 := GR;have e2 : s.what ≠ 2 := GR;have y3 : iY (w.setCell ⟨q, 1 + t, none⟩ v').heap q m (x.done s) (plus F w (w.setCell ⟨q, 1 + t, none⟩ v')) ty rest := by simpa [St.done, e1, e2, et, ek] using y1
   exact y3
  rcases hu3 with ⟨rfl, hl⟩ | ⟨b, o, cap, c, tt, fr, rfl, r2, r3, r4, r5, r6⟩
  ·refine (x6d q bt bn t k w GR GR c1 c2 hu1 hu2).mono (fin _ (Iy ⟨rfl, by rw [hl]; simp⟩))
  ·by_cases hc : (x.tp t).length < k
   ·refine (x6b q bt bn t k b o _ cap w GR r2 r3 hc GR c1 c2 hu1 hu2).mono (fin _ (Iz ⟨b, o, cap, c, tt, fr, ?_, ?_, r3, r4, r5, λ i y hi => r6 i y ?_⟩))
    ·rw [Je GR]
    ·rw [Je GR]; exact r2
    ·rwa [Je GR] at hi
   ·refine (x6c q bt bn t k b o _ cap w GR r2 r3 GR GR c1 c2 hu1 hu2).mono (fin _ (Iz ⟨b, o, cap, c, tt, fr, ?_, ?_, r3, r4, r5, λ i y hi => r6 i y ?_⟩))
    ·simp only [I4]; congr 1; omega
    ·simp only [I4]; omega
    ·exact Qr
theorem z7j (s : Step) (many : Int) (hs : s.ok many) (q m : Nat) (x : St) (F : Nat -> Prop) (ty : TypeId) (rest : List Value) (w : World) (does part tape w0 w1 w2 str : Value) (k : Int) (hk : -9223372036854775808 <= k) (hk' : k <= 9223372036854775807)
 (hst : il w.heap F s does part tape w0 w1 w2 str)
 (hx : ∀ t, (x.tp t).length <= 1048576) (hy : ∀ n, (x.sec n).length = 256) (h : iY w.heap q m x F ty rest) : y2s part #[.pointer (some q), .int .i64 k] w (uR w q m (x.part s k) F ty rest) := by
 obtain ⟨_, _, _, _, h5⟩ := hst;obtain ⟨k0, kt⟩ := h.cell;rcases h5 with ⟨g1, g2, bn, bx, f1, f2, g3, g4, g5, g6⟩ | ⟨g1, g2, bt, bx, oF, bx', v, f1, f2, f3, f4, g3, g4, g5, g6, g7, g8, g9⟩ | ⟨g1, g2, bt, bn, f1, f2, g3, g4, g5, g6⟩
 ·have hb : s.b.length = 256 := by
   exact Pz
  exact QS
 ·have hb : 0 <= s.n /\ s.n <= 3 /\ s.b.length <= 1048576 := by
   exact QD
  obtain ⟨t, et, ht⟩ := kU hb.1 hb.2.1;obtain ⟨u, hu1, hu2, hu3⟩ := kt t GR;have lx := hx t;refine ⟨_, _, g4, enters_of func101 GQ rfl, (w0r q bt bx t k u v (x.tp t) s.b F w GR hk hk' GR GR (by rw [IJ _ _ _ _ _ _ g5, et]; rfl) (by rw [IJ _ _ _ _ _ _ g7]; rfl) hu1 hu2 hu3 g9).mono ?_⟩;rintro e w' ⟨rfl, v', w1, z1, z2, rfl⟩;obtain ⟨y1, y2⟩ := ES h t GR _ _ z1 z2;exact ⟨rfl, y2, by simpa [St.part, St.done, g1, et] using y1⟩
 ·refine ⟨_, _, g4, enters_of func123 GQ rfl, (x6e _ k w).mono ?_⟩
  rintro e w' ⟨rfl, rfl⟩;refine ⟨rfl, Moves.refl _ _, ?_⟩;have e1 : s.what ≠ 1 := GR;have e2 : s.what ≠ 2 := GR;have : x.part s k = x := by simp [St.part, e1, e2]
  rw [this];exact h.keeps rfl rfl (λ _ _ _ => rfl) (λ _ h _ => Iy h) (λ k h => by rcases h with h | h; exact Iy h; exact Iz h.1)
theorem iY.weak {h : Array Obj} {x : St} {ty : TypeId} {rest : List Value} (s : iY h q m x F ty rest) (hF : ∀ k, F k -> k < h.size -> F' k) (hq : ¬ F' q) (hm : ¬ F' m) : iY h q m x F' ty rest := by
 obtain ⟨t0, t1, t2, t3, c1, c2, b0, b1, b2, b3, n1, n2, n3⟩ := s;have hs : ∀ k, F k -> k < h.size -> h[k]? = h[k]? := λ _ _ _ => rfl;exact ⟨t0, t1, t2, t3, c1, c2, b0.keeps hs hF, b1.keeps hs hF, b2.keeps hs hF, b3.keeps hs hF, hm, hq, n3⟩
theorem aQ.weak {h : Array Obj} {d : D} (x : aQ h p m d F) (hF : ∀ k, F k -> k < h.size -> F' k) (hp : ¬ F' p) (hm : ¬ F' m) : aQ h p m d F' := by
 obtain ⟨ml, l0, l1, l2, l3, wv, stops, after, s, r⟩ := x.parts;exact aQ.of x.ok (s.weak hF hp hm) (r.keeps (λ _ _ _ => rfl) hF)
theorem aQ.below {d : D} (x : aQ w.heap p m d F) (hb : Below w w w') : aQ w'.heap p m d F := by
 obtain ⟨l1, l2, l3, l4, l5⟩ := x.lt;exact x.keeps (hb.block p l1) (hb.block m l2) (λ k _ hk => hb.block k hk) (λ _ h _ => h) (λ _ h => Iy h)
theorem step_ok {d : D} {s : Step} (h : d.ok) (hs : s.ok d.many) (ht : ∀ t, ((d.stand.done s).tp t).length <= d.room) (d' : D) (e1 : d'.many = d.many) (e2 : d'.room = d.room) (e3 : d'.lasts = d.lasts) (e4 : d'.waits = d.waits ++ [s])
 (h1 : -1 <= d'.stops) (h2 : d'.stops <= 9223372036854775807) : d'.ok := by
 refine ⟨by rw [e1]; exact h.vR, by rw [e1]; exact h.many1, by rw [e2]; exact h.pz, by rw [e2]; exact h.fE, by rw [e3]; exact h.sec, λ k t => ?_, λ y hy => ?_, h1, h2⟩
 ·unfold D.upto
  rw [e2, e3, e4];by_cases hk : k <= d.waits.length
  ·rw [Kw hk]
   exact h.tape k t
  ·rw [Je N_, Kr]
   exact ht t
 ·rw [e4] at hy
  rw [e1];rcases JY.1 hy with hy | hy
  ·exact h.waits y hy
  ·rw [J8] at hy; subst hy; exact hs
theorem Cv (d : D) : d.goes.2 = 0 \/ d.goes.2 = 281 := by unfold D.goes; split; exact Iz rfl; split; exact Iz rfl; split <;> exact Iy rfl
theorem kC {d : D} (h : d.ok) (t : Int) : (d.stand.tp t).length <= d.room := by
 have := h.tape d.waits.length t;unfold D.upto at this;rwa [Je GZ] at this
theorem z1q {x : St} {s : Step} {many : Int} (hx : ∀ n, (x.sec n).length = 256) (hs : s.ok many) : ∀ n, ((x.done s).sec n).length = 256 := by
 intro n;unfold St.done;split
 ·rename_i h1
  have hb : s.b.length = 256 := by
   exact Pz
  simp only [upd];split
  ·exact hb
  ·exact hx n
 ·split <;> exact hx n
theorem y0w {many : Int} : ∀ (l : List Step) (x : St), (∀ n, (x.sec n).length = 256) -> (∀ s ∈ l, s.ok many) -> ∀ n, ((l.foldl St.done x).sec n).length = 256
 | [], _, h, _ => h
 | s :: l, x, h, hs => y0w l (x.done s) (z1q h (hs s (Jp ..))) (λ y hy => hs y (JB _ hy))
theorem y6l {d : D} (h : d.ok) : ∀ n, (d.stand.sec n).length = 256 := y0w d.waits d.lasts h.sec h.waits
theorem y6v {l : List Step} {s : Step} {cs : List Value} {base : Nat} {a0 a1 a2 a3 a4 a5 a6 : Value}
 (hl : cs.length = l.length * 7) (hcs : ∀ i s, l[i]? = some s -> ∃ d p tp w0 w1 w2 st, cs[i * 7]? = some d /\ cs[i * 7 + 1]? = some p /\ cs[i * 7 + 2]? = some tp /\ cs[i * 7 + 3]? = some w0 /\ cs[i * 7 + 4]? = some w1 /\ cs[i * 7 + 5]? = some w2 /\ cs[i * 7 + 6]? = some st /\ il W2.heap F s d p tp w0 w1 w2 st)
 (hst : il W2.heap F s a0 a1 a2 a3 a4 a5 a6) (hs : ∀ k, F k -> k < W2.heap.size -> W.heap[k]? = W2.heap[k]?) (hF : ∀ k, F k -> k < W2.heap.size -> F' k)
 (own : W.ownsRow base dY 7 v (l.length + 1) (cs ++ ib a0 a1 a2 a3 a4 a5 a6)) (hF2 : ∀ k, base <= k -> k < W.heap.size -> F' k) : jX W.heap F' v (l ++ [s]) := by
 obtain ⟨_, h⟩ := own;rcases h with ⟨_, h⟩ | ⟨g, cap, cur, rfl, h2, h3, h4, h5, h6, h7⟩
 ·omega
 ·refine Iz ⟨g, 0, cap, cur, dY, (0, 0), GV, by simpa using h4, by unfold maxLen at h5; omega, hF2 g h2 (aa h3), h3, λ i y hi => ?_⟩
  have look : ∀ j u, (cs ++ ib a0 a1 a2 a3 a4 a5 a6)[j]? = some u -> cur[0 + j]? = some u := by
   intro j u hj;have hlt := (IY.1 hj).1;rw [IL, hl] at hlt;have hlt' : j < (l.length + 1) * 7 := by simp only [ib, I6, Jy] at hlt; omega
   rw [<-h7, JI, IA hlt'] at hj;simpa using hj
  by_cases hi2 : i < l.length
  ·rw [KA hi2] at hi
   obtain ⟨d, p, tp, w0, w1, w2, st, e0, e1, e2, e3, e4, e5, e6, e7⟩ := hcs i y hi;have up : ∀ j u, cs[j]? = some u -> (cs ++ ib a0 a1 a2 a3 a4 a5 a6)[j]? = some u := λ j u h => by rw [KA (IY.1 h).1]; exact h
   refine ⟨d, p, tp, w0, w1, w2, st, look _ _ (up _ _ e0), ?_, ?_, ?_, ?_, ?_, ?_, e7.keeps hs hF⟩
   ·have := look _ _ (up _ _ e1); rwa [<-Jz] at this
   ·have := look _ _ (up _ _ e2); rwa [<-Jz] at this
   ·have := look _ _ (up _ _ e3); rwa [<-Jz] at this
   ·have := look _ _ (up _ _ e4); rwa [<-Jz] at this
   ·have := look _ _ (up _ _ e5); rwa [<-Jz] at this
   ·have := look _ _ (up _ _ e6); rwa [<-Jz] at this
  ·have hi3 : i = l.length /\ y = s := by
    have hlt := (IY.1 hi).1;rw [IL, K9] at hlt;have : i = l.length := GR;subst this;rw [Kl GZ] at hi;simp at hi;exact ⟨rfl, hi.symm⟩
   obtain ⟨rfl, rfl⟩ := hi3;have up : ∀ j u, (ib a0 a1 a2 a3 a4 a5 a6)[j]? = some u -> cur[0 + l.length * 7 + j]? = some u := λ j u h => by
    have := look (l.length * 7 + j) u (by rw [Kl GR]; rw [hl, Nat.add_sub_cancel_left]; exact h);rwa [<-Jz] at this
   refine ⟨a0, a1, a2, a3, a4, a5, a6, up 0 _ rfl, up 1 _ rfl, up 2 _ rfl, up 3 _ rfl, up 4 _ rfl, up 5 _ rfl, up 6 _ rfl, hst.keeps hs hF⟩
theorem z4o {d : D} (x : aQ w.heap p m d F) (s : Step) (hs : s.ok d.many) (hn : d.waits.length <= 1000000000000) (ht : ∀ t, ((d.stand.done s).tp t).length <= d.room)
 {a0 a1 a2 a3 a4 a5 a6 : Value} (hst : il w.heap F s a0 a1 a2 a3 a4 a5 a6) :
 Calls prog 99 #[.pointer (some ⟨p, 0, none⟩), .agg #[a0, a1, a2, a3, a4, a5, a6]] w λ e w' => e = .returned (.int .i64 (d.step s).2) /\ Moves (λ k => k = p \/ k = m) w w' ∧
  aQ w'.heap p m (d.step s).1 (plus F w w') := by
 obtain ⟨lp, lm, hne, np, nm⟩ := x.lt;have hb0 : Below w w (w.alloc (.cells #[a0, a1, a2, a3, a4, a5, a6] dY)) := bla;have x0 : aQ (w.alloc (.cells #[a0, a1, a2, a3, a4, a5, a6] dY)).heap p m d F := x.below hb0;have hg := z9c x0;have pn : ∀ w' : World, ¬ plus F w w' p /\ ¬ plus F w w' m := λ w' => ⟨λ h => by rcases h with h | h; exact np h; omega, λ h => by rcases h with h | h; exact nm h; omega⟩;rcases Cv d with h0 | h0
 ·have e2 : d.step s = ({ d.goes.1 with waits := d.waits ++ [s] }, 0) := by unfold D.step; rw [IA h0]
  rw [e2];rw [h0] at hg;obtain ⟨fn, lb, rfl, eg⟩ := hst.fn
  refine (y6r p fn lb a1 a2 a3 a4 a5 a6 w _
   (λ W1 W2 => ∃ ml l0 l1 l2 l3 wv stops after, wV W1.heap d.goes.1 F ml l0 l1 l2 l3 wv stops after /\ uR W1.drew p m (d.stand.done s) F dO (gp ml l0 l1 l2 l3 wv d.many d.room d.goes.1.dead stops after) (.returned (.tuple #[])) W2)
   eg d.waits.length hn
   (λ W2 cs => cs.length = d.waits.length * 7 /\ ∃ G : Nat -> Prop, (∀ k, F k -> G k) /\ (∀ k, G k -> F k) ∧
    ∀ i s, d.waits[i]? = some s -> ∃ dd p tp w0 w1 w2 st, cs[i * 7]? = some dd /\ cs[i * 7 + 1]? = some p /\ cs[i * 7 + 2]? = some tp /\ cs[i * 7 + 3]? = some w0 /\ cs[i * 7 + 4]? = some w1 /\ cs[i * 7 + 5]? = some w2 /\ cs[i * 7 + 6]? = some st /\ il W2.heap F s dd p tp w0 w1 w2 st)
   hst.ones hg ?_ ?_).mono ?_
  ·rintro W1 ⟨hm1, hz1, hd1⟩
   refine ⟨(hm1.block w.heap.size GV (λ (e : w.heap.size = p) => GR)).trans (IC w _), ?_⟩;obtain ⟨ml, l0, l1, l2, l3, wv, stops, after, sa, ra⟩ := hd1.parts;rw [z0i, q8, tO] at sa;have st1 : il W1.drew.heap F s (.func (.func fn) #[] lb) a1 a2 a3 a4 a5 a6 := hst.keeps (λ k hk hl => (hm1.block k N_ (λ e => np (e ▸ hk))).trans (hb0.block k hl)) (λ _ h _ => h);obtain ⟨fn', lb', ef, _, hc⟩ := z1p s d.many hs p m d.stand F dO _ W1.drew _ _ _ _ _ _ _ st1 (λ t => Hg (kC x.ok t) x.ok.fE) sa;cases ef;exact hc.mono λ e w' hd => ⟨hd.ret, ml, l0, l1, l2, l3, wv, stops, after, ra, by have e1 := hd.ret; subst e1; exact hd⟩
  ·rintro W1 W2 ⟨hm1, hz1, hd1⟩ ⟨ml, l0, l1, l2, l3, wv, stops, after, ra, hd⟩
   obtain ⟨_, mv, sa⟩ := hd;have hz1' : W1.heap.size = w.heap.size + 1 := by rw [hz1]; simp
   refine ⟨(mv.block w.heap.size (by show w.heap.size < W1.heap.size; omega) (λ (e : w.heap.size = p \/ w.heap.size = m) => GR)).trans ((hm1.block w.heap.size GV (λ (e : w.heap.size = p) => GR)).trans (IC w _)), wv, ?_⟩;have keep : ∀ k, F k -> k < W1.heap.size -> W2.heap[k]? = W1.heap[k]? := λ k hk hl => mv.block k hl (λ e => by rcases e with e | e; exact np (e ▸ hk); exact nm (e ▸ hk));have st2 : jX W2.heap F wv d.waits := by have := ra.steps.keeps keep (λ _ h _ => h); rwa [qZ] at this
   obtain ⟨t0, t1, t2, t3, c1, _⟩ := sa;have hcell : W2.cell? ⟨p, 10, none⟩ = some wv := by rw [IJ _ _ _ _ _ _ c1]; simp [gp]
   have hfr : W2.frozen? ⟨p, 10, none⟩ = false := by simp [World.frozen?, c1]
   rcases st2.raw with ⟨rfl, hl⟩ | ⟨b, o, cap, cs, rfl, hcs, yT, hlc, hcap, hc, h1, hst⟩
   ·exact ⟨[], ⟨by simp [hl], F, λ _ h => h, λ _ h => h, λ i s hi => by rw [hl] at hi; cases hi⟩, by simp [hl], (λ u hu => by cases hu), hcell, hfr, Iy ⟨rfl, by simp [hl]⟩⟩
   ·exact ⟨cs, ⟨hcs, F, λ _ h => h, λ _ h => h, hst⟩, hcs, h1, hcell, hfr, Iz ⟨b, o, cap, rfl, hc⟩⟩
  ·rintro e w' ⟨rfl, W1, W2, W4, v, cs, ⟨hm1, hz1, hd1⟩, ⟨ml, l0, l1, l2, l3, wv, stops, after, ra, hd⟩, ⟨hcs, _, _, _, x3d⟩, hb4, own, rfl⟩
   obtain ⟨_, mv, sa⟩ := hd;have hz1' : W1.heap.size = w.heap.size + 1 := by rw [hz1]; simp
   have mv1 : W1.heap.size <= W2.heap.size := mv.size;have hsz : (W4.setCell ⟨p, 10, none⟩ v).heap.size = W4.heap.size := GV;have w2x := hb4.size;have ho : ∀ k, k ≠ p -> (W4.setCell ⟨p, 10, none⟩ v).heap[k]? = W4.heap[k]? := λ k hk => IU W4 _ k v hk;have hmv : Moves (λ k => k = p \/ k = m) w (W4.setCell ⟨p, 10, none⟩ v) := by
    refine ⟨?_, ?_, ?_, by rw [hsz]; omega, λ k hk hn => ?_⟩
    ·show W4.os = w.os
     rw [hb4.os, mv.os]; exact hm1.os
    ·show W4.tape = w.tape
     rw [hb4.tape, mv.tape]; exact hm1.tape
    ·show W4.output = w.output
     rw [hb4.output, mv.output]; exact hm1.output
    ·rw [ho k (λ e => hn (Iy e)), hb4.block k GR, mv.block k (by show k < W1.heap.size; omega) hn]
     show W1.heap[k]? = _;rw [hm1.block k N_ (λ e => hn (Iy e)), hb0.block k hk]
   refine ⟨rfl, hmv, ?_⟩;have keep : ∀ k, F k -> k < W1.heap.size -> (W4.setCell ⟨p, 10, none⟩ v).heap[k]? = W1.heap[k]? := λ k hk hl => by
    rw [ho k (λ e => np (e ▸ hk)), hb4.block k GR, mv.block k hl (λ e => by rcases e with e | e; exact np (e ▸ hk); exact nm (e ▸ hk))];rfl
   have w1e : ∀ k, F k -> k < W2.heap.size -> (W4.setCell ⟨p, 10, none⟩ v).heap[k]? = W2.heap[k]? := λ k hk hl => by
    rw [ho k (λ e => np (e ▸ hk)), hb4.block k hl]
   have big : ∀ k, F k -> plus F w (W4.setCell ⟨p, 10, none⟩ v) k := λ k h => Iy h;have iW := ra.keeps keep (λ k h _ => big k h);have g1 := y9 x.ok;have g2 := z0i d;have g3 := z0h d;have g4 := qZ d;have g5 := q8 d;have g6 := tO d;have Aq : il W2.heap F s (.func (.func fn) #[] lb) a1 a2 a3 a4 a5 a6 := hst.keeps (λ k hk hl => by
    rw [mv.block k (by show k < W1.heap.size; omega) (λ e => by rcases e with e | e; exact np (e ▸ hk); exact nm (e ▸ hk))];show W1.heap[k]? = _;rw [hm1.block k N_ (λ e => np (e ▸ hk)), hb0.block k hl]) (λ _ h _ => h)
   have st4 : jX (W4.setCell ⟨p, 10, none⟩ v).heap (plus F w (W4.setCell ⟨p, 10, none⟩ v)) v (d.waits ++ [s]) := by
    have y := y6v (W := W4) (F' := plus F w (W4.setCell ⟨p, 10, none⟩ v)) hcs x3d Aq (λ k _ hl => hb4.block k hl) (λ k h _ => big k h) own (λ k h1 h2 => Iz ⟨GR, by rw [hsz]; exact h2⟩);exact y.keeps (λ k hk hl => ho k (λ e => (pn _).1 (e ▸ hk))) (λ _ h _ => h)
   obtain ⟨t0, t1, t2, t3, c1, c2, b0, b1, b2, b3, n1, n2, n3⟩ := sa;have c1' := IQ W4 p 10 _ dO v ((hb4.block p (aa c1)).trans c1);have lm2 : m < W2.heap.size := GR
   have bk : ∀ {u : Value} {y : List UInt8}, BytesAt W2.heap (plus F W1.drew W2) u y -> BytesAt (W4.setCell ⟨p, 10, none⟩ v).heap (plus F w (W4.setCell ⟨p, 10, none⟩ v)) u y := λ h =>
    h.keeps (λ k hk hl => (ho k (λ e => n2 (e ▸ hk))).trans (hb4.block k hl)) (λ k hk hl => by
     rcases hk with hk | hk
     ·exact Iy hk
     ·have : W1.heap.size <= k := hk.1
      exact Iz ⟨GR, by rw [hsz]; omega⟩)
   refine aQ.of (ml := ml) (l0 := l0) (l1 := l1) (l2 := l2) (l3 := l3) (wv := v) (stops := stops) (after := after) ?_ ?_ ?_
   ·exact step_ok x.ok hs ht _ g5 g6 g3 rfl g1.stops g1.si
   ·refine ⟨t0, t1, t2, t3, c1'.trans ?_, ?_, ?_, ?_, ?_, ?_, (pn _).2, (pn _).1, n3⟩
    ·simp only [g5, g6]
     simp [gp]
    ·have : ({ d.goes.1 with waits := d.waits ++ [s] } : D).stand = d.stand.done s := by
      simp only [D.stand, Kr, g3]; rfl
     rw [this];exact c2.stays ((ho m n3).trans (hb4.block m lm2))
    all_goals
     have : ({ d.goes.1 with waits := d.waits ++ [s] } : D).stand = d.stand.done s := by
      simp only [D.stand, Kr, g3]; rfl
     rw [this];first | exact bk b0 | exact bk b1 | exact bk b2 | exact bk b3
   ·exact ⟨iW.hst, iW.tJ, iW.sec, iW.wy, iW.b0, iW.b1, iW.b2, iW.b3, st4⟩
 ·have hne0 : ¬ d.goes.2 = 0 := GR
  have e2 : d.step s = (d.goes.1, d.goes.2) := by unfold D.step; rw [Iw hne0]
  rw [e2];refine (y6p p d.goes.2 a0 a1 a2 a3 a4 a5 a6 w _ h0 hg).mono ?_;rintro e w' ⟨rfl, hm1, hz1, hd1⟩;simp only [h0];refine ⟨trivial, ?_, hd1.weak (λ k h _ => Iy h) (pn _).1 (pn _).2⟩;exact ⟨hm1.os, hm1.tape, hm1.output, by rw [hz1]; simp, λ k hk hn => (hm1.block k N_ (λ e => hn (Iy e))).trans (hb0.block k hk)⟩
abbrev df : Nat := 31
def w1t (w : World) (v : Value) : Prop := v = .pointer none \/ ∃ p, v = .pointer (some ⟨p, 0, none⟩) /\ w.cell? ⟨p, 16, none⟩ = some (.bool false)
theorem x1c (h : w1t w v) : Calls prog 45 #[v] w λ e w' => e = .returned (.bool true) /\ w = w' := by
 rcases h with rfl | ⟨p, rfl, h⟩
 ·exact x1d w
 ·exact gY p false w h
theorem qK (h : BytesAt w.heap F v l) : (convert df 9 v).run prog w = .ok (.string ⟨l.toArray⟩) w := by
 rcases h with ⟨rfl, rfl⟩ | ⟨b, o, cap, c, t, fr, rfl, h2, h3, g2, g3, g4⟩
 ·exact run_convert_bytes_nil w df bT Ia Ig 0 0 9 Ib
 ·exact run_convert_bytes_back w df 9 bT ⟨b, o, none⟩ cap l Ia Ig Ib (λ j hj => by
   rw [addr_add, IJ _ _ _ _ _ _ g3, g4 j l[j] (by simp [hj])];rfl)
theorem BytesAt.below (h : BytesAt w.heap F v l) (hb : Below w w w') : BytesAt w'.heap F v l := h.keeps (λ k _ hl => hb.block k hl) (λ _ h _ => h)
theorem aQ.lu {d : D} (x : aQ w.heap p m d F) : w.cell? (p, 16) = some (.bool true) /\ w.cell? (p, 11) = some (.int .i64 d.many) /\ w.cell? (p, 12) = some (.int .i64 d.room) /\ w.cell? (p, 13) = some (.bool d.dead) := by
 obtain ⟨ml, l0, l1, l2, l3, wv, stops, after, ⟨t0, t1, t2, t3, c1, _⟩, _⟩ := x.parts;refine ⟨?_, ?_, ?_, ?_⟩ <;> (rw [IJ _ _ _ _ _ _ c1]; simp [gp])
def Left (w : World) (p m : Nat) (F : Nat -> Prop) (r : D × Int) (e : Ending) (w' : World) : Prop :=
 e = .returned (.int .i64 r.2) /\ Moves (λ k => k = p \/ k = m) w w' /\ aQ w'.heap p m r.1 (plus F w w')
theorem aQ.plus {d : D} (x : aQ w.heap p m d F) (hb : Below w w w') : aQ w'.heap p m d (plus F w w') := by
 obtain ⟨l1, l2, l3, l4, l5⟩ := x.lt;exact (x.below hb).weak (λ _ h _ => Iy h) (λ h => by rcases h with h | h; exact l4 h; omega) (λ h => by rcases h with h | h; exact l5 h; omega)
theorem vV {d : D} (x : aQ w.heap p m d F) (hb : Below w w w') : Left w p m F (d, c) (.returned (.int .i64 c)) w' :=
 ⟨rfl, Moves.of_below hb, x.plus hb⟩
theorem Gx {d : D} {r : D × Int} {e : Ending} (x : aQ w.heap p m d F) (hb : Below w w W) (h : Left W p m (plus F w W) r e w') : Left w p m F r e w' := by
 obtain ⟨l1, l2, l3, l4, l5⟩ := x.lt;obtain ⟨h1, h2, h3⟩ := h;have hs := hb.size;have hs2 := h2.size;refine ⟨h1, ⟨h2.os.trans hb.os, h2.tape.trans hb.tape, h2.output.trans hb.output, GR, λ k hk hn => (h2.block k GR hn).trans (hb.block k hk)⟩, h3.weak (λ k hk hl => ?_) ?_ ?_⟩
 ·exact Pm
 ·intro h; rcases h with h | h
  ·exact l4 h
  ·omega
 ·intro h; rcases h with h | h
  ·exact l5 h
  ·omega
section
open Go.Shelf
attribute [local go_sem] Oper.semAt_some
def nV (t0 t1 t2 t3 : Value) : List (Int × Value) := [(0, t0), (1, t1), (2, t2), (3, t3)]
def CR (x : Int × Value) : Array Value := #[.int .i64 x.1, x.2]
theorem w0n (q o : Nat) (w : World) : Calls prog 104 #[(q, o)] w λ e w' =>
 e = .returned (.func (.func 143) #[] #[.pointer (some w.heap.size)]) /\ w.alloc (.cells #[(q, o)] 117) = w' := by
 go_in;go_wp2;exact OJ
abbrev y5c : Nat := 58
theorem vC (t0 t1 t2 t3 : Value) (k : Nat) (v : Value) (hk : #[t0, t1, t2, t3][k]? = some v) (W : World) : (Instr.index y5c (.agg #[t0, t1, t2, t3]) (.int .i64 (Int.ofNat k))).run prog W = .ok v W := by
 have hlt : k < 4 := by have := (Jf.1 hk).1; simpa using this
 have hs : (sizeOf df).run prog W = .ok 1 W := GQ;have hag : (isAgg df).run prog W = .ok false W := GQ;simp only [Instr.index, asIntOf, JE, JS, JF, J4 underlying58];rw [IA ⟨GV, by show (k : Int) < 4; omega⟩];simp only [JE, hs, JF, part, hag, KJ, JM, Int.ofNat_eq_natCast, Kv, Nat.mul_one, hk, JS]
theorem w0l (g q o : Nat) (ho : o = 0 \/ o = 5) (t0 t1 t2 t3 : Value) (w : World) (hg : w.cell? g = some (.pointer (some (q, o)))) (h1 : w.cell? (q, o + 1) = some t0) (h2 : w.cell? (q, o + 2) = some t1)
 (h3 : w.cell? (q, o + 3) = some t2) (h4 : w.cell? (q, o + 4) = some t3) :
 Iter prog 143 #[.pointer (some g)] CR (nV t0 t1 t2 t3) (λ _ => False) w := by
 intro l J Jx W hW hJ hJx hY h0;have lt : q < w.heap.size := IX h1;have ix0 := λ W => vC t0 t1 t2 t3 0 t0 rfl W;have ix1 := λ W => vC t0 t1 t2 t3 1 t1 rfl W;have ix2 := λ W => vC t0 t1 t2 t3 2 t2 rfl W;have ix3 := λ W => vC t0 t1 t2 t3 3 t3 rfl W;simp only [Int.ofNat_eq_natCast, Int.cast_ofNat_Int] at ix0 ix1 ix2 ix3;have f0 := (hW.cell (p := ⟨g, 0, none⟩) (IX hg)).trans hg;rcases ho with rfl | rfl
 all_goals
  have f1 := (hW.cell (p := ⟨q, _, none⟩) lt).trans h1;have f2 := (hW.cell (p := ⟨q, _, none⟩) lt).trans h2;have f3 := (hW.cell (p := ⟨q, _, none⟩) lt).trans h3;have f4 := (hW.cell (p := ⟨q, _, none⟩) lt).trans h4;simp only [I8, Nat.reduceAdd] at f1 f2 f3 f4;clear h1 h2 h3 h4 hg;refine callsIn_of_wp func143 rfl trivial ?_ rfl;simp only [ntmps143, KE, I6, Jy, Nat.reduceAdd, Nat.reduceSub, J_, Ka, Kb, Kc, Ji, JK];gi_wp2;refine En (Eo ?_);gi_wp2;gi_loopw [9] (λ p wr => ∃ k : Nat, p = .int .i64 (k : Int) /\ k <= 4 /\ J k (λ _ => False) wr) (λ p _ => 5 - (intOf p).toNat)
  case atStart => exact ⟨0, rfl, GR, h0⟩
  case round =>
   obtain ⟨k, rfl, hk, pU⟩ := hrel;by_cases hlt : k < 4
   ·obtain rfl | rfl | rfl | rfl : k = 0 \/ k = 1 \/ k = 2 \/ k = 3 := GR
    all_goals
     obtain ⟨fn, tmps, assign, body, hy, hR⟩ := hY _ _ _ wr rfl pU;simp only [CR] at hy;gi_wp2;refine ⟨rfl, hR.mono ?_⟩;rintro e W' (⟨rfl, hJ', hk'⟩ | ⟨rfl, qY, hk'⟩)
     ·gi_wp2
      first
       | exact ⟨⟨1, rfl, GU, hJ'⟩, by simp [intOf]⟩
       | exact ⟨⟨2, rfl, GU, hJ'⟩, by simp [intOf]⟩
       | exact ⟨⟨3, rfl, GU, hJ'⟩, by simp [intOf]⟩
       | exact ⟨⟨4, rfl, GU, hJ'⟩, by simp [intOf]⟩
     ·gi_wp2
      simp +zetaDelta only [KG]; refine KH (KI rfl _ _ _) rfl ?_
      first
       | exact ⟨⟨_, rfl⟩, _, .inr ⟨1, by simp [nV], qY⟩⟩
       | exact ⟨⟨_, rfl⟩, _, .inr ⟨2, by simp [nV], qY⟩⟩
       | exact ⟨⟨_, rfl⟩, _, .inr ⟨3, by simp [nV], qY⟩⟩
       | exact ⟨⟨_, rfl⟩, _, .inr ⟨4, by simp [nV], qY⟩⟩
   ·obtain rfl : k = 4 := GR
    gi_wp2;simp +zetaDelta only [KG]; refine KH (KI rfl _ _ _) rfl ?_;exact ⟨⟨_, rfl⟩, _, .inl pU⟩
end
section
open Go.Shelf
attribute [local go_sem] Oper.semAt_some
theorem z6m {fn : Func} {p : Tmp} {ty : TypeId} (h : fn.results = #[.cell p ty]) (tmps : Array Value) (w : World) (a : Addr) (v : Value) (hp : tmps.getD p undef = .pointer (some a)) (hc : w.cell? a = some v)
 (hi : (isAgg ty).run prog w = .ok false w) : (results fn tmps).run prog w = .ok v w := by
 have hp' : tmps[p]?.getD undef = .pointer (some a) := by simpa using hp
 simp [results, h, hp', asAddr, loadVar, hi, hc]
def zF (w : World) (ns : List Nat) (k : Nat) (O : Nat -> Prop) (W' : World) : Prop :=
 Below w.heap.size w W' /\ W'.heap[w.heap.size]? = some (.cells #[.int .i64 ((ns.take k).sum : Nat)] 3 (0, 0)) /\ (∀ i, O i -> w.heap.size + 4 <= i) /\ w.heap.size + 4 <= W'.heap.size
theorem y4g {ns : List Nat} {k : Nat} {O' : Nat -> Prop} (h : zF w ns k O A) (hm : Moves O A B) (ho : ∀ i, O' i -> O i \/ A.heap.size <= i) : zF w ns k O' B := by
 obtain ⟨h1, h2, h6, h7⟩ := h;refine ⟨⟨hm.os.trans h1.os, hm.tape.trans h1.tape, hm.output.trans h1.output, IP h1.size hm.size, λ i hi => ?_⟩, (hm.block _ GR (λ e => Hf (h6 _ e))).trans h2, λ i hi => ?_, IP h7 hm.size⟩
 ·exact Ro
 ·exact Sa
theorem y4h {ns : List Nat} {k : Nat} (h : zF w ns k O A) (d : Nat) (hd : w.heap.size + 1 <= d) (o : Obj) : zF w ns k O (A.putObj d o) := by
 obtain ⟨h1, h2, h6, h7⟩ := h;exact ⟨⟨h1.os, h1.tape, h1.output, by simpa using h1.size, λ i hi => (Jd GR).trans (h1.block i hi)⟩, (Jd GR).trans h2, h6, by simpa using h7⟩
theorem y4i (q o : Nat) (ho : o = 0 \/ o = 5) (a0 a1 a2 a3 : Option Addr) (n0 n1 n2 n3 c0 c1 c2 c3 : Nat) (hn : n0 + n1 + n2 + n3 <= 9223372036854775807) (w : World) (h1 : w.cell? (q, o + 1) = some (.slice a0 n0 c0)) (h2 : w.cell? (q, o + 2) = some (.slice a1 n1 c1))
 (h3 : w.cell? (q, o + 3) = some (.slice a2 n2 c2)) (h4 : w.cell? (q, o + 4) = some (.slice a3 n3 c3)) :
 Calls prog 97 #[(q, o)] w λ e w' => e = .returned (.int .i64 ((n0 + n1 + n2 + n3 : Nat) : Int)) /\ Below w w w' := by
 have lt : q < w.heap.size := IX h1;have hb0 : Below w w (w.alloc (.cells #[.int .i64 0] 3)) := bla;have hb : Below w w ((w.alloc (.cells #[.int .i64 0] 3)).alloc (.cells #[(q, o)] 117)) := hb0.alloc GV _;have r0 : ((w.alloc (.cells #[.int .i64 0] 3)).alloc (.cells #[(q, o)] 117)).heap[w.heap.size]? = some (.cells #[.int .i64 0] 3) := (JL _ _ _ GV).trans (IC w _);have k0 : ((w.alloc (.cells #[.int .i64 0] 3)).alloc (.cells #[(q, o)] 117)).cell? (w.heap.size + 1, 0) = some (.pointer (some (q, o))) := (IJ _ _ _ _ _ _ (bD (w := w.alloc (.cells #[.int .i64 0] 3)) _ GV)).trans rfl;have IT := hd1 (w0l (w.heap.size + 1) q o ho _ _ _ _ _ k0 ((hb.cell (p := ⟨q, _, none⟩) lt).trans h1) ((hb.cell (p := ⟨q, _, none⟩) lt).trans h2) ((hb.cell (p := ⟨q, _, none⟩) lt).trans h3) ((hb.cell (p := ⟨q, _, none⟩) lt).trans h4));have R0 := hd1 r0;clear h1 h2 h3 h4 r0 k0;refine (Jg (n := 0)).1 ?_;refine Mf func97 rfl trivial ?_ rfl;simp only [ntmps97, KE, I6, Jy, Nat.reduceAdd, Nat.reduceSub, J_, Ka, Kb, Kc, Ji, JK];gi_wp2_with (refine ⟨trivial, rfl, ?_⟩; gi_at_call 104; refine (Jg.2 (w0n q o _)).mono ?_; rintro e w' ⟨rfl, rfl⟩)
 refine z2g (gf := 143) (lb := #[.pointer (some ⟨w.heap.size + 1, 0, none⟩)]) (encs := CR) (xs := nV (.slice a0 n0 c0) (.slice a1 n1 c1) (.slice a2 n2 c2) (.slice a3 n3 c3)) (R := λ _ => False) rfl (enters_of func143 GQ rfl) IT.out (λ _ h => h.elim)
  GY (λ _ => rfl) (zF w [n0, n1, n2, n3]) (λ _ _ _ _ => False) (λ k O O' A B h hm _ ho => y4g h hm ho) (λ _ _ _ _ _ _ h _ _ _ => h) ?kY (λ _ _ _ _ _ _ _ h => h) ?h0
  (λ x a' _ => a' = { tmps := #[.pointer (some ⟨q, o, none⟩), undef, .pointer (some ⟨w.heap.size, 0, none⟩), undef, x.2, .pointer (some ⟨q, o, none⟩), .func (.func 143) #[] #[.pointer (some ⟨w.heap.size + 1, 0, none⟩)], .int .i64 x.1, x.2, undef, undef, undef, undef, undef], defers := [] }) (λ _ _ _ _ _ _ _ h => h) ?assign ?body ?done ?stop
 case kY =>
  intro k O r o W' _ h;exact y4h h _ Nl o
 case h0 =>
  intro W' hb' hs;simp only [Jk] at hb' hs;refine ⟨hb.trans (hb'.mono GR), (hb'.block _ GR).trans R0.out, λ i h => h.elim, GR⟩
 case assign =>
  rintro k ⟨x1, x2⟩ O W' hx hi _ _ _;simp only [CR];gi_wp2;exact ⟨hi, dm.refl _ _, trivial⟩
 case body =>
  rintro k x O a' W' hx hl hd hol hod hi rfl;clear hl hd;simp only [Jk] at hol hod ⊢;have hk : k < 4 := by
   have := (IY.1 hx).1;simpa [nV] using this
  obtain ⟨h1, h2, h6, h7⟩ := hi;obtain ⟨a, n, c, hx2, hs⟩ : ∃ a n c, x.2 = .slice a n c /\ ([n0, n1, n2, n3].take (k + 1)).sum = ([n0, n1, n2, n3].take k).sum + n /\ ([n0, n1, n2, n3].take k).sum + n <= 9223372036854775807 := by
   have kk : k = 0 \/ k = 1 \/ k = 2 \/ k = 3 := GR;rcases kk with rfl | rfl | rfl | rfl <;> (simp only [nV, List.getElem?_cons_zero, List.getElem?_cons_succ, Jv] at hx; subst hx; refine ⟨_, _, _, rfl, ?_, ?_⟩ <;> simp [List.take] <;> omega)
  rw [hx2];have e1 : IntKind.i64.wrap ((([n0, n1, n2, n3].take k).sum : Nat) + (n : Int)) = (([n0, n1, n2, n3].take (k + 1)).sum : Nat) := by
   rw [hs.1];exact Ja _ GR
  have c1 : W'.cell? w.heap.size = some (.int .i64 (([n0, n1, n2, n3].take k).sum : Nat)) := (IJ _ _ _ _ _ _ h2).trans rfl;have z1 : W'.frozen? ⟨w.heap.size, 0, none⟩ = false := by simp [World.frozen?, h2]
  have HH := hd5 h1 h2 h6 h7 hs;generalize (([n0, n1, n2, n3].take k).sum : Nat) = s0 at *;generalize hs1 : (([n0, n1, n2, n3].take (k + 1)).sum : Nat) = s1 at *;clear h1 h2 h6 h7 hs;gi_wp2;obtain ⟨h1, h2, h6, h7, hs⟩ := HH.out;have other : ∀ i, i ≠ w.heap.size -> (W'.setCell w.heap.size (.int .i64 (s1 : Int))).heap[i]? = W'.heap[i]? := λ i hi => IU W' _ i _ hi;refine ⟨⟨GV, λ i hi _ => other i ?_⟩, ⟨h1.os, h1.tape, h1.output, by simpa using h1.size, λ i hi => (other i GR).trans (h1.block i hi)⟩, ?_, h6, by simpa using h7⟩
  ·rcases hi with h | h | h | h
   ·have := h6 i h; omega
   ·exact h.elim
   ·omega
   ·omega
  ·have := IQ W' w.heap.size 0 _ _ (.int .i64 (s1 : Int)) h2
   rw [hs1]; exact this
 case done =>
  intro O W2 hi _ hD;simp only [Jk] at hD;obtain ⟨h1, h2, h6, h7⟩ := hi;have e4 : ((List.take (nV (.slice a0 n0 c0) (.slice a1 n1 c1) (.slice a2 n2 c2) (.slice a3 n3 c3)).length [n0, n1, n2, n3]).sum : Nat) = n0 + n1 + n2 + n3 := by simp [nV]; omega
  rw [e4] at h2;generalize hnn : n0 + n1 + n2 + n3 = n at *;have k1 : W2.cell? w.heap.size = some (.int .i64 (n : Int)) := (IJ _ _ _ _ _ _ h2).trans rfl;have z1 : W2.frozen? ⟨w.heap.size, 0, none⟩ = false := by simp [World.frozen?, h2]
  have other : ∀ i, i ≠ w.heap.size -> (W2.setCell w.heap.size (.int .i64 (n : Int))).heap[i]? = W2.heap[i]? := λ i hi => IU W2 _ i _ hi;have hD' := (other (w.heap.size + 1 + 1) GR).trans hD;have hr : (W2.setCell w.heap.size (.int .i64 (n : Int))).heap[w.heap.size]? = some (.cells #[(n : Int)] 3) := IQ W2 w.heap.size 0 _ _ (.int .i64 (n : Int)) h2;have hr' : ((W2.setCell w.heap.size (.int .i64 (n : Int))).putObj (w.heap.size + 1 + 1) (.deferred none)).heap[w.heap.size]? = some (.cells #[(n : Int)] 3) := (Jd GR).trans hr
  have hbb : Below w w ((W2.setCell w.heap.size (.int .i64 (n : Int))).putObj (w.heap.size + 1 + 1) (.deferred none)) :=
   ⟨h1.os, h1.tape, h1.output, by simpa using h1.size, λ i hi => (Jd GR).trans ((other i GR).trans (h1.block i hi))⟩
  have HI := hd3 hr' hbb hD';clear h1 h2 h6 h7 other hD' hr hr' hbb hD;gi_wp2;simp only [Jk];exact vW HI.2.2 (z6m rfl _ _ ⟨w.heap.size, 0, none⟩ _ rfl ((IJ _ _ _ _ _ _ HI.1).trans rfl) GQ) ⟨by rw [hnn]; rfl, HI.2.1⟩
 case stop =>
  intro c k O W' hkx h;exact h.elim
end
theorem BytesAt.slice {h : Array Obj} (x : BytesAt h F v l) : ∃ a c, v = .slice a l.length c := by
 rcases x with ⟨rfl, rfl⟩ | ⟨b, o, cap, c, t, fr, rfl, _⟩
 ·exact ⟨_, _, rfl⟩
 ·exact ⟨_, _, rfl⟩
theorem De (x : BytesAt w.heap G v l) (hl : l.length <= 1099511627776) : Calls prog 98 #[v] w (zU w l) := by
 rcases x with ⟨rfl, rfl⟩ | ⟨b, o, cap, c, t, fr, rfl, h2, h3, g2, g3, g4⟩
 ·refine (y1t w).mono ?_
  exact Ql
 ·exact x8q b o cap l w hl (λ i x hi => (IJ _ _ _ _ _ _ g3).trans (g4 i x hi))
def BytesIn (h : Array Obj) (F : Nat -> Prop) (v : Value) (l : List UInt8) : Prop := ((∃ ad c, v = .slice (some ad) 0 c) /\ l = []) \/ BytesAt h F v l
theorem BytesIn.slice {h : Array Obj} (x : BytesIn h F v l) : ∃ a c, v = .slice a l.length c := by
 rcases x with ⟨⟨ad, c, rfl⟩, rfl⟩ | x
 ·exact ⟨_, _, rfl⟩
 ·exact x.slice
theorem BytesIn.keeps {h h' : Array Obj} (x : BytesIn h F v l) (hs : ∀ k, F k -> k < h.size -> h'[k]? = h[k]?) (hF : ∀ k, F k -> k < h.size -> F' k) : BytesIn h' F' v l := by
 rcases x with x | x
 ·exact Iy x
 ·exact Iz (x.keeps hs hF)
theorem BytesIn.below (h : BytesIn w.heap F v l) (hb : Below w w w') : BytesIn w'.heap F v l := h.keeps (λ k _ hl => hb.block k hl) (λ _ h _ => h)
theorem x8p (x : BytesIn w.heap G v l) (hl : l.length <= 1099511627776) : Calls prog 98 #[v] w (zU w l) := by
 rcases x with ⟨⟨ad, c, rfl⟩, rfl⟩ | x
 ·exact y1s ad c [] w GU (λ j u hj => by simp at hj)
 ·exact De x hl
theorem y7p (h : BytesIn w.heap F v l) : (convert df 9 v).run prog w = .ok (.string ⟨l.toArray⟩) w := by
 rcases h with ⟨⟨ad, c, rfl⟩, rfl⟩ | h
 ·exact run_convert_bytes_back w df 9 bT ad c [] Ia Ig Ib (λ j hj => by simp at hj)
 ·exact qK h
theorem y4j {d : D} (x : aQ w.heap p m d F) : Calls prog 97 #[p] w λ e w' => e = .returned (.int .i64 d.stand.used) /\ Below w w w' := by
 have hok := x.ok;have b : ∀ t, ((d.stand.tp t).length : Int) <= 1048576 := λ t => Int.le_trans (by exact_mod_cast kC hok t) hok.fE;have b0 := b 0;have b1 := b 1;have b2 := b 2;have b3 := b 3;obtain ⟨t0, t1, t2, t3, ml, l0, l1, l2, l3, wv, stops, after, c1, _, _, _, _, _, _, _, _, s0, s1, s2, s3, _⟩ := x.cells;obtain ⟨a0, e0, rfl⟩ := s0.slice;obtain ⟨a1, e1, rfl⟩ := s1.slice;obtain ⟨a2, e2, rfl⟩ := s2.slice;obtain ⟨a3, e3, rfl⟩ := s3.slice;refine (y4i p 0 (Iy rfl) a0 a1 a2 a3 (d.stand.tp 0).length (d.stand.tp 1).length (d.stand.tp 2).length (d.stand.tp 3).length e0 e1 e2 e3 GR w ?_ ?_ ?_ ?_).mono ?_
 ·exact RA
 ·exact RA
 ·exact RA
 ·exact RA
 ·rintro e w' ⟨rfl, hb⟩
  refine ⟨?_, hb⟩;unfold St.used;simp
theorem w0x (p : Nat) (bv : Value) (n : Int) (w : World) (h : w.cell? (p, 16) = some (.bool true)) (hn : n < 0 \/ 4 <= n) :
 Calls prog 59 #[p, .int .i64 n, bv] w λ e w' => e = .returned (.int .i64 4) /\ Below w w w' := by
 have hb : Below w w (w.alloc (.cells #[.int .i64 n] 3)) := bla;have h' := (hb.cell (p := ⟨p, 16, none⟩) (IX h)).trans h;by_cases hn0 : n < 0
 all_goals
  have hn2 : ¬ n < 0 -> 4 <= n := λ h => GR;simp only [hn0, not_true_eq_false, LB, forall_const, false_implies] at hn2;go_in;go_wp2_with (go_at_call 45; refine (gY p true _ h').mono ?_; rintro e w' ⟨rfl, rfl⟩)
  go_ret;exact ⟨rfl, hb⟩
theorem w0v (p l c : Nat) (a : Option Addr) (n room u : Int) (w : World) (h : w.cell? (p, 16) = some (.bool true)) (h2 : w.cell? (p, 12) = some (.int .i64 room)) (hn0 : 0 <= n) (hn1 : n < 4) (hu0 : 0 <= u) (hu1 : u <= 4194304) (hl : l <= 1099511627776) (hf : u + l > room)
 (hU : ∀ W, Below w w W -> Calls prog 97 #[p] W λ e w' => e = .returned (.int .i64 u) /\ Below W W w') :
 Calls prog 59 #[p, .int .i64 n, .slice a l c] w λ e w' => e = .returned (.int .i64 280) /\ Below w w w' := by
 have hb : Below w w (w.alloc (.cells #[.int .i64 n] 3)) := bla;have lt : p < w.heap.size := IX h;have h' := (hb.cell (p := ⟨p, 16, none⟩) lt).trans h;have hw : IntKind.i64.wrap (u + (l : Int)) = u + (l : Int) := Ja _ GR;have nlt : ¬ n < 0 := GR;have nge : ¬ 4 <= n := GR;have gt : room < u + (l : Int) := hf;have HU := hd1 hU;clear hU hf;have ne : Nonempty (Wd (Below w w)) := ⟨⟨w, Below.refl _ _⟩⟩;have x2 : ∀ x : Wd (Below w w), x.world.cell? (p, 12) = some (.int .i64 room) := λ x => (x.ok.cell (p := ⟨p, 12, none⟩) lt).trans h2;go_in;go_wp2_with (go_at_call 45; refine (gY p true _ h').mono ?_; rintro e w' ⟨rfl, rfl⟩)
 refine bC (λ w' => ∃ x : Wd (Below w w), w' = x.world) [] GQ ?_;refine aI [0, 1, 2, 4, 5, 7, 8, 9, 10] 4 _ ⟨⟨_, hb.drew⟩, rfl⟩ GQ ?_;refine G9 ?_;refine az 3 3 _ _ rfl GQ ?_;refine IE rfl λ K hK => ?_;go_simp;go_at_call 97;refine (HU.out _ hb.drew).mono ?_;rintro e W1 ⟨rfl, hb1⟩;have hb2 := hb.drew.trans (hb1.mono GV);refine hK _ _ (IB ⟨rfl, λ _ => ⟨⟨_, hb2⟩, rfl⟩, ?_⟩);clear hK K;refine aI [6, 11, 12] 0 _ ⟨⟨_, hb2⟩, rfl⟩ GQ ?_;refine G9 ?_;refine ⟨GQ, ?_⟩;go_wp2;go_ret;exact ⟨rfl, hb2⟩
theorem w0w (p l c : Nat) (a : Option Addr) (n room u : Int) (bs : List UInt8) (w : World) (R : Ending -> World -> Prop) (h : w.cell? (p, 16) = some (.bool true)) (h2 : w.cell? (p, 12) = some (.int .i64 room)) (hn0 : 0 <= n) (hn1 : n < 4) (hu0 : 0 <= u) (hu1 : u <= 4194304) (hl : l <= 1099511627776) (hf : ¬ u + l > room)
 (hU : ∀ W, Below w w W -> Calls prog 97 #[p] W λ e w' => e = .returned (.int .i64 u) /\ Below W W w')
 (F : Nat -> Prop) (hv : BytesIn w.heap F (.slice a l c) bs)
 (hR : ∀ W g v, Below w w W -> w.heap.size < g -> W.heap[w.heap.size]? = some (.cells #[.int .i64 n] 3) -> W.heap[g]? = some (.cells #[v] df) -> W.heap[g + 1]? = some (.cells #[.int .i64 n] 3) -> W.heap[g + 2]? = some (.cells #[v] df) -> W.heap.size = g + 3 -> BytesAt W.heap (λ k => w.heap.size <= k) v bs ->
  Calls prog 99 #[.pointer (some p), .agg #[.func (.func 142) #[] #[.pointer (some ⟨g + 1, 0, none⟩), .pointer (some ⟨g + 2, 0, none⟩)],
   .func (.func 101) #[] #[.pointer (some w.heap.size), .pointer (some ⟨g, 0, none⟩)], .int .i64 n, .int .i64 2, .int .i64 n, .int .i64 0, .string ⟨bs.toArray⟩]] W λ e w' => ∃ k, e = .returned (.int .i64 k) /\ R e w') :
 Calls prog 59 #[p, .int .i64 n, .slice a l c] w R := by
 have hb : Below w w (w.alloc (.cells #[.int .i64 n] 3)) := bla;have lt : p < w.heap.size := IX h;have h' := (hb.cell (p := ⟨p, 16, none⟩) lt).trans h;have r0 : (w.alloc (.cells #[.int .i64 n] 3)).heap[w.heap.size]? = some (.cells #[.int .i64 n] 3) := IC w _;have hw : IntKind.i64.wrap (u + (l : Int)) = u + (l : Int) := Ja _ GR;have nlt : ¬ n < 0 := GR;have nge : ¬ 4 <= n := GR;have gt : ¬ room < u + (l : Int) := hf;have hlen : bs.length = l := by
  rcases hv with ⟨⟨_, _, h1⟩, rfl⟩ | ⟨h1, rfl⟩ | ⟨b', o', cap', cc, t, fr, h1, _⟩
  ·simp only [Value.slice.injEq] at h1; simp [h1.2.1]
  ·simp only [Value.slice.injEq] at h1; simp [h1.2.1]
  ·simp only [Value.slice.injEq] at h1; exact h1.2.1.symm
 have HU := hd1 hU;have HV := hd1 hv;have HR := hd1 hR;have HB := hd4 hb r0 hlen hl;clear hU hf hv hR r0 hlen;have ne : Nonempty (Wd (Below w w)) := ⟨⟨w, Below.refl _ _⟩⟩;have x2 : ∀ x : Wd (Below w w), x.world.cell? (p, 12) = some (.int .i64 room) := λ x => (x.ok.cell (p := ⟨p, 12, none⟩) lt).trans h2;go_in;go_wp2_with (go_at_call 45; refine (gY p true _ h').mono ?_; rintro e w' ⟨rfl, rfl⟩)
 refine bC (λ w' => ∃ x : Wd (Below w w), w' = x.world) [] GQ ?_;refine aI [0, 1, 2, 4, 5, 7, 8, 9, 10] 4 _ ⟨⟨_, hb.drew⟩, rfl⟩ GQ ?_;refine G9 ?_;refine az 3 3 _ _ rfl GQ ?_;refine IE rfl λ K hK => ?_;go_simp;go_at_call 97;refine (HU.out _ hb.drew).mono ?_;rintro e W1 ⟨rfl, hb1⟩;have hb2 := hb.drew.trans (hb1.mono GV);refine hK _ _ (IB ⟨rfl, λ _ => ⟨⟨_, hb2⟩, rfl⟩, ?_⟩);clear hK K;refine aI [6, 11, 12] 0 _ ⟨⟨_, hb2⟩, rfl⟩ GQ ?_;refine G9 ?_;refine ⟨GQ, ?_⟩;have s1 : w.heap.size < W1.heap.size := by have := hb1.size; simp at this; omega
 have r1 : W1.heap[w.heap.size]? = some (.cells #[.int .i64 n] 3) := (hb1.block w.heap.size GV).trans HB.2.1;have H1 := hd3 hb2 s1 r1;clear hb1 hb2 s1 r1 hb x2 ne h2 h'
 go_wp2_with (go_at_call 98
              refine (x8p (HV.below H1.1) (by rw [HB.2.2.1]; exact HB.2.2.2)).mono ?_;rintro e W2 ⟨v, rfl, hb2, hv2⟩;obtain ⟨a2, c2, rfl⟩ := hv2.slice)
 clear gt nlt nge hw;have hb3 : Below w w (W2.alloc (.cells #[.slice a2 bs.length c2] df)) := (H1.1.trans (hb2.mono (Hf H1.2.1))).alloc (Hg H1.2.1 hb2.size) _;have s2 : w.heap.size < W2.heap.size := Hg H1.2.1 hb2.size;have r2 : W2.heap[w.heap.size]? = some (.cells #[.int .i64 n] 3) := (hb2.block _ H1.2.1).trans H1.2.2;have r3 : (W2.alloc (.cells #[.slice a2 bs.length c2] df)).heap[w.heap.size]? = some (.cells #[.int .i64 n] 3) := aM s2 r2;have r4 : (W2.alloc (.cells #[.slice a2 bs.length c2] df)).heap[W2.heap.size]? = some (.cells #[.slice a2 bs.length c2] df) := bD _ rfl;obtain ⟨W3, hW3⟩ := G5 (W2.alloc (.cells #[.slice a2 bs.length c2] df));have s3 : W3.heap.size = W2.heap.size + 1 := by rw [<-hW3]; simp
 have hv3 : BytesAt W3.heap (λ k => w.heap.size <= k) (.slice a2 bs.length c2) bs := by
  rw [<-hW3];exact hv2.keeps (λ k _ hk => heap_old_own _ _ _ hk) (λ k hk _ => by have := H1.2.1; show w.heap.size <= k; have hk' : W1.heap.size <= k := hk; omega)
 simp only [df] at hW3;rw [hW3] at hb3 r3 r4 ⊢;clear hW3 hv2 hb2 r2;have x1 : ∀ x : Wd (Below W3 W3), x.world.cell? w.heap.size = some (.int .i64 n) := λ x => (x.ok.cell (p := ⟨w.heap.size, 0, none⟩) (aa r3)).trans ((IJ _ _ _ _ _ _ r3).trans rfl);have x2 : ∀ x : Wd (Below W3 W3), x.world.cell? W2.heap.size = some (.slice a2 bs.length c2) := λ x => (x.ok.cell (p := ⟨W2.heap.size, 0, none⟩) (aa r4)).trans ((IJ _ _ _ _ _ _ r4).trans rfl);have x3 : ∀ x : Wd (Below W3 W3), (convert df 9 (.slice a l c)).run prog x.world = .ok (.string ⟨bs.toArray⟩) x.world := λ x => y7p (HV.below (hb3.trans (x.ok.mono GR)));have ne : Nonempty (Wd (Below W3 W3)) := ⟨⟨W3, Below.refl _ _⟩⟩;have H3 := hd5 hb3 r3 r4 hv3 s3;clear hb3 r3 r4 hv3 s3;refine bC (λ w' => ∃ x : Wd (Below W3 W3), w' = x.world) [11, 12] GQ ?_;refine aI [0, 1, 2, 4, 5, 6, 7, 8, 9] 4 _ Hq GQ ?_;refine G9 ?_;refine az 3 3 _ _ rfl GQ ?_;refine IE rfl λ K hK => ?_;go_simp;go_at_call 100;refine (z1c _ _ _ _ _).mono ?_;rintro e w' ⟨rfl, rfl⟩;refine hK _ _ (IB ⟨rfl, λ _ => ⟨⟨_, ((GY.drew).alloc GZ _).alloc GV _⟩, rfl⟩, ?_⟩);clear hK K;refine aI [10] 2 _ ⟨⟨_, ((GY.drew).alloc GZ _).alloc GV _⟩, rfl⟩ GQ ?_;refine G9 ?_;refine az 11 1 _ _ rfl GQ ?_;refine IE rfl λ K hK => ?_;go_simp;go_at_call 99;have hz3 := H3.2.2.2.2;rw [hz3];have hbb : Below W3 W3 ((W3.alloc (.cells #[.int .i64 n] 3)).alloc (.cells #[.slice a2 bs.length c2] df)).drew := ((bla).alloc GV _).drew;refine (HR.out _ W2.heap.size (.slice a2 bs.length c2) (H3.1.trans (hbb.mono GR)) s2 ((hbb.block _ (aa H3.2.1)).trans H3.2.1) ((hbb.block _ GR).trans H3.2.2.1) ?_ ?_ ?_ ?_).mono ?_
 ·exact (aM (w := W3.alloc (.cells #[.int .i64 n] 3)) N_ (bD (w := W3) _ hz3.symm))
 ·exact bD (w := W3.alloc (.cells #[.int .i64 n] 3)) _ N_
 ·show ((W3.alloc (.cells #[.int .i64 n] 3)).alloc (.cells #[.slice a2 bs.length c2] df)).heap.size = _
  simp; omega
 ·exact H3.2.2.2.1.keeps (λ k _ hk => hbb.block k hk) (λ _ h _ => h)
 rintro e w' ⟨k, rfl, hr⟩;refine hK _ _ (IB ⟨rfl, λ h => absurd GU h, ?_⟩);clear hK K;refine az 12 0 _ _ rfl GQ ?_;refine IE rfl λ K hK => ?_;go_simp;refine hK _ _ (IB ⟨rfl, λ h => absurd GU h, GQ, ?_⟩);clear hK K;go_wp2;exact hr
end Go.Proofs.YtgffifleflkjoaaGreat
