/-
  Parts of a proof.
-/
import Derived.Test.YtgffifleflkjoaaGreatFin06
import Derived.Test.YtgffifleflkjoaaGreatFin07
import Derived.Laws.IdiomStrings
import Derived.Laws.BytesArg
set_option linter.unusedSimpArgs false
set_option linter.unusedVariables false
set_option maxRecDepth 100000
set_option maxHeartbeats 16000000
namespace Go.Proofs.YtgffifleflkjoaaGreat
open _root_.Go.Proofs.Tryz
variable {w W w' w0 wr w1 W0 W1 W2 A B : World} {F G F' O : Nat → Prop} {v : Value} {l : List UInt8} {n q m pd md pl g p : Nat} {C : Array Value} {c : Int}
open Go.RowKit Dm
theorem iY.weak {h : Array Obj} {x : St} {ty : TypeId} {rest : List Value} (s : iY h q m x F ty rest) (hF : ∀ k, F k -> k < h.size -> F' k) (hq : ¬ F' q) (hm : ¬ F' m) : iY h q m x F' ty rest := by
 obtain ⟨t0, t1, t2, t3, c1, c2, b0, b1, b2, b3, n1, n2, n3⟩ := s;have hs : ∀ k, F k -> k < h.size -> h[k]? = h[k]? := λ _ _ _ => rfl;exact ⟨t0, t1, t2, t3, c1, c2, b0.keeps hs hF, b1.keeps hs hF, b2.keeps hs hF, b3.keeps hs hF, hm, hq, n3⟩
theorem aQ.weak {h : Array Obj} {d : D} (x : aQ h p m d F) (hF : ∀ k, F k -> k < h.size -> F' k) (hp : ¬ F' p) (hm : ¬ F' m) : aQ h p m d F' := by
 obtain ⟨ml, l0, l1, l2, l3, wv, stops, after, s, r⟩ := x.parts;exact aQ.of x.ok (s.weak hF hp hm) (r.keeps (λ _ _ _ => rfl) hF)
theorem aQ.below {d : D} (x : aQ w.heap p m d F) (hb : Below w w w') : aQ w'.heap p m d F := by
 obtain ⟨l1, l2, l3, l4, l5⟩ := x.lt;exact x.keeps (hb.block p l1) (hb.block m l2) (λ k _ hk => hb.block k hk) (λ _ h _ => h) (λ _ h => IB h)
theorem step_ok {d : D} {s : Step} (h : d.ok) (hs : s.ok d.many) (ht : ∀ t, ((d.stand.done s).tp t).length <= d.room) (d' : D) (e1 : d'.many = d.many) (e2 : d'.room = d.room) (e3 : d'.lasts = d.lasts) (e4 : d'.waits = d.waits ++ [s])
 (h1 : -1 <= d'.stops) (h2 : d'.stops <= 9223372036854775807) : d'.ok := by
 refine ⟨by rw [e1]; exact h.vY, by rw [e1]; exact h.many1, by rw [e2]; exact h.pR, by rw [e2]; exact h.fE, by rw [e3]; exact h.sec, λ k t => ?_, λ y hy => ?_, h1, h2⟩
 ·unfold D.upto
  rw [e2, e3, e4];by_cases hk : k <= d.waits.length
  ·rw [Kq hk]
   exact h.tape k t
  ·rw [Jh Oa, Kr]
   exact ht t
 ·rw [e4] at hy
  rw [e1];rcases J2.1 hy with hy | hy
  ·exact h.waits y hy
  ·rw [JX] at hy; subst hy; exact hs
theorem Cz (d : D) : d.goes.2 = 0 \/ d.goes.2 = 281 := by unfold D.goes; split; exact IC rfl; split; exact IC rfl; split <;> exact IB rfl
theorem kK {d : D} (h : d.ok) (t : Int) : (d.stand.tp t).length <= d.room := by
 have := h.tape d.waits.length t;unfold D.upto at this;rwa [Jh G7] at this
theorem z1x {x : St} {s : Step} {many : Int} (hx : ∀ n, (x.sec n).length = 256) (hs : s.ok many) : ∀ n, ((x.done s).sec n).length = 256 := by
 intro n;unfold St.done;split
 ·rename_i h1
  have hb : s.b.length = 256 := by
   exact PI
  simp only [upd];split
  ·exact hb
  ·exact hx n
 ·split <;> exact hx n
theorem y0w {many : Int} : ∀ (l : List Step) (x : St), (∀ n, (x.sec n).length = 256) -> (∀ s ∈ l, s.ok many) -> ∀ n, ((l.foldl St.done x).sec n).length = 256
 | [], _, h, _ => h
 | s :: l, x, h, hs => y0w l (x.done s) (z1x h (hs s (Jp ..))) (λ y hy => hs y (Jz _ hy))
theorem y6i {d : D} (h : d.ok) : ∀ n, (d.stand.sec n).length = 256 := y0w d.waits d.lasts h.sec h.waits
theorem y6s {l : List Step} {s : Step} {cs : List Value} {base : Nat} {a0 a1 a2 a3 a4 a5 a6 : Value}
 (hl : cs.length = l.length * 7) (hcs : ∀ i s, l[i]? = some s -> ∃ d p tp w0 w1 w2 st, cs[i * 7]? = some d /\ cs[i * 7 + 1]? = some p /\ cs[i * 7 + 2]? = some tp /\ cs[i * 7 + 3]? = some w0 /\ cs[i * 7 + 4]? = some w1 /\ cs[i * 7 + 5]? = some w2 /\ cs[i * 7 + 6]? = some st /\ gI W2.heap F s d p tp w0 w1 w2 st)
 (hst : gI W2.heap F s a0 a1 a2 a3 a4 a5 a6) (hs : ∀ k, F k -> k < W2.heap.size -> W.heap[k]? = W2.heap[k]?) (hF : ∀ k, F k -> k < W2.heap.size -> F' k)
 (own : W.ownsRow base dZ 7 v (l.length + 1) (cs ++ gZ a0 a1 a2 a3 a4 a5 a6)) (hF2 : ∀ k, base <= k -> k < W.heap.size -> F' k) : iX W.heap F' v (l ++ [s]) := by
 obtain ⟨_, h⟩ := own;rcases h with ⟨_, h⟩ | ⟨g, cap, cur, rfl, h2, h3, h4, h5, h6, h7⟩
 ·omega
 ·refine IC ⟨g, 0, cap, cur, dZ, (0, 0), GZ, by simpa using h4, by unfold maxLen at h5; omega, hF2 g h2 (aa h3), h3, λ i y hi => ?_⟩
  have look : ∀ j u, (cs ++ gZ a0 a1 a2 a3 a4 a5 a6)[j]? = some u -> cur[0 + j]? = some u := by
   intro j u hj;have hlt := (I4.1 hj).1;rw [IQ, hl] at hlt;have hlt' : j < (l.length + 1) * 7 := by simp only [gZ, I8, Jw] at hlt; omega
   rw [<-h7, JR, IE hlt'] at hj;simpa using hj
  by_cases hi2 : i < l.length
  ·rw [KQ hi2] at hi
   obtain ⟨d, p, tp, w0, w1, w2, st, e0, e1, e2, e3, e4, e5, e6, e7⟩ := hcs i y hi;have up : ∀ j u, cs[j]? = some u -> (cs ++ gZ a0 a1 a2 a3 a4 a5 a6)[j]? = some u := λ j u h => by rw [KQ (I4.1 h).1]; exact h
   refine ⟨d, p, tp, w0, w1, w2, st, look _ _ (up _ _ e0), ?_, ?_, ?_, ?_, ?_, ?_, e7.keeps hs hF⟩
   ·have := look _ _ (up _ _ e1); rwa [<-JD] at this
   ·have := look _ _ (up _ _ e2); rwa [<-JD] at this
   ·have := look _ _ (up _ _ e3); rwa [<-JD] at this
   ·have := look _ _ (up _ _ e4); rwa [<-JD] at this
   ·have := look _ _ (up _ _ e5); rwa [<-JD] at this
   ·have := look _ _ (up _ _ e6); rwa [<-JD] at this
  ·have hi3 : i = l.length /\ y = s := by
    have hlt := (I4.1 hi).1;rw [IQ, K8] at hlt;have : i = l.length := GX;subst this;rw [Kt G7] at hi;simp at hi;exact ⟨rfl, hi.symm⟩
   obtain ⟨rfl, rfl⟩ := hi3;have up : ∀ j u, (gZ a0 a1 a2 a3 a4 a5 a6)[j]? = some u -> cur[0 + l.length * 7 + j]? = some u := λ j u h => by
    have := look (l.length * 7 + j) u (by rw [Kt GX]; rw [hl, Nat.add_sub_cancel_left]; exact h);rwa [<-JD] at this
   refine ⟨a0, a1, a2, a3, a4, a5, a6, up 0 _ rfl, up 1 _ rfl, up 2 _ rfl, up 3 _ rfl, up 4 _ rfl, up 5 _ rfl, up 6 _ rfl, hst.keeps hs hF⟩
theorem z4s {d : D} (x : aQ w.heap p m d F) (s : Step) (hs : s.ok d.many) (hn : d.waits.length <= 1000000000000) (ht : ∀ t, ((d.stand.done s).tp t).length <= d.room)
 {a0 a1 a2 a3 a4 a5 a6 : Value} (hst : gI w.heap F s a0 a1 a2 a3 a4 a5 a6) :
 Calls prog 99 #[.pointer (some ⟨p, 0, none⟩), .agg #[a0, a1, a2, a3, a4, a5, a6]] w λ e w' => e = .returned (.int .i64 (d.step s).2) /\ Moves (λ k => k = p \/ k = m) w w' ∧
  aQ w'.heap p m (d.step s).1 (plus F w w') := by
 obtain ⟨lp, lm, hne, np, nm⟩ := x.lt;have hb0 : Below w w (w.alloc (.cells #[a0, a1, a2, a3, a4, a5, a6] dZ)) := bla;have x0 : aQ (w.alloc (.cells #[a0, a1, a2, a3, a4, a5, a6] dZ)).heap p m d F := x.below hb0;have hg := z9e x0;have pn : ∀ w' : World, ¬ plus F w w' p /\ ¬ plus F w w' m := λ w' => ⟨λ h => by rcases h with h | h; exact np h; omega, λ h => by rcases h with h | h; exact nm h; omega⟩;rcases Cz d with h0 | h0
 ·have e2 : d.step s = ({ d.goes.1 with waits := d.waits ++ [s] }, 0) := by unfold D.step; rw [IE h0]
  rw [e2];rw [h0] at hg;obtain ⟨fn, lb, rfl, eg⟩ := hst.fn
  refine (y6o p fn lb a1 a2 a3 a4 a5 a6 w _
   (λ W1 W2 => ∃ ml l0 l1 l2 l3 wv stops after, xm W1.heap d.goes.1 F ml l0 l1 l2 l3 wv stops after /\ u_ W1.drew p m (d.stand.done s) F dQ (fZ ml l0 l1 l2 l3 wv d.many d.room d.goes.1.dead stops after) (.returned (.tuple #[])) W2)
   eg d.waits.length hn
   (λ W2 cs => cs.length = d.waits.length * 7 /\ ∃ G : Nat -> Prop, (∀ k, F k -> G k) /\ (∀ k, G k -> F k) ∧
    ∀ i s, d.waits[i]? = some s -> ∃ dd p tp w0 w1 w2 st, cs[i * 7]? = some dd /\ cs[i * 7 + 1]? = some p /\ cs[i * 7 + 2]? = some tp /\ cs[i * 7 + 3]? = some w0 /\ cs[i * 7 + 4]? = some w1 /\ cs[i * 7 + 5]? = some w2 /\ cs[i * 7 + 6]? = some st /\ gI W2.heap F s dd p tp w0 w1 w2 st)
   hst.ones hg ?_ ?_).mono ?_
  ·rintro W1 ⟨hm1, hz1, hd1⟩
   refine ⟨(hm1.block w.heap.size GZ (λ (e : w.heap.size = p) => GX)).trans (II w _), ?_⟩;obtain ⟨ml, l0, l1, l2, l3, wv, stops, after, sa, ra⟩ := hd1.parts;rw [z0q, rQ, uh] at sa;have st1 : gI W1.drew.heap F s (.func (.func fn) #[] lb) a1 a2 a3 a4 a5 a6 := hst.keeps (λ k hk hl => (hm1.block k Oa (λ e => np (e ▸ hk))).trans (hb0.block k hl)) (λ _ h _ => h);obtain ⟨fn', lb', ef, _, hc⟩ := z1w s d.many hs p m d.stand F dQ _ W1.drew _ _ _ _ _ _ _ st1 (λ t => Ho (kK x.ok t) x.ok.fE) sa;cases ef;exact hc.mono λ e w' hd => ⟨hd.ret, ml, l0, l1, l2, l3, wv, stops, after, ra, by have e1 := hd.ret; subst e1; exact hd⟩
  ·rintro W1 W2 ⟨hm1, hz1, hd1⟩ ⟨ml, l0, l1, l2, l3, wv, stops, after, ra, hd⟩
   obtain ⟨_, mv, sa⟩ := hd;have hz1' : W1.heap.size = w.heap.size + 1 := by rw [hz1]; simp
   refine ⟨(mv.block w.heap.size (by show w.heap.size < W1.heap.size; omega) (λ (e : w.heap.size = p \/ w.heap.size = m) => GX)).trans ((hm1.block w.heap.size GZ (λ (e : w.heap.size = p) => GX)).trans (II w _)), wv, ?_⟩;have keep : ∀ k, F k -> k < W1.heap.size -> W2.heap[k]? = W1.heap[k]? := λ k hk hl => mv.block k hl (λ e => by rcases e with e | e; exact np (e ▸ hk); exact nm (e ▸ hk));have st2 : iX W2.heap F wv d.waits := by have := ra.steps.keeps keep (λ _ h _ => h); rwa [rP] at this
   obtain ⟨t0, t1, t2, t3, c1, _⟩ := sa;have hcell : W2.cell? ⟨p, 10, none⟩ = some wv := by rw [IM _ _ _ _ _ _ c1]; simp [fZ]
   have hfr : W2.frozen? ⟨p, 10, none⟩ = false := by simp [World.frozen?, c1]
   rcases st2.raw with ⟨rfl, hl⟩ | ⟨b, o, cap, cs, rfl, hcs, wF, hlc, hcap, hc, h1, hst⟩
   ·exact ⟨[], ⟨by simp [hl], F, λ _ h => h, λ _ h => h, λ i s hi => by rw [hl] at hi; cases hi⟩, by simp [hl], (λ u hu => by cases hu), hcell, hfr, IB ⟨rfl, by simp [hl]⟩⟩
   ·exact ⟨cs, ⟨hcs, F, λ _ h => h, λ _ h => h, hst⟩, hcs, h1, hcell, hfr, IC ⟨b, o, cap, rfl, hc⟩⟩
  ·rintro e w' ⟨rfl, W1, W2, W4, v, cs, ⟨hm1, hz1, hd1⟩, ⟨ml, l0, l1, l2, l3, wv, stops, after, ra, hd⟩, ⟨hcs, _, _, _, x3b⟩, hb4, own, rfl⟩
   obtain ⟨_, mv, sa⟩ := hd;have hz1' : W1.heap.size = w.heap.size + 1 := by rw [hz1]; simp
   have mv1 : W1.heap.size <= W2.heap.size := mv.size;have hsz : (W4.setCell ⟨p, 10, none⟩ v).heap.size = W4.heap.size := GZ;have w1c := hb4.size;have ho : ∀ k, k ≠ p -> (W4.setCell ⟨p, 10, none⟩ v).heap[k]? = W4.heap[k]? := λ k hk => IW W4 _ k v hk;have hmv : Moves (λ k => k = p \/ k = m) w (W4.setCell ⟨p, 10, none⟩ v) := by
    refine ⟨?_, ?_, ?_, by rw [hsz]; omega, λ k hk hn => ?_⟩
    ·show W4.os = w.os
     rw [hb4.os, mv.os]; exact hm1.os
    ·show W4.tape = w.tape
     rw [hb4.tape, mv.tape]; exact hm1.tape
    ·show W4.output = w.output
     rw [hb4.output, mv.output]; exact hm1.output
    ·rw [ho k (λ e => hn (IB e)), hb4.block k GX, mv.block k (by show k < W1.heap.size; omega) hn]
     show W1.heap[k]? = _;rw [hm1.block k Oa (λ e => hn (IB e)), hb0.block k hk]
   refine ⟨rfl, hmv, ?_⟩;have keep : ∀ k, F k -> k < W1.heap.size -> (W4.setCell ⟨p, 10, none⟩ v).heap[k]? = W1.heap[k]? := λ k hk hl => by
    rw [ho k (λ e => np (e ▸ hk)), hb4.block k GX, mv.block k hl (λ e => by rcases e with e | e; exact np (e ▸ hk); exact nm (e ▸ hk))];rfl
   have w1j : ∀ k, F k -> k < W2.heap.size -> (W4.setCell ⟨p, 10, none⟩ v).heap[k]? = W2.heap[k]? := λ k hk hl => by
    rw [ho k (λ e => np (e ▸ hk)), hb4.block k hl]
   have big : ∀ k, F k -> plus F w (W4.setCell ⟨p, 10, none⟩ v) k := λ k h => IB h;have iW := ra.keeps keep (λ k h _ => big k h);have g1 := zf x.ok;have g2 := z0q d;have g3 := z0p d;have g4 := rP d;have g5 := rQ d;have g6 := uh d;have AA : gI W2.heap F s (.func (.func fn) #[] lb) a1 a2 a3 a4 a5 a6 := hst.keeps (λ k hk hl => by
    rw [mv.block k (by show k < W1.heap.size; omega) (λ e => by rcases e with e | e; exact np (e ▸ hk); exact nm (e ▸ hk))];show W1.heap[k]? = _;rw [hm1.block k Oa (λ e => np (e ▸ hk)), hb0.block k hl]) (λ _ h _ => h)
   have st4 : iX (W4.setCell ⟨p, 10, none⟩ v).heap (plus F w (W4.setCell ⟨p, 10, none⟩ v)) v (d.waits ++ [s]) := by
    have y := y6s (W := W4) (F' := plus F w (W4.setCell ⟨p, 10, none⟩ v)) hcs x3b AA (λ k _ hl => hb4.block k hl) (λ k h _ => big k h) own (λ k h1 h2 => IC ⟨GX, by rw [hsz]; exact h2⟩);exact y.keeps (λ k hk hl => ho k (λ e => (pn _).1 (e ▸ hk))) (λ _ h _ => h)
   obtain ⟨t0, t1, t2, t3, c1, c2, b0, b1, b2, b3, n1, n2, n3⟩ := sa;have c1' := IU W4 p 10 _ dQ v ((hb4.block p (aa c1)).trans c1);have lm2 : m < W2.heap.size := GX
   have bk : ∀ {u : Value} {y : List UInt8}, BytesAt W2.heap (plus F W1.drew W2) u y -> BytesAt (W4.setCell ⟨p, 10, none⟩ v).heap (plus F w (W4.setCell ⟨p, 10, none⟩ v)) u y := λ h =>
    h.keeps (λ k hk hl => (ho k (λ e => n2 (e ▸ hk))).trans (hb4.block k hl)) (λ k hk hl => by
     rcases hk with hk | hk
     ·exact IB hk
     ·have : W1.heap.size <= k := hk.1
      exact IC ⟨GX, by rw [hsz]; omega⟩)
   refine aQ.of (ml := ml) (l0 := l0) (l1 := l1) (l2 := l2) (l3 := l3) (wv := v) (stops := stops) (after := after) ?_ ?_ ?_
   ·exact step_ok x.ok hs ht _ g5 g6 g3 rfl g1.stops g1.sN
   ·refine ⟨t0, t1, t2, t3, c1'.trans ?_, ?_, ?_, ?_, ?_, ?_, (pn _).2, (pn _).1, n3⟩
    ·simp only [g5, g6]
     simp [fZ]
    ·have : ({ d.goes.1 with waits := d.waits ++ [s] } : D).stand = d.stand.done s := by
      simp only [D.stand, Kr, g3]; rfl
     rw [this];exact c2.stays ((ho m n3).trans (hb4.block m lm2))
    all_goals
     have : ({ d.goes.1 with waits := d.waits ++ [s] } : D).stand = d.stand.done s := by
      simp only [D.stand, Kr, g3]; rfl
     rw [this];first | exact bk b0 | exact bk b1 | exact bk b2 | exact bk b3
   ·exact ⟨iW.hst, iW.tZ, iW.sec, iW.wI, iW.b0, iW.b1, iW.b2, iW.b3, st4⟩
 ·have hne0 : ¬ d.goes.2 = 0 := GX
  have e2 : d.step s = (d.goes.1, d.goes.2) := by unfold D.step; rw [IA hne0]
  rw [e2];refine (y6m p d.goes.2 a0 a1 a2 a3 a4 a5 a6 w _ h0 hg).mono ?_;rintro e w' ⟨rfl, hm1, hz1, hd1⟩;simp only [h0];refine ⟨trivial, ?_, hd1.weak (λ k h _ => IB h) (pn _).1 (pn _).2⟩;exact ⟨hm1.os, hm1.tape, hm1.output, by rw [hz1]; simp, λ k hk hn => (hm1.block k Oa (λ e => hn (IB e))).trans (hb0.block k hk)⟩
abbrev dH : Nat := 31
def DT (w : World) (v : Value) : Prop := v = .pointer none \/ ∃ p, v = .pointer (some ⟨p, 0, none⟩) /\ w.cell? ⟨p, 16, none⟩ = some (.bool false)
theorem DT.below (h : DT w v) (hb : Below w w w') : DT w' v := by
 rcases h with h | ⟨p, h1, h2⟩
 ·exact IB h
 ·exact IC ⟨p, h1, (hb.cell (p := ⟨p, 16, none⟩) (IZ h2)).trans h2⟩
theorem z7d (h : DT w v) : Calls prog 45 #[v] w λ e w' => e = .returned (.bool true) /\ w = w' := by
 rcases h with rfl | ⟨p, rfl, h⟩
 ·exact x2y w
 ·exact gW p false w h
theorem qU (h : BytesAt w.heap F v l) : (convert dH 9 v).run prog w = .ok (.string ⟨l.toArray⟩) w := by
 rcases h with ⟨rfl, rfl⟩ | ⟨b, o, cap, c, t, fr, rfl, h2, h3, g2, g3, g4⟩
 ·exact run_convert_bytes_nil w dH bV Ih Ij 0 0 9 Ie
 ·exact run_convert_bytes_back w dH 9 bV ⟨b, o, none⟩ cap l Ih Ij Ie (λ j hj => by
   rw [addr_add, IM _ _ _ _ _ _ g3, g4 j l[j] (by simp [hj])];rfl)
theorem BytesAt.below (h : BytesAt w.heap F v l) (hb : Below w w w') : BytesAt w'.heap F v l := h.keeps (λ k _ hl => hb.block k hl) (λ _ h _ => h)
theorem aQ.lQ {d : D} (x : aQ w.heap p m d F) : w.cell? (p, 16) = some (.bool true) /\ w.cell? (p, 11) = some (.int .i64 d.many) /\ w.cell? (p, 12) = some (.int .i64 d.room) /\ w.cell? (p, 13) = some (.bool d.dead) := by
 obtain ⟨ml, l0, l1, l2, l3, wv, stops, after, ⟨t0, t1, t2, t3, c1, _⟩, _⟩ := x.parts;refine ⟨?_, ?_, ?_, ?_⟩ <;> (rw [IM _ _ _ _ _ _ c1]; simp [fZ])
def Left (w : World) (p m : Nat) (F : Nat -> Prop) (r : D × Int) (e : Ending) (w' : World) : Prop :=
 e = .returned (.int .i64 r.2) /\ Moves (λ k => k = p \/ k = m) w w' /\ aQ w'.heap p m r.1 (plus F w w')
theorem aQ.plus {d : D} (x : aQ w.heap p m d F) (hb : Below w w w') : aQ w'.heap p m d (plus F w w') := by
 obtain ⟨l1, l2, l3, l4, l5⟩ := x.lt;exact (x.below hb).weak (λ _ h _ => IB h) (λ h => by rcases h with h | h; exact l4 h; omega) (λ h => by rcases h with h | h; exact l5 h; omega)
theorem wm {d : D} (x : aQ w.heap p m d F) (hb : Below w w w') : Left w p m F (d, c) (.returned (.int .i64 c)) w' :=
 ⟨rfl, Moves.of_below hb, x.plus hb⟩
theorem Gt {d : D} {r : D × Int} {e : Ending} (x : aQ w.heap p m d F) (hb : Below w w W) (h : Left W p m (plus F w W) r e w') : Left w p m F r e w' := by
 obtain ⟨l1, l2, l3, l4, l5⟩ := x.lt;obtain ⟨h1, h2, h3⟩ := h;have hs := hb.size;have hs2 := h2.size;refine ⟨h1, ⟨h2.os.trans hb.os, h2.tape.trans hb.tape, h2.output.trans hb.output, GX, λ k hk hn => (h2.block k GX hn).trans (hb.block k hk)⟩, h3.weak (λ k hk hl => ?_) ?_ ?_⟩
 ·exact Ps
 ·intro h; rcases h with h | h
  ·exact l4 h
  ·omega
 ·intro h; rcases h with h | h
  ·exact l5 h
  ·omega
section
open Go.Shelf
attribute [local go_sem] Oper.semAt_some
def ow (t0 t1 t2 t3 : Value) : List (Int × Value) := [(0, t0), (1, t1), (2, t2), (3, t3)]
def CW (x : Int × Value) : Array Value := #[.int .i64 x.1, x.2]
theorem w0q (q o : Nat) (w : World) : Calls prog 104 #[(q, o)] w λ e w' =>
 e = .returned (.func (.func 143) #[] #[.pointer (some w.heap.size)]) /\ w.alloc (.cells #[(q, o)] 117) = w' := by
 go_in;go_wp2;exact OI
abbrev y5a : Nat := 58
theorem vK (t0 t1 t2 t3 : Value) (k : Nat) (v : Value) (hk : #[t0, t1, t2, t3][k]? = some v) (W : World) : (Instr.index y5a (.agg #[t0, t1, t2, t3]) (.int .i64 (Int.ofNat k))).run prog W = .ok v W := by
 have hlt : k < 4 := by have := (Jk.1 hk).1; simpa using this
 have hs : (sizeOf dH).run prog W = .ok 1 W := GV;have hag : (isAgg dH).run prog W = .ok false W := GV;simp only [Instr.index, asIntOf, JI, JY, JJ, Ka underlying58];rw [IE ⟨GZ, by show (k : Int) < 4; omega⟩];simp only [JI, hs, JJ, part, hag, KJ, JS, Int.ofNat_eq_natCast, Ku, Nat.mul_one, hk, JY]
theorem w0o (g q o : Nat) (ho : o = 0 \/ o = 5) (t0 t1 t2 t3 : Value) (w : World) (hg : w.cell? g = some (.pointer (some (q, o)))) (h1 : w.cell? (q, o + 1) = some t0) (h2 : w.cell? (q, o + 2) = some t1)
 (h3 : w.cell? (q, o + 3) = some t2) (h4 : w.cell? (q, o + 4) = some t3) :
 Iter prog 143 #[.pointer (some g)] CW (ow t0 t1 t2 t3) (λ _ => False) w := by
 intro l J Jx W hW hJ hJx hY h0;have lt : q < w.heap.size := IZ h1;have ix0 := λ W => vK t0 t1 t2 t3 0 t0 rfl W;have ix1 := λ W => vK t0 t1 t2 t3 1 t1 rfl W;have ix2 := λ W => vK t0 t1 t2 t3 2 t2 rfl W;have ix3 := λ W => vK t0 t1 t2 t3 3 t3 rfl W;simp only [Int.ofNat_eq_natCast, Int.cast_ofNat_Int] at ix0 ix1 ix2 ix3;have f0 := (hW.cell (p := ⟨g, 0, none⟩) (IZ hg)).trans hg;rcases ho with rfl | rfl
 all_goals
  have f1 := (hW.cell (p := ⟨q, _, none⟩) lt).trans h1;have f2 := (hW.cell (p := ⟨q, _, none⟩) lt).trans h2;have f3 := (hW.cell (p := ⟨q, _, none⟩) lt).trans h3;have f4 := (hW.cell (p := ⟨q, _, none⟩) lt).trans h4;simp only [Ja, Nat.reduceAdd] at f1 f2 f3 f4;clear h1 h2 h3 h4 hg;refine Lu func143 rfl trivial ?_ rfl;simp only [ntmps143, Kl, I8, Jw, Nat.reduceAdd, Nat.reduceSub, J3, J4, J5, J6, Jj, JG];gi_wp2;refine Ei (El ?_);gi_wp2;gi_loopw [9] (λ p wr => ∃ k : Nat, p = .int .i64 (k : Int) /\ k <= 4 /\ J k (λ _ => False) wr) (λ p _ => 5 - (intOf p).toNat)
  case atStart => exact ⟨0, rfl, GX, h0⟩
  case round =>
   obtain ⟨k, rfl, hk, qf⟩ := hrel;by_cases hlt : k < 4
   ·obtain rfl | rfl | rfl | rfl : k = 0 \/ k = 1 \/ k = 2 \/ k = 3 := GX
    all_goals
     obtain ⟨fn, tmps, assign, body, hy, hR⟩ := hY _ _ _ wr rfl qf;simp only [CW] at hy;gi_wp2;refine ⟨rfl, hR.mono ?_⟩;rintro e W' (⟨rfl, hJ', hk'⟩ | ⟨rfl, rH, hk'⟩)
     ·gi_wp2
      first
       | exact ⟨⟨1, rfl, GY, hJ'⟩, by simp [intOf]⟩
       | exact ⟨⟨2, rfl, GY, hJ'⟩, by simp [intOf]⟩
       | exact ⟨⟨3, rfl, GY, hJ'⟩, by simp [intOf]⟩
       | exact ⟨⟨4, rfl, GY, hJ'⟩, by simp [intOf]⟩
     ·gi_wp2
      simp +zetaDelta only [KR]; refine Kv (Kw rfl _ _ _) rfl ?_
      first
       | exact ⟨⟨_, rfl⟩, _, .inr ⟨1, by simp [ow], rH⟩⟩
       | exact ⟨⟨_, rfl⟩, _, .inr ⟨2, by simp [ow], rH⟩⟩
       | exact ⟨⟨_, rfl⟩, _, .inr ⟨3, by simp [ow], rH⟩⟩
       | exact ⟨⟨_, rfl⟩, _, .inr ⟨4, by simp [ow], rH⟩⟩
   ·obtain rfl : k = 4 := GX
    gi_wp2;simp +zetaDelta only [KR]; refine Kv (Kw rfl _ _ _) rfl ?_;exact ⟨⟨_, rfl⟩, _, .inl qf⟩
end
section
open Go.Shelf
attribute [local go_sem] Oper.semAt_some
theorem Fg {fn : Func} {p : Tmp} {ty : TypeId} (h : fn.results = #[.cell p ty]) (tmps : Array Value) (w : World) (a : Addr) (v : Value) (hp : tmps.getD p undef = .pointer (some a)) (hc : w.cell? a = some v)
 (hi : (isAgg ty).run prog w = .ok false w) : (results fn tmps).run prog w = .ok v w := by
 have hp' : tmps[p]?.getD undef = .pointer (some a) := by simpa using hp
 simp [results, h, hp', asAddr, loadVar, hi, hc]
def zL (w : World) (ns : List Nat) (k : Nat) (O : Nat -> Prop) (W' : World) : Prop :=
 Below w.heap.size w W' /\ W'.heap[w.heap.size]? = some (.cells #[.int .i64 ((ns.take k).sum : Nat)] 3 (0, 0)) /\ (∀ i, O i -> w.heap.size + 4 <= i) /\ w.heap.size + 4 <= W'.heap.size
theorem y4f {ns : List Nat} {k : Nat} {O' : Nat -> Prop} (h : zL w ns k O A) (hm : Moves O A B) (ho : ∀ i, O' i -> O i \/ A.heap.size <= i) : zL w ns k O' B := by
 obtain ⟨h1, h2, h6, h7⟩ := h;refine ⟨⟨hm.os.trans h1.os, hm.tape.trans h1.tape, hm.output.trans h1.output, IV h1.size hm.size, λ i hi => ?_⟩, (hm.block _ GX (λ e => Hm (h6 _ e))).trans h2, λ i hi => ?_, IV h7 hm.size⟩
 ·exact Ru
 ·exact Sk
theorem y4g {ns : List Nat} {k : Nat} (h : zL w ns k O A) (d : Nat) (hd : w.heap.size + 1 <= d) (o : Obj) : zL w ns k O (A.putObj d o) := by
 obtain ⟨h1, h2, h6, h7⟩ := h;exact ⟨⟨h1.os, h1.tape, h1.output, by simpa using h1.size, λ i hi => (Jf GX).trans (h1.block i hi)⟩, (Jf GX).trans h2, h6, by simpa using h7⟩
theorem y4h (q o : Nat) (ho : o = 0 \/ o = 5) (a0 a1 a2 a3 : Option Addr) (n0 n1 n2 n3 c0 c1 c2 c3 : Nat) (hn : n0 + n1 + n2 + n3 <= 9223372036854775807) (w : World) (h1 : w.cell? (q, o + 1) = some (.slice a0 n0 c0)) (h2 : w.cell? (q, o + 2) = some (.slice a1 n1 c1))
 (h3 : w.cell? (q, o + 3) = some (.slice a2 n2 c2)) (h4 : w.cell? (q, o + 4) = some (.slice a3 n3 c3)) :
 Calls prog 97 #[(q, o)] w λ e w' => e = .returned (.int .i64 ((n0 + n1 + n2 + n3 : Nat) : Int)) /\ Below w w w' := by
 have lt : q < w.heap.size := IZ h1;have hb0 : Below w w (w.alloc (.cells #[.int .i64 0] 3)) := bla;have hb : Below w w ((w.alloc (.cells #[.int .i64 0] 3)).alloc (.cells #[(q, o)] 117)) := hb0.alloc GZ _;have r0 : ((w.alloc (.cells #[.int .i64 0] 3)).alloc (.cells #[(q, o)] 117)).heap[w.heap.size]? = some (.cells #[.int .i64 0] 3) := (JN _ _ _ GZ).trans (II w _);have k0 : ((w.alloc (.cells #[.int .i64 0] 3)).alloc (.cells #[(q, o)] 117)).cell? (w.heap.size + 1, 0) = some (.pointer (some (q, o))) := (IM _ _ _ _ _ _ (bC (w := w.alloc (.cells #[.int .i64 0] 3)) _ GZ)).trans rfl;have IT := hd1 (w0o (w.heap.size + 1) q o ho _ _ _ _ _ k0 ((hb.cell (p := ⟨q, _, none⟩) lt).trans h1) ((hb.cell (p := ⟨q, _, none⟩) lt).trans h2) ((hb.cell (p := ⟨q, _, none⟩) lt).trans h3) ((hb.cell (p := ⟨q, _, none⟩) lt).trans h4));have R0 := hd1 r0;clear h1 h2 h3 h4 r0 k0;refine (Ji (n := 0)).1 ?_;refine Lv func97 rfl trivial ?_ rfl;simp only [ntmps97, Kl, I8, Jw, Nat.reduceAdd, Nat.reduceSub, J3, J4, J5, J6, Jj, JG];gi_wp2_with (refine ⟨trivial, rfl, ?_⟩; gi_at_call 104; refine (Ji.2 (w0q q o _)).mono ?_; rintro e w' ⟨rfl, rfl⟩)
 refine Ej (gf := 143) (lb := #[.pointer (some ⟨w.heap.size + 1, 0, none⟩)]) (encs := CW) (xs := ow (.slice a0 n0 c0) (.slice a1 n1 c1) (.slice a2 n2 c2) (.slice a3 n3 c3)) (R := λ _ => False) rfl (enters_of func143 GV rfl) IT.out (λ _ h => h.elim)
  G6 (λ _ => rfl) (zL w [n0, n1, n2, n3]) (λ _ _ _ _ => False) (λ k O O' A B h hm _ ho => y4f h hm ho) (λ _ _ _ _ _ _ h _ _ _ => h) ?lJ (λ _ _ _ _ _ _ _ h => h) ?h0
  (λ x a' _ => a' = { tmps := #[.pointer (some ⟨q, o, none⟩), undef, .pointer (some ⟨w.heap.size, 0, none⟩), undef, x.2, .pointer (some ⟨q, o, none⟩), .func (.func 143) #[] #[.pointer (some ⟨w.heap.size + 1, 0, none⟩)], .int .i64 x.1, x.2, undef, undef, undef, undef, undef], defers := [] }) (λ _ _ _ _ _ _ _ h => h) ?assign ?body ?done ?stop
 case lJ =>
  intro k O r o W' _ h;exact y4g h _ Nn o
 case h0 =>
  intro W' hb' hs;simp only [Jm] at hb' hs;refine ⟨hb.trans (hb'.mono GX), (hb'.block _ GX).trans R0.out, λ i h => h.elim, GX⟩
 case assign =>
  rintro k ⟨x1, x2⟩ O W' hx hi _ _ _;simp only [CW];gi_wp2;exact ⟨hi, di.refl _ _, trivial⟩
 case body =>
  rintro k x O a' W' hx hl hd hol hod hi rfl;clear hl hd;simp only [Jm] at hol hod ⊢;have hk : k < 4 := by
   have := (I4.1 hx).1;simpa [ow] using this
  obtain ⟨h1, h2, h6, h7⟩ := hi;obtain ⟨a, n, c, hx2, hs⟩ : ∃ a n c, x.2 = .slice a n c /\ ([n0, n1, n2, n3].take (k + 1)).sum = ([n0, n1, n2, n3].take k).sum + n /\ ([n0, n1, n2, n3].take k).sum + n <= 9223372036854775807 := by
   have kk : k = 0 \/ k = 1 \/ k = 2 \/ k = 3 := GX;rcases kk with rfl | rfl | rfl | rfl <;> (simp only [ow, List.getElem?_cons_zero, List.getElem?_cons_succ, JC] at hx; subst hx; refine ⟨_, _, _, rfl, ?_, ?_⟩ <;> simp [List.take] <;> omega)
  rw [hx2];have e1 : IntKind.i64.wrap ((([n0, n1, n2, n3].take k).sum : Nat) + (n : Int)) = (([n0, n1, n2, n3].take (k + 1)).sum : Nat) := by
   rw [hs.1];exact Jd _ GX
  have c1 : W'.cell? w.heap.size = some (.int .i64 (([n0, n1, n2, n3].take k).sum : Nat)) := (IM _ _ _ _ _ _ h2).trans rfl;have z1 : W'.frozen? ⟨w.heap.size, 0, none⟩ = false := by simp [World.frozen?, h2]
  have HH := hd5 h1 h2 h6 h7 hs;generalize (([n0, n1, n2, n3].take k).sum : Nat) = s0 at *;generalize hs1 : (([n0, n1, n2, n3].take (k + 1)).sum : Nat) = s1 at *;clear h1 h2 h6 h7 hs;gi_wp2;obtain ⟨h1, h2, h6, h7, hs⟩ := HH.out;have other : ∀ i, i ≠ w.heap.size -> (W'.setCell w.heap.size (.int .i64 (s1 : Int))).heap[i]? = W'.heap[i]? := λ i hi => IW W' _ i _ hi;refine ⟨⟨GZ, λ i hi _ => other i ?_⟩, ⟨h1.os, h1.tape, h1.output, by simpa using h1.size, λ i hi => (other i GX).trans (h1.block i hi)⟩, ?_, h6, by simpa using h7⟩
  ·rcases hi with h | h | h | h
   ·have := h6 i h; omega
   ·exact h.elim
   ·omega
   ·omega
  ·have := IU W' w.heap.size 0 _ _ (.int .i64 (s1 : Int)) h2
   rw [hs1]; exact this
 case done =>
  intro O W2 hi _ hD;simp only [Jm] at hD;obtain ⟨h1, h2, h6, h7⟩ := hi;have e4 : ((List.take (ow (.slice a0 n0 c0) (.slice a1 n1 c1) (.slice a2 n2 c2) (.slice a3 n3 c3)).length [n0, n1, n2, n3]).sum : Nat) = n0 + n1 + n2 + n3 := by simp [ow]; omega
  rw [e4] at h2;generalize hnn : n0 + n1 + n2 + n3 = n at *;have k1 : W2.cell? w.heap.size = some (.int .i64 (n : Int)) := (IM _ _ _ _ _ _ h2).trans rfl;have z1 : W2.frozen? ⟨w.heap.size, 0, none⟩ = false := by simp [World.frozen?, h2]
  have other : ∀ i, i ≠ w.heap.size -> (W2.setCell w.heap.size (.int .i64 (n : Int))).heap[i]? = W2.heap[i]? := λ i hi => IW W2 _ i _ hi;have hD' := (other (w.heap.size + 1 + 1) GX).trans hD;have hr : (W2.setCell w.heap.size (.int .i64 (n : Int))).heap[w.heap.size]? = some (.cells #[(n : Int)] 3) := IU W2 w.heap.size 0 _ _ (.int .i64 (n : Int)) h2;have hr' : ((W2.setCell w.heap.size (.int .i64 (n : Int))).putObj (w.heap.size + 1 + 1) (.deferred none)).heap[w.heap.size]? = some (.cells #[(n : Int)] 3) := (Jf GX).trans hr
  have hbb : Below w w ((W2.setCell w.heap.size (.int .i64 (n : Int))).putObj (w.heap.size + 1 + 1) (.deferred none)) :=
   ⟨h1.os, h1.tape, h1.output, by simpa using h1.size, λ i hi => (Jf GX).trans ((other i GX).trans (h1.block i hi))⟩
  have HI := hd3 hr' hbb hD';clear h1 h2 h6 h7 other hD' hr hr' hbb hD;gi_wp2;simp only [Jm];exact wo HI.2.2 (Fg rfl _ _ ⟨w.heap.size, 0, none⟩ _ rfl ((IM _ _ _ _ _ _ HI.1).trans rfl) GV) ⟨by rw [hnn]; rfl, HI.2.1⟩
 case stop =>
  intro c k O W' hkx h;exact h.elim
end
theorem BytesAt.slice {h : Array Obj} (x : BytesAt h F v l) : ∃ a c, v = .slice a l.length c := by
 rcases x with ⟨rfl, rfl⟩ | ⟨b, o, cap, c, t, fr, rfl, _⟩
 ·exact ⟨_, _, rfl⟩
 ·exact ⟨_, _, rfl⟩
theorem Dk (x : BytesAt w.heap G v l) (hl : l.length <= 1099511627776) : Calls prog 98 #[v] w (z2u w l) := by
 rcases x with ⟨rfl, rfl⟩ | ⟨b, o, cap, c, t, fr, rfl, h2, h3, g2, g3, g4⟩
 ·refine (y1s w).mono ?_
  exact Qr
 ·exact x8r b o cap l w hl (λ i x hi => (IM _ _ _ _ _ _ g3).trans (g4 i x hi))
theorem y4i {d : D} (x : aQ w.heap p m d F) : Calls prog 97 #[p] w λ e w' => e = .returned (.int .i64 d.stand.used) /\ Below w w w' := by
 have hok := x.ok;have b : ∀ t, ((d.stand.tp t).length : Int) <= 1048576 := λ t => Int.le_trans (by exact_mod_cast kK hok t) hok.fE;have b0 := b 0;have b1 := b 1;have b2 := b 2;have b3 := b 3;obtain ⟨t0, t1, t2, t3, ml, l0, l1, l2, l3, wv, stops, after, c1, _, _, _, _, _, _, _, _, s0, s1, s2, s3, _⟩ := x.cells;obtain ⟨a0, e0, rfl⟩ := s0.slice;obtain ⟨a1, e1, rfl⟩ := s1.slice;obtain ⟨a2, e2, rfl⟩ := s2.slice;obtain ⟨a3, e3, rfl⟩ := s3.slice;refine (y4h p 0 (IB rfl) a0 a1 a2 a3 (d.stand.tp 0).length (d.stand.tp 1).length (d.stand.tp 2).length (d.stand.tp 3).length e0 e1 e2 e3 GX w ?_ ?_ ?_ ?_).mono ?_
 ·exact RP
 ·exact RP
 ·exact RP
 ·exact RP
 ·rintro e w' ⟨rfl, hb⟩
  refine ⟨?_, hb⟩;unfold St.used;simp
theorem x9a (p : Nat) (bv : Value) (n : Int) (w : World) (h : w.cell? (p, 16) = some (.bool true)) (hn : n < 0 \/ 4 <= n) :
 Calls prog 59 #[p, .int .i64 n, bv] w λ e w' => e = .returned (.int .i64 4) /\ Below w w w' := by
 have hb : Below w w (w.alloc (.cells #[.int .i64 n] 3)) := bla;have h' := (hb.cell (p := ⟨p, 16, none⟩) (IZ h)).trans h;by_cases hn0 : n < 0
 all_goals
  have hn2 : ¬ n < 0 -> 4 <= n := λ h => GX;simp only [hn0, not_true_eq_false, Lx, forall_const, false_implies] at hn2;go_in;go_wp2_with (go_at_call 45; refine (gW p true _ h').mono ?_; rintro e w' ⟨rfl, rfl⟩)
  go_ret;exact ⟨rfl, hb⟩
theorem w0y (p l c : Nat) (a : Option Addr) (n room u : Int) (w : World) (h : w.cell? (p, 16) = some (.bool true)) (h2 : w.cell? (p, 12) = some (.int .i64 room)) (hn0 : 0 <= n) (hn1 : n < 4) (hu0 : 0 <= u) (hu1 : u <= 4194304) (hl : l <= 1099511627776) (hf : u + l > room)
 (hU : ∀ W, Below w w W -> Calls prog 97 #[p] W λ e w' => e = .returned (.int .i64 u) /\ Below W W w') :
 Calls prog 59 #[p, .int .i64 n, .slice a l c] w λ e w' => e = .returned (.int .i64 280) /\ Below w w w' := by
 have hb : Below w w (w.alloc (.cells #[.int .i64 n] 3)) := bla;have lt : p < w.heap.size := IZ h;have h' := (hb.cell (p := ⟨p, 16, none⟩) lt).trans h;have hw : IntKind.i64.wrap (u + (l : Int)) = u + (l : Int) := Jd _ GX;have nlt : ¬ n < 0 := GX;have nge : ¬ 4 <= n := GX;have gt : room < u + (l : Int) := hf;have HU := hd1 hU;clear hU hf;have ne : Nonempty (Wd (Below w w)) := ⟨⟨w, Below.refl _ _⟩⟩;have x2 : ∀ x : Wd (Below w w), x.world.cell? (p, 12) = some (.int .i64 room) := λ x => (x.ok.cell (p := ⟨p, 12, none⟩) lt).trans h2;go_in;go_wp2_with (go_at_call 45; refine (gW p true _ h').mono ?_; rintro e w' ⟨rfl, rfl⟩)
 refine bD (λ w' => ∃ x : Wd (Below w w), w' = x.world) [] GV ?_;refine aL [0, 1, 2, 4, 5, 7, 8, 9, 10] 4 _ ⟨⟨_, hb.drew⟩, rfl⟩ GV ?_;refine Hd ?_;refine aA 3 3 _ _ rfl GV ?_;refine IJ rfl λ K hK => ?_;go_simp;go_at_call 97;refine (HU.out _ hb.drew).mono ?_;rintro e W1 ⟨rfl, hb1⟩;have hb2 := hb.drew.trans (hb1.mono GZ);refine hK _ _ (IG ⟨rfl, λ _ => ⟨⟨_, hb2⟩, rfl⟩, ?_⟩);clear hK K;refine aL [6, 11, 12] 0 _ ⟨⟨_, hb2⟩, rfl⟩ GV ?_;refine Hd ?_;refine ⟨GV, ?_⟩;go_wp2;go_ret;exact ⟨rfl, hb2⟩
theorem w0z (p l c : Nat) (a : Option Addr) (n room u : Int) (bs : List UInt8) (w : World) (R : Ending -> World -> Prop) (h : w.cell? (p, 16) = some (.bool true)) (h2 : w.cell? (p, 12) = some (.int .i64 room)) (hn0 : 0 <= n) (hn1 : n < 4) (hu0 : 0 <= u) (hu1 : u <= 4194304) (hl : l <= 1099511627776) (hf : ¬ u + l > room)
 (hU : ∀ W, Below w w W -> Calls prog 97 #[p] W λ e w' => e = .returned (.int .i64 u) /\ Below W W w')
 (F : Nat -> Prop) (hv : BytesAt w.heap F (.slice a l c) bs)
 (hR : ∀ W g v, Below w w W -> w.heap.size < g -> W.heap[w.heap.size]? = some (.cells #[.int .i64 n] 3) -> W.heap[g]? = some (.cells #[v] dH) -> W.heap[g + 1]? = some (.cells #[.int .i64 n] 3) -> W.heap[g + 2]? = some (.cells #[v] dH) -> W.heap.size = g + 3 -> BytesAt W.heap (λ k => w.heap.size <= k) v bs ->
  Calls prog 99 #[.pointer (some p), .agg #[.func (.func 142) #[] #[.pointer (some ⟨g + 1, 0, none⟩), .pointer (some ⟨g + 2, 0, none⟩)],
   .func (.func 101) #[] #[.pointer (some w.heap.size), .pointer (some ⟨g, 0, none⟩)], .int .i64 n, .int .i64 2, .int .i64 n, .int .i64 0, .string ⟨bs.toArray⟩]] W λ e w' => ∃ k, e = .returned (.int .i64 k) /\ R e w') :
 Calls prog 59 #[p, .int .i64 n, .slice a l c] w R := by
 have hb : Below w w (w.alloc (.cells #[.int .i64 n] 3)) := bla;have lt : p < w.heap.size := IZ h;have h' := (hb.cell (p := ⟨p, 16, none⟩) lt).trans h;have r0 : (w.alloc (.cells #[.int .i64 n] 3)).heap[w.heap.size]? = some (.cells #[.int .i64 n] 3) := II w _;have hw : IntKind.i64.wrap (u + (l : Int)) = u + (l : Int) := Jd _ GX;have nlt : ¬ n < 0 := GX;have nge : ¬ 4 <= n := GX;have gt : ¬ room < u + (l : Int) := hf;have hlen : bs.length = l := by
  rcases hv with ⟨h1, rfl⟩ | ⟨b', o', cap', cc, t, fr, h1, _⟩
  ·simp only [Value.slice.injEq] at h1; simp [h1.2.1]
  ·simp only [Value.slice.injEq] at h1; exact h1.2.1.symm
 have HU := hd1 hU;have HV := hd1 hv;have HR := hd1 hR;have HB := hd4 hb r0 hlen hl;clear hU hf hv hR r0 hlen;have ne : Nonempty (Wd (Below w w)) := ⟨⟨w, Below.refl _ _⟩⟩;have x2 : ∀ x : Wd (Below w w), x.world.cell? (p, 12) = some (.int .i64 room) := λ x => (x.ok.cell (p := ⟨p, 12, none⟩) lt).trans h2;go_in;go_wp2_with (go_at_call 45; refine (gW p true _ h').mono ?_; rintro e w' ⟨rfl, rfl⟩)
 refine bD (λ w' => ∃ x : Wd (Below w w), w' = x.world) [] GV ?_;refine aL [0, 1, 2, 4, 5, 7, 8, 9, 10] 4 _ ⟨⟨_, hb.drew⟩, rfl⟩ GV ?_;refine Hd ?_;refine aA 3 3 _ _ rfl GV ?_;refine IJ rfl λ K hK => ?_;go_simp;go_at_call 97;refine (HU.out _ hb.drew).mono ?_;rintro e W1 ⟨rfl, hb1⟩;have hb2 := hb.drew.trans (hb1.mono GZ);refine hK _ _ (IG ⟨rfl, λ _ => ⟨⟨_, hb2⟩, rfl⟩, ?_⟩);clear hK K;refine aL [6, 11, 12] 0 _ ⟨⟨_, hb2⟩, rfl⟩ GV ?_;refine Hd ?_;refine ⟨GV, ?_⟩;have s1 : w.heap.size < W1.heap.size := by have := hb1.size; simp at this; omega
 have r1 : W1.heap[w.heap.size]? = some (.cells #[.int .i64 n] 3) := (hb1.block w.heap.size GZ).trans HB.2.1;have H1 := hd3 hb2 s1 r1;clear hb1 hb2 s1 r1 hb x2 ne h2 h'
 go_wp2_with (go_at_call 98
              refine (Dk (HV.below H1.1) (by rw [HB.2.2.1]; exact HB.2.2.2)).mono ?_;rintro e W2 ⟨v, rfl, hb2, hv2⟩;obtain ⟨a2, c2, rfl⟩ := hv2.slice)
 clear gt nlt nge hw;have hb3 : Below w w (W2.alloc (.cells #[.slice a2 bs.length c2] dH)) := (H1.1.trans (hb2.mono (Hm H1.2.1))).alloc (Ho H1.2.1 hb2.size) _;have s2 : w.heap.size < W2.heap.size := Ho H1.2.1 hb2.size;have r2 : W2.heap[w.heap.size]? = some (.cells #[.int .i64 n] 3) := (hb2.block _ H1.2.1).trans H1.2.2;have r3 : (W2.alloc (.cells #[.slice a2 bs.length c2] dH)).heap[w.heap.size]? = some (.cells #[.int .i64 n] 3) := aM s2 r2;have r4 : (W2.alloc (.cells #[.slice a2 bs.length c2] dH)).heap[W2.heap.size]? = some (.cells #[.slice a2 bs.length c2] dH) := bC _ rfl;obtain ⟨W3, hW3⟩ := G8 (W2.alloc (.cells #[.slice a2 bs.length c2] dH));have s3 : W3.heap.size = W2.heap.size + 1 := by rw [<-hW3]; simp
 have hv3 : BytesAt W3.heap (λ k => w.heap.size <= k) (.slice a2 bs.length c2) bs := by
  rw [<-hW3];exact hv2.keeps (λ k _ hk => heap_old_own _ _ _ hk) (λ k hk _ => by have := H1.2.1; show w.heap.size <= k; have hk' : W1.heap.size <= k := hk; omega)
 simp only [dH] at hW3;rw [hW3] at hb3 r3 r4 ⊢;clear hW3 hv2 hb2 r2;have x1 : ∀ x : Wd (Below W3 W3), x.world.cell? w.heap.size = some (.int .i64 n) := λ x => (x.ok.cell (p := ⟨w.heap.size, 0, none⟩) (aa r3)).trans ((IM _ _ _ _ _ _ r3).trans rfl);have x2 : ∀ x : Wd (Below W3 W3), x.world.cell? W2.heap.size = some (.slice a2 bs.length c2) := λ x => (x.ok.cell (p := ⟨W2.heap.size, 0, none⟩) (aa r4)).trans ((IM _ _ _ _ _ _ r4).trans rfl);have x3 : ∀ x : Wd (Below W3 W3), (convert dH 9 (.slice a l c)).run prog x.world = .ok (.string ⟨bs.toArray⟩) x.world := λ x => qU (HV.below (hb3.trans (x.ok.mono GX)));have ne : Nonempty (Wd (Below W3 W3)) := ⟨⟨W3, Below.refl _ _⟩⟩;have H3 := hd5 hb3 r3 r4 hv3 s3;clear hb3 r3 r4 hv3 s3;refine bD (λ w' => ∃ x : Wd (Below W3 W3), w' = x.world) [11, 12] GV ?_;refine aL [0, 1, 2, 4, 5, 6, 7, 8, 9] 4 _ Hu GV ?_;refine Hd ?_;refine aA 3 3 _ _ rfl GV ?_;refine IJ rfl λ K hK => ?_;go_simp;go_at_call 100;refine (z1h _ _ _ _ _).mono ?_;rintro e w' ⟨rfl, rfl⟩;refine hK _ _ (IG ⟨rfl, λ _ => ⟨⟨_, ((G6.drew).alloc G7 _).alloc GZ _⟩, rfl⟩, ?_⟩);clear hK K;refine aL [10] 2 _ ⟨⟨_, ((G6.drew).alloc G7 _).alloc GZ _⟩, rfl⟩ GV ?_;refine Hd ?_;refine aA 11 1 _ _ rfl GV ?_;refine IJ rfl λ K hK => ?_;go_simp;go_at_call 99;have hz3 := H3.2.2.2.2;rw [hz3];have hbb : Below W3 W3 ((W3.alloc (.cells #[.int .i64 n] 3)).alloc (.cells #[.slice a2 bs.length c2] dH)).drew := ((bla).alloc GZ _).drew;refine (HR.out _ W2.heap.size (.slice a2 bs.length c2) (H3.1.trans (hbb.mono GX)) s2 ((hbb.block _ (aa H3.2.1)).trans H3.2.1) ((hbb.block _ GX).trans H3.2.2.1) ?_ ?_ ?_ ?_).mono ?_
 ·exact (aM (w := W3.alloc (.cells #[.int .i64 n] 3)) Oa (bC (w := W3) _ hz3.symm))
 ·exact bC (w := W3.alloc (.cells #[.int .i64 n] 3)) _ Oa
 ·show ((W3.alloc (.cells #[.int .i64 n] 3)).alloc (.cells #[.slice a2 bs.length c2] dH)).heap.size = _
  simp; omega
 ·exact H3.2.2.2.1.keeps (λ k _ hk => hbb.block k hk) (λ _ h _ => h)
 rintro e w' ⟨k, rfl, hr⟩;refine hK _ _ (IG ⟨rfl, λ h => absurd GY h, ?_⟩);clear hK K;refine aA 12 0 _ _ rfl GV ?_;refine IJ rfl λ K hK => ?_;go_simp;refine hK _ _ (IG ⟨rfl, λ h => absurd GY h, GV, ?_⟩);clear hK K;go_wp2;exact hr
end Go.Proofs.YtgffifleflkjoaaGreat
