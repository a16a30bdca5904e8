/-
  Parts of a proof.
-/
import Derived.Test.YtgffifleflkjoaaGreatFin19
import Derived.Test.YtgffifleflkjoaaGreatFin23
set_option linter.unusedSimpArgs false
set_option linter.unusedVariables false
set_option maxRecDepth 100000
set_option maxHeartbeats 16000000
namespace Go.Proofs.YtgffifleflkjoaaGreat
open _root_.Go.Proofs.Tryz
variable {w W w' w0 wr w1 W0 W1 W2 A B : World} {F G F' O : Nat → Prop} {v : Value} {l : List UInt8} {n q m pd md pl g p : Nat} {C : Array Value} {c : Int}
open Go.RowKit Dm
theorem y7s {sv t0 t1 t2 t3 : Value} {x : St} {many : Int} (r : RB w.heap F sv t0 t1 t2 t3 x many) (hx : ∀ t, (x.tp t).length <= 1048576) :
 Calls prog 87 #[.agg #[sv, t0, t1, t2, t3]] w λ e w' => e = .returned (.int .i64 x.used) /\ Below w w w' := by
 obtain ⟨secs, s1, s2, b0, b1, b2, b3⟩ := r;obtain ⟨a0, c0, rfl⟩ := b0.slice;obtain ⟨a1, c1, rfl⟩ := b1.slice;obtain ⟨a2, c2, rfl⟩ := b2.slice;obtain ⟨a3, c3, rfl⟩ := b3.slice;have h0 := hx 0;have h1 := hx 1;have h2 := hx 2;have h3 := hx 3;have hu : x.used = ((x.tp 0).length : Int) + (x.tp 1).length + (x.tp 2).length + (x.tp 3).length := rfl;rw [hu];clear hu hx b0 b1 b2 b3 s1 s2;generalize (x.tp 0).length = n0 at *;generalize (x.tp 1).length = n1 at *;generalize (x.tp 2).length = n2 at *;generalize (x.tp 3).length = n3 at *;go_in;go_wp2;go_ret;exact ⟨rfl, bla⟩
theorem results_cell_tmp {P : Program} {fn : Func} {p q : Tmp} {ty : TypeId} (h : fn.results = #[.cell p ty, .tmp q]) (tmps : Array Value) (w : World) (g : Nat) (t : TypeId) (cs : Array Value) (fr : Nat × Nat) (d : TypeDesc) (v : Value)
 (hp : tmps.getD p undef = .pointer (some g)) (hq : tmps.getD q undef = v) (hg : w.heap[g]? = some (.cells cs t fr))
 (hu : P.underlying ty = some d) (hd : (match d with | .struct _ | .array _ _ => true | _ => false) = true) (hi : (P.info? ty).map (·.size) = some cs.size) :
 (results fn tmps).run P w = .ok (.tuple #[.agg cs, v]) w := by
 exact PZ
theorem aH : (prog.info? af).map (·.size) = some 10 := GQ
def gK (w : World) (F : Nat -> Prop) (r : D × Int) (e : Ending) (w' : World) : Prop :=
 ∃ v, e = .returned (.tuple #[v, .int .i64 r.2]) /\ Below w.heap.size w w' /\ bR w'.heap (plus F w w') v r.1
abbrev bV : Array Value := #[.int .i64 0, .int .i64 0, .slice none 0 0, .slice none 0 0, .slice none 0 0, .slice none 0 0, .slice none 0 0, .slice none 0 0, .bool false, .int .i64 0]
theorem y7w (many : Int) : qi [] (λ _ => zeros) many := ⟨(λ e he => by cases he), (λ _ _ => rfl), GV⟩
theorem y8g (s b : Int) (w : World) (F : Nat -> Prop) (h : BD s b = 0) : Calls prog 20 #[.int .i64 s, .int .i64 b] w (gK w F (Dm.new s b, 0)) := by
 have hh : ¬ (s < 0 \/ s > 4096 \/ b < 0 \/ b > 1048576) := by
  intro hh;unfold BD at h;rw [IA hh] at h;cases h
 have h1 : ¬ s < 0 := GR;have h2 : ¬ 4096 < s := GR;have h3 : ¬ b < 0 := GR;have h4 : ¬ 1048576 < b := GR;clear hh h;go_in
 go_wp2_with (refine aC rfl af _ _ rfl w.heap.size (dC s b (.slice none 0 0) (.slice none 0 0) (.slice none 0 0) (.slice none 0 0) (.slice none 0 0) (.slice none 0 0) false (-1)) rfl rfl af bV (IC w _) aH rfl GQ ?_
              intro W1 HW1 dH j_)
 refine IK (results_cell_tmp rfl _ _ w.heap.size _ _ _ _ (.int .i64 0) rfl rfl HW1.out Hu rfl aH) rfl ?_;refine ⟨_, rfl, Moves.new (bla) dH GZ, .slice none 0 0, .slice none 0 0, .slice none 0 0, .slice none 0 0, .slice none 0 0, .slice none 0 0, rfl, ⟨[], Iy ⟨rfl, rfl⟩, y7w _, Iy ⟨rfl, rfl⟩, Iy ⟨rfl, rfl⟩, Iy ⟨rfl, rfl⟩, Iy ⟨rfl, rfl⟩⟩, Iy ⟨rfl, rfl⟩⟩
theorem mZ {h : Array Obj} {sv t0 t1 t2 t3 wv : Value} {x : St} {many : Int} {l : List Step} (r : RB h F sv t0 t1 t2 t3 x many) (st : iE h F wv l) (m' room : Int) (dead : Bool) (stops : Int) : (dC m' room sv t0 t1 t2 t3 wv dead stops).all (·.oneCell') = true := by
 obtain ⟨secs, s1, s2, b0, b1, b2, b3⟩ := r;simp [dC, s1.one, b0.one, b1.one, b2.one, b3.one, st.one];simp [Value.oneCell']
abbrev jQ (w : World) (C : Array Value) : World := (w.alloc (.cells C af)).alloc (.cells bV af)
theorem Fu (w : World) (C : Array Value) : Below w w (jQ w C) /\ (jQ w C).heap[w.heap.size]? = some (.cells C af) /\ (jQ w C).heap[w.heap.size + 1]? = some (.cells bV af) /\ (jQ w C).heap.size = w.heap.size + 2 :=
 ⟨(bla).alloc GV _, aM GV (IC w _), bD (w := w.alloc _) _ GV, GV⟩
theorem z6j {d : D} {sv t0 t1 t2 t3 wv : Value} (rb : RB w.heap F sv t0 t1 t2 t3 d.lasts d.many) (st : iE w.heap F wv d.waits) (hb : Below w w w') (dead : Bool) (stops : Int) (d' : D) (ed : d' = { d with dead := dead, stops := stops }) : bR w'.heap (plus F w w') (.agg (dC d.many d.room sv t0 t1 t2 t3 wv dead stops)) d' := by
 subst ed;exact ⟨sv, t0, t1, t2, t3, wv, rfl, rb.plus hb, st.plus hb⟩
theorem z6t {d : D} (hr : bR w.heap F v d) (ok : d.ok) : Calls prog 91 #[v] w (gK w F d.goes) := by
 obtain ⟨sv, t0, t1, t2, t3, wv, rfl, rb, st⟩ := hr;have ones := mZ rb st d.many d.room;obtain ⟨b0, r0, r1, z0⟩ := Fu w (dC d.many d.room sv t0 t1 t2 t3 wv d.dead d.stops);have HD := hd7 rb st ones b0 r0 r1 z0;have s0 := ok.stops;have s1 := ok.si;clear rb st ones ok;have k8 : (jQ w (dC d.many d.room sv t0 t1 t2 t3 wv d.dead d.stops)).cell? (w.heap.size, 8) = some (.bool d.dead) := ae r0 rfl;have k9 : (jQ w (dC d.many d.room sv t0 t1 t2 t3 wv d.dead d.stops)).cell? (w.heap.size, 9) = some (.int .i64 d.stops) := ae r0 rfl;obtain ⟨C, hC⟩ := G5 (dC d.many d.room sv t0 t1 t2 t3 wv d.dead d.stops);have f8 := aZ r0 8;have f9 := aZ r0 9;rw [hC] at HD k8 k9 f8 f9;rw [hC];have HC := hd1 hC;clear hC;obtain ⟨W0, hW0⟩ := G5 (jQ w C);rw [hW0] at HD k8 k9 f8 f9;clear b0 r0 r1 z0
 have fin : ∀ (dead : Bool) (stops : Int) (c : Int) (W : World), Moves (λ k => k = w.heap.size) W0 W -> W.heap[w.heap.size]? = some (.cells (dC d.many d.room sv t0 t1 t2 t3 wv dead stops) af (0, 0)) -> W.heap[w.heap.size + 1]? = some (.cells bV af) ∧
  ∀ W5, Moves (λ k => k = w.heap.size + 1) W W5 -> d.goes = ({ d with dead := dead, stops := stops }, c) -> gK w F d.goes (.returned (.tuple #[.agg (dC d.many d.room sv t0 t1 t2 t3 wv dead stops), .int .i64 c])) W5 := by
  intro dead stops c W hm hrow;have hbW : Below w w W := Moves.new HD.2.2.2.1 hm GZ;refine ⟨?_, λ W5 h5 he => ?_⟩
  ·rw [hm.block _ (by rw [HD.2.2.2.2.2.2]; omega) GR]; exact HD.2.2.2.2.2.1
  ·have hb5 : Below w w W5 := Moves.new hbW h5 GR
   rw [he];exact ⟨_, rfl, hb5, z6j HD.1 HD.2.1 hb5 dead stops _ rfl⟩
 have FIN := hd1 fin;clear fin;cases hd : d.dead
 ·rw [hd] at k8
  by_cases h0 : d.stops = 0
  ·have hg : d.goes = ({ d with dead := true, stops := -1 }, 281) := by simp [D.goes, hd, h0]
   have b0 : (d.stops == 0) = true := by simpa using h0
   have y0 := HD.2.2.2.2.1;rw [<-HC.out] at y0;have y1 := IQ W0 w.heap.size 8 _ af (.bool true) y0;have y2 := IQ _ w.heap.size 9 _ af (.int .i64 (-1)) y1;have mv : Moves (λ k => k = w.heap.size) W0 ((W0.setCell (w.heap.size, 8) (.bool true)).setCell (w.heap.size, 9) (.int .i64 (-1))) := ⟨rfl, rfl, rfl, GV, λ k hk hn => by rw [IU _ _ _ _ hn, IU _ _ _ _ hn]⟩;have F1 := hd1 (FIN.out true (-1) 281 _ mv y2);have Y2 : Hid (((W0.setCell (w.heap.size, 8) (.bool true)).setCell (w.heap.size, 9) (.int .i64 (-1))).heap[w.heap.size]? = some (.cells (dC d.many d.room sv t0 t1 t2 t3 wv true (-1)) af (0, 0))) := y2;have HG := hd1 hg;clear y0 y1 y2 mv hg h0;exact Ov
  ·have b0 : (d.stops == 0) = false := by simpa using h0
   by_cases h1 : d.stops > 0
   ·have hg : d.goes = ({ d with dead := false, stops := d.stops - 1 }, 0) := by simp [D.goes, hd, h0, h1]
    have b1 : decide (0 < d.stops) = true := by simpa using h1
    have y0 := HD.2.2.2.2.1;rw [<-HC.out] at y0;have y1 := IQ W0 w.heap.size 9 _ af (.int .i64 (d.stops - 1)) y0;have mv : Moves (λ k => k = w.heap.size) W0 (W0.setCell (w.heap.size, 9) (.int .i64 (d.stops - 1))) := ⟨rfl, rfl, rfl, GV, λ k hk hn => by rw [IU _ _ _ _ hn]⟩;rw [hd] at y1;have F1 := hd1 (FIN.out false (d.stops - 1) 0 _ mv y1);have Y2 : Hid ((W0.setCell (w.heap.size, 9) (.int .i64 (d.stops - 1))).heap[w.heap.size]? = some (.cells (dC d.many d.room sv t0 t1 t2 t3 wv false (d.stops - 1)) af (0, 0))) := y1;have HG := hd1 hg;clear y0 y1 mv hg h0;exact Ov
   ·have hg : d.goes = ({ d with dead := false, stops := d.stops }, 0) := by
     have e : ({ d with dead := false, stops := d.stops } : D) = d := by rw [<-hd]
     rw [e];simp [D.goes, hd, h0, h1]
    have b1 : decide (0 < d.stops) = false := by simpa using h1
    have y1 := HD.2.2.2.2.1;rw [<-HC.out, hd] at y1;have F1 := hd1 (FIN.out false d.stops 0 _ (Moves.refl _ _) y1);have Y2 := hd1 y1;have HG := hd1 hg;clear y1 hg h0;exact Ov
 ·have hg : d.goes = ({ d with dead := true, stops := d.stops }, 281) := by
   have e : ({ d with dead := true, stops := d.stops } : D) = d := by rw [<-hd]
   rw [e];simp [D.goes, hd]
  rw [hd] at k8;have y1 := HD.2.2.2.2.1;rw [<-HC.out, hd] at y1;have F1 := hd1 (FIN.out true d.stops 281 _ (Moves.refl _ _) y1);have Y2 := hd1 y1;have HG := hd1 hg;clear y1 hg;exact Ov
def z2u (w : World) (F : Nat -> Prop) (l : List UInt8) (e : Ending) (w' : World) : Prop :=
 Below w.heap.size w w' /\ match Wm.opened l with
  | none => e = .returned (.tuple #[.slice none 0 0, .int .i64 130])
  | some b => ∃ v, e = .returned (.tuple #[v, .int .i64 0]) /\ BytesAt w'.heap F v b
def uz (w : World) (F : Nat -> Prop) (l : List UInt8) (e : Ending) (w' : World) : Prop :=
 Below w.heap.size w w' /\ match Wm.split l with
  | none => e = .returned (.tuple #[.slice none 0 0, .int .i64 0, .int .i64 (Wm.pg l)])
  | some r => ∃ v, e = .returned (.tuple #[v, .int .i64 r.2, .int .i64 0]) /\ BytesAt w'.heap F v r.1
theorem vD {x : Int} (hb : Below w w w') (h1 : Wm.split l = none) (h2 : Wm.pg l = x) : uz w F l (.returned (.tuple #[.slice none 0 0, .int .i64 0, .int .i64 x])) w' := by
 refine ⟨hb, ?_⟩;rw [h1, h2]
theorem y8j (h : BytesAt w.heap F v l) (hl : l.length <= 1000000000) : Calls prog 164 #[v] w (z2u w F l) := by
 obtain ⟨a, cap, rfl⟩ := h.slice;have H := hd1 h;clear h;have l1 : (l.length : Int) <= 1000000000 := GR;by_cases h4 : l.length < 4
 ·have ho : Wm.opened l = none := by unfold Wm.opened; rw [IA h4]
  have HO := hd1 ho;have e1 : decide ((l.length : Int) < 4) = true := by simp; omega
  exact Qk
 ·obtain ⟨b, o, rfl, hcap, hcap2, hbl⟩ := H.row GR
  obtain ⟨n, hn⟩ : ∃ n, l.length = n + 4 := ⟨l.length - 4, GR⟩;have front := H.front (n := n) GR;have ht : (l.take n).length = n := by rw [I4]; omega
  have x2 : ∀ y : Wd (Below w w), (convert df 9 (.slice (some (b, o)) l.length cap)).run prog y.world = .ok (.string ⟨l.toArray⟩) y.world := λ y => qK (H.below y.ok);have opn : Wm.opened l = if Cm.dw (l.take n) = l then some (l.take n) else none := by
   unfold Wm.opened;rw [Iw h4, show l.length - 4 = n by omega]
  have SC := hd1 (z5q (w := w.drew) (F := F) (v := .slice (some ⟨b, o, none⟩) n cap) (l := l.take n) front (by rw [ht]; omega));have OP := hd1 opn;have FR := hd1 front;obtain ⟨s, hs⟩ := G5 (Cm.dw (l.take n));rw [hs] at SC OP;have e1 : decide ((n : Int) + 4 < 4) = false := by rw [LK]; omega
  have ew : IntKind.i64.wrap (n : Int) = (n : Int) := Ja _ GR;have n0 : (0 : Int) <= (n : Int) := GR;have n1 : (n : Int) <= (cap : Int) := GR;have n4 : n <= cap := GR;have n6 : (n : Int) <= (n : Int) + 4 := GR;rw [hn] at l1 hcap x2 ⊢;have HN := hd1 hn;clear front ht opn h4 hn hs;have ne : Nonempty (Wd (Below w w)) := ⟨⟨w, Below.refl _ _⟩⟩;go_in;go_upto_region 1 with fail
  refine bC (λ w' => ∃ x : Wd (Below w w), w' = x.world) [] GQ ?_;refine aI [0, 1, 2, 3, 4, 5, 6, 7, 8, 11, 12] 4 _ Hq GQ ?_;simp only [fmc, fmn, gta, gcs, gcz];iterate 11 (with_reducible refine ak (λ K hK => ?_); simp only [au, ah]; go_simp; refine hK _ ?_; clear hK K)
  with_reducible refine aA ?_
  refine az 9 3 _ _ rfl GQ ?_;with_reducible refine Js λ K hK => ?_
  go_simp;go_at_call 136;refine SC.mono ?_;rintro e w1 ⟨v1, rfl, o1, b1⟩;have B1 : Below w w w1 := GY.drew.trans b1;have x1 : ∀ y : Wd (Below w1 w1), (convert df 9 v1).run prog y.world = .ok (.string ⟨s.toArray⟩) y.world := λ y => qK (o1.at.below y.ok);have hx1 := x1 ⟨w1, Below.refl _ _⟩;have HB := hd1 B1;clear x1 o1 b1 B1;refine hK _ _ (IB ⟨rfl, λ _ => ⟨⟨_, HB.out⟩, rfl⟩, ?_⟩);clear hK K;refine az 10 2 _ _ rfl GQ ?_;with_reducible refine Js λ K hK => ?_
  go_simp;refine hK _ _ (IB ⟨rfl, λ _ => ⟨⟨_, HB.out⟩, rfl⟩, ?_⟩);clear hK K;by_cases hq : s = l
  ·have q : (!s == l) = false := by simp [hq]
   rw [IA hq] at OP;clear hq;refine aI [13, 14] 0 _ ⟨⟨_, HB.out⟩, rfl⟩ GQ ?_;simp only [fmc, fmn, gta, gcs, gcz];iterate 2 (with_reducible refine ak (λ K hK => ?_); simp only [au, ah]; go_simp; refine hK _ ?_; clear hK K)
   with_reducible refine aA ?_
   refine ⟨GQ, ?_⟩;go_wp2;go_ret2;refine ⟨HB.out, ?_⟩;rw [OP.out];exact ⟨_, rfl, FR.below HB.out⟩
  ·have q : (!s == l) = true := by simp [hq]
   rw [Iw hq] at OP;clear hq;refine aI [13, 14] 0 _ ⟨⟨_, HB.out⟩, rfl⟩ GQ ?_;simp only [fmc, fmn, gta, gcs, gcz];iterate 2 (with_reducible refine ak (λ K hK => ?_); simp only [au, ah]; go_simp; refine hK _ ?_; clear hK K)
   with_reducible refine aA ?_
   refine ⟨GQ, ?_⟩;go_wp2;go_ret2;refine ⟨HB.out, ?_⟩;rw [OP.out];rfl
theorem E_ (h : BytesAt w.heap F v l) (hl : l.length <= 1000000000) : Calls prog 132 #[v] w (uz w F l) := by
 obtain ⟨a, cap, rfl⟩ := h.slice;have FC := hd1 (Fp h hl);obtain ⟨hk, hn⟩ := za l
 have hs : Wm.split l = (if (Wm.first l).2 <= 0 \/ (Wm.first l).1 < 4 \/ (Wm.first l).1 > 8196 then none
  else if (l.length : Int) - (Wm.first l).2 < (Wm.first l).1 then none
  else match Wm.opened ((l.drop (Wm.first l).2.toNat).take (Wm.first l).1) with | some body => some (body, (Wm.first l).2.toNat + (Wm.first l).1) | none => none) := rfl
 have he : Wm.pg l = (if (Wm.first l).2 = 0 then 0 else if (Wm.first l).2 < 0 \/ (Wm.first l).1 < 4 \/ (Wm.first l).1 > 8196 then 141 else if (l.length : Int) - (Wm.first l).2 < (Wm.first l).1 then 0 else 130) := rfl;obtain ⟨N, hN⟩ := G5 ((Wm.first l).1);obtain ⟨K, hK⟩ := G5 ((Wm.first l).2);rw [hN, hK] at hs he FC;rw [hN] at hn;rw [hK] at hk;clear hN hK;have H := hd1 h;clear h;have hl1 : (l.length : Int) <= 1000000000 := GR;rcases hk with rfl | rfl | ⟨k, rfl, k1, k9, kl⟩
 ·rw [IA (Iy GU)] at hs
  rw [IA rfl] at he;have HS := hd2 hs he;clear hs he;exact OX
 ·rw [IA (Iy GU)] at hs
  rw [Iw GU, IA (Iy GU)] at he;have HS := hd2 hs he;clear hs he;exact OX
 ·have c0 : ¬ (k : Int) = 0 := GR
  have c1 : ¬ (k : Int) < 0 := GR;rw [Iw c0] at he;by_cases hq : N < 4 \/ N > 8196
  ·rw [IA (Iz hq)] at hs
   rw [IA (Iz hq)] at he;have HS := hd2 hs he;clear hs he;by_cases h4 : N < 4
   ·have c2 : (N : Int) < 4 := GR
    clear hq h4;exact OX
   ·have c2 : ¬ (N : Int) < 4 := GR
    have c3 : (8196 : Int) < (N : Int) := GR;clear hq h4;exact OX
  ·obtain ⟨q1, q2⟩ := not_or.1 hq
   have c2 : ¬ (N : Int) < 4 := GR;have c3 : ¬ (8196 : Int) < (N : Int) := GR;rw [Iw Nb] at hs;rw [Iw Nb] at he;clear hq;by_cases hm : (l.length : Int) - (k : Int) < (N : Int)
   ·rw [IA hm] at hs
    rw [IA hm] at he;have HS := hd2 hs he;clear hs he;generalize l.length = L at *;have e1 : wrap64 ((L : Int) - (k : Int)) = (L : Int) - (k : Int) := by unfold wrap64; omega
    exact OX
   ·rw [Iw hm] at hs
    rw [Iw hm] at he;obtain ⟨b, o, rfl, hcap, hcap2, hbl⟩ := H.row GR;have back := H.back (n := k) kl;have hdl : (l.drop k).length = l.length - k := I5;rw [<-hdl] at back;have mid := back.front (n := N) GR;have Gp : ((l.drop k).take N).length = N := by rw [I4]; omega
    have oM := hd1 mid;have FB := hd1 (λ (W : World) (_ : Below w w W) (v : Value) (l : List UInt8) {W' : World} (h : BytesAt W'.heap F v l) => h);have OC := hd1 (λ (W : World) (hb : Below w w W) => y8j (oM.below hb) GR);rw [Kv] at hs;have HS := hd2 hs he;clear hs he back mid hdl Gp;generalize l.length = L at *;have e0 := Aa (x := (k : Int) + (N : Int)) GR GR;have e1 := Aa (x := (L : Int) - (k : Int)) GR GR;have e2 : ¬ (k : Int) + (N : Int) < 0 := GR;have e3 : (k : Int) <= (k : Int) + (N : Int) := GR;have e4 : (k : Int) + (N : Int) <= (cap : Int) := GR;have e5 : ¬ (cap : Int) = (k : Int) := GR;cases hop : Wm.opened ((l.drop k).take N) with
    | none =>
     have HP := hd1 hop;clear hop;go_in
     go_wp2_with (first
      | (go_at_call 163; refine FC.mono ?_; rintro e w1 ⟨rfl, b1⟩; have B1 := hd1 b1; clear b1)
      | (go_at_call 164; refine (OC.out _ B1.out).mono ?_; intro e w2 h2; unfold z2u at h2; rw [HP.out] at h2; obtain ⟨b2, rfl⟩ := h2; have B2 := hd1 b2; clear b2))
     go_ret3
     refine vD (B1.trans (B2.mono B1.size)) ?_ HS.2;rw [HS.1, HP.out]
    | some body =>
     have HP := hd1 hop;clear hop;go_in
     go_wp2_with (first
      | (go_at_call 163; refine FC.mono ?_; rintro e w1 ⟨rfl, b1⟩; have B1 := hd1 b1; clear b1)
      | (go_at_call 164; refine (OC.out _ B1.out).mono ?_; intro e w2 h2; unfold z2u at h2; rw [HP.out] at h2; obtain ⟨b2, v2, rfl, y2⟩ := h2; have B2 := hd2 b2 y2; clear b2 y2))
     go_ret3
     refine ⟨B1.trans (B2.1.mono B1.size), ?_⟩;rw [HS.1, HP.out];exact ⟨v2, GV, FB.out _ B1.out _ _ B2.2⟩
namespace Em
open Go.Maps Cm
theorem x0q {c : ay} (h1 : c.wrong = false) (h2 : c.long = false) (rest : Bytes) : kE (laid c ++ rest) = some (c, rest) := by
 obtain ⟨k1, k2⟩ := z2l h1;obtain ⟨k3, k4⟩ := vT h2;obtain ⟨k, v, g⟩ := c;unfold kE laid;rw [IZ, IZ, Wm.y7g];simp only;rw [Wm.AB (show k.length <= 64 from k3) GU];simp only;cases g
 ·simp only [KJ, JM]
  rw [Wm.AB (show v.length <= 4096 from k4) GU]
 ·simp only [I1, Ji]
  have : v = [] := k2 rfl;rw [this]
theorem z7x : ∀ (l : List ay), (∀ c ∈ l, c.wrong = false /\ c.long = false) -> ∀ rest : Bytes, eZ l.length (l.flatMap laid ++ rest) = some (l, rest)
 | [], _, rest => rfl
 | c :: l, h, rest => by
  obtain ⟨h1, h2⟩ := h c (Jp ..);rw [I6, eZ, J9, IZ, x0q h1 h2];simp only;rw [z7x l (λ x hx => h x (JB _ hx))];rfl
theorem x0h {l : List ay} (h : right l = 0) : iK (dQ l) = some l := by
 obtain ⟨h1, h2⟩ := pE h;unfold iK dQ;rw [IZ, Wm.sI GU GU];simp only;rw [Iw GU, Wm.sI h1 GU];simp only;have := z7x l h2 [];rw [Ju] at this;rw [this];simp
def nX (k v : Bytes) : Bytes := Wm.aG 2 ++ Wm.cB k ++ Wm.cB v
theorem AZ {k v : Bytes} (h1 : k.length <= 64) (h2 : v.length <= 4096) : (nX k v).length <= 8192 := by
 have k1 := jf k;have k2 := jf v;have k3 := (h_ 2).1;unfold nX;rw [IL, IL];omega
theorem z5j {last k v : Bytes} (h1 : k.length <= 64) (h2 : v.length <= 4096) (hl : ¬ k <= last) : jk last (nX k v) = some (k, v) := by
 unfold jk nX;rw [IZ, Wm.sI GU GU];simp only;rw [Iw GU, Wm.AB h1 GU];simp only;have := Wm.AB h2 GU [];rw [Ju] at this;rw [this];simp only;rw [IA ⟨trivial, hl⟩]
def kK (g n : Nat) : Bytes := Wm.aG 1 ++ Wm.aG g ++ Wm.aG n
theorem Cb (g n : Nat) : (kK g n).length <= 8192 := by
 have k1 := (h_ 1).1;have k2 := (h_ g).1;have k3 := (h_ n).1;unfold kK;rw [IL, IL];omega
theorem z6w (h0 : 0 < g) (h1 : g <= 2147483647) (h2 : n <= 256) : fM (kK g n) = some (g, n) := by
 unfold fM kK;rw [IZ, Wm.sI GU GU];simp only;rw [Iw GU, Wm.sI h1 GU];simp only;have := Wm.sI h2 GU [];rw [Ju] at this;rw [this];simp only;rw [IA ⟨trivial, h0⟩]
def puts (v : Bytes -> Bytes) (D : Rows) (ks : List Bytes) : Rows := ks.foldl (λ D k => D.put (.string k) (.lit (.string (v k)))) D
def kJ (v : Bytes -> Bytes) (ks : List Bytes) : Bytes := ks.flatMap λ k => Wm.frame (nX k (v k))
theorem BO (v : Bytes -> Bytes) (k : Bytes) (ks : List Bytes) : kJ v (k :: ks) = Wm.frame (nX k (v k)) ++ kJ v ks := rfl
def wU (v : Bytes -> Bytes) (last : Bytes) (ks : List Bytes) : Prop := (∀ k ∈ ks, k.length <= 64 /\ (v k).length <= 4096 /\ ¬ k <= last) /\ ks.Pairwise (λ a b => ¬ b <= a)
theorem wU.tail {v : Bytes -> Bytes} {last k : Bytes} {ks : List Bytes} (h : wU v last (k :: ks)) : wU v k ks := by
 obtain ⟨h1, h2⟩ := h;obtain ⟨h3, h4⟩ := LV.1 h2;exact ⟨λ x hx => ⟨(h1 x (JB _ hx)).1, (h1 x (JB _ hx)).2.1, h3 x hx⟩, h4⟩
theorem z5m {L rest : Bytes} {v : Bytes -> Bytes} : ∀ (ks : List Bytes) {last : Bytes} {fin : Nat} {D : Rows}, wU v last ks -> L.drop fin = kJ v ks ++ rest -> dP L ks.length fin last D = some (puts v D ks, fin + (kJ v ks).length)
 | [], last, fin, D, _, _ => rfl
 | k :: ks, last, fin, D, h, hd => by
  obtain ⟨k1, k2, k3⟩ := h.1 k (Jp ..);rw [BO, IZ] at hd;rw [I6, dP, hd, Wm.xY (AZ k1 k2)];simp only;rw [z5j k1 k2 k3];simp only;have hd' : L.drop (fin + (Wm.frame (nX k (v k))).length) = kJ v ks ++ rest := by
   rw [<-List.drop_drop, hd];simp
  rw [z5m ks h.tail hd', BO, IL, Jz];rfl
theorem z5p {L : Bytes} {v : Bytes -> Bytes} : ∀ (ks : List Bytes) {last : Bytes} {fin n : Nat} {D : Rows}, wU v last ks -> n < (kJ v ks).length -> L.drop fin = (kJ v ks).take n -> dP L ks.length fin last D = none
 | [], _, _, n, _, _, hn, _ => absurd hn (Nat.not_lt_zero _)
 | k :: ks, last, fin, n, D, h, hn, hd => by
  obtain ⟨k1, k2, k3⟩ := h.1 k (Jp ..);rw [BO] at hd hn;rw [IL] at hn;by_cases hc : n < (Wm.frame (nX k (v k))).length
  ·rw [Kw GR] at hd
   rw [I6, dP, hd, Wm.EW (AZ k1 k2) hc]
  ·rw [List.take_append, Je GR] at hd
   rw [I6, dP, hd, Wm.xY (AZ k1 k2)];simp only;rw [z5j k1 k2 k3];simp only;have hd' : L.drop (fin + (Wm.frame (nX k (v k))).length) = (kJ v ks).take (n - (Wm.frame (nX k (v k))).length) := by
    rw [<-List.drop_drop, hd];simp
   exact z5p ks h.tail GR hd'
theorem z9o {v : Bytes -> Bytes} : ∀ (ks : List Bytes) {D : Rows}, Tidy D -> ∀ k : Bytes, has (puts v D ks) (.string k) = (decide (k ∈ ks) || has D (.string k))
 | [], D, _, k => by simp [puts]
 | a :: ks, D, ht, k => by
  have h' : Tidy (D.put (.string a) (.lit (.string (v a)))) := ht.put (show WideAt.IsKeyLit (.string a) from trivial) _;show has (puts v (D.put (.string a) (.lit (.string (v a)))) ks) (.string k) = _;rw [z9o ks h'];by_cases e : k = a
  ·subst e
   rw [has_put_same ht.isMap (show WideAt.IsKeyLit (.string k) from trivial)];simp
  ·rw [has_put_other (λ h => e (by cases h; rfl))]
   simp [e]
theorem z3q {v : Bytes -> Bytes} : ∀ (ks : List Bytes) {D : Rows}, Tidy D -> ∀ k : Bytes, valueOf (puts v D ks) k = if k ∈ ks then v k else valueOf D k
 | [], D, _, k => by simp [puts]
 | a :: ks, D, ht, k => by
  have h' : Tidy (D.put (.string a) (.lit (.string (v a)))) := ht.put (show WideAt.IsKeyLit (.string a) from trivial) _;show valueOf (puts v (D.put (.string a) (.lit (.string (v a)))) ks) k = _;rw [z3q ks h'];by_cases e : k = a
  ·subst e
   have e1 : valueOf (D.put (.string k) (.lit (.string (v k)))) k = v k := by unfold valueOf; rw [atKey_put_same ht.isMap (show WideAt.IsKeyLit (.string k) from trivial)]
   rw [e1];simp
  ·have hk' : (Lit.string k) ≠ .string a := λ h => e (by cases h; rfl)
   have e1 : valueOf (D.put (.string a) (.lit (.string (v a)))) k = valueOf D k := by unfold valueOf; rw [atKey_put_other hk']
   rw [e1];simp [e]
theorem z7s {v : Bytes -> Bytes} : ∀ (ks : List Bytes) {D : Rows}, bI D -> Tidy D -> (∀ k ∈ ks, k ≠ [] /\ k.length <= 64 /\ (v k).length <= 4096) -> bI (puts v D ks) /\ Tidy (puts v D ks)
 | [], D, h, ht, _ => ⟨h, ht⟩
 | a :: ks, D, h, ht, hk => by
  obtain ⟨k1, k2, k3⟩ := hk a (Jp ..);have e : one D ⟨a, v a, false⟩ = D.put (.string a) (.lit (.string (v a))) := by unfold one; rw [Iw GV]
  have r1 : bI (D.put (.string a) (.lit (.string (v a)))) := by
   rw [<-e];refine vF h ?_ ?_
   ·cases a with
    | nil => exact absurd rfl k1
    | cons b a => rfl
   ·unfold ay.long
    simp;omega
  exact z7s ks r1 (ht.put (show WideAt.IsKeyLit (.string a) from trivial) _) (λ k h => hk k (JB _ h))
def again (D : Rows) : Rows := puts (valueOf D) (.map []) (cO D)
theorem y2y {D : Rows} (h : bI D) : bI (again D) /\ Tidy (again D) :=
 z7s _ nW tidy_empty (λ k hk => ⟨(sj h hk).1, (sj h hk).2, uZ h k⟩)
theorem Ai {D : Rows} (h : bI D) (ht : Tidy D) : tell (again D) = tell D := by
 obtain ⟨a1, a2⟩ := y2y h;refine z4y (xM a1 a2) (xM h ht) (λ x => ?_);rw [yC a1, yC h];unfold again;rw [z9o _ tidy_empty, z3q _ tidy_empty];have h0 : has (.map [] : Rows) (.string x.1) = false := rfl;rw [h0, Bool.or_false, JX, <-Au h];constructor
 ·rintro ⟨k1, k2⟩
  rw [IA k1] at k2;exact ⟨k1, k2⟩
 ·rintro ⟨k1, k2⟩
  rw [IA k1];exact ⟨k1, k2⟩
theorem z6x {D : Rows} (h : bI D) (ht : Tidy D) : wU (valueOf D) [] (cO D) := by
 refine ⟨λ k hk => ⟨(sj h hk).2, uZ h k, λ hl => (sj h hk).1 (KU hl (List.nil_le _))⟩, ?_⟩;have hs := xM h ht;unfold oG tell at hs;rw [List.pairwise_map] at hs;exact hs.imp (λ hab hba => hab.2 (KU hab.1 hba))
theorem z0b {D : Rows} (g : Nat) (h : bI D) : folded g D = Wm.frame (kK g (size D)) ++ kJ (valueOf D) (cO D) := by
 have e1 : fT (Wm.aG 1 ++ Wm.aG g ++ Wm.aG (size D)) = Wm.frame (kK g (size D)) := tT (Cb g (size D));have e2 : (cO D).flatMap (rowOf D) = kJ (valueOf D) (cO D) := by
  have : ∀ ks : List Bytes, (∀ k ∈ ks, k.length <= 64) -> ks.flatMap (rowOf D) = kJ (valueOf D) ks := by
   intro ks;induction ks with
   | nil => exact λ _ => rfl
   | cons k ks ih =>
    intro hk;rw [J9, BO, ih (λ x hx => hk x (JB _ hx))];congr 1
    exact tT (AZ (hk k (Jp ..)) (uZ h k))
  exact this _ (λ k hk => (sj h hk).2)
 unfold folded;rw [e1, e2]
theorem x0l {D : Rows} (h : bI D) (ht : Tidy D) (hs : size D <= 256) (h0 : 0 < g) (h1 : g <= 2147483647) (rest : Bytes) : fe (folded g D ++ rest) = some (g, again D, (folded g D).length) := by
 rw [z0b g h];unfold fe;rw [IZ, Wm.xY (Cb g (size D))];simp only;rw [z6w h0 h1 hs];simp only;have := z5m (L := Wm.frame (kK g (size D)) ++ (kJ (valueOf D) (cO D) ++ rest)) (rest := rest) (cO D) (fin := (Wm.frame (kK g (size D))).length) (D := .map []) (z6x h ht) GV;rw [su] at this;rw [this, IL];rfl
theorem x0n {D : Rows} (h : bI D) (ht : Tidy D) (hs : size D <= 256) (h0 : 0 < g) (h1 : g <= 2147483647) (hn : n < (folded g D).length) : fe ((folded g D).take n) = none := by
 rw [z0b g h] at hn ⊢;rw [IL] at hn;unfold fe;by_cases hc : n < (Wm.frame (kK g (size D))).length
 ·rw [Kw GR, Wm.EW (Cb g (size D)) hc]
 ·rw [List.take_append, Je GR, Wm.xY (Cb g (size D))]
  simp only;rw [z6w h0 h1 hs];simp only;have := z5p (L := Wm.frame (kK g (size D)) ++ (kJ (valueOf D) (cO D)).take (n - (Wm.frame (kK g (size D))).length)) (cO D) (fin := (Wm.frame (kK g (size D))).length) (n := n - (Wm.frame (kK g (size D))).length) (D := .map []) (z6x h ht) GR GV;rw [su] at this;rw [this];rfl
end Em
def gP (us : List (Step × Value)) : List Value := us.flatMap (λ e => [.int .i64 e.1.what, .int .i64 e.1.n, .int .i64 e.1.many, e.2])
theorem x5l (us : List (Step × Value)) (e : Step × Value) : gP (us ++ [e]) = gP us ++ [.int .i64 e.1.what, .int .i64 e.1.n, .int .i64 e.1.many, e.2] := by simp [gP]
theorem y0s (a : Step × Value) (l : List (Step × Value)) : gP (a :: l) = .int .i64 a.1.what :: .int .i64 a.1.n :: .int .i64 a.1.many :: a.2 :: gP l := rfl
theorem y0u (us : List (Step × Value)) : (gP us).length = us.length * 4 := by
 induction us with
 | nil => rfl
 | cons a l ih => rw [y0s]; simp [ih]; omega
theorem y0r (us : List (Step × Value)) (i : Nat) (e : Step × Value) (h : us[i]? = some e) :
 (gP us)[i * 4]? = some (.int .i64 e.1.what) /\ (gP us)[i * 4 + 1]? = some (.int .i64 e.1.n) /\ (gP us)[i * 4 + 2]? = some (.int .i64 e.1.many) /\ (gP us)[i * 4 + 3]? = some e.2 := by
 induction us generalizing i with
 | nil => cases h
 | cons a l ih =>
  cases i with
  | zero => cases h; exact ⟨rfl, rfl, rfl, rfl⟩
  | succ i =>
   have := ih i NU;have e1 : (i + 1) * 4 = i * 4 + 4 := GR;have e2 : i * 4 + 4 + 1 = i * 4 + 1 + 4 := GR;have e3 : i * 4 + 4 + 2 = i * 4 + 2 + 4 := GR;have e4 : i * 4 + 4 + 3 = i * 4 + 3 + 4 := GR;have st : ∀ j, (gP (a :: l))[j + 4]? = (gP l)[j]? := λ j => by rw [y0s]; rfl
   rw [e1, e2, e3, e4, st, st, st, st];exact this
theorem y0t (us : List (Step × Value)) (j : Nat) (u : Value) (h : (gP us)[j]? = some u) : ∃ e, us[j / 4]? = some e /\ ((j % 4 = 0 /\ u = .int .i64 e.1.what) \/ (j % 4 = 1 /\ u = .int .i64 e.1.n) \/ (j % 4 = 2 /\ u = .int .i64 e.1.many) \/ (j % 4 = 3 /\ u = e.2)) := by
 have hlt : j < us.length * 4 := by have := (IY.1 h).1; rwa [y0u] at this
 have hi : j / 4 < us.length := GR;obtain ⟨q0, q1, q2, q3⟩ := y0r us (j / 4) us[j / 4] (IR hi);refine ⟨us[j / 4], IR hi, ?_⟩;obtain hr | hr | hr | hr : j % 4 = 0 \/ j % 4 = 1 \/ j % 4 = 2 \/ j % 4 = 3 := GR
 ·have : j / 4 * 4 = j := GR
  rw [this, h] at q0; cases q0; exact Iy ⟨hr, rfl⟩
 ·have : j / 4 * 4 + 1 = j := GR
  rw [this, h] at q1; cases q1; exact Iz (Iy ⟨hr, rfl⟩)
 ·have : j / 4 * 4 + 2 = j := GR
  rw [this, h] at q2; cases q2; exact Iz (Iz (Iy ⟨hr, rfl⟩))
 ·have : j / 4 * 4 + 3 = j := GR
  rw [this, h] at q3; cases q3; exact Iz (Iz (Iz ⟨hr, rfl⟩))
theorem iE.src {l : List Step} (x : iE w.heap F v l) : ∃ us : List (Step × Value), us.map (·.1) = l /\ (∀ e ∈ us, BytesAt w.heap F e.2 e.1.b) /\ oH w 4 v l.length (gP us) := by
 rcases x with ⟨rfl, rfl⟩ | ⟨b, o, cap, c, t, fr, rfl, h2, h3, g2, g3, g4⟩
 ·exact ⟨[], rfl, (λ e he => by cases he), Iy ⟨rfl, rfl, rfl⟩⟩
 ·have look : ∀ i (hi : i < l.length), ∃ u, c[o + i * 4]? = some (.int .i64 l[i].what) /\ c[o + i * 4 + 1]? = some (.int .i64 l[i].n) /\ c[o + i * 4 + 2]? = some (.int .i64 l[i].many) /\ c[o + i * 4 + 3]? = some u /\ BytesAt w.heap F u l[i].b := λ i hi => by
   obtain ⟨w0, w1, w2, u, e0, e1, e2, e3, ⟨rfl, rfl, rfl, e4⟩⟩ := g4 i l[i] (IR hi);exact ⟨u, e0, e1, e2, e3, e4⟩
  have gx : ∀ i e, (List.ofFn (λ i : Fin l.length => (l[i.1], (c[o + i.1 * 4 + 3]?).getD undef)))[i]? = some e -> ∃ hi : i < l.length, e = (l[i], (c[o + i * 4 + 3]?).getD undef) := λ i e he => by
   rw [List.getElem?_ofFn] at he;split at he
   ·rename_i hi; exact ⟨hi, by simpa using he.symm⟩
   ·cases he
  refine ⟨List.ofFn (λ i : Fin l.length => (l[i.1], (c[o + i.1 * 4 + 3]?).getD undef)), ?_, λ e he => ?_, Iz ⟨⟨b, o, none⟩, cap, rfl, by rw [y0u, List.length_ofFn], λ j u hj => ?_, λ u hu => ?_⟩⟩
  ·apply List.ext_getElem
   ·simp
   ·intro i h1 h2; simp
  ·obtain ⟨i, hi⟩ := KS.1 he
   obtain ⟨hlt, rfl⟩ := gx i e hi;obtain ⟨u, _, _, _, q3, q4⟩ := look i hlt;rw [q3]; exact q4
  ·obtain ⟨e, he, hu⟩ := y0t _ _ _ hj
   obtain ⟨hlt, rfl⟩ := gx _ e he;obtain ⟨u', q0, q1, q2, q3, q4⟩ := look (j / 4) hlt;rw [addr_add, IJ _ _ _ _ _ _ g3];rcases hu with ⟨hr, rfl⟩ | ⟨hr, rfl⟩ | ⟨hr, rfl⟩ | ⟨hr, rfl⟩
   ·rw [<-q0]; congr 1; omega
   ·rw [<-q1]; congr 1; omega
   ·rw [<-q2]; congr 1; omega
   ·rw [show o + j = o + j / 4 * 4 + 3 by omega, q3]; rfl
  ·obtain ⟨j, hj⟩ := KS.1 hu
   obtain ⟨e, he, hu'⟩ := y0t _ _ _ hj;obtain ⟨hlt, rfl⟩ := gx _ e he;obtain ⟨u', q0, q1, q2, q3, q4⟩ := look (j / 4) hlt;rcases hu' with ⟨hr, rfl⟩ | ⟨hr, rfl⟩ | ⟨hr, rfl⟩ | ⟨hr, rfl⟩
   ·rfl
   ·rfl
   ·rfl
   ·simp only [q3, Option.getD_some]; exact q4.one
theorem y7a {h : Array Obj} {base : Nat} {us : List (Step × Value)} (own : w.ownsRow base bJ 4 v us.length (gP us)) (hu : ∀ e ∈ us, BytesAt h F e.2 e.1.b) (hs : ∀ k, F k -> k < h.size -> w.heap[k]? = h[k]?) (hF : ∀ k, F k -> k < h.size -> F' k) (hB : ∀ k, base <= k -> k < w.heap.size -> F' k) : iE w.heap F' v (us.map (·.1)) := by
 obtain ⟨_, own⟩ := own;rcases own with ⟨rfl, h0⟩ | ⟨g, cap, cur, rfl, hg, hh, h1, h2, h3, h4⟩
 ·have : us = [] := JU h0
  exact Iy ⟨rfl, by rw [this]; rfl⟩
 ·refine Iz ⟨g, 0, cap, cur, bJ, (0, 0), GV, by simpa using h1, by unfold maxLen at h2; omega, hB g hg (aa hh), hh, λ i s hi => ?_⟩
  obtain ⟨e, he, rfl⟩ : ∃ e, us[i]? = some e /\ e.1 = s := by simpa using hi
  have hlt : i < us.length := (IY.1 he).1;obtain ⟨q0, q1, q2, q3⟩ := y0r us i e he;rw [<-h4, JI, IA GR] at q0 q1 q2 q3;exact ⟨_, _, _, e.2, by simpa using q0, by simpa using q1, by simpa using q2, by simpa using q3, rfl, rfl, rfl, (hu e (Jb he)).keeps hs hF⟩
theorem z5s {d : D} (hr : bR w.heap F v d) (n : Int) : Calls prog 55 #[v, .int .i64 n] w (gK w F (d.stop n)) := by
 obtain ⟨sv, t0, t1, t2, t3, wv, rfl, rb, st⟩ := hr;have ones := mZ rb st d.many d.room;obtain ⟨b0, r0, r1, z0⟩ := Fu w (dC d.many d.room sv t0 t1 t2 t3 wv d.dead d.stops);have HD := hd7 rb st ones b0 r0 r1 z0;clear rb st ones;have k8 : (jQ w (dC d.many d.room sv t0 t1 t2 t3 wv d.dead d.stops)).cell? (w.heap.size, 8) = some (.bool d.dead) := ae r0 rfl;have k9 : (jQ w (dC d.many d.room sv t0 t1 t2 t3 wv d.dead d.stops)).cell? (w.heap.size, 9) = some (.int .i64 d.stops) := ae r0 rfl;obtain ⟨C, hC⟩ := G5 (dC d.many d.room sv t0 t1 t2 t3 wv d.dead d.stops);have f9 := aZ r0 9;rw [hC] at HD k8 k9 f9;rw [hC];have HC := hd1 hC;clear hC;obtain ⟨W0, hW0⟩ := G5 (jQ w C);rw [hW0] at HD k8 k9 f9;clear b0 r0 r1 z0
 have fin : ∀ (dead : Bool) (stops : Int) (c : Int) (W : World), Moves (λ k => k = w.heap.size) W0 W -> W.heap[w.heap.size]? = some (.cells (dC d.many d.room sv t0 t1 t2 t3 wv dead stops) af (0, 0)) -> W.heap[w.heap.size + 1]? = some (.cells bV af) ∧
  ∀ W5, Moves (λ k => k = w.heap.size + 1) W W5 -> d.stop n = ({ d with dead := dead, stops := stops }, c) -> gK w F (d.stop n) (.returned (.tuple #[.agg (dC d.many d.room sv t0 t1 t2 t3 wv dead stops), .int .i64 c])) W5 := by
  intro dead stops c W hm hrow;have hbW : Below w w W := Moves.new HD.2.2.2.1 hm GZ;refine ⟨?_, λ W5 h5 he => ?_⟩
  ·rw [hm.block _ (by rw [HD.2.2.2.2.2.2]; omega) GR]; exact HD.2.2.2.2.2.1
  ·have hb5 : Below w w W5 := Moves.new hbW h5 GR
   rw [he];exact ⟨_, rfl, hb5, z6j HD.1 HD.2.1 hb5 dead stops _ rfl⟩
 have FIN := hd1 fin;clear fin;have y0 := HD.2.2.2.2.1;rw [<-HC.out] at y0;have e0 : ({ d with dead := d.dead, stops := d.stops } : D) = d := rfl;by_cases hn : n < 0
 ·have hg : d.stop n = ({ d with dead := d.dead, stops := d.stops }, 2) := by unfold D.stop; rw [IA hn]
  have F1 := hd1 (FIN.out d.dead d.stops 2 _ (Moves.refl _ _) y0);have Y2 := hd1 y0;have HG := hd1 hg;clear y0 hg e0;exact Ov
 ·cases hd : d.dead
  ·have hg : d.stop n = ({ d with dead := d.dead, stops := n }, 0) := by unfold D.stop; rw [Iw hn, hd]; rfl
   have y1 := IQ W0 w.heap.size 9 _ af (.int .i64 n) y0;have mv : Moves (λ k => k = w.heap.size) W0 (W0.setCell (w.heap.size, 9) (.int .i64 n)) := ⟨rfl, rfl, rfl, GV, λ k hk hn => by rw [IU _ _ _ _ hn]⟩;have F1 := hd1 (FIN.out d.dead n 0 _ mv y1);have Y2 : Hid ((W0.setCell (w.heap.size, 9) (.int .i64 n)).heap[w.heap.size]? = some (.cells (dC d.many d.room sv t0 t1 t2 t3 wv d.dead n) af (0, 0))) := y1;have HG := hd1 hg;rw [hd] at k8;clear y0 y1 mv hg e0 hd;exact Ov
  ·have hg : d.stop n = ({ d with dead := d.dead, stops := d.stops }, 281) := by unfold D.stop; rw [Iw hn, hd]; simp
   have F1 := hd1 (FIN.out d.dead d.stops 281 _ (Moves.refl _ _) y0);have Y2 := hd1 y0;have HG := hd1 hg;rw [hd] at k8;clear y0 hg e0 hd;exact Ov
theorem vZ : (prog.info? bJ).map (λ i => (i.zero, i.size, i.bytes)) = some (some (.agg #[.int .i64 0, .int .i64 0, .int .i64 0, .slice none 0 0]), 4, 48) := GQ
abbrev ve : Nat := 61
abbrev stepW (w : World) (C S : Array Value) : World := ((w.alloc (.cells C af)).alloc (.cells S bJ)).alloc (.cells bV af)
theorem y6m (w : World) (C S : Array Value) : Below w w (stepW w C S) /\ (stepW w C S).heap[w.heap.size]? = some (.cells C af) /\ (stepW w C S).heap[w.heap.size + 1]? = some (.cells S bJ) /\ (stepW w C S).heap[w.heap.size + 1 + 1]? = some (.cells bV af) /\ (stepW w C S).heap.size = w.heap.size + 3 :=
 ⟨((bla).alloc GV _).alloc N_ _, aM NM (aM GV (IC w _)), aM GV (bD (w := w.alloc _) _ GV), bD (w := (w.alloc _).alloc _) _ GV, GV⟩
theorem EU {a b : Int} {u : Value} (hg : w.heap[g]? = some (.cells #[.int .i64 a, .int .i64 b, .int .i64 c, u] bJ)) (hu : u.oneCell' = true) : oH w 4 (.slice (some g) 1 1) 1 [.int .i64 a, .int .i64 b, .int .i64 c, u] := by
 refine Iz ⟨⟨g, 0, none⟩, 1, rfl, rfl, λ j v hj => ?_, λ v hv => ?_⟩
 ·rw [addr_add, IJ _ _ _ _ _ _ hg, I8]
  simpa using hj
 ·simp at hv
  rcases hv with rfl | rfl | rfl | rfl
  ·rfl
  ·rfl
  ·rfl
  ·exact hu
theorem z7h (w : World) : (w.alloc (.cells #[] bJ)).ownsRow w.heap.size bJ 4 (.slice (some w.heap.size) 0 0) 0 [] :=
 ⟨rfl, Iz ⟨w.heap.size, 0, #[], rfl, Nat.le_refl _, IC _ _, Nat.le_refl _, IV _, rfl, rfl⟩⟩
theorem oH.below {size : Nat} {news : List Value} (h : oH w size v m news) (hb : Below w w w') : oH w' size v m news := by
 rcases h with h | ⟨ad, c, h1, h2, h3, h4⟩
 ·exact Iy h
 ·exact Iz ⟨ad, c, h1, h2, λ j u hj => by
   have := h3 j u hj;have lt := IX this;exact (hb.cell lt).trans this, h4⟩
theorem step_end {X W5 : World} {d : D} {s : Step} {u : Value} {us : List (Step × Value)} {sv t0 t1 t2 t3 : Value} (h0 : d.goes.2 = 0) (hbw : Below w w W2) (hg : w.heap.size + 3 <= g) (rb : RB W2.heap G sv t0 t1 t2 t3 d.goes.1.lasts d.goes.1.many) (hG : ∀ k, G k -> (F k /\ k < w.heap.size) \/ (w.heap.size + 3 <= k /\ k ≠ g)) (hgl : g < W2.heap.size)
 (hus : us.map (·.1) = d.waits) (hu : ∀ e ∈ us, BytesAt w.heap F e.2 e.1.b) (hb : BytesAt w.heap F u s.b) (hX : Below W2 W2 X) (own : X.ownsRow W2.heap.size bJ 4 v (us.length + 1) (gP us ++ [.int .i64 s.what, .int .i64 s.n, .int .i64 s.many, u]))
 (hM : Moves (λ k => k = w.heap.size + 1 + 1) (X.setCell (g, 7) v) W5) : gK w F (d.step s) (.returned (.tuple #[.agg (dC d.goes.1.many d.goes.1.room sv t0 t1 t2 t3 v d.goes.1.dead d.goes.1.stops), .int .i64 0])) W5 := by
 have hzX := hX.size;have hz := hbw.size;have hz5 := hM.size;have xR : (X.setCell (g, 7) v).heap.size = X.heap.size := GV;rw [xR] at hz5;have blk : ∀ k, k < W2.heap.size -> k ≠ g -> k ≠ w.heap.size + 1 + 1 -> W5.heap[k]? = W2.heap[k]? := λ k hk h1 h2 => by
  rw [hM.block k (by rw [xR]; omega) h2, IU _ _ _ _ h1, hX.block k hk]
 have hb5 : Below w w W5 := by
  refine ⟨hM.os.trans (hX.os.trans hbw.os), hM.tape.trans (hX.tape.trans hbw.tape), hM.output.trans (hX.output.trans hbw.output), GR, λ k hk => ?_⟩;rw [blk k GR GR GR];exact hbw.block k hk
 have e2 : d.step s = ({ d.goes.1 with waits := d.waits ++ [s] }, 0) := by unfold D.step; rw [IA h0]
 rw [e2];refine ⟨_, rfl, hb5, sv, t0, t1, t2, t3, v, rfl, ?_, ?_⟩
 ·refine rb.keeps (λ k hk hl => blk k hl ?_ ?_) (λ k hk hl => ?_)
  ·rcases hG k hk with h | h
   ·omega
   ·exact h.2
  ·rcases hG k hk with h | h
   ·omega
   ·omega
  ·exact Qp
 ·have pF : W5.ownsRow W2.heap.size bJ 4 v (us ++ [(s, u)]).length (gP (us ++ [(s, u)])) := by
   rw [x5l, IL];exact z7i own (λ k hk hl => by rw [hM.block k (by rw [xR]; exact hl) GR, IU _ _ _ _ (by show k ≠ g; omega)])
  have := y7a (F := F) (F' := plus F w W5) (h := w.heap) pF (λ e he => by
   rcases JY.1 he with he | he
   ·exact hu e he
   ·rw [J8] at he; subst he; exact hb) (λ k _ hl => hb5.block k hl) (λ k h _ => Iy h) (λ k h1 h2 => Iz ⟨GR, h2⟩)
  rw [J6, hus] at this;exact this
section
variable {P : Program} {ops : Array Oper}
theorem El {rest : List Oper} {o : Oper} {a : Act} {Q : Exit -> Act -> World -> Prop} (hgd : o.guard = none) (s x : Operand) (t : TypeId)
 (ho : o.op = .call { callee := .builtin .append, args := #[s, x], argTypes := #[t, t] })
 (B base : Nat) (w0 : World) (hb : Below B w0 w) (hB : B <= base) (e : TypeId) (z : Value) (size bytes : Nat) (ht : P.underlying t = some (.slice e)) (hi : (P.info? e).map (λ i => (i.zero, i.size, i.bytes)) = some (some z, size, bytes))
 (hzs : z.cells.size = size) (hsz : 0 < size)
 (v : Value) (n : Nat) (xs : List Value) (hs : a.eval s = v) (hown : w.ownsRow base e size v n xs)
 (v2 : Value) (m : Nat) (news : List Value) (hx : a.eval x = v2) (hsrc : oH w size v2 m news)
 (h63 : n + m <= maxLen) (hbytes : (n + m) * bytes <= 140737488355328) (hbase : base <= w.heap.size)
 (h : ∀ v' w', Hid (w'.ownsRow base e size v' (n + m) (xs ++ news)) -> Below B w0 w' -> (∀ k, k < w.heap.size -> v.ownBlock ≠ some k -> w'.heap[k]? = w.heap[k]?) -> wpList P ops Q rest (a.put o.dst v') w') : wpList P ops Q (o :: rest) a w := by
 obtain ⟨i0, hi0, hz0, hz1, hz2⟩ := JG hi;have BS : ∀ k, v.ownBlock = some k -> base <= k := λ k e => by
  exact Pg
 rcases hsrc with ⟨rfl, rfl, rfl⟩ | ⟨ad, c, rfl, g1, g2, g3⟩
 ·refine wpList_append_own_none hgd s x t ho base e i0 size ht hi0 v n xs hs hown hx (h v w ?_ hb (λ _ _ _ => rfl))
  rw [Ju, Kz];exact hown
 ·refine Ky w hgd s x t ho base e i0 z size bytes ht hi0 hz0 hz1 hz2 hzs hsz v n xs hs hown ad m c news hx g1 g2 g3 h63 hbytes hbase ?_
  intro v' w' ho' hg _;exact h v' w' ho' (hb.grown hg GR (λ k e => Hf (BS k e))) (λ k hk hn => hg.block k hk (λ e => hn e.symm))
end
theorem yj {h : Array Obj} {sv t0 t1 t2 t3 wv : Value} {x : St} {many : Int} (r : RB h F sv t0 t1 t2 t3 x many) (hw : wv.oneCell' = true) (m' room : Int) (dead : Bool) (stops : Int) : (dC m' room sv t0 t1 t2 t3 wv dead stops).all (·.oneCell') = true := by
 obtain ⟨secs, s1, s2, b0, b1, b2, b3⟩ := r;simp [dC, s1.one, b0.one, b1.one, b2.one, b3.one, hw];simp [Value.oneCell']
theorem z5r {d : D} (hr : bR w.heap F v d) (ok : d.ok) (hn : d.waits.length <= 1000000000000) (s : Step) {u : Value} (hu : BytesAt w.heap F u s.b) : Calls prog 86 #[v, .agg #[.int .i64 s.what, .int .i64 s.n, .int .i64 s.many, u]] w (gK w F (d.step s)) := by
 obtain ⟨sv, t0, t1, t2, t3, wv, rfl, rb, st⟩ := hr;obtain ⟨us, z0u, z9v, z0v⟩ := st.src;have hul : us.length = d.waits.length := by rw [<-z0u]; simp
 obtain ⟨wa, wc, rfl, _, _⟩ := st.slice;obtain ⟨ua, uc, eu⟩ := hu.slice;generalize s.b.length = ul at eu;subst eu;rw [<-hul] at z0v;have HN := hd1 (show us.length <= 1000000000000 by omega);have HL := hd1 hul;obtain ⟨b0, r0, r1, r2, z0⟩ := y6m w (dC d.many d.room sv t0 t1 t2 t3 (.slice wa d.waits.length wc) d.dead d.stops) #[.int .i64 s.what, .int .i64 s.n, .int .i64 s.many, .slice ua ul uc];obtain ⟨C, hC⟩ := G5 (dC d.many d.room sv t0 t1 t2 t3 (.slice wa d.waits.length wc) d.dead d.stops);have c7 : C[7]? = some (.slice wa d.waits.length wc) := by rw [<-hC]; rfl
 have bN : C.size = 10 := by rw [<-hC]; rfl
 rw [hC] at b0 r0 r1 r2 z0;obtain ⟨W0, hW0⟩ := G5 (stepW w C #[.int .i64 s.what, .int .i64 s.n, .int .i64 s.many, .slice ua ul uc]);rw [hW0] at b0 r0 r1 r2 z0;have hr0 : bR W0.heap (λ k => F k /\ k < w.heap.size) (.agg C) d := by
  rw [<-hC];exact ⟨sv, t0, t1, t2, t3, _, rfl, rb.keeps (λ k _ hl => b0.block k hl) (λ k h hl => ⟨h, hl⟩), st.keeps (λ k _ hl => b0.block k hl) (λ k h hl => ⟨h, hl⟩)⟩
 have GO := hd1 (z6t hr0 ok);have qo := hd3 z0u z9v z0v;have HD := hd8 b0 r0 hu r1 r2 z0 c7 bN;rw [hC];clear hC hr0 rb st ok b0 r0 r1 r2 z0 z0u z9v z0v hu c7 bN hn hul;rcases Cv d with h0 | h0
 ·have uQ := hd1 (GO.mono (R' := λ e w' => gK W0 (λ k => F k /\ k < w.heap.size) (d.goes.1, 0) e w') λ e w' ⟨v, h1, h2⟩ => ⟨v, by rw [h0] at h1; exact h1, h2⟩)
  have E0 := hd1 h0;clear GO;go_in;go_upto_region 1 with fail
  clear hW0
  go_upto_region 3 with (first
   | (refine G_ HD.2.1 Hu (by rw [aH, HD.2.2.2.2.2.2.2]) ?_)
   | (go_at_call 91; refine uQ.mono ?_; rintro e W1 ⟨v1, rfl, hb1, gW, u0, u1, u2, u3, wv1, rfl, dI, st1⟩
      have R1 := hd3 hb1 dI st1;clear hb1 dI st1)
   | (refine aC rfl af _ _ rfl W1.heap.size _ rfl rfl af bV (IC W1 _) aH rfl (mZ R1.2.1 R1.2.2 _ _ _ _) ?_
      intro W2 HW2 cu HS2))
  have zz := R1.1.size;have z0 := HD.2.2.2.2.2.1;have z2 : W2.heap.size = W1.heap.size + 1 := by rw [HS2]; simp
  have old : ∀ k o, k < W1.heap.size -> W1.heap[k]? = some o -> W2.heap[k]? = some o := λ k o hk ho => (cu.block k N_ GR).trans (aM hk ho);have Dl : Below w w W1 := HD.1.trans (R1.1.mono GR);have Dk : Below w w W2 := Moves.new (Dl.alloc GR _) cu GR;have rb2 : RB W2.heap (plus (λ k => F k /\ k < w.heap.size) W0 W1) gW u0 u1 u2 u3 d.goes.1.lasts d.goes.1.many := R1.2.1.keeps (λ k _ hl => (cu.block k N_ GR).trans (heap_old_own _ _ _ hl)) (λ _ h _ => h);have GG : Hid (∀ k, plus (λ k => F k /\ k < w.heap.size) W0 W1 k -> (F k /\ k < w.heap.size) \/ (w.heap.size + 3 <= k /\ k ≠ W1.heap.size)) := λ k hk => by
   rcases hk with hk | hk
   ·exact Iy hk
   ·exact Iz ⟨GR, GR⟩
  have ROW := hd5 (Iu Dk rb2) (Iu (old _ _ GR ((R1.1.block _ GR).trans HD.2.1)) (old _ _ GR ((R1.1.block _ GR).trans HD.2.2.2.1))) (old _ _ GR ((R1.1.block _ GR).trans HD.2.2.2.2.1)) HW2.out (show w.heap.size + 3 <= W1.heap.size by omega);have HUL := hd1 (show (Value.slice wa d.waits.length wc) = .slice wa us.length wc by rw [HL.out]);have h0 := E0.out;clear cu HS2 HW2 zz z0 z2 old Dl Dk rb2;have x7 : ∀ x : Wd (Below W2 W2), x.world.cell? (w.heap.size, 7) = some (.slice wa d.waits.length wc) := λ x => (x.ok.cell (p := ⟨w.heap.size, 7, none⟩) (aa ROW.2.1.1)).trans (ae ROW.2.1.1 HD.2.2.2.2.2.2.1);have LD : Hid (∀ w', (∃ x : Wd (Below W2 W2), w' = x.world) -> (Instr.loadAt bJ (.pointer (some (w.heap.size + 1, 0)))).run prog w' = .ok (.agg #[.int .i64 s.what, .int .i64 s.n, .int .i64 s.many, .slice ua ul uc]) w') := by
   rintro w' ⟨x, rfl⟩;exact fK ((x.ok.block _ (aa ROW.2.1.2)).trans ROW.2.1.2) Ii rfl qV
  have ne : Nonempty (Wd (Below W2 W2)) := ⟨⟨_, Below.refl _ _⟩⟩;have H0 := hd1 h0;clear h0;refine bC (λ w' => ∃ x : Wd (Below W2 W2), w' = x.world) [8] GQ ?_;refine aI [1, 2, 4] 6 _ Hq GQ ?_;simp only [fmc, fmn, gta, gcs, gcz];refine ak (λ K hK => ?_); simp only [au, ah]; go_simp; refine hK _ ?_; clear hK K;refine ak (λ K hK => ?_); simp only [au, ah]; go_simp; refine hK _ ?_; clear hK K;refine dX rfl bJ (.tmp 3) rfl _ LD.out ?_;refine aA ?_;refine Ad 0 5 5 _ _ _ rfl rfl GQ ?_ ?_
  ·refine IE rfl λ K hK => ?_
   go_simp;have nA : Below W2 W2 (W2.alloc (.cells #[] bJ)).drew := (bla).drew;have yx : (W2.alloc (.cells #[] bJ)).drew.ownsRow W2.heap.size bJ 4 (.slice (some W2.heap.size) 0 0) 0 [] := z7h W2;refine hK _ _ (IB ⟨rfl, λ _ => ⟨⟨_, nA⟩, rfl⟩, ?_⟩);clear hK K;have DN := hd1 yx;have zA : (W2.alloc (.cells #[] bJ)).drew.heap.size = W2.heap.size + 1 := by show (W2.alloc (.cells #[] bJ)).heap.size = _; simp
   have ZA := hd1 zA;clear yx zA;generalize (W2.alloc (.cells #[] bJ)).drew = WA at *;refine Ad 3 5 4 _ _ _ rfl rfl GQ ?_ ?_
   ·refine El rfl (.tmp 15) (.tmp 17) ve rfl W2.heap.size W2.heap.size W2 nA GZ bJ (.agg #[.int .i64 0, .int .i64 0, .int .i64 0, .slice none 0 0]) 4 48 Il vZ rfl GU _ 0 [] rfl DN.out _ us.length (gP us) HUL.out (qo.2.2.below (ROW.1.1.trans (nA.mono ROW.1.1.size))) MX (Hf HN.out) nA.size ?_
    intro v3 W3 iF hb3 _;rw [I8, Ji] at iF;refine IB ⟨rfl, λ _ => ⟨⟨_, hb3⟩, rfl⟩, ?_⟩;refine az 5 3 _ _ rfl GQ ?_;refine IE rfl λ K hK => ?_;go_simp;have hb4 : Below W2 W2 (W3.alloc (.cells #[.int .i64 s.what, .int .i64 s.n, .int .i64 s.many, .slice ua ul uc] bJ)) := hb3.alloc hb3.size _;have gb := IC W3 (.cells #[.int .i64 s.what, .int .i64 s.n, .int .i64 s.many, .slice ua ul uc] bJ);have kP := hd1 (bi iF.out (GY.alloc GZ (.cells #[.int .i64 s.what, .int .i64 s.n, .int .i64 s.many, .slice ua ul uc] bJ)) GZ);have GB := hd1 gb;refine hK _ _ (IB ⟨rfl, λ _ => ⟨⟨_, hb4⟩, rfl⟩, ?_⟩);clear hK K;clear gb;generalize W3.alloc (.cells #[.int .i64 s.what, .int .i64 s.n, .int .i64 s.many, .slice ua ul uc] bJ) = W4 at *;generalize W3.heap.size = gn at *;refine az 6 2 _ _ rfl GQ ?_;refine lS rfl (.tmp 18) (.tmp 20) ve rfl W2.heap.size W2.heap.size W2 hb4 GZ bJ (.agg #[.int .i64 0, .int .i64 0, .int .i64 0, .slice none 0 0]) 4 48 Il vZ rfl GU _ us.length (gP us) rfl kP.out _ 1 [.int .i64 s.what, .int .i64 s.n, .int .i64 s.many, .slice ua ul uc] rfl (EU GB.out rfl) MX (Hf HN.out) hb4.size ?_;exact Oi
   ·refine IE rfl λ K hK => ?_
    go_simp;have hb4 : Below W2 W2 (WA.alloc (.cells #[.int .i64 s.what, .int .i64 s.n, .int .i64 s.many, .slice ua ul uc] bJ)) := nA.alloc nA.size _;have gb := IC WA (.cells #[.int .i64 s.what, .int .i64 s.n, .int .i64 s.many, .slice ua ul uc] bJ);have OWB := hd1 (bi DN.out (GY.alloc GZ (.cells #[.int .i64 s.what, .int .i64 s.n, .int .i64 s.many, .slice ua ul uc] bJ)) GZ);have zB : (WA.alloc (.cells #[.int .i64 s.what, .int .i64 s.n, .int .i64 s.many, .slice ua ul uc] bJ)).heap.size = WA.heap.size + 1 := GV;refine hK _ _ (IB ⟨rfl, λ _ => ⟨⟨_, hb4⟩, rfl⟩, ?_⟩);clear hK K;have D7 := hd1 gb;have ZB := hd1 zB;clear gb zB;generalize WA.alloc (.cells #[.int .i64 s.what, .int .i64 s.n, .int .i64 s.many, .slice ua ul uc] bJ) = WB at *;refine az 3 3 _ _ rfl GQ ?_;refine El rfl (.tmp 15) (.tmp 17) ve rfl W2.heap.size W2.heap.size W2 hb4 GZ bJ (.agg #[.int .i64 0, .int .i64 0, .int .i64 0, .slice none 0 0]) 4 48 Il vZ rfl GU _ 0 [] rfl OWB.out _ us.length (gP us) HUL.out (qo.2.2.below (ROW.1.1.trans (hb4.mono ROW.1.1.size))) MX (Hf HN.out) hb4.size ?_;intro v3 W4 kP hb5 hkk;rw [I8, Ji] at kP;have GB : Hid (W4.heap[WA.heap.size]? = some (.cells #[.int .i64 s.what, .int .i64 s.n, .int .i64 s.many, .slice ua ul uc] bJ)) := by
     have hz := ZA.out;have hz2 := ZB.out;rw [show W4.heap[WA.heap.size]? = WB.heap[WA.heap.size]? from hkk _ GR (λ e => by have e' : W2.heap.size = WA.heap.size := IM e; omega)];exact D7.out
    refine IB ⟨rfl, λ _ => ⟨⟨_, hb5⟩, rfl⟩, ?_⟩;clear hkk;generalize WA.heap.size = gn at *;refine az 6 2 _ _ rfl GQ ?_;refine lS rfl (.tmp 18) (.tmp 20) ve rfl W2.heap.size W2.heap.size W2 hb5 GZ bJ (.agg #[.int .i64 0, .int .i64 0, .int .i64 0, .slice none 0 0]) 4 48 Il vZ rfl GU _ us.length (gP us) rfl kP.out _ 1 [.int .i64 s.what, .int .i64 s.n, .int .i64 s.many, .slice ua ul uc] rfl (EU GB.out rfl) MX (Hf HN.out) hb5.size ?_;exact Oi
  ·refine IE rfl λ K hK => ?_
   go_simp;have hb4 : Below W2 W2 (W2.alloc (.cells #[.int .i64 s.what, .int .i64 s.n, .int .i64 s.many, .slice ua ul uc] bJ)).drew := (bla).drew;have gb : (W2.alloc (.cells #[.int .i64 s.what, .int .i64 s.n, .int .i64 s.many, .slice ua ul uc] bJ)).drew.heap[W2.heap.size]? = _ := IC W2 (.cells #[.int .i64 s.what, .int .i64 s.n, .int .i64 s.many, .slice ua ul uc] bJ);have zB : (W2.alloc (.cells #[.int .i64 s.what, .int .i64 s.n, .int .i64 s.many, .slice ua ul uc] bJ)).drew.heap.size = W2.heap.size + 1 := by show (W2.alloc (.cells #[.int .i64 s.what, .int .i64 s.n, .int .i64 s.many, .slice ua ul uc] bJ)).heap.size = _; simp
   refine hK _ _ (IB ⟨rfl, λ _ => ⟨⟨_, hb4⟩, rfl⟩, ?_⟩);clear hK K;have D7 := hd1 gb;have ZB := hd1 zB;clear gb zB;generalize (W2.alloc (.cells #[.int .i64 s.what, .int .i64 s.n, .int .i64 s.many, .slice ua ul uc] bJ)).drew = WB at *;refine az 0 4 _ _ rfl GQ ?_;refine IE rfl λ K hK => ?_;go_simp;have nA : Below W2 W2 (WB.alloc (.cells #[] bJ)) := hb4.alloc hb4.size _;have yx := bi (z7h WB) GY hb4.size;refine hK _ _ (IB ⟨rfl, λ _ => ⟨⟨_, nA⟩, rfl⟩, ?_⟩);clear hK K;have DN := hd1 yx;have zA : (WB.alloc (.cells #[] bJ)).heap.size = WB.heap.size + 1 := GV;have GB1 := hd1 (aM (o' := .cells #[] bJ) (aa D7.out) D7.out);have ZA := hd1 zA;clear yx zA;generalize WB.alloc (.cells #[] bJ) = WA at *;refine az 3 3 _ _ rfl GQ ?_;refine El rfl (.tmp 15) (.tmp 17) ve rfl W2.heap.size W2.heap.size W2 nA GZ bJ (.agg #[.int .i64 0, .int .i64 0, .int .i64 0, .slice none 0 0]) 4 48 Il vZ rfl GU _ 0 [] rfl DN.out _ us.length (gP us) HUL.out (qo.2.2.below (ROW.1.1.trans (nA.mono ROW.1.1.size))) MX (Hf HN.out) nA.size ?_;intro v3 W4 kP hb5 hkk;rw [I8, Ji] at kP;have GB : Hid (W4.heap[W2.heap.size]? = some (.cells #[.int .i64 s.what, .int .i64 s.n, .int .i64 s.many, .slice ua ul uc] bJ)) := by
    have hz := ZA.out;have hz2 := ZB.out;rw [show W4.heap[W2.heap.size]? = WA.heap[W2.heap.size]? from hkk _ GR (λ e => by have e' : WB.heap.size = W2.heap.size := IM e; omega)];exact GB1.out
   refine IB ⟨rfl, λ _ => ⟨⟨_, hb5⟩, rfl⟩, ?_⟩;clear hkk;refine az 6 2 _ _ rfl GQ ?_;refine lS rfl (.tmp 18) (.tmp 20) ve rfl W2.heap.size W2.heap.size W2 hb5 GZ bJ (.agg #[.int .i64 0, .int .i64 0, .int .i64 0, .slice none 0 0]) 4 48 Il vZ rfl GU _ us.length (gP us) rfl kP.out _ 1 [.int .i64 s.what, .int .i64 s.n, .int .i64 s.many, .slice ua ul uc] rfl (EU GB.out rfl) MX (Hf HN.out) hb5.size ?_;exact Oi
 ·have uQ := hd1 (GO.mono (R' := λ e w' => gK W0 (λ k => F k /\ k < w.heap.size) (d.goes.1, 281) e w') λ e w' ⟨v, h1, h2⟩ => ⟨v, by rw [h0] at h1; exact h1, h2⟩)
  clear GO;have e2 : d.step s = (d.goes.1, 281) := by unfold D.step; rw [Iw GR, h0]
  have E2 := hd1 e2;clear e2 h0;go_in;go_upto_region 1 with fail
  clear hW0
  go_wp2_with (first
   | (refine G_ HD.2.1 Hu (by rw [aH, HD.2.2.2.2.2.2.2]) ?_)
   | (go_at_call 91; refine uQ.mono ?_; rintro e W1 ⟨v1, rfl, hb1, gW, u0, u1, u2, u3, wv1, rfl, dI, st1⟩
      have R1 := hd3 hb1 dI st1;clear hb1 dI st1)
   | (refine aC rfl af _ _ rfl W1.heap.size _ rfl rfl af bV (IC W1 _) aH rfl (mZ R1.2.1 R1.2.2 _ _ _ _) ?_
      intro W2 HW2 cu HS2)
   | (refine G_ HW2.out Hu aH ?_)
   | (refine aC rfl af _ _ rfl (w.heap.size + 1 + 1) _ rfl rfl af bV ((cu.block _ (by have := R1.1.size; have := HD.2.2.2.2.2.1; simp; omega) (Hg R1.1.size HD.2.2.2.2.2.1)).trans (aM (Hg R1.1.size HD.2.2.2.2.2.1) ((R1.1.block _ (aa HD.2.2.2.2.1)).trans HD.2.2.2.2.1))) aH rfl (mZ R1.2.1 R1.2.2 _ _ _ _) ?_
      intro W8 fB dA jw))
  refine Ha fB.out Hu aH ?_;rw [E2.out];have zz := R1.1.size;have z0 := HD.2.2.2.2.2.1;have Dl : Below w w W1 := HD.1.trans (R1.1.mono GR);have Dk : Below w w W2 := Moves.new (Dl.alloc GR _) cu GR;have bw8 : Below w w W8 := Moves.new Dk dA GR;have keep : ∀ k, plus (λ k => F k /\ k < w.heap.size) W0 W1 k -> k < W1.heap.size -> W8.heap[k]? = W1.heap[k]? := λ k hk hl => by
   have hk2 : k ≠ w.heap.size + 1 + 1 := by rcases hk with hk | hk <;> omega
   rw [dA.block k (by rw [HS2]; simp; omega) hk2, cu.block k N_ GR];exact heap_old_own _ _ _ hl
  have big : ∀ k, plus (λ k => F k /\ k < w.heap.size) W0 W1 k -> k < W1.heap.size -> plus F w W8 k := λ k hk hl => by
   rcases hk with hk | hk
   ·exact Iy hk.1
   ·exact Iz ⟨GR, by rw [jw, HS2]; simp; omega⟩
  exact ⟨_, rfl, bw8, gW, u0, u1, u2, u3, wv1, rfl, R1.2.1.keeps keep big, R1.2.2.keeps keep big⟩
theorem Be {W5 : World} {d : D} (hr : bR w.heap F v d) (hb : Below w w W5) : gK w F (d, c) (.returned (.tuple #[v, .int .i64 c])) W5 := ⟨v, rfl, hb, hr.plus hb⟩
theorem Fs {W4 W5 : World} {d : D} (hb0 : Below w w W0) (z0 : W0.heap.size = w.heap.size + 2) (hb4 : Below W0 W0 W4) (hr : bR W4.heap G v d) (hG : ∀ k, G k -> (F k /\ k < w.heap.size) \/ w.heap.size + 2 <= k) (hM : Moves (λ k => k = w.heap.size + 1) W4 W5) :
 gK w F (d, c) (.returned (.tuple #[v, .int .i64 c])) W5 := by
 have z4 := hb4.size;have z5 := hM.size;have hb5 : Below w w W5 := Moves.new (hb0.trans (hb4.mono GR)) hM GR;refine ⟨v, rfl, hb5, hr.keeps (λ k hk hl => hM.block k hl ?_) (λ k hk hl => ?_)⟩
 ·rcases hG k hk with h | h
  ·omega
  ·omega
 ·exact Qp
structure zH (w W0 : World) (F : Nat -> Prop) (C : Array Value) (d : D) : Prop where
 below : Below w.heap.size w W0
 r0 : W0.heap[w.heap.size]? = some (.cells C af (0, 0))
 r1 : W0.heap[w.heap.size + 1]? = some (.cells bV af (0, 0))
 size : W0.heap.size = w.heap.size + 2
 ref : bR w.heap F (.agg C) d
 bN : C.size = 10
 ones : C.all (·.oneCell') = true
 c0 : C[0]? = some (.int .i64 d.many)
 c1 : C[1]? = some (.int .i64 d.room)
theorem yl {d : D} (hr : bR w.heap F v d) : ∃ C, v = .agg C /\ zH w (jQ w C) F C d := by
 have hr0 := hr;obtain ⟨sv, t0, t1, t2, t3, wv, rfl, rb, st⟩ := hr;refine ⟨_, rfl, ?_⟩;obtain ⟨b0, r0, r1, z0⟩ := Fu w (dC d.many d.room sv t0 t1 t2 t3 wv d.dead d.stops);exact ⟨b0, r0, r1, z0, hr0, rfl, mZ rb st _ _ _ _, rfl, rfl⟩
def xq (F : Nat -> Prop) (w : World) : Nat -> Prop := λ k => (F k /\ k < w.heap.size) \/ w.heap.size + 2 <= k
theorem zH.at {X : World} {d : D} (h : zH w W0 F C d) (hb : Below W0 W0 X) : bR X.heap (xq F w) (.agg C) d :=
 h.ref.keeps (λ k _ hl => (hb.block k (Hf h.size)).trans (h.below.block k hl)) (λ k hk hl => Iy ⟨hk, hl⟩)
theorem x3h {X : World} {base : Nat} (h : bY X base v l) (hb : w.heap.size + 2 <= base) : BytesAt X.heap (xq F w) v l :=
 h.bytes.bytes.keeps (λ _ _ _ => rfl) (λ k hk _ => Iz (by have : base <= k := hk; omega))
theorem F5 {X Y : World} (hX : w.heap.size + 2 <= X.heap.size) : ∀ k, plus (xq F w) X Y k -> (F k /\ k < w.heap.size) \/ w.heap.size + 2 <= k := λ k hk => by
 exact Q5
theorem BytesIn.src (x : BytesIn w.heap G v l) : oH w 1 v l.length (l.map bL) := by
 rcases x with ⟨⟨ad, c, rfl⟩, rfl⟩ | x
 ·exact Iz ⟨ad, c, rfl, rfl, λ j u hj => by simp at hj, λ u hu => by simp at hu⟩
 ·exact x.src
theorem y3a {ops : Array Oper} {rest : List Oper} {o : Oper} {a : Act} {Q : Exit -> Act -> World -> Prop} (hgd : o.guard = none) (s x : Operand)
 (ho : o.op = .call { callee := .builtin .append, args := #[s, x], argTypes := #[df, df] })
 (B base : Nat) (w0 : World) (hb : Below B w0 w) (hB : B <= base) (v : Value) (l1 : List UInt8) (hs : a.eval s = v) (hown : bY w base v l1)
 (v2 : Value) (l2 : List UInt8) (G : Nat -> Prop) (hx : a.eval x = v2) (hsrc : BytesIn w.heap G v2 l2)
 (hl : l1.length + l2.length <= 1099511627776) (hbase : base <= w.heap.size)
 (h : ∀ v' w', Hid (bY w' base v' (l1 ++ l2)) -> Below B w0 w' -> Below base w w' -> wpList prog ops Q rest (a.put o.dst v') w') : wpList prog ops Q (o :: rest) a w := by
 exact Pw
theorem z4n {d : D} (ok : d.ok) : ∀ t, (d.stand.tp t).length <= 1048576 := λ t => Hg (kC ok t) ok.fE
theorem FK {d : D} (hr : bR w.heap F v d) (ok : d.ok) (hn : d.waits.length <= 1000000000000) (n : Int) {bv : Value} (hv : BytesIn w.heap G bv l) (hl : l.length <= 4000000) :
 Calls prog 51 #[v, .int .i64 n, bv] w (gK w F (d.append n l)) := by
 obtain ⟨C, rfl, hin⟩ := yl hr;obtain ⟨W0, hW0⟩ := G5 (jQ w C);rw [hW0] at hin;obtain ⟨ba, bc, eb⟩ := hv.slice;subst eb;have aD := hd1 hin;have HV := hd1 hv;have OK := hd3 ok hn hl;have u0 := Ah d.stand;have u1 := Eu ok;have hw : IntKind.i64.wrap (d.stand.used + (l.length : Int)) = d.stand.used + (l.length : Int) := Ja _ GR;clear hin hv ok hn hr;by_cases h1 : n < 0 \/ n > 3
 ·have e : d.append n l = (d, 4) := by unfold D.append; rw [IA h1]
  rw [e];clear e;by_cases hn0 : n < 0
  all_goals
   have hn2 : ¬ n < 0 -> 3 < n := λ h => GR;simp only [hn0, not_true_eq_false, LB, forall_const, false_implies] at hn2;clear h1 hw;go_in;go_upto_region 1 with fail
   clear hW0
   go_wp2_with (first
    | (refine G_ aD.r0 Hu NQ ?_)
    | (refine aC rfl af _ _ rfl (w.heap.size + 1) _ rfl rfl af bV aD.r1 NQ NF aD.ones ?_
       intro W5 aF aB bf))
   refine Ha aF.out Hu NQ ?_;exact Be aD.ref (Moves.new aD.below aB GR)
 ·have n1 : ¬ n < 0 := GR
  have n2 : ¬ 3 < n := GR;have ne : Nonempty (Wd (Below W0 W0)) := ⟨⟨_, Below.refl _ _⟩⟩;have x1 : ∀ x : Wd (Below W0 W0), x.world.cell? (w.heap.size, 1) = some (.int .i64 d.room) := λ x => (x.ok.cell (p := ⟨w.heap.size, 1, none⟩) (aa aD.r0)).trans (ae aD.r0 aD.c1);have LD : Hid (∀ w', (∃ x : Wd (Below W0 W0), w' = x.world) -> (Instr.loadAt af (.pointer (some w.heap.size))).run prog w' = .ok (.agg C) w') := by
   rintro w' ⟨x, rfl⟩;exact fK ((x.ok.block _ (aa aD.r0)).trans aD.r0) Hu rfl NQ
  have ST := hd1 (qI (aD.at (X := W0.drew) GY.drew) OK.1 OK.2.1);have hcase : (d.append n l = (d, 280) /\ d.room < d.stand.used + (l.length : Int)) \/ (d.append n l = d.step ⟨2, n, 0, l⟩ /\ ¬ d.room < d.stand.used + (l.length : Int)) := by
   unfold D.append;rw [Iw h1];by_cases h2 : d.stand.used + (l.length : Int) > d.room
   ·exact Iy ⟨by rw [IA h2], h2⟩
   ·exact Iz ⟨by rw [Iw h2], h2⟩
  clear h1;rcases hcase with ⟨e, h2⟩ | ⟨e, h2⟩
  all_goals
   rw [e];clear e;go_in;go_upto_region 1 with fail
   clear hW0;go_upto_region 3 with fail
   refine bC (λ w' => ∃ x : Wd (Below W0 W0), w' = x.world) [] GQ ?_;refine aI [0, 3, 4, 6, 7] 4 _ Hq GQ ?_;simp only [fmc, fmn, gta, gcs, gcz];refine dX rfl af (.tmp 3) rfl _ LD.out ?_;repeat refine G8 ?_
   refine aA ?_;refine az 1 3 _ _ rfl GQ ?_;refine IE rfl λ K hK => ?_;go_simp;go_at_call 49;refine ST.mono ?_;rintro e X1 ⟨sv, t0, t1, t2, t3, rfl, hbx, m_⟩;have Cc : Below W0 W0 X1 := GY.drew.trans hbx;have RX := hd1 m_;clear m_ hbx;refine hK _ _ (IB ⟨rfl, λ _ => ⟨⟨_, Cc⟩, rfl⟩, ?_⟩);clear hK K;refine az 2 2 _ _ rfl GQ ?_;refine IE rfl λ K hK => ?_;go_simp;go_at_call 87;refine (y7s RX.out (z4n OK.1)).mono ?_;rintro e Y0 ⟨rfl, hby⟩;have pO : Below W0 W0 Y0 := Cc.trans (hby.mono Cc.size);clear hby Cc RX;refine hK _ _ (IB ⟨rfl, λ _ => ⟨⟨_, pO⟩, rfl⟩, ?_⟩);clear hK K;refine aI [5, 8] 0 _ ⟨⟨_, pO⟩, rfl⟩ GQ ?_;refine G9 ?_;refine ⟨GQ, ?_⟩
  ·clear hw x1
   go_wp2_with (first
    | (refine G_ ((pO.block _ (aa aD.r0)).trans aD.r0) Hu NQ ?_)
    | (refine aC rfl af _ _ rfl (w.heap.size + 1) _ rfl rfl af bV ((pO.block _ (aa aD.r1)).trans aD.r1) NQ NF aD.ones ?_
       intro W5 aF aB bf))
   refine Ha aF.out Hu NQ ?_;exact Be aD.ref (Moves.new (aD.below.trans (pO.mono aD.below.size)) aB GR)
  ·clear hw x1
   go_upto_region 5 with fail
   refine bC (λ w' => ∃ x : Wd (Below W0 W0), w' = x.world) [9, 10] GQ ?_;refine aI [0, 1, 3] 8 _ ⟨⟨_, pO.drew⟩, rfl⟩ GQ ?_;simp only [fmc, fmn, gta, gcs, gcz];refine dX rfl af (.tmp 3) rfl _ LD.out ?_;repeat refine G8 ?_
   refine aA ?_;refine az 2 7 _ _ rfl GQ ?_;refine IE rfl λ K hK => ?_;go_simp;have hb1 : Below W0 W0 (Y0.alloc (.cells #[] bT)).drew := (pO.alloc pO.size _).drew;have qP : bY (Y0.alloc (.cells #[] bT)).drew W0.heap.size (.slice (some Y0.heap.size) 0 0) [] := bi (Bu Y0) GY.drew pO.size;refine hK _ _ (IB ⟨rfl, λ _ => ⟨⟨_, hb1⟩, rfl⟩, ?_⟩);clear hK K;have lJ := hd1 qP;clear qP;generalize (Y0.alloc (.cells #[] bT)).drew = W1 at *;refine az 4 6 _ _ rfl GQ ?_;refine y3a rfl (.tmp 27) (.tmp 28) rfl W0.heap.size W0.heap.size W0 hb1 GZ _ [] rfl lJ.out _ l G rfl (HV.keeps (λ k _ hl => (hb1.block k (Hf aD.size)).trans (aD.below.block k hl)) (λ _ h _ => h)) (by have := OK.2.2; simp; omega) hb1.size ?_;intro v1 W2 jv hb2 _;refine IB ⟨rfl, λ _ => ⟨⟨_, hb2⟩, rfl⟩, ?_⟩;rw [Ji] at jv;have wN := x3h (F := F) (w := w) jv.out (Hf aD.size);obtain ⟨a2, c2, rfl⟩ := wN.slice;have SC := hd1 (z5r (aD.at hb2) OK.1 OK.2.1 ⟨2, n, 0, l⟩ wN);clear wN;generalize l.length = ll at *;refine aI [5] 5 _ ⟨⟨_, hb2⟩, rfl⟩ GQ ?_;refine G9 ?_;refine az 6 4 _ _ rfl GQ ?_;refine IE rfl λ K hK => ?_;go_simp;go_at_call 86;refine SC.mono ?_;rintro e W3 ⟨v3, rfl, hb3, hr3⟩;obtain ⟨sv, t0, t1, t2, t3, wv, ev, rb, st⟩ := id hr3;subst ev;have qX : Below W0 W0 W3 := hb2.trans (hb3.mono hb2.size);have R3 := hd2 hr3 (mZ rb st);clear rb st hr3 hb3;refine hK _ _ (IB ⟨rfl, λ _ => ⟨⟨_, qX⟩, rfl⟩, ?_⟩);clear hK K;refine aI [7, 8] 2 _ ⟨⟨_, qX⟩, rfl⟩ GQ ?_;refine G9 ?_;refine az 9 1 _ _ rfl GQ ?_;refine aC rfl af _ _ rfl (w.heap.size + 1) _ rfl rfl af bV ((qX.block _ (aa aD.r1)).trans aD.r1) aH rfl (R3.2 _ _ _ _) ?_
   intro W5 aF aB bf;refine IB ⟨rfl, λ h => absurd GU h, ?_⟩;have H5 := hd1 aB;clear aB bf;refine az 10 0 _ _ rfl GQ ?_;refine IE rfl λ K hK => ?_;go_simp;refine hK _ _ (IB ⟨rfl, λ h => absurd GU h, GQ, ?_⟩);clear hK K;go_wp2;refine Ha aF.out Hu aH ?_;exact Fs aD.below aD.size qX R3.1 (F5 (Hg hb2.size aD.size)) H5.out
theorem z7u {d : D} (hr : bR w.heap F v d) (ok : d.ok) (hn : d.waits.length <= 1000000000000) (n : Int) {bv : Value} (hv : BytesAt w.heap G bv l) (hl : l.length <= 4000000) :
 Calls prog 51 #[v, .int .i64 n, bv] w (gK w F (d.append n l)) := FK hr ok hn n (Iz hv) hl
theorem FM {d : D} (hr : bR w.heap F v d) (ok : d.ok) (hn : d.waits.length <= 1000000000000) (n : Int) {bv : Value} (hv : BytesAt w.heap G bv l) (hl : l.length <= 1048576) :
 Calls prog 51 #[v, .int .i64 n, bv] w (gK w F (d.append n l)) := z7u hr ok hn n hv (IP hl GU)
theorem zH.at0 {X : World} {d : D} (h : zH w W0 F C d) (hb : Below W0 W0 X) : bR X.heap (λ k => F k /\ k < w.heap.size) (.agg C) d :=
 h.ref.keeps (λ k _ hl => (hb.block k (Hf h.size)).trans (h.below.block k hl)) (λ k hk hl => ⟨hk, hl⟩)
theorem sD {d : D} (hr : bR w.heap F v d) (ok : d.ok) (hn : d.waits.length <= 1000000000000) : Calls prog 53 #[v] w (gK w F d.sync) := by
 obtain ⟨C, rfl, hin⟩ := yl hr;obtain ⟨W0, hW0⟩ := G5 (jQ w C);rw [hW0] at hin;have aD := hd1 hin;have OK := hd2 ok hn;have GO := hd1 (z6t (hin.at GY) ok);clear hin hr ok hn;rcases Cv d with h0 | h0
 ·have uQ := hd1 (GO.mono (R' := λ e w' => gK W0 (xq F w) (d.goes.1, 0) e w') λ e w' ⟨v, h1, h2⟩ => ⟨v, by rw [h0] at h1; exact h1, h2⟩)
  have e2 : d.sync = ({ d.goes.1 with lasts := d.stand, waits := [] }, 0) := by unfold D.sync; rw [IA h0]
  rw [e2];clear GO e2 h0;go_in;go_upto_region 1 with fail
  clear hW0
  go_upto_region 4 with (first
   | (refine II rfl af (.tmp 1) rfl w.heap.size rfl af C (0, 0) _ aD.r0 Hu rfl NQ ?_)
   | (go_at_call 91; refine uQ.mono ?_; rintro e W1 ⟨v1, rfl, hb1, gW, u0, u1, u2, u3, wv1, rfl, dI, st1⟩
      have R1 := hd3 hb1 dI st1;clear hb1 dI st1)
   | (refine aC rfl af _ _ rfl W1.heap.size _ rfl rfl af bV (IC W1 _) aH rfl (mZ R1.2.1 R1.2.2 _ _ _ _) ?_
      intro W2 HW2 cu HS2;have z2 : W2.heap.size = W1.heap.size + 1 := by rw [HS2]; simp
      have hb2 : Below W0 W0 W2 := Moves.new (R1.1.alloc R1.1.size _) cu R1.1.size;have R2 := hd3 hb2 HW2.out z2;clear cu HS2 HW2 z2 hb2)
   | (refine II rfl af (.tmp 1) rfl w.heap.size rfl af C (0, 0) _ ((R2.1.block _ (aa aD.r0)).trans aD.r0) Hu rfl NQ ?_)
   | (go_at_call 49; refine (qI (aD.at0 R2.1) OK.1 OK.2).mono ?_; rintro e X1 ⟨sv, t0, t1, t2, t3, rfl, hbx, m_⟩
      have RX := hd3 hbx m_ ((hbx.block _ (aa R2.2.1)).trans R2.2.1);clear hbx m_)
   | (refine nU rfl aO (.tmp 15) (.tmp 14) rfl W1.heap.size 2 #[sv, t0, t1, t2, t3] rfl rfl af _ RX.2.2 bX (by simp [dC]) RX.2.1.ones ?_
      intro W3 HW3 bU fZ;have k7 : ∃ v, W3.cell? (W1.heap.size, 7) = some v := ⟨_, ae HW3.out rfl⟩;have f7 : W3.frozen? ⟨W1.heap.size, 7, none⟩ = false := aZ HW3.out _;obtain ⟨v7, k7⟩ := k7;have R3 := hd2 bU fZ;clear bU fZ))
  have s0 := IQ W3 W1.heap.size 7 _ af (.slice none 0 0) HW3.out;have S0 : Hid ((W3.setCell (W1.heap.size, 7) (.slice none 0 0)).heap[W1.heap.size]? = some (.cells (dC d.goes.1.many d.goes.1.room sv t0 t1 t2 t3 (.slice none 0 0) d.goes.1.dead d.goes.1.stops) af (0, 0))) := s0;have z0 := aD.size;have z1 := R1.1.size;have z2 := R2.2.2;have z3 := RX.1.size;have s1 : (W3.setCell (W1.heap.size, 7) (.slice none 0 0)).heap[w.heap.size + 1]? = some (.cells bV af) := by
   rw [IU _ _ _ _ (by show w.heap.size + 1 ≠ W1.heap.size; omega), R3.1.block _ GR GR, RX.1.block _ GR, R2.1.block _ GR];exact aD.r1
  have S1 := hd1 s1;have blk : ∀ k, k < X1.heap.size -> k ≠ W1.heap.size -> (W3.setCell (W1.heap.size, 7) (.slice none 0 0)).heap[k]? = X1.heap[k]? := λ k hk hne => by
   rw [IU _ _ _ _ hne, R3.1.block _ hk hne]
  have bw : Below w w (W3.setCell (W1.heap.size, 7) (.slice none 0 0)) := by
   refine ⟨R3.1.os.trans (RX.1.os.trans (R2.1.os.trans aD.below.os)), R3.1.tape.trans (RX.1.tape.trans (R2.1.tape.trans aD.below.tape)), R3.1.output.trans (RX.1.output.trans (R2.1.output.trans aD.below.output)), ?_, λ k hk => ?_⟩
   ·have := R3.1.size; simp; omega
   ·rw [blk k GR GR, RX.1.block _ GR, R2.1.block _ GR]
    exact aD.below.block k hk
  have sz7 : (W3.setCell (W1.heap.size, 7) (.slice none 0 0)).heap.size = X1.heap.size := by have := R3.2; simp; omega
  have HB := hd3 bw blk sz7;clear s0 s1 blk bw sz7 k7 f7;generalize (W3.setCell (W1.heap.size, 7) (.slice none 0 0)) = W7 at *
  go_wp2_with (first
   | (refine G_ S0.out Hu aH ?_)
   | (refine aC rfl af _ _ rfl (w.heap.size + 1) _ rfl rfl af bV S1.out aH rfl (yj RX.2.1 rfl _ _ _ _) ?_
      intro W8 fB dA jw))
  refine Ha fB.out Hu aH ?_;have z8 := dA.size;have z9 := HB.2.2;refine ⟨_, rfl, Moves.new HB.1 dA GR, sv, t0, t1, t2, t3, .slice none 0 0, rfl, ?_, Iy ⟨rfl, rfl⟩⟩;rw [q8];refine RX.2.1.keeps (λ k hk hl => ?_) (λ k hk hl => ?_)
  ·rw [dA.block k GR ?_, HB.2.1 k hl ?_]
   ·rcases hk with hk | hk <;> omega
   ·rcases hk with hk | hk <;> omega
  ·exact Ri
 ·have uQ := hd1 (GO.mono (R' := λ e w' => gK W0 (xq F w) (d.goes.1, 281) e w') λ e w' ⟨v, h1, h2⟩ => ⟨v, by rw [h0] at h1; exact h1, h2⟩)
  have e2 : d.sync = (d.goes.1, 281) := by unfold D.sync; rw [Iw GR, h0]
  rw [e2];clear GO e2 h0;go_in;go_upto_region 1 with fail
  clear hW0
  go_wp2_with (first
   | (refine II rfl af (.tmp 1) rfl w.heap.size rfl af C (0, 0) _ aD.r0 Hu rfl NQ ?_)
   | (go_at_call 91; refine uQ.mono ?_; rintro e W1 ⟨v1, rfl, hb1, hr1⟩
      obtain ⟨gW, u0, u1, u2, u3, wv1, ev, dI, st1⟩ := id hr1;subst ev;have R1 := hd3 hb1 (mZ dI st1) hr1;clear hb1 dI st1 hr1)
   | (refine aC rfl af _ _ rfl W1.heap.size _ rfl rfl af bV (IC W1 _) aH rfl (R1.2.1 _ _ _ _) ?_
      intro W2 HW2 cu HS2;have z2 : W2.heap.size = W1.heap.size + 1 := by rw [HS2]; simp
      have hb2 : Below W1 W1 W2 := Moves.new (bla) cu GZ;have R2 := hd3 hb2 HW2.out z2;clear cu HS2 HW2 z2 hb2)
   | (refine G_ R2.2.1 Hu aH ?_)
   | (refine aC rfl af _ _ rfl (w.heap.size + 1) _ rfl rfl af bV ((R2.1.block _ (Hg R1.1.size aD.size)).trans ((R1.1.block _ (aa aD.r1)).trans aD.r1)) aH rfl (R1.2.1 _ _ _ _) ?_
      intro W8 fB dA jw))
  refine Ha fB.out Hu aH ?_;exact Fs aD.below aD.size (R1.1.trans (R2.1.mono R1.1.size)) (R1.2.2.keeps (F' := plus (xq F w) W0 W1) (λ k _ hl => R2.1.block k hl) (λ _ h _ => h)) (F5 (Hf aD.size)) dA
abbrev fD (t : Nat) (b : List UInt8) : Step := ⟨2, t, 0, b⟩
abbrev ji (t : Nat) : Step := ⟨3, t, 0, []⟩
theorem ug (c : bH) (n i : Nat) (s : Step) (x : St) (u : Int) (h : u ≠ s.n) : (eD c n i s x).tp u = x.tp u := by
 unfold eD;split
 ·exact z7l _ _ _ _ h
 ·split
  ·exact CX _ _ _ h
  ·rfl
theorem z1l (c : bH) (n i : Nat) (t : Nat) (b : List UInt8) (x : St) : ∃ k, (eD c n i (fD t b) x).tp t = x.tp t ++ b.take k := by
 unfold eD;split
 ·refine ⟨(pick c.part (b.length + 1)).toNat, ?_⟩
  simp [St.part, St.done, upd]
 ·split
  ·exact ⟨b.length, by simp [St.done, upd]⟩
  ·exact ⟨0, GV⟩
theorem z1m (c : bH) (n i : Nat) (t : Nat) (x : St) : (eD c n i (ji t) x).tp t = if (c.dz n i || !c.kept i) = true then x.tp t else [] := by
 unfold eD;cases h1 : c.dz n i
 ·cases h2 : c.kept i
  ·simp
  ·simp [St.done, upd]
 ·simp [St.part]
theorem zo (d : D) (c : bH) : (d.aT c).stand = eG c d.waits.length d.waits 0 d.lasts (λ _ => false) := rfl
theorem x7t {d : D} (h : d.waits = []) (c : bH) : (d.aT c).stand = d.lasts := by rw [zo, h]; rfl
theorem x7o {d : D} {o : Nat} (h : d.waits = [ji o]) (c : bH) : (∀ u : Int, u ≠ o -> (d.aT c).stand.tp u = d.lasts.tp u) /\ ((d.aT c).stand.tp o = d.lasts.tp o \/ (d.aT c).stand.tp o = []) := by
 rw [zo, h, qd _ _ _ _ _ _ _ GV, eG];refine ⟨λ u hu => ug _ _ _ _ _ _ hu, ?_⟩;rw [z1m];split
 ·exact Iy rfl
 ·exact Iz rfl
theorem y1w {d : D} {t : Nat} {b : List UInt8} (h : d.waits = [fD t b]) (c : bH) : (∀ u : Int, u ≠ t -> (d.aT c).stand.tp u = d.lasts.tp u) /\ ∃ k, (d.aT c).stand.tp t = d.lasts.tp t ++ b.take k := by
 rw [zo, h, qd _ _ _ _ _ _ _ GV, eG];exact ⟨λ u hu => ug _ _ _ _ _ _ hu, z1l _ _ _ _ _ _⟩
theorem x7p {d : D} {t o : Nat} {b : List UInt8} (hto : t ≠ o) (h : d.waits = [ji o, fD t b]) (c : bH) :
 ((d.aT c).stand.tp o = d.lasts.tp o \/ (d.aT c).stand.tp o = []) /\ ∃ k, (d.aT c).stand.tp t = d.lasts.tp t ++ b.take k := by
 have ht : (t : Int) ≠ o := GR;have h2 : ¬ ((fD t b).what ≠ 1 /\ gq c 2 0 (ji o) (λ _ => false) (fD t b).n = true) := by
  rintro ⟨_, h⟩;have : gq c 2 0 (ji o) (λ _ => false) (t : Int) = false := by
   unfold gq;rw [IA (show (3 : Int) ≠ 1 by decide), rY _ _ _ _ ht]
  rw [this] at h;cases h
 rw [zo, h, qd _ _ _ _ _ _ _ GV];show (_ \/ _) /\ _;rw [show ([ji o, fD t b] : List Step).length = 2 from rfl, qd _ _ _ _ _ _ _ h2, eG];refine ⟨?_, ?_⟩
 ·rw [ug _ _ _ _ _ _ (show (o : Int) ≠ (fD t b).n from λ e => ht e.symm), z1m]
  split
  ·exact Iy rfl
  ·exact Iz rfl
 ·obtain ⟨k, hk⟩ := z1l c 2 (0 + 1) t b (eD c 2 0 (ji o) d.lasts)
  exact ⟨k, by rw [hk, ug _ _ _ _ _ _ (show (t : Int) ≠ (ji o).n from ht)]⟩
theorem x7q {d : D} {o : Nat} {b : List UInt8} (h : d.waits = [ji o, fD o b]) (c : bH) :
 (∀ u : Int, u ≠ o -> (d.aT c).stand.tp u = d.lasts.tp u) /\ ((d.aT c).stand.tp o = d.lasts.tp o \/ ∃ k, (d.aT c).stand.tp o = b.take k) := by
 rw [zo, h, qd _ _ _ _ _ _ _ GV, show ([ji o, fD o b] : List Step).length = 2 from rfl];have he : gq c 2 0 (ji o) (λ _ => false) (o : Int) = (c.dz 2 0 || !c.kept 0) := by
  unfold gq;rw [IA (show (3 : Int) ≠ 1 by decide), upd_same]
 have hx := z1m c 2 0 o d.lasts;by_cases hd : (c.dz 2 0 || !c.kept 0) = true
 ·rw [Da _ _ _ _ _ _ _ ⟨show (2 : Int) ≠ 1 by decide, he.trans hd⟩, eG]
  refine ⟨λ u hu => ug _ _ _ _ _ _ hu, Iy ?_⟩;rw [hx, IA hd]
 ·rw [qd _ _ _ _ _ _ _ (λ hh => hd (he.symm.trans hh.2)), eG]
  refine ⟨λ u hu => ?_, Iz ?_⟩
  ·rw [ug _ _ _ _ _ _ hu, ug _ _ _ _ _ _ hu]
  ·obtain ⟨k, hk⟩ := z1l c 2 (0 + 1) o b (eD c 2 0 (ji o) d.lasts)
   exact ⟨k, by rw [hk, hx, Iw hd, Ji]⟩
theorem z9d {d : D} (h : d.dead = false) : (∃ s, d.goes = ({ d with stops := s }, 0)) \/ ∃ s, d.goes = ({ d with dead := true, stops := s }, 281) := by
 have hd : ¬ d.dead = true := by rw [h]; decide
 unfold D.goes;rw [Iw hd];by_cases h0 : d.stops = 0
 ·rw [IA h0]; exact Iz ⟨_, rfl⟩
 ·rw [Iw h0]
  by_cases h1 : d.stops > 0
  ·rw [IA h1]; exact Iy ⟨_, rfl⟩
  ·rw [Iw h1]
   exact Iy ⟨d.stops, rfl⟩
theorem EP {d : D} (h : d.dead = false) (st : Step) : (∃ s, d.step st = ({ d with stops := s, waits := d.waits ++ [st] }, 0)) \/ ∃ s, d.step st = ({ d with dead := true, stops := s }, 281) := by
 unfold D.step;exact QT
theorem Dr {d : D} (h : d.dead = false) {t : Nat} (ht : t <= 1) (b : List UInt8) : d.append t b = (d, 280) \/ (∃ s, d.append t b = ({ d with stops := s, waits := d.waits ++ [fD t b] }, 0)) \/ ∃ s, d.append t b = ({ d with dead := true, stops := s }, 281) := by
 unfold D.append;rw [Iw GR];by_cases hf : d.stand.used + b.length > d.room
 ·rw [IA hf]; exact Iy rfl
 ·rw [Iw hf]; exact Iz (EP h _)
theorem y0d {d : D} (h : d.dead = false) {t : Nat} (ht : t <= 1) : (∃ s, d.cut t 0 = ({ d with stops := s, waits := d.waits ++ [ji t] }, 0)) \/ ∃ s, d.cut t 0 = ({ d with dead := true, stops := s }, 281) := by
 unfold D.cut;rw [Iw GR];exact EP h _
theorem xS {d : D} (h : d.dead = false) : (∃ s, d.sync = ({ d with stops := s, lasts := d.stand, waits := [] }, 0)) \/ ∃ s, d.sync = ({ d with dead := true, stops := s }, 281) := by
 unfold D.sync;exact QT
def oO (o : Nat) (d : D) : Prop := d.waits = [] \/ d.waits = [ji o]
theorem y3o {d : D} {t o : Nat} (h : d.dead = false) (ht : t <= 1) (hto : t ≠ o) (hw : oO o d) (b : List UInt8) :
 Em.wrote d t b = (d, 280) ∨
 ((Em.wrote d t b).2 = 281 /\ (Em.wrote d t b).1.lasts = d.lasts /\ oO o (Em.wrote d t b).1) ∨
 ((Em.wrote d t b).2 = 281 /\ (Em.wrote d t b).1.lasts = d.lasts /\ ((Em.wrote d t b).1.waits = [fD t b] \/ (Em.wrote d t b).1.waits = [ji o, fD t b])) ∨
 ((Em.wrote d t b).2 = 0 /\ (Em.wrote d t b).1.dead = false /\ (Em.wrote d t b).1.waits = [] /\ (Em.wrote d t b).1.lasts.tp t = d.lasts.tp t ++ b /\ ((Em.wrote d t b).1.lasts.tp o = d.lasts.tp o \/ (Em.wrote d t b).1.lasts.tp o = [])) := by
 have hne : (o : Int) ≠ t := GR;have hne' : (t : Int) ≠ o := GR;unfold Em.wrote Em.next;rcases Dr h ht b with e | ⟨s, e⟩ | ⟨s, e⟩
 ·rw [e]
  exact Iy (Iw (show ¬ (280 : Int) = 0 by decide))
 ·rw [e]
  simp only [I1];have hd : ({ d with stops := s, waits := d.waits ++ [fD t b] } : D).dead = false := h;rcases xS hd with ⟨s', e'⟩ | ⟨s', e'⟩
  ·rw [e']
   refine Iz (Iz (Iz ⟨rfl, h, rfl, ?_, ?_⟩))
   ·show ((d.waits ++ [fD t b]).foldl St.done d.lasts).tp t = _
    rcases hw with hw | hw
    ·rw [hw]; simp [St.done, upd]
    ·exact Rq
   ·show ((d.waits ++ [fD t b]).foldl St.done d.lasts).tp o = _ \/ ((d.waits ++ [fD t b]).foldl St.done d.lasts).tp o = _
    rcases hw with hw | hw
    ·rw [hw]; left; simp [St.done, upd, hne]
    ·rw [hw]; right; simp [St.done, upd, hne]
  ·rw [e']
   refine Iz (Iz (Iy ⟨rfl, rfl, ?_⟩));show d.waits ++ [fD t b] = _ \/ d.waits ++ [fD t b] = _;rcases hw with hw | hw
   ·rw [hw]; exact Iy rfl
   ·rw [hw]; exact Iz rfl
 ·rw [e]
  refine Iz (Iy ?_);rw [Iw (show ¬ (281 : Int) = 0 by decide)];exact ⟨rfl, rfl, hw⟩
theorem x6u {d : D} {o : Nat} (h : d.dead = false) (ho : o <= 1) (hw : oO o d) :
 ((Em.b_ d o).2 = 281 /\ (Em.b_ d o).1.lasts = d.lasts /\ oO o (Em.b_ d o).1) ∨
 ((Em.b_ d o).2 = 0 /\ (Em.b_ d o).1.lasts = d.lasts /\ (Em.b_ d o).1.dead = false /\ (((Em.b_ d o).1.waits = [] /\ d.lasts.tp o = []) \/ (Em.b_ d o).1.waits = [ji o])) := by
 unfold Em.b_;by_cases hl : (d.stand.tp o).length = 0
 ·rw [IA hl]
  refine Iz ⟨rfl, rfl, h, ?_⟩;rcases hw with hw | hw
  ·refine Iy ⟨hw, ?_⟩
   unfold D.stand at hl;rw [hw] at hl;exact JU hl
  ·exact Iz hw
 ·rw [Iw hl]
  have hw : d.waits = [] := by
   rcases hw with hw | hw
   ·exact hw
   ·exfalso
    apply hl
    unfold D.stand;rw [hw];simp [St.done, upd]
  rcases y0d h ho with ⟨s, e⟩ | ⟨s, e⟩
  ·rw [e]
   exact Iz ⟨rfl, rfl, h, Iz (by show d.waits ++ _ = _; rw [hw]; rfl)⟩
  ·rw [e]
   exact Iy ⟨rfl, rfl, Iy hw⟩
theorem z6o {d : D} {t o : Nat} (h : d.dead = false) (ho : o <= 1) (hto : t ≠ o) (hw : oO o d) (b : List UInt8) :
 ((Em.bK d o b).2 = 280 /\ (Em.bK d o b).1.dead = false /\ (Em.bK d o b).1.lasts = d.lasts /\ oO o (Em.bK d o b).1) ∨
 ((Em.bK d o b).2 = 281 /\ (Em.bK d o b).1.lasts = d.lasts /\ oO o (Em.bK d o b).1) ∨
 ((Em.bK d o b).2 = 281 /\ (Em.bK d o b).1.lasts = d.lasts /\ (((Em.bK d o b).1.waits = [fD o b] /\ d.lasts.tp o = []) \/ (Em.bK d o b).1.waits = [ji o, fD o b])) ∨
 ((Em.bK d o b).2 = 0 /\ (Em.bK d o b).1.dead = false /\ (Em.bK d o b).1.waits = [] /\ (Em.bK d o b).1.lasts.tp t = d.lasts.tp t /\ (Em.bK d o b).1.lasts.tp o = b) := by
 have hne : (o : Int) ≠ t := GR;have hne' : (t : Int) ≠ o := GR;unfold Em.bK;rcases x6u h ho hw with ⟨e1, e2, e3⟩ | ⟨e1, e2, e3, e4⟩
 ·refine Iz (Iy ?_)
  have hn : Em.next (Em.b_ d o) (λ d => d.append o b) = Em.b_ d o := Iw (by rw [e1]; decide);have hn2 : Em.next (Em.b_ d o) D.sync = Em.b_ d o := Iw (by rw [e1]; decide);rw [hn, hn2];exact ⟨e1, e2, e3⟩
 ·generalize Em.b_ d o = r at e1 e2 e3 e4
  obtain ⟨d1, er⟩ := r;simp only at e1 e2 e3 e4;subst e1;have hn : Em.next (d1, 0) (λ d => d.append o b) = d1.append o b := IA rfl;rw [hn];have c1 : oO o d1 := e4.imp (λ h => h.1) id;rcases Dr e3 ho b with e | ⟨s, e⟩ | ⟨s, e⟩
  ·rw [e]
   refine Iy ?_;have hn : Em.next (d1, 280) D.sync = (d1, 280) := Iw (show ¬ (280 : Int) = 0 by decide);rw [hn];exact ⟨rfl, e3, e2, c1⟩
  ·rw [e]
   have hn : Em.next (({ d1 with stops := s, waits := d1.waits ++ [fD o b] } : D), 0) D.sync = ({ d1 with stops := s, waits := d1.waits ++ [fD o b] } : D).sync := IA rfl;rw [hn];have hd : ({ d1 with stops := s, waits := d1.waits ++ [fD o b] } : D).dead = false := e3;rcases xS hd with ⟨s', e'⟩ | ⟨s', e'⟩
   ·rw [e']
    refine Iz (Iz (Iz ⟨rfl, e3, rfl, ?_, ?_⟩))
    ·show ((d1.waits ++ [fD o b]).foldl St.done d1.lasts).tp t = _
     rw [e2];rcases e4 with ⟨hw, _⟩ | hw
     ·exact Rq
     ·exact Rq
    ·show ((d1.waits ++ [fD o b]).foldl St.done d1.lasts).tp o = _
     rw [e2];rcases e4 with ⟨hw, hl⟩ | hw
     ·rw [hw]; simp [St.done, upd, hl]
     ·rw [hw]; simp [St.done, upd]
   ·rw [e']
    refine Iz (Iz (Iy ⟨rfl, e2, ?_⟩));show (d1.waits ++ [fD o b] = _ /\ _) \/ d1.waits ++ [fD o b] = _;rcases e4 with ⟨hw, hl⟩ | hw
    ·rw [hw]; exact Iy ⟨rfl, hl⟩
    ·rw [hw]; exact Iz rfl
  ·rw [e]
   refine Iz (Iy ?_);have hn : Em.next (({ d1 with dead := true, stops := s } : D), 281) D.sync = (({ d1 with dead := true, stops := s } : D), 281) := Iw (show ¬ (281 : Int) = 0 by decide);rw [hn];exact ⟨rfl, e2, c1⟩
theorem RB.idx {h : Array Obj} {sv t0 t1 t2 t3 : Value} {x : St} {many : Int} (r : RB h F sv t0 t1 t2 t3 x many) (t : Nat) (ht : t < 4) : ∃ v a c, #[t0, t1, t2, t3][t]? = some v /\ v = .slice a (x.tp t).length c := by
 obtain ⟨secs, s1, s2, b0, b1, b2, b3⟩ := r;obtain rfl | rfl | rfl | rfl : t = 0 \/ t = 1 \/ t = 2 \/ t = 3 := GR
 ·obtain ⟨a, c, e⟩ := b0.slice; exact ⟨t0, a, c, rfl, e⟩
 ·obtain ⟨a, c, e⟩ := b1.slice; exact ⟨t1, a, c, rfl, e⟩
 ·obtain ⟨a, c, e⟩ := b2.slice; exact ⟨t2, a, c, rfl, e⟩
 ·obtain ⟨a, c, e⟩ := b3.slice; exact ⟨t3, a, c, rfl, e⟩
theorem z5v (sv t0 t1 t2 t3 : Value) (W : World) : (Instr.field aO (.agg #[sv, t0, t1, t2, t3]) 1).run prog W = .ok (.agg #[t0, t1, t2, t3]) W := GQ
theorem x0u {d : D} (hr : bR w.heap F v d) (t n : Int) (hb : t < 0 \/ (¬ t < 0 /\ 3 < t) \/ (¬ t < 0 /\ ¬ 3 < t /\ n < 0)) : Calls prog 50 #[v, .int .i64 t, .int .i64 n] w (gK w F (d, 4)) := by
 obtain ⟨C, rfl, hin⟩ := yl hr;obtain ⟨W0, hW0⟩ := G5 (jQ w C);rw [hW0] at hin;have aD := hd1 hin;clear hin hr;rcases hb with h1 | ⟨h1, h2⟩ | ⟨h1, h2, h3⟩
 all_goals
  go_in;go_upto_region 1 with fail
  clear hW0
  go_wp2_with (first
   | (refine G_ aD.r0 Hu NQ ?_)
   | (refine aC rfl af _ _ rfl (w.heap.size + 1) _ rfl rfl af bV aD.r1 NQ NF aD.ones ?_
      intro W5 aF aB bf))
  refine Ha aF.out Hu NQ ?_;exact Be aD.ref (Moves.new aD.below aB GR)
theorem z2i {P : Program} {ops : Array Oper} {rest : List Oper} {o : Oper} {a : Act} {Q : Exit -> Act -> World -> Prop} (hw : Region.wanted o (yielded ops a.tmps) = true) (ty : TypeId) (x : Operand) (ho : o.op = .load ty x)
 (g : Nat) (hx : a.eval x = .pointer (some g)) (t : TypeId) (cs : Array Value) (fr : Nat × Nat) (d : TypeDesc) (hg : w.heap[g]? = some (.cells cs t fr))
 (hu : P.underlying ty = some d) (hd : (match d with | .struct _ | .array _ _ => true | _ => false) = true) (hi : (P.info? ty).map (·.size) = some cs.size)
 (h : wpList P ops Q rest (a.put o.dst (.agg cs)) w) : wpList P ops Q (o :: rest) a w := by
 simp only [wpList, hw, I1];exact Iy (wp_load_row ty x ho g hx t cs fr d hg hu hd hi h)
theorem Bh {d : D} (hr : bR w.heap F v d) (ok : d.ok) (hn : d.waits.length <= 1000000000000) (t n : Int) : Calls prog 50 #[v, .int .i64 t, .int .i64 n] w (gK w F (d.cut t n)) := by
 by_cases h1 : t < 0 \/ t > 3 \/ n < 0
 ·have e : d.cut t n = (d, 4) := by unfold D.cut; rw [IA GR]
  rw [e];exact x0u hr t n GR
 ·obtain ⟨t, rfl, ht⟩ := kU (n := t) (k := 3) GR GR
  obtain ⟨C, rfl, hin⟩ := yl hr;obtain ⟨W0, hW0⟩ := G5 (jQ w C);rw [hW0] at hin;have aD := hd1 hin;have OK := hd2 ok hn;have sl := z4n ok t;clear hin hr ok hn;have ST := hd1 (qI (aD.at (X := W0) GY) OK.1 OK.2);have hcase : (d.cut t n = (d, 4) /\ ((d.stand.tp t).length : Int) < n) \/ (d.cut t n = d.step ⟨3, t, n, []⟩ /\ ¬ ((d.stand.tp t).length : Int) < n) := by
   unfold D.cut;by_cases h2 : n > (d.stand.tp t).length
   ·exact Iy ⟨by rw [IA GR], h2⟩
   ·exact Iz ⟨by rw [Iw GR], h2⟩
  have c1 : ¬ (t : Int) < 0 := GR;have c2 : ¬ 3 < (t : Int) := GR;have c3 : ¬ n < 0 := GR;have c4 : ¬ 3 < t := GR;clear h1;rcases hcase with ⟨e, h2⟩ | ⟨e, h2⟩
  ·rw [e]
   clear e;go_in;go_upto_region 1 with fail
   clear hW0
   go_wp2_with (first
    | (refine z2i (by rfl) af (.tmp 3) rfl w.heap.size rfl af C (0, 0) _ aD.r0 Hu rfl NQ ?_)
    | (go_at_call 49; refine ST.mono ?_; rintro e X1 ⟨sv, t0, t1, t2, t3, rfl, hbx, m_⟩
       obtain ⟨ti, ai, ci, ei, rfl⟩ := m_.idx t GR;have wm := z5v sv t0 t1 t2 t3;have hix := λ W => vC t0 t1 t2 t3 t _ ei W;simp only [Int.ofNat_eq_natCast] at hix;have qw := hd1 hbx;clear hbx m_ ei)
    | (refine II rfl af (.tmp 3) rfl w.heap.size rfl af C (0, 0) _ ((qw.block _ (aa aD.r0)).trans aD.r0) Hu rfl NQ ?_)
    | (refine aC rfl af _ _ rfl (w.heap.size + 1) _ rfl rfl af bV ((qw.block _ (aa aD.r1)).trans aD.r1) NQ NF aD.ones ?_
       intro W5 aF aB bf))
   refine Ha aF.out Hu NQ ?_;exact Be aD.ref (Moves.new (aD.below.trans (qw.mono aD.below.size)) aB GR)
  ·rw [e]
   clear e;go_in;go_upto_region 1 with fail
   clear hW0
   go_wp2_with (first
    | (refine z2i (by rfl) af (.tmp 3) rfl w.heap.size rfl af C (0, 0) _ aD.r0 Hu rfl NQ ?_)
    | (go_at_call 49; refine ST.mono ?_; rintro e X1 ⟨sv, t0, t1, t2, t3, rfl, hbx, m_⟩
       obtain ⟨ti, ai, ci, ei, rfl⟩ := m_.idx t GR;have wm := z5v sv t0 t1 t2 t3;have hix := λ W => vC t0 t1 t2 t3 t _ ei W;simp only [Int.ofNat_eq_natCast] at hix;have qw := hd1 hbx;clear hbx m_ ei)
    | (refine II rfl af (.tmp 3) rfl w.heap.size rfl af C (0, 0) _ ((qw.block _ (aa aD.r0)).trans aD.r0) Hu rfl NQ ?_)
    | (go_at_call 86
       refine (z5r (aD.at qw.out) OK.1 OK.2 ⟨3, t, n, []⟩ (u := .slice none 0 0) (Iy ⟨rfl, rfl⟩)).mono ?_;rintro e W3 ⟨v3, rfl, hb3, hr3⟩;obtain ⟨sv3, q0, q1, q2, q3, wv3, ev, Bl, Aq⟩ := id hr3;subst ev;have R3 := hd3 hr3 (mZ Bl Aq) (qw.trans (hb3.mono qw.size));clear Bl Aq hr3 hb3)
    | (refine aC rfl af _ _ rfl (w.heap.size + 1) _ rfl rfl af bV ((R3.2.2.block _ (aa aD.r1)).trans aD.r1) aH rfl (R3.2.1 _ _ _ _) ?_
       intro W5 aF aB bf))
   refine Ha aF.out Hu aH ?_;exact Fs aD.below aD.size R3.2.2 R3.1 (F5 (Hg qw.size aD.size)) aB
theorem BytesAt.take {h : Array Obj} {a : Option Addr} {c : Nat} (x : BytesAt h F (.slice a n c) l) (k : Nat) (hk : k <= n) : BytesAt h F (.slice a k c) (l.take k) := by
 rcases x with ⟨h1, rfl⟩ | ⟨b, o, cap, cc, t, fr, h1, h2, h3, g2, g3, g4⟩
 ·obtain ⟨rfl, rfl, rfl⟩ := Jw h1
  obtain rfl : k = 0 := GR;exact Iy ⟨rfl, rfl⟩
 ·obtain ⟨rfl, rfl, rfl⟩ := Jw h1
  have e : (l.take k).length = k := by simp; omega
  refine Iz ⟨b, o, c, cc, t, fr, by rw [e], by rw [e]; omega, h3, g2, g3, λ i y hi => ?_⟩;exact Rt
theorem x6z (t : TypeId) {a b : Array TypeId} {v : Bool} (ht : prog.underlying t = some (.func a b v)) (f : Fn) (x c : Array Value) (w : World) : (binOp .eql t (.func f x c) .nilFunc).run prog w = .ok (.bool false) w := by
 unfold binOp Op.equal Op.maxDepth Op.equalIn;simp [J4 ht]
section
variable {P : Program} {ops : Array Oper} {md : Region.Mode} {I : World -> Prop} {tail : List Nat} {E : List PanicEntry -> World -> Prop}
def rf (E : List PanicEntry -> World -> Prop) : Exit -> Act -> World -> Prop
 | .panic c, a, w => a.defers = [] /\ E c w
 | _, _, _ => False
theorem y0o {E : List PanicEntry -> World -> Prop} {c : List PanicEntry} {a : Act} {d : Option Tmp} (h : rf E (.panic c) (a.put d v) w) : rf E (.panic c) a w := by
 cases d <;> exact h
def ky (P : Program) (md : Region.Mode) (ops : Array Oper) (I : World -> Prop) (tail : List Nat) (E : List PanicEntry -> World -> Prop) (Q : Act -> World -> Prop) : Nat -> Array Bool -> Act -> World -> Prop
 | 0, listed, a, w => Region.ready md ops listed = [] /\ Q a w
 | f + 1, listed, a, w => (Region.ready md ops listed = [] -> Q a w) /\ ∀ i ∈ Region.ready md ops listed, wpOp P ops (rf E) i (λ a' w' => (i ∉ tail -> I w') /\ ky P md ops I tail E Q f (listed.setIfInBounds i true) a' w') a w
theorem y3f {j : Nat} {oi oj : Oper} (hj : ops[j]? = some oj) (hap : oi.apart ops oj = true)
 (hsi : ∀ cs b, oi.op ≠ .select cs b) (hsj : ∀ cs b, oj.op ≠ .select cs b) {K : Act -> World -> Prop} {a : Act}
 (hy : gJ P ops I oi v a) (h : wpOp P ops (rf E) j K (a.put oi.dst v) w) :
 wpOp P ops (rf E) j (λ a' w' => gJ P ops I oi v a' /\ K (a'.put oi.dst v) w') a w := by
 obtain ⟨h1, h2, h3⟩ := Oper.apart_spec hap
 have keep : ∀ (a : Act), gJ P ops I oi v a -> ∀ u, gJ P ops I oi v (a.put oj.dst u) := λ a hy u =>
  hy.of_same (KP oi hsi a oj.dst u h3) (wanted_put oi a oj.dst u h3)
 have keepD : ∀ d, gJ P ops I oi v { a with defers := d :: a.defers } := λ d => hy.of_same rfl rfl;unfold wpOp at *;simp only [hj] at *;rw [wanted_put oj a oi.dst v h1] at h;split
 ·rename_i hw
  simp only [hw, I1] at h;rcases h with h | ⟨hasks, hlets⟩;case inr => exact .inr ⟨by unfold Oper.asks at *; rw [KP oj hsj a oi.dst v h1] at hasks; exact hasks, hlets⟩
  refine .inl ?_;unfold Oper.wp at *;rw [KP oj hsj a oi.dst v h1] at h;generalize (execOp a.eval oj).run P w = r at *;cases r with
  | ok n w' =>
   cases n <;> simp only [Oper.upon] at h ⊢;case value u => exact ⟨keep a hy u, by rw [<-JQ a v u h2]; exact h⟩
   case skip => exact ⟨keep a hy _, by rw [<-JQ a v undef h2]; exact h⟩
   case defer d =>
    exact QZ
   case enter f args =>
    refine Calls.mono h λ e w'' he => ?_;cases e with
    | returned u => exact ⟨keep a hy u, by rw [<-JQ a v u h2]; exact he⟩
    | panicked c => exact y0o he
    | outgrown => exact he
   case row row args => exact Rows.mono h λ u w'' he => ⟨keep a hy u, by rw [<-JQ a v u h2]; exact he⟩
  | halt x w' =>
   cases x <;> simp only [Oper.upon] at h ⊢;case panic u => exact y0o h
 ·exact Q8
theorem y4r {Q : Act -> World -> Prop} {i : Nat} {oi : Oper} (hi : ops[i]? = some oi) (hsel : ∀ (j : Nat) (o : Oper) cs b, ops[j]? = some o -> o.op ≠ .select cs b) (g : Nat) (hw : ∀ t ∈ tail, jA md ops g t i = true) :
 ∀ (fuel : Nat) (listed : Array Bool) (a : Act) (w : World), Closed md ops listed ->
  (∀ j oj, ops[j]? = some oj -> j ≠ i -> listed.getD j true = false -> (∀ e ∈ oj.after, Region.binds md e = true -> e.on ≠ i) -> oi.apart ops oj = true) ->
  i ∈ Region.ready md ops listed -> gJ P ops I oi v a -> I w ->
  ky P md ops I tail E Q fuel (listed.setIfInBounds i true) (a.put oi.dst v) w -> ky P md ops I tail E Q (fuel + 1) listed a w := by
 intro fuel;induction fuel with
 | zero =>
  exact PP
 | succ fuel ih =>
  intro listed a w hcl hfree hr hy hI H;refine ⟨λ h => Nj, λ j hj => ?_⟩;by_cases hji : j = i
  ·subst hji; exact hy.wpOp hi hI ⟨λ _ => hI, H⟩
  ·have h1 := H.2 j (JR hj hji)
   obtain ⟨hjun, oj, hoj, hall⟩ := Jq.1 hj;have hun := (Jq.1 hr).1;have hjt : j ∉ tail := λ hm => z8y hcl (hw j hm) hun hj;have hnot : ∀ e ∈ oj.after, Region.binds md e = true -> e.on ≠ i := λ e he hb heq => by
    exact P7
   have h2 := y3f hoj (hfree j oj hoj hji hjun hnot) (λ cs b => hsel i oi cs b hi) (λ cs b => hsel j oj cs b hoj) hy h1;exact OY
theorem y3e {i : Nat} {a : Act} {K K' : Act -> World -> Prop} {Q' : Exit -> Act -> World -> Prop} (h : ∀ a w, K a w -> K' a w) (hE : ∀ c a w, a.defers = [] -> E c w -> Q' (.panic c) a w) (hh : wpOp P ops (rf E) i K a w) : wpOp P ops Q' i K' a w := by
 unfold wpOp at *;split
 ·exact h _ _ (by simpa [*] using hh)
 ·rename_i o ho
  simp only [ho] at hh;split
  ·rename_i hw
   simp only [hw, I1] at hh;rcases hh with hh | ⟨_, _, _, hx⟩
   ·refine .inl ?_
    unfold Oper.wp at *;generalize (execOp a.eval o).run P w = r at *;cases r with
    | ok n w' =>
     cases n <;> simp only [Oper.upon] at hh ⊢;case value u => exact h _ _ hh
     case skip => exact h _ _ hh
     case defer d => exact h _ _ hh
     case enter f args =>
      refine Calls.mono hh λ e w'' he => ?_;cases e with
      | returned u => exact h _ _ he
      | panicked c => exact hE c _ _ he.1 he.2
      | outgrown => obtain ⟨_, _, hx⟩ := he; exact hx.elim
     case row row args => exact Rows.mono hh λ u w'' he => h _ _ he
    | halt x w' =>
     cases x <;> simp only [Oper.upon] at hh ⊢;case panic u => exact hE _ _ _ hh.1 hh.2
   ·exact hx.elim
  ·rename_i hw
   simp only [hw] at hh;exact h _ _ hh
theorem z2c {Q : Act -> World -> Prop} {Q' : Exit -> Act -> World -> Prop} (hQ : ∀ a w, Q a w -> Q' .normal a w) (hE : ∀ c a w, a.defers = [] -> E c w -> Q' (.panic c) a w) : ∀ (f : Nat) (listed : Array Bool) (a : Act) (w : World), ky P md ops I tail E Q f listed a w -> wpAny P md ops Q' f listed a w
 | 0, _, _, _, h => ⟨h.1, hQ _ _ h.2⟩
 | f + 1, _, _, _, h => ⟨λ h0 => hQ _ _ (h.1 h0), λ i hi => y3e (λ a' w' h' => z2c hQ hE f _ a' w' h'.2) hE (h.2 i hi)⟩
theorem y4s {Q : Act -> World -> Prop} {f k : Nat} {listed : Array Bool} {a : Act} {o : Oper} (ho : ops[k]? = some o) (hr : Region.ready md ops listed = [k])
 (h : wpOp P ops (rf E) k (λ a' w' => (k ∉ tail -> I w') /\ ky P md ops I tail E Q f (listed.setIfInBounds k true) a' w') a w) : ky P md ops I tail E Q (f + 1) listed a w :=
 ⟨λ h0 => Nh, λ i hi => by rw [hr] at hi; have e : i = k := NI; subst e; exact h⟩
theorem z3x {Q : Act -> World -> Prop} (hs : Region.noSelect ops = true) (hI : I w) : ∀ (ks : List Nat) (f : Nat) (listed : Array Bool) (a : Act), Closed md ops listed -> tC md ops tail ks listed = true ->
 f_ P ops I (λ a' => ky P md ops I tail E Q f (ks.foldl (λ l k => l.setIfInBounds k true) listed) a' w) (ks.filterMap (λ k => ops[k]?)) a -> ky P md ops I tail E Q (f + ks.length) listed a w
 | [], f, listed, a, _, _, h => h
 | k :: r, f, listed, a, hc, hB, h => by
  simp only [tC, Jh, JJ] at hB;obtain ⟨⟨⟨h1, h2⟩, h3⟩, h4⟩ := hB;have hr : k ∈ Region.ready md ops listed := by simpa using h1
  obtain ⟨_, o, ho, _⟩ := Jq.1 hr;simp only [List.filterMap_cons, ho, f_] at h;have : ∃ v, gJ P ops I o v a /\ f_ P ops I (λ a' => ky P md ops I tail E Q f ((k :: r).foldl (λ l k => l.setIfInBounds k true) listed) a' w) (r.filterMap (λ k => ops[k]?)) (a.put o.dst v) := by
   exact OD
  obtain ⟨v, hy, hn⟩ := this;rw [show f + (k :: r).length = (f + r.length) + 1 by simp; omega];exact y4r ho (Ls hs) ops.size h3 _ _ _ _ hc (Lt ho h2) hr hy hI (z3x hs hI r f _ _ (hc.set hr) h4 hn)
theorem Ae {Q : Act -> World -> Prop} {a : Act} (ks : List Nat) (f : Nat) (listed : Array Bool) (hI : I w) (hB : (Region.noSelect ops && Dc md ops listed && tC md ops tail ks listed) = true)
 (h : f_ P ops I (λ a' => ky P md ops I tail E Q f (ks.foldl (λ l k => l.setIfInBounds k true) listed) a' w) (ks.filterMap (λ k => ops[k]?)) a) : ky P md ops I tail E Q (f + ks.length) listed a w := by
 simp only [Jh] at hB;exact z3x hB.1.1 hI ks f listed a (z1h hB.1.2) hB.2 h
theorem y3d {R : Act -> World -> Prop} {a : Act} {k : Nat} {o : Oper} (ho : ops[k]? = some o)
 (h : wpList P ops (λ e a' w' => (e = .normal /\ R a' w') \/ ∃ c, e = .panic c /\ a'.defers = [] /\ E c w') [o] a w) : wpOp P ops (rf E) k R a w := by
 unfold wpOp;simp only [ho];simp only [wpList] at h;split
 ·rename_i hw
  simp only [hw, I1] at h;rcases h with h | ⟨_, _, _, hx⟩
  ·refine .inl ?_
   unfold Oper.wp at *;generalize (execOp a.eval o).run P w = r at *;cases r with
   | ok n w' =>
    cases n <;> simp only [Oper.upon] at h ⊢;case value u => exact (h.resolve_right (λ ⟨_, h, _⟩ => by cases h)).2
    case skip => exact (h.resolve_right (λ ⟨_, h, _⟩ => by cases h)).2
    case defer d => exact (h.resolve_right (λ ⟨_, h, _⟩ => by cases h)).2
    case enter f args =>
     refine Calls.mono h λ e w'' he => ?_;cases e with
     | returned u => exact (he.resolve_right (λ ⟨_, h, _⟩ => by cases h)).2
     | panicked c => rcases he with he | ⟨c', e', he⟩; (cases he.1); (cases e'; exact he)
     | outgrown => obtain ⟨_, _, hx⟩ := he; rcases hx with hx | ⟨_, hx, _⟩; (cases hx.1); (cases hx)
    case row row args => exact Rows.mono h λ u w'' he => (he.resolve_right (λ ⟨_, h, _⟩ => by cases h)).2
   | halt x w' =>
    cases x <;> simp only [Oper.upon] at h ⊢;case panic u => rcases h with h | ⟨c', e', h⟩; (cases h.1); (cases e'; exact h)
  ·rcases hx with hx | ⟨_, hx, _⟩; (cases hx.1); (cases hx)
 ·rename_i hw
  simp only [hw] at h;exact (h.resolve_right (λ ⟨_, h, _⟩ => by cases h)).2
theorem uX {Q : Act -> World -> Prop} {a : Act} (k f : Nat) (listed : Array Bool) (o : Oper) (ho : ops[k]? = some o) (hr : Region.ready md ops listed = [k])
 (h : wpList P ops (λ e a' w' => (e = .normal /\ (k ∉ tail -> I w') /\ ky P md ops I tail E Q f (listed.setIfInBounds k true) a' w') \/ ∃ c, e = .panic c /\ a'.defers = [] /\ E c w') [o] a w) : ky P md ops I tail E Q (f + 1) listed a w :=
 y4s ho hr (y3d ho h)
theorem Ab {id : Nat} {Q : Exit -> Act -> World -> Prop} {a : Act} (I : World -> Prop) (tail : List Nat) (E : List PanicEntry -> World -> Prop) (hE : ∀ c a w, a.defers = [] -> E c w -> Q (.panic c) a w) (hm : P.follows .mixedOrders = true)
 (h : ky P .any ops I tail E (λ a' w' => Q .normal a' w') ops.size (Array.replicate ops.size false) a w.drew) : (Code.region id ops true).wp P Q a w :=
 Lu hm (z2c (λ _ _ h => h) hE _ _ _ _ h)
end
end Go.Proofs.YtgffifleflkjoaaGreat
