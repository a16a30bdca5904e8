/-
  Parts of a proof.
-/
import Derived.Test.YtgffifleflkjoaaGreatFin25
import Derived.Test.YtgffifleflkjoaaGreatFin26
set_option linter.unusedSimpArgs false
set_option linter.unusedVariables false
set_option maxRecDepth 100000
set_option maxHeartbeats 16000000
namespace Go.Proofs.YtgffifleflkjoaaGreat
open _root_.Go.Proofs.Tryz
variable {w W w' w0 wr w1 W0 W1 W2 A B : World} {F G F' O : Nat → Prop} {v : Value} {l : List UInt8} {n q m pd md pl g p : Nat} {C : Array Value} {c : Int}
open Go.RowKit Dm
theorem y7o {sv t0 t1 t2 t3 : Value} {x : St} {many : Int} (r : RB w.heap F sv t0 t1 t2 t3 x many) (hx : ∀ t, (x.tp t).length <= 1048576) :
 Calls prog 87 #[.agg #[sv, t0, t1, t2, t3]] w λ e w' => e = .returned (.int .i64 x.used) /\ Below w w w' := by
 obtain ⟨secs, s1, s2, b0, b1, b2, b3⟩ := r;obtain ⟨a0, c0, rfl⟩ := b0.slice;obtain ⟨a1, c1, rfl⟩ := b1.slice;obtain ⟨a2, c2, rfl⟩ := b2.slice;obtain ⟨a3, c3, rfl⟩ := b3.slice;have h0 := hx 0;have h1 := hx 1;have h2 := hx 2;have h3 := hx 3;have hu : x.used = ((x.tp 0).length : Int) + (x.tp 1).length + (x.tp 2).length + (x.tp 3).length := rfl;rw [hu];clear hu hx b0 b1 b2 b3 s1 s2;generalize (x.tp 0).length = n0 at *;generalize (x.tp 1).length = n1 at *;generalize (x.tp 2).length = n2 at *;generalize (x.tp 3).length = n3 at *;go_in;go_wp2;go_ret;exact ⟨rfl, bla⟩
theorem results_cell_tmp {P : Program} {fn : Func} {p q : Tmp} {ty : TypeId} (h : fn.results = #[.cell p ty, .tmp q]) (tmps : Array Value) (w : World) (g : Nat) (t : TypeId) (cs : Array Value) (fr : Nat × Nat) (d : TypeDesc) (v : Value)
 (hp : tmps.getD p undef = .pointer (some g)) (hq : tmps.getD q undef = v) (hg : w.heap[g]? = some (.cells cs t fr))
 (hu : P.underlying ty = some d) (hd : (match d with | .struct _ | .array _ _ => true | _ => false) = true) (hi : (P.info? ty).map (·.size) = some cs.size) :
 (results fn tmps).run P w = .ok (.tuple #[.agg cs, v]) w := by
 exact P_
theorem aI : (prog.info? af).map (·.size) = some 10 := GV
def il (w : World) (F : Nat -> Prop) (r : D × Int) (e : Ending) (w' : World) : Prop :=
 ∃ v, e = .returned (.tuple #[v, .int .i64 r.2]) /\ Below w.heap.size w w' /\ bU w'.heap (plus F w w') v r.1
abbrev bS : Array Value := #[.int .i64 0, .int .i64 0, .slice none 0 0, .slice none 0 0, .slice none 0 0, .slice none 0 0, .slice none 0 0, .slice none 0 0, .bool false, .int .i64 0]
theorem y7t (many : Int) : qx [] (λ _ => zeros) many := ⟨(λ e he => by cases he), (λ _ _ => rfl), GZ⟩
theorem y8b (s b : Int) (w : World) (F : Nat -> Prop) (h : mH s b = 0) : Calls prog 20 #[.int .i64 s, .int .i64 b] w (il w F (Dm.new s b, 0)) := by
 have hh : ¬ (s < 0 \/ s > 4096 \/ b < 0 \/ b > 1048576) := by
  intro hh;unfold mH at h;rw [IE hh] at h;cases h
 have h1 : ¬ s < 0 := GX;have h2 : ¬ 4096 < s := GX;have h3 : ¬ b < 0 := GX;have h4 : ¬ 1048576 < b := GX;clear hh h;go_in
 go_wp2_with (refine aD rfl af _ _ rfl w.heap.size (dC s b (.slice none 0 0) (.slice none 0 0) (.slice none 0 0) (.slice none 0 0) (.slice none 0 0) (.slice none 0 0) false (-1)) rfl rfl af bS (II w _) aI rfl GV ?_
              intro W1 HW1 dx jM)
 refine IP (results_cell_tmp rfl _ _ w.heap.size _ _ _ _ (.int .i64 0) rfl rfl HW1.out Hz rfl aI) rfl ?_;refine ⟨_, rfl, Moves.new (bla) dx G7, .slice none 0 0, .slice none 0 0, .slice none 0 0, .slice none 0 0, .slice none 0 0, .slice none 0 0, rfl, ⟨[], IB ⟨rfl, rfl⟩, y7t _, IB ⟨rfl, rfl⟩, IB ⟨rfl, rfl⟩, IB ⟨rfl, rfl⟩, IB ⟨rfl, rfl⟩⟩, IB ⟨rfl, rfl⟩⟩
theorem y8c (s b : Int) (w : World) (h : mH s b ≠ 0) : Calls prog 20 #[.int .i64 s, .int .i64 b] w λ e w' => e = .returned (.tuple #[.agg bS, .int .i64 2]) /\ Below w w w' := by
 have hh : s < 0 \/ (¬ s < 0 /\ 4096 < s) \/ (¬ s < 0 /\ ¬ 4096 < s /\ b < 0) \/ (¬ s < 0 /\ ¬ 4096 < s /\ ¬ b < 0 /\ 1048576 < b) := by
  have hh : s < 0 \/ s > 4096 \/ b < 0 \/ b > 1048576 := by
   exact Rt
  omega
 clear h;rcases hh with h | ⟨h1, h2⟩ | ⟨h1, h2, h3⟩ | ⟨h1, h2, h3, h4⟩
 all_goals
  go_in
  go_wp2_with (refine aD rfl af _ _ rfl w.heap.size bS rfl rfl af bS (II w _) aI rfl GV ?_
               intro W1 HW1 dx jM)
  refine IP (results_cell_tmp rfl _ _ w.heap.size _ _ _ _ (.int .i64 2) rfl rfl HW1.out Hz rfl aI) rfl ?_;exact ⟨rfl, Moves.new (bla) dx G7⟩
theorem nH {h : Array Obj} {sv t0 t1 t2 t3 wv : Value} {x : St} {many : Int} {l : List Step} (r : RB h F sv t0 t1 t2 t3 x many) (st : iC h F wv l) (m' room : Int) (dead : Bool) (stops : Int) : (dC m' room sv t0 t1 t2 t3 wv dead stops).all (·.oneCell') = true := by
 obtain ⟨secs, s1, s2, b0, b1, b2, b3⟩ := r;simp [dC, s1.one, b0.one, b1.one, b2.one, b3.one, st.one];simp [Value.oneCell']
abbrev jR (w : World) (C : Array Value) : World := (w.alloc (.cells C af)).alloc (.cells bS af)
theorem Fq (w : World) (C : Array Value) : Below w w (jR w C) /\ (jR w C).heap[w.heap.size]? = some (.cells C af) /\ (jR w C).heap[w.heap.size + 1]? = some (.cells bS af) /\ (jR w C).heap.size = w.heap.size + 2 :=
 ⟨(bla).alloc GZ _, aM GZ (II w _), bC (w := w.alloc _) _ GZ, GZ⟩
theorem z6p {d : D} {sv t0 t1 t2 t3 wv : Value} (rb : RB w.heap F sv t0 t1 t2 t3 d.lasts d.many) (st : iC w.heap F wv d.waits) (hb : Below w w w') (dead : Bool) (stops : Int) (d' : D) (ed : d' = { d with dead := dead, stops := stops }) : bU w'.heap (plus F w w') (.agg (dC d.many d.room sv t0 t1 t2 t3 wv dead stops)) d' := by
 subst ed;exact ⟨sv, t0, t1, t2, t3, wv, rfl, rb.plus hb, st.plus hb⟩
theorem z6y {d : D} (hr : bU w.heap F v d) (ok : d.ok) : Calls prog 91 #[v] w (il w F d.goes) := by
 obtain ⟨sv, t0, t1, t2, t3, wv, rfl, rb, st⟩ := hr;have ones := nH rb st d.many d.room;obtain ⟨b0, r0, r1, z0⟩ := Fq w (dC d.many d.room sv t0 t1 t2 t3 wv d.dead d.stops);have HD := hd7 rb st ones b0 r0 r1 z0;have s0 := ok.stops;have s1 := ok.sN;clear rb st ones ok;have k8 : (jR w (dC d.many d.room sv t0 t1 t2 t3 wv d.dead d.stops)).cell? (w.heap.size, 8) = some (.bool d.dead) := ae r0 rfl;have k9 : (jR w (dC d.many d.room sv t0 t1 t2 t3 wv d.dead d.stops)).cell? (w.heap.size, 9) = some (.int .i64 d.stops) := ae r0 rfl;obtain ⟨C, hC⟩ := G8 (dC d.many d.room sv t0 t1 t2 t3 wv d.dead d.stops);have f8 := aU r0 8;have f9 := aU r0 9;rw [hC] at HD k8 k9 f8 f9;rw [hC];have HC := hd1 hC;clear hC;obtain ⟨W0, hW0⟩ := G8 (jR w C);rw [hW0] at HD k8 k9 f8 f9;clear b0 r0 r1 z0
 have fin : ∀ (dead : Bool) (stops : Int) (c : Int) (W : World), Moves (λ k => k = w.heap.size) W0 W -> W.heap[w.heap.size]? = some (.cells (dC d.many d.room sv t0 t1 t2 t3 wv dead stops) af (0, 0)) -> W.heap[w.heap.size + 1]? = some (.cells bS af) ∧
  ∀ W5, Moves (λ k => k = w.heap.size + 1) W W5 -> d.goes = ({ d with dead := dead, stops := stops }, c) -> il w F d.goes (.returned (.tuple #[.agg (dC d.many d.room sv t0 t1 t2 t3 wv dead stops), .int .i64 c])) W5 := by
  intro dead stops c W hm hrow;have hbW : Below w w W := Moves.new HD.2.2.2.1 hm G7;refine ⟨?_, λ W5 h5 he => ?_⟩
  ·rw [hm.block _ (by rw [HD.2.2.2.2.2.2]; omega) GX]; exact HD.2.2.2.2.2.1
  ·have hb5 : Below w w W5 := Moves.new hbW h5 GX
   rw [he];exact ⟨_, rfl, hb5, z6p HD.1 HD.2.1 hb5 dead stops _ rfl⟩
 have FIN := hd1 fin;clear fin;cases hd : d.dead
 ·rw [hd] at k8
  by_cases h0 : d.stops = 0
  ·have hg : d.goes = ({ d with dead := true, stops := -1 }, 281) := by simp [D.goes, hd, h0]
   have b0 : (d.stops == 0) = true := by simpa using h0
   have y0 := HD.2.2.2.2.1;rw [<-HC.out] at y0;have y1 := IU W0 w.heap.size 8 _ af (.bool true) y0;have y2 := IU _ w.heap.size 9 _ af (.int .i64 (-1)) y1;have mv : Moves (λ k => k = w.heap.size) W0 ((W0.setCell (w.heap.size, 8) (.bool true)).setCell (w.heap.size, 9) (.int .i64 (-1))) := ⟨rfl, rfl, rfl, GZ, λ k hk hn => by rw [IW _ _ _ _ hn, IW _ _ _ _ hn]⟩;have F1 := hd1 (FIN.out true (-1) 281 _ mv y2);have Y2 : Hid (((W0.setCell (w.heap.size, 8) (.bool true)).setCell (w.heap.size, 9) (.int .i64 (-1))).heap[w.heap.size]? = some (.cells (dC d.many d.room sv t0 t1 t2 t3 wv true (-1)) af (0, 0))) := y2;have HG := hd1 hg;clear y0 y1 y2 mv hg h0;exact Ov
  ·have b0 : (d.stops == 0) = false := by simpa using h0
   by_cases h1 : d.stops > 0
   ·have hg : d.goes = ({ d with dead := false, stops := d.stops - 1 }, 0) := by simp [D.goes, hd, h0, h1]
    have b1 : decide (0 < d.stops) = true := by simpa using h1
    have y0 := HD.2.2.2.2.1;rw [<-HC.out] at y0;have y1 := IU W0 w.heap.size 9 _ af (.int .i64 (d.stops - 1)) y0;have mv : Moves (λ k => k = w.heap.size) W0 (W0.setCell (w.heap.size, 9) (.int .i64 (d.stops - 1))) := ⟨rfl, rfl, rfl, GZ, λ k hk hn => by rw [IW _ _ _ _ hn]⟩;rw [hd] at y1;have F1 := hd1 (FIN.out false (d.stops - 1) 0 _ mv y1);have Y2 : Hid ((W0.setCell (w.heap.size, 9) (.int .i64 (d.stops - 1))).heap[w.heap.size]? = some (.cells (dC d.many d.room sv t0 t1 t2 t3 wv false (d.stops - 1)) af (0, 0))) := y1;have HG := hd1 hg;clear y0 y1 mv hg h0;exact Ov
   ·have hg : d.goes = ({ d with dead := false, stops := d.stops }, 0) := by
     have e : ({ d with dead := false, stops := d.stops } : D) = d := by rw [<-hd]
     rw [e];simp [D.goes, hd, h0, h1]
    have b1 : decide (0 < d.stops) = false := by simpa using h1
    have y1 := HD.2.2.2.2.1;rw [<-HC.out, hd] at y1;have F1 := hd1 (FIN.out false d.stops 0 _ (Moves.refl _ _) y1);have Y2 := hd1 y1;have HG := hd1 hg;clear y1 hg h0;exact Ov
 ·have hg : d.goes = ({ d with dead := true, stops := d.stops }, 281) := by
   have e : ({ d with dead := true, stops := d.stops } : D) = d := by rw [<-hd]
   rw [e];simp [D.goes, hd]
  rw [hd] at k8;have y1 := HD.2.2.2.2.1;rw [<-HC.out, hd] at y1;have F1 := hd1 (FIN.out true d.stops 281 _ (Moves.refl _ _) y1);have Y2 := hd1 y1;have HG := hd1 hg;clear y1 hg;exact Ov
def z1a (w : World) (F : Nat -> Prop) (l : List UInt8) (e : Ending) (w' : World) : Prop :=
 Below w.heap.size w w' /\ match Wm.opened l with
  | none => e = .returned (.tuple #[.slice none 0 0, .int .i64 130])
  | some b => ∃ v, e = .returned (.tuple #[v, .int .i64 0]) /\ BytesAt w'.heap F v b
def uI (w : World) (F : Nat -> Prop) (l : List UInt8) (e : Ending) (w' : World) : Prop :=
 Below w.heap.size w w' /\ match Wm.split l with
  | none => e = .returned (.tuple #[.slice none 0 0, .int .i64 0, .int .i64 (Wm.pM l)])
  | some r => ∃ v, e = .returned (.tuple #[v, .int .i64 r.2, .int .i64 0]) /\ BytesAt w'.heap F v r.1
theorem vM {x : Int} (hb : Below w w w') (h1 : Wm.split l = none) (h2 : Wm.pM l = x) : uI w F l (.returned (.tuple #[.slice none 0 0, .int .i64 0, .int .i64 x])) w' := by
 refine ⟨hb, ?_⟩;rw [h1, h2]
theorem y8f (h : BytesAt w.heap F v l) (hl : l.length <= 1000000000) : Calls prog 164 #[v] w (z1a w F l) := by
 obtain ⟨a, cap, rfl⟩ := h.slice;have H := hd1 h;clear h;have l1 : (l.length : Int) <= 1000000000 := GX;by_cases h4 : l.length < 4
 ·have ho : Wm.opened l = none := by unfold Wm.opened; rw [IE h4]
  have HO := hd1 ho;have e1 : decide ((l.length : Int) < 4) = true := by simp; omega
  exact Qq
 ·obtain ⟨b, o, rfl, hcap, hcap2, hbl⟩ := H.row GX
  obtain ⟨n, hn⟩ : ∃ n, l.length = n + 4 := ⟨l.length - 4, GX⟩;have front := H.front (n := n) GX;have ht : (l.take n).length = n := by rw [I7]; omega
  have x2 : ∀ y : Wd (Below w w), (convert dH 9 (.slice (some (b, o)) l.length cap)).run prog y.world = .ok (.string ⟨l.toArray⟩) y.world := λ y => qU (H.below y.ok);have opn : Wm.opened l = if Cm.dm (l.take n) = l then some (l.take n) else none := by
   unfold Wm.opened;rw [IA h4, show l.length - 4 = n by omega]
  have SC := hd1 (z5v (w := w.drew) (F := F) (v := .slice (some ⟨b, o, none⟩) n cap) (l := l.take n) front (by rw [ht]; omega));have OP := hd1 opn;have FR := hd1 front;obtain ⟨s, hs⟩ := G8 (Cm.dm (l.take n));rw [hs] at SC OP;have e1 : decide ((n : Int) + 4 < 4) = false := by rw [LW]; omega
  have ew : IntKind.i64.wrap (n : Int) = (n : Int) := Jd _ GX;have n0 : (0 : Int) <= (n : Int) := GX;have n1 : (n : Int) <= (cap : Int) := GX;have n4 : n <= cap := GX;have n6 : (n : Int) <= (n : Int) + 4 := GX;rw [hn] at l1 hcap x2 ⊢;have HN := hd1 hn;clear front ht opn h4 hn hs;have ne : Nonempty (Wd (Below w w)) := ⟨⟨w, Below.refl _ _⟩⟩;go_in;go_upto_region 1 with fail
  refine bD (λ w' => ∃ x : Wd (Below w w), w' = x.world) [] GV ?_;refine aL [0, 1, 2, 3, 4, 5, 6, 7, 8, 11, 12] 4 _ Hu GV ?_;simp only [fmc, fmn, gta, gcs, gcz];iterate 11 (with_reducible refine ak (λ K hK => ?_); simp only [au, aj]; go_simp; refine hK _ ?_; clear hK K)
  with_reducible refine aB ?_
  refine aA 9 3 _ _ rfl GV ?_;with_reducible refine Jy λ K hK => ?_
  go_simp;go_at_call 136;refine SC.mono ?_;rintro e w1 ⟨v1, rfl, o1, b1⟩;have B1 : Below w w w1 := G6.drew.trans b1;have x1 : ∀ y : Wd (Below w1 w1), (convert dH 9 v1).run prog y.world = .ok (.string ⟨s.toArray⟩) y.world := λ y => qU (o1.at.below y.ok);have hx1 := x1 ⟨w1, Below.refl _ _⟩;have HB := hd1 B1;clear x1 o1 b1 B1;refine hK _ _ (IG ⟨rfl, λ _ => ⟨⟨_, HB.out⟩, rfl⟩, ?_⟩);clear hK K;refine aA 10 2 _ _ rfl GV ?_;with_reducible refine Jy λ K hK => ?_
  go_simp;refine hK _ _ (IG ⟨rfl, λ _ => ⟨⟨_, HB.out⟩, rfl⟩, ?_⟩);clear hK K;by_cases hq : s = l
  ·have q : (!s == l) = false := by simp [hq]
   rw [IE hq] at OP;clear hq;refine aL [13, 14] 0 _ ⟨⟨_, HB.out⟩, rfl⟩ GV ?_;simp only [fmc, fmn, gta, gcs, gcz];iterate 2 (with_reducible refine ak (λ K hK => ?_); simp only [au, aj]; go_simp; refine hK _ ?_; clear hK K)
   with_reducible refine aB ?_
   refine ⟨GV, ?_⟩;go_wp2;go_ret2;refine ⟨HB.out, ?_⟩;rw [OP.out];exact ⟨_, rfl, FR.below HB.out⟩
  ·have q : (!s == l) = true := by simp [hq]
   rw [IA hq] at OP;clear hq;refine aL [13, 14] 0 _ ⟨⟨_, HB.out⟩, rfl⟩ GV ?_;simp only [fmc, fmn, gta, gcs, gcz];iterate 2 (with_reducible refine ak (λ K hK => ?_); simp only [au, aj]; go_simp; refine hK _ ?_; clear hK K)
   with_reducible refine aB ?_
   refine ⟨GV, ?_⟩;go_wp2;go_ret2;refine ⟨HB.out, ?_⟩;rw [OP.out];rfl
theorem EZ (h : BytesAt w.heap F v l) (hl : l.length <= 1000000000) : Calls prog 132 #[v] w (uI w F l) := by
 obtain ⟨a, cap, rfl⟩ := h.slice;have FC := hd1 (Ff h hl);obtain ⟨hk, hn⟩ := zi l
 have hs : Wm.split l = (if (Wm.first l).2 <= 0 \/ (Wm.first l).1 < 4 \/ (Wm.first l).1 > 8196 then none
  else if (l.length : Int) - (Wm.first l).2 < (Wm.first l).1 then none
  else match Wm.opened ((l.drop (Wm.first l).2.toNat).take (Wm.first l).1) with | some body => some (body, (Wm.first l).2.toNat + (Wm.first l).1) | none => none) := rfl
 have he : Wm.pM l = (if (Wm.first l).2 = 0 then 0 else if (Wm.first l).2 < 0 \/ (Wm.first l).1 < 4 \/ (Wm.first l).1 > 8196 then 141 else if (l.length : Int) - (Wm.first l).2 < (Wm.first l).1 then 0 else 130) := rfl;obtain ⟨N, hN⟩ := G8 ((Wm.first l).1);obtain ⟨K, hK⟩ := G8 ((Wm.first l).2);rw [hN, hK] at hs he FC;rw [hN] at hn;rw [hK] at hk;clear hN hK;have H := hd1 h;clear h;have hl1 : (l.length : Int) <= 1000000000 := GX;rcases hk with rfl | rfl | ⟨k, rfl, k1, k9, kl⟩
 ·rw [IE (IB GY)] at hs
  rw [IE rfl] at he;have HS := hd2 hs he;clear hs he;exact OZ
 ·rw [IE (IB GY)] at hs
  rw [IA GY, IE (IB GY)] at he;have HS := hd2 hs he;clear hs he;exact OZ
 ·have c0 : ¬ (k : Int) = 0 := GX
  have c1 : ¬ (k : Int) < 0 := GX;rw [IA c0] at he;by_cases hq : N < 4 \/ N > 8196
  ·rw [IE (IC hq)] at hs
   rw [IE (IC hq)] at he;have HS := hd2 hs he;clear hs he;by_cases h4 : N < 4
   ·have c2 : (N : Int) < 4 := GX
    clear hq h4;exact OZ
   ·have c2 : ¬ (N : Int) < 4 := GX
    have c3 : (8196 : Int) < (N : Int) := GX;clear hq h4;exact OZ
  ·obtain ⟨q1, q2⟩ := not_or.1 hq
   have c2 : ¬ (N : Int) < 4 := GX;have c3 : ¬ (8196 : Int) < (N : Int) := GX;rw [IA Nc] at hs;rw [IA Nc] at he;clear hq;by_cases hm : (l.length : Int) - (k : Int) < (N : Int)
   ·rw [IE hm] at hs
    rw [IE hm] at he;have HS := hd2 hs he;clear hs he;generalize l.length = L at *;have e1 : wrap64 ((L : Int) - (k : Int)) = (L : Int) - (k : Int) := by unfold wrap64; omega
    exact OZ
   ·rw [IA hm] at hs
    rw [IA hm] at he;obtain ⟨b, o, rfl, hcap, hcap2, hbl⟩ := H.row GX;have back := H.back (n := k) kl;have hdl : (l.drop k).length = l.length - k := I9;rw [<-hdl] at back;have mid := back.front (n := N) GX;have Gj : ((l.drop k).take N).length = N := by rw [I7]; omega
    have o_ := hd1 mid;have FB := hd1 (λ (W : World) (_ : Below w w W) (v : Value) (l : List UInt8) {W' : World} (h : BytesAt W'.heap F v l) => h);have OC := hd1 (λ (W : World) (hb : Below w w W) => y8f (o_.below hb) GX);rw [Ku] at hs;have HS := hd2 hs he;clear hs he back mid hdl Gj;generalize l.length = L at *;have e0 := Ah (x := (k : Int) + (N : Int)) GX GX;have e1 := Ah (x := (L : Int) - (k : Int)) GX GX;have e2 : ¬ (k : Int) + (N : Int) < 0 := GX;have e3 : (k : Int) <= (k : Int) + (N : Int) := GX;have e4 : (k : Int) + (N : Int) <= (cap : Int) := GX;have e5 : ¬ (cap : Int) = (k : Int) := GX;cases hop : Wm.opened ((l.drop k).take N) with
    | none =>
     have HP := hd1 hop;clear hop;go_in
     go_wp2_with (first
      | (go_at_call 163; refine FC.mono ?_; rintro e w1 ⟨rfl, b1⟩; have B1 := hd1 b1; clear b1)
      | (go_at_call 164; refine (OC.out _ B1.out).mono ?_; intro e w2 h2; unfold z1a at h2; rw [HP.out] at h2; obtain ⟨b2, rfl⟩ := h2; have B2 := hd1 b2; clear b2))
     go_ret3
     refine vM (B1.trans (B2.mono B1.size)) ?_ HS.2;rw [HS.1, HP.out]
    | some body =>
     have HP := hd1 hop;clear hop;go_in
     go_wp2_with (first
      | (go_at_call 163; refine FC.mono ?_; rintro e w1 ⟨rfl, b1⟩; have B1 := hd1 b1; clear b1)
      | (go_at_call 164; refine (OC.out _ B1.out).mono ?_; intro e w2 h2; unfold z1a at h2; rw [HP.out] at h2; obtain ⟨b2, v2, rfl, y2⟩ := h2; have B2 := hd2 b2 y2; clear b2 y2))
     go_ret3
     refine ⟨B1.trans (B2.1.mono B1.size), ?_⟩;rw [HS.1, HP.out];exact ⟨v2, GZ, FB.out _ B1.out _ _ B2.2⟩
def gN (us : List (Step × Value)) : List Value := us.flatMap (λ e => [.int .i64 e.1.what, .int .i64 e.1.n, .int .i64 e.1.many, e.2])
theorem x5l (us : List (Step × Value)) (e : Step × Value) : gN (us ++ [e]) = gN us ++ [.int .i64 e.1.what, .int .i64 e.1.n, .int .i64 e.1.many, e.2] := by simp [gN]
theorem y0s (a : Step × Value) (l : List (Step × Value)) : gN (a :: l) = .int .i64 a.1.what :: .int .i64 a.1.n :: .int .i64 a.1.many :: a.2 :: gN l := rfl
theorem y0u (us : List (Step × Value)) : (gN us).length = us.length * 4 := by
 induction us with
 | nil => rfl
 | cons a l ih => rw [y0s]; simp [ih]; omega
theorem y0r (us : List (Step × Value)) (i : Nat) (e : Step × Value) (h : us[i]? = some e) :
 (gN us)[i * 4]? = some (.int .i64 e.1.what) /\ (gN us)[i * 4 + 1]? = some (.int .i64 e.1.n) /\ (gN us)[i * 4 + 2]? = some (.int .i64 e.1.many) /\ (gN us)[i * 4 + 3]? = some e.2 := by
 induction us generalizing i with
 | nil => cases h
 | cons a l ih =>
  cases i with
  | zero => cases h; exact ⟨rfl, rfl, rfl, rfl⟩
  | succ i =>
   have := ih i NV;have e1 : (i + 1) * 4 = i * 4 + 4 := GX;have e2 : i * 4 + 4 + 1 = i * 4 + 1 + 4 := GX;have e3 : i * 4 + 4 + 2 = i * 4 + 2 + 4 := GX;have e4 : i * 4 + 4 + 3 = i * 4 + 3 + 4 := GX;have st : ∀ j, (gN (a :: l))[j + 4]? = (gN l)[j]? := λ j => by rw [y0s]; rfl
   rw [e1, e2, e3, e4, st, st, st, st];exact this
theorem y0t (us : List (Step × Value)) (j : Nat) (u : Value) (h : (gN us)[j]? = some u) : ∃ e, us[j / 4]? = some e /\ ((j % 4 = 0 /\ u = .int .i64 e.1.what) \/ (j % 4 = 1 /\ u = .int .i64 e.1.n) \/ (j % 4 = 2 /\ u = .int .i64 e.1.many) \/ (j % 4 = 3 /\ u = e.2)) := by
 have hlt : j < us.length * 4 := by have := (I4.1 h).1; rwa [y0u] at this
 have hi : j / 4 < us.length := GX;obtain ⟨q0, q1, q2, q3⟩ := y0r us (j / 4) us[j / 4] (IX hi);refine ⟨us[j / 4], IX hi, ?_⟩;obtain hr | hr | hr | hr : j % 4 = 0 \/ j % 4 = 1 \/ j % 4 = 2 \/ j % 4 = 3 := GX
 ·have : j / 4 * 4 = j := GX
  rw [this, h] at q0; cases q0; exact IB ⟨hr, rfl⟩
 ·have : j / 4 * 4 + 1 = j := GX
  rw [this, h] at q1; cases q1; exact IC (IB ⟨hr, rfl⟩)
 ·have : j / 4 * 4 + 2 = j := GX
  rw [this, h] at q2; cases q2; exact IC (IC (IB ⟨hr, rfl⟩))
 ·have : j / 4 * 4 + 3 = j := GX
  rw [this, h] at q3; cases q3; exact IC (IC (IC ⟨hr, rfl⟩))
theorem iC.src {l : List Step} (x : iC w.heap F v l) : ∃ us : List (Step × Value), us.map (·.1) = l /\ (∀ e ∈ us, BytesAt w.heap F e.2 e.1.b) /\ qw w 4 v l.length (gN us) := by
 rcases x with ⟨rfl, rfl⟩ | ⟨b, o, cap, c, t, fr, rfl, h2, h3, g2, g3, g4⟩
 ·exact ⟨[], rfl, (λ e he => by cases he), IB ⟨rfl, rfl, rfl⟩⟩
 ·have look : ∀ i (hi : i < l.length), ∃ u, c[o + i * 4]? = some (.int .i64 l[i].what) /\ c[o + i * 4 + 1]? = some (.int .i64 l[i].n) /\ c[o + i * 4 + 2]? = some (.int .i64 l[i].many) /\ c[o + i * 4 + 3]? = some u /\ BytesAt w.heap F u l[i].b := λ i hi => by
   obtain ⟨w0, w1, w2, u, e0, e1, e2, e3, ⟨rfl, rfl, rfl, e4⟩⟩ := g4 i l[i] (IX hi);exact ⟨u, e0, e1, e2, e3, e4⟩
  have gx : ∀ i e, (List.ofFn (λ i : Fin l.length => (l[i.1], (c[o + i.1 * 4 + 3]?).getD undef)))[i]? = some e -> ∃ hi : i < l.length, e = (l[i], (c[o + i * 4 + 3]?).getD undef) := λ i e he => by
   rw [List.getElem?_ofFn] at he;split at he
   ·rename_i hi; exact ⟨hi, by simpa using he.symm⟩
   ·cases he
  refine ⟨List.ofFn (λ i : Fin l.length => (l[i.1], (c[o + i.1 * 4 + 3]?).getD undef)), ?_, λ e he => ?_, IC ⟨⟨b, o, none⟩, cap, rfl, by rw [y0u, List.length_ofFn], λ j u hj => ?_, λ u hu => ?_⟩⟩
  ·apply List.ext_getElem
   ·simp
   ·intro i h1 h2; simp
  ·obtain ⟨i, hi⟩ := KH.1 he
   obtain ⟨hlt, rfl⟩ := gx i e hi;obtain ⟨u, _, _, _, q3, q4⟩ := look i hlt;rw [q3]; exact q4
  ·obtain ⟨e, he, hu⟩ := y0t _ _ _ hj
   obtain ⟨hlt, rfl⟩ := gx _ e he;obtain ⟨u', q0, q1, q2, q3, q4⟩ := look (j / 4) hlt;rw [addr_add, IM _ _ _ _ _ _ g3];rcases hu with ⟨hr, rfl⟩ | ⟨hr, rfl⟩ | ⟨hr, rfl⟩ | ⟨hr, rfl⟩
   ·rw [<-q0]; congr 1; omega
   ·rw [<-q1]; congr 1; omega
   ·rw [<-q2]; congr 1; omega
   ·rw [show o + j = o + j / 4 * 4 + 3 by omega, q3]; rfl
  ·obtain ⟨j, hj⟩ := KH.1 hu
   obtain ⟨e, he, hu'⟩ := y0t _ _ _ hj;obtain ⟨hlt, rfl⟩ := gx _ e he;obtain ⟨u', q0, q1, q2, q3, q4⟩ := look (j / 4) hlt;rcases hu' with ⟨hr, rfl⟩ | ⟨hr, rfl⟩ | ⟨hr, rfl⟩ | ⟨hr, rfl⟩
   ·rfl
   ·rfl
   ·rfl
   ·simp only [q3, Option.getD_some]; exact q4.one
theorem y8w {h : Array Obj} {base : Nat} {us : List (Step × Value)} (own : w.ownsRow base bJ 4 v us.length (gN us)) (hu : ∀ e ∈ us, BytesAt h F e.2 e.1.b) (hs : ∀ k, F k -> k < h.size -> w.heap[k]? = h[k]?) (hF : ∀ k, F k -> k < h.size -> F' k) (hB : ∀ k, base <= k -> k < w.heap.size -> F' k) : iC w.heap F' v (us.map (·.1)) := by
 obtain ⟨_, own⟩ := own;rcases own with ⟨rfl, h0⟩ | ⟨g, cap, cur, rfl, hg, hh, h1, h2, h3, h4⟩
 ·have : us = [] := JZ h0
  exact IB ⟨rfl, by rw [this]; rfl⟩
 ·refine IC ⟨g, 0, cap, cur, bJ, (0, 0), GZ, by simpa using h1, by unfold maxLen at h2; omega, hB g hg (aa hh), hh, λ i s hi => ?_⟩
  obtain ⟨e, he, rfl⟩ : ∃ e, us[i]? = some e /\ e.1 = s := by simpa using hi
  have hlt : i < us.length := (I4.1 he).1;obtain ⟨q0, q1, q2, q3⟩ := y0r us i e he;rw [<-h4, JR, IE GX] at q0 q1 q2 q3;exact ⟨_, _, _, e.2, by simpa using q0, by simpa using q1, by simpa using q2, by simpa using q3, rfl, rfl, rfl, (hu e (Jg he)).keeps hs hF⟩
theorem y8x {d : D} (hr : bU w.heap F v d) (n : Int) : Calls prog 55 #[v, .int .i64 n] w (il w F (d.stop n)) := by
 obtain ⟨sv, t0, t1, t2, t3, wv, rfl, rb, st⟩ := hr;have ones := nH rb st d.many d.room;obtain ⟨b0, r0, r1, z0⟩ := Fq w (dC d.many d.room sv t0 t1 t2 t3 wv d.dead d.stops);have HD := hd7 rb st ones b0 r0 r1 z0;clear rb st ones;have k8 : (jR w (dC d.many d.room sv t0 t1 t2 t3 wv d.dead d.stops)).cell? (w.heap.size, 8) = some (.bool d.dead) := ae r0 rfl;have k9 : (jR w (dC d.many d.room sv t0 t1 t2 t3 wv d.dead d.stops)).cell? (w.heap.size, 9) = some (.int .i64 d.stops) := ae r0 rfl;obtain ⟨C, hC⟩ := G8 (dC d.many d.room sv t0 t1 t2 t3 wv d.dead d.stops);have f9 := aU r0 9;rw [hC] at HD k8 k9 f9;rw [hC];have HC := hd1 hC;clear hC;obtain ⟨W0, hW0⟩ := G8 (jR w C);rw [hW0] at HD k8 k9 f9;clear b0 r0 r1 z0
 have fin : ∀ (dead : Bool) (stops : Int) (c : Int) (W : World), Moves (λ k => k = w.heap.size) W0 W -> W.heap[w.heap.size]? = some (.cells (dC d.many d.room sv t0 t1 t2 t3 wv dead stops) af (0, 0)) -> W.heap[w.heap.size + 1]? = some (.cells bS af) ∧
  ∀ W5, Moves (λ k => k = w.heap.size + 1) W W5 -> d.stop n = ({ d with dead := dead, stops := stops }, c) -> il w F (d.stop n) (.returned (.tuple #[.agg (dC d.many d.room sv t0 t1 t2 t3 wv dead stops), .int .i64 c])) W5 := by
  intro dead stops c W hm hrow;have hbW : Below w w W := Moves.new HD.2.2.2.1 hm G7;refine ⟨?_, λ W5 h5 he => ?_⟩
  ·rw [hm.block _ (by rw [HD.2.2.2.2.2.2]; omega) GX]; exact HD.2.2.2.2.2.1
  ·have hb5 : Below w w W5 := Moves.new hbW h5 GX
   rw [he];exact ⟨_, rfl, hb5, z6p HD.1 HD.2.1 hb5 dead stops _ rfl⟩
 have FIN := hd1 fin;clear fin;have y0 := HD.2.2.2.2.1;rw [<-HC.out] at y0;have e0 : ({ d with dead := d.dead, stops := d.stops } : D) = d := rfl;by_cases hn : n < 0
 ·have hg : d.stop n = ({ d with dead := d.dead, stops := d.stops }, 2) := by unfold D.stop; rw [IE hn]
  have F1 := hd1 (FIN.out d.dead d.stops 2 _ (Moves.refl _ _) y0);have Y2 := hd1 y0;have HG := hd1 hg;clear y0 hg e0;exact Ov
 ·cases hd : d.dead
  ·have hg : d.stop n = ({ d with dead := d.dead, stops := n }, 0) := by unfold D.stop; rw [IA hn, hd]; rfl
   have y1 := IU W0 w.heap.size 9 _ af (.int .i64 n) y0;have mv : Moves (λ k => k = w.heap.size) W0 (W0.setCell (w.heap.size, 9) (.int .i64 n)) := ⟨rfl, rfl, rfl, GZ, λ k hk hn => by rw [IW _ _ _ _ hn]⟩;have F1 := hd1 (FIN.out d.dead n 0 _ mv y1);have Y2 : Hid ((W0.setCell (w.heap.size, 9) (.int .i64 n)).heap[w.heap.size]? = some (.cells (dC d.many d.room sv t0 t1 t2 t3 wv d.dead n) af (0, 0))) := y1;have HG := hd1 hg;rw [hd] at k8;clear y0 y1 mv hg e0 hd;exact Ov
  ·have hg : d.stop n = ({ d with dead := d.dead, stops := d.stops }, 281) := by unfold D.stop; rw [IA hn, hd]; simp
   have F1 := hd1 (FIN.out d.dead d.stops 281 _ (Moves.refl _ _) y0);have Y2 := hd1 y0;have HG := hd1 hg;rw [hd] at k8;clear y0 hg e0 hd;exact Ov
theorem wy : (prog.info? bJ).map (λ i => (i.zero, i.size, i.bytes)) = some (some (.agg #[.int .i64 0, .int .i64 0, .int .i64 0, .slice none 0 0]), 4, 48) := GV
abbrev vE : Nat := 61
abbrev stepW (w : World) (C S : Array Value) : World := ((w.alloc (.cells C af)).alloc (.cells S bJ)).alloc (.cells bS af)
theorem y6j (w : World) (C S : Array Value) : Below w w (stepW w C S) /\ (stepW w C S).heap[w.heap.size]? = some (.cells C af) /\ (stepW w C S).heap[w.heap.size + 1]? = some (.cells S bJ) /\ (stepW w C S).heap[w.heap.size + 1 + 1]? = some (.cells bS af) /\ (stepW w C S).heap.size = w.heap.size + 3 :=
 ⟨((bla).alloc GZ _).alloc Oa _, aM NP (aM GZ (II w _)), aM GZ (bC (w := w.alloc _) _ GZ), bC (w := (w.alloc _).alloc _) _ GZ, GZ⟩
theorem EP {a b : Int} {u : Value} (hg : w.heap[g]? = some (.cells #[.int .i64 a, .int .i64 b, .int .i64 c, u] bJ)) (hu : u.oneCell' = true) : qw w 4 (.slice (some g) 1 1) 1 [.int .i64 a, .int .i64 b, .int .i64 c, u] := by
 refine IC ⟨⟨g, 0, none⟩, 1, rfl, rfl, λ j v hj => ?_, λ v hv => ?_⟩
 ·rw [addr_add, IM _ _ _ _ _ _ hg, Ja]
  simpa using hj
 ·simp at hv
  rcases hv with rfl | rfl | rfl | rfl
  ·rfl
  ·rfl
  ·rfl
  ·exact hu
theorem z7n (w : World) : (w.alloc (.cells #[] bJ)).ownsRow w.heap.size bJ 4 (.slice (some w.heap.size) 0 0) 0 [] :=
 ⟨rfl, IC ⟨w.heap.size, 0, #[], rfl, Nat.le_refl _, II _ _, Nat.le_refl _, IY _, rfl, rfl⟩⟩
theorem qw.below {size : Nat} {news : List Value} (h : qw w size v m news) (hb : Below w w w') : qw w' size v m news := by
 rcases h with h | ⟨ad, c, h1, h2, h3, h4⟩
 ·exact IB h
 ·exact IC ⟨ad, c, h1, h2, λ j u hj => by
   have := h3 j u hj;have lt := IZ this;exact (hb.cell lt).trans this, h4⟩
theorem step_end {X W5 : World} {d : D} {s : Step} {u : Value} {us : List (Step × Value)} {sv t0 t1 t2 t3 : Value} (h0 : d.goes.2 = 0) (hbw : Below w w W2) (hg : w.heap.size + 3 <= g) (rb : RB W2.heap G sv t0 t1 t2 t3 d.goes.1.lasts d.goes.1.many) (hG : ∀ k, G k -> (F k /\ k < w.heap.size) \/ (w.heap.size + 3 <= k /\ k ≠ g)) (hgl : g < W2.heap.size)
 (hus : us.map (·.1) = d.waits) (hu : ∀ e ∈ us, BytesAt w.heap F e.2 e.1.b) (hb : BytesAt w.heap F u s.b) (hX : Below W2 W2 X) (own : X.ownsRow W2.heap.size bJ 4 v (us.length + 1) (gN us ++ [.int .i64 s.what, .int .i64 s.n, .int .i64 s.many, u]))
 (hM : Moves (λ k => k = w.heap.size + 1 + 1) (X.setCell (g, 7) v) W5) : il w F (d.step s) (.returned (.tuple #[.agg (dC d.goes.1.many d.goes.1.room sv t0 t1 t2 t3 v d.goes.1.dead d.goes.1.stops), .int .i64 0])) W5 := by
 have hzX := hX.size;have hz := hbw.size;have hz5 := hM.size;have xY : (X.setCell (g, 7) v).heap.size = X.heap.size := GZ;rw [xY] at hz5;have blk : ∀ k, k < W2.heap.size -> k ≠ g -> k ≠ w.heap.size + 1 + 1 -> W5.heap[k]? = W2.heap[k]? := λ k hk h1 h2 => by
  rw [hM.block k (by rw [xY]; omega) h2, IW _ _ _ _ h1, hX.block k hk]
 have hb5 : Below w w W5 := by
  refine ⟨hM.os.trans (hX.os.trans hbw.os), hM.tape.trans (hX.tape.trans hbw.tape), hM.output.trans (hX.output.trans hbw.output), GX, λ k hk => ?_⟩;rw [blk k GX GX GX];exact hbw.block k hk
 have e2 : d.step s = ({ d.goes.1 with waits := d.waits ++ [s] }, 0) := by unfold D.step; rw [IE h0]
 rw [e2];refine ⟨_, rfl, hb5, sv, t0, t1, t2, t3, v, rfl, ?_, ?_⟩
 ·refine rb.keeps (λ k hk hl => blk k hl ?_ ?_) (λ k hk hl => ?_)
  ·rcases hG k hk with h | h
   ·omega
   ·exact h.2
  ·rcases hG k hk with h | h
   ·omega
   ·omega
  ·exact Qu
 ·have pX : W5.ownsRow W2.heap.size bJ 4 v (us ++ [(s, u)]).length (gN (us ++ [(s, u)])) := by
   rw [x5l, IQ];exact z7o own (λ k hk hl => by rw [hM.block k (by rw [xY]; exact hl) GX, IW _ _ _ _ (by show k ≠ g; omega)])
  have := y8w (F := F) (F' := plus F w W5) (h := w.heap) pX (λ e he => by
   rcases J2.1 he with he | he
   ·exact hu e he
   ·rw [JX] at he; subst he; exact hb) (λ k _ hl => hb5.block k hl) (λ k h _ => IB h) (λ k h1 h2 => IC ⟨GX, h2⟩)
  rw [Ki, hus] at this;exact this
section
variable {P : Program} {ops : Array Oper}
theorem Eh {rest : List Oper} {o : Oper} {a : Act} {Q : Exit -> Act -> World -> Prop} (hgd : o.guard = none) (s x : Operand) (t : TypeId)
 (ho : o.op = .call { callee := .builtin .append, args := #[s, x], argTypes := #[t, t] })
 (B base : Nat) (w0 : World) (hb : Below B w0 w) (hB : B <= base) (e : TypeId) (z : Value) (size bytes : Nat) (ht : P.underlying t = some (.slice e)) (hi : (P.info? e).map (λ i => (i.zero, i.size, i.bytes)) = some (some z, size, bytes))
 (hzs : z.cells.size = size) (hsz : 0 < size)
 (v : Value) (n : Nat) (xs : List Value) (hs : a.eval s = v) (hown : w.ownsRow base e size v n xs)
 (v2 : Value) (m : Nat) (news : List Value) (hx : a.eval x = v2) (hsrc : qw w size v2 m news)
 (h63 : n + m <= maxLen) (hbytes : (n + m) * bytes <= 140737488355328) (hbase : base <= w.heap.size)
 (h : ∀ v' w', Hid (w'.ownsRow base e size v' (n + m) (xs ++ news)) -> Below B w0 w' -> (∀ k, k < w.heap.size -> v.ownBlock ≠ some k -> w'.heap[k]? = w.heap[k]?) -> wpList P ops Q rest (a.put o.dst v') w') : wpList P ops Q (o :: rest) a w := by
 obtain ⟨i0, hi0, hz0, hz1, hz2⟩ := JL hi;have Cf : ∀ k, v.ownBlock = some k -> base <= k := λ k e => by
  exact Pj
 rcases hsrc with ⟨rfl, rfl, rfl⟩ | ⟨ad, c, rfl, g1, g2, g3⟩
 ·refine wpList_append_own_none hgd s x t ho base e i0 size ht hi0 v n xs hs hown hx (h v w ?_ hb (λ _ _ _ => rfl))
  rw [JA, Ko];exact hown
 ·refine Kn w hgd s x t ho base e i0 z size bytes ht hi0 hz0 hz1 hz2 hzs hsz v n xs hs hown ad m c news hx g1 g2 g3 h63 hbytes hbase ?_
  intro v' w' ho' hg _;exact h v' w' ho' (hb.grown hg GX (λ k e => Hm (Cf k e))) (λ k hk hn => hg.block k hk (λ e => hn e.symm))
end
theorem yu {h : Array Obj} {sv t0 t1 t2 t3 wv : Value} {x : St} {many : Int} (r : RB h F sv t0 t1 t2 t3 x many) (hw : wv.oneCell' = true) (m' room : Int) (dead : Bool) (stops : Int) : (dC m' room sv t0 t1 t2 t3 wv dead stops).all (·.oneCell') = true := by
 obtain ⟨secs, s1, s2, b0, b1, b2, b3⟩ := r;simp [dC, s1.one, b0.one, b1.one, b2.one, b3.one, hw];simp [Value.oneCell']
theorem z5w {d : D} (hr : bU w.heap F v d) (ok : d.ok) (hn : d.waits.length <= 1000000000000) (s : Step) {u : Value} (hu : BytesAt w.heap F u s.b) : Calls prog 86 #[v, .agg #[.int .i64 s.what, .int .i64 s.n, .int .i64 s.many, u]] w (il w F (d.step s)) := by
 obtain ⟨sv, t0, t1, t2, t3, wv, rfl, rb, st⟩ := hr;obtain ⟨us, GU, z9y, GR⟩ := st.src;have hul : us.length = d.waits.length := by rw [<-GU]; simp
 obtain ⟨wa, wc, rfl, _, _⟩ := st.slice;obtain ⟨ua, uc, eu⟩ := hu.slice;generalize s.b.length = ul at eu;subst eu;rw [<-hul] at GR;have HN := hd1 (show us.length <= 1000000000000 by omega);have HL := hd1 hul;obtain ⟨b0, r0, r1, r2, z0⟩ := y6j w (dC d.many d.room sv t0 t1 t2 t3 (.slice wa d.waits.length wc) d.dead d.stops) #[.int .i64 s.what, .int .i64 s.n, .int .i64 s.many, .slice ua ul uc];obtain ⟨C, hC⟩ := G8 (dC d.many d.room sv t0 t1 t2 t3 (.slice wa d.waits.length wc) d.dead d.stops);have c7 : C[7]? = some (.slice wa d.waits.length wc) := by rw [<-hC]; rfl
 have dA : C.size = 10 := by rw [<-hC]; rfl
 rw [hC] at b0 r0 r1 r2 z0;obtain ⟨W0, hW0⟩ := G8 (stepW w C #[.int .i64 s.what, .int .i64 s.n, .int .i64 s.many, .slice ua ul uc]);rw [hW0] at b0 r0 r1 r2 z0;have hr0 : bU W0.heap (λ k => F k /\ k < w.heap.size) (.agg C) d := by
  rw [<-hC];exact ⟨sv, t0, t1, t2, t3, _, rfl, rb.keeps (λ k _ hl => b0.block k hl) (λ k h hl => ⟨h, hl⟩), st.keeps (λ k _ hl => b0.block k hl) (λ k h hl => ⟨h, hl⟩)⟩
 have GO := hd1 (z6y hr0 ok);have qA := hd3 GU z9y GR;have HD := hd8 b0 r0 hu r1 r2 z0 c7 dA;rw [hC];clear hC hr0 rb st ok b0 r0 r1 r2 z0 GU z9y GR hu c7 dA hn hul;rcases Cz d with h0 | h0
 ·have uZ := hd1 (GO.mono (R' := λ e w' => il W0 (λ k => F k /\ k < w.heap.size) (d.goes.1, 0) e w') λ e w' ⟨v, h1, h2⟩ => ⟨v, by rw [h0] at h1; exact h1, h2⟩)
  have E0 := hd1 h0;clear GO;go_in;go_upto_region 1 with fail
  clear hW0
  go_upto_region 3 with (first
   | (refine He HD.2.1 Hz (by rw [aI, HD.2.2.2.2.2.2.2]) ?_)
   | (go_at_call 91; refine uZ.mono ?_; rintro e W1 ⟨v1, rfl, hb1, gU, u0, u1, u2, u3, wv1, rfl, dI, st1⟩
      have R1 := hd3 hb1 dI st1;clear hb1 dI st1)
   | (refine aD rfl af _ _ rfl W1.heap.size _ rfl rfl af bS (II W1 _) aI rfl (nH R1.2.1 R1.2.2 _ _ _ _) ?_
      intro W2 HW2 cu HS2))
  have zz := R1.1.size;have z0 := HD.2.2.2.2.2.1;have z2 : W2.heap.size = W1.heap.size + 1 := by rw [HS2]; simp
  have old : ∀ k o, k < W1.heap.size -> W1.heap[k]? = some o -> W2.heap[k]? = some o := λ k o hk ho => (cu.block k Oa GX).trans (aM hk ho);have Dq : Below w w W1 := HD.1.trans (R1.1.mono GX);have Dp : Below w w W2 := Moves.new (Dq.alloc GX _) cu GX;have rb2 : RB W2.heap (plus (λ k => F k /\ k < w.heap.size) W0 W1) gU u0 u1 u2 u3 d.goes.1.lasts d.goes.1.many := R1.2.1.keeps (λ k _ hl => (cu.block k Oa GX).trans (heap_old_own _ _ _ hl)) (λ _ h _ => h);have GG : Hid (∀ k, plus (λ k => F k /\ k < w.heap.size) W0 W1 k -> (F k /\ k < w.heap.size) \/ (w.heap.size + 3 <= k /\ k ≠ W1.heap.size)) := λ k hk => by
   rcases hk with hk | hk
   ·exact IB hk
   ·exact IC ⟨GX, GX⟩
  have ROW := hd5 (Iz Dp rb2) (Iz (old _ _ GX ((R1.1.block _ GX).trans HD.2.1)) (old _ _ GX ((R1.1.block _ GX).trans HD.2.2.2.1))) (old _ _ GX ((R1.1.block _ GX).trans HD.2.2.2.2.1)) HW2.out (show w.heap.size + 3 <= W1.heap.size by omega);have HUL := hd1 (show (Value.slice wa d.waits.length wc) = .slice wa us.length wc by rw [HL.out]);have h0 := E0.out;clear cu HS2 HW2 zz z0 z2 old Dq Dp rb2;have x7 : ∀ x : Wd (Below W2 W2), x.world.cell? (w.heap.size, 7) = some (.slice wa d.waits.length wc) := λ x => (x.ok.cell (p := ⟨w.heap.size, 7, none⟩) (aa ROW.2.1.1)).trans (ae ROW.2.1.1 HD.2.2.2.2.2.2.1);have LD : Hid (∀ w', (∃ x : Wd (Below W2 W2), w' = x.world) -> (Instr.loadAt bJ (.pointer (some (w.heap.size + 1, 0)))).run prog w' = .ok (.agg #[.int .i64 s.what, .int .i64 s.n, .int .i64 s.many, .slice ua ul uc]) w') := by
   rintro w' ⟨x, rfl⟩;exact gy ((x.ok.block _ (aa ROW.2.1.2)).trans ROW.2.1.2) Il rfl rD
  have ne : Nonempty (Wd (Below W2 W2)) := ⟨⟨_, Below.refl _ _⟩⟩;have H0 := hd1 h0;clear h0;refine bD (λ w' => ∃ x : Wd (Below W2 W2), w' = x.world) [8] GV ?_;refine aL [1, 2, 4] 6 _ Hu GV ?_;simp only [fmc, fmn, gta, gcs, gcz];refine ak (λ K hK => ?_); simp only [au, aj]; go_simp; refine hK _ ?_; clear hK K;refine ak (λ K hK => ?_); simp only [au, aj]; go_simp; refine hK _ ?_; clear hK K;refine eH rfl bJ (.tmp 3) rfl _ LD.out ?_;refine aB ?_;refine Ak 0 5 5 _ _ _ rfl rfl GV ?_ ?_
  ·refine IJ rfl λ K hK => ?_
   go_simp;have nO : Below W2 W2 (W2.alloc (.cells #[] bJ)).drew := (bla).drew;have yE : (W2.alloc (.cells #[] bJ)).drew.ownsRow W2.heap.size bJ 4 (.slice (some W2.heap.size) 0 0) 0 [] := z7n W2;refine hK _ _ (IG ⟨rfl, λ _ => ⟨⟨_, nO⟩, rfl⟩, ?_⟩);clear hK K;have DR := hd1 yE;have zA : (W2.alloc (.cells #[] bJ)).drew.heap.size = W2.heap.size + 1 := by show (W2.alloc (.cells #[] bJ)).heap.size = _; simp
   have ZA := hd1 zA;clear yE zA;generalize (W2.alloc (.cells #[] bJ)).drew = WA at *;refine Ak 3 5 4 _ _ _ rfl rfl GV ?_ ?_
   ·refine Eh rfl (.tmp 15) (.tmp 17) vE rfl W2.heap.size W2.heap.size W2 nO G7 bJ (.agg #[.int .i64 0, .int .i64 0, .int .i64 0, .slice none 0 0]) 4 48 Ip wy rfl GY _ 0 [] rfl DR.out _ us.length (gN us) HUL.out (qA.2.2.below (ROW.1.1.trans (nO.mono ROW.1.1.size))) M0 (Hm HN.out) nO.size ?_
    intro v3 W3 iD hb3 _;rw [Ja, Jj] at iD;refine IG ⟨rfl, λ _ => ⟨⟨_, hb3⟩, rfl⟩, ?_⟩;refine aA 5 3 _ _ rfl GV ?_;refine IJ rfl λ K hK => ?_;go_simp;have hb4 : Below W2 W2 (W3.alloc (.cells #[.int .i64 s.what, .int .i64 s.n, .int .i64 s.many, .slice ua ul uc] bJ)) := hb3.alloc hb3.size _;have gb := II W3 (.cells #[.int .i64 s.what, .int .i64 s.n, .int .i64 s.many, .slice ua ul uc] bJ);have kW := hd1 (bi iD.out (G6.alloc G7 (.cells #[.int .i64 s.what, .int .i64 s.n, .int .i64 s.many, .slice ua ul uc] bJ)) G7);have GB := hd1 gb;refine hK _ _ (IG ⟨rfl, λ _ => ⟨⟨_, hb4⟩, rfl⟩, ?_⟩);clear hK K;clear gb;generalize W3.alloc (.cells #[.int .i64 s.what, .int .i64 s.n, .int .i64 s.many, .slice ua ul uc] bJ) = W4 at *;generalize W3.heap.size = gn at *;refine aA 6 2 _ _ rfl GV ?_;refine ng rfl (.tmp 18) (.tmp 20) vE rfl W2.heap.size W2.heap.size W2 hb4 G7 bJ (.agg #[.int .i64 0, .int .i64 0, .int .i64 0, .slice none 0 0]) 4 48 Ip wy rfl GY _ us.length (gN us) rfl kW.out _ 1 [.int .i64 s.what, .int .i64 s.n, .int .i64 s.many, .slice ua ul uc] rfl (EP GB.out rfl) M0 (Hm HN.out) hb4.size ?_;exact Ol
   ·refine IJ rfl λ K hK => ?_
    go_simp;have hb4 : Below W2 W2 (WA.alloc (.cells #[.int .i64 s.what, .int .i64 s.n, .int .i64 s.many, .slice ua ul uc] bJ)) := nO.alloc nO.size _;have gb := II WA (.cells #[.int .i64 s.what, .int .i64 s.n, .int .i64 s.many, .slice ua ul uc] bJ);have OWB := hd1 (bi DR.out (G6.alloc G7 (.cells #[.int .i64 s.what, .int .i64 s.n, .int .i64 s.many, .slice ua ul uc] bJ)) G7);have zB : (WA.alloc (.cells #[.int .i64 s.what, .int .i64 s.n, .int .i64 s.many, .slice ua ul uc] bJ)).heap.size = WA.heap.size + 1 := GZ;refine hK _ _ (IG ⟨rfl, λ _ => ⟨⟨_, hb4⟩, rfl⟩, ?_⟩);clear hK K;have D7 := hd1 gb;have ZB := hd1 zB;clear gb zB;generalize WA.alloc (.cells #[.int .i64 s.what, .int .i64 s.n, .int .i64 s.many, .slice ua ul uc] bJ) = WB at *;refine aA 3 3 _ _ rfl GV ?_;refine Eh rfl (.tmp 15) (.tmp 17) vE rfl W2.heap.size W2.heap.size W2 hb4 G7 bJ (.agg #[.int .i64 0, .int .i64 0, .int .i64 0, .slice none 0 0]) 4 48 Ip wy rfl GY _ 0 [] rfl OWB.out _ us.length (gN us) HUL.out (qA.2.2.below (ROW.1.1.trans (hb4.mono ROW.1.1.size))) M0 (Hm HN.out) hb4.size ?_;intro v3 W4 kW hb5 hkk;rw [Ja, Jj] at kW;have GB : Hid (W4.heap[WA.heap.size]? = some (.cells #[.int .i64 s.what, .int .i64 s.n, .int .i64 s.many, .slice ua ul uc] bJ)) := by
     have hz := ZA.out;have hz2 := ZB.out;rw [show W4.heap[WA.heap.size]? = WB.heap[WA.heap.size]? from hkk _ GX (λ e => by have e' : W2.heap.size = WA.heap.size := IR e; omega)];exact D7.out
    refine IG ⟨rfl, λ _ => ⟨⟨_, hb5⟩, rfl⟩, ?_⟩;clear hkk;generalize WA.heap.size = gn at *;refine aA 6 2 _ _ rfl GV ?_;refine ng rfl (.tmp 18) (.tmp 20) vE rfl W2.heap.size W2.heap.size W2 hb5 G7 bJ (.agg #[.int .i64 0, .int .i64 0, .int .i64 0, .slice none 0 0]) 4 48 Ip wy rfl GY _ us.length (gN us) rfl kW.out _ 1 [.int .i64 s.what, .int .i64 s.n, .int .i64 s.many, .slice ua ul uc] rfl (EP GB.out rfl) M0 (Hm HN.out) hb5.size ?_;exact Ol
  ·refine IJ rfl λ K hK => ?_
   go_simp;have hb4 : Below W2 W2 (W2.alloc (.cells #[.int .i64 s.what, .int .i64 s.n, .int .i64 s.many, .slice ua ul uc] bJ)).drew := (bla).drew;have gb : (W2.alloc (.cells #[.int .i64 s.what, .int .i64 s.n, .int .i64 s.many, .slice ua ul uc] bJ)).drew.heap[W2.heap.size]? = _ := II W2 (.cells #[.int .i64 s.what, .int .i64 s.n, .int .i64 s.many, .slice ua ul uc] bJ);have zB : (W2.alloc (.cells #[.int .i64 s.what, .int .i64 s.n, .int .i64 s.many, .slice ua ul uc] bJ)).drew.heap.size = W2.heap.size + 1 := by show (W2.alloc (.cells #[.int .i64 s.what, .int .i64 s.n, .int .i64 s.many, .slice ua ul uc] bJ)).heap.size = _; simp
   refine hK _ _ (IG ⟨rfl, λ _ => ⟨⟨_, hb4⟩, rfl⟩, ?_⟩);clear hK K;have D7 := hd1 gb;have ZB := hd1 zB;clear gb zB;generalize (W2.alloc (.cells #[.int .i64 s.what, .int .i64 s.n, .int .i64 s.many, .slice ua ul uc] bJ)).drew = WB at *;refine aA 0 4 _ _ rfl GV ?_;refine IJ rfl λ K hK => ?_;go_simp;have nO : Below W2 W2 (WB.alloc (.cells #[] bJ)) := hb4.alloc hb4.size _;have yE := bi (z7n WB) G6 hb4.size;refine hK _ _ (IG ⟨rfl, λ _ => ⟨⟨_, nO⟩, rfl⟩, ?_⟩);clear hK K;have DR := hd1 yE;have zA : (WB.alloc (.cells #[] bJ)).heap.size = WB.heap.size + 1 := GZ;have GB1 := hd1 (aM (o' := .cells #[] bJ) (aa D7.out) D7.out);have ZA := hd1 zA;clear yE zA;generalize WB.alloc (.cells #[] bJ) = WA at *;refine aA 3 3 _ _ rfl GV ?_;refine Eh rfl (.tmp 15) (.tmp 17) vE rfl W2.heap.size W2.heap.size W2 nO G7 bJ (.agg #[.int .i64 0, .int .i64 0, .int .i64 0, .slice none 0 0]) 4 48 Ip wy rfl GY _ 0 [] rfl DR.out _ us.length (gN us) HUL.out (qA.2.2.below (ROW.1.1.trans (nO.mono ROW.1.1.size))) M0 (Hm HN.out) nO.size ?_;intro v3 W4 kW hb5 hkk;rw [Ja, Jj] at kW;have GB : Hid (W4.heap[W2.heap.size]? = some (.cells #[.int .i64 s.what, .int .i64 s.n, .int .i64 s.many, .slice ua ul uc] bJ)) := by
    have hz := ZA.out;have hz2 := ZB.out;rw [show W4.heap[W2.heap.size]? = WA.heap[W2.heap.size]? from hkk _ GX (λ e => by have e' : WB.heap.size = W2.heap.size := IR e; omega)];exact GB1.out
   refine IG ⟨rfl, λ _ => ⟨⟨_, hb5⟩, rfl⟩, ?_⟩;clear hkk;refine aA 6 2 _ _ rfl GV ?_;refine ng rfl (.tmp 18) (.tmp 20) vE rfl W2.heap.size W2.heap.size W2 hb5 G7 bJ (.agg #[.int .i64 0, .int .i64 0, .int .i64 0, .slice none 0 0]) 4 48 Ip wy rfl GY _ us.length (gN us) rfl kW.out _ 1 [.int .i64 s.what, .int .i64 s.n, .int .i64 s.many, .slice ua ul uc] rfl (EP GB.out rfl) M0 (Hm HN.out) hb5.size ?_;exact Ol
 ·have uZ := hd1 (GO.mono (R' := λ e w' => il W0 (λ k => F k /\ k < w.heap.size) (d.goes.1, 281) e w') λ e w' ⟨v, h1, h2⟩ => ⟨v, by rw [h0] at h1; exact h1, h2⟩)
  clear GO;have e2 : d.step s = (d.goes.1, 281) := by unfold D.step; rw [IA GX, h0]
  have E2 := hd1 e2;clear e2 h0;go_in;go_upto_region 1 with fail
  clear hW0
  go_wp2_with (first
   | (refine He HD.2.1 Hz (by rw [aI, HD.2.2.2.2.2.2.2]) ?_)
   | (go_at_call 91; refine uZ.mono ?_; rintro e W1 ⟨v1, rfl, hb1, gU, u0, u1, u2, u3, wv1, rfl, dI, st1⟩
      have R1 := hd3 hb1 dI st1;clear hb1 dI st1)
   | (refine aD rfl af _ _ rfl W1.heap.size _ rfl rfl af bS (II W1 _) aI rfl (nH R1.2.1 R1.2.2 _ _ _ _) ?_
      intro W2 HW2 cu HS2)
   | (refine He HW2.out Hz aI ?_)
   | (refine aD rfl af _ _ rfl (w.heap.size + 1 + 1) _ rfl rfl af bS ((cu.block _ (by have := R1.1.size; have := HD.2.2.2.2.2.1; simp; omega) (Ho R1.1.size HD.2.2.2.2.2.1)).trans (aM (Ho R1.1.size HD.2.2.2.2.2.1) ((R1.1.block _ (aa HD.2.2.2.2.1)).trans HD.2.2.2.2.1))) aI rfl (nH R1.2.1 R1.2.2 _ _ _ _) ?_
      intro W8 gp dL kC))
  refine Hf gp.out Hz aI ?_;rw [E2.out];have zz := R1.1.size;have z0 := HD.2.2.2.2.2.1;have Dq : Below w w W1 := HD.1.trans (R1.1.mono GX);have Dp : Below w w W2 := Moves.new (Dq.alloc GX _) cu GX;have bw8 : Below w w W8 := Moves.new Dp dL GX;have keep : ∀ k, plus (λ k => F k /\ k < w.heap.size) W0 W1 k -> k < W1.heap.size -> W8.heap[k]? = W1.heap[k]? := λ k hk hl => by
   have hk2 : k ≠ w.heap.size + 1 + 1 := by rcases hk with hk | hk <;> omega
   rw [dL.block k (by rw [HS2]; simp; omega) hk2, cu.block k Oa GX];exact heap_old_own _ _ _ hl
  have big : ∀ k, plus (λ k => F k /\ k < w.heap.size) W0 W1 k -> k < W1.heap.size -> plus F w W8 k := λ k hk hl => by
   rcases hk with hk | hk
   ·exact IB hk.1
   ·exact IC ⟨GX, by rw [kC, HS2]; simp; omega⟩
  exact ⟨_, rfl, bw8, gU, u0, u1, u2, u3, wv1, rfl, R1.2.1.keeps keep big, R1.2.2.keeps keep big⟩
theorem Bn {W5 : World} {d : D} (hr : bU w.heap F v d) (hb : Below w w W5) : il w F (d, c) (.returned (.tuple #[v, .int .i64 c])) W5 := ⟨v, rfl, hb, hr.plus hb⟩
theorem Fp {W4 W5 : World} {d : D} (hb0 : Below w w W0) (z0 : W0.heap.size = w.heap.size + 2) (hb4 : Below W0 W0 W4) (hr : bU W4.heap G v d) (hG : ∀ k, G k -> (F k /\ k < w.heap.size) \/ w.heap.size + 2 <= k) (hM : Moves (λ k => k = w.heap.size + 1) W4 W5) :
 il w F (d, c) (.returned (.tuple #[v, .int .i64 c])) W5 := by
 have z4 := hb4.size;have z5 := hM.size;have hb5 : Below w w W5 := Moves.new (hb0.trans (hb4.mono GX)) hM GX;refine ⟨v, rfl, hb5, hr.keeps (λ k hk hl => hM.block k hl ?_) (λ k hk hl => ?_)⟩
 ·rcases hG k hk with h | h
  ·omega
  ·omega
 ·exact Qu
structure zN (w W0 : World) (F : Nat -> Prop) (C : Array Value) (d : D) : Prop where
 below : Below w.heap.size w W0
 r0 : W0.heap[w.heap.size]? = some (.cells C af (0, 0))
 r1 : W0.heap[w.heap.size + 1]? = some (.cells bS af (0, 0))
 size : W0.heap.size = w.heap.size + 2
 ref : bU w.heap F (.agg C) d
 dA : C.size = 10
 ones : C.all (·.oneCell') = true
 c0 : C[0]? = some (.int .i64 d.many)
 c1 : C[1]? = some (.int .i64 d.room)
theorem yw {d : D} (hr : bU w.heap F v d) : ∃ C, v = .agg C /\ zN w (jR w C) F C d := by
 have hr0 := hr;obtain ⟨sv, t0, t1, t2, t3, wv, rfl, rb, st⟩ := hr;refine ⟨_, rfl, ?_⟩;obtain ⟨b0, r0, r1, z0⟩ := Fq w (dC d.many d.room sv t0 t1 t2 t3 wv d.dead d.stops);exact ⟨b0, r0, r1, z0, hr0, rfl, nH rb st _ _ _ _, rfl, rfl⟩
def xA (F : Nat -> Prop) (w : World) : Nat -> Prop := λ k => (F k /\ k < w.heap.size) \/ w.heap.size + 2 <= k
theorem zN.at {X : World} {d : D} (h : zN w W0 F C d) (hb : Below W0 W0 X) : bU X.heap (xA F w) (.agg C) d :=
 h.ref.keeps (λ k _ hl => (hb.block k (Hm h.size)).trans (h.below.block k hl)) (λ k hk hl => IB ⟨hk, hl⟩)
theorem x3f {X : World} {base : Nat} (h : b_ X base v l) (hb : w.heap.size + 2 <= base) : BytesAt X.heap (xA F w) v l :=
 h.bytes.bytes.keeps (λ _ _ _ => rfl) (λ k hk _ => IC (by have : base <= k := hk; omega))
theorem FV {X Y : World} (hX : w.heap.size + 2 <= X.heap.size) : ∀ k, plus (xA F w) X Y k -> (F k /\ k < w.heap.size) \/ w.heap.size + 2 <= k := λ k hk => by
 exact Q_
theorem z4r {d : D} (ok : d.ok) : ∀ t, (d.stand.tp t).length <= 1048576 := λ t => Ho (kK ok t) ok.fE
theorem z6a {d : D} (hr : bU w.heap F v d) (ok : d.ok) (hn : d.waits.length <= 1000000000000) (n : Int) {bv : Value} (hv : BytesAt w.heap G bv l) (hl : l.length <= 4000000) :
 Calls prog 51 #[v, .int .i64 n, bv] w (il w F (d.append n l)) := by
 obtain ⟨C, rfl, hin⟩ := yw hr;obtain ⟨W0, hW0⟩ := G8 (jR w C);rw [hW0] at hin;obtain ⟨ba, bc, eb⟩ := hv.slice;subst eb;have aC := hd1 hin;have HV := hd1 hv;have OK := hd3 ok hn hl;have u0 := Ap d.stand;have u1 := Es ok;have hw : IntKind.i64.wrap (d.stand.used + (l.length : Int)) = d.stand.used + (l.length : Int) := Jd _ GX;clear hin hv ok hn hr;by_cases h1 : n < 0 \/ n > 3
 ·have e : d.append n l = (d, 4) := by unfold D.append; rw [IE h1]
  rw [e];clear e;by_cases hn0 : n < 0
  all_goals
   have hn2 : ¬ n < 0 -> 3 < n := λ h => GX;simp only [hn0, not_true_eq_false, Lx, forall_const, false_implies] at hn2;clear h1 hw;go_in;go_upto_region 1 with fail
   clear hW0
   go_wp2_with (first
    | (refine He aC.r0 Hz NR ?_)
    | (refine aD rfl af _ _ rfl (w.heap.size + 1) _ rfl rfl af bS aC.r1 NR NG aC.ones ?_
       intro W5 aF az bf))
   refine Hf aF.out Hz NR ?_;exact Bn aC.ref (Moves.new aC.below az GX)
 ·have n1 : ¬ n < 0 := GX
  have n2 : ¬ 3 < n := GX;have ne : Nonempty (Wd (Below W0 W0)) := ⟨⟨_, Below.refl _ _⟩⟩;have x1 : ∀ x : Wd (Below W0 W0), x.world.cell? (w.heap.size, 1) = some (.int .i64 d.room) := λ x => (x.ok.cell (p := ⟨w.heap.size, 1, none⟩) (aa aC.r0)).trans (ae aC.r0 aC.c1);have LD : Hid (∀ w', (∃ x : Wd (Below W0 W0), w' = x.world) -> (Instr.loadAt af (.pointer (some w.heap.size))).run prog w' = .ok (.agg C) w') := by
   rintro w' ⟨x, rfl⟩;exact gy ((x.ok.block _ (aa aC.r0)).trans aC.r0) Hz rfl NR
  have ST := hd1 (qQ (aC.at (X := W0.drew) G6.drew) OK.1 OK.2.1);have hcase : (d.append n l = (d, 280) /\ d.room < d.stand.used + (l.length : Int)) \/ (d.append n l = d.step ⟨2, n, 0, l⟩ /\ ¬ d.room < d.stand.used + (l.length : Int)) := by
   unfold D.append;rw [IA h1];by_cases h2 : d.stand.used + (l.length : Int) > d.room
   ·exact IB ⟨by rw [IE h2], h2⟩
   ·exact IC ⟨by rw [IA h2], h2⟩
  clear h1;rcases hcase with ⟨e, h2⟩ | ⟨e, h2⟩
  all_goals
   rw [e];clear e;go_in;go_upto_region 1 with fail
   clear hW0;go_upto_region 3 with fail
   refine bD (λ w' => ∃ x : Wd (Below W0 W0), w' = x.world) [] GV ?_;refine aL [0, 3, 4, 6, 7] 4 _ Hu GV ?_;simp only [fmc, fmn, gta, gcs, gcz];refine eH rfl af (.tmp 3) rfl _ LD.out ?_;repeat refine Ha ?_
   refine aB ?_;refine aA 1 3 _ _ rfl GV ?_;refine IJ rfl λ K hK => ?_;go_simp;go_at_call 49;refine ST.mono ?_;rintro e X1 ⟨sv, t0, t1, t2, t3, rfl, hbx, nI⟩;have Co : Below W0 W0 X1 := G6.drew.trans hbx;have RX := hd1 nI;clear nI hbx;refine hK _ _ (IG ⟨rfl, λ _ => ⟨⟨_, Co⟩, rfl⟩, ?_⟩);clear hK K;refine aA 2 2 _ _ rfl GV ?_;refine IJ rfl λ K hK => ?_;go_simp;go_at_call 87;refine (y7o RX.out (z4r OK.1)).mono ?_;rintro e Y0 ⟨rfl, hby⟩;have qb : Below W0 W0 Y0 := Co.trans (hby.mono Co.size);clear hby Co RX;refine hK _ _ (IG ⟨rfl, λ _ => ⟨⟨_, qb⟩, rfl⟩, ?_⟩);clear hK K;refine aL [5, 8] 0 _ ⟨⟨_, qb⟩, rfl⟩ GV ?_;refine Hd ?_;refine ⟨GV, ?_⟩
  ·clear hw x1
   go_wp2_with (first
    | (refine He ((qb.block _ (aa aC.r0)).trans aC.r0) Hz NR ?_)
    | (refine aD rfl af _ _ rfl (w.heap.size + 1) _ rfl rfl af bS ((qb.block _ (aa aC.r1)).trans aC.r1) NR NG aC.ones ?_
       intro W5 aF az bf))
   refine Hf aF.out Hz NR ?_;exact Bn aC.ref (Moves.new (aC.below.trans (qb.mono aC.below.size)) az GX)
  ·clear hw x1
   go_upto_region 5 with fail
   refine bD (λ w' => ∃ x : Wd (Below W0 W0), w' = x.world) [9, 10] GV ?_;refine aL [0, 1, 3] 8 _ ⟨⟨_, qb.drew⟩, rfl⟩ GV ?_;simp only [fmc, fmn, gta, gcs, gcz];refine eH rfl af (.tmp 3) rfl _ LD.out ?_;repeat refine Ha ?_
   refine aB ?_;refine aA 2 7 _ _ rfl GV ?_;refine IJ rfl λ K hK => ?_;go_simp;have hb1 : Below W0 W0 (Y0.alloc (.cells #[] bV)).drew := (qb.alloc qb.size _).drew;have qZ : b_ (Y0.alloc (.cells #[] bV)).drew W0.heap.size (.slice (some Y0.heap.size) 0 0) [] := bi (BH Y0) G6.drew qb.size;refine hK _ _ (IG ⟨rfl, λ _ => ⟨⟨_, hb1⟩, rfl⟩, ?_⟩);clear hK K;have lZ := hd1 qZ;clear qZ;generalize (Y0.alloc (.cells #[] bV)).drew = W1 at *;refine aA 4 6 _ _ rfl GV ?_;refine dP rfl (.tmp 27) (.tmp 28) rfl W0.heap.size W0.heap.size W0 hb1 G7 _ [] rfl lZ.out _ l G rfl (HV.keeps (λ k _ hl => (hb1.block k (Hm aC.size)).trans (aC.below.block k hl)) (λ _ h _ => h)) (by have := OK.2.2; simp; omega) hb1.size ?_;intro v1 W2 jv hb2 _;refine IG ⟨rfl, λ _ => ⟨⟨_, hb2⟩, rfl⟩, ?_⟩;rw [Jj] at jv;have wV := x3f (F := F) (w := w) jv.out (Hm aC.size);obtain ⟨a2, c2, rfl⟩ := wV.slice;have SC := hd1 (z5w (aC.at hb2) OK.1 OK.2.1 ⟨2, n, 0, l⟩ wV);clear wV;generalize l.length = ll at *;refine aL [5] 5 _ ⟨⟨_, hb2⟩, rfl⟩ GV ?_;refine Hd ?_;refine aA 6 4 _ _ rfl GV ?_;refine IJ rfl λ K hK => ?_;go_simp;go_at_call 86;refine SC.mono ?_;rintro e W3 ⟨v3, rfl, hb3, hr3⟩;obtain ⟨sv, t0, t1, t2, t3, wv, ev, rb, st⟩ := id hr3;subst ev;have rG : Below W0 W0 W3 := hb2.trans (hb3.mono hb2.size);have R3 := hd2 hr3 (nH rb st);clear rb st hr3 hb3;refine hK _ _ (IG ⟨rfl, λ _ => ⟨⟨_, rG⟩, rfl⟩, ?_⟩);clear hK K;refine aL [7, 8] 2 _ ⟨⟨_, rG⟩, rfl⟩ GV ?_;refine Hd ?_;refine aA 9 1 _ _ rfl GV ?_;refine aD rfl af _ _ rfl (w.heap.size + 1) _ rfl rfl af bS ((rG.block _ (aa aC.r1)).trans aC.r1) aI rfl (R3.2 _ _ _ _) ?_
   intro W5 aF az bf;refine IG ⟨rfl, λ h => absurd GY h, ?_⟩;have H5 := hd1 az;clear az bf;refine aA 10 0 _ _ rfl GV ?_;refine IJ rfl λ K hK => ?_;go_simp;refine hK _ _ (IG ⟨rfl, λ h => absurd GY h, GV, ?_⟩);clear hK K;go_wp2;refine Hf aF.out Hz aI ?_;exact Fp aC.below aC.size rG R3.1 (FV (Ho hb2.size aC.size)) H5.out
theorem FI {d : D} (hr : bU w.heap F v d) (ok : d.ok) (hn : d.waits.length <= 1000000000000) (n : Int) {bv : Value} (hv : BytesAt w.heap G bv l) (hl : l.length <= 1048576) :
 Calls prog 51 #[v, .int .i64 n, bv] w (il w F (d.append n l)) := z6a hr ok hn n hv (IV hl GY)
theorem zN.at0 {X : World} {d : D} (h : zN w W0 F C d) (hb : Below W0 W0 X) : bU X.heap (λ k => F k /\ k < w.heap.size) (.agg C) d :=
 h.ref.keeps (λ k _ hl => (hb.block k (Hm h.size)).trans (h.below.block k hl)) (λ k hk hl => ⟨hk, hl⟩)
theorem vL {d : D} (hr : bU w.heap F v d) (ok : d.ok) (hn : d.waits.length <= 1000000000000) : Calls prog 53 #[v] w (il w F d.sync) := by
 obtain ⟨C, rfl, hin⟩ := yw hr;obtain ⟨W0, hW0⟩ := G8 (jR w C);rw [hW0] at hin;have aC := hd1 hin;have OK := hd2 ok hn;have GO := hd1 (z6y (hin.at G6) ok);clear hin hr ok hn;rcases Cz d with h0 | h0
 ·have uZ := hd1 (GO.mono (R' := λ e w' => il W0 (xA F w) (d.goes.1, 0) e w') λ e w' ⟨v, h1, h2⟩ => ⟨v, by rw [h0] at h1; exact h1, h2⟩)
  have e2 : d.sync = ({ d.goes.1 with lasts := d.stand, waits := [] }, 0) := by unfold D.sync; rw [IE h0]
  rw [e2];clear GO e2 h0;go_in;go_upto_region 1 with fail
  clear hW0
  go_upto_region 4 with (first
   | (refine IL rfl af (.tmp 1) rfl w.heap.size rfl af C (0, 0) _ aC.r0 Hz rfl NR ?_)
   | (go_at_call 91; refine uZ.mono ?_; rintro e W1 ⟨v1, rfl, hb1, gU, u0, u1, u2, u3, wv1, rfl, dI, st1⟩
      have R1 := hd3 hb1 dI st1;clear hb1 dI st1)
   | (refine aD rfl af _ _ rfl W1.heap.size _ rfl rfl af bS (II W1 _) aI rfl (nH R1.2.1 R1.2.2 _ _ _ _) ?_
      intro W2 HW2 cu HS2;have z2 : W2.heap.size = W1.heap.size + 1 := by rw [HS2]; simp
      have hb2 : Below W0 W0 W2 := Moves.new (R1.1.alloc R1.1.size _) cu R1.1.size;have R2 := hd3 hb2 HW2.out z2;clear cu HS2 HW2 z2 hb2)
   | (refine IL rfl af (.tmp 1) rfl w.heap.size rfl af C (0, 0) _ ((R2.1.block _ (aa aC.r0)).trans aC.r0) Hz rfl NR ?_)
   | (go_at_call 49; refine (qQ (aC.at0 R2.1) OK.1 OK.2).mono ?_; rintro e X1 ⟨sv, t0, t1, t2, t3, rfl, hbx, nI⟩
      have RX := hd3 hbx nI ((hbx.block _ (aa R2.2.1)).trans R2.2.1);clear hbx nI)
   | (refine ou rfl aO (.tmp 15) (.tmp 14) rfl W1.heap.size 2 #[sv, t0, t1, t2, t3] rfl rfl af _ RX.2.2 bX (by simp [dC]) RX.2.1.ones ?_
      intro W3 HW3 bQ fT;have k7 : ∃ v, W3.cell? (W1.heap.size, 7) = some v := ⟨_, ae HW3.out rfl⟩;have f7 : W3.frozen? ⟨W1.heap.size, 7, none⟩ = false := aU HW3.out _;obtain ⟨v7, k7⟩ := k7;have R3 := hd2 bQ fT;clear bQ fT))
  have s0 := IU W3 W1.heap.size 7 _ af (.slice none 0 0) HW3.out;have S0 : Hid ((W3.setCell (W1.heap.size, 7) (.slice none 0 0)).heap[W1.heap.size]? = some (.cells (dC d.goes.1.many d.goes.1.room sv t0 t1 t2 t3 (.slice none 0 0) d.goes.1.dead d.goes.1.stops) af (0, 0))) := s0;have z0 := aC.size;have z1 := R1.1.size;have z2 := R2.2.2;have z3 := RX.1.size;have s1 : (W3.setCell (W1.heap.size, 7) (.slice none 0 0)).heap[w.heap.size + 1]? = some (.cells bS af) := by
   rw [IW _ _ _ _ (by show w.heap.size + 1 ≠ W1.heap.size; omega), R3.1.block _ GX GX, RX.1.block _ GX, R2.1.block _ GX];exact aC.r1
  have S1 := hd1 s1;have blk : ∀ k, k < X1.heap.size -> k ≠ W1.heap.size -> (W3.setCell (W1.heap.size, 7) (.slice none 0 0)).heap[k]? = X1.heap[k]? := λ k hk hne => by
   rw [IW _ _ _ _ hne, R3.1.block _ hk hne]
  have bw : Below w w (W3.setCell (W1.heap.size, 7) (.slice none 0 0)) := by
   refine ⟨R3.1.os.trans (RX.1.os.trans (R2.1.os.trans aC.below.os)), R3.1.tape.trans (RX.1.tape.trans (R2.1.tape.trans aC.below.tape)), R3.1.output.trans (RX.1.output.trans (R2.1.output.trans aC.below.output)), ?_, λ k hk => ?_⟩
   ·have := R3.1.size; simp; omega
   ·rw [blk k GX GX, RX.1.block _ GX, R2.1.block _ GX]
    exact aC.below.block k hk
  have sz7 : (W3.setCell (W1.heap.size, 7) (.slice none 0 0)).heap.size = X1.heap.size := by have := R3.2; simp; omega
  have HB := hd3 bw blk sz7;clear s0 s1 blk bw sz7 k7 f7;generalize (W3.setCell (W1.heap.size, 7) (.slice none 0 0)) = W7 at *
  go_wp2_with (first
   | (refine He S0.out Hz aI ?_)
   | (refine aD rfl af _ _ rfl (w.heap.size + 1) _ rfl rfl af bS S1.out aI rfl (yu RX.2.1 rfl _ _ _ _) ?_
      intro W8 gp dL kC))
  refine Hf gp.out Hz aI ?_;have z8 := dL.size;have z9 := HB.2.2;refine ⟨_, rfl, Moves.new HB.1 dL GX, sv, t0, t1, t2, t3, .slice none 0 0, rfl, ?_, IB ⟨rfl, rfl⟩⟩;rw [rQ];refine RX.2.1.keeps (λ k hk hl => ?_) (λ k hk hl => ?_)
  ·rw [dL.block k GX ?_, HB.2.1 k hl ?_]
   ·rcases hk with hk | hk <;> omega
   ·rcases hk with hk | hk <;> omega
  ·exact Rn
 ·have uZ := hd1 (GO.mono (R' := λ e w' => il W0 (xA F w) (d.goes.1, 281) e w') λ e w' ⟨v, h1, h2⟩ => ⟨v, by rw [h0] at h1; exact h1, h2⟩)
  have e2 : d.sync = (d.goes.1, 281) := by unfold D.sync; rw [IA GX, h0]
  rw [e2];clear GO e2 h0;go_in;go_upto_region 1 with fail
  clear hW0
  go_wp2_with (first
   | (refine IL rfl af (.tmp 1) rfl w.heap.size rfl af C (0, 0) _ aC.r0 Hz rfl NR ?_)
   | (go_at_call 91; refine uZ.mono ?_; rintro e W1 ⟨v1, rfl, hb1, hr1⟩
      obtain ⟨gU, u0, u1, u2, u3, wv1, ev, dI, st1⟩ := id hr1;subst ev;have R1 := hd3 hb1 (nH dI st1) hr1;clear hb1 dI st1 hr1)
   | (refine aD rfl af _ _ rfl W1.heap.size _ rfl rfl af bS (II W1 _) aI rfl (R1.2.1 _ _ _ _) ?_
      intro W2 HW2 cu HS2;have z2 : W2.heap.size = W1.heap.size + 1 := by rw [HS2]; simp
      have hb2 : Below W1 W1 W2 := Moves.new (bla) cu G7;have R2 := hd3 hb2 HW2.out z2;clear cu HS2 HW2 z2 hb2)
   | (refine He R2.2.1 Hz aI ?_)
   | (refine aD rfl af _ _ rfl (w.heap.size + 1) _ rfl rfl af bS ((R2.1.block _ (Ho R1.1.size aC.size)).trans ((R1.1.block _ (aa aC.r1)).trans aC.r1)) aI rfl (R1.2.1 _ _ _ _) ?_
      intro W8 gp dL kC))
  refine Hf gp.out Hz aI ?_;exact Fp aC.below aC.size (R1.1.trans (R2.1.mono R1.1.size)) (R1.2.2.keeps (F' := plus (xA F w) W0 W1) (λ k _ hl => R2.1.block k hl) (λ _ h _ => h)) (FV (Hm aC.size)) dL
theorem RB.idx {h : Array Obj} {sv t0 t1 t2 t3 : Value} {x : St} {many : Int} (r : RB h F sv t0 t1 t2 t3 x many) (t : Nat) (ht : t < 4) : ∃ v a c, #[t0, t1, t2, t3][t]? = some v /\ v = .slice a (x.tp t).length c := by
 obtain ⟨secs, s1, s2, b0, b1, b2, b3⟩ := r;obtain rfl | rfl | rfl | rfl : t = 0 \/ t = 1 \/ t = 2 \/ t = 3 := GX
 ·obtain ⟨a, c, e⟩ := b0.slice; exact ⟨t0, a, c, rfl, e⟩
 ·obtain ⟨a, c, e⟩ := b1.slice; exact ⟨t1, a, c, rfl, e⟩
 ·obtain ⟨a, c, e⟩ := b2.slice; exact ⟨t2, a, c, rfl, e⟩
 ·obtain ⟨a, c, e⟩ := b3.slice; exact ⟨t3, a, c, rfl, e⟩
theorem z5z (sv t0 t1 t2 t3 : Value) (W : World) : (Instr.field aO (.agg #[sv, t0, t1, t2, t3]) 1).run prog W = .ok (.agg #[t0, t1, t2, t3]) W := GV
theorem x0p {d : D} (hr : bU w.heap F v d) (t n : Int) (hb : t < 0 \/ (¬ t < 0 /\ 3 < t) \/ (¬ t < 0 /\ ¬ 3 < t /\ n < 0)) : Calls prog 50 #[v, .int .i64 t, .int .i64 n] w (il w F (d, 4)) := by
 obtain ⟨C, rfl, hin⟩ := yw hr;obtain ⟨W0, hW0⟩ := G8 (jR w C);rw [hW0] at hin;have aC := hd1 hin;clear hin hr;rcases hb with h1 | ⟨h1, h2⟩ | ⟨h1, h2, h3⟩
 all_goals
  go_in;go_upto_region 1 with fail
  clear hW0
  go_wp2_with (first
   | (refine He aC.r0 Hz NR ?_)
   | (refine aD rfl af _ _ rfl (w.heap.size + 1) _ rfl rfl af bS aC.r1 NR NG aC.ones ?_
      intro W5 aF az bf))
  refine Hf aF.out Hz NR ?_;exact Bn aC.ref (Moves.new aC.below az GX)
theorem z2m {P : Program} {ops : Array Oper} {rest : List Oper} {o : Oper} {a : Act} {Q : Exit -> Act -> World -> Prop} (hw : Region.wanted o (yielded ops a.tmps) = true) (ty : TypeId) (x : Operand) (ho : o.op = .load ty x)
 (g : Nat) (hx : a.eval x = .pointer (some g)) (t : TypeId) (cs : Array Value) (fr : Nat × Nat) (d : TypeDesc) (hg : w.heap[g]? = some (.cells cs t fr))
 (hu : P.underlying ty = some d) (hd : (match d with | .struct _ | .array _ _ => true | _ => false) = true) (hi : (P.info? ty).map (·.size) = some cs.size)
 (h : wpList P ops Q rest (a.put o.dst (.agg cs)) w) : wpList P ops Q (o :: rest) a w := by
 simp only [wpList, hw, I6];exact IB (wp_load_row ty x ho g hx t cs fr d hg hu hd hi h)
theorem Bq {d : D} (hr : bU w.heap F v d) (ok : d.ok) (hn : d.waits.length <= 1000000000000) (t n : Int) : Calls prog 50 #[v, .int .i64 t, .int .i64 n] w (il w F (d.cut t n)) := by
 by_cases h1 : t < 0 \/ t > 3 \/ n < 0
 ·have e : d.cut t n = (d, 4) := by unfold D.cut; rw [IE GX]
  rw [e];exact x0p hr t n GX
 ·obtain ⟨t, rfl, ht⟩ := lF (n := t) (k := 3) GX GX
  obtain ⟨C, rfl, hin⟩ := yw hr;obtain ⟨W0, hW0⟩ := G8 (jR w C);rw [hW0] at hin;have aC := hd1 hin;have OK := hd2 ok hn;have sl := z4r ok t;clear hin hr ok hn;have ST := hd1 (qQ (aC.at (X := W0) G6) OK.1 OK.2);have hcase : (d.cut t n = (d, 4) /\ ((d.stand.tp t).length : Int) < n) \/ (d.cut t n = d.step ⟨3, t, n, []⟩ /\ ¬ ((d.stand.tp t).length : Int) < n) := by
   unfold D.cut;by_cases h2 : n > (d.stand.tp t).length
   ·exact IB ⟨by rw [IE GX], h2⟩
   ·exact IC ⟨by rw [IA GX], h2⟩
  have c1 : ¬ (t : Int) < 0 := GX;have c2 : ¬ 3 < (t : Int) := GX;have c3 : ¬ n < 0 := GX;have c4 : ¬ 3 < t := GX;clear h1;rcases hcase with ⟨e, h2⟩ | ⟨e, h2⟩
  ·rw [e]
   clear e;go_in;go_upto_region 1 with fail
   clear hW0
   go_wp2_with (first
    | (refine z2m (by rfl) af (.tmp 3) rfl w.heap.size rfl af C (0, 0) _ aC.r0 Hz rfl NR ?_)
    | (go_at_call 49; refine ST.mono ?_; rintro e X1 ⟨sv, t0, t1, t2, t3, rfl, hbx, nI⟩
       obtain ⟨ti, ai, ci, ei, rfl⟩ := nI.idx t GX;have wD := z5z sv t0 t1 t2 t3;have hix := λ W => vK t0 t1 t2 t3 t _ ei W;simp only [Int.ofNat_eq_natCast] at hix;have qD := hd1 hbx;clear hbx nI ei)
    | (refine IL rfl af (.tmp 3) rfl w.heap.size rfl af C (0, 0) _ ((qD.block _ (aa aC.r0)).trans aC.r0) Hz rfl NR ?_)
    | (refine aD rfl af _ _ rfl (w.heap.size + 1) _ rfl rfl af bS ((qD.block _ (aa aC.r1)).trans aC.r1) NR NG aC.ones ?_
       intro W5 aF az bf))
   refine Hf aF.out Hz NR ?_;exact Bn aC.ref (Moves.new (aC.below.trans (qD.mono aC.below.size)) az GX)
  ·rw [e]
   clear e;go_in;go_upto_region 1 with fail
   clear hW0
   go_wp2_with (first
    | (refine z2m (by rfl) af (.tmp 3) rfl w.heap.size rfl af C (0, 0) _ aC.r0 Hz rfl NR ?_)
    | (go_at_call 49; refine ST.mono ?_; rintro e X1 ⟨sv, t0, t1, t2, t3, rfl, hbx, nI⟩
       obtain ⟨ti, ai, ci, ei, rfl⟩ := nI.idx t GX;have wD := z5z sv t0 t1 t2 t3;have hix := λ W => vK t0 t1 t2 t3 t _ ei W;simp only [Int.ofNat_eq_natCast] at hix;have qD := hd1 hbx;clear hbx nI ei)
    | (refine IL rfl af (.tmp 3) rfl w.heap.size rfl af C (0, 0) _ ((qD.block _ (aa aC.r0)).trans aC.r0) Hz rfl NR ?_)
    | (go_at_call 86
       refine (z5w (aC.at qD.out) OK.1 OK.2 ⟨3, t, n, []⟩ (u := .slice none 0 0) (IB ⟨rfl, rfl⟩)).mono ?_;rintro e W3 ⟨v3, rfl, hb3, hr3⟩;obtain ⟨sv3, q0, q1, q2, q3, wv3, ev, Bu, AA⟩ := id hr3;subst ev;have R3 := hd3 hr3 (nH Bu AA) (qD.trans (hb3.mono qD.size));clear Bu AA hr3 hb3)
    | (refine aD rfl af _ _ rfl (w.heap.size + 1) _ rfl rfl af bS ((R3.2.2.block _ (aa aC.r1)).trans aC.r1) aI rfl (R3.2.1 _ _ _ _) ?_
       intro W5 aF az bf))
   refine Hf aF.out Hz aI ?_;exact Fp aC.below aC.size R3.2.2 R3.1 (FV (Ho qD.size aC.size)) az
end Go.Proofs.YtgffifleflkjoaaGreat
