/-
  Parts of a proof.
-/
import Derived.Test.YtgffifleflkjoaaGreatFin27
set_option linter.unusedSimpArgs false
set_option linter.unusedVariables false
set_option maxRecDepth 100000
set_option maxHeartbeats 16000000
namespace Go.Proofs.YtgffifleflkjoaaGreat
open _root_.Go.Proofs.Tryz
variable {w W w' w0 wr w1 W0 W1 W2 A B : World} {F G F' O : Nat → Prop} {v : Value} {l : List UInt8} {n q m pd md pl g p : Nat} {C : Array Value} {c : Int}
open Go.RowKit Dm
def Em.mended (d : D) (t n : Nat) : D × Int := if (d.stand.tp t).length = n then (d, 0) else Em.next (d.cut t n) D.sync
theorem x2f {b1 : Nat} {d : D} {t : Nat} (x : aQ w.heap pd md d F) (c1 : w.cell? b1 = some (.pointer (some pl)))
 (c0 : w.cell? pl = some (.int .i64 t)) (c4 : w.cell? (pl, 4) = some (.int .i64 n)) (c5 : w.cell? (pl, 5) = some (.pointer (some pd))) (hw : d.waits.length <= 1000000000) :
 Calls prog 75 #[b1] w (Left w pd md F (d.cut t n)) := by
 have AC := hd1 (y0a (w := w.drew) x t n GX);have f1 := ni c1;have f0 := ni c0;have f4 := ni c4;have f5 := ni c5;have X := hd1 x;clear x c0 c1 c4 c5;have ne : Nonempty (Wd (λ w' => w' = w.drew)) := ⟨⟨_, rfl⟩⟩;go_in;go_wp2;refine bD (λ w' => ∃ x : Wd (λ w' => w' = w.drew), w' = x.world) [14, 15] GV ?_;refine aL [0, 1, 2, 3, 4, 5, 6, 7, 8, 9, 10, 11, 12, 13] 2 _ ⟨⟨_, rfl⟩, rfl⟩ GV ?_;simp only [fmc, fmn, gta, gcs, gcz];iterate 14 (with_reducible refine ak (λ K hK => ?_); simp only [au, aj]; go_simp; refine hK _ ?_; clear hK K)
 with_reducible refine aB ?_
 refine aA 14 1 _ _ rfl GV ?_;refine IJ rfl λ K hK => ?_;go_simp;refine AC.mono ?_;rintro e w1 ⟨rfl, m1, x1⟩;have L := hd1 (Gu (e := .returned (.int .i64 (d.cut t n).2)) X.out ⟨rfl, m1, x1⟩);clear m1 x1;refine hK _ _ (IG ⟨rfl, λ h => absurd GY h, ?_⟩);clear hK K;refine eY [15] 0 _ GV ?_;refine Hd ?_;refine ⟨GV, ?_⟩;go_wp2;go_ret;exact L.out
inductive uM where
 | val (v : Value)
 | qm (l : List Em.ay)
 | byt (l : List UInt8)
 | free
def xB (B : Nat) (w : World) : uM -> Value -> Prop
 | .val u, v => v = u
 | .qm l, v => dJ w (λ b => B <= b) v l
 | .byt l, v => BytesAt w.heap (λ b => B <= b) v l
 | .free, _ => True
theorem xB.later {B : Nat} {K : uM} (h : xB B w K v) (hb : Below w w w') : xB B w' K v := by
 cases K with
 | val u => exact h
 | qm l => exact dJ.later h hb
 | byt l => exact BytesAt.below h hb
 | free => trivial
structure JW (w0 : World) (kind : Nat -> uM) (L : Nat -> Bool) (vals : Nat -> Value) (w : World) : Prop where
 below : Below w0.heap.size w0 w
 holds : ∀ k, L k = true -> xB w0.heap.size w (kind k) (vals k)
theorem JW.put {kind : Nat -> uM} {L : Nat -> Bool} {vals : Nat -> Value} (h : JW w0 kind L vals w) (hb : Below w w w') (i : Nat) (v : Value) (hv : xB w0.heap.size w' (kind i) v) :
 JW w0 kind (λ k => if k = i then true else L k) (λ k => if k = i then v else vals k) w' := by
 refine ⟨h.below.trans (hb.mono h.below.size), λ k hk => ?_⟩;by_cases e : k = i
 ·subst e
  simp only [I6];exact hv
 ·simp only [IA e] at hk ⊢
  exact (h.holds k hk).later hb
theorem JW.same {kind : Nat -> uM} {L : Nat -> Bool} {vals : Nat -> Value} (h : JW w0 kind L vals w) (i : Nat) (v : Value) (hv : xB w0.heap.size w (kind i) v) :
 JW w0 kind (λ k => if k = i then true else L k) (λ k => if k = i then v else vals k) w := h.put G6 i v hv
theorem JW.ext {kind : Nat -> uM} {L L' : Nat -> Bool} {vals : Nat -> Value} (hL : ∀ k, k < n -> L k = L' k) (h : JW w0 kind L vals w) (hf : ∀ k, n <= k -> kind k = .free) : JW w0 kind L' vals w := by
 refine ⟨h.below, λ k hk => ?_⟩;by_cases hkn : k < n
 ·exact h.holds k (by rw [hL k hkn]; exact hk)
 ·rw [hf k GX]; trivial
theorem wS {cap : Nat} {cs : Array Value} {t : TypeId} {fr : Nat × Nat} {l : List Em.ay} (hr : w.heap[g]? = some (.cells cs t fr)) (hF : F g) (hcap : l.length <= cap) (hcap2 : cap <= 1000000)
 (hc : cs = (l.flatMap λ c => [ag c.key, ag c.value, .bool c.gone]).toArray) : dJ w F (.slice (some g) l.length cap) l := by
 refine IC ⟨g, 0, cap, cs, t, fr, rfl, hcap, GX, hF, hr, ?_⟩;subst hc;intro i c hi;have key : ∀ (l : List Em.ay) (i : Nat) (c : Em.ay), l[i]? = some c -> ∀ j v, [ag c.key, ag c.value, Value.bool c.gone][j]? = some v -> (l.flatMap λ c => [ag c.key, ag c.value, Value.bool c.gone])[i * 3 + j]? = some v := by
  intro l;induction l with
  | nil => intro i c hi; simp at hi
  | cons x l ih =>
   intro i c hi j v hj;rw [Ke];exact Pg
 have h0 := key l i c hi 0 _ rfl;have h1 := key l i c hi 1 _ rfl;have h2 := key l i c hi 2 _ rfl;simp only [List.getElem?_toArray, Ja, Ko] at h0 h1 h2 ⊢;exact ⟨h0, h1, h2⟩
theorem x2o (W : World) : (Instr.makeSlice dH (.int .i64 65) (.int .i64 65)).run prog W = .ok (.slice (some W.heap.size) 65 65) (W.alloc (.cells (Array.replicate 65 (.int .u8 0)) bV)) := GV
theorem y3r {t : TypeId} {fr : Nat × Nat} (hr : w.heap[g]? = some (.cells (Array.replicate n (.int .u8 0)) t fr)) (hF : F g) (hn : n <= 1000000) : BytesAt w.heap F (.slice (some g) n n) (List.replicate n 0) := by
 refine IC ⟨g, 0, n, _, t, fr, GZ, GZ, GX, hF, hr, ?_⟩;intro i x hi;obtain ⟨h1, h2⟩ := I4.1 hi;have : x = 0 := by rw [<-h2]; simp
 subst this;have hlt : i < n := by simpa using h1
 simp [Array.getElem?_replicate, hlt];rfl
abbrev jG (l : List Em.ay) : List Value := l.flatMap λ c => [ag c.key, ag c.value, .bool c.gone]
theorem x8i (l : List Em.ay) : (jG l).length = l.length * 3 := by
 induction l with
 | nil => rfl
 | cons c l ih => rw [jG, Ke, IQ, I8]; have := ih; simp only [jG] at this; rw [this]; simp; omega
theorem x8h : ∀ (l : List Em.ay) (i : Nat) (c : Em.ay), l[i]? = some c -> ∀ j v, [ag c.key, ag c.value, Value.bool c.gone][j]? = some v -> (jG l)[i * 3 + j]? = some v := by
 intro l;induction l with
 | nil => intro i c hi; simp at hi
 | cons x l ih =>
  intro i c hi j v hj;rw [jG, Ke];exact Pg
def ja (w : World) (base : Nat) (v : Value) (l : List Em.ay) : Prop := w.ownsRow base a_ 3 v l.length (jG l)
theorem F5 (w : World) (base : Nat) : ja w base (.slice none 0 0) [] := ⟨rfl, IB ⟨rfl, rfl⟩⟩
theorem ja.at {base : Nat} {l : List Em.ay} (h : ja w base v l) : dJ w (λ k => base <= k) v l := by
 rcases h.2 with ⟨h1, h2⟩ | ⟨g, cap, cur, h1, h2, h3, h4, h5, h6, h7⟩
 ·exact IB ⟨⟨_, _, h1⟩, JZ h2⟩
 ·refine IC ⟨g, 0, cap, cur, a_, (0, 0), h1, h4, by unfold maxLen at h5; omega, h2, h3, ?_⟩
  intro i c hi;have hlt := (I4.1 hi).1;have key : ∀ j v, j < 3 -> [ag c.key, ag c.value, Value.bool c.gone][j]? = some v -> cur[0 + i * 3 + j]? = some v := by
   intro j v hj hv;have := x8h l i c hi j v hv;exact Sb
  exact ⟨key 0 _ GX rfl, key 1 _ GX rfl, key 2 _ GX rfl⟩
theorem GQ : (prog.info? a_).map (λ i => (i.zero, i.size, i.bytes)) = some (some (.agg #[.string ⟨#[]⟩, .string ⟨#[]⟩, .bool false]), 3, 40) := GV
abbrev qP : Nat := 34
theorem Aj {ops : Array Oper} {rest : List Oper} {o : Oper} {a : Act} {Q : Exit -> Act -> World -> Prop} (hgd : o.guard = none) (s x : Operand) (ho : o.op = .call { callee := .builtin .append, args := #[s, x], argTypes := #[qP, qP] })
 (base : Nat) (v : Value) (l : List Em.ay) (c : Em.ay) (hs : a.eval s = v) (hown : ja w base v l) (g cap : Nat) (hx : a.eval x = .slice (some ⟨g, 0, none⟩) 1 cap)
 (hrow : w.heap[g]? = some (.cells #[ag c.key, ag c.value, .bool c.gone] a_)) (hl : l.length <= 1000000) (hbase : base <= w.heap.size) (hB : Below base w0 w)
 (h : ∀ v' w', Hid (ja w' base v' (l ++ [c])) -> Hid (Below base w0 w') -> wpList prog ops Q rest (a.put o.dst v') w') : wpList prog ops Q (o :: rest) a w := by
 refine Eg hgd s x qP ho base a_ (.agg #[.string ⟨#[]⟩, .string ⟨#[]⟩, .bool false]) 3 40 Iy GQ rfl GY v l.length (jG l) hs hown ⟨g, 0, none⟩ 1 cap [ag c.key, ag c.value, .bool c.gone] hx rfl ?_ ?_ Ns GX hbase ?_
 ·exact RI
 ·intro u hu
  exact Rq
 ·intro v' w' h1 h2 h3
  refine h v' w' (hd1 ?_) (hd1 ?_)
  ·have := h1.out
   show w'.ownsRow base a_ 3 v' (l ++ [c]).length (jG (l ++ [c]));rw [IQ, jG, L9];simpa using this
  ·refine hB.grown h2.out hbase (λ k e => ?_)
   exact Pj
theorem x8x {e : Em.E} {l : List Em.ay} (h : Em.aX e.rows l ≠ 0) : e.bE l = (e, Em.aX e.rows l) := IE h
theorem y1t {e : Em.E} {l : List Em.ay} (h : Em.aX e.rows l = 0) (hg : e.gone = true) : e.bE l = (e, 290) := by
 unfold Em.E.bE; rw [IA GX, IE hg]
theorem x7g {e : Em.E} {l : List Em.ay} (h : Em.aX e.rows l = 0) (hg : e.gone = false) : e.bE l = ({ (e.step (Em.behind e.rows l) (Em.aZ l)).1 with gone := decide ((e.step (Em.behind e.rows l) (Em.aZ l)).2 = 281) }, (e.step (Em.behind e.rows l) (Em.aZ l)).2) := by
 unfold Em.E.bE; rw [IA GX, IA (by simp [hg])]
theorem y8p {D : Em.Rows} (h : RowsIn w m n D) (hm : Moves (eT pl pd md) w W) (h1 : m ≠ pl) (h2 : m ≠ pd) (h3 : m ≠ md) : RowsIn W m n D := by
 have lt := h.lt;obtain ⟨es, clock, k1, F, hs, hD⟩ := h;exact ⟨es, clock, (hm.block m lt (λ e => by rcases e with e | e | e; exact h1 e; exact h2 e; exact h3 e)).trans k1, F, hs, hD⟩
theorem Dh {e : Em.E} {l : List Em.ay} (x : bL w pl pd md e F) (hw : e.d.waits.length <= 800000000) (h : dJ w G v l) (hl : l.length <= 1000000) (hk : ∀ c ∈ l, c.key.length <= 1000000000 /\ c.value.length <= 1000000000) :
 Calls prog 11 #[pl, v] w (l_ w pl pd md F (e.bE l)) := by
 have NC := hd1 x.none;obtain ⟨mr, row, rows, hne⟩ := x.row;have DC := Da rows (Hm x.good.few) h hl hk;have f2 : w.cell? (pl, 2) = some (.map (some mr)) := ae row rfl;have f6 : w.cell? (pl, 6) = some (.bool e.gone) := ae row rfl;have gD := aa row;by_cases hd : Em.aX e.rows l = 0
 ·have DC : Calls prog 37 #[.map (some mr), v] w λ en w' => Below w w w' /\ ∃ m, en = .returned (.tuple #[.map (some m), .int .i64 0]) /\ w.heap.size <= m /\ RowsIn w' m (Maps.size (Em.behind e.rows l)) (Em.behind e.rows l) :=
   DC.mono λ en w' hh => ⟨hh.1, hh.2.elim (λ q => absurd hd q.1) (λ q => q.2)⟩
  have DC := hd1 DC;obtain ⟨hr, hs⟩ := Em.jW hd;by_cases hg : e.gone = true
  ·have HP := hd1 (y1t hd hg)
   have X := hd1 x;rw [hg] at f6;clear x row rows hne h hd hg hk;go_in;go_wp2;refine sG 0 rfl ?_
   go_wp2_with (first
    | (go_at_call 36; refine NC.mono ?_; rintro en w0 ⟨rfl, rfl⟩)
    | (go_at_call 37; refine DC.mono ?_; rintro en w1 ⟨b1, m, rfl, hm, r1⟩
       have g6 : w1.cell? (pl, 6) = some (.bool true) := (b1.cell (p := ⟨pl, 6, none⟩) gD).trans f6;have H1 := hd2 b1 r1;clear b1 r1 f6))
   refine wp_goto ?_;refine Exit.zh ?_;go_wp2;try go_step3
   go_wp2;rw [KG];go_ret;rw [HP.out];exact BX X.out 290 H1.1
  ·have hg : e.gone = false := by simpa using hg
   have HP := hd1 (x7g hd hg);have hb := Em.rR (Em.dU l);have hgd := Em.Bz (b := Em.aZ l) x.good (Em.qV x.good.rows hr) hs hb;have hrk := Em.qV x.good.rows hr;have hpw := Bw e (Em.behind e.rows l) (Em.aZ l);have X := hd10 x h hr hs hb hgd hrk hg hw hpw;rw [hg] at f6;obtain ⟨e2, c2, hput⟩ : ∃ e2 c2, e.put (Em.behind e.rows l) (Em.aZ l) = (e2, c2) := ⟨_, _, rfl⟩;have HU := hd1 hput;by_cases hc : c2 = 280
   ·subst hc
    have HS := hd1 (show e.step (Em.behind e.rows l) (Em.aZ l) = e2.fold (Em.behind e.rows l) by unfold Em.E.step; rw [hput]; simp);clear x row rows hne h hd hg hk hr hs hb hgd hrk hpw hput;go_in;go_wp2;refine sG 0 rfl ?_
    go_wp2_with (first
     | (go_at_call 36; refine NC.mono ?_; rintro en w0 ⟨rfl, rfl⟩)
     | (go_at_call 37; refine DC.mono ?_; rintro en w1 ⟨b1, m, rfl, hm, r1⟩
        have g6 : w1.cell? (pl, 6) = some (.bool false) := (b1.cell (p := ⟨pl, 6, none⟩) gD).trans f6;have H1 := hd3 b1 r1 hm;clear b1 r1 f6)
     | (go_at_call 38
        go_loud (refine (z8k (y1i (X.2.1.later H1.1) X.2.2.1) (p9 X.1 H1.1) X.2.2.2.2.2.2.2.1 (Hm X.2.2.2.2.2.2.2.2.1) X.2.2.2.2.1 H1.2.1 (Hm X.1.disk.lt) (Hm X.1.disk.lt) GX X.2.2.2.2.2.1).mono ?_)
        rw [HU.out];rintro en w2 ⟨rfl, m2, x2⟩;have H2 := hd2 m2 x2;clear m2 x2)
     | (go_at_call 39
        go_loud (have lt := X.1.disk.lt
                 have hpw := X.2.2.2.2.2.2.2.2.2;rw [HU.out] at hpw;have hw2 : e2.d.waits.length <= 900000000 := by have := X.2.2.2.2.2.2.2.2.1; simp only at hpw; omega
                 have r2 := y8p H1.2.1 H2.1 (Hm H1.2.2) (Hm H1.2.2) (Hm H1.2.2);refine (x5n H2.2 hw2 r2 X.2.2.2.2.2.2.1 X.2.2.2.1 (Hm H1.2.2) (Hm H1.2.2) (Hm H1.2.2)).mono ?_;clear hpw r2 hw2 lt;obtain ⟨r3, hr3⟩ := G8 (e2.fold (Em.behind e.rows l));rw [hr3] at HS ⊢;clear hr3;rintro en w3 ⟨rfl, m3, x3⟩;have LL := hd1 (Gq (r := r3) X.1 (Moves.of_below H1.1) (Gq (p9 X.1 H1.1) H2.1 ⟨rfl, m3, x3⟩));obtain ⟨m', sV, _⟩ := x3.row;have k6 := ae sV (j := 6) rfl;have z6 := aU sV 6;clear m3 x3 sV)))
    go_step3
    go_wp2;rw [Exit.z9a];go_ret;have hrr : e.bE l = ({ r3.1 with gone := r3.2 == 281 }, r3.2) := by rw [HP.out, HS.out]; rfl
    exact z8x LL.out _ hrr
   ·have HS := hd1 (show e.step (Em.behind e.rows l) (Em.aZ l) = (e2, c2) by unfold Em.E.step; rw [hput]; exact IA hc)
    clear x row rows hne h hd hg hk hr hs hb hgd hrk hpw hput;go_in;go_wp2;refine sG 0 rfl ?_
    go_wp2_with (first
     | (go_at_call 36; refine NC.mono ?_; rintro en w0 ⟨rfl, rfl⟩)
     | (go_at_call 37; refine DC.mono ?_; rintro en w1 ⟨b1, m, rfl, hm, r1⟩
        have g6 : w1.cell? (pl, 6) = some (.bool false) := (b1.cell (p := ⟨pl, 6, none⟩) gD).trans f6;have H1 := hd3 b1 r1 hm;clear b1 r1 f6)
     | (go_at_call 38
        refine (z8k (y1i (X.2.1.later H1.1) X.2.2.1) (p9 X.1 H1.1) X.2.2.2.2.2.2.2.1 (Hm X.2.2.2.2.2.2.2.2.1) X.2.2.2.2.1 H1.2.1 (Hm X.1.disk.lt) (Hm X.1.disk.lt) GX X.2.2.2.2.2.1).mono ?_;rw [HU.out];rintro en w2 ⟨rfl, m2, x2⟩;have LL := hd1 (Gq (r := (e2, c2)) X.1 (Moves.of_below H1.1) ⟨rfl, m2, x2⟩);obtain ⟨m', sV, _⟩ := x2.row;have k6 := ae sV (j := 6) rfl;have z6 := aU sV 6;clear m2 x2 sV))
    go_step3
    go_wp2;rw [Exit.z9a];go_ret;have hrr : e.bE l = ({ e2 with gone := c2 == 281 }, c2) := by rw [HP.out, HS.out]; rfl
    exact z8x LL.out _ hrr
 ·have DC : Calls prog 37 #[.map (some mr), v] w λ en w' => Below w w w' /\ en = .returned (.tuple #[.map none, .int .i64 (Em.aX e.rows l)]) :=
   DC.mono λ en w' hh => ⟨hh.1, hh.2.elim (λ q => q.2) (λ q => absurd q.1 hd)⟩
  have DC := hd1 DC;have HP := hd1 (x8x hd);have X := hd1 x;generalize Em.aX e.rows l = c at *;clear x row rows hne h hk f6;go_in;go_wp2;refine sG 0 rfl ?_
  go_wp2_with (first
   | (go_at_call 36; refine NC.mono ?_; rintro en w0 ⟨rfl, rfl⟩)
   | (go_at_call 37; refine DC.mono ?_; rintro en w1 ⟨b1, rfl⟩
      have H1 := hd1 b1;clear b1))
  refine wp_goto ?_;refine Exit.zh ?_;go_wp2;try go_step3
  go_wp2;rw [KG];go_ret;rw [HP.out];exact BX X.out c H1.out
theorem x3y {D : Em.Rows} (h : RowsIn w m n D) (k : List UInt8) (hk : k.length <= 1000000) : (Instr.lookup jN (.map (some m)) (ag k) true).run prog w = .ok (.tuple #[ag (Em.valueOf D k), .bool (Maps.has D (.string k))]) w := by
 obtain ⟨v, ps, hrun, hv⟩ := h.look_ok vN Ii (zeroValue9 w) (zn [] GZ) (yN k GX);exact PO
theorem zg {e : Em.E} (x : bL w pl pd md e F) (k : List UInt8) (hk : k.length <= 1000000) : Calls prog 21 #[pl, ag k] w λ en w' =>
 en = .returned (.tuple #[ag (Em.valueOf e.rows k), .bool (Maps.has e.rows (.string k))]) /\ w = w' := by
 have NC := hd1 x.none;obtain ⟨m, row, rows, _⟩ := x.row;have f2 : w.cell? (pl, 2) = some (.map (some m)) := ae row rfl;have lk := x3y rows k hk;clear x row rows;exact QU
theorem z8r {e : Em.E} (x : bL w pl pd md e F) : Calls prog 22 #[pl] w λ en w' => en = .returned (.int .i64 (Maps.size e.rows)) /\ w = w' := by
 have NC := hd1 x.none;obtain ⟨m, row, rows, _⟩ := x.row;have f2 : w.cell? (pl, 2) = some (.map (some m)) := ae row rfl;have HR := hd1 rows;clear x row rows;go_in
 go_wp2_with (first
  | (go_at_call 36; refine NC.mono ?_; rintro en w0 ⟨rfl, rfl⟩)
  | (at_len; refine LM _ rfl (.tmp 9) jN rfl dB dB Ii (plainElem prog dB) m _ e.rows rfl HR.out ?_))
 exact OI
theorem z9b {e : Em.E} (x : bL w pl pd md e F) : Calls prog 23 #[pl] w λ en w' => en = .returned (.int .i64 e.gen) /\ w = w' := by
 have NC := hd1 x.none;obtain ⟨m, row, rows, _⟩ := x.row;have f2 : w.cell? (pl, 1) = some (.int .i64 e.gen) := ae row rfl;clear x row rows;go_in;go_wp2_with (go_at_call 36; refine NC.mono ?_; rintro en w0 ⟨rfl, rfl⟩)
 exact OI
theorem z9h {e : Em.E} (x : bL w pl pd md e F) : Calls prog 17 #[pl] w λ en w' => en = .returned (.bool e.gone) /\ w = w' := by
 have NC := hd1 x.none;obtain ⟨m, row, rows, _⟩ := x.row;have f2 : w.cell? (pl, 6) = some (.bool e.gone) := ae row rfl;clear x row rows;go_in;go_wp2_with (go_at_call 36; refine NC.mono ?_; rintro en w0 ⟨rfl, rfl⟩)
 exact OI
theorem nL (w : World) (n : Int) : Calls prog 12 #[.int .i64 n] w λ en w' => en = .returned (.int .i64 n) /\ w = w' := by
 go_in;go_wp2;exact OI
theorem x8y {e : Em.E} {l : List Em.ay} (x : bL w pl pd md e F) (h : dJ w G v l) (hl : l.length <= 1000000) (hk : ∀ c ∈ l, c.key.length <= 1000000000 /\ c.value.length <= 1000000000)
 (hd : Em.aX e.rows l ≠ 0) : Calls prog 11 #[pl, v] w λ en w' => en = .returned (.int .i64 (Em.aX e.rows l)) /\ Below w w w' := by
 have NC := hd1 x.none;obtain ⟨mr, row, rows, hne⟩ := x.row;have DC := Da rows (Hm x.good.few) h hl hk;have f2 : w.cell? (pl, 2) = some (.map (some mr)) := ae row rfl
 have DC : Calls prog 37 #[.map (some mr), v] w λ en w' => Below w w w' /\ en = .returned (.tuple #[.map none, .int .i64 (Em.aX e.rows l)]) :=
  DC.mono λ en w' hh => ⟨hh.1, hh.2.elim (λ q => q.2) (λ q => absurd q.1 hd)⟩
 have DC := hd1 DC;generalize Em.aX e.rows l = c at *;clear x row rows hne h hk;go_in;go_wp2;refine sG 0 rfl ?_
 go_wp2_with (first
  | (go_at_call 36; refine NC.mono ?_; rintro en w0 ⟨rfl, rfl⟩)
  | (go_at_call 37; refine DC.mono ?_; rintro en w1 ⟨b1, rfl⟩
     have H1 := hd1 b1;clear b1))
 refine wp_goto ?_;refine Exit.zh ?_;go_wp2;try go_step3
 go_wp2;rw [KG];go_ret;exact ⟨rfl, H1.out⟩
theorem z8w {e : Em.E} {r : D × Int} {en : Ending} (x : bL w pl pd md e F) (h : Left w pd md F r en w') : l_ w pl pd md F ({ e with d := r.1 }, r.2) en w' := by
 obtain ⟨h1, h2, h3⟩ := h;obtain ⟨m, row, rows, hne⟩ := x.row;have lp := aa row;have hg := x.good;refine ⟨h1, h2.mono (λ i hi => IC hi), ⟨⟨hg.tp, hg.gen, hg.aK, hg.fin, hg.rows, hg.few⟩, h3, ⟨m, (h2.block pl lp (λ q => by rcases q with q | q; exact x.ne.1 q; exact x.ne.2.1 q)).trans row, sU rows h2 hne.1 hne.2.1, hne⟩, x.ne.1, x.ne.2.1, ?_⟩⟩;intro hk;rcases hk with hk | hk
 ·exact x.ne.2.2 hk
 ·omega
end Go.Proofs.YtgffifleflkjoaaGreat
