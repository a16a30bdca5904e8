/-
  Parts of a proof.
-/
import Derived.Test.YtgffifleflkjoaaGreatFin24
set_option linter.unusedSimpArgs false
set_option linter.unusedVariables false
set_option maxRecDepth 100000
set_option maxHeartbeats 16000000
namespace Go.Proofs.YtgffifleflkjoaaGreat
open _root_.Go.Proofs.Tryz
variable {w W w' w0 wr w1 W0 W1 W2 A B : World} {F G F' O : Nat → Prop} {v : Value} {l : List UInt8} {n q m pd md pl g p : Nat} {C : Array Value} {c : Int}
open Go.RowKit Dm
def Em.mended (d : D) (t n : Nat) : D × Int := if (d.stand.tp t).length = n then (d, 0) else Em.next (d.cut t n) D.sync
theorem x2l {b1 : Nat} {d : D} {t : Nat} (x : aQ w.heap pd md d F) (c1 : w.cell? b1 = some (.pointer (some pl)))
 (c0 : w.cell? pl = some (.int .i64 t)) (c4 : w.cell? (pl, 4) = some (.int .i64 n)) (c5 : w.cell? (pl, 5) = some (.pointer (some pd))) (hw : d.waits.length <= 1000000000) :
 Calls prog 75 #[b1] w (Left w pd md F (d.cut t n)) := by
 have AC := hd1 (y0a (w := w.drew) x t n GR);have f1 := mM c1;have f0 := mM c0;have f4 := mM c4;have f5 := mM c5;have X := hd1 x;clear x c0 c1 c4 c5;have ne : Nonempty (Wd (λ w' => w' = w.drew)) := ⟨⟨_, rfl⟩⟩;go_in;go_wp2;refine bC (λ w' => ∃ x : Wd (λ w' => w' = w.drew), w' = x.world) [14, 15] GQ ?_;refine aI [0, 1, 2, 3, 4, 5, 6, 7, 8, 9, 10, 11, 12, 13] 2 _ ⟨⟨_, rfl⟩, rfl⟩ GQ ?_;simp only [fmc, fmn, gta, gcs, gcz];iterate 14 (with_reducible refine ak (λ K hK => ?_); simp only [au, ah]; go_simp; refine hK _ ?_; clear hK K)
 with_reducible refine aA ?_
 refine az 14 1 _ _ rfl GQ ?_;refine IE rfl λ K hK => ?_;go_simp;refine AC.mono ?_;rintro e w1 ⟨rfl, m1, x1⟩;have L := hd1 (Gy (e := .returned (.int .i64 (d.cut t n).2)) X.out ⟨rfl, m1, x1⟩);clear m1 x1;refine hK _ _ (IB ⟨rfl, λ h => absurd GU h, ?_⟩);clear hK K;refine eY [15] 0 _ GQ ?_;refine G9 ?_;refine ⟨GQ, ?_⟩;go_wp2;go_ret;exact L.out
inductive uD where
 | val (v : Value)
 | qf (l : List Em.ay)
 | byt (l : List UInt8)
 | free
def xu (B : Nat) (w : World) : uD -> Value -> Prop
 | .val u, v => v = u
 | .qf l, v => dJ w (λ b => B <= b) v l
 | .byt l, v => BytesAt w.heap (λ b => B <= b) v l
 | .free, _ => True
theorem xu.later {B : Nat} {K : uD} (h : xu B w K v) (hb : Below w w w') : xu B w' K v := by
 cases K with
 | val u => exact h
 | qf l => exact dJ.later h hb
 | byt l => exact BytesAt.below h hb
 | free => trivial
structure JW (w0 : World) (kind : Nat -> uD) (L : Nat -> Bool) (vals : Nat -> Value) (w : World) : Prop where
 below : Below w0.heap.size w0 w
 holds : ∀ k, L k = true -> xu w0.heap.size w (kind k) (vals k)
theorem JW.put {kind : Nat -> uD} {L : Nat -> Bool} {vals : Nat -> Value} (h : JW w0 kind L vals w) (hb : Below w w w') (i : Nat) (v : Value) (hv : xu w0.heap.size w' (kind i) v) :
 JW w0 kind (λ k => if k = i then true else L k) (λ k => if k = i then v else vals k) w' := by
 refine ⟨h.below.trans (hb.mono h.below.size), λ k hk => ?_⟩;by_cases e : k = i
 ·subst e
  simp only [I1];exact hv
 ·simp only [Iw e] at hk ⊢
  exact (h.holds k hk).later hb
theorem JW.same {kind : Nat -> uD} {L : Nat -> Bool} {vals : Nat -> Value} (h : JW w0 kind L vals w) (i : Nat) (v : Value) (hv : xu w0.heap.size w (kind i) v) :
 JW w0 kind (λ k => if k = i then true else L k) (λ k => if k = i then v else vals k) w := h.put GY i v hv
theorem JW.ext {kind : Nat -> uD} {L L' : Nat -> Bool} {vals : Nat -> Value} (hL : ∀ k, k < n -> L k = L' k) (h : JW w0 kind L vals w) (hf : ∀ k, n <= k -> kind k = .free) : JW w0 kind L' vals w := by
 refine ⟨h.below, λ k hk => ?_⟩;by_cases hkn : k < n
 ·exact h.holds k (by rw [hL k hkn]; exact hk)
 ·rw [hf k GR]; trivial
theorem wJ {cap : Nat} {cs : Array Value} {t : TypeId} {fr : Nat × Nat} {l : List Em.ay} (hr : w.heap[g]? = some (.cells cs t fr)) (hF : F g) (hcap : l.length <= cap) (hcap2 : cap <= 1000000)
 (hc : cs = (l.flatMap λ c => [ag c.key, ag c.value, .bool c.gone]).toArray) : dJ w F (.slice (some g) l.length cap) l := by
 refine Iz ⟨g, 0, cap, cs, t, fr, rfl, hcap, GR, hF, hr, ?_⟩;subst hc;intro i c hi;have key : ∀ (l : List Em.ay) (i : Nat) (c : Em.ay), l[i]? = some c -> ∀ j v, [ag c.key, ag c.value, Value.bool c.gone][j]? = some v -> (l.flatMap λ c => [ag c.key, ag c.value, Value.bool c.gone])[i * 3 + j]? = some v := by
  intro l;induction l with
  | nil => intro i c hi; simp at hi
  | cons x l ih =>
   intro i c hi j v hj;rw [J9];exact Pd
 have h0 := key l i c hi 0 _ rfl;have h1 := key l i c hi 1 _ rfl;have h2 := key l i c hi 2 _ rfl;simp only [List.getElem?_toArray, I8, Kz] at h0 h1 h2 ⊢;exact ⟨h0, h1, h2⟩
theorem x2u (W : World) : (Instr.makeSlice df (.int .i64 65) (.int .i64 65)).run prog W = .ok (.slice (some W.heap.size) 65 65) (W.alloc (.cells (Array.replicate 65 (.int .u8 0)) bT)) := GQ
theorem y3s {t : TypeId} {fr : Nat × Nat} (hr : w.heap[g]? = some (.cells (Array.replicate n (.int .u8 0)) t fr)) (hF : F g) (hn : n <= 1000000) : BytesAt w.heap F (.slice (some g) n n) (List.replicate n 0) := by
 refine Iz ⟨g, 0, n, _, t, fr, GV, GV, GR, hF, hr, ?_⟩;intro i x hi;obtain ⟨h1, h2⟩ := IY.1 hi;have : x = 0 := by rw [<-h2]; simp
 subst this;have hlt : i < n := by simpa using h1
 simp [Array.getElem?_replicate, hlt];rfl
abbrev jH (l : List Em.ay) : List Value := l.flatMap λ c => [ag c.key, ag c.value, .bool c.gone]
theorem x8g (l : List Em.ay) : (jH l).length = l.length * 3 := by
 induction l with
 | nil => rfl
 | cons c l ih => rw [jH, J9, IL, I6]; have := ih; simp only [jH] at this; rw [this]; simp; omega
theorem x8f : ∀ (l : List Em.ay) (i : Nat) (c : Em.ay), l[i]? = some c -> ∀ j v, [ag c.key, ag c.value, Value.bool c.gone][j]? = some v -> (jH l)[i * 3 + j]? = some v := by
 intro l;induction l with
 | nil => intro i c hi; simp at hi
 | cons x l ih =>
  intro i c hi j v hj;rw [jH, J9];exact Pd
def j6 (w : World) (base : Nat) (v : Value) (l : List Em.ay) : Prop := w.ownsRow base a_ 3 v l.length (jH l)
theorem F_ (w : World) (base : Nat) : j6 w base (.slice none 0 0) [] := ⟨rfl, Iy ⟨rfl, rfl⟩⟩
theorem j6.at {base : Nat} {l : List Em.ay} (h : j6 w base v l) : dJ w (λ k => base <= k) v l := by
 rcases h.2 with ⟨h1, h2⟩ | ⟨g, cap, cur, h1, h2, h3, h4, h5, h6, h7⟩
 ·exact Iy ⟨⟨_, _, h1⟩, JU h2⟩
 ·refine Iz ⟨g, 0, cap, cur, a_, (0, 0), h1, h4, by unfold maxLen at h5; omega, h2, h3, ?_⟩
  intro i c hi;have hlt := (IY.1 hi).1;have key : ∀ j v, j < 3 -> [ag c.key, ag c.value, Value.bool c.gone][j]? = some v -> cur[0 + i * 3 + j]? = some v := by
   intro j v hj hv;have := x8f l i c hi j v hv;exact RO
  exact ⟨key 0 _ GR rfl, key 1 _ GR rfl, key 2 _ GR rfl⟩
theorem z0w : (prog.info? a_).map (λ i => (i.zero, i.size, i.bytes)) = some (some (.agg #[.string ⟨#[]⟩, .string ⟨#[]⟩, .bool false]), 3, 40) := GQ
abbrev qH : Nat := 34
theorem Ac {ops : Array Oper} {rest : List Oper} {o : Oper} {a : Act} {Q : Exit -> Act -> World -> Prop} (hgd : o.guard = none) (s x : Operand) (ho : o.op = .call { callee := .builtin .append, args := #[s, x], argTypes := #[qH, qH] })
 (base : Nat) (v : Value) (l : List Em.ay) (c : Em.ay) (hs : a.eval s = v) (hown : j6 w base v l) (g cap : Nat) (hx : a.eval x = .slice (some ⟨g, 0, none⟩) 1 cap)
 (hrow : w.heap[g]? = some (.cells #[ag c.key, ag c.value, .bool c.gone] a_)) (hl : l.length <= 1000000) (hbase : base <= w.heap.size) (hB : Below base w0 w)
 (h : ∀ v' w', Hid (j6 w' base v' (l ++ [c])) -> Hid (Below base w0 w') -> wpList prog ops Q rest (a.put o.dst v') w') : wpList prog ops Q (o :: rest) a w := by
 refine Ej hgd s x qH ho base a_ (.agg #[.string ⟨#[]⟩, .string ⟨#[]⟩, .bool false]) 3 40 Ir z0w rfl GU v l.length (jH l) hs hown ⟨g, 0, none⟩ 1 cap [ag c.key, ag c.value, .bool c.gone] hx rfl ?_ ?_ Nr GR hbase ?_
 ·exact Rx
 ·intro u hu
  exact Rm
 ·intro v' w' h1 h2 h3
  refine h v' w' (hd1 ?_) (hd1 ?_)
  ·have := h1.out
   show w'.ownsRow base a_ 3 v' (l ++ [c]).length (jH (l ++ [c]));rw [IL, jH, LW];simpa using this
  ·refine hB.grown h2.out hbase (λ k e => ?_)
   exact Pg
theorem x8w {e : Em.E} {l : List Em.ay} (h : Em.aW e.rows l ≠ 0) : e.bE l = (e, Em.aW e.rows l) := IA h
theorem y1u {e : Em.E} {l : List Em.ay} (h : Em.aW e.rows l = 0) (hg : e.gone = true) : e.bE l = (e, 290) := by
 unfold Em.E.bE; rw [Iw GR, IA hg]
theorem x7e {e : Em.E} {l : List Em.ay} (h : Em.aW e.rows l = 0) (hg : e.gone = false) : e.bE l = ({ (e.step (Em.behind e.rows l) (Em.aY l)).1 with gone := decide ((e.step (Em.behind e.rows l) (Em.aY l)).2 = 281) }, (e.step (Em.behind e.rows l) (Em.aY l)).2) := by
 unfold Em.E.bE; rw [Iw GR, Iw (by simp [hg])]
theorem y8t {D : Em.Rows} (h : RowsIn w m n D) (hm : Moves (eH pl pd md) w W) (h1 : m ≠ pl) (h2 : m ≠ pd) (h3 : m ≠ md) : RowsIn W m n D := by
 have lt := h.lt;obtain ⟨es, clock, k1, F, hs, hD⟩ := h;exact ⟨es, clock, (hm.block m lt (λ e => by rcases e with e | e | e; exact h1 e; exact h2 e; exact h3 e)).trans k1, F, hs, hD⟩
theorem Db {e : Em.E} {l : List Em.ay} (x : bO w pl pd md e F) (hw : e.d.waits.length <= 800000000) (h : dJ w G v l) (hl : l.length <= 1000000) (hk : ∀ c ∈ l, c.key.length <= 1000000000 /\ c.value.length <= 1000000000) :
 Calls prog 11 #[pl, v] w (lK w pl pd md F (e.bE l)) := by
 have NC := hd1 x.none;obtain ⟨mr, row, rows, hne⟩ := x.row;have DC := CY rows (Hf x.good.few) h hl hk;have f2 : w.cell? (pl, 2) = some (.map (some mr)) := ae row rfl;have f6 : w.cell? (pl, 6) = some (.bool e.gone) := ae row rfl;have gG := aa row;by_cases hd : Em.aW e.rows l = 0
 ·have DC : Calls prog 37 #[.map (some mr), v] w λ en w' => Below w w w' /\ ∃ m, en = .returned (.tuple #[.map (some m), .int .i64 0]) /\ w.heap.size <= m /\ RowsIn w' m (Maps.size (Em.behind e.rows l)) (Em.behind e.rows l) :=
   DC.mono λ en w' hh => ⟨hh.1, hh.2.elim (λ q => absurd hd q.1) (λ q => q.2)⟩
  have DC := hd1 DC;obtain ⟨hr, hs⟩ := Em.jV hd;by_cases hg : e.gone = true
  ·have HP := hd1 (y1u hd hg)
   have X := hd1 x;rw [hg] at f6;clear x row rows hne h hd hg hk;go_in;go_wp2;refine xG 0 rfl ?_
   go_wp2_with (first
    | (go_at_call 36; refine NC.mono ?_; rintro en w0 ⟨rfl, rfl⟩)
    | (go_at_call 37; refine DC.mono ?_; rintro en w1 ⟨b1, m, rfl, hm, r1⟩
       have g6 : w1.cell? (pl, 6) = some (.bool true) := (b1.cell (p := ⟨pl, 6, none⟩) gG).trans f6;have H1 := hd2 b1 r1;clear b1 r1 f6))
   refine wp_goto ?_;refine Exit.z0f ?_;go_wp2;try go_step3
   go_wp2;rw [KY];go_ret;rw [HP.out];exact BJ X.out 290 H1.1
  ·have hg : e.gone = false := by simpa using hg
   have HP := hd1 (x7e hd hg);have hb := Em.q9 (Em.dQ l);have hgd := Em.Bp (b := Em.aY l) x.good (Em.qL x.good.rows hr) hs hb;have hrk := Em.qL x.good.rows hr;have hpw := Bo e (Em.behind e.rows l) (Em.aY l);have X := hd10 x h hr hs hb hgd hrk hg hw hpw;rw [hg] at f6;obtain ⟨e2, c2, hput⟩ : ∃ e2 c2, e.put (Em.behind e.rows l) (Em.aY l) = (e2, c2) := ⟨_, _, rfl⟩;have HU := hd1 hput;by_cases hc : c2 = 280
   ·subst hc
    have HS := hd1 (show e.step (Em.behind e.rows l) (Em.aY l) = e2.fold (Em.behind e.rows l) by unfold Em.E.step; rw [hput]; simp);clear x row rows hne h hd hg hk hr hs hb hgd hrk hpw hput;go_in;go_wp2;refine xG 0 rfl ?_
    go_wp2_with (first
     | (go_at_call 36; refine NC.mono ?_; rintro en w0 ⟨rfl, rfl⟩)
     | (go_at_call 37; refine DC.mono ?_; rintro en w1 ⟨b1, m, rfl, hm, r1⟩
        have g6 : w1.cell? (pl, 6) = some (.bool false) := (b1.cell (p := ⟨pl, 6, none⟩) gG).trans f6;have H1 := hd3 b1 r1 hm;clear b1 r1 f6)
     | (go_at_call 38
        go_loud (refine (z8i (y1i (X.2.1.later H1.1) X.2.2.1) (pJ X.1 H1.1) X.2.2.2.2.2.2.2.1 (Hf X.2.2.2.2.2.2.2.2.1) X.2.2.2.2.1 H1.2.1 (Hf X.1.disk.lt) (Hf X.1.disk.lt) GR X.2.2.2.2.2.1).mono ?_)
        rw [HU.out];rintro en w2 ⟨rfl, m2, x2⟩;have H2 := hd2 m2 x2;clear m2 x2)
     | (go_at_call 39
        go_loud (have lt := X.1.disk.lt
                 have hpw := X.2.2.2.2.2.2.2.2.2;rw [HU.out] at hpw;have hw2 : e2.d.waits.length <= 900000000 := by have := X.2.2.2.2.2.2.2.2.1; simp only at hpw; omega
                 have r2 := y8t H1.2.1 H2.1 (Hf H1.2.2) (Hf H1.2.2) (Hf H1.2.2);refine (x5n H2.2 hw2 r2 X.2.2.2.2.2.2.1 X.2.2.2.1 (Hf H1.2.2) (Hf H1.2.2) (Hf H1.2.2)).mono ?_;clear hpw r2 hw2 lt;obtain ⟨r3, hr3⟩ := G5 (e2.fold (Em.behind e.rows l));rw [hr3] at HS ⊢;clear hr3;rintro en w3 ⟨rfl, m3, x3⟩;have LL := hd1 (Gu (r := r3) X.1 (Moves.of_below H1.1) (Gu (pJ X.1 H1.1) H2.1 ⟨rfl, m3, x3⟩));obtain ⟨m', sH, _⟩ := x3.row;have k6 := ae sH (j := 6) rfl;have z6 := aZ sH 6;clear m3 x3 sH)))
    go_step3
    go_wp2;rw [Exit.z9a];go_ret;have hrr : e.bE l = ({ r3.1 with gone := r3.2 == 281 }, r3.2) := by rw [HP.out, HS.out]; rfl
    exact z8r LL.out _ hrr
   ·have HS := hd1 (show e.step (Em.behind e.rows l) (Em.aY l) = (e2, c2) by unfold Em.E.step; rw [hput]; exact Iw hc)
    clear x row rows hne h hd hg hk hr hs hb hgd hrk hpw hput;go_in;go_wp2;refine xG 0 rfl ?_
    go_wp2_with (first
     | (go_at_call 36; refine NC.mono ?_; rintro en w0 ⟨rfl, rfl⟩)
     | (go_at_call 37; refine DC.mono ?_; rintro en w1 ⟨b1, m, rfl, hm, r1⟩
        have g6 : w1.cell? (pl, 6) = some (.bool false) := (b1.cell (p := ⟨pl, 6, none⟩) gG).trans f6;have H1 := hd3 b1 r1 hm;clear b1 r1 f6)
     | (go_at_call 38
        refine (z8i (y1i (X.2.1.later H1.1) X.2.2.1) (pJ X.1 H1.1) X.2.2.2.2.2.2.2.1 (Hf X.2.2.2.2.2.2.2.2.1) X.2.2.2.2.1 H1.2.1 (Hf X.1.disk.lt) (Hf X.1.disk.lt) GR X.2.2.2.2.2.1).mono ?_;rw [HU.out];rintro en w2 ⟨rfl, m2, x2⟩;have LL := hd1 (Gu (r := (e2, c2)) X.1 (Moves.of_below H1.1) ⟨rfl, m2, x2⟩);obtain ⟨m', sH, _⟩ := x2.row;have k6 := ae sH (j := 6) rfl;have z6 := aZ sH 6;clear m2 x2 sH))
    go_step3
    go_wp2;rw [Exit.z9a];go_ret;have hrr : e.bE l = ({ e2 with gone := c2 == 281 }, c2) := by rw [HP.out, HS.out]; rfl
    exact z8r LL.out _ hrr
 ·have DC : Calls prog 37 #[.map (some mr), v] w λ en w' => Below w w w' /\ en = .returned (.tuple #[.map none, .int .i64 (Em.aW e.rows l)]) :=
   DC.mono λ en w' hh => ⟨hh.1, hh.2.elim (λ q => q.2) (λ q => absurd q.1 hd)⟩
  have DC := hd1 DC;have HP := hd1 (x8w hd);have X := hd1 x;generalize Em.aW e.rows l = c at *;clear x row rows hne h hk f6;go_in;go_wp2;refine xG 0 rfl ?_
  go_wp2_with (first
   | (go_at_call 36; refine NC.mono ?_; rintro en w0 ⟨rfl, rfl⟩)
   | (go_at_call 37; refine DC.mono ?_; rintro en w1 ⟨b1, rfl⟩
      have H1 := hd1 b1;clear b1))
  refine wp_goto ?_;refine Exit.z0f ?_;go_wp2;try go_step3
  go_wp2;rw [KY];go_ret;rw [HP.out];exact BJ X.out c H1.out
theorem x2g {D : Em.Rows} (h : RowsIn w m n D) (k : List UInt8) (hk : k.length <= 1000000) : (Instr.lookup jM (.map (some m)) (ag k) true).run prog w = .ok (.tuple #[ag (Em.valueOf D k), .bool (Maps.has D (.string k))]) w := by
 obtain ⟨v, ps, hrun, hv⟩ := h.look_ok vE Ie (zeroValue9 w) (zg [] GV) (yI k GR);exact PE
theorem y_ {e : Em.E} (x : bO w pl pd md e F) (k : List UInt8) (hk : k.length <= 1000000) : Calls prog 21 #[pl, ag k] w λ en w' =>
 en = .returned (.tuple #[ag (Em.valueOf e.rows k), .bool (Maps.has e.rows (.string k))]) /\ w = w' := by
 have NC := hd1 x.none;obtain ⟨m, row, rows, _⟩ := x.row;have f2 : w.cell? (pl, 2) = some (.map (some m)) := ae row rfl;have lk := x2g rows k hk;clear x row rows;go_in;go_wp2_with (go_at_call 36; refine NC.mono ?_; rintro en w0 ⟨rfl, rfl⟩)
 go_ret2;exact ⟨rfl, rfl⟩
theorem z8n {e : Em.E} (x : bO w pl pd md e F) : Calls prog 22 #[pl] w λ en w' => en = .returned (.int .i64 (Maps.size e.rows)) /\ w = w' := by
 have NC := hd1 x.none;obtain ⟨m, row, rows, _⟩ := x.row;have f2 : w.cell? (pl, 2) = some (.map (some m)) := ae row rfl;have HR := hd1 rows;clear x row rows;go_in
 go_wp2_with (first
  | (go_at_call 36; refine NC.mono ?_; rintro en w0 ⟨rfl, rfl⟩)
  | (at_len; refine Lf _ rfl (.tmp 9) jM rfl dB dB Ie (plainElem prog dB) m _ e.rows rfl HR.out ?_))
 exact OJ
theorem z9b {e : Em.E} (x : bO w pl pd md e F) : Calls prog 23 #[pl] w λ en w' => en = .returned (.int .i64 e.gen) /\ w = w' := by
 have NC := hd1 x.none;obtain ⟨m, row, rows, _⟩ := x.row;have f2 : w.cell? (pl, 1) = some (.int .i64 e.gen) := ae row rfl;clear x row rows;go_in;go_wp2_with (go_at_call 36; refine NC.mono ?_; rintro en w0 ⟨rfl, rfl⟩)
 exact OJ
theorem z9f {e : Em.E} (x : bO w pl pd md e F) : Calls prog 17 #[pl] w λ en w' => en = .returned (.bool e.gone) /\ w = w' := by
 have NC := hd1 x.none;obtain ⟨m, row, rows, _⟩ := x.row;have f2 : w.cell? (pl, 6) = some (.bool e.gone) := ae row rfl;clear x row rows;go_in;go_wp2_with (go_at_call 36; refine NC.mono ?_; rintro en w0 ⟨rfl, rfl⟩)
 exact OJ
theorem iX (w : World) (n : Int) : Calls prog 12 #[.int .i64 n] w λ en w' => en = .returned (.int .i64 n) /\ w = w' := by
 go_in;go_wp2;exact OJ
theorem x8x {e : Em.E} {l : List Em.ay} (x : bO w pl pd md e F) (h : dJ w G v l) (hl : l.length <= 1000000) (hk : ∀ c ∈ l, c.key.length <= 1000000000 /\ c.value.length <= 1000000000)
 (hd : Em.aW e.rows l ≠ 0) : Calls prog 11 #[pl, v] w λ en w' => en = .returned (.int .i64 (Em.aW e.rows l)) /\ Below w w w' := by
 have NC := hd1 x.none;obtain ⟨mr, row, rows, hne⟩ := x.row;have DC := CY rows (Hf x.good.few) h hl hk;have f2 : w.cell? (pl, 2) = some (.map (some mr)) := ae row rfl
 have DC : Calls prog 37 #[.map (some mr), v] w λ en w' => Below w w w' /\ en = .returned (.tuple #[.map none, .int .i64 (Em.aW e.rows l)]) :=
  DC.mono λ en w' hh => ⟨hh.1, hh.2.elim (λ q => q.2) (λ q => absurd q.1 hd)⟩
 have DC := hd1 DC;generalize Em.aW e.rows l = c at *;clear x row rows hne h hk;go_in;go_wp2;refine xG 0 rfl ?_
 go_wp2_with (first
  | (go_at_call 36; refine NC.mono ?_; rintro en w0 ⟨rfl, rfl⟩)
  | (go_at_call 37; refine DC.mono ?_; rintro en w1 ⟨b1, rfl⟩
     have H1 := hd1 b1;clear b1))
 refine wp_goto ?_;refine Exit.z0f ?_;go_wp2;try go_step3
 go_wp2;rw [KY];go_ret;exact ⟨rfl, H1.out⟩
theorem z8q {e : Em.E} {r : D × Int} {en : Ending} (x : bO w pl pd md e F) (h : Left w pd md F r en w') : lK w pl pd md F ({ e with d := r.1 }, r.2) en w' := by
 obtain ⟨h1, h2, h3⟩ := h;obtain ⟨m, row, rows, hne⟩ := x.row;have lp := aa row;have hg := x.good;refine ⟨h1, h2.mono (λ i hi => Iz hi), ⟨⟨hg.tp, hg.gen, hg.aL, hg.fin, hg.rows, hg.few⟩, h3, ⟨m, (h2.block pl lp (λ q => by rcases q with q | q; exact x.ne.1 q; exact x.ne.2.1 q)).trans row, sG rows h2 hne.1 hne.2.1, hne⟩, x.ne.1, x.ne.2.1, ?_⟩⟩;intro hk;rcases hk with hk | hk
 ·exact x.ne.2.2 hk
 ·omega
end Go.Proofs.YtgffifleflkjoaaGreat
