/-
  Parts of a proof.
-/
import Derived.Test.YtgffifleflkjoaaGreatFin47
import Derived.Test.YtgffifleflkjoaaGreatFin23
import Derived.Test.YtgffifleflkjoaaGreatFin24
import Derived.Defers
import Derived.Recover
import Derived.Laws.Pointers
import Derived.Laws.EntriesVeiled
import Derived.OwnWalk
import Derived.Laws.ResultCell
import Derived.Sort.QuietIn
set_option linter.unusedSimpArgs false
set_option linter.unusedVariables false
set_option maxRecDepth 100000
set_option maxHeartbeats 16000000
namespace Go.Proofs.YtgffifleflkjoaaGreat
open _root_.Go.Proofs.Tryz
variable {w W w' w0 wr w1 W0 W1 W2 A B : World} {F G F' O : Nat → Prop} {v : Value} {l : List UInt8} {n q m pd md pl g p : Nat} {C : Array Value} {c : Int}
open Go.RowKit Dm
theorem Gh {r : D × Int} {f : D -> D × Int} {k : Nat} (h : r.1.waits.length <= n) (hf : ∀ d, (f d).1.waits.length <= d.waits.length + k) : (Em.next r f).1.waits.length <= n + k := by
 unfold Em.next;split
 ·have := hf r.1; omega
 ·omega
theorem Ea (d : D) (t : Nat) (b : List UInt8) : (Em.wrote d t b).1.waits.length <= d.waits.length + 2 := Gh (n := d.waits.length + 1) (k := 1) (z1f d t b) EH
theorem Bg (d : D) (t : Nat) (b : List UInt8) : (Em.bK d t b).1.waits.length <= d.waits.length + 3 :=
 Gh (n := d.waits.length + 2) (k := 1) (Gh (n := d.waits.length + 1) (k := 1) (CY d t) (λ d => z1f d t b)) EH
theorem Bw (e : Em.E) (D : Em.Rows) (b : List UInt8) : (e.put D b).1.d.waits.length <= e.d.waits.length + 2 := by
 unfold Em.E.put;split
 ·simp
 ·exact Ea _ _ _
theorem z0j (e : Em.E) (D : Em.Rows) : (e.fold D).1.d.waits.length <= e.d.waits.length + 3 := by
 by_cases h : 2147483647 <= e.gen
 ·rw [Em.wH h]; simp
 ·rw [Em.wG h]
  have := Bg e.d (1 - e.tp) (Em.folded (e.gen + 1) D);split <;> exact this
theorem z1q (e : Em.E) (l : List Em.ay) : (e.bE l).1.d.waits.length <= e.d.waits.length + 5 := by
 unfold Em.E.bE;split
 ·simp
 ·split
  ·simp
  ·show (e.step (Em.behind e.rows l) (Em.aZ l)).1.d.waits.length <= _
   unfold Em.E.step;have h1 := Bw e (Em.behind e.rows l) (Em.aZ l);have h2 := z0j (e.put (Em.behind e.rows l) (Em.aZ l)).1 (Em.behind e.rows l);split <;> omega
theorem p9 {e : Em.E} (x : bL w pl pd md e F) (hb : Below w w w') : bL w' pl pd md e (plus F w w') := by
 obtain ⟨m, row, rows, hne⟩ := x.row;refine ⟨x.good, x.disk.plus hb, ⟨m, (hb.block pl (aa row)).trans row, d9 rows hb rows.lt, hne⟩, x.ne.1, x.ne.2.1, ?_⟩;intro h;rcases h with h | h
 ·exact x.ne.2.2 h
 ·have := aa row
  omega
theorem BX {e : Em.E} (x : bL w pl pd md e F) (c : Int) (hb : Below w w w') : l_ w pl pd md F (e, c) (.returned (.int .i64 c)) w' :=
 ⟨rfl, Moves.of_below hb, p9 x hb⟩
theorem x3w {e e' : Em.E} (x : bL w pl pd md e F) (hm : Moves (eT pl pd md) w W) (hm' : Moves (eT pl pd md) W w') (y : bL w' pl pd md e' (plus (plus F w W) W w')) : bL w' pl pd md e' (plus F w w') := by
 obtain ⟨l1, l2, l3, l4, l5⟩ := x.disk.lt;obtain ⟨m, row, rows, hne⟩ := x.row;have ll := aa row;have s1 := hm.size;have s2 := hm'.size;refine ⟨y.good, y.disk.weak (λ k hk hl => ?_) ?_ ?_, y.row, y.ne.1, y.ne.2.1, ?_⟩
 ·exact Ps
 all_goals
  intro h;rcases h with h | h
  ·first | exact l4 h | exact l5 h | exact x.ne.2.2 h
  ·omega
theorem Gq {e : Em.E} {r : Em.E × Int} {en : Ending} (x : bL w pl pd md e F) (hm : Moves (eT pl pd md) w W) (h : l_ W pl pd md (plus F w W) r en w') : l_ w pl pd md F r en w' :=
 ⟨h.1, hm.trans h.2.1 (λ _ _ h => h), x3w x hm h.2.1 h.2.2⟩
theorem z8k {e : Em.E} {b : List UInt8} {D : Em.Rows}
 (BC : Calls prog 79 #[v] w (gP w b)) (x : bL w pl pd md e F) (x4o : e.gone = false) (hw : e.d.waits.length <= 900000000) (hb : b.length <= 8205) (hm : RowsIn w m n D) (n1 : m ≠ pd) (n2 : m ≠ md) (n3 : m ≠ pl) (hg : (e.put D b).1.good) :
 Calls prog 38 #[pl, .map (some m), v] w (l_ w pl pd md F (e.put D b)) := by
 by_cases h : 32 <= e.aK \/ b.length = 0 \/ e.d.room / 2 < e.fin + b.length
 ·rw [Em.BD h]
  obtain ⟨mr, row, rows, hne⟩ := x.row;have R0 := x.disk.ok.pR;have R1 := x.disk.ok.fE;have hB := x.good.aK;have hF := x.good.fin;rw [x4o] at row;obtain ⟨room, hroom⟩ : ∃ n : Nat, e.d.room = (n : Int) := ⟨e.d.room.toNat, GX⟩;refine (x3k (room := room) BC row x.disk hroom GX GX GX GX (by rw [hroom] at h; omega)).mono ?_;rintro en w' ⟨rfl, hb⟩;exact BX x 280 hb
 ·exact x3l BC x hw hb hm n1 n2 n3 hg h
theorem x5n {e : Em.E} {D : Em.Rows}
 (x : bL w pl pd md e F) (hw : e.d.waits.length <= 900000000) (hm : RowsIn w m n D) (hD : Em.bI D) (hs : Maps.size D <= 256) (n1 : m ≠ pd) (n2 : m ≠ md) (n3 : m ≠ pl) :
 Calls prog 39 #[pl, .map (some m)] w (l_ w pl pd md F (e.fold D)) := by
 by_cases h : 2147483647 <= e.gen
 ·rw [Em.wH h]
  obtain ⟨mr, row, rows, hne⟩ := x.row;refine (x5o row h).mono ?_;rintro en w' ⟨rfl, rfl⟩;exact BX x 280 G6
 ·exact x5p x hw hm hD hs n1 n2 n3 h
theorem z8u {p : Option Addr} (h : w.cell? (pl, 5) = some (.pointer p)) : Calls prog 36 #[pl] w λ e w' => e = .returned (.bool (p == none)) /\ w = w' := by
 cases p
 ·go_in
  go_wp2;exact OI
 ·go_in
  go_wp2;exact OI
theorem bL.none {e : Em.E} (x : bL w pl pd md e F) : Calls prog 36 #[pl] w λ e w' => e = .returned (.bool false) /\ w = w' := by
 obtain ⟨m, row, _⟩ := x.row;exact z8u (ae row rfl)
theorem y7z {tp gen aK fin : Nat} {rows : Value} {gone : Bool} (h : w.heap[pl]? = some (.cells (jE tp gen rows aK fin pd gone) eO (0, 0))) (g : Bool) :
 (w.setCell (pl, 6) (.bool g)).heap[pl]? = some (.cells (jE tp gen rows aK fin pd g) eO (0, 0)) := IU w pl 6 _ eO (.bool g) h
theorem y7y {e : Em.E} (x : bL w pl pd md e F) (g : Bool) : bL (w.setCell (pl, 6) (.bool g)) pl pd md { e with gone := g } F /\ Moves (λ k => k = pl) w (w.setCell (pl, 6) (.bool g)) := by
 have mv : Moves (λ k => k = pl) w (w.setCell (pl, 6) (.bool g)) := ⟨rfl, rfl, rfl, GZ, λ k hk hne => IW _ _ _ _ hne⟩;obtain ⟨m, row, rows, hne⟩ := x.row;have hg := x.good;exact ⟨⟨⟨hg.tp, hg.gen, hg.aK, hg.fin, hg.rows, hg.few⟩, x.disk.off mv x.ne.1 x.ne.2.1 x.ne.2.2, ⟨m, y7z row g, jQ rows mv hne.2.2, hne⟩, x.ne⟩, mv⟩
theorem z8x {e : Em.E} {r : Em.E × Int} (h : l_ w pl pd md F (e, c) (.returned (.int .i64 c)) W) (g : Bool) (hr : r = ({ e with gone := g }, c)) :
 l_ w pl pd md F r (.returned (.int .i64 c)) (W.setCell (pl, 6) (.bool g)) := by
 subst hr;obtain ⟨_, h2, h3⟩ := h;obtain ⟨y, mv⟩ := y7y h3 g;have s := mv.size;refine ⟨rfl, h2.trans mv (λ i _ hi => IB hi), ⟨y.good, y.disk.weak (λ k hk hl => ?_) ?_ ?_, y.row, y.ne.1, y.ne.2.1, ?_⟩⟩
 ·exact Rs
 all_goals
  intro hk;have l := h3.disk.lt;have l2 := h3.ne.2.2;obtain ⟨m, row, _⟩ := h3.row;have lp := aa row;have s2 : (W.setCell (pl, 6) (.bool g)).heap.size = W.heap.size := GZ;rcases hk with hk | hk
  ·first | exact l.2.2.2.1 (IB hk) | exact l.2.2.2.2 (IB hk) | exact l2 (IB hk)
  ·first | exact l.2.2.2.1 (IC ⟨hk.1, GX⟩) | exact l.2.2.2.2 (IC ⟨hk.1, GX⟩) | exact l2 (IC ⟨hk.1, GX⟩)
abbrev xX : Nat := 210
abbrev iU : Nat := 4
abbrev fM : List PanicEntry := [{ v := .iface xX (.agg #[]), recovered := false }]
theorem kN (w : World) : Calls prog 109 #[true] w λ e w' => e = .returned (.tuple #[]) /\ w = w' := by
 go_in;go_wp2;exact Rj
theorem iK (w : World) : Calls prog 109 #[false] w λ e w' => e = .panicked fM /\ w = w' := by
 go_in;go_wp2;exact Qy
theorem y7k (w : World) : (Instr.typeAssert (.iface xX (.agg #[])) 20 xX false).run prog w = .ok (.agg #[]) w := GV
theorem x8f (p : Addr) (x : Value) (older : List PanicEntry) (w : World) (hc : w.cell? p = some x) (hz : w.frozen? p = false) :
 CallsD prog 146 #[.pointer (some p)] (.panicking ({ v := .iface xX (.agg #[]), recovered := false } :: older)) w λ e u' w' =>
  e = .returned (.tuple #[]) /\ u' = .panicking ({ v := .iface xX (.agg #[]), recovered := true } :: older) /\ w' = w.setCell p (.bool false) := by
 refine LP func146 rfl λ c₀ cs hu => ?_;apply wpS_seq
 apply Km
 simp [wpOpsS, go_sem, recoverD, hu, ntmps146, Exit.thenS];apply wpS_seq
 apply Km
 simp [wpOpsS, go_sem, Exit.thenS];refine wpS_cond (t := true) (by simp [Act.eval, Array.replicate]) ?_;simp only [I6];apply wpS_seq
 apply Km
 have hrl := y7k w;simp [wpOpsS, go_sem, Exit.thenS, hrl];apply Km
 simp [wpOpsS, go_sem, hc, hz, bodyPostS, results, Tryz.results146]
theorem x8e (p : Addr) (w : World) :
 CallsD prog 146 #[.pointer (some p)] .returning w λ e u' w' => e = .returned (.tuple #[]) /\ u' = .returning /\ w' = w := by
 refine LP func146 rfl λ c₀ cs hu => ?_;apply wpS_seq
 apply Km
 simp [wpOpsS, go_sem, recoverD, hu, ntmps146, Exit.thenS];apply wpS_seq
 apply Km
 simp [wpOpsS, go_sem, Exit.thenS];refine wpS_cond (t := false) (by simp [Act.eval, Array.replicate]) ?_;simp only [KJ, JS];refine wpS_of_wp (wp_skip ?_);cases c₀;simp_all [bodyPostS, results, Tryz.results146]
theorem Eu {fn : Nat} {fs cs : Array Value} {R : World -> Prop} (eg : ∀ args w, (callFunc fn args).run prog w = .ok (.enter fn args) w)
 (HC : Calls prog fn (fs ++ cs) (w.alloc (.cells #[false] iU)) λ e w' => e = .panicked fM /\ R w')
 (hR : ∀ w', R w' -> w'.heap[w.heap.size]? = some (.cells #[false] iU)) :
 Calls prog 110 #[.func (.func fn) fs cs] w λ e w' => e = .returned (.bool false) /\ ∃ W, R W /\ w' = W.setCell ⟨w.heap.size, 0, none⟩ (.bool false) := by
 have gM : ∀ (fn : Fn) (first cap : Array Value) (w : World), (Instr.makeFunc fn first cap).run prog w = .ok (.func fn first cap) w := λ _ _ _ _ => rfl;go_enter_defers func110, ntmps110
 go_wp2_with (refine HC.mono ?_; rintro e w2 ⟨rfl, r2⟩)
 refine leaves_cons (f := 146) (args := #[.pointer (some ⟨w.heap.size, 0, none⟩)]) GZ NY ?_;refine (x8f ⟨w.heap.size, 0, none⟩ (.bool false) [] _ ?_ ?_).mono ?_
 ·exact ae (hR _ r2) rfl
 ·exact aU (hR _ r2) _
 rintro e u' w'' ⟨rfl, rfl, rfl⟩;have h1 : (w2.setCell ⟨w.heap.size, 0, none⟩ (.bool false)).cell? ⟨w.heap.size, 0, none⟩ = some (.bool false) := ae (IU _ _ 0 _ iU (.bool false) (hR _ r2)) rfl;exact Ro
theorem z3s {fn : Nat} {fs cs : Array Value} {R : World -> Prop} (eg : ∀ args w, (callFunc fn args).run prog w = .ok (.enter fn args) w)
 (HC : Calls prog fn (fs ++ cs) (w.alloc (.cells #[false] iU)) λ e w' => e = .returned (.tuple #[]) /\ R w')
 (hR : ∀ w', R w' -> w'.heap[w.heap.size]? = some (.cells #[false] iU)) :
 Calls prog 110 #[.func (.func fn) fs cs] w λ e w' => e = .returned (.bool true) /\ ∃ W, R W /\ w' = W.setCell ⟨w.heap.size, 0, none⟩ (.bool true) := by
 have gM : ∀ (fn : Fn) (first cap : Array Value) (w : World), (Instr.makeFunc fn first cap).run prog w = .ok (.func fn first cap) w := λ _ _ _ _ => rfl;go_enter_defers func110, ntmps110
 go_wp2_with (refine HC.mono ?_; rintro e w2 ⟨rfl, r2⟩
              have c2 : w2.cell? ⟨w.heap.size, 0, none⟩ = some (.bool false) := ae (hR _ r2) rfl;have z2 := aU (hR _ r2) 0)
 refine leaves_cons (f := 146) (args := #[.pointer (some ⟨w.heap.size, 0, none⟩)]) GZ NY ?_;refine (x8e ⟨w.heap.size, 0, none⟩ _).mono ?_;rintro e u' w'' ⟨rfl, rfl, rfl⟩;have h1 : (w2.setCell ⟨w.heap.size, 0, none⟩ (.bool true)).cell? ⟨w.heap.size, 0, none⟩ = some (.bool true) := ae (IU _ _ 0 _ iU (.bool true) (hR _ r2)) rfl;exact Ro
theorem z4q (w : World) (v : Value) (F : Nat -> Prop) (h : BytesAt w.heap F v []) :
 Calls prog 108 #[v] w λ e w' => e = .returned (.tuple #[.slice none 0 0, .int .i64 0, .int .i64 0]) /\ w = w' := by
 have FC := hd1 (y0q w v F h);go_in;go_wp2_with (go_at_call 144; refine FC.mono ?_; rintro e w1 ⟨rfl, rfl⟩)
 go_ret3
 exact ⟨rfl, rfl⟩
theorem x2v {g1 g2 : Nat} (h : BytesAt w.heap F v []) (c1 : w.cell? g1 = some v) (c2 : w.cell? g2 = some (.int .i64 0)) :
 Calls prog 107 #[g1, g2] w λ e w' => e = .panicked fM /\ w = w' := by
 have SC := hd1 (z4q w v F h);rcases h with ⟨rfl, _⟩ | ⟨b, o, cap, cs, t, fr, rfl, h1, h2, h3⟩
 ·exact P6
 ·simp only [Jw] at SC c1
  exact P6
theorem x9n {g1 g2 : Nat} {q : Value} (h : BytesAt w.heap F v []) (c1 : w.cell? g1 = some v) (c2 : w.cell? g2 = some (.int .i64 0)) :
 Calls prog 112 #[q, .func (.func 107) #[] #[.pointer (some g1), .pointer (some g2)]] w λ e w' => e = .panicked fM /\ w = w' := by
 have NC := hd1 (x2v h c1 c2);have eg := enters_of func107 GV rfl;go_in;go_wp2_with (refine NC.mono ?_; rintro e w1 ⟨rfl, rfl⟩)
 exact Qy
theorem x9k {g1 g2 g3 : Nat} {q : Value} (h : BytesAt w.heap F v []) (c1 : w.cell? g1 = some v) (c2 : w.cell? g2 = some (.int .i64 0))
 (c3 : w.cell? g3 = some (.func (.func 107) #[] #[.pointer (some g1), .pointer (some g2)])) :
 Calls prog 111 #[q, g3] w λ e w' => e = .panicked fM /\ w = w' := by
 have BC := hd1 (x9n (q := q) h c1 c2);go_in;go_wp2_with (go_at_call 112; refine BC.mono ?_; rintro e w1 ⟨rfl, rfl⟩)
 exact Qy
abbrev vF : Nat := 3
abbrev Av : Nat := 176
abbrev y5f (at' : Int) : Value := .agg #[.int .i64 at', .int .i64 0, .map none, .int .i64 0, .int .i64 0]
theorem y9f {at' : Int} (h : BytesAt w.heap F v []) :
 Calls prog 69 #[.int .i64 at', v] w λ e w' => e = .returned (y5f at') /\ Below w w w' := by
 obtain ⟨va, vc, rfl⟩ := h.slice;have gM : ∀ (fn : Fn) (first cap : Array Value) (w : World), (Instr.makeFunc fn first cap).run prog w = .ok (.func fn first cap) w := λ _ _ _ _ => rfl;have H := hd1 h;clear h;go_in;go_upto_region 4 with fail
 obtain ⟨W, hW⟩ : ∃ W, ((((w.alloc (.cells #[.slice va 0 vc] dH)).alloc (.cells #[.int .i64 0, .int .i64 0, .map none, .int .i64 0, .int .i64 0] dK)).alloc (.cells #[.int .i64 at', .int .i64 0, .map none, .int .i64 0, .int .i64 0] dK)).alloc (.cells #[.int .i64 0] vF)).alloc
  (.cells #[.func (.func 107) #[] #[.pointer (some ⟨w.heap.size, 0, none⟩), .pointer (some ⟨w.heap.size + 1 + 1 + 1, 0, none⟩)]] Av) = W := ⟨_, rfl⟩
 rw [hW];have B : Below w w W := by rw [<-hW]; exact ((((bla).alloc GZ _).alloc Oa _).alloc Oa _).alloc Oa _
 have s : W.heap.size = w.heap.size + 5 := by rw [<-hW]; simp
 have r0 : W.heap[w.heap.size]? = some (.cells #[.slice va 0 vc] dH) := by rw [<-hW]; exact aM Oa (aM Oa (aM Oa (aM GZ (II w _))))
 have r1 : W.heap[w.heap.size + 1]? = some (.cells #[.int .i64 0, .int .i64 0, .map none, .int .i64 0, .int .i64 0] dK) := by rw [<-hW]; exact aM NP (aM NP (aM NP (bC (w := w.alloc _) _ GZ)))
 have r3 : W.heap[w.heap.size + 1 + 1 + 1]? = some (.cells #[.int .i64 0] vF) := by rw [<-hW]; exact aM GZ (bC (w := (((w.alloc _).alloc _).alloc _)) _ GZ)
 have r4 : W.heap[w.heap.size + 1 + 1 + 1 + 1]? = some (.cells #[.func (.func 107) #[] #[.pointer (some w.heap.size), .pointer (some (w.heap.size + 1 + 1 + 1, 0))]] Av (0, 0)) := by rw [<-hW]; exact bC (w := ((((w.alloc _).alloc _).alloc _).alloc _)) _ GZ
 have y : BytesAt W.heap F (.slice va 0 vc) [] := H.keeps (λ k _ hl => B.block k hl) (λ k hk _ => hk);have eg := enters_of func111 GV rfl;have B2 : Below W W (W.alloc (.cells #[false] iU)) := bla
 have BC := x9k (w := W.alloc (.cells #[false] iU)) (q := .pointer (some ⟨w.heap.size + 1 + 1, 0, none⟩)) (g1 := w.heap.size) (g2 := w.heap.size + 1 + 1 + 1) (g3 := w.heap.size + 1 + 1 + 1 + 1) (y.keeps (λ k _ hl => B2.block k hl) (λ k hk _ => hk))
  (aN B2 (ae r0 rfl)) (aN B2 (ae r3 rfl)) (aN B2 (ae r4 rfl))
 have TC := hd1 (Eu (w := W) (fs := #[]) (cs := #[.pointer (some ⟨w.heap.size + 1 + 1, 0, none⟩), .pointer (some ⟨w.heap.size + 1 + 1 + 1 + 1, 0, none⟩)]) (R := λ w' => W.alloc (.cells #[false] iU) = w') eg (by rw [JM]; exact BC) (λ w' e => by rw [<-e]; exact II W _));have H1 := hd3 B s r1;clear hW B s r0 r1 r3 r4 y B2 BC eg
 go_wp2_with (first
  | (go_at_call 110; refine TC.mono ?_; rintro e w1 ⟨rfl, W2, e2, e3⟩
     have b1 : Below W W w1 := by
      rw [e3, <-e2];exact ⟨rfl, rfl, rfl, GZ, λ k hk => (IW _ _ k _ Oa).trans (JN _ _ _ hk)⟩
     have q1 := (b1.block _ (Hm H1.2.1)).trans H1.2.2;have H2 := hd1 b1;clear b1 e2 e3)
  | (refine ou rfl dK (.tmp 4) (.tmp 16) rfl (w.heap.size + 1) 0 #[.int .i64 at', .int .i64 0, .map none, .int .i64 0, .int .i64 0] rfl rfl dK _ q1 p_ GZ Nq ?_
     intro W3 HW3 bQ fT))
 have k3 : W3.heap[w.heap.size + 1]? = some (.cells #[.int .i64 at', .int .i64 0, .map none, .int .i64 0, .int .i64 0] dK) := HW3.out;refine Hg k3 Iw p_ ?_;exact ⟨rfl, Moves.new (H1.1.trans (H2.mono H1.1.size)) bQ GX⟩
section
open Go.Shelf
attribute [local go_sem] Oper.semAt_some
structure Em.T where
 gen : Nat
 rows : Em.Rows
 aK : Nat
 fin : Nat
def Em.T.none : Em.T := ⟨0, .map [], 0, 0⟩
def w_ (B : Nat) (k : Nat) (t : Em.T) (v : Value) (w : World) : Prop :=
 ∃ mv, v = .agg #[.int .i64 k, .int .i64 t.gen, mv, .int .i64 t.aK, .int .i64 t.fin] /\ ((mv = .map Option.none /\ t = Em.T.none) \/ ∃ m, mv = .map (some m) /\ RowsIn w m (Maps.size t.rows) t.rows /\ B <= m)
def zO (b : List UInt8) (k : Nat) (t : Em.T) : Prop :=
 ∀ (W : World) (v : Value) (G : Nat -> Prop), BytesAt W.heap G v b -> Calls prog 69 #[.int .i64 k, v] W λ e w' => (∃ v', e = .returned v' /\ w_ W.heap.size k t v' w') /\ Below W.heap.size W w'
theorem reads_nil (k : Nat) : zO [] k Em.T.none := λ W v G h => (y9f h).mono λ _ _ hh => ⟨⟨_, hh.1, _, rfl, IB ⟨rfl, rfl⟩⟩, hh.2⟩
theorem w_.later {B B' k : Nat} {t : Em.T} (h : w_ B k t v w) (hb : Below w w w') (hB : B' <= B) : w_ B' k t v w' := by
 obtain ⟨mv, rfl, h⟩ := h;refine ⟨mv, rfl, ?_⟩;rcases h with h | ⟨m, rfl, h1, h2⟩
 ·exact IB h
 ·exact IC ⟨m, rfl, d9 h1 hb h1.lt, GX⟩
theorem y5m (pd : Nat) (w : World) : Calls prog 33 #[pd] w λ e w' =>
 e = .returned (.func (.func 68) #[] #[.pointer (some w.heap.size)]) /\ w.alloc (.cells #[pd] 23) = w' := by
 have gM : ∀ (fn : Fn) (first cap : Array Value) (w : World), (Instr.makeFunc fn first cap).run prog w = .ok (.func fn first cap) w := λ _ _ _ _ => rfl;go_in;go_wp2;exact OI
def y2r (pd md g n : Nat) (F : Nat -> Prop) : Nat -> Prop := λ i => i = pd \/ i = md \/ i = g \/ (F i /\ i < n)
theorem x6p {d : D} (x : aQ A.heap pd md d (λ i => F i /\ i < n)) (hk : di (y2r pd md g n F) A B) : aQ B.heap pd md d (λ i => F i /\ i < n) := by
 obtain ⟨l1, l2, _, _, _⟩ := x.lt;exact x.keeps (hk.block pd (IB rfl) l1) (hk.block md (IC (IB rfl)) l2) (λ k h hl => hk.block k (IC (IC (IC h))) hl) (λ _ h _ => h) (λ _ h => IB h)
theorem y5l {d : D} {ts : Nat -> Em.T} (x : aQ w.heap pd md d F) (hg : w.cell? g = some (.pointer (some pd))) (hts : ∀ k : Nat, k < 2 -> zO (d.stand.tp k) k (ts k)) :
 y2j prog 68 #[.pointer (some g)] (λ k x O W => (∃ v, x = #[v] /\ w_ w.heap.size k (ts k) v W) /\ ∀ i, ¬ O i) 2 (y2r pd md g w.heap.size F) w := by
 intro l J Jx W hW hJ hJx hY h0;have lg : g < w.heap.size := IZ hg;have x0 : aQ W.heap pd md d (λ i => F i /\ i < w.heap.size) := by
  have lt := x.lt;exact x.keeps (hW.block pd lt.1) (hW.block md lt.2.1) (λ k _ hl => hW.block k hl) (λ k hk hl => ⟨hk, hl⟩) (λ k hk => IB hk.1)
 have f0 := (hW.cell (p := ⟨g, 0, none⟩) lg).trans hg;have sW := hW.size;clear x hg;refine Lu func68 rfl trivial ?_ rfl;simp only [ntmps68, Kl, I8, Jw, Nat.reduceAdd, Nat.reduceSub, J3, J4, J5, J6, Jj, JG];gi_wp2;refine Ei (El ?_);gi_wp2;gi_loopw [6] (λ p wr => ∃ k : Nat, p = .int .i64 (k : Int) /\ k <= 2 /\ J k (λ _ => False) wr /\ aQ wr.heap pd md d (λ i => F i /\ i < w.heap.size) /\ wr.cell? g = some (.pointer (some ⟨pd, 0, none⟩)) /\ w.heap.size <= wr.heap.size) (λ p _ => 3 - (intOf p).toNat)
 case atStart => exact ⟨0, rfl, GX, h0, x0, f0, sW⟩
 case round =>
  obtain ⟨k, rfl, hk, qf, xk, fk, sk⟩ := hrel;by_cases hlt : k < 2
  ·have TC := hd1 (EA xk k)
   rw [IA GX, IA GX] at TC;have RC := hd1 (λ W v G h => (Ji (n := 0)).2 (hts k hlt W v G h));have HH := hd4 qf xk fk sk;have TC' := hd1 ((Ji (n := 0)).2 TC.out);have hYk := hd1 (λ (v : Value) (W1 : World) (hv : w_ w.heap.size k (ts k) v W1) (hj : J k (λ _ => False) W1) => hY k #[v] (λ _ => False) W1 hlt ⟨⟨v, rfl, hv⟩, λ _ h => h⟩ hj);have k0 : (k : Int) < 2 := GX;clear qf xk sk TC hY h0 x0 f0;generalize hl : d.stand.tp k = bs at *
   gi_wp2_with (first
    | (refine ⟨trivial, rfl, ?_⟩; gi_at_call 61; refine TC'.mono ?_; rintro e w1 ⟨v1, rfl, b1, y1⟩
       have H1 := hd2 b1 y1.bytes;clear b1 y1)
    | (refine ⟨trivial, rfl, ?_⟩; gi_at_call 69; refine (RC.out w1 v1 _ H1.2).mono ?_; rintro e w2 ⟨⟨v2, rfl, t2⟩, b2⟩
       have B2 : Below wr wr w2 := H1.1.trans (b2.mono H1.1.size);have hj := hJ k _ (λ _ => False) wr w2 HH.1 (Moves.of_below B2) (λ _ h => h) (λ _ h => IB h);obtain ⟨fn, tmps, assign, body, hy, hR⟩ := hYk.out v2 w2 (t2.later G6 (Ho H1.1.size HH.2.2.2)) hj;have H2 := hd2 B2 hR;clear t2 b2 B2 hj hR))
   refine ⟨rfl, H2.2.mono ?_⟩;have Ab : aQ w2.heap pd md d (λ i => F i /\ i < w.heap.size) := HH.2.1.below H2.1;have CJ := aN H2.1 HH.2.2.1;have AO : w.heap.size <= w2.heap.size := IV HH.2.2.2 H2.1.size;have H3 := hd3 Ab CJ AO;clear Ab CJ AO;rintro e W' (⟨rfl, hJ', hk'⟩ | ⟨rfl, rH, hk'⟩)
   ·have hw1 : IntKind.i64.wrap ((k : Int) + 1) = ((k + 1 : Nat) : Int) := Jd _ GX
    gi_wp2;obtain ⟨Ab, CJ, AO⟩ := H3.out;refine ⟨⟨k + 1, GZ, GX, hJ', x6p (g := g) Ab (hk'.mono λ i hi => IC hi), ?_, IV AO hk'.size⟩, ?_⟩
    ·exact (I1 (hk'.block g (IC (IC (IC (IB rfl)))) GX)).trans CJ
    ·simp [intOf]; omega
   ·gi_wp2
    simp +zetaDelta only [KR]; refine Kv (Kw rfl _ _ _) rfl ?_;exact ⟨⟨_, rfl⟩, _, .inr ⟨k + 1, GX, rH⟩⟩
  ·obtain rfl : k = 2 := GX
   gi_wp2;simp +zetaDelta only [KR]; refine Kv (Kw rfl _ _ _) rfl ?_;exact ⟨⟨_, rfl⟩, _, .inl qf⟩
end
section
open Go.Shelf
attribute [local go_sem] Oper.semAt_some
abbrev lh : Nat := 27
theorem y7r {d : D} (x : aQ w.heap p m d F) : Calls prog 32 #[p, .pointer none] w λ e w' => e = .returned (.bool false) /\ w = w' := by
 have NO := hd1 (gW p true w x.lQ.1);have NN := hd1 (z7d (w := w) (v := .pointer none) (IB rfl));clear x;go_in
 go_wp2_with (first
  | (go_at_call 45; (with_reducible refine (NO.out).mono ?_); rintro e w' ⟨rfl, rfl⟩)
  | (go_at_call 45; (with_reducible refine (NN.out).mono ?_); rintro e w' ⟨rfl, rfl⟩))
 exact OI
def aP (ts : Nat -> Em.T) : Nat -> Nat × Em.T
 | 0 => (0, Em.T.none)
 | k + 1 => if (aP ts k).2.gen < (ts k).gen then (k, ts k) else aP ts k
abbrev Gr (pd : Nat) : Array Value := #[.int .i64 0, .int .i64 0, .map none, .int .i64 0, .int .i64 0, .pointer (some ⟨pd, 0, none⟩), .bool false]
def uJ (w : World) (pd : Nat) (ts : Nat -> Em.T) (k : Nat) (O : Nat -> Prop) (W : World) : Prop :=
 Below w.heap.size w W /\ W.heap[w.heap.size]? = some (.cells #[.pointer (some ⟨w.heap.size + 1, 0, none⟩)] lh (0, 0)) /\ (∀ i, O i -> w.heap.size + 5 <= i) /\ w.heap.size + 5 <= W.heap.size ∧
  ∃ mv, W.heap[w.heap.size + 1]? = some (.cells (jE (aP ts k).1 (aP ts k).2.gen mv (aP ts k).2.aK (aP ts k).2.fin pd false) eO (0, 0)) ∧
   ((mv = .map none /\ (aP ts k).2 = Em.T.none) \/ ∃ m, mv = .map (some m) /\ RowsIn W m (Maps.size (aP ts k).2.rows) (aP ts k).2.rows /\ w.heap.size + 3 <= m /\ ¬ O m)
theorem y8n {D : Em.Rows} (h : RowsIn A m n D) (hm : Moves O A B) (h1 : ¬ O m) : RowsIn B m n D := by
 exact QK
theorem F_ {ts : Nat -> Em.T} {k : Nat} {O' : Nat -> Prop} (h : uJ w pd ts k O A) (hm : Moves O A B) (ho : ∀ i, O' i -> O i \/ A.heap.size <= i) : uJ w pd ts k O' B := by
 obtain ⟨h1, h2, h6, h7, mv, h8, h9⟩ := h
 refine ⟨⟨hm.os.trans h1.os, hm.tape.trans h1.tape, hm.output.trans h1.output, IV h1.size hm.size, λ i hi => ?_⟩, (hm.block _ GX (λ e => Hm (h6 _ e))).trans h2, λ i hi => ?_, IV h7 hm.size, mv,
  (hm.block _ GX (λ e => Hm (h6 _ e))).trans h8, ?_⟩
 ·exact Ru
 ·exact Sk
 ·rcases h9 with h9 | ⟨m, e, h9, h10, h11⟩
  ·exact IB h9
  ·refine IC ⟨m, e, y8n h9 hm h11, h10, λ e => ?_⟩
   rcases ho m e with e | e
   ·exact h11 e
   ·have := h9.lt; omega
theorem z5m {d : Nat} {D : Em.Rows} {o o' : Obj} (h : RowsIn A m n D) (ho' : A.heap[d]? = some o') (hm : ∀ es clock, o' ≠ .map es clock) : RowsIn (A.putObj d o) m n D := by
 obtain ⟨es, clock, k1, kF, ks, kD⟩ := h;have hne : m ≠ d := λ e => by rw [e, ho'] at k1; cases k1; exact hm _ _ rfl
 exact ⟨es, clock, (Jf hne).trans k1, kF, ks, kD⟩
theorem x1g {ts : Nat -> Em.T} {k : Nat} (h : uJ w pd ts k O A) (d : Nat) (hd : w.heap.size + 3 <= d) (o o' : Obj) (ho' : A.heap[d]? = some o') (hm : ∀ es clock, o' ≠ .map es clock) : uJ w pd ts k O (A.putObj d o) := by
 obtain ⟨h1, h2, h6, h7, mv, h8, h9⟩ := h;refine ⟨⟨h1.os, h1.tape, h1.output, by simpa using h1.size, λ i hi => (Jf GX).trans (h1.block i hi)⟩, (Jf GX).trans h2, h6, by simpa using h7, mv, (Jf GX).trans h8, ?_⟩;rcases h9 with h9 | ⟨m, e, h9, h10, h11⟩
 ·exact IB h9
 ·exact IC ⟨m, e, z5m h9 ho' hm, h10, h11⟩
def xy (w : World) (pd md : Nat) (F : Nat -> Prop) (r : Em.E × Int) (e : Ending) (w' : World) : Prop :=
 Moves (PM pd md) w w' /\ (r.2 = 0 -> ∃ (pl : Nat) (F' : Nat -> Prop), e = .returned (.tuple #[.pointer (some ⟨pl, 0, none⟩), .int .i64 0]) /\ bL w' pl pd md r.1 F' /\ w.heap.size <= pl /\ (∀ k, F' k -> k < w'.heap.size) /\ ∀ k, F' k -> F k \/ w.heap.size <= k) ∧
  (r.2 ≠ 0 -> e = .returned (.tuple #[.pointer none, .int .i64 r.2]) /\ aQ w'.heap pd md r.1.d (plus F w w'))
theorem BI {w3 W4 : World} {r : Em.E} {d : D} (x : aQ w.heap pd md d F) (hF : ∀ i, F i -> i < w.heap.size) (b : Below w w W) (s : w.heap.size + 5 <= W.heap.size) (hD : q = w.heap.size + 3) (m3 : Moves (eT (w.heap.size + 1) pd md) W w3)
 (x3 : bL w3 (w.heap.size + 1) pd md r (plus F W w3)) {oD : Option (List Deferred)} (dD : w3.heap[q]? = some (.deferred oD)) {c : Array Value} (q0 : w3.heap[w.heap.size]? = some (.cells c lh)) (m4 : Moves (λ k => k = w.heap.size \/ k = q) w3 W4) :
 Moves (PM pd md) w W4 /\ bL W4 (w.heap.size + 1) pd md r (plus F W w3) := by
 have lx := x.lt;have s3 := m3.size;have s4 := m4.size;obtain ⟨m, row, rows, hne⟩ := x3.row;have lr := aa row;refine ⟨⟨m4.os.trans (m3.os.trans b.os), m4.tape.trans (m3.tape.trans b.tape), m4.output.trans (m3.output.trans b.output), Hm b.size, λ k hk hn => ?_⟩, ⟨x3.good, ?_, ⟨m, (m4.block _ lr GX).trans row, ?_, hne⟩, x3.ne⟩⟩
 ·exact (m4.block k (Hm b.size) GX).trans ((m3.block k (Hm b.size) (λ e => by rcases e with e | e | e; omega; exact hn (IB e); exact hn (IC e))).trans (b.block k hk))
 ·refine x3.disk.keeps (m4.block pd x3.disk.lt.1 GX) (m4.block md x3.disk.lt.2.1 GX) (λ k hk hl => m4.block k hl ?_) (λ _ h _ => h) (λ _ h => IB h)
  rcases hk with hk | hk
  ·have := hF k hk; omega
  ·omega
 ·obtain ⟨es, clock, k1, kF, ks, kD⟩ := rows
  have n1 : m ≠ w.heap.size := λ e => by rw [e, q0] at k1; cases k1
  have n2 : m ≠ q := λ e => by rw [e, dD] at k1; cases k1
  exact ⟨es, clock, (m4.block m (Jk.1 k1).1 (λ e => by rcases e with e | e; exact n1 e; exact n2 e)).trans k1, kF, ks, kD⟩
theorem nG {fn : Func} {p u : Tmp} {ty : TypeId} (h : fn.results = #[.cell p ty, .tmp u]) (tmps : Array Value) (w : World) (a : Addr) (v : Value) (hp : tmps.getD p undef = .pointer (some a)) (hc : w.cell? a = some v)
 (hi : (isAgg ty).run prog w = .ok false w) : (results fn tmps).run prog w = .ok (.tuple #[v, tmps.getD u undef]) w := by
 rw [results_cell_tmp h, hp];simp [asAddr, loadVar, hi, hc]
theorem y7x {tp gen aK fin : Nat} {rows : Value} {gone : Bool} (h : w.heap[pl]? = some (.cells (jE tp gen rows aK fin pd gone) eO (0, 0))) (tp' z0o z1i fin' : Nat) (r' : Value) :
 (((((w.setCell pl (.int .i64 tp')).setCell (pl, 1) (.int .i64 z0o)).setCell (pl, 2) r').setCell (pl, 3) (.int .i64 z1i)).setCell (pl, 4) (.int .i64 fin')).heap[pl]? = some (.cells (jE tp' z0o r' z1i fin' pd gone) eO (0, 0)) := by
 have h0 := IU w pl 0 _ eO (.int .i64 tp') h;have h1 := IU _ pl 1 _ eO (.int .i64 z0o) h0;have h2 := IU _ pl 2 _ eO r' h1;have h3 := IU _ pl 3 _ eO (.int .i64 z1i) h2;exact IU _ pl 4 _ eO (.int .i64 fin') h3
theorem eD (w : World) (pl j : Nat) (a : Value) : Moves (λ k => k = pl) w (w.setCell (pl, j) a) := ⟨rfl, rfl, rfl, GZ, λ k hk hne => IW _ _ _ _ hne⟩
theorem y7w (w : World) (pl : Nat) (a b c d e : Value) : Moves (λ k => k = pl) w (((((w.setCell pl a).setCell (pl, 1) b).setCell (pl, 2) c).setCell (pl, 3) d).setCell (pl, 4) e) :=
 ((((eD w pl 0 a).trans (eD _ pl 1 b) (λ _ _ h => h)).trans (eD _ pl 2 c) (λ _ _ h => h)).trans (eD _ pl 3 d) (λ _ _ h => h)).trans (eD _ pl 4 e) (λ _ _ h => h)
end
abbrev qN : Nat := 253
abbrev iw : Nat := 212
abbrev vD : Nat := 278
def aV (w : World) (q : Nat) (l : List UInt8) : Prop := ∃ v, w.heap[q]? = some (.cells #[v, .bool true, .bool false] qN (0, 0)) /\ BytesAt w.heap (λ k => k < q) v l
theorem aV.later (h : aV w q l) (hb : Below w w w') : aV w' q l := by
 obtain ⟨v, r, y⟩ := h;exact ⟨v, (hb.block q (aa r)).trans r, y.below hb⟩
theorem aV.lt (h : aV w q l) : q < w.heap.size := by
 obtain ⟨v, r, _⟩ := h;exact aa r
theorem aV.put {u : Value} {k : List UInt8} (r : w.heap[q]? = some (.cells #[v, true, false] qN)) (y : BytesAt w.heap (λ k => k < q) u k) : aV (w.setCell q u) q k :=
 ⟨u, IU w q 0 _ qN u r, y.keeps (λ k hk _ => IW _ _ k _ (Nat.ne_of_lt hk)) (λ _ hk _ => hk)⟩
abbrev qK : List PanicEntry := [{ v := .iface vD (.agg #[]), recovered := false }]
theorem sI (w : World) : Calls prog 177 #[true] w λ e w' => e = .returned (.tuple #[]) /\ w = w' := by
 go_in;go_wp2;exact Rj
theorem vB (w : World) : Calls prog 177 #[false] w λ e w' => e = .panicked qK /\ w = w' := by
 go_in;go_wp2;exact Qy
def y2s (w : World) (q : Nat) (l : List UInt8) (n : Nat) (e : Ending) (w' : World) : Prop :=
 ∃ v, e = .returned v /\ BytesAt w'.heap (λ k => k < q) v (l.take n) /\ aV w' q (l.drop n) /\ Moves (λ k => k = q) w w'
theorem Ex {u x : Value} (r : w.heap[q]? = some (.cells #[v, true, false] qN)) (y : BytesAt w.heap (λ k => k < q) u (l.drop n)) (z : BytesAt w.heap (λ k => k < q) x (l.take n)) :
 y2s w q l n (.returned x) (w.setCell q u) :=
 ⟨x, rfl, z.keeps (λ k hk _ => IW _ _ k _ (Nat.ne_of_lt hk)) (λ _ hk _ => hk), aV.put r y, eD w q 0 u⟩
theorem Au (h : aV w q l) (hn : n <= l.length) (hl : l.length <= 1000000000) : Calls prog 203 #[q, .int .i64 n] w (y2s w q l n) := by
 obtain ⟨v, r, y⟩ := h;rcases y with ⟨rfl, rfl⟩ | ⟨b, o, cap, cs, t, fr, rfl, h1, h2, h3, h4, h5⟩
 ·obtain rfl : n = 0 := by simpa using hn
  have c0 : w.cell? q = some (.slice none 0 0) := ae r rfl;have z0 := aU r 0;have R := hd1 r;clear r;go_in;go_wp2_with (go_at_call 177; refine (sI _).mono ?_; rintro e w' ⟨rfl, rfl⟩)
  go_ret;exact Ex R.out (IB ⟨rfl, rfl⟩) (IB ⟨rfl, rfl⟩)
 ·have y : BytesAt w.heap (λ k => k < q) (.slice (some (b, o)) l.length cap) l := IC ⟨b, o, cap, cs, t, fr, rfl, h1, h2, h3, h4, h5⟩
  have front := y.front hn;have back := y.back hn;have c0 : w.cell? q = some (.slice (some (b, o)) l.length cap) := ae r rfl;have z0 := aU r 0;have R := hd5 r front back h3 h4;have HL := hd1 (show l.length - n = 0 -> l.drop n = [] from λ h => Le GX);clear r y front back h3 h4 h5;generalize l.length = L at *;have d1 : (n : Int) <= (L : Int) := GX;have d2 : (n : Int) <= (cap : Int) := GX;have d3 : ¬ (n : Int) < 0 := GX;have d4 : (0 : Int) <= (n : Int) := GX;by_cases hc : cap = n
  ·have d5 : (cap : Int) = (n : Int) := GX
   have e0 : L - n = 0 := GX;have HC := hd2 hc e0;clear hc e0;go_in;go_wp2_with (go_at_call 177; refine (sI _).mono ?_; rintro e w' ⟨rfl, rfl⟩)
   go_ret;refine Ex R.1 ?_ R.2.1;rw [HL.out HC.2];exact IC ⟨b, o, cap - n, cs, t, fr, by rw [HC.2]; rfl, IY _, IV (Nat.sub_le _ _) h2, R.2.2.2.1, R.2.2.2.2, λ i x hi => by simp at hi⟩
  ·have d5 : ¬ (cap : Int) = (n : Int) := GX
   go_in;go_wp2_with (go_at_call 177; refine (sI _).mono ?_; rintro e w' ⟨rfl, rfl⟩)
   go_ret;exact Ex R.1 R.2.2.1 R.2.1
theorem y5e (h : aV w q l) (hn : l.length < n) (hl : n <= 9223372036854775807) : Calls prog 203 #[q, .int .i64 n] w λ e w' => e = .panicked qK /\ w = w' := by
 obtain ⟨v, r, y⟩ := h;obtain ⟨a, c, rfl⟩ := y.slice;have c0 : w.cell? q = some (.slice a l.length c) := ae r rfl;have d1 : ¬ (n : Int) <= (l.length : Int) := GX;clear r y;generalize l.length = L at *;go_in;go_wp2_with (go_at_call 177; refine (vB _).mono ?_; rintro e w' ⟨rfl, rfl⟩)
 exact Qy
end Go.Proofs.YtgffifleflkjoaaGreat
