/-
  Parts of a proof.
-/
import Derived.Test.YtgffifleflkjoaaGreatFin21
import Derived.Test.YtgffifleflkjoaaGreatFin22
import Derived.Test.YtgffifleflkjoaaGreatFin23
import Derived.Defers
import Derived.Recover
import Derived.Laws.Pointers
import Derived.Laws.EntriesVeiled
import Derived.OwnWalk
import Derived.Laws.ResultCell
import Derived.Sort.QuietIn
set_option linter.unusedSimpArgs false
set_option linter.unusedVariables false
set_option maxRecDepth 100000
set_option maxHeartbeats 16000000
namespace Go.Proofs.YtgffifleflkjoaaGreat
open _root_.Go.Proofs.Tryz
variable {w W w' w0 wr w1 W0 W1 W2 A B : World} {F G F' O : Nat → Prop} {v : Value} {l : List UInt8} {n q m pd md pl g p : Nat} {C : Array Value} {c : Int}
open Go.RowKit Dm
theorem Gm {r : D × Int} {f : D -> D × Int} {k : Nat} (h : r.1.waits.length <= n) (hf : ∀ d, (f d).1.waits.length <= d.waits.length + k) : (Em.next r f).1.waits.length <= n + k := by
 unfold Em.next;split
 ·have := hf r.1; omega
 ·omega
theorem Ec (d : D) (t : Nat) (b : List UInt8) : (Em.wrote d t b).1.waits.length <= d.waits.length + 2 := Gm (n := d.waits.length + 1) (k := 1) (z1a d t b) EK
theorem A_ (d : D) (t : Nat) (b : List UInt8) : (Em.bK d t b).1.waits.length <= d.waits.length + 3 :=
 Gm (n := d.waits.length + 2) (k := 1) (Gm (n := d.waits.length + 1) (k := 1) (CV d t) (λ d => z1a d t b)) EK
theorem Bo (e : Em.E) (D : Em.Rows) (b : List UInt8) : (e.put D b).1.d.waits.length <= e.d.waits.length + 2 := by
 unfold Em.E.put;split
 ·simp
 ·exact Ec _ _ _
theorem z0a (e : Em.E) (D : Em.Rows) : (e.fold D).1.d.waits.length <= e.d.waits.length + 3 := by
 by_cases h : 2147483647 <= e.gen
 ·rw [Em.ww h]; simp
 ·rw [Em.wu h]
  have := A_ e.d (1 - e.tp) (Em.folded (e.gen + 1) D);split <;> exact this
theorem z1j (e : Em.E) (l : List Em.ay) : (e.bE l).1.d.waits.length <= e.d.waits.length + 5 := by
 unfold Em.E.bE;split
 ·simp
 ·split
  ·simp
  ·show (e.step (Em.behind e.rows l) (Em.aY l)).1.d.waits.length <= _
   unfold Em.E.step;have h1 := Bo e (Em.behind e.rows l) (Em.aY l);have h2 := z0a (e.put (Em.behind e.rows l) (Em.aY l)).1 (Em.behind e.rows l);split <;> omega
theorem pJ {e : Em.E} (x : bO w pl pd md e F) (hb : Below w w w') : bO w' pl pd md e (plus F w w') := by
 obtain ⟨m, row, rows, hne⟩ := x.row;refine ⟨x.good, x.disk.plus hb, ⟨m, (hb.block pl (aa row)).trans row, dZ rows hb rows.lt, hne⟩, x.ne.1, x.ne.2.1, ?_⟩;intro h;rcases h with h | h
 ·exact x.ne.2.2 h
 ·have := aa row
  omega
theorem BJ {e : Em.E} (x : bO w pl pd md e F) (c : Int) (hb : Below w w w') : lK w pl pd md F (e, c) (.returned (.int .i64 c)) w' :=
 ⟨rfl, Moves.of_below hb, pJ x hb⟩
theorem x2e {e e' : Em.E} (x : bO w pl pd md e F) (hm : Moves (eH pl pd md) w W) (hm' : Moves (eH pl pd md) W w') (y : bO w' pl pd md e' (plus (plus F w W) W w')) : bO w' pl pd md e' (plus F w w') := by
 obtain ⟨l1, l2, l3, l4, l5⟩ := x.disk.lt;obtain ⟨m, row, rows, hne⟩ := x.row;have ll := aa row;have s1 := hm.size;have s2 := hm'.size;refine ⟨y.good, y.disk.weak (λ k hk hl => ?_) ?_ ?_, y.row, y.ne.1, y.ne.2.1, ?_⟩
 ·exact Pm
 all_goals
  intro h;rcases h with h | h
  ·first | exact l4 h | exact l5 h | exact x.ne.2.2 h
  ·omega
theorem Gu {e : Em.E} {r : Em.E × Int} {en : Ending} (x : bO w pl pd md e F) (hm : Moves (eH pl pd md) w W) (h : lK W pl pd md (plus F w W) r en w') : lK w pl pd md F r en w' :=
 ⟨h.1, hm.trans h.2.1 (λ _ _ h => h), x2e x hm h.2.1 h.2.2⟩
theorem z8i {e : Em.E} {b : List UInt8} {D : Em.Rows}
 (BC : Calls prog 79 #[v] w (gT w b)) (x : bO w pl pd md e F) (x4o : e.gone = false) (hw : e.d.waits.length <= 900000000) (hb : b.length <= 8205) (hm : RowsIn w m n D) (n1 : m ≠ pd) (n2 : m ≠ md) (n3 : m ≠ pl) (hg : (e.put D b).1.good) :
 Calls prog 38 #[pl, .map (some m), v] w (lK w pl pd md F (e.put D b)) := by
 by_cases h : 32 <= e.aL \/ b.length = 0 \/ e.d.room / 2 < e.fin + b.length
 ·rw [Em.Bq h]
  obtain ⟨mr, row, rows, hne⟩ := x.row;have R0 := x.disk.ok.pz;have R1 := x.disk.ok.fE;have hB := x.good.aL;have hF := x.good.fin;rw [x4o] at row;obtain ⟨room, hroom⟩ : ∃ n : Nat, e.d.room = (n : Int) := ⟨e.d.room.toNat, GR⟩;refine (x3q (room := room) BC row x.disk hroom GR GR GR GR (by rw [hroom] at h; omega)).mono ?_;rintro en w' ⟨rfl, hb⟩;exact BJ x 280 hb
 ·exact x3r BC x hw hb hm n1 n2 n3 hg h
theorem x5n {e : Em.E} {D : Em.Rows}
 (x : bO w pl pd md e F) (hw : e.d.waits.length <= 900000000) (hm : RowsIn w m n D) (hD : Em.bI D) (hs : Maps.size D <= 256) (n1 : m ≠ pd) (n2 : m ≠ md) (n3 : m ≠ pl) :
 Calls prog 39 #[pl, .map (some m)] w (lK w pl pd md F (e.fold D)) := by
 by_cases h : 2147483647 <= e.gen
 ·rw [Em.ww h]
  obtain ⟨mr, row, rows, hne⟩ := x.row;refine (x5o row h).mono ?_;rintro en w' ⟨rfl, rfl⟩;exact BJ x 280 GY
 ·exact x5p x hw hm hD hs n1 n2 n3 h
theorem x2d {p : Option Addr} (h : w.cell? (pl, 5) = some (.pointer p)) : Calls prog 36 #[pl] w λ e w' => e = .returned (.bool (p == none)) /\ w = w' := by
 cases p
 ·go_in
  go_wp2;exact OJ
 ·go_in
  go_wp2;exact OJ
theorem bO.none {e : Em.E} (x : bO w pl pd md e F) : Calls prog 36 #[pl] w λ e w' => e = .returned (.bool false) /\ w = w' := by
 obtain ⟨m, row, _⟩ := x.row;exact x2d (ae row rfl)
theorem y6c {tp gen aL fin : Nat} {rows : Value} {gone : Bool} (h : w.heap[pl]? = some (.cells (jF tp gen rows aL fin pd gone) eO (0, 0))) (g : Bool) :
 (w.setCell (pl, 6) (.bool g)).heap[pl]? = some (.cells (jF tp gen rows aL fin pd g) eO (0, 0)) := IQ w pl 6 _ eO (.bool g) h
theorem y6b {e : Em.E} (x : bO w pl pd md e F) (g : Bool) : bO (w.setCell (pl, 6) (.bool g)) pl pd md { e with gone := g } F /\ Moves (λ k => k = pl) w (w.setCell (pl, 6) (.bool g)) := by
 have mv : Moves (λ k => k = pl) w (w.setCell (pl, 6) (.bool g)) := ⟨rfl, rfl, rfl, GV, λ k hk hne => IU _ _ _ _ hne⟩;obtain ⟨m, row, rows, hne⟩ := x.row;have hg := x.good;exact ⟨⟨⟨hg.tp, hg.gen, hg.aL, hg.fin, hg.rows, hg.few⟩, x.disk.off mv x.ne.1 x.ne.2.1 x.ne.2.2, ⟨m, y6c row g, jP rows mv hne.2.2, hne⟩, x.ne⟩, mv⟩
theorem z8r {e : Em.E} {r : Em.E × Int} (h : lK w pl pd md F (e, c) (.returned (.int .i64 c)) W) (g : Bool) (hr : r = ({ e with gone := g }, c)) :
 lK w pl pd md F r (.returned (.int .i64 c)) (W.setCell (pl, 6) (.bool g)) := by
 subst hr;obtain ⟨_, h2, h3⟩ := h;obtain ⟨y, mv⟩ := y6b h3 g;have s := mv.size;refine ⟨rfl, h2.trans mv (λ i _ hi => Iy hi), ⟨y.good, y.disk.weak (λ k hk hl => ?_) ?_ ?_, y.row, y.ne.1, y.ne.2.1, ?_⟩⟩
 ·exact Rn
 all_goals
  intro hk;have l := h3.disk.lt;have l2 := h3.ne.2.2;obtain ⟨m, row, _⟩ := h3.row;have lp := aa row;have s2 : (W.setCell (pl, 6) (.bool g)).heap.size = W.heap.size := GV;rcases hk with hk | hk
  ·first | exact l.2.2.2.1 (Iy hk) | exact l.2.2.2.2 (Iy hk) | exact l2 (Iy hk)
  ·first | exact l.2.2.2.1 (Iz ⟨hk.1, GR⟩) | exact l.2.2.2.2 (Iz ⟨hk.1, GR⟩) | exact l2 (Iz ⟨hk.1, GR⟩)
abbrev xQ : Nat := 210
abbrev iU : Nat := 4
abbrev fQ : List PanicEntry := [{ v := .iface xQ (.agg #[]), recovered := false }]
theorem kH (w : World) : Calls prog 109 #[true] w λ e w' => e = .returned (.tuple #[]) /\ w = w' := by
 go_in;go_wp2;exact Rc
theorem iL (w : World) : Calls prog 109 #[false] w λ e w' => e = .panicked fQ /\ w = w' := by
 go_in;go_wp2;exact Qs
theorem y7n (w : World) : (Instr.typeAssert (.iface xQ (.agg #[])) 20 xQ false).run prog w = .ok (.agg #[]) w := GQ
theorem x8d (p : Addr) (x : Value) (older : List PanicEntry) (w : World) (hc : w.cell? p = some x) (hz : w.frozen? p = false) :
 CallsD prog 146 #[.pointer (some p)] (.panicking ({ v := .iface xQ (.agg #[]), recovered := false } :: older)) w λ e u' w' =>
  e = .returned (.tuple #[]) /\ u' = .panicking ({ v := .iface xQ (.agg #[]), recovered := true } :: older) /\ w' = w.setCell p (.bool false) := by
 refine Lg func146 rfl λ c₀ cs hu => ?_;apply wpS_seq
 apply Ke
 simp [wpOpsS, go_sem, recoverD, hu, ntmps146, Exit.thenS];apply wpS_seq
 apply Ke
 simp [wpOpsS, go_sem, Exit.thenS];refine wpS_cond (t := true) (by simp [Act.eval, Array.replicate]) ?_;simp only [I1];apply wpS_seq
 apply Ke
 have hrl := y7n w;simp [wpOpsS, go_sem, Exit.thenS, hrl];apply Ke
 simp [wpOpsS, go_sem, hc, hz, bodyPostS, results, Tryz.results146]
theorem x8c (p : Addr) (w : World) :
 CallsD prog 146 #[.pointer (some p)] .returning w λ e u' w' => e = .returned (.tuple #[]) /\ u' = .returning /\ w' = w := by
 refine Lg func146 rfl λ c₀ cs hu => ?_;apply wpS_seq
 apply Ke
 simp [wpOpsS, go_sem, recoverD, hu, ntmps146, Exit.thenS];apply wpS_seq
 apply Ke
 simp [wpOpsS, go_sem, Exit.thenS];refine wpS_cond (t := false) (by simp [Act.eval, Array.replicate]) ?_;simp only [KJ, JM];refine wpS_of_wp (wp_skip ?_);cases c₀;simp_all [bodyPostS, results, Tryz.results146]
theorem Ey {fn : Nat} {fs cs : Array Value} {R : World -> Prop} (eg : ∀ args w, (callFunc fn args).run prog w = .ok (.enter fn args) w)
 (HC : Calls prog fn (fs ++ cs) (w.alloc (.cells #[false] iU)) λ e w' => e = .panicked fQ /\ R w')
 (hR : ∀ w', R w' -> w'.heap[w.heap.size]? = some (.cells #[false] iU)) :
 Calls prog 110 #[.func (.func fn) fs cs] w λ e w' => e = .returned (.bool false) /\ ∃ W, R W /\ w' = W.setCell ⟨w.heap.size, 0, none⟩ (.bool false) := by
 have gN : ∀ (fn : Fn) (first cap : Array Value) (w : World), (Instr.makeFunc fn first cap).run prog w = .ok (.func fn first cap) w := λ _ _ _ _ => rfl;go_enter_defers func110, ntmps110
 go_wp2_with (refine HC.mono ?_; rintro e w2 ⟨rfl, r2⟩)
 refine leaves_cons (f := 146) (args := #[.pointer (some ⟨w.heap.size, 0, none⟩)]) GV NV ?_;refine (x8d ⟨w.heap.size, 0, none⟩ (.bool false) [] _ ?_ ?_).mono ?_
 ·exact ae (hR _ r2) rfl
 ·exact aZ (hR _ r2) _
 rintro e u' w'' ⟨rfl, rfl, rfl⟩;have h1 : (w2.setCell ⟨w.heap.size, 0, none⟩ (.bool false)).cell? ⟨w.heap.size, 0, none⟩ = some (.bool false) := ae (IQ _ _ 0 _ iU (.bool false) (hR _ r2)) rfl;exact Rj
theorem z3o {fn : Nat} {fs cs : Array Value} {R : World -> Prop} (eg : ∀ args w, (callFunc fn args).run prog w = .ok (.enter fn args) w)
 (HC : Calls prog fn (fs ++ cs) (w.alloc (.cells #[false] iU)) λ e w' => e = .returned (.tuple #[]) /\ R w')
 (hR : ∀ w', R w' -> w'.heap[w.heap.size]? = some (.cells #[false] iU)) :
 Calls prog 110 #[.func (.func fn) fs cs] w λ e w' => e = .returned (.bool true) /\ ∃ W, R W /\ w' = W.setCell ⟨w.heap.size, 0, none⟩ (.bool true) := by
 have gN : ∀ (fn : Fn) (first cap : Array Value) (w : World), (Instr.makeFunc fn first cap).run prog w = .ok (.func fn first cap) w := λ _ _ _ _ => rfl;go_enter_defers func110, ntmps110
 go_wp2_with (refine HC.mono ?_; rintro e w2 ⟨rfl, r2⟩
              have c2 : w2.cell? ⟨w.heap.size, 0, none⟩ = some (.bool false) := ae (hR _ r2) rfl;have z2 := aZ (hR _ r2) 0)
 refine leaves_cons (f := 146) (args := #[.pointer (some ⟨w.heap.size, 0, none⟩)]) GV NV ?_;refine (x8c ⟨w.heap.size, 0, none⟩ _).mono ?_;rintro e u' w'' ⟨rfl, rfl, rfl⟩;have h1 : (w2.setCell ⟨w.heap.size, 0, none⟩ (.bool true)).cell? ⟨w.heap.size, 0, none⟩ = some (.bool true) := ae (IQ _ _ 0 _ iU (.bool true) (hR _ r2)) rfl;exact Rj
theorem z4m (w : World) (v : Value) (F : Nat -> Prop) (h : BytesAt w.heap F v []) :
 Calls prog 108 #[v] w λ e w' => e = .returned (.tuple #[.slice none 0 0, .int .i64 0, .int .i64 0]) /\ w = w' := by
 have FC := hd1 (y0q w v F h);go_in;go_wp2_with (go_at_call 144; refine FC.mono ?_; rintro e w1 ⟨rfl, rfl⟩)
 go_ret3
 exact ⟨rfl, rfl⟩
theorem x2z {g1 g2 : Nat} (h : BytesAt w.heap F v []) (c1 : w.cell? g1 = some v) (c2 : w.cell? g2 = some (.int .i64 0)) :
 Calls prog 107 #[g1, g2] w λ e w' => e = .panicked fQ /\ w = w' := by
 have SC := hd1 (z4m w v F h);rcases h with ⟨rfl, _⟩ | ⟨b, o, cap, cs, t, fr, rfl, h1, h2, h3⟩
 ·exact PU
 ·simp only [Jy] at SC c1
  exact PU
theorem x9k {g1 g2 : Nat} {q : Value} (h : BytesAt w.heap F v []) (c1 : w.cell? g1 = some v) (c2 : w.cell? g2 = some (.int .i64 0)) :
 Calls prog 112 #[q, .func (.func 107) #[] #[.pointer (some g1), .pointer (some g2)]] w λ e w' => e = .panicked fQ /\ w = w' := by
 have NC := hd1 (x2z h c1 c2);have eg := enters_of func107 GQ rfl;go_in;go_wp2_with (refine NC.mono ?_; rintro e w1 ⟨rfl, rfl⟩)
 exact Qs
theorem x9h {g1 g2 g3 : Nat} {q : Value} (h : BytesAt w.heap F v []) (c1 : w.cell? g1 = some v) (c2 : w.cell? g2 = some (.int .i64 0))
 (c3 : w.cell? g3 = some (.func (.func 107) #[] #[.pointer (some g1), .pointer (some g2)])) :
 Calls prog 111 #[q, g3] w λ e w' => e = .panicked fQ /\ w = w' := by
 have BC := hd1 (x9k (q := q) h c1 c2);go_in;go_wp2_with (go_at_call 112; refine BC.mono ?_; rintro e w1 ⟨rfl, rfl⟩)
 exact Qs
abbrev vk : Nat := 3
abbrev Al : Nat := 176
abbrev y5h (at' : Int) : Value := .agg #[.int .i64 at', .int .i64 0, .map none, .int .i64 0, .int .i64 0]
theorem y9k {at' : Int} (h : BytesAt w.heap F v []) :
 Calls prog 69 #[.int .i64 at', v] w λ e w' => e = .returned (y5h at') /\ Below w w w' := by
 obtain ⟨va, vc, rfl⟩ := h.slice;have gN : ∀ (fn : Fn) (first cap : Array Value) (w : World), (Instr.makeFunc fn first cap).run prog w = .ok (.func fn first cap) w := λ _ _ _ _ => rfl;have H := hd1 h;clear h;go_in;go_upto_region 4 with fail
 obtain ⟨W, hW⟩ : ∃ W, ((((w.alloc (.cells #[.slice va 0 vc] df)).alloc (.cells #[.int .i64 0, .int .i64 0, .map none, .int .i64 0, .int .i64 0] dK)).alloc (.cells #[.int .i64 at', .int .i64 0, .map none, .int .i64 0, .int .i64 0] dK)).alloc (.cells #[.int .i64 0] vk)).alloc
  (.cells #[.func (.func 107) #[] #[.pointer (some ⟨w.heap.size, 0, none⟩), .pointer (some ⟨w.heap.size + 1 + 1 + 1, 0, none⟩)]] Al) = W := ⟨_, rfl⟩
 rw [hW];have B : Below w w W := by rw [<-hW]; exact ((((bla).alloc GV _).alloc N_ _).alloc N_ _).alloc N_ _
 have s : W.heap.size = w.heap.size + 5 := by rw [<-hW]; simp
 have r0 : W.heap[w.heap.size]? = some (.cells #[.slice va 0 vc] df) := by rw [<-hW]; exact aM N_ (aM N_ (aM N_ (aM GV (IC w _))))
 have r1 : W.heap[w.heap.size + 1]? = some (.cells #[.int .i64 0, .int .i64 0, .map none, .int .i64 0, .int .i64 0] dK) := by rw [<-hW]; exact aM NM (aM NM (aM NM (bD (w := w.alloc _) _ GV)))
 have r3 : W.heap[w.heap.size + 1 + 1 + 1]? = some (.cells #[.int .i64 0] vk) := by rw [<-hW]; exact aM GV (bD (w := (((w.alloc _).alloc _).alloc _)) _ GV)
 have r4 : W.heap[w.heap.size + 1 + 1 + 1 + 1]? = some (.cells #[.func (.func 107) #[] #[.pointer (some w.heap.size), .pointer (some (w.heap.size + 1 + 1 + 1, 0))]] Al (0, 0)) := by rw [<-hW]; exact bD (w := ((((w.alloc _).alloc _).alloc _).alloc _)) _ GV
 have y : BytesAt W.heap F (.slice va 0 vc) [] := H.keeps (λ k _ hl => B.block k hl) (λ k hk _ => hk);have eg := enters_of func111 GQ rfl;have B2 : Below W W (W.alloc (.cells #[false] iU)) := bla
 have BC := x9h (w := W.alloc (.cells #[false] iU)) (q := .pointer (some ⟨w.heap.size + 1 + 1, 0, none⟩)) (g1 := w.heap.size) (g2 := w.heap.size + 1 + 1 + 1) (g3 := w.heap.size + 1 + 1 + 1 + 1) (y.keeps (λ k _ hl => B2.block k hl) (λ k hk _ => hk))
  (aN B2 (ae r0 rfl)) (aN B2 (ae r3 rfl)) (aN B2 (ae r4 rfl))
 have TC := hd1 (Ey (w := W) (fs := #[]) (cs := #[.pointer (some ⟨w.heap.size + 1 + 1, 0, none⟩), .pointer (some ⟨w.heap.size + 1 + 1 + 1 + 1, 0, none⟩)]) (R := λ w' => W.alloc (.cells #[false] iU) = w') eg (by rw [JH]; exact BC) (λ w' e => by rw [<-e]; exact IC W _));have H1 := hd3 B s r1;clear hW B s r0 r1 r3 r4 y B2 BC eg
 go_wp2_with (first
  | (go_at_call 110; refine TC.mono ?_; rintro e w1 ⟨rfl, W2, e2, e3⟩
     have b1 : Below W W w1 := by
      rw [e3, <-e2];exact ⟨rfl, rfl, rfl, GV, λ k hk => (IU _ _ k _ N_).trans (JL _ _ _ hk)⟩
     have q1 := (b1.block _ (Hf H1.2.1)).trans H1.2.2;have H2 := hd1 b1;clear b1 e2 e3)
  | (refine nU rfl dK (.tmp 4) (.tmp 16) rfl (w.heap.size + 1) 0 #[.int .i64 at', .int .i64 0, .map none, .int .i64 0, .int .i64 0] rfl rfl dK _ q1 pK GV Np ?_
     intro W3 HW3 bU fZ))
 have k3 : W3.heap[w.heap.size + 1]? = some (.cells #[.int .i64 at', .int .i64 0, .map none, .int .i64 0, .int .i64 0] dK) := HW3.out;refine Hd k3 Iq pK ?_;exact ⟨rfl, Moves.new (H1.1.trans (H2.mono H1.1.size)) bU GR⟩
section
open Go.Shelf
attribute [local go_sem] Oper.semAt_some
structure Em.T where
 gen : Nat
 rows : Em.Rows
 aL : Nat
 fin : Nat
def Em.T.none : Em.T := ⟨0, .map [], 0, 0⟩
def wR (B : Nat) (k : Nat) (t : Em.T) (v : Value) (w : World) : Prop :=
 ∃ mv, v = .agg #[.int .i64 k, .int .i64 t.gen, mv, .int .i64 t.aL, .int .i64 t.fin] /\ ((mv = .map Option.none /\ t = Em.T.none) \/ ∃ m, mv = .map (some m) /\ RowsIn w m (Maps.size t.rows) t.rows /\ B <= m)
def zI (b : List UInt8) (k : Nat) (t : Em.T) : Prop :=
 ∀ (W : World) (v : Value) (G : Nat -> Prop), BytesAt W.heap G v b -> Calls prog 69 #[.int .i64 k, v] W λ e w' => (∃ v', e = .returned v' /\ wR W.heap.size k t v' w') /\ Below W.heap.size W w'
theorem reads_nil (k : Nat) : zI [] k Em.T.none := λ W v G h => (y9k h).mono λ _ _ hh => ⟨⟨_, hh.1, _, rfl, Iy ⟨rfl, rfl⟩⟩, hh.2⟩
theorem wR.later {B B' k : Nat} {t : Em.T} (h : wR B k t v w) (hb : Below w w w') (hB : B' <= B) : wR B' k t v w' := by
 obtain ⟨mv, rfl, h⟩ := h;refine ⟨mv, rfl, ?_⟩;rcases h with h | ⟨m, rfl, h1, h2⟩
 ·exact Iy h
 ·exact Iz ⟨m, rfl, dZ h1 hb h1.lt, GR⟩
theorem y5n (pd : Nat) (w : World) : Calls prog 33 #[pd] w λ e w' =>
 e = .returned (.func (.func 68) #[] #[.pointer (some w.heap.size)]) /\ w.alloc (.cells #[pd] 23) = w' := by
 have gN : ∀ (fn : Fn) (first cap : Array Value) (w : World), (Instr.makeFunc fn first cap).run prog w = .ok (.func fn first cap) w := λ _ _ _ _ => rfl;go_in;go_wp2;exact OJ
def y2t (pd md g n : Nat) (F : Nat -> Prop) : Nat -> Prop := λ i => i = pd \/ i = md \/ i = g \/ (F i /\ i < n)
theorem x6o {d : D} (x : aQ A.heap pd md d (λ i => F i /\ i < n)) (hk : dm (y2t pd md g n F) A B) : aQ B.heap pd md d (λ i => F i /\ i < n) := by
 obtain ⟨l1, l2, _, _, _⟩ := x.lt;exact x.keeps (hk.block pd (Iy rfl) l1) (hk.block md (Iz (Iy rfl)) l2) (λ k h hl => hk.block k (Iz (Iz (Iz h))) hl) (λ _ h _ => h) (λ _ h => Iy h)
theorem y5m {d : D} {ts : Nat -> Em.T} (x : aQ w.heap pd md d F) (hg : w.cell? g = some (.pointer (some pd))) (hts : ∀ k : Nat, k < 2 -> zI (d.stand.tp k) k (ts k)) :
 y2l prog 68 #[.pointer (some g)] (λ k x O W => (∃ v, x = #[v] /\ wR w.heap.size k (ts k) v W) /\ ∀ i, ¬ O i) 2 (y2t pd md g w.heap.size F) w := by
 intro l J Jx W hW hJ hJx hY h0;have lg : g < w.heap.size := IX hg;have x0 : aQ W.heap pd md d (λ i => F i /\ i < w.heap.size) := by
  have lt := x.lt;exact x.keeps (hW.block pd lt.1) (hW.block md lt.2.1) (λ k _ hl => hW.block k hl) (λ k hk hl => ⟨hk, hl⟩) (λ k hk => Iy hk.1)
 have f0 := (hW.cell (p := ⟨g, 0, none⟩) lg).trans hg;have sW := hW.size;clear x hg;refine callsIn_of_wp func68 rfl trivial ?_ rfl;simp only [ntmps68, KE, I6, Jy, Nat.reduceAdd, Nat.reduceSub, J_, Ka, Kb, Kc, Ji, JK];gi_wp2;refine En (Eo ?_);gi_wp2;gi_loopw [6] (λ p wr => ∃ k : Nat, p = .int .i64 (k : Int) /\ k <= 2 /\ J k (λ _ => False) wr /\ aQ wr.heap pd md d (λ i => F i /\ i < w.heap.size) /\ wr.cell? g = some (.pointer (some ⟨pd, 0, none⟩)) /\ w.heap.size <= wr.heap.size) (λ p _ => 3 - (intOf p).toNat)
 case atStart => exact ⟨0, rfl, GR, h0, x0, f0, sW⟩
 case round =>
  obtain ⟨k, rfl, hk, pU, xk, fk, sk⟩ := hrel;by_cases hlt : k < 2
  ·have TC := hd1 (EE xk k)
   rw [Iw GR, Iw GR] at TC;have RC := hd1 (λ W v G h => (Jg (n := 0)).2 (hts k hlt W v G h));have HH := hd4 pU xk fk sk;have TC' := hd1 ((Jg (n := 0)).2 TC.out);have hYk := hd1 (λ (v : Value) (W1 : World) (hv : wR w.heap.size k (ts k) v W1) (hj : J k (λ _ => False) W1) => hY k #[v] (λ _ => False) W1 hlt ⟨⟨v, rfl, hv⟩, λ _ h => h⟩ hj);have k0 : (k : Int) < 2 := GR;clear pU xk sk TC hY h0 x0 f0;generalize hl : d.stand.tp k = bs at *
   gi_wp2_with (first
    | (refine ⟨trivial, rfl, ?_⟩; gi_at_call 61; refine TC'.mono ?_; rintro e w1 ⟨v1, rfl, b1, y1⟩
       have H1 := hd2 b1 y1.bytes;clear b1 y1)
    | (refine ⟨trivial, rfl, ?_⟩; gi_at_call 69; refine (RC.out w1 v1 _ H1.2).mono ?_; rintro e w2 ⟨⟨v2, rfl, t2⟩, b2⟩
       have B2 : Below wr wr w2 := H1.1.trans (b2.mono H1.1.size);have hj := hJ k _ (λ _ => False) wr w2 HH.1 (Moves.of_below B2) (λ _ h => h) (λ _ h => Iy h);obtain ⟨fn, tmps, assign, body, hy, hR⟩ := hYk.out v2 w2 (t2.later GY (Hg H1.1.size HH.2.2.2)) hj;have H2 := hd2 B2 hR;clear t2 b2 B2 hj hR))
   refine ⟨rfl, H2.2.mono ?_⟩;have zV : aQ w2.heap pd md d (λ i => F i /\ i < w.heap.size) := HH.2.1.below H2.1;have Cy := aN H2.1 HH.2.2.1;have Av : w.heap.size <= w2.heap.size := IP HH.2.2.2 H2.1.size;have H3 := hd3 zV Cy Av;clear zV Cy Av;rintro e W' (⟨rfl, hJ', hk'⟩ | ⟨rfl, qY, hk'⟩)
   ·have hw1 : IntKind.i64.wrap ((k : Int) + 1) = ((k + 1 : Nat) : Int) := Ja _ GR
    gi_wp2;obtain ⟨zV, Cy, Av⟩ := H3.out;refine ⟨⟨k + 1, GV, GR, hJ', x6o (g := g) zV (hk'.mono λ i hi => Iz hi), ?_, IP Av hk'.size⟩, ?_⟩
    ·exact (IW (hk'.block g (Iz (Iz (Iz (Iy rfl)))) GR)).trans Cy
    ·simp [intOf]; omega
   ·gi_wp2
    simp +zetaDelta only [KG]; refine KH (KI rfl _ _ _) rfl ?_;exact ⟨⟨_, rfl⟩, _, .inr ⟨k + 1, GR, qY⟩⟩
  ·obtain rfl : k = 2 := GR
   gi_wp2;simp +zetaDelta only [KG]; refine KH (KI rfl _ _ _) rfl ?_;exact ⟨⟨_, rfl⟩, _, .inl pU⟩
end
section
open Go.Shelf
attribute [local go_sem] Oper.semAt_some
abbrev mQ : Nat := 27
theorem y7u {d : D} (x : aQ w.heap p m d F) : Calls prog 32 #[p, .pointer none] w λ e w' => e = .returned (.bool false) /\ w = w' := by
 have NO := hd1 (gY p true w x.lu.1);have NN := hd1 (x1c (w := w) (v := .pointer none) (Iy rfl));clear x;go_in
 go_wp2_with (first
  | (go_at_call 45; (with_reducible refine (NO.out).mono ?_); rintro e w' ⟨rfl, rfl⟩)
  | (go_at_call 45; (with_reducible refine (NN.out).mono ?_); rintro e w' ⟨rfl, rfl⟩))
 exact OJ
def aP (ts : Nat -> Em.T) : Nat -> Nat × Em.T
 | 0 => (0, Em.T.none)
 | k + 1 => if (aP ts k).2.gen < (ts k).gen then (k, ts k) else aP ts k
abbrev Gv (pd : Nat) : Array Value := #[.int .i64 0, .int .i64 0, .map none, .int .i64 0, .int .i64 0, .pointer (some ⟨pd, 0, none⟩), .bool false]
def uA (w : World) (pd : Nat) (ts : Nat -> Em.T) (k : Nat) (O : Nat -> Prop) (W : World) : Prop :=
 Below w.heap.size w W /\ W.heap[w.heap.size]? = some (.cells #[.pointer (some ⟨w.heap.size + 1, 0, none⟩)] mQ (0, 0)) /\ (∀ i, O i -> w.heap.size + 5 <= i) /\ w.heap.size + 5 <= W.heap.size ∧
  ∃ mv, W.heap[w.heap.size + 1]? = some (.cells (jF (aP ts k).1 (aP ts k).2.gen mv (aP ts k).2.aL (aP ts k).2.fin pd false) eO (0, 0)) ∧
   ((mv = .map none /\ (aP ts k).2 = Em.T.none) \/ ∃ m, mv = .map (some m) /\ RowsIn W m (Maps.size (aP ts k).2.rows) (aP ts k).2.rows /\ w.heap.size + 3 <= m /\ ¬ O m)
theorem y8r {D : Em.Rows} (h : RowsIn A m n D) (hm : Moves O A B) (h1 : ¬ O m) : RowsIn B m n D := by
 exact QF
theorem Gc {ts : Nat -> Em.T} {k : Nat} {O' : Nat -> Prop} (h : uA w pd ts k O A) (hm : Moves O A B) (ho : ∀ i, O' i -> O i \/ A.heap.size <= i) : uA w pd ts k O' B := by
 obtain ⟨h1, h2, h6, h7, mv, h8, h9⟩ := h
 refine ⟨⟨hm.os.trans h1.os, hm.tape.trans h1.tape, hm.output.trans h1.output, IP h1.size hm.size, λ i hi => ?_⟩, (hm.block _ GR (λ e => Hf (h6 _ e))).trans h2, λ i hi => ?_, IP h7 hm.size, mv,
  (hm.block _ GR (λ e => Hf (h6 _ e))).trans h8, ?_⟩
 ·exact Ro
 ·exact Sa
 ·rcases h9 with h9 | ⟨m, e, h9, h10, h11⟩
  ·exact Iy h9
  ·refine Iz ⟨m, e, y8r h9 hm h11, h10, λ e => ?_⟩
   rcases ho m e with e | e
   ·exact h11 e
   ·have := h9.lt; omega
theorem z5h {d : Nat} {D : Em.Rows} {o o' : Obj} (h : RowsIn A m n D) (ho' : A.heap[d]? = some o') (hm : ∀ es clock, o' ≠ .map es clock) : RowsIn (A.putObj d o) m n D := by
 obtain ⟨es, clock, k1, kF, ks, kD⟩ := h;have hne : m ≠ d := λ e => by rw [e, ho'] at k1; cases k1; exact hm _ _ rfl
 exact ⟨es, clock, (Jd hne).trans k1, kF, ks, kD⟩
theorem x1l {ts : Nat -> Em.T} {k : Nat} (h : uA w pd ts k O A) (d : Nat) (hd : w.heap.size + 3 <= d) (o o' : Obj) (ho' : A.heap[d]? = some o') (hm : ∀ es clock, o' ≠ .map es clock) : uA w pd ts k O (A.putObj d o) := by
 obtain ⟨h1, h2, h6, h7, mv, h8, h9⟩ := h;refine ⟨⟨h1.os, h1.tape, h1.output, by simpa using h1.size, λ i hi => (Jd GR).trans (h1.block i hi)⟩, (Jd GR).trans h2, h6, by simpa using h7, mv, (Jd GR).trans h8, ?_⟩;rcases h9 with h9 | ⟨m, e, h9, h10, h11⟩
 ·exact Iy h9
 ·exact Iz ⟨m, e, z5h h9 ho' hm, h10, h11⟩
def xh (w : World) (pd md : Nat) (F : Nat -> Prop) (r : Em.E × Int) (e : Ending) (w' : World) : Prop :=
 Moves (PM pd md) w w' /\ (r.2 = 0 -> ∃ (pl : Nat) (F' : Nat -> Prop), e = .returned (.tuple #[.pointer (some ⟨pl, 0, none⟩), .int .i64 0]) /\ bO w' pl pd md r.1 F' /\ w.heap.size <= pl /\ (∀ k, F' k -> k < w'.heap.size) /\ ∀ k, F' k -> F k \/ w.heap.size <= k) ∧
  (r.2 ≠ 0 -> e = .returned (.tuple #[.pointer none, .int .i64 r.2]) /\ aQ w'.heap pd md r.1.d (plus F w w'))
theorem Bv {w3 W4 : World} {r : Em.E} {d : D} (x : aQ w.heap pd md d F) (hF : ∀ i, F i -> i < w.heap.size) (b : Below w w W) (s : w.heap.size + 5 <= W.heap.size) (hD : q = w.heap.size + 3) (m3 : Moves (eH (w.heap.size + 1) pd md) W w3)
 (x3 : bO w3 (w.heap.size + 1) pd md r (plus F W w3)) {oD : Option (List Deferred)} (dD : w3.heap[q]? = some (.deferred oD)) {c : Array Value} (q0 : w3.heap[w.heap.size]? = some (.cells c mQ)) (m4 : Moves (λ k => k = w.heap.size \/ k = q) w3 W4) :
 Moves (PM pd md) w W4 /\ bO W4 (w.heap.size + 1) pd md r (plus F W w3) := by
 have lx := x.lt;have s3 := m3.size;have s4 := m4.size;obtain ⟨m, row, rows, hne⟩ := x3.row;have lr := aa row;refine ⟨⟨m4.os.trans (m3.os.trans b.os), m4.tape.trans (m3.tape.trans b.tape), m4.output.trans (m3.output.trans b.output), Hf b.size, λ k hk hn => ?_⟩, ⟨x3.good, ?_, ⟨m, (m4.block _ lr GR).trans row, ?_, hne⟩, x3.ne⟩⟩
 ·exact (m4.block k (Hf b.size) GR).trans ((m3.block k (Hf b.size) (λ e => by rcases e with e | e | e; omega; exact hn (Iy e); exact hn (Iz e))).trans (b.block k hk))
 ·refine x3.disk.keeps (m4.block pd x3.disk.lt.1 GR) (m4.block md x3.disk.lt.2.1 GR) (λ k hk hl => m4.block k hl ?_) (λ _ h _ => h) (λ _ h => Iy h)
  rcases hk with hk | hk
  ·have := hF k hk; omega
  ·omega
 ·obtain ⟨es, clock, k1, kF, ks, kD⟩ := rows
  have n1 : m ≠ w.heap.size := λ e => by rw [e, q0] at k1; cases k1
  have n2 : m ≠ q := λ e => by rw [e, dD] at k1; cases k1
  exact ⟨es, clock, (m4.block m (Jf.1 k1).1 (λ e => by rcases e with e | e; exact n1 e; exact n2 e)).trans k1, kF, ks, kD⟩
theorem nY {fn : Func} {p u : Tmp} {ty : TypeId} (h : fn.results = #[.cell p ty, .tmp u]) (tmps : Array Value) (w : World) (a : Addr) (v : Value) (hp : tmps.getD p undef = .pointer (some a)) (hc : w.cell? a = some v)
 (hi : (isAgg ty).run prog w = .ok false w) : (results fn tmps).run prog w = .ok (.tuple #[v, tmps.getD u undef]) w := by
 rw [results_cell_tmp h, hp];simp [asAddr, loadVar, hi, hc]
theorem y6a {tp gen aL fin : Nat} {rows : Value} {gone : Bool} (h : w.heap[pl]? = some (.cells (jF tp gen rows aL fin pd gone) eO (0, 0))) (tp' z0g z1d fin' : Nat) (r' : Value) :
 (((((w.setCell pl (.int .i64 tp')).setCell (pl, 1) (.int .i64 z0g)).setCell (pl, 2) r').setCell (pl, 3) (.int .i64 z1d)).setCell (pl, 4) (.int .i64 fin')).heap[pl]? = some (.cells (jF tp' z0g r' z1d fin' pd gone) eO (0, 0)) := by
 have h0 := IQ w pl 0 _ eO (.int .i64 tp') h;have h1 := IQ _ pl 1 _ eO (.int .i64 z0g) h0;have h2 := IQ _ pl 2 _ eO r' h1;have h3 := IQ _ pl 3 _ eO (.int .i64 z1d) h2;exact IQ _ pl 4 _ eO (.int .i64 fin') h3
theorem eP (w : World) (pl j : Nat) (a : Value) : Moves (λ k => k = pl) w (w.setCell (pl, j) a) := ⟨rfl, rfl, rfl, GV, λ k hk hne => IU _ _ _ _ hne⟩
theorem y7z (w : World) (pl : Nat) (a b c d e : Value) : Moves (λ k => k = pl) w (((((w.setCell pl a).setCell (pl, 1) b).setCell (pl, 2) c).setCell (pl, 3) d).setCell (pl, 4) e) :=
 ((((eP w pl 0 a).trans (eP _ pl 1 b) (λ _ _ h => h)).trans (eP _ pl 2 c) (λ _ _ h => h)).trans (eP _ pl 3 d) (λ _ _ h => h)).trans (eP _ pl 4 e) (λ _ _ h => h)
end
abbrev qF : Nat := 253
abbrev iA : Nat := 212
abbrev u_ : Nat := 278
def aU (w : World) (q : Nat) (l : List UInt8) : Prop := ∃ v, w.heap[q]? = some (.cells #[v, .bool true, .bool false] qF (0, 0)) /\ BytesAt w.heap (λ k => k < q) v l
theorem aU.later (h : aU w q l) (hb : Below w w w') : aU w' q l := by
 obtain ⟨v, r, y⟩ := h;exact ⟨v, (hb.block q (aa r)).trans r, y.below hb⟩
theorem aU.lt (h : aU w q l) : q < w.heap.size := by
 obtain ⟨v, r, _⟩ := h;exact aa r
theorem aU.put {u : Value} {k : List UInt8} (r : w.heap[q]? = some (.cells #[v, true, false] qF)) (y : BytesAt w.heap (λ k => k < q) u k) : aU (w.setCell q u) q k :=
 ⟨u, IQ w q 0 _ qF u r, y.keeps (λ k hk _ => IU _ _ k _ (Nat.ne_of_lt hk)) (λ _ hk _ => hk)⟩
abbrev qD : List PanicEntry := [{ v := .iface u_ (.agg #[]), recovered := false }]
theorem rX (w : World) : Calls prog 177 #[true] w λ e w' => e = .returned (.tuple #[]) /\ w = w' := by
 go_in;go_wp2;exact Rc
theorem uY (w : World) : Calls prog 177 #[false] w λ e w' => e = .panicked qD /\ w = w' := by
 go_in;go_wp2;exact Qs
def y2u (w : World) (q : Nat) (l : List UInt8) (n : Nat) (e : Ending) (w' : World) : Prop :=
 ∃ v, e = .returned v /\ BytesAt w'.heap (λ k => k < q) v (l.take n) /\ aU w' q (l.drop n) /\ Moves (λ k => k = q) w w'
theorem Ez {u x : Value} (r : w.heap[q]? = some (.cells #[v, true, false] qF)) (y : BytesAt w.heap (λ k => k < q) u (l.drop n)) (z : BytesAt w.heap (λ k => k < q) x (l.take n)) :
 y2u w q l n (.returned x) (w.setCell q u) :=
 ⟨x, rfl, z.keeps (λ k hk _ => IU _ _ k _ (Nat.ne_of_lt hk)) (λ _ hk _ => hk), aU.put r y, eP w q 0 u⟩
theorem Ak (h : aU w q l) (hn : n <= l.length) (hl : l.length <= 1000000000) : Calls prog 203 #[q, .int .i64 n] w (y2u w q l n) := by
 obtain ⟨v, r, y⟩ := h;rcases y with ⟨rfl, rfl⟩ | ⟨b, o, cap, cs, t, fr, rfl, h1, h2, h3, h4, h5⟩
 ·obtain rfl : n = 0 := by simpa using hn
  have c0 : w.cell? q = some (.slice none 0 0) := ae r rfl;have z0 := aZ r 0;have R := hd1 r;clear r;go_in;go_wp2_with (go_at_call 177; refine (rX _).mono ?_; rintro e w' ⟨rfl, rfl⟩)
  go_ret;exact Ez R.out (Iy ⟨rfl, rfl⟩) (Iy ⟨rfl, rfl⟩)
 ·have y : BytesAt w.heap (λ k => k < q) (.slice (some (b, o)) l.length cap) l := Iz ⟨b, o, cap, cs, t, fr, rfl, h1, h2, h3, h4, h5⟩
  have front := y.front hn;have back := y.back hn;have c0 : w.cell? q = some (.slice (some (b, o)) l.length cap) := ae r rfl;have z0 := aZ r 0;have R := hd5 r front back h3 h4;have HL := hd1 (show l.length - n = 0 -> l.drop n = [] from λ h => Lb GR);clear r y front back h3 h4 h5;generalize l.length = L at *;have d1 : (n : Int) <= (L : Int) := GR;have d2 : (n : Int) <= (cap : Int) := GR;have d3 : ¬ (n : Int) < 0 := GR;have d4 : (0 : Int) <= (n : Int) := GR;by_cases hc : cap = n
  ·have d5 : (cap : Int) = (n : Int) := GR
   have e0 : L - n = 0 := GR;have HC := hd2 hc e0;clear hc e0;go_in;go_wp2_with (go_at_call 177; refine (rX _).mono ?_; rintro e w' ⟨rfl, rfl⟩)
   go_ret;refine Ez R.1 ?_ R.2.1;rw [HL.out HC.2];exact Iz ⟨b, o, cap - n, cs, t, fr, by rw [HC.2]; rfl, IV _, IP (Nat.sub_le _ _) h2, R.2.2.2.1, R.2.2.2.2, λ i x hi => by simp at hi⟩
  ·have d5 : ¬ (cap : Int) = (n : Int) := GR
   go_in;go_wp2_with (go_at_call 177; refine (rX _).mono ?_; rintro e w' ⟨rfl, rfl⟩)
   go_ret;exact Ez R.1 R.2.2.1 R.2.1
theorem y5g (h : aU w q l) (hn : l.length < n) (hl : n <= 9223372036854775807) : Calls prog 203 #[q, .int .i64 n] w λ e w' => e = .panicked qD /\ w = w' := by
 obtain ⟨v, r, y⟩ := h;obtain ⟨a, c, rfl⟩ := y.slice;have c0 : w.cell? q = some (.slice a l.length c) := ae r rfl;have d1 : ¬ (n : Int) <= (l.length : Int) := GR;clear r y;generalize l.length = L at *;go_in;go_wp2_with (go_at_call 177; refine (uY _).mono ?_; rintro e w' ⟨rfl, rfl⟩)
 exact Qs
end Go.Proofs.YtgffifleflkjoaaGreat
