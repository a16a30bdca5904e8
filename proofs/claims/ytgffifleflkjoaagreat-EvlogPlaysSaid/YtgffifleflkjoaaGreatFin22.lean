/-
  Parts of a proof.
-/
import Derived.Test.YtgffifleflkjoaaGreatFin19
import Derived.Test.YtgffifleflkjoaaGreatFin20
set_option linter.unusedSimpArgs false
set_option linter.unusedVariables false
set_option maxRecDepth 100000
set_option maxHeartbeats 16000000
namespace Go.Proofs.YtgffifleflkjoaaGreat
open _root_.Go.Proofs.Tryz
variable {w W w' w0 wr w1 W0 W1 W2 A B : World} {F G F' O : Nat → Prop} {v : Value} {l : List UInt8} {n q m pd md pl g p : Nat} {C : Array Value} {c : Int}
open Go.RowKit Dm
theorem Az (d : D) (s : Step) : (d.step s).1.waits.length <= d.waits.length + 1 := by
 unfold D.step;split
 ·simp
 ·simp [rP]
theorem z1f (d : D) (t : Int) (b : List UInt8) : (d.append t b).1.waits.length <= d.waits.length + 1 := by
 unfold D.append;split
 ·simp
 ·split
  ·simp
  ·exact Az _ _
theorem y0c (d : D) (t n : Int) : (d.cut t n).1.waits.length <= d.waits.length + 1 := by
 unfold D.cut;split
 ·simp
 ·exact Az _ _
theorem EH (d : D) : d.sync.1.waits.length <= d.waits.length + 1 := by
 unfold D.sync;split
 ·simp
 ·simp [rP]
theorem CY (d : D) (t : Nat) : (Em.bZ d t).1.waits.length <= d.waits.length + 1 := by
 unfold Em.bZ;split
 ·simp
 ·exact y0c _ _ _
theorem nM (hm : Moves (PM pd md) w W) {a : Addr} (h : w.cell? a = some v) (h1 : a.block ≠ pd) (h2 : a.block ≠ md) : W.cell? a = some v :=
 (I1 (hm.block a.block (IZ h) (λ e => by rcases e with e | e; exact h1 e; exact h2 e))).trans h
theorem x8c (h : BytesAt w.heap G v l) (hm : Moves (PM pd md) w W) (hG : ∀ k, G k -> k ≠ pd /\ k ≠ md) : BytesAt W.heap G v l :=
 h.keeps (λ k hk hl => hm.block k hl (λ e => by rcases e with e | e; exact (hG k hk).1 e; exact (hG k hk).2 e)) (λ _ h _ => h)
theorem z7w {b1 b2 b3 : Nat} {t : Nat} (c1 : w.cell? b1 = some (.pointer (some pl))) (c2 : w.cell? b2 = some (.int .i64 t)) (c3 : w.cell? b3 = some v)
 (c5 : w.cell? (pl, 5) = some (.pointer (some pd))) (hv : BytesAt w.heap G v l) (hG : ∀ k, G k -> k ≠ pd /\ k ≠ md) (hl : l.length <= 1000000000)
 (h1 : b1 ≠ pd /\ b1 ≠ md) (h2 : b2 ≠ pd /\ b2 ≠ md) (h3 : b3 ≠ pd /\ b3 ≠ md) (h5 : pl ≠ pd /\ pl ≠ md) :
 Does w pd md (.func (.func 121) #[] #[.pointer (some b1), .pointer (some b2), .pointer (some b3)]) (λ d => d.append t l) :=
 ⟨⟨_, _, _, rfl, enters_of func121 GV rfl, λ W d F hm x hw =>
  x1w x (nM hm c1 h1.1 h1.2) (nM hm c2 h2.1 h2.2) (nM hm c3 h3.1 h3.2) (nM hm c5 h5.1 h5.2) (x8c hv hm hG) hl hw⟩, λ d => z1f d t l⟩
theorem x6x {b1 b2 : Nat} {t : Nat} (c1 : w.cell? b1 = some (.pointer (some pl))) (c2 : w.cell? b2 = some (.int .i64 t))
 (c5 : w.cell? (pl, 5) = some (.pointer (some pd))) (ht : t <= 3) (h1 : b1 ≠ pd /\ b1 ≠ md) (h2 : b2 ≠ pd /\ b2 ≠ md) (h5 : pl ≠ pd /\ pl ≠ md) :
 Does w pd md (.func (.func 120) #[] #[.pointer (some b1), .pointer (some b2)]) (λ d => Em.bZ d t) :=
 ⟨⟨_, _, _, rfl, enters_of func120 GV rfl, λ W d F hm x hw =>
  x6w x (nM hm c1 h1.1 h1.2) (nM hm c2 h2.1 h2.2) (nM hm c5 h5.1 h5.2) ht hw⟩, λ d => CY d t⟩
theorem EI (w : World) (pd md : Nat) : Does w pd md (.func (.func 60) #[.pointer (some pd)] #[]) D.sync :=
 ⟨⟨_, _, _, rfl, enters_of func60 GV rfl, λ W d F hm x hw => y6x x⟩, EH⟩
theorem z1n (a b : D -> D × Int) (d : D) : chain [a, b] d = Em.next (a d) b := by
 show (if (a d).2 = 0 then (if (b (a d).1).2 = 0 then ((b (a d).1).1, 0) else b (a d).1) else a d) = (if (a d).2 = 0 then b (a d).1 else a d);by_cases q : (a d).2 = 0
 ·rw [IE q, IE q]
  by_cases r : (b (a d).1).2 = 0
  ·rw [IE r, <-r]
  ·rw [IA r]
 ·rw [IA q, IA q]
theorem x8l (a b c : D -> D × Int) (d : D) : chain [a, b, c] d = Em.next (Em.next (a d) b) c := by
 show (if (a d).2 = 0 then chain [b, c] (a d).1 else a d) = _;rw [z1n];unfold Em.next;by_cases q : (a d).2 = 0
 ·rw [IE q, IE q]
 ·rw [IA q, IA q, IA q]
theorem y3m {b1 b2 b3 cap : Nat} {d : D} {t : Nat} {tt : TypeId} (x : aQ w.heap pd md d F) (hw : d.waits.length <= 900000000)
 (c1 : w.cell? b1 = some (.pointer (some pl))) (c2 : w.cell? b2 = some (.int .i64 t)) (c3 : w.cell? b3 = some v)
 (c5 : w.cell? (pl, 5) = some (.pointer (some pd))) (hv : BytesAt w.heap G v l) (hG : ∀ k, G k -> k ≠ pd /\ k ≠ md) (hl : l.length <= 1000000000)
 (h1 : b1 ≠ pd /\ b1 ≠ md) (h2 : b2 ≠ pd /\ b2 ≠ md) (h3 : b3 ≠ pd /\ b3 ≠ md) (h5 : pl ≠ pd /\ pl ≠ md) (hg : g ≠ pd /\ g ≠ md)
 (hr : w.heap[g]? = some (.cells #[.func (.func 121) #[] #[.pointer (some b1), .pointer (some b2), .pointer (some b3)], .func (.func 60) #[.pointer (some pd)] #[]] tt (0, 0))) :
 Calls prog 71 #[.slice (some g) 2 cap] w (Left w pd md F (Em.wrote d t l)) := by
 have := z0c (w := w) (g := g) (cap := cap) (acts := [λ d => d.append t l, D.sync])
  (ui := [.func (.func 121) #[] #[.pointer (some ⟨b1, 0, none⟩), .pointer (some ⟨b2, 0, none⟩), .pointer (some ⟨b3, 0, none⟩)], .func (.func 60) #[.pointer (some ⟨pd, 0, none⟩)] #[]]) x hw hr hg
  (λ i f hf => by
   match i, hf with
   | 0, hf => cases hf; rfl
   | 1, hf => cases hf; rfl
   | i + 2, hf => simp at hf) rfl
  (λ i f a hf ha => by
   match i, hf, ha with
   | 0, hf, ha => cases hf; cases ha; exact z7w c1 c2 c3 c5 hv hG hl h1 h2 h3 h5
   | 1, hf, ha => cases hf; cases ha; exact EI w pd md
   | i + 2, hf, ha => simp at hf) GZ
 rw [z1n] at this;exact this
theorem z6s {a1 a2 b1 b2 b3 cap : Nat} {d : D} {t : Nat} {tt : TypeId} (x : aQ w.heap pd md d F) (hw : d.waits.length <= 900000000) (ht : t <= 3)
 (e1 : w.cell? a1 = some (.pointer (some pl))) (e2 : w.cell? a2 = some (.int .i64 t))
 (c1 : w.cell? b1 = some (.pointer (some pl))) (c2 : w.cell? b2 = some (.int .i64 t)) (c3 : w.cell? b3 = some v)
 (c5 : w.cell? (pl, 5) = some (.pointer (some pd))) (hv : BytesAt w.heap G v l) (hG : ∀ k, G k -> k ≠ pd /\ k ≠ md) (hl : l.length <= 1000000000)
 (k1 : a1 ≠ pd /\ a1 ≠ md) (k2 : a2 ≠ pd /\ a2 ≠ md) (h1 : b1 ≠ pd /\ b1 ≠ md) (h2 : b2 ≠ pd /\ b2 ≠ md) (h3 : b3 ≠ pd /\ b3 ≠ md) (h5 : pl ≠ pd /\ pl ≠ md) (hg : g ≠ pd /\ g ≠ md)
 (hr : w.heap[g]? = some (.cells #[.func (.func 120) #[] #[.pointer (some a1), .pointer (some a2)],
  .func (.func 121) #[] #[.pointer (some b1), .pointer (some b2), .pointer (some b3)], .func (.func 60) #[.pointer (some pd)] #[]] tt (0, 0))) :
 Calls prog 71 #[.slice (some g) 3 cap] w (Left w pd md F (Em.bK d t l)) := by
 have := z0c (w := w) (g := g) (cap := cap) (acts := [λ d => Em.bZ d t, λ d => d.append t l, D.sync])
  (ui := [.func (.func 120) #[] #[.pointer (some ⟨a1, 0, none⟩), .pointer (some ⟨a2, 0, none⟩)], .func (.func 121) #[] #[.pointer (some ⟨b1, 0, none⟩), .pointer (some ⟨b2, 0, none⟩), .pointer (some ⟨b3, 0, none⟩)], .func (.func 60) #[.pointer (some ⟨pd, 0, none⟩)] #[]]) x hw hr hg
  (λ i f hf => by
   match i, hf with
   | 0, hf => cases hf; rfl
   | 1, hf => cases hf; rfl
   | 2, hf => cases hf; rfl
   | i + 3, hf => simp at hf) rfl
  (λ i f a hf ha => by
   match i, hf, ha with
   | 0, hf, ha => cases hf; cases ha; exact x6x e1 e2 c5 ht k1 k2 h5
   | 1, hf, ha => cases hf; cases ha; exact z7w c1 c2 c3 c5 hv hG hl h1 h2 h3 h5
   | 2, hf, ha => cases hf; cases ha; exact EI w pd md
   | i + 3, hf, ha => simp at hf) GZ
 rw [x8l] at this;exact this
theorem y0l (pl t : Nat) (w : World) : Calls prog 72 #[pl, .int .i64 t] w λ e w' =>
 e = .returned (.func (.func 120) #[] #[.pointer (some w.heap.size), .pointer (some (w.heap.size + 1, 0))]) /\ (w.alloc (.cells #[pl] 27)).alloc (.cells #[.int .i64 t] 3) = w' := by
 have gM : ∀ (fn : Fn) (first cap : Array Value) (w : World), (Instr.makeFunc fn first cap).run prog w = .ok (.func fn first cap) w := λ _ _ _ _ => rfl;go_in;go_wp2;exact OI
theorem FU (pl t : Nat) (a : Option Addr) (n c : Nat) (w : World) : Calls prog 73 #[pl, .int .i64 t, .slice a n c] w λ e w' =>
 e = .returned (.func (.func 121) #[] #[.pointer (some w.heap.size), .pointer (some (w.heap.size + 1, 0)), .pointer (some (w.heap.size + 1 + 1, 0))]) ∧
  ((w.alloc (.cells #[pl] 27)).alloc (.cells #[.int .i64 t] 3)).alloc (.cells #[.slice a n c] 31) = w' := by
 have gM : ∀ (fn : Fn) (first cap : Array Value) (w : World), (Instr.makeFunc fn first cap).run prog w = .ok (.func fn first cap) w := λ _ _ _ _ => rfl;go_in;go_wp2;exact OI
abbrev eO : Nat := 70
abbrev qM : Nat := 100
abbrev dK : Nat := 68
abbrev jE (tp gen : Nat) (rows : Value) (aK fin : Nat) (pd : Nat) (gone : Bool) : Array Value := #[.int .i64 tp, .int .i64 gen, rows, .int .i64 aK, .int .i64 fin, .pointer (some ⟨pd, 0, none⟩), .bool gone]
structure bL (w : World) (pl pd md : Nat) (e : Em.E) (F : Nat -> Prop) : Prop where
 good : e.good
 disk : aQ w.heap pd md e.d F
 row : ∃ m, w.heap[pl]? = some (.cells (jE e.tp e.gen (.map (some m)) e.aK e.fin pd e.gone) eO (0, 0)) /\ RowsIn w m (Maps.size e.rows) e.rows /\ m ≠ pd /\ m ≠ md /\ m ≠ pl
 ne : pl ≠ pd /\ pl ≠ md /\ ¬ F pl
abbrev eT (pl pd md : Nat) : Nat -> Prop := λ k => k = pl \/ k = pd \/ k = md
def l_ (w : World) (pl pd md : Nat) (F : Nat -> Prop) (r : Em.E × Int) (e : Ending) (w' : World) : Prop :=
 e = .returned (.int .i64 r.2) /\ Moves (eT pl pd md) w w' /\ bL w' pl pd md r.1 (plus F w w')
theorem aQ.off {d : D} (x : aQ w.heap pd md d F) (hm : Moves (λ k => k = pl) w W) (h1 : pl ≠ pd) (h2 : pl ≠ md) (h3 : ¬ F pl) : aQ W.heap pd md d F := by
 obtain ⟨l1, l2, _, _, _⟩ := x.lt;exact x.keeps (hm.block pd l1 (λ e => h1 e.symm)) (hm.block md l2 (λ e => h2 e.symm)) (λ k hk hl => hm.block k hl (λ e => h3 (e ▸ hk))) (λ _ h _ => h) (λ _ h => IB h)
theorem aN {a : Addr} (hb : Below w w w') (h : w.cell? a = some v) : w'.cell? a = some v := (hb.cell (p := a) (IZ h)).trans h
theorem Am {d d' : D} (x : aQ w.heap pd md d F) (y : aQ w'.heap pd md d' (plus F W w')) (hs : w.heap.size <= W.heap.size) : aQ w'.heap pd md d' (plus F w w') := by
 obtain ⟨l1, l2, l3, l4, l5⟩ := x.lt;refine y.weak (λ k hk hl => ?_) ?_ ?_
 ·rcases hk with hk | hk
  ·exact IB hk
  ·exact IC ⟨GX, hl⟩
 ·exact QN
 ·exact QO
theorem z3v {d d' : D} (x : aQ w.heap pd md d F) (y : aQ w'.heap pd md d' (plus F w W)) (hs : W.heap.size <= w'.heap.size) : aQ w'.heap pd md d' (plus F w w') := by
 obtain ⟨l1, l2, l3, l4, l5⟩ := x.lt;refine y.weak (λ k hk hl => ?_) ?_ ?_
 ·exact Rs
 ·exact QN
 ·exact QO
theorem jQ {D : Em.Rows} (h : RowsIn w m n D) (hm : Moves (λ k => k = pl) w W) (h1 : m ≠ pl) : RowsIn W m n D := by
 exact QK
theorem sU {D : Em.Rows} (h : RowsIn w m n D) (hm : Moves (PM pd md) w W) (h1 : m ≠ pd) (h2 : m ≠ md) : RowsIn W m n D := by
 have lt := h.lt;obtain ⟨es, clock, k1, F, hs, hD⟩ := h;exact ⟨es, clock, (hm.block m lt (λ e => by rcases e with e | e; exact h1 e; exact h2 e)).trans k1, F, hs, hD⟩
theorem p_ : (prog.info? dK).map (·.size) = some 5 := GV
theorem z3i (a b c d : Int) (m : Nat) : (#[Value.int .i64 a, .int .i64 b, .map (some m), .int .i64 c, .int .i64 d] : Array Value).all (·.oneCell') = true := by simp [Value.oneCell']
theorem x9j {d : D} {t0 t1 t2 t3 t4 : Value} (x : aQ w.heap pd md d F) (hw : d.waits.length <= 900000000) (hr : w.heap[pl]? = some (.cells #[t0, t1, t2, t3, t4, pd, false] eO))
 (h1 : pl ≠ pd) (h2 : pl ≠ md) (h3 : ¬ F pl) : Calls prog 34 #[pl] w (l_ w pl pd md F (Em.begun d)) := by
 have FC := hd1 (y0v (w := w) (v := .map none) (D := .map []) (gen := 1) (IB ⟨rfl, rfl⟩) Em.oz GY GY);have X := hd6 x hr hw h1 h2 h3;clear x hr hw h1 h2 h3;have hmm := @Ky prog;have gM : ∀ (fn : Fn) (first cap : Array Value) (w : World), (Instr.makeFunc fn first cap).run prog w = .ok (.func fn first cap) w := λ _ _ _ _ => rfl;go_in
 go_wp2_with (first
  | (go_at_call 70; refine FC.mono ?_; rintro e w1 ⟨v1, rfl, o1, b1⟩
     obtain ⟨va, vc, rfl⟩ := o1.at.slice;have H1 := hd2 o1 b1;clear o1 b1)
  | (refine ou rfl dK (.tmp 11) (.tmp 9) rfl pl 0 #[.int .i64 0, .int .i64 1, .map (some w1.heap.size), .int .i64 0, .int .i64 (Em.folded 1 (.map [])).length] rfl rfl eO _ ((((H1.2).alloc H1.2.size _).block pl (aa X.2.1)).trans X.2.1) p_ GZ (z3i _ _ _ _ _) ?_
     intro W3 HW3 bQ fT))
 have hW3 : W3.heap[pl]? = some (.cells (jE 0 1 (.map (some w1.heap.size)) 0 (Em.folded 1 (.map [])).length pd false) eO (0, 0)) := HW3.out;have B2 : Below w w (w1.alloc (.map #[] 0)) := H1.2.alloc H1.2.size _;have gD := aa X.2.1;have x2 := X.1.below B2;have x3 := x2.off bQ X.2.2.2.1 X.2.2.2.2.1 X.2.2.2.2.2;have r3 : RowsIn W3 w1.heap.size 0 (.map []) := by
  obtain ⟨es, clock, k1, kr⟩ := Mj (H := Unit) w1 prog dB (plainElem prog dB);exact ⟨es, clock, (bQ.block w1.heap.size GZ (Hm H1.2.size)).trans k1, kr⟩
 have y3 : BytesAt W3.heap (λ k => w.heap.size <= k /\ k < w1.heap.size) (.slice va (Em.folded 1 (.map [])).length vc) (Em.folded 1 (.map [])) := by
  refine H1.1.at.keeps (λ k hk hl => (bQ.block k Oa (λ e => GX)).trans (JN _ _ _ hl)) (λ k hk hl => ⟨hk, hl⟩)
 have s3 : W3.heap.size = w1.heap.size + 1 := by rw [fT]; simp
 have b3 : Moves (λ k => k = pl) w W3 := Moves.trans (Moves.of_below B2) bQ (λ _ _ h => h);have z1 := H1.2.size;have H3 := hd6 hW3 x3 r3 y3 s3 b3;have f5 : ∀ x : Wd (Below W3 W3), x.world.cell? (pl, 5) = some (.pointer (some pd)) := λ x => (x.ok.cell (p := ⟨pl, 5, none⟩) (aa hW3)).trans (ae hW3 rfl);clear hW3 bQ fT B2 x2 x3 r3 y3 b3 HW3 s3;have ne : Nonempty (Wd (Below W3 W3)) := ⟨⟨_, Below.refl _ _⟩⟩;clear hmm;go_wp2;refine bD (λ w' => ∃ x : Wd (Below W3 W3), w' = x.world) [11, 12] GV ?_;refine aL [0, 2, 3, 5, 6, 7, 8, 9] 5 _ Hu GV ?_;refine Hd ?_;refine aA 1 4 _ _ rfl GV ?_;refine IJ rfl λ K hK => ?_;go_simp;go_at_call 72;refine (y0l pl 0 W3.drew).mono ?_;rintro e w4 ⟨rfl, e4⟩;have B4 : Below W3 W3 w4 := by rw [<-e4]; exact (G6.drew.alloc G7 _).alloc GZ _
 have z4 : w4.heap.size = W3.heap.size + 2 := by rw [<-e4]; simp
 have a1 : w4.cell? W3.heap.size = some (.pointer (some pl)) := by rw [<-e4]; exact ae (aM GZ (II W3.drew _)) rfl
 have a2 : w4.cell? (W3.heap.size + 1, 0) = some (.int .i64 0) := by rw [<-e4]; exact ae (bC (w := W3.drew.alloc _) _ GZ) rfl
 have H4 := hd4 B4 z4 a1 a2;clear e4 a1 a2;refine hK _ _ (IG ⟨rfl, λ _ => ⟨⟨_, B4⟩, rfl⟩, ?_⟩);clear hK K;clear B4 z4;refine aA 4 3 _ _ rfl GV ?_;refine IJ rfl λ K hK => ?_;go_simp;go_at_call 73;refine (FU pl 0 va _ vc w4).mono ?_;rintro e w5 ⟨rfl, e5⟩;have ve : Below w4 w4 w5 := by rw [<-e5]; exact ((bla).alloc GZ _).alloc Oa _
 have B5 : Below W3 W3 w5 := H4.1.trans (ve.mono H4.1.size);have z5 : w5.heap.size = w4.heap.size + 3 := by rw [<-e5]; simp
 have p1 : w5.cell? w4.heap.size = some (.pointer (some pl)) := by rw [<-e5]; exact ae (aM Oa (aM GZ (II w4 _))) rfl
 have p2 : w5.cell? (w4.heap.size + 1, 0) = some (.int .i64 0) := by rw [<-e5]; exact ae (aM GZ (bC (w := w4.alloc _) _ GZ)) rfl
 have p3 : w5.cell? (w4.heap.size + 1 + 1, 0) = some (.slice va (Em.folded 1 (.map [])).length vc) := by rw [<-e5]; exact ae (bC (w := (w4.alloc _).alloc _) _ GZ) rfl
 have H5 := hd6 ve B5 z5 p1 p2 p3;clear e5 p1 p2 p3 ve;refine hK _ _ (IG ⟨rfl, λ _ => ⟨⟨_, B5⟩, rfl⟩, ?_⟩);clear hK K;clear B5 z5;refine aA 10 2 _ _ rfl GV ?_;refine IJ rfl λ K hK => ?_;go_simp
 obtain ⟨W6, fG⟩ : ∃ W, w5.alloc (.cells #[.func (.func 120) #[] #[.pointer (some ⟨W3.heap.size, 0, none⟩), .pointer (some ⟨W3.heap.size + 1, 0, none⟩)],
  .func (.func 121) #[] #[.pointer (some ⟨w4.heap.size, 0, none⟩), .pointer (some ⟨w4.heap.size + 1, 0, none⟩), .pointer (some ⟨w4.heap.size + 1 + 1, 0, none⟩)], .func (.func 60) #[.pointer (some ⟨pd, 0, none⟩)] #[]] qM) = W := ⟨_, rfl⟩
 have r6 := II w5 (.cells #[.func (.func 120) #[] #[.pointer (some ⟨W3.heap.size, 0, none⟩), .pointer (some ⟨W3.heap.size + 1, 0, none⟩)],
  .func (.func 121) #[] #[.pointer (some ⟨w4.heap.size, 0, none⟩), .pointer (some ⟨w4.heap.size + 1, 0, none⟩), .pointer (some ⟨w4.heap.size + 1 + 1, 0, none⟩)], .func (.func 60) #[.pointer (some ⟨pd, 0, none⟩)] #[]] qM)
 rw [fG] at r6;have gK : Below w5 w5 W6 := by rw [<-fG]; exact bla
 rw [fG];have B6 : Below W3 W3 W6 := H5.2.1.trans (gK.mono H5.2.1.size);have lp := X.1.lt;have x6 := H3.2.1.below B6;have y6 : BytesAt W6.heap (λ k => w.heap.size <= k /\ k < w1.heap.size) (.slice va (Em.folded 1 (.map [])).length vc) (Em.folded 1 (.map [])) := H3.2.2.2.1.keeps (λ k _ hl => B6.block k hl) (λ k hk _ => hk);have s3 := H3.2.2.2.2.1;have z1 := H1.2.size;have z4 := H4.2.1;have fl : (Em.folded 1 (.map [])).length <= 1000000000 := by have := Em.um (D := .map []) 1 GY; omega
 have RC := hd1 (z6s (t := 0) (cap := 3) x6 X.2.2.1 GY (aN gK (aN H5.1 H4.2.2.1)) (aN gK (aN H5.1 H4.2.2.2)) (aN gK H5.2.2.2.1) (aN gK H5.2.2.2.2.1) (aN gK H5.2.2.2.2.2)
  (aN B6 (ae H3.1 rfl)) y6 (λ k hk => ⟨GX, GX⟩) fl
  ⟨GX, GX⟩ ⟨GX, GX⟩ ⟨GX, GX⟩ ⟨GX, GX⟩ ⟨GX, GX⟩ ⟨X.2.2.2.1, X.2.2.2.2.1⟩ ⟨Hm H5.2.2.1, Hm H5.2.2.1⟩ r6)
 have H6 := hd2 B6 lp;clear x6 y6 r6 gK z1 z4 s3 lp fl fG;refine hK _ _ (IG ⟨rfl, λ _ => ⟨⟨_, B6⟩, rfl⟩, ?_⟩);clear hK K;clear B6;refine aA 11 1 _ _ rfl GV ?_;refine IJ rfl λ K hK => ?_;go_simp;go_at_call 71;refine RC.mono ?_;rintro e w7 ⟨rfl, m7, x7⟩;have L := hd2 m7 x7;clear m7 x7;refine hK _ _ (IG ⟨rfl, λ h => absurd GY h, ?_⟩);clear hK K;refine eY [12] 0 _ GV ?_;refine Hd ?_;refine ⟨GV, ?_⟩;go_wp2;go_ret;obtain ⟨m7, x7⟩ := L.out;obtain ⟨B6, lp⟩ := H6.out;obtain ⟨k3, x3, r3, _, s3, b3⟩ := H3.out;have z1 := H1.2.size;have z6 := B6.size;have m7' : Moves (eT pl pd md) W6 w7 := m7.mono λ i hi => IC hi;have b3' : Moves (eT pl pd md) w W3 := b3.mono λ i hi => IB hi;refine ⟨rfl, (b3'.trans (Moves.of_below B6) (λ _ _ h => h)).trans m7' (λ _ _ h => h), ⟨Em.y1j d, Am X.1 x7 GX, ⟨w1.heap.size, ?_, ?_, GX, GX, Hm (aa X.2.1)⟩, X.2.2.2.1, X.2.2.2.2.1, ?_⟩⟩
 ·exact (m7.block pl (Hm (aa k3)) (λ e => by rcases e with e | e; exact X.2.2.2.1 e; exact X.2.2.2.2.1 e)).trans ((B6.block pl (aa k3)).trans k3)
 ·exact sU (d9 r3 B6 GX) m7 GX GX
 ·intro h
  rcases h with h | h
  ·exact X.2.2.2.2.2 h
  ·have := aa X.2.1
   omega
end Go.Proofs.YtgffifleflkjoaaGreat
