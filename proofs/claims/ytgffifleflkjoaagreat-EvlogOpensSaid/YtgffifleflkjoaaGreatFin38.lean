/-
  Parts of a proof.
-/
import Derived.Test.YtgffifleflkjoaaGreatFin32
import Derived.Test.YtgffifleflkjoaaGreatFin33
import Derived.Test.YtgffifleflkjoaaGreatFin34
set_option linter.unusedSimpArgs false
set_option linter.unusedVariables false
set_option maxRecDepth 100000
set_option maxHeartbeats 16000000
namespace Go.Proofs.YtgffifleflkjoaaGreat
open _root_.Go.Proofs.Tryz
variable {w W w' w0 wr w1 W0 W1 W2 A B : World} {F G F' O : Nat → Prop} {v : Value} {l : List UInt8} {n q m pd md pl g p : Nat} {C : Array Value} {c : Int}
section
open Go.RowKit
attribute [local go_sem] Oper.semAt_some
abbrev aS : Nat := 119
abbrev dL : Array Value := #[.int .i64 0, .slice none 0 0, .int .i64 0, .int .i64 0]
theorem di : (prog.info? aS).map (·.size) = some 4 := GQ
theorem mW (g n f : Int) (a : Option Addr) (k c : Nat) : (#[Value.int .i64 g, Value.slice a k c, Value.int .i64 n, Value.int .i64 f]).all (·.oneCell') = true := by
 rw [JD];intro x hx;simp at hx;rcases hx with rfl | rfl | rfl | rfl <;> rfl
theorem jr.z8v {base : Nat} {l : Em.bB} (h : jr w base v l) (hm : Moves O w w') (hO : ∀ k, base <= k -> ¬ O k) : jr w' base v l := by
 refine ⟨h.1, ?_⟩;rcases h.2 with h1 | ⟨g, cap, cur, h1, h2, h3, h4, h5, h6, h7⟩
 ·exact Iy h1
 ·exact Iz ⟨g, cap, cur, h1, h2, (hm.block g (aa h3) (hO g h2)).trans h3, h4, h5, h6, h7⟩
theorem x3y {a b : List UInt8} (h : a <= b) (hne : ¬ a = b) : a < b := by
 rcases Classical.em (a < b) with q | q
 ·exact q
 ·exact absurd (KU h (List.not_lt.1 q)) hne
theorem tq {c : Prop} [Decidable c] {a b : Prop} (hb : b) (h : ¬ c) : if c then a else b := by rw [Iw h]; exact hb
theorem z4e {a0 : Option Addr} {c : Nat} {fin : Nat} (y : BytesAt w.heap F (.slice a0 n c) l) (hf : fin <= n) :
 ∃ a1 c1, (∀ W : World, (Instr.sliceAt 31 (.slice a0 n c) (some (.int .i64 (fin : Int))) none none).run prog W = .ok (.slice a1 (n - fin) c1) W) /\ BytesAt w.heap F (.slice a1 (n - fin) c1) (l.drop fin) := by
 have hu : prog.underlying 31 = some (.slice (prog.elem 31)) := GQ;have hz : ∀ W : World, (sizeOf (prog.elem 31)).run prog W = .ok 1 W := λ W => by
  have : (prog.info? (prog.elem 31)).map (·.size) = some 1 := GQ;obtain ⟨i, hi, hs⟩ := Option.map_eq_some_iff.1 this;simp [sizeOf, run_typeInfo W hi, hs]
 have hrun : ∀ W : World, (Instr.sliceAt 31 (.slice a0 n c) (some (.int .i64 (fin : Int))) none none).run prog W = .ok (sliced a0 fin n c 1) W := λ W => by
  rw [run_sliceAt_slice (h := hu), run_slice_l (ht := hu) (h0 := GR) (h1 := GR), hz];simp
 have e : sliced a0 fin n c 1 = .slice (if c = fin then a0 else a0.map (·.add (fin * 1))) (n - fin) (c - fin) := rfl;rw [e] at hrun;refine ⟨_, _, hrun, ?_⟩;rcases y with ⟨h, rfl⟩ | ⟨b, o, cap, cs, t, fr, h, h1, h2, h3, h4, h5⟩
 ·cases h
  have f0 : fin = 0 := GR;subst f0;exact Iy ⟨GV, rfl⟩
 ·cases h
  by_cases q : c = fin
  ·rw [IA q]
   exact y1g (Iz ⟨b, o, c, cs, t, fr, rfl, h1, h2, h3, h4, h5⟩) hf q
  ·rw [Iw q]
   have := BytesAt.back (Iz ⟨b, o, c, cs, t, fr, rfl, h1, h2, h3, h4, h5⟩) hf;rw [Ku, addr_add, Nat.mul_one];exact this
theorem uV {P : Program} {ops : Array Oper} {rest : List Oper} {o : Oper} {a : Act} {Q : Exit -> Act -> World -> Prop} (hgd : o.guard = none) (t : TypeId) (x lo : Operand) (ho : o.op = .slice t x (some lo) none none)
 (vx vlo : Value) (hx : a.eval x = vx) (hlo : a.eval lo = vlo) (v : Value)
 (hrun : ∀ W : World, (Instr.sliceAt t vx (some vlo) none none).run P W = .ok v W) (h : wpList P ops Q rest (a.put o.dst v) w) : wpList P ops Q (o :: rest) a w :=
 IE hgd λ K hK => by
  unfold Oper.wp execOp;simp only [ho, hx, hlo, Ku, Option.map_none, JE, hrun, JF, JS];exact hK _ _ h
theorem E9 (h : Calls prog 132 #[v] w (uz w F l)) (hs : Wm.split l = none) :
 ∃ er : Int, Calls prog 132 #[v] w λ e w' => Below w w w' /\ e = .returned (.tuple #[.slice none 0 0, .int .i64 0, .int .i64 er]) :=
 ⟨Wm.pg l, h.mono λ e w' h => by
  unfold uz at h;rw [hs] at h;exact h⟩
def wS (w : World) (l : List UInt8) (e : Ending) (w' : World) : Prop :=
 Below w.heap.size w w' /\ ∃ v, e = .returned (.agg #[.int .i64 (aJ l).gen, v, .int .i64 (aJ l).aL, .int .i64 (aJ l).fin]) /\ dx w' (λ k => w.heap.size <= k) v (Em.tell (aJ l).rows)
theorem Aj (h : Em.fe l = none) (hb : Below w w w') : wS w l (.returned (.agg dL)) w' := by
 have e : aJ l = Em.T.none := by unfold aJ; rw [h]
 refine ⟨hb, .slice none 0 0, ?_, ?_⟩ <;> rw [e]
 ·rfl
 ·exact Iy ⟨rfl, Em.xN⟩
structure DD (w wr : World) (q g : Nat) (l : List UInt8) (N : Nat) (Q : Option (Em.Rows × Nat)) (i fin : Nat) (R : Em.bB) (D : Em.Rows) (last : List UInt8) (x : Value) : Prop where
 below : Below w.heap.size w wr
 rz : wr.heap[w.heap.size]? = some (.cells dL aS (0, 0))
 rq : wr.heap[q]? = some (.cells #[.int .i64 g, x, .int .i64 0, .int .i64 0] aS (0, 0))
 own : jr wr (q + 1) x R
 st : oN l N Q i fin R D last
structure RtB (w wr : World) (q g : Nat) (l : List UInt8) (Q : Em.Rows × Nat × Nat) (n fin : Nat) (R : Em.bB) (D : Em.Rows) (x : Value) (f : Nat) : Prop where
 below : Below w.heap.size w wr
 rz : wr.heap[w.heap.size]? = some (.cells dL aS (0, 0))
 rq : wr.heap[q]? = some (.cells #[.int .i64 g, x, .int .i64 n, .int .i64 f] aS (0, 0))
 pairs : dx wr (λ k => q < k) x R
 st : xA l Q n fin R D
theorem y9z {b : List UInt8} (h : Em.fM b = some (g, n)) : 0 < g /\ g <= 2147483647 /\ n <= 256 := by
 obtain ⟨ra, rb, hk, hg, hn, hpos⟩ := A8 h;exact ⟨hpos, (ic hg).2.1, (ic hn).2.1⟩
theorem x0j {body : List UInt8} (hs : Wm.split l = some (body, m)) (hh : Em.fM body = some (g, n)) : Em.fe l = (Em.dP l n m [] (.map [])).map λ p => (g, p.1, p.2) := by
 unfold Em.fe;rw [hs];simp only;rw [hh]
theorem z7w (hs : ∀ body m, Wm.split l = some (body, m) -> Em.fM body = none) : Em.fe l = none := by
 unfold Em.fe;cases h : Wm.split l with
 | none => rfl
 | some p =>
  obtain ⟨body, m⟩ := p;simp only;rw [hs body m h]
theorem z6h (h : BytesAt w.heap F v l) (hl : l.length <= 1000000) :
 Calls prog 84 #[v] w (wS w l) := by
 obtain ⟨W0, hW0⟩ := G5 (w.alloc (.cells dL aS));have B0 : Below w w W0 := by rw [<-hW0]; exact bla
 have r0 : W0.heap[w.heap.size]? = some (.cells dL aS) := by rw [<-hW0]; exact IC _ _
 obtain ⟨a, c, rfl⟩ := h.slice;have SC := hd1 (E_ (h.below B0) GR);have H := hd2 h hl;generalize hN : l.length = N at *;have HN := hd1 hN;have HB := hd2 B0 r0;have HW := hd1 hW0;clear hN B0 r0 hW0 h hl;go_in;go_upto_region 1 with fail
 rw [show (w.alloc (.cells #[.int .i64 0, (), .int .i64 0, .int .i64 0] aS)) = W0 from HW.out];cases hs : Wm.split l with
 | none =>
  have NO := hd1 (z7w (l := l) (λ body m h => by rw [hs] at h; cases h));have HS := hd1 hs;have HH := hd1 (λ (W : World) => z6f (w := W) (F := λ _ => False) (v := .slice none 0 0) (l := []) (Iy ⟨rfl, rfl⟩) GU);obtain ⟨er, sc⟩ := E9 SC.out hs;have SN := hd1 sc;clear hs sc SC;by_cases he : er = 0
  ·subst he
   exact OI
  ·exact OI
 | some p =>
  obtain ⟨body, m⟩ := p;obtain ⟨m0, m1, m2⟩ := jB hs;have HS := hd1 hs;have hm0 : ¬ m = 0 := GR;have hmb : ((m : Int) == 0) = false := by simpa using hm0
  have HM := hd3 m0 m1 m2;clear hs m0 m1 m2;go_upto_region 2 with (go_at_call 132; refine SC.mono ?_; intro e w1 h1; unfold uz at h1; rw [HS.out] at h1; obtain ⟨b1, v1, rfl, y1⟩ := h1)
  obtain ⟨a1, c1, rfl⟩ := y1.slice;have HC := hd1 (z6f y1 (Hl HM.2.2 H.2 HN.out));generalize body.length = bn at *;cases hh : Em.fM body with
  | none =>
   have NO := hd1 (z7w (l := l) (λ qg m' h => by rw [HS.out] at h; cases h; exact hh));have HH := hd1 hh;clear hh;go_upto_region 3 with (go_at_call 133; refine HC.mono ?_; intro e w2 h2; unfold xw at h2; rw [HH.out] at h2; obtain ⟨b2, g, n, rfl⟩ := h2)
   have B2 := hd1 (HB.1.trans ((b1.trans (b2.mono b1.size)).mono HB.1.size));have RZ := hd1 ((b2.block _ (Jc (aa HB.2) b1.size)).trans ((b1.block _ (aa HB.2)).trans HB.2));clear b1 b2 y1;repeat (first | (go_big_may; (refine aC rfl aS _ _ rfl w.heap.size dL rfl rfl aS _ RZ.out Oc rfl GQ ?_; intro W5 aF aB bf)) | go_values | go_skip | go_guarded | go_step | go_upon)
   refine Hd aF.out H_ di ?_;exact Aj NO.out (Moves.new B2.out aB GZ)
  | some p =>
   obtain ⟨g, M⟩ := p;have HBE := hd1 (x0j HS.out hh);have HG := hd1 (y9z hh);have HH := hd1 hh;clear hh;go_upto_region 3 with (go_at_call 133; refine HC.mono ?_; intro e w2 h2; unfold xw at h2; rw [HH.out] at h2; obtain ⟨b2, rfl⟩ := h2)
   have B2 := hd1 (HB.1.trans ((b1.trans (b2.mono b1.size)).mono HB.1.size));have RZ := hd1 ((b2.block _ (Jc (aa HB.2) b1.size)).trans ((b1.block _ (aa HB.2)).trans HB.2));clear b1 b2 y1 HC SC;obtain ⟨q, hq⟩ := G5 w2.heap.size;have z9r : w.heap.size < q := Hf (aa RZ.out);go_upto_region 6 with fail
   obtain ⟨W3, hW3⟩ := G5 (w2.alloc (.cells #[.int .i64 g, (), .int .i64 0, .int .i64 0] aS));rw [hW3];have lz : w.heap.size < w2.heap.size := aa RZ.out
   have ST := hd1 (show DD w W3 q g l M (Em.dP l M m [] (.map [])) 0 m [] (.map []) [] (.slice none 0 0) from by
    rw [<-hW3];exact ⟨B2.alloc B2.size _, aM lz RZ.out, bD _ hq.symm, z7g _ _, hdSt_start HM.2.1⟩)
   have HQ := hd1 z9r;clear hq z9r lz hW3 B2 RZ HH hm0 hmb;generalize yQ : Em.dP l M m [] (.map []) = QQ at *;clear yQ;have FAIL := hd1 (show ∀ W, Below w w W -> QQ = none -> wS w l (.returned (.agg dL)) W from λ W hb hq => Aj (by rw [HBE.out, hq]; rfl) hb);go_wp2;go_loopw [4, 10] (λ s4 s10 wr => ∃ (i fin : Nat) (R : Em.bB) (D : Em.Rows) (last : List UInt8) (x : Value), i <= M /\ s4 = .int .i64 (fin : Int) /\ s10 = .int .i64 (i : Int) /\ DD w wr q g l M QQ i fin R D last x) (λ _ s _ => M - (intOf s).toNat)
   case atStart => exact ⟨0, m, [], _, [], _, IV _, rfl, rfl, ST.out⟩
   case round =>
    obtain ⟨i, fin, R, D, last, x, hi, rfl, rfl, hrel⟩ := hrel;obtain ⟨xa, xc, e1⟩ := hrel.own.at.slice;have hlen := hrel.st.len;rw [hlen] at e1;subst e1;have i0 : (0 : Int) <= (i : Int) := GR;have HR := hd1 hrel;clear hrel;by_cases hlt : i < M
    ·have i1 : (i : Int) < (M : Int) := GR
     have kx := ae HR.rq (j := 1) rfl;have rQ := hd1 hlt;obtain ⟨a2, c2, hrun, y2⟩ := z4e (fin := fin) (H.1.below HR.below) (Hg HR.st.fin HN.out);have SL := hd1 hrun;have SC := hd1 (E_ y2 (by have := H.2; have := HN.out; rw [I5]; omega));have FN := hd1 (show fin <= N by have := HR.st.fin; have := HN.out; omega);clear hrun y2;cases hs : Wm.split (l.drop fin) with
     | none =>
      have NO := hd1 (HR.st.cut hlt hs);have HS2 := hd1 hs;have RC := hd1 (λ (W : World) => z6g (w := W) (F := λ _ => False) (v := .slice none 0 0) (l := []) (Iy ⟨rfl, rfl⟩) GU);obtain ⟨er, sc⟩ := E9 SC.out hs;have SN := hd1 sc;clear hs sc SC;by_cases he : er = 0
      ·subst he
       go_upto_region 11 with (first
        | (refine uV rfl 31 (.tmp 54) (.tmp 55) rfl (.slice a N c) (.int .i64 (fin : Int)) rfl rfl _ SL.out ?_)
        | (go_at_call 132; refine SN.mono ?_; rintro e w1 ⟨b1, rfl⟩)
        | (go_at_call 134; refine (RC.out _).mono ?_; rintro e w3 ⟨b3, key, value, ok, rfl, _⟩))
       have BZ := hd1 (HR.below.trans ((b1.trans (b3.mono b1.size)).mono HR.below.size));have uy := hd1 ((b3.block _ (Jc (aa HR.rz) b1.size)).trans ((b1.block _ (aa HR.rz)).trans HR.rz));have lz := aa uy.out;obtain ⟨W4, fq⟩ := G5 (w3.alloc (.cells #[ag key, ag value] fC));rw [fq];have RZ := hd1 (show W4.heap[w.heap.size]? = some (.cells dL aS) by rw [<-fq]; exact aM lz uy.out);have BW := hd1 (show Below w w W4 by rw [<-fq]; exact BZ.alloc BZ.size _);clear b1 b3 BZ uy lz fq;have ne : Nonempty (Wd (Below W4 W4)) := ⟨⟨_, Below.refl _ _⟩⟩;exact Oh
      ·go_upto_region 11 with (first
        | (refine uV rfl 31 (.tmp 54) (.tmp 55) rfl (.slice a N c) (.int .i64 (fin : Int)) rfl rfl _ SL.out ?_)
        | (go_at_call 132; refine SN.mono ?_; rintro e w1 ⟨b1, rfl⟩)
        | (go_at_call 134; refine (RC.out _).mono ?_; rintro e w3 ⟨b3, key, value, ok, rfl, _⟩))
       have BZ := hd1 (HR.below.trans ((b1.trans (b3.mono b1.size)).mono HR.below.size));have uy := hd1 ((b3.block _ (Jc (aa HR.rz) b1.size)).trans ((b1.block _ (aa HR.rz)).trans HR.rz));have lz := aa uy.out;obtain ⟨W4, fq⟩ := G5 (w3.alloc (.cells #[ag key, ag value] fC));rw [fq];have RZ := hd1 (show W4.heap[w.heap.size]? = some (.cells dL aS) by rw [<-fq]; exact aM lz uy.out);have BW := hd1 (show Below w w W4 by rw [<-fq]; exact BZ.alloc BZ.size _);clear b1 b3 BZ uy lz fq;have ne : Nonempty (Wd (Below W4 W4)) := ⟨⟨_, Below.refl _ _⟩⟩;exact Oh
     | some p =>
      obtain ⟨bd, k⟩ := p;have SP := hd1 (jB hs);have hk0 : ¬ k = 0 := Hf SP.1;have hkb : ((k : Int) == 0) = false := by simpa using hk0
      have HS2 := hd1 hs;clear hs
      go_upto_region 10 with (first
       | (refine uV rfl 31 (.tmp 54) (.tmp 55) rfl (.slice a N c) (.int .i64 (fin : Int)) rfl rfl _ SL.out ?_)
       | (go_at_call 132; refine SC.mono ?_; intro e w1 h1; unfold uz at h1; rw [HS2.out] at h1; obtain ⟨b1, v1, rfl, y1⟩ := h1))
      obtain ⟨a1, c1, rfl⟩ := y1.slice;have RC := hd1 (z6g y1 Mr);generalize bd.length = bn at *
      go_upto_region 11 with (first
       | (go_at_call 134; refine RC.mono ?_; rintro e w3 ⟨b3, key, value, ok, rfl, l1, l2, hok, hrr⟩))
      have BZ := hd1 (b1.trans (b3.mono b1.size));have lz := BZ.size;obtain ⟨W4, fq⟩ := G5 (w3.alloc (.cells #[ag key, ag value] fC));rw [fq];have BY := hd1 (show Below wr wr W4 by rw [<-fq]; exact BZ.alloc lz _);have HRR := hd2 hok hrr;have zK := hd1 (show W4.heap[w3.heap.size]? = some (.cells #[ag key, ag value] fC) by rw [<-fq]; exact IC _ _);have RZ := hd1 ((BY.block _ (aa HR.rz)).trans HR.rz);have RQ := hd1 ((BY.block _ (aa HR.rq)).trans HR.rq);have BW := hd1 (HR.below.trans (BY.mono HR.below.size));have w3q : w3.heap.size ≠ q := Hf (aa HR.rq);have S34 := hd1 (show w3.heap.size < W4.heap.size from aa zK.out);clear b1 b3 lz fq y1 RC kx hok hrr;have kx := ae RQ.out (j := 1) rfl;have zq := aZ RQ.out 1;have k14 := ae zK.out (j := 0) rfl;have ne : Nonempty (Wd (Below W4 W4)) := ⟨⟨_, Below.refl _ _⟩⟩;have f14 : ∀ y : Wd (Below W4 W4), y.world.cell? w3.heap.size = some (ag key) := λ y => aN y.ok k14;have fx : ∀ y : Wd (Below W4 W4), y.world.cell? (q, 1) = some (.slice xa i xc) := λ y => aN y.ok kx;obtain ⟨g3, hg3⟩ := G5 w3.heap.size;rw [hg3] at zK S34 w3q k14 f14 ⊢;clear hg3;cases ok with
      | false =>
       have NO := hd1 (HR.st.bad hlt HS2.out (by rw [HRR.2 last, Iw (λ h => by cases h.1)]));exact Oh
      | true =>
       have NEXT := hd1 (show ¬ key <= last -> oN l M QQ (i + 1) (fin + k) (R ++ [(key, value)]) (D.put (.string key) (.lit (.string value))) key from λ h => HR.st.next hlt HS2.out (by rw [HRR.2 last, IA ⟨rfl, h⟩]));have e2 : IntKind.i64.wrap ((fin : Int) + (k : Int)) = ((fin + k : Nat) : Int) := Ja _ (by have h2 := SP.2.1; have := H.2; have := HN.out; have := FN.out; rw [I5] at h2; omega);have z2s := hd1 (HR.own.later BY.out);by_cases hz : i = 0
       ·have i2 : ¬ 0 < i := GR
        have NX := hd1 (NEXT.out (by rw [HR.st.start hz]; exact λ h => HRR.1 rfl (KU h (List.nil_le _))));have HZ := hd1 hz;clear hz;exact Oj
       ·obtain ⟨j, hj⟩ : ∃ j, j + 1 = i := ⟨i - 1, GR⟩
        have i2 : 0 < i := GR;have j0 : (0 : Int) <= (j : Int) := GR;have j1 : (j : Int) < (i : Int) := GR;have e1 : IntKind.i64.wrap ((i : Int) - 1) = (j : Int) := by
         have : (i : Int) - 1 = (j : Int) := GR;rw [this];exact Ja _ (Hf HG.2.2)
        obtain ⟨⟨lk, lv⟩, hr⟩ : ∃ r, R[j]? = some r := ⟨_, IR GR⟩;have hlast : lk = last := HR.st.ends (lk, lv) (by rw [show i - 1 = j by omega]; exact hr) hz;subst hlast;obtain ⟨pb, po, rfl, _, plt, rg⟩ := z2s.at.at hr;have k87 : W4.cell? ⟨pb, po + j * 2, none⟩ = some (ag lk) := rg 0 _ rfl;have f87 : ∀ y : Wd (Below W4 W4), y.world.cell? ⟨pb, po + j * 2, none⟩ = some (ag lk) := λ y => aN y.ok k87;have HJ := hd2 hj hz;clear hr rg plt hj hz;by_cases hle : key <= lk
        ·have NO := hd1 (HR.st.bad hlt HS2.out (by rw [HRR.2 lk, Iw (λ h => h.2 hle)]))
         by_cases Ca : key = lk
         ·have q1 : (key == lk) = true := by simp [Ca]
          clear hle Ca;exact Oh
         ·have q1 : Op.bytesLess key lk = true := by rw [ui]; simpa using x3y hle Ca
          clear hle Ca;exact Oh
        ·have q1 : Op.bytesLess key lk = false := by rw [ui]; simpa using (show lk <= key from (LH key lk).resolve_left hle)
         have q2 : (key == lk) = false := by simpa using (λ e : key = lk => hle (by rw [e]; exact KV _))
         have NX := hd1 (NEXT.out hle);clear hle;exact Oj
    ·obtain rfl : i = M := GR
     have hQ : QQ = some (D, fin) := by
      have := HR.st.cZ;rw [J3] at this;exact this.symm
     have HBG := hd1 (show Em.fe l = some (g, D, fin) by rw [HBE.out, hQ]; rfl);clear hQ hlt;have BOK := hd1 (Bi HBG.out);obtain ⟨Q2, hQ2⟩ := G5 (Em.dM l (l.length + 1) fin D 0);have RT := hd1 (show aJ l = ⟨g, Q2.1, Q2.2.1, Q2.2.2⟩ by unfold aJ; rw [HBG.out]; simp only [hQ2])
     have ST2 := hd1 (show RtB w wr q g l Q2 0 fin R D (.slice xa i xc) 0 from
      ⟨HR.below, HR.rz, HR.rq, HR.own.at, ⟨⟨l.length, hQ2, GR⟩, HR.st.rows, HR.st.ok, HR.st.tidy, BOK.2.2.1, HR.st.fin, IV _⟩⟩)
     clear hQ2 HR hlen;obtain ⟨W0', hW0'⟩ : ∃ W, W = wr := ⟨wr, rfl⟩;subst hW0';go_wp2;go_loopw [4] (λ s4 wr => ∃ (n fin : Nat) (R : Em.bB) (D : Em.Rows) (x : Value) (f : Nat), s4 = .int .i64 (fin : Int) /\ RtB w wr q g l Q2 n fin R D x f) (λ s _ => N - (intOf s).toNat)
     case atStart => exact ⟨0, fin, R, D, _, 0, rfl, ST2.out⟩
     case round =>
      clear ST2;obtain ⟨n, fin, R, D, x, f, rfl, hrel⟩ := hrel;obtain ⟨xa, xc, e1⟩ := hrel.pairs.slice;have hlen : R.length <= 256 := by rw [<-hrel.st.rows, Em.oW]; exact hrel.st.few
      subst e1;have HR := hd1 hrel;have HL := hd1 hlen;clear hrel hlen;have z3 := aZ HR.rq 3;have k3 := ae HR.rq (j := 3) rfl;go_upto_region 16 with fail
      obtain ⟨V, eV, rV, mV⟩ := gm HR.rq 3 (.int .i64 (fin : Int));rw [eV];have lq := aa HR.rq;have BV := hd1 (show Below w w V from Moves.new HR.below mV (Jn HQ.out));have wZ := hd1 ((mV.block _ (aa HR.rz) (Hf HQ.out)).trans HR.rz);have RV := hd1 (show V.heap[q]? = some (.cells #[.int .i64 g, .slice xa R.length xc, .int .i64 n, .int .i64 fin] aS) from rV);have PV := hd1 (HR.pairs.moves mV (λ b hb _ e => by subst e; exact Nat.lt_irrefl _ hb));have oI := hd2 HR.st (show fin <= N by have := HR.st.inside; have := HN.out; omega);clear eV rV mV z3 k3 HR lq;have FIN := hd1 (show ∀ W, Below w w W -> dx W (λ k => q < k) (.slice xa R.length xc) R -> Em.eF l fin D = none -> wS w l (.returned (.agg #[.int .i64 g, .slice xa R.length xc, .int .i64 n, .int .i64 fin])) W from λ W hb hp hg => by
       have e := oI.1.stop hg;have er : aJ l = ⟨g, D, n, fin⟩ := by rw [RT.out, e]
       refine ⟨hb, .slice xa R.length xc, by rw [er], ?_⟩;rw [er];show dx W _ _ (Em.tell D);rw [oI.1.rows];exact hp.weak (λ b hb _ => Hf HQ.out))
      obtain ⟨a2, c2, hrun, y2⟩ := z4e (fin := fin) (H.1.below BV.out) oI.2;have SL := hd1 hrun;have SC := hd1 (E_ y2 (by have := H.2; have := HN.out; rw [I5]; omega));clear hrun y2;generalize hrn : R.length = rn at *;have HRN := hd1 hrn;clear hrn;cases hs : Wm.split (l.drop fin) with
      | none =>
       have NO := hd1 (y9x (D := D) hs);have HS2 := hd1 hs;obtain ⟨er, sc⟩ := E9 SC.out hs;have SN := hd1 sc;clear hs sc SC;by_cases he : er = 0
       ·subst he
        go_upto_region 17 with (first
         | (refine uV rfl 31 (.tmp 105) (.tmp 106) rfl (.slice a N c) (.int .i64 (fin : Int)) rfl rfl _ SL.out ?_)
         | (go_at_call 132; refine SN.mono ?_; rintro e w1 ⟨b1, rfl⟩))
        have RZ := hd1 ((b1.block _ (aa wZ.out)).trans wZ.out);have kN := hd1 ((b1.block _ (aa RV.out)).trans RV.out);have oL := hd1 (PV.later b1);have mJ := hd1 (BV.trans (b1.mono BV.size));clear b1;exact Oy
       ·go_upto_region 17 with (first
         | (refine uV rfl 31 (.tmp 105) (.tmp 106) rfl (.slice a N c) (.int .i64 (fin : Int)) rfl rfl _ SL.out ?_)
         | (go_at_call 132; refine SN.mono ?_; rintro e w1 ⟨b1, rfl⟩))
        have RZ := hd1 ((b1.block _ (aa wZ.out)).trans wZ.out);have kN := hd1 ((b1.block _ (aa RV.out)).trans RV.out);have oL := hd1 (PV.later b1);have mJ := hd1 (BV.trans (b1.mono BV.size));clear b1;exact Oy
      | some p =>
       obtain ⟨bd, k⟩ := p;have SP := hd1 (jB hs);have hk0 : ¬ k = 0 := Hf SP.1;have hkb : ((k : Int) == 0) = false := by simpa using hk0
       have HS2 := hd1 hs;clear hs
       go_upto_region 17 with (first
        | (refine uV rfl 31 (.tmp 105) (.tmp 106) rfl (.slice a N c) (.int .i64 (fin : Int)) rfl rfl _ SL.out ?_)
        | (go_at_call 132; refine SC.mono ?_; intro e w1 h1; unfold uz at h1; rw [HS2.out] at h1; obtain ⟨b1, v1, rfl, y1⟩ := h1))
       obtain ⟨a1, c1, rfl⟩ := y1.slice;have BC := hd1 (y9j y1 Mr);generalize bd.length = bn at *;go_upto_region 20 with (go_at_call 135; refine BC.mono ?_; rintro e w3 ⟨b3, v3, cs, ok, rfl, hcs, hcl, hy, hn⟩)
       obtain ⟨a3, c3, rfl⟩ := hcs.slice;have Eb := hd1 (b1.trans (b3.mono b1.size));have RZ := hd1 ((Eb.block _ (aa wZ.out)).trans wZ.out);have kN := hd1 ((Eb.block _ (aa RV.out)).trans RV.out);have oL := hd1 (PV.later Eb.out);have mJ := hd1 (BV.trans (Eb.mono BV.size));have DZ := hd4 hcs hcl hy hn;clear b1 b3 y1 hcs hcl hy hn BC;generalize hcn : cs.length = cn at *;have HCN := hd1 hcn;clear hcn;cases ok with
       | false =>
        have NO := hd1 (z6s (D := D) HS2.out (λ c hc h0 => DZ.2.2.2 rfl c hc (Em.jV h0).1));exact Oy
       | true =>
        obtain ⟨hrb, BR⟩ := DZ.2.2.1 rfl;have AC := hd1 (FO oL.out (Hg HL.out HRN.out) DZ.1 (Hg DZ.2.1 HCN.out));have RL := hd1 (show Em.og R cs = if Em.aW D cs = 0 then (Em.tell (Em.behind D cs), 0) else (Em.tell D, Em.aW D cs) by rw [<-oI.1.rows]; exact Em.Bn oI.1.ok oI.1.tidy cs);have uH := hd1 hrb;clear hrb BR;have k1 := ae kN.out (j := 1) rfl;by_cases hd : Em.aW D cs = 0
        ·have NX := hd1 (oI.1.next HS2.out uH.out hd)
         rw [RL.out, IA hd] at AC;clear hd;go_upto_region 23 with (go_at_call 14; refine AC.mono ?_; rintro e w4 ⟨v4, rfl, p4, b4⟩)
         obtain ⟨a4, c4, rfl⟩ := p4.slice;have R4 := hd1 ((b4.block _ (aa kN.out)).trans kN.out);have DF := hd1 ((b4.block _ (aa RZ.out)).trans RZ.out);have B4 := hd1 (mJ.trans (b4.mono mJ.size));have P4 := hd1 (show dx w4 (λ k => q < k) _ (Em.tell (Em.behind D cs)) from p4.weak (λ b hb _ => by have := aa kN.out; rcases hb with hb | hb <;> omega));have e2 : IntKind.i64.wrap ((fin : Int) + (k : Int)) = ((fin + k : Nat) : Int) := Ja _ (by have h2 := SP.2.1; have := H.2; have := HN.out; have := oI.2; rw [I5] at h2; omega);have e3 : IntKind.i64.wrap ((n : Int) + 1) = ((n + 1 : Nat) : Int) := Ja _ (Hl oI.1.many oI.2 H.2);have n0 : (0 : Int) <= (n : Int) := GR;clear b4 p4 k1;have k2 := ae R4.out (j := 2) rfl;have kk1 := ae R4.out (j := 1) rfl;have z1 := aZ R4.out 1;obtain ⟨V5, eV5, FP, mV5⟩ := gm R4.out 1 (.slice a4 (Em.tell (Em.behind D cs)).length c4);generalize x4z : (Em.tell (Em.behind D cs)).length = rn4 at *;have z2 := aZ FP 2;have HV5 := hd2 FP mV5;have EV5 := hd1 eV5;rw [<-eV5] at z2;clear eV5 FP mV5 x4z;go_upto_region 25 with fail
         go_wp2;rw [EV5.out];obtain ⟨V6, eV6, rV6, mV6⟩ := gm HV5.1 2 (.int .i64 ((n : Int) + 1));rw [eV6];have mV := HV5.2.trans mV6 (λ _ _ h => h)
         have ST6 := hd1 (show RtB w V6 q g l Q2 (n + 1) (fin + k) (Em.tell (Em.behind D cs)) (Em.behind D cs) (.slice a4 rn4 c4) fin from
          ⟨Moves.new B4.out mV (Jn HQ.out), (mV.block _ (aa DF.out) (Hf HQ.out)).trans DF.out, (by rw [show ((n + 1 : Nat) : Int) = (n : Int) + 1 from GR]; exact rV6), P4.moves mV (λ b hb _ e => by subst e; exact Nat.lt_irrefl _ hb), NX.1⟩)
         clear eV6 rV6 mV6 mV;go_roundw;case rel => exact ⟨n + 1, fin + k, _, _, _, fin, by go_num, ST6.out⟩
         case measure => have := SP.1; have := ST6.st.inside; have := HN.out; simp [intOf]; omega
        ·have NO := hd1 (z6s (D := D) HS2.out (λ c hc h0 => by rw [uH.out] at hc; cases hc; exact hd h0))
         rw [RL.out, Iw hd] at AC;have HD := hd1 hd;generalize Em.aW D cs = er at *;go_upto_region 23 with (go_at_call 14; refine AC.mono ?_; rintro e w4 ⟨v4, rfl, p4, b4⟩)
         obtain ⟨a4, c4, rfl⟩ := p4.slice;generalize (Em.tell D).length = rn4 at *;have RV2 := hd1 ((b4.block _ (aa kN.out)).trans kN.out);have DF := hd1 ((b4.block _ (aa RZ.out)).trans RZ.out);have B4 := hd1 (mJ.trans (b4.mono mJ.size));have P4 := hd1 (oL.later b4);clear b4 p4 k1 kN RZ mJ oL;have kN := hd1 RV2.out;have RZ := hd1 DF.out;have mJ := hd1 B4.out;have oL := hd1 P4.out;exact Oy
end
end Go.Proofs.YtgffifleflkjoaaGreat
