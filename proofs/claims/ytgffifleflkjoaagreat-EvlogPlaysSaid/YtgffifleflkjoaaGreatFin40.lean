/-
  Parts of a proof.
-/
import Derived.Test.YtgffifleflkjoaaGreatFin35
import Derived.Test.YtgffifleflkjoaaGreatFin36
import Derived.Test.YtgffifleflkjoaaGreatFin37
set_option linter.unusedSimpArgs false
set_option linter.unusedVariables false
set_option maxRecDepth 100000
set_option maxHeartbeats 16000000
namespace Go.Proofs.YtgffifleflkjoaaGreat
open _root_.Go.Proofs.Tryz
variable {w W w' w0 wr w1 W0 W1 W2 A B : World} {F G F' O : Nat → Prop} {v : Value} {l : List UInt8} {n q m pd md pl g p : Nat} {C : Array Value} {c : Int}
section
open Go.RowKit
attribute [local go_sem] Oper.semAt_some
abbrev aR : Nat := 119
abbrev dM : Array Value := #[.int .i64 0, .slice none 0 0, .int .i64 0, .int .i64 0]
theorem dh : (prog.info? aR).map (·.size) = some 4 := GV
theorem nC (g n f : Int) (a : Option Addr) (k c : Nat) : (#[Value.int .i64 g, Value.slice a k c, Value.int .i64 n, Value.int .i64 f]).all (·.oneCell') = true := by
 rw [JF];intro x hx;simp at hx;rcases hx with rfl | rfl | rfl | rfl <;> rfl
theorem jr.z7a {base : Nat} {l : Em.bB} (h : jr w base v l) (hm : Moves O w w') (hO : ∀ k, base <= k -> ¬ O k) : jr w' base v l := by
 refine ⟨h.1, ?_⟩;rcases h.2 with h1 | ⟨g, cap, cur, h1, h2, h3, h4, h5, h6, h7⟩
 ·exact IB h1
 ·exact IC ⟨g, cap, cur, h1, h2, (hm.block g (aa h3) (hO g h2)).trans h3, h4, h5, h6, h7⟩
theorem x3t {a b : List UInt8} (h : a <= b) (hne : ¬ a = b) : a < b := by
 rcases Classical.em (a < b) with q | q
 ·exact q
 ·exact absurd (KW h (List.not_lt.1 q)) hne
theorem tQ {c : Prop} [Decidable c] {a b : Prop} (hb : b) (h : ¬ c) : if c then a else b := by rw [IA h]; exact hb
theorem z4i {a0 : Option Addr} {c : Nat} {fin : Nat} (y : BytesAt w.heap F (.slice a0 n c) l) (hf : fin <= n) :
 ∃ a1 c1, (∀ W : World, (Instr.sliceAt 31 (.slice a0 n c) (some (.int .i64 (fin : Int))) none none).run prog W = .ok (.slice a1 (n - fin) c1) W) /\ BytesAt w.heap F (.slice a1 (n - fin) c1) (l.drop fin) := by
 have hu : prog.underlying 31 = some (.slice (prog.elem 31)) := GV;have hz : ∀ W : World, (sizeOf (prog.elem 31)).run prog W = .ok 1 W := λ W => by
  have : (prog.info? (prog.elem 31)).map (·.size) = some 1 := GV;obtain ⟨i, hi, hs⟩ := Option.map_eq_some_iff.1 this;simp [sizeOf, run_typeInfo W hi, hs]
 have hrun : ∀ W : World, (Instr.sliceAt 31 (.slice a0 n c) (some (.int .i64 (fin : Int))) none none).run prog W = .ok (sliced a0 fin n c 1) W := λ W => by
  rw [run_sliceAt_slice (h := hu), run_slice_l (ht := hu) (h0 := GX) (h1 := GX), hz];simp
 have e : sliced a0 fin n c 1 = .slice (if c = fin then a0 else a0.map (·.add (fin * 1))) (n - fin) (c - fin) := rfl;rw [e] at hrun;refine ⟨_, _, hrun, ?_⟩;rcases y with ⟨h, rfl⟩ | ⟨b, o, cap, cs, t, fr, h, h1, h2, h3, h4, h5⟩
 ·cases h
  have f0 : fin = 0 := GX;subst f0;exact IB ⟨GZ, rfl⟩
 ·cases h
  by_cases q : c = fin
  ·rw [IE q]
   exact y1g (IC ⟨b, o, c, cs, t, fr, rfl, h1, h2, h3, h4, h5⟩) hf q
  ·rw [IA q]
   have := BytesAt.back (IC ⟨b, o, c, cs, t, fr, rfl, h1, h2, h3, h4, h5⟩) hf;rw [KP, addr_add, Nat.mul_one];exact this
theorem vo {P : Program} {ops : Array Oper} {rest : List Oper} {o : Oper} {a : Act} {Q : Exit -> Act -> World -> Prop} (hgd : o.guard = none) (t : TypeId) (x lo : Operand) (ho : o.op = .slice t x (some lo) none none)
 (vx vlo : Value) (hx : a.eval x = vx) (hlo : a.eval lo = vlo) (v : Value)
 (hrun : ∀ W : World, (Instr.sliceAt t vx (some vlo) none none).run P W = .ok v W) (h : wpList P ops Q rest (a.put o.dst v) w) : wpList P ops Q (o :: rest) a w :=
 IJ hgd λ K hK => by
  unfold Oper.wp execOp;simp only [ho, hx, hlo, KP, Option.map_none, JI, hrun, JJ, JY];exact hK _ _ h
theorem EY (h : Calls prog 132 #[v] w (uI w F l)) (hs : Wm.split l = none) :
 ∃ er : Int, Calls prog 132 #[v] w λ e w' => Below w w w' /\ e = .returned (.tuple #[.slice none 0 0, .int .i64 0, .int .i64 er]) :=
 ⟨Wm.pM l, h.mono λ e w' h => by
  unfold uI at h;rw [hs] at h;exact h⟩
def xe (w : World) (l : List UInt8) (e : Ending) (w' : World) : Prop :=
 Below w.heap.size w w' /\ ∃ v, e = .returned (.agg #[.int .i64 (aH l).gen, v, .int .i64 (aH l).aK, .int .i64 (aH l).fin]) /\ dw w' (λ k => w.heap.size <= k) v (Em.tell (aH l).rows)
theorem Ar (h : Em.fe l = none) (hb : Below w w w') : xe w l (.returned (.agg dM)) w' := by
 have e : aH l = Em.T.none := by unfold aH; rw [h]
 refine ⟨hb, .slice none 0 0, ?_, ?_⟩ <;> rw [e]
 ·rfl
 ·exact IB ⟨rfl, Em.xS⟩
structure DF (w wr : World) (q g : Nat) (l : List UInt8) (N : Nat) (Q : Option (Em.Rows × Nat)) (i fin : Nat) (R : Em.bB) (D : Em.Rows) (last : List UInt8) (x : Value) : Prop where
 below : Below w.heap.size w wr
 rz : wr.heap[w.heap.size]? = some (.cells dM aR (0, 0))
 rq : wr.heap[q]? = some (.cells #[.int .i64 g, x, .int .i64 0, .int .i64 0] aR (0, 0))
 own : jr wr (q + 1) x R
 st : pg l N Q i fin R D last
structure RtB (w wr : World) (q g : Nat) (l : List UInt8) (Q : Em.Rows × Nat × Nat) (n fin : Nat) (R : Em.bB) (D : Em.Rows) (x : Value) (f : Nat) : Prop where
 below : Below w.heap.size w wr
 rz : wr.heap[w.heap.size]? = some (.cells dM aR (0, 0))
 rq : wr.heap[q]? = some (.cells #[.int .i64 g, x, .int .i64 n, .int .i64 f] aR (0, 0))
 pairs : dw wr (λ k => q < k) x R
 st : xI l Q n fin R D
theorem y9u {b : List UInt8} (h : Em.fI b = some (g, n)) : 0 < g /\ g <= 2147483647 /\ n <= 256 := by
 obtain ⟨ra, rb, hk, hg, hn, hpos⟩ := Be h;exact ⟨hpos, (g_ hg).2.1, (g_ hn).2.1⟩
theorem x0e {body : List UInt8} (hs : Wm.split l = some (body, m)) (hh : Em.fI body = some (g, n)) : Em.fe l = (Em.dS l n m [] (.map [])).map λ p => (g, p.1, p.2) := by
 unfold Em.fe;rw [hs];simp only;rw [hh]
theorem z6c (hs : ∀ body m, Wm.split l = some (body, m) -> Em.fI body = none) : Em.fe l = none := by
 unfold Em.fe;cases h : Wm.split l with
 | none => rfl
 | some p =>
  obtain ⟨body, m⟩ := p;simp only;rw [hs body m h]
theorem z6n (h : BytesAt w.heap F v l) (hl : l.length <= 1000000) :
 Calls prog 84 #[v] w (xe w l) := by
 obtain ⟨W0, hW0⟩ := G8 (w.alloc (.cells dM aR));have B0 : Below w w W0 := by rw [<-hW0]; exact bla
 have r0 : W0.heap[w.heap.size]? = some (.cells dM aR) := by rw [<-hW0]; exact II _ _
 obtain ⟨a, c, rfl⟩ := h.slice;have SC := hd1 (EZ (h.below B0) GX);have H := hd2 h hl;generalize hN : l.length = N at *;have HN := hd1 hN;have HB := hd2 B0 r0;have HW := hd1 hW0;clear hN B0 r0 hW0 h hl;go_in;go_upto_region 1 with fail
 rw [show (w.alloc (.cells #[.int .i64 0, (), .int .i64 0, .int .i64 0] aR)) = W0 from HW.out];cases hs : Wm.split l with
 | none =>
  have NO := hd1 (z6c (l := l) (λ body m h => by rw [hs] at h; cases h));have HS := hd1 hs;have HH := hd1 (λ (W : World) => z6l (w := W) (F := λ _ => False) (v := .slice none 0 0) (l := []) (IB ⟨rfl, rfl⟩) GY);obtain ⟨er, sc⟩ := EY SC.out hs;have SN := hd1 sc;clear hs sc SC;by_cases he : er = 0
  ·subst he
   exact OO
  ·exact OO
 | some p =>
  obtain ⟨body, m⟩ := p;obtain ⟨m0, m1, m2⟩ := jA hs;have HS := hd1 hs;have hm0 : ¬ m = 0 := GX;have hmb : ((m : Int) == 0) = false := by simpa using hm0
  have HM := hd3 m0 m1 m2;clear hs m0 m1 m2;go_upto_region 2 with (go_at_call 132; refine SC.mono ?_; intro e w1 h1; unfold uI at h1; rw [HS.out] at h1; obtain ⟨b1, v1, rfl, y1⟩ := h1)
  obtain ⟨a1, c1, rfl⟩ := y1.slice;have HC := hd1 (z6l y1 (Hq HM.2.2 H.2 HN.out));generalize body.length = bn at *;cases hh : Em.fI body with
  | none =>
   have NO := hd1 (z6c (l := l) (λ qo m' h => by rw [HS.out] at h; cases h; exact hh));have HH := hd1 hh;clear hh;go_upto_region 3 with (go_at_call 133; refine HC.mono ?_; intro e w2 h2; unfold xC at h2; rw [HH.out] at h2; obtain ⟨b2, g, n, rfl⟩ := h2)
   have B2 := hd1 (HB.1.trans ((b1.trans (b2.mono b1.size)).mono HB.1.size));have RZ := hd1 ((b2.block _ (Je (aa HB.2) b1.size)).trans ((b1.block _ (aa HB.2)).trans HB.2));clear b1 b2 y1;repeat (first | (go_big_may; (refine aD rfl aR _ _ rfl w.heap.size dM rfl rfl aR _ RZ.out Od rfl GV ?_; intro W5 aF az bf)) | go_values | go_skip | go_guarded | go_step | go_upon)
   refine Hg aF.out Ic dh ?_;exact Ar NO.out (Moves.new B2.out az G7)
  | some p =>
   obtain ⟨g, M⟩ := p;have HBE := hd1 (x0e HS.out hh);have HG := hd1 (y9u hh);have HH := hd1 hh;clear hh;go_upto_region 3 with (go_at_call 133; refine HC.mono ?_; intro e w2 h2; unfold xC at h2; rw [HH.out] at h2; obtain ⟨b2, rfl⟩ := h2)
   have B2 := hd1 (HB.1.trans ((b1.trans (b2.mono b1.size)).mono HB.1.size));have RZ := hd1 ((b2.block _ (Je (aa HB.2) b1.size)).trans ((b1.block _ (aa HB.2)).trans HB.2));clear b1 b2 y1 HC SC;obtain ⟨q, hq⟩ := G8 w2.heap.size;have z9u : w.heap.size < q := Hm (aa RZ.out);go_upto_region 6 with fail
   obtain ⟨W3, hW3⟩ := G8 (w2.alloc (.cells #[.int .i64 g, (), .int .i64 0, .int .i64 0] aR));rw [hW3];have lz : w.heap.size < w2.heap.size := aa RZ.out
   have ST := hd1 (show DF w W3 q g l M (Em.dS l M m [] (.map [])) 0 m [] (.map []) [] (.slice none 0 0) from by
    rw [<-hW3];exact ⟨B2.alloc B2.size _, aM lz RZ.out, bC _ hq.symm, z7m _ _, hdSt_start HM.2.1⟩)
   have HQ := hd1 z9u;clear hq z9u lz hW3 B2 RZ HH hm0 hmb;generalize yU : Em.dS l M m [] (.map []) = QQ at *;clear yU;have FAIL := hd1 (show ∀ W, Below w w W -> QQ = none -> xe w l (.returned (.agg dM)) W from λ W hb hq => Ar (by rw [HBE.out, hq]; rfl) hb);go_wp2;go_loopw [4, 10] (λ s4 s10 wr => ∃ (i fin : Nat) (R : Em.bB) (D : Em.Rows) (last : List UInt8) (x : Value), i <= M /\ s4 = .int .i64 (fin : Int) /\ s10 = .int .i64 (i : Int) /\ DF w wr q g l M QQ i fin R D last x) (λ _ s _ => M - (intOf s).toNat)
   case atStart => exact ⟨0, m, [], _, [], _, IY _, rfl, rfl, ST.out⟩
   case round =>
    obtain ⟨i, fin, R, D, last, x, hi, rfl, rfl, hrel⟩ := hrel;obtain ⟨xa, xc, e1⟩ := hrel.own.at.slice;have hlen := hrel.st.len;rw [hlen] at e1;subst e1;have i0 : (0 : Int) <= (i : Int) := GX;have HR := hd1 hrel;clear hrel;by_cases hlt : i < M
    ·have i1 : (i : Int) < (M : Int) := GX
     have kx := ae HR.rq (j := 1) rfl;have sw := hd1 hlt;obtain ⟨a2, c2, hrun, y2⟩ := z4i (fin := fin) (H.1.below HR.below) (Ho HR.st.fin HN.out);have SL := hd1 hrun;have SC := hd1 (EZ y2 (by have := H.2; have := HN.out; rw [I9]; omega));have FN := hd1 (show fin <= N by have := HR.st.fin; have := HN.out; omega);clear hrun y2;cases hs : Wm.split (l.drop fin) with
     | none =>
      have NO := hd1 (HR.st.cut hlt hs);have HS2 := hd1 hs;have RC := hd1 (λ (W : World) => z6m (w := W) (F := λ _ => False) (v := .slice none 0 0) (l := []) (IB ⟨rfl, rfl⟩) GY);obtain ⟨er, sc⟩ := EY SC.out hs;have SN := hd1 sc;clear hs sc SC;by_cases he : er = 0
      ·subst he
       go_upto_region 11 with (first
        | (refine vo rfl 31 (.tmp 54) (.tmp 55) rfl (.slice a N c) (.int .i64 (fin : Int)) rfl rfl _ SL.out ?_)
        | (go_at_call 132; refine SN.mono ?_; rintro e w1 ⟨b1, rfl⟩)
        | (go_at_call 134; refine (RC.out _).mono ?_; rintro e w3 ⟨b3, key, value, ok, rfl, _⟩))
       have BZ := hd1 (HR.below.trans ((b1.trans (b3.mono b1.size)).mono HR.below.size));have uH := hd1 ((b3.block _ (Je (aa HR.rz) b1.size)).trans ((b1.block _ (aa HR.rz)).trans HR.rz));have lz := aa uH.out;obtain ⟨W4, fq⟩ := G8 (w3.alloc (.cells #[ag key, ag value] fC));rw [fq];have RZ := hd1 (show W4.heap[w.heap.size]? = some (.cells dM aR) by rw [<-fq]; exact aM lz uH.out);have BW := hd1 (show Below w w W4 by rw [<-fq]; exact BZ.alloc BZ.size _);clear b1 b3 BZ uH lz fq;have ne : Nonempty (Wd (Below W4 W4)) := ⟨⟨_, Below.refl _ _⟩⟩;exact Sq
      ·go_upto_region 11 with (first
        | (refine vo rfl 31 (.tmp 54) (.tmp 55) rfl (.slice a N c) (.int .i64 (fin : Int)) rfl rfl _ SL.out ?_)
        | (go_at_call 132; refine SN.mono ?_; rintro e w1 ⟨b1, rfl⟩)
        | (go_at_call 134; refine (RC.out _).mono ?_; rintro e w3 ⟨b3, key, value, ok, rfl, _⟩))
       have BZ := hd1 (HR.below.trans ((b1.trans (b3.mono b1.size)).mono HR.below.size));have uH := hd1 ((b3.block _ (Je (aa HR.rz) b1.size)).trans ((b1.block _ (aa HR.rz)).trans HR.rz));have lz := aa uH.out;obtain ⟨W4, fq⟩ := G8 (w3.alloc (.cells #[ag key, ag value] fC));rw [fq];have RZ := hd1 (show W4.heap[w.heap.size]? = some (.cells dM aR) by rw [<-fq]; exact aM lz uH.out);have BW := hd1 (show Below w w W4 by rw [<-fq]; exact BZ.alloc BZ.size _);clear b1 b3 BZ uH lz fq;have ne : Nonempty (Wd (Below W4 W4)) := ⟨⟨_, Below.refl _ _⟩⟩;exact Sq
     | some p =>
      obtain ⟨bd, k⟩ := p;have SP := hd1 (jA hs);have hk0 : ¬ k = 0 := Hm SP.1;have hkb : ((k : Int) == 0) = false := by simpa using hk0
      have HS2 := hd1 hs;clear hs
      go_upto_region 10 with (first
       | (refine vo rfl 31 (.tmp 54) (.tmp 55) rfl (.slice a N c) (.int .i64 (fin : Int)) rfl rfl _ SL.out ?_)
       | (go_at_call 132; refine SC.mono ?_; intro e w1 h1; unfold uI at h1; rw [HS2.out] at h1; obtain ⟨b1, v1, rfl, y1⟩ := h1))
      obtain ⟨a1, c1, rfl⟩ := y1.slice;have RC := hd1 (z6m y1 Mv);generalize bd.length = bn at *
      go_upto_region 11 with (first
       | (go_at_call 134; refine RC.mono ?_; rintro e w3 ⟨b3, key, value, ok, rfl, l1, l2, hok, hrr⟩))
      have BZ := hd1 (b1.trans (b3.mono b1.size));have lz := BZ.size;obtain ⟨W4, fq⟩ := G8 (w3.alloc (.cells #[ag key, ag value] fC));rw [fq];have BY := hd1 (show Below wr wr W4 by rw [<-fq]; exact BZ.alloc lz _);have HRR := hd2 hok hrr;have rZ := hd1 (show W4.heap[w3.heap.size]? = some (.cells #[ag key, ag value] fC) by rw [<-fq]; exact II _ _);have RZ := hd1 ((BY.block _ (aa HR.rz)).trans HR.rz);have RQ := hd1 ((BY.block _ (aa HR.rq)).trans HR.rq);have BW := hd1 (HR.below.trans (BY.mono HR.below.size));have w3q : w3.heap.size ≠ q := Hm (aa HR.rq);have S34 := hd1 (show w3.heap.size < W4.heap.size from aa rZ.out);clear b1 b3 lz fq y1 RC kx hok hrr;have kx := ae RQ.out (j := 1) rfl;have zq := aU RQ.out 1;have k14 := ae rZ.out (j := 0) rfl;have ne : Nonempty (Wd (Below W4 W4)) := ⟨⟨_, Below.refl _ _⟩⟩;have f14 : ∀ y : Wd (Below W4 W4), y.world.cell? w3.heap.size = some (ag key) := λ y => aN y.ok k14;have fx : ∀ y : Wd (Below W4 W4), y.world.cell? (q, 1) = some (.slice xa i xc) := λ y => aN y.ok kx;obtain ⟨g3, hg3⟩ := G8 w3.heap.size;rw [hg3] at rZ S34 w3q k14 f14 ⊢;clear hg3;cases ok with
      | false =>
       have NO := hd1 (HR.st.bad hlt HS2.out (by rw [HRR.2 last, IA (λ h => by cases h.1)]));exact Sq
      | true =>
       have NEXT := hd1 (show ¬ key <= last -> pg l M QQ (i + 1) (fin + k) (R ++ [(key, value)]) (D.put (.string key) (.lit (.string value))) key from λ h => HR.st.next hlt HS2.out (by rw [HRR.2 last, IE ⟨rfl, h⟩]));have e2 : IntKind.i64.wrap ((fin : Int) + (k : Int)) = ((fin + k : Nat) : Int) := Jd _ (by have h2 := SP.2.1; have := H.2; have := HN.out; have := FN.out; rw [I9] at h2; omega);have z2y := hd1 (HR.own.later BY.out);by_cases hz : i = 0
       ·have i2 : ¬ 0 < i := GX
        have NX := hd1 (NEXT.out (by rw [HR.st.start hz]; exact λ h => HRR.1 rfl (KW h (List.nil_le _))));have HZ := hd1 hz;clear hz;exact Sr
       ·obtain ⟨j, hj⟩ : ∃ j, j + 1 = i := ⟨i - 1, GX⟩
        have i2 : 0 < i := GX;have j0 : (0 : Int) <= (j : Int) := GX;have j1 : (j : Int) < (i : Int) := GX;have e1 : IntKind.i64.wrap ((i : Int) - 1) = (j : Int) := by
         have : (i : Int) - 1 = (j : Int) := GX;rw [this];exact Jd _ (Hm HG.2.2)
        obtain ⟨⟨lk, lv⟩, hr⟩ : ∃ r, R[j]? = some r := ⟨_, IX GX⟩;have hlast : lk = last := HR.st.ends (lk, lv) (by rw [show i - 1 = j by omega]; exact hr) hz;subst hlast;obtain ⟨pb, po, rfl, _, plt, rg⟩ := z2y.at.at hr;have k87 : W4.cell? ⟨pb, po + j * 2, none⟩ = some (ag lk) := rg 0 _ rfl;have f87 : ∀ y : Wd (Below W4 W4), y.world.cell? ⟨pb, po + j * 2, none⟩ = some (ag lk) := λ y => aN y.ok k87;have HJ := hd2 hj hz;clear hr rg plt hj hz;by_cases hle : key <= lk
        ·have NO := hd1 (HR.st.bad hlt HS2.out (by rw [HRR.2 lk, IA (λ h => h.2 hle)]))
         by_cases Ck : key = lk
         ·have q1 : (key == lk) = true := by simp [Ck]
          clear hle Ck;exact Sq
         ·have q1 : Op.bytesLess key lk = true := by rw [uA]; simpa using x3t hle Ck
          clear hle Ck;exact Sq
        ·have q1 : Op.bytesLess key lk = false := by rw [uA]; simpa using (show lk <= key from (LY key lk).resolve_left hle)
         have q2 : (key == lk) = false := by simpa using (λ e : key = lk => hle (by rw [e]; exact KX _))
         have NX := hd1 (NEXT.out hle);clear hle;exact Sr
    ·obtain rfl : i = M := GX
     have hQ : QQ = some (D, fin) := by
      have := HR.st.cZ;rw [J_] at this;exact this.symm
     have HBG := hd1 (show Em.fe l = some (g, D, fin) by rw [HBE.out, hQ]; rfl);clear hQ hlt;have BOK := hd1 (Br HBG.out);obtain ⟨Q2, hQ2⟩ := G8 (Em.dN l (l.length + 1) fin D 0);have RT := hd1 (show aH l = ⟨g, Q2.1, Q2.2.1, Q2.2.2⟩ by unfold aH; rw [HBG.out]; simp only [hQ2])
     have ST2 := hd1 (show RtB w wr q g l Q2 0 fin R D (.slice xa i xc) 0 from
      ⟨HR.below, HR.rz, HR.rq, HR.own.at, ⟨⟨l.length, hQ2, GX⟩, HR.st.rows, HR.st.ok, HR.st.tidy, BOK.2.2.1, HR.st.fin, IY _⟩⟩)
     clear hQ2 HR hlen;obtain ⟨W0', hW0'⟩ : ∃ W, W = wr := ⟨wr, rfl⟩;subst hW0';go_wp2;go_loopw [4] (λ s4 wr => ∃ (n fin : Nat) (R : Em.bB) (D : Em.Rows) (x : Value) (f : Nat), s4 = .int .i64 (fin : Int) /\ RtB w wr q g l Q2 n fin R D x f) (λ s _ => N - (intOf s).toNat)
     case atStart => exact ⟨0, fin, R, D, _, 0, rfl, ST2.out⟩
     case round =>
      clear ST2;obtain ⟨n, fin, R, D, x, f, rfl, hrel⟩ := hrel;obtain ⟨xa, xc, e1⟩ := hrel.pairs.slice;have hlen : R.length <= 256 := by rw [<-hrel.st.rows, Em.pG]; exact hrel.st.few
      subst e1;have HR := hd1 hrel;have HL := hd1 hlen;clear hrel hlen;have z3 := aU HR.rq 3;have k3 := ae HR.rq (j := 3) rfl;go_upto_region 16 with fail
      obtain ⟨V, eV, rV, mV⟩ := fV HR.rq 3 (.int .i64 (fin : Int));rw [eV];have lq := aa HR.rq;have BV := hd1 (show Below w w V from Moves.new HR.below mV (Jt HQ.out));have xu := hd1 ((mV.block _ (aa HR.rz) (Hm HQ.out)).trans HR.rz);have RV := hd1 (show V.heap[q]? = some (.cells #[.int .i64 g, .slice xa R.length xc, .int .i64 n, .int .i64 fin] aR) from rV);have PV := hd1 (HR.pairs.moves mV (λ b hb _ e => by subst e; exact Nat.lt_irrefl _ hb));have oU := hd2 HR.st (show fin <= N by have := HR.st.inside; have := HN.out; omega);clear eV rV mV z3 k3 HR lq;have FIN := hd1 (show ∀ W, Below w w W -> dw W (λ k => q < k) (.slice xa R.length xc) R -> Em.eP l fin D = none -> xe w l (.returned (.agg #[.int .i64 g, .slice xa R.length xc, .int .i64 n, .int .i64 fin])) W from λ W hb hp hg => by
       have e := oU.1.stop hg;have er : aH l = ⟨g, D, n, fin⟩ := by rw [RT.out, e]
       refine ⟨hb, .slice xa R.length xc, by rw [er], ?_⟩;rw [er];show dw W _ _ (Em.tell D);rw [oU.1.rows];exact hp.weak (λ b hb _ => Hm HQ.out))
      obtain ⟨a2, c2, hrun, y2⟩ := z4i (fin := fin) (H.1.below BV.out) oU.2;have SL := hd1 hrun;have SC := hd1 (EZ y2 (by have := H.2; have := HN.out; rw [I9]; omega));clear hrun y2;generalize hrn : R.length = rn at *;have HRN := hd1 hrn;clear hrn;cases hs : Wm.split (l.drop fin) with
      | none =>
       have NO := hd1 (y9s (D := D) hs);have HS2 := hd1 hs;obtain ⟨er, sc⟩ := EY SC.out hs;have SN := hd1 sc;clear hs sc SC;by_cases he : er = 0
       ·subst he
        go_upto_region 17 with (first
         | (refine vo rfl 31 (.tmp 105) (.tmp 106) rfl (.slice a N c) (.int .i64 (fin : Int)) rfl rfl _ SL.out ?_)
         | (go_at_call 132; refine SN.mono ?_; rintro e w1 ⟨b1, rfl⟩))
        have RZ := hd1 ((b1.block _ (aa xu.out)).trans xu.out);have kV := hd1 ((b1.block _ (aa RV.out)).trans RV.out);have o8 := hd1 (PV.later b1);have mY := hd1 (BV.trans (b1.mono BV.size));clear b1;exact Oy
       ·go_upto_region 17 with (first
         | (refine vo rfl 31 (.tmp 105) (.tmp 106) rfl (.slice a N c) (.int .i64 (fin : Int)) rfl rfl _ SL.out ?_)
         | (go_at_call 132; refine SN.mono ?_; rintro e w1 ⟨b1, rfl⟩))
        have RZ := hd1 ((b1.block _ (aa xu.out)).trans xu.out);have kV := hd1 ((b1.block _ (aa RV.out)).trans RV.out);have o8 := hd1 (PV.later b1);have mY := hd1 (BV.trans (b1.mono BV.size));clear b1;exact Oy
      | some p =>
       obtain ⟨bd, k⟩ := p;have SP := hd1 (jA hs);have hk0 : ¬ k = 0 := Hm SP.1;have hkb : ((k : Int) == 0) = false := by simpa using hk0
       have HS2 := hd1 hs;clear hs
       go_upto_region 17 with (first
        | (refine vo rfl 31 (.tmp 105) (.tmp 106) rfl (.slice a N c) (.int .i64 (fin : Int)) rfl rfl _ SL.out ?_)
        | (go_at_call 132; refine SC.mono ?_; intro e w1 h1; unfold uI at h1; rw [HS2.out] at h1; obtain ⟨b1, v1, rfl, y1⟩ := h1))
       obtain ⟨a1, c1, rfl⟩ := y1.slice;have BC := hd1 (y9e y1 Mv);generalize bd.length = bn at *;go_upto_region 20 with (go_at_call 135; refine BC.mono ?_; rintro e w3 ⟨b3, v3, cs, ok, rfl, hcs, hcl, hy, hn⟩)
       obtain ⟨a3, c3, rfl⟩ := hcs.slice;have D_ := hd1 (b1.trans (b3.mono b1.size));have RZ := hd1 ((D_.block _ (aa xu.out)).trans xu.out);have kV := hd1 ((D_.block _ (aa RV.out)).trans RV.out);have o8 := hd1 (PV.later D_.out);have mY := hd1 (BV.trans (D_.mono BV.size));have D5 := hd4 hcs hcl hy hn;clear b1 b3 y1 hcs hcl hy hn BC;generalize hcn : cs.length = cn at *;have HCN := hd1 hcn;clear hcn;cases ok with
       | false =>
        have NO := hd1 (z6x (D := D) HS2.out (λ c hc h0 => D5.2.2.2 rfl c hc (Em.jW h0).1));exact Oy
       | true =>
        obtain ⟨hrb, Ce⟩ := D5.2.2.1 rfl;have AC := hd1 (FJ o8.out (Ho HL.out HRN.out) D5.1 (Ho D5.2.1 HCN.out));have RL := hd1 (show Em.oH R cs = if Em.aX D cs = 0 then (Em.tell (Em.behind D cs), 0) else (Em.tell D, Em.aX D cs) by rw [<-oU.1.rows]; exact Em.Bv oU.1.ok oU.1.tidy cs);have uQ := hd1 hrb;clear hrb Ce;have k1 := ae kV.out (j := 1) rfl;by_cases hd : Em.aX D cs = 0
        ·have NX := hd1 (oU.1.next HS2.out uQ.out hd)
         rw [RL.out, IE hd] at AC;clear hd;go_upto_region 23 with (go_at_call 14; refine AC.mono ?_; rintro e w4 ⟨v4, rfl, p4, b4⟩)
         obtain ⟨a4, c4, rfl⟩ := p4.slice;have R4 := hd1 ((b4.block _ (aa kV.out)).trans kV.out);have DI := hd1 ((b4.block _ (aa RZ.out)).trans RZ.out);have B4 := hd1 (mY.trans (b4.mono mY.size));have P4 := hd1 (show dw w4 (λ k => q < k) _ (Em.tell (Em.behind D cs)) from p4.weak (λ b hb _ => by have := aa kV.out; rcases hb with hb | hb <;> omega));have e2 : IntKind.i64.wrap ((fin : Int) + (k : Int)) = ((fin + k : Nat) : Int) := Jd _ (by have h2 := SP.2.1; have := H.2; have := HN.out; have := oU.2; rw [I9] at h2; omega);have e3 : IntKind.i64.wrap ((n : Int) + 1) = ((n + 1 : Nat) : Int) := Jd _ (Hq oU.1.many oU.2 H.2);have n0 : (0 : Int) <= (n : Int) := GX;clear b4 p4 k1;have k2 := ae R4.out (j := 2) rfl;have kk1 := ae R4.out (j := 1) rfl;have z1 := aU R4.out 1;obtain ⟨V5, eV5, FK, mV5⟩ := fV R4.out 1 (.slice a4 (Em.tell (Em.behind D cs)).length c4);generalize x4y : (Em.tell (Em.behind D cs)).length = rn4 at *;have z2 := aU FK 2;have HV5 := hd2 FK mV5;have EV5 := hd1 eV5;rw [<-eV5] at z2;clear eV5 FK mV5 x4y;go_upto_region 25 with fail
         go_wp2;rw [EV5.out];obtain ⟨V6, eV6, rV6, mV6⟩ := fV HV5.1 2 (.int .i64 ((n : Int) + 1));rw [eV6];have mV := HV5.2.trans mV6 (λ _ _ h => h)
         have ST6 := hd1 (show RtB w V6 q g l Q2 (n + 1) (fin + k) (Em.tell (Em.behind D cs)) (Em.behind D cs) (.slice a4 rn4 c4) fin from
          ⟨Moves.new B4.out mV (Jt HQ.out), (mV.block _ (aa DI.out) (Hm HQ.out)).trans DI.out, (by rw [show ((n + 1 : Nat) : Int) = (n : Int) + 1 from GX]; exact rV6), P4.moves mV (λ b hb _ e => by subst e; exact Nat.lt_irrefl _ hb), NX.1⟩)
         clear eV6 rV6 mV6 mV;go_roundw;case rel => exact ⟨n + 1, fin + k, _, _, _, fin, by go_num, ST6.out⟩
         case measure => have := SP.1; have := ST6.st.inside; have := HN.out; simp [intOf]; omega
        ·have NO := hd1 (z6x (D := D) HS2.out (λ c hc h0 => by rw [uQ.out] at hc; cases hc; exact hd h0))
         rw [RL.out, IA hd] at AC;have HD := hd1 hd;generalize Em.aX D cs = er at *;go_upto_region 23 with (go_at_call 14; refine AC.mono ?_; rintro e w4 ⟨v4, rfl, p4, b4⟩)
         obtain ⟨a4, c4, rfl⟩ := p4.slice;generalize (Em.tell D).length = rn4 at *;have RV2 := hd1 ((b4.block _ (aa kV.out)).trans kV.out);have DI := hd1 ((b4.block _ (aa RZ.out)).trans RZ.out);have B4 := hd1 (mY.trans (b4.mono mY.size));have P4 := hd1 (o8.later b4);clear b4 p4 k1 kV RZ mY o8;have kV := hd1 RV2.out;have RZ := hd1 DI.out;have mY := hd1 B4.out;have o8 := hd1 P4.out;exact Oy
end
end Go.Proofs.YtgffifleflkjoaaGreat
