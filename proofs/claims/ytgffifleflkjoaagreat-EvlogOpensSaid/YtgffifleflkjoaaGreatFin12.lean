/-
  Parts of a proof.
-/
import Derived.Test.YtgffifleflkjoaaGreatFin08
import Derived.Test.YtgffifleflkjoaaGreatFin10
import Derived.Laws.Tables
import Derived.Lib.AppendZeros
import Derived.Lib.AppendStr
import Derived.Maps.Range
set_option linter.unusedSimpArgs false
set_option linter.unusedVariables false
set_option maxRecDepth 100000
set_option maxHeartbeats 16000000
namespace Go.Proofs.YtgffifleflkjoaaGreat
open _root_.Go.Proofs.Tryz
variable {w W w' w0 wr w1 W0 W1 W2 A B : World} {F G F' O : Nat → Prop} {v : Value} {l : List UInt8} {n q m pd md pl g p : Nat} {C : Array Value} {c : Int}
open Go.RowKit
def jC (r : Nat) : Array Value := (w32 r :: (List.range 256).map λ j => w32 (Cm.tab j)).toArray
theorem z5u (r : Nat) : (jC r).size = 257 := by simp [jC]
theorem y7i (r s : Nat) : (jC r).setIfInBounds 0 (w32 s) = jC s := by simp [jC]
theorem y7j (r j : Nat) (h : j < 256) : (jC r)[1 + j]? = some (w32 (Cm.tab j)) := by
 rw [Nat.add_comm];simp [jC, h]
theorem y7h (r : Nat) : (jC r).all (·.oneCell') = true := by
 rw [JD];intro x hx;simp only [jC, List.mem_toArray, J5, Jl] at hx;rcases hx with rfl | ⟨j, _, rfl⟩ <;> rfl
theorem BytesAt.byte {a : Option Addr} {c : Nat} (x : BytesAt w.heap F (.slice a n c) l) {k : Nat} {u : UInt8} (h : l[k]? = some u) :
 ∃ b o, a = some ⟨b, o, none⟩ /\ F b /\ b < w.heap.size /\ w.cell? ⟨b, o + k, none⟩ = some (bL u) := by
 rcases x with ⟨_, rfl⟩ | ⟨b, o, cap, c', t, fr, h1, _, _, g2, g3, g4⟩
 ·simp at h
 ·exact ⟨b, o, (Jw h1).1, g2, aa g3, (IJ _ _ _ _ _ _ g3).trans (g4 k u h)⟩
theorem x3g (R c : Nat) (hc : c < 256) : bits .xor .u8 (IntKind.u8.wrap (R : Int)) (c : Int) = (((R ^^^ c) % 256 : Nat) : Int) := by
 rw [IntKind.wrap_u8', show (R : Int) % 256 = ((R % 256 : Nat) : Int) by omega, u8_xor_nat _ _ GR hc];have : (R ^^^ c) % 2 ^ 8 = (R % 2 ^ 8) ^^^ (c % 2 ^ 8) := Nat.xor_mod_two_pow;rw [show (256 : Nat) = 2 ^ 8 from rfl, this, KM (a := c) (by simpa using hc)]
theorem y4p (R T : Nat) (hR : R < 4294967296) (hT : T < 4294967296) : bits .xor .u32 ((R : Int) / 256) (T : Int) = ((R / 256 ^^^ T : Nat) : Int) := by
 rw [show (R : Int) / 256 = ((R / 256 : Nat) : Int) by omega, K4 _ _ GR hT]
theorem x6a (g r : Nat) (w : World) (hr : r < 4294967296) (hg : w.heap[g]? = some (.cells (jC r) mP (0, 0))) (hv : BytesAt w.heap (λ k => k ≠ g) v l) (hl : l.length <= 9223372036854775807) :
 Calls prog 214 #[g, v] w λ e w' => e = .returned (.tuple #[]) /\ w'.heap[g]? = some (.cells (jC (Cm.fO r l)) mP (0, 0)) /\ Moves (λ k => k = g) w w' /\ w'.heap.size = w.heap.size := by
 obtain ⟨a, cap, rfl⟩ := hv.slice;have HV := hd1 hv;generalize hn : l.length = n at *;have H := hd3 hg hr hn;clear hv hg hr hn;go_in;go_wp2;go_loopw [5, 8] (λ _ s wr => ∃ k : Nat, k <= n /\ s = .int .i64 (k : Int) /\ wr.heap[g]? = some (.cells (jC (Cm.fO r (l.take k))) mP (0, 0)) /\ Moves (λ j => j = g) w wr /\ wr.heap.size = w.heap.size) (λ _ s _ => n - (intOf s).toNat)
 case atStart => exact ⟨0, IV _, rfl, H.1, Moves.refl _ _, rfl⟩
 case round =>
  obtain ⟨k, hk, rfl, hrow, hm, hz⟩ := hrel;by_cases hlt : k < n
  ·have h0 : (0 : Int) <= (k : Int) := GR
   have h1 : (k : Int) < (n : Int) := GR;obtain ⟨u, hu⟩ : ∃ u, l[k]? = some u := ⟨_, IR (by rw [H.2.2]; exact hlt)⟩;obtain ⟨b, o, rfl, hbg, hbl, hc⟩ := HV.byte hu;have hcell : wr.cell? ⟨b, o + k, none⟩ = some (.int .u8 u.toNat) := by
    rw [IW (w := w) (a := ⟨b, o + k, none⟩) (hm.block b hbl hbg)]; exact hc
   have z0t : Cm.fO r (l.take k) < 4294967296 := Cm.Bd _ H.2.1;have hnext : Cm.fO r (l.take (k + 1)) = Cm.uj (Cm.fO r (l.take k)) u.toNat := by
    rw [JC, hu, Cm.z6k]; rfl
   generalize Cm.fO r (l.take k) = R at *;have k0 : wr.cell? g = some (.int .u32 R) := ae hrow rfl;have z0 : wr.frozen? ⟨g, 0, none⟩ = false := aZ hrow 0;have u0 : (0 : Int) <= (u.toNat : Int) := GR;have u1 : (u.toNat : Int) < 256 := Hf u.toNat_lt;have r0 : (0 : Int) <= (R : Int) := GR;have r1 : (R : Int) < 4294967296 := GR;have H2 := hd4 hrow hm hz hnext;clear hrow hm hz hnext hc hu;have hx := x3g R u.toNat u.toNat_lt;have hj : (R ^^^ u.toNat) % 256 < 256 := Kt _ GU;have hw := y4p R (Cm.tab ((R ^^^ u.toNat) % 256)) z0t (Cm.xV 8 GR);have kj : wr.cell? ⟨g, 1 + (R ^^^ u.toNat) % 256, none⟩ = some (w32 (Cm.tab ((R ^^^ u.toNat) % 256))) := ae H2.1 (y7j R _ hj);obtain ⟨N, hN⟩ := G5 (R / 256 ^^^ Cm.tab ((R ^^^ u.toNat) % 256));have HN := hd1 (show Cm.uj R u.toNat = N from hN);rw [hN] at hw;clear hN;generalize Cm.tab ((R ^^^ u.toNat) % 256) = T at *;generalize (R ^^^ u.toNat) % 256 = j at *;have j0 : (0 : Int) <= (j : Int) := GR;have j1 : (j : Int) < 256 := GR;go_upto_region 3 with fail
   refine qB 24 GQ GQ ?_;simp only [Jt, JN, JO, JP];repeat still_step
   refine Kg ?_;refine IE rfl λ K hK => ?_;go_simp;refine hK _ _ ?_;simp only [wpList];go_wp2;go_roundw
   case rel =>
    obtain ⟨r1, m1⟩ := EX (o := 0) (w32 N) H2.1;refine ⟨k + 1, GR, by go_num, ?_, H2.2.1.trans m1 (λ _ _ h => h), ?_⟩
    ·rw [H2.2.2.2, HN.out, <-y7i R N]; exact r1
    ·simpa using H2.2.2.1
   case measure => simp [intOf]; omega
  ·obtain rfl : k = n := GR
   have H2 := hd3 hrow hm hz;clear hrow hm hz;go_wp2;go_end0
   refine ⟨rfl, ?_, H2.2.1, H2.2.2⟩;have := H2.1;rwa [Je (by rw [H.2.2]; omega)] at this
def nP (w : World) (F : Nat -> Prop) (pv : Value) (l : List UInt8) : Prop := ∃ b v, pv = .slice (some ⟨b, 0, none⟩) 1 1 /\ w.cell? ⟨b, 0, none⟩ = some v /\ BytesAt w.heap F v l
theorem nP.below {pv : Value} (h : nP w F pv l) (hb : Below w w w') : nP w' F pv l := by
 obtain ⟨b, v, h1, h2, h3⟩ := h;exact ⟨b, v, h1, (hb.cell (p := ⟨b, 0, none⟩) (IX h2)).trans h2, h3.below hb⟩
theorem iT {P : Program} {ops : Array Oper} {rest : List Oper} {o : Oper} {a : Act} {Q : Exit -> Act -> World -> Prop} (hg : o.guard = none) (t : TypeId) (parts : Array (Nat × Operand)) (ho : o.op = .build t parts) (cells : Array Value)
 (hb : P.built t (parts.map λ (i, x) => (i, a.eval x)).toList = some cells) (h : wpList P ops Q rest (a.put o.dst (.agg cells)) w) : wpList P ops Q (o :: rest) a w :=
 wpList_build hg t parts ho (by rw [hb]; rfl) (by rw [hb]; exact h)
theorem x9y (r : Nat) : prog.built mP [(0, .agg #[w32 r]), (1, .agg (gV 256))] = some (jC r) := GQ
theorem x1f (n : Nat) (h : n < 4294967296) : bits .xor .u32 IntKind.u32.max (n : Int) = ((Cm.top - n : Nat) : Int) := by
 rw [show IntKind.u32.max = ((4294967295 : Nat) : Int) from by decide +kernel, K4 _ n GU h, Cm.y5w h];rfl
theorem x7u {pv : Value} (h : nP w F pv l) (hl : l.length <= 9223372036854775807) :
 Calls prog 196 #[.int .u32 0, pv] w λ e w' => e = .returned (w32 (Cm.sum l)) /\ Below w w w' := by
 obtain ⟨b, v, rfl, hc, hv⟩ := h;have H := hd2 hc hv;clear hc hv;obtain ⟨T, hT, hT2⟩ : ∃ T : Nat, bits .xor .u32 IntKind.u32.max 0 = (T : Int) /\ T = Cm.top := ⟨Cm.top, by decide +kernel, rfl⟩;have HT := hd1 hT2;clear hT2;go_in;go_wp2_with fail
 refine (x7z w).mono ?_;rintro e w1 ⟨rfl, hb1⟩
 go_wp2_with (first
  | (refine iT rfl mP #[(0, .tmp 10), (1, .tmp 11)] rfl (jC T) (by simp only [Jo, Jj, Jm, Act.eval]; exact x9y T) ?_)
  | (refine aC rfl mP _ _ rfl w1.heap.size (jC T) rfl rfl mP Tryz.zeroCells291 (IC w1 _) (by rw [infoRun, z5u]) (by rw [z5u]; kernel_rfl) (y7h _) ?_; intro W2 HW2 cu HS2))
 have hb2 : Below w w W2 := hb1.trans ((Moves.new (bla) cu GZ : Below w1 w1 W2).mono hb1.size);have z1 := hb1.size;have kb : W2.cell? b = some v := (hb2.cell (p := ⟨b, 0, none⟩) (IX H.1)).trans H.1;have hvb : BytesAt W2.heap (λ k => k ≠ w1.heap.size) v l := H.2.keeps (λ k _ hl => hb2.block k hl) (λ k _ hl => GR);have TK := hd1 (x6a w1.heap.size T W2 (by rw [HT.out]; decide) HW2.out hvb hl);have H2 := hd2 hb2 HW2.out;clear hb1 hb2 HW2 cu HS2 hvb hT;generalize w1.heap.size = g at *;go_loopw [7, 15] (λ _ s wr => ∃ k : Nat, k <= 1 /\ s = .int .i64 (k : Int) /\ (k = 0 -> wr = W2) /\ wr.heap[g]? = some (.cells (jC (if k = 0 then T else Cm.fO T l)) mP (0, 0)) /\ Moves (λ j => j = g) W2 wr) (λ _ s _ => 1 - (intOf s).toNat)
 case atStart => exact ⟨0, GR, rfl, λ _ => rfl, H2.2, Moves.refl _ _⟩
 case round =>
  obtain ⟨k, hk, rfl, he, hrow, hm⟩ := hrel;by_cases hlt : k < 1
  ·obtain rfl : k = 0 := GR
   obtain rfl := he rfl;clear he hm hrow;go_wp2_with (go_at_call 214; refine TK.mono ?_; rintro e w' ⟨rfl, hr1, hm1, hz1⟩)
   go_roundw;case rel => exact ⟨1, GR, by go_num, λ h => Od, hr1, hm1⟩
   case measure => simp [intOf]
  ·obtain rfl : k = 1 := GR
   rw [Iw GU] at hrow;have k0 : wr.cell? g = some (w32 (Cm.fO T l)) := ae hrow rfl;have HF := hd2 hm z1;clear he hm hrow;have hR : Cm.fO T l < 4294967296 := Cm.Bd l (by rw [HT.out]; decide);have hN := x1f (Cm.fO T l) hR;have HS : Hid (Cm.top - Cm.fO T l = Cm.sum l) := hd1 (by rw [HT.out]; rfl);generalize Cm.fO T l = R at *;have HN := hd1 hN;clear hN;go_wp2;go_ret;exact ⟨by rw [HN.out, HS.out]; rfl, Moves.new H2.1 HF.1 HF.2⟩
theorem y1z {pv : Value} (h : nP w F pv l) (hl : l.length <= 9223372036854775807) :
 Calls prog 172 #[pv] w λ e w' => e = .returned (w32 (Cm.sum l)) /\ Below w w w' := by
 have MC := hd1 (x7u h hl);clear h hl;go_in;go_wp2_with (go_at_call 196; refine MC.mono ?_; rintro e w1 ⟨rfl, hb1⟩)
 go_ret;exact ⟨rfl, hb1⟩
theorem lY (w : World) (base : Nat) : bY w base (.slice none 0 0) [] := ⟨rfl, Iy ⟨rfl, rfl⟩⟩
theorem one_byte (wr : World) (x : Int) (u : UInt8) (h : x = u.toNat) : BytesAt (wr.alloc (.cells #[.int .u8 x] bT)).heap (λ _ => True) (.slice (some wr.heap.size) 1 1) [u] := by
 refine Iz ⟨wr.heap.size, 0, 1, _, _, (0, 0), rfl, Nat.le_refl _, GU, trivial, IC wr _, λ i y hi => ?_⟩;match i, hi with
 | 0, hi => cases hi; rw [h]; rfl
 | i + 1, hi => simp at hi
theorem byte_of (n d : Nat) (x : Int) (h : x = ((n / d % 256 : Nat) : Int)) : x = ((UInt8.ofNat (n / d % 256)).toNat : Int) := by
 rw [h, Ll];congr 1
 exact (KM (Kt _ GU)).symm
def gT (w : World) (l : List UInt8) (e : Ending) (w' : World) : Prop := ∃ v, e = .returned v /\ bY w' w.heap.size v l /\ Below w.heap.size w w'
theorem y1y (n : Nat) (w : World) (hn : n < 4294967296) : Calls prog 171 #[w32 n] w (gT w (Cm.low n 4)) := by
 have h0 : (0 : Int) <= (n : Int) := GR;have h1 : (n : Int) < 4294967296 := GR;go_in;go_wp2;go_loopw [2, 3, 4] (λ v _ s wr => ∃ k : Nat, k <= 4 /\ s = .int .i64 (k : Int) /\ bY wr w.heap.size v (Cm.low n k) /\ Below w w wr) (λ _ _ s _ => 4 - (intOf s).toNat)
 case atStart => exact ⟨0, GR, rfl, lY _ _, Below.refl _ _⟩
 case round =>
  obtain ⟨k, hk, rfl, hown, hb⟩ := hrel;have HO := hd2 hown hb;clear hown hb;by_cases hlt : k < 4
  ·obtain rfl | rfl | rfl | rfl : k = 0 \/ k = 1 \/ k = 2 \/ k = 3 := GR
   ·go_wp2_with (at_builtin; refine dS rfl (.tmp 7) (.tmp 13) rfl w.heap.size w.heap.size w (HO.2.alloc HO.2.size _) GZ _ (Cm.low n 0) rfl (bi HO.1 (bla) GZ) _ [UInt8.ofNat (n / 1 % 256)] (λ _ => True) rfl (one_byte wr _ _ (byte_of n 1 _ GR)) Nw M7 ?_; intro v' w2 ho hb1 hb2)
    have H2 := hd2 ho.out hb1;clear ho hb1 hb2;go_wp2;go_roundw;case rel => exact ⟨0 + 1, GR, by go_num, H2.1, H2.2⟩
    case measure => simp [intOf]
   ·go_wp2_with (at_builtin; refine dS rfl (.tmp 7) (.tmp 13) rfl w.heap.size w.heap.size w (HO.2.alloc HO.2.size _) GZ _ (Cm.low n 1) rfl (bi HO.1 (bla) GZ) _ [UInt8.ofNat (n / 256 % 256)] (λ _ => True) rfl (one_byte wr _ _ (byte_of n 256 _ GR)) Nw M7 ?_; intro v' w2 ho hb1 hb2)
    have H2 := hd2 ho.out hb1;clear ho hb1 hb2;go_wp2;go_roundw;case rel => exact ⟨1 + 1, GR, by go_num, H2.1, H2.2⟩
    case measure => simp [intOf]
   ·go_wp2_with (at_builtin; refine dS rfl (.tmp 7) (.tmp 13) rfl w.heap.size w.heap.size w (HO.2.alloc HO.2.size _) GZ _ (Cm.low n 2) rfl (bi HO.1 (bla) GZ) _ [UInt8.ofNat (n / 65536 % 256)] (λ _ => True) rfl (one_byte wr _ _ (byte_of n 65536 _ GR)) Nw M7 ?_; intro v' w2 ho hb1 hb2)
    have H2 := hd2 ho.out hb1;clear ho hb1 hb2;go_wp2;go_roundw;case rel => exact ⟨2 + 1, GR, by go_num, H2.1, H2.2⟩
    case measure => simp [intOf]
   ·go_wp2_with (at_builtin; refine dS rfl (.tmp 7) (.tmp 13) rfl w.heap.size w.heap.size w (HO.2.alloc HO.2.size _) GZ _ (Cm.low n 3) rfl (bi HO.1 (bla) GZ) _ [UInt8.ofNat (n / 16777216 % 256)] (λ _ => True) rfl (one_byte wr _ _ (byte_of n 16777216 _ GR)) Nw M7 ?_; intro v' w2 ho hb1 hb2)
    have H2 := hd2 ho.out hb1;clear ho hb1 hb2;go_wp2;go_roundw;case rel => exact ⟨3 + 1, GR, by go_num, H2.1, H2.2⟩
    case measure => simp [intOf]
  ·obtain rfl : k = 4 := GR
   exact P6
theorem z2n (n : Nat) : (Builtin.zeroCells #[Value.int .u8 0] n).size = n := by simp [Builtin.zeroCells]
theorem x4f (n : Nat) (w : World) (hn : n <= 1099511627776) : Calls prog 215 #[(), .int .i64 n] w (gT w []) := by
 have h0 : (0 : Int) <= (n : Int) := GR;have h00 : ¬ (n : Int) < 0 := GR;have h1 : (n : Int) <= 1099511627776 := GR;rcases Mc n with rfl | hpos
 ·go_in
  go_wp2;go_ret;exact ⟨_, rfl, lY _ _, Below.refl _ _⟩
 ·have hp : (0 : Int) < (n : Int) := GR
  obtain ⟨i0, hi0, hz0, hz1, hz2⟩ := JG infoByte;have HR := hd1 (Lib.run_append_nil_zeros (P := prog) w df 3 df bT i0 (.int .u8 0) .i64 .i64 Ia Ih hi0 hz0 n hpos (by rw [hz1]; decide) GR (by rw [hz2]; omega));go_in;go_wp2_with (at_builtin; refine Lib.wpList_append_run _ rfl (.tmp 20) (.tmp 21) _ _ rfl _ _ rfl rfl _ _ HR.out ?_)
  go_ret;refine ⟨_, rfl, World.ownsRow_made w _ (grownCap w n 0 bT) GZ (grownCap_le_maxLen w n 0 bT Nr) ?_, (bla).drew⟩;have hg := grownCap_ge w n 0 bT;rw [Array.size_append, z2n, z2n];omega
theorem nP.cell {b : Nat} (h : w.cell? b = some v /\ BytesAt w.heap F v l) (hb : Below w w w') : w'.cell? b = some v /\ BytesAt w'.heap F v l :=
 ⟨(hb.cell (p := ⟨b, 0, none⟩) (IX h.1)).trans h.1, h.2.below hb⟩
theorem x7i {pv : Value} (h : nP w F pv l) (hl : l.length <= 1099511627776) : Calls prog 205 #[pv] w (gT w l) := by
 obtain ⟨b, v, rfl, hc, hv⟩ := h;obtain ⟨va, vc, rfl⟩ := hv.slice;have H := hd2 hc hv;clear hv;generalize hn : l.length = n at *;have HN := hd1 hn;clear hn;have n0 : (0 : Int) <= (n : Int) := GR;have n1 : (n : Int) <= 1099511627776 := GR;have n2 : ¬ (n : Int) < 0 := GR;go_in;go_wp2;go_loop [3, 5, 11] (λ z _ s => ∃ k : Nat, k <= 1 /\ s = .int .i64 (k : Int) /\ z = .int .i64 (if k = 0 then 0 else (n : Int))) (λ _ _ s => 1 - (intOf s).toNat)
 case atStart => exact ⟨0, GR, rfl, rfl⟩
 case round =>
  obtain ⟨k, hk, rfl, rfl⟩ := hrel;obtain rfl | rfl : k = 0 \/ k = 1 := GR
  ·rw [IA rfl]
   go_wp2;go_round
   case rel => exact ⟨1, GR, by go_num, by rw [Iw GU]⟩
   case measure => simp [intOf]
  ·rw [Iw GU]
   clear hc;go_wp2_with (go_at_call 215; refine (x4f n w hl).mono ?_; rintro e w1 ⟨gv, rfl, ho1, hb1⟩)
   have H1 := hd2 ho1 hb1;clear ho1 hb1;go_loopw [6, 8, 27] (λ x _ s wr => ∃ k : Nat, k <= 1 /\ s = .int .i64 (k : Int) /\ bY wr w.heap.size x (if k = 0 then [] else l) /\ Below w w wr) (λ _ _ s _ => 1 - (intOf s).toNat)
   case atStart => exact ⟨0, GR, rfl, H1.1, H1.2⟩
   case round =>
    obtain ⟨k, hk, rfl, hown, hb⟩ := hrel;obtain rfl | rfl : k = 0 \/ k = 1 := GR
    ·rw [IA rfl] at hown
     obtain ⟨c1, c2⟩ := nP.cell H.out hb;have HO := hd3 hown hb c2;clear hown hb c2;go_wp2_with (at_builtin; (refine dS rfl (.tmp 31) (.tmp 32) rfl w.heap.size w.heap.size w HO.2.1 GZ _ [] rfl HO.1 _ l F rfl HO.2.2 (by rw [HN.out]; simpa using hl) HO.2.1.size ?_); intro v' w2 ho hb1 hb2)
     have H2 := hd2 ho.out hb1;clear ho hb1 hb2;go_wp2;go_roundw;case rel => exact ⟨1, GR, by go_num, by simpa using H2.1, H2.2⟩
     case measure => simp [intOf]
    ·rw [Iw GU] at hown
     have HO := hd2 hown hb;clear hown hb;exact P6
theorem bY.at {base : Nat} (h : bY w base v l) : BytesAt w.heap (λ k => base <= k) v l := h.bytes.bytes
theorem x7w {pv : Value} (h : nP w F pv l) (hl : l.length <= 1000000000) : Calls prog 180 #[pv] w (gT w (Cm.dw l)) := by
 have H := hd1 h;have CC := hd1 (x7i h GR);have hs : Cm.sum l < 4294967296 := by unfold Cm.sum Cm.top; omega
 clear h;go_in
 go_wp2_with (first
  | (go_at_call 205; refine CC.mono ?_; rintro e w1 ⟨v1, rfl, o1, b1⟩
     have SC := hd1 (y1z (H.below b1) GR);have H1 := hd2 o1 b1;clear o1 b1)
  | (go_at_call 172; refine SC.mono ?_; rintro e w2 ⟨rfl, b2⟩
     have H2 := hd2 (bi H1.1 b2 GZ) (H1.2.trans (b2.mono H1.2.size));clear b2)
  | (go_at_call 171; refine (y1y _ _ hs).mono ?_; rintro e w3 ⟨v3, rfl, o3, b3⟩
     have H3 := hd3 (bi H2.1 b3 GZ) o3 (H2.2.trans (b3.mono H2.2.size));clear o3 b3)
  | (at_builtin; refine dS rfl (.tmp 4) (.tmp 7) rfl w.heap.size w.heap.size w H3.2.2 GZ _ l rfl H3.1 _ (Cm.low (Cm.sum l) 4) _ rfl H3.2.1.at (by rw [Cm.ol]; omega) H3.2.2.size ?_; intro v' w4 ho hb1 hb2))
 go_ret;exact ⟨_, rfl, ho.out, hb1⟩
theorem x5b {u : Value} {k : List UInt8} (h1 : BytesAt w.heap F u l) (h2 : BytesAt w.heap G v k) (hl : l.length <= 1000000000) (hk : k.length <= 1000000000) :
 Calls prog 170 #[u, v] w λ e w' => e = .returned (.bool (decide (l = k))) /\ Below w w w' := by
 obtain ⟨ua, uc, rfl⟩ := h1.slice;obtain ⟨va, vc, rfl⟩ := h2.slice;have H := hd2 h1 h2;clear h1 h2;by_cases hne : l.length = k.length
 ·generalize hn : l.length = n at *
  rw [<-hne];have HN := hd2 hn hne.symm;clear hn hne;go_in;go_wp2;go_loopw [5, 13] (λ _ s wr => ∃ i : Nat, i <= n /\ s = .int .i64 (i : Int) /\ (∀ j, j < i -> l[j]? = k[j]?) /\ Below w w wr) (λ _ s _ => n - (intOf s).toNat)
  case atStart => exact ⟨0, GR, rfl, λ j hj => absurd hj GR, Below.refl _ _⟩
  case round =>
   obtain ⟨i, hi, rfl, hall, hb⟩ := hrel;by_cases hlt : i < n
   ·have i0 : (0 : Int) <= (i : Int) := GR
    have i1 : (i : Int) < (n : Int) := GR;obtain ⟨x, hx⟩ : ∃ x, l[i]? = some x := ⟨_, IR (by rw [HN.1]; exact hlt)⟩;obtain ⟨y, hy⟩ : ∃ y, k[i]? = some y := ⟨_, IR (by rw [HN.2]; exact hlt)⟩;obtain ⟨b, o, rfl, _, hbl, hc⟩ := H.1.byte hx;obtain ⟨b', o', rfl, _, x4l, hc'⟩ := H.2.byte hy;have c1 : ∀ m, (wr.drewN m).cell? (b, o + i) = some (.int .u8 x.toNat) := λ m => ((below_drewN hb m).cell (p := ⟨b, o + i, none⟩) hbl).trans hc;have c2 : ∀ m, (wr.drewN m).cell? (b', o' + i) = some (.int .u8 y.toNat) := λ m => ((below_drewN hb m).cell (p := ⟨b', o' + i, none⟩) x4l).trans hc';have HA := hd4 hall hb hx hy;clear hall hb hx hy hc hc';go_upto_region 6 with fail
    by_cases hxy : x = y
    ·have HX := hd1 hxy
     have e1 : ((x.toNat : Int) != (y.toNat : Int)) = false := by rw [hxy]; simp
     clear hxy;go_quiet (fail)
     go_wp2;go_roundw;case rel => exact ⟨i + 1, GR, by go_num, λ j hj => by
      by_cases hji : j < i
      ·exact HA.1 j hji
      ·obtain rfl : j = i := GR
       rw [HA.2.2.1, HA.2.2.2, HX.out], below_drewN HA.2.1 _⟩
     case measure => simp [intOf]; omega
    ·have HX := hd1 hxy
     have e1 : ((x.toNat : Int) != (y.toNat : Int)) = true := by
      rw [KZ];exact λ q => hxy (J7.1 GR)
     clear hxy;go_quiet (fail)
     go_wp2;go_ret;refine ⟨?_, below_drewN HA.2.1 _⟩
     have : ¬ l = k := λ q => HX.out (by
      have e := HA.2.2.1;rw [q, HA.2.2.2] at e;exact (IM e).symm)
     rw [JV this];rfl
   ·obtain rfl : i = n := GR
    have HA := hd2 hall hb;clear hall hb;go_wp2;go_ret;refine ⟨?_, HA.2⟩;have : l = k := List.ext_getElem? λ j => by
     by_cases hj : j < i
     ·exact HA.1 j hj
     ·rw [List.getElem?_eq_none (by rw [HN.1]; omega), List.getElem?_eq_none (by rw [HN.2]; omega)]
    rw [Km this];rfl
 ·have e1 : ((l.length : Int) != (k.length : Int)) = true := by rw [KZ]; omega
  have HE := hd1 hne;clear hne;go_in;go_wp2;go_ret;refine ⟨?_, Below.refl _ _⟩;rw [JV (λ q => HE.out (by rw [q]))];rfl
section
variable {P : Program}
theorem y7k (w : World) (base : Nat) (t ty e : TypeId) (i : TypeInfo) (z : Value) (size bytes : Nat) (ht : P.underlying t = some (.slice e)) (hi : P.info? e = some i) (hz : i.zero = some z)
 (hsize : i.size = size) (hby : i.bytes = bytes) (hzs : z.cells.size = size) (hsz : 0 < size)
 (v : Value) (n : Nat) (xs : List Value) (hown : w.ownsRow base e size v n xs)
 (a : Addr) (m c : Nat) (news : List Value) (hl : news.length = m * size) (hnews : ∀ j u, news[j]? = some u -> w.cell? (a.add j) = some u) (h1 : ∀ u ∈ news, u.oneCell' = true)
 (h63 : n + m <= maxLen) (hbytes : (n + m) * bytes <= 140737488355328) (hbase : base <= w.heap.size) :
 ∃ v' w', (Builtin.append_ #[t, t] ty #[v, .slice (some a) m c]).run P w = .ok v' w' /\ w'.ownsRow base e size v' (n + m) (xs ++ news) /\ w.grownBy w' v.ownBlock ∧
  ∀ k, v'.ownBlock = some k -> v.ownBlock = some k \/ w.heap.size <= k := by
 obtain ⟨v', w', hr, h2, h3, h4⟩ := run_append_own (P := P) w base t ty e i z size bytes ht hi hz hsize hby hzs hsz v n xs hown a m c news hl hnews h1 h63 hbytes hbase;refine ⟨v', w', hr, h2, h3, λ k hk => ?_⟩;rcases hown.2 with ⟨rfl, rfl⟩ | ⟨g, cap, cur, rfl, hbg, hg, hnc, hcm, hcs, htake⟩
 ·obtain ⟨v2, w2, hr2, g2, _, _⟩ := run_append_own (P := P) w w.heap.size t ty e i z size bytes ht hi hz hsize hby hzs hsz (.slice none 0 0) 0 xs ⟨hown.1, Iy ⟨rfl, rfl⟩⟩ a m c news hl hnews h1 h63 hbytes GZ
  exact QC
 ·subst hsize
  subst hby;by_cases hroom : n + m <= cap
  ·have hfit : n * i.size + news.length <= cur.size := by rw [hl, hcs, <-Nat.add_mul]; exact Kj _ hroom
   have hr2 := run_append_room (P := P) w t ty e i ht hi g n cap cur hg a m c news hl hnews h1 hroom hfit;rw [hr] at hr2;cases hr2;exact Iy hk
  ·have holds : ∀ j u, xs[j]? = some u -> w.cell? ((⟨g, 0, none⟩ : Addr).add j) = some u := hown.cells (g := g) rfl
   have hr2 := run_append_grow (P := P) w t ty e i z ht hi hz ⟨g, 0, none⟩ n cap xs hown.1 holds a m c news hl hnews GR (by unfold maxLen at h63; omega) (growslice_fits GR hbytes);exact Re
theorem Ej {ops : Array Oper} {rest : List Oper} {o : Oper} {a : Act} {Q : Exit -> Act -> World -> Prop} (hgd : o.guard = none) (s x : Operand) (t : TypeId)
 (ho : o.op = .call { callee := .builtin .append, args := #[s, x], argTypes := #[t, t] })
 (base : Nat) (e : TypeId) (z : Value) (size bytes : Nat) (ht : P.underlying t = some (.slice e)) (hi : (P.info? e).map (λ i => (i.zero, i.size, i.bytes)) = some (some z, size, bytes))
 (hzs : z.cells.size = size) (hsz : 0 < size)
 (v : Value) (n : Nat) (xs : List Value) (hs : a.eval s = v) (hown : w.ownsRow base e size v n xs)
 (ad : Addr) (m c : Nat) (news : List Value) (hx : a.eval x = .slice (some ad) m c) (hl : news.length = m * size) (hnews : ∀ j u, news[j]? = some u -> w.cell? (ad.add j) = some u) (h1 : ∀ u ∈ news, u.oneCell' = true)
 (h63 : n + m <= maxLen) (hbytes : (n + m) * bytes <= 140737488355328) (hbase : base <= w.heap.size)
 (h : ∀ v' w', Hid (w'.ownsRow base e size v' (n + m) (xs ++ news)) -> Hid (w.grownBy w' v.ownBlock) -> Hid (∀ k, v'.ownBlock = some k -> v.ownBlock = some k \/ w.heap.size <= k) -> wpList P ops Q rest (a.put o.dst v') w') : wpList P ops Q (o :: rest) a w := by
 obtain ⟨i0, hi0, hz0, hz1, hz2⟩ := JG hi;refine IE hgd λ K hK => ?_;obtain ⟨v', w', hr, h2, h3, h4⟩ := y7k (P := P) w base t o.type e i0 z size bytes ht hi0 hz0 hz1 hz2 hzs hsz v n xs hown ad m c news hl hnews h1 h63 hbytes hbase;unfold Oper.wp execOp;simp only [ho, resolve, invoke, builtin, JE, JS, JF, Jo, Jj, Jm, hs, hx, hr];exact hK _ _ (h v' w' h2 h3 h4)
end
structure cz (w w' : World) (v v' : Value) : Prop where
 grown : w.grownBy w' v.ownBlock
 lies : ∀ k, v'.ownBlock = some k -> v.ownBlock = some k \/ w.heap.size <= k
theorem cz.refl (w : World) (v : Value) : cz w w v v := ⟨World.grownBy.refl _ _, λ _ h => Iy h⟩
theorem cz.trans {C : World} {v' v'' : Value} (h : cz A B v v') (k : cz B C v' v'') : cz A C v v'' :=
 ⟨h.grown.andThen k.grown (λ j e => (h.lies j e).symm), λ j e => by
  rcases k.lies j e with q | q
  ·exact h.lies j q
  ·exact Iz (IP h.grown.size q)⟩
theorem cz.alloc {v' : Value} (h : cz A B v v') (o : Obj) : cz A (B.alloc o) v v' :=
 ⟨World.grownBy.trans h.grown (World.grownBy_alloc _ _ _), h.lies⟩
theorem cz.below {v' : Value} {base : Nat} (h : cz w w' v v') (hown : bY w base v l) (hb : base <= w.heap.size) : Below base w w' :=
 GY.grown h.grown hb (λ k e => by
  rcases hown.2 with ⟨h, _⟩ | ⟨g, cap, cur, h, hg, _⟩
  ·rw [h] at e; cases e
  ·rw [h] at e; cases e; exact hg)
theorem cz.kept {v' : Value} (h : cz w w' v v') {k : Nat} {o : Obj} (hk : w.heap[k]? = some o) (hn : v.ownBlock ≠ some k) : w'.heap[k]? = some o :=
 (h.grown.block k (Jf.1 hk).1 (λ e => hn e.symm)).trans hk
section
variable {ops : Array Oper} {rest : List Oper} {o : Oper} {a : Act} {w : World} {Q : Exit -> Act -> World -> Prop}
theorem gU (hgd : o.guard = none) (s x : Operand) (ho : o.op = .call { callee := .builtin .append, args := #[s, x], argTypes := #[df, df] })
 (base : Nat) (v : Value) (l1 : List UInt8) (hs : a.eval s = v) (hown : bY w base v l1) (v2 : Value) (l2 : List UInt8) (G : Nat -> Prop) (hx : a.eval x = v2) (hsrc : BytesAt w.heap G v2 l2)
 (hl : l1.length + l2.length <= 1099511627776) (hbase : base <= w.heap.size)
 (h : ∀ v' w', Hid (bY w' base v' (l1 ++ l2)) -> Hid (cz w w' v v') -> wpList prog ops Q rest (a.put o.dst v') w') : wpList prog ops Q (o :: rest) a w := by
 have i0 := infoByte;obtain ⟨i1, hi0, hz0, hz1, hz2⟩ := JG i0;rcases hsrc.src with ⟨rfl, hm, hn⟩ | ⟨ad, c, rfl, g1, g2, g3⟩
 ·have e2 : l2 = [] := JU hm
  subst e2;refine wpList_append_own_none hgd s x df ho base bT i1 1 Ia hi0 v l1.length (l1.map bL) hs hown hx (h v w ?_ (hd1 (cz.refl w v)));rw [Ju];exact hd1 hown
 ·refine Ej hgd s x df ho base bT (.int .u8 0) 1 1 Ia i0 rfl GU v l1.length (l1.map bL) hs hown ad l2.length c (l2.map bL) hx g1 g2 g3 Nr GR hbase ?_
  intro v' w' h1 h2 h3;refine h v' w' ?_ (hd1 ⟨h2.out, h3.out⟩);have := h1.out;rw [<-J6] at this;refine hd1 ?_;show w'.ownsRow base bT 1 v' (l1 ++ l2).length ((l1 ++ l2).map bL);rw [IL];exact this
theorem append_grow_e (base : Nat) (l2 l1 : List UInt8) {v v2 : Value} (hown : bY w base v l1) (hsrc : BytesAt w.heap (λ _ => True) v2 l2) (hl : l1.length + l2.length <= 1099511627776) (hbase : base <= w.heap.size)
 (h : ∀ v' w', Hid (bY w' base v' (l1 ++ l2)) -> Hid (cz w w' v v') -> wpList prog ops Q rest (a.put o.dst v') w') (e : o.guard = none /\ ∃ s x, o.op = .call { callee := .builtin .append, args := #[s, x], argTypes := #[df, df] } /\ a.eval s = v /\ a.eval x = v2 := by exact ⟨rfl, _, _, rfl, rfl, rfl⟩) : wpList prog ops Q (o :: rest) a w := by
 obtain ⟨h1, s, x, h2, h3, h4⟩ := e;exact gU h1 s x h2 base v l1 h3 hown v2 l2 (λ _ => True) h4 hsrc hl hbase h
theorem y7l (w : World) (base : Nat) (t u ty e : TypeId) (i : TypeInfo) (ht : prog.underlying t = some (.slice e)) (hu : prog.underlying u = some .string) (hi : prog.info? e = some i) (hz : i.zero = some (.int .u8 0))
 (hsize : i.size = 1) (hby : i.bytes = 1) (v : Value) (n : Nat) (xs : List Value) (hown : w.ownsRow base e 1 v n xs) (s : ByteArray) (h63 : n + s.size <= maxLen) (hbytes : n + s.size <= 140737488355328) (hbase : base <= w.heap.size) :
 ∃ v' w', (Builtin.append_ #[t, u] ty #[v, .string s]).run prog w = .ok v' w' /\ w'.ownsRow base e 1 v' (n + s.size) (xs ++ Lib.strCells s) /\ w.grownBy w' v.ownBlock /\ ∀ k, v'.ownBlock = some k -> v.ownBlock = some k \/ w.heap.size <= k := by
 obtain ⟨v', w', hr, h2, h3, h4⟩ := Lib.run_append_own_string (P := prog) w base t u ty e i ht hu hi hz hsize hby v n xs hown s h63 hbytes hbase;refine ⟨v', w', hr, h2, h3, λ k hk => ?_⟩;rcases hown.2 with ⟨rfl, rfl⟩ | ⟨g, cap, cur, rfl, hbg, hg, hnc, hcm, hcs, htake⟩
 ·obtain ⟨v2, w2, hr2, g2, _, _⟩ := Lib.run_append_own_string (P := prog) w w.heap.size t u ty e i ht hu hi hz hsize hby (.slice none 0 0) 0 xs ⟨hown.1, Iy ⟨rfl, rfl⟩⟩ s h63 hbytes GZ
  exact QC
 ·by_cases hroom : n + s.size <= cap
  ·have hr2 := Lib.run_append_room_string (P := prog) w t u ty e i ht hu hi hsize g n cap cur hg s hroom (by rw [hcs]; omega)
   rw [hr] at hr2;cases hr2;exact Iy hk
  ·have holds : ∀ j u, xs[j]? = some u -> w.cell? ((⟨g, 0, none⟩ : Addr).add j) = some u := hown.cells (g := g) rfl
   have hr2 := Lib.run_append_grow_string (P := prog) w t u ty e i (.int .u8 0) ht hu hi hz ⟨g, 0, none⟩ n cap xs (by rw [hsize]; exact hown.1) holds s GR (by unfold maxLen at h63; omega) (by rw [hby]; exact growslice_fits GR GR);exact Re
theorem wpList_append_text (hgd : o.guard = none) (s x : Operand) (ho : o.op = .call { callee := .builtin .append, args := #[s, x], argTypes := #[df, 9] })
 (base : Nat) (v : Value) (l1 : List UInt8) (hs : a.eval s = v) (hown : bY w base v l1) (l2 : List UInt8) (hx : a.eval x = .string ⟨l2.toArray⟩)
 (hl : l1.length + l2.length <= 1099511627776) (hbase : base <= w.heap.size)
 (h : ∀ v' w', Hid (bY w' base v' (l1 ++ l2)) -> Hid (cz w w' v v') -> wpList prog ops Q rest (a.put o.dst v') w') : wpList prog ops Q (o :: rest) a w := by
 have i0 := infoByte;obtain ⟨i1, hi0, hz0, hz1, hz2⟩ := JG i0;refine IE hgd λ K hK => ?_;have hsz : (⟨l2.toArray⟩ : ByteArray).size = l2.length := by simp [ByteArray.size]
 obtain ⟨v', w', hr, h2, h3, h4⟩ := y7l w base df 9 o.type bT i1 Ia Ib hi0 hz0 hz1 hz2 v l1.length (l1.map bL) hown ⟨l2.toArray⟩ (by rw [hsz]; unfold maxLen; omega) (by rw [hsz]; omega) hbase;unfold Oper.wp execOp;simp only [ho, resolve, invoke, builtin, JE, JS, JF, Jo, Jj, Jm, hs, hx, hr];refine hK _ _ (h v' w' ?_ (hd1 ⟨h3, h4⟩));refine hd1 ?_;rw [hsz] at h2;show w'.ownsRow base bT 1 v' (l1 ++ l2).length ((l1 ++ l2).map bL);rw [IL, J6];have e : Lib.strCells ⟨l2.toArray⟩ = l2.map bL := by simp [Lib.strCells, bL]
 rw [<-e];exact h2
end
end Go.Proofs.YtgffifleflkjoaaGreat
