/-
  Parts of a proof.
-/
import Derived.Test.YtgffifleflkjoaaGreatFin08
import Derived.Test.YtgffifleflkjoaaGreatFin09
import Derived.Laws.Tables
set_option linter.unusedSimpArgs false
set_option linter.unusedVariables false
set_option maxRecDepth 100000
set_option maxHeartbeats 16000000
namespace Go.Proofs.YtgffifleflkjoaaGreat
open _root_.Go.Proofs.Tryz
variable {w W w' w0 wr w1 W0 W1 W2 A B : World} {F G F' O : Nat → Prop} {v : Value} {l : List UInt8} {n q m pd md pl g p : Nat} {C : Array Value} {c : Int}
open Go.RowKit
def jB (r : Nat) : Array Value := (w32 r :: (List.range 256).map λ j => w32 (Cm.tab j)).toArray
theorem z5y (r : Nat) : (jB r).size = 257 := by simp [jB]
theorem y7f (r s : Nat) : (jB r).setIfInBounds 0 (w32 s) = jB s := by simp [jB]
theorem y7g (r j : Nat) (h : j < 256) : (jB r)[1 + j]? = some (w32 (Cm.tab j)) := by
 rw [Nat.add_comm];simp [jB, h]
theorem y7e (r : Nat) : (jB r).all (·.oneCell') = true := by
 rw [JF];intro x hx;simp only [jB, List.mem_toArray, Kb, Jq] at hx;rcases hx with rfl | ⟨j, _, rfl⟩ <;> rfl
theorem BytesAt.byte {a : Option Addr} {c : Nat} (x : BytesAt w.heap F (.slice a n c) l) {k : Nat} {u : UInt8} (h : l[k]? = some u) :
 ∃ b o, a = some ⟨b, o, none⟩ /\ F b /\ b < w.heap.size /\ w.cell? ⟨b, o + k, none⟩ = some (bO u) := by
 rcases x with ⟨_, rfl⟩ | ⟨b, o, cap, c', t, fr, h1, _, _, g2, g3, g4⟩
 ·simp at h
 ·exact ⟨b, o, (JB h1).1, g2, aa g3, (IM _ _ _ _ _ _ g3).trans (g4 k u h)⟩
theorem x3e (R c : Nat) (hc : c < 256) : bits .xor .u8 (IntKind.u8.wrap (R : Int)) (c : Int) = (((R ^^^ c) % 256 : Nat) : Int) := by
 rw [IntKind.wrap_u8', show (R : Int) % 256 = ((R % 256 : Nat) : Int) by omega, u8_xor_nat _ _ GX hc];have : (R ^^^ c) % 2 ^ 8 = (R % 2 ^ 8) ^^^ (c % 2 ^ 8) := Nat.xor_mod_two_pow;rw [show (256 : Nat) = 2 ^ 8 from rfl, this, La (a := c) (by simpa using hc)]
theorem y4o (R T : Nat) (hR : R < 4294967296) (hT : T < 4294967296) : bits .xor .u32 ((R : Int) / 256) (T : Int) = ((R / 256 ^^^ T : Nat) : Int) := by
 rw [show (R : Int) / 256 = ((R / 256 : Nat) : Int) by omega, K_ _ _ GX hT]
theorem x6b (g r : Nat) (w : World) (hr : r < 4294967296) (hg : w.heap[g]? = some (.cells (jB r) ny (0, 0))) (hv : BytesAt w.heap (λ k => k ≠ g) v l) (hl : l.length <= 9223372036854775807) :
 Calls prog 214 #[g, v] w λ e w' => e = .returned (.tuple #[]) /\ w'.heap[g]? = some (.cells (jB (Cm.fJ r l)) ny (0, 0)) /\ Moves (λ k => k = g) w w' /\ w'.heap.size = w.heap.size := by
 obtain ⟨a, cap, rfl⟩ := hv.slice;have HV := hd1 hv;generalize hn : l.length = n at *;have H := hd3 hg hr hn;clear hv hg hr hn;go_in;go_wp2;go_loopw [5, 8] (λ _ s wr => ∃ k : Nat, k <= n /\ s = .int .i64 (k : Int) /\ wr.heap[g]? = some (.cells (jB (Cm.fJ r (l.take k))) ny (0, 0)) /\ Moves (λ j => j = g) w wr /\ wr.heap.size = w.heap.size) (λ _ s _ => n - (intOf s).toNat)
 case atStart => exact ⟨0, IY _, rfl, H.1, Moves.refl _ _, rfl⟩
 case round =>
  obtain ⟨k, hk, rfl, hrow, hm, hz⟩ := hrel;by_cases hlt : k < n
  ·have h0 : (0 : Int) <= (k : Int) := GX
   have h1 : (k : Int) < (n : Int) := GX;obtain ⟨u, hu⟩ : ∃ u, l[k]? = some u := ⟨_, IX (by rw [H.2.2]; exact hlt)⟩;obtain ⟨b, o, rfl, hbg, hbl, hc⟩ := HV.byte hu;have hcell : wr.cell? ⟨b, o + k, none⟩ = some (.int .u8 u.toNat) := by
    rw [I1 (w := w) (a := ⟨b, o + k, none⟩) (hm.block b hbl hbg)]; exact hc
   have z0z : Cm.fJ r (l.take k) < 4294967296 := Cm.Bl _ H.2.1;have hnext : Cm.fJ r (l.take (k + 1)) = Cm.uB (Cm.fJ r (l.take k)) u.toNat := by
    rw [JH, hu, Cm.z6q]; rfl
   generalize Cm.fJ r (l.take k) = R at *;have k0 : wr.cell? g = some (.int .u32 R) := ae hrow rfl;have z0 : wr.frozen? ⟨g, 0, none⟩ = false := aU hrow 0;have u0 : (0 : Int) <= (u.toNat : Int) := GX;have u1 : (u.toNat : Int) < 256 := Hm u.toNat_lt;have r0 : (0 : Int) <= (R : Int) := GX;have r1 : (R : Int) < 4294967296 := GX;have H2 := hd4 hrow hm hz hnext;clear hrow hm hz hnext hc hu;have hx := x3e R u.toNat u.toNat_lt;have hj : (R ^^^ u.toNat) % 256 < 256 := KA _ GY;have hw := y4o R (Cm.tab ((R ^^^ u.toNat) % 256)) z0z (Cm.yf 8 GX);have kj : wr.cell? ⟨g, 1 + (R ^^^ u.toNat) % 256, none⟩ = some (w32 (Cm.tab ((R ^^^ u.toNat) % 256))) := ae H2.1 (y7g R _ hj);obtain ⟨N, hN⟩ := G8 (R / 256 ^^^ Cm.tab ((R ^^^ u.toNat) % 256));have HN := hd1 (show Cm.uB R u.toNat = N from hN);rw [hN] at hw;clear hN;generalize Cm.tab ((R ^^^ u.toNat) % 256) = T at *;generalize (R ^^^ u.toNat) % 256 = j at *;have j0 : (0 : Int) <= (j : Int) := GX;have j1 : (j : Int) < 256 := GX;go_upto_region 3 with fail
   refine qI 24 GV GV ?_;simp only [Jv, JO, JP, JQ];repeat still_step
   refine Kh ?_;refine IJ rfl λ K hK => ?_;go_simp;refine hK _ _ ?_;simp only [wpList];go_wp2;go_roundw
   case rel =>
    obtain ⟨r1, m1⟩ := ES (o := 0) (w32 N) H2.1;refine ⟨k + 1, GX, by go_num, ?_, H2.2.1.trans m1 (λ _ _ h => h), ?_⟩
    ·rw [H2.2.2.2, HN.out, <-y7f R N]; exact r1
    ·simpa using H2.2.2.1
   case measure => simp [intOf]; omega
  ·obtain rfl : k = n := GX
   have H2 := hd3 hrow hm hz;clear hrow hm hz;go_wp2;go_end0
   refine ⟨rfl, ?_, H2.2.1, H2.2.2⟩;have := H2.1;rwa [Jh (by rw [H.2.2]; omega)] at this
def og (w : World) (F : Nat -> Prop) (pv : Value) (l : List UInt8) : Prop := ∃ b v, pv = .slice (some ⟨b, 0, none⟩) 1 1 /\ w.cell? ⟨b, 0, none⟩ = some v /\ BytesAt w.heap F v l
theorem og.below {pv : Value} (h : og w F pv l) (hb : Below w w w') : og w' F pv l := by
 obtain ⟨b, v, h1, h2, h3⟩ := h;exact ⟨b, v, h1, (hb.cell (p := ⟨b, 0, none⟩) (IZ h2)).trans h2, h3.below hb⟩
theorem iT {P : Program} {ops : Array Oper} {rest : List Oper} {o : Oper} {a : Act} {Q : Exit -> Act -> World -> Prop} (hg : o.guard = none) (t : TypeId) (parts : Array (Nat × Operand)) (ho : o.op = .build t parts) (cells : Array Value)
 (hb : P.built t (parts.map λ (i, x) => (i, a.eval x)).toList = some cells) (h : wpList P ops Q rest (a.put o.dst (.agg cells)) w) : wpList P ops Q (o :: rest) a w :=
 wpList_build hg t parts ho (by rw [hb]; rfl) (by rw [hb]; exact h)
theorem x8b (r : Nat) : prog.built ny [(0, .agg #[w32 r]), (1, .agg (gT 256))] = some (jB r) := GV
theorem x1a (n : Nat) (h : n < 4294967296) : bits .xor .u32 IntKind.u32.max (n : Int) = ((Cm.top - n : Nat) : Int) := by
 rw [show IntKind.u32.max = ((4294967295 : Nat) : Int) from by decide +kernel, K_ _ n GY h, Cm.y5v h];rfl
theorem x7v {pv : Value} (h : og w F pv l) (hl : l.length <= 9223372036854775807) :
 Calls prog 196 #[.int .u32 0, pv] w λ e w' => e = .returned (w32 (Cm.sum l)) /\ Below w w w' := by
 obtain ⟨b, v, rfl, hc, hv⟩ := h;have H := hd2 hc hv;clear hc hv;obtain ⟨T, hT, hT2⟩ : ∃ T : Nat, bits .xor .u32 IntKind.u32.max 0 = (T : Int) /\ T = Cm.top := ⟨Cm.top, by decide +kernel, rfl⟩;have HT := hd1 hT2;clear hT2;go_in;go_wp2_with fail
 refine (x6a w).mono ?_;rintro e w1 ⟨rfl, hb1⟩
 go_wp2_with (first
  | (refine iT rfl ny #[(0, .tmp 10), (1, .tmp 11)] rfl (jB T) (by simp only [Js, Jo, Jr, Act.eval]; exact x8b T) ?_)
  | (refine aD rfl ny _ _ rfl w1.heap.size (jB T) rfl rfl ny Tryz.zeroCells291 (II w1 _) (by rw [infoRun, z5y]) (by rw [z5y]; kernel_rfl) (y7e _) ?_; intro W2 HW2 cu HS2))
 have hb2 : Below w w W2 := hb1.trans ((Moves.new (bla) cu G7 : Below w1 w1 W2).mono hb1.size);have z1 := hb1.size;have kb : W2.cell? b = some v := (hb2.cell (p := ⟨b, 0, none⟩) (IZ H.1)).trans H.1;have hvb : BytesAt W2.heap (λ k => k ≠ w1.heap.size) v l := H.2.keeps (λ k _ hl => hb2.block k hl) (λ k _ hl => GX);have TK := hd1 (x6b w1.heap.size T W2 (by rw [HT.out]; decide) HW2.out hvb hl);have H2 := hd2 hb2 HW2.out;clear hb1 hb2 HW2 cu HS2 hvb hT;generalize w1.heap.size = g at *;go_loopw [7, 15] (λ _ s wr => ∃ k : Nat, k <= 1 /\ s = .int .i64 (k : Int) /\ (k = 0 -> wr = W2) /\ wr.heap[g]? = some (.cells (jB (if k = 0 then T else Cm.fJ T l)) ny (0, 0)) /\ Moves (λ j => j = g) W2 wr) (λ _ s _ => 1 - (intOf s).toNat)
 case atStart => exact ⟨0, GX, rfl, λ _ => rfl, H2.2, Moves.refl _ _⟩
 case round =>
  obtain ⟨k, hk, rfl, he, hrow, hm⟩ := hrel;by_cases hlt : k < 1
  ·obtain rfl : k = 0 := GX
   obtain rfl := he rfl;clear he hm hrow;go_wp2_with (go_at_call 214; refine TK.mono ?_; rintro e w' ⟨rfl, hr1, hm1, hz1⟩)
   go_roundw;case rel => exact ⟨1, GX, by go_num, λ h => Oe, hr1, hm1⟩
   case measure => simp [intOf]
  ·obtain rfl : k = 1 := GX
   rw [IA GY] at hrow;have k0 : wr.cell? g = some (w32 (Cm.fJ T l)) := ae hrow rfl;have HF := hd2 hm z1;clear he hm hrow;have hR : Cm.fJ T l < 4294967296 := Cm.Bl l (by rw [HT.out]; decide);have hN := x1a (Cm.fJ T l) hR;have HS : Hid (Cm.top - Cm.fJ T l = Cm.sum l) := hd1 (by rw [HT.out]; rfl);generalize Cm.fJ T l = R at *;have HN := hd1 hN;clear hN;go_wp2;go_ret;exact ⟨by rw [HN.out, HS.out]; rfl, Moves.new H2.1 HF.1 HF.2⟩
theorem y1z {pv : Value} (h : og w F pv l) (hl : l.length <= 9223372036854775807) :
 Calls prog 172 #[pv] w λ e w' => e = .returned (w32 (Cm.sum l)) /\ Below w w w' := by
 have MC := hd1 (x7v h hl);clear h hl;go_in;go_wp2_with (go_at_call 196; refine MC.mono ?_; rintro e w1 ⟨rfl, hb1⟩)
 go_ret;exact ⟨rfl, hb1⟩
end Go.Proofs.YtgffifleflkjoaaGreat
