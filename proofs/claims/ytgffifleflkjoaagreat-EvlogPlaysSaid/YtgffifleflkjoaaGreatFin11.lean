/-
  Parts of a proof.
-/
import Derived.Test.YtgffifleflkjoaaGreatFin08
import Derived.Shelf.SlIter.Nil
import Derived.Shelf.SortM.Plain
import Derived.Shelf.SortM.SortNone
import Derived.Ground.GgzProg
import Derived.Ground.SlgmProg
import Derived.ScopeJumps
import Derived.WalkMore
import Derived.Maps.Views
set_option linter.unusedSimpArgs false
set_option linter.unusedVariables false
set_option maxRecDepth 100000
set_option maxHeartbeats 16000000
namespace Go.Proofs.YtgffifleflkjoaaGreat
open _root_.Go.Proofs.Tryz
variable {w W w' w0 wr w1 W0 W1 W2 A B : World} {F G F' O : Nat → Prop} {v : Value} {l : List UInt8} {n q m pd md pl g p : Nat} {C : Array Value} {c : Int}
open Go.RowKit Go.Maps Go.Sort Go.Shelf
def Gy : Go.Shelf.Ren := ⟨λ | 7 => 83 | 10 => 131 | n => n, λ | 23 => 66 | 26 => 9 | 3 => 9 | 28 => 153 | 0 => 0 | 27 => 152 | 33 => 189 | 4 => 4 | n => n, λ | n => n⟩
theorem Gz : Go.Proofs.SlLaysZ.n7 prog Gy := {
 mixed := GV
 f7 := ⟨Tryz.f83.name, GY, func83.trans (IK some GV)⟩
 f10 := ⟨Tryz.f131.name, GY, func131.trans (IK some GV)⟩
 t0 := underlying0
 a0 := Tryz.isAgg0
 z0 := Tryz.sizeOf0
 v0 := zeroValue0
 t4 := Iq
 a4 := Tryz.isAgg4
 z4 := Tryz.sizeOf4
 v4 := zeroValue4
 t23 := Ii
 a23 := Tryz.isAgg66
 z23 := Tryz.sizeOf66
 v23 := zeroValue66
 t26 := Ie
 a26 := Tryz.isAgg9
 z26 := Tryz.sizeOf9
 v26 := zeroValue9
 t27 := underlying152
 a27 := Tryz.isAgg152
 z27 := Tryz.sizeOf152
 v27 := zeroValue152
 t28 := underlying153
 a28 := Tryz.isAgg153
 z28 := Tryz.sizeOf153
 v28 := zeroValue153
 t33 := underlying189
 a33 := Tryz.isAgg189
 z33 := Tryz.sizeOf189
 v33 := zeroValue189 }
def z4n : Go.Shelf.Ren := ⟨λ | 6 => 82 | 8 => 129 | 9 => 130 | 11 => 160 | 13 => 162 | 12 => 161 | 23 => 192 | 24 => 193 | 14 => 183 | 15 => 184 | 16 => 185 | 17 => 186 | 18 => 187 | 19 => 188 | 20 => 189 | 21 => 190 | 22 => 191 | 25 => 206 | 26 => 207 | 27 => 208 | 28 => 209 | 29 => 210 | 30 => 211 | 31 => 216 | n => n, λ | 26 => 9 | 28 => 153 | 24 => 108 | 0 => 0 | 3 => 3 | 37 => 229 | 48 => 240 | 50 => 271 | 4 => 4 | 40 => 263 | 39 => 262 | 45 => 267 | 5 => 5 | 9 => 9 | 51 => 279 | 55 => 283 | 57 => 294 | 58 => 295 | 33 => 189 | n => n, λ | n => n⟩
theorem z4m : Go.Proofs.SlLaysZ.n6 prog z4n := {
 mixed := GV
 f6 := ⟨Tryz.f82.name, GY, func82.trans (IK some GV)⟩
 f8 := ⟨Tryz.f129.name, GY, func129.trans (IK some GV)⟩
 f11 := ⟨Tryz.f160.name, GY, func160.trans (IK some GV)⟩
 t0 := underlying0
 a0 := Tryz.isAgg0
 z0 := Tryz.sizeOf0
 v0 := zeroValue0
 t24 := underlying108
 a24 := Tryz.isAgg108
 z24 := Tryz.sizeOf108
 v24 := zeroValue108
 t26 := Ie
 a26 := Tryz.isAgg9
 z26 := Tryz.sizeOf9
 v26 := zeroValue9
 t28 := underlying153
 a28 := Tryz.isAgg153
 z28 := Tryz.sizeOf153
 v28 := zeroValue153
 i26 := by kernel_rfl }
def y6d : Go.Shelf.Ren := ⟨λ | 6 => 130 | 8 => 162 | 9 => 161 | 19 => 192 | 20 => 193 | 21 => 183 | 22 => 184 | 23 => 185 | 24 => 186 | 25 => 187 | 26 => 188 | 27 => 189 | 28 => 190 | 29 => 191 | 36 => 206 | 31 => 207 | 32 => 208 | 37 => 209 | 38 => 210 | 39 => 211 | 41 => 216 | n => n, λ | 27 => 108 | 29 => 9 | 3 => 3 | 32 => 229 | 26 => 108 | 0 => 0 | 44 => 240 | 46 => 271 | 4 => 4 | 36 => 263 | 35 => 262 | 41 => 267 | 5 => 5 | 9 => 9 | 53 => 279 | 57 => 283 | 63 => 294 | 64 => 295 | n => n, λ | n => n⟩
theorem z4l : Go.Proofs.SlLaysM.n6 prog y6d := {
 mixed := GV
 f6 := ⟨Tryz.f130.name, GY, func130.trans (IK some GV)⟩
 f8 := func162.trans (IK some GV)
 f9 := ⟨Tryz.f161.name, GY, func161.trans (IK some GV)⟩
 f19 := func192.trans (IK some GV)
 f20 := func193.trans (IK some GV)
 f21 := ⟨Tryz.f183.name, GY, func183.trans (IK some GV)⟩
 f22 := ⟨Tryz.f184.name, GY, func184.trans (IK some GV)⟩
 f23 := ⟨Tryz.f185.name, GY, func185.trans (IK some GV)⟩
 f24 := ⟨Tryz.f186.name, GY, func186.trans (IK some GV)⟩
 f25 := ⟨Tryz.f187.name, GY, func187.trans (IK some GV)⟩
 f26 := ⟨Tryz.f188.name, GY, func188.trans (IK some GV)⟩
 f27 := ⟨Tryz.f189.name, GY, func189.trans (IK some GV)⟩
 f28 := ⟨Tryz.f190.name, GY, func190.trans (IK some GV)⟩
 f29 := ⟨Tryz.f191.name, GY, func191.trans (IK some GV)⟩
 f31 := func207.trans (IK some GV)
 f32 := func208.trans (IK some GV)
 f36 := ⟨Tryz.f206.name, GY, func206.trans (IK some GV)⟩
 f37 := ⟨Tryz.f209.name, GY, func209.trans (IK some GV)⟩
 f38 := ⟨Tryz.f210.name, GY, func210.trans (IK some GV)⟩
 f39 := ⟨Tryz.f211.name, GY, func211.trans (IK some GV)⟩
 f41 := ⟨Tryz.f216.name, GY, func216.trans (IK some GV)⟩
 t0 := underlying0
 a0 := Tryz.isAgg0
 z0 := Tryz.sizeOf0
 v0 := zeroValue0
 t3 := Ik
 a3 := Tryz.isAgg3
 z3 := Tryz.sizeOf3
 v3 := zeroValue3
 t4 := Iq
 a4 := Tryz.isAgg4
 z4 := Tryz.sizeOf4
 v4 := zeroValue4
 t5 := Ij
 a5 := Tryz.isAgg5
 z5 := Tryz.sizeOf5
 v5 := zeroValue5
 t9 := Ie
 a9 := Tryz.isAgg9
 z9 := Tryz.sizeOf9
 v9 := zeroValue9
 t26 := underlying108
 a26 := Tryz.isAgg108
 z26 := Tryz.sizeOf108
 v26 := zeroValue108
 t27 := underlying108
 a27 := Tryz.isAgg108
 z27 := Tryz.sizeOf108
 v27 := zeroValue108
 t29 := Ie
 a29 := Tryz.isAgg9
 z29 := Tryz.sizeOf9
 v29 := zeroValue9
 t32 := underlying229
 a32 := Tryz.isAgg229
 z32 := Tryz.sizeOf229
 v32 := zeroValue229
 t35 := underlying262
 a35 := Tryz.isAgg262
 z35 := Tryz.sizeOf262
 v35 := zeroValue262
 t36 := underlying263
 a36 := Tryz.isAgg263
 z36 := Tryz.sizeOf263
 v36 := zeroValue263
 t41 := underlying267
 a41 := Tryz.isAgg267
 z41 := Tryz.sizeOf267
 v41 := zeroValue267
 t44 := underlying240
 a44 := Tryz.isAgg240
 z44 := Tryz.sizeOf240
 v44 := zeroValue240
 t46 := underlying271
 a46 := Tryz.isAgg271
 z46 := Tryz.sizeOf271
 v46 := zeroValue271
 t53 := underlying279
 a53 := Tryz.isAgg279
 z53 := Tryz.sizeOf279
 v53 := zeroValue279
 t57 := underlying283
 a57 := Tryz.isAgg283
 z57 := Tryz.sizeOf283
 v57 := zeroValue283
 t63 := underlying294
 a63 := Tryz.isAgg294
 z63 := Tryz.sizeOf294
 v63 := zeroValue294
 t64 := underlying295
 a64 := Tryz.isAgg295
 z64 := Tryz.sizeOf295
 v64 := zeroValue295 }
theorem z4o (m : Nat) : AnyZ.SortsIn prog z4n Fence.wide m :=
 ⟨λ blk off cap ss W hH hblk hsz => Ji.2 (AnyM.slices_Sort_string z4l blk off cap ss W hH hblk hsz),
  λ p cap W => Ji.2 (AnyM.slices_Sort_string_none z4l p cap W)⟩
theorem Gm (mb : Option Nat) (W : World) : CallsIn Fence.wide 5 prog 83 #[.map mb] W λ e w' => e = .returned (.func (.func 131) #[] #[.pointer (some W.heap.size)]) /\ w' = W.alloc (.cells #[.map mb] 66) :=
 AnyZ.keys_in Gz Fence.wide 5 trivial rfl mb W
theorem z4j {H : Type} (b nn : Nat) (D0 : DataW H) (R : Value -> Option (DataW H × List MemPlace)) (w : World) (hown : w.ownsMap prog 9 R b nn D0) (hmax : Maps.size D0 <= maxLen) (hbytes : Maps.size D0 * 16 <= 140737488355328) :
 CallsIn Fence.wide 5 prog 82 #[.func (.func 131) #[] #[.pointer (some w.heap.size)]] (w.alloc (.cells #[.map (some b)] 66)) λ e w' => ∃ (v : Value) (ss : List (List UInt8)), e = .returned v /\ ss.Perm (strKeys D0) ∧
  w'.ownsRow (w.alloc (.cells #[.map (some b)] 66)).heap.size 9 1 v ss.length ((ss.mergeSort (λ x y => decide (x <= y))).map encStr) /\ (v = .slice none 0 0 ↔ ss = []) /\ Below (w.alloc (.cells #[.map (some b)] 66)).heap.size (w.alloc (.cells #[.map (some b)] 66)) w' := by
 have hbl := hown.lt
 have hseq : SeqGives Fence.wide 2 prog 131 #[.pointer (some w.heap.size)] encStr (λ ss => ss.Perm (strKeys D0)) (Maps.size D0) (w.alloc (.cells #[.map (some b)] 66)) :=
  AnyZ.keys_gives (ρ := Gy) { Gz with } Fence.wide _ trivial rfl GX w.heap.size b nn D0 _ GZ GZ (by
   obtain ⟨es, clock, hb, Ft, hs, hD⟩ := hown;exact ⟨es, clock, (JN _ _ b hbl).trans hb, Ft, hs, hD⟩)
 exact AnyZ.sorted_in z4m Fence.wide 5 trivial trivial trivial trivial rfl GX (z4o _) (enters_of func130 GV rfl) 131 #[.pointer (some ⟨w.heap.size, 0, none⟩)] trivial (enters_of func131 GV rfl) _ _ hmax hbytes _ hseq
theorem y6c (w : World) :
 CallsIn Fence.wide 5 prog 82 #[.func (.func 131) #[] #[.pointer (some w.heap.size)]] (w.alloc (.cells #[.map none] 66)) λ e w' => ∃ (v : Value) (ss : List (List UInt8)), e = .returned v /\ ss = [] ∧
  w'.ownsRow (w.alloc (.cells #[.map none] 66)).heap.size 9 1 v ss.length ((ss.mergeSort (λ x y => decide (x <= y))).map encStr) /\ (v = .slice none 0 0 ↔ ss = []) /\ Below (w.alloc (.cells #[.map none] 66)).heap.size (w.alloc (.cells #[.map none] 66)) w' := by
 have hseq : SeqGives Fence.wide 2 prog 131 #[.pointer (some w.heap.size)] encStr (λ ss : List (List UInt8) => ss = []) 0 (w.alloc (.cells #[.map none] 66)) :=
  AnyZ.keys_gives_nil (ρ := Gy) { Gz with } Fence.wide _ trivial rfl w.heap.size _ GZ GZ
 exact AnyZ.sorted_in z4m Fence.wide 5 trivial trivial trivial trivial rfl GX (z4o _) (enters_of func130 GV rfl) 131 #[.pointer (some ⟨w.heap.size, 0, none⟩)] trivial (enters_of func131 GV rfl) _ 0 (IY _) GX _ hseq
section
variable {P : Program} {ops : Array Oper} {md : Region.Mode} {I : World -> Prop} {tail : List Nat}
theorem y4t {Q : Act -> World -> Prop} {i : Nat} {oi : Oper} (hi : ops[i]? = some oi) (hsel : ∀ (j : Nat) (o : Oper) cs b, ops[j]? = some o -> o.op ≠ .select cs b) (hit : i ∈ tail) :
 ∀ (fuel : Nat) (listed : Array Bool) (a : Act) (w : World),
  (∀ j oj, ops[j]? = some oj -> j ≠ i -> listed.getD j true = false -> (∀ e ∈ oj.after, Region.binds md e = true -> e.on ≠ i) -> oi.apart ops oj = true) ->
  i ∈ Region.ready md ops listed -> gH P ops (λ _ => True) oi v a ->
  gu P md ops I tail Q fuel (listed.setIfInBounds i true) (a.put oi.dst v) w -> gu P md ops I tail Q (fuel + 1) listed a w := by
 intro fuel;induction fuel with
 | zero =>
  intro listed a w _ hr hy H;refine ⟨λ h => Nk, λ j hj => ?_⟩;by_cases hji : j = i
  ·exact RU
  ·have := JV hj hji
   rw [H.1] at this;cases this
 | succ fuel ih =>
  intro listed a w hfree hr hy H;refine ⟨λ h => Nk, λ j hj => ?_⟩;by_cases hji : j = i
  ·exact RU
  ·have h1 := H.2 j (JV hj hji)
   obtain ⟨hjun, oj, hoj, hall⟩ := Ju.1 hj;have hun := (Ju.1 hr).1;have hnot : ∀ e ∈ oj.after, Region.binds md e = true -> e.on ≠ i := λ e he hb heq => by
    exact Qd
   have h2 := Ed hoj (hfree j oj hoj hji hjun hnot) (λ cs b => hsel i oi cs b hi) (λ cs b => hsel j oj cs b hoj) hy h1
   have hfree' : ∀ k ok, ops[k]? = some ok -> k ≠ i -> (listed.setIfInBounds j true).getD k true = false ->
    (∀ e ∈ ok.after, Region.binds md e = true -> e.on ≠ i) -> oi.apart ops ok = true := λ k ok hk hki hun hno => by
    refine hfree k ok hk hki ?_ hno;by_cases hjk : j = k
    ·subst hjk; exact hjun
    ·rw [KM true hjk] at hun; exact hun
   refine wpOp_mono (λ a' w' h3 => ⟨λ h => h3.2.1 h, ih (listed.setIfInBounds j true) a' w' hfree' (JV hr (Kk hji)) h3.1 ?_⟩) h2;rw [K6 _ _ hji];exact h3.2.2
def BF (md : Region.Mode) (ops : Array Oper) (tail : List Nat) : List Nat -> Array Bool -> Bool
 | [], _ => true
 | k :: r, listed => (Region.ready md ops listed).contains k && Region.free md ops listed k && tail.contains k && BF md ops tail r (listed.setIfInBounds k true)
theorem z2e {Q : Act -> World -> Prop} (hs : Region.noSelect ops = true) : ∀ (ks : List Nat) (f : Nat) (listed : Array Bool) (a : Act), BF md ops tail ks listed = true ->
 fU P ops (λ _ => True) (λ a' => gu P md ops I tail Q f (ks.foldl (λ l k => l.setIfInBounds k true) listed) a' w) (ks.filterMap (λ k => ops[k]?)) a -> gu P md ops I tail Q (f + ks.length) listed a w
 | [], f, listed, a, _, h => h
 | k :: r, f, listed, a, hB, h => by
  simp only [BF, Jl] at hB;obtain ⟨⟨⟨h1, h2⟩, h3⟩, h4⟩ := hB;have hr : k ∈ Region.ready md ops listed := by simpa using h1
  have ht : k ∈ tail := by simpa using h3
  obtain ⟨_, o, ho, _⟩ := Ju.1 hr;simp only [List.filterMap_cons, ho, fU] at h;have : ∃ v, gH P ops (λ _ => True) o v a /\ fU P ops (λ _ => True) (λ a' => gu P md ops I tail Q f ((k :: r).foldl (λ l k => l.setIfInBounds k true) listed) a' w) (r.filterMap (λ k => ops[k]?)) (a.put o.dst v) := by
   exact OG
  obtain ⟨v, hy, hn⟩ := this;rw [show f + (k :: r).length = (f + r.length) + 1 by simp; omega];exact y4t ho (Ll hs) ht _ _ _ _ (Lm ho h2) hr hy (z2e hs r f _ _ h4 hn)
theorem eY {Q : Act -> World -> Prop} {a : Act} (ks : List Nat) (f : Nat) (listed : Array Bool) (hB : (Region.noSelect ops && BF md ops tail ks listed) = true)
 (h : fU P ops (λ _ => True) (λ a' => gu P md ops I tail Q f (ks.foldl (λ l k => l.setIfInBounds k true) listed) a' w) (ks.filterMap (λ k => ops[k]?)) a) : gu P md ops I tail Q (f + ks.length) listed a w := by
 simp only [Jl] at hB;exact z2e hB.1 ks f listed a hB.2 h
theorem z2j {Q : Act -> Prop} {a : Act} {o : Oper} {rest : List Oper} (hgd : Region.wanted o (yielded ops a.tmps) = true) (ty : TypeId) (x : Operand) (ho : o.op = .load ty x) (v : Value)
 (hrun : ∀ w, I w -> (Instr.loadAt ty (a.eval x)).run P w = .ok v w) (h : fU P ops I Q rest (a.put o.dst v)) : fU P ops I Q (o :: rest) a :=
 ak λ K hK => by
  simp only [hgd, I6];exact Q0
end
namespace Em
open Cm
structure E.good (e : E) : Prop where
 tp : e.tp <= 1
 gen : e.gen <= 2147483647
 aK : e.aK <= 1000000
 fin : e.fin <= 2200000 + 8205 * e.aK
 rows : bI e.rows
 few : size e.rows <= 256
theorem Bz {e : E} {D : Rows} {b : Bytes} (h : e.good) (hD : bI D) (hs : size D <= 256) (hb : b.length <= 8205) : (e.put D b).1.good := by
 unfold E.put;by_cases q : 32 <= e.aK \/ b.length = 0 \/ e.d.room / 2 < e.fin + b.length
 ·rw [IE q]; exact h
 ·rw [IA q]
  have hf := h.fin;have hbt : e.aK < 32 := GX;by_cases r : (wrote e.d e.tp b).2 = 0
  ·simp only [IE r]
   exact ⟨h.tp, h.gen, by show e.aK + 1 <= 1000000; omega, by show e.fin + b.length <= 2200000 + 8205 * (e.aK + 1); omega, hD, hs⟩
  ·exact Rv
theorem z0i {e : E} {D : Rows} (h : e.good) (hD : bI D) (hs : size D <= 256) : (e.fold D).1.good := by
 unfold E.fold;by_cases q : 2147483647 <= e.gen
 ·rw [IE q]; exact h
 ·rw [IA q]
  have hf := um (D := D) (e.gen + 1) hs;by_cases r : (bK e.d (1 - e.tp) (folded (e.gen + 1) D)).2 = 0
  ·simp only [IE r]
   exact ⟨by show 1 - e.tp <= 1; omega, by show e.gen + 1 <= 2147483647; omega, by show 0 <= 1000000; omega, by show (folded (e.gen + 1) D).length <= 2200000 + 8205 * 0; omega, hD, hs⟩
  ·exact Rv
theorem y6n {e : E} {D : Rows} {b : Bytes} (h : e.good) (hD : bI D) (hs : size D <= 256) (hb : b.length <= 8205) : (e.step D b).1.good := by
 unfold E.step;by_cases q : (e.put D b).2 = 280
 ·rw [IE q]; exact z0i (Bz h hD hs hb) hD hs
 ·rw [IA q]; exact Bz h hD hs hb
theorem x7a {e : E} {l : List ay} (h : e.good) : (e.bE l).1.good := by
 unfold E.bE;by_cases q : aX e.rows l ≠ 0
 ·rw [IE q]; exact h
 ·rw [IA q]
  have q : aX e.rows l = 0 := GX;obtain ⟨h1, h2⟩ := jW q;by_cases r : e.gone = true
  ·rw [IE r]; exact h
  ·rw [IA r]
   have := y6n (b := aZ l) h (qV h.rows h1) h2 (rR _);exact ⟨this.tp, this.gen, this.aK, this.fin, this.rows, this.few⟩
theorem y1j (d : Dm.D) : (begun d).1.good :=
 ⟨by show 0 <= 1; decide, by show 1 <= 2147483647; decide, by show 0 <= 1000000; decide, by have := um (D := .map []) 1 GY; show (folded 1 (.map [])).length <= 2200000 + 8205 * 0; omega, oz, by show 0 <= 256; decide⟩
theorem tC {e : E} {D : Rows} {b : Bytes} (h : ¬ (32 <= e.aK \/ b.length = 0 \/ e.d.room / 2 < e.fin + b.length)) :
 e.put D b = (⟨e.tp, e.gen, if (wrote e.d e.tp b).2 = 0 then D else e.rows, if (wrote e.d e.tp b).2 = 0 then e.aK + 1 else e.aK, if (wrote e.d e.tp b).2 = 0 then e.fin + b.length else e.fin, (wrote e.d e.tp b).1, e.gone⟩, (wrote e.d e.tp b).2) := IA h
theorem BD {e : E} {D : Rows} {b : Bytes} (h : 32 <= e.aK \/ b.length = 0 \/ e.d.room / 2 < e.fin + b.length) : e.put D b = (e, 280) := IE h
theorem wG {e : E} {D : Rows} (h : ¬ 2147483647 <= e.gen) :
 e.fold D = (if (bK e.d (1 - e.tp) (folded (e.gen + 1) D)).2 = 0 then ⟨1 - e.tp, e.gen + 1, D, 0, (folded (e.gen + 1) D).length, (bK e.d (1 - e.tp) (folded (e.gen + 1) D)).1, e.gone⟩
  else { e with d := (bK e.d (1 - e.tp) (folded (e.gen + 1) D)).1 }, (bK e.d (1 - e.tp) (folded (e.gen + 1) D)).2) := IA h
theorem wH {e : E} {D : Rows} (h : 2147483647 <= e.gen) : e.fold D = (e, 280) := IE h
end Em
section
variable {P : Program} {ops : Array Oper} {md : Region.Mode} {ms : List Nat} {J : List Bool -> World -> Prop}
abbrev marks (ms : List Nat) (listed : Array Bool) : List Bool := ms.map λ m => listed.getD m false
theorem BR {k : Nat} (hk : ms.contains k = false) (L : Array Bool) : marks ms (L.setIfInBounds k true) = marks ms L :=
 List.map_congr_left λ m hm => by
  have hne : k ≠ m := λ e => by subst e; simp at hk; exact hk hm
  exact KM false hne
def mi (P : Program) (md : Region.Mode) (ops : Array Oper) (ms : List Nat) (J : List Bool -> World -> Prop) (Q : Act -> World -> Prop) : Nat -> Array Bool -> Act -> World -> Prop
 | 0, listed, a, w => Region.ready md ops listed = [] /\ Q a w
 | f + 1, listed, a, w => (Region.ready md ops listed = [] -> Q a w) /\ ∀ i ∈ Region.ready md ops listed, wpOp P ops tJ i (λ a' w' => J (marks ms (listed.setIfInBounds i true)) w' /\ mi P md ops ms J Q f (listed.setIfInBounds i true) a' w') a w
def sj (md : Region.Mode) (ops : Array Oper) (ms : List Nat) (J : List Bool -> World -> Prop) (i : Nat) (w : World) : Prop := ∃ L, Closed md ops L /\ L.getD i true = false /\ J (marks ms L) w
theorem y4v {Q : Act -> World -> Prop} {i : Nat} {oi : Oper} (hi : ops[i]? = some oi) (hsel : ∀ (j : Nat) (o : Oper) cs b, ops[j]? = some o -> o.op ≠ .select cs b) (hm : ms.contains i = false) :
 ∀ (fuel : Nat) (listed : Array Bool) (a : Act) (w : World), Closed md ops listed ->
  (∀ j oj, ops[j]? = some oj -> j ≠ i -> listed.getD j true = false -> (∀ e ∈ oj.after, Region.binds md e = true -> e.on ≠ i) -> oi.apart ops oj = true) ->
  i ∈ Region.ready md ops listed -> gH P ops (sj md ops ms J i) oi v a -> J (marks ms listed) w ->
  mi P md ops ms J Q fuel (listed.setIfInBounds i true) (a.put oi.dst v) w -> mi P md ops ms J Q (fuel + 1) listed a w := by
 intro fuel;induction fuel with
 | zero =>
  intro listed a w hcl _ hr hy hI H;refine ⟨λ h => Nk, λ j hj => ?_⟩;by_cases hji : j = i
  ·exact Re
  ·have := JV hj hji
   rw [H.1] at this;cases this
 | succ fuel ih =>
  intro listed a w hcl hfree hr hy hI H;refine ⟨λ h => Nk, λ j hj => ?_⟩;by_cases hji : j = i
  ·exact Re
  ·have h1 := H.2 j (JV hj hji)
   obtain ⟨hjun, oj, hoj, hall⟩ := Ju.1 hj;have hun := (Ju.1 hr).1;have hnot : ∀ e ∈ oj.after, Region.binds md e = true -> e.on ≠ i := λ e he hb heq => by
    exact Qd
   have h2 := Ed hoj (hfree j oj hoj hji hjun hnot) (λ cs b => hsel i oi cs b hi) (λ cs b => hsel j oj cs b hoj) hy h1
   have hfree' : ∀ k ok, ops[k]? = some ok -> k ≠ i -> (listed.setIfInBounds j true).getD k true = false ->
    (∀ e ∈ ok.after, Region.binds md e = true -> e.on ≠ i) -> oi.apart ops ok = true := λ k ok hk hki hun hno => by
    refine hfree k ok hk hki ?_ hno;by_cases hjk : j = k
    ·subst hjk; exact hjun
    ·rw [KM true hjk] at hun; exact hun
   have hJ : ∀ w', J (marks ms ((listed.setIfInBounds i true).setIfInBounds j true)) w' -> J (marks ms (listed.setIfInBounds j true)) w' := λ w' h => by
    rw [K6 _ _ (Kk hji), BR hm] at h;exact h
   refine wpOp_mono (λ a' w' h3 => ⟨hJ _ h3.2.1, ih (listed.setIfInBounds j true) a' w' (hcl.set hj) hfree' (JV hr (Kk hji)) h3.1 (hJ _ h3.2.1) ?_⟩) h2;rw [K6 _ _ hji];exact h3.2.2
theorem z2i {Q : Act -> World -> Prop} {Q' : Exit -> Act -> World -> Prop} (hQ : ∀ a w, Q a w -> Q' .normal a w) : ∀ (f : Nat) (listed : Array Bool) (a : Act) (w : World), mi P md ops ms J Q f listed a w -> wpAny P md ops Q' f listed a w
 | 0, _, _, _, h => ⟨h.1, hQ _ _ h.2⟩
 | f + 1, _, _, _, h => ⟨λ h0 => hQ _ _ (h.1 h0), λ i hi => Ec (λ a' w' h' => z2i hQ f _ a' w' h'.2) (h.2 i hi)⟩
def BS (md : Region.Mode) (ops : Array Oper) (ms : List Nat) : List Nat -> Array Bool -> Bool
 | [], _ => true
 | k :: r, listed => (Region.ready md ops listed).contains k && Region.free md ops listed k && !ms.contains k && BS md ops ms r (listed.setIfInBounds k true)
theorem z2f {Q : Act -> World -> Prop} (hs : Region.noSelect ops = true) {C : World -> Prop} : ∀ (ks : List Nat) (f : Nat) (listed : Array Bool) (a : Act), (∀ k ∈ ks, ∀ w, sj md ops ms J k w -> C w) -> Closed md ops listed -> J (marks ms listed) w -> BS md ops ms ks listed = true ->
 fU P ops C (λ a' => mi P md ops ms J Q f (ks.foldl (λ l k => l.setIfInBounds k true) listed) a' w) (ks.filterMap (λ k => ops[k]?)) a -> mi P md ops ms J Q (f + ks.length) listed a w
 | [], f, listed, a, _, _, _, _, h => h
 | k :: r, f, listed, a, hC, hc, hI, hB, h => by
  simp only [BS, Jl] at hB;obtain ⟨⟨⟨h1, h2⟩, h3⟩, h4⟩ := hB;have h3 : ms.contains k = false := by simpa using h3
  have hr : k ∈ Region.ready md ops listed := by simpa using h1
  obtain ⟨_, o, ho, _⟩ := Ju.1 hr;simp only [List.filterMap_cons, ho, fU] at h;have : ∃ v, gH P ops (sj md ops ms J k) o v a /\ fU P ops C (λ a' => mi P md ops ms J Q f ((k :: r).foldl (λ l k => l.setIfInBounds k true) listed) a' w) (r.filterMap (λ k => ops[k]?)) (a.put o.dst v) := by
   by_cases hw : Region.wanted o (yielded ops a.tmps) = true
   ·rw [IE hw] at h
    obtain ⟨v, hv, hn⟩ := h;refine ⟨v, .inl ⟨hw, λ w' hw' => ?_⟩, hn⟩;have := hv w' (hC k (Jp ..) w' hw');generalize (execOp a.eval o).run P w' = x at this;cases x with
    | ok n w2 =>
     cases n <;> simp only [aj] at this;case value u => rw [this.1, this.2]
    | halt x w2 => simp only [aj] at this
   ·rw [IA hw] at h
    exact ⟨undef, .inr ⟨by simpa using hw, rfl⟩, h⟩
  obtain ⟨v, hy, hn⟩ := this;rw [show f + (k :: r).length = (f + r.length) + 1 by simp; omega]
  exact y4v ho (Ll hs) h3 _ _ _ _ hc (Lm ho h2) hr hy hI
   (z2f hs r f _ _ (λ x hx => hC x (Jz _ hx)) (hc.set hr) (by rw [BR h3]; exact hI) h4 hn)
theorem sH {Q : Act -> World -> Prop} {a : Act} (C : World -> Prop) (ks : List Nat) (f : Nat) (listed : Array Bool) (hC : ∀ k ∈ ks, ∀ w, sj md ops ms J k w -> C w) (hI : J (marks ms listed) w)
 (hB : (Region.noSelect ops && Dj md ops listed && BS md ops ms ks listed) = true)
 (h : fU P ops C (λ a' => mi P md ops ms J Q f (ks.foldl (λ l k => l.setIfInBounds k true) listed) a' w) (ks.filterMap (λ k => ops[k]?)) a) : mi P md ops ms J Q (f + ks.length) listed a w := by
 simp only [Jl] at hB;exact z2f hB.1.1 ks f listed a hC (z1o hB.1.2) hI hB.2 h
theorem En {Q : Act -> World -> Prop} {a : Act} (k f : Nat) (listed : Array Bool) (o : Oper) (ho : ops[k]? = some o) (hr : Region.ready md ops listed = [k])
 (h : wpList P ops (λ e a' w' => e = .normal /\ J (marks ms (listed.setIfInBounds k true)) w' /\ mi P md ops ms J Q f (listed.setIfInBounds k true) a' w') [o] a w) : mi P md ops ms J Q (f + 1) listed a w :=
 ⟨λ h0 => Ni, λ i hi => by rw [hr] at hi; have e : i = k := NJ; subst e; exact xM ho h⟩
theorem oI {listed : Array Bool} (bs : List Bool) (h : marks ms listed = bs) (hJ : J bs w) : J (marks ms listed) w := by rw [h]; exact hJ
theorem z7f {k0 : Nat} {C : World -> Prop} (h : ∀ w, sj md ops ms J k0 w -> C w) : ∀ k ∈ [k0], ∀ w, sj md ops ms J k w -> C w := λ k hk w hw => by
 simp only [JX] at hk;rw [hk] at hw;exact h w hw
theorem y3g {id : Nat} {Q : Exit -> Act -> World -> Prop} {a : Act} (ms : List Nat) (J : List Bool -> World -> Prop) (hm : P.follows .mixedOrders = true)
 (h : mi P .any ops ms J (λ a' w' => Q .normal a' w') ops.size (Array.replicate ops.size false) a w.drew) : (Code.region id ops true).wp P Q a w :=
 Lr hm (z2i (λ _ _ h => h) _ _ _ _ h)
theorem sj.ahead {i t : Nat} (h : sj md ops ms J i w) (hw : jy md ops ops.size t i = true) : ∃ L, L.getD t false = false /\ J (marks ms L) w := by
 obtain ⟨L, h1, h2, h3⟩ := h;refine ⟨L, ?_, h3⟩;cases hk : L.getD t false with
 | false => rfl
 | true => have := yM h1 _ _ _ hw hk; rw [Kj h2] at this; cases this
end
def y2j (P : Program) (gf : Nat) (lb : Array Value) (V : Nat -> Array Value -> (Nat -> Prop) -> World -> Prop) (N : Nat) (R : Nat -> Prop) (w : World) : Prop :=
 ∀ (l : Nat) (J Jx : Nat -> (Nat -> Prop) -> World -> Prop) (W : World), Below w.heap.size w W -> Stable J -> Stable Jx ->
  (∀ k x O W1, k < N -> V k x O W1 -> J k O W1 -> YieldAt Fence.wide 0 P l x W1 λ e W' =>
   (e = .returned (.bool true) /\ J (k + 1) O W' /\ di (λ i => O i \/ R i) W1 W') \/ (e = .returned (.bool false) /\ Jx (k + 1) O W' /\ di (λ i => O i \/ R i) W1 W')) ->
  J 0 (λ _ => False) W ->
  CallsIn Fence.wide 0 P gf (#[.func (.yield l) #[] #[]] ++ lb) W λ e W' => (∃ v, e = .returned v) /\ ∃ O, (J N O W' \/ ∃ k, k <= N /\ Jx k O W')
theorem y4x {P : Program} {g : Operand} {ps : Array Tmp} {assign body : Code} {Q : Exit -> Act -> World -> Prop} {a : Act}
 {gf : Nat} {lb : Array Value} (hg : a.eval g = .func (.func gf) #[] lb) (eg : ∀ args w, (callFunc gf args).run P w = .ok (.enter gf args) w)
 {V : Nat -> Array Value -> (Nat -> Prop) -> World -> Prop} {N : Nat} {R : Nat -> Prop} (hseq : y2j P gf lb V N R w0) (hR : ∀ i, R i -> i < w.heap.size) (hb0 : Below w0 w0 w) (hps : ∀ k x O W, V k x O W -> x.size = ps.size)
 (I : Nat -> (Nat -> Prop) -> World -> Prop) (Ix : Code -> Nat -> (Nat -> Prop) -> World -> Prop) (hI : Stable I) (hIx : ∀ c, Stable (Ix c))
 (lJ : ∀ k O (r : Loop) (o : Obj) W, W.heap[w.heap.size + 1]? = some (.loop r) -> I k O W -> I k O (W.putObj (w.heap.size + 1) o))
 (nQ : ∀ c k O (r : Loop) (o : Obj) W, W.heap[w.heap.size + 1]? = some (.loop r) -> Ix c k O W -> Ix c k O (W.putObj (w.heap.size + 1) o))
 (h0 : ∀ W, Below w w W -> W.heap.size = w.heap.size + 2 -> I 0 (λ _ => False) W) (Ax : Nat -> (Nat -> Prop) -> Array Value -> Act -> World -> Prop) (hAx : ∀ k O x a', y3t (Ax k O x a'))
 (hassign : ∀ (k : Nat) (x : Array Value) (O : Nat -> Prop) (W : World), k < N -> V k x O W -> I k O W -> w.heap.size + 1 < W.heap.size -> ¬ O (w.heap.size + 1) -> ¬ O w.heap.size ->
  assign.wpIn (Fence.wide.inRound (w.heap.size + 1)) 0 P (Exit.then (λ a' W' => I k O W' /\ di (λ i => O i \/ R i \/ i = w.heap.size + 1 \/ i = w.heap.size) W W' /\ Ax k O x a' W') (λ _ _ _ => False)) { tmps := (ps.zip x).foldl (λ t (p, v) => t.setIfInBounds p v) a.tmps, defers := [] } W)
 (hbody : ∀ (k : Nat) (x : Array Value) (O : Nat -> Prop) (a' : Act) (W : World), k < N -> (∃ r, W.heap[w.heap.size + 1]? = some (.loop r)) -> (∃ o, W.heap[w.heap.size]? = some (.deferred o)) -> ¬ O (w.heap.size + 1) -> ¬ O w.heap.size -> I k O W -> Ax k O x a' W ->
  body.wpIn (Fence.wide.inRound (w.heap.size + 1)) 0 P (GJ (λ i => O i \/ R i \/ i = w.heap.size + 1 \/ i = w.heap.size) I Ix ([] : List Unit) k O W) a' W)
 (hdone : ∀ (O : Nat -> Prop) (W : World), I N O W -> ¬ O w.heap.size -> W.heap[w.heap.size]? = some (.deferred (some [])) -> Q .normal { a with defers := { target := .collected w.heap.size, args := #[] } :: a.defers } W)
 (hstop : ∀ (c : Code) (k : Nat) (O : Nat -> Prop) (W : World), k <= N -> Ix c k O W -> ¬ O w.heap.size -> W.heap[w.heap.size]? = some (.deferred (some [])) -> c.wpIn Fence.wide 0 P Q { a with defers := { target := .collected w.heap.size, args := #[] } :: a.defers } W) :
 (Code.rangeFunc g ps assign body).wpIn Fence.wide 0 P Q a w := by
 refine wpIn_rangeFunc ?_;intro fn hfn
 show ∃ (l : Nat) (mark : List Deferred) (w₁ : World) (d : Deferred) (w₁' : World) (f : FuncId) (args : Array Value) (w₂ : World),
  (Instr.enterLoop fn a.tmps ps assign body none).run P w = .ok (l, mark) w₁ /\ _
 obtain ⟨rec, hrec⟩ : ∃ rec : LoopState -> Option Code -> Loop, rec = λ st pe => { state := st, pending := pe, fn, tmps := a.tmps, params := ps, assign, body, defers := w.heap.size } := ⟨_, rfl⟩;obtain ⟨W1, hW1⟩ := G8 ((w.alloc (.deferred (some []))).alloc (.loop (rec .ready none)));have hL1 : W1.heap[w.heap.size + 1]? = some (.loop (rec .ready none)) := by
  exact Rb
 have hK1 : W1.heap[w.heap.size]? = some (.deferred (some [])) := by
  rw [<-hW1]; exact (JN _ _ _ GZ).trans (Lg w _)
 have hbw : Below w w W1 := by
  rw [<-hW1]; exact ((Below.refl _ w).alloc G7 _).alloc GZ _
 have hb1 : Below w0 w0 W1 := hb0.trans (hbw.mono hb0.size);have hI1 := h0 W1 hbw (by rw [<-hW1]; simp)
 refine ⟨w.heap.size + 1, [{ target := .collected w.heap.size, args := #[] }], W1, { target := .fn (.func gf) lb, args := #[.func (.yield (w.heap.size + 1)) #[] #[]] }, W1, gf,
  #[.func (.yield (w.heap.size + 1)) #[] #[]] ++ lb, W1, ?_, ?_, ?_, ?_, (λ h => by cases h), ?_⟩
 ·rw [<-hW1, hrec]; exact run_enterLoop_outer _ _ _ _ _
 ·simp only [resolve, hg]
  simp [go_sem]
 ·intro f' _; trivial
 ·simp [invoke, go_sem, eg]
 ·have stay : ∀ (O O' : Nat -> Prop) (A B : World) (k : Nat) (o : Obj), A.heap[k]? = some o -> ¬ O k -> Moves O A B -> (∀ i, O' i -> O i \/ A.heap.size <= i) -> B.heap[k]? = some o /\ ¬ O' k := by
   exact Qe
  refine (hseq (w.heap.size + 1)
   (λ k O W => I k O W /\ (W.heap[w.heap.size + 1]? = some (.loop (rec .ready none)) /\ ¬ O (w.heap.size + 1)) /\ (W.heap[w.heap.size]? = some (.deferred (some [])) /\ ¬ O w.heap.size))
   (λ k O W => ∃ c, Ix c k O W /\ (W.heap[w.heap.size + 1]? = some (.loop (rec .done (some c))) /\ ¬ O (w.heap.size + 1)) /\ (W.heap[w.heap.size]? = some (.deferred (some [])) /\ ¬ O w.heap.size))
   W1 hb1
   (λ k O O' A B hs hm ho1 ho2 => ⟨hI k O O' A B hs.1 hm ho1 ho2, stay O O' A B _ _ hs.2.1.1 hs.2.1.2 hm ho2, stay O O' A B _ _ hs.2.2.1 hs.2.2.2 hm ho2⟩)
   (λ k O O' A B hs hm ho1 ho2 => by
    obtain ⟨c, hc, hl, hk⟩ := hs;exact ⟨c, hIx c k O O' A B hc hm ho1 ho2, stay O O' A B _ _ hl.1 hl.2 hm ho2, stay O O' A B _ _ hk.1 hk.2 hm ho2⟩)
   ?_ ⟨hI1, ⟨hL1, λ h => h⟩, ⟨hK1, λ h => h⟩⟩).mono ?_
  ·rintro k x O W hN hx ⟨hi, ⟨hl, hol⟩, ⟨hk, hok⟩⟩
   have hlt : w.heap.size + 1 < W.heap.size := (Jk.1 hl).1;have hnR : ¬ R (w.heap.size + 1) := λ h => Hm (hR _ h);have hy := run_yield (P := P) (args := x) hl (by rw [hrec]; exact hps k x O W hx);rw [hrec] at hy;refine ⟨fn, _, assign, body, hy, roundIn_of_wpIn hfn (KI (hassign k x O W hN hx hi hlt hol hok) ?_)⟩;clear hy;intro e a' Wa hp;cases e with
   | ret => exact hp.elim
   | exit id => exact hp.elim
   | goto t => exact hp.elim
   | panic ch => exact hp.elim
   | outgrown => exact hp.elim
   | normal =>
    obtain ⟨hia, hka, hax⟩ := hp;have hla := (hka.block _ (IC (IC (IB rfl))) hlt).trans hl;have hda := (hka.block _ (IC (IC (IC rfl))) GX).trans hk;have z0x : w.heap.size + 1 < Wa.heap.size := (Jk.1 hla).1;refine ⟨_, run_beginRound hla (by rw [hrec]), ?_⟩;generalize nP : Wa.putObj (w.heap.size + 1) (.loop { rec .ready none with state := .busy }) = Wb;have hl2 : Wb.heap[w.heap.size + 1]? = some (.loop { rec .ready none with state := .busy }) := by rw [<-nP]; exact Lh z0x
    have hk2 : Wb.heap[w.heap.size]? = some (.deferred (some [])) := by rw [<-nP]; exact (Jf GX).trans hda
    have hib : I k O Wb := by rw [<-nP]; exact lJ k O _ _ _ hla hia
    have hab : Ax k O x a' Wb := by rw [<-nP]; exact hAx k O x a' _ _ _ _ hla hax
    have hkb : di (λ i => O i \/ R i) W Wb := by
     exact Qf
    refine KI (hbody k x O a' Wb hN ⟨_, hl2⟩ ⟨_, hk2⟩ hol hok hib hab) ?_;exact Om
  ·exact Pd
namespace Em
open Cm
theorem CE {b : Bytes} (h : b.length <= 8192) : (fO b).length <= b.length + 13 /\ 0 < (fO b).length := by
 rw [uj h];exact RO
structure Goes (d : Dm.D) (room used : Nat) : Prop where
 dead : d.dead = false
 stops : d.stops = -1
 waits : d.waits = []
 room : d.room = room
 tape : (d.lasts.tp 0).length = used
 others : (d.lasts.tp 1).length = 0 /\ (d.lasts.tp 2).length = 0 /\ (d.lasts.tp 3).length = 0
theorem Goes.stand {d : Dm.D} {room used : Nat} (h : Goes d room used) : d.stand = d.lasts := by
 unfold Dm.D.stand;rw [h.waits];rfl
theorem Goes.used {d : Dm.D} {room used : Nat} (h : Goes d room used) : d.stand.used = used := by
 rw [h.stand];unfold Dm.St.used;rw [h.tape, h.others.1, h.others.2.1, h.others.2.2];omega
theorem Goes.wrote {d : Dm.D} {room used : Nat} {b : Bytes} (h : Goes d room used) (hb : used + b.length <= room) : (wrote d 0 b).2 = 0 /\ Goes (wrote d 0 b).1 room (used + b.length) := by
 have hg : d.goes = (d, 0) := by
  unfold Dm.D.goes;rw [h.dead, h.stops];rfl
 have ha : d.append (0 : Nat) b = ({ d with waits := d.waits ++ [⟨2, 0, 0, b⟩] }, 0) := by
  unfold Dm.D.append;rw [IA GY, IA (by rw [h.used, h.room]; omega)];unfold Dm.D.step;rw [hg];rfl
 unfold Em.wrote next;rw [ha];simp only [I6];have hg2 : ({ d with waits := d.waits ++ [⟨2, 0, 0, b⟩] } : Dm.D).goes = ({ d with waits := d.waits ++ [⟨2, 0, 0, b⟩] }, 0) := by
  unfold Dm.D.goes;simp only [h.dead, h.stops];rfl
 have hs : ({ d with waits := d.waits ++ [⟨2, 0, 0, b⟩] } : Dm.D).stand = d.lasts.done ⟨2, 0, 0, b⟩ := by
  unfold Dm.D.stand;simp only [h.waits];rfl
 unfold Dm.D.sync;rw [hg2];simp only [I6];rw [hs];refine ⟨trivial, ⟨h.dead, h.stops, rfl, h.room, ?_, ?_⟩⟩
 ·show ((Dm.upd d.lasts.tp 0 (d.lasts.tp 0 ++ b)) 0).length = _
  rw [Dm.upd_same, IQ, h.tape]
 ·refine ⟨?_, ?_, ?_⟩
  ·show ((Dm.upd d.lasts.tp 0 (d.lasts.tp 0 ++ b)) 1).length = _
   rw [Dm.sJ _ _ _ _ GY]; exact h.others.1
  ·show ((Dm.upd d.lasts.tp 0 (d.lasts.tp 0 ++ b)) 2).length = _
   rw [Dm.sJ _ _ _ _ GY]; exact h.others.2.1
  ·show ((Dm.upd d.lasts.tp 0 (d.lasts.tp 0 ++ b)) 3).length = _
   rw [Dm.sJ _ _ _ _ GY]; exact h.others.2.2
structure xH (e : E) (room : Nat) : Prop where
 tp : e.tp = 0
 gen : e.gen = 1
 gone : e.gone = false
 disk : Goes e.d room e.fin
theorem x2t (s : Int) (room : Nat) : Goes (Dm.new s room) room 0 := ⟨rfl, rfl, rfl, rfl, rfl, rfl, rfl, rfl⟩
theorem x9q {s : Int} {room : Nat} (hr : 100 <= room) : (begun (Dm.new s room)).2 = 0 /\ xH (begun (Dm.new s room)).1 room /\ (begun (Dm.new s room)).1.rows = .map [] /\ (begun (Dm.new s room)).1.aK = 0 /\ (begun (Dm.new s room)).1.fin <= 100 := by
 have hf : (folded 1 (.map [])).length <= 100 := by
  have := (CE (b := Wm.aG 1 ++ Wm.aG 1 ++ Wm.aG (size (.map [] : Rows))) GY).1;show (fO (Wm.aG 1 ++ Wm.aG 1 ++ Wm.aG (size (.map [] : Rows))) ++ (cO (.map [])).flatMap (rowOf (.map []))).length <= 100;have e : (cO (.map [])).flatMap (rowOf (.map [])) = [] := by simp [cO, strKeys]
  rw [e, JA];have h3 : (Wm.aG 1 ++ Wm.aG 1 ++ Wm.aG (size (.map [] : Rows))).length <= 27 := by
   have h1 := (gY 1).1;have h2 := (gY (size (.map [] : Rows))).1;rw [IQ, IQ];omega
  omega
 have h0 := x2t s room;have he : bK (Dm.new s room) 0 (folded 1 (.map [])) = wrote (Dm.new s room) 0 (folded 1 (.map [])) := by
  unfold bK wrote bZ;rw [IE (show ((Dm.new s room).stand.tp (0 : Nat)).length = 0 from rfl)];rfl
 obtain ⟨h1, h2⟩ := h0.wrote (b := folded 1 (.map [])) GX;have hbg : begun (Dm.new s room) = (⟨0, 1, .map [], 0, (folded 1 (.map [])).length, (bK (Dm.new s room) 0 (folded 1 (.map []))).1, false⟩, (bK (Dm.new s room) 0 (folded 1 (.map []))).2) := rfl;rw [hbg, he];exact ⟨h1, ⟨rfl, rfl, rfl, by simpa using h2⟩, rfl, rfl, hf⟩
theorem xH.bE {e : E} {room : Nat} {l : List ay} (h : xH e room) (hd : aX e.rows l = 0) (hl : (dU l).length <= 8192) (hb : e.aK < 32) (hr : e.fin + (dU l).length + 13 <= room / 2) :
 (e.bE l).2 = 0 /\ xH (e.bE l).1 room /\ (e.bE l).1.rows = behind e.rows l /\ (e.bE l).1.aK = e.aK + 1 /\ (e.bE l).1.fin <= e.fin + (dU l).length + 13 := by
 obtain ⟨f1, f2⟩ := CE hl;have hbl : aZ l = fO (dU l) := rfl;have hp : e.put (behind e.rows l) (aZ l) = _ := tC (e := e) (D := behind e.rows l) (b := aZ l) (by rw [hbl, h.disk.room]; omega);obtain ⟨w1, w2⟩ := h.disk.wrote (b := aZ l) (by rw [hbl]; omega);rw [h.tp] at hp;simp only [w1, I6] at hp;have hst : e.step (behind e.rows l) (aZ l) = e.put (behind e.rows l) (aZ l) := by
  unfold E.step;rw [hp];rfl
 have hc : e.bE l = ({ (e.step (behind e.rows l) (aZ l)).1 with gone := decide ((e.step (behind e.rows l) (aZ l)).2 = 281) }, (e.step (behind e.rows l) (aZ l)).2) := by
  unfold E.bE;rw [IA GX, IA (by rw [h.gone]; decide)]
 rw [hc, hst, hp];refine ⟨rfl, ⟨rfl, h.gen, rfl, ?_⟩, rfl, rfl, ?_⟩
 ·exact w2
 ·show e.fin + (aZ l).length <= _
  rw [hbl]; omega
theorem x7c {e : E} {l : List ay} {r : E × Int} (hd : aX e.rows l = 0) (hg : e.gone = false) (hp : e.put (behind e.rows l) (aZ l) = r) (x4g : r.2 ≠ 280) : e.bE l = ({ r.1 with gone := decide (r.2 = 281) }, r.2) := by
 have hst : e.step (behind e.rows l) (aZ l) = r := by
  unfold E.step;rw [hp, IA x4g]
 unfold E.bE;rw [IA GX, IA (by rw [hg]; decide), hst]
theorem x7h {e : E} {room : Nat} {l : List ay} (tp : e.tp = 0) (gone : e.gone = false) (dead : e.d.dead = false) (stops : e.d.stops = 0) (hroom : e.d.room = (room : Int)) (used : e.d.stand.used = (e.fin : Int))
 (hd : aX e.rows l = 0) (hl : (dU l).length <= 8192) (hb : e.aK < 32) (hr : e.fin + (dU l).length + 13 <= room / 2) :
 (e.bE l).2 = 281 /\ (e.bE l).1.gone = true /\ (e.bE l).1.rows = e.rows := by
 obtain ⟨f1, f2⟩ := CE hl;have hbl : aZ l = fO (dU l) := rfl;have hg : e.d.goes = ({ e.d with dead := true, stops := -1 }, 281) := by
  unfold Dm.D.goes;rw [IA (by rw [dead]; decide), IE stops]
 have ha : e.d.append (e.tp : Nat) (aZ l) = ({ e.d with dead := true, stops := -1 }, 281) := by
  rw [tp];unfold Dm.D.append;rw [IA GY, IA (by rw [used, hroom, hbl]; omega)];unfold Dm.D.step;rw [hg];rfl
 have hw : (wrote e.d e.tp (aZ l)).2 = 281 := by
  unfold wrote next;rw [ha];rfl
 have hp := tC (e := e) (D := behind e.rows l) (b := aZ l) (by rw [hbl, hroom]; omega);rw [hw] at hp;rw [x7c hd gone hp (show (281 : Int) ≠ 280 by decide)];exact Qy
theorem xH.stopped {e : E} {room : Nat} {l : List ay} (h : xH e room) (hd : aX e.rows l = 0) (hl : (dU l).length <= 8192) (hb : e.aK < 32) (hr : e.fin + (dU l).length + 13 <= room / 2) :
 (({ e with d := (e.d.stop 0).1 } : E).bE l).2 = 281 /\ (({ e with d := (e.d.stop 0).1 } : E).bE l).1.gone = true /\ (({ e with d := (e.d.stop 0).1 } : E).bE l).1.rows = e.rows := by
 have hs : (e.d.stop 0).1 = { e.d with stops := 0 } := by
  unfold Dm.D.stop;rw [IA GY, IA (by rw [h.disk.dead]; decide)]
 rw [hs];exact x7h (room := room) h.tp h.gone h.disk.dead rfl h.disk.room h.disk.used hd hl hb hr
def l1 : List ay := [⟨[97], [49], false⟩, ⟨[98], [50], false⟩, ⟨[97], [], true⟩]
def lc : List ay := [⟨[99], [51], false⟩]
def ld : List ay := [⟨[100], [52], false⟩]
def b1 : List ay := [⟨[], [], false⟩]
def b2 : List ay := [⟨[97], [49], true⟩]
def z65 : Bytes := List.replicate 65 0
def b3 : List ay := [⟨z65, [], false⟩]
def D1 : Rows := behind (.map []) l1
theorem x3i : aX (.map []) l1 = 0 := GY
theorem w1n : size D1 = 1 := GY
theorem y3x : valueOf D1 [98] = [50] /\ has D1 (.string [98]) = true := GY
theorem y3w : has D1 (.string [97]) = false /\ has D1 (.string [99]) = false := GY
theorem x9e : aX D1 b1 = 2 := GY
theorem x9f : aX D1 b2 = 2 := GY
theorem x9g : aX D1 b3 = 3 := GY
theorem x3q : aX D1 lc = 0 := GY
theorem x3r : aX D1 ld = 0 := GY
theorem Gw : (dU l1).length <= 100 := GY
theorem z8m : (dU lc).length <= 100 := GY
end Em
section
variable {P : Program} {l : List Oper} {md : Region.Mode}
def jD (vals : Nat -> Value) : List Oper -> Nat -> Act -> Act
 | [], _, a => a
 | o :: l, k, a => jD vals l (k + 1) (a.put o.dst (vals k))
structure uF (l : List Oper) (L : Nat -> Bool) (vals : Nat -> Value) (a0 a : Act) : Prop where
 defers : a.defers = a0.defers
 size : a.tmps.size = a0.tmps.size
 put : ∀ (k : Nat) (o : Oper) (d : Tmp), l[k]? = some o -> o.dst = some d -> L k = true -> a.tmps[d]? = some (vals k)
 old : ∀ s : Nat, (∀ (k : Nat) (o : Oper), l[k]? = some o -> L k = true -> o.dst ≠ some s) -> a.tmps[s]? = a0.tmps[s]?
def nU (n : Nat) : List Oper -> Bool
 | [] => true
 | o :: l => (match o.dst with | none => true | some d => decide (d < n) && l.all (λ o' => o'.dst != some d)) && nU n l
theorem z1d : ∀ {l : List Oper}, nU n l = true -> ∀ (k : Nat) (o : Oper) (d : Tmp), l[k]? = some o -> o.dst = some d -> d < n
 | [], _, k, o, d, hk, _ => by simp at hk
 | x :: l, h, k, o, d, hk, hd => by
  simp only [nU, Jl] at h;cases k with
  | zero =>
   simp only [List.getElem?_cons_zero, JC] at hk;subst hk;have h1 := h.1;rw [hd] at h1;simp only [Jl, Kg] at h1;exact h1.1
  | succ k => exact z1d h.2 k o d NK hd
theorem z1e : ∀ {l : List Oper}, nU n l = true -> ∀ (k j : Nat) (o o' : Oper) (d : Tmp), l[k]? = some o -> l[j]? = some o' -> o.dst = some d -> k ≠ j -> o'.dst ≠ some d
 | [], _, k, _, o, _, d, hk, _, _, _ => by simp at hk
 | x :: l, h, k, j, o, o', d, hk, hj, hd, hne => by
  simp only [nU, Jl] at h;cases k with
  | zero =>
   simp only [List.getElem?_cons_zero, JC] at hk;subst hk;cases j with
   | zero => exact absurd rfl hne
   | succ j =>
    have h1 := h.1;rw [hd] at h1;simp only [Jl, JK] at h1;have := h1.2 o' (Jg NS);simpa using this
  | succ k =>
   cases j with
   | zero =>
    simp only [List.getElem?_cons_zero, JC] at hj;subst hj;intro e;have h1 := h.1;rw [e] at h1;simp only [Jl, JK] at h1;have := h1.2 o (Jg NK);rw [hd] at this;simp at this
   | succ j => exact z1e h.2 k j o o' d NK NS hd GX
theorem uF.next (hn : nU n l = true) {L : Nat -> Bool} {vals : Nat -> Value} {a0 a : Act} (hsz : a0.tmps.size = n) (h : uF l L vals a0 a) {i : Nat} {o : Oper} (hi : l[i]? = some o) (hL : L i = false) (v : Value) :
 uF l (λ k => if k = i then true else L k) (λ k => if k = i then v else vals k) a0 (a.put o.dst v) := by
 cases hd : o.dst with
 | none =>
  refine ⟨h.defers, h.size, λ k o' d hk hd' hLk => ?_, λ s hs => h.old s (λ k o' hk hLk => hs k o' hk (by split; rfl; exact hLk))⟩;have hne : k ≠ i := λ e => by subst e; rw [hi] at hk; cases hk; rw [hd] at hd'; cases hd'
  simp only [IA hne] at hLk ⊢;exact h.put k o' d hk hd' hLk
 | some d0 =>
  have hlt : d0 < a.tmps.size := by rw [h.size, hsz]; exact z1d hn i o d0 hi hd
  refine ⟨h.defers, by simpa [Act.put] using h.size, λ k o' d hk hd' hLk => ?_, λ s hs => ?_⟩
  ·by_cases hki : k = i
   ·subst hki
    rw [hi] at hk; cases hk;rw [hd] at hd'; cases hd';simp [Act.put, KY, hlt]
   ·simp only [IA hki] at hLk ⊢
    have hne : d0 ≠ d := λ e => z1e hn i k o o' d0 hi hk hd (Kk hki) (by rw [e]; exact hd');show (a.tmps.setIfInBounds d0 v)[d]? = _;rw [Lf hne];exact h.put k o' d hk hd' hLk
  ·have hne : d0 ≠ s := λ e => hs i o hi GZ (by rw [hd, e])
   show (a.tmps.setIfInBounds d0 v)[s]? = _;rw [Lf hne];exact h.old s (λ k o' hk hLk => hs k o' hk (by split; rfl; exact hLk))
theorem z7v (vals : Nat -> Value) : ∀ (l : List Oper) (k : Nat) (a : Act), (jD vals l k a).defers = a.defers
 | [], _, _ => rfl
 | o :: l, k, a => by
  rw [jD, z7v vals l];cases o.dst <;> rfl
theorem z7u (vals : Nat -> Value) : ∀ (l : List Oper) (k : Nat) (a : Act), nU n l = true -> a.tmps.size = n ->
 (∀ (j : Nat) (o : Oper) (d : Tmp), l[j]? = some o -> o.dst = some d -> (jD vals l k a).tmps[d]? = some (vals (k + j))) /\ (∀ s : Nat, (∀ (j : Nat) (o : Oper), l[j]? = some o -> o.dst ≠ some s) -> (jD vals l k a).tmps[s]? = a.tmps[s]?)
 | [], k, a, _, _ => ⟨λ j o d hj => by simp at hj, λ _ _ => rfl⟩
 | x :: l, k, a, h, hsz => by
  have h' := h;simp only [nU, Jl] at h;have hsz' : (a.put x.dst (vals k)).tmps.size = n := by cases x.dst <;> simp [Act.put, hsz]
  obtain ⟨i1, i2⟩ := z7u vals l (k + 1) (a.put x.dst (vals k)) h.2 hsz';refine ⟨λ j o d hj hd => ?_, λ s hs => ?_⟩
  ·cases j with
   | zero =>
    simp only [List.getElem?_cons_zero, JC] at hj;subst hj;rw [jD, i2 d (λ j o hj => z1e h' 0 (j + 1) x o d rfl NS hd GX), hd];have := z1d h' 0 x d rfl hd;simp [Act.put, KY, hsz, this]
   | succ j =>
    rw [jD, i1 j o d NS hd];congr 2
    omega
  ·rw [jD, i2 s (λ j o hj => hs (j + 1) o NS)]
   have := hs 0 x rfl;cases hd : x.dst with
   | none => rfl
   | some d =>
    rw [hd] at this;show (a.tmps.setIfInBounds d _)[s]? = _;rw [Lf (λ e => this (by rw [e]))]
theorem uF.all (hn : nU n l = true) {L : Nat -> Bool} {vals : Nat -> Value} {a0 a : Act} (hsz : a0.tmps.size = n) (h : uF l L vals a0 a) (hL : ∀ k, k < l.length -> L k = true) : a = jD vals l 0 a0 := by
 obtain ⟨i1, i2⟩ := z7u vals l 0 a0 hn hsz;have e1 : a.tmps = (jD vals l 0 a0).tmps := by
  apply Mc
  intro s;by_cases hs : ∃ (k : Nat) (o : Oper), l[k]? = some o /\ o.dst = some s
  ·obtain ⟨k, o, hk, hd⟩ := hs
   rw [h.put k o s hk hd (hL k (I4.1 hk).1), i1 k o s hk hd, Ja]
  ·have hs' : ∀ (k : Nat) (o : Oper), l[k]? = some o -> o.dst ≠ some s := λ k o hk hd => hs ⟨k, o, hk, hd⟩
   rw [h.old s (λ k o hk _ => hs' k o hk), i2 s hs']
 have e2 : a.defers = (jD vals l 0 a0).defers := by rw [z7v, h.defers]
 cases a;cases hp : jD vals l 0 a0;rw [hp] at e1 e2;simp only at e1 e2;rw [e1, e2]
def Gp (md : Region.Mode) (l : List Oper) : Bool :=
 (List.range l.length).all λ i => match l[i]? with
  | some o => o.after.all λ e => !Region.binds md e || decide (e.on < i)
  | none => true
theorem w0r (hlow : Gp md l = true) {listed : Array Bool} (hz : listed.size = l.length) (hr : Region.ready md l.toArray listed = []) : ∀ k, k < l.length -> listed.getD k false = true := by
 intro k;induction k using Nat.strongRecOn with
 | ind k ih =>
  intro hk;cases hL : listed.getD k false with
  | true => rfl
  | false =>
   exfalso
   have hm : k ∈ Region.ready md l.toArray listed := by
    refine Ju.2 ⟨?_, l[k], by simp [hk], λ e he hb => ?_⟩
    ·have hkz : k < listed.size := GX
     simp only [Mm, Array.getElem?_eq_getElem hkz, Option.getD_some] at hL ⊢;exact hL
    ·have h1 := JK.1 hlow k (K7.2 hk)
     rw [IX hk] at h1;have h2 := (JF.1 h1) e he;simp only [hb, Bool.not_true, Lp, Kg] at h2;exact ih e.on h2 GX
   rw [hr] at hm;cases hm
theorem w0s (hn : nU n l = true) (a0 : Act) (hsz : a0.tmps.size = n) (J : (Nat -> Bool) -> (Nat -> Value) -> World -> Prop)
 (hstep : ∀ (i : Nat) (o : Oper) (L : Nat -> Bool) (vals : Nat -> Value) (a : Act) (w : World), l[i]? = some o -> L i = false -> (∀ k, jy md l.toArray l.length i k = true -> L k = true) -> (∀ k, jy md l.toArray l.length k i = true -> L k = false) -> J L vals w ->
  (∀ (k : Nat) (ok : Oper) (d : Tmp), l[k]? = some ok -> ok.dst = some d -> L k = true -> a.tmps[d]? = some (vals k)) -> (∀ s : Nat, (∀ (k : Nat) (ok : Oper), l[k]? = some ok -> ok.dst ≠ some s) -> a.tmps[s]? = a0.tmps[s]?) ->
  wpList P l.toArray (λ e a' w' => e = .normal /\ ∃ v, a' = a.put o.dst v /\ J (λ k => if k = i then true else L k) (λ k => if k = i then v else vals k) w') [o] a w)
 {Q : Exit -> Act -> World -> Prop} (hlow : Gp md l = true)
 (hend : ∀ vals w, J (λ _ => true) vals w -> Q .normal (jD vals l 0 a0) w)
 (Cj : ∀ L L' vals w, (∀ k, k < l.length -> L k = L' k) -> J L vals w -> J L' vals w) :
 ∀ (f : Nat) (listed : Array Bool) (vals : Nat -> Value) (a : Act) (w : World), listed.size = l.length -> Closed md l.toArray listed -> l.length <= f + (List.range l.length).countP (λ k => listed.getD k false) -> uF l (λ k => listed.getD k false) vals a0 a ->
  J (λ k => listed.getD k false) vals w -> wpAny P md l.toArray Q f listed a w := by
 have done : ∀ (listed : Array Bool) (vals : Nat -> Value) (a : Act) (w : World), (∀ k, k < l.length -> listed.getD k false = true) -> uF l (λ k => listed.getD k false) vals a0 a ->
  J (λ k => listed.getD k false) vals w -> Q .normal a w := by
  intro listed vals a w hL hs hg;rw [hs.all hn hsz hL];exact hend vals w (Cj _ _ vals w (λ k hk => hL k hk) hg)
 intro f;induction f with
 | zero =>
  intro listed vals a w hz hc hf hs hg;have hL : ∀ k, k < l.length -> listed.getD k false = true := by
   have h1 : (List.range l.length).countP (λ k => listed.getD k false) = (List.range l.length).length := by
    have := List.countP_le_length (p := λ k => listed.getD k false) (l := List.range l.length);simp at this ⊢;simp at hf;omega
   have h2 := List.countP_eq_length.1 h1;intro k hk;exact h2 k (K7.2 hk)
  refine ⟨?_, done listed vals a w hL hs hg⟩;rw [List.eq_nil_iff_forall_not_mem];intro j hj;obtain ⟨h0, o, ho, _⟩ := Ju.1 hj;have hlt : j < l.length := by simpa using (Jk.1 ho).1
  have h1 := hL j hlt;rw [Kj h0] at h1;cases h1
 | succ f ih =>
  intro listed vals a w hz hc hf hs hg;refine ⟨λ hr => done listed vals a w (w0r hlow hz hr) hs hg, λ i hi => ?_⟩;obtain ⟨h0, o, ho, hafter⟩ := Ju.1 hi;have hi' : l[i]? = some o := by simpa using ho
  have hlt : i < l.length := (I4.1 hi').1;have iA : listed.getD i false = false := Kj h0;have hdeps : ∀ k, jy md l.toArray l.length i k = true -> listed.getD k false = true := by
   intro k hk;cases hn : l.length with
   | zero => omega
   | succ g =>
    rw [hn] at hk;simp only [jy, ho] at hk;obtain ⟨e, he, hb⟩ := Me.1 hk;simp only [Jl, Lj, beq_iff_eq] at hb;have h1 := hafter e he hb.1;rcases hb.2 with h2 | h2
    ·rw [<-h2]; exact h1
    ·exact yM hc _ _ _ h2 h1
  have x4u : ∀ k, jy md l.toArray l.length k i = true -> listed.getD k false = false := by
   intro k hk;cases hk2 : listed.getD k false with
   | false => rfl
   | true => have := yM hc _ _ _ hk hk2; rw [iA] at this; cases this
  have hset : ∀ k, (listed.setIfInBounds i true).getD k false = if k = i then true else listed.getD k false := by
   intro k;by_cases hk : k = i
   ·subst hk
    simp only [I6, Mm, KY];simp [hz, hlt]
   ·simp only [IA hk, Mm, Lf (Kk hk)]
  have h1 := hstep i o (λ k => listed.getD k false) vals a w hi' iA hdeps x4u hg
   (λ k ok d hk hd hw => hs.put k ok d hk hd hw)
   (λ s hs' => hs.old s (λ k o hk _ => hs' k o hk))
  refine wpOp_mono ?_ (Ec (λ _ _ h => h) (xM ho h1));rintro a' w' ⟨v, rfl, hg'⟩;refine ih (listed.setIfInBounds i true) (λ k => if k = i then v else vals k) _ w' (by simpa using hz) (hc.set hi) ?_ ?_ ?_
  ·have hcount : (List.range l.length).countP (λ k => listed.getD k false) + 1 <= (List.range l.length).countP (λ k => (listed.setIfInBounds i true).getD k false) := by
    have key : ∀ (r : List Nat), r.Nodup -> (r.countP (λ k => listed.getD k false)) + (if i ∈ r then 1 else 0) <= r.countP (λ k => (listed.setIfInBounds i true).getD k false) := by
     intro r hr;induction r with
     | nil => simp
     | cons x r ihr =>
      rw [List.nodup_cons] at hr;have h3 := ihr hr.2;rw [List.countP_cons, List.countP_cons, hset];by_cases hx : x = i
      ·subst hx
       rw [IA hr.1] at h3;rw [iA, IE rfl, IE (Jp ..)];simp only [KJ, JS, I6];omega
      ·have hm : (i ∈ x :: r) ↔ i ∈ r := by simp [Kk hx]
       simp only [hm, IA hx];omega
    have := key (List.range l.length) List.nodup_range;rw [IE (K7.2 hlt)] at this;exact this
   omega
  ·have := hs.next hn hsz hi' iA v
   have e : (λ k => (listed.setIfInBounds i true).getD k false) = (λ k => if k = i then true else listed.getD k false) := funext hset;rw [e];exact this
  ·have e : (λ k => (listed.setIfInBounds i true).getD k false) = (λ k => if k = i then true else listed.getD k false) := funext hset
   rw [e];exact hg'
theorem z2n {id : Nat} {Q : Exit -> Act -> World -> Prop} {a0 : Act} (n : Nat) (J : (Nat -> Bool) -> (Nat -> Value) -> World -> Prop) (hm : P.follows .mixedOrders = true) (hsz : a0.tmps.size = n)
 (hB : (nU n l && Gp .any l) = true)
 (Cj : ∀ L L' vals w, (∀ k, k < l.length -> L k = L' k) -> J L vals w -> J L' vals w) (hg0 : J (λ _ => false) (λ _ => undef) w0.drew)
 (hstep : ∀ (i : Nat) (o : Oper) (L : Nat -> Bool) (vals : Nat -> Value) (a : Act) (w : World), l[i]? = some o -> L i = false -> (∀ k, jy .any l.toArray l.length i k = true -> L k = true) -> (∀ k, jy .any l.toArray l.length k i = true -> L k = false) -> J L vals w ->
  (∀ (k : Nat) (ok : Oper) (d : Tmp), l[k]? = some ok -> ok.dst = some d -> L k = true -> a.tmps[d]? = some (vals k)) -> (∀ s : Nat, (l.all λ ok => ok.dst != some s) = true -> a.tmps[s]? = a0.tmps[s]?) ->
  wpList P l.toArray (λ e a' w' => e = .normal /\ ∃ v, a' = a.put o.dst v /\ J (λ k => if k = i then true else L k) (λ k => if k = i then v else vals k) w') [o] a w)
 (hend : ∀ vals w, J (λ _ => true) vals w -> Q .normal (jD vals l 0 a0) w) : (Code.region id l.toArray true).wp P Q a0 w0 := by
 simp only [Jl] at hB;have none : ∀ k, (Array.replicate l.length false).getD k false = false := λ k => getD_replicate_false _ _;refine Lr hm ?_;have hz : l.toArray.size = l.length := GZ;rw [hz];refine w0s hB.1 a0 hsz J (λ i o L vals a w h1 h2 h3 h4 h5 h6 h7 => hstep i o L vals a w h1 h2 h3 h4 h5 h6 (λ s hs => h7 s (λ k ok hk hd => by have := JK.1 hs ok (Jg hk); rw [hd] at this; simp at this))) hB.2 hend Cj l.length (Array.replicate l.length false) (λ _ => undef) a0 w0.drew GZ (x8v _) (Nat.le_add_right _ _) ⟨rfl, rfl, λ k o d hk hd hL => ?_, λ s _ => rfl⟩ ?_
 ·rw [none] at hL; cases hL
 ·exact Cj _ _ _ _ (λ k _ => (none k).symm) hg0
end
def Exit.fwd (P : Program) (l : Nat) (rest : Code) (Q : Exit -> Act -> World -> Prop) : Exit -> Act -> World -> Prop
 | .goto l', a, w => l' = l /\ rest.wp P (Exit.noGoto Q) a w
 | e, a, w => Q e a w
theorem Exit.zh {P : Program} {l : Nat} {rest : Code} {Q : Exit -> Act -> World -> Prop} {a : Act} (h : rest.wp P (Exit.noGoto Q) a w) : Exit.fwd P l rest Q (.goto l) a w := ⟨rfl, h⟩
theorem Exit.z9a {P : Program} {l : Nat} {rest : Code} {Q : Exit -> Act -> World -> Prop} {a : Act} : Exit.fwd P l rest Q .ret a w = Q .ret a w := rfl
theorem sG {P : Program} {Q : Exit -> Act -> World -> Prop} {a : Act} {c rest : Code} (l : Nat) (hf : findLabel c l = some rest)
 (first : c.wp P (Exit.fwd P l rest Q) a w) : (Code.scope c).wp P Q a w := by
 intro b k cs;have hg : gotoIn l (.inScope c :: k) = some (.code rest :: .inScope c :: k) := by simp [gotoIn, hf]
 obtain ⟨e, a₁, w₁, hq, harr⟩ := first b (.inScope c :: k) cs;cases e with
 | normal => exact ⟨.normal, a₁, w₁, hq, .head J8 (Steps.trans harr (.one step_inScope))⟩
 | exit id => exact ⟨.exit id, a₁, w₁, hq, λ k' hk => .head J8 (harr k' (by simp [exitTo, hk]))⟩
 | goto l' =>
  obtain ⟨rfl, hJ⟩ := hq;obtain ⟨e₂, a₂, w₂, lH, mO⟩ := hJ b (.inScope c :: k) cs;cases e₂ with
  | normal => exact ⟨.normal, a₂, w₂, lH, .of_steps (.head J8 (harr _ hg)) (Steps.trans mO (.one step_inScope))⟩
  | exit id => exact ⟨.exit id, a₂, w₂, lH, λ k' hk => Steps.trans (.head J8 (harr _ hg)) (mO k' (by simp [exitTo, hk]))⟩
  | goto l'' => exact lH.elim
  | ret => exact ⟨_, a₂, w₂, lH, .of_steps (.head J8 (harr _ hg)) mO⟩
  | panic ch => exact ⟨_, a₂, w₂, lH, .of_steps (.head J8 (harr _ hg)) mO⟩
  | outgrown => exact ⟨_, a₂, w₂, lH, .of_steps (.head J8 (harr _ hg)) mO⟩
 | ret => exact ⟨_, a₁, w₁, hq, .of_steps (.one J8) harr⟩
 | panic ch => exact ⟨_, a₁, w₁, hq, .of_steps (.one J8) harr⟩
 | outgrown => exact ⟨_, a₁, w₁, hq, .of_steps (.one J8) harr⟩
def Exit.z0n (F : Fence) (n : Nat) (P : Program) (l : Nat) (rest : Code) (Q : Exit -> Act -> World -> Prop) : Exit -> Act -> World -> Prop
 | .goto l', a, w => l' = l /\ rest.wpIn F n P (Exit.noGoto Q) a w
 | e, a, w => Q e a w
theorem Exit.y0y {F : Fence} {P : Program} {l : Nat} {rest : Code} {Q : Exit -> Act -> World -> Prop} {a : Act} (h : rest.wpIn F n P (Exit.noGoto Q) a w) : Exit.z0n F n P l rest Q (.goto l) a w := ⟨rfl, h⟩
theorem Exit.y0z {F : Fence} {P : Program} {l : Nat} {rest : Code} {Q : Exit -> Act -> World -> Prop} {a : Act} : Exit.z0n F n P l rest Q .ret a w = Q .ret a w := rfl
theorem y4y {F : Fence} {P : Program} {Q : Exit -> Act -> World -> Prop} {a : Act} {c rest : Code} (l : Nat) (hf : findLabel c l = some rest)
 (h : c.wpIn F n P (Exit.z0n F n P l rest Q) a w) : (Code.scope c).wpIn F n P Q a w := by
 intro b k cs hro hb hr;have h0 : (lone (b.atR a (.code (.scope c) :: k)) cs w).fenced P F := KZ hb hr rfl;have hg : gotoIn l (.inScope c :: k) = some (.code rest :: .inScope c :: k) := by simp [gotoIn, hf]
 obtain ⟨e, a₁, w₁, hq, harr⟩ := h b (.inScope c :: k) cs hro hb hr;have hx : ∀ id, exitTo id (.inScope c :: k) = exitTo id k := λ id => by simp [exitTo]
 cases e with
 | normal => exact ⟨.normal, a₁, w₁, hq, .head h0 lu (StepsIn.trans harr (.one (KZ hb hr rfl) EL))⟩
 | exit id => exact ⟨.exit id, a₁, w₁, hq, λ k' hk => .head h0 lu (harr.1 k' Nv),
  λ hr' hk => let ⟨k₁, h1, h2⟩ := harr.2 hr' Nv; ⟨k₁, h1, .head h0 lu h2⟩⟩
 | goto l' =>
  obtain ⟨rfl, hJ⟩ := hq;have pre := StepsIn.head h0 lu (harr.1 _ hg);obtain ⟨e₂, a₂, w₂, lH, mO⟩ := hJ b (.inScope c :: k) cs hro hb hr;cases e₂ with
  | normal => exact ⟨.normal, a₂, w₂, lH, StepsIn.trans pre (StepsIn.trans mO (.one (KZ hb hr rfl) EL))⟩
  | exit id => exact ⟨.exit id, a₂, w₂, lH, λ k' hk => pre.trans (mO.1 k' Nv),
   λ hr' hk => let ⟨k₁, h1, h2⟩ := mO.2 hr' Nv; ⟨k₁, h1, pre.trans h2⟩⟩
  | goto l'' => exact lH.elim
  | ret => exact ⟨_, a₂, w₂, lH, .of_steps pre mO⟩
  | panic ch => exact ⟨_, a₂, w₂, lH, .of_steps pre mO⟩
  | outgrown => exact ⟨_, a₂, w₂, lH, .of_steps pre mO⟩
 | ret => exact ⟨_, a₁, w₁, hq, .of_steps (.one h0 lu) harr⟩
 | panic ch => exact ⟨_, a₁, w₁, hq, .of_steps (.one h0 lu) harr⟩
 | outgrown => exact ⟨_, a₁, w₁, hq, .of_steps (.one h0 lu) harr⟩
namespace Em
open Cm
abbrev bB := List (Bytes × Bytes)
def oQ (l : bB) : Prop := l.Pairwise (λ a b => a.1 <= b.1 /\ a.1 ≠ b.1)
def tell (D : Rows) : bB := (cO D).map λ k => (k, valueOf D k)
def iy (c : ay) : Bool -> bB -> bB
 | put, [] => if put = true then [] else [(c.key, c.value)]
 | put, r :: l => (if put = false /\ c.key <= r.1 then [(c.key, c.value)] else []) ++ ((if r.1 ≠ c.key then [r] else []) ++ iy c (put || decide (c.key <= r.1)) l)
def gV (rows : bB) (c : ay) : bB := iy c c.gone rows
theorem Gl (c : ay) (x : Bytes × Bytes) : ∀ (l : bB) (put : Bool), x ∈ iy c put l ↔ (x ∈ l /\ x.1 ≠ c.key) \/ (put = false /\ x = (c.key, c.value)) := by
 intro l;induction l with
 | nil =>
  intro put;cases put <;> simp [iy]
 | cons r l ih =>
  intro put;rw [iy, J2, J2, ih];have h1 : x ∈ (if r.1 ≠ c.key then [r] else []) ↔ x = r /\ x.1 ≠ c.key := by
   by_cases h : r.1 ≠ c.key
   ·rw [IE h]
    constructor
    ·intro hx
     have : x = r := by simpa using hx
     exact ⟨this, by rw [this]; exact h⟩
    ·rintro ⟨rfl, _⟩; simp
   ·rw [IA h]
    constructor
    ·intro hx; cases hx
    ·rintro ⟨rfl, hx⟩; exact absurd hx h
  rw [h1, Kb];by_cases hk : c.key <= r.1
  ·cases put
   ·rw [IE ⟨rfl, hk⟩]
    have hd : decide (c.key <= r.1) = true := by simpa using hk
    rw [hd];simp only [Lp, JX];constructor
    ·rintro (h | ⟨h, h'⟩ | ⟨h, h'⟩ | ⟨h, _⟩)
     ·exact IC ⟨trivial, h⟩
     ·exact IB ⟨IB h, h'⟩
     ·exact IB ⟨IC h, h'⟩
     ·cases h
    ·rintro (⟨h | h, h'⟩ | ⟨_, h⟩)
     ·exact IC (IB ⟨h, h'⟩)
     ·exact IC (IC (IB ⟨h, h'⟩))
     ·exact IB h
   ·rw [IA GZ]
    simp only [Bool.true_or, KN, false_or];constructor
    ·rintro (⟨h, h'⟩ | ⟨h, h'⟩ | ⟨h, _⟩)
     ·exact IB ⟨IB h, h'⟩
     ·exact IB ⟨IC h, h'⟩
     ·cases h
    ·rintro (⟨h | h, h'⟩ | ⟨h, _⟩)
     ·exact IB ⟨h, h'⟩
     ·exact IC (IB ⟨h, h'⟩)
     ·cases h
  ·rw [IA (λ h => hk h.2)]
   have hd : decide (c.key <= r.1) = false := by simpa using hk
   rw [hd, Bool.or_false];simp only [KN, false_or];constructor
   ·rintro (⟨h, h'⟩ | ⟨h, h'⟩ | h)
    ·exact IB ⟨IB h, h'⟩
    ·exact IB ⟨IC h, h'⟩
    ·exact IC h
   ·rintro (⟨h | h, h'⟩ | h)
    ·exact IB ⟨h, h'⟩
    ·exact IC (IB ⟨h, h'⟩)
    ·exact IC (IC h)
theorem of_not_le {a b : Bytes} (h : ¬ a <= b) : b <= a /\ b ≠ a := ⟨(LY a b).resolve_left h, λ e => h (by subst e; exact KX _)⟩
theorem y6w (c : ay) : ∀ (l : bB) (put : Bool), oQ l -> oQ (iy c put l) := by
 intro l;induction l with
 | nil =>
  intro put _;cases put <;> simp [iy, oQ]
 | cons r l ih =>
  intro put h;obtain ⟨h1, h2⟩ := LZ.1 h;have hs := ih (put || decide (c.key <= r.1)) h2;have back : oQ ((if r.1 ≠ c.key then [r] else []) ++ iy c (put || decide (c.key <= r.1)) l) := by
   by_cases hr : r.1 ≠ c.key
   ·rw [IE hr]
    refine LZ.2 ⟨λ x hx => ?_, hs⟩;rcases (Gl c x l _).1 hx with ⟨hx, _⟩ | ⟨hp, rfl⟩
    ·exact h1 x hx
    ·have hk : ¬ c.key <= r.1 := by
      intro hk;have : decide (c.key <= r.1) = true := by simpa using hk
      rw [this, Bool.or_true] at hp;cases hp
     exact of_not_le hk
   ·rw [IA hr]; exact hs
  rw [iy];by_cases hk : put = false /\ c.key <= r.1
  ·rw [IE hk]
   refine LZ.2 ⟨λ x hx => ?_, back⟩;have hd : (put || decide (c.key <= r.1)) = true := by rw [hk.1]; simpa using hk.2
   rcases J2.1 (show x ∈ (if r.1 ≠ c.key then [r] else []) ++ iy c (put || decide (c.key <= r.1)) l from hx) with hx | hx
   ·by_cases hr : r.1 ≠ c.key
    ·rw [IE hr] at hx
     have : x = r := by simpa using hx
     subst this;exact ⟨hk.2, λ e => hr e.symm⟩
    ·rw [IA hr] at hx; cases hx
   ·rw [hd] at hx
    rcases (Gl c x l _).1 hx with ⟨hx, hn⟩ | ⟨hp, _⟩
    ·exact ⟨LX hk.2 (h1 x hx).1, λ e => hn e.symm⟩
    ·cases hp
  ·rw [IA hk]; exact back
theorem z3d {l l' : bB} (h : oQ l) (h' : oQ l') (hm : ∀ x, x ∈ l ↔ x ∈ l') : l = l' := by
 have nd : ∀ {l : bB}, oQ l -> l.Nodup := λ h => h.imp (λ hab e => hab.2 (by rw [e]));refine List.Perm.eq_of_pairwise (le := λ a b : Bytes × Bytes => a.1 <= b.1 /\ a.1 ≠ b.1) (λ a b _ _ h1 h2 => absurd (KW h1.1 h2.1) h1.2) h h' ?_;exact (List.perm_ext_iff_of_nodup (nd h) (nd h')).2 hm
theorem AJ {D : Rows} (h : bI D) (k : Bytes) : k ∈ cO D ↔ has D (.string k) = true := by
 obtain ⟨es, rfl, h⟩ := h;rw [show k ∈ cO (.map es) ↔ k ∈ strKeys (.map es) from (LK _ _).mem_iff, has_eq, KU];show k ∈ es.map (λ p => strOf p.1) ↔ _;rw [Jq];constructor
 ·rintro ⟨p, hp, rfl⟩
  obtain ⟨k', v, rfl, _⟩ := h p hp;exact ⟨_, hp, by simp [strOf, Lit.sameKey]⟩
 ·rintro ⟨p, hp, hk⟩
  obtain ⟨k', v, rfl, _⟩ := h p hp;refine ⟨_, hp, ?_⟩;by_cases e : (Lit.string k') = .string k
  ·cases e; rfl
  ·rw [sameKey_ne e] at hk; cases hk
theorem yI {D : Rows} (h : bI D) (x : Bytes × Bytes) : x ∈ tell D ↔ has D (.string x.1) = true /\ x.2 = valueOf D x.1 := by
 unfold tell;rw [Jq];constructor
 ·rintro ⟨k, hk, rfl⟩
  exact ⟨(AJ h k).1 hk, rfl⟩
 ·rintro ⟨h1, h2⟩
  exact ⟨x.1, (AJ h x.1).2 h1, by rw [<-h2]⟩
theorem xR {D : Rows} (h : bI D) (ht : Tidy D) : oQ (tell D) := by
 obtain ⟨es, rfl, h⟩ := h;obtain ⟨es', e, hp⟩ := ht;cases e;have tr : ∀ a b c : Bytes, leB a b = true -> leB b c = true -> leB a c = true := λ a b c h1 h2 => by simp only [leB, Kg] at *; exact LX h1 h2
 have tot : ∀ a b : Bytes, (leB a b || leB b a) = true := λ a b => by simp only [leB, Lj, Kg]; exact LY a b
 have s1 := List.pairwise_mergeSort tr tot (strKeys (.map es));have nd : (strKeys (.map es)).Nodup := by
  show (es.map λ p => strOf p.1).Nodup;refine List.pairwise_map.2 (hp.imp_of_mem λ {p q} hp' hq' hne e => hne ?_);obtain ⟨a, _, rfl, _⟩ := h p hp';obtain ⟨b, _, rfl, _⟩ := h q hq';exact IK Lit.string e
 have nd2 : (cO (.map es)).Nodup := (LK _ _).nodup_iff.2 nd;unfold oQ tell;rw [List.pairwise_map];have := s1.and nd2;exact this.imp (λ hab => ⟨by simpa [leB] using hab.1, hab.2⟩)
theorem z3p {D : Rows} (h : Tidy D) (c : ay) : Tidy (one D c) := by
 unfold one;split
 ·exact h.del _
 ·exact h.put (show WideAt.IsKeyLit (.string c.key) from trivial) _
theorem z3m {D : Rows} (h : bI D) (ht : Tidy D) {c : ay} (h1 : c.wrong = false) (h2 : c.long = false) : tell (one D c) = gV (tell D) c := by
 have hm : IsMap D := ht.isMap;refine z3d (xR (vO h h1 h2) (z3p ht c)) (y6w c _ _ (xR h ht)) (λ x => ?_);obtain ⟨k, v⟩ := x;rw [yI (vO h h1 h2)];unfold gV;rw [Gl, yI h];unfold one;by_cases hg : c.gone = true
 ·rw [IE hg, hg]
  by_cases hk : k = c.key
  ·subst hk
   simp [has_del_same]
  ·have hk' : (Lit.string k) ≠ .string c.key := λ e => hk (by cases e; rfl)
   have e1 : valueOf (D.del (.string c.key)) k = valueOf D k := by unfold valueOf; rw [atKey_del_other hk']
   simp only [has_del_other hk', e1];simp [hk]
 ·have hg : c.gone = false := by simpa using hg
  rw [IA (by rw [hg]; decide), hg];by_cases hk : k = c.key
  ·subst hk
   have e1 : valueOf (D.put (.string c.key) (.lit (.string c.value))) c.key = c.value := by unfold valueOf; rw [atKey_put_same hm (show WideAt.IsKeyLit (.string c.key) from trivial)]
   simp only [has_put_same hm (show WideAt.IsKeyLit (.string c.key) from trivial), e1];simp
  ·have hk' : (Lit.string k) ≠ .string c.key := λ e => hk (by cases e; rfl)
   have e1 : valueOf (D.put (.string c.key) (.lit (.string c.value))) k = valueOf D k := by unfold valueOf; rw [atKey_put_other hk']
   simp only [has_put_other hk', e1];simp [hk]
theorem xU {l : List ay} (h1 : ∀ c ∈ l, c.wrong = false /\ c.long = false) : ∀ {D : Rows}, bI D -> Tidy D -> tell (behind D l) = l.foldl gV (tell D) /\ Tidy (behind D l) := by
 induction l with
 | nil => exact λ _ ht => ⟨rfl, ht⟩
 | cons c l ih =>
  intro D h ht;have hc := h1 c (Jp ..);have := ih (λ x hx => h1 x (Jz _ hx)) (vO h hc.1 hc.2) (z3p ht c);rw [L6, <-z3m h ht hc.1 hc.2];exact this
theorem pG (D : Rows) : (tell D).length = size D := by unfold tell; rw [L8, sP]
def oH (rows : bB) (l : List ay) : bB × Int := if right l ≠ 0 then (rows, right l) else if 256 < (l.foldl gV rows).length then (rows, 3) else (l.foldl gV rows, 0)
theorem Bv {D : Rows} (h : bI D) (ht : Tidy D) (l : List ay) : oH (tell D) l = if aX D l = 0 then (tell (behind D l), 0) else (tell D, aX D l) := by
 unfold oH aX;by_cases hr : right l ≠ 0
 ·rw [IE hr, IE hr, IA hr]
 ·rw [IA hr, IA hr]
  have hr : right l = 0 := GX;obtain ⟨e1, _⟩ := xU (pU hr).2 h ht;rw [<-e1, pG];by_cases kS : 256 < size (behind D l)
  ·rw [IE kS, IE kS]; rfl
  ·rw [IA kS, IA kS]; rfl
theorem y9r (c : ay) : ∀ (l : bB) (put : Bool), (iy c put l).length <= l.length + (if put = true then 0 else 1) := by
 intro l;induction l with
 | nil => intro put; cases put <;> simp [iy]
 | cons r l ih =>
  intro put;rw [iy, IQ, IQ];have h := ih (put || decide (c.key <= r.1));have h1 : (if r.1 ≠ c.key then [r] else ([] : bB)).length <= 1 := by split <;> simp
  generalize (if r.1 ≠ c.key then [r] else ([] : bB)) = M at h1 ⊢;cases put
  ·by_cases hk : c.key <= r.1
   ·have hd : (false || decide (c.key <= r.1)) = true := by simpa using hk
    rw [hd] at h ⊢;rw [IE ⟨rfl, hk⟩];simp only [I6, I8, Jw] at h ⊢;simp;omega
   ·have hd : (false || decide (c.key <= r.1)) = false := by simpa using hk
    rw [hd] at h ⊢;rw [IA (λ q => hk q.2)];simp only [I8, Jw] at h ⊢;simp at h ⊢;omega
  ·rw [Bool.true_or] at h ⊢
   rw [IA GZ];simp only [I6, I8, Jw] at h ⊢;omega
theorem x0s (l : bB) (c : ay) : (gV l c).length <= l.length + 1 := by
 have := y9r c l c.gone;unfold gV;split at this <;> omega
theorem y9p (l : List ay) : ∀ R : bB, (l.foldl gV R).length <= R.length + l.length := by
 induction l with
 | nil => intro R; simp
 | cons c l ih =>
  intro R;have h1 := ih (gV R c);have h2 := x0s R c;rw [L6, I8];omega
theorem rP (d : Dm.D) : d.goes.1.waits = d.waits := by
 unfold Dm.D.goes;split
 ·rfl
 ·exact RF
theorem y0j (d : Dm.D) (s : Dm.Step) : (d.step s).1.waits.length <= d.waits.length + 1 := by
 unfold Dm.D.step;exact Sa
theorem wP (d : Dm.D) (t : Int) (b : Bytes) : (d.append t b).1.waits.length <= d.waits.length + 1 := by
 unfold Dm.D.append;split
 ·exact Rp
 ·split
  ·exact Rp
  ·exact y0j _ _
theorem wO (d : Dm.D) (t n : Int) : (d.cut t n).1.waits.length <= d.waits.length + 1 := by
 unfold Dm.D.cut;split
 ·exact Rp
 ·exact y0j _ _
theorem z1y (d : Dm.D) : d.sync.1.waits.length <= d.waits.length := by
 unfold Dm.D.sync;exact Sa
theorem Ea (d : Dm.D) (t : Nat) (b : Bytes) : (wrote d t b).1.waits.length <= d.waits.length + 1 := by
 have h := wP d t b;unfold wrote next;split
 ·have := z1y (d.append t b).1; omega
 ·exact h
theorem CY (d : Dm.D) (t : Nat) : (bZ d t).1.waits.length <= d.waits.length + 1 := by
 unfold bZ;split
 ·exact Rp
 ·exact wO _ _ _
theorem Bg (d : Dm.D) (t : Nat) (b : Bytes) : (bK d t b).1.waits.length <= d.waits.length + 2 := by
 have h := CY d t;have h2 : (next (bZ d t) λ d => d.append t b).1.waits.length <= d.waits.length + 2 := by
  unfold next;split
  ·have h3 := wP (bZ d t).1 t b
   show ((bZ d t).1.append t b).1.waits.length <= _;omega
  ·omega
 unfold bK;generalize (next (bZ d t) λ d => d.append t b) = r at h2 ⊢;unfold next;split
 ·have := z1y r.1; omega
 ·exact h2
theorem Bw (e : E) (D : Rows) (b : Bytes) : (e.put D b).1.d.waits.length <= e.d.waits.length + 1 := by
 unfold E.put;split
 ·show e.d.waits.length <= _; omega
 ·exact Ea _ _ _
theorem z0j (e : E) (D : Rows) : (e.fold D).1.d.waits.length <= e.d.waits.length + 2 := by
 by_cases q : 2147483647 <= e.gen
 ·rw [wH q]; show e.d.waits.length <= _; omega
 ·rw [wG q]
  have := Bg e.d (1 - e.tp) (folded (e.gen + 1) D);by_cases r : (bK e.d (1 - e.tp) (folded (e.gen + 1) D)).2 = 0
  ·rw [IE r]; exact this
  ·rw [IA r]; exact this
theorem Az (e : E) (D : Rows) (b : Bytes) : (e.step D b).1.d.waits.length <= e.d.waits.length + 3 := by
 have h := Bw e D b;unfold E.step;split
 ·have := z0j (e.put D b).1 D; omega
 ·omega
theorem z1q (e : E) (l : List ay) : (e.bE l).1.d.waits.length <= e.d.waits.length + 3 := by
 unfold E.bE;split
 ·show e.d.waits.length <= _; omega
 ·split
  ·show e.d.waits.length <= _; omega
  ·exact Az _ _ _
theorem FQ (e : E) (D : Rows) (b : Bytes) : (e.put D b).1.rows = if (e.put D b).2 = 0 then D else e.rows := by
 by_cases q : 32 <= e.aK \/ b.length = 0 \/ e.d.room / 2 < e.fin + b.length
 ·rw [BD q]; rfl
 ·rw [tC q]
theorem x5q (e : E) (D : Rows) : (e.fold D).1.rows = if (e.fold D).2 = 0 then D else e.rows := by
 by_cases q : 2147483647 <= e.gen
 ·rw [wH q]; rfl
 ·rw [wG q]
  by_cases r : (bK e.d (1 - e.tp) (folded (e.gen + 1) D)).2 = 0
  ·rw [IE r]; simp only [r, I6]
  ·rw [IA r]; simp only [IA r]
theorem y6q (e : E) (D : Rows) (b : Bytes) : (e.step D b).1.rows = if (e.step D b).2 = 0 then D else e.rows := by
 unfold E.step;by_cases q : (e.put D b).2 = 280
 ·rw [IE q, x5q]
  have := FQ e D b;rw [IA GX] at this;rw [this]
 ·rw [IA q]; exact FQ e D b
theorem x7e (e : E) (l : List ay) : (e.bE l).1.rows = (if (e.bE l).2 = 0 then behind e.rows l else e.rows) /\ ((e.bE l).2 = 0 -> aX e.rows l = 0) := by
 by_cases q : aX e.rows l ≠ 0
 ·have : e.bE l = (e, aX e.rows l) := IE q
  rw [this];exact ⟨by rw [IA q], λ h => h⟩
 ·have q' : aX e.rows l = 0 := GX
  by_cases r : e.gone = true
  ·have : e.bE l = (e, 290) := by unfold E.bE; rw [IA q, IE r]
   rw [this];exact ⟨by rw [IA GZ], λ _ => q'⟩
  ·have : e.bE l = ({ (e.step (behind e.rows l) (aZ l)).1 with gone := decide ((e.step (behind e.rows l) (aZ l)).2 = 281) }, (e.step (behind e.rows l) (aZ l)).2) := by unfold E.bE; rw [IA q, IA r]
   rw [this];exact ⟨y6q _ _ _, λ _ => q'⟩
theorem xS : tell (.map []) = [] := by simp [tell, cO, strKeys]
structure iq where
 what : Int
 l : List ay
 n : Int
 aT : Dm.bH
def ay.tiny (c : ay) : Bool := decide (c.key.length <= 70) && decide (c.value.length <= 200)
def iq.small (x : iq) : Bool := decide (x.l.length <= 70) && decide (x.aT.keep.length <= 40) && x.l.all ay.tiny
def uq (l : List iq) (most : Int) : Bool := l.all iq.small && decide ((l.length : Int) <= most)
theorem iq.z4k {x : iq} (h : x.small = true) : x.l.length <= 70 /\ x.aT.keep.length <= 40 /\ ∀ c ∈ x.l, c.key.length <= 70 /\ c.value.length <= 200 := by
 simp only [iq.small, Jl, Kg, JK, ay.tiny] at h;exact ⟨h.1.1, h.1.2, h.2⟩
theorem y0p {l : List iq} {most : Int} (h : uq l most = true) : (∀ x ∈ l, x.small = true) /\ (l.length : Int) <= most := by
 simpa [uq, JK] using h
def kL (b : Bytes) : Option (ay × Bytes) :=
 match Wm.iI b with
 | none => none
 | some (g, r) =>
  match Wm.df 64 r with
  | none => none
  | some (k, r') =>
   if g = true then some (⟨k, [], true⟩, r')
   else match Wm.df 4096 r' with
    | none => none
    | some (v, r'') => some (⟨k, v, false⟩, r'')
def eZ : Nat -> Bytes -> Option (List ay × Bytes)
 | 0, b => some ([], b)
 | n + 1, b =>
  match kL b with
  | none => none
  | some (c, r) => (eZ n r).map λ p => (c :: p.1, p.2)
def iJ (b : Bytes) : Option (List ay) :=
 match Wm.bF 3 b with
 | none => none
 | some (k, r) =>
  if k ≠ 3 then none
  else match Wm.bF 64 r with
   | none => none
   | some (n, r) =>
    match eZ n r with
    | none => none
    | some (l, r) => if r = [] then some l else none
def jl (last b : Bytes) : Option (Bytes × Bytes) :=
 match Wm.bF 3 b with
 | none => none
 | some (k, r) =>
  if k ≠ 2 then none
  else match Wm.df 64 r with
   | none => none
   | some (key, r) =>
    match Wm.df 4096 r with
    | none => none
    | some (v, r) => if r = [] /\ ¬ key <= last then some (key, v) else none
def dS (l : Bytes) : Nat -> Nat -> Bytes -> Rows -> Option (Rows × Nat)
 | 0, fin, _, D => some (D, fin)
 | n + 1, fin, last, D =>
  match Wm.split (l.drop fin) with
  | none => none
  | some (body, m) =>
   match jl last body with
   | none => none
   | some (k, v) => dS l n (fin + m) k (D.put (.string k) (.lit (.string v)))
def fI (b : Bytes) : Option (Nat × Nat) :=
 match Wm.bF 3 b with
 | none => none
 | some (k, r) =>
  if k ≠ 1 then none
  else match Wm.bF 2147483647 r with
   | none => none
   | some (g, r) =>
    match Wm.bF 256 r with
    | none => none
    | some (n, r) => if r = [] /\ 0 < g then some (g, n) else none
def fe (l : Bytes) : Option (Nat × Rows × Nat) :=
 match Wm.split l with
 | none => none
 | some (body, m) =>
  match fI body with
  | none => none
  | some (g, n) => (dS l n m [] (.map [])).map λ p => (g, p.1, p.2)
def eP (l : Bytes) (fin : Nat) (D : Rows) : Option (Rows × Nat) :=
 match Wm.split (l.drop fin) with
 | none => none
 | some (body, m) =>
  match iJ body with
  | none => none
  | some c => if aX D c = 0 then some (behind D c, fin + m) else none
def dN (l : Bytes) : Nat -> Nat -> Rows -> Nat -> Rows × Nat × Nat
 | 0, fin, D, n => (D, n, fin)
 | f + 1, fin, D, n =>
  match eP l fin D with
  | none => (D, n, fin)
  | some (D', fin') => dN l f fin' D' (n + 1)
end Em
theorem uA : ∀ (x y : List UInt8), Op.bytesLess x y = decide (x < y)
 | [], [] => by simp [Op.bytesLess]
 | _ :: _, [] => by simp [Op.bytesLess]
 | [], _ :: _ => by simp [Op.bytesLess]
 | a :: x, b :: y => by
  rw [Op.bytesLess, uA x y];simp only [List.cons_lt_cons_iff];by_cases h1 : a < b <;> by_cases h2 : a = b <;> by_cases h3 : x < y <;> simp [h1, h2, h3]
theorem z4z (a b : List UInt8) : (!(Op.bytesLess a b)) = decide (b <= a) := by
 rw [uA];by_cases h : b <= a
 ·have : ¬ a < b := List.not_lt.2 h
  simp [h, this]
 ·have : a < b := List.not_le.1 h
  simp [h, this]
namespace Wm
open Cm
theorem x4x (l : Bytes) : ∀ a : Nat, l.foldl (λ n c => 256 * n + c.toNat) a = a * 256 ^ l.length + iL l := by
 induction l with
 | nil => intro a; simp [iL]
 | cons c l ih =>
  intro a;unfold iL;rw [L6, L6, ih, ih (256 * 0 + c.toNat), I8, KT, Nat.add_mul, Nat.mul_comm 256 a, Nat.mul_assoc, Nat.mul_comm 256 (256 ^ l.length), Nat.mul_zero, Ja];omega
theorem x4w (c : UInt8) (l : Bytes) : iL (c :: l) = c.toNat * 256 ^ l.length + iL l := by
 have := x4x l (256 * 0 + c.toNat);show List.foldl _ (256 * 0 + c.toNat) l = _;rw [this, Nat.mul_zero, Ja]
theorem lI (n k : Nat) : (high n k).length = k := by simp [high]
theorem x4s (n k : Nat) : high n (k + 1) = UInt8.ofNat (n / 256 ^ k % 256) :: high n k := by
 unfold high;rw [List.range_succ_eq_map, Jo, List.map_map];refine List.cons_eq_cons.2 ⟨GZ, List.map_congr_left λ i _ => ?_⟩;show UInt8.ofNat (n / 256 ^ (k + 1 - 1 - (i + 1)) % 256) = _;rw [show k + 1 - 1 - (i + 1) = k - 1 - i by omega]
theorem z1l (n : Nat) (h : n < 256) : (UInt8.ofNat n).toNat = n := by
 rw [Mg];omega
theorem z9w (n : Nat) : ∀ k : Nat, iL (high n k) = n % 256 ^ k
 | 0 => by simp [high, iL, Nat.mod_one]
 | k + 1 => by
  rw [x4s, x4w, lI, z9w n k, z1l _ (KA _ GY), KT, Nat.mod_mul];rw [Nat.mul_comm];omega
theorem z0f {c : UInt8} {k : Nat} (hm : many c = k) (hk : k ≠ 0) (hn : n < 256 ^ k) (ht : n <= kJ) (hl : (aG n).length = 1 + k) (rest : Bytes) : first (c :: high n k ++ rest) = (n, 1 + (k : Int)) := by
 show first (c :: (high n k ++ rest)) = _;unfold first;simp only [hm];rw [IA hk, IA (by rw [IQ, lI]; omega), Kq (by rw [lI]; omega), Jh (by rw [lI]; omega), z9w, La hn];rw [IA (λ h => h.elim (λ h => GX) (λ h => h hl))]
theorem z3w (h : n < 253) : aG n = [UInt8.ofNat n] := IE h
theorem z3x (h : 253 <= n) (h' : n < 65536) : aG n = 253 :: high n 2 := by unfold aG; rw [IA GX, IE h']
theorem z3y (h : 65536 <= n) (h' : n < 4294967296) : aG n = 254 :: high n 4 := by unfold aG; rw [IA GX, IA GX, IE h']
theorem z3z (h : 4294967296 <= n) : aG n = 255 :: high n 8 := by unfold aG; rw [IA GX, IA GX, IA GX]
theorem x2d (h : n < 253) : many (UInt8.ofNat n) = 0 := by
 have ht : (UInt8.ofNat n).toNat = n := z1l n GX;have h1 : UInt8.ofNat n ≠ 253 := λ e => by rw [e] at ht; have : (253 : UInt8).toNat = 253 := rfl; omega
 have h2 : UInt8.ofNat n ≠ 254 := λ e => by rw [e] at ht; have : (254 : UInt8).toNat = 254 := rfl; omega
 have h3 : UInt8.ofNat n ≠ 255 := λ e => by rw [e] at ht; have : (255 : UInt8).toNat = 255 := rfl; omega
 unfold many;rw [IA h1, IA h2, IA h3]
theorem z0h (h : n <= kJ) (rest : Bytes) : first (aG n ++ rest) = (n, ((aG n).length : Int)) := by
 have ht : kJ = 4611686018427387904 := rfl;by_cases h1 : n < 253
 ·rw [z3w h1]
  show first (UInt8.ofNat n :: rest) = _;unfold first;simp only [x2d h1, I6];rw [z1l n GX];rfl
 ·by_cases h2 : n < 65536
  ·have e := z3x GX h2
   have hl : (aG n).length = 1 + 2 := by rw [e, I8, lI]
   rw [hl, e, z0f (k := 2) GY GY GX h hl];rfl
  ·by_cases h4 : n < 4294967296
   ·have e := z3y GX h4
    have hl : (aG n).length = 1 + 4 := by rw [e, I8, lI]
    rw [hl, e, z0f (k := 4) GY GY GX h hl];rfl
   ·have e := z3z (n := n) GX
    have hl : (aG n).length = 1 + 8 := by rw [e, I8, lI]
    rw [hl, e, z0f (k := 8) GY GY GX h hl];rfl
theorem z0g {c : UInt8} {l : Bytes} (hm : many c ≠ 0) (h : l.length < many c) : first (c :: l) = (0, 0) := by
 unfold first;simp only;rw [IA hm, IE h]
theorem x5j (n : Nat) {k : Nat} (h : k < (aG n).length) : first ((aG n).take k) = (0, 0) := by
 cases k with
 | zero => rfl
 | succ k =>
  by_cases h1 : n < 253
  ·rw [z3w h1] at h; simp at h
  ·by_cases h2 : n < 65536
   ·rw [z3x GX h2] at h ⊢
    rw [I8, lI] at h;rw [Jv];exact z0g GY (by rw [I7, lI]; have : many 253 = 2 := GY; omega)
   ·by_cases h4 : n < 4294967296
    ·rw [z3y GX h4] at h ⊢
     rw [I8, lI] at h;rw [Jv];exact z0g GY (by rw [I7, lI]; have : many 254 = 4 := GY; omega)
    ·rw [z3z (n := n) GX] at h ⊢
     rw [I8, lI] at h;rw [Jv];exact z0g GY (by rw [I7, lI]; have : many 255 = 8 := GY; omega)
theorem z2a (n : Nat) : 0 < (aG n).length := by
 unfold aG;split
 ·simp
 ·split
  ·simp
  ·split <;> simp
theorem sZ {most : Nat} (h : n <= most) (ht : most <= kJ) (rest : Bytes) : bF most (aG n ++ rest) = some (n, rest) := by
 have hp := z2a n;unfold bF;rw [z0h GX];simp only;rw [IA GX];simp
theorem AV {most : Nat} {s : Bytes} (h : s.length <= most) (ht : most <= kJ) (rest : Bytes) : df most (cB s ++ rest) = some (s, rest) := by
 unfold df cB;rw [I5, sZ h ht];simp only;rw [IA (by rw [IQ]; omega)];simp
theorem y7d (b : Bool) (rest : Bytes) : iI (jf b ++ rest) = some (b, rest) := by
 cases b <;> rfl
theorem AQ (b : Bytes) : (dm b).length = b.length + 4 := by
 unfold dm;rw [IQ, oJ]
theorem x1o (b : Bytes) : opened (dm b) = some b := by
 have hl := AQ b;unfold opened;rw [IA GX];have e : (dm b).take ((dm b).length - 4) = b := by
  rw [hl, show b.length + 4 - 4 = b.length by omega];unfold dm;simp
 rw [e, IE rfl]
theorem z0m (b : Bytes) : (frame b).length = (aG (b.length + 4)).length + (b.length + 4) := by
 unfold frame;rw [IQ, AQ]
theorem yh {b : Bytes} (h : b.length <= 8192) (rest : Bytes) : split (frame b ++ rest) = some (b, (frame b).length) := by
 have hl := AQ b;have ht : kJ = 4611686018427387904 := rfl;have hp := z2a (dm b).length;rw [z0m];unfold split frame;rw [I5, z0h GX];simp only;rw [IA GX, IA (by simp only [IQ, hl]; omega)];have e : List.take (dm b).length (List.drop ((aG (dm b).length).length : Int).toNat (aG (dm b).length ++ (dm b ++ rest))) = dm b := GZ;rw [e, x1o];simp only [hl];simp
theorem ER {b : Bytes} (h : b.length <= 8192) {k : Nat} (hk : k < (frame b).length) : split ((frame b).take k) = none := by
 have hl := AQ b;have ht : kJ = 4611686018427387904 := rfl;have hf := z0m b;by_cases hw : k < (aG (dm b).length).length
 ·have e : (frame b).take k = (aG (dm b).length).take k := by
   unfold frame;rw [Kq GX]
  rw [e];unfold split;rw [x5j _ hw];simp
 ·have e : (frame b).take k = aG (dm b).length ++ (dm b).take (k - (aG (dm b).length).length) := by
   unfold frame;rw [List.take_append, Jh GX]
  rw [e];unfold split;rw [z0h GX];simp only;rw [hl] at hw ⊢;split
  ·rfl
  ·rw [IE ?_]
   rw [IQ, I7, hl];omega
theorem z4q : split [] = none := rfl
theorem x5s (b : Bytes) : 0 < (frame b).length := Hm (z0m b)
end Wm
namespace Em
open Cm
theorem z9s {D : Rows} (h : bI D) {k : Bytes} (hk : has D (.string k) = true) : k ≠ [] /\ k.length <= 64 := by
 have hm := (AJ h k).2 hk;obtain ⟨es, rfl, h⟩ := h;have hm : k ∈ strKeys (.map es) := (LK _ _).mem_iff.1 hm;have hm : k ∈ es.map (λ p => strOf p.1) := hm;obtain ⟨p, hp, rfl⟩ := Jq.1 hm;obtain ⟨k', v, rfl, a, b, _⟩ := h p hp;exact ⟨a, b⟩
theorem z3l {D : Rows} (h : bI D) {x : Bytes × Bytes} (hx : x ∈ tell D) : has D (.string x.1) = true /\ valueOf D x.1 = x.2 /\ x.1.length <= 64 := by
 obtain ⟨h1, h2⟩ := (yI h x).1 hx;exact ⟨h1, h2.symm, (z9s h h1).2⟩
theorem x4j {D : Rows} (h : bI D) : has D (.string []) = false := by
 cases q : has D (.string [])
 ·rfl
 ·exact absurd rfl (z9s h q).1
def Alike (A B : bB) (k : Nat) : Prop := A.take k = B.take k /\ k <= B.length
theorem w0n (A B : bB) : Alike A B 0 := ⟨rfl, IY _⟩
theorem w0l {A B : bB} {k : Nat} {x : Bytes × Bytes} (h : Alike A B k) (ha : A[k]? = some x) (hb : B[k]? = some x) : Alike A B (k + 1) := by
 refine ⟨?_, (I4.1 hb).1⟩;rw [JH, JH, ha, hb, h.1]
theorem w0m {A B : bB} {k : Nat} {x : Bytes × Bytes} (ha : A[k]? = some x) (hb : B.length <= k) : A ≠ B := by
 rintro rfl;have := (I4.1 ha).1;omega
theorem y2x {A B : bB} {k : Nat} {x y : Bytes × Bytes} (ha : A[k]? = some x) (hb : B[k]? = some y) (hne : x ≠ y) : A ≠ B := by
 rintro rfl;rw [ha] at hb;exact hne (IR hb)
theorem w0k {A B : bB} (h : Alike A B A.length) : decide (A = B) = decide (A.length = B.length) := by
 by_cases q : A.length = B.length
 ·have e : A = B := by
   have := h.1;rwa [List.take_length, q, List.take_length] at this
  rw [KD e, KD q]
 ·have e : A ≠ B := λ e => q (by rw [e])
  rw [J7 e, J7 q]
end Em
theorem z0b (t : TypeId) {a b : Array TypeId} {v : Bool} (ht : prog.underlying t = some (.func a b v)) (f : Fn) (x c : Array Value) (w : World) : (binOp .eql t (.func f x c) .nilFunc).run prog w = .ok (.bool false) w := by
 unfold binOp Op.equal Op.maxDepth Op.equalIn;simp [Ka ht]
end Go.Proofs.YtgffifleflkjoaaGreat
