/-
  Parts of a proof.
-/
import Derived.Test.YtgffifleflkjoaaGreatFin08
import Derived.Shelf.SlIter.Nil
import Derived.Shelf.SortM.Plain
import Derived.Shelf.SortM.SortNone
import Derived.Ground.GgzProg
import Derived.Ground.SlgmProg
import Derived.ScopeJumps
import Derived.WalkMore
import Derived.Maps.Views
set_option linter.unusedSimpArgs false
set_option linter.unusedVariables false
set_option maxRecDepth 100000
set_option maxHeartbeats 16000000
namespace Go.Proofs.YtgffifleflkjoaaGreat
open _root_.Go.Proofs.Tryz
variable {w W w' w0 wr w1 W0 W1 W2 A B : World} {F G F' O : Nat → Prop} {v : Value} {l : List UInt8} {n q m pd md pl g p : Nat} {C : Array Value} {c : Int}
open Go.RowKit Go.Maps Go.Sort Go.Shelf
def GJ : Go.Shelf.Ren := ⟨λ | 7 => 83 | 10 => 131 | n => n, λ | 23 => 66 | 26 => 9 | 3 => 9 | 28 => 153 | 0 => 0 | 27 => 152 | 33 => 189 | 4 => 4 | n => n, λ | n => n⟩
theorem GK : Go.Proofs.SlLaysZ.n7 prog GJ := {
 mixed := GQ
 f7 := ⟨Tryz.f83.name, GU, func83.trans (IG some GQ)⟩
 f10 := ⟨Tryz.f131.name, GU, func131.trans (IG some GQ)⟩
 t0 := underlying0
 a0 := Tryz.isAgg0
 z0 := Tryz.sizeOf0
 v0 := zeroValue0
 t4 := Im
 a4 := Tryz.isAgg4
 z4 := Tryz.sizeOf4
 v4 := zeroValue4
 t23 := Ie
 a23 := Tryz.isAgg66
 z23 := Tryz.sizeOf66
 v23 := zeroValue66
 t26 := Ib
 a26 := Tryz.isAgg9
 z26 := Tryz.sizeOf9
 v26 := zeroValue9
 t27 := underlying152
 a27 := Tryz.isAgg152
 z27 := Tryz.sizeOf152
 v27 := zeroValue152
 t28 := underlying153
 a28 := Tryz.isAgg153
 z28 := Tryz.sizeOf153
 v28 := zeroValue153
 t33 := underlying189
 a33 := Tryz.isAgg189
 z33 := Tryz.sizeOf189
 v33 := zeroValue189 }
def z4j : Go.Shelf.Ren := ⟨λ | 6 => 82 | 8 => 129 | 9 => 130 | 11 => 160 | 13 => 162 | 12 => 161 | 23 => 192 | 24 => 193 | 14 => 183 | 15 => 184 | 16 => 185 | 17 => 186 | 18 => 187 | 19 => 188 | 20 => 189 | 21 => 190 | 22 => 191 | 25 => 206 | 26 => 207 | 27 => 208 | 28 => 209 | 29 => 210 | 30 => 211 | 31 => 216 | n => n, λ | 26 => 9 | 28 => 153 | 24 => 108 | 0 => 0 | 3 => 3 | 37 => 229 | 48 => 240 | 50 => 271 | 4 => 4 | 40 => 263 | 39 => 262 | 45 => 267 | 5 => 5 | 9 => 9 | 51 => 279 | 55 => 283 | 57 => 294 | 58 => 295 | 33 => 189 | n => n, λ | n => n⟩
theorem z4i : Go.Proofs.SlLaysZ.n6 prog z4j := {
 mixed := GQ
 f6 := ⟨Tryz.f82.name, GU, func82.trans (IG some GQ)⟩
 f8 := ⟨Tryz.f129.name, GU, func129.trans (IG some GQ)⟩
 f11 := ⟨Tryz.f160.name, GU, func160.trans (IG some GQ)⟩
 t0 := underlying0
 a0 := Tryz.isAgg0
 z0 := Tryz.sizeOf0
 v0 := zeroValue0
 t24 := underlying108
 a24 := Tryz.isAgg108
 z24 := Tryz.sizeOf108
 v24 := zeroValue108
 t26 := Ib
 a26 := Tryz.isAgg9
 z26 := Tryz.sizeOf9
 v26 := zeroValue9
 t28 := underlying153
 a28 := Tryz.isAgg153
 z28 := Tryz.sizeOf153
 v28 := zeroValue153
 i26 := by kernel_rfl }
def y6g : Go.Shelf.Ren := ⟨λ | 6 => 130 | 8 => 162 | 9 => 161 | 19 => 192 | 20 => 193 | 21 => 183 | 22 => 184 | 23 => 185 | 24 => 186 | 25 => 187 | 26 => 188 | 27 => 189 | 28 => 190 | 29 => 191 | 36 => 206 | 31 => 207 | 32 => 208 | 37 => 209 | 38 => 210 | 39 => 211 | 41 => 216 | n => n, λ | 27 => 108 | 29 => 9 | 3 => 3 | 32 => 229 | 26 => 108 | 0 => 0 | 44 => 240 | 46 => 271 | 4 => 4 | 36 => 263 | 35 => 262 | 41 => 267 | 5 => 5 | 9 => 9 | 53 => 279 | 57 => 283 | 63 => 294 | 64 => 295 | n => n, λ | n => n⟩
theorem z4h : Go.Proofs.SlLaysM.n6 prog y6g := {
 mixed := GQ
 f6 := ⟨Tryz.f130.name, GU, func130.trans (IG some GQ)⟩
 f8 := func162.trans (IG some GQ)
 f9 := ⟨Tryz.f161.name, GU, func161.trans (IG some GQ)⟩
 f19 := func192.trans (IG some GQ)
 f20 := func193.trans (IG some GQ)
 f21 := ⟨Tryz.f183.name, GU, func183.trans (IG some GQ)⟩
 f22 := ⟨Tryz.f184.name, GU, func184.trans (IG some GQ)⟩
 f23 := ⟨Tryz.f185.name, GU, func185.trans (IG some GQ)⟩
 f24 := ⟨Tryz.f186.name, GU, func186.trans (IG some GQ)⟩
 f25 := ⟨Tryz.f187.name, GU, func187.trans (IG some GQ)⟩
 f26 := ⟨Tryz.f188.name, GU, func188.trans (IG some GQ)⟩
 f27 := ⟨Tryz.f189.name, GU, func189.trans (IG some GQ)⟩
 f28 := ⟨Tryz.f190.name, GU, func190.trans (IG some GQ)⟩
 f29 := ⟨Tryz.f191.name, GU, func191.trans (IG some GQ)⟩
 f31 := func207.trans (IG some GQ)
 f32 := func208.trans (IG some GQ)
 f36 := ⟨Tryz.f206.name, GU, func206.trans (IG some GQ)⟩
 f37 := ⟨Tryz.f209.name, GU, func209.trans (IG some GQ)⟩
 f38 := ⟨Tryz.f210.name, GU, func210.trans (IG some GQ)⟩
 f39 := ⟨Tryz.f211.name, GU, func211.trans (IG some GQ)⟩
 f41 := ⟨Tryz.f216.name, GU, func216.trans (IG some GQ)⟩
 t0 := underlying0
 a0 := Tryz.isAgg0
 z0 := Tryz.sizeOf0
 v0 := zeroValue0
 t3 := Ih
 a3 := Tryz.isAgg3
 z3 := Tryz.sizeOf3
 v3 := zeroValue3
 t4 := Im
 a4 := Tryz.isAgg4
 z4 := Tryz.sizeOf4
 v4 := zeroValue4
 t5 := Ig
 a5 := Tryz.isAgg5
 z5 := Tryz.sizeOf5
 v5 := zeroValue5
 t9 := Ib
 a9 := Tryz.isAgg9
 z9 := Tryz.sizeOf9
 v9 := zeroValue9
 t26 := underlying108
 a26 := Tryz.isAgg108
 z26 := Tryz.sizeOf108
 v26 := zeroValue108
 t27 := underlying108
 a27 := Tryz.isAgg108
 z27 := Tryz.sizeOf108
 v27 := zeroValue108
 t29 := Ib
 a29 := Tryz.isAgg9
 z29 := Tryz.sizeOf9
 v29 := zeroValue9
 t32 := underlying229
 a32 := Tryz.isAgg229
 z32 := Tryz.sizeOf229
 v32 := zeroValue229
 t35 := underlying262
 a35 := Tryz.isAgg262
 z35 := Tryz.sizeOf262
 v35 := zeroValue262
 t36 := underlying263
 a36 := Tryz.isAgg263
 z36 := Tryz.sizeOf263
 v36 := zeroValue263
 t41 := underlying267
 a41 := Tryz.isAgg267
 z41 := Tryz.sizeOf267
 v41 := zeroValue267
 t44 := underlying240
 a44 := Tryz.isAgg240
 z44 := Tryz.sizeOf240
 v44 := zeroValue240
 t46 := underlying271
 a46 := Tryz.isAgg271
 z46 := Tryz.sizeOf271
 v46 := zeroValue271
 t53 := underlying279
 a53 := Tryz.isAgg279
 z53 := Tryz.sizeOf279
 v53 := zeroValue279
 t57 := underlying283
 a57 := Tryz.isAgg283
 z57 := Tryz.sizeOf283
 v57 := zeroValue283
 t63 := underlying294
 a63 := Tryz.isAgg294
 z63 := Tryz.sizeOf294
 v63 := zeroValue294
 t64 := underlying295
 a64 := Tryz.isAgg295
 z64 := Tryz.sizeOf295
 v64 := zeroValue295 }
theorem z4k (m : Nat) : AnyZ.SortsIn prog z4j Fence.wide m :=
 ⟨λ blk off cap ss W hH hblk hsz => Jg.2 (AnyM.slices_Sort_string z4h blk off cap ss W hH hblk hsz),
  λ p cap W => Jg.2 (AnyM.slices_Sort_string_none z4h p cap W)⟩
theorem Gr (mb : Option Nat) (W : World) : CallsIn Fence.wide 5 prog 83 #[.map mb] W λ e w' => e = .returned (.func (.func 131) #[] #[.pointer (some W.heap.size)]) /\ w' = W.alloc (.cells #[.map mb] 66) :=
 AnyZ.keys_in GK Fence.wide 5 trivial rfl mb W
theorem z4f {H : Type} (b nn : Nat) (D0 : DataW H) (R : Value -> Option (DataW H × List MemPlace)) (w : World) (hown : w.ownsMap prog 9 R b nn D0) (hmax : Maps.size D0 <= maxLen) (hbytes : Maps.size D0 * 16 <= 140737488355328) :
 CallsIn Fence.wide 5 prog 82 #[.func (.func 131) #[] #[.pointer (some w.heap.size)]] (w.alloc (.cells #[.map (some b)] 66)) λ e w' => ∃ (v : Value) (ss : List (List UInt8)), e = .returned v /\ ss.Perm (strKeys D0) ∧
  w'.ownsRow (w.alloc (.cells #[.map (some b)] 66)).heap.size 9 1 v ss.length ((ss.mergeSort (λ x y => decide (x <= y))).map encStr) /\ (v = .slice none 0 0 ↔ ss = []) /\ Below (w.alloc (.cells #[.map (some b)] 66)).heap.size (w.alloc (.cells #[.map (some b)] 66)) w' := by
 have hbl := hown.lt
 have hseq : SeqGives Fence.wide 2 prog 131 #[.pointer (some w.heap.size)] encStr (λ ss => ss.Perm (strKeys D0)) (Maps.size D0) (w.alloc (.cells #[.map (some b)] 66)) :=
  AnyZ.keys_gives (ρ := GJ) { GK with } Fence.wide _ trivial rfl GR w.heap.size b nn D0 _ GV GV (by
   obtain ⟨es, clock, hb, Ft, hs, hD⟩ := hown;exact ⟨es, clock, (JL _ _ b hbl).trans hb, Ft, hs, hD⟩)
 exact AnyZ.sorted_in z4i Fence.wide 5 trivial trivial trivial trivial rfl GR (z4k _) (enters_of func130 GQ rfl) 131 #[.pointer (some ⟨w.heap.size, 0, none⟩)] trivial (enters_of func131 GQ rfl) _ _ hmax hbytes _ hseq
theorem y6f (w : World) :
 CallsIn Fence.wide 5 prog 82 #[.func (.func 131) #[] #[.pointer (some w.heap.size)]] (w.alloc (.cells #[.map none] 66)) λ e w' => ∃ (v : Value) (ss : List (List UInt8)), e = .returned v /\ ss = [] ∧
  w'.ownsRow (w.alloc (.cells #[.map none] 66)).heap.size 9 1 v ss.length ((ss.mergeSort (λ x y => decide (x <= y))).map encStr) /\ (v = .slice none 0 0 ↔ ss = []) /\ Below (w.alloc (.cells #[.map none] 66)).heap.size (w.alloc (.cells #[.map none] 66)) w' := by
 have hseq : SeqGives Fence.wide 2 prog 131 #[.pointer (some w.heap.size)] encStr (λ ss : List (List UInt8) => ss = []) 0 (w.alloc (.cells #[.map none] 66)) :=
  AnyZ.keys_gives_nil (ρ := GJ) { GK with } Fence.wide _ trivial rfl w.heap.size _ GV GV
 exact AnyZ.sorted_in z4i Fence.wide 5 trivial trivial trivial trivial rfl GR (z4k _) (enters_of func130 GQ rfl) 131 #[.pointer (some ⟨w.heap.size, 0, none⟩)] trivial (enters_of func131 GQ rfl) _ 0 (IV _) GR _ hseq
section
variable {P : Program} {ops : Array Oper} {md : Region.Mode} {I : World -> Prop} {tail : List Nat}
theorem y4u {Q : Act -> World -> Prop} {i : Nat} {oi : Oper} (hi : ops[i]? = some oi) (hsel : ∀ (j : Nat) (o : Oper) cs b, ops[j]? = some o -> o.op ≠ .select cs b) (hit : i ∈ tail) :
 ∀ (fuel : Nat) (listed : Array Bool) (a : Act) (w : World),
  (∀ j oj, ops[j]? = some oj -> j ≠ i -> listed.getD j true = false -> (∀ e ∈ oj.after, Region.binds md e = true -> e.on ≠ i) -> oi.apart ops oj = true) ->
  i ∈ Region.ready md ops listed -> gJ P ops (λ _ => True) oi v a ->
  gD P md ops I tail Q fuel (listed.setIfInBounds i true) (a.put oi.dst v) w -> gD P md ops I tail Q (fuel + 1) listed a w := by
 intro fuel;induction fuel with
 | zero =>
  intro listed a w _ hr hy H;refine ⟨λ h => Nj, λ j hj => ?_⟩;by_cases hji : j = i
  ·exact RF
  ·have := JR hj hji
   rw [H.1] at this;cases this
 | succ fuel ih =>
  intro listed a w hfree hr hy H;refine ⟨λ h => Nj, λ j hj => ?_⟩;by_cases hji : j = i
  ·exact RF
  ·have h1 := H.2 j (JR hj hji)
   obtain ⟨hjun, oj, hoj, hall⟩ := Jq.1 hj;have hun := (Jq.1 hr).1;have hnot : ∀ e ∈ oj.after, Region.binds md e = true -> e.on ≠ i := λ e he hb heq => by
    exact P7
   have h2 := Ef hoj (hfree j oj hoj hji hjun hnot) (λ cs b => hsel i oi cs b hi) (λ cs b => hsel j oj cs b hoj) hy h1
   have hfree' : ∀ k ok, ops[k]? = some ok -> k ≠ i -> (listed.setIfInBounds j true).getD k true = false ->
    (∀ e ∈ ok.after, Region.binds md e = true -> e.on ≠ i) -> oi.apart ops ok = true := λ k ok hk hki hun hno => by
    refine hfree k ok hk hki ?_ hno;by_cases hjk : j = k
    ·subst hjk; exact hjun
    ·rw [KQ true hjk] at hun; exact hun
   refine wpOp_mono (λ a' w' h3 => ⟨λ h => h3.2.1 h, ih (listed.setIfInBounds j true) a' w' hfree' (JR hr (Ki hji)) h3.1 ?_⟩) h2;rw [K6 _ _ hji];exact h3.2.2
def Br (md : Region.Mode) (ops : Array Oper) (tail : List Nat) : List Nat -> Array Bool -> Bool
 | [], _ => true
 | k :: r, listed => (Region.ready md ops listed).contains k && Region.free md ops listed k && tail.contains k && Br md ops tail r (listed.setIfInBounds k true)
theorem z3z {Q : Act -> World -> Prop} (hs : Region.noSelect ops = true) : ∀ (ks : List Nat) (f : Nat) (listed : Array Bool) (a : Act), Br md ops tail ks listed = true ->
 f_ P ops (λ _ => True) (λ a' => gD P md ops I tail Q f (ks.foldl (λ l k => l.setIfInBounds k true) listed) a' w) (ks.filterMap (λ k => ops[k]?)) a -> gD P md ops I tail Q (f + ks.length) listed a w
 | [], f, listed, a, _, h => h
 | k :: r, f, listed, a, hB, h => by
  simp only [Br, Jh] at hB;obtain ⟨⟨⟨h1, h2⟩, h3⟩, h4⟩ := hB;have hr : k ∈ Region.ready md ops listed := by simpa using h1
  have ht : k ∈ tail := by simpa using h3
  obtain ⟨_, o, ho, _⟩ := Jq.1 hr;simp only [List.filterMap_cons, ho, f_] at h;have : ∃ v, gJ P ops (λ _ => True) o v a /\ f_ P ops (λ _ => True) (λ a' => gD P md ops I tail Q f ((k :: r).foldl (λ l k => l.setIfInBounds k true) listed) a' w) (r.filterMap (λ k => ops[k]?)) (a.put o.dst v) := by
   exact OD
  obtain ⟨v, hy, hn⟩ := this;rw [show f + (k :: r).length = (f + r.length) + 1 by simp; omega];exact y4u ho (Ls hs) ht _ _ _ _ (Lt ho h2) hr hy (z3z hs r f _ _ h4 hn)
theorem eY {Q : Act -> World -> Prop} {a : Act} (ks : List Nat) (f : Nat) (listed : Array Bool) (hB : (Region.noSelect ops && Br md ops tail ks listed) = true)
 (h : f_ P ops (λ _ => True) (λ a' => gD P md ops I tail Q f (ks.foldl (λ l k => l.setIfInBounds k true) listed) a' w) (ks.filterMap (λ k => ops[k]?)) a) : gD P md ops I tail Q (f + ks.length) listed a w := by
 simp only [Jh] at hB;exact z3z hB.1 ks f listed a hB.2 h
theorem z2f {Q : Act -> Prop} {a : Act} {o : Oper} {rest : List Oper} (hgd : Region.wanted o (yielded ops a.tmps) = true) (ty : TypeId) (x : Operand) (ho : o.op = .load ty x) (v : Value)
 (hrun : ∀ w, I w -> (Instr.loadAt ty (a.eval x)).run P w = .ok v w) (h : f_ P ops I Q rest (a.put o.dst v)) : f_ P ops I Q (o :: rest) a :=
 ak λ K hK => by
  simp only [hgd, I1];exact QU
end
namespace Em
open Cm
structure E.good (e : E) : Prop where
 tp : e.tp <= 1
 gen : e.gen <= 2147483647
 aL : e.aL <= 1000000
 fin : e.fin <= 2200000 + 8205 * e.aL
 rows : bI e.rows
 few : size e.rows <= 256
theorem Bp {e : E} {D : Rows} {b : Bytes} (h : e.good) (hD : bI D) (hs : size D <= 256) (hb : b.length <= 8205) : (e.put D b).1.good := by
 unfold E.put;by_cases q : 32 <= e.aL \/ b.length = 0 \/ e.d.room / 2 < e.fin + b.length
 ·rw [IA q]; exact h
 ·rw [Iw q]
  have hf := h.fin;have hbt : e.aL < 32 := GR;by_cases r : (wrote e.d e.tp b).2 = 0
  ·simp only [IA r]
   exact ⟨h.tp, h.gen, by show e.aL + 1 <= 1000000; omega, by show e.fin + b.length <= 2200000 + 8205 * (e.aL + 1); omega, hD, hs⟩
  ·exact Rp
theorem z1z {e : E} {D : Rows} (h : e.good) (hD : bI D) (hs : size D <= 256) : (e.fold D).1.good := by
 unfold E.fold;by_cases q : 2147483647 <= e.gen
 ·rw [IA q]; exact h
 ·rw [Iw q]
  have hf := tV (D := D) (e.gen + 1) hs;by_cases r : (bK e.d (1 - e.tp) (folded (e.gen + 1) D)).2 = 0
  ·simp only [IA r]
   exact ⟨by show 1 - e.tp <= 1; omega, by show e.gen + 1 <= 2147483647; omega, by show 0 <= 1000000; omega, by show (folded (e.gen + 1) D).length <= 2200000 + 8205 * 0; omega, hD, hs⟩
  ·exact Rp
theorem y6q {e : E} {D : Rows} {b : Bytes} (h : e.good) (hD : bI D) (hs : size D <= 256) (hb : b.length <= 8205) : (e.step D b).1.good := by
 unfold E.step;by_cases q : (e.put D b).2 = 280
 ·rw [IA q]; exact z1z (Bp h hD hs hb) hD hs
 ·rw [Iw q]; exact Bp h hD hs hb
theorem x8z {e : E} {l : List ay} (h : e.good) : (e.bE l).1.good := by
 unfold E.bE;by_cases q : aW e.rows l ≠ 0
 ·rw [IA q]; exact h
 ·rw [Iw q]
  have q : aW e.rows l = 0 := GR;obtain ⟨h1, h2⟩ := jV q;by_cases r : e.gone = true
  ·rw [IA r]; exact h
  ·rw [Iw r]
   have := y6q (b := aY l) h (qL h.rows h1) h2 (q9 _);exact ⟨this.tp, this.gen, this.aL, this.fin, this.rows, this.few⟩
theorem y1j (d : Dm.D) : (begun d).1.good :=
 ⟨by show 0 <= 1; decide, by show 1 <= 2147483647; decide, by show 0 <= 1000000; decide, by have := tV (D := .map []) 1 GU; show (folded 1 (.map [])).length <= 2200000 + 8205 * 0; omega, nW, by show 0 <= 256; decide⟩
theorem sM {e : E} {D : Rows} {b : Bytes} (h : ¬ (32 <= e.aL \/ b.length = 0 \/ e.d.room / 2 < e.fin + b.length)) :
 e.put D b = (⟨e.tp, e.gen, if (wrote e.d e.tp b).2 = 0 then D else e.rows, if (wrote e.d e.tp b).2 = 0 then e.aL + 1 else e.aL, if (wrote e.d e.tp b).2 = 0 then e.fin + b.length else e.fin, (wrote e.d e.tp b).1, e.gone⟩, (wrote e.d e.tp b).2) := Iw h
theorem Bq {e : E} {D : Rows} {b : Bytes} (h : 32 <= e.aL \/ b.length = 0 \/ e.d.room / 2 < e.fin + b.length) : e.put D b = (e, 280) := IA h
theorem wu {e : E} {D : Rows} (h : ¬ 2147483647 <= e.gen) :
 e.fold D = (if (bK e.d (1 - e.tp) (folded (e.gen + 1) D)).2 = 0 then ⟨1 - e.tp, e.gen + 1, D, 0, (folded (e.gen + 1) D).length, (bK e.d (1 - e.tp) (folded (e.gen + 1) D)).1, e.gone⟩
  else { e with d := (bK e.d (1 - e.tp) (folded (e.gen + 1) D)).1 }, (bK e.d (1 - e.tp) (folded (e.gen + 1) D)).2) := Iw h
theorem ww {e : E} {D : Rows} (h : 2147483647 <= e.gen) : e.fold D = (e, 280) := IA h
end Em
section
variable {P : Program} {ops : Array Oper} {md : Region.Mode} {ms : List Nat} {J : List Bool -> World -> Prop}
abbrev marks (ms : List Nat) (listed : Array Bool) : List Bool := ms.map λ m => listed.getD m false
theorem BG {k : Nat} (hk : ms.contains k = false) (L : Array Bool) : marks ms (L.setIfInBounds k true) = marks ms L :=
 List.map_congr_left λ m hm => by
  have hne : k ≠ m := λ e => by subst e; simp at hk; exact hk hm
  exact KQ false hne
def lU (P : Program) (md : Region.Mode) (ops : Array Oper) (ms : List Nat) (J : List Bool -> World -> Prop) (Q : Act -> World -> Prop) : Nat -> Array Bool -> Act -> World -> Prop
 | 0, listed, a, w => Region.ready md ops listed = [] /\ Q a w
 | f + 1, listed, a, w => (Region.ready md ops listed = [] -> Q a w) /\ ∀ i ∈ Region.ready md ops listed, wpOp P ops sP i (λ a' w' => J (marks ms (listed.setIfInBounds i true)) w' /\ lU P md ops ms J Q f (listed.setIfInBounds i true) a' w') a w
def rJ (md : Region.Mode) (ops : Array Oper) (ms : List Nat) (J : List Bool -> World -> Prop) (i : Nat) (w : World) : Prop := ∃ L, Closed md ops L /\ L.getD i true = false /\ J (marks ms L) w
theorem y4w {Q : Act -> World -> Prop} {i : Nat} {oi : Oper} (hi : ops[i]? = some oi) (hsel : ∀ (j : Nat) (o : Oper) cs b, ops[j]? = some o -> o.op ≠ .select cs b) (hm : ms.contains i = false) :
 ∀ (fuel : Nat) (listed : Array Bool) (a : Act) (w : World), Closed md ops listed ->
  (∀ j oj, ops[j]? = some oj -> j ≠ i -> listed.getD j true = false -> (∀ e ∈ oj.after, Region.binds md e = true -> e.on ≠ i) -> oi.apart ops oj = true) ->
  i ∈ Region.ready md ops listed -> gJ P ops (rJ md ops ms J i) oi v a -> J (marks ms listed) w ->
  lU P md ops ms J Q fuel (listed.setIfInBounds i true) (a.put oi.dst v) w -> lU P md ops ms J Q (fuel + 1) listed a w := by
 intro fuel;induction fuel with
 | zero =>
  intro listed a w hcl _ hr hy hI H;refine ⟨λ h => Nj, λ j hj => ?_⟩;by_cases hji : j = i
  ·exact Q9
  ·have := JR hj hji
   rw [H.1] at this;cases this
 | succ fuel ih =>
  intro listed a w hcl hfree hr hy hI H;refine ⟨λ h => Nj, λ j hj => ?_⟩;by_cases hji : j = i
  ·exact Q9
  ·have h1 := H.2 j (JR hj hji)
   obtain ⟨hjun, oj, hoj, hall⟩ := Jq.1 hj;have hun := (Jq.1 hr).1;have hnot : ∀ e ∈ oj.after, Region.binds md e = true -> e.on ≠ i := λ e he hb heq => by
    exact P7
   have h2 := Ef hoj (hfree j oj hoj hji hjun hnot) (λ cs b => hsel i oi cs b hi) (λ cs b => hsel j oj cs b hoj) hy h1
   have hfree' : ∀ k ok, ops[k]? = some ok -> k ≠ i -> (listed.setIfInBounds j true).getD k true = false ->
    (∀ e ∈ ok.after, Region.binds md e = true -> e.on ≠ i) -> oi.apart ops ok = true := λ k ok hk hki hun hno => by
    refine hfree k ok hk hki ?_ hno;by_cases hjk : j = k
    ·subst hjk; exact hjun
    ·rw [KQ true hjk] at hun; exact hun
   have hJ : ∀ w', J (marks ms ((listed.setIfInBounds i true).setIfInBounds j true)) w' -> J (marks ms (listed.setIfInBounds j true)) w' := λ w' h => by
    rw [K6 _ _ (Ki hji), BG hm] at h;exact h
   refine wpOp_mono (λ a' w' h3 => ⟨hJ _ h3.2.1, ih (listed.setIfInBounds j true) a' w' (hcl.set hj) hfree' (JR hr (Ki hji)) h3.1 (hJ _ h3.2.1) ?_⟩) h2;rw [K6 _ _ hji];exact h3.2.2
theorem z2e {Q : Act -> World -> Prop} {Q' : Exit -> Act -> World -> Prop} (hQ : ∀ a w, Q a w -> Q' .normal a w) : ∀ (f : Nat) (listed : Array Bool) (a : Act) (w : World), lU P md ops ms J Q f listed a w -> wpAny P md ops Q' f listed a w
 | 0, _, _, _, h => ⟨h.1, hQ _ _ h.2⟩
 | f + 1, _, _, _, h => ⟨λ h0 => hQ _ _ (h.1 h0), λ i hi => Ee (λ a' w' h' => z2e hQ f _ a' w' h'.2) (h.2 i hi)⟩
def BH (md : Region.Mode) (ops : Array Oper) (ms : List Nat) : List Nat -> Array Bool -> Bool
 | [], _ => true
 | k :: r, listed => (Region.ready md ops listed).contains k && Region.free md ops listed k && !ms.contains k && BH md ops ms r (listed.setIfInBounds k true)
theorem z2a {Q : Act -> World -> Prop} (hs : Region.noSelect ops = true) {C : World -> Prop} : ∀ (ks : List Nat) (f : Nat) (listed : Array Bool) (a : Act), (∀ k ∈ ks, ∀ w, rJ md ops ms J k w -> C w) -> Closed md ops listed -> J (marks ms listed) w -> BH md ops ms ks listed = true ->
 f_ P ops C (λ a' => lU P md ops ms J Q f (ks.foldl (λ l k => l.setIfInBounds k true) listed) a' w) (ks.filterMap (λ k => ops[k]?)) a -> lU P md ops ms J Q (f + ks.length) listed a w
 | [], f, listed, a, _, _, _, _, h => h
 | k :: r, f, listed, a, hC, hc, hI, hB, h => by
  simp only [BH, Jh] at hB;obtain ⟨⟨⟨h1, h2⟩, h3⟩, h4⟩ := hB;have h3 : ms.contains k = false := by simpa using h3
  have hr : k ∈ Region.ready md ops listed := by simpa using h1
  obtain ⟨_, o, ho, _⟩ := Jq.1 hr;simp only [List.filterMap_cons, ho, f_] at h;have : ∃ v, gJ P ops (rJ md ops ms J k) o v a /\ f_ P ops C (λ a' => lU P md ops ms J Q f ((k :: r).foldl (λ l k => l.setIfInBounds k true) listed) a' w) (r.filterMap (λ k => ops[k]?)) (a.put o.dst v) := by
   by_cases hw : Region.wanted o (yielded ops a.tmps) = true
   ·rw [IA hw] at h
    obtain ⟨v, hv, hn⟩ := h;refine ⟨v, .inl ⟨hw, λ w' hw' => ?_⟩, hn⟩;have := hv w' (hC k (Jp ..) w' hw');generalize (execOp a.eval o).run P w' = x at this;cases x with
    | ok n w2 =>
     cases n <;> simp only [ah] at this;case value u => rw [this.1, this.2]
    | halt x w2 => simp only [ah] at this
   ·rw [Iw hw] at h
    exact ⟨undef, .inr ⟨by simpa using hw, rfl⟩, h⟩
  obtain ⟨v, hy, hn⟩ := this;rw [show f + (k :: r).length = (f + r.length) + 1 by simp; omega]
  exact y4w ho (Ls hs) h3 _ _ _ _ hc (Lt ho h2) hr hy hI
   (z2a hs r f _ _ (λ x hx => hC x (JB _ hx)) (hc.set hr) (by rw [BG h3]; exact hI) h4 hn)
theorem rW {Q : Act -> World -> Prop} {a : Act} (C : World -> Prop) (ks : List Nat) (f : Nat) (listed : Array Bool) (hC : ∀ k ∈ ks, ∀ w, rJ md ops ms J k w -> C w) (hI : J (marks ms listed) w)
 (hB : (Region.noSelect ops && Dc md ops listed && BH md ops ms ks listed) = true)
 (h : f_ P ops C (λ a' => lU P md ops ms J Q f (ks.foldl (λ l k => l.setIfInBounds k true) listed) a' w) (ks.filterMap (λ k => ops[k]?)) a) : lU P md ops ms J Q (f + ks.length) listed a w := by
 simp only [Jh] at hB;exact z2a hB.1.1 ks f listed a hC (z1h hB.1.2) hI hB.2 h
theorem Ep {Q : Act -> World -> Prop} {a : Act} (k f : Nat) (listed : Array Bool) (o : Oper) (ho : ops[k]? = some o) (hr : Region.ready md ops listed = [k])
 (h : wpList P ops (λ e a' w' => e = .normal /\ J (marks ms (listed.setIfInBounds k true)) w' /\ lU P md ops ms J Q f (listed.setIfInBounds k true) a' w') [o] a w) : lU P md ops ms J Q (f + 1) listed a w :=
 ⟨λ h0 => Nh, λ i hi => by rw [hr] at hi; have e : i = k := NI; subst e; exact xH ho h⟩
theorem oh {listed : Array Bool} (bs : List Bool) (h : marks ms listed = bs) (hJ : J bs w) : J (marks ms listed) w := by rw [h]; exact hJ
theorem z8z {k0 : Nat} {C : World -> Prop} (h : ∀ w, rJ md ops ms J k0 w -> C w) : ∀ k ∈ [k0], ∀ w, rJ md ops ms J k w -> C w := λ k hk w hw => by
 simp only [J8] at hk;rw [hk] at hw;exact h w hw
theorem y3h {id : Nat} {Q : Exit -> Act -> World -> Prop} {a : Act} (ms : List Nat) (J : List Bool -> World -> Prop) (hm : P.follows .mixedOrders = true)
 (h : lU P .any ops ms J (λ a' w' => Q .normal a' w') ops.size (Array.replicate ops.size false) a w.drew) : (Code.region id ops true).wp P Q a w :=
 Lu hm (z2e (λ _ _ h => h) _ _ _ _ h)
theorem rJ.ahead {i t : Nat} (h : rJ md ops ms J i w) (hw : jA md ops ops.size t i = true) : ∃ L, L.getD t false = false /\ J (marks ms L) w := by
 obtain ⟨L, h1, h2, h3⟩ := h;refine ⟨L, ?_, h3⟩;cases hk : L.getD t false with
 | false => rfl
 | true => have := yH h1 _ _ _ hw hk; rw [Kh h2] at this; cases this
end
def y2l (P : Program) (gf : Nat) (lb : Array Value) (V : Nat -> Array Value -> (Nat -> Prop) -> World -> Prop) (N : Nat) (R : Nat -> Prop) (w : World) : Prop :=
 ∀ (l : Nat) (J Jx : Nat -> (Nat -> Prop) -> World -> Prop) (W : World), Below w.heap.size w W -> Stable J -> Stable Jx ->
  (∀ k x O W1, k < N -> V k x O W1 -> J k O W1 -> YieldAt Fence.wide 0 P l x W1 λ e W' =>
   (e = .returned (.bool true) /\ J (k + 1) O W' /\ dm (λ i => O i \/ R i) W1 W') \/ (e = .returned (.bool false) /\ Jx (k + 1) O W' /\ dm (λ i => O i \/ R i) W1 W')) ->
  J 0 (λ _ => False) W ->
  CallsIn Fence.wide 0 P gf (#[.func (.yield l) #[] #[]] ++ lb) W λ e W' => (∃ v, e = .returned v) /\ ∃ O, (J N O W' \/ ∃ k, k <= N /\ Jx k O W')
theorem y4y {P : Program} {g : Operand} {ps : Array Tmp} {assign body : Code} {Q : Exit -> Act -> World -> Prop} {a : Act}
 {gf : Nat} {lb : Array Value} (hg : a.eval g = .func (.func gf) #[] lb) (eg : ∀ args w, (callFunc gf args).run P w = .ok (.enter gf args) w)
 {V : Nat -> Array Value -> (Nat -> Prop) -> World -> Prop} {N : Nat} {R : Nat -> Prop} (hseq : y2l P gf lb V N R w0) (hR : ∀ i, R i -> i < w.heap.size) (hb0 : Below w0 w0 w) (hps : ∀ k x O W, V k x O W -> x.size = ps.size)
 (I : Nat -> (Nat -> Prop) -> World -> Prop) (Ix : Code -> Nat -> (Nat -> Prop) -> World -> Prop) (hI : Stable I) (hIx : ∀ c, Stable (Ix c))
 (kY : ∀ k O (r : Loop) (o : Obj) W, W.heap[w.heap.size + 1]? = some (.loop r) -> I k O W -> I k O (W.putObj (w.heap.size + 1) o))
 (nD : ∀ c k O (r : Loop) (o : Obj) W, W.heap[w.heap.size + 1]? = some (.loop r) -> Ix c k O W -> Ix c k O (W.putObj (w.heap.size + 1) o))
 (h0 : ∀ W, Below w w W -> W.heap.size = w.heap.size + 2 -> I 0 (λ _ => False) W) (Ax : Nat -> (Nat -> Prop) -> Array Value -> Act -> World -> Prop) (hAx : ∀ k O x a', y3u (Ax k O x a'))
 (hassign : ∀ (k : Nat) (x : Array Value) (O : Nat -> Prop) (W : World), k < N -> V k x O W -> I k O W -> w.heap.size + 1 < W.heap.size -> ¬ O (w.heap.size + 1) -> ¬ O w.heap.size ->
  assign.wpIn (Fence.wide.inRound (w.heap.size + 1)) 0 P (Exit.then (λ a' W' => I k O W' /\ dm (λ i => O i \/ R i \/ i = w.heap.size + 1 \/ i = w.heap.size) W W' /\ Ax k O x a' W') (λ _ _ _ => False)) { tmps := (ps.zip x).foldl (λ t (p, v) => t.setIfInBounds p v) a.tmps, defers := [] } W)
 (hbody : ∀ (k : Nat) (x : Array Value) (O : Nat -> Prop) (a' : Act) (W : World), k < N -> (∃ r, W.heap[w.heap.size + 1]? = some (.loop r)) -> (∃ o, W.heap[w.heap.size]? = some (.deferred o)) -> ¬ O (w.heap.size + 1) -> ¬ O w.heap.size -> I k O W -> Ax k O x a' W ->
  body.wpIn (Fence.wide.inRound (w.heap.size + 1)) 0 P (z0z (λ i => O i \/ R i \/ i = w.heap.size + 1 \/ i = w.heap.size) I Ix ([] : List Unit) k O W) a' W)
 (hdone : ∀ (O : Nat -> Prop) (W : World), I N O W -> ¬ O w.heap.size -> W.heap[w.heap.size]? = some (.deferred (some [])) -> Q .normal { a with defers := { target := .collected w.heap.size, args := #[] } :: a.defers } W)
 (hstop : ∀ (c : Code) (k : Nat) (O : Nat -> Prop) (W : World), k <= N -> Ix c k O W -> ¬ O w.heap.size -> W.heap[w.heap.size]? = some (.deferred (some [])) -> c.wpIn Fence.wide 0 P Q { a with defers := { target := .collected w.heap.size, args := #[] } :: a.defers } W) :
 (Code.rangeFunc g ps assign body).wpIn Fence.wide 0 P Q a w := by
 refine wpIn_rangeFunc ?_;intro fn hfn
 show ∃ (l : Nat) (mark : List Deferred) (w₁ : World) (d : Deferred) (w₁' : World) (f : FuncId) (args : Array Value) (w₂ : World),
  (Instr.enterLoop fn a.tmps ps assign body none).run P w = .ok (l, mark) w₁ /\ _
 obtain ⟨rec, hrec⟩ : ∃ rec : LoopState -> Option Code -> Loop, rec = λ st pe => { state := st, pending := pe, fn, tmps := a.tmps, params := ps, assign, body, defers := w.heap.size } := ⟨_, rfl⟩;obtain ⟨W1, hW1⟩ := G5 ((w.alloc (.deferred (some []))).alloc (.loop (rec .ready none)));have hL1 : W1.heap[w.heap.size + 1]? = some (.loop (rec .ready none)) := by
  exact Q7
 have hK1 : W1.heap[w.heap.size]? = some (.deferred (some [])) := by
  rw [<-hW1]; exact (JL _ _ _ GV).trans (Lv w _)
 have hbw : Below w w W1 := by
  rw [<-hW1]; exact ((Below.refl _ w).alloc GZ _).alloc GV _
 have hb1 : Below w0 w0 W1 := hb0.trans (hbw.mono hb0.size);have hI1 := h0 W1 hbw (by rw [<-hW1]; simp)
 refine ⟨w.heap.size + 1, [{ target := .collected w.heap.size, args := #[] }], W1, { target := .fn (.func gf) lb, args := #[.func (.yield (w.heap.size + 1)) #[] #[]] }, W1, gf,
  #[.func (.yield (w.heap.size + 1)) #[] #[]] ++ lb, W1, ?_, ?_, ?_, ?_, (λ h => by cases h), ?_⟩
 ·rw [<-hW1, hrec]; exact run_enterLoop_outer _ _ _ _ _
 ·simp only [resolve, hg]
  simp [go_sem]
 ·intro f' _; trivial
 ·simp [invoke, go_sem, eg]
 ·have stay : ∀ (O O' : Nat -> Prop) (A B : World) (k : Nat) (o : Obj), A.heap[k]? = some o -> ¬ O k -> Moves O A B -> (∀ i, O' i -> O i \/ A.heap.size <= i) -> B.heap[k]? = some o /\ ¬ O' k := by
   exact P8
  refine (hseq (w.heap.size + 1)
   (λ k O W => I k O W /\ (W.heap[w.heap.size + 1]? = some (.loop (rec .ready none)) /\ ¬ O (w.heap.size + 1)) /\ (W.heap[w.heap.size]? = some (.deferred (some [])) /\ ¬ O w.heap.size))
   (λ k O W => ∃ c, Ix c k O W /\ (W.heap[w.heap.size + 1]? = some (.loop (rec .done (some c))) /\ ¬ O (w.heap.size + 1)) /\ (W.heap[w.heap.size]? = some (.deferred (some [])) /\ ¬ O w.heap.size))
   W1 hb1
   (λ k O O' A B hs hm ho1 ho2 => ⟨hI k O O' A B hs.1 hm ho1 ho2, stay O O' A B _ _ hs.2.1.1 hs.2.1.2 hm ho2, stay O O' A B _ _ hs.2.2.1 hs.2.2.2 hm ho2⟩)
   (λ k O O' A B hs hm ho1 ho2 => by
    obtain ⟨c, hc, hl, hk⟩ := hs;exact ⟨c, hIx c k O O' A B hc hm ho1 ho2, stay O O' A B _ _ hl.1 hl.2 hm ho2, stay O O' A B _ _ hk.1 hk.2 hm ho2⟩)
   ?_ ⟨hI1, ⟨hL1, λ h => h⟩, ⟨hK1, λ h => h⟩⟩).mono ?_
  ·rintro k x O W hN hx ⟨hi, ⟨hl, hol⟩, ⟨hk, hok⟩⟩
   have hlt : w.heap.size + 1 < W.heap.size := (Jf.1 hl).1;have hnR : ¬ R (w.heap.size + 1) := λ h => Hf (hR _ h);have hy := run_yield (P := P) (args := x) hl (by rw [hrec]; exact hps k x O W hx);rw [hrec] at hy;refine ⟨fn, _, assign, body, hy, roundIn_of_wpIn hfn (KR (hassign k x O W hN hx hi hlt hol hok) ?_)⟩;clear hy;intro e a' Wa hp;cases e with
   | ret => exact hp.elim
   | exit id => exact hp.elim
   | goto t => exact hp.elim
   | panic ch => exact hp.elim
   | outgrown => exact hp.elim
   | normal =>
    obtain ⟨hia, hka, hax⟩ := hp;have hla := (hka.block _ (Iz (Iz (Iy rfl))) hlt).trans hl;have hda := (hka.block _ (Iz (Iz (Iz rfl))) GR).trans hk;have z0r : w.heap.size + 1 < Wa.heap.size := (Jf.1 hla).1;refine ⟨_, run_beginRound hla (by rw [hrec]), ?_⟩;generalize nC : Wa.putObj (w.heap.size + 1) (.loop { rec .ready none with state := .busy }) = Wb;have hl2 : Wb.heap[w.heap.size + 1]? = some (.loop { rec .ready none with state := .busy }) := by rw [<-nC]; exact Lx z0r
    have hk2 : Wb.heap[w.heap.size]? = some (.deferred (some [])) := by rw [<-nC]; exact (Jd GR).trans hda
    have hib : I k O Wb := by rw [<-nC]; exact kY k O _ _ _ hla hia
    have hab : Ax k O x a' Wb := by rw [<-nC]; exact hAx k O x a' _ _ _ _ hla hax
    have hkb : dm (λ i => O i \/ R i) W Wb := by
     exact P9
    refine KR (hbody k x O a' Wb hN ⟨_, hl2⟩ ⟨_, hk2⟩ hol hok hib hab) ?_;exact Ol
  ·exact O_
namespace Em
open Cm
theorem Cw {b : Bytes} (h : b.length <= 8192) : (fT b).length <= b.length + 13 /\ 0 < (fT b).length := by
 rw [tT h];exact Rz
structure Goes (d : Dm.D) (room used : Nat) : Prop where
 dead : d.dead = false
 stops : d.stops = -1
 waits : d.waits = []
 room : d.room = room
 tape : (d.lasts.tp 0).length = used
 others : (d.lasts.tp 1).length = 0 /\ (d.lasts.tp 2).length = 0 /\ (d.lasts.tp 3).length = 0
theorem Goes.stand {d : Dm.D} {room used : Nat} (h : Goes d room used) : d.stand = d.lasts := by
 unfold Dm.D.stand;rw [h.waits];rfl
theorem Goes.used {d : Dm.D} {room used : Nat} (h : Goes d room used) : d.stand.used = used := by
 rw [h.stand];unfold Dm.St.used;rw [h.tape, h.others.1, h.others.2.1, h.others.2.2];omega
theorem Goes.wrote {d : Dm.D} {room used : Nat} {b : Bytes} (h : Goes d room used) (hb : used + b.length <= room) : (wrote d 0 b).2 = 0 /\ Goes (wrote d 0 b).1 room (used + b.length) := by
 have hg : d.goes = (d, 0) := by
  unfold Dm.D.goes;rw [h.dead, h.stops];rfl
 have ha : d.append (0 : Nat) b = ({ d with waits := d.waits ++ [⟨2, 0, 0, b⟩] }, 0) := by
  unfold Dm.D.append;rw [Iw GU, Iw (by rw [h.used, h.room]; omega)];unfold Dm.D.step;rw [hg];rfl
 unfold Em.wrote next;rw [ha];simp only [I1];have hg2 : ({ d with waits := d.waits ++ [⟨2, 0, 0, b⟩] } : Dm.D).goes = ({ d with waits := d.waits ++ [⟨2, 0, 0, b⟩] }, 0) := by
  unfold Dm.D.goes;simp only [h.dead, h.stops];rfl
 have hs : ({ d with waits := d.waits ++ [⟨2, 0, 0, b⟩] } : Dm.D).stand = d.lasts.done ⟨2, 0, 0, b⟩ := by
  unfold Dm.D.stand;simp only [h.waits];rfl
 unfold Dm.D.sync;rw [hg2];simp only [I1];rw [hs];refine ⟨trivial, ⟨h.dead, h.stops, rfl, h.room, ?_, ?_⟩⟩
 ·show ((Dm.upd d.lasts.tp 0 (d.lasts.tp 0 ++ b)) 0).length = _
  rw [Dm.upd_same, IL, h.tape]
 ·refine ⟨?_, ?_, ?_⟩
  ·show ((Dm.upd d.lasts.tp 0 (d.lasts.tp 0 ++ b)) 1).length = _
   rw [Dm.rY _ _ _ _ GU]; exact h.others.1
  ·show ((Dm.upd d.lasts.tp 0 (d.lasts.tp 0 ++ b)) 2).length = _
   rw [Dm.rY _ _ _ _ GU]; exact h.others.2.1
  ·show ((Dm.upd d.lasts.tp 0 (d.lasts.tp 0 ++ b)) 3).length = _
   rw [Dm.rY _ _ _ _ GU]; exact h.others.2.2
structure xz (e : E) (room : Nat) : Prop where
 tp : e.tp = 0
 gen : e.gen = 1
 gone : e.gone = false
 disk : Goes e.d room e.fin
theorem x2x (s : Int) (room : Nat) : Goes (Dm.new s room) room 0 := ⟨rfl, rfl, rfl, rfl, rfl, rfl, rfl, rfl⟩
theorem x9n {s : Int} {room : Nat} (hr : 100 <= room) : (begun (Dm.new s room)).2 = 0 /\ xz (begun (Dm.new s room)).1 room /\ (begun (Dm.new s room)).1.rows = .map [] /\ (begun (Dm.new s room)).1.aL = 0 /\ (begun (Dm.new s room)).1.fin <= 100 := by
 have hf : (folded 1 (.map [])).length <= 100 := by
  have := (Cw (b := Wm.aG 1 ++ Wm.aG 1 ++ Wm.aG (size (.map [] : Rows))) GU).1;show (fT (Wm.aG 1 ++ Wm.aG 1 ++ Wm.aG (size (.map [] : Rows))) ++ (cO (.map [])).flatMap (rowOf (.map []))).length <= 100;have e : (cO (.map [])).flatMap (rowOf (.map [])) = [] := by simp [cO, strKeys]
  rw [e, Ju];have h3 : (Wm.aG 1 ++ Wm.aG 1 ++ Wm.aG (size (.map [] : Rows))).length <= 27 := by
   have h1 := (h_ 1).1;have h2 := (h_ (size (.map [] : Rows))).1;rw [IL, IL];omega
  omega
 have h0 := x2x s room;have he : bK (Dm.new s room) 0 (folded 1 (.map [])) = wrote (Dm.new s room) 0 (folded 1 (.map [])) := by
  unfold bK wrote b_;rw [IA (show ((Dm.new s room).stand.tp (0 : Nat)).length = 0 from rfl)];rfl
 obtain ⟨h1, h2⟩ := h0.wrote (b := folded 1 (.map [])) GR;have hbg : begun (Dm.new s room) = (⟨0, 1, .map [], 0, (folded 1 (.map [])).length, (bK (Dm.new s room) 0 (folded 1 (.map []))).1, false⟩, (bK (Dm.new s room) 0 (folded 1 (.map []))).2) := rfl;rw [hbg, he];exact ⟨h1, ⟨rfl, rfl, rfl, by simpa using h2⟩, rfl, rfl, hf⟩
theorem xz.bE {e : E} {room : Nat} {l : List ay} (h : xz e room) (hd : aW e.rows l = 0) (hl : (dQ l).length <= 8192) (hb : e.aL < 32) (hr : e.fin + (dQ l).length + 13 <= room / 2) :
 (e.bE l).2 = 0 /\ xz (e.bE l).1 room /\ (e.bE l).1.rows = behind e.rows l /\ (e.bE l).1.aL = e.aL + 1 /\ (e.bE l).1.fin <= e.fin + (dQ l).length + 13 := by
 obtain ⟨f1, f2⟩ := Cw hl;have hbl : aY l = fT (dQ l) := rfl;have hp : e.put (behind e.rows l) (aY l) = _ := sM (e := e) (D := behind e.rows l) (b := aY l) (by rw [hbl, h.disk.room]; omega);obtain ⟨w1, w2⟩ := h.disk.wrote (b := aY l) (by rw [hbl]; omega);rw [h.tp] at hp;simp only [w1, I1] at hp;have hst : e.step (behind e.rows l) (aY l) = e.put (behind e.rows l) (aY l) := by
  unfold E.step;rw [hp];rfl
 have hc : e.bE l = ({ (e.step (behind e.rows l) (aY l)).1 with gone := decide ((e.step (behind e.rows l) (aY l)).2 = 281) }, (e.step (behind e.rows l) (aY l)).2) := by
  unfold E.bE;rw [Iw GR, Iw (by rw [h.gone]; decide)]
 rw [hc, hst, hp];refine ⟨rfl, ⟨rfl, h.gen, rfl, ?_⟩, rfl, rfl, ?_⟩
 ·exact w2
 ·show e.fin + (aY l).length <= _
  rw [hbl]; omega
theorem x7b {e : E} {l : List ay} {r : E × Int} (hd : aW e.rows l = 0) (hg : e.gone = false) (hp : e.put (behind e.rows l) (aY l) = r) (x4g : r.2 ≠ 280) : e.bE l = ({ r.1 with gone := decide (r.2 = 281) }, r.2) := by
 have hst : e.step (behind e.rows l) (aY l) = r := by
  unfold E.step;rw [hp, Iw x4g]
 unfold E.bE;rw [Iw GR, Iw (by rw [hg]; decide), hst]
theorem x7g {e : E} {room : Nat} {l : List ay} (tp : e.tp = 0) (gone : e.gone = false) (dead : e.d.dead = false) (stops : e.d.stops = 0) (hroom : e.d.room = (room : Int)) (used : e.d.stand.used = (e.fin : Int))
 (hd : aW e.rows l = 0) (hl : (dQ l).length <= 8192) (hb : e.aL < 32) (hr : e.fin + (dQ l).length + 13 <= room / 2) :
 (e.bE l).2 = 281 /\ (e.bE l).1.gone = true /\ (e.bE l).1.rows = e.rows := by
 obtain ⟨f1, f2⟩ := Cw hl;have hbl : aY l = fT (dQ l) := rfl;have hg : e.d.goes = ({ e.d with dead := true, stops := -1 }, 281) := by
  unfold Dm.D.goes;rw [Iw (by rw [dead]; decide), IA stops]
 have ha : e.d.append (e.tp : Nat) (aY l) = ({ e.d with dead := true, stops := -1 }, 281) := by
  rw [tp];unfold Dm.D.append;rw [Iw GU, Iw (by rw [used, hroom, hbl]; omega)];unfold Dm.D.step;rw [hg];rfl
 have hw : (wrote e.d e.tp (aY l)).2 = 281 := by
  unfold wrote next;rw [ha];rfl
 have hp := sM (e := e) (D := behind e.rows l) (b := aY l) (by rw [hbl, hroom]; omega);rw [hw] at hp;rw [x7b hd gone hp (show (281 : Int) ≠ 280 by decide)];exact Qs
theorem xz.stopped {e : E} {room : Nat} {l : List ay} (h : xz e room) (hd : aW e.rows l = 0) (hl : (dQ l).length <= 8192) (hb : e.aL < 32) (hr : e.fin + (dQ l).length + 13 <= room / 2) :
 (({ e with d := (e.d.stop 0).1 } : E).bE l).2 = 281 /\ (({ e with d := (e.d.stop 0).1 } : E).bE l).1.gone = true /\ (({ e with d := (e.d.stop 0).1 } : E).bE l).1.rows = e.rows := by
 have hs : (e.d.stop 0).1 = { e.d with stops := 0 } := by
  unfold Dm.D.stop;rw [Iw GU, Iw (by rw [h.disk.dead]; decide)]
 rw [hs];exact x7g (room := room) h.tp h.gone h.disk.dead rfl h.disk.room h.disk.used hd hl hb hr
def l1 : List ay := [⟨[97], [49], false⟩, ⟨[98], [50], false⟩, ⟨[97], [], true⟩]
def lc : List ay := [⟨[99], [51], false⟩]
def ld : List ay := [⟨[100], [52], false⟩]
def b1 : List ay := [⟨[], [], false⟩]
def b2 : List ay := [⟨[97], [49], true⟩]
def z65 : Bytes := List.replicate 65 0
def b3 : List ay := [⟨z65, [], false⟩]
def D1 : Rows := behind (.map []) l1
theorem x3k : aW (.map []) l1 = 0 := GU
theorem w1h : size D1 = 1 := GU
theorem y3y : valueOf D1 [98] = [50] /\ has D1 (.string [98]) = true := GU
theorem y3x : has D1 (.string [97]) = false /\ has D1 (.string [99]) = false := GU
theorem x9b : aW D1 b1 = 2 := GU
theorem x9c : aW D1 b2 = 2 := GU
theorem x9d : aW D1 b3 = 3 := GU
theorem x3v : aW D1 lc = 0 := GU
theorem x3w : aW D1 ld = 0 := GU
theorem GD : (dQ l1).length <= 100 := GU
theorem z8k : (dQ lc).length <= 100 := GU
end Em
section
variable {P : Program} {l : List Oper} {md : Region.Mode}
def jE (vals : Nat -> Value) : List Oper -> Nat -> Act -> Act
 | [], _, a => a
 | o :: l, k, a => jE vals l (k + 1) (a.put o.dst (vals k))
structure uq (l : List Oper) (L : Nat -> Bool) (vals : Nat -> Value) (a0 a : Act) : Prop where
 defers : a.defers = a0.defers
 size : a.tmps.size = a0.tmps.size
 put : ∀ (k : Nat) (o : Oper) (d : Tmp), l[k]? = some o -> o.dst = some d -> L k = true -> a.tmps[d]? = some (vals k)
 old : ∀ s : Nat, (∀ (k : Nat) (o : Oper), l[k]? = some o -> L k = true -> o.dst ≠ some s) -> a.tmps[s]? = a0.tmps[s]?
def nI (n : Nat) : List Oper -> Bool
 | [] => true
 | o :: l => (match o.dst with | none => true | some d => decide (d < n) && l.all (λ o' => o'.dst != some d)) && nI n l
theorem z2x : ∀ {l : List Oper}, nI n l = true -> ∀ (k : Nat) (o : Oper) (d : Tmp), l[k]? = some o -> o.dst = some d -> d < n
 | [], _, k, o, d, hk, _ => by simp at hk
 | x :: l, h, k, o, d, hk, hd => by
  simp only [nI, Jh] at h;cases k with
  | zero =>
   simp only [List.getElem?_cons_zero, Jv] at hk;subst hk;have h1 := h.1;rw [hd] at h1;simp only [Jh, JX] at h1;exact h1.1
  | succ k => exact z2x h.2 k o d NJ hd
theorem z2y : ∀ {l : List Oper}, nI n l = true -> ∀ (k j : Nat) (o o' : Oper) (d : Tmp), l[k]? = some o -> l[j]? = some o' -> o.dst = some d -> k ≠ j -> o'.dst ≠ some d
 | [], _, k, _, o, _, d, hk, _, _, _ => by simp at hk
 | x :: l, h, k, j, o, o', d, hk, hj, hd, hne => by
  simp only [nI, Jh] at h;cases k with
  | zero =>
   simp only [List.getElem?_cons_zero, Jv] at hk;subst hk;cases j with
   | zero => exact absurd rfl hne
   | succ j =>
    have h1 := h.1;rw [hd] at h1;simp only [Jh, JJ] at h1;have := h1.2 o' (Jb NR);simpa using this
  | succ k =>
   cases j with
   | zero =>
    simp only [List.getElem?_cons_zero, Jv] at hj;subst hj;intro e;have h1 := h.1;rw [e] at h1;simp only [Jh, JJ] at h1;have := h1.2 o (Jb NJ);rw [hd] at this;simp at this
   | succ j => exact z2y h.2 k j o o' d NJ NR hd GR
theorem uq.next (hn : nI n l = true) {L : Nat -> Bool} {vals : Nat -> Value} {a0 a : Act} (hsz : a0.tmps.size = n) (h : uq l L vals a0 a) {i : Nat} {o : Oper} (hi : l[i]? = some o) (hL : L i = false) (v : Value) :
 uq l (λ k => if k = i then true else L k) (λ k => if k = i then v else vals k) a0 (a.put o.dst v) := by
 cases hd : o.dst with
 | none =>
  refine ⟨h.defers, h.size, λ k o' d hk hd' hLk => ?_, λ s hs => h.old s (λ k o' hk hLk => hs k o' hk (by split; rfl; exact hLk))⟩;have hne : k ≠ i := λ e => by subst e; rw [hi] at hk; cases hk; rw [hd] at hd'; cases hd'
  simp only [Iw hne] at hLk ⊢;exact h.put k o' d hk hd' hLk
 | some d0 =>
  have hlt : d0 < a.tmps.size := by rw [h.size, hsz]; exact z2x hn i o d0 hi hd
  refine ⟨h.defers, by simpa [Act.put] using h.size, λ k o' d hk hd' hLk => ?_, λ s hs => ?_⟩
  ·by_cases hki : k = i
   ·subst hki
    rw [hi] at hk; cases hk;rw [hd] at hd'; cases hd';simp [Act.put, K5, hlt]
   ·simp only [Iw hki] at hLk ⊢
    have hne : d0 ≠ d := λ e => z2y hn i k o o' d0 hi hk hd (Ki hki) (by rw [e]; exact hd');show (a.tmps.setIfInBounds d0 v)[d]? = _;rw [Lc hne];exact h.put k o' d hk hd' hLk
  ·have hne : d0 ≠ s := λ e => hs i o hi GV (by rw [hd, e])
   show (a.tmps.setIfInBounds d0 v)[s]? = _;rw [Lc hne];exact h.old s (λ k o' hk hLk => hs k o' hk (by split; rfl; exact hLk))
theorem z7p (vals : Nat -> Value) : ∀ (l : List Oper) (k : Nat) (a : Act), (jE vals l k a).defers = a.defers
 | [], _, _ => rfl
 | o :: l, k, a => by
  rw [jE, z7p vals l];cases o.dst <;> rfl
theorem z7o (vals : Nat -> Value) : ∀ (l : List Oper) (k : Nat) (a : Act), nI n l = true -> a.tmps.size = n ->
 (∀ (j : Nat) (o : Oper) (d : Tmp), l[j]? = some o -> o.dst = some d -> (jE vals l k a).tmps[d]? = some (vals (k + j))) /\ (∀ s : Nat, (∀ (j : Nat) (o : Oper), l[j]? = some o -> o.dst ≠ some s) -> (jE vals l k a).tmps[s]? = a.tmps[s]?)
 | [], k, a, _, _ => ⟨λ j o d hj => by simp at hj, λ _ _ => rfl⟩
 | x :: l, k, a, h, hsz => by
  have h' := h;simp only [nI, Jh] at h;have hsz' : (a.put x.dst (vals k)).tmps.size = n := by cases x.dst <;> simp [Act.put, hsz]
  obtain ⟨i1, i2⟩ := z7o vals l (k + 1) (a.put x.dst (vals k)) h.2 hsz';refine ⟨λ j o d hj hd => ?_, λ s hs => ?_⟩
  ·cases j with
   | zero =>
    simp only [List.getElem?_cons_zero, Jv] at hj;subst hj;rw [jE, i2 d (λ j o hj => z2y h' 0 (j + 1) x o d rfl NR hd GR), hd];have := z2x h' 0 x d rfl hd;simp [Act.put, K5, hsz, this]
   | succ j =>
    rw [jE, i1 j o d NR hd];congr 2
    omega
  ·rw [jE, i2 s (λ j o hj => hs (j + 1) o NR)]
   have := hs 0 x rfl;cases hd : x.dst with
   | none => rfl
   | some d =>
    rw [hd] at this;show (a.tmps.setIfInBounds d _)[s]? = _;rw [Lc (λ e => this (by rw [e]))]
theorem uq.all (hn : nI n l = true) {L : Nat -> Bool} {vals : Nat -> Value} {a0 a : Act} (hsz : a0.tmps.size = n) (h : uq l L vals a0 a) (hL : ∀ k, k < l.length -> L k = true) : a = jE vals l 0 a0 := by
 obtain ⟨i1, i2⟩ := z7o vals l 0 a0 hn hsz;have e1 : a.tmps = (jE vals l 0 a0).tmps := by
  apply Md
  intro s;by_cases hs : ∃ (k : Nat) (o : Oper), l[k]? = some o /\ o.dst = some s
  ·obtain ⟨k, o, hk, hd⟩ := hs
   rw [h.put k o s hk hd (hL k (IY.1 hk).1), i1 k o s hk hd, I8]
  ·have hs' : ∀ (k : Nat) (o : Oper), l[k]? = some o -> o.dst ≠ some s := λ k o hk hd => hs ⟨k, o, hk, hd⟩
   rw [h.old s (λ k o hk _ => hs' k o hk), i2 s hs']
 have e2 : a.defers = (jE vals l 0 a0).defers := by rw [z7p, h.defers]
 cases a;cases hp : jE vals l 0 a0;rw [hp] at e1 e2;simp only at e1 e2;rw [e1, e2]
def Gt (md : Region.Mode) (l : List Oper) : Bool :=
 (List.range l.length).all λ i => match l[i]? with
  | some o => o.after.all λ e => !Region.binds md e || decide (e.on < i)
  | none => true
theorem w0o (hlow : Gt md l = true) {listed : Array Bool} (hz : listed.size = l.length) (hr : Region.ready md l.toArray listed = []) : ∀ k, k < l.length -> listed.getD k false = true := by
 intro k;induction k using Nat.strongRecOn with
 | ind k ih =>
  intro hk;cases hL : listed.getD k false with
  | true => rfl
  | false =>
   exfalso
   have hm : k ∈ Region.ready md l.toArray listed := by
    refine Jq.2 ⟨?_, l[k], by simp [hk], λ e he hb => ?_⟩
    ·have hkz : k < listed.size := GR
     simp only [Mj, Array.getElem?_eq_getElem hkz, Option.getD_some] at hL ⊢;exact hL
    ·have h1 := JJ.1 hlow k (K7.2 hk)
     rw [IR hk] at h1;have h2 := (JD.1 h1) e he;simp only [hb, Bool.not_true, Lh, JX] at h2;exact ih e.on h2 GR
   rw [hr] at hm;cases hm
theorem w0p (hn : nI n l = true) (a0 : Act) (hsz : a0.tmps.size = n) (J : (Nat -> Bool) -> (Nat -> Value) -> World -> Prop)
 (hstep : ∀ (i : Nat) (o : Oper) (L : Nat -> Bool) (vals : Nat -> Value) (a : Act) (w : World), l[i]? = some o -> L i = false -> (∀ k, jA md l.toArray l.length i k = true -> L k = true) -> (∀ k, jA md l.toArray l.length k i = true -> L k = false) -> J L vals w ->
  (∀ (k : Nat) (ok : Oper) (d : Tmp), l[k]? = some ok -> ok.dst = some d -> L k = true -> a.tmps[d]? = some (vals k)) -> (∀ s : Nat, (∀ (k : Nat) (ok : Oper), l[k]? = some ok -> ok.dst ≠ some s) -> a.tmps[s]? = a0.tmps[s]?) ->
  wpList P l.toArray (λ e a' w' => e = .normal /\ ∃ v, a' = a.put o.dst v /\ J (λ k => if k = i then true else L k) (λ k => if k = i then v else vals k) w') [o] a w)
 {Q : Exit -> Act -> World -> Prop} (hlow : Gt md l = true)
 (hend : ∀ vals w, J (λ _ => true) vals w -> Q .normal (jE vals l 0 a0) w)
 (B_ : ∀ L L' vals w, (∀ k, k < l.length -> L k = L' k) -> J L vals w -> J L' vals w) :
 ∀ (f : Nat) (listed : Array Bool) (vals : Nat -> Value) (a : Act) (w : World), listed.size = l.length -> Closed md l.toArray listed -> l.length <= f + (List.range l.length).countP (λ k => listed.getD k false) -> uq l (λ k => listed.getD k false) vals a0 a ->
  J (λ k => listed.getD k false) vals w -> wpAny P md l.toArray Q f listed a w := by
 have done : ∀ (listed : Array Bool) (vals : Nat -> Value) (a : Act) (w : World), (∀ k, k < l.length -> listed.getD k false = true) -> uq l (λ k => listed.getD k false) vals a0 a ->
  J (λ k => listed.getD k false) vals w -> Q .normal a w := by
  intro listed vals a w hL hs hg;rw [hs.all hn hsz hL];exact hend vals w (B_ _ _ vals w (λ k hk => hL k hk) hg)
 intro f;induction f with
 | zero =>
  intro listed vals a w hz hc hf hs hg;have hL : ∀ k, k < l.length -> listed.getD k false = true := by
   have h1 : (List.range l.length).countP (λ k => listed.getD k false) = (List.range l.length).length := by
    have := List.countP_le_length (p := λ k => listed.getD k false) (l := List.range l.length);simp at this ⊢;simp at hf;omega
   have h2 := List.countP_eq_length.1 h1;intro k hk;exact h2 k (K7.2 hk)
  refine ⟨?_, done listed vals a w hL hs hg⟩;rw [List.eq_nil_iff_forall_not_mem];intro j hj;obtain ⟨h0, o, ho, _⟩ := Jq.1 hj;have hlt : j < l.length := by simpa using (Jf.1 ho).1
  have h1 := hL j hlt;rw [Kh h0] at h1;cases h1
 | succ f ih =>
  intro listed vals a w hz hc hf hs hg;refine ⟨λ hr => done listed vals a w (w0o hlow hz hr) hs hg, λ i hi => ?_⟩;obtain ⟨h0, o, ho, hafter⟩ := Jq.1 hi;have hi' : l[i]? = some o := by simpa using ho
  have hlt : i < l.length := (IY.1 hi').1;have iC : listed.getD i false = false := Kh h0;have hdeps : ∀ k, jA md l.toArray l.length i k = true -> listed.getD k false = true := by
   intro k hk;cases hn : l.length with
   | zero => omega
   | succ g =>
    rw [hn] at hk;simp only [jA, ho] at hk;obtain ⟨e, he, hb⟩ := Me.1 hk;simp only [Jh, Lr, beq_iff_eq] at hb;have h1 := hafter e he hb.1;rcases hb.2 with h2 | h2
    ·rw [<-h2]; exact h1
    ·exact yH hc _ _ _ h2 h1
  have x4u : ∀ k, jA md l.toArray l.length k i = true -> listed.getD k false = false := by
   intro k hk;cases hk2 : listed.getD k false with
   | false => rfl
   | true => have := yH hc _ _ _ hk hk2; rw [iC] at this; cases this
  have hset : ∀ k, (listed.setIfInBounds i true).getD k false = if k = i then true else listed.getD k false := by
   intro k;by_cases hk : k = i
   ·subst hk
    simp only [I1, Mj, K5];simp [hz, hlt]
   ·simp only [Iw hk, Mj, Lc (Ki hk)]
  have h1 := hstep i o (λ k => listed.getD k false) vals a w hi' iC hdeps x4u hg
   (λ k ok d hk hd hw => hs.put k ok d hk hd hw)
   (λ s hs' => hs.old s (λ k o hk _ => hs' k o hk))
  refine wpOp_mono ?_ (Ee (λ _ _ h => h) (xH ho h1));rintro a' w' ⟨v, rfl, hg'⟩;refine ih (listed.setIfInBounds i true) (λ k => if k = i then v else vals k) _ w' (by simpa using hz) (hc.set hi) ?_ ?_ ?_
  ·have hcount : (List.range l.length).countP (λ k => listed.getD k false) + 1 <= (List.range l.length).countP (λ k => (listed.setIfInBounds i true).getD k false) := by
    have key : ∀ (r : List Nat), r.Nodup -> (r.countP (λ k => listed.getD k false)) + (if i ∈ r then 1 else 0) <= r.countP (λ k => (listed.setIfInBounds i true).getD k false) := by
     intro r hr;induction r with
     | nil => simp
     | cons x r ihr =>
      rw [List.nodup_cons] at hr;have h3 := ihr hr.2;rw [List.countP_cons, List.countP_cons, hset];by_cases hx : x = i
      ·subst hx
       rw [Iw hr.1] at h3;rw [iC, IA rfl, IA (Jp ..)];simp only [KJ, JM, I1];omega
      ·have hm : (i ∈ x :: r) ↔ i ∈ r := by simp [Ki hx]
       simp only [hm, Iw hx];omega
    have := key (List.range l.length) List.nodup_range;rw [IA (K7.2 hlt)] at this;exact this
   omega
  ·have := hs.next hn hsz hi' iC v
   have e : (λ k => (listed.setIfInBounds i true).getD k false) = (λ k => if k = i then true else listed.getD k false) := funext hset;rw [e];exact this
  ·have e : (λ k => (listed.setIfInBounds i true).getD k false) = (λ k => if k = i then true else listed.getD k false) := funext hset
   rw [e];exact hg'
theorem z2j {id : Nat} {Q : Exit -> Act -> World -> Prop} {a0 : Act} (n : Nat) (J : (Nat -> Bool) -> (Nat -> Value) -> World -> Prop) (hm : P.follows .mixedOrders = true) (hsz : a0.tmps.size = n)
 (hB : (nI n l && Gt .any l) = true)
 (B_ : ∀ L L' vals w, (∀ k, k < l.length -> L k = L' k) -> J L vals w -> J L' vals w) (hg0 : J (λ _ => false) (λ _ => undef) w0.drew)
 (hstep : ∀ (i : Nat) (o : Oper) (L : Nat -> Bool) (vals : Nat -> Value) (a : Act) (w : World), l[i]? = some o -> L i = false -> (∀ k, jA .any l.toArray l.length i k = true -> L k = true) -> (∀ k, jA .any l.toArray l.length k i = true -> L k = false) -> J L vals w ->
  (∀ (k : Nat) (ok : Oper) (d : Tmp), l[k]? = some ok -> ok.dst = some d -> L k = true -> a.tmps[d]? = some (vals k)) -> (∀ s : Nat, (l.all λ ok => ok.dst != some s) = true -> a.tmps[s]? = a0.tmps[s]?) ->
  wpList P l.toArray (λ e a' w' => e = .normal /\ ∃ v, a' = a.put o.dst v /\ J (λ k => if k = i then true else L k) (λ k => if k = i then v else vals k) w') [o] a w)
 (hend : ∀ vals w, J (λ _ => true) vals w -> Q .normal (jE vals l 0 a0) w) : (Code.region id l.toArray true).wp P Q a0 w0 := by
 simp only [Jh] at hB;have none : ∀ k, (Array.replicate l.length false).getD k false = false := λ k => getD_replicate_false _ _;refine Lu hm ?_;have hz : l.toArray.size = l.length := GV;rw [hz];refine w0p hB.1 a0 hsz J (λ i o L vals a w h1 h2 h3 h4 h5 h6 h7 => hstep i o L vals a w h1 h2 h3 h4 h5 h6 (λ s hs => h7 s (λ k ok hk hd => by have := JJ.1 hs ok (Jb hk); rw [hd] at this; simp at this))) hB.2 hend B_ l.length (Array.replicate l.length false) (λ _ => undef) a0 w0.drew GV (x8u _) (Nat.le_add_right _ _) ⟨rfl, rfl, λ k o d hk hd hL => ?_, λ s _ => rfl⟩ ?_
 ·rw [none] at hL; cases hL
 ·exact B_ _ _ _ _ (λ k _ => (none k).symm) hg0
end
def Exit.fwd (P : Program) (l : Nat) (rest : Code) (Q : Exit -> Act -> World -> Prop) : Exit -> Act -> World -> Prop
 | .goto l', a, w => l' = l /\ rest.wp P (Exit.noGoto Q) a w
 | e, a, w => Q e a w
theorem Exit.z0f {P : Program} {l : Nat} {rest : Code} {Q : Exit -> Act -> World -> Prop} {a : Act} (h : rest.wp P (Exit.noGoto Q) a w) : Exit.fwd P l rest Q (.goto l) a w := ⟨rfl, h⟩
theorem Exit.z9a {P : Program} {l : Nat} {rest : Code} {Q : Exit -> Act -> World -> Prop} {a : Act} : Exit.fwd P l rest Q .ret a w = Q .ret a w := rfl
theorem xG {P : Program} {Q : Exit -> Act -> World -> Prop} {a : Act} {c rest : Code} (l : Nat) (hf : findLabel c l = some rest)
 (first : c.wp P (Exit.fwd P l rest Q) a w) : (Code.scope c).wp P Q a w := by
 intro b k cs;have hg : gotoIn l (.inScope c :: k) = some (.code rest :: .inScope c :: k) := by simp [gotoIn, hf]
 obtain ⟨e, a₁, w₁, hq, harr⟩ := first b (.inScope c :: k) cs;cases e with
 | normal => exact ⟨.normal, a₁, w₁, hq, .head JZ (Steps.trans harr (.one step_inScope))⟩
 | exit id => exact ⟨.exit id, a₁, w₁, hq, λ k' hk => .head JZ (harr k' (by simp [exitTo, hk]))⟩
 | goto l' =>
  obtain ⟨rfl, hJ⟩ := hq;obtain ⟨e₂, a₂, w₂, kW, mh⟩ := hJ b (.inScope c :: k) cs;cases e₂ with
  | normal => exact ⟨.normal, a₂, w₂, kW, .of_steps (.head JZ (harr _ hg)) (Steps.trans mh (.one step_inScope))⟩
  | exit id => exact ⟨.exit id, a₂, w₂, kW, λ k' hk => Steps.trans (.head JZ (harr _ hg)) (mh k' (by simp [exitTo, hk]))⟩
  | goto l'' => exact kW.elim
  | ret => exact ⟨_, a₂, w₂, kW, .of_steps (.head JZ (harr _ hg)) mh⟩
  | panic ch => exact ⟨_, a₂, w₂, kW, .of_steps (.head JZ (harr _ hg)) mh⟩
  | outgrown => exact ⟨_, a₂, w₂, kW, .of_steps (.head JZ (harr _ hg)) mh⟩
 | ret => exact ⟨_, a₁, w₁, hq, .of_steps (.one JZ) harr⟩
 | panic ch => exact ⟨_, a₁, w₁, hq, .of_steps (.one JZ) harr⟩
 | outgrown => exact ⟨_, a₁, w₁, hq, .of_steps (.one JZ) harr⟩
def Exit.z0e (F : Fence) (n : Nat) (P : Program) (l : Nat) (rest : Code) (Q : Exit -> Act -> World -> Prop) : Exit -> Act -> World -> Prop
 | .goto l', a, w => l' = l /\ rest.wpIn F n P (Exit.noGoto Q) a w
 | e, a, w => Q e a w
theorem Exit.y0y {F : Fence} {P : Program} {l : Nat} {rest : Code} {Q : Exit -> Act -> World -> Prop} {a : Act} (h : rest.wpIn F n P (Exit.noGoto Q) a w) : Exit.z0e F n P l rest Q (.goto l) a w := ⟨rfl, h⟩
theorem Exit.y0z {F : Fence} {P : Program} {l : Nat} {rest : Code} {Q : Exit -> Act -> World -> Prop} {a : Act} : Exit.z0e F n P l rest Q .ret a w = Q .ret a w := rfl
theorem y4z {F : Fence} {P : Program} {Q : Exit -> Act -> World -> Prop} {a : Act} {c rest : Code} (l : Nat) (hf : findLabel c l = some rest)
 (h : c.wpIn F n P (Exit.z0e F n P l rest Q) a w) : (Code.scope c).wpIn F n P Q a w := by
 intro b k cs hro hb hr;have h0 : (lone (b.atR a (.code (.scope c) :: k)) cs w).fenced P F := K8 hb hr rfl;have hg : gotoIn l (.inScope c :: k) = some (.code rest :: .inScope c :: k) := by simp [gotoIn, hf]
 obtain ⟨e, a₁, w₁, hq, harr⟩ := h b (.inScope c :: k) cs hro hb hr;have hx : ∀ id, exitTo id (.inScope c :: k) = exitTo id k := λ id => by simp [exitTo]
 cases e with
 | normal => exact ⟨.normal, a₁, w₁, hq, .head h0 kR (StepsIn.trans harr (.one (K8 hb hr rfl) ER))⟩
 | exit id => exact ⟨.exit id, a₁, w₁, hq, λ k' hk => .head h0 kR (harr.1 k' Nu),
  λ hr' hk => let ⟨k₁, h1, h2⟩ := harr.2 hr' Nu; ⟨k₁, h1, .head h0 kR h2⟩⟩
 | goto l' =>
  obtain ⟨rfl, hJ⟩ := hq;have pre := StepsIn.head h0 kR (harr.1 _ hg);obtain ⟨e₂, a₂, w₂, kW, mh⟩ := hJ b (.inScope c :: k) cs hro hb hr;cases e₂ with
  | normal => exact ⟨.normal, a₂, w₂, kW, StepsIn.trans pre (StepsIn.trans mh (.one (K8 hb hr rfl) ER))⟩
  | exit id => exact ⟨.exit id, a₂, w₂, kW, λ k' hk => pre.trans (mh.1 k' Nu),
   λ hr' hk => let ⟨k₁, h1, h2⟩ := mh.2 hr' Nu; ⟨k₁, h1, pre.trans h2⟩⟩
  | goto l'' => exact kW.elim
  | ret => exact ⟨_, a₂, w₂, kW, .of_steps pre mh⟩
  | panic ch => exact ⟨_, a₂, w₂, kW, .of_steps pre mh⟩
  | outgrown => exact ⟨_, a₂, w₂, kW, .of_steps pre mh⟩
 | ret => exact ⟨_, a₁, w₁, hq, .of_steps (.one h0 kR) harr⟩
 | panic ch => exact ⟨_, a₁, w₁, hq, .of_steps (.one h0 kR) harr⟩
 | outgrown => exact ⟨_, a₁, w₁, hq, .of_steps (.one h0 kR) harr⟩
namespace Em
open Cm
abbrev bB := List (Bytes × Bytes)
def oG (l : bB) : Prop := l.Pairwise (λ a b => a.1 <= b.1 /\ a.1 ≠ b.1)
def tell (D : Rows) : bB := (cO D).map λ k => (k, valueOf D k)
def iB (c : ay) : Bool -> bB -> bB
 | put, [] => if put = true then [] else [(c.key, c.value)]
 | put, r :: l => (if put = false /\ c.key <= r.1 then [(c.key, c.value)] else []) ++ ((if r.1 ≠ c.key then [r] else []) ++ iB c (put || decide (c.key <= r.1)) l)
def gX (rows : bB) (c : ay) : bB := iB c c.gone rows
theorem Gq (c : ay) (x : Bytes × Bytes) : ∀ (l : bB) (put : Bool), x ∈ iB c put l ↔ (x ∈ l /\ x.1 ≠ c.key) \/ (put = false /\ x = (c.key, c.value)) := by
 intro l;induction l with
 | nil =>
  intro put;cases put <;> simp [iB]
 | cons r l ih =>
  intro put;rw [iB, JY, JY, ih];have h1 : x ∈ (if r.1 ≠ c.key then [r] else []) ↔ x = r /\ x.1 ≠ c.key := by
   by_cases h : r.1 ≠ c.key
   ·rw [IA h]
    constructor
    ·intro hx
     have : x = r := by simpa using hx
     exact ⟨this, by rw [this]; exact h⟩
    ·rintro ⟨rfl, _⟩; simp
   ·rw [Iw h]
    constructor
    ·intro hx; cases hx
    ·rintro ⟨rfl, hx⟩; exact absurd hx h
  rw [h1, J5];by_cases hk : c.key <= r.1
  ·cases put
   ·rw [IA ⟨rfl, hk⟩]
    have hd : decide (c.key <= r.1) = true := by simpa using hk
    rw [hd];simp only [Lh, J8];constructor
    ·rintro (h | ⟨h, h'⟩ | ⟨h, h'⟩ | ⟨h, _⟩)
     ·exact Iz ⟨trivial, h⟩
     ·exact Iy ⟨Iy h, h'⟩
     ·exact Iy ⟨Iz h, h'⟩
     ·cases h
    ·rintro (⟨h | h, h'⟩ | ⟨_, h⟩)
     ·exact Iz (Iy ⟨h, h'⟩)
     ·exact Iz (Iz (Iy ⟨h, h'⟩))
     ·exact Iy h
   ·rw [Iw GV]
    simp only [Bool.true_or, KD, false_or];constructor
    ·rintro (⟨h, h'⟩ | ⟨h, h'⟩ | ⟨h, _⟩)
     ·exact Iy ⟨Iy h, h'⟩
     ·exact Iy ⟨Iz h, h'⟩
     ·cases h
    ·rintro (⟨h | h, h'⟩ | ⟨h, _⟩)
     ·exact Iy ⟨h, h'⟩
     ·exact Iz (Iy ⟨h, h'⟩)
     ·cases h
  ·rw [Iw (λ h => hk h.2)]
   have hd : decide (c.key <= r.1) = false := by simpa using hk
   rw [hd, Bool.or_false];simp only [KD, false_or];constructor
   ·rintro (⟨h, h'⟩ | ⟨h, h'⟩ | h)
    ·exact Iy ⟨Iy h, h'⟩
    ·exact Iy ⟨Iz h, h'⟩
    ·exact Iz h
   ·rintro (⟨h | h, h'⟩ | h)
    ·exact Iy ⟨h, h'⟩
    ·exact Iz (Iy ⟨h, h'⟩)
    ·exact Iz (Iz h)
theorem of_not_le {a b : Bytes} (h : ¬ a <= b) : b <= a /\ b ≠ a := ⟨(LH a b).resolve_left h, λ e => h (by subst e; exact KV _)⟩
theorem y6z (c : ay) : ∀ (l : bB) (put : Bool), oG l -> oG (iB c put l) := by
 intro l;induction l with
 | nil =>
  intro put _;cases put <;> simp [iB, oG]
 | cons r l ih =>
  intro put h;obtain ⟨h1, h2⟩ := LV.1 h;have hs := ih (put || decide (c.key <= r.1)) h2;have back : oG ((if r.1 ≠ c.key then [r] else []) ++ iB c (put || decide (c.key <= r.1)) l) := by
   by_cases hr : r.1 ≠ c.key
   ·rw [IA hr]
    refine LV.2 ⟨λ x hx => ?_, hs⟩;rcases (Gq c x l _).1 hx with ⟨hx, _⟩ | ⟨hp, rfl⟩
    ·exact h1 x hx
    ·have hk : ¬ c.key <= r.1 := by
      intro hk;have : decide (c.key <= r.1) = true := by simpa using hk
      rw [this, Bool.or_true] at hp;cases hp
     exact of_not_le hk
   ·rw [Iw hr]; exact hs
  rw [iB];by_cases hk : put = false /\ c.key <= r.1
  ·rw [IA hk]
   refine LV.2 ⟨λ x hx => ?_, back⟩;have hd : (put || decide (c.key <= r.1)) = true := by rw [hk.1]; simpa using hk.2
   rcases JY.1 (show x ∈ (if r.1 ≠ c.key then [r] else []) ++ iB c (put || decide (c.key <= r.1)) l from hx) with hx | hx
   ·by_cases hr : r.1 ≠ c.key
    ·rw [IA hr] at hx
     have : x = r := by simpa using hx
     subst this;exact ⟨hk.2, λ e => hr e.symm⟩
    ·rw [Iw hr] at hx; cases hx
   ·rw [hd] at hx
    rcases (Gq c x l _).1 hx with ⟨hx, hn⟩ | ⟨hp, _⟩
    ·exact ⟨LJ hk.2 (h1 x hx).1, λ e => hn e.symm⟩
    ·cases hp
  ·rw [Iw hk]; exact back
theorem z4y {l l' : bB} (h : oG l) (h' : oG l') (hm : ∀ x, x ∈ l ↔ x ∈ l') : l = l' := by
 have nd : ∀ {l : bB}, oG l -> l.Nodup := λ h => h.imp (λ hab e => hab.2 (by rw [e]));refine List.Perm.eq_of_pairwise (le := λ a b : Bytes × Bytes => a.1 <= b.1 /\ a.1 ≠ b.1) (λ a b _ _ h1 h2 => absurd (KU h1.1 h2.1) h1.2) h h' ?_;exact (List.perm_ext_iff_of_nodup (nd h) (nd h')).2 hm
theorem Au {D : Rows} (h : bI D) (k : Bytes) : k ∈ cO D ↔ has D (.string k) = true := by
 obtain ⟨es, rfl, h⟩ := h;rw [show k ∈ cO (.map es) ↔ k ∈ strKeys (.map es) from (LF _ _).mem_iff, has_eq, KL];show k ∈ es.map (λ p => strOf p.1) ↔ _;rw [Jl];constructor
 ·rintro ⟨p, hp, rfl⟩
  obtain ⟨k', v, rfl, _⟩ := h p hp;exact ⟨_, hp, by simp [strOf, Lit.sameKey]⟩
 ·rintro ⟨p, hp, hk⟩
  obtain ⟨k', v, rfl, _⟩ := h p hp;refine ⟨_, hp, ?_⟩;by_cases e : (Lit.string k') = .string k
  ·cases e; rfl
  ·rw [sameKey_ne e] at hk; cases hk
theorem yC {D : Rows} (h : bI D) (x : Bytes × Bytes) : x ∈ tell D ↔ has D (.string x.1) = true /\ x.2 = valueOf D x.1 := by
 unfold tell;rw [Jl];constructor
 ·rintro ⟨k, hk, rfl⟩
  exact ⟨(Au h k).1 hk, rfl⟩
 ·rintro ⟨h1, h2⟩
  exact ⟨x.1, (Au h x.1).2 h1, by rw [<-h2]⟩
theorem xM {D : Rows} (h : bI D) (ht : Tidy D) : oG (tell D) := by
 obtain ⟨es, rfl, h⟩ := h;obtain ⟨es', e, hp⟩ := ht;cases e;have tr : ∀ a b c : Bytes, leB a b = true -> leB b c = true -> leB a c = true := λ a b c h1 h2 => by simp only [leB, JX] at *; exact LJ h1 h2
 have tot : ∀ a b : Bytes, (leB a b || leB b a) = true := λ a b => by simp only [leB, Lr, JX]; exact LH a b
 have s1 := List.pairwise_mergeSort tr tot (strKeys (.map es));have nd : (strKeys (.map es)).Nodup := by
  show (es.map λ p => strOf p.1).Nodup;refine List.pairwise_map.2 (hp.imp_of_mem λ {p q} hp' hq' hne e => hne ?_);obtain ⟨a, _, rfl, _⟩ := h p hp';obtain ⟨b, _, rfl, _⟩ := h q hq';exact IG Lit.string e
 have nd2 : (cO (.map es)).Nodup := (LF _ _).nodup_iff.2 nd;unfold oG tell;rw [List.pairwise_map];have := s1.and nd2;exact this.imp (λ hab => ⟨by simpa [leB] using hab.1, hab.2⟩)
theorem z3l {D : Rows} (h : Tidy D) (c : ay) : Tidy (one D c) := by
 unfold one;split
 ·exact h.del _
 ·exact h.put (show WideAt.IsKeyLit (.string c.key) from trivial) _
theorem z3i {D : Rows} (h : bI D) (ht : Tidy D) {c : ay} (h1 : c.wrong = false) (h2 : c.long = false) : tell (one D c) = gX (tell D) c := by
 have hm : IsMap D := ht.isMap;refine z4y (xM (vF h h1 h2) (z3l ht c)) (y6z c _ _ (xM h ht)) (λ x => ?_);obtain ⟨k, v⟩ := x;rw [yC (vF h h1 h2)];unfold gX;rw [Gq, yC h];unfold one;by_cases hg : c.gone = true
 ·rw [IA hg, hg]
  by_cases hk : k = c.key
  ·subst hk
   simp [has_del_same]
  ·have hk' : (Lit.string k) ≠ .string c.key := λ e => hk (by cases e; rfl)
   have e1 : valueOf (D.del (.string c.key)) k = valueOf D k := by unfold valueOf; rw [atKey_del_other hk']
   simp only [has_del_other hk', e1];simp [hk]
 ·have hg : c.gone = false := by simpa using hg
  rw [Iw (by rw [hg]; decide), hg];by_cases hk : k = c.key
  ·subst hk
   have e1 : valueOf (D.put (.string c.key) (.lit (.string c.value))) c.key = c.value := by unfold valueOf; rw [atKey_put_same hm (show WideAt.IsKeyLit (.string c.key) from trivial)]
   simp only [has_put_same hm (show WideAt.IsKeyLit (.string c.key) from trivial), e1];simp
  ·have hk' : (Lit.string k) ≠ .string c.key := λ e => hk (by cases e; rfl)
   have e1 : valueOf (D.put (.string c.key) (.lit (.string c.value))) k = valueOf D k := by unfold valueOf; rw [atKey_put_other hk']
   simp only [has_put_other hk', e1];simp [hk]
theorem xO {l : List ay} (h1 : ∀ c ∈ l, c.wrong = false /\ c.long = false) : ∀ {D : Rows}, bI D -> Tidy D -> tell (behind D l) = l.foldl gX (tell D) /\ Tidy (behind D l) := by
 induction l with
 | nil => exact λ _ ht => ⟨rfl, ht⟩
 | cons c l ih =>
  intro D h ht;have hc := h1 c (Jp ..);have := ih (λ x hx => h1 x (JB _ hx)) (vF h hc.1 hc.2) (z3l ht c);rw [LU, <-z3i h ht hc.1 hc.2];exact this
theorem oW (D : Rows) : (tell D).length = size D := by unfold tell; rw [Le, su]
def og (rows : bB) (l : List ay) : bB × Int := if right l ≠ 0 then (rows, right l) else if 256 < (l.foldl gX rows).length then (rows, 3) else (l.foldl gX rows, 0)
theorem Bn {D : Rows} (h : bI D) (ht : Tidy D) (l : List ay) : og (tell D) l = if aW D l = 0 then (tell (behind D l), 0) else (tell D, aW D l) := by
 unfold og aW;by_cases hr : right l ≠ 0
 ·rw [IA hr, IA hr, Iw hr]
 ·rw [Iw hr, Iw hr]
  have hr : right l = 0 := GR;obtain ⟨e1, _⟩ := xO (pE hr).2 h ht;rw [<-e1, oW];by_cases kL : 256 < size (behind D l)
  ·rw [IA kL, IA kL]; rfl
  ·rw [Iw kL, Iw kL]; rfl
theorem y9w (c : ay) : ∀ (l : bB) (put : Bool), (iB c put l).length <= l.length + (if put = true then 0 else 1) := by
 intro l;induction l with
 | nil => intro put; cases put <;> simp [iB]
 | cons r l ih =>
  intro put;rw [iB, IL, IL];have h := ih (put || decide (c.key <= r.1));have h1 : (if r.1 ≠ c.key then [r] else ([] : bB)).length <= 1 := by split <;> simp
  generalize (if r.1 ≠ c.key then [r] else ([] : bB)) = M at h1 ⊢;cases put
  ·by_cases hk : c.key <= r.1
   ·have hd : (false || decide (c.key <= r.1)) = true := by simpa using hk
    rw [hd] at h ⊢;rw [IA ⟨rfl, hk⟩];simp only [I1, I6, Jy] at h ⊢;simp;omega
   ·have hd : (false || decide (c.key <= r.1)) = false := by simpa using hk
    rw [hd] at h ⊢;rw [Iw (λ q => hk q.2)];simp only [I6, Jy] at h ⊢;simp at h ⊢;omega
  ·rw [Bool.true_or] at h ⊢
   rw [Iw GV];simp only [I1, I6, Jy] at h ⊢;omega
theorem x0x (l : bB) (c : ay) : (gX l c).length <= l.length + 1 := by
 have := y9w c l c.gone;unfold gX;split at this <;> omega
theorem y9u (l : List ay) : ∀ R : bB, (l.foldl gX R).length <= R.length + l.length := by
 induction l with
 | nil => intro R; simp
 | cons c l ih =>
  intro R;have h1 := ih (gX R c);have h2 := x0x R c;rw [LU, I6];omega
theorem qZ (d : Dm.D) : d.goes.1.waits = d.waits := by
 unfold Dm.D.goes;split
 ·rfl
 ·exact Rv
theorem y0i (d : Dm.D) (s : Dm.Step) : (d.step s).1.waits.length <= d.waits.length + 1 := by
 unfold Dm.D.step;exact RJ
theorem qc (d : Dm.D) (t : Int) (b : Bytes) : (d.append t b).1.waits.length <= d.waits.length + 1 := by
 unfold Dm.D.append;split
 ·exact Rk
 ·split
  ·exact Rk
  ·exact y0i _ _
theorem wF (d : Dm.D) (t n : Int) : (d.cut t n).1.waits.length <= d.waits.length + 1 := by
 unfold Dm.D.cut;split
 ·exact Rk
 ·exact y0i _ _
theorem z1r (d : Dm.D) : d.sync.1.waits.length <= d.waits.length := by
 unfold Dm.D.sync;exact RJ
theorem Ec (d : Dm.D) (t : Nat) (b : Bytes) : (wrote d t b).1.waits.length <= d.waits.length + 1 := by
 have h := qc d t b;unfold wrote next;split
 ·have := z1r (d.append t b).1; omega
 ·exact h
theorem CV (d : Dm.D) (t : Nat) : (b_ d t).1.waits.length <= d.waits.length + 1 := by
 unfold b_;split
 ·exact Rk
 ·exact wF _ _ _
theorem A_ (d : Dm.D) (t : Nat) (b : Bytes) : (bK d t b).1.waits.length <= d.waits.length + 2 := by
 have h := CV d t;have h2 : (next (b_ d t) λ d => d.append t b).1.waits.length <= d.waits.length + 2 := by
  unfold next;split
  ·have h3 := qc (b_ d t).1 t b
   show ((b_ d t).1.append t b).1.waits.length <= _;omega
  ·omega
 unfold bK;generalize (next (b_ d t) λ d => d.append t b) = r at h2 ⊢;unfold next;split
 ·have := z1r r.1; omega
 ·exact h2
theorem Bo (e : E) (D : Rows) (b : Bytes) : (e.put D b).1.d.waits.length <= e.d.waits.length + 1 := by
 unfold E.put;split
 ·show e.d.waits.length <= _; omega
 ·exact Ec _ _ _
theorem z0a (e : E) (D : Rows) : (e.fold D).1.d.waits.length <= e.d.waits.length + 2 := by
 by_cases q : 2147483647 <= e.gen
 ·rw [ww q]; show e.d.waits.length <= _; omega
 ·rw [wu q]
  have := A_ e.d (1 - e.tp) (folded (e.gen + 1) D);by_cases r : (bK e.d (1 - e.tp) (folded (e.gen + 1) D)).2 = 0
  ·rw [IA r]; exact this
  ·rw [Iw r]; exact this
theorem Ap (e : E) (D : Rows) (b : Bytes) : (e.step D b).1.d.waits.length <= e.d.waits.length + 3 := by
 have h := Bo e D b;unfold E.step;split
 ·have := z0a (e.put D b).1 D; omega
 ·omega
theorem z1j (e : E) (l : List ay) : (e.bE l).1.d.waits.length <= e.d.waits.length + 3 := by
 unfold E.bE;split
 ·show e.d.waits.length <= _; omega
 ·split
  ·show e.d.waits.length <= _; omega
  ·exact Ap _ _ _
theorem FY (e : E) (D : Rows) (b : Bytes) : (e.put D b).1.rows = if (e.put D b).2 = 0 then D else e.rows := by
 by_cases q : 32 <= e.aL \/ b.length = 0 \/ e.d.room / 2 < e.fin + b.length
 ·rw [Bq q]; rfl
 ·rw [sM q]
theorem x5q (e : E) (D : Rows) : (e.fold D).1.rows = if (e.fold D).2 = 0 then D else e.rows := by
 by_cases q : 2147483647 <= e.gen
 ·rw [ww q]; rfl
 ·rw [wu q]
  by_cases r : (bK e.d (1 - e.tp) (folded (e.gen + 1) D)).2 = 0
  ·rw [IA r]; simp only [r, I1]
  ·rw [Iw r]; simp only [Iw r]
theorem y6t (e : E) (D : Rows) (b : Bytes) : (e.step D b).1.rows = if (e.step D b).2 = 0 then D else e.rows := by
 unfold E.step;by_cases q : (e.put D b).2 = 280
 ·rw [IA q, x5q]
  have := FY e D b;rw [Iw GR] at this;rw [this]
 ·rw [Iw q]; exact FY e D b
theorem x7d (e : E) (l : List ay) : (e.bE l).1.rows = (if (e.bE l).2 = 0 then behind e.rows l else e.rows) /\ ((e.bE l).2 = 0 -> aW e.rows l = 0) := by
 by_cases q : aW e.rows l ≠ 0
 ·have : e.bE l = (e, aW e.rows l) := IA q
  rw [this];exact ⟨by rw [Iw q], λ h => h⟩
 ·have q' : aW e.rows l = 0 := GR
  by_cases r : e.gone = true
  ·have : e.bE l = (e, 290) := by unfold E.bE; rw [Iw q, IA r]
   rw [this];exact ⟨by rw [Iw GV], λ _ => q'⟩
  ·have : e.bE l = ({ (e.step (behind e.rows l) (aY l)).1 with gone := decide ((e.step (behind e.rows l) (aY l)).2 = 281) }, (e.step (behind e.rows l) (aY l)).2) := by unfold E.bE; rw [Iw q, Iw r]
   rw [this];exact ⟨y6t _ _ _, λ _ => q'⟩
theorem xN : tell (.map []) = [] := by simp [tell, cO, strKeys]
structure iy where
 what : Int
 l : List ay
 n : Int
 aT : Dm.bH
def ay.tiny (c : ay) : Bool := decide (c.key.length <= 70) && decide (c.value.length <= 200)
def iy.small (x : iy) : Bool := decide (x.l.length <= 70) && decide (x.aT.keep.length <= 40) && x.l.all ay.tiny
def tY (l : List iy) (most : Int) : Bool := l.all iy.small && decide ((l.length : Int) <= most)
theorem iy.z4g {x : iy} (h : x.small = true) : x.l.length <= 70 /\ x.aT.keep.length <= 40 /\ ∀ c ∈ x.l, c.key.length <= 70 /\ c.value.length <= 200 := by
 simp only [iy.small, Jh, JX, JJ, ay.tiny] at h;exact ⟨h.1.1, h.1.2, h.2⟩
theorem y0p {l : List iy} {most : Int} (h : tY l most = true) : (∀ x ∈ l, x.small = true) /\ (l.length : Int) <= most := by
 simpa [tY, JJ] using h
def kE (b : Bytes) : Option (ay × Bytes) :=
 match Wm.iJ b with
 | none => none
 | some (g, r) =>
  match Wm.dh 64 r with
  | none => none
  | some (k, r') =>
   if g = true then some (⟨k, [], true⟩, r')
   else match Wm.dh 4096 r' with
    | none => none
    | some (v, r'') => some (⟨k, v, false⟩, r'')
def eZ : Nat -> Bytes -> Option (List ay × Bytes)
 | 0, b => some ([], b)
 | n + 1, b =>
  match kE b with
  | none => none
  | some (c, r) => (eZ n r).map λ p => (c :: p.1, p.2)
def iK (b : Bytes) : Option (List ay) :=
 match Wm.bF 3 b with
 | none => none
 | some (k, r) =>
  if k ≠ 3 then none
  else match Wm.bF 64 r with
   | none => none
   | some (n, r) =>
    match eZ n r with
    | none => none
    | some (l, r) => if r = [] then some l else none
def jk (last b : Bytes) : Option (Bytes × Bytes) :=
 match Wm.bF 3 b with
 | none => none
 | some (k, r) =>
  if k ≠ 2 then none
  else match Wm.dh 64 r with
   | none => none
   | some (key, r) =>
    match Wm.dh 4096 r with
    | none => none
    | some (v, r) => if r = [] /\ ¬ key <= last then some (key, v) else none
def dP (l : Bytes) : Nat -> Nat -> Bytes -> Rows -> Option (Rows × Nat)
 | 0, fin, _, D => some (D, fin)
 | n + 1, fin, last, D =>
  match Wm.split (l.drop fin) with
  | none => none
  | some (body, m) =>
   match jk last body with
   | none => none
   | some (k, v) => dP l n (fin + m) k (D.put (.string k) (.lit (.string v)))
def fM (b : Bytes) : Option (Nat × Nat) :=
 match Wm.bF 3 b with
 | none => none
 | some (k, r) =>
  if k ≠ 1 then none
  else match Wm.bF 2147483647 r with
   | none => none
   | some (g, r) =>
    match Wm.bF 256 r with
    | none => none
    | some (n, r) => if r = [] /\ 0 < g then some (g, n) else none
def fe (l : Bytes) : Option (Nat × Rows × Nat) :=
 match Wm.split l with
 | none => none
 | some (body, m) =>
  match fM body with
  | none => none
  | some (g, n) => (dP l n m [] (.map [])).map λ p => (g, p.1, p.2)
def eF (l : Bytes) (fin : Nat) (D : Rows) : Option (Rows × Nat) :=
 match Wm.split (l.drop fin) with
 | none => none
 | some (body, m) =>
  match iK body with
  | none => none
  | some c => if aW D c = 0 then some (behind D c, fin + m) else none
def dM (l : Bytes) : Nat -> Nat -> Rows -> Nat -> Rows × Nat × Nat
 | 0, fin, D, n => (D, n, fin)
 | f + 1, fin, D, n =>
  match eF l fin D with
  | none => (D, n, fin)
  | some (D', fin') => dM l f fin' D' (n + 1)
end Em
theorem ui : ∀ (x y : List UInt8), Op.bytesLess x y = decide (x < y)
 | [], [] => by simp [Op.bytesLess]
 | _ :: _, [] => by simp [Op.bytesLess]
 | [], _ :: _ => by simp [Op.bytesLess]
 | a :: x, b :: y => by
  rw [Op.bytesLess, ui x y];simp only [List.cons_lt_cons_iff];by_cases h1 : a < b <;> by_cases h2 : a = b <;> by_cases h3 : x < y <;> simp [h1, h2, h3]
theorem z4u (a b : List UInt8) : (!(Op.bytesLess a b)) = decide (b <= a) := by
 rw [ui];by_cases h : b <= a
 ·have : ¬ a < b := List.not_lt.2 h
  simp [h, this]
 ·have : a < b := List.not_le.1 h
  simp [h, this]
namespace Wm
open Cm
theorem x4x (l : Bytes) : ∀ a : Nat, l.foldl (λ n c => 256 * n + c.toNat) a = a * 256 ^ l.length + iM l := by
 induction l with
 | nil => intro a; simp [iM]
 | cons c l ih =>
  intro a;unfold iM;rw [LU, LU, ih, ih (256 * 0 + c.toNat), I6, KO, Nat.add_mul, Nat.mul_comm 256 a, Nat.mul_assoc, Nat.mul_comm 256 (256 ^ l.length), Nat.mul_zero, I8];omega
theorem x4w (c : UInt8) (l : Bytes) : iM (c :: l) = c.toNat * 256 ^ l.length + iM l := by
 have := x4x l (256 * 0 + c.toNat);show List.foldl _ (256 * 0 + c.toNat) l = _;rw [this, Nat.mul_zero, I8]
theorem kX (n k : Nat) : (high n k).length = k := by simp [high]
theorem x4s (n k : Nat) : high n (k + 1) = UInt8.ofNat (n / 256 ^ k % 256) :: high n k := by
 unfold high;rw [List.range_succ_eq_map, Jj, List.map_map];refine List.cons_eq_cons.2 ⟨GV, List.map_congr_left λ i _ => ?_⟩;show UInt8.ofNat (n / 256 ^ (k + 1 - 1 - (i + 1)) % 256) = _;rw [show k + 1 - 1 - (i + 1) = k - 1 - i by omega]
theorem z1f (n : Nat) (h : n < 256) : (UInt8.ofNat n).toNat = n := by
 rw [Ll];omega
theorem z9t (n : Nat) : ∀ k : Nat, iM (high n k) = n % 256 ^ k
 | 0 => by simp [high, iM, Nat.mod_one]
 | k + 1 => by
  rw [x4s, x4w, kX, z9t n k, z1f _ (Kt _ GU), KO, Nat.mod_mul];rw [Nat.mul_comm];omega
theorem z1w {c : UInt8} {k : Nat} (hm : many c = k) (hk : k ≠ 0) (hn : n < 256 ^ k) (ht : n <= kz) (hl : (aG n).length = 1 + k) (rest : Bytes) : first (c :: high n k ++ rest) = (n, 1 + (k : Int)) := by
 show first (c :: (high n k ++ rest)) = _;unfold first;simp only [hm];rw [Iw hk, Iw (by rw [IL, kX]; omega), Kw (by rw [kX]; omega), Je (by rw [kX]; omega), z9t, KM hn];rw [Iw (λ h => h.elim (λ h => GR) (λ h => h hl))]
theorem z3s (h : n < 253) : aG n = [UInt8.ofNat n] := IA h
theorem z3t (h : 253 <= n) (h' : n < 65536) : aG n = 253 :: high n 2 := by unfold aG; rw [Iw GR, IA h']
theorem z3u (h : 65536 <= n) (h' : n < 4294967296) : aG n = 254 :: high n 4 := by unfold aG; rw [Iw GR, Iw GR, IA h']
theorem z3v (h : 4294967296 <= n) : aG n = 255 :: high n 8 := by unfold aG; rw [Iw GR, Iw GR, Iw GR]
theorem x2j (h : n < 253) : many (UInt8.ofNat n) = 0 := by
 have ht : (UInt8.ofNat n).toNat = n := z1f n GR;have h1 : UInt8.ofNat n ≠ 253 := λ e => by rw [e] at ht; have : (253 : UInt8).toNat = 253 := rfl; omega
 have h2 : UInt8.ofNat n ≠ 254 := λ e => by rw [e] at ht; have : (254 : UInt8).toNat = 254 := rfl; omega
 have h3 : UInt8.ofNat n ≠ 255 := λ e => by rw [e] at ht; have : (255 : UInt8).toNat = 255 := rfl; omega
 unfold many;rw [Iw h1, Iw h2, Iw h3]
theorem z1y (h : n <= kz) (rest : Bytes) : first (aG n ++ rest) = (n, ((aG n).length : Int)) := by
 have ht : kz = 4611686018427387904 := rfl;by_cases h1 : n < 253
 ·rw [z3s h1]
  show first (UInt8.ofNat n :: rest) = _;unfold first;simp only [x2j h1, I1];rw [z1f n GR];rfl
 ·by_cases h2 : n < 65536
  ·have e := z3t GR h2
   have hl : (aG n).length = 1 + 2 := by rw [e, I6, kX]
   rw [hl, e, z1w (k := 2) GU GU GR h hl];rfl
  ·by_cases h4 : n < 4294967296
   ·have e := z3u GR h4
    have hl : (aG n).length = 1 + 4 := by rw [e, I6, kX]
    rw [hl, e, z1w (k := 4) GU GU GR h hl];rfl
   ·have e := z3v (n := n) GR
    have hl : (aG n).length = 1 + 8 := by rw [e, I6, kX]
    rw [hl, e, z1w (k := 8) GU GU GR h hl];rfl
theorem z1x {c : UInt8} {l : Bytes} (hm : many c ≠ 0) (h : l.length < many c) : first (c :: l) = (0, 0) := by
 unfold first;simp only;rw [Iw hm, IA h]
theorem x5j (n : Nat) {k : Nat} (h : k < (aG n).length) : first ((aG n).take k) = (0, 0) := by
 cases k with
 | zero => rfl
 | succ k =>
  by_cases h1 : n < 253
  ·rw [z3s h1] at h; simp at h
  ·by_cases h2 : n < 65536
   ·rw [z3t GR h2] at h ⊢
    rw [I6, kX] at h;rw [Jt];exact z1x GU (by rw [I4, kX]; have : many 253 = 2 := GU; omega)
   ·by_cases h4 : n < 4294967296
    ·rw [z3u GR h4] at h ⊢
     rw [I6, kX] at h;rw [Jt];exact z1x GU (by rw [I4, kX]; have : many 254 = 4 := GU; omega)
    ·rw [z3v (n := n) GR] at h ⊢
     rw [I6, kX] at h;rw [Jt];exact z1x GU (by rw [I4, kX]; have : many 255 = 8 := GU; omega)
theorem z3w (n : Nat) : 0 < (aG n).length := by
 unfold aG;split
 ·simp
 ·split
  ·simp
  ·split <;> simp
theorem sI {most : Nat} (h : n <= most) (ht : most <= kz) (rest : Bytes) : bF most (aG n ++ rest) = some (n, rest) := by
 have hp := z3w n;unfold bF;rw [z1y GR];simp only;rw [Iw GR];simp
theorem AB {most : Nat} {s : Bytes} (h : s.length <= most) (ht : most <= kz) (rest : Bytes) : dh most (cB s ++ rest) = some (s, rest) := by
 unfold dh cB;rw [IZ, sI h ht];simp only;rw [Iw (by rw [IL]; omega)];simp
theorem y7g (b : Bool) (rest : Bytes) : iJ (je b ++ rest) = some (b, rest) := by
 cases b <;> rfl
theorem Ay (b : Bytes) : (dw b).length = b.length + 4 := by
 unfold dw;rw [IL, ol]
theorem x1t (b : Bytes) : opened (dw b) = some b := by
 have hl := Ay b;unfold opened;rw [Iw GR];have e : (dw b).take ((dw b).length - 4) = b := by
  rw [hl, show b.length + 4 - 4 = b.length by omega];unfold dw;simp
 rw [e, IA rfl]
theorem z0d (b : Bytes) : (frame b).length = (aG (b.length + 4)).length + (b.length + 4) := by
 unfold frame;rw [IL, Ay]
theorem xY {b : Bytes} (h : b.length <= 8192) (rest : Bytes) : split (frame b ++ rest) = some (b, (frame b).length) := by
 have hl := Ay b;have ht : kz = 4611686018427387904 := rfl;have hp := z3w (dw b).length;rw [z0d];unfold split frame;rw [IZ, z1y GR];simp only;rw [Iw GR, Iw (by simp only [IL, hl]; omega)];have e : List.take (dw b).length (List.drop ((aG (dw b).length).length : Int).toNat (aG (dw b).length ++ (dw b ++ rest))) = dw b := GV;rw [e, x1t];simp only [hl];simp
theorem EW {b : Bytes} (h : b.length <= 8192) {k : Nat} (hk : k < (frame b).length) : split ((frame b).take k) = none := by
 have hl := Ay b;have ht : kz = 4611686018427387904 := rfl;have hf := z0d b;by_cases hw : k < (aG (dw b).length).length
 ·have e : (frame b).take k = (aG (dw b).length).take k := by
   unfold frame;rw [Kw GR]
  rw [e];unfold split;rw [x5j _ hw];simp
 ·have e : (frame b).take k = aG (dw b).length ++ (dw b).take (k - (aG (dw b).length).length) := by
   unfold frame;rw [List.take_append, Je GR]
  rw [e];unfold split;rw [z1y GR];simp only;rw [hl] at hw ⊢;split
  ·rfl
  ·rw [IA ?_]
   rw [IL, I4, hl];omega
theorem z4m : split [] = none := rfl
theorem x5s (b : Bytes) : 0 < (frame b).length := Hf (z0d b)
end Wm
namespace Em
open Cm
theorem z9p {D : Rows} (h : bI D) {k : Bytes} (hk : has D (.string k) = true) : k ≠ [] /\ k.length <= 64 := by
 have hm := (Au h k).2 hk;obtain ⟨es, rfl, h⟩ := h;have hm : k ∈ strKeys (.map es) := (LF _ _).mem_iff.1 hm;have hm : k ∈ es.map (λ p => strOf p.1) := hm;obtain ⟨p, hp, rfl⟩ := Jl.1 hm;obtain ⟨k', v, rfl, a, b, _⟩ := h p hp;exact ⟨a, b⟩
theorem z3h {D : Rows} (h : bI D) {x : Bytes × Bytes} (hx : x ∈ tell D) : has D (.string x.1) = true /\ valueOf D x.1 = x.2 /\ x.1.length <= 64 := by
 obtain ⟨h1, h2⟩ := (yC h x).1 hx;exact ⟨h1, h2.symm, (z9p h h1).2⟩
theorem x4j {D : Rows} (h : bI D) : has D (.string []) = false := by
 cases q : has D (.string [])
 ·rfl
 ·exact absurd rfl (z9p h q).1
def Alike (A B : bB) (k : Nat) : Prop := A.take k = B.take k /\ k <= B.length
theorem w0k (A B : bB) : Alike A B 0 := ⟨rfl, IV _⟩
theorem w0i {A B : bB} {k : Nat} {x : Bytes × Bytes} (h : Alike A B k) (ha : A[k]? = some x) (hb : B[k]? = some x) : Alike A B (k + 1) := by
 refine ⟨?_, (IY.1 hb).1⟩;rw [JC, JC, ha, hb, h.1]
theorem w0j {A B : bB} {k : Nat} {x : Bytes × Bytes} (ha : A[k]? = some x) (hb : B.length <= k) : A ≠ B := by
 rintro rfl;have := (IY.1 ha).1;omega
theorem y2z {A B : bB} {k : Nat} {x y : Bytes × Bytes} (ha : A[k]? = some x) (hb : B[k]? = some y) (hne : x ≠ y) : A ≠ B := by
 rintro rfl;rw [ha] at hb;exact hne (IM hb)
theorem w0h {A B : bB} (h : Alike A B A.length) : decide (A = B) = decide (A.length = B.length) := by
 by_cases q : A.length = B.length
 ·have e : A = B := by
   have := h.1;rwa [List.take_length, q, List.take_length] at this
  rw [Km e, Km q]
 ·have e : A ≠ B := λ e => q (by rw [e])
  rw [JV e, JV q]
end Em
end Go.Proofs.YtgffifleflkjoaaGreat
