/-
  Parts of a proof.
-/
import Derived.Test.YtgffifleflkjoaaGreatFin07
import Derived.Laws.BitsAllLaws
import Derived.Deep.LoopGhost
import Derived.Laws.Rows
import Derived.Laws.IdiomStrings
import Derived.Laws.BytesArg
import Derived.Maps.Ext
import Derived.Sort.KeysCollected
import Derived.ChangeMaps
set_option linter.unusedSimpArgs false
set_option linter.unusedVariables false
set_option maxRecDepth 100000
set_option maxHeartbeats 16000000
namespace Go.Proofs.YtgffifleflkjoaaGreat
open _root_.Go.Proofs.Tryz
variable {w W w' w0 wr w1 W0 W1 W2 A B : World} {F G F' O : Nat → Prop} {v : Value} {l : List UInt8} {n q m pd md pl g p : Nat} {C : Array Value} {c : Int}
open Go.RowKit
abbrev w32 (n : Nat) : Value := .int .u32 n
theorem y6o (n : Nat) (h : n < 4294967296) : bits .xor .u32 ((n : Int) / 2) (IntKind.u32.wrap (bits .and .u32 (n : Int) 1 * 2197175160)) = ((Cm.step n : Nat) : Int) := by
 have e1 : bits .and .u32 (n : Int) 1 = ((n % 2 : Nat) : Int) := by
  rw [show (1 : Int) = ((1 : Nat) : Int) from rfl, u32_and_nat n 1 h GU, nat_mask1]
 have e2 : IntKind.u32.wrap (((n % 2 : Nat) : Int) * 2197175160) = (((if n % 2 = 1 then Cm.poly else 0) : Nat) : Int) := by
  rw [IntKind.wrap_u32'];rcases KN n with h | h
  ·simp [h]
  ·simp [h, Cm.poly]
 rw [e1, e2, show (n : Int) / 2 = ((n / 2 : Nat) : Int) by omega, K4 (n / 2) _ GR (by split <;> decide)];rfl
theorem x7x (g o n : Nat) (c : Array Value) (t : TypeId) (w : World) (hg : w.heap[g]? = some (.cells c t)) (ho : c[o]? = some (w32 n)) (hn : n < 4294967296) :
 Calls prog 219 #[(g, o)] w λ e w' => e = .returned (.tuple #[]) /\ (w.setCell (g, o) (w32 (Cm.step n))).drew = w' := by
 have k : w.cell? (g, o) = some (.int .u32 n) := (IJ _ _ _ _ _ _ hg).trans ho;have z : w.frozen? ⟨g, o, none⟩ = false := by simp [World.frozen?, hg]
 have h0 : (0 : Int) <= (n : Int) := GR;have h1 : (n : Int) < 4294967296 := GR;go_in;go_wp2;refine qB 15 GQ GQ ?_;simp only [Jt, JN, JO, JP];repeat still_step
 refine Kg ?_;refine IE rfl λ K hK => ?_;go_simp;refine hK _ _ ?_;simp only [wpList];rw [y6o n hn];exact Rc
theorem infoRun : (prog.info? 291).map (·.size) = some 257 := GQ
theorem EO : ∀ (k n : Nat), Cm.steps (k + 1) n = Cm.step (Cm.steps k n)
 | 0, _ => rfl
 | k + 1, n => by rw [Cm.steps, EO k]; rfl
theorem EX {o : Nat} {c : Array Value} {t : TypeId} (v : Value) (h : w.heap[g]? = some (.cells c t)) :
 (w.setCell (g, o) v).drew.heap[g]? = some (.cells (c.setIfInBounds o v) t (0, 0)) /\ Moves (λ k => k = g) w (w.setCell (g, o) v).drew :=
 ⟨IQ w g o c t v h, rfl, rfl, rfl, GV, λ k _ hn => IU w _ k v hn⟩
abbrev mP : Nat := 291
theorem x7y (i : Nat) (w : World) (hi : i < 256) :
 Calls prog 218 #[.int .i64 i] w λ e w' => e = .returned (w32 (Cm.tab i)) /\ Below w w w' := by
 have h0 : (0 : Int) <= (i : Int) := GR;have h1 : (i : Int) < 256 := GR;have ones : (Tryz.zeroCells291.setIfInBounds 0 (.int .u32 (i : Int))).all (·.oneCell') = true := GQ;have size : (Tryz.zeroCells291.setIfInBounds 0 (.int .u32 (i : Int))).size = 257 := by rw [Lp]; kernel_rfl
 obtain ⟨C0, hC0⟩ := G5 (Tryz.zeroCells291.setIfInBounds 0 (.int .u32 (i : Int)));have HC := hd1 hC0;have c00 : C0 = C0.setIfInBounds 0 (w32 (Cm.steps 0 i)) := by
  rw [<-hC0, Array.setIfInBounds_setIfInBounds]; rfl
 rw [hC0] at ones size;have H := hd3 ones size c00;clear ones size c00 hC0;go_in;go_wp2_with (refine aC rfl mP _ _ rfl w.heap.size C0 rfl (by rw [<-HC.out]; rfl) mP Tryz.zeroCells291 (IC w _) (by rw [infoRun, H.2.1]) (by rw [H.2.1]; kernel_rfl) H.1 ?_; intro W1 HW1 dH j_)
 have hb1 : Below w w W1 := Moves.new (bla) dH GZ;have H1 := hd2 hb1 HW1.out;clear hb1 HW1 dH j_;go_loopw [8] (λ s wr => ∃ k : Nat, k <= 8 /\ s = .int .i64 (k : Int) /\ wr.heap[w.heap.size]? = some (.cells (C0.setIfInBounds 0 (w32 (Cm.steps k i))) mP (0, 0)) /\ Below w w wr) (λ s _ => 8 - (intOf s).toNat)
 case atStart => exact ⟨0, GR, rfl, by rw [<-H.2.2]; exact H1.2, H1.1⟩
 case round =>
  obtain ⟨k, hk, rfl, hrow, hb⟩ := hrel;have hlt32 : Cm.steps k i < 4294967296 := Cm.xV k GR;have hcell : (C0.setIfInBounds 0 (w32 (Cm.steps k i)))[0]? = some (w32 (Cm.steps k i)) := by
   rw [Array.getElem?_setIfInBounds_self_of_lt (by rw [H.2.1]; decide)]
  by_cases hlt : k < 8
  ·have ST := hd1 (x7x w.heap.size 0 _ _ _ wr hrow hcell hlt32)
   have H2 := hd2 hrow hb;clear hrow hb hcell;go_wp2_with (go_at_call 219; refine ST.mono ?_; rintro e w' ⟨rfl, rfl⟩)
   go_roundw
   case rel =>
    obtain ⟨r1, m1⟩ := EX (o := 0) (w32 (Cm.step (Cm.steps k i))) H2.1;refine ⟨k + 1, GR, by go_num, ?_, Moves.new H2.2 m1 GZ⟩;rw [r1, Array.setIfInBounds_setIfInBounds, EO]
   case measure => simp [intOf]; omega
  ·obtain rfl : k = 8 := GR
   have kc : wr.cell? w.heap.size = some (.int .u32 (Cm.steps 8 i : Nat)) := (IJ _ _ _ _ _ _ hrow).trans hcell;have HB := hd1 hb;clear hrow hb hcell;go_wp2;go_ret;exact ⟨rfl, HB.out⟩
abbrev mO : Nat := 288
theorem z0y : (prog.info? mO).map (·.size) = some 256 := GQ
def gV (k : Nat) : Array Value := ((List.range 256).map λ j => if j < k then w32 (Cm.tab j) else w32 0).toArray
theorem EF (k : Nat) : (gV k).size = 256 := by simp [gV]
theorem z3d : gV 0 = Tryz.zeroCells288 := GQ
theorem y5f (k : Nat) (h : k < 256) : (gV k).setIfInBounds k (w32 (Cm.tab k)) = gV (k + 1) := by
 apply Md
 intro j;rw [K5];by_cases hj : k = j
 ·subst hj
  simp [gV, h]
 ·rw [Iw hj]
  by_cases hl : j < 256
  ·simp only [gV, List.getElem?_toArray, Kq, Lm hl, Ku]
   congr 1
   by_cases h1 : j < k
   ·rw [IA h1, IA GR]
   ·rw [Iw h1, Iw GR]
  ·rw [Array.getElem?_eq_none (by rw [EF]; omega), Array.getElem?_eq_none (by rw [EF]; omega)]
theorem y5d (k : Nat) (h : k < 256) : (gV k)[k]? = some (w32 0) := by
 simp only [gV, List.getElem?_toArray, Kq, Lm h, Ku];rw [Iw GR]
theorem y5e (k : Nat) : (gV k).all (·.oneCell') = true := by
 rw [JD];intro x hx;simp only [gV, List.mem_toArray, Jl] at hx;obtain ⟨j, _, rfl⟩ := hx;split <;> rfl
theorem x7z (w : World) : Calls prog 213 #[] w λ e w' => e = .returned (.agg (gV 256)) /\ Below w w w' := by
 have hb0 : Below w w (w.alloc (.cells (gV 0) mO)) := bla;have r0 : (w.alloc (.cells (gV 0) mO)).heap[w.heap.size]? = some (.cells (gV 0) mO (0, 0)) := IC w _;rw [z3d] at hb0 r0;obtain ⟨W0, hW0⟩ := G5 (w.alloc (.cells Tryz.zeroCells288 288));rw [hW0] at hb0 r0;rw [<-z3d] at r0;have H0 := hd2 hb0 r0;clear hb0 r0;go_in;go_upto_region 1 with fail
 clear hW0;go_wp2;go_loopw [2, 3] (λ _ s wr => ∃ k : Nat, k <= 256 /\ s = .int .i64 (k : Int) /\ wr.heap[w.heap.size]? = some (.cells (gV k) mO (0, 0)) /\ Below w w wr) (λ _ s _ => 256 - (intOf s).toNat)
 case atStart => exact ⟨0, GR, rfl, H0.2, H0.1⟩
 case round =>
  obtain ⟨k, hk, rfl, hrow, hb⟩ := hrel;by_cases hlt : k < 256
  ·have h0 : (0 : Int) <= (k : Int) := GR
   have h1 : (k : Int) < 256 := GR;have CT := hd1 (x7y k wr hlt);have HR := hd2 hrow hb;clear hrow hb;go_wp2_with fail
   refine CT.mono ?_;rintro e w2 ⟨rfl, hb2⟩;have hr2 := (hb2.block _ (aa HR.1)).trans HR.1;have kc : w2.cell? (w.heap.size, k) = some (w32 0) := (IJ _ _ _ _ _ _ hr2).trans (y5d k hlt);have zc : w2.frozen? ⟨w.heap.size, k, none⟩ = false := by simp [World.frozen?, hr2]
   have H2 := hd2 hb2 hr2;clear hb2 hr2;go_wp2;go_roundw
   case rel =>
    have m : Moves (λ j => j = w.heap.size) w2 (w2.setCell (w.heap.size, k) (w32 (Cm.tab k))) := ⟨rfl, rfl, rfl, GV, λ j _ hn => IU w2 _ j _ hn⟩;refine ⟨k + 1, GR, by go_num, ?_, Moves.new (HR.2.trans (H2.1.mono HR.2.size)) m GZ⟩;rw [<-y5f k hlt];exact IQ w2 w.heap.size k (gV k) mO (w32 (Cm.tab k)) H2.2
   case measure => simp [intOf]; omega
  ·obtain rfl : k = 256 := GR
   have HR := hd2 hrow hb;clear hrow hb
   go_wp2_with (first
    | (refine II rfl mO (.tmp 0) rfl w.heap.size rfl mO (gV 256) (0, 0) _ HR.1 underlying288 rfl z0y ?_)
    | (refine aC rfl mO _ _ rfl w.heap.size (gV 256) rfl rfl mO (gV 256) HR.1 (by rw [z0y, EF]) rfl (y5e _) ?_; intro W1 HW1 dH j_))
   refine IK (I7 rfl _ _ w.heap.size mO (gV 256) (0, 0) _ rfl HW1.out underlying288 rfl z0y) rfl ⟨rfl, Moves.new HR.2 dH GZ⟩
namespace Wm
open Cm
abbrev Bytes := List UInt8
def high (n : Nat) (k : Nat) : Bytes := (List.range k).map λ i => UInt8.ofNat (n / 256 ^ (k - 1 - i) % 256)
def aG (n : Nat) : Bytes :=
 if n < 253 then [UInt8.ofNat n] else if n < 65536 then 253 :: high n 2 else if n < 4294967296 then 254 :: high n 4 else 255 :: high n 8
def iM (b : Bytes) : Nat := b.foldl (λ n c => 256 * n + c.toNat) 0
def kz : Nat := 4611686018427387904
def many (c : UInt8) : Nat := if c = 253 then 2 else if c = 254 then 4 else if c = 255 then 8 else 0
def first (b : Bytes) : Nat × Int :=
 match b with
 | [] => (0, 0)
 | c :: r =>
  if many c = 0 then (c.toNat, 1)
  else if r.length < many c then (0, 0)
  else
   let n := iM (r.take (many c))
   if n > kz \/ (aG n).length ≠ 1 + many c then (0, -1) else (n, 1 + (many c : Int))
def cB (s : Bytes) : Bytes := aG s.length ++ s
def je (b : Bool) : Bytes := [if b then 1 else 0]
def frame (b : Bytes) : Bytes := aG (dw b).length ++ dw b
def opened (b : Bytes) : Option Bytes := if b.length < 4 then none else if dw (b.take (b.length - 4)) = b then some (b.take (b.length - 4)) else none
def split (b : Bytes) : Option (Bytes × Nat) :=
 let f := first b
 if f.2 <= 0 \/ f.1 < 4 \/ f.1 > 8196 then none
 else if (b.length : Int) - f.2 < f.1 then none
 else match opened ((b.drop f.2.toNat).take f.1) with
  | some body => some (body, f.2.toNat + f.1)
  | none => none
def pg (b : Bytes) : Int :=
 let f := first b
 if f.2 = 0 then 0 else if f.2 < 0 \/ f.1 < 4 \/ f.1 > 8196 then 141 else if (b.length : Int) - f.2 < f.1 then 0 else 130
def bF (most : Nat) (b : Bytes) : Option (Nat × Bytes) :=
 let f := first b
 if f.2 <= 0 \/ f.1 > most then none else some (f.1, b.drop f.2.toNat)
def dh (most : Nat) (b : Bytes) : Option (Bytes × Bytes) :=
 match bF most b with
 | none => none
 | some (n, r) => if n > r.length then none else some (r.take n, r.drop n)
def iJ (b : Bytes) : Option (Bool × Bytes) :=
 match b with
 | [] => none
 | c :: r => if c > 1 then none else some (c == 1, r)
end Wm
namespace Em
open Go.Maps Cm
abbrev Bytes := List UInt8
abbrev Rows := DataW Unit
structure ay where
 key : Bytes
 value : Bytes
 gone : Bool
def ay.wrong (c : ay) : Bool := c.key.isEmpty || (c.gone && !c.value.isEmpty)
def ay.long (c : ay) : Bool := decide (64 < c.key.length) || decide (4096 < c.value.length)
def right (l : List ay) : Int := if l.any ay.wrong = true then 2 else if 64 < l.length then 3 else if l.any ay.long = true then 3 else 0
def one (D : Rows) (c : ay) : Rows := if c.gone = true then D.del (.string c.key) else D.put (.string c.key) (.lit (.string c.value))
def behind (D : Rows) (l : List ay) : Rows := l.foldl one D
def aW (D : Rows) (l : List ay) : Int := if right l ≠ 0 then right l else if 256 < size (behind D l) then 3 else 0
def fT (b : Bytes) : Bytes := if 8192 < b.length then [] else Wm.frame b
def laid (c : ay) : Bytes := Wm.je c.gone ++ Wm.cB c.key ++ (if c.gone = true then [] else Wm.cB c.value)
def dQ (l : List ay) : Bytes := Wm.aG 3 ++ Wm.aG l.length ++ l.flatMap laid
def aY (l : List ay) : Bytes := fT (dQ l)
def cO (D : Rows) : List Bytes := (strKeys D).mergeSort leB
def valueOf (D : Rows) (k : Bytes) : Bytes := match D.atKey (.string k) (.lit (.string [])) with | .lit (.string v) => v | _ => []
def rowOf (D : Rows) (k : Bytes) : Bytes := fT (Wm.aG 2 ++ Wm.cB k ++ Wm.cB (valueOf D k))
def folded (g : Nat) (D : Rows) : Bytes := fT (Wm.aG 1 ++ Wm.aG g ++ Wm.aG (size D)) ++ (cO D).flatMap (rowOf D)
structure E where
 tp : Nat
 gen : Nat
 rows : Rows
 aL : Nat
 fin : Nat
 d : Dm.D
 gone : Bool
def next (r : Dm.D × Int) (f : Dm.D -> Dm.D × Int) : Dm.D × Int := if r.2 = 0 then f r.1 else r
def b_ (d : Dm.D) (t : Nat) : Dm.D × Int := if (d.stand.tp t).length = 0 then (d, 0) else d.cut t 0
def wrote (d : Dm.D) (t : Nat) (b : Bytes) : Dm.D × Int := next (d.append t b) Dm.D.sync
def bK (d : Dm.D) (t : Nat) (b : Bytes) : Dm.D × Int := next (next (b_ d t) λ d => d.append t b) Dm.D.sync
def E.put (e : E) (D : Rows) (b : Bytes) : E × Int :=
 if 32 <= e.aL \/ b.length = 0 \/ e.d.room / 2 < e.fin + b.length then (e, 280)
 else ({ e with d := (wrote e.d e.tp b).1, rows := if (wrote e.d e.tp b).2 = 0 then D else e.rows, aL := if (wrote e.d e.tp b).2 = 0 then e.aL + 1 else e.aL, fin := if (wrote e.d e.tp b).2 = 0 then e.fin + b.length else e.fin }, (wrote e.d e.tp b).2)
def E.fold (e : E) (D : Rows) : E × Int :=
 if 2147483647 <= e.gen then (e, 280)
 else
  let b := folded (e.gen + 1) D
  let r := bK e.d (1 - e.tp) b
  (if r.2 = 0 then ⟨1 - e.tp, e.gen + 1, D, 0, b.length, r.1, e.gone⟩ else { e with d := r.1 }, r.2)
def E.step (e : E) (D : Rows) (b : Bytes) : E × Int := if (e.put D b).2 = 280 then (e.put D b).1.fold D else e.put D b
def E.bE (e : E) (l : List ay) : E × Int :=
 if aW e.rows l ≠ 0 then (e, aW e.rows l)
 else if e.gone = true then (e, 290)
 else ({ (e.step (behind e.rows l) (aY l)).1 with gone := decide ((e.step (behind e.rows l) (aY l)).2 = 281) }, (e.step (behind e.rows l) (aY l)).2)
def begun (d : Dm.D) : E × Int :=
 let b := folded 1 (.map [])
 let r := bK d 0 b
 (⟨0, 1, .map [], 0, b.length, r.1, false⟩, r.2)
def w1v (p : Lit × DataW Unit) : Prop := ∃ k v : Bytes, p = (.string k, .lit (.string v)) /\ k ≠ [] /\ k.length <= 64 /\ v.length <= 4096
def bI (D : Rows) : Prop := ∃ es, D = .map es /\ ∀ p ∈ es, w1v p
theorem pE {l : List ay} (h : right l = 0) : l.length <= 64 /\ ∀ c ∈ l, c.wrong = false /\ c.long = false := by
 unfold right at h;by_cases h1 : l.any ay.wrong = true
 ·rw [IA h1] at h; cases h
 ·rw [Iw h1] at h
  by_cases h2 : 64 < l.length
  ·exact R8
  ·rw [Iw h2] at h
   by_cases h3 : l.any ay.long = true
   ·rw [IA h3] at h; cases h
   ·refine ⟨GR, λ c hc => ⟨?_, ?_⟩⟩
    ·cases q : c.wrong
     ·rfl
     ·exact absurd (KL.2 ⟨c, hc, q⟩) h1
    ·cases q : c.long
     ·rfl
     ·exact absurd (KL.2 ⟨c, hc, q⟩) h3
theorem vT {c : ay} (h : c.long = false) : c.key.length <= 64 /\ c.value.length <= 4096 := by
 unfold ay.long at h;simp at h;omega
theorem z2l {c : ay} (h : c.wrong = false) : c.key ≠ [] /\ (c.gone = true -> c.value = []) := by
 unfold ay.wrong at h;simp at h;refine ⟨h.1, λ g => h.2 g⟩
theorem vF {D : Rows} (h : bI D) {c : ay} (h1 : c.wrong = false) (h2 : c.long = false) : bI (one D c) := by
 obtain ⟨es, rfl, h⟩ := h;unfold one;split
 ·exact ⟨_, rfl, λ p hp => h p (List.mem_filter.1 hp).1⟩
 ·refine ⟨_, rfl, λ p hp => ?_⟩
  rcases ChangeMaps.mem_insert_iff.1 hp with rfl | hp
  ·exact ⟨_, _, rfl, (z2l h1).1, (vT h2).1, (vT h2).2⟩
  ·exact h p (List.mem_filter.1 hp).1
theorem y8p {l : List ay} (h1 : ∀ c ∈ l, c.wrong = false /\ c.long = false) : ∀ {D : Rows}, bI D -> bI (behind D l) := by
 induction l with
 | nil => exact λ h => h
 | cons c l ih =>
  intro D h;exact ih (λ x hx => h1 x (JB _ hx)) (vF h (h1 c (Jp ..)).1 (h1 c (Jp ..)).2)
theorem qL {D : Rows} {l : List ay} (h : bI D) (hr : right l = 0) : bI (behind D l) := y8p (pE hr).2 h
theorem nW : bI (.map []) := ⟨[], rfl, λ p hp => by cases hp⟩
theorem jV {D : Rows} {l : List ay} (h : aW D l = 0) : right l = 0 /\ size (behind D l) <= 256 := by
 unfold aW at h;by_cases h1 : right l ≠ 0
 ·rw [IA h1] at h; exact absurd h h1
 ·rw [Iw h1] at h
  by_cases h2 : 256 < size (behind D l)
  ·exact R8
  ·exact ⟨GR, GR⟩
theorem h_ (n : Nat) : (Wm.aG n).length <= 9 /\ 0 < (Wm.aG n).length := by
 unfold Wm.aG Wm.high;split
 ·simp
 ·split
  ·simp
  ·split <;> simp
theorem jf (s : Bytes) : (Wm.cB s).length <= 9 + s.length := by
 unfold Wm.cB;have := (h_ s.length).1;rw [IL];omega
theorem EY (b : Bytes) : (dw b).length = b.length + 4 := by
 unfold dw;rw [IL, ol]
theorem q9 (b : Bytes) : (fT b).length <= 8205 := by
 unfold fT;split
 ·simp
 ·exact Rz
theorem tT {b : Bytes} (h : b.length <= 8192) : fT b = Wm.frame b := Iw GR
theorem wB {α : Type} (f : α -> Bytes) (n : Nat) : ∀ (l : List α), (∀ x ∈ l, (f x).length <= n) -> (l.flatMap f).length <= l.length * n
 | [], _ => GV
 | x :: l, h => by
  have h1 := wB f n l (λ y hy => h y (JB _ hy));have h2 := h x (Jp ..);rw [J9, IL, I6, Nat.succ_mul];omega
theorem BM {c : ay} (h : c.long = false) : (laid c).length <= 4179 := by
 have := vT h;have h1 := jf c.key;have h2 := jf c.value;unfold laid;rw [IL, IL];have h3 : (Wm.je c.gone).length = 1 := rfl;split
 ·simp; omega
 ·omega
theorem y1h {l : List ay} (h : right l = 0) : (dQ l).length <= 300000 := by
 obtain ⟨h1, h2⟩ := pE h;have h3 := wB laid 4179 l (λ c hc => BM (h2 c hc).2);have h4 := (h_ 3).1;have h5 := (h_ l.length).1;have h6 : l.length * 4179 <= 64 * 4179 := Kj _ h1;unfold dQ;rw [IL, IL];omega
theorem su (D : Rows) : (cO D).length = size D := by
 unfold cO;rw [List.length_mergeSort];cases D <;> simp [strKeys, size]
theorem uZ {D : Rows} (h : bI D) (k : Bytes) : (valueOf D k).length <= 4096 := by
 obtain ⟨es, rfl, h⟩ := h;unfold valueOf DataW.atKey;cases hf : es.find? (λ p => p.1.sameKey (.string k)) with
 | none => simp [hf]
 | some p =>
  obtain ⟨k', v, rfl, _, _, h3⟩ := h p (List.mem_of_find?_eq_some hf);simp [hf];exact h3
theorem sj {D : Rows} (h : bI D) {k : Bytes} (hk : k ∈ cO D) : k ≠ [] /\ k.length <= 64 := by
 obtain ⟨es, rfl, h⟩ := h;have hk : k ∈ strKeys (.map es) := (LF _ _).mem_iff.1 hk;obtain ⟨p, hp, rfl⟩ := Jl.1 hk;obtain ⟨k', v, rfl, h1, h2, _⟩ := h p hp;exact ⟨h1, h2⟩
theorem y8k {D : Rows} (h : bI D) {k : Bytes} (hk : k.length <= 64) : (Wm.aG 2 ++ Wm.cB k ++ Wm.cB (valueOf D k)).length <= 4187 := by
 have h1 := jf k;have h2 := jf (valueOf D k);have h3 := uZ h k;have h4 := (h_ 2).1;rw [IL, IL];omega
theorem tV {D : Rows} (g : Nat) (hs : size D <= 256) : (folded g D).length <= 2200000 := by
 have h1 := q9 (Wm.aG 1 ++ Wm.aG g ++ Wm.aG (size D));have h2 := wB (rowOf D) 8205 (cO D) (λ k _ => q9 _);rw [su] at h2;have h3 : size D * 8205 <= 256 * 8205 := Kj _ hs;unfold folded;rw [IL];omega
end Em
end Go.Proofs.YtgffifleflkjoaaGreat
