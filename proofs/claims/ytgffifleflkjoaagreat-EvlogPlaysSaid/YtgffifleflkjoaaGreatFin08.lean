/-
  Parts of a proof.
-/
import Derived.Test.YtgffifleflkjoaaGreatFin04
import Derived.Test.YtgffifleflkjoaaGreatFin05
import Derived.Laws.BitsAllLaws
import Derived.Deep.LoopGhost
import Derived.Laws.Rows
import Derived.Laws.IdiomStrings
import Derived.Laws.BytesArg
import Derived.Maps.Ext
import Derived.Sort.KeysCollected
import Derived.ChangeMaps
set_option linter.unusedSimpArgs false
set_option linter.unusedVariables false
set_option maxRecDepth 100000
set_option maxHeartbeats 16000000
namespace Go.Proofs.YtgffifleflkjoaaGreat
open _root_.Go.Proofs.Tryz
variable {w W w' w0 wr w1 W0 W1 W2 A B : World} {F G F' O : Nat → Prop} {v : Value} {l : List UInt8} {n q m pd md pl g p : Nat} {C : Array Value} {c : Int}
open Go.RowKit
abbrev w32 (n : Nat) : Value := .int .u32 n
theorem y6l (n : Nat) (h : n < 4294967296) : bits .xor .u32 ((n : Int) / 2) (IntKind.u32.wrap (bits .and .u32 (n : Int) 1 * 2197175160)) = ((Cm.step n : Nat) : Int) := by
 have e1 : bits .and .u32 (n : Int) 1 = ((n % 2 : Nat) : Int) := by
  rw [show (1 : Int) = ((1 : Nat) : Int) from rfl, u32_and_nat n 1 h GY, nat_mask1]
 have e2 : IntKind.u32.wrap (((n % 2 : Nat) : Int) * 2197175160) = (((if n % 2 = 1 then Cm.poly else 0) : Nat) : Int) := by
  rw [IntKind.wrap_u32'];rcases KS n with h | h
  ·simp [h]
  ·simp [h, Cm.poly]
 rw [e1, e2, show (n : Int) / 2 = ((n / 2 : Nat) : Int) by omega, K_ (n / 2) _ GX (by split <;> decide)];rfl
theorem x7y (g o n : Nat) (c : Array Value) (t : TypeId) (w : World) (hg : w.heap[g]? = some (.cells c t)) (ho : c[o]? = some (w32 n)) (hn : n < 4294967296) :
 Calls prog 219 #[(g, o)] w λ e w' => e = .returned (.tuple #[]) /\ (w.setCell (g, o) (w32 (Cm.step n))).drew = w' := by
 have k : w.cell? (g, o) = some (.int .u32 n) := (IM _ _ _ _ _ _ hg).trans ho;have z : w.frozen? ⟨g, o, none⟩ = false := by simp [World.frozen?, hg]
 have h0 : (0 : Int) <= (n : Int) := GX;have h1 : (n : Int) < 4294967296 := GX;go_in;go_wp2;refine qI 15 GV GV ?_;simp only [Jv, JO, JP, JQ];repeat still_step
 refine Kh ?_;refine IJ rfl λ K hK => ?_;go_simp;refine hK _ _ ?_;simp only [wpList];rw [y6l n hn];exact Rj
theorem infoRun : (prog.info? 291).map (·.size) = some 257 := GV
theorem EJ : ∀ (k n : Nat), Cm.steps (k + 1) n = Cm.step (Cm.steps k n)
 | 0, _ => rfl
 | k + 1, n => by rw [Cm.steps, EJ k]; rfl
theorem ES {o : Nat} {c : Array Value} {t : TypeId} (v : Value) (h : w.heap[g]? = some (.cells c t)) :
 (w.setCell (g, o) v).drew.heap[g]? = some (.cells (c.setIfInBounds o v) t (0, 0)) /\ Moves (λ k => k = g) w (w.setCell (g, o) v).drew :=
 ⟨IU w g o c t v h, rfl, rfl, rfl, GZ, λ k _ hn => IW w _ k v hn⟩
abbrev ny : Nat := 291
theorem x7z (i : Nat) (w : World) (hi : i < 256) :
 Calls prog 218 #[.int .i64 i] w λ e w' => e = .returned (w32 (Cm.tab i)) /\ Below w w w' := by
 have h0 : (0 : Int) <= (i : Int) := GX;have h1 : (i : Int) < 256 := GX;have ones : (Tryz.zeroCells291.setIfInBounds 0 (.int .u32 (i : Int))).all (·.oneCell') = true := GV;have size : (Tryz.zeroCells291.setIfInBounds 0 (.int .u32 (i : Int))).size = 257 := by rw [LJ]; kernel_rfl
 obtain ⟨C0, hC0⟩ := G8 (Tryz.zeroCells291.setIfInBounds 0 (.int .u32 (i : Int)));have HC := hd1 hC0;have c00 : C0 = C0.setIfInBounds 0 (w32 (Cm.steps 0 i)) := by
  rw [<-hC0, Array.setIfInBounds_setIfInBounds]; rfl
 rw [hC0] at ones size;have H := hd3 ones size c00;clear ones size c00 hC0;go_in;go_wp2_with (refine aD rfl ny _ _ rfl w.heap.size C0 rfl (by rw [<-HC.out]; rfl) ny Tryz.zeroCells291 (II w _) (by rw [infoRun, H.2.1]) (by rw [H.2.1]; kernel_rfl) H.1 ?_; intro W1 HW1 dx jM)
 have hb1 : Below w w W1 := Moves.new (bla) dx G7;have H1 := hd2 hb1 HW1.out;clear hb1 HW1 dx jM;go_loopw [8] (λ s wr => ∃ k : Nat, k <= 8 /\ s = .int .i64 (k : Int) /\ wr.heap[w.heap.size]? = some (.cells (C0.setIfInBounds 0 (w32 (Cm.steps k i))) ny (0, 0)) /\ Below w w wr) (λ s _ => 8 - (intOf s).toNat)
 case atStart => exact ⟨0, GX, rfl, by rw [<-H.2.2]; exact H1.2, H1.1⟩
 case round =>
  obtain ⟨k, hk, rfl, hrow, hb⟩ := hrel;have hlt32 : Cm.steps k i < 4294967296 := Cm.yf k GX;have hcell : (C0.setIfInBounds 0 (w32 (Cm.steps k i)))[0]? = some (w32 (Cm.steps k i)) := by
   rw [Array.getElem?_setIfInBounds_self_of_lt (by rw [H.2.1]; decide)]
  by_cases hlt : k < 8
  ·have ST := hd1 (x7y w.heap.size 0 _ _ _ wr hrow hcell hlt32)
   have H2 := hd2 hrow hb;clear hrow hb hcell;go_wp2_with (go_at_call 219; refine ST.mono ?_; rintro e w' ⟨rfl, rfl⟩)
   go_roundw
   case rel =>
    obtain ⟨r1, m1⟩ := ES (o := 0) (w32 (Cm.step (Cm.steps k i))) H2.1;refine ⟨k + 1, GX, by go_num, ?_, Moves.new H2.2 m1 G7⟩;rw [r1, Array.setIfInBounds_setIfInBounds, EJ]
   case measure => simp [intOf]; omega
  ·obtain rfl : k = 8 := GX
   have kc : wr.cell? w.heap.size = some (.int .u32 (Cm.steps 8 i : Nat)) := (IM _ _ _ _ _ _ hrow).trans hcell;have HB := hd1 hb;clear hrow hb hcell;go_wp2;go_ret;exact ⟨rfl, HB.out⟩
abbrev nu : Nat := 288
theorem GK : (prog.info? nu).map (·.size) = some 256 := GV
def gT (k : Nat) : Array Value := ((List.range 256).map λ j => if j < k then w32 (Cm.tab j) else w32 0).toArray
theorem EB (k : Nat) : (gT k).size = 256 := by simp [gT]
theorem z3h : gT 0 = Tryz.zeroCells288 := GV
theorem y5d (k : Nat) (h : k < 256) : (gT k).setIfInBounds k (w32 (Cm.tab k)) = gT (k + 1) := by
 apply Mc
 intro j;rw [KY];by_cases hj : k = j
 ·subst hj
  simp [gT, h]
 ·rw [IA hj]
  by_cases hl : j < 256
  ·simp only [gT, List.getElem?_toArray, KO, Lt hl, KP]
   congr 1
   by_cases h1 : j < k
   ·rw [IE h1, IE GX]
   ·rw [IA h1, IA GX]
  ·rw [Array.getElem?_eq_none (by rw [EB]; omega), Array.getElem?_eq_none (by rw [EB]; omega)]
theorem y5b (k : Nat) (h : k < 256) : (gT k)[k]? = some (w32 0) := by
 simp only [gT, List.getElem?_toArray, KO, Lt h, KP];rw [IA GX]
theorem y5c (k : Nat) : (gT k).all (·.oneCell') = true := by
 rw [JF];intro x hx;simp only [gT, List.mem_toArray, Jq] at hx;obtain ⟨j, _, rfl⟩ := hx;split <;> rfl
theorem x6a (w : World) : Calls prog 213 #[] w λ e w' => e = .returned (.agg (gT 256)) /\ Below w w w' := by
 have hb0 : Below w w (w.alloc (.cells (gT 0) nu)) := bla;have r0 : (w.alloc (.cells (gT 0) nu)).heap[w.heap.size]? = some (.cells (gT 0) nu (0, 0)) := II w _;rw [z3h] at hb0 r0;obtain ⟨W0, hW0⟩ := G8 (w.alloc (.cells Tryz.zeroCells288 288));rw [hW0] at hb0 r0;rw [<-z3h] at r0;have H0 := hd2 hb0 r0;clear hb0 r0;go_in;go_upto_region 1 with fail
 clear hW0;go_wp2;go_loopw [2, 3] (λ _ s wr => ∃ k : Nat, k <= 256 /\ s = .int .i64 (k : Int) /\ wr.heap[w.heap.size]? = some (.cells (gT k) nu (0, 0)) /\ Below w w wr) (λ _ s _ => 256 - (intOf s).toNat)
 case atStart => exact ⟨0, GX, rfl, H0.2, H0.1⟩
 case round =>
  obtain ⟨k, hk, rfl, hrow, hb⟩ := hrel;by_cases hlt : k < 256
  ·have h0 : (0 : Int) <= (k : Int) := GX
   have h1 : (k : Int) < 256 := GX;have CT := hd1 (x7z k wr hlt);have HR := hd2 hrow hb;clear hrow hb;go_wp2_with fail
   refine CT.mono ?_;rintro e w2 ⟨rfl, hb2⟩;have hr2 := (hb2.block _ (aa HR.1)).trans HR.1;have kc : w2.cell? (w.heap.size, k) = some (w32 0) := (IM _ _ _ _ _ _ hr2).trans (y5b k hlt);have zc : w2.frozen? ⟨w.heap.size, k, none⟩ = false := by simp [World.frozen?, hr2]
   have H2 := hd2 hb2 hr2;clear hb2 hr2;go_wp2;go_roundw
   case rel =>
    have m : Moves (λ j => j = w.heap.size) w2 (w2.setCell (w.heap.size, k) (w32 (Cm.tab k))) := ⟨rfl, rfl, rfl, GZ, λ j _ hn => IW w2 _ j _ hn⟩;refine ⟨k + 1, GX, by go_num, ?_, Moves.new (HR.2.trans (H2.1.mono HR.2.size)) m G7⟩;rw [<-y5d k hlt];exact IU w2 w.heap.size k (gT k) nu (w32 (Cm.tab k)) H2.2
   case measure => simp [intOf]; omega
  ·obtain rfl : k = 256 := GX
   have HR := hd2 hrow hb;clear hrow hb
   go_wp2_with (first
    | (refine IL rfl nu (.tmp 0) rfl w.heap.size rfl nu (gT 256) (0, 0) _ HR.1 underlying288 rfl GK ?_)
    | (refine aD rfl nu _ _ rfl w.heap.size (gT 256) rfl rfl nu (gT 256) HR.1 (by rw [GK, EB]) rfl (y5c _) ?_; intro W1 HW1 dx jM))
   refine IP (I_ rfl _ _ w.heap.size nu (gT 256) (0, 0) _ rfl HW1.out underlying288 rfl GK) rfl ⟨rfl, Moves.new HR.2 dx G7⟩
namespace Wm
open Cm
abbrev Bytes := List UInt8
def high (n : Nat) (k : Nat) : Bytes := (List.range k).map λ i => UInt8.ofNat (n / 256 ^ (k - 1 - i) % 256)
def aG (n : Nat) : Bytes :=
 if n < 253 then [UInt8.ofNat n] else if n < 65536 then 253 :: high n 2 else if n < 4294967296 then 254 :: high n 4 else 255 :: high n 8
def iL (b : Bytes) : Nat := b.foldl (λ n c => 256 * n + c.toNat) 0
def kJ : Nat := 4611686018427387904
def many (c : UInt8) : Nat := if c = 253 then 2 else if c = 254 then 4 else if c = 255 then 8 else 0
def first (b : Bytes) : Nat × Int :=
 match b with
 | [] => (0, 0)
 | c :: r =>
  if many c = 0 then (c.toNat, 1)
  else if r.length < many c then (0, 0)
  else
   let n := iL (r.take (many c))
   if n > kJ \/ (aG n).length ≠ 1 + many c then (0, -1) else (n, 1 + (many c : Int))
def cB (s : Bytes) : Bytes := aG s.length ++ s
def jf (b : Bool) : Bytes := [if b then 1 else 0]
def frame (b : Bytes) : Bytes := aG (dm b).length ++ dm b
def opened (b : Bytes) : Option Bytes := if b.length < 4 then none else if dm (b.take (b.length - 4)) = b then some (b.take (b.length - 4)) else none
def split (b : Bytes) : Option (Bytes × Nat) :=
 let f := first b
 if f.2 <= 0 \/ f.1 < 4 \/ f.1 > 8196 then none
 else if (b.length : Int) - f.2 < f.1 then none
 else match opened ((b.drop f.2.toNat).take f.1) with
  | some body => some (body, f.2.toNat + f.1)
  | none => none
def pM (b : Bytes) : Int :=
 let f := first b
 if f.2 = 0 then 0 else if f.2 < 0 \/ f.1 < 4 \/ f.1 > 8196 then 141 else if (b.length : Int) - f.2 < f.1 then 0 else 130
def bF (most : Nat) (b : Bytes) : Option (Nat × Bytes) :=
 let f := first b
 if f.2 <= 0 \/ f.1 > most then none else some (f.1, b.drop f.2.toNat)
def df (most : Nat) (b : Bytes) : Option (Bytes × Bytes) :=
 match bF most b with
 | none => none
 | some (n, r) => if n > r.length then none else some (r.take n, r.drop n)
def iI (b : Bytes) : Option (Bool × Bytes) :=
 match b with
 | [] => none
 | c :: r => if c > 1 then none else some (c == 1, r)
end Wm
namespace Em
open Go.Maps Cm
abbrev Bytes := List UInt8
abbrev Rows := DataW Unit
structure ay where
 key : Bytes
 value : Bytes
 gone : Bool
def ay.wrong (c : ay) : Bool := c.key.isEmpty || (c.gone && !c.value.isEmpty)
def ay.long (c : ay) : Bool := decide (64 < c.key.length) || decide (4096 < c.value.length)
def right (l : List ay) : Int := if l.any ay.wrong = true then 2 else if 64 < l.length then 3 else if l.any ay.long = true then 3 else 0
def one (D : Rows) (c : ay) : Rows := if c.gone = true then D.del (.string c.key) else D.put (.string c.key) (.lit (.string c.value))
def behind (D : Rows) (l : List ay) : Rows := l.foldl one D
def aX (D : Rows) (l : List ay) : Int := if right l ≠ 0 then right l else if 256 < size (behind D l) then 3 else 0
def fO (b : Bytes) : Bytes := if 8192 < b.length then [] else Wm.frame b
def laid (c : ay) : Bytes := Wm.jf c.gone ++ Wm.cB c.key ++ (if c.gone = true then [] else Wm.cB c.value)
def dU (l : List ay) : Bytes := Wm.aG 3 ++ Wm.aG l.length ++ l.flatMap laid
def aZ (l : List ay) : Bytes := fO (dU l)
def cO (D : Rows) : List Bytes := (strKeys D).mergeSort leB
def valueOf (D : Rows) (k : Bytes) : Bytes := match D.atKey (.string k) (.lit (.string [])) with | .lit (.string v) => v | _ => []
def rowOf (D : Rows) (k : Bytes) : Bytes := fO (Wm.aG 2 ++ Wm.cB k ++ Wm.cB (valueOf D k))
def folded (g : Nat) (D : Rows) : Bytes := fO (Wm.aG 1 ++ Wm.aG g ++ Wm.aG (size D)) ++ (cO D).flatMap (rowOf D)
structure E where
 tp : Nat
 gen : Nat
 rows : Rows
 aK : Nat
 fin : Nat
 d : Dm.D
 gone : Bool
def next (r : Dm.D × Int) (f : Dm.D -> Dm.D × Int) : Dm.D × Int := if r.2 = 0 then f r.1 else r
def bZ (d : Dm.D) (t : Nat) : Dm.D × Int := if (d.stand.tp t).length = 0 then (d, 0) else d.cut t 0
def wrote (d : Dm.D) (t : Nat) (b : Bytes) : Dm.D × Int := next (d.append t b) Dm.D.sync
def bK (d : Dm.D) (t : Nat) (b : Bytes) : Dm.D × Int := next (next (bZ d t) λ d => d.append t b) Dm.D.sync
def E.put (e : E) (D : Rows) (b : Bytes) : E × Int :=
 if 32 <= e.aK \/ b.length = 0 \/ e.d.room / 2 < e.fin + b.length then (e, 280)
 else ({ e with d := (wrote e.d e.tp b).1, rows := if (wrote e.d e.tp b).2 = 0 then D else e.rows, aK := if (wrote e.d e.tp b).2 = 0 then e.aK + 1 else e.aK, fin := if (wrote e.d e.tp b).2 = 0 then e.fin + b.length else e.fin }, (wrote e.d e.tp b).2)
def E.fold (e : E) (D : Rows) : E × Int :=
 if 2147483647 <= e.gen then (e, 280)
 else
  let b := folded (e.gen + 1) D
  let r := bK e.d (1 - e.tp) b
  (if r.2 = 0 then ⟨1 - e.tp, e.gen + 1, D, 0, b.length, r.1, e.gone⟩ else { e with d := r.1 }, r.2)
def E.step (e : E) (D : Rows) (b : Bytes) : E × Int := if (e.put D b).2 = 280 then (e.put D b).1.fold D else e.put D b
def E.bE (e : E) (l : List ay) : E × Int :=
 if aX e.rows l ≠ 0 then (e, aX e.rows l)
 else if e.gone = true then (e, 290)
 else ({ (e.step (behind e.rows l) (aZ l)).1 with gone := decide ((e.step (behind e.rows l) (aZ l)).2 = 281) }, (e.step (behind e.rows l) (aZ l)).2)
def begun (d : Dm.D) : E × Int :=
 let b := folded 1 (.map [])
 let r := bK d 0 b
 (⟨0, 1, .map [], 0, b.length, r.1, false⟩, r.2)
def w1y (p : Lit × DataW Unit) : Prop := ∃ k v : Bytes, p = (.string k, .lit (.string v)) /\ k ≠ [] /\ k.length <= 64 /\ v.length <= 4096
def bI (D : Rows) : Prop := ∃ es, D = .map es /\ ∀ p ∈ es, w1y p
theorem pU {l : List ay} (h : right l = 0) : l.length <= 64 /\ ∀ c ∈ l, c.wrong = false /\ c.long = false := by
 unfold right at h;by_cases h1 : l.any ay.wrong = true
 ·rw [IE h1] at h; cases h
 ·rw [IA h1] at h
  by_cases h2 : 64 < l.length
  ·exact Si
  ·rw [IA h2] at h
   by_cases h3 : l.any ay.long = true
   ·rw [IE h3] at h; cases h
   ·refine ⟨GX, λ c hc => ⟨?_, ?_⟩⟩
    ·cases q : c.wrong
     ·rfl
     ·exact absurd (KU.2 ⟨c, hc, q⟩) h1
    ·cases q : c.long
     ·rfl
     ·exact absurd (KU.2 ⟨c, hc, q⟩) h3
theorem v_ {c : ay} (h : c.long = false) : c.key.length <= 64 /\ c.value.length <= 4096 := by
 unfold ay.long at h;simp at h;omega
theorem z2p {c : ay} (h : c.wrong = false) : c.key ≠ [] /\ (c.gone = true -> c.value = []) := by
 unfold ay.wrong at h;simp at h;refine ⟨h.1, λ g => h.2 g⟩
theorem vO {D : Rows} (h : bI D) {c : ay} (h1 : c.wrong = false) (h2 : c.long = false) : bI (one D c) := by
 obtain ⟨es, rfl, h⟩ := h;unfold one;split
 ·exact ⟨_, rfl, λ p hp => h p (List.mem_filter.1 hp).1⟩
 ·refine ⟨_, rfl, λ p hp => ?_⟩
  rcases ChangeMaps.mem_insert_iff.1 hp with rfl | hp
  ·exact ⟨_, _, rfl, (z2p h1).1, (v_ h2).1, (v_ h2).2⟩
  ·exact h p (List.mem_filter.1 hp).1
theorem y8l {l : List ay} (h1 : ∀ c ∈ l, c.wrong = false /\ c.long = false) : ∀ {D : Rows}, bI D -> bI (behind D l) := by
 induction l with
 | nil => exact λ h => h
 | cons c l ih =>
  intro D h;exact ih (λ x hx => h1 x (Jz _ hx)) (vO h (h1 c (Jp ..)).1 (h1 c (Jp ..)).2)
theorem qV {D : Rows} {l : List ay} (h : bI D) (hr : right l = 0) : bI (behind D l) := y8l (pU hr).2 h
theorem oz : bI (.map []) := ⟨[], rfl, λ p hp => by cases hp⟩
theorem jW {D : Rows} {l : List ay} (h : aX D l = 0) : right l = 0 /\ size (behind D l) <= 256 := by
 unfold aX at h;by_cases h1 : right l ≠ 0
 ·rw [IE h1] at h; exact absurd h h1
 ·rw [IA h1] at h
  by_cases h2 : 256 < size (behind D l)
  ·exact Si
  ·exact ⟨GX, GX⟩
theorem gY (n : Nat) : (Wm.aG n).length <= 9 /\ 0 < (Wm.aG n).length := by
 unfold Wm.aG Wm.high;split
 ·simp
 ·split
  ·simp
  ·split <;> simp
theorem jg (s : Bytes) : (Wm.cB s).length <= 9 + s.length := by
 unfold Wm.cB;have := (gY s.length).1;rw [IQ];omega
theorem ET (b : Bytes) : (dm b).length = b.length + 4 := by
 unfold dm;rw [IQ, oJ]
theorem rR (b : Bytes) : (fO b).length <= 8205 := by
 unfold fO;split
 ·simp
 ·exact RO
theorem uj {b : Bytes} (h : b.length <= 8192) : fO b = Wm.frame b := IA GX
theorem wJ {α : Type} (f : α -> Bytes) (n : Nat) : ∀ (l : List α), (∀ x ∈ l, (f x).length <= n) -> (l.flatMap f).length <= l.length * n
 | [], _ => GZ
 | x :: l, h => by
  have h1 := wJ f n l (λ y hy => h y (Jz _ hy));have h2 := h x (Jp ..);rw [Ke, IQ, I8, Nat.succ_mul];omega
theorem B_ {c : ay} (h : c.long = false) : (laid c).length <= 4179 := by
 have := v_ h;have h1 := jg c.key;have h2 := jg c.value;unfold laid;rw [IQ, IQ];have h3 : (Wm.jf c.gone).length = 1 := rfl;split
 ·simp; omega
 ·omega
theorem y1h {l : List ay} (h : right l = 0) : (dU l).length <= 300000 := by
 obtain ⟨h1, h2⟩ := pU h;have h3 := wJ laid 4179 l (λ c hc => B_ (h2 c hc).2);have h4 := (gY 3).1;have h5 := (gY l.length).1;have h6 : l.length * 4179 <= 64 * 4179 := KE _ h1;unfold dU;rw [IQ, IQ];omega
theorem sP (D : Rows) : (cO D).length = size D := by
 unfold cO;rw [List.length_mergeSort];cases D <;> simp [strKeys, size]
theorem vC {D : Rows} (h : bI D) (k : Bytes) : (valueOf D k).length <= 4096 := by
 obtain ⟨es, rfl, h⟩ := h;unfold valueOf DataW.atKey;cases hf : es.find? (λ p => p.1.sameKey (.string k)) with
 | none => simp [hf]
 | some p =>
  obtain ⟨k', v, rfl, _, _, h3⟩ := h p (List.mem_of_find?_eq_some hf);simp [hf];exact h3
theorem sO {D : Rows} (h : bI D) {k : Bytes} (hk : k ∈ cO D) : k ≠ [] /\ k.length <= 64 := by
 obtain ⟨es, rfl, h⟩ := h;have hk : k ∈ strKeys (.map es) := (LK _ _).mem_iff.1 hk;obtain ⟨p, hp, rfl⟩ := Jq.1 hk;obtain ⟨k', v, rfl, h1, h2, _⟩ := h p hp;exact ⟨h1, h2⟩
theorem y8g {D : Rows} (h : bI D) {k : Bytes} (hk : k.length <= 64) : (Wm.aG 2 ++ Wm.cB k ++ Wm.cB (valueOf D k)).length <= 4187 := by
 have h1 := jg k;have h2 := jg (valueOf D k);have h3 := vC h k;have h4 := (gY 2).1;rw [IQ, IQ];omega
theorem um {D : Rows} (g : Nat) (hs : size D <= 256) : (folded g D).length <= 2200000 := by
 have h1 := rR (Wm.aG 1 ++ Wm.aG g ++ Wm.aG (size D));have h2 := wJ (rowOf D) 8205 (cO D) (λ k _ => rR _);rw [sP] at h2;have h3 : size D * 8205 <= 256 * 8205 := KE _ hs;unfold folded;rw [IQ];omega
structure E.ok (e : E) : Prop where
 tp : e.tp <= 1
 gen : e.gen <= 2147483647
 aK : e.aK <= 32
 fin : e.fin <= 3000000
 rows : bI e.rows
 few : size e.rows <= 256
end Em
end Go.Proofs.YtgffifleflkjoaaGreat
