/-
  CRC-32C, in plain Lean: a step, a byte, sealed bytes; what a burst of bits does.
  Numbers, texts and frames as bytes, in plain Lean.
  Small laws for the walks: a whole aggregate stored into the block that was made last.
  A range over a function: an iterator's contract in which the iterator may own blocks, and the law for the statement.
-/
import Derived.Test.YtgffifleflkjoaaGreatRows
import Derived.WalkKit
import Derived.WalkSpells
import Derived.WalkLawsBesides
import Derived.Handy
import Derived.Lib.Hide
import Derived.BigQuiet
import Derived.Deep.QuietTactic
import Derived.Deep.WholeRow
import Derived.Deep.RegionWith
import Derived.Deep.RegionHeld3
import Derived.StillTailTactics
import Derived.Deep.DeepCutAuto
import Derived.RangeFuncNested
import Derived.RangeFuncBound
import Derived.RangeFuncCalls
import Derived.RangeFuncLeaves
import Derived.Shelf.Abstract
import Derived.Shelf.RegionOpen
import Derived.OwnWalkIn
import Derived.TacticsInMore
import Derived.LoopNIn
import Derived.LoopIn

namespace Go.Proofs.YtgffifleflkjoaaGreat
theorem heap_old_own (w : World) (o : Obj) (i : Nat) (h : i < w.heap.size) : (w.alloc o).heap[i]? = w.heap[i]? := by
  show (w.heap.push o)[i]? = w.heap[i]?
  rw [Array.getElem?_push_lt h, Array.getElem?_eq_getElem h]
end Go.Proofs.YtgffifleflkjoaaGreat

namespace Go.Proofs.YtgffifleflkjoaaGreat.Cm

def poly : Nat := 2197175160
def step (w : Nat) : Nat := w / 2 ^^^ (if w % 2 = 1 then poly else 0)
def steps : Nat → Nat → Nat
  | 0, w => w
  | n + 1, w => steps n (step w)
def tab (i : Nat) : Nat := steps 8 i
def byteOn (w c : Nat) : Nat := w / 256 ^^^ tab ((w ^^^ c) % 256)
def regOn (w : Nat) (l : List UInt8) : Nat := l.foldl (fun w c => byteOn w c.toNat) w
def top : Nat := 4294967295
def sum (l : List UInt8) : Nat := top - regOn top l
def low (n : Nat) (k : Nat) : List UInt8 := (List.range k).map fun i => UInt8.ofNat (n / 256 ^ i % 256)
def sealed (l : List UInt8) : List UInt8 := l ++ low (sum l) 4

theorem half_xor (a b : Nat) : (a ^^^ b) / 2 = a / 2 ^^^ b / 2 := by
  have h := Nat.shiftRight_xor_distrib (a := a) (b := b) (i := 1)
  simpa [Nat.shiftRight_eq_div_pow] using h

theorem mod2_xor (a b : Nat) : (a ^^^ b) % 2 = (a % 2 + b % 2) % 2 := by
  have h := Nat.testBit_xor a b 0
  simp only [Nat.testBit_zero] at h
  rcases Nat.mod_two_eq_zero_or_one a with ha | ha <;> rcases Nat.mod_two_eq_zero_or_one b with hb | hb <;> rcases Nat.mod_two_eq_zero_or_one (a ^^^ b) with hc | hc <;> simp [ha, hb, hc] at h ⊢

theorem step_xor (a b : Nat) : step (a ^^^ b) = step a ^^^ step b := by
  unfold step
  rw [half_xor, mod2_xor]
  rcases Nat.mod_two_eq_zero_or_one a with ha | ha <;> rcases Nat.mod_two_eq_zero_or_one b with hb | hb <;> simp only [ha, hb] <;> simp
  · rw [Nat.xor_assoc]
  · rw [Nat.xor_assoc, Nat.xor_assoc, Nat.xor_comm poly]
  · rw [Nat.xor_comm (b / 2) poly, ← Nat.xor_assoc, Nat.xor_assoc (a / 2) poly poly, Nat.xor_self, Nat.xor_zero]

theorem steps_xor : ∀ (n a b : Nat), steps n (a ^^^ b) = steps n a ^^^ steps n b
  | 0, _, _ => rfl
  | n + 1, a, b => by rw [steps, step_xor, steps_xor n]; rfl

theorem steps_add : ∀ (n m w : Nat), steps (n + m) w = steps m (steps n w)
  | 0, m, w => by rw [Nat.zero_add]; rfl
  | n + 1, m, w => by rw [show n + 1 + m = (n + m) + 1 by omega, steps, steps_add n m]; rfl

theorem steps_shift : ∀ (n h : Nat), steps n (h * 2 ^ n) = h
  | 0, h => by simp [steps]
  | n + 1, h => by
    have e : h * 2 ^ (n + 1) = 2 * (h * 2 ^ n) := by rw [Nat.pow_succ]; ac_rfl
    rw [steps, step, e, Nat.mul_mod_right, if_neg (by decide), Nat.xor_zero, Nat.mul_div_cancel_left _ (by decide), steps_shift n]

/-- A number's lower bits, and the others. -/
theorem xor_split (w n : Nat) : w = (w / 2 ^ n) * 2 ^ n ^^^ w % 2 ^ n := by
  apply Nat.eq_of_testBit_eq
  intro i
  rw [Nat.testBit_xor, Nat.testBit_mul_two_pow, Nat.testBit_mod_two_pow, Nat.testBit_div_two_pow]
  by_cases h : i < n
  · simp [h, show ¬ n ≤ i by omega]
  · simp [h, show n ≤ i by omega, show i - n + n = i by omega]

theorem xor_lt {a b n : Nat} (ha : a < 2 ^ n) (hb : b < 2 ^ n) : a ^^^ b < 2 ^ n := Nat.xor_lt_two_pow ha hb

theorem byteOn_steps (w c : Nat) (hc : c < 256) : byteOn w c = steps 8 (w ^^^ c) := by
  have e1 : (w ^^^ c) / 256 = w / 256 := by
    rw [show (256 : Nat) = 2 ^ 8 by rfl, ← Nat.shiftRight_eq_div_pow, ← Nat.shiftRight_eq_div_pow, Nat.shiftRight_xor_distrib, Nat.shiftRight_eq_div_pow c, Nat.div_eq_of_lt hc, Nat.xor_zero]
  have e2 := xor_split (w ^^^ c) 8
  rw [show (2 : Nat) ^ 8 = 256 by rfl, e1] at e2
  rw [e2, steps_xor]
  have := steps_shift 8 (w / 256)
  rw [show (2 : Nat) ^ 8 = 256 by rfl] at this
  rw [this]
  rfl

theorem step_lt {w : Nat} (h : w < 2 ^ 32) : step w < 2 ^ 32 := by
  unfold step
  refine xor_lt (by omega) ?_
  split <;> decide

theorem steps_lt : ∀ (n : Nat) {w : Nat}, w < 2 ^ 32 → steps n w < 2 ^ 32
  | 0, _, h => h
  | n + 1, _, h => steps_lt n (step_lt h)

theorem step_zero {w : Nat} (h : w < 2 ^ 32) (hz : step w = 0) : w = 0 := by
  unfold step at hz
  have e : w / 2 = if w % 2 = 1 then poly else 0 := by
    have := congrArg (fun x => x ^^^ (if w % 2 = 1 then poly else 0)) hz
    simpa [Nat.xor_assoc] using this
  split at e
  · have : poly = 2197175160 := rfl
    omega
  · omega

theorem steps_zero : ∀ (n : Nat) {w : Nat}, w < 2 ^ 32 → steps n w = 0 → w = 0
  | 0, _, _, h => h
  | n + 1, _, h, hz => step_zero h (steps_zero n (step_lt h) hz)

theorem steps_inj {n a b : Nat} (ha : a < 2 ^ 32) (hb : b < 2 ^ 32) (h : steps n a = steps n b) : a = b := by
  have h1 : steps n (a ^^^ b) = 0 := by rw [steps_xor, h, Nat.xor_self]
  have h2 := steps_zero n (xor_lt ha hb) h1
  have := congrArg (· ^^^ b) h2
  simpa [Nat.xor_assoc] using this

theorem regOn_lt : ∀ (l : List UInt8) {w : Nat}, w < 2 ^ 32 → regOn w l < 2 ^ 32
  | [], _, h => h
  | c :: l, w, h => by
    have hc := c.toNat_lt
    have : byteOn w c.toNat < 2 ^ 32 := by
      rw [byteOn_steps _ _ hc]
      exact steps_lt _ (xor_lt h (Nat.lt_trans hc (by decide)))
    exact regOn_lt l this

theorem regOn_append (w : Nat) (l k : List UInt8) : regOn w (l ++ k) = regOn (regOn w l) k := by simp [regOn]
/-- The number of bytes, the lowest ahead. -/
def num : List UInt8 → Nat
  | [] => 0
  | c :: l => c.toNat + 256 * num l

theorem num_lt : ∀ l : List UInt8, num l < 256 ^ l.length
  | [] => by simp [num]
  | c :: l => by
    have := num_lt l
    have hc := c.toNat_lt
    rw [num, List.length_cons, Nat.pow_succ]
    omega

theorem num_append : ∀ l k : List UInt8, num (l ++ k) = num l + 256 ^ l.length * num k
  | [], k => by simp [num]
  | c :: l, k => by
    rw [List.cons_append, num, num_append l k, num, List.length_cons, Nat.pow_succ, Nat.mul_add]
    rw [show 256 * (256 ^ l.length * num k) = 256 ^ l.length * 256 * num k by ac_rfl]
    omega

theorem num_inj : ∀ {l k : List UInt8}, l.length = k.length → num l = num k → l = k
  | [], [], _, _ => rfl
  | [], _ :: _, h, _ => by simp at h
  | _ :: _, [], h, _ => by simp at h
  | c :: l, d :: k, h, e => by
    rw [num, num] at e
    have hc := c.toNat_lt
    have hd := d.toNat_lt
    have e1 : c.toNat = d.toNat := by omega
    have e2 : num l = num k := by omega
    rw [UInt8.toNat_inj.1 e1, num_inj (by simpa using h) e2]

theorem xor_low (c n : Nat) (hc : c < 256) : c + 256 * n = c ^^^ n * 2 ^ 8 := by
  have := Nat.two_pow_add_eq_or_of_lt (i := 8) (show c < 2 ^ 8 from hc) n
  have h2 : (2 ^ 8 * n) &&& c = 0 := by
    apply Nat.eq_of_testBit_eq
    intro i
    rw [Nat.testBit_and, Nat.mul_comm, Nat.testBit_mul_two_pow]
    by_cases h : 8 ≤ i
    · have : c.testBit i = false := Nat.testBit_lt_two_pow (Nat.lt_of_lt_of_le hc (by
        have : 2 ^ 8 ≤ 2 ^ i := Nat.pow_le_pow_right (by omega) h
        simpa using this))
      simp [this]
    · simp [h]
  apply Nat.eq_of_testBit_eq
  intro i
  rw [show c + 256 * n = 2 ^ 8 * n + c by omega, this, Nat.testBit_or, Nat.testBit_xor, Nat.mul_comm n]
  have h3 := congrArg (fun x => x.testBit i) h2
  simp only [Nat.testBit_and, Nat.zero_testBit] at h3
  cases h4 : (2 ^ 8 * n).testBit i <;> cases h5 : c.testBit i <;> simp [h4, h5] at h3 ⊢

theorem regOn_steps : ∀ (l : List UInt8) (w : Nat), regOn w l = steps (8 * l.length) (w ^^^ num l)
  | [], w => by simp [regOn, num, steps]
  | c :: l, w => by
    have hc := c.toNat_lt
    show regOn (byteOn w c.toNat) l = _
    rw [regOn_steps l, byteOn_steps _ _ hc, List.length_cons, show 8 * (l.length + 1) = 8 + 8 * l.length by omega, steps_add]
    congr 1
    rw [num, xor_low _ _ hc, ← Nat.xor_assoc, steps_xor, steps_xor 8 (w ^^^ c.toNat), steps_shift 8, steps_xor]

theorem num_low : ∀ (k n : Nat), num ((List.range k).map fun i => UInt8.ofNat (n / 256 ^ i % 256)) = n % 256 ^ k
  | 0, n => by simp [num, Nat.mod_one]
  | k + 1, n => by
    rw [List.range_succ_eq_map, List.map_cons, List.map_map, num]
    have e : (fun i => UInt8.ofNat (n / 256 ^ i % 256)) ∘ Nat.succ = fun i => UInt8.ofNat (n / 256 / 256 ^ i % 256) := by
      funext i
      simp only [Function.comp, Nat.pow_succ, Nat.succ_eq_add_one]
      rw [Nat.div_div_eq_div_mul, Nat.mul_comm 256]
    rw [e, num_low k (n / 256)]
    have h0 : (UInt8.ofNat (n / 256 ^ 0 % 256)).toNat = n % 256 := by simp
    rw [h0, Nat.pow_succ, Nat.mul_comm (256 ^ k), Nat.mod_mul]

theorem low_length (n k : Nat) : (low n k).length = k := by simp [low]

theorem top_sub {r : Nat} (h : r < 2 ^ 32) : top - r = top ^^^ r := by
  have e : top = 2 ^ 32 - 1 := rfl
  apply Nat.eq_of_testBit_eq
  intro i
  rw [e, show 2 ^ 32 - 1 - r = 2 ^ 32 - (r + 1) by omega, Nat.testBit_two_pow_sub_succ h i, Nat.testBit_xor, Nat.testBit_two_pow_sub_one]
  by_cases hi : i < 32
  · simp [hi]
  · have : r.testBit i = false := Nat.testBit_lt_two_pow (Nat.lt_of_lt_of_le h (Nat.pow_le_pow_right (by omega) (by omega)))
    simp [hi, this]

/-- Sealed bytes are those whose register comes to one number. -/
theorem sealed_iff (b q : List UInt8) (hq : q.length = 4) : sealed b = b ++ q ↔ regOn top (b ++ q) = steps 32 top := by
  have hr : regOn top b < 2 ^ 32 := regOn_lt b (by decide)
  have hqn : num q < 2 ^ 32 := by have := num_lt q; rw [hq] at this; exact this
  have hs : sum b < 2 ^ 32 := by unfold sum top; omega
  rw [regOn_append, regOn_steps q, hq, show 8 * 4 = 32 by rfl]
  unfold sealed
  rw [List.append_cancel_left_eq]
  have hn : num (low (sum b) 4) = sum b := by
    unfold low
    rw [num_low, Nat.mod_eq_of_lt]
    exact hs
  constructor
  · intro h
    rw [← h, hn]
    unfold sum
    rw [top_sub hr, Nat.xor_comm top, ← Nat.xor_assoc, Nat.xor_self, Nat.zero_xor]
  · intro h
    have h1 := steps_inj (xor_lt hr hqn) (by decide) h
    refine num_inj (by rw [low_length, hq]) ?_
    rw [hn]
    unfold sum
    rw [top_sub hr]
    have h2 := congrArg (fun x => regOn top b ^^^ x) h1
    simp only [← Nat.xor_assoc, Nat.xor_self, Nat.zero_xor] at h2
    rw [h2, Nat.xor_comm]

/-- Bits that are turned within 32 that follow one another are seen. -/
theorem burst {l k : List UInt8} {e f : Nat} (hl : l.length = k.length) (hf : f ≤ 8 * l.length) (he : e < 2 ^ 32) (hk : num k = num l ^^^ e * 2 ^ f) (h : regOn top k = regOn top l) : e = 0 := by
  rw [regOn_steps, regOn_steps, ← hl, hk, ← Nat.xor_assoc, steps_xor] at h
  have h1 : steps (8 * l.length) (e * 2 ^ f) = 0 := by
    have := congrArg (fun x => steps (8 * l.length) (top ^^^ num l) ^^^ x) h
    simpa [← Nat.xor_assoc] using this
  rw [show 8 * l.length = f + (8 * l.length - f) by omega, steps_add, steps_shift] at h1
  exact steps_zero _ he h1
end Go.Proofs.YtgffifleflkjoaaGreat.Cm

namespace Go.Proofs.YtgffifleflkjoaaGreat.Wm
open Cm

abbrev Bytes := List UInt8

/-- A number's lowest bytes, the highest ahead. -/
def high (n : Nat) (k : Nat) : Bytes := (List.range k).map fun i => UInt8.ofNat (n / 256 ^ (k - 1 - i) % 256)

def wnum (n : Nat) : Bytes :=
  if n < 253 then [UInt8.ofNat n] else if n < 65536 then 253 :: high n 2 else if n < 4294967296 then 254 :: high n 4 else 255 :: high n 8

/-- The number of bytes, the highest ahead. -/
def hnum (b : Bytes) : Nat := b.foldl (fun n c => 256 * n + c.toNat) 0

def topN : Nat := 4611686018427387904

def many (c : UInt8) : Nat := if c = 253 then 2 else if c = 254 then 4 else if c = 255 then 8 else 0

/-- The first number of bytes, how many bytes it has; 0: bytes lack; -1: it is none. -/
def first (b : Bytes) : Nat × Int :=
  match b with
  | [] => (0, 0)
  | c :: r =>
    if many c = 0 then (c.toNat, 1)
    else if r.length < many c then (0, 0)
    else
      let n := hnum (r.take (many c))
      if n > topN ∨ (wnum n).length ≠ 1 + many c then (0, -1) else (n, 1 + (many c : Int))

def wtext (s : Bytes) : Bytes := wnum s.length ++ s
def wtruth (b : Bool) : Bytes := [if b then 1 else 0]
def frame (b : Bytes) : Bytes := wnum (sealed b).length ++ sealed b

/-- The bytes of sealed ones. -/
def opened (b : Bytes) : Option Bytes := if b.length < 4 then none else if sealed (b.take (b.length - 4)) = b then some (b.take (b.length - 4)) else none

/-- The first frame: its body, how many bytes it has; none: bytes lack, or it is none. -/
def split (b : Bytes) : Option (Bytes × Nat) :=
  let f := first b
  if f.2 ≤ 0 ∨ f.1 < 4 ∨ f.1 > 8196 then none
  else if (b.length : Int) - f.2 < f.1 then none
  else match opened ((b.drop f.2.toNat).take f.1) with
    | some body => some (body, f.2.toNat + f.1)
    | none => none

/-- Why there is no first frame: an error, or 0 (bytes lack). -/
def splitErr (b : Bytes) : Int :=
  let f := first b
  if f.2 = 0 then 0 else if f.2 < 0 ∨ f.1 < 4 ∨ f.1 > 8196 then 141 else if (b.length : Int) - f.2 < f.1 then 0 else 130

/-- Parts taken off a record. -/
def rnum (most : Nat) (b : Bytes) : Option (Nat × Bytes) :=
  let f := first b
  if f.2 ≤ 0 ∨ f.1 > most then none else some (f.1, b.drop f.2.toNat)
def rtext (most : Nat) (b : Bytes) : Option (Bytes × Bytes) :=
  match rnum most b with
  | none => none
  | some (n, r) => if n > r.length then none else some (r.take n, r.drop n)
def rtruth (b : Bytes) : Option (Bool × Bytes) :=
  match b with
  | [] => none
  | c :: r => if c > 1 then none else some (c == 1, r)
end Go.Proofs.YtgffifleflkjoaaGreat.Wm

namespace Go.Proofs.YtgffifleflkjoaaGreat
open Go.RowKit

theorem wpList_store_new {P : Program} {ops : Array Oper} {rest : List Oper} {o : Oper} {a : Act} {w : World} {Q : Exit → Act → World → Prop} (hgd : o.guard = none) (ty : TypeId) (x y : Operand) (ho : o.op = .store ty x y)
    (c cells : Array Value) (hx : a.eval x = .pointer (some ⟨w.heap.size, 0, none⟩)) (hy : a.eval y = .agg cells)
    (t : TypeId) (hi : (P.info? ty).map (·.size) = some cells.size)
    (hold : c.size = cells.size) (h1 : cells.all (·.oneCell') = true)
    (h : wpList P ops Q rest (a.put o.dst undef) (w.alloc (.cells cells t))) : wpList P ops Q (o :: rest) a (w.alloc (.cells c t)) :=
  wpList_store_row hgd ty x y ho w.heap.size cells hx hy t c (heap_alloc_last w _) hi hold h1 (by rw [World.setRow_alloc_new]; exact h)


/-- A world with another object in one of its blocks. -/
def putObj (w : World) (r : Nat) (o : Obj) : World := { w with heap := w.heap.setIfInBounds r o }

theorem putObj_alloc (w : World) (n : Nat) (o o' : Obj) (h : n = w.heap.size) : putObj (w.alloc o) n o' = w.alloc o' := by
  subst h
  unfold putObj World.alloc
  congr 1
  apply Array.ext_getElem?
  intro i
  by_cases h : w.heap.size = i
  · subst h; simp
  · have h' : ¬ i = w.heap.size := fun e => h e.symm
    simp [Array.getElem?_setIfInBounds, h, h', Array.getElem?_push]

def plainKey : TypeDesc → Bool
  | .int _ | .string | .bool => true
  | _ => false

theorem run_checkKey_succ {P : Program} (e : Bool) (n : Nat) (kt : TypeId) (d : TypeDesc) (hk : P.underlying kt = some d) (hp : plainKey d = true) (v : Value) (w : World) :
    (Instr.checkKey e (n + 1) kt v).run P w = .ok () w := by
  cases d <;> simp [plainKey] at hp <;> simp [Instr.checkKey, run_underlying hk]

theorem run_checkKey_plain {P : Program} (e : Bool) (kt : TypeId) (d : TypeDesc) (hk : P.underlying kt = some d) (hp : plainKey d = true) (v : Value) (w : World) :
    (Instr.checkKey e 10000 kt v).run P w = .ok () w := run_checkKey_succ e 9999 kt d hk hp v w

theorem run_mapUpdate_new {P : Program} {w : World} (mt kt et : TypeId) (d : TypeDesc) (r : Nat) (es : Array MapEntry) (clock : Nat) (key val : Value)
    (hm : P.underlying mt = some (.map kt et)) (hk : P.underlying kt = some d) (hp : plainKey d = true) (hb : w.heap[r]? = some (.map es clock))
    (hf : Instr.findNow d key es.toList 0 = some none) :
    (Instr.mapUpdate mt (.map (some r)) key val).run P w = .ok () (putObj w r (.map (es.push ⟨key, val, clock⟩) (clock + 1))) := by
  have hlt : r < w.heap.size := (Array.getElem?_eq_some_iff.1 hb).1
  simp only [Instr.mapUpdate, Sem.run_bind, run_underlying hm, Result.andThen_ok]
  simp [getObj, Sem.run, hb, run_checkKey_plain _ _ _ hk hp, Instr.findKey, run_underlying hk, hf, setObj, putObj]

theorem run_lookup_at {P : Program} {w : World} (mt kt et : TypeId) (d : TypeDesc) (r : Nat) (es : Array MapEntry) (clock : Nat) (key z : Value) (ok : Bool) (res : Option (Nat × Value))
    (hm : P.underlying mt = some (.map kt et)) (hk : P.underlying kt = some d) (hp : plainKey d = true) (hb : w.heap[r]? = some (.map es clock))
    (hf : Instr.findNow d key es.toList 0 = some res) (hz : (zeroValue et).run P w = .ok z w) :
    (Instr.lookup mt (.map (some r)) key ok).run P w = .ok (if ok then .tuple #[(res.map (·.2)).getD z, .bool res.isSome] else (res.map (·.2)).getD z) w := by
  simp only [Instr.lookup, Sem.run_bind, run_underlying hm, Result.andThen_ok]
  cases res <;> simp [getObj, Sem.run, hb, run_checkKey_plain _ _ _ hk hp, Instr.findKey, run_underlying hk, hf, hz]

end Go.Proofs.YtgffifleflkjoaaGreat

namespace Go.Proofs.YtgffifleflkjoaaGreat
open Go.RowKit

/-- Steps of one that owns the blocks O: whatever else was there is as it was. -/
structure Moves (O : Nat → Prop) (A B : World) : Prop where
  os : B.os = A.os
  tape : B.tape = A.tape
  output : B.output = A.output
  size : A.heap.size ≤ B.heap.size
  block : ∀ k, k < A.heap.size → ¬ O k → B.heap[k]? = A.heap[k]?

/-- The blocks K are as they were. -/
structure Keeps (K : Nat → Prop) (A B : World) : Prop where
  size : A.heap.size ≤ B.heap.size
  block : ∀ k, K k → k < A.heap.size → B.heap[k]? = A.heap[k]?

theorem Moves.refl (O : Nat → Prop) (A : World) : Moves O A A := ⟨rfl, rfl, rfl, Nat.le_refl _, fun _ _ _ => rfl⟩
theorem Keeps.refl (K : Nat → Prop) (A : World) : Keeps K A A := ⟨Nat.le_refl _, fun _ _ _ => rfl⟩
theorem Keeps.trans {K : Nat → Prop} {A B C : World} (h : Keeps K A B) (k : Keeps K B C) : Keeps K A C :=
  ⟨Nat.le_trans h.size k.size, fun i hi hl => (k.block i hi (Nat.lt_of_lt_of_le hl h.size)).trans (h.block i hi hl)⟩
theorem Keeps.mono {K K' : Nat → Prop} {A B : World} (h : Keeps K A B) (hk : ∀ i, K' i → K i) : Keeps K' A B := ⟨h.size, fun i hi => h.block i (hk i hi)⟩
theorem Keeps.of_below {K : Nat → Prop} {A B : World} (h : Below A.heap.size A B) : Keeps K A B := ⟨h.size, fun i _ hl => h.block i hl⟩
theorem Keeps.of_moves {K O : Nat → Prop} {A B : World} (h : Moves O A B) (hk : ∀ i, K i → ¬ O i) : Keeps K A B := ⟨h.size, fun i hi hl => h.block i hl (hk i hi)⟩
theorem Moves.trans {O O' : Nat → Prop} {A B C : World} (h : Moves O A B) (k : Moves O' B C) (ho : ∀ i, i < A.heap.size → O' i → O i) : Moves O A C :=
  ⟨k.os.trans h.os, k.tape.trans h.tape, k.output.trans h.output, Nat.le_trans h.size k.size, fun i hl hn => (k.block i (Nat.lt_of_lt_of_le hl h.size) (fun e => hn (ho i hl e))).trans (h.block i hl hn)⟩
theorem Moves.of_below {O : Nat → Prop} {A B : World} (h : Below A.heap.size A B) : Moves O A B := ⟨h.os, h.tape, h.output, h.size, fun i hl _ => h.block i hl⟩
theorem Moves.below {A B : World} (h : Moves (fun _ => False) A B) : Below A.heap.size A B := ⟨h.os, h.tape, h.output, h.size, fun i hl => h.block i hl (fun e => e)⟩
theorem Moves.mono {O O' : Nat → Prop} {A B : World} (h : Moves O A B) (ho : ∀ i, O i → O' i) : Moves O' A B := ⟨h.os, h.tape, h.output, h.size, fun i hl hn => h.block i hl (fun e => hn (ho i e))⟩

/-- What an invariant must abide: the steps of one that owns O, which may take new blocks into O. -/
def Stable {β : Type} (J : β → (Nat → Prop) → World → Prop) : Prop :=
  ∀ k (O O' : Nat → Prop) (A B : World), J k O A → Moves O A B → (∀ i, O i → O' i) → (∀ i, O' i → O i ∨ A.heap.size ≤ i) → J k O' B

/-- The contract of an iterator that tells the list xs, reading the blocks R and owning what it makes. -/
def Iter {α : Type} (P : Program) (gf : Nat) (lb : Array Value) (encs : α → Array Value) (xs : List α) (R : Nat → Prop) (w : World) : Prop :=
  ∀ (l : Nat) (J Jx : Nat → (Nat → Prop) → World → Prop) (W : World), Below w.heap.size w W → Stable J → Stable Jx →
    (∀ k x O W1, xs[k]? = some x → J k O W1 → YieldAt Fence.wide 0 P l (encs x) W1 fun e W' =>
      (e = .returned (.bool true) ∧ J (k + 1) O W' ∧ Keeps (fun i => O i ∨ R i) W1 W') ∨ (e = .returned (.bool false) ∧ Jx (k + 1) O W' ∧ Keeps (fun i => O i ∨ R i) W1 W')) →
    J 0 (fun _ => False) W →
    CallsIn Fence.wide 0 P gf (#[.func (.yield l) #[] #[]] ++ lb) W fun e W' => (∃ v, e = .returned v) ∧ ∃ O, (J xs.length O W' ∨ ∃ k, k ≤ xs.length ∧ Jx k O W')

/-- What stands behind the body of a round. -/
def iterPost {α : Type} (K : Nat → Prop) (I : Nat → (Nat → Prop) → World → Prop) (Ix : Code → Nat → (Nat → Prop) → World → Prop) (xs : List α) (k : Nat) (O : Nat → Prop) (W : World) : Exit → Act → World → Prop
  | .normal, _, W' => Keeps K W W' ∧ I (k + 1) O W'
  | .ret, _, W' => Keeps K W W' ∧ Ix .ret (k + 1) O W'
  | .exit id, _, W' => Keeps K W W' ∧ Ix (.exit id) (k + 1) O W'
  | .goto t, _, W' => Keeps K W W' ∧ Ix (.goto t) (k + 1) O W'
  | .panic _, _, _ => False
  | .outgrown, _, _ => False

/-- A predicate of worlds that the loop's own record does not touch. -/
def Blind (p : World → Prop) : Prop := ∀ (W : World) (l : Nat) (r : Loop) (o : Obj), W.heap[l]? = some (.loop r) → p W → p (W.putObj l o)

theorem moves_putObj {W : World} {l : Nat} (o : Obj) : Moves (fun i => i = l) W (W.putObj l o) :=
  ⟨rfl, rfl, rfl, by simp, fun k _ hk => World.putObj_heap_other hk⟩
theorem keeps_putObj {K : Nat → Prop} {W : World} {l : Nat} (o : Obj) (h : ¬ K l) : Keeps K W (W.putObj l o) :=
  ⟨by simp, fun k hk _ => World.putObj_heap_other (fun e => h (e ▸ hk))⟩

theorem wpIn_rangeIter {α : Type} {P : Program} {g : Operand} {ps : Array Tmp} {assign body : Code} {Q : Exit → Act → World → Prop} {a : Act} {w : World}
    {gf : Nat} {lb : Array Value} (hg : a.eval g = .func (.func gf) #[] lb) (eg : ∀ args w, (callFunc gf args).run P w = .ok (.enter gf args) w)
    {encs : α → Array Value} {xs : List α} {R : Nat → Prop} {w0 : World} (hseq : Iter P gf lb encs xs R w0) (hR : ∀ i, R i → i < w.heap.size) (hb0 : Below w0.heap.size w0 w) (hps : ∀ x, (encs x).size = ps.size)
    (I : Nat → (Nat → Prop) → World → Prop) (Ix : Code → Nat → (Nat → Prop) → World → Prop) (hI : Stable I) (hIx : ∀ c, Stable (Ix c))
    (hIb : ∀ k O (r : Loop) (o : Obj) W, W.heap[w.heap.size + 1]? = some (.loop r) → I k O W → I k O (W.putObj (w.heap.size + 1) o))
    (hIxb : ∀ c k O (r : Loop) (o : Obj) W, W.heap[w.heap.size + 1]? = some (.loop r) → Ix c k O W → Ix c k O (W.putObj (w.heap.size + 1) o))
    (h0 : ∀ W, Below w.heap.size w W → W.heap.size = w.heap.size + 2 → I 0 (fun _ => False) W) (Ax : α → Act → World → Prop) (hAx : ∀ x a', Blind (Ax x a'))
    (hassign : ∀ (k : Nat) (x : α) (O : Nat → Prop) (W : World), xs[k]? = some x → I k O W → w.heap.size + 1 < W.heap.size → ¬ O (w.heap.size + 1) → ¬ O w.heap.size →
      assign.wpIn (Fence.wide.inRound (w.heap.size + 1)) 0 P (Exit.then (fun a' W' => I k O W' ∧ Keeps (fun i => O i ∨ R i ∨ i = w.heap.size + 1 ∨ i = w.heap.size) W W' ∧ Ax x a' W') (fun _ _ _ => False)) { tmps := (ps.zip (encs x)).foldl (fun t (p, v) => t.setIfInBounds p v) a.tmps, defers := [] } W)
    (hbody : ∀ (k : Nat) (x : α) (O : Nat → Prop) (a' : Act) (W : World), xs[k]? = some x → (∃ r, W.heap[w.heap.size + 1]? = some (.loop r)) → (∃ o, W.heap[w.heap.size]? = some (.deferred o)) → ¬ O (w.heap.size + 1) → ¬ O w.heap.size → I k O W → Ax x a' W →
      body.wpIn (Fence.wide.inRound (w.heap.size + 1)) 0 P (iterPost (fun i => O i ∨ R i ∨ i = w.heap.size + 1 ∨ i = w.heap.size) I Ix xs k O W) a' W)
    (hdone : ∀ (O : Nat → Prop) (W : World), I xs.length O W → ¬ O w.heap.size → W.heap[w.heap.size]? = some (.deferred (some [])) → Q .normal { a with defers := { target := .collected w.heap.size, args := #[] } :: a.defers } W)
    (hstop : ∀ (c : Code) (k : Nat) (O : Nat → Prop) (W : World), k ≤ xs.length → Ix c k O W → ¬ O w.heap.size → W.heap[w.heap.size]? = some (.deferred (some [])) → c.wpIn Fence.wide 0 P Q { a with defers := { target := .collected w.heap.size, args := #[] } :: a.defers } W) :
    (Code.rangeFunc g ps assign body).wpIn Fence.wide 0 P Q a w := by
  refine wpIn_rangeFunc ?_
  intro fn hfn
  show ∃ (l : Nat) (mark : List Deferred) (w₁ : World) (d : Deferred) (w₁' : World) (f : FuncId) (args : Array Value) (w₂ : World),
      (Instr.enterLoop fn a.tmps ps assign body none).run P w = .ok (l, mark) w₁ ∧ _
  obtain ⟨rec, hrec⟩ : ∃ rec : LoopState → Option Code → Loop, rec = fun st pe => { state := st, pending := pe, fn, tmps := a.tmps, params := ps, assign, body, defers := w.heap.size } := ⟨_, rfl⟩
  obtain ⟨W1, hW1⟩ : ∃ W1, (w.alloc (.deferred (some []))).alloc (.loop (rec .ready none)) = W1 := ⟨_, rfl⟩
  have hL1 : W1.heap[w.heap.size + 1]? = some (.loop (rec .ready none)) := by
    rw [← hW1]; have := World.alloc_heap_new (w.alloc (.deferred (some []))) (.loop (rec .ready none)); rwa [World.size_alloc] at this
  have hK1 : W1.heap[w.heap.size]? = some (.deferred (some [])) := by
    rw [← hW1]; exact (Below.heap_alloc _ _ _ (by simp)).trans (World.alloc_heap_new w _)
  have hbw : Below w.heap.size w W1 := by
    rw [← hW1]; exact ((Below.refl _ w).alloc (Nat.le_refl _) _).alloc (by simp) _
  have hb1 : Below w0.heap.size w0 W1 := hb0.trans (hbw.mono hb0.size)
  have hI1 := h0 W1 hbw (by rw [← hW1]; simp)
  refine ⟨w.heap.size + 1, [{ target := .collected w.heap.size, args := #[] }], W1, { target := .fn (.func gf) lb, args := #[.func (.yield (w.heap.size + 1)) #[] #[]] }, W1, gf,
    #[.func (.yield (w.heap.size + 1)) #[] #[]] ++ lb, W1, ?_, ?_, ?_, ?_, (fun h => by cases h), ?_⟩
  · rw [← hW1, hrec]; exact run_enterLoop_outer _ _ _ _ _
  · simp only [resolve, hg]
    simp [go_sem]
  · intro f' _; trivial
  · simp [invoke, go_sem, eg]
  · have stay : ∀ (O O' : Nat → Prop) (A B : World) (k : Nat) (o : Obj), A.heap[k]? = some o → ¬ O k → Moves O A B → (∀ i, O' i → O i ∨ A.heap.size ≤ i) → B.heap[k]? = some o ∧ ¬ O' k := by
      intro O O' A B k o hk hn hm ho
      have hlt : k < A.heap.size := (Array.getElem?_eq_some_iff.1 hk).1
      exact ⟨(hm.block k hlt hn).trans hk, fun e => by rcases ho k e with h | h; exact hn h; omega⟩
    refine (hseq (w.heap.size + 1)
      (fun k O W => I k O W ∧ (W.heap[w.heap.size + 1]? = some (.loop (rec .ready none)) ∧ ¬ O (w.heap.size + 1)) ∧ (W.heap[w.heap.size]? = some (.deferred (some [])) ∧ ¬ O w.heap.size))
      (fun k O W => ∃ c, Ix c k O W ∧ (W.heap[w.heap.size + 1]? = some (.loop (rec .done (some c))) ∧ ¬ O (w.heap.size + 1)) ∧ (W.heap[w.heap.size]? = some (.deferred (some [])) ∧ ¬ O w.heap.size))
      W1 hb1
      (fun k O O' A B hs hm ho1 ho2 => ⟨hI k O O' A B hs.1 hm ho1 ho2, stay O O' A B _ _ hs.2.1.1 hs.2.1.2 hm ho2, stay O O' A B _ _ hs.2.2.1 hs.2.2.2 hm ho2⟩)
      (fun k O O' A B hs hm ho1 ho2 => by
        obtain ⟨c, hc, hl, hk⟩ := hs
        exact ⟨c, hIx c k O O' A B hc hm ho1 ho2, stay O O' A B _ _ hl.1 hl.2 hm ho2, stay O O' A B _ _ hk.1 hk.2 hm ho2⟩)
      ?_ ⟨hI1, ⟨hL1, fun h => h⟩, ⟨hK1, fun h => h⟩⟩).mono ?_
    · rintro k x O W hx ⟨hi, ⟨hl, hol⟩, ⟨hk, hok⟩⟩
      have hlt : w.heap.size + 1 < W.heap.size := (Array.getElem?_eq_some_iff.1 hl).1
      have hnR : ¬ R (w.heap.size + 1) := fun h => by have := hR _ h; omega
      have hy := run_yield (P := P) (args := encs x) hl (by rw [hrec]; exact hps x)
      rw [hrec] at hy
      refine ⟨fn, _, assign, body, hy, roundIn_of_wpIn hfn (wpIn_mono (hassign k x O W hx hi hlt hol hok) ?_)⟩
      clear hy
      intro e a' Wa hp
      cases e with
      | ret => exact hp.elim
      | exit id => exact hp.elim
      | goto t => exact hp.elim
      | panic ch => exact hp.elim
      | outgrown => exact hp.elim
      | normal =>
        obtain ⟨hia, hka, hax⟩ := hp
        have hla := (hka.block _ (Or.inr (Or.inr (Or.inl rfl))) hlt).trans hl
        have hda := (hka.block _ (Or.inr (Or.inr (Or.inr rfl))) (by omega)).trans hk
        have hlta : w.heap.size + 1 < Wa.heap.size := (Array.getElem?_eq_some_iff.1 hla).1
        refine ⟨_, run_beginRound hla (by rw [hrec]), ?_⟩
        generalize hWb : Wa.putObj (w.heap.size + 1) (.loop { rec .ready none with state := .busy }) = Wb
        have hl2 : Wb.heap[w.heap.size + 1]? = some (.loop { rec .ready none with state := .busy }) := by rw [← hWb]; exact World.putObj_heap_same hlta
        have hk2 : Wb.heap[w.heap.size]? = some (.deferred (some [])) := by rw [← hWb]; exact (World.putObj_heap_other (by omega)).trans hda
        have hib : I k O Wb := by rw [← hWb]; exact hIb k O _ _ _ hla hia
        have hab : Ax x a' Wb := by rw [← hWb]; exact hAx x a' _ _ _ _ hla hax
        have hkb : Keeps (fun i => O i ∨ R i) W Wb := by
          rw [← hWb]
          exact (hka.mono (fun i hi => by rcases hi with h | h; exact Or.inl h; exact Or.inr (Or.inl h))).trans (keeps_putObj _ (fun h => by rcases h with h | h; exact hol h; exact hnR h))
        refine wpIn_mono (hbody k x O a' Wb hx ⟨_, hl2⟩ ⟨_, hk2⟩ hol hok hib hab) ?_
        have fin : ∀ (jump : Option Code) (W3 : World), Keeps (fun i => O i ∨ R i ∨ i = w.heap.size + 1 ∨ i = w.heap.size) Wb W3 →
            (Instr.endRound (w.heap.size + 1) jump).run P W3 = .ok (.bool jump.isNone) (W3.putObj (w.heap.size + 1) (.loop (rec (if jump.isNone then .ready else .done) jump))) ∧
            W3.heap[w.heap.size + 1]? = some (.loop { rec .ready none with state := .busy }) ∧
            (W3.putObj (w.heap.size + 1) (.loop (rec (if jump.isNone then .ready else .done) jump))).heap[w.heap.size + 1]? = some (.loop (rec (if jump.isNone then .ready else .done) jump)) ∧
            (W3.putObj (w.heap.size + 1) (.loop (rec (if jump.isNone then .ready else .done) jump))).heap[w.heap.size]? = some (.deferred (some [])) ∧
            Keeps (fun i => O i ∨ R i) W (W3.putObj (w.heap.size + 1) (.loop (rec (if jump.isNone then .ready else .done) jump))) := by
          intro jump W3 hk3
          have hl3 := (hk3.block _ (Or.inr (Or.inr (Or.inl rfl))) (Array.getElem?_eq_some_iff.1 hl2).1).trans hl2
          have hd3 := (hk3.block _ (Or.inr (Or.inr (Or.inr rfl))) (Array.getElem?_eq_some_iff.1 hk2).1).trans hk2
          have := run_endRound (P := P) jump hl3
          refine ⟨by rw [hrec] at this ⊢; exact this, hl3, World.putObj_heap_same (Array.getElem?_eq_some_iff.1 hl3).1, (World.putObj_heap_other (by omega)).trans hd3, ?_⟩
          exact (hkb.trans (hk3.mono (fun i hi => by rcases hi with h | h; exact Or.inl h; exact Or.inr (Or.inl h)))).trans (keeps_putObj _ (fun h => by rcases h with h | h; exact hol h; exact hnR h))
        rintro e a3 W3 hp
        cases e with
        | normal =>
          obtain ⟨hk3, hi3⟩ := hp
          obtain ⟨hr, hl3, hl4, hk4, hkk⟩ := fin none W3 hk3
          exact ⟨_, _, hr, .inl ⟨rfl, ⟨hIb _ _ _ _ _ hl3 hi3, ⟨hl4, hol⟩, ⟨hk4, hok⟩⟩, hkk⟩⟩
        | ret =>
          obtain ⟨hk3, hi3⟩ := hp
          obtain ⟨hr, hl3, hl4, hk4, hkk⟩ := fin (some .ret) W3 hk3
          exact ⟨_, _, hr, .inr ⟨rfl, ⟨.ret, hIxb _ _ _ _ _ _ hl3 hi3, ⟨hl4, hol⟩, ⟨hk4, hok⟩⟩, hkk⟩⟩
        | exit id =>
          obtain ⟨hk3, hi3⟩ := hp
          obtain ⟨hr, hl3, hl4, hk4, hkk⟩ := fin (some (.exit id)) W3 hk3
          exact ⟨_, _, hr, .inr ⟨rfl, ⟨.exit id, hIxb _ _ _ _ _ _ hl3 hi3, ⟨hl4, hol⟩, ⟨hk4, hok⟩⟩, hkk⟩⟩
        | goto t =>
          obtain ⟨hk3, hi3⟩ := hp
          obtain ⟨hr, hl3, hl4, hk4, hkk⟩ := fin (some (.goto t)) W3 hk3
          exact ⟨_, _, hr, .inr ⟨rfl, ⟨.goto t, hIxb _ _ _ _ _ _ hl3 hi3, ⟨hl4, hol⟩, ⟨hk4, hok⟩⟩, hkk⟩⟩
        | panic ch => exact hp.elim
        | outgrown => exact hp.elim
    · rintro e W2 ⟨⟨v, rfl⟩, O, (⟨hi, ⟨hl, hol⟩, ⟨hk, hok⟩⟩ | ⟨k, hkx, c, hi, ⟨hl, hol⟩, ⟨hk, hok⟩⟩)⟩
      · exact ⟨none, _, by have := run_endLoop (P := P) hl (by rw [hrec]; simp); rw [hrec] at this; exact this, hdone O _ (hIb _ _ _ _ _ hl hi) hok ((World.putObj_heap_other (by omega)).trans hk)⟩
      · exact ⟨some c, _, by have := run_endLoop (P := P) hl (by rw [hrec]; simp); rw [hrec] at this; exact this, hstop c k O _ hkx (hIxb _ _ _ _ _ _ hl hi) hok ((World.putObj_heap_other (by omega)).trans hk)⟩

theorem stepR_scope {P : Program} {b : Frame} {a : Act} {k : List Item} {cs : List Frame} {w : World} {c : Code} :
    step P (lone (b.atR a (.code (.scope c) :: k)) cs w) = .next (lone (b.atR a (.code c :: .inScope c :: k)) cs w) :=
  step_lone_go (by simp [stepG, stepG.exec, Frame.atR])
theorem stepR_inScope {P : Program} {b : Frame} {a : Act} {k : List Item} {cs : List Frame} {w : World} {c : Code} :
    step P (lone (b.atR a (.inScope c :: k)) cs w) = .next (lone (b.atR a k) cs w) :=
  step_lone_go (by simp [stepG, stepG.exec, Frame.atR])

/-- A scope through which the run goes without a goto, under a fence. -/
theorem wpIn_scope {F : Fence} {n : Nat} {P : Program} {Q : Exit → Act → World → Prop} {a : Act} {w : World} {c : Code} (h : c.wpIn F n P (Exit.noGoto Q) a w) : (Code.scope c).wpIn F n P Q a w := by
  intro b k cs hro hb hr
  have h0 : (lone (b.atR a (.code (.scope c) :: k)) cs w).fenced P F := fenced_calm hb hr rfl
  obtain ⟨e, a₁, w₁, hq, harr⟩ := h b (.inScope c :: k) cs hro hb hr
  have hx : ∀ id, exitTo id (.inScope c :: k) = exitTo id k := fun id => by simp [exitTo]
  cases e with
  | normal => exact ⟨.normal, a₁, w₁, hq, .head h0 stepR_scope (StepsIn.trans harr (.one (fenced_calm hb hr rfl) stepR_inScope))⟩
  | exit id => exact ⟨.exit id, a₁, w₁, hq, fun k' hk => .head h0 stepR_scope (harr.1 k' (by rw [hx]; exact hk)),
      fun hr' hk => let ⟨k₁, h1, h2⟩ := harr.2 hr' (by rw [hx]; exact hk); ⟨k₁, h1, .head h0 stepR_scope h2⟩⟩
  | goto l => exact hq.elim
  | ret => exact ⟨_, a₁, w₁, hq, .of_steps (.one h0 stepR_scope) harr⟩
  | panic ch => exact ⟨_, a₁, w₁, hq, .of_steps (.one h0 stepR_scope) harr⟩
  | outgrown => exact ⟨_, a₁, w₁, hq, .of_steps (.one h0 stepR_scope) harr⟩

/-- A label ahead of code. -/
theorem wpIn_label_seq {F : Fence} {n : Nat} {P : Program} {Q : Exit → Act → World → Prop} {a : Act} {w : World} {l : Nat} {c : Code} (h : c.wpIn F n P Q a w) : (Code.seq (.label l) c).wpIn F n P Q a w :=
  wpIn_seq (wpIn_label h)

/-- A function that leaves with the mark of one such loop. -/
theorem leaves_mark {P : Program} {fn : Func} {tmps : Array Value} {R : Ending → World → Prop} {D : Nat} {w : World} {v : Value}
    (hD : w.heap[D]? = some (.deferred (some []))) (hr : (results fn tmps).run P (w.putObj D (.deferred none)) = .ok v (w.putObj D (.deferred none)))
    (h : R (.returned v) (w.putObj D (.deferred none))) : LeavesInM Fence.wide 0 P fn tmps R [{ target := .collected D, args := #[] }] .returning w :=
  ⟨by simp, .inl ⟨D, _, rfl, run_takeDeferred hD, ⟨v, hr, h⟩⟩⟩

theorem heap_at {w : World} {n : Nat} (o : Obj) (h : n = w.heap.size) : (w.alloc o).heap[n]? = some o := by subst h; exact heap_alloc_last w o
theorem heap_past {w : World} {n : Nat} {o o' : Obj} (h : n < w.heap.size) (k : w.heap[n]? = some o) : (w.alloc o').heap[n]? = some o := (heap_old_own w o' n h).trans k

/-- A function that leaves with the marks of some such loops. -/
theorem leaves_marks {P : Program} {fn : Func} {tmps : Array Value} {R : Ending → World → Prop} : ∀ (ds : List Nat) (w : World), ds.Nodup →
    (∀ D ∈ ds, w.heap[D]? = some (.deferred (some []))) → (∀ w', Moves (fun i => i ∈ ds) w w' → ∃ v, (results fn tmps).run P w' = .ok v w' ∧ R (.returned v) w') →
    LeavesInM Fence.wide 0 P fn tmps R (ds.map fun D => { target := .collected D, args := #[] }) .returning w
  | [], w, _, _, h => h w (Moves.refl _ _)
  | D :: ds, w, hn, hd, h => by
    have hD := hd D (List.mem_cons_self ..)
    have hn' := List.nodup_cons.1 hn
    refine ⟨by simp, .inl ⟨D, _, rfl, run_takeDeferred hD, leaves_marks ds _ hn'.2 (fun E hE => ?_) (fun w' hm => h w' ?_)⟩⟩
    · have hne : E ≠ D := fun e => hn'.1 (by rw [← e]; exact hE)
      rw [World.putObj_heap_other hne]
      exact hd E (List.mem_cons_of_mem _ hE)
    · refine Moves.trans ((moves_putObj (l := D) _).mono (fun i e => by subst e; exact List.mem_cons_self ..)) hm (fun i _ hi => List.mem_cons_of_mem _ hi)

/-- Rounds of a loop, by what holds at each round's head. -/
theorem roundsIn_by {F : Fence} {n : Nat} {P : Program} {c : Code} {Q : Exit → Act → World → Prop} (S : Nat → Act → World → Prop)
    (hz : ∀ a w, ¬ S 0 a w) (hs : ∀ m a w, S (m + 1) a w → c.wpIn F n P (Exit.then (S m) Q) a w) : ∀ m a w, S m a w → Code.roundsIn F n P c Q m a w
  | 0, a, w, h => (hz a w h).elim
  | m + 1, a, w, h => by
    rw [roundsIn_succ]
    refine wpIn_mono (hs m a w h) (fun e a' w' he => ?_)
    cases e with
    | normal => exact roundsIn_by S hz hs m a' w' he
    | _ => exact he

end Go.Proofs.YtgffifleflkjoaaGreat
