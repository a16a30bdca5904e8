/-
  CRC-32C, in plain Lean: a step, a byte, sealed bytes; what a burst of bits does.
  Numbers, texts and frames as bytes, in plain Lean.
  evlog: an engine, in plain Lean.
  evlog: bounds of what an engine lays, plain.
  evlog: what stays true of an engine, plain.
  evlog: an engine on a disk that takes each step, plain.
  evlog: the chapter's rows, plain.
  evlog: the bounds, plain.
-/
import Derived.Test.YtgffifleflkjoaaGreatG01
import Derived.Test.YtgffifleflkjoaaGreatRows
import Derived.Maps.Ext
import Derived.Sort.KeysCollected
import Derived.ChangeMaps

namespace Go.Proofs.YtgffifleflkjoaaGreat.Cm

def poly : Nat := 2197175160
def step (w : Nat) : Nat := w / 2 ^^^ (if w % 2 = 1 then poly else 0)
def steps : Nat → Nat → Nat
  | 0, w => w
  | n + 1, w => steps n (step w)
def tab (i : Nat) : Nat := steps 8 i
def byteOn (w c : Nat) : Nat := w / 256 ^^^ tab ((w ^^^ c) % 256)
def regOn (w : Nat) (l : List UInt8) : Nat := l.foldl (fun w c => byteOn w c.toNat) w
def top : Nat := 4294967295
def sum (l : List UInt8) : Nat := top - regOn top l
def low (n : Nat) (k : Nat) : List UInt8 := (List.range k).map fun i => UInt8.ofNat (n / 256 ^ i % 256)
def sealed (l : List UInt8) : List UInt8 := l ++ low (sum l) 4

theorem half_xor (a b : Nat) : (a ^^^ b) / 2 = a / 2 ^^^ b / 2 := by
  have h := Nat.shiftRight_xor_distrib (a := a) (b := b) (i := 1)
  simpa [Nat.shiftRight_eq_div_pow] using h

theorem mod2_xor (a b : Nat) : (a ^^^ b) % 2 = (a % 2 + b % 2) % 2 := by
  have h := Nat.testBit_xor a b 0
  simp only [Nat.testBit_zero] at h
  rcases Nat.mod_two_eq_zero_or_one a with ha | ha <;> rcases Nat.mod_two_eq_zero_or_one b with hb | hb <;> rcases Nat.mod_two_eq_zero_or_one (a ^^^ b) with hc | hc <;> simp [ha, hb, hc] at h ⊢

theorem step_xor (a b : Nat) : step (a ^^^ b) = step a ^^^ step b := by
  unfold step
  rw [half_xor, mod2_xor]
  rcases Nat.mod_two_eq_zero_or_one a with ha | ha <;> rcases Nat.mod_two_eq_zero_or_one b with hb | hb <;> simp only [ha, hb] <;> simp
  · rw [Nat.xor_assoc]
  · rw [Nat.xor_assoc, Nat.xor_assoc, Nat.xor_comm poly]
  · rw [Nat.xor_comm (b / 2) poly, ← Nat.xor_assoc, Nat.xor_assoc (a / 2) poly poly, Nat.xor_self, Nat.xor_zero]

theorem steps_xor : ∀ (n a b : Nat), steps n (a ^^^ b) = steps n a ^^^ steps n b
  | 0, _, _ => rfl
  | n + 1, a, b => by rw [steps, step_xor, steps_xor n]; rfl

theorem steps_add : ∀ (n m w : Nat), steps (n + m) w = steps m (steps n w)
  | 0, m, w => by rw [Nat.zero_add]; rfl
  | n + 1, m, w => by rw [show n + 1 + m = (n + m) + 1 by omega, steps, steps_add n m]; rfl

theorem steps_shift : ∀ (n h : Nat), steps n (h * 2 ^ n) = h
  | 0, h => by simp [steps]
  | n + 1, h => by
    have e : h * 2 ^ (n + 1) = 2 * (h * 2 ^ n) := by rw [Nat.pow_succ]; ac_rfl
    rw [steps, step, e, Nat.mul_mod_right, if_neg (by decide), Nat.xor_zero, Nat.mul_div_cancel_left _ (by decide), steps_shift n]

/-- A number's lower bits, and the others. -/
theorem xor_split (w n : Nat) : w = (w / 2 ^ n) * 2 ^ n ^^^ w % 2 ^ n := by
  apply Nat.eq_of_testBit_eq
  intro i
  rw [Nat.testBit_xor, Nat.testBit_mul_two_pow, Nat.testBit_mod_two_pow, Nat.testBit_div_two_pow]
  by_cases h : i < n
  · simp [h, show ¬ n ≤ i by omega]
  · simp [h, show n ≤ i by omega, show i - n + n = i by omega]

theorem xor_lt {a b n : Nat} (ha : a < 2 ^ n) (hb : b < 2 ^ n) : a ^^^ b < 2 ^ n := Nat.xor_lt_two_pow ha hb

theorem byteOn_steps (w c : Nat) (hc : c < 256) : byteOn w c = steps 8 (w ^^^ c) := by
  have e1 : (w ^^^ c) / 256 = w / 256 := by
    rw [show (256 : Nat) = 2 ^ 8 by rfl, ← Nat.shiftRight_eq_div_pow, ← Nat.shiftRight_eq_div_pow, Nat.shiftRight_xor_distrib, Nat.shiftRight_eq_div_pow c, Nat.div_eq_of_lt hc, Nat.xor_zero]
  have e2 := xor_split (w ^^^ c) 8
  rw [show (2 : Nat) ^ 8 = 256 by rfl, e1] at e2
  rw [e2, steps_xor]
  have := steps_shift 8 (w / 256)
  rw [show (2 : Nat) ^ 8 = 256 by rfl] at this
  rw [this]
  rfl

theorem step_lt {w : Nat} (h : w < 2 ^ 32) : step w < 2 ^ 32 := by
  unfold step
  refine xor_lt (by omega) ?_
  split <;> decide

theorem steps_lt : ∀ (n : Nat) {w : Nat}, w < 2 ^ 32 → steps n w < 2 ^ 32
  | 0, _, h => h
  | n + 1, _, h => steps_lt n (step_lt h)

theorem step_zero {w : Nat} (h : w < 2 ^ 32) (hz : step w = 0) : w = 0 := by
  unfold step at hz
  have e : w / 2 = if w % 2 = 1 then poly else 0 := by
    have := congrArg (fun x => x ^^^ (if w % 2 = 1 then poly else 0)) hz
    simpa [Nat.xor_assoc] using this
  split at e
  · have : poly = 2197175160 := rfl
    omega
  · omega

theorem steps_zero : ∀ (n : Nat) {w : Nat}, w < 2 ^ 32 → steps n w = 0 → w = 0
  | 0, _, _, h => h
  | n + 1, _, h, hz => step_zero h (steps_zero n (step_lt h) hz)

theorem steps_inj {n a b : Nat} (ha : a < 2 ^ 32) (hb : b < 2 ^ 32) (h : steps n a = steps n b) : a = b := by
  have h1 : steps n (a ^^^ b) = 0 := by rw [steps_xor, h, Nat.xor_self]
  have h2 := steps_zero n (xor_lt ha hb) h1
  have := congrArg (· ^^^ b) h2
  simpa [Nat.xor_assoc] using this

theorem regOn_lt : ∀ (l : List UInt8) {w : Nat}, w < 2 ^ 32 → regOn w l < 2 ^ 32
  | [], _, h => h
  | c :: l, w, h => by
    have hc := c.toNat_lt
    have : byteOn w c.toNat < 2 ^ 32 := by
      rw [byteOn_steps _ _ hc]
      exact steps_lt _ (xor_lt h (Nat.lt_trans hc (by decide)))
    exact regOn_lt l this

theorem regOn_append (w : Nat) (l k : List UInt8) : regOn w (l ++ k) = regOn (regOn w l) k := by simp [regOn]
/-- The number of bytes, the lowest ahead. -/
def num : List UInt8 → Nat
  | [] => 0
  | c :: l => c.toNat + 256 * num l

theorem num_lt : ∀ l : List UInt8, num l < 256 ^ l.length
  | [] => by simp [num]
  | c :: l => by
    have := num_lt l
    have hc := c.toNat_lt
    rw [num, List.length_cons, Nat.pow_succ]
    omega

theorem num_append : ∀ l k : List UInt8, num (l ++ k) = num l + 256 ^ l.length * num k
  | [], k => by simp [num]
  | c :: l, k => by
    rw [List.cons_append, num, num_append l k, num, List.length_cons, Nat.pow_succ, Nat.mul_add]
    rw [show 256 * (256 ^ l.length * num k) = 256 ^ l.length * 256 * num k by ac_rfl]
    omega

theorem num_inj : ∀ {l k : List UInt8}, l.length = k.length → num l = num k → l = k
  | [], [], _, _ => rfl
  | [], _ :: _, h, _ => by simp at h
  | _ :: _, [], h, _ => by simp at h
  | c :: l, d :: k, h, e => by
    rw [num, num] at e
    have hc := c.toNat_lt
    have hd := d.toNat_lt
    have e1 : c.toNat = d.toNat := by omega
    have e2 : num l = num k := by omega
    rw [UInt8.toNat_inj.1 e1, num_inj (by simpa using h) e2]

theorem xor_low (c n : Nat) (hc : c < 256) : c + 256 * n = c ^^^ n * 2 ^ 8 := by
  have := Nat.two_pow_add_eq_or_of_lt (i := 8) (show c < 2 ^ 8 from hc) n
  have h2 : (2 ^ 8 * n) &&& c = 0 := by
    apply Nat.eq_of_testBit_eq
    intro i
    rw [Nat.testBit_and, Nat.mul_comm, Nat.testBit_mul_two_pow]
    by_cases h : 8 ≤ i
    · have : c.testBit i = false := Nat.testBit_lt_two_pow (Nat.lt_of_lt_of_le hc (by
        have : 2 ^ 8 ≤ 2 ^ i := Nat.pow_le_pow_right (by omega) h
        simpa using this))
      simp [this]
    · simp [h]
  apply Nat.eq_of_testBit_eq
  intro i
  rw [show c + 256 * n = 2 ^ 8 * n + c by omega, this, Nat.testBit_or, Nat.testBit_xor, Nat.mul_comm n]
  have h3 := congrArg (fun x => x.testBit i) h2
  simp only [Nat.testBit_and, Nat.zero_testBit] at h3
  cases h4 : (2 ^ 8 * n).testBit i <;> cases h5 : c.testBit i <;> simp [h4, h5] at h3 ⊢

theorem regOn_steps : ∀ (l : List UInt8) (w : Nat), regOn w l = steps (8 * l.length) (w ^^^ num l)
  | [], w => by simp [regOn, num, steps]
  | c :: l, w => by
    have hc := c.toNat_lt
    show regOn (byteOn w c.toNat) l = _
    rw [regOn_steps l, byteOn_steps _ _ hc, List.length_cons, show 8 * (l.length + 1) = 8 + 8 * l.length by omega, steps_add]
    congr 1
    rw [num, xor_low _ _ hc, ← Nat.xor_assoc, steps_xor, steps_xor 8 (w ^^^ c.toNat), steps_shift 8, steps_xor]

theorem num_low : ∀ (k n : Nat), num ((List.range k).map fun i => UInt8.ofNat (n / 256 ^ i % 256)) = n % 256 ^ k
  | 0, n => by simp [num, Nat.mod_one]
  | k + 1, n => by
    rw [List.range_succ_eq_map, List.map_cons, List.map_map, num]
    have e : (fun i => UInt8.ofNat (n / 256 ^ i % 256)) ∘ Nat.succ = fun i => UInt8.ofNat (n / 256 / 256 ^ i % 256) := by
      funext i
      simp only [Function.comp, Nat.pow_succ, Nat.succ_eq_add_one]
      rw [Nat.div_div_eq_div_mul, Nat.mul_comm 256]
    rw [e, num_low k (n / 256)]
    have h0 : (UInt8.ofNat (n / 256 ^ 0 % 256)).toNat = n % 256 := by simp
    rw [h0, Nat.pow_succ, Nat.mul_comm (256 ^ k), Nat.mod_mul]

theorem low_length (n k : Nat) : (low n k).length = k := by simp [low]

theorem top_sub {r : Nat} (h : r < 2 ^ 32) : top - r = top ^^^ r := by
  have e : top = 2 ^ 32 - 1 := rfl
  apply Nat.eq_of_testBit_eq
  intro i
  rw [e, show 2 ^ 32 - 1 - r = 2 ^ 32 - (r + 1) by omega, Nat.testBit_two_pow_sub_succ h i, Nat.testBit_xor, Nat.testBit_two_pow_sub_one]
  by_cases hi : i < 32
  · simp [hi]
  · have : r.testBit i = false := Nat.testBit_lt_two_pow (Nat.lt_of_lt_of_le h (Nat.pow_le_pow_right (by omega) (by omega)))
    simp [hi, this]

/-- Sealed bytes are those whose register comes to one number. -/
theorem sealed_iff (b q : List UInt8) (hq : q.length = 4) : sealed b = b ++ q ↔ regOn top (b ++ q) = steps 32 top := by
  have hr : regOn top b < 2 ^ 32 := regOn_lt b (by decide)
  have hqn : num q < 2 ^ 32 := by have := num_lt q; rw [hq] at this; exact this
  have hs : sum b < 2 ^ 32 := by unfold sum top; omega
  rw [regOn_append, regOn_steps q, hq, show 8 * 4 = 32 by rfl]
  unfold sealed
  rw [List.append_cancel_left_eq]
  have hn : num (low (sum b) 4) = sum b := by
    unfold low
    rw [num_low, Nat.mod_eq_of_lt]
    exact hs
  constructor
  · intro h
    rw [← h, hn]
    unfold sum
    rw [top_sub hr, Nat.xor_comm top, ← Nat.xor_assoc, Nat.xor_self, Nat.zero_xor]
  · intro h
    have h1 := steps_inj (xor_lt hr hqn) (by decide) h
    refine num_inj (by rw [low_length, hq]) ?_
    rw [hn]
    unfold sum
    rw [top_sub hr]
    have h2 := congrArg (fun x => regOn top b ^^^ x) h1
    simp only [← Nat.xor_assoc, Nat.xor_self, Nat.zero_xor] at h2
    rw [h2, Nat.xor_comm]

/-- Bits that are turned within 32 that follow one another are seen. -/
theorem burst {l k : List UInt8} {e f : Nat} (hl : l.length = k.length) (hf : f ≤ 8 * l.length) (he : e < 2 ^ 32) (hk : num k = num l ^^^ e * 2 ^ f) (h : regOn top k = regOn top l) : e = 0 := by
  rw [regOn_steps, regOn_steps, ← hl, hk, ← Nat.xor_assoc, steps_xor] at h
  have h1 : steps (8 * l.length) (e * 2 ^ f) = 0 := by
    have := congrArg (fun x => steps (8 * l.length) (top ^^^ num l) ^^^ x) h
    simpa [← Nat.xor_assoc] using this
  rw [show 8 * l.length = f + (8 * l.length - f) by omega, steps_add, steps_shift] at h1
  exact steps_zero _ he h1
end Go.Proofs.YtgffifleflkjoaaGreat.Cm

namespace Go.Proofs.YtgffifleflkjoaaGreat.Wm
open Cm

abbrev Bytes := List UInt8

/-- A number's lowest bytes, the highest ahead. -/
def high (n : Nat) (k : Nat) : Bytes := (List.range k).map fun i => UInt8.ofNat (n / 256 ^ (k - 1 - i) % 256)

def wnum (n : Nat) : Bytes :=
  if n < 253 then [UInt8.ofNat n] else if n < 65536 then 253 :: high n 2 else if n < 4294967296 then 254 :: high n 4 else 255 :: high n 8

/-- The number of bytes, the highest ahead. -/
def hnum (b : Bytes) : Nat := b.foldl (fun n c => 256 * n + c.toNat) 0

def topN : Nat := 4611686018427387904

def many (c : UInt8) : Nat := if c = 253 then 2 else if c = 254 then 4 else if c = 255 then 8 else 0

/-- The first number of bytes, how many bytes it has; 0: bytes lack; -1: it is none. -/
def first (b : Bytes) : Nat × Int :=
  match b with
  | [] => (0, 0)
  | c :: r =>
    if many c = 0 then (c.toNat, 1)
    else if r.length < many c then (0, 0)
    else
      let n := hnum (r.take (many c))
      if n > topN ∨ (wnum n).length ≠ 1 + many c then (0, -1) else (n, 1 + (many c : Int))

def wtext (s : Bytes) : Bytes := wnum s.length ++ s
def wtruth (b : Bool) : Bytes := [if b then 1 else 0]
def frame (b : Bytes) : Bytes := wnum (sealed b).length ++ sealed b

/-- The bytes of sealed ones. -/
def opened (b : Bytes) : Option Bytes := if b.length < 4 then none else if sealed (b.take (b.length - 4)) = b then some (b.take (b.length - 4)) else none

/-- The first frame: its body, how many bytes it has; none: bytes lack, or it is none. -/
def split (b : Bytes) : Option (Bytes × Nat) :=
  let f := first b
  if f.2 ≤ 0 ∨ f.1 < 4 ∨ f.1 > 8196 then none
  else if (b.length : Int) - f.2 < f.1 then none
  else match opened ((b.drop f.2.toNat).take f.1) with
    | some body => some (body, f.2.toNat + f.1)
    | none => none

/-- Why there is no first frame: an error, or 0 (bytes lack). -/
def splitErr (b : Bytes) : Int :=
  let f := first b
  if f.2 = 0 then 0 else if f.2 < 0 ∨ f.1 < 4 ∨ f.1 > 8196 then 141 else if (b.length : Int) - f.2 < f.1 then 0 else 130

/-- Parts taken off a record. -/
def rnum (most : Nat) (b : Bytes) : Option (Nat × Bytes) :=
  let f := first b
  if f.2 ≤ 0 ∨ f.1 > most then none else some (f.1, b.drop f.2.toNat)
def rtext (most : Nat) (b : Bytes) : Option (Bytes × Bytes) :=
  match rnum most b with
  | none => none
  | some (n, r) => if n > r.length then none else some (r.take n, r.drop n)
def rtruth (b : Bytes) : Option (Bool × Bytes) :=
  match b with
  | [] => none
  | c :: r => if c > 1 then none else some (c == 1, r)
end Go.Proofs.YtgffifleflkjoaaGreat.Wm

namespace Go.Proofs.YtgffifleflkjoaaGreat.Em
open Go.Maps Cm

abbrev Bytes := List UInt8
abbrev Rows := DataW Unit

structure Change where
  key : Bytes
  value : Bytes
  gone : Bool

def Change.wrong (c : Change) : Bool := c.key.isEmpty || (c.gone && !c.value.isEmpty)
def Change.long (c : Change) : Bool := decide (64 < c.key.length) || decide (4096 < c.value.length)
def right (l : List Change) : Int := if l.any Change.wrong = true then 2 else if 64 < l.length then 3 else if l.any Change.long = true then 3 else 0

def one (D : Rows) (c : Change) : Rows := if c.gone = true then D.del (.string c.key) else D.put (.string c.key) (.lit (.string c.value))
def behind (D : Rows) (l : List Change) : Rows := l.foldl one D
def doneErr (D : Rows) (l : List Change) : Int := if right l ≠ 0 then right l else if 256 < size (behind D l) then 3 else 0

def framed (b : Bytes) : Bytes := if 8192 < b.length then [] else Wm.frame b
def laid (c : Change) : Bytes := Wm.wtruth c.gone ++ Wm.wtext c.key ++ (if c.gone = true then [] else Wm.wtext c.value)
def batchBody (l : List Change) : Bytes := Wm.wnum 3 ++ Wm.wnum l.length ++ l.flatMap laid
def batched (l : List Change) : Bytes := framed (batchBody l)
def skeys (D : Rows) : List Bytes := (strKeys D).mergeSort leB
def valueOf (D : Rows) (k : Bytes) : Bytes := match D.atKey (.string k) (.lit (.string [])) with | .lit (.string v) => v | _ => []
def rowOf (D : Rows) (k : Bytes) : Bytes := framed (Wm.wnum 2 ++ Wm.wtext k ++ Wm.wtext (valueOf D k))
def folded (g : Nat) (D : Rows) : Bytes := framed (Wm.wnum 1 ++ Wm.wnum g ++ Wm.wnum (size D)) ++ (skeys D).flatMap (rowOf D)

/-- An engine: its tape's number, generation, rows, how many batches, the tape's end; its disk; whether it is gone. -/
structure E where
  tp : Nat
  gen : Nat
  rows : Rows
  batches : Nat
  fin : Nat
  d : Dm.D
  gone : Bool

def next (r : Dm.D × Int) (f : Dm.D → Dm.D × Int) : Dm.D × Int := if r.2 = 0 then f r.1 else r
def emptied (d : Dm.D) (t : Nat) : Dm.D × Int := if (d.stand.tp t).length = 0 then (d, 0) else d.cut t 0
def wrote (d : Dm.D) (t : Nat) (b : Bytes) : Dm.D × Int := next (d.append t b) Dm.D.sync
def rewrote (d : Dm.D) (t : Nat) (b : Bytes) : Dm.D × Int := next (next (emptied d t) fun d => d.append t b) Dm.D.sync

def E.put (e : E) (D : Rows) (b : Bytes) : E × Int :=
  if 32 ≤ e.batches ∨ b.length = 0 ∨ e.d.room / 2 < e.fin + b.length then (e, 280)
  else ({ e with d := (wrote e.d e.tp b).1, rows := if (wrote e.d e.tp b).2 = 0 then D else e.rows, batches := if (wrote e.d e.tp b).2 = 0 then e.batches + 1 else e.batches,
                 fin := if (wrote e.d e.tp b).2 = 0 then e.fin + b.length else e.fin }, (wrote e.d e.tp b).2)

def E.fold (e : E) (D : Rows) : E × Int :=
  if 2147483647 ≤ e.gen then (e, 280)
  else
    let b := folded (e.gen + 1) D
    let r := rewrote e.d (1 - e.tp) b
    (if r.2 = 0 then ⟨1 - e.tp, e.gen + 1, D, 0, b.length, r.1, e.gone⟩ else { e with d := r.1 }, r.2)

def E.step (e : E) (D : Rows) (b : Bytes) : E × Int := if (e.put D b).2 = 280 then (e.put D b).1.fold D else e.put D b

def E.commit (e : E) (l : List Change) : E × Int :=
  if doneErr e.rows l ≠ 0 then (e, doneErr e.rows l)
  else if e.gone = true then (e, 290)
  else ({ (e.step (behind e.rows l) (batched l)).1 with gone := decide ((e.step (behind e.rows l) (batched l)).2 = 281) }, (e.step (behind e.rows l) (batched l)).2)

/-- One of a disk without an engine. -/
def begun (d : Dm.D) : E × Int :=
  let b := folded 1 (.map [])
  let r := rewrote d 0 b
  (⟨0, 1, .map [], 0, b.length, r.1, false⟩, r.2)

end Go.Proofs.YtgffifleflkjoaaGreat.Em

namespace Go.Proofs.YtgffifleflkjoaaGreat.Em
open Go.Maps Cm

def RowOk (p : Lit × DataW Unit) : Prop := ∃ k v : Bytes, p = (.string k, .lit (.string v)) ∧ k ≠ [] ∧ k.length ≤ 64 ∧ v.length ≤ 4096
def RowsOk (D : Rows) : Prop := ∃ es, D = .map es ∧ ∀ p ∈ es, RowOk p

theorem right_zero {l : List Change} (h : right l = 0) : l.length ≤ 64 ∧ ∀ c ∈ l, c.wrong = false ∧ c.long = false := by
  unfold right at h
  by_cases h1 : l.any Change.wrong = true
  · rw [if_pos h1] at h; cases h
  · rw [if_neg h1] at h
    by_cases h2 : 64 < l.length
    · rw [if_pos h2] at h; cases h
    · rw [if_neg h2] at h
      by_cases h3 : l.any Change.long = true
      · rw [if_pos h3] at h; cases h
      · refine ⟨by omega, fun c hc => ⟨?_, ?_⟩⟩
        · cases q : c.wrong
          · rfl
          · exact absurd (List.any_eq_true.2 ⟨c, hc, q⟩) h1
        · cases q : c.long
          · rfl
          · exact absurd (List.any_eq_true.2 ⟨c, hc, q⟩) h3

theorem long_not {c : Change} (h : c.long = false) : c.key.length ≤ 64 ∧ c.value.length ≤ 4096 := by
  unfold Change.long at h
  simp at h
  omega

theorem wrong_not {c : Change} (h : c.wrong = false) : c.key ≠ [] ∧ (c.gone = true → c.value = []) := by
  unfold Change.wrong at h
  simp at h
  refine ⟨h.1, fun g => h.2 g⟩

theorem rowsOk_one {D : Rows} (h : RowsOk D) {c : Change} (h1 : c.wrong = false) (h2 : c.long = false) : RowsOk (one D c) := by
  obtain ⟨es, rfl, h⟩ := h
  unfold one
  split
  · exact ⟨_, rfl, fun p hp => h p (List.mem_filter.1 hp).1⟩
  · refine ⟨_, rfl, fun p hp => ?_⟩
    rcases ChangeMaps.mem_insert_iff.1 hp with rfl | hp
    · exact ⟨_, _, rfl, (wrong_not h1).1, (long_not h2).1, (long_not h2).2⟩
    · exact h p (List.mem_filter.1 hp).1

theorem rowsOk_fold {l : List Change} (h1 : ∀ c ∈ l, c.wrong = false ∧ c.long = false) : ∀ {D : Rows}, RowsOk D → RowsOk (behind D l) := by
  induction l with
  | nil => exact fun h => h
  | cons c l ih =>
    intro D h
    exact ih (fun x hx => h1 x (List.mem_cons_of_mem _ hx)) (rowsOk_one h (h1 c (List.mem_cons_self ..)).1 (h1 c (List.mem_cons_self ..)).2)

theorem rowsOk_behind {D : Rows} {l : List Change} (h : RowsOk D) (hr : right l = 0) : RowsOk (behind D l) := rowsOk_fold (right_zero hr).2 h

theorem rowsOk_none : RowsOk (.map []) := ⟨[], rfl, fun p hp => by cases hp⟩

theorem doneErr_zero {D : Rows} {l : List Change} (h : doneErr D l = 0) : right l = 0 ∧ size (behind D l) ≤ 256 := by
  unfold doneErr at h
  by_cases h1 : right l ≠ 0
  · rw [if_pos h1] at h; exact absurd h h1
  · rw [if_neg h1] at h
    by_cases h2 : 256 < size (behind D l)
    · rw [if_pos h2] at h; cases h
    · exact ⟨by omega, by omega⟩

theorem wnum_len (n : Nat) : (Wm.wnum n).length ≤ 9 ∧ 0 < (Wm.wnum n).length := by
  unfold Wm.wnum Wm.high
  split
  · simp
  · split
    · simp
    · split <;> simp

theorem wtext_len (s : Bytes) : (Wm.wtext s).length ≤ 9 + s.length := by
  unfold Wm.wtext
  have := (wnum_len s.length).1
  rw [List.length_append]
  omega

theorem sealed_len (b : Bytes) : (sealed b).length = b.length + 4 := by
  unfold sealed
  rw [List.length_append, low_length]

theorem framed_len (b : Bytes) : (framed b).length ≤ 8205 := by
  unfold framed
  split
  · simp
  · unfold Wm.frame
    rw [List.length_append, sealed_len]
    have := (wnum_len (b.length + 4)).1
    omega

theorem framed_some {b : Bytes} (h : b.length ≤ 8192) : framed b = Wm.frame b := if_neg (by omega)

theorem flatMap_le {α : Type} (f : α → Bytes) (n : Nat) : ∀ (l : List α), (∀ x ∈ l, (f x).length ≤ n) → (l.flatMap f).length ≤ l.length * n
  | [], _ => by simp
  | x :: l, h => by
    have h1 := flatMap_le f n l (fun y hy => h y (List.mem_cons_of_mem _ hy))
    have h2 := h x (List.mem_cons_self ..)
    rw [List.flatMap_cons, List.length_append, List.length_cons, Nat.succ_mul]
    omega

theorem laid_len {c : Change} (h : c.long = false) : (laid c).length ≤ 4179 := by
  have := long_not h
  have h1 := wtext_len c.key
  have h2 := wtext_len c.value
  unfold laid
  rw [List.length_append, List.length_append]
  have h3 : (Wm.wtruth c.gone).length = 1 := rfl
  split
  · simp; omega
  · omega

theorem batchBody_len {l : List Change} (h : right l = 0) : (batchBody l).length ≤ 300000 := by
  obtain ⟨h1, h2⟩ := right_zero h
  have h3 := flatMap_le laid 4179 l (fun c hc => laid_len (h2 c hc).2)
  have h4 := (wnum_len 3).1
  have h5 := (wnum_len l.length).1
  have h6 : l.length * 4179 ≤ 64 * 4179 := Nat.mul_le_mul_right _ h1
  unfold batchBody
  rw [List.length_append, List.length_append]
  omega

theorem skeys_len (D : Rows) : (skeys D).length = size D := by
  unfold skeys
  rw [List.length_mergeSort]
  cases D <;> simp [strKeys, size]

theorem valueOf_len {D : Rows} (h : RowsOk D) (k : Bytes) : (valueOf D k).length ≤ 4096 := by
  obtain ⟨es, rfl, h⟩ := h
  unfold valueOf DataW.atKey
  cases hf : es.find? (fun p => p.1.sameKey (.string k)) with
  | none => simp [hf]
  | some p =>
    obtain ⟨k', v, rfl, _, _, h3⟩ := h p (List.mem_of_find?_eq_some hf)
    simp [hf]
    exact h3

theorem skeys_mem {D : Rows} (h : RowsOk D) {k : Bytes} (hk : k ∈ skeys D) : k ≠ [] ∧ k.length ≤ 64 := by
  obtain ⟨es, rfl, h⟩ := h
  have hk : k ∈ strKeys (.map es) := (List.mergeSort_perm _ _).mem_iff.1 hk
  obtain ⟨p, hp, rfl⟩ := List.mem_map.1 hk
  obtain ⟨k', v, rfl, h1, h2, _⟩ := h p hp
  exact ⟨h1, h2⟩

theorem rowBody_len {D : Rows} (h : RowsOk D) {k : Bytes} (hk : k.length ≤ 64) : (Wm.wnum 2 ++ Wm.wtext k ++ Wm.wtext (valueOf D k)).length ≤ 4187 := by
  have h1 := wtext_len k
  have h2 := wtext_len (valueOf D k)
  have h3 := valueOf_len h k
  have h4 := (wnum_len 2).1
  rw [List.length_append, List.length_append]
  omega

theorem folded_len {D : Rows} (g : Nat) (hs : size D ≤ 256) : (folded g D).length ≤ 2200000 := by
  have h1 := framed_len (Wm.wnum 1 ++ Wm.wnum g ++ Wm.wnum (size D))
  have h2 := flatMap_le (rowOf D) 8205 (skeys D) (fun k _ => framed_len _)
  rw [skeys_len] at h2
  have h3 : size D * 8205 ≤ 256 * 8205 := Nat.mul_le_mul_right _ hs
  unfold folded
  rw [List.length_append]
  omega

structure E.ok (e : E) : Prop where
  tp : e.tp ≤ 1
  gen : e.gen ≤ 2147483647
  batches : e.batches ≤ 32
  fin : e.fin ≤ 3000000
  rows : RowsOk e.rows
  few : size e.rows ≤ 256

end Go.Proofs.YtgffifleflkjoaaGreat.Em

namespace Go.Proofs.YtgffifleflkjoaaGreat.Em
open Go.Maps Cm

/-- What is true of every engine. -/
structure E.good (e : E) : Prop where
  tp : e.tp ≤ 1
  gen : e.gen ≤ 2147483647
  batches : e.batches ≤ 1000000
  fin : e.fin ≤ 2200000 + 8205 * e.batches
  rows : RowsOk e.rows
  few : size e.rows ≤ 256

theorem put_good {e : E} {D : Rows} {b : Bytes} (h : e.good) (hD : RowsOk D) (hs : size D ≤ 256) (hb : b.length ≤ 8205) : (e.put D b).1.good := by
  unfold E.put
  by_cases q : 32 ≤ e.batches ∨ b.length = 0 ∨ e.d.room / 2 < e.fin + b.length
  · rw [if_pos q]; exact h
  · rw [if_neg q]
    have hf := h.fin
    have hbt : e.batches < 32 := by omega
    by_cases r : (wrote e.d e.tp b).2 = 0
    · simp only [if_pos r]
      exact ⟨h.tp, h.gen, by show e.batches + 1 ≤ 1000000; omega, by show e.fin + b.length ≤ 2200000 + 8205 * (e.batches + 1); omega, hD, hs⟩
    · simp only [if_neg r]
      exact ⟨h.tp, h.gen, h.batches, h.fin, h.rows, h.few⟩

theorem fold_good {e : E} {D : Rows} (h : e.good) (hD : RowsOk D) (hs : size D ≤ 256) : (e.fold D).1.good := by
  unfold E.fold
  by_cases q : 2147483647 ≤ e.gen
  · rw [if_pos q]; exact h
  · rw [if_neg q]
    have hf := folded_len (D := D) (e.gen + 1) hs
    by_cases r : (rewrote e.d (1 - e.tp) (folded (e.gen + 1) D)).2 = 0
    · simp only [if_pos r]
      exact ⟨by show 1 - e.tp ≤ 1; omega, by show e.gen + 1 ≤ 2147483647; omega, by show 0 ≤ 1000000; omega, by show (folded (e.gen + 1) D).length ≤ 2200000 + 8205 * 0; omega, hD, hs⟩
    · simp only [if_neg r]
      exact ⟨h.tp, h.gen, h.batches, h.fin, h.rows, h.few⟩

theorem step_good {e : E} {D : Rows} {b : Bytes} (h : e.good) (hD : RowsOk D) (hs : size D ≤ 256) (hb : b.length ≤ 8205) : (e.step D b).1.good := by
  unfold E.step
  by_cases q : (e.put D b).2 = 280
  · rw [if_pos q]; exact fold_good (put_good h hD hs hb) hD hs
  · rw [if_neg q]; exact put_good h hD hs hb

theorem commit_good {e : E} {l : List Change} (h : e.good) : (e.commit l).1.good := by
  unfold E.commit
  by_cases q : doneErr e.rows l ≠ 0
  · rw [if_pos q]; exact h
  · rw [if_neg q]
    have q : doneErr e.rows l = 0 := by omega
    obtain ⟨h1, h2⟩ := doneErr_zero q
    by_cases r : e.gone = true
    · rw [if_pos r]; exact h
    · rw [if_neg r]
      have := step_good (b := batched l) h (rowsOk_behind h.rows h1) h2 (framed_len _)
      exact ⟨this.tp, this.gen, this.batches, this.fin, this.rows, this.few⟩

theorem begun_good (d : Dm.D) : (begun d).1.good :=
  ⟨by show 0 ≤ 1; decide, by show 1 ≤ 2147483647; decide, by show 0 ≤ 1000000; decide, by have := folded_len (D := .map []) 1 (by decide); show (folded 1 (.map [])).length ≤ 2200000 + 8205 * 0; omega, rowsOk_none, by show 0 ≤ 256; decide⟩

theorem put_live {e : E} {D : Rows} {b : Bytes} (h : ¬ (32 ≤ e.batches ∨ b.length = 0 ∨ e.d.room / 2 < e.fin + b.length)) :
    e.put D b = (⟨e.tp, e.gen, if (wrote e.d e.tp b).2 = 0 then D else e.rows, if (wrote e.d e.tp b).2 = 0 then e.batches + 1 else e.batches, if (wrote e.d e.tp b).2 = 0 then e.fin + b.length else e.fin, (wrote e.d e.tp b).1, e.gone⟩, (wrote e.d e.tp b).2) := if_neg h

theorem put_full {e : E} {D : Rows} {b : Bytes} (h : 32 ≤ e.batches ∨ b.length = 0 ∨ e.d.room / 2 < e.fin + b.length) : e.put D b = (e, 280) := if_pos h

theorem fold_live {e : E} {D : Rows} (h : ¬ 2147483647 ≤ e.gen) :
    e.fold D = (if (rewrote e.d (1 - e.tp) (folded (e.gen + 1) D)).2 = 0 then ⟨1 - e.tp, e.gen + 1, D, 0, (folded (e.gen + 1) D).length, (rewrote e.d (1 - e.tp) (folded (e.gen + 1) D)).1, e.gone⟩
      else { e with d := (rewrote e.d (1 - e.tp) (folded (e.gen + 1) D)).1 }, (rewrote e.d (1 - e.tp) (folded (e.gen + 1) D)).2) := if_neg h

theorem fold_full {e : E} {D : Rows} (h : 2147483647 ≤ e.gen) : e.fold D = (e, 280) := if_pos h

end Go.Proofs.YtgffifleflkjoaaGreat.Em

namespace Go.Proofs.YtgffifleflkjoaaGreat.Em
open Go.Maps Cm

theorem framed_le {b : Bytes} (h : b.length ≤ 8192) : (framed b).length ≤ b.length + 13 ∧ 0 < (framed b).length := by
  rw [framed_some h]
  unfold Wm.frame
  rw [List.length_append, sealed_len]
  have := (wnum_len (b.length + 4)).1
  omega

/-- A disk that takes each step, on whose first tape alone there are bytes. -/
structure Goes (d : Dm.D) (room used : Nat) : Prop where
  dead : d.dead = false
  stops : d.stops = -1
  waits : d.waits = []
  room : d.room = room
  tape : (d.lasts.tp 0).length = used
  others : (d.lasts.tp 1).length = 0 ∧ (d.lasts.tp 2).length = 0 ∧ (d.lasts.tp 3).length = 0

theorem Goes.stand {d : Dm.D} {room used : Nat} (h : Goes d room used) : d.stand = d.lasts := by
  unfold Dm.D.stand
  rw [h.waits]
  rfl

theorem Goes.used {d : Dm.D} {room used : Nat} (h : Goes d room used) : d.stand.used = used := by
  rw [h.stand]
  unfold Dm.St.used
  rw [h.tape, h.others.1, h.others.2.1, h.others.2.2]
  omega

theorem Goes.wrote {d : Dm.D} {room used : Nat} {b : Bytes} (h : Goes d room used) (hb : used + b.length ≤ room) : (wrote d 0 b).2 = 0 ∧ Goes (wrote d 0 b).1 room (used + b.length) := by
  have hg : d.goes = (d, 0) := by
    unfold Dm.D.goes
    rw [h.dead, h.stops]
    rfl
  have ha : d.append (0 : Nat) b = ({ d with waits := d.waits ++ [⟨2, 0, 0, b⟩] }, 0) := by
    unfold Dm.D.append
    rw [if_neg (by decide), if_neg (by rw [h.used, h.room]; omega)]
    unfold Dm.D.step
    rw [hg]
    rfl
  unfold Em.wrote next
  rw [ha]
  simp only [if_true]
  have hg2 : ({ d with waits := d.waits ++ [⟨2, 0, 0, b⟩] } : Dm.D).goes = ({ d with waits := d.waits ++ [⟨2, 0, 0, b⟩] }, 0) := by
    unfold Dm.D.goes
    simp only [h.dead, h.stops]
    rfl
  have hs : ({ d with waits := d.waits ++ [⟨2, 0, 0, b⟩] } : Dm.D).stand = d.lasts.done ⟨2, 0, 0, b⟩ := by
    unfold Dm.D.stand
    simp only [h.waits]
    rfl
  unfold Dm.D.sync
  rw [hg2]
  simp only [if_true]
  rw [hs]
  refine ⟨trivial, ⟨h.dead, h.stops, rfl, h.room, ?_, ?_⟩⟩
  · show ((Dm.upd d.lasts.tp 0 (d.lasts.tp 0 ++ b)) 0).length = _
    rw [Dm.upd_same, List.length_append, h.tape]
  · refine ⟨?_, ?_, ?_⟩
    · show ((Dm.upd d.lasts.tp 0 (d.lasts.tp 0 ++ b)) 1).length = _
      rw [Dm.upd_other _ _ _ _ (by decide)]; exact h.others.1
    · show ((Dm.upd d.lasts.tp 0 (d.lasts.tp 0 ++ b)) 2).length = _
      rw [Dm.upd_other _ _ _ _ (by decide)]; exact h.others.2.1
    · show ((Dm.upd d.lasts.tp 0 (d.lasts.tp 0 ++ b)) 3).length = _
      rw [Dm.upd_other _ _ _ _ (by decide)]; exact h.others.2.2

/-- An engine on such a disk. -/
structure Fine (e : E) (room : Nat) : Prop where
  tp : e.tp = 0
  gen : e.gen = 1
  gone : e.gone = false
  disk : Goes e.d room e.fin

theorem new_goes (s : Int) (room : Nat) : Goes (Dm.new s room) room 0 := ⟨rfl, rfl, rfl, rfl, rfl, rfl, rfl, rfl⟩

theorem begun_fine {s : Int} {room : Nat} (hr : 100 ≤ room) : (begun (Dm.new s room)).2 = 0 ∧ Fine (begun (Dm.new s room)).1 room ∧ (begun (Dm.new s room)).1.rows = .map [] ∧ (begun (Dm.new s room)).1.batches = 0 ∧ (begun (Dm.new s room)).1.fin ≤ 100 := by
  have hf : (folded 1 (.map [])).length ≤ 100 := by
    have := (framed_le (b := Wm.wnum 1 ++ Wm.wnum 1 ++ Wm.wnum (size (.map [] : Rows))) (by decide)).1
    show (framed (Wm.wnum 1 ++ Wm.wnum 1 ++ Wm.wnum (size (.map [] : Rows))) ++ (skeys (.map [])).flatMap (rowOf (.map []))).length ≤ 100
    have e : (skeys (.map [])).flatMap (rowOf (.map [])) = [] := by simp [skeys, strKeys]
    rw [e, List.append_nil]
    have h3 : (Wm.wnum 1 ++ Wm.wnum 1 ++ Wm.wnum (size (.map [] : Rows))).length ≤ 27 := by
      have h1 := (wnum_len 1).1
      have h2 := (wnum_len (size (.map [] : Rows))).1
      rw [List.length_append, List.length_append]
      omega
    omega
  have h0 := new_goes s room
  have he : rewrote (Dm.new s room) 0 (folded 1 (.map [])) = wrote (Dm.new s room) 0 (folded 1 (.map [])) := by
    unfold rewrote wrote emptied
    rw [if_pos (show ((Dm.new s room).stand.tp (0 : Nat)).length = 0 from rfl)]
    rfl
  obtain ⟨h1, h2⟩ := h0.wrote (b := folded 1 (.map [])) (by omega)
  have hbg : begun (Dm.new s room) = (⟨0, 1, .map [], 0, (folded 1 (.map [])).length, (rewrote (Dm.new s room) 0 (folded 1 (.map []))).1, false⟩, (rewrote (Dm.new s room) 0 (folded 1 (.map []))).2) := rfl
  rw [hbg, he]
  exact ⟨h1, ⟨rfl, rfl, rfl, by simpa using h2⟩, rfl, rfl, hf⟩

theorem Fine.commit {e : E} {room : Nat} {l : List Change} (h : Fine e room) (hd : doneErr e.rows l = 0) (hl : (batchBody l).length ≤ 8192) (hb : e.batches < 32) (hr : e.fin + (batchBody l).length + 13 ≤ room / 2) :
    (e.commit l).2 = 0 ∧ Fine (e.commit l).1 room ∧ (e.commit l).1.rows = behind e.rows l ∧ (e.commit l).1.batches = e.batches + 1 ∧ (e.commit l).1.fin ≤ e.fin + (batchBody l).length + 13 := by
  obtain ⟨f1, f2⟩ := framed_le hl
  have hbl : batched l = framed (batchBody l) := rfl
  have hp : e.put (behind e.rows l) (batched l) = _ := put_live (e := e) (D := behind e.rows l) (b := batched l) (by rw [hbl, h.disk.room]; omega)
  obtain ⟨w1, w2⟩ := h.disk.wrote (b := batched l) (by rw [hbl]; omega)
  rw [h.tp] at hp
  simp only [w1, if_true] at hp
  have hst : e.step (behind e.rows l) (batched l) = e.put (behind e.rows l) (batched l) := by
    unfold E.step
    rw [hp]
    rfl
  have hc : e.commit l = ({ (e.step (behind e.rows l) (batched l)).1 with gone := decide ((e.step (behind e.rows l) (batched l)).2 = 281) }, (e.step (behind e.rows l) (batched l)).2) := by
    unfold E.commit
    rw [if_neg (by omega), if_neg (by rw [h.gone]; decide)]
  rw [hc, hst, hp]
  refine ⟨rfl, ⟨rfl, h.gen, rfl, ?_⟩, rfl, rfl, ?_⟩
  · exact w2
  · show e.fin + (batched l).length ≤ _
    rw [hbl]; omega

end Go.Proofs.YtgffifleflkjoaaGreat.Em

namespace Go.Proofs.YtgffifleflkjoaaGreat.Em
open Go.Maps Cm

theorem commit_put {e : E} {l : List Change} {r : E × Int} (hd : doneErr e.rows l = 0) (hg : e.gone = false) (hp : e.put (behind e.rows l) (batched l) = r) (h280 : r.2 ≠ 280) : e.commit l = ({ r.1 with gone := decide (r.2 = 281) }, r.2) := by
  have hst : e.step (behind e.rows l) (batched l) = r := by
    unfold E.step
    rw [hp, if_neg h280]
  unfold E.commit
  rw [if_neg (by omega), if_neg (by rw [hg]; decide), hst]

/-- A commit on a disk that is to stop at once. -/
theorem commit_stops {e : E} {room : Nat} {l : List Change} (tp : e.tp = 0) (gone : e.gone = false) (dead : e.d.dead = false) (stops : e.d.stops = 0) (hroom : e.d.room = (room : Int)) (used : e.d.stand.used = (e.fin : Int))
    (hd : doneErr e.rows l = 0) (hl : (batchBody l).length ≤ 8192) (hb : e.batches < 32) (hr : e.fin + (batchBody l).length + 13 ≤ room / 2) :
    (e.commit l).2 = 281 ∧ (e.commit l).1.gone = true ∧ (e.commit l).1.rows = e.rows := by
  obtain ⟨f1, f2⟩ := framed_le hl
  have hbl : batched l = framed (batchBody l) := rfl
  have hg : e.d.goes = ({ e.d with dead := true, stops := -1 }, 281) := by
    unfold Dm.D.goes
    rw [if_neg (by rw [dead]; decide), if_pos stops]
  have ha : e.d.append (e.tp : Nat) (batched l) = ({ e.d with dead := true, stops := -1 }, 281) := by
    rw [tp]
    unfold Dm.D.append
    rw [if_neg (by decide), if_neg (by rw [used, hroom, hbl]; omega)]
    unfold Dm.D.step
    rw [hg]
    rfl
  have hw : (wrote e.d e.tp (batched l)).2 = 281 := by
    unfold wrote next
    rw [ha]
    rfl
  have hp := put_live (e := e) (D := behind e.rows l) (b := batched l) (by rw [hbl, hroom]; omega)
  rw [hw] at hp
  rw [commit_put hd gone hp (show (281 : Int) ≠ 280 by decide)]
  exact ⟨rfl, rfl, rfl⟩

theorem Fine.stopped {e : E} {room : Nat} {l : List Change} (h : Fine e room) (hd : doneErr e.rows l = 0) (hl : (batchBody l).length ≤ 8192) (hb : e.batches < 32) (hr : e.fin + (batchBody l).length + 13 ≤ room / 2) :
    (({ e with d := (e.d.stop 0).1 } : E).commit l).2 = 281 ∧ (({ e with d := (e.d.stop 0).1 } : E).commit l).1.gone = true ∧ (({ e with d := (e.d.stop 0).1 } : E).commit l).1.rows = e.rows := by
  have hs : (e.d.stop 0).1 = { e.d with stops := 0 } := by
    unfold Dm.D.stop
    rw [if_neg (by decide), if_neg (by rw [h.disk.dead]; decide)]
  rw [hs]
  exact commit_stops (room := room) h.tp h.gone h.disk.dead rfl h.disk.room h.disk.used hd hl hb hr

def l1 : List Change := [⟨[97], [49], false⟩, ⟨[98], [50], false⟩, ⟨[97], [], true⟩]
def lc : List Change := [⟨[99], [51], false⟩]
def ld : List Change := [⟨[100], [52], false⟩]
def b1 : List Change := [⟨[], [], false⟩]
def b2 : List Change := [⟨[97], [49], true⟩]
def z65 : Bytes := List.replicate 65 0
def b3 : List Change := [⟨z65, [], false⟩]
def D1 : Rows := behind (.map []) l1

theorem l1_done : doneErr (.map []) l1 = 0 := by decide
theorem D1_size : size D1 = 1 := by decide
theorem D1_b : valueOf D1 [98] = [50] ∧ has D1 (.string [98]) = true := by decide
theorem D1_a : has D1 (.string [97]) = false ∧ has D1 (.string [99]) = false := by decide
theorem b1_done : doneErr D1 b1 = 2 := by decide
theorem b2_done : doneErr D1 b2 = 2 := by decide
theorem b3_done : doneErr D1 b3 = 3 := by decide
theorem lc_done : doneErr D1 lc = 0 := by decide
theorem ld_done : doneErr D1 ld = 0 := by decide
theorem l1_len : (batchBody l1).length ≤ 100 := by decide
theorem lc_len : (batchBody lc).length ≤ 100 := by decide

end Go.Proofs.YtgffifleflkjoaaGreat.Em

namespace Go.Proofs.YtgffifleflkjoaaGreat.Em
open Go.Maps Cm

def zkey (n : Nat) : List Change := [⟨List.replicate n 0, [], false⟩]
def zval (n : Nat) : List Change := [⟨[97], List.replicate n 0, false⟩]
def many (n : Nat) : List Change := List.replicate n ⟨[97], [120], false⟩
def key2 (i k : Nat) : Change := ⟨[UInt8.ofNat (i + 1), UInt8.ofNat (k + 1)], [], false⟩
def roundN (i : Nat) : Nat := min 32 (255 - 32 * i)
def roundL (i : Nat) : List Change := (List.range (roundN i)).map (key2 i)
def lastL (n : Nat) : List Change := (List.range n).map fun j => ⟨[200, UInt8.ofNat j], [], false⟩
def rowsAt (i : Nat) : Rows := behind (.map []) ((List.range i).flatMap roundL)

theorem rowsAt_succ (i : Nat) : rowsAt (i + 1) = behind (rowsAt i) (roundL i) := by
  unfold rowsAt
  rw [List.range_succ, List.flatMap_append]
  unfold behind
  rw [List.foldl_append]
  simp

theorem zkey_done : doneErr (.map []) (zkey 63) = 0 ∧ doneErr (.map []) (zkey 64) = 0 ∧ doneErr (.map []) (zkey 65) = 3 := by decide +kernel
theorem zkey_len : (batchBody (zkey 63)).length ≤ 1000 ∧ (batchBody (zkey 64)).length ≤ 1000 := by decide +kernel
theorem many_done : doneErr (.map []) (many 63) = 0 ∧ doneErr (.map []) (many 64) = 0 ∧ doneErr (.map []) (many 65) = 3 := by decide +kernel
theorem many_len : (batchBody (many 63)).length ≤ 8192 ∧ (batchBody (many 64)).length ≤ 8192 := by decide +kernel

theorem zval_done (n : Nat) : doneErr (.map []) (zval n) = if 4096 < n then 3 else 0 := by
  have hr : right (zval n) = if 4096 < n then 3 else 0 := by
    unfold right zval Change.wrong Change.long
    simp
  unfold doneErr
  rw [hr]
  by_cases h : 4096 < n
  · rw [if_pos h]; rfl
  · rw [if_neg h]; rfl

theorem zval_len {n : Nat} (h : n ≤ 4096) : (batchBody (zval n)).length ≤ 8192 := by
  have h1 := (wnum_len 3).1
  have h2 := (wnum_len 1).1
  have h3 := laid_len (c := ⟨[97], List.replicate n 0, false⟩) (by simp [Change.long]; omega)
  unfold batchBody zval
  simp only [List.length_append, List.flatMap_cons, List.flatMap_nil, List.length_cons, List.length_nil, Nat.zero_add]
  omega

theorem rounds_done : ∀ i, i < 8 → doneErr (rowsAt i) (roundL i) = 0 := by decide +kernel
theorem rounds_len : ∀ i, i < 8 → (batchBody (roundL i)).length ≤ 1000 := by decide +kernel
theorem last_done : doneErr (rowsAt 8) (lastL 0) = 0 ∧ doneErr (rowsAt 8) (lastL 1) = 0 ∧ doneErr (rowsAt 8) (lastL 2) = 3 := by decide +kernel
theorem last_len : (batchBody (lastL 0)).length ≤ 1000 ∧ (batchBody (lastL 1)).length ≤ 1000 := by decide +kernel

/-- What a commit answers. -/
theorem commit_code {e : E} {room : Nat} {l : List Change} {c : Int} (h : Fine e room) (hd : doneErr e.rows l = c) (hl : c = 0 → (batchBody l).length ≤ 8192) (hb : e.batches < 32) (hr : e.fin + 8192 + 13 ≤ room / 2) : (e.commit l).2 = c := by
  by_cases hc : c = 0
  · subst hc
    exact (h.commit hd (hl rfl) hb (by have := hl rfl; omega)).1
  · have : e.commit l = (e, doneErr e.rows l) := if_pos (by omega)
    rw [this, hd]

end Go.Proofs.YtgffifleflkjoaaGreat.Em
