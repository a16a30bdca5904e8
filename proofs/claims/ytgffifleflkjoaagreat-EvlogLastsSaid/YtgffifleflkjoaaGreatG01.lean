/-
  The disk, in plain Lean: what stands, the steps that wait, what each call does.
  Small laws for the walks: a whole aggregate stored into the block that was made last.
  A range over a function: an iterator's contract in which the iterator may own blocks, and the law for the statement.
-/
import Derived.Test.YtgffifleflkjoaaGreatRows
import Derived.WalkKit
import Derived.WalkSpells
import Derived.WalkLawsBesides
import Derived.Handy
import Derived.Lib.Hide
import Derived.BigQuiet
import Derived.Deep.QuietTactic
import Derived.Deep.WholeRow
import Derived.Deep.RegionWith
import Derived.Deep.RegionHeld3
import Derived.StillTailTactics
import Derived.Deep.DeepCutAuto
import Derived.RangeFuncNested
import Derived.RangeFuncBound
import Derived.RangeFuncCalls
import Derived.RangeFuncLeaves
import Derived.Shelf.Abstract
import Derived.Shelf.RegionOpen
import Derived.OwnWalkIn
import Derived.TacticsInMore
import Derived.LoopNIn
import Derived.LoopIn

namespace Go.Proofs.YtgffifleflkjoaaGreat
theorem heap_old_own (w : World) (o : Obj) (i : Nat) (h : i < w.heap.size) : (w.alloc o).heap[i]? = w.heap[i]? := by
  show (w.heap.push o)[i]? = w.heap[i]?
  rw [Array.getElem?_push_lt h, Array.getElem?_eq_getElem h]
end Go.Proofs.YtgffifleflkjoaaGreat

namespace Go.Proofs.YtgffifleflkjoaaGreat.Dm

/-- What stands: sectors (256 bytes each) and tapes. -/
structure St where
  sec : Int → List UInt8
  tp : Int → List UInt8

def zeros : List UInt8 := List.replicate 256 0
def St.empty : St := ⟨fun _ => zeros, fun _ => []⟩

/-- A step: what 1: sector n is written with b; 2: b is appended to the tape n; 3: the tape n is cut to many bytes. -/
structure Step where
  what : Int
  n : Int
  many : Int
  b : List UInt8

def upd {α : Type} (f : Int → α) (n : Int) (v : α) : Int → α := fun k => if k = n then v else f k

def St.done (x : St) (s : Step) : St :=
  if s.what = 1 then { x with sec := upd x.sec s.n s.b }
  else if s.what = 2 then { x with tp := upd x.tp s.n (x.tp s.n ++ s.b) }
  else { x with tp := upd x.tp s.n ((x.tp s.n).take s.many.toNat) }

/-- A disk: stops: after how many steps it is to stop, -1: it is not. -/
structure D where
  many : Int
  room : Int
  lasts : St
  waits : List Step
  dead : Bool
  stops : Int

def D.stand (d : D) : St := d.waits.foldl St.done d.lasts
def St.used (x : St) : Int := (x.tp 0).length + (x.tp 1).length + (x.tp 2).length + (x.tp 3).length

def new (sectors room : Int) : D := ⟨sectors, room, St.empty, [], false, -1⟩
def newErr (sectors room : Int) : Int := if sectors < 0 ∨ sectors > 4096 ∨ room < 0 ∨ room > 1048576 then 2 else 0

def D.goes (d : D) : D × Int :=
  if d.dead then (d, 281) else if d.stops = 0 then ({ d with dead := true, stops := -1 }, 281) else if d.stops > 0 then ({ d with stops := d.stops - 1 }, 0) else (d, 0)

def D.step (d : D) (s : Step) : D × Int :=
  if d.goes.2 = 0 then ({ d.goes.1 with waits := d.waits ++ [s] }, 0) else (d.goes.1, d.goes.2)

def D.write (d : D) (n : Int) (b : List UInt8) : D × Int :=
  if b.length ≠ 256 then (d, 2) else if n < 0 ∨ n ≥ d.many then (d, 4) else d.step ⟨1, n, 0, b⟩
def D.append (d : D) (t : Int) (b : List UInt8) : D × Int :=
  if t < 0 ∨ t > 3 then (d, 4) else if d.stand.used + b.length > d.room then (d, 280) else d.step ⟨2, t, 0, b⟩
def D.cut (d : D) (t n : Int) : D × Int :=
  if t < 0 ∨ t > 3 ∨ n < 0 ∨ n > (d.stand.tp t).length then (d, 4) else d.step ⟨3, t, n, []⟩
def D.sync (d : D) : D × Int :=
  if d.goes.2 = 0 then ({ d.goes.1 with lasts := d.stand, waits := [] }, 0) else (d.goes.1, d.goes.2)
def D.stop (d : D) (after : Int) : D × Int :=
  if after < 0 then (d, 2) else if d.dead then (d, 281) else ({ d with stops := after }, 0)

/-- One of n, as Go's remainders pick it. -/
def pick (k n : Int) : Int := k % n
theorem pick_go (k n : Int) : (k.tmod n + n) % n = pick k n := by
  rw [Int.add_emod_right, Int.tmod_def, pick, Int.sub_mul_emod_self_left]

def St.part (x : St) (s : Step) (part : Int) : St :=
  if s.what = 1 then x.done ⟨1, s.n, 0, s.b.take (pick part 257).toNat ++ (x.sec s.n).drop (pick part 257).toNat⟩
  else if s.what = 2 then x.done ⟨2, s.n, 0, s.b.take (pick part (s.b.length + 1)).toNat⟩
  else x

/-- What a crash keeps. -/
structure Crash where
  keep : List Bool
  torn : Int
  part : Int

def Crash.isTorn (c : Crash) (n i : Nat) : Bool := decide (c.part ≥ 0) && decide ((i : Int) = pick c.torn n)
def Crash.kept (c : Crash) (i : Nat) : Bool := decide (c.keep.length > 0) && c.keep.getD (i % max 1 c.keep.length) false

/-- Behind the steps from the i-th on: what stands, which tapes have ended. -/
def crashGo (c : Crash) (n : Nat) : List Step → Nat → St → (Int → Bool) → St
  | [], _, x, _ => x
  | s :: l, i, x, ends =>
    if s.what ≠ 1 ∧ ends s.n = true then crashGo c n l (i + 1) x ends
    else crashGo c n l (i + 1) (if c.isTorn n i then x.part s c.part else if c.kept i then x.done s else x)
      (if s.what ≠ 1 then upd ends s.n (c.isTorn n i || !c.kept i) else ends)

def D.crash (d : D) (c : Crash) : D := ⟨d.many, d.room, crashGo c d.waits.length d.waits 0 d.lasts (fun _ => false), [], false, -1⟩

/-- A step that may be, of a disk of so many sectors. -/
def Step.ok (many : Int) (s : Step) : Prop :=
  (s.what = 1 ∧ 0 ≤ s.n ∧ s.n < many ∧ s.many = 0 ∧ s.b.length = 256) ∨ (s.what = 2 ∧ 0 ≤ s.n ∧ s.n ≤ 3 ∧ s.many = 0 ∧ s.b.length ≤ 1048576) ∨ (s.what = 3 ∧ 0 ≤ s.n ∧ s.n ≤ 3 ∧ 0 ≤ s.many ∧ s.many ≤ 1048576 ∧ s.b = [])

/-- What stands behind the first k steps that wait. -/
def D.upto (d : D) (k : Nat) : St := (d.waits.take k).foldl St.done d.lasts

structure D.ok (d : D) : Prop where
  many0 : 0 ≤ d.many
  many1 : d.many ≤ 4096
  room0 : 0 ≤ d.room
  room1 : d.room ≤ 1048576
  sec : ∀ n, (d.lasts.sec n).length = 256
  tape : ∀ k t, ((d.upto k).tp t).length ≤ d.room
  waits : ∀ s ∈ d.waits, s.ok d.many
  stops : -1 ≤ d.stops
  stops1 : d.stops ≤ 9223372036854775807

theorem upd_same {α : Type} (f : Int → α) (n : Int) (v : α) : upd f n v n = v := by simp [upd]
theorem upd_other {α : Type} (f : Int → α) (n k : Int) (v : α) (h : k ≠ n) : upd f n v k = f k := by simp [upd, h]

theorem stand_step (d : D) (s : Step) : ({ d with waits := d.waits ++ [s] } : D).stand = d.stand.done s := by simp [D.stand, List.foldl_append]

end Go.Proofs.YtgffifleflkjoaaGreat.Dm

namespace Go.Proofs.YtgffifleflkjoaaGreat
open Go.RowKit

theorem wpList_store_new {P : Program} {ops : Array Oper} {rest : List Oper} {o : Oper} {a : Act} {w : World} {Q : Exit → Act → World → Prop} (hgd : o.guard = none) (ty : TypeId) (x y : Operand) (ho : o.op = .store ty x y)
    (c cells : Array Value) (hx : a.eval x = .pointer (some ⟨w.heap.size, 0, none⟩)) (hy : a.eval y = .agg cells)
    (t : TypeId) (hi : (P.info? ty).map (·.size) = some cells.size)
    (hold : c.size = cells.size) (h1 : cells.all (·.oneCell') = true)
    (h : wpList P ops Q rest (a.put o.dst undef) (w.alloc (.cells cells t))) : wpList P ops Q (o :: rest) a (w.alloc (.cells c t)) :=
  wpList_store_row hgd ty x y ho w.heap.size cells hx hy t c (heap_alloc_last w _) hi hold h1 (by rw [World.setRow_alloc_new]; exact h)


/-- A world with another object in one of its blocks. -/
def putObj (w : World) (r : Nat) (o : Obj) : World := { w with heap := w.heap.setIfInBounds r o }

theorem putObj_alloc (w : World) (n : Nat) (o o' : Obj) (h : n = w.heap.size) : putObj (w.alloc o) n o' = w.alloc o' := by
  subst h
  unfold putObj World.alloc
  congr 1
  apply Array.ext_getElem?
  intro i
  by_cases h : w.heap.size = i
  · subst h; simp
  · have h' : ¬ i = w.heap.size := fun e => h e.symm
    simp [Array.getElem?_setIfInBounds, h, h', Array.getElem?_push]

def plainKey : TypeDesc → Bool
  | .int _ | .string | .bool => true
  | _ => false

theorem run_checkKey_succ {P : Program} (e : Bool) (n : Nat) (kt : TypeId) (d : TypeDesc) (hk : P.underlying kt = some d) (hp : plainKey d = true) (v : Value) (w : World) :
    (Instr.checkKey e (n + 1) kt v).run P w = .ok () w := by
  cases d <;> simp [plainKey] at hp <;> simp [Instr.checkKey, run_underlying hk]

theorem run_checkKey_plain {P : Program} (e : Bool) (kt : TypeId) (d : TypeDesc) (hk : P.underlying kt = some d) (hp : plainKey d = true) (v : Value) (w : World) :
    (Instr.checkKey e 10000 kt v).run P w = .ok () w := run_checkKey_succ e 9999 kt d hk hp v w

theorem run_mapUpdate_new {P : Program} {w : World} (mt kt et : TypeId) (d : TypeDesc) (r : Nat) (es : Array MapEntry) (clock : Nat) (key val : Value)
    (hm : P.underlying mt = some (.map kt et)) (hk : P.underlying kt = some d) (hp : plainKey d = true) (hb : w.heap[r]? = some (.map es clock))
    (hf : Instr.findNow d key es.toList 0 = some none) :
    (Instr.mapUpdate mt (.map (some r)) key val).run P w = .ok () (putObj w r (.map (es.push ⟨key, val, clock⟩) (clock + 1))) := by
  have hlt : r < w.heap.size := (Array.getElem?_eq_some_iff.1 hb).1
  simp only [Instr.mapUpdate, Sem.run_bind, run_underlying hm, Result.andThen_ok]
  simp [getObj, Sem.run, hb, run_checkKey_plain _ _ _ hk hp, Instr.findKey, run_underlying hk, hf, setObj, putObj]

theorem run_lookup_at {P : Program} {w : World} (mt kt et : TypeId) (d : TypeDesc) (r : Nat) (es : Array MapEntry) (clock : Nat) (key z : Value) (ok : Bool) (res : Option (Nat × Value))
    (hm : P.underlying mt = some (.map kt et)) (hk : P.underlying kt = some d) (hp : plainKey d = true) (hb : w.heap[r]? = some (.map es clock))
    (hf : Instr.findNow d key es.toList 0 = some res) (hz : (zeroValue et).run P w = .ok z w) :
    (Instr.lookup mt (.map (some r)) key ok).run P w = .ok (if ok then .tuple #[(res.map (·.2)).getD z, .bool res.isSome] else (res.map (·.2)).getD z) w := by
  simp only [Instr.lookup, Sem.run_bind, run_underlying hm, Result.andThen_ok]
  cases res <;> simp [getObj, Sem.run, hb, run_checkKey_plain _ _ _ hk hp, Instr.findKey, run_underlying hk, hf, hz]

end Go.Proofs.YtgffifleflkjoaaGreat

namespace Go.Proofs.YtgffifleflkjoaaGreat
open Go.RowKit

/-- Steps of one that owns the blocks O: whatever else was there is as it was. -/
structure Moves (O : Nat → Prop) (A B : World) : Prop where
  os : B.os = A.os
  tape : B.tape = A.tape
  output : B.output = A.output
  size : A.heap.size ≤ B.heap.size
  block : ∀ k, k < A.heap.size → ¬ O k → B.heap[k]? = A.heap[k]?

/-- The blocks K are as they were. -/
structure Keeps (K : Nat → Prop) (A B : World) : Prop where
  size : A.heap.size ≤ B.heap.size
  block : ∀ k, K k → k < A.heap.size → B.heap[k]? = A.heap[k]?

theorem Moves.refl (O : Nat → Prop) (A : World) : Moves O A A := ⟨rfl, rfl, rfl, Nat.le_refl _, fun _ _ _ => rfl⟩
theorem Keeps.refl (K : Nat → Prop) (A : World) : Keeps K A A := ⟨Nat.le_refl _, fun _ _ _ => rfl⟩
theorem Keeps.trans {K : Nat → Prop} {A B C : World} (h : Keeps K A B) (k : Keeps K B C) : Keeps K A C :=
  ⟨Nat.le_trans h.size k.size, fun i hi hl => (k.block i hi (Nat.lt_of_lt_of_le hl h.size)).trans (h.block i hi hl)⟩
theorem Keeps.mono {K K' : Nat → Prop} {A B : World} (h : Keeps K A B) (hk : ∀ i, K' i → K i) : Keeps K' A B := ⟨h.size, fun i hi => h.block i (hk i hi)⟩
theorem Keeps.of_below {K : Nat → Prop} {A B : World} (h : Below A.heap.size A B) : Keeps K A B := ⟨h.size, fun i _ hl => h.block i hl⟩
theorem Keeps.of_moves {K O : Nat → Prop} {A B : World} (h : Moves O A B) (hk : ∀ i, K i → ¬ O i) : Keeps K A B := ⟨h.size, fun i hi hl => h.block i hl (hk i hi)⟩
theorem Moves.trans {O O' : Nat → Prop} {A B C : World} (h : Moves O A B) (k : Moves O' B C) (ho : ∀ i, i < A.heap.size → O' i → O i) : Moves O A C :=
  ⟨k.os.trans h.os, k.tape.trans h.tape, k.output.trans h.output, Nat.le_trans h.size k.size, fun i hl hn => (k.block i (Nat.lt_of_lt_of_le hl h.size) (fun e => hn (ho i hl e))).trans (h.block i hl hn)⟩
theorem Moves.of_below {O : Nat → Prop} {A B : World} (h : Below A.heap.size A B) : Moves O A B := ⟨h.os, h.tape, h.output, h.size, fun i hl _ => h.block i hl⟩
theorem Moves.below {A B : World} (h : Moves (fun _ => False) A B) : Below A.heap.size A B := ⟨h.os, h.tape, h.output, h.size, fun i hl => h.block i hl (fun e => e)⟩
theorem Moves.mono {O O' : Nat → Prop} {A B : World} (h : Moves O A B) (ho : ∀ i, O i → O' i) : Moves O' A B := ⟨h.os, h.tape, h.output, h.size, fun i hl hn => h.block i hl (fun e => hn (ho i e))⟩

/-- What an invariant must abide: the steps of one that owns O, which may take new blocks into O. -/
def Stable {β : Type} (J : β → (Nat → Prop) → World → Prop) : Prop :=
  ∀ k (O O' : Nat → Prop) (A B : World), J k O A → Moves O A B → (∀ i, O i → O' i) → (∀ i, O' i → O i ∨ A.heap.size ≤ i) → J k O' B

/-- The contract of an iterator that tells the list xs, reading the blocks R and owning what it makes. -/
def Iter {α : Type} (P : Program) (gf : Nat) (lb : Array Value) (encs : α → Array Value) (xs : List α) (R : Nat → Prop) (w : World) : Prop :=
  ∀ (l : Nat) (J Jx : Nat → (Nat → Prop) → World → Prop) (W : World), Below w.heap.size w W → Stable J → Stable Jx →
    (∀ k x O W1, xs[k]? = some x → J k O W1 → YieldAt Fence.wide 0 P l (encs x) W1 fun e W' =>
      (e = .returned (.bool true) ∧ J (k + 1) O W' ∧ Keeps (fun i => O i ∨ R i) W1 W') ∨ (e = .returned (.bool false) ∧ Jx (k + 1) O W' ∧ Keeps (fun i => O i ∨ R i) W1 W')) →
    J 0 (fun _ => False) W →
    CallsIn Fence.wide 0 P gf (#[.func (.yield l) #[] #[]] ++ lb) W fun e W' => (∃ v, e = .returned v) ∧ ∃ O, (J xs.length O W' ∨ ∃ k, k ≤ xs.length ∧ Jx k O W')

/-- What stands behind the body of a round. -/
def iterPost {α : Type} (K : Nat → Prop) (I : Nat → (Nat → Prop) → World → Prop) (Ix : Code → Nat → (Nat → Prop) → World → Prop) (xs : List α) (k : Nat) (O : Nat → Prop) (W : World) : Exit → Act → World → Prop
  | .normal, _, W' => Keeps K W W' ∧ I (k + 1) O W'
  | .ret, _, W' => Keeps K W W' ∧ Ix .ret (k + 1) O W'
  | .exit id, _, W' => Keeps K W W' ∧ Ix (.exit id) (k + 1) O W'
  | .goto t, _, W' => Keeps K W W' ∧ Ix (.goto t) (k + 1) O W'
  | .panic _, _, _ => False
  | .outgrown, _, _ => False

/-- A predicate of worlds that the loop's own record does not touch. -/
def Blind (p : World → Prop) : Prop := ∀ (W : World) (l : Nat) (r : Loop) (o : Obj), W.heap[l]? = some (.loop r) → p W → p (W.putObj l o)

theorem moves_putObj {W : World} {l : Nat} (o : Obj) : Moves (fun i => i = l) W (W.putObj l o) :=
  ⟨rfl, rfl, rfl, by simp, fun k _ hk => World.putObj_heap_other hk⟩
theorem keeps_putObj {K : Nat → Prop} {W : World} {l : Nat} (o : Obj) (h : ¬ K l) : Keeps K W (W.putObj l o) :=
  ⟨by simp, fun k hk _ => World.putObj_heap_other (fun e => h (e ▸ hk))⟩

theorem wpIn_rangeIter {α : Type} {P : Program} {g : Operand} {ps : Array Tmp} {assign body : Code} {Q : Exit → Act → World → Prop} {a : Act} {w : World}
    {gf : Nat} {lb : Array Value} (hg : a.eval g = .func (.func gf) #[] lb) (eg : ∀ args w, (callFunc gf args).run P w = .ok (.enter gf args) w)
    {encs : α → Array Value} {xs : List α} {R : Nat → Prop} {w0 : World} (hseq : Iter P gf lb encs xs R w0) (hR : ∀ i, R i → i < w.heap.size) (hb0 : Below w0.heap.size w0 w) (hps : ∀ x, (encs x).size = ps.size)
    (I : Nat → (Nat → Prop) → World → Prop) (Ix : Code → Nat → (Nat → Prop) → World → Prop) (hI : Stable I) (hIx : ∀ c, Stable (Ix c))
    (hIb : ∀ k O (r : Loop) (o : Obj) W, W.heap[w.heap.size + 1]? = some (.loop r) → I k O W → I k O (W.putObj (w.heap.size + 1) o))
    (hIxb : ∀ c k O (r : Loop) (o : Obj) W, W.heap[w.heap.size + 1]? = some (.loop r) → Ix c k O W → Ix c k O (W.putObj (w.heap.size + 1) o))
    (h0 : ∀ W, Below w.heap.size w W → W.heap.size = w.heap.size + 2 → I 0 (fun _ => False) W) (Ax : α → Act → World → Prop) (hAx : ∀ x a', Blind (Ax x a'))
    (hassign : ∀ (k : Nat) (x : α) (O : Nat → Prop) (W : World), xs[k]? = some x → I k O W → w.heap.size + 1 < W.heap.size → ¬ O (w.heap.size + 1) → ¬ O w.heap.size →
      assign.wpIn (Fence.wide.inRound (w.heap.size + 1)) 0 P (Exit.then (fun a' W' => I k O W' ∧ Keeps (fun i => O i ∨ R i ∨ i = w.heap.size + 1 ∨ i = w.heap.size) W W' ∧ Ax x a' W') (fun _ _ _ => False)) { tmps := (ps.zip (encs x)).foldl (fun t (p, v) => t.setIfInBounds p v) a.tmps, defers := [] } W)
    (hbody : ∀ (k : Nat) (x : α) (O : Nat → Prop) (a' : Act) (W : World), xs[k]? = some x → (∃ r, W.heap[w.heap.size + 1]? = some (.loop r)) → (∃ o, W.heap[w.heap.size]? = some (.deferred o)) → ¬ O (w.heap.size + 1) → ¬ O w.heap.size → I k O W → Ax x a' W →
      body.wpIn (Fence.wide.inRound (w.heap.size + 1)) 0 P (iterPost (fun i => O i ∨ R i ∨ i = w.heap.size + 1 ∨ i = w.heap.size) I Ix xs k O W) a' W)
    (hdone : ∀ (O : Nat → Prop) (W : World), I xs.length O W → ¬ O w.heap.size → W.heap[w.heap.size]? = some (.deferred (some [])) → Q .normal { a with defers := { target := .collected w.heap.size, args := #[] } :: a.defers } W)
    (hstop : ∀ (c : Code) (k : Nat) (O : Nat → Prop) (W : World), k ≤ xs.length → Ix c k O W → ¬ O w.heap.size → W.heap[w.heap.size]? = some (.deferred (some [])) → c.wpIn Fence.wide 0 P Q { a with defers := { target := .collected w.heap.size, args := #[] } :: a.defers } W) :
    (Code.rangeFunc g ps assign body).wpIn Fence.wide 0 P Q a w := by
  refine wpIn_rangeFunc ?_
  intro fn hfn
  show ∃ (l : Nat) (mark : List Deferred) (w₁ : World) (d : Deferred) (w₁' : World) (f : FuncId) (args : Array Value) (w₂ : World),
      (Instr.enterLoop fn a.tmps ps assign body none).run P w = .ok (l, mark) w₁ ∧ _
  obtain ⟨rec, hrec⟩ : ∃ rec : LoopState → Option Code → Loop, rec = fun st pe => { state := st, pending := pe, fn, tmps := a.tmps, params := ps, assign, body, defers := w.heap.size } := ⟨_, rfl⟩
  obtain ⟨W1, hW1⟩ : ∃ W1, (w.alloc (.deferred (some []))).alloc (.loop (rec .ready none)) = W1 := ⟨_, rfl⟩
  have hL1 : W1.heap[w.heap.size + 1]? = some (.loop (rec .ready none)) := by
    rw [← hW1]; have := World.alloc_heap_new (w.alloc (.deferred (some []))) (.loop (rec .ready none)); rwa [World.size_alloc] at this
  have hK1 : W1.heap[w.heap.size]? = some (.deferred (some [])) := by
    rw [← hW1]; exact (Below.heap_alloc _ _ _ (by simp)).trans (World.alloc_heap_new w _)
  have hbw : Below w.heap.size w W1 := by
    rw [← hW1]; exact ((Below.refl _ w).alloc (Nat.le_refl _) _).alloc (by simp) _
  have hb1 : Below w0.heap.size w0 W1 := hb0.trans (hbw.mono hb0.size)
  have hI1 := h0 W1 hbw (by rw [← hW1]; simp)
  refine ⟨w.heap.size + 1, [{ target := .collected w.heap.size, args := #[] }], W1, { target := .fn (.func gf) lb, args := #[.func (.yield (w.heap.size + 1)) #[] #[]] }, W1, gf,
    #[.func (.yield (w.heap.size + 1)) #[] #[]] ++ lb, W1, ?_, ?_, ?_, ?_, (fun h => by cases h), ?_⟩
  · rw [← hW1, hrec]; exact run_enterLoop_outer _ _ _ _ _
  · simp only [resolve, hg]
    simp [go_sem]
  · intro f' _; trivial
  · simp [invoke, go_sem, eg]
  · have stay : ∀ (O O' : Nat → Prop) (A B : World) (k : Nat) (o : Obj), A.heap[k]? = some o → ¬ O k → Moves O A B → (∀ i, O' i → O i ∨ A.heap.size ≤ i) → B.heap[k]? = some o ∧ ¬ O' k := by
      intro O O' A B k o hk hn hm ho
      have hlt : k < A.heap.size := (Array.getElem?_eq_some_iff.1 hk).1
      exact ⟨(hm.block k hlt hn).trans hk, fun e => by rcases ho k e with h | h; exact hn h; omega⟩
    refine (hseq (w.heap.size + 1)
      (fun k O W => I k O W ∧ (W.heap[w.heap.size + 1]? = some (.loop (rec .ready none)) ∧ ¬ O (w.heap.size + 1)) ∧ (W.heap[w.heap.size]? = some (.deferred (some [])) ∧ ¬ O w.heap.size))
      (fun k O W => ∃ c, Ix c k O W ∧ (W.heap[w.heap.size + 1]? = some (.loop (rec .done (some c))) ∧ ¬ O (w.heap.size + 1)) ∧ (W.heap[w.heap.size]? = some (.deferred (some [])) ∧ ¬ O w.heap.size))
      W1 hb1
      (fun k O O' A B hs hm ho1 ho2 => ⟨hI k O O' A B hs.1 hm ho1 ho2, stay O O' A B _ _ hs.2.1.1 hs.2.1.2 hm ho2, stay O O' A B _ _ hs.2.2.1 hs.2.2.2 hm ho2⟩)
      (fun k O O' A B hs hm ho1 ho2 => by
        obtain ⟨c, hc, hl, hk⟩ := hs
        exact ⟨c, hIx c k O O' A B hc hm ho1 ho2, stay O O' A B _ _ hl.1 hl.2 hm ho2, stay O O' A B _ _ hk.1 hk.2 hm ho2⟩)
      ?_ ⟨hI1, ⟨hL1, fun h => h⟩, ⟨hK1, fun h => h⟩⟩).mono ?_
    · rintro k x O W hx ⟨hi, ⟨hl, hol⟩, ⟨hk, hok⟩⟩
      have hlt : w.heap.size + 1 < W.heap.size := (Array.getElem?_eq_some_iff.1 hl).1
      have hnR : ¬ R (w.heap.size + 1) := fun h => by have := hR _ h; omega
      have hy := run_yield (P := P) (args := encs x) hl (by rw [hrec]; exact hps x)
      rw [hrec] at hy
      refine ⟨fn, _, assign, body, hy, roundIn_of_wpIn hfn (wpIn_mono (hassign k x O W hx hi hlt hol hok) ?_)⟩
      clear hy
      intro e a' Wa hp
      cases e with
      | ret => exact hp.elim
      | exit id => exact hp.elim
      | goto t => exact hp.elim
      | panic ch => exact hp.elim
      | outgrown => exact hp.elim
      | normal =>
        obtain ⟨hia, hka, hax⟩ := hp
        have hla := (hka.block _ (Or.inr (Or.inr (Or.inl rfl))) hlt).trans hl
        have hda := (hka.block _ (Or.inr (Or.inr (Or.inr rfl))) (by omega)).trans hk
        have hlta : w.heap.size + 1 < Wa.heap.size := (Array.getElem?_eq_some_iff.1 hla).1
        refine ⟨_, run_beginRound hla (by rw [hrec]), ?_⟩
        generalize hWb : Wa.putObj (w.heap.size + 1) (.loop { rec .ready none with state := .busy }) = Wb
        have hl2 : Wb.heap[w.heap.size + 1]? = some (.loop { rec .ready none with state := .busy }) := by rw [← hWb]; exact World.putObj_heap_same hlta
        have hk2 : Wb.heap[w.heap.size]? = some (.deferred (some [])) := by rw [← hWb]; exact (World.putObj_heap_other (by omega)).trans hda
        have hib : I k O Wb := by rw [← hWb]; exact hIb k O _ _ _ hla hia
        have hab : Ax x a' Wb := by rw [← hWb]; exact hAx x a' _ _ _ _ hla hax
        have hkb : Keeps (fun i => O i ∨ R i) W Wb := by
          rw [← hWb]
          exact (hka.mono (fun i hi => by rcases hi with h | h; exact Or.inl h; exact Or.inr (Or.inl h))).trans (keeps_putObj _ (fun h => by rcases h with h | h; exact hol h; exact hnR h))
        refine wpIn_mono (hbody k x O a' Wb hx ⟨_, hl2⟩ ⟨_, hk2⟩ hol hok hib hab) ?_
        have fin : ∀ (jump : Option Code) (W3 : World), Keeps (fun i => O i ∨ R i ∨ i = w.heap.size + 1 ∨ i = w.heap.size) Wb W3 →
            (Instr.endRound (w.heap.size + 1) jump).run P W3 = .ok (.bool jump.isNone) (W3.putObj (w.heap.size + 1) (.loop (rec (if jump.isNone then .ready else .done) jump))) ∧
            W3.heap[w.heap.size + 1]? = some (.loop { rec .ready none with state := .busy }) ∧
            (W3.putObj (w.heap.size + 1) (.loop (rec (if jump.isNone then .ready else .done) jump))).heap[w.heap.size + 1]? = some (.loop (rec (if jump.isNone then .ready else .done) jump)) ∧
            (W3.putObj (w.heap.size + 1) (.loop (rec (if jump.isNone then .ready else .done) jump))).heap[w.heap.size]? = some (.deferred (some [])) ∧
            Keeps (fun i => O i ∨ R i) W (W3.putObj (w.heap.size + 1) (.loop (rec (if jump.isNone then .ready else .done) jump))) := by
          intro jump W3 hk3
          have hl3 := (hk3.block _ (Or.inr (Or.inr (Or.inl rfl))) (Array.getElem?_eq_some_iff.1 hl2).1).trans hl2
          have hd3 := (hk3.block _ (Or.inr (Or.inr (Or.inr rfl))) (Array.getElem?_eq_some_iff.1 hk2).1).trans hk2
          have := run_endRound (P := P) jump hl3
          refine ⟨by rw [hrec] at this ⊢; exact this, hl3, World.putObj_heap_same (Array.getElem?_eq_some_iff.1 hl3).1, (World.putObj_heap_other (by omega)).trans hd3, ?_⟩
          exact (hkb.trans (hk3.mono (fun i hi => by rcases hi with h | h; exact Or.inl h; exact Or.inr (Or.inl h)))).trans (keeps_putObj _ (fun h => by rcases h with h | h; exact hol h; exact hnR h))
        rintro e a3 W3 hp
        cases e with
        | normal =>
          obtain ⟨hk3, hi3⟩ := hp
          obtain ⟨hr, hl3, hl4, hk4, hkk⟩ := fin none W3 hk3
          exact ⟨_, _, hr, .inl ⟨rfl, ⟨hIb _ _ _ _ _ hl3 hi3, ⟨hl4, hol⟩, ⟨hk4, hok⟩⟩, hkk⟩⟩
        | ret =>
          obtain ⟨hk3, hi3⟩ := hp
          obtain ⟨hr, hl3, hl4, hk4, hkk⟩ := fin (some .ret) W3 hk3
          exact ⟨_, _, hr, .inr ⟨rfl, ⟨.ret, hIxb _ _ _ _ _ _ hl3 hi3, ⟨hl4, hol⟩, ⟨hk4, hok⟩⟩, hkk⟩⟩
        | exit id =>
          obtain ⟨hk3, hi3⟩ := hp
          obtain ⟨hr, hl3, hl4, hk4, hkk⟩ := fin (some (.exit id)) W3 hk3
          exact ⟨_, _, hr, .inr ⟨rfl, ⟨.exit id, hIxb _ _ _ _ _ _ hl3 hi3, ⟨hl4, hol⟩, ⟨hk4, hok⟩⟩, hkk⟩⟩
        | goto t =>
          obtain ⟨hk3, hi3⟩ := hp
          obtain ⟨hr, hl3, hl4, hk4, hkk⟩ := fin (some (.goto t)) W3 hk3
          exact ⟨_, _, hr, .inr ⟨rfl, ⟨.goto t, hIxb _ _ _ _ _ _ hl3 hi3, ⟨hl4, hol⟩, ⟨hk4, hok⟩⟩, hkk⟩⟩
        | panic ch => exact hp.elim
        | outgrown => exact hp.elim
    · rintro e W2 ⟨⟨v, rfl⟩, O, (⟨hi, ⟨hl, hol⟩, ⟨hk, hok⟩⟩ | ⟨k, hkx, c, hi, ⟨hl, hol⟩, ⟨hk, hok⟩⟩)⟩
      · exact ⟨none, _, by have := run_endLoop (P := P) hl (by rw [hrec]; simp); rw [hrec] at this; exact this, hdone O _ (hIb _ _ _ _ _ hl hi) hok ((World.putObj_heap_other (by omega)).trans hk)⟩
      · exact ⟨some c, _, by have := run_endLoop (P := P) hl (by rw [hrec]; simp); rw [hrec] at this; exact this, hstop c k O _ hkx (hIxb _ _ _ _ _ _ hl hi) hok ((World.putObj_heap_other (by omega)).trans hk)⟩

theorem stepR_scope {P : Program} {b : Frame} {a : Act} {k : List Item} {cs : List Frame} {w : World} {c : Code} :
    step P (lone (b.atR a (.code (.scope c) :: k)) cs w) = .next (lone (b.atR a (.code c :: .inScope c :: k)) cs w) :=
  step_lone_go (by simp [stepG, stepG.exec, Frame.atR])
theorem stepR_inScope {P : Program} {b : Frame} {a : Act} {k : List Item} {cs : List Frame} {w : World} {c : Code} :
    step P (lone (b.atR a (.inScope c :: k)) cs w) = .next (lone (b.atR a k) cs w) :=
  step_lone_go (by simp [stepG, stepG.exec, Frame.atR])

/-- A scope through which the run goes without a goto, under a fence. -/
theorem wpIn_scope {F : Fence} {n : Nat} {P : Program} {Q : Exit → Act → World → Prop} {a : Act} {w : World} {c : Code} (h : c.wpIn F n P (Exit.noGoto Q) a w) : (Code.scope c).wpIn F n P Q a w := by
  intro b k cs hro hb hr
  have h0 : (lone (b.atR a (.code (.scope c) :: k)) cs w).fenced P F := fenced_calm hb hr rfl
  obtain ⟨e, a₁, w₁, hq, harr⟩ := h b (.inScope c :: k) cs hro hb hr
  have hx : ∀ id, exitTo id (.inScope c :: k) = exitTo id k := fun id => by simp [exitTo]
  cases e with
  | normal => exact ⟨.normal, a₁, w₁, hq, .head h0 stepR_scope (StepsIn.trans harr (.one (fenced_calm hb hr rfl) stepR_inScope))⟩
  | exit id => exact ⟨.exit id, a₁, w₁, hq, fun k' hk => .head h0 stepR_scope (harr.1 k' (by rw [hx]; exact hk)),
      fun hr' hk => let ⟨k₁, h1, h2⟩ := harr.2 hr' (by rw [hx]; exact hk); ⟨k₁, h1, .head h0 stepR_scope h2⟩⟩
  | goto l => exact hq.elim
  | ret => exact ⟨_, a₁, w₁, hq, .of_steps (.one h0 stepR_scope) harr⟩
  | panic ch => exact ⟨_, a₁, w₁, hq, .of_steps (.one h0 stepR_scope) harr⟩
  | outgrown => exact ⟨_, a₁, w₁, hq, .of_steps (.one h0 stepR_scope) harr⟩

/-- A label ahead of code. -/
theorem wpIn_label_seq {F : Fence} {n : Nat} {P : Program} {Q : Exit → Act → World → Prop} {a : Act} {w : World} {l : Nat} {c : Code} (h : c.wpIn F n P Q a w) : (Code.seq (.label l) c).wpIn F n P Q a w :=
  wpIn_seq (wpIn_label h)

/-- A function that leaves with the mark of one such loop. -/
theorem leaves_mark {P : Program} {fn : Func} {tmps : Array Value} {R : Ending → World → Prop} {D : Nat} {w : World} {v : Value}
    (hD : w.heap[D]? = some (.deferred (some []))) (hr : (results fn tmps).run P (w.putObj D (.deferred none)) = .ok v (w.putObj D (.deferred none)))
    (h : R (.returned v) (w.putObj D (.deferred none))) : LeavesInM Fence.wide 0 P fn tmps R [{ target := .collected D, args := #[] }] .returning w :=
  ⟨by simp, .inl ⟨D, _, rfl, run_takeDeferred hD, ⟨v, hr, h⟩⟩⟩

theorem heap_at {w : World} {n : Nat} (o : Obj) (h : n = w.heap.size) : (w.alloc o).heap[n]? = some o := by subst h; exact heap_alloc_last w o
theorem heap_past {w : World} {n : Nat} {o o' : Obj} (h : n < w.heap.size) (k : w.heap[n]? = some o) : (w.alloc o').heap[n]? = some o := (heap_old_own w o' n h).trans k

/-- A function that leaves with the marks of some such loops. -/
theorem leaves_marks {P : Program} {fn : Func} {tmps : Array Value} {R : Ending → World → Prop} : ∀ (ds : List Nat) (w : World), ds.Nodup →
    (∀ D ∈ ds, w.heap[D]? = some (.deferred (some []))) → (∀ w', Moves (fun i => i ∈ ds) w w' → ∃ v, (results fn tmps).run P w' = .ok v w' ∧ R (.returned v) w') →
    LeavesInM Fence.wide 0 P fn tmps R (ds.map fun D => { target := .collected D, args := #[] }) .returning w
  | [], w, _, _, h => h w (Moves.refl _ _)
  | D :: ds, w, hn, hd, h => by
    have hD := hd D (List.mem_cons_self ..)
    have hn' := List.nodup_cons.1 hn
    refine ⟨by simp, .inl ⟨D, _, rfl, run_takeDeferred hD, leaves_marks ds _ hn'.2 (fun E hE => ?_) (fun w' hm => h w' ?_)⟩⟩
    · have hne : E ≠ D := fun e => hn'.1 (by rw [← e]; exact hE)
      rw [World.putObj_heap_other hne]
      exact hd E (List.mem_cons_of_mem _ hE)
    · refine Moves.trans ((moves_putObj (l := D) _).mono (fun i e => by subst e; exact List.mem_cons_self ..)) hm (fun i _ hi => List.mem_cons_of_mem _ hi)

/-- Rounds of a loop, by what holds at each round's head. -/
theorem roundsIn_by {F : Fence} {n : Nat} {P : Program} {c : Code} {Q : Exit → Act → World → Prop} (S : Nat → Act → World → Prop)
    (hz : ∀ a w, ¬ S 0 a w) (hs : ∀ m a w, S (m + 1) a w → c.wpIn F n P (Exit.then (S m) Q) a w) : ∀ m a w, S m a w → Code.roundsIn F n P c Q m a w
  | 0, a, w, h => (hz a w h).elim
  | m + 1, a, w, h => by
    rw [roundsIn_succ]
    refine wpIn_mono (hs m a w h) (fun e a' w' he => ?_)
    cases e with
    | normal => exact roundsIn_by S hz hs m a' w' he
    | _ => exact he

end Go.Proofs.YtgffifleflkjoaaGreat
