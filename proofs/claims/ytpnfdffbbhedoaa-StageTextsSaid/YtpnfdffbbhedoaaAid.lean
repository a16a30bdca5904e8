/-
  Small laws for the walks: a whole aggregate stored into the block that was made last.
-/
import Derived.Test.YtpnfdffbbhedoaaRows
import Derived.WalkKit
import Derived.WalkSpells
import Derived.WalkLawsBesides
import Derived.Handy
import Derived.Lib.Hide
import Derived.BigQuiet
import Derived.Deep.QuietTactic
import Derived.Deep.WholeRow
import Derived.Deep.RegionWith
import Derived.Deep.RegionHeld3
import Derived.StillTailTactics
import Derived.Deep.DeepCutAuto
namespace Go.Proofs.Ytpnfdffbbhedoaa
open Go.RowKit

theorem wpList_store_new {P : Program} {ops : Array Oper} {rest : List Oper} {o : Oper} {a : Act} {w : World} {Q : Exit → Act → World → Prop} (hgd : o.guard = none) (ty : TypeId) (x y : Operand) (ho : o.op = .store ty x y)
    (c cells : Array Value) (hx : a.eval x = .pointer (some ⟨w.heap.size, 0, none⟩)) (hy : a.eval y = .agg cells)
    (t : TypeId) (hi : (P.info? ty).map (·.size) = some cells.size)
    (hold : c.size = cells.size) (h1 : cells.all (·.oneCell') = true)
    (h : wpList P ops Q rest (a.put o.dst undef) (w.alloc (.cells cells t))) : wpList P ops Q (o :: rest) a (w.alloc (.cells c t)) :=
  wpList_store_row hgd ty x y ho w.heap.size cells hx hy t c (heap_alloc_last w _) hi hold h1 (by rw [World.setRow_alloc_new]; exact h)


/-- A world with another object in one of its blocks. -/
def putObj (w : World) (r : Nat) (o : Obj) : World := { w with heap := w.heap.setIfInBounds r o }

theorem putObj_alloc (w : World) (n : Nat) (o o' : Obj) (h : n = w.heap.size) : putObj (w.alloc o) n o' = w.alloc o' := by
  subst h
  unfold putObj World.alloc
  congr 1
  apply Array.ext_getElem?
  intro i
  by_cases h : w.heap.size = i
  · subst h; simp
  · have h' : ¬ i = w.heap.size := fun e => h e.symm
    simp [Array.getElem?_setIfInBounds, h, h', Array.getElem?_push]

def plainKey : TypeDesc → Bool
  | .int _ | .string | .bool => true
  | _ => false

theorem run_checkKey_succ {P : Program} (e : Bool) (n : Nat) (kt : TypeId) (d : TypeDesc) (hk : P.underlying kt = some d) (hp : plainKey d = true) (v : Value) (w : World) :
    (Instr.checkKey e (n + 1) kt v).run P w = .ok () w := by
  cases d <;> simp [plainKey] at hp <;> simp [Instr.checkKey, run_underlying hk]

theorem run_checkKey_plain {P : Program} (e : Bool) (kt : TypeId) (d : TypeDesc) (hk : P.underlying kt = some d) (hp : plainKey d = true) (v : Value) (w : World) :
    (Instr.checkKey e 10000 kt v).run P w = .ok () w := run_checkKey_succ e 9999 kt d hk hp v w

theorem run_mapUpdate_new {P : Program} {w : World} (mt kt et : TypeId) (d : TypeDesc) (r : Nat) (es : Array MapEntry) (clock : Nat) (key val : Value)
    (hm : P.underlying mt = some (.map kt et)) (hk : P.underlying kt = some d) (hp : plainKey d = true) (hb : w.heap[r]? = some (.map es clock))
    (hf : Instr.findNow d key es.toList 0 = some none) :
    (Instr.mapUpdate mt (.map (some r)) key val).run P w = .ok () (putObj w r (.map (es.push ⟨key, val, clock⟩) (clock + 1))) := by
  have hlt : r < w.heap.size := (Array.getElem?_eq_some_iff.1 hb).1
  simp only [Instr.mapUpdate, Sem.run_bind, run_underlying hm, Result.andThen_ok]
  simp [getObj, Sem.run, hb, run_checkKey_plain _ _ _ hk hp, Instr.findKey, run_underlying hk, hf, setObj, putObj]

theorem run_lookup_at {P : Program} {w : World} (mt kt et : TypeId) (d : TypeDesc) (r : Nat) (es : Array MapEntry) (clock : Nat) (key z : Value) (ok : Bool) (res : Option (Nat × Value))
    (hm : P.underlying mt = some (.map kt et)) (hk : P.underlying kt = some d) (hp : plainKey d = true) (hb : w.heap[r]? = some (.map es clock))
    (hf : Instr.findNow d key es.toList 0 = some res) (hz : (zeroValue et).run P w = .ok z w) :
    (Instr.lookup mt (.map (some r)) key ok).run P w = .ok (if ok then .tuple #[(res.map (·.2)).getD z, .bool res.isSome] else (res.map (·.2)).getD z) w := by
  simp only [Instr.lookup, Sem.run_bind, run_underlying hm, Result.andThen_ok]
  cases res <;> simp [getObj, Sem.run, hb, run_checkKey_plain _ _ _ hk hp, Instr.findKey, run_underlying hk, hf, hz]

end Go.Proofs.Ytpnfdffbbhedoaa
