/-
  No cell of these rows narrows 'for every input' (looked for: loops, veiled, ifaces, maps, wideKeys, modest, calm, conditions, laid).
  DERIVED. THE GIVEN ROWS OF THIS SEAT. 5 by the template 'for every input the law returns true; each argument reads behind the call as it read before'; 0 by the template 'total and deterministic' (their statements: YtgffifleflkjoaaGreatTotals.lean).
  GIVEN WITH THE SEED: the statements are not yours to turn. If you find one false, say at which input.
  Laid BY PROGRAM, IN A SANDBOX (cutbox-rows.mjs): the forced cells as the released guide's own fill.sh prints them over the translation b72c421b1a5a78b5… (all of the seat's roots in one cut). By AI agents, Wed Nov 11 2026. No macro, syntax, notation, axiom, sorry.
-/
import Derived.Test.YtgffifleflkjoaaGreatChecked
import GoSem.Claim
import GoSem.ClaimJoined
import GoSem.ClaimMapViews
import Derived.JoinedTies
import Derived.KernelRfl
namespace Go.Proofs.YtgffifleflkjoaaGreat
/- THE CELL 'sum', in the pinned program and in every row, IS THE sha256 OF THE DUMP (.gsa) THAT YtgffifleflkjoaaGreatProg.lean LOADS. Nothing in Lean hashes anything: it is a label: what it is worth is what the hold of that sum in a sandbox is worth. -/
noncomputable def Tryz.pinned : Pinned := { name := "ytgffifleflkjoaagreat", sum := "b72c421b1a5a78b5133fbece7dc12258c06d971aa22d7e1303cf08d13616b1c9", checked := Tryz.checked }
namespace Rows
def none {H : Type} : Left H := { results := [], args := [] }

/-- 'tallysticklaw19.EvlogBounds': WHATEVER THE INPUT: true; the input reads as it did. -/
def evlogBoundsSpec : ChangeSpec := { name := "evlogBounds", fn := fun _ => fun
  | [d1, d2] => { results := [.lit (.bool true)], args := [d1, d2] }
  | _ => none }
def evlogBoundsRow : OpenClaim := { program := "ytgffifleflkjoaagreat", sum := "b72c421b1a5a78b5133fbece7dc12258c06d971aa22d7e1303cf08d13616b1c9", func := "tallystick/tallysticklaw19.EvlogBounds", spec := "evlogBounds", inPlace := ["maps.clone"], unfollowed := true, recurses := true, apart := false }
def EvlogBoundsSaid : Prop := evlogBoundsRow.holds Tryz.pinned (OpenSpec.ofChange evlogBoundsSpec)

/-- ITS FALSE NEIGHBOUR: 'it returns false'. Refute it at one input. -/
def evlogBoundsWrong : ChangeSpec := { name := "evlogBounds", fn := fun _ => fun
  | [d1, d2] => { results := [.lit (.bool false)], args := [d1, d2] }
  | _ => none }
def EvlogBoundsWrongFalsely : Prop := evlogBoundsRow.holds Tryz.pinned (OpenSpec.ofChange evlogBoundsWrong)

/-- 'tallysticklaw19.EvlogLeaves': WHATEVER THE INPUT: true; the input reads as it did. -/
def evlogLeavesSpec : ChangeSpec := { name := "evlogLeaves", fn := fun _ => fun
  | [d1, d2, d3] => { results := [.lit (.bool true)], args := [d1, d2, d3] }
  | _ => none }
def evlogLeavesRow : OpenClaim := { program := "ytgffifleflkjoaagreat", sum := "b72c421b1a5a78b5133fbece7dc12258c06d971aa22d7e1303cf08d13616b1c9", func := "tallystick/tallysticklaw19.EvlogLeaves", spec := "evlogLeaves", inPlace := ["maps.clone"], unfollowed := true, recurses := true, apart := false }
def EvlogLeavesSaid : Prop := evlogLeavesRow.holds Tryz.pinned (OpenSpec.ofChange evlogLeavesSpec)

/-- ITS FALSE NEIGHBOUR: 'it returns false'. Refute it at one input. -/
def evlogLeavesWrong : ChangeSpec := { name := "evlogLeaves", fn := fun _ => fun
  | [d1, d2, d3] => { results := [.lit (.bool false)], args := [d1, d2, d3] }
  | _ => none }
def EvlogLeavesWrongFalsely : Prop := evlogLeavesRow.holds Tryz.pinned (OpenSpec.ofChange evlogLeavesWrong)

/-- 'tallysticklaw19.EvlogLasts': WHATEVER THE INPUT: true; the input reads as it did. -/
def evlogLastsSpec : ChangeSpec := { name := "evlogLasts", fn := fun _ => fun
  | [d1, d2, d3, d4] => { results := [.lit (.bool true)], args := [d1, d2, d3, d4] }
  | _ => none }
def evlogLastsRow : OpenClaim := { program := "ytgffifleflkjoaagreat", sum := "b72c421b1a5a78b5133fbece7dc12258c06d971aa22d7e1303cf08d13616b1c9", func := "tallystick/tallysticklaw19.EvlogLasts", spec := "evlogLasts", inPlace := ["maps.clone"], unfollowed := true, recurses := true, apart := false }
def EvlogLastsSaid : Prop := evlogLastsRow.holds Tryz.pinned (OpenSpec.ofChange evlogLastsSpec)

/-- ITS FALSE NEIGHBOUR: 'it returns false'. Refute it at one input. -/
def evlogLastsWrong : ChangeSpec := { name := "evlogLasts", fn := fun _ => fun
  | [d1, d2, d3, d4] => { results := [.lit (.bool false)], args := [d1, d2, d3, d4] }
  | _ => none }
def EvlogLastsWrongFalsely : Prop := evlogLastsRow.holds Tryz.pinned (OpenSpec.ofChange evlogLastsWrong)

/-- 'tallysticklaw19.EvlogPlays': WHATEVER THE INPUT: true; the input reads as it did. -/
def evlogPlaysSpec : ChangeSpec := { name := "evlogPlays", fn := fun _ => fun
  | [d1, d2] => { results := [.lit (.bool true)], args := [d1, d2] }
  | _ => none }
def evlogPlaysRow : OpenClaim := { program := "ytgffifleflkjoaagreat", sum := "b72c421b1a5a78b5133fbece7dc12258c06d971aa22d7e1303cf08d13616b1c9", func := "tallystick/tallysticklaw19.EvlogPlays", spec := "evlogPlays", inPlace := ["maps.clone"], unfollowed := true, recurses := true, apart := false }
def EvlogPlaysSaid : Prop := evlogPlaysRow.holds Tryz.pinned (OpenSpec.ofChange evlogPlaysSpec)

/-- ITS FALSE NEIGHBOUR: 'it returns false'. Refute it at one input. -/
def evlogPlaysWrong : ChangeSpec := { name := "evlogPlays", fn := fun _ => fun
  | [d1, d2] => { results := [.lit (.bool false)], args := [d1, d2] }
  | _ => none }
def EvlogPlaysWrongFalsely : Prop := evlogPlaysRow.holds Tryz.pinned (OpenSpec.ofChange evlogPlaysWrong)

/-- 'tallysticklaw19.EvlogOpens': WHATEVER THE INPUT: true; the input reads as it did. -/
def evlogOpensSpec : ChangeSpec := { name := "evlogOpens", fn := fun _ => fun
  | [d1, d2, d3, d4] => { results := [.lit (.bool true)], args := [d1, d2, d3, d4] }
  | _ => none }
def evlogOpensRow : OpenClaim := { program := "ytgffifleflkjoaagreat", sum := "b72c421b1a5a78b5133fbece7dc12258c06d971aa22d7e1303cf08d13616b1c9", func := "tallystick/tallysticklaw19.EvlogOpens", spec := "evlogOpens", inPlace := ["maps.clone"], unfollowed := true, recurses := true, apart := false }
def EvlogOpensSaid : Prop := evlogOpensRow.holds Tryz.pinned (OpenSpec.ofChange evlogOpensSpec)

/-- ITS FALSE NEIGHBOUR: 'it returns false'. Refute it at one input. -/
def evlogOpensWrong : ChangeSpec := { name := "evlogOpens", fn := fun _ => fun
  | [d1, d2, d3, d4] => { results := [.lit (.bool false)], args := [d1, d2, d3, d4] }
  | _ => none }
def EvlogOpensWrongFalsely : Prop := evlogOpensRow.holds Tryz.pinned (OpenSpec.ofChange evlogOpensWrong)

/- THE SECOND FORM. 'bulk': how many values and letters a reading holds, each counted each time it is reached (what is shared counts as often as it is met; a slice's spare places count too). A statement '..UptoSaid' is the law's where the arguments, and the package variables that the reading takes, are together of bulk at most 1048576: NARROWER than '..Said'. Prove '..Said' where nothing that the law and all that it calls make is longer than what came in: it says more and counts as full. Else prove '..UptoSaid'. A law counts once. -/
mutual
def uptoBulk {H : Type} : DataW H → Nat
  | .lit (.string bytes) => bytes.length + 1
  | .lit _ => 1
  | .nil => 1
  | .ptr d => uptoBulk d + 1
  | .slice elems spare => uptoBulkAll elems + uptoBulkAll spare + 1
  | .agg parts => uptoBulkAll parts + 1
  | .iface _ d => uptoBulk d + 1
  | .map entries => uptoBulkEntries entries + 1
  | .held _ => 1
def uptoBulkAll {H : Type} : List (DataW H) → Nat
  | [] => 0
  | d :: r => uptoBulk d + uptoBulkAll r
def uptoBulkEntries {H : Type} : List (Lit × DataW H) → Nat
  | [] => 0
  | x :: r => uptoBulkEntry x + uptoBulkEntries r
def uptoBulkEntry {H : Type} : Lit × DataW H → Nat
  | (.string bytes, d) => bytes.length + uptoBulk d + 1
  | (_, d) => uptoBulk d + 1
 end
def uptoSmall : (H : Type) → List (DataW H) → Bool := fun _ ds => decide (uptoBulkAll ds ≤ 1048576)
def OpenSpec.upto (s : _root_.Go.ChangeSpec) : _root_.Go.OpenSpec := { _root_.Go.OpenSpec.ofChange s with cond := some uptoSmall }

/-- 'tallysticklaw19.EvlogBounds', WHERE WHAT IT READS IS OF BULK AT MOST 1048576: true; the input reads as it did. -/
def evlogBoundsUptoRow : OpenClaim := { program := "ytgffifleflkjoaagreat", sum := "b72c421b1a5a78b5133fbece7dc12258c06d971aa22d7e1303cf08d13616b1c9", func := "tallystick/tallysticklaw19.EvlogBounds", spec := "evlogBounds", inPlace := ["maps.clone"], unfollowed := true, recurses := true, apart := false, narrowed := true }
def EvlogBoundsUptoSaid : Prop := evlogBoundsUptoRow.holds Tryz.pinned (OpenSpec.upto evlogBoundsSpec)

/-- 'tallysticklaw19.EvlogLeaves', WHERE WHAT IT READS IS OF BULK AT MOST 1048576: true; the input reads as it did. -/
def evlogLeavesUptoRow : OpenClaim := { program := "ytgffifleflkjoaagreat", sum := "b72c421b1a5a78b5133fbece7dc12258c06d971aa22d7e1303cf08d13616b1c9", func := "tallystick/tallysticklaw19.EvlogLeaves", spec := "evlogLeaves", inPlace := ["maps.clone"], unfollowed := true, recurses := true, apart := false, narrowed := true }
def EvlogLeavesUptoSaid : Prop := evlogLeavesUptoRow.holds Tryz.pinned (OpenSpec.upto evlogLeavesSpec)

/-- 'tallysticklaw19.EvlogLasts', WHERE WHAT IT READS IS OF BULK AT MOST 1048576: true; the input reads as it did. -/
def evlogLastsUptoRow : OpenClaim := { program := "ytgffifleflkjoaagreat", sum := "b72c421b1a5a78b5133fbece7dc12258c06d971aa22d7e1303cf08d13616b1c9", func := "tallystick/tallysticklaw19.EvlogLasts", spec := "evlogLasts", inPlace := ["maps.clone"], unfollowed := true, recurses := true, apart := false, narrowed := true }
def EvlogLastsUptoSaid : Prop := evlogLastsUptoRow.holds Tryz.pinned (OpenSpec.upto evlogLastsSpec)

/-- 'tallysticklaw19.EvlogPlays', WHERE WHAT IT READS IS OF BULK AT MOST 1048576: true; the input reads as it did. -/
def evlogPlaysUptoRow : OpenClaim := { program := "ytgffifleflkjoaagreat", sum := "b72c421b1a5a78b5133fbece7dc12258c06d971aa22d7e1303cf08d13616b1c9", func := "tallystick/tallysticklaw19.EvlogPlays", spec := "evlogPlays", inPlace := ["maps.clone"], unfollowed := true, recurses := true, apart := false, narrowed := true }
def EvlogPlaysUptoSaid : Prop := evlogPlaysUptoRow.holds Tryz.pinned (OpenSpec.upto evlogPlaysSpec)

/-- 'tallysticklaw19.EvlogOpens', WHERE WHAT IT READS IS OF BULK AT MOST 1048576: true; the input reads as it did. -/
def evlogOpensUptoRow : OpenClaim := { program := "ytgffifleflkjoaagreat", sum := "b72c421b1a5a78b5133fbece7dc12258c06d971aa22d7e1303cf08d13616b1c9", func := "tallystick/tallysticklaw19.EvlogOpens", spec := "evlogOpens", inPlace := ["maps.clone"], unfollowed := true, recurses := true, apart := false, narrowed := true }
def EvlogOpensUptoSaid : Prop := evlogOpensUptoRow.holds Tryz.pinned (OpenSpec.upto evlogOpensSpec)

end Rows
end Go.Proofs.YtgffifleflkjoaaGreat
