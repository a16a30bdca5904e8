/-
  No cell of these rows narrows 'for every input' (looked for: loops, veiled, ifaces, maps, wideKeys, modest, calm, conditions, laid).
  DERIVED. THE GIVEN ROWS OF THIS SEAT. 5 by the template 'for every input the law returns true; each argument reads behind the call as it read before'; 0 by the template 'total and deterministic' (their statements: YtpnfdffbbhedoaaTotals.lean).
  GIVEN WITH THE SEED: the statements are not yours to turn. If you find one false, say at which input.
  Laid BY PROGRAM, IN A SANDBOX (cutbox-rows.mjs): the forced cells as the released guide's own fill.sh prints them over the translation ef4ab6c94bbe24ff… (all of the seat's roots in one cut). By AI agents, Wed Nov 11 2026. No macro, syntax, notation, axiom, sorry.
-/
import Derived.Test.YtpnfdffbbhedoaaChecked
import GoSem.Claim
import GoSem.ClaimJoined
import GoSem.ClaimMapViews
import Derived.JoinedTies
import Derived.KernelRfl
namespace Go.Proofs.Ytpnfdffbbhedoaa
/- THE CELL 'sum', in the pinned program and in every row, IS THE sha256 OF THE DUMP (.gsa) THAT YtpnfdffbbhedoaaProg.lean LOADS. Nothing in Lean hashes anything: it is a label: what it is worth is what the hold of that sum in a sandbox is worth. -/
noncomputable def Try.pinned : Pinned := { name := "ytpnfdffbbhedoaa", sum := "ef4ab6c94bbe24ffb946ff68e2179176d65d6bb75da2c9a40f588ae1c4047ddf", checked := Try.checked }
namespace Rows
def none {H : Type} : Left H := { results := [], args := [] }

/-- 'tallysticklaw09.StageMeets': WHATEVER THE INPUT: true; the input reads as it did. -/
def stageMeetsSpec : ChangeSpec := { name := "stageMeets", fn := fun _ => fun
  | [d1, d2] => { results := [.lit (.bool true)], args := [d1, d2] }
  | _ => none }
def stageMeetsRow : OpenClaim := { program := "ytpnfdffbbhedoaa", sum := "ef4ab6c94bbe24ffb946ff68e2179176d65d6bb75da2c9a40f588ae1c4047ddf", func := "tallystick/tallysticklaw09.StageMeets", spec := "stageMeets", apart := false }
def StageMeetsSaid : Prop := stageMeetsRow.holds Try.pinned (OpenSpec.ofChange stageMeetsSpec)

/-- ITS FALSE NEIGHBOUR: 'it returns false'. Refute it at one input. -/
def stageMeetsWrong : ChangeSpec := { name := "stageMeets", fn := fun _ => fun
  | [d1, d2] => { results := [.lit (.bool false)], args := [d1, d2] }
  | _ => none }
def StageMeetsWrongFalsely : Prop := stageMeetsRow.holds Try.pinned (OpenSpec.ofChange stageMeetsWrong)

/-- 'tallysticklaw09.StageNexts': WHATEVER THE INPUT: true; the input reads as it did. -/
def stageNextsSpec : ChangeSpec := { name := "stageNexts", fn := fun _ => fun
  | [d1, d2, d3] => { results := [.lit (.bool true)], args := [d1, d2, d3] }
  | _ => none }
def stageNextsRow : OpenClaim := { program := "ytpnfdffbbhedoaa", sum := "ef4ab6c94bbe24ffb946ff68e2179176d65d6bb75da2c9a40f588ae1c4047ddf", func := "tallystick/tallysticklaw09.StageNexts", spec := "stageNexts", apart := false }
def StageNextsSaid : Prop := stageNextsRow.holds Try.pinned (OpenSpec.ofChange stageNextsSpec)

/-- ITS FALSE NEIGHBOUR: 'it returns false'. Refute it at one input. -/
def stageNextsWrong : ChangeSpec := { name := "stageNexts", fn := fun _ => fun
  | [d1, d2, d3] => { results := [.lit (.bool false)], args := [d1, d2, d3] }
  | _ => none }
def StageNextsWrongFalsely : Prop := stageNextsRow.holds Try.pinned (OpenSpec.ofChange stageNextsWrong)

/-- 'tallysticklaw09.StageStands': WHATEVER THE INPUT: true; the input reads as it did. -/
def stageStandsSpec : ChangeSpec := { name := "stageStands", fn := fun _ => fun
  | [d1, d2, d3] => { results := [.lit (.bool true)], args := [d1, d2, d3] }
  | _ => none }
def stageStandsRow : OpenClaim := { program := "ytpnfdffbbhedoaa", sum := "ef4ab6c94bbe24ffb946ff68e2179176d65d6bb75da2c9a40f588ae1c4047ddf", func := "tallystick/tallysticklaw09.StageStands", spec := "stageStands", unfollowed := true, recurses := true, apart := false }
def StageStandsSaid : Prop := stageStandsRow.holds Try.pinned (OpenSpec.ofChange stageStandsSpec)

/-- ITS FALSE NEIGHBOUR: 'it returns false'. Refute it at one input. -/
def stageStandsWrong : ChangeSpec := { name := "stageStands", fn := fun _ => fun
  | [d1, d2, d3] => { results := [.lit (.bool false)], args := [d1, d2, d3] }
  | _ => none }
def StageStandsWrongFalsely : Prop := stageStandsRow.holds Try.pinned (OpenSpec.ofChange stageStandsWrong)

/-- 'tallysticklaw09.StagePaths': WHATEVER THE INPUT: true; the input reads as it did. -/
def stagePathsSpec : ChangeSpec := { name := "stagePaths", fn := fun _ => fun
  | [d1, d2] => { results := [.lit (.bool true)], args := [d1, d2] }
  | _ => none }
def stagePathsRow : OpenClaim := { program := "ytpnfdffbbhedoaa", sum := "ef4ab6c94bbe24ffb946ff68e2179176d65d6bb75da2c9a40f588ae1c4047ddf", func := "tallystick/tallysticklaw09.StagePaths", spec := "stagePaths", unfollowed := true, recurses := true, apart := false }
def StagePathsSaid : Prop := stagePathsRow.holds Try.pinned (OpenSpec.ofChange stagePathsSpec)

/-- ITS FALSE NEIGHBOUR: 'it returns false'. Refute it at one input. -/
def stagePathsWrong : ChangeSpec := { name := "stagePaths", fn := fun _ => fun
  | [d1, d2] => { results := [.lit (.bool false)], args := [d1, d2] }
  | _ => none }
def StagePathsWrongFalsely : Prop := stagePathsRow.holds Try.pinned (OpenSpec.ofChange stagePathsWrong)

/-- 'tallysticklaw09.StageTexts': WHATEVER THE INPUT: true; the input reads as it did. -/
def stageTextsSpec : ChangeSpec := { name := "stageTexts", fn := fun _ => fun
  | [d1, d2] => { results := [.lit (.bool true)], args := [d1, d2] }
  | _ => none }
def stageTextsRow : OpenClaim := { program := "ytpnfdffbbhedoaa", sum := "ef4ab6c94bbe24ffb946ff68e2179176d65d6bb75da2c9a40f588ae1c4047ddf", func := "tallystick/tallysticklaw09.StageTexts", spec := "stageTexts", unfollowed := true, recurses := true, apart := false }
def StageTextsSaid : Prop := stageTextsRow.holds Try.pinned (OpenSpec.ofChange stageTextsSpec)

/-- ITS FALSE NEIGHBOUR: 'it returns false'. Refute it at one input. -/
def stageTextsWrong : ChangeSpec := { name := "stageTexts", fn := fun _ => fun
  | [d1, d2] => { results := [.lit (.bool false)], args := [d1, d2] }
  | _ => none }
def StageTextsWrongFalsely : Prop := stageTextsRow.holds Try.pinned (OpenSpec.ofChange stageTextsWrong)

/- THE SECOND FORM. 'bulk': how many values and letters a reading holds, each counted each time it is reached (what is shared counts as often as it is met; a slice's spare places count too). A statement '..UptoSaid' is the law's where the arguments, and the package variables that the reading takes, are together of bulk at most 1048576: NARROWER than '..Said'. Prove '..Said' where nothing that the law and all that it calls make is longer than what came in: it says more and counts as full. Else prove '..UptoSaid'. A law counts once. -/
mutual
def uptoBulk {H : Type} : DataW H → Nat
  | .lit (.string bytes) => bytes.length + 1
  | .lit _ => 1
  | .nil => 1
  | .ptr d => uptoBulk d + 1
  | .slice elems spare => uptoBulkAll elems + uptoBulkAll spare + 1
  | .agg parts => uptoBulkAll parts + 1
  | .iface _ d => uptoBulk d + 1
  | .map entries => uptoBulkEntries entries + 1
  | .held _ => 1
def uptoBulkAll {H : Type} : List (DataW H) → Nat
  | [] => 0
  | d :: r => uptoBulk d + uptoBulkAll r
def uptoBulkEntries {H : Type} : List (Lit × DataW H) → Nat
  | [] => 0
  | x :: r => uptoBulkEntry x + uptoBulkEntries r
def uptoBulkEntry {H : Type} : Lit × DataW H → Nat
  | (.string bytes, d) => bytes.length + uptoBulk d + 1
  | (_, d) => uptoBulk d + 1
 end
def uptoSmall : (H : Type) → List (DataW H) → Bool := fun _ ds => decide (uptoBulkAll ds ≤ 1048576)
def OpenSpec.upto (s : _root_.Go.ChangeSpec) : _root_.Go.OpenSpec := { _root_.Go.OpenSpec.ofChange s with cond := some uptoSmall }

/-- 'tallysticklaw09.StageMeets', WHERE WHAT IT READS IS OF BULK AT MOST 1048576: true; the input reads as it did. -/
def stageMeetsUptoRow : OpenClaim := { program := "ytpnfdffbbhedoaa", sum := "ef4ab6c94bbe24ffb946ff68e2179176d65d6bb75da2c9a40f588ae1c4047ddf", func := "tallystick/tallysticklaw09.StageMeets", spec := "stageMeets", apart := false, narrowed := true }
def StageMeetsUptoSaid : Prop := stageMeetsUptoRow.holds Try.pinned (OpenSpec.upto stageMeetsSpec)

/-- 'tallysticklaw09.StageNexts', WHERE WHAT IT READS IS OF BULK AT MOST 1048576: true; the input reads as it did. -/
def stageNextsUptoRow : OpenClaim := { program := "ytpnfdffbbhedoaa", sum := "ef4ab6c94bbe24ffb946ff68e2179176d65d6bb75da2c9a40f588ae1c4047ddf", func := "tallystick/tallysticklaw09.StageNexts", spec := "stageNexts", apart := false, narrowed := true }
def StageNextsUptoSaid : Prop := stageNextsUptoRow.holds Try.pinned (OpenSpec.upto stageNextsSpec)

/-- 'tallysticklaw09.StageStands', WHERE WHAT IT READS IS OF BULK AT MOST 1048576: true; the input reads as it did. -/
def stageStandsUptoRow : OpenClaim := { program := "ytpnfdffbbhedoaa", sum := "ef4ab6c94bbe24ffb946ff68e2179176d65d6bb75da2c9a40f588ae1c4047ddf", func := "tallystick/tallysticklaw09.StageStands", spec := "stageStands", unfollowed := true, recurses := true, apart := false, narrowed := true }
def StageStandsUptoSaid : Prop := stageStandsUptoRow.holds Try.pinned (OpenSpec.upto stageStandsSpec)

/-- 'tallysticklaw09.StagePaths', WHERE WHAT IT READS IS OF BULK AT MOST 1048576: true; the input reads as it did. -/
def stagePathsUptoRow : OpenClaim := { program := "ytpnfdffbbhedoaa", sum := "ef4ab6c94bbe24ffb946ff68e2179176d65d6bb75da2c9a40f588ae1c4047ddf", func := "tallystick/tallysticklaw09.StagePaths", spec := "stagePaths", unfollowed := true, recurses := true, apart := false, narrowed := true }
def StagePathsUptoSaid : Prop := stagePathsUptoRow.holds Try.pinned (OpenSpec.upto stagePathsSpec)

/-- 'tallysticklaw09.StageTexts', WHERE WHAT IT READS IS OF BULK AT MOST 1048576: true; the input reads as it did. -/
def stageTextsUptoRow : OpenClaim := { program := "ytpnfdffbbhedoaa", sum := "ef4ab6c94bbe24ffb946ff68e2179176d65d6bb75da2c9a40f588ae1c4047ddf", func := "tallystick/tallysticklaw09.StageTexts", spec := "stageTexts", unfollowed := true, recurses := true, apart := false, narrowed := true }
def StageTextsUptoSaid : Prop := stageTextsUptoRow.holds Try.pinned (OpenSpec.upto stageTextsSpec)

end Rows
end Go.Proofs.Ytpnfdffbbhedoaa
