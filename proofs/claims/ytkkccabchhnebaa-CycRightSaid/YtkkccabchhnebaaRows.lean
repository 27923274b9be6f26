/-
  No cell of these rows narrows 'for every input' (looked for: loops, veiled, ifaces, maps, wideKeys, modest, calm, conditions, laid).
  DERIVED. THE GIVEN ROWS OF THIS SEAT. 5 by the template 'for every input the law returns true; each argument reads behind the call as it read before'; 0 by the template 'total and deterministic' (their statements: YtkkccabchhnebaaTotals.lean).
  GIVEN WITH THE SEED: the statements are not yours to turn. If you find one false, say at which input.
  Laid BY PROGRAM, IN A SANDBOX (cutbox-rows.mjs): the forced cells as the released guide's own fill.sh prints them over the translation 41a5f8358033b033… (all of the seat's roots in one cut). By AI agents, Wed Nov 11 2026. No macro, syntax, notation, axiom, sorry.
-/
import Derived.Test.YtkkccabchhnebaaChecked
import GoSem.Claim
import GoSem.ClaimJoined
import GoSem.ClaimMapViews
import Derived.JoinedTies
import Derived.KernelRfl
namespace Go.Proofs.Ytkkccabchhnebaa
/- THE CELL 'sum', in the pinned program and in every row, IS THE sha256 OF THE DUMP (.gsa) THAT YtkkccabchhnebaaProg.lean LOADS. Nothing in Lean hashes anything: it is a label: what it is worth is what the hold of that sum in a sandbox is worth. -/
noncomputable def Try.pinned : Pinned := { name := "ytkkccabchhnebaa", sum := "41a5f8358033b0335c5f6d4e7f3d07ce26864e22db6035405b773f5da7790fe5", checked := Try.checked }
namespace Rows
def none {H : Type} : Left H := { results := [], args := [] }

/-- 'signalboxlaw13.BoxTurns': WHATEVER THE INPUT: true; the input reads as it did. -/
def boxTurnsSpec : ChangeSpec := { name := "boxTurns", fn := fun _ => fun
  | [d] => { results := [.lit (.bool true)], args := [d] }
  | _ => none }
def boxTurnsRow : OpenClaim := { program := "ytkkccabchhnebaa", sum := "41a5f8358033b0335c5f6d4e7f3d07ce26864e22db6035405b773f5da7790fe5", func := "signalbox/signalboxlaw13.BoxTurns", spec := "boxTurns", unfollowed := true, recurses := true, apart := false }
def BoxTurnsSaid : Prop := boxTurnsRow.holds Try.pinned (OpenSpec.ofChange boxTurnsSpec)

/-- ITS FALSE NEIGHBOUR: 'it returns false'. Refute it at one input. -/
def boxTurnsWrong : ChangeSpec := { name := "boxTurns", fn := fun _ => fun
  | [d] => { results := [.lit (.bool false)], args := [d] }
  | _ => none }
def BoxTurnsWrongFalsely : Prop := boxTurnsRow.holds Try.pinned (OpenSpec.ofChange boxTurnsWrong)

/-- 'signalboxlaw13.BoxPlays': WHATEVER THE INPUT: true; the input reads as it did. -/
def boxPlaysSpec : ChangeSpec := { name := "boxPlays", fn := fun _ => fun
  | [d1, d2] => { results := [.lit (.bool true)], args := [d1, d2] }
  | _ => none }
def boxPlaysRow : OpenClaim := { program := "ytkkccabchhnebaa", sum := "41a5f8358033b0335c5f6d4e7f3d07ce26864e22db6035405b773f5da7790fe5", func := "signalbox/signalboxlaw13.BoxPlays", spec := "boxPlays", unfollowed := true, recurses := true, apart := false }
def BoxPlaysSaid : Prop := boxPlaysRow.holds Try.pinned (OpenSpec.ofChange boxPlaysSpec)

/-- ITS FALSE NEIGHBOUR: 'it returns false'. Refute it at one input. -/
def boxPlaysWrong : ChangeSpec := { name := "boxPlays", fn := fun _ => fun
  | [d1, d2] => { results := [.lit (.bool false)], args := [d1, d2] }
  | _ => none }
def BoxPlaysWrongFalsely : Prop := boxPlaysRow.holds Try.pinned (OpenSpec.ofChange boxPlaysWrong)

/-- 'signalboxlaw13.BoxNil': WHATEVER THE INPUT: true; the input reads as it did. -/
def boxNilSpec : ChangeSpec := { name := "boxNil", fn := fun _ => fun
  | [d1, d2] => { results := [.lit (.bool true)], args := [d1, d2] }
  | _ => none }
def boxNilRow : OpenClaim := { program := "ytkkccabchhnebaa", sum := "41a5f8358033b0335c5f6d4e7f3d07ce26864e22db6035405b773f5da7790fe5", func := "signalbox/signalboxlaw13.BoxNil", spec := "boxNil", unfollowed := true, recurses := true, apart := false }
def BoxNilSaid : Prop := boxNilRow.holds Try.pinned (OpenSpec.ofChange boxNilSpec)

/-- ITS FALSE NEIGHBOUR: 'it returns false'. Refute it at one input. -/
def boxNilWrong : ChangeSpec := { name := "boxNil", fn := fun _ => fun
  | [d1, d2] => { results := [.lit (.bool false)], args := [d1, d2] }
  | _ => none }
def BoxNilWrongFalsely : Prop := boxNilRow.holds Try.pinned (OpenSpec.ofChange boxNilWrong)

/-- 'signalboxlaw22.CycRight': WHATEVER THE INPUT: true; the input reads as it did. -/
def cycRightSpec : ChangeSpec := { name := "cycRight", fn := fun _ => fun
  | [d1, d2, d3] => { results := [.lit (.bool true)], args := [d1, d2, d3] }
  | _ => none }
def cycRightRow : OpenClaim := { program := "ytkkccabchhnebaa", sum := "41a5f8358033b0335c5f6d4e7f3d07ce26864e22db6035405b773f5da7790fe5", func := "signalbox/signalboxlaw22.CycRight", spec := "cycRight", unfollowed := true, recurses := true, apart := false }
def CycRightSaid : Prop := cycRightRow.holds Try.pinned (OpenSpec.ofChange cycRightSpec)

/-- ITS FALSE NEIGHBOUR: 'it returns false'. Refute it at one input. -/
def cycRightWrong : ChangeSpec := { name := "cycRight", fn := fun _ => fun
  | [d1, d2, d3] => { results := [.lit (.bool false)], args := [d1, d2, d3] }
  | _ => none }
def CycRightWrongFalsely : Prop := cycRightRow.holds Try.pinned (OpenSpec.ofChange cycRightWrong)

/-- 'signalboxlaw22.CycNil': WHATEVER THE INPUT: true; the input reads as it did. -/
def cycNilSpec : ChangeSpec := { name := "cycNil", fn := fun _ => fun
  | [d] => { results := [.lit (.bool true)], args := [d] }
  | _ => none }
def cycNilRow : OpenClaim := { program := "ytkkccabchhnebaa", sum := "41a5f8358033b0335c5f6d4e7f3d07ce26864e22db6035405b773f5da7790fe5", func := "signalbox/signalboxlaw22.CycNil", spec := "cycNil", unfollowed := true, recurses := true, apart := false }
def CycNilSaid : Prop := cycNilRow.holds Try.pinned (OpenSpec.ofChange cycNilSpec)

/-- ITS FALSE NEIGHBOUR: 'it returns false'. Refute it at one input. -/
def cycNilWrong : ChangeSpec := { name := "cycNil", fn := fun _ => fun
  | [d] => { results := [.lit (.bool false)], args := [d] }
  | _ => none }
def CycNilWrongFalsely : Prop := cycNilRow.holds Try.pinned (OpenSpec.ofChange cycNilWrong)

/- THE SECOND FORM. 'bulk': how many values and letters a reading holds, each counted each time it is reached (what is shared counts as often as it is met; a slice's spare places count too). A statement '..UptoSaid' is the law's where the arguments, and the package variables that the reading takes, are together of bulk at most 1048576: NARROWER than '..Said'. Prove '..Said' where nothing that the law and all that it calls make is longer than what came in: it says more and counts as full. Else prove '..UptoSaid'. A law counts once. -/
mutual
def uptoBulk {H : Type} : DataW H → Nat
  | .lit (.string bytes) => bytes.length + 1
  | .lit _ => 1
  | .nil => 1
  | .ptr d => uptoBulk d + 1
  | .slice elems spare => uptoBulkAll elems + uptoBulkAll spare + 1
  | .agg parts => uptoBulkAll parts + 1
  | .iface _ d => uptoBulk d + 1
  | .map entries => uptoBulkEntries entries + 1
  | .held _ => 1
def uptoBulkAll {H : Type} : List (DataW H) → Nat
  | [] => 0
  | d :: r => uptoBulk d + uptoBulkAll r
def uptoBulkEntries {H : Type} : List (Lit × DataW H) → Nat
  | [] => 0
  | x :: r => uptoBulkEntry x + uptoBulkEntries r
def uptoBulkEntry {H : Type} : Lit × DataW H → Nat
  | (.string bytes, d) => bytes.length + uptoBulk d + 1
  | (_, d) => uptoBulk d + 1
 end
def uptoSmall : (H : Type) → List (DataW H) → Bool := fun _ ds => decide (uptoBulkAll ds ≤ 1048576)
def OpenSpec.upto (s : _root_.Go.ChangeSpec) : _root_.Go.OpenSpec := { _root_.Go.OpenSpec.ofChange s with cond := some uptoSmall }

/-- 'signalboxlaw13.BoxTurns', WHERE WHAT IT READS IS OF BULK AT MOST 1048576: true; the input reads as it did. -/
def boxTurnsUptoRow : OpenClaim := { program := "ytkkccabchhnebaa", sum := "41a5f8358033b0335c5f6d4e7f3d07ce26864e22db6035405b773f5da7790fe5", func := "signalbox/signalboxlaw13.BoxTurns", spec := "boxTurns", unfollowed := true, recurses := true, apart := false, narrowed := true }
def BoxTurnsUptoSaid : Prop := boxTurnsUptoRow.holds Try.pinned (OpenSpec.upto boxTurnsSpec)

/-- 'signalboxlaw13.BoxPlays', WHERE WHAT IT READS IS OF BULK AT MOST 1048576: true; the input reads as it did. -/
def boxPlaysUptoRow : OpenClaim := { program := "ytkkccabchhnebaa", sum := "41a5f8358033b0335c5f6d4e7f3d07ce26864e22db6035405b773f5da7790fe5", func := "signalbox/signalboxlaw13.BoxPlays", spec := "boxPlays", unfollowed := true, recurses := true, apart := false, narrowed := true }
def BoxPlaysUptoSaid : Prop := boxPlaysUptoRow.holds Try.pinned (OpenSpec.upto boxPlaysSpec)

/-- 'signalboxlaw13.BoxNil', WHERE WHAT IT READS IS OF BULK AT MOST 1048576: true; the input reads as it did. -/
def boxNilUptoRow : OpenClaim := { program := "ytkkccabchhnebaa", sum := "41a5f8358033b0335c5f6d4e7f3d07ce26864e22db6035405b773f5da7790fe5", func := "signalbox/signalboxlaw13.BoxNil", spec := "boxNil", unfollowed := true, recurses := true, apart := false, narrowed := true }
def BoxNilUptoSaid : Prop := boxNilUptoRow.holds Try.pinned (OpenSpec.upto boxNilSpec)

/-- 'signalboxlaw22.CycRight', WHERE WHAT IT READS IS OF BULK AT MOST 1048576: true; the input reads as it did. -/
def cycRightUptoRow : OpenClaim := { program := "ytkkccabchhnebaa", sum := "41a5f8358033b0335c5f6d4e7f3d07ce26864e22db6035405b773f5da7790fe5", func := "signalbox/signalboxlaw22.CycRight", spec := "cycRight", unfollowed := true, recurses := true, apart := false, narrowed := true }
def CycRightUptoSaid : Prop := cycRightUptoRow.holds Try.pinned (OpenSpec.upto cycRightSpec)

/-- 'signalboxlaw22.CycNil', WHERE WHAT IT READS IS OF BULK AT MOST 1048576: true; the input reads as it did. -/
def cycNilUptoRow : OpenClaim := { program := "ytkkccabchhnebaa", sum := "41a5f8358033b0335c5f6d4e7f3d07ce26864e22db6035405b773f5da7790fe5", func := "signalbox/signalboxlaw22.CycNil", spec := "cycNil", unfollowed := true, recurses := true, apart := false, narrowed := true }
def CycNilUptoSaid : Prop := cycNilUptoRow.holds Try.pinned (OpenSpec.upto cycNilSpec)

end Rows
end Go.Proofs.Ytkkccabchhnebaa
