/-
  No cell of these rows narrows 'for every input' (looked for: loops, veiled, ifaces, maps, wideKeys, modest, calm, conditions, laid).
  DERIVED. THE GIVEN ROWS OF THIS SEAT. 7 by the template 'for every input the law returns true; each argument reads behind the call as it read before'; 0 by the template 'total and deterministic' (their statements: YtapoilcpollmpaaTotals.lean).
  GIVEN WITH THE SEED: the statements are not yours to turn. If you find one false, say at which input.
  Laid BY PROGRAM, IN A SANDBOX (cutbox-rows.mjs): the forced cells as the released guide's own fill.sh prints them over the translation 230636b952ae2efe… (all of the seat's roots in one cut). By AI agents, Wed Nov 11 2026. No macro, syntax, notation, axiom, sorry.
-/
import Derived.Test.YtapoilcpollmpaaChecked
import GoSem.Claim
import GoSem.ClaimJoined
import GoSem.ClaimMapViews
import Derived.JoinedTies
import Derived.KernelRfl
namespace Go.Proofs.Ytapoilcpollmpaa
/- THE CELL 'sum', in the pinned program and in every row, IS THE sha256 OF THE DUMP (.gsa) THAT YtapoilcpollmpaaProg.lean LOADS. Nothing in Lean hashes anything: it is a label: what it is worth is what the hold of that sum in a sandbox is worth. -/
noncomputable def Try.pinned : Pinned := { name := "ytapoilcpollmpaa", sum := "230636b952ae2efeaf25bf3375ef0820b69fa606e5ea2c019865af3503a7ce56", checked := Try.checked }
namespace Rows
def none {H : Type} : Left H := { results := [], args := [] }

/-- 'signalboxlaw14.CtrlHears': WHATEVER THE INPUT: true; the input reads as it did. -/
def ctrlHearsSpec : ChangeSpec := { name := "ctrlHears", fn := fun _ => fun
  | [d1, d2, d3] => { results := [.lit (.bool true)], args := [d1, d2, d3] }
  | _ => none }
def ctrlHearsRow : OpenClaim := { program := "ytapoilcpollmpaa", sum := "230636b952ae2efeaf25bf3375ef0820b69fa606e5ea2c019865af3503a7ce56", func := "signalbox/signalboxlaw14.CtrlHears", spec := "ctrlHears", unfollowed := true, recurses := true, apart := false }
def CtrlHearsSaid : Prop := ctrlHearsRow.holds Try.pinned (OpenSpec.ofChange ctrlHearsSpec)

/-- ITS FALSE NEIGHBOUR: 'it returns false'. Refute it at one input. -/
def ctrlHearsWrong : ChangeSpec := { name := "ctrlHears", fn := fun _ => fun
  | [d1, d2, d3] => { results := [.lit (.bool false)], args := [d1, d2, d3] }
  | _ => none }
def CtrlHearsWrongFalsely : Prop := ctrlHearsRow.holds Try.pinned (OpenSpec.ofChange ctrlHearsWrong)

/-- 'signalboxlaw24.BcmTimes': WHATEVER THE INPUT: true; the input reads as it did. -/
def bcmTimesSpec : ChangeSpec := { name := "bcmTimes", fn := fun _ => fun
  | [d1, d2, d3, d4] => { results := [.lit (.bool true)], args := [d1, d2, d3, d4] }
  | _ => none }
def bcmTimesRow : OpenClaim := { program := "ytapoilcpollmpaa", sum := "230636b952ae2efeaf25bf3375ef0820b69fa606e5ea2c019865af3503a7ce56", func := "signalbox/signalboxlaw24.BcmTimes", spec := "bcmTimes", unfollowed := true, recurses := true, apart := false }
def BcmTimesSaid : Prop := bcmTimesRow.holds Try.pinned (OpenSpec.ofChange bcmTimesSpec)

/-- ITS FALSE NEIGHBOUR: 'it returns false'. Refute it at one input. -/
def bcmTimesWrong : ChangeSpec := { name := "bcmTimes", fn := fun _ => fun
  | [d1, d2, d3, d4] => { results := [.lit (.bool false)], args := [d1, d2, d3, d4] }
  | _ => none }
def BcmTimesWrongFalsely : Prop := bcmTimesRow.holds Try.pinned (OpenSpec.ofChange bcmTimesWrong)

/-- 'signalboxlaw24.BcmFull': WHATEVER THE INPUT: true; the input reads as it did. -/
def bcmFullSpec : ChangeSpec := { name := "bcmFull", fn := fun _ => fun
  | [d1, d2] => { results := [.lit (.bool true)], args := [d1, d2] }
  | _ => none }
def bcmFullRow : OpenClaim := { program := "ytapoilcpollmpaa", sum := "230636b952ae2efeaf25bf3375ef0820b69fa606e5ea2c019865af3503a7ce56", func := "signalbox/signalboxlaw24.BcmFull", spec := "bcmFull", unfollowed := true, recurses := true, apart := false }
def BcmFullSaid : Prop := bcmFullRow.holds Try.pinned (OpenSpec.ofChange bcmFullSpec)

/-- ITS FALSE NEIGHBOUR: 'it returns false'. Refute it at one input. -/
def bcmFullWrong : ChangeSpec := { name := "bcmFull", fn := fun _ => fun
  | [d1, d2] => { results := [.lit (.bool false)], args := [d1, d2] }
  | _ => none }
def BcmFullWrongFalsely : Prop := bcmFullRow.holds Try.pinned (OpenSpec.ofChange bcmFullWrong)

/-- 'signalboxlaw14.CtrlPlays': WHATEVER THE INPUT: true; the input reads as it did. -/
def ctrlPlaysSpec : ChangeSpec := { name := "ctrlPlays", fn := fun _ => fun
  | [d1, d2] => { results := [.lit (.bool true)], args := [d1, d2] }
  | _ => none }
def ctrlPlaysRow : OpenClaim := { program := "ytapoilcpollmpaa", sum := "230636b952ae2efeaf25bf3375ef0820b69fa606e5ea2c019865af3503a7ce56", func := "signalbox/signalboxlaw14.CtrlPlays", spec := "ctrlPlays", unfollowed := true, recurses := true, apart := false }
def CtrlPlaysSaid : Prop := ctrlPlaysRow.holds Try.pinned (OpenSpec.ofChange ctrlPlaysSpec)

/-- ITS FALSE NEIGHBOUR: 'it returns false'. Refute it at one input. -/
def ctrlPlaysWrong : ChangeSpec := { name := "ctrlPlays", fn := fun _ => fun
  | [d1, d2] => { results := [.lit (.bool false)], args := [d1, d2] }
  | _ => none }
def CtrlPlaysWrongFalsely : Prop := ctrlPlaysRow.holds Try.pinned (OpenSpec.ofChange ctrlPlaysWrong)

/-- 'signalboxlaw14.CtrlBits': WHATEVER THE INPUT: true; the input reads as it did. -/
def ctrlBitsSpec : ChangeSpec := { name := "ctrlBits", fn := fun _ => fun
  | [d1, d2] => { results := [.lit (.bool true)], args := [d1, d2] }
  | _ => none }
def ctrlBitsRow : OpenClaim := { program := "ytapoilcpollmpaa", sum := "230636b952ae2efeaf25bf3375ef0820b69fa606e5ea2c019865af3503a7ce56", func := "signalbox/signalboxlaw14.CtrlBits", spec := "ctrlBits", unfollowed := true, recurses := true, apart := false }
def CtrlBitsSaid : Prop := ctrlBitsRow.holds Try.pinned (OpenSpec.ofChange ctrlBitsSpec)

/-- ITS FALSE NEIGHBOUR: 'it returns false'. Refute it at one input. -/
def ctrlBitsWrong : ChangeSpec := { name := "ctrlBits", fn := fun _ => fun
  | [d1, d2] => { results := [.lit (.bool false)], args := [d1, d2] }
  | _ => none }
def CtrlBitsWrongFalsely : Prop := ctrlBitsRow.holds Try.pinned (OpenSpec.ofChange ctrlBitsWrong)

/-- 'signalboxlaw14.CtrlNil': WHATEVER THE INPUT: true; the input reads as it did. -/
def ctrlNilSpec : ChangeSpec := { name := "ctrlNil", fn := fun _ => fun
  | [d] => { results := [.lit (.bool true)], args := [d] }
  | _ => none }
def ctrlNilRow : OpenClaim := { program := "ytapoilcpollmpaa", sum := "230636b952ae2efeaf25bf3375ef0820b69fa606e5ea2c019865af3503a7ce56", func := "signalbox/signalboxlaw14.CtrlNil", spec := "ctrlNil", unfollowed := true, recurses := true, apart := false }
def CtrlNilSaid : Prop := ctrlNilRow.holds Try.pinned (OpenSpec.ofChange ctrlNilSpec)

/-- ITS FALSE NEIGHBOUR: 'it returns false'. Refute it at one input. -/
def ctrlNilWrong : ChangeSpec := { name := "ctrlNil", fn := fun _ => fun
  | [d] => { results := [.lit (.bool false)], args := [d] }
  | _ => none }
def CtrlNilWrongFalsely : Prop := ctrlNilRow.holds Try.pinned (OpenSpec.ofChange ctrlNilWrong)

/-- 'signalboxlaw24.BcmNil': WHATEVER THE INPUT: true; the input reads as it did. -/
def bcmNilSpec : ChangeSpec := { name := "bcmNil", fn := fun _ => fun
  | [d1, d2] => { results := [.lit (.bool true)], args := [d1, d2] }
  | _ => none }
def bcmNilRow : OpenClaim := { program := "ytapoilcpollmpaa", sum := "230636b952ae2efeaf25bf3375ef0820b69fa606e5ea2c019865af3503a7ce56", func := "signalbox/signalboxlaw24.BcmNil", spec := "bcmNil", unfollowed := true, recurses := true, apart := false }
def BcmNilSaid : Prop := bcmNilRow.holds Try.pinned (OpenSpec.ofChange bcmNilSpec)

/-- ITS FALSE NEIGHBOUR: 'it returns false'. Refute it at one input. -/
def bcmNilWrong : ChangeSpec := { name := "bcmNil", fn := fun _ => fun
  | [d1, d2] => { results := [.lit (.bool false)], args := [d1, d2] }
  | _ => none }
def BcmNilWrongFalsely : Prop := bcmNilRow.holds Try.pinned (OpenSpec.ofChange bcmNilWrong)

/- THE SECOND FORM. 'bulk': how many values and letters a reading holds, each counted each time it is reached (what is shared counts as often as it is met; a slice's spare places count too). A statement '..UptoSaid' is the law's where the arguments, and the package variables that the reading takes, are together of bulk at most 1048576: NARROWER than '..Said'. Prove '..Said' where nothing that the law and all that it calls make is longer than what came in: it says more and counts as full. Else prove '..UptoSaid'. A law counts once. -/
mutual
def uptoBulk {H : Type} : DataW H → Nat
  | .lit (.string bytes) => bytes.length + 1
  | .lit _ => 1
  | .nil => 1
  | .ptr d => uptoBulk d + 1
  | .slice elems spare => uptoBulkAll elems + uptoBulkAll spare + 1
  | .agg parts => uptoBulkAll parts + 1
  | .iface _ d => uptoBulk d + 1
  | .map entries => uptoBulkEntries entries + 1
  | .held _ => 1
def uptoBulkAll {H : Type} : List (DataW H) → Nat
  | [] => 0
  | d :: r => uptoBulk d + uptoBulkAll r
def uptoBulkEntries {H : Type} : List (Lit × DataW H) → Nat
  | [] => 0
  | x :: r => uptoBulkEntry x + uptoBulkEntries r
def uptoBulkEntry {H : Type} : Lit × DataW H → Nat
  | (.string bytes, d) => bytes.length + uptoBulk d + 1
  | (_, d) => uptoBulk d + 1
 end
def uptoSmall : (H : Type) → List (DataW H) → Bool := fun _ ds => decide (uptoBulkAll ds ≤ 1048576)
def OpenSpec.upto (s : _root_.Go.ChangeSpec) : _root_.Go.OpenSpec := { _root_.Go.OpenSpec.ofChange s with cond := some uptoSmall }

/-- 'signalboxlaw14.CtrlHears', WHERE WHAT IT READS IS OF BULK AT MOST 1048576: true; the input reads as it did. -/
def ctrlHearsUptoRow : OpenClaim := { program := "ytapoilcpollmpaa", sum := "230636b952ae2efeaf25bf3375ef0820b69fa606e5ea2c019865af3503a7ce56", func := "signalbox/signalboxlaw14.CtrlHears", spec := "ctrlHears", unfollowed := true, recurses := true, apart := false, narrowed := true }
def CtrlHearsUptoSaid : Prop := ctrlHearsUptoRow.holds Try.pinned (OpenSpec.upto ctrlHearsSpec)

/-- 'signalboxlaw24.BcmTimes', WHERE WHAT IT READS IS OF BULK AT MOST 1048576: true; the input reads as it did. -/
def bcmTimesUptoRow : OpenClaim := { program := "ytapoilcpollmpaa", sum := "230636b952ae2efeaf25bf3375ef0820b69fa606e5ea2c019865af3503a7ce56", func := "signalbox/signalboxlaw24.BcmTimes", spec := "bcmTimes", unfollowed := true, recurses := true, apart := false, narrowed := true }
def BcmTimesUptoSaid : Prop := bcmTimesUptoRow.holds Try.pinned (OpenSpec.upto bcmTimesSpec)

/-- 'signalboxlaw24.BcmFull', WHERE WHAT IT READS IS OF BULK AT MOST 1048576: true; the input reads as it did. -/
def bcmFullUptoRow : OpenClaim := { program := "ytapoilcpollmpaa", sum := "230636b952ae2efeaf25bf3375ef0820b69fa606e5ea2c019865af3503a7ce56", func := "signalbox/signalboxlaw24.BcmFull", spec := "bcmFull", unfollowed := true, recurses := true, apart := false, narrowed := true }
def BcmFullUptoSaid : Prop := bcmFullUptoRow.holds Try.pinned (OpenSpec.upto bcmFullSpec)

/-- 'signalboxlaw14.CtrlPlays', WHERE WHAT IT READS IS OF BULK AT MOST 1048576: true; the input reads as it did. -/
def ctrlPlaysUptoRow : OpenClaim := { program := "ytapoilcpollmpaa", sum := "230636b952ae2efeaf25bf3375ef0820b69fa606e5ea2c019865af3503a7ce56", func := "signalbox/signalboxlaw14.CtrlPlays", spec := "ctrlPlays", unfollowed := true, recurses := true, apart := false, narrowed := true }
def CtrlPlaysUptoSaid : Prop := ctrlPlaysUptoRow.holds Try.pinned (OpenSpec.upto ctrlPlaysSpec)

/-- 'signalboxlaw14.CtrlBits', WHERE WHAT IT READS IS OF BULK AT MOST 1048576: true; the input reads as it did. -/
def ctrlBitsUptoRow : OpenClaim := { program := "ytapoilcpollmpaa", sum := "230636b952ae2efeaf25bf3375ef0820b69fa606e5ea2c019865af3503a7ce56", func := "signalbox/signalboxlaw14.CtrlBits", spec := "ctrlBits", unfollowed := true, recurses := true, apart := false, narrowed := true }
def CtrlBitsUptoSaid : Prop := ctrlBitsUptoRow.holds Try.pinned (OpenSpec.upto ctrlBitsSpec)

/-- 'signalboxlaw14.CtrlNil', WHERE WHAT IT READS IS OF BULK AT MOST 1048576: true; the input reads as it did. -/
def ctrlNilUptoRow : OpenClaim := { program := "ytapoilcpollmpaa", sum := "230636b952ae2efeaf25bf3375ef0820b69fa606e5ea2c019865af3503a7ce56", func := "signalbox/signalboxlaw14.CtrlNil", spec := "ctrlNil", unfollowed := true, recurses := true, apart := false, narrowed := true }
def CtrlNilUptoSaid : Prop := ctrlNilUptoRow.holds Try.pinned (OpenSpec.upto ctrlNilSpec)

/-- 'signalboxlaw24.BcmNil', WHERE WHAT IT READS IS OF BULK AT MOST 1048576: true; the input reads as it did. -/
def bcmNilUptoRow : OpenClaim := { program := "ytapoilcpollmpaa", sum := "230636b952ae2efeaf25bf3375ef0820b69fa606e5ea2c019865af3503a7ce56", func := "signalbox/signalboxlaw24.BcmNil", spec := "bcmNil", unfollowed := true, recurses := true, apart := false, narrowed := true }
def BcmNilUptoSaid : Prop := bcmNilUptoRow.holds Try.pinned (OpenSpec.upto bcmNilSpec)

end Rows
end Go.Proofs.Ytapoilcpollmpaa
