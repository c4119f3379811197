/-
  No cell of these rows narrows 'for every input' (looked for: loops, veiled, ifaces, maps, wideKeys, modest, calm, conditions, laid).
  DERIVED. THE GIVEN ROWS OF THIS SEAT. 14 by the template 'for every input the law returns true; each argument reads behind the call as it read before'; 0 by the template 'total and deterministic' (their statements: YtjngdnemappcdaaTotals.lean).
  GIVEN WITH THE SEED: the statements are not yours to turn. If you find one false, say at which input.
  Laid BY PROGRAM, IN A SANDBOX (cutbox-rows.mjs): the forced cells as the released guide's own fill.sh prints them over the translation eb4dc2e2651bd58c… (all of the seat's roots in one cut). By AI agents, Wed Nov 11 2026. No macro, syntax, notation, axiom, sorry.
-/
import Derived.Test.YtjngdnemappcdaaChecked
import GoSem.Claim
import GoSem.ClaimJoined
import GoSem.ClaimMapViews
import Derived.JoinedTies
import Derived.KernelRfl
namespace Go.Proofs.Ytjngdnemappcdaa
/- THE CELL 'sum', in the pinned program and in every row, IS THE sha256 OF THE DUMP (.gsa) THAT YtjngdnemappcdaaProg.lean LOADS. Nothing in Lean hashes anything: it is a label: what it is worth is what the hold of that sum in a sandbox is worth. -/
noncomputable def Try.pinned : Pinned := { name := "ytjngdnemappcdaa", sum := "eb4dc2e2651bd58c901a11f210b771ec973b58e1d0632e02b356f85542a98333", checked := Try.checked }
namespace Rows
def none {H : Type} : Left H := { results := [], args := [] }

/-- 'gantkeep5.ClockGoes': WHATEVER THE INPUT: true; the input reads as it did. -/
def clockGoesSpec : ChangeSpec := { name := "clockGoes", fn := fun _ => fun
  | [d1, d2, d3] => { results := [.lit (.bool true)], args := [d1, d2, d3] }
  | _ => none }
def clockGoesRow : OpenClaim := { program := "ytjngdnemappcdaa", sum := "eb4dc2e2651bd58c901a11f210b771ec973b58e1d0632e02b356f85542a98333", func := "gantry/gantkeep5.ClockGoes", spec := "clockGoes", apart := false }
def ClockGoesSaid : Prop := clockGoesRow.holds Try.pinned (OpenSpec.ofChange clockGoesSpec)

/-- ITS FALSE NEIGHBOUR: 'it returns false'. Refute it at one input. -/
def clockGoesWrong : ChangeSpec := { name := "clockGoes", fn := fun _ => fun
  | [d1, d2, d3] => { results := [.lit (.bool false)], args := [d1, d2, d3] }
  | _ => none }
def ClockGoesWrongFalsely : Prop := clockGoesRow.holds Try.pinned (OpenSpec.ofChange clockGoesWrong)

/-- 'gantkeep5.ClockBetween': WHATEVER THE INPUT: true; the input reads as it did. -/
def clockBetweenSpec : ChangeSpec := { name := "clockBetween", fn := fun _ => fun
  | [d1, d2, d3] => { results := [.lit (.bool true)], args := [d1, d2, d3] }
  | _ => none }
def clockBetweenRow : OpenClaim := { program := "ytjngdnemappcdaa", sum := "eb4dc2e2651bd58c901a11f210b771ec973b58e1d0632e02b356f85542a98333", func := "gantry/gantkeep5.ClockBetween", spec := "clockBetween", apart := false }
def ClockBetweenSaid : Prop := clockBetweenRow.holds Try.pinned (OpenSpec.ofChange clockBetweenSpec)

/-- ITS FALSE NEIGHBOUR: 'it returns false'. Refute it at one input. -/
def clockBetweenWrong : ChangeSpec := { name := "clockBetween", fn := fun _ => fun
  | [d1, d2, d3] => { results := [.lit (.bool false)], args := [d1, d2, d3] }
  | _ => none }
def ClockBetweenWrongFalsely : Prop := clockBetweenRow.holds Try.pinned (OpenSpec.ofChange clockBetweenWrong)

/-- 'gantkeep5.ClockSure': WHATEVER THE INPUT: true; the input reads as it did. -/
def clockSureSpec : ChangeSpec := { name := "clockSure", fn := fun _ => fun
  | [d1, d2, d3, d4, d5] => { results := [.lit (.bool true)], args := [d1, d2, d3, d4, d5] }
  | _ => none }
def clockSureRow : OpenClaim := { program := "ytjngdnemappcdaa", sum := "eb4dc2e2651bd58c901a11f210b771ec973b58e1d0632e02b356f85542a98333", func := "gantry/gantkeep5.ClockSure", spec := "clockSure", apart := false }
def ClockSureSaid : Prop := clockSureRow.holds Try.pinned (OpenSpec.ofChange clockSureSpec)

/-- ITS FALSE NEIGHBOUR: 'it returns false'. Refute it at one input. -/
def clockSureWrong : ChangeSpec := { name := "clockSure", fn := fun _ => fun
  | [d1, d2, d3, d4, d5] => { results := [.lit (.bool false)], args := [d1, d2, d3, d4, d5] }
  | _ => none }
def ClockSureWrongFalsely : Prop := clockSureRow.holds Try.pinned (OpenSpec.ofChange clockSureWrong)

/-- 'gantlaw5.MsgSame': WHATEVER THE INPUT: true; the input reads as it did. -/
def msgSameSpec : ChangeSpec := { name := "msgSame", fn := fun _ => fun
  | [d1, d2, d3] => { results := [.lit (.bool true)], args := [d1, d2, d3] }
  | _ => none }
def msgSameRow : OpenClaim := { program := "ytjngdnemappcdaa", sum := "eb4dc2e2651bd58c901a11f210b771ec973b58e1d0632e02b356f85542a98333", func := "gantry/gantlaw5.MsgSame", spec := "msgSame", apart := false }
def MsgSameSaid : Prop := msgSameRow.holds Try.pinned (OpenSpec.ofChange msgSameSpec)

/-- ITS FALSE NEIGHBOUR: 'it returns false'. Refute it at one input. -/
def msgSameWrong : ChangeSpec := { name := "msgSame", fn := fun _ => fun
  | [d1, d2, d3] => { results := [.lit (.bool false)], args := [d1, d2, d3] }
  | _ => none }
def MsgSameWrongFalsely : Prop := msgSameRow.holds Try.pinned (OpenSpec.ofChange msgSameWrong)

/-- 'gantlaw5.ClockTells': WHATEVER THE INPUT: true; the input reads as it did. -/
def clockTellsSpec : ChangeSpec := { name := "clockTells", fn := fun _ => fun
  | [d1, d2, d3, d4, d5, d6, d7] => { results := [.lit (.bool true)], args := [d1, d2, d3, d4, d5, d6, d7] }
  | _ => none }
def clockTellsRow : OpenClaim := { program := "ytjngdnemappcdaa", sum := "eb4dc2e2651bd58c901a11f210b771ec973b58e1d0632e02b356f85542a98333", func := "gantry/gantlaw5.ClockTells", spec := "clockTells", unfollowed := true, recurses := true, apart := false }
def ClockTellsSaid : Prop := clockTellsRow.holds Try.pinned (OpenSpec.ofChange clockTellsSpec)

/-- ITS FALSE NEIGHBOUR: 'it returns false'. Refute it at one input. -/
def clockTellsWrong : ChangeSpec := { name := "clockTells", fn := fun _ => fun
  | [d1, d2, d3, d4, d5, d6, d7] => { results := [.lit (.bool false)], args := [d1, d2, d3, d4, d5, d6, d7] }
  | _ => none }
def ClockTellsWrongFalsely : Prop := clockTellsRow.holds Try.pinned (OpenSpec.ofChange clockTellsWrong)

/-- 'gantlaw5.FallHellos': WHATEVER THE INPUT: true; the input reads as it did. -/
def fallHellosSpec : ChangeSpec := { name := "fallHellos", fn := fun _ => fun
  | [d1, d2, d3, d4] => { results := [.lit (.bool true)], args := [d1, d2, d3, d4] }
  | _ => none }
def fallHellosRow : OpenClaim := { program := "ytjngdnemappcdaa", sum := "eb4dc2e2651bd58c901a11f210b771ec973b58e1d0632e02b356f85542a98333", func := "gantry/gantlaw5.FallHellos", spec := "fallHellos", unfollowed := true, recurses := true, apart := false }
def FallHellosSaid : Prop := fallHellosRow.holds Try.pinned (OpenSpec.ofChange fallHellosSpec)

/-- ITS FALSE NEIGHBOUR: 'it returns false'. Refute it at one input. -/
def fallHellosWrong : ChangeSpec := { name := "fallHellos", fn := fun _ => fun
  | [d1, d2, d3, d4] => { results := [.lit (.bool false)], args := [d1, d2, d3, d4] }
  | _ => none }
def FallHellosWrongFalsely : Prop := fallHellosRow.holds Try.pinned (OpenSpec.ofChange fallHellosWrong)

/-- 'gantkeep5.LogGoes': WHATEVER THE INPUT: true; the input reads as it did. -/
def logGoesSpec : ChangeSpec := { name := "logGoes", fn := fun _ => fun
  | [d1, d2, d3] => { results := [.lit (.bool true)], args := [d1, d2, d3] }
  | _ => none }
def logGoesRow : OpenClaim := { program := "ytjngdnemappcdaa", sum := "eb4dc2e2651bd58c901a11f210b771ec973b58e1d0632e02b356f85542a98333", func := "gantry/gantkeep5.LogGoes", spec := "logGoes", apart := false }
def LogGoesSaid : Prop := logGoesRow.holds Try.pinned (OpenSpec.ofChange logGoesSpec)

/-- ITS FALSE NEIGHBOUR: 'it returns false'. Refute it at one input. -/
def logGoesWrong : ChangeSpec := { name := "logGoes", fn := fun _ => fun
  | [d1, d2, d3] => { results := [.lit (.bool false)], args := [d1, d2, d3] }
  | _ => none }
def LogGoesWrongFalsely : Prop := logGoesRow.holds Try.pinned (OpenSpec.ofChange logGoesWrong)

/-- 'gantlaw5.LogTells': WHATEVER THE INPUT: true; the input reads as it did. -/
def logTellsSpec : ChangeSpec := { name := "logTells", fn := fun _ => fun
  | [d1, d2, d3] => { results := [.lit (.bool true)], args := [d1, d2, d3] }
  | _ => none }
def logTellsRow : OpenClaim := { program := "ytjngdnemappcdaa", sum := "eb4dc2e2651bd58c901a11f210b771ec973b58e1d0632e02b356f85542a98333", func := "gantry/gantlaw5.LogTells", spec := "logTells", unfollowed := true, recurses := true, apart := false }
def LogTellsSaid : Prop := logTellsRow.holds Try.pinned (OpenSpec.ofChange logTellsSpec)

/-- ITS FALSE NEIGHBOUR: 'it returns false'. Refute it at one input. -/
def logTellsWrong : ChangeSpec := { name := "logTells", fn := fun _ => fun
  | [d1, d2, d3] => { results := [.lit (.bool false)], args := [d1, d2, d3] }
  | _ => none }
def LogTellsWrongFalsely : Prop := logTellsRow.holds Try.pinned (OpenSpec.ofChange logTellsWrong)

/-- 'gantkeep5.LogCut': WHATEVER THE INPUT: true; the input reads as it did. -/
def logCutSpec : ChangeSpec := { name := "logCut", fn := fun _ => fun
  | [d1, d2, d3] => { results := [.lit (.bool true)], args := [d1, d2, d3] }
  | _ => none }
def logCutRow : OpenClaim := { program := "ytjngdnemappcdaa", sum := "eb4dc2e2651bd58c901a11f210b771ec973b58e1d0632e02b356f85542a98333", func := "gantry/gantkeep5.LogCut", spec := "logCut", unfollowed := true, recurses := true, apart := false }
def LogCutSaid : Prop := logCutRow.holds Try.pinned (OpenSpec.ofChange logCutSpec)

/-- ITS FALSE NEIGHBOUR: 'it returns false'. Refute it at one input. -/
def logCutWrong : ChangeSpec := { name := "logCut", fn := fun _ => fun
  | [d1, d2, d3] => { results := [.lit (.bool false)], args := [d1, d2, d3] }
  | _ => none }
def LogCutWrongFalsely : Prop := logCutRow.holds Try.pinned (OpenSpec.ofChange logCutWrong)

/-- 'gantlaw5.MsgTells': WHATEVER THE INPUT: true; the input reads as it did. -/
def msgTellsSpec : ChangeSpec := { name := "msgTells", fn := fun _ => fun
  | [d1, d2] => { results := [.lit (.bool true)], args := [d1, d2] }
  | _ => none }
def msgTellsRow : OpenClaim := { program := "ytjngdnemappcdaa", sum := "eb4dc2e2651bd58c901a11f210b771ec973b58e1d0632e02b356f85542a98333", func := "gantry/gantlaw5.MsgTells", spec := "msgTells", apart := false }
def MsgTellsSaid : Prop := msgTellsRow.holds Try.pinned (OpenSpec.ofChange msgTellsSpec)

/-- ITS FALSE NEIGHBOUR: 'it returns false'. Refute it at one input. -/
def msgTellsWrong : ChangeSpec := { name := "msgTells", fn := fun _ => fun
  | [d1, d2] => { results := [.lit (.bool false)], args := [d1, d2] }
  | _ => none }
def MsgTellsWrongFalsely : Prop := msgTellsRow.holds Try.pinned (OpenSpec.ofChange msgTellsWrong)

/-- 'gantkeep5.MsgOwn': WHATEVER THE INPUT: true; the input reads as it did. -/
def msgOwnSpec : ChangeSpec := { name := "msgOwn", fn := fun _ => fun
  | [d] => { results := [.lit (.bool true)], args := [d] }
  | _ => none }
def msgOwnRow : OpenClaim := { program := "ytjngdnemappcdaa", sum := "eb4dc2e2651bd58c901a11f210b771ec973b58e1d0632e02b356f85542a98333", func := "gantry/gantkeep5.MsgOwn", spec := "msgOwn", unfollowed := true, recurses := true, apart := false }
def MsgOwnSaid : Prop := msgOwnRow.holds Try.pinned (OpenSpec.ofChange msgOwnSpec)

/-- ITS FALSE NEIGHBOUR: 'it returns false'. Refute it at one input. -/
def msgOwnWrong : ChangeSpec := { name := "msgOwn", fn := fun _ => fun
  | [d] => { results := [.lit (.bool false)], args := [d] }
  | _ => none }
def MsgOwnWrongFalsely : Prop := msgOwnRow.holds Try.pinned (OpenSpec.ofChange msgOwnWrong)

/-- 'gantkeep5.MsgBack': WHATEVER THE INPUT: true; the input reads as it did. -/
def msgBackSpec : ChangeSpec := { name := "msgBack", fn := fun _ => fun
  | [d1, d2, d3] => { results := [.lit (.bool true)], args := [d1, d2, d3] }
  | _ => none }
def msgBackRow : OpenClaim := { program := "ytjngdnemappcdaa", sum := "eb4dc2e2651bd58c901a11f210b771ec973b58e1d0632e02b356f85542a98333", func := "gantry/gantkeep5.MsgBack", spec := "msgBack", unfollowed := true, recurses := true, apart := false }
def MsgBackSaid : Prop := msgBackRow.holds Try.pinned (OpenSpec.ofChange msgBackSpec)

/-- ITS FALSE NEIGHBOUR: 'it returns false'. Refute it at one input. -/
def msgBackWrong : ChangeSpec := { name := "msgBack", fn := fun _ => fun
  | [d1, d2, d3] => { results := [.lit (.bool false)], args := [d1, d2, d3] }
  | _ => none }
def MsgBackWrongFalsely : Prop := msgBackRow.holds Try.pinned (OpenSpec.ofChange msgBackWrong)

/-- 'gantkeep5.MsgShort': WHATEVER THE INPUT: true; the input reads as it did. -/
def msgShortSpec : ChangeSpec := { name := "msgShort", fn := fun _ => fun
  | [d1, d2, d3] => { results := [.lit (.bool true)], args := [d1, d2, d3] }
  | _ => none }
def msgShortRow : OpenClaim := { program := "ytjngdnemappcdaa", sum := "eb4dc2e2651bd58c901a11f210b771ec973b58e1d0632e02b356f85542a98333", func := "gantry/gantkeep5.MsgShort", spec := "msgShort", unfollowed := true, recurses := true, apart := false }
def MsgShortSaid : Prop := msgShortRow.holds Try.pinned (OpenSpec.ofChange msgShortSpec)

/-- ITS FALSE NEIGHBOUR: 'it returns false'. Refute it at one input. -/
def msgShortWrong : ChangeSpec := { name := "msgShort", fn := fun _ => fun
  | [d1, d2, d3] => { results := [.lit (.bool false)], args := [d1, d2, d3] }
  | _ => none }
def MsgShortWrongFalsely : Prop := msgShortRow.holds Try.pinned (OpenSpec.ofChange msgShortWrong)

/-- 'ganttop.TopLogs': WHATEVER THE INPUT: true; the input reads as it did. -/
def topLogsSpec : ChangeSpec := { name := "topLogs", fn := fun _ => fun
  | [d1, d2] => { results := [.lit (.bool true)], args := [d1, d2] }
  | _ => none }
def topLogsRow : OpenClaim := { program := "ytjngdnemappcdaa", sum := "eb4dc2e2651bd58c901a11f210b771ec973b58e1d0632e02b356f85542a98333", func := "gantry/ganttop.TopLogs", spec := "topLogs", unfollowed := true, recurses := true, apart := false }
def TopLogsSaid : Prop := topLogsRow.holds Try.pinned (OpenSpec.ofChange topLogsSpec)

/-- ITS FALSE NEIGHBOUR: 'it returns false'. Refute it at one input. -/
def topLogsWrong : ChangeSpec := { name := "topLogs", fn := fun _ => fun
  | [d1, d2] => { results := [.lit (.bool false)], args := [d1, d2] }
  | _ => none }
def TopLogsWrongFalsely : Prop := topLogsRow.holds Try.pinned (OpenSpec.ofChange topLogsWrong)

/- THE SECOND FORM. 'bulk': how many values and letters a reading holds, each counted each time it is reached (what is shared counts as often as it is met; a slice's spare places count too). A statement '..UptoSaid' is the law's where the arguments, and the package variables that the reading takes, are together of bulk at most 1048576: NARROWER than '..Said'. Prove '..Said' where nothing that the law and all that it calls make is longer than what came in: it says more and counts as full. Else prove '..UptoSaid'. A law counts once. -/
mutual
def uptoBulk {H : Type} : DataW H → Nat
  | .lit (.string bytes) => bytes.length + 1
  | .lit _ => 1
  | .nil => 1
  | .ptr d => uptoBulk d + 1
  | .slice elems spare => uptoBulkAll elems + uptoBulkAll spare + 1
  | .agg parts => uptoBulkAll parts + 1
  | .iface _ d => uptoBulk d + 1
  | .map entries => uptoBulkEntries entries + 1
  | .held _ => 1
def uptoBulkAll {H : Type} : List (DataW H) → Nat
  | [] => 0
  | d :: r => uptoBulk d + uptoBulkAll r
def uptoBulkEntries {H : Type} : List (Lit × DataW H) → Nat
  | [] => 0
  | x :: r => uptoBulkEntry x + uptoBulkEntries r
def uptoBulkEntry {H : Type} : Lit × DataW H → Nat
  | (.string bytes, d) => bytes.length + uptoBulk d + 1
  | (_, d) => uptoBulk d + 1
 end
def uptoSmall : (H : Type) → List (DataW H) → Bool := fun _ ds => decide (uptoBulkAll ds ≤ 1048576)
def OpenSpec.upto (s : _root_.Go.ChangeSpec) : _root_.Go.OpenSpec := { _root_.Go.OpenSpec.ofChange s with cond := some uptoSmall }

/-- 'gantkeep5.ClockGoes', WHERE WHAT IT READS IS OF BULK AT MOST 1048576: true; the input reads as it did. -/
def clockGoesUptoRow : OpenClaim := { program := "ytjngdnemappcdaa", sum := "eb4dc2e2651bd58c901a11f210b771ec973b58e1d0632e02b356f85542a98333", func := "gantry/gantkeep5.ClockGoes", spec := "clockGoes", apart := false, narrowed := true }
def ClockGoesUptoSaid : Prop := clockGoesUptoRow.holds Try.pinned (OpenSpec.upto clockGoesSpec)

/-- 'gantkeep5.ClockBetween', WHERE WHAT IT READS IS OF BULK AT MOST 1048576: true; the input reads as it did. -/
def clockBetweenUptoRow : OpenClaim := { program := "ytjngdnemappcdaa", sum := "eb4dc2e2651bd58c901a11f210b771ec973b58e1d0632e02b356f85542a98333", func := "gantry/gantkeep5.ClockBetween", spec := "clockBetween", apart := false, narrowed := true }
def ClockBetweenUptoSaid : Prop := clockBetweenUptoRow.holds Try.pinned (OpenSpec.upto clockBetweenSpec)

/-- 'gantkeep5.ClockSure', WHERE WHAT IT READS IS OF BULK AT MOST 1048576: true; the input reads as it did. -/
def clockSureUptoRow : OpenClaim := { program := "ytjngdnemappcdaa", sum := "eb4dc2e2651bd58c901a11f210b771ec973b58e1d0632e02b356f85542a98333", func := "gantry/gantkeep5.ClockSure", spec := "clockSure", apart := false, narrowed := true }
def ClockSureUptoSaid : Prop := clockSureUptoRow.holds Try.pinned (OpenSpec.upto clockSureSpec)

/-- 'gantlaw5.MsgSame', WHERE WHAT IT READS IS OF BULK AT MOST 1048576: true; the input reads as it did. -/
def msgSameUptoRow : OpenClaim := { program := "ytjngdnemappcdaa", sum := "eb4dc2e2651bd58c901a11f210b771ec973b58e1d0632e02b356f85542a98333", func := "gantry/gantlaw5.MsgSame", spec := "msgSame", apart := false, narrowed := true }
def MsgSameUptoSaid : Prop := msgSameUptoRow.holds Try.pinned (OpenSpec.upto msgSameSpec)

/-- 'gantlaw5.ClockTells', WHERE WHAT IT READS IS OF BULK AT MOST 1048576: true; the input reads as it did. -/
def clockTellsUptoRow : OpenClaim := { program := "ytjngdnemappcdaa", sum := "eb4dc2e2651bd58c901a11f210b771ec973b58e1d0632e02b356f85542a98333", func := "gantry/gantlaw5.ClockTells", spec := "clockTells", unfollowed := true, recurses := true, apart := false, narrowed := true }
def ClockTellsUptoSaid : Prop := clockTellsUptoRow.holds Try.pinned (OpenSpec.upto clockTellsSpec)

/-- 'gantlaw5.FallHellos', WHERE WHAT IT READS IS OF BULK AT MOST 1048576: true; the input reads as it did. -/
def fallHellosUptoRow : OpenClaim := { program := "ytjngdnemappcdaa", sum := "eb4dc2e2651bd58c901a11f210b771ec973b58e1d0632e02b356f85542a98333", func := "gantry/gantlaw5.FallHellos", spec := "fallHellos", unfollowed := true, recurses := true, apart := false, narrowed := true }
def FallHellosUptoSaid : Prop := fallHellosUptoRow.holds Try.pinned (OpenSpec.upto fallHellosSpec)

/-- 'gantkeep5.LogGoes', WHERE WHAT IT READS IS OF BULK AT MOST 1048576: true; the input reads as it did. -/
def logGoesUptoRow : OpenClaim := { program := "ytjngdnemappcdaa", sum := "eb4dc2e2651bd58c901a11f210b771ec973b58e1d0632e02b356f85542a98333", func := "gantry/gantkeep5.LogGoes", spec := "logGoes", apart := false, narrowed := true }
def LogGoesUptoSaid : Prop := logGoesUptoRow.holds Try.pinned (OpenSpec.upto logGoesSpec)

/-- 'gantlaw5.LogTells', WHERE WHAT IT READS IS OF BULK AT MOST 1048576: true; the input reads as it did. -/
def logTellsUptoRow : OpenClaim := { program := "ytjngdnemappcdaa", sum := "eb4dc2e2651bd58c901a11f210b771ec973b58e1d0632e02b356f85542a98333", func := "gantry/gantlaw5.LogTells", spec := "logTells", unfollowed := true, recurses := true, apart := false, narrowed := true }
def LogTellsUptoSaid : Prop := logTellsUptoRow.holds Try.pinned (OpenSpec.upto logTellsSpec)

/-- 'gantkeep5.LogCut', WHERE WHAT IT READS IS OF BULK AT MOST 1048576: true; the input reads as it did. -/
def logCutUptoRow : OpenClaim := { program := "ytjngdnemappcdaa", sum := "eb4dc2e2651bd58c901a11f210b771ec973b58e1d0632e02b356f85542a98333", func := "gantry/gantkeep5.LogCut", spec := "logCut", unfollowed := true, recurses := true, apart := false, narrowed := true }
def LogCutUptoSaid : Prop := logCutUptoRow.holds Try.pinned (OpenSpec.upto logCutSpec)

/-- 'gantlaw5.MsgTells', WHERE WHAT IT READS IS OF BULK AT MOST 1048576: true; the input reads as it did. -/
def msgTellsUptoRow : OpenClaim := { program := "ytjngdnemappcdaa", sum := "eb4dc2e2651bd58c901a11f210b771ec973b58e1d0632e02b356f85542a98333", func := "gantry/gantlaw5.MsgTells", spec := "msgTells", apart := false, narrowed := true }
def MsgTellsUptoSaid : Prop := msgTellsUptoRow.holds Try.pinned (OpenSpec.upto msgTellsSpec)

/-- 'gantkeep5.MsgOwn', WHERE WHAT IT READS IS OF BULK AT MOST 1048576: true; the input reads as it did. -/
def msgOwnUptoRow : OpenClaim := { program := "ytjngdnemappcdaa", sum := "eb4dc2e2651bd58c901a11f210b771ec973b58e1d0632e02b356f85542a98333", func := "gantry/gantkeep5.MsgOwn", spec := "msgOwn", unfollowed := true, recurses := true, apart := false, narrowed := true }
def MsgOwnUptoSaid : Prop := msgOwnUptoRow.holds Try.pinned (OpenSpec.upto msgOwnSpec)

/-- 'gantkeep5.MsgBack', WHERE WHAT IT READS IS OF BULK AT MOST 1048576: true; the input reads as it did. -/
def msgBackUptoRow : OpenClaim := { program := "ytjngdnemappcdaa", sum := "eb4dc2e2651bd58c901a11f210b771ec973b58e1d0632e02b356f85542a98333", func := "gantry/gantkeep5.MsgBack", spec := "msgBack", unfollowed := true, recurses := true, apart := false, narrowed := true }
def MsgBackUptoSaid : Prop := msgBackUptoRow.holds Try.pinned (OpenSpec.upto msgBackSpec)

/-- 'gantkeep5.MsgShort', WHERE WHAT IT READS IS OF BULK AT MOST 1048576: true; the input reads as it did. -/
def msgShortUptoRow : OpenClaim := { program := "ytjngdnemappcdaa", sum := "eb4dc2e2651bd58c901a11f210b771ec973b58e1d0632e02b356f85542a98333", func := "gantry/gantkeep5.MsgShort", spec := "msgShort", unfollowed := true, recurses := true, apart := false, narrowed := true }
def MsgShortUptoSaid : Prop := msgShortUptoRow.holds Try.pinned (OpenSpec.upto msgShortSpec)

/-- 'ganttop.TopLogs', WHERE WHAT IT READS IS OF BULK AT MOST 1048576: true; the input reads as it did. -/
def topLogsUptoRow : OpenClaim := { program := "ytjngdnemappcdaa", sum := "eb4dc2e2651bd58c901a11f210b771ec973b58e1d0632e02b356f85542a98333", func := "gantry/ganttop.TopLogs", spec := "topLogs", unfollowed := true, recurses := true, apart := false, narrowed := true }
def TopLogsUptoSaid : Prop := topLogsUptoRow.holds Try.pinned (OpenSpec.upto topLogsSpec)

end Rows
end Go.Proofs.Ytjngdnemappcdaa
