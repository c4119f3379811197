/-
  No cell of these rows narrows 'for every input' (looked for: loops, veiled, ifaces, maps, wideKeys, modest, calm, conditions, laid).
  DERIVED. THE GIVEN ROWS OF THIS SEAT. 38 by the template 'for every input the law returns true; each argument reads behind the call as it read before'; 0 by the template 'total and deterministic' (their statements: YtpdajkbfemcdlaaTotals.lean).
  GIVEN WITH THE SEED: the statements are not yours to turn. If you find one false, say at which input.
  Laid BY PROGRAM, IN A SANDBOX (cutbox-rows.mjs): the forced cells as the released guide's own fill.sh prints them over the translation f30b8b0ee433fd3f… (all of the seat's roots in one cut). By AI agents, Wed Nov 11 2026. No macro, syntax, notation, axiom, sorry.
-/
import Derived.Test.YtpdajkbfemcdlaaChecked
import GoSem.Claim
import GoSem.ClaimJoined
import GoSem.ClaimMapViews
import Derived.JoinedTies
import Derived.KernelRfl
namespace Go.Proofs.Ytpdajkbfemcdlaa
/- THE CELL 'sum', in the pinned program and in every row, IS THE sha256 OF THE DUMP (.gsa) THAT YtpdajkbfemcdlaaProg.lean LOADS. Nothing in Lean hashes anything: it is a label: what it is worth is what the hold of that sum in a sandbox is worth. -/
noncomputable def Try.pinned : Pinned := { name := "ytpdajkbfemcdlaa", sum := "f30b8b0ee433fd3f712a3f142172968e8f0b38f6f7bf9c6cd0b3a79d4e7d452d", checked := Try.checked }
namespace Rows
def none {H : Type} : Left H := { results := [], args := [] }

/-- 'gantkeep5.ClockSure': WHATEVER THE INPUT: true; the input reads as it did. -/
def clockSureSpec : ChangeSpec := { name := "clockSure", fn := fun _ => fun
  | [d1, d2, d3, d4, d5] => { results := [.lit (.bool true)], args := [d1, d2, d3, d4, d5] }
  | _ => none }
def clockSureRow : OpenClaim := { program := "ytpdajkbfemcdlaa", sum := "f30b8b0ee433fd3f712a3f142172968e8f0b38f6f7bf9c6cd0b3a79d4e7d452d", func := "gantry/gantkeep5.ClockSure", spec := "clockSure", plainKeys := false, apart := false }
def ClockSureSaid : Prop := clockSureRow.holds Try.pinned (OpenSpec.ofChange clockSureSpec)

/-- ITS FALSE NEIGHBOUR: 'it returns false'. Refute it at one input. -/
def clockSureWrong : ChangeSpec := { name := "clockSure", fn := fun _ => fun
  | [d1, d2, d3, d4, d5] => { results := [.lit (.bool false)], args := [d1, d2, d3, d4, d5] }
  | _ => none }
def ClockSureWrongFalsely : Prop := clockSureRow.holds Try.pinned (OpenSpec.ofChange clockSureWrong)

/-- 'gantlaw5.MsgSame': WHATEVER THE INPUT: true; the input reads as it did. -/
def msgSameSpec : ChangeSpec := { name := "msgSame", fn := fun _ => fun
  | [d1, d2, d3] => { results := [.lit (.bool true)], args := [d1, d2, d3] }
  | _ => none }
def msgSameRow : OpenClaim := { program := "ytpdajkbfemcdlaa", sum := "f30b8b0ee433fd3f712a3f142172968e8f0b38f6f7bf9c6cd0b3a79d4e7d452d", func := "gantry/gantlaw5.MsgSame", spec := "msgSame", plainKeys := false, apart := false }
def MsgSameSaid : Prop := msgSameRow.holds Try.pinned (OpenSpec.ofChange msgSameSpec)

/-- ITS FALSE NEIGHBOUR: 'it returns false'. Refute it at one input. -/
def msgSameWrong : ChangeSpec := { name := "msgSame", fn := fun _ => fun
  | [d1, d2, d3] => { results := [.lit (.bool false)], args := [d1, d2, d3] }
  | _ => none }
def MsgSameWrongFalsely : Prop := msgSameRow.holds Try.pinned (OpenSpec.ofChange msgSameWrong)

/-- 'gantlaw5.ClockTells': WHATEVER THE INPUT: true; the input reads as it did. -/
def clockTellsSpec : ChangeSpec := { name := "clockTells", fn := fun _ => fun
  | [d1, d2, d3, d4, d5, d6, d7] => { results := [.lit (.bool true)], args := [d1, d2, d3, d4, d5, d6, d7] }
  | _ => none }
def clockTellsRow : OpenClaim := { program := "ytpdajkbfemcdlaa", sum := "f30b8b0ee433fd3f712a3f142172968e8f0b38f6f7bf9c6cd0b3a79d4e7d452d", func := "gantry/gantlaw5.ClockTells", spec := "clockTells", unfollowed := true, recurses := true, plainKeys := false, apart := false }
def ClockTellsSaid : Prop := clockTellsRow.holds Try.pinned (OpenSpec.ofChange clockTellsSpec)

/-- ITS FALSE NEIGHBOUR: 'it returns false'. Refute it at one input. -/
def clockTellsWrong : ChangeSpec := { name := "clockTells", fn := fun _ => fun
  | [d1, d2, d3, d4, d5, d6, d7] => { results := [.lit (.bool false)], args := [d1, d2, d3, d4, d5, d6, d7] }
  | _ => none }
def ClockTellsWrongFalsely : Prop := clockTellsRow.holds Try.pinned (OpenSpec.ofChange clockTellsWrong)

/-- 'gantlaw5.FallHellos': WHATEVER THE INPUT: true; the input reads as it did. -/
def fallHellosSpec : ChangeSpec := { name := "fallHellos", fn := fun _ => fun
  | [d1, d2, d3, d4] => { results := [.lit (.bool true)], args := [d1, d2, d3, d4] }
  | _ => none }
def fallHellosRow : OpenClaim := { program := "ytpdajkbfemcdlaa", sum := "f30b8b0ee433fd3f712a3f142172968e8f0b38f6f7bf9c6cd0b3a79d4e7d452d", func := "gantry/gantlaw5.FallHellos", spec := "fallHellos", unfollowed := true, recurses := true, plainKeys := false, apart := false }
def FallHellosSaid : Prop := fallHellosRow.holds Try.pinned (OpenSpec.ofChange fallHellosSpec)

/-- ITS FALSE NEIGHBOUR: 'it returns false'. Refute it at one input. -/
def fallHellosWrong : ChangeSpec := { name := "fallHellos", fn := fun _ => fun
  | [d1, d2, d3, d4] => { results := [.lit (.bool false)], args := [d1, d2, d3, d4] }
  | _ => none }
def FallHellosWrongFalsely : Prop := fallHellosRow.holds Try.pinned (OpenSpec.ofChange fallHellosWrong)

/-- 'gantkeep5.LogGoes': WHATEVER THE INPUT: true; the input reads as it did. -/
def logGoesSpec : ChangeSpec := { name := "logGoes", fn := fun _ => fun
  | [d1, d2, d3] => { results := [.lit (.bool true)], args := [d1, d2, d3] }
  | _ => none }
def logGoesRow : OpenClaim := { program := "ytpdajkbfemcdlaa", sum := "f30b8b0ee433fd3f712a3f142172968e8f0b38f6f7bf9c6cd0b3a79d4e7d452d", func := "gantry/gantkeep5.LogGoes", spec := "logGoes", plainKeys := false, apart := false }
def LogGoesSaid : Prop := logGoesRow.holds Try.pinned (OpenSpec.ofChange logGoesSpec)

/-- ITS FALSE NEIGHBOUR: 'it returns false'. Refute it at one input. -/
def logGoesWrong : ChangeSpec := { name := "logGoes", fn := fun _ => fun
  | [d1, d2, d3] => { results := [.lit (.bool false)], args := [d1, d2, d3] }
  | _ => none }
def LogGoesWrongFalsely : Prop := logGoesRow.holds Try.pinned (OpenSpec.ofChange logGoesWrong)

/-- 'gantlaw5.LogTells': WHATEVER THE INPUT: true; the input reads as it did. -/
def logTellsSpec : ChangeSpec := { name := "logTells", fn := fun _ => fun
  | [d1, d2, d3] => { results := [.lit (.bool true)], args := [d1, d2, d3] }
  | _ => none }
def logTellsRow : OpenClaim := { program := "ytpdajkbfemcdlaa", sum := "f30b8b0ee433fd3f712a3f142172968e8f0b38f6f7bf9c6cd0b3a79d4e7d452d", func := "gantry/gantlaw5.LogTells", spec := "logTells", unfollowed := true, recurses := true, plainKeys := false, apart := false }
def LogTellsSaid : Prop := logTellsRow.holds Try.pinned (OpenSpec.ofChange logTellsSpec)

/-- ITS FALSE NEIGHBOUR: 'it returns false'. Refute it at one input. -/
def logTellsWrong : ChangeSpec := { name := "logTells", fn := fun _ => fun
  | [d1, d2, d3] => { results := [.lit (.bool false)], args := [d1, d2, d3] }
  | _ => none }
def LogTellsWrongFalsely : Prop := logTellsRow.holds Try.pinned (OpenSpec.ofChange logTellsWrong)

/-- 'gantkeep5.LogCut': WHATEVER THE INPUT: true; the input reads as it did. -/
def logCutSpec : ChangeSpec := { name := "logCut", fn := fun _ => fun
  | [d1, d2, d3] => { results := [.lit (.bool true)], args := [d1, d2, d3] }
  | _ => none }
def logCutRow : OpenClaim := { program := "ytpdajkbfemcdlaa", sum := "f30b8b0ee433fd3f712a3f142172968e8f0b38f6f7bf9c6cd0b3a79d4e7d452d", func := "gantry/gantkeep5.LogCut", spec := "logCut", unfollowed := true, recurses := true, plainKeys := false, apart := false }
def LogCutSaid : Prop := logCutRow.holds Try.pinned (OpenSpec.ofChange logCutSpec)

/-- ITS FALSE NEIGHBOUR: 'it returns false'. Refute it at one input. -/
def logCutWrong : ChangeSpec := { name := "logCut", fn := fun _ => fun
  | [d1, d2, d3] => { results := [.lit (.bool false)], args := [d1, d2, d3] }
  | _ => none }
def LogCutWrongFalsely : Prop := logCutRow.holds Try.pinned (OpenSpec.ofChange logCutWrong)

/-- 'gantlaw5.MsgTells': WHATEVER THE INPUT: true; the input reads as it did. -/
def msgTellsSpec : ChangeSpec := { name := "msgTells", fn := fun _ => fun
  | [d1, d2] => { results := [.lit (.bool true)], args := [d1, d2] }
  | _ => none }
def msgTellsRow : OpenClaim := { program := "ytpdajkbfemcdlaa", sum := "f30b8b0ee433fd3f712a3f142172968e8f0b38f6f7bf9c6cd0b3a79d4e7d452d", func := "gantry/gantlaw5.MsgTells", spec := "msgTells", plainKeys := false, apart := false }
def MsgTellsSaid : Prop := msgTellsRow.holds Try.pinned (OpenSpec.ofChange msgTellsSpec)

/-- ITS FALSE NEIGHBOUR: 'it returns false'. Refute it at one input. -/
def msgTellsWrong : ChangeSpec := { name := "msgTells", fn := fun _ => fun
  | [d1, d2] => { results := [.lit (.bool false)], args := [d1, d2] }
  | _ => none }
def MsgTellsWrongFalsely : Prop := msgTellsRow.holds Try.pinned (OpenSpec.ofChange msgTellsWrong)

/-- 'gantkeep5.MsgOwn': WHATEVER THE INPUT: true; the input reads as it did. -/
def msgOwnSpec : ChangeSpec := { name := "msgOwn", fn := fun _ => fun
  | [d] => { results := [.lit (.bool true)], args := [d] }
  | _ => none }
def msgOwnRow : OpenClaim := { program := "ytpdajkbfemcdlaa", sum := "f30b8b0ee433fd3f712a3f142172968e8f0b38f6f7bf9c6cd0b3a79d4e7d452d", func := "gantry/gantkeep5.MsgOwn", spec := "msgOwn", unfollowed := true, recurses := true, plainKeys := false, apart := false }
def MsgOwnSaid : Prop := msgOwnRow.holds Try.pinned (OpenSpec.ofChange msgOwnSpec)

/-- ITS FALSE NEIGHBOUR: 'it returns false'. Refute it at one input. -/
def msgOwnWrong : ChangeSpec := { name := "msgOwn", fn := fun _ => fun
  | [d] => { results := [.lit (.bool false)], args := [d] }
  | _ => none }
def MsgOwnWrongFalsely : Prop := msgOwnRow.holds Try.pinned (OpenSpec.ofChange msgOwnWrong)

/-- 'gantkeep5.MsgBack': WHATEVER THE INPUT: true; the input reads as it did. -/
def msgBackSpec : ChangeSpec := { name := "msgBack", fn := fun _ => fun
  | [d1, d2, d3] => { results := [.lit (.bool true)], args := [d1, d2, d3] }
  | _ => none }
def msgBackRow : OpenClaim := { program := "ytpdajkbfemcdlaa", sum := "f30b8b0ee433fd3f712a3f142172968e8f0b38f6f7bf9c6cd0b3a79d4e7d452d", func := "gantry/gantkeep5.MsgBack", spec := "msgBack", unfollowed := true, recurses := true, plainKeys := false, apart := false }
def MsgBackSaid : Prop := msgBackRow.holds Try.pinned (OpenSpec.ofChange msgBackSpec)

/-- ITS FALSE NEIGHBOUR: 'it returns false'. Refute it at one input. -/
def msgBackWrong : ChangeSpec := { name := "msgBack", fn := fun _ => fun
  | [d1, d2, d3] => { results := [.lit (.bool false)], args := [d1, d2, d3] }
  | _ => none }
def MsgBackWrongFalsely : Prop := msgBackRow.holds Try.pinned (OpenSpec.ofChange msgBackWrong)

/-- 'gantkeep5.MsgShort': WHATEVER THE INPUT: true; the input reads as it did. -/
def msgShortSpec : ChangeSpec := { name := "msgShort", fn := fun _ => fun
  | [d1, d2, d3] => { results := [.lit (.bool true)], args := [d1, d2, d3] }
  | _ => none }
def msgShortRow : OpenClaim := { program := "ytpdajkbfemcdlaa", sum := "f30b8b0ee433fd3f712a3f142172968e8f0b38f6f7bf9c6cd0b3a79d4e7d452d", func := "gantry/gantkeep5.MsgShort", spec := "msgShort", unfollowed := true, recurses := true, plainKeys := false, apart := false }
def MsgShortSaid : Prop := msgShortRow.holds Try.pinned (OpenSpec.ofChange msgShortSpec)

/-- ITS FALSE NEIGHBOUR: 'it returns false'. Refute it at one input. -/
def msgShortWrong : ChangeSpec := { name := "msgShort", fn := fun _ => fun
  | [d1, d2, d3] => { results := [.lit (.bool false)], args := [d1, d2, d3] }
  | _ => none }
def MsgShortWrongFalsely : Prop := msgShortRow.holds Try.pinned (OpenSpec.ofChange msgShortWrong)

/-- 'ganttop.TopLogs': WHATEVER THE INPUT: true; the input reads as it did. -/
def topLogsSpec : ChangeSpec := { name := "topLogs", fn := fun _ => fun
  | [d1, d2] => { results := [.lit (.bool true)], args := [d1, d2] }
  | _ => none }
def topLogsRow : OpenClaim := { program := "ytpdajkbfemcdlaa", sum := "f30b8b0ee433fd3f712a3f142172968e8f0b38f6f7bf9c6cd0b3a79d4e7d452d", func := "gantry/ganttop.TopLogs", spec := "topLogs", unfollowed := true, recurses := true, plainKeys := false, apart := false }
def TopLogsSaid : Prop := topLogsRow.holds Try.pinned (OpenSpec.ofChange topLogsSpec)

/-- ITS FALSE NEIGHBOUR: 'it returns false'. Refute it at one input. -/
def topLogsWrong : ChangeSpec := { name := "topLogs", fn := fun _ => fun
  | [d1, d2] => { results := [.lit (.bool false)], args := [d1, d2] }
  | _ => none }
def TopLogsWrongFalsely : Prop := topLogsRow.holds Try.pinned (OpenSpec.ofChange topLogsWrong)

/-- 'gantlaw5.LinkPlays': WHATEVER THE INPUT: true; the input reads as it did. -/
def linkPlaysSpec : ChangeSpec := { name := "linkPlays", fn := fun _ => fun
  | [d1, d2] => { results := [.lit (.bool true)], args := [d1, d2] }
  | _ => none }
def linkPlaysRow : OpenClaim := { program := "ytpdajkbfemcdlaa", sum := "f30b8b0ee433fd3f712a3f142172968e8f0b38f6f7bf9c6cd0b3a79d4e7d452d", func := "gantry/gantlaw5.LinkPlays", spec := "linkPlays", unfollowed := true, recurses := true, plainKeys := false, apart := false }
def LinkPlaysSaid : Prop := linkPlaysRow.holds Try.pinned (OpenSpec.ofChange linkPlaysSpec)

/-- ITS FALSE NEIGHBOUR: 'it returns false'. Refute it at one input. -/
def linkPlaysWrong : ChangeSpec := { name := "linkPlays", fn := fun _ => fun
  | [d1, d2] => { results := [.lit (.bool false)], args := [d1, d2] }
  | _ => none }
def LinkPlaysWrongFalsely : Prop := linkPlaysRow.holds Try.pinned (OpenSpec.ofChange linkPlaysWrong)

/-- 'gantlaw5.LinkEnds': WHATEVER THE INPUT: true; the input reads as it did. -/
def linkEndsSpec : ChangeSpec := { name := "linkEnds", fn := fun _ => fun
  | [d1, d2, d3, d4] => { results := [.lit (.bool true)], args := [d1, d2, d3, d4] }
  | _ => none }
def linkEndsRow : OpenClaim := { program := "ytpdajkbfemcdlaa", sum := "f30b8b0ee433fd3f712a3f142172968e8f0b38f6f7bf9c6cd0b3a79d4e7d452d", func := "gantry/gantlaw5.LinkEnds", spec := "linkEnds", unfollowed := true, recurses := true, plainKeys := false, apart := false }
def LinkEndsSaid : Prop := linkEndsRow.holds Try.pinned (OpenSpec.ofChange linkEndsSpec)

/-- ITS FALSE NEIGHBOUR: 'it returns false'. Refute it at one input. -/
def linkEndsWrong : ChangeSpec := { name := "linkEnds", fn := fun _ => fun
  | [d1, d2, d3, d4] => { results := [.lit (.bool false)], args := [d1, d2, d3, d4] }
  | _ => none }
def LinkEndsWrongFalsely : Prop := linkEndsRow.holds Try.pinned (OpenSpec.ofChange linkEndsWrong)

/-- 'gantkeep5.NetOnly': WHATEVER THE INPUT: true; the input reads as it did. -/
def netOnlySpec : ChangeSpec := { name := "netOnly", fn := fun _ => fun
  | [d1, d2] => { results := [.lit (.bool true)], args := [d1, d2] }
  | _ => none }
def netOnlyRow : OpenClaim := { program := "ytpdajkbfemcdlaa", sum := "f30b8b0ee433fd3f712a3f142172968e8f0b38f6f7bf9c6cd0b3a79d4e7d452d", func := "gantry/gantkeep5.NetOnly", spec := "netOnly", unfollowed := true, recurses := true, plainKeys := false, apart := false }
def NetOnlySaid : Prop := netOnlyRow.holds Try.pinned (OpenSpec.ofChange netOnlySpec)

/-- ITS FALSE NEIGHBOUR: 'it returns false'. Refute it at one input. -/
def netOnlyWrong : ChangeSpec := { name := "netOnly", fn := fun _ => fun
  | [d1, d2] => { results := [.lit (.bool false)], args := [d1, d2] }
  | _ => none }
def NetOnlyWrongFalsely : Prop := netOnlyRow.holds Try.pinned (OpenSpec.ofChange netOnlyWrong)

/-- 'gantlaw5.NetPlays': WHATEVER THE INPUT: true; the input reads as it did. -/
def netPlaysSpec : ChangeSpec := { name := "netPlays", fn := fun _ => fun
  | [d1, d2, d3] => { results := [.lit (.bool true)], args := [d1, d2, d3] }
  | _ => none }
def netPlaysRow : OpenClaim := { program := "ytpdajkbfemcdlaa", sum := "f30b8b0ee433fd3f712a3f142172968e8f0b38f6f7bf9c6cd0b3a79d4e7d452d", func := "gantry/gantlaw5.NetPlays", spec := "netPlays", unfollowed := true, recurses := true, plainKeys := false, apart := false }
def NetPlaysSaid : Prop := netPlaysRow.holds Try.pinned (OpenSpec.ofChange netPlaysSpec)

/-- ITS FALSE NEIGHBOUR: 'it returns false'. Refute it at one input. -/
def netPlaysWrong : ChangeSpec := { name := "netPlays", fn := fun _ => fun
  | [d1, d2, d3] => { results := [.lit (.bool false)], args := [d1, d2, d3] }
  | _ => none }
def NetPlaysWrongFalsely : Prop := netPlaysRow.holds Try.pinned (OpenSpec.ofChange netPlaysWrong)

/-- 'gantkeep5.NetPlain': WHATEVER THE INPUT: true; the input reads as it did. -/
def netPlainSpec : ChangeSpec := { name := "netPlain", fn := fun _ => fun
  | [d] => { results := [.lit (.bool true)], args := [d] }
  | _ => none }
def netPlainRow : OpenClaim := { program := "ytpdajkbfemcdlaa", sum := "f30b8b0ee433fd3f712a3f142172968e8f0b38f6f7bf9c6cd0b3a79d4e7d452d", func := "gantry/gantkeep5.NetPlain", spec := "netPlain", unfollowed := true, recurses := true, plainKeys := false, apart := false }
def NetPlainSaid : Prop := netPlainRow.holds Try.pinned (OpenSpec.ofChange netPlainSpec)

/-- ITS FALSE NEIGHBOUR: 'it returns false'. Refute it at one input. -/
def netPlainWrong : ChangeSpec := { name := "netPlain", fn := fun _ => fun
  | [d] => { results := [.lit (.bool false)], args := [d] }
  | _ => none }
def NetPlainWrongFalsely : Prop := netPlainRow.holds Try.pinned (OpenSpec.ofChange netPlainWrong)

/-- 'gantkeep5.LinkAll': WHATEVER THE INPUT: true; the input reads as it did. -/
def linkAllSpec : ChangeSpec := { name := "linkAll", fn := fun _ => fun
  | [d1, d2] => { results := [.lit (.bool true)], args := [d1, d2] }
  | _ => none }
def linkAllRow : OpenClaim := { program := "ytpdajkbfemcdlaa", sum := "f30b8b0ee433fd3f712a3f142172968e8f0b38f6f7bf9c6cd0b3a79d4e7d452d", func := "gantry/gantkeep5.LinkAll", spec := "linkAll", unfollowed := true, recurses := true, plainKeys := false, apart := false }
def LinkAllSaid : Prop := linkAllRow.holds Try.pinned (OpenSpec.ofChange linkAllSpec)

/-- ITS FALSE NEIGHBOUR: 'it returns false'. Refute it at one input. -/
def linkAllWrong : ChangeSpec := { name := "linkAll", fn := fun _ => fun
  | [d1, d2] => { results := [.lit (.bool false)], args := [d1, d2] }
  | _ => none }
def LinkAllWrongFalsely : Prop := linkAllRow.holds Try.pinned (OpenSpec.ofChange linkAllWrong)

/-- 'gantkeep5.LinkOrder': WHATEVER THE INPUT: true; the input reads as it did. -/
def linkOrderSpec : ChangeSpec := { name := "linkOrder", fn := fun _ => fun
  | [d1, d2] => { results := [.lit (.bool true)], args := [d1, d2] }
  | _ => none }
def linkOrderRow : OpenClaim := { program := "ytpdajkbfemcdlaa", sum := "f30b8b0ee433fd3f712a3f142172968e8f0b38f6f7bf9c6cd0b3a79d4e7d452d", func := "gantry/gantkeep5.LinkOrder", spec := "linkOrder", unfollowed := true, recurses := true, plainKeys := false, apart := false }
def LinkOrderSaid : Prop := linkOrderRow.holds Try.pinned (OpenSpec.ofChange linkOrderSpec)

/-- ITS FALSE NEIGHBOUR: 'it returns false'. Refute it at one input. -/
def linkOrderWrong : ChangeSpec := { name := "linkOrder", fn := fun _ => fun
  | [d1, d2] => { results := [.lit (.bool false)], args := [d1, d2] }
  | _ => none }
def LinkOrderWrongFalsely : Prop := linkOrderRow.holds Try.pinned (OpenSpec.ofChange linkOrderWrong)

/-- 'gantkeep5.RingFound': WHATEVER THE INPUT: true; the input reads as it did. -/
def ringFoundSpec : ChangeSpec := { name := "ringFound", fn := fun _ => fun
  | [d1, d2] => { results := [.lit (.bool true)], args := [d1, d2] }
  | _ => none }
def ringFoundRow : OpenClaim := { program := "ytpdajkbfemcdlaa", sum := "f30b8b0ee433fd3f712a3f142172968e8f0b38f6f7bf9c6cd0b3a79d4e7d452d", func := "gantry/gantkeep5.RingFound", spec := "ringFound", plainKeys := false, apart := false }
def RingFoundSaid : Prop := ringFoundRow.holds Try.pinned (OpenSpec.ofChange ringFoundSpec)

/-- ITS FALSE NEIGHBOUR: 'it returns false'. Refute it at one input. -/
def ringFoundWrong : ChangeSpec := { name := "ringFound", fn := fun _ => fun
  | [d1, d2] => { results := [.lit (.bool false)], args := [d1, d2] }
  | _ => none }
def RingFoundWrongFalsely : Prop := ringFoundRow.holds Try.pinned (OpenSpec.ofChange ringFoundWrong)

/-- 'gantlaw5.RingTells': WHATEVER THE INPUT: true; the input reads as it did. -/
def ringTellsSpec : ChangeSpec := { name := "ringTells", fn := fun _ => fun
  | [d] => { results := [.lit (.bool true)], args := [d] }
  | _ => none }
def ringTellsRow : OpenClaim := { program := "ytpdajkbfemcdlaa", sum := "f30b8b0ee433fd3f712a3f142172968e8f0b38f6f7bf9c6cd0b3a79d4e7d452d", func := "gantry/gantlaw5.RingTells", spec := "ringTells", unfollowed := true, recurses := true, plainKeys := false, apart := false }
def RingTellsSaid : Prop := ringTellsRow.holds Try.pinned (OpenSpec.ofChange ringTellsSpec)

/-- ITS FALSE NEIGHBOUR: 'it returns false'. Refute it at one input. -/
def ringTellsWrong : ChangeSpec := { name := "ringTells", fn := fun _ => fun
  | [d] => { results := [.lit (.bool false)], args := [d] }
  | _ => none }
def RingTellsWrongFalsely : Prop := ringTellsRow.holds Try.pinned (OpenSpec.ofChange ringTellsWrong)

/-- 'gantkeep5.RingOrder': WHATEVER THE INPUT: true; the input reads as it did. -/
def ringOrderSpec : ChangeSpec := { name := "ringOrder", fn := fun _ => fun
  | [d1, d2] => { results := [.lit (.bool true)], args := [d1, d2] }
  | _ => none }
def ringOrderRow : OpenClaim := { program := "ytpdajkbfemcdlaa", sum := "f30b8b0ee433fd3f712a3f142172968e8f0b38f6f7bf9c6cd0b3a79d4e7d452d", func := "gantry/gantkeep5.RingOrder", spec := "ringOrder", unfollowed := true, recurses := true, plainKeys := false, apart := false }
def RingOrderSaid : Prop := ringOrderRow.holds Try.pinned (OpenSpec.ofChange ringOrderSpec)

/-- ITS FALSE NEIGHBOUR: 'it returns false'. Refute it at one input. -/
def ringOrderWrong : ChangeSpec := { name := "ringOrder", fn := fun _ => fun
  | [d1, d2] => { results := [.lit (.bool false)], args := [d1, d2] }
  | _ => none }
def RingOrderWrongFalsely : Prop := ringOrderRow.holds Try.pinned (OpenSpec.ofChange ringOrderWrong)

/-- 'gantlaw5.RingSafe': WHATEVER THE INPUT: true; the input reads as it did. -/
def ringSafeSpec : ChangeSpec := { name := "ringSafe", fn := fun _ => fun
  | [d1, d2] => { results := [.lit (.bool true)], args := [d1, d2] }
  | _ => none }
def ringSafeRow : OpenClaim := { program := "ytpdajkbfemcdlaa", sum := "f30b8b0ee433fd3f712a3f142172968e8f0b38f6f7bf9c6cd0b3a79d4e7d452d", func := "gantry/gantlaw5.RingSafe", spec := "ringSafe", unfollowed := true, recurses := true, plainKeys := false, apart := false }
def RingSafeSaid : Prop := ringSafeRow.holds Try.pinned (OpenSpec.ofChange ringSafeSpec)

/-- ITS FALSE NEIGHBOUR: 'it returns false'. Refute it at one input. -/
def ringSafeWrong : ChangeSpec := { name := "ringSafe", fn := fun _ => fun
  | [d1, d2] => { results := [.lit (.bool false)], args := [d1, d2] }
  | _ => none }
def RingSafeWrongFalsely : Prop := ringSafeRow.holds Try.pinned (OpenSpec.ofChange ringSafeWrong)

/-- 'ganttop.TopFalls': WHATEVER THE INPUT: true; the input reads as it did. -/
def topFallsSpec : ChangeSpec := { name := "topFalls", fn := fun _ => fun
  | [d1, d2] => { results := [.lit (.bool true)], args := [d1, d2] }
  | _ => none }
def topFallsRow : OpenClaim := { program := "ytpdajkbfemcdlaa", sum := "f30b8b0ee433fd3f712a3f142172968e8f0b38f6f7bf9c6cd0b3a79d4e7d452d", func := "gantry/ganttop.TopFalls", spec := "topFalls", unfollowed := true, recurses := true, plainKeys := false, apart := false }
def TopFallsSaid : Prop := topFallsRow.holds Try.pinned (OpenSpec.ofChange topFallsSpec)

/-- ITS FALSE NEIGHBOUR: 'it returns false'. Refute it at one input. -/
def topFallsWrong : ChangeSpec := { name := "topFalls", fn := fun _ => fun
  | [d1, d2] => { results := [.lit (.bool false)], args := [d1, d2] }
  | _ => none }
def TopFallsWrongFalsely : Prop := topFallsRow.holds Try.pinned (OpenSpec.ofChange topFallsWrong)

/-- 'gantlaw5.FallTells': WHATEVER THE INPUT: true; the input reads as it did. -/
def fallTellsSpec : ChangeSpec := { name := "fallTells", fn := fun _ => fun
  | [d1, d2, d3] => { results := [.lit (.bool true)], args := [d1, d2, d3] }
  | _ => none }
def fallTellsRow : OpenClaim := { program := "ytpdajkbfemcdlaa", sum := "f30b8b0ee433fd3f712a3f142172968e8f0b38f6f7bf9c6cd0b3a79d4e7d452d", func := "gantry/gantlaw5.FallTells", spec := "fallTells", unfollowed := true, recurses := true, plainKeys := false, apart := false }
def FallTellsSaid : Prop := fallTellsRow.holds Try.pinned (OpenSpec.ofChange fallTellsSpec)

/-- ITS FALSE NEIGHBOUR: 'it returns false'. Refute it at one input. -/
def fallTellsWrong : ChangeSpec := { name := "fallTells", fn := fun _ => fun
  | [d1, d2, d3] => { results := [.lit (.bool false)], args := [d1, d2, d3] }
  | _ => none }
def FallTellsWrongFalsely : Prop := fallTellsRow.holds Try.pinned (OpenSpec.ofChange fallTellsWrong)

/-- 'gantkeep5.FallEvents': WHATEVER THE INPUT: true; the input reads as it did. -/
def fallEventsSpec : ChangeSpec := { name := "fallEvents", fn := fun _ => fun
  | [d1, d2] => { results := [.lit (.bool true)], args := [d1, d2] }
  | _ => none }
def fallEventsRow : OpenClaim := { program := "ytpdajkbfemcdlaa", sum := "f30b8b0ee433fd3f712a3f142172968e8f0b38f6f7bf9c6cd0b3a79d4e7d452d", func := "gantry/gantkeep5.FallEvents", spec := "fallEvents", unfollowed := true, recurses := true, plainKeys := false, apart := false }
def FallEventsSaid : Prop := fallEventsRow.holds Try.pinned (OpenSpec.ofChange fallEventsSpec)

/-- ITS FALSE NEIGHBOUR: 'it returns false'. Refute it at one input. -/
def fallEventsWrong : ChangeSpec := { name := "fallEvents", fn := fun _ => fun
  | [d1, d2] => { results := [.lit (.bool false)], args := [d1, d2] }
  | _ => none }
def FallEventsWrongFalsely : Prop := fallEventsRow.holds Try.pinned (OpenSpec.ofChange fallEventsWrong)

/-- 'gantlaw5.FallBack': WHATEVER THE INPUT: true; the input reads as it did. -/
def fallBackSpec : ChangeSpec := { name := "fallBack", fn := fun _ => fun
  | [d1, d2] => { results := [.lit (.bool true)], args := [d1, d2] }
  | _ => none }
def fallBackRow : OpenClaim := { program := "ytpdajkbfemcdlaa", sum := "f30b8b0ee433fd3f712a3f142172968e8f0b38f6f7bf9c6cd0b3a79d4e7d452d", func := "gantry/gantlaw5.FallBack", spec := "fallBack", unfollowed := true, recurses := true, plainKeys := false, apart := false }
def FallBackSaid : Prop := fallBackRow.holds Try.pinned (OpenSpec.ofChange fallBackSpec)

/-- ITS FALSE NEIGHBOUR: 'it returns false'. Refute it at one input. -/
def fallBackWrong : ChangeSpec := { name := "fallBack", fn := fun _ => fun
  | [d1, d2] => { results := [.lit (.bool false)], args := [d1, d2] }
  | _ => none }
def FallBackWrongFalsely : Prop := fallBackRow.holds Try.pinned (OpenSpec.ofChange fallBackWrong)

/-- 'gantlaw5.FallKeeps': WHATEVER THE INPUT: true; the input reads as it did. -/
def fallKeepsSpec : ChangeSpec := { name := "fallKeeps", fn := fun _ => fun
  | [d1, d2, d3, d4, d5, d6] => { results := [.lit (.bool true)], args := [d1, d2, d3, d4, d5, d6] }
  | _ => none }
def fallKeepsRow : OpenClaim := { program := "ytpdajkbfemcdlaa", sum := "f30b8b0ee433fd3f712a3f142172968e8f0b38f6f7bf9c6cd0b3a79d4e7d452d", func := "gantry/gantlaw5.FallKeeps", spec := "fallKeeps", unfollowed := true, recurses := true, plainKeys := false, apart := false }
def FallKeepsSaid : Prop := fallKeepsRow.holds Try.pinned (OpenSpec.ofChange fallKeepsSpec)

/-- ITS FALSE NEIGHBOUR: 'it returns false'. Refute it at one input. -/
def fallKeepsWrong : ChangeSpec := { name := "fallKeeps", fn := fun _ => fun
  | [d1, d2, d3, d4, d5, d6] => { results := [.lit (.bool false)], args := [d1, d2, d3, d4, d5, d6] }
  | _ => none }
def FallKeepsWrongFalsely : Prop := fallKeepsRow.holds Try.pinned (OpenSpec.ofChange fallKeepsWrong)

/-- 'gantkeep5.FallSame': WHATEVER THE INPUT: true; the input reads as it did. -/
def fallSameSpec : ChangeSpec := { name := "fallSame", fn := fun _ => fun
  | [d] => { results := [.lit (.bool true)], args := [d] }
  | _ => none }
def fallSameRow : OpenClaim := { program := "ytpdajkbfemcdlaa", sum := "f30b8b0ee433fd3f712a3f142172968e8f0b38f6f7bf9c6cd0b3a79d4e7d452d", func := "gantry/gantkeep5.FallSame", spec := "fallSame", unfollowed := true, recurses := true, plainKeys := false, apart := false }
def FallSameSaid : Prop := fallSameRow.holds Try.pinned (OpenSpec.ofChange fallSameSpec)

/-- ITS FALSE NEIGHBOUR: 'it returns false'. Refute it at one input. -/
def fallSameWrong : ChangeSpec := { name := "fallSame", fn := fun _ => fun
  | [d] => { results := [.lit (.bool false)], args := [d] }
  | _ => none }
def FallSameWrongFalsely : Prop := fallSameRow.holds Try.pinned (OpenSpec.ofChange fallSameWrong)

/-- 'gantkeep5.FallTorn': WHATEVER THE INPUT: true; the input reads as it did. -/
def fallTornSpec : ChangeSpec := { name := "fallTorn", fn := fun _ => fun
  | [d1, d2] => { results := [.lit (.bool true)], args := [d1, d2] }
  | _ => none }
def fallTornRow : OpenClaim := { program := "ytpdajkbfemcdlaa", sum := "f30b8b0ee433fd3f712a3f142172968e8f0b38f6f7bf9c6cd0b3a79d4e7d452d", func := "gantry/gantkeep5.FallTorn", spec := "fallTorn", unfollowed := true, recurses := true, plainKeys := false, apart := false }
def FallTornSaid : Prop := fallTornRow.holds Try.pinned (OpenSpec.ofChange fallTornSpec)

/-- ITS FALSE NEIGHBOUR: 'it returns false'. Refute it at one input. -/
def fallTornWrong : ChangeSpec := { name := "fallTorn", fn := fun _ => fun
  | [d1, d2] => { results := [.lit (.bool false)], args := [d1, d2] }
  | _ => none }
def FallTornWrongFalsely : Prop := fallTornRow.holds Try.pinned (OpenSpec.ofChange fallTornWrong)

/-- 'gantkeep5.LeaseFirst': WHATEVER THE INPUT: true; the input reads as it did. -/
def leaseFirstSpec : ChangeSpec := { name := "leaseFirst", fn := fun _ => fun
  | [d1, d2] => { results := [.lit (.bool true)], args := [d1, d2] }
  | _ => none }
def leaseFirstRow : OpenClaim := { program := "ytpdajkbfemcdlaa", sum := "f30b8b0ee433fd3f712a3f142172968e8f0b38f6f7bf9c6cd0b3a79d4e7d452d", func := "gantry/gantkeep5.LeaseFirst", spec := "leaseFirst", unfollowed := true, recurses := true, plainKeys := false, apart := false }
def LeaseFirstSaid : Prop := leaseFirstRow.holds Try.pinned (OpenSpec.ofChange leaseFirstSpec)

/-- ITS FALSE NEIGHBOUR: 'it returns false'. Refute it at one input. -/
def leaseFirstWrong : ChangeSpec := { name := "leaseFirst", fn := fun _ => fun
  | [d1, d2] => { results := [.lit (.bool false)], args := [d1, d2] }
  | _ => none }
def LeaseFirstWrongFalsely : Prop := leaseFirstRow.holds Try.pinned (OpenSpec.ofChange leaseFirstWrong)

/-- 'gantkeep5.LeaseEnds': WHATEVER THE INPUT: true; the input reads as it did. -/
def leaseEndsSpec : ChangeSpec := { name := "leaseEnds", fn := fun _ => fun
  | [d1, d2] => { results := [.lit (.bool true)], args := [d1, d2] }
  | _ => none }
def leaseEndsRow : OpenClaim := { program := "ytpdajkbfemcdlaa", sum := "f30b8b0ee433fd3f712a3f142172968e8f0b38f6f7bf9c6cd0b3a79d4e7d452d", func := "gantry/gantkeep5.LeaseEnds", spec := "leaseEnds", unfollowed := true, recurses := true, plainKeys := false, apart := false }
def LeaseEndsSaid : Prop := leaseEndsRow.holds Try.pinned (OpenSpec.ofChange leaseEndsSpec)

/-- ITS FALSE NEIGHBOUR: 'it returns false'. Refute it at one input. -/
def leaseEndsWrong : ChangeSpec := { name := "leaseEnds", fn := fun _ => fun
  | [d1, d2] => { results := [.lit (.bool false)], args := [d1, d2] }
  | _ => none }
def LeaseEndsWrongFalsely : Prop := leaseEndsRow.holds Try.pinned (OpenSpec.ofChange leaseEndsWrong)

/-- 'gantkeep5.LeaseLoop': WHATEVER THE INPUT: true; the input reads as it did. -/
def leaseLoopSpec : ChangeSpec := { name := "leaseLoop", fn := fun _ => fun
  | [d1, d2] => { results := [.lit (.bool true)], args := [d1, d2] }
  | _ => none }
def leaseLoopRow : OpenClaim := { program := "ytpdajkbfemcdlaa", sum := "f30b8b0ee433fd3f712a3f142172968e8f0b38f6f7bf9c6cd0b3a79d4e7d452d", func := "gantry/gantkeep5.LeaseLoop", spec := "leaseLoop", unfollowed := true, recurses := true, plainKeys := false, apart := false }
def LeaseLoopSaid : Prop := leaseLoopRow.holds Try.pinned (OpenSpec.ofChange leaseLoopSpec)

/-- ITS FALSE NEIGHBOUR: 'it returns false'. Refute it at one input. -/
def leaseLoopWrong : ChangeSpec := { name := "leaseLoop", fn := fun _ => fun
  | [d1, d2] => { results := [.lit (.bool false)], args := [d1, d2] }
  | _ => none }
def LeaseLoopWrongFalsely : Prop := leaseLoopRow.holds Try.pinned (OpenSpec.ofChange leaseLoopWrong)

/-- 'gantkeep5.LeaseApart': WHATEVER THE INPUT: true; the input reads as it did. -/
def leaseApartSpec : ChangeSpec := { name := "leaseApart", fn := fun _ => fun
  | [d1, d2] => { results := [.lit (.bool true)], args := [d1, d2] }
  | _ => none }
def leaseApartRow : OpenClaim := { program := "ytpdajkbfemcdlaa", sum := "f30b8b0ee433fd3f712a3f142172968e8f0b38f6f7bf9c6cd0b3a79d4e7d452d", func := "gantry/gantkeep5.LeaseApart", spec := "leaseApart", unfollowed := true, recurses := true, plainKeys := false, apart := false }
def LeaseApartSaid : Prop := leaseApartRow.holds Try.pinned (OpenSpec.ofChange leaseApartSpec)

/-- ITS FALSE NEIGHBOUR: 'it returns false'. Refute it at one input. -/
def leaseApartWrong : ChangeSpec := { name := "leaseApart", fn := fun _ => fun
  | [d1, d2] => { results := [.lit (.bool false)], args := [d1, d2] }
  | _ => none }
def LeaseApartWrongFalsely : Prop := leaseApartRow.holds Try.pinned (OpenSpec.ofChange leaseApartWrong)

/-- 'gantlaw5.LeasePlays': WHATEVER THE INPUT: true; the input reads as it did. -/
def leasePlaysSpec : ChangeSpec := { name := "leasePlays", fn := fun _ => fun
  | [d1, d2, d3] => { results := [.lit (.bool true)], args := [d1, d2, d3] }
  | _ => none }
def leasePlaysRow : OpenClaim := { program := "ytpdajkbfemcdlaa", sum := "f30b8b0ee433fd3f712a3f142172968e8f0b38f6f7bf9c6cd0b3a79d4e7d452d", func := "gantry/gantlaw5.LeasePlays", spec := "leasePlays", unfollowed := true, recurses := true, plainKeys := false, apart := false }
def LeasePlaysSaid : Prop := leasePlaysRow.holds Try.pinned (OpenSpec.ofChange leasePlaysSpec)

/-- ITS FALSE NEIGHBOUR: 'it returns false'. Refute it at one input. -/
def leasePlaysWrong : ChangeSpec := { name := "leasePlays", fn := fun _ => fun
  | [d1, d2, d3] => { results := [.lit (.bool false)], args := [d1, d2, d3] }
  | _ => none }
def LeasePlaysWrongFalsely : Prop := leasePlaysRow.holds Try.pinned (OpenSpec.ofChange leasePlaysWrong)

/-- 'gantkeep5.RingGives': WHATEVER THE INPUT: true; the input reads as it did. -/
def ringGivesSpec : ChangeSpec := { name := "ringGives", fn := fun _ => fun
  | [d1, d2] => { results := [.lit (.bool true)], args := [d1, d2] }
  | _ => none }
def ringGivesRow : OpenClaim := { program := "ytpdajkbfemcdlaa", sum := "f30b8b0ee433fd3f712a3f142172968e8f0b38f6f7bf9c6cd0b3a79d4e7d452d", func := "gantry/gantkeep5.RingGives", spec := "ringGives", unfollowed := true, recurses := true, plainKeys := false, apart := false }
def RingGivesSaid : Prop := ringGivesRow.holds Try.pinned (OpenSpec.ofChange ringGivesSpec)

/-- ITS FALSE NEIGHBOUR: 'it returns false'. Refute it at one input. -/
def ringGivesWrong : ChangeSpec := { name := "ringGives", fn := fun _ => fun
  | [d1, d2] => { results := [.lit (.bool false)], args := [d1, d2] }
  | _ => none }
def RingGivesWrongFalsely : Prop := ringGivesRow.holds Try.pinned (OpenSpec.ofChange ringGivesWrong)

/-- 'ganttop.TopWaits': WHATEVER THE INPUT: true; the input reads as it did. -/
def topWaitsSpec : ChangeSpec := { name := "topWaits", fn := fun _ => fun
  | [d1, d2] => { results := [.lit (.bool true)], args := [d1, d2] }
  | _ => none }
def topWaitsRow : OpenClaim := { program := "ytpdajkbfemcdlaa", sum := "f30b8b0ee433fd3f712a3f142172968e8f0b38f6f7bf9c6cd0b3a79d4e7d452d", func := "gantry/ganttop.TopWaits", spec := "topWaits", unfollowed := true, recurses := true, plainKeys := false, apart := false }
def TopWaitsSaid : Prop := topWaitsRow.holds Try.pinned (OpenSpec.ofChange topWaitsSpec)

/-- ITS FALSE NEIGHBOUR: 'it returns false'. Refute it at one input. -/
def topWaitsWrong : ChangeSpec := { name := "topWaits", fn := fun _ => fun
  | [d1, d2] => { results := [.lit (.bool false)], args := [d1, d2] }
  | _ => none }
def TopWaitsWrongFalsely : Prop := topWaitsRow.holds Try.pinned (OpenSpec.ofChange topWaitsWrong)

/-- 'ganttop.TopLeases': WHATEVER THE INPUT: true; the input reads as it did. -/
def topLeasesSpec : ChangeSpec := { name := "topLeases", fn := fun _ => fun
  | [d1, d2] => { results := [.lit (.bool true)], args := [d1, d2] }
  | _ => none }
def topLeasesRow : OpenClaim := { program := "ytpdajkbfemcdlaa", sum := "f30b8b0ee433fd3f712a3f142172968e8f0b38f6f7bf9c6cd0b3a79d4e7d452d", func := "gantry/ganttop.TopLeases", spec := "topLeases", unfollowed := true, recurses := true, plainKeys := false, apart := false }
def TopLeasesSaid : Prop := topLeasesRow.holds Try.pinned (OpenSpec.ofChange topLeasesSpec)

/-- ITS FALSE NEIGHBOUR: 'it returns false'. Refute it at one input. -/
def topLeasesWrong : ChangeSpec := { name := "topLeases", fn := fun _ => fun
  | [d1, d2] => { results := [.lit (.bool false)], args := [d1, d2] }
  | _ => none }
def TopLeasesWrongFalsely : Prop := topLeasesRow.holds Try.pinned (OpenSpec.ofChange topLeasesWrong)

/- THE SECOND FORM. 'bulk': how many values and letters a reading holds, each counted each time it is reached (what is shared counts as often as it is met; a slice's spare places count too). A statement '..UptoSaid' is the law's where the arguments, and the package variables that the reading takes, are together of bulk at most 1048576: NARROWER than '..Said'. Prove '..Said' where nothing that the law and all that it calls make is longer than what came in: it says more and counts as full. Else prove '..UptoSaid'. A law counts once. -/
mutual
def uptoBulk {H : Type} : DataW H → Nat
  | .lit (.string bytes) => bytes.length + 1
  | .lit _ => 1
  | .nil => 1
  | .ptr d => uptoBulk d + 1
  | .slice elems spare => uptoBulkAll elems + uptoBulkAll spare + 1
  | .agg parts => uptoBulkAll parts + 1
  | .iface _ d => uptoBulk d + 1
  | .map entries => uptoBulkEntries entries + 1
  | .held _ => 1
def uptoBulkAll {H : Type} : List (DataW H) → Nat
  | [] => 0
  | d :: r => uptoBulk d + uptoBulkAll r
def uptoBulkEntries {H : Type} : List (Lit × DataW H) → Nat
  | [] => 0
  | x :: r => uptoBulkEntry x + uptoBulkEntries r
def uptoBulkEntry {H : Type} : Lit × DataW H → Nat
  | (.string bytes, d) => bytes.length + uptoBulk d + 1
  | (_, d) => uptoBulk d + 1
 end
def uptoSmall : (H : Type) → List (DataW H) → Bool := fun _ ds => decide (uptoBulkAll ds ≤ 1048576)
def OpenSpec.upto (s : _root_.Go.ChangeSpec) : _root_.Go.OpenSpec := { _root_.Go.OpenSpec.ofChange s with cond := some uptoSmall }

/-- 'gantkeep5.ClockSure', WHERE WHAT IT READS IS OF BULK AT MOST 1048576: true; the input reads as it did. -/
def clockSureUptoRow : OpenClaim := { program := "ytpdajkbfemcdlaa", sum := "f30b8b0ee433fd3f712a3f142172968e8f0b38f6f7bf9c6cd0b3a79d4e7d452d", func := "gantry/gantkeep5.ClockSure", spec := "clockSure", plainKeys := false, apart := false, narrowed := true }
def ClockSureUptoSaid : Prop := clockSureUptoRow.holds Try.pinned (OpenSpec.upto clockSureSpec)

/-- 'gantlaw5.MsgSame', WHERE WHAT IT READS IS OF BULK AT MOST 1048576: true; the input reads as it did. -/
def msgSameUptoRow : OpenClaim := { program := "ytpdajkbfemcdlaa", sum := "f30b8b0ee433fd3f712a3f142172968e8f0b38f6f7bf9c6cd0b3a79d4e7d452d", func := "gantry/gantlaw5.MsgSame", spec := "msgSame", plainKeys := false, apart := false, narrowed := true }
def MsgSameUptoSaid : Prop := msgSameUptoRow.holds Try.pinned (OpenSpec.upto msgSameSpec)

/-- 'gantlaw5.ClockTells', WHERE WHAT IT READS IS OF BULK AT MOST 1048576: true; the input reads as it did. -/
def clockTellsUptoRow : OpenClaim := { program := "ytpdajkbfemcdlaa", sum := "f30b8b0ee433fd3f712a3f142172968e8f0b38f6f7bf9c6cd0b3a79d4e7d452d", func := "gantry/gantlaw5.ClockTells", spec := "clockTells", unfollowed := true, recurses := true, plainKeys := false, apart := false, narrowed := true }
def ClockTellsUptoSaid : Prop := clockTellsUptoRow.holds Try.pinned (OpenSpec.upto clockTellsSpec)

/-- 'gantlaw5.FallHellos', WHERE WHAT IT READS IS OF BULK AT MOST 1048576: true; the input reads as it did. -/
def fallHellosUptoRow : OpenClaim := { program := "ytpdajkbfemcdlaa", sum := "f30b8b0ee433fd3f712a3f142172968e8f0b38f6f7bf9c6cd0b3a79d4e7d452d", func := "gantry/gantlaw5.FallHellos", spec := "fallHellos", unfollowed := true, recurses := true, plainKeys := false, apart := false, narrowed := true }
def FallHellosUptoSaid : Prop := fallHellosUptoRow.holds Try.pinned (OpenSpec.upto fallHellosSpec)

/-- 'gantkeep5.LogGoes', WHERE WHAT IT READS IS OF BULK AT MOST 1048576: true; the input reads as it did. -/
def logGoesUptoRow : OpenClaim := { program := "ytpdajkbfemcdlaa", sum := "f30b8b0ee433fd3f712a3f142172968e8f0b38f6f7bf9c6cd0b3a79d4e7d452d", func := "gantry/gantkeep5.LogGoes", spec := "logGoes", plainKeys := false, apart := false, narrowed := true }
def LogGoesUptoSaid : Prop := logGoesUptoRow.holds Try.pinned (OpenSpec.upto logGoesSpec)

/-- 'gantlaw5.LogTells', WHERE WHAT IT READS IS OF BULK AT MOST 1048576: true; the input reads as it did. -/
def logTellsUptoRow : OpenClaim := { program := "ytpdajkbfemcdlaa", sum := "f30b8b0ee433fd3f712a3f142172968e8f0b38f6f7bf9c6cd0b3a79d4e7d452d", func := "gantry/gantlaw5.LogTells", spec := "logTells", unfollowed := true, recurses := true, plainKeys := false, apart := false, narrowed := true }
def LogTellsUptoSaid : Prop := logTellsUptoRow.holds Try.pinned (OpenSpec.upto logTellsSpec)

/-- 'gantkeep5.LogCut', WHERE WHAT IT READS IS OF BULK AT MOST 1048576: true; the input reads as it did. -/
def logCutUptoRow : OpenClaim := { program := "ytpdajkbfemcdlaa", sum := "f30b8b0ee433fd3f712a3f142172968e8f0b38f6f7bf9c6cd0b3a79d4e7d452d", func := "gantry/gantkeep5.LogCut", spec := "logCut", unfollowed := true, recurses := true, plainKeys := false, apart := false, narrowed := true }
def LogCutUptoSaid : Prop := logCutUptoRow.holds Try.pinned (OpenSpec.upto logCutSpec)

/-- 'gantlaw5.MsgTells', WHERE WHAT IT READS IS OF BULK AT MOST 1048576: true; the input reads as it did. -/
def msgTellsUptoRow : OpenClaim := { program := "ytpdajkbfemcdlaa", sum := "f30b8b0ee433fd3f712a3f142172968e8f0b38f6f7bf9c6cd0b3a79d4e7d452d", func := "gantry/gantlaw5.MsgTells", spec := "msgTells", plainKeys := false, apart := false, narrowed := true }
def MsgTellsUptoSaid : Prop := msgTellsUptoRow.holds Try.pinned (OpenSpec.upto msgTellsSpec)

/-- 'gantkeep5.MsgOwn', WHERE WHAT IT READS IS OF BULK AT MOST 1048576: true; the input reads as it did. -/
def msgOwnUptoRow : OpenClaim := { program := "ytpdajkbfemcdlaa", sum := "f30b8b0ee433fd3f712a3f142172968e8f0b38f6f7bf9c6cd0b3a79d4e7d452d", func := "gantry/gantkeep5.MsgOwn", spec := "msgOwn", unfollowed := true, recurses := true, plainKeys := false, apart := false, narrowed := true }
def MsgOwnUptoSaid : Prop := msgOwnUptoRow.holds Try.pinned (OpenSpec.upto msgOwnSpec)

/-- 'gantkeep5.MsgBack', WHERE WHAT IT READS IS OF BULK AT MOST 1048576: true; the input reads as it did. -/
def msgBackUptoRow : OpenClaim := { program := "ytpdajkbfemcdlaa", sum := "f30b8b0ee433fd3f712a3f142172968e8f0b38f6f7bf9c6cd0b3a79d4e7d452d", func := "gantry/gantkeep5.MsgBack", spec := "msgBack", unfollowed := true, recurses := true, plainKeys := false, apart := false, narrowed := true }
def MsgBackUptoSaid : Prop := msgBackUptoRow.holds Try.pinned (OpenSpec.upto msgBackSpec)

/-- 'gantkeep5.MsgShort', WHERE WHAT IT READS IS OF BULK AT MOST 1048576: true; the input reads as it did. -/
def msgShortUptoRow : OpenClaim := { program := "ytpdajkbfemcdlaa", sum := "f30b8b0ee433fd3f712a3f142172968e8f0b38f6f7bf9c6cd0b3a79d4e7d452d", func := "gantry/gantkeep5.MsgShort", spec := "msgShort", unfollowed := true, recurses := true, plainKeys := false, apart := false, narrowed := true }
def MsgShortUptoSaid : Prop := msgShortUptoRow.holds Try.pinned (OpenSpec.upto msgShortSpec)

/-- 'ganttop.TopLogs', WHERE WHAT IT READS IS OF BULK AT MOST 1048576: true; the input reads as it did. -/
def topLogsUptoRow : OpenClaim := { program := "ytpdajkbfemcdlaa", sum := "f30b8b0ee433fd3f712a3f142172968e8f0b38f6f7bf9c6cd0b3a79d4e7d452d", func := "gantry/ganttop.TopLogs", spec := "topLogs", unfollowed := true, recurses := true, plainKeys := false, apart := false, narrowed := true }
def TopLogsUptoSaid : Prop := topLogsUptoRow.holds Try.pinned (OpenSpec.upto topLogsSpec)

/-- 'gantlaw5.LinkPlays', WHERE WHAT IT READS IS OF BULK AT MOST 1048576: true; the input reads as it did. -/
def linkPlaysUptoRow : OpenClaim := { program := "ytpdajkbfemcdlaa", sum := "f30b8b0ee433fd3f712a3f142172968e8f0b38f6f7bf9c6cd0b3a79d4e7d452d", func := "gantry/gantlaw5.LinkPlays", spec := "linkPlays", unfollowed := true, recurses := true, plainKeys := false, apart := false, narrowed := true }
def LinkPlaysUptoSaid : Prop := linkPlaysUptoRow.holds Try.pinned (OpenSpec.upto linkPlaysSpec)

/-- 'gantlaw5.LinkEnds', WHERE WHAT IT READS IS OF BULK AT MOST 1048576: true; the input reads as it did. -/
def linkEndsUptoRow : OpenClaim := { program := "ytpdajkbfemcdlaa", sum := "f30b8b0ee433fd3f712a3f142172968e8f0b38f6f7bf9c6cd0b3a79d4e7d452d", func := "gantry/gantlaw5.LinkEnds", spec := "linkEnds", unfollowed := true, recurses := true, plainKeys := false, apart := false, narrowed := true }
def LinkEndsUptoSaid : Prop := linkEndsUptoRow.holds Try.pinned (OpenSpec.upto linkEndsSpec)

/-- 'gantkeep5.NetOnly', WHERE WHAT IT READS IS OF BULK AT MOST 1048576: true; the input reads as it did. -/
def netOnlyUptoRow : OpenClaim := { program := "ytpdajkbfemcdlaa", sum := "f30b8b0ee433fd3f712a3f142172968e8f0b38f6f7bf9c6cd0b3a79d4e7d452d", func := "gantry/gantkeep5.NetOnly", spec := "netOnly", unfollowed := true, recurses := true, plainKeys := false, apart := false, narrowed := true }
def NetOnlyUptoSaid : Prop := netOnlyUptoRow.holds Try.pinned (OpenSpec.upto netOnlySpec)

/-- 'gantlaw5.NetPlays', WHERE WHAT IT READS IS OF BULK AT MOST 1048576: true; the input reads as it did. -/
def netPlaysUptoRow : OpenClaim := { program := "ytpdajkbfemcdlaa", sum := "f30b8b0ee433fd3f712a3f142172968e8f0b38f6f7bf9c6cd0b3a79d4e7d452d", func := "gantry/gantlaw5.NetPlays", spec := "netPlays", unfollowed := true, recurses := true, plainKeys := false, apart := false, narrowed := true }
def NetPlaysUptoSaid : Prop := netPlaysUptoRow.holds Try.pinned (OpenSpec.upto netPlaysSpec)

/-- 'gantkeep5.NetPlain', WHERE WHAT IT READS IS OF BULK AT MOST 1048576: true; the input reads as it did. -/
def netPlainUptoRow : OpenClaim := { program := "ytpdajkbfemcdlaa", sum := "f30b8b0ee433fd3f712a3f142172968e8f0b38f6f7bf9c6cd0b3a79d4e7d452d", func := "gantry/gantkeep5.NetPlain", spec := "netPlain", unfollowed := true, recurses := true, plainKeys := false, apart := false, narrowed := true }
def NetPlainUptoSaid : Prop := netPlainUptoRow.holds Try.pinned (OpenSpec.upto netPlainSpec)

/-- 'gantkeep5.LinkAll', WHERE WHAT IT READS IS OF BULK AT MOST 1048576: true; the input reads as it did. -/
def linkAllUptoRow : OpenClaim := { program := "ytpdajkbfemcdlaa", sum := "f30b8b0ee433fd3f712a3f142172968e8f0b38f6f7bf9c6cd0b3a79d4e7d452d", func := "gantry/gantkeep5.LinkAll", spec := "linkAll", unfollowed := true, recurses := true, plainKeys := false, apart := false, narrowed := true }
def LinkAllUptoSaid : Prop := linkAllUptoRow.holds Try.pinned (OpenSpec.upto linkAllSpec)

/-- 'gantkeep5.LinkOrder', WHERE WHAT IT READS IS OF BULK AT MOST 1048576: true; the input reads as it did. -/
def linkOrderUptoRow : OpenClaim := { program := "ytpdajkbfemcdlaa", sum := "f30b8b0ee433fd3f712a3f142172968e8f0b38f6f7bf9c6cd0b3a79d4e7d452d", func := "gantry/gantkeep5.LinkOrder", spec := "linkOrder", unfollowed := true, recurses := true, plainKeys := false, apart := false, narrowed := true }
def LinkOrderUptoSaid : Prop := linkOrderUptoRow.holds Try.pinned (OpenSpec.upto linkOrderSpec)

/-- 'gantkeep5.RingFound', WHERE WHAT IT READS IS OF BULK AT MOST 1048576: true; the input reads as it did. -/
def ringFoundUptoRow : OpenClaim := { program := "ytpdajkbfemcdlaa", sum := "f30b8b0ee433fd3f712a3f142172968e8f0b38f6f7bf9c6cd0b3a79d4e7d452d", func := "gantry/gantkeep5.RingFound", spec := "ringFound", plainKeys := false, apart := false, narrowed := true }
def RingFoundUptoSaid : Prop := ringFoundUptoRow.holds Try.pinned (OpenSpec.upto ringFoundSpec)

/-- 'gantlaw5.RingTells', WHERE WHAT IT READS IS OF BULK AT MOST 1048576: true; the input reads as it did. -/
def ringTellsUptoRow : OpenClaim := { program := "ytpdajkbfemcdlaa", sum := "f30b8b0ee433fd3f712a3f142172968e8f0b38f6f7bf9c6cd0b3a79d4e7d452d", func := "gantry/gantlaw5.RingTells", spec := "ringTells", unfollowed := true, recurses := true, plainKeys := false, apart := false, narrowed := true }
def RingTellsUptoSaid : Prop := ringTellsUptoRow.holds Try.pinned (OpenSpec.upto ringTellsSpec)

/-- 'gantkeep5.RingOrder', WHERE WHAT IT READS IS OF BULK AT MOST 1048576: true; the input reads as it did. -/
def ringOrderUptoRow : OpenClaim := { program := "ytpdajkbfemcdlaa", sum := "f30b8b0ee433fd3f712a3f142172968e8f0b38f6f7bf9c6cd0b3a79d4e7d452d", func := "gantry/gantkeep5.RingOrder", spec := "ringOrder", unfollowed := true, recurses := true, plainKeys := false, apart := false, narrowed := true }
def RingOrderUptoSaid : Prop := ringOrderUptoRow.holds Try.pinned (OpenSpec.upto ringOrderSpec)

/-- 'gantlaw5.RingSafe', WHERE WHAT IT READS IS OF BULK AT MOST 1048576: true; the input reads as it did. -/
def ringSafeUptoRow : OpenClaim := { program := "ytpdajkbfemcdlaa", sum := "f30b8b0ee433fd3f712a3f142172968e8f0b38f6f7bf9c6cd0b3a79d4e7d452d", func := "gantry/gantlaw5.RingSafe", spec := "ringSafe", unfollowed := true, recurses := true, plainKeys := false, apart := false, narrowed := true }
def RingSafeUptoSaid : Prop := ringSafeUptoRow.holds Try.pinned (OpenSpec.upto ringSafeSpec)

/-- 'ganttop.TopFalls', WHERE WHAT IT READS IS OF BULK AT MOST 1048576: true; the input reads as it did. -/
def topFallsUptoRow : OpenClaim := { program := "ytpdajkbfemcdlaa", sum := "f30b8b0ee433fd3f712a3f142172968e8f0b38f6f7bf9c6cd0b3a79d4e7d452d", func := "gantry/ganttop.TopFalls", spec := "topFalls", unfollowed := true, recurses := true, plainKeys := false, apart := false, narrowed := true }
def TopFallsUptoSaid : Prop := topFallsUptoRow.holds Try.pinned (OpenSpec.upto topFallsSpec)

/-- 'gantlaw5.FallTells', WHERE WHAT IT READS IS OF BULK AT MOST 1048576: true; the input reads as it did. -/
def fallTellsUptoRow : OpenClaim := { program := "ytpdajkbfemcdlaa", sum := "f30b8b0ee433fd3f712a3f142172968e8f0b38f6f7bf9c6cd0b3a79d4e7d452d", func := "gantry/gantlaw5.FallTells", spec := "fallTells", unfollowed := true, recurses := true, plainKeys := false, apart := false, narrowed := true }
def FallTellsUptoSaid : Prop := fallTellsUptoRow.holds Try.pinned (OpenSpec.upto fallTellsSpec)

/-- 'gantkeep5.FallEvents', WHERE WHAT IT READS IS OF BULK AT MOST 1048576: true; the input reads as it did. -/
def fallEventsUptoRow : OpenClaim := { program := "ytpdajkbfemcdlaa", sum := "f30b8b0ee433fd3f712a3f142172968e8f0b38f6f7bf9c6cd0b3a79d4e7d452d", func := "gantry/gantkeep5.FallEvents", spec := "fallEvents", unfollowed := true, recurses := true, plainKeys := false, apart := false, narrowed := true }
def FallEventsUptoSaid : Prop := fallEventsUptoRow.holds Try.pinned (OpenSpec.upto fallEventsSpec)

/-- 'gantlaw5.FallBack', WHERE WHAT IT READS IS OF BULK AT MOST 1048576: true; the input reads as it did. -/
def fallBackUptoRow : OpenClaim := { program := "ytpdajkbfemcdlaa", sum := "f30b8b0ee433fd3f712a3f142172968e8f0b38f6f7bf9c6cd0b3a79d4e7d452d", func := "gantry/gantlaw5.FallBack", spec := "fallBack", unfollowed := true, recurses := true, plainKeys := false, apart := false, narrowed := true }
def FallBackUptoSaid : Prop := fallBackUptoRow.holds Try.pinned (OpenSpec.upto fallBackSpec)

/-- 'gantlaw5.FallKeeps', WHERE WHAT IT READS IS OF BULK AT MOST 1048576: true; the input reads as it did. -/
def fallKeepsUptoRow : OpenClaim := { program := "ytpdajkbfemcdlaa", sum := "f30b8b0ee433fd3f712a3f142172968e8f0b38f6f7bf9c6cd0b3a79d4e7d452d", func := "gantry/gantlaw5.FallKeeps", spec := "fallKeeps", unfollowed := true, recurses := true, plainKeys := false, apart := false, narrowed := true }
def FallKeepsUptoSaid : Prop := fallKeepsUptoRow.holds Try.pinned (OpenSpec.upto fallKeepsSpec)

/-- 'gantkeep5.FallSame', WHERE WHAT IT READS IS OF BULK AT MOST 1048576: true; the input reads as it did. -/
def fallSameUptoRow : OpenClaim := { program := "ytpdajkbfemcdlaa", sum := "f30b8b0ee433fd3f712a3f142172968e8f0b38f6f7bf9c6cd0b3a79d4e7d452d", func := "gantry/gantkeep5.FallSame", spec := "fallSame", unfollowed := true, recurses := true, plainKeys := false, apart := false, narrowed := true }
def FallSameUptoSaid : Prop := fallSameUptoRow.holds Try.pinned (OpenSpec.upto fallSameSpec)

/-- 'gantkeep5.FallTorn', WHERE WHAT IT READS IS OF BULK AT MOST 1048576: true; the input reads as it did. -/
def fallTornUptoRow : OpenClaim := { program := "ytpdajkbfemcdlaa", sum := "f30b8b0ee433fd3f712a3f142172968e8f0b38f6f7bf9c6cd0b3a79d4e7d452d", func := "gantry/gantkeep5.FallTorn", spec := "fallTorn", unfollowed := true, recurses := true, plainKeys := false, apart := false, narrowed := true }
def FallTornUptoSaid : Prop := fallTornUptoRow.holds Try.pinned (OpenSpec.upto fallTornSpec)

/-- 'gantkeep5.LeaseFirst', WHERE WHAT IT READS IS OF BULK AT MOST 1048576: true; the input reads as it did. -/
def leaseFirstUptoRow : OpenClaim := { program := "ytpdajkbfemcdlaa", sum := "f30b8b0ee433fd3f712a3f142172968e8f0b38f6f7bf9c6cd0b3a79d4e7d452d", func := "gantry/gantkeep5.LeaseFirst", spec := "leaseFirst", unfollowed := true, recurses := true, plainKeys := false, apart := false, narrowed := true }
def LeaseFirstUptoSaid : Prop := leaseFirstUptoRow.holds Try.pinned (OpenSpec.upto leaseFirstSpec)

/-- 'gantkeep5.LeaseEnds', WHERE WHAT IT READS IS OF BULK AT MOST 1048576: true; the input reads as it did. -/
def leaseEndsUptoRow : OpenClaim := { program := "ytpdajkbfemcdlaa", sum := "f30b8b0ee433fd3f712a3f142172968e8f0b38f6f7bf9c6cd0b3a79d4e7d452d", func := "gantry/gantkeep5.LeaseEnds", spec := "leaseEnds", unfollowed := true, recurses := true, plainKeys := false, apart := false, narrowed := true }
def LeaseEndsUptoSaid : Prop := leaseEndsUptoRow.holds Try.pinned (OpenSpec.upto leaseEndsSpec)

/-- 'gantkeep5.LeaseLoop', WHERE WHAT IT READS IS OF BULK AT MOST 1048576: true; the input reads as it did. -/
def leaseLoopUptoRow : OpenClaim := { program := "ytpdajkbfemcdlaa", sum := "f30b8b0ee433fd3f712a3f142172968e8f0b38f6f7bf9c6cd0b3a79d4e7d452d", func := "gantry/gantkeep5.LeaseLoop", spec := "leaseLoop", unfollowed := true, recurses := true, plainKeys := false, apart := false, narrowed := true }
def LeaseLoopUptoSaid : Prop := leaseLoopUptoRow.holds Try.pinned (OpenSpec.upto leaseLoopSpec)

/-- 'gantkeep5.LeaseApart', WHERE WHAT IT READS IS OF BULK AT MOST 1048576: true; the input reads as it did. -/
def leaseApartUptoRow : OpenClaim := { program := "ytpdajkbfemcdlaa", sum := "f30b8b0ee433fd3f712a3f142172968e8f0b38f6f7bf9c6cd0b3a79d4e7d452d", func := "gantry/gantkeep5.LeaseApart", spec := "leaseApart", unfollowed := true, recurses := true, plainKeys := false, apart := false, narrowed := true }
def LeaseApartUptoSaid : Prop := leaseApartUptoRow.holds Try.pinned (OpenSpec.upto leaseApartSpec)

/-- 'gantlaw5.LeasePlays', WHERE WHAT IT READS IS OF BULK AT MOST 1048576: true; the input reads as it did. -/
def leasePlaysUptoRow : OpenClaim := { program := "ytpdajkbfemcdlaa", sum := "f30b8b0ee433fd3f712a3f142172968e8f0b38f6f7bf9c6cd0b3a79d4e7d452d", func := "gantry/gantlaw5.LeasePlays", spec := "leasePlays", unfollowed := true, recurses := true, plainKeys := false, apart := false, narrowed := true }
def LeasePlaysUptoSaid : Prop := leasePlaysUptoRow.holds Try.pinned (OpenSpec.upto leasePlaysSpec)

/-- 'gantkeep5.RingGives', WHERE WHAT IT READS IS OF BULK AT MOST 1048576: true; the input reads as it did. -/
def ringGivesUptoRow : OpenClaim := { program := "ytpdajkbfemcdlaa", sum := "f30b8b0ee433fd3f712a3f142172968e8f0b38f6f7bf9c6cd0b3a79d4e7d452d", func := "gantry/gantkeep5.RingGives", spec := "ringGives", unfollowed := true, recurses := true, plainKeys := false, apart := false, narrowed := true }
def RingGivesUptoSaid : Prop := ringGivesUptoRow.holds Try.pinned (OpenSpec.upto ringGivesSpec)

/-- 'ganttop.TopWaits', WHERE WHAT IT READS IS OF BULK AT MOST 1048576: true; the input reads as it did. -/
def topWaitsUptoRow : OpenClaim := { program := "ytpdajkbfemcdlaa", sum := "f30b8b0ee433fd3f712a3f142172968e8f0b38f6f7bf9c6cd0b3a79d4e7d452d", func := "gantry/ganttop.TopWaits", spec := "topWaits", unfollowed := true, recurses := true, plainKeys := false, apart := false, narrowed := true }
def TopWaitsUptoSaid : Prop := topWaitsUptoRow.holds Try.pinned (OpenSpec.upto topWaitsSpec)

/-- 'ganttop.TopLeases', WHERE WHAT IT READS IS OF BULK AT MOST 1048576: true; the input reads as it did. -/
def topLeasesUptoRow : OpenClaim := { program := "ytpdajkbfemcdlaa", sum := "f30b8b0ee433fd3f712a3f142172968e8f0b38f6f7bf9c6cd0b3a79d4e7d452d", func := "gantry/ganttop.TopLeases", spec := "topLeases", unfollowed := true, recurses := true, plainKeys := false, apart := false, narrowed := true }
def TopLeasesUptoSaid : Prop := topLeasesUptoRow.holds Try.pinned (OpenSpec.upto topLeasesSpec)

end Rows
end Go.Proofs.Ytpdajkbfemcdlaa
