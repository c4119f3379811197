/- For all lists of numbers and all cuts, messages that are made of the lists and written into a log are there after any fall, up to the one that was not whole, and nothing else: for every input the call returns true and each argument reads as before; condition: none. -/
import Derived.Test.YtpdajkbfemcdlaaRows
import Derived.Test.YtpdajkbfemcdlaaGeD
import Derived.Test.YtpdajkbfemcdlaaZB2
import Derived.Test.YtpdajkbfemcdlaaFacts
import Derived.JoinedCond
set_option linter.unusedVariables false
set_option linter.unusedSimpArgs false
namespace Go.Proofs.Ytpdajkbfemcdlaa.topLogs
open Go.Ge
theorem own : ownKnob Try.prog.godebug = none := facts.own
theorem laidOut : laidOutB Try.prog = true := facts.laidOut
theorem tys : argTys Try.prog Try.f14.params.toList = some [(false, [.slice 24 false [.slice 8 false [.int .i64]]]), (false, [.int .i64])] := by kernel_rfl
theorem contract : ∀ xs : List AVal, HasA [(false, [.slice 24 false [.slice 8 false [.int .i64]]]), (false, [.int .i64])] xs → ACalls Try.prog 14 xs [] (fun r _ => r = .bool true) := by
  intro xs h
  obtain ⟨c1, _, rfl, h1, h⟩ := hasA1 h
  obtain ⟨c2, _, rfl, h2, h⟩ := hasA1 h
  obtain rfl := hasA0 h
  obtain ⟨o, G, ys, e1, ho, hx, hu, hl⟩ := arg_rowsI h1
  obtain ⟨n, e2, hn⟩ := arg_i64 h2
  rw [e1, e2]
  unfold reachBytes at hl
  exact TopLogs_law o G ys n ho hx hu (by omega) hn
theorem lifted (os : Os) (started : os.Started) (H : Type) (enc : TypeId × Value → H) :
    ReturnsInHanded {} Try.checked os 14 .any (Rows.topLogsSpec.pre6 enc Try.prog Try.f14 Rows.topLogsRow.domain false) (Rows.topLogsSpec.post enc Try.prog Try.f14 false true false false) :=
  law_lifted (C := Try.checked) own started (by kernel_rfl) Try.func14 rfl
    (fun ds h => by
      have h : ds.length = 2 := h
      match ds, h with
      | [d0, d1], _ => rfl) rfl Try.underlying4 laidOut (by kernel_rfl) tys
    (ChangeSpec.witness6 (enc := enc) (C := Try.checked) false ⟨#[], #[.slice none 0 0, .int .i64 0], []⟩ 8 (by kernel_rfl) (by kernel_rfl) (by kernel_rfl) (by kernel_rfl)) contract
theorem inPlace : Rows.topLogsRow.inPlace = Try.prog.inPlace 14 := by kernel_rfl
theorem unfollowed : Rows.topLogsRow.unfollowed = Try.prog.unfollowed 14 := by kernel_rfl
theorem recurses : Rows.topLogsRow.recurses = Try.prog.recurses 14 := by kernel_rfl
theorem named : Rows.topLogsRow.named = Try.prog.varsNamed 14 := by kernel_rfl
theorem closed : joinedFacts Try.prog 14 Try.f14 Rows.topLogsSpec Rows.topLogsRow = true :=
  facts.joined inPlace unfollowed recurses named rfl rfl rfl (by kernel_rfl) (by kernel_rfl) (by kernel_rfl)
theorem instanceOf : Try.f14.isInstance Try.prog Rows.topLogsRow.origin Rows.topLogsRow.targs := of_decide_eq_true (by kernel_rfl)
theorem outside : (Check.packageOf Try.f14.name == "main") = false := by kernel_rfl
theorem funcNamed : Try.prog.funcNamed Rows.topLogsRow.func = some 14 := by kernel_rfl
theorem over : Rows.topLogsRow.holds Try.pinned (OpenSpec.ofChange Rows.topLogsSpec) :=
  OpenClaim.holds_of_wide 14 Try.f14 rfl rfl rfl rfl rfl rfl rfl ⟨rfl, rfl, rfl, rfl, rfl⟩ rfl rfl rfl rfl rfl funcNamed Try.func14 closed instanceOf (by unfold Func.isWrapper; rw [if_neg (ne_of_beq_false outside)]; exact ⟨rfl, rfl⟩)
    (fun os started H enc _ => lifted os started H enc)
theorem proved : Rows.TopLogsSaid := over
#print axioms proved
end Go.Proofs.Ytpdajkbfemcdlaa.topLogs
namespace Go.Proofs.Ytpdajkbfemcdlaa
/-- The row, under a short name, for the claim. -/
theorem topLogs_holds : Rows.TopLogsSaid := topLogs.proved
end Go.Proofs.Ytpdajkbfemcdlaa
