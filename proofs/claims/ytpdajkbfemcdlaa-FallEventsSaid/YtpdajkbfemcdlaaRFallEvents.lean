/- events that are made are written and read as they were, and wrong ones are not written and change nothing, for all lists of numbers and all that a controller knows -/
import Derived.Test.YtpdajkbfemcdlaaRows
import Derived.Test.YtpdajkbfemcdlaaGeD
import Derived.Test.YtpdajkbfemcdlaaZB2
import Derived.Test.YtpdajkbfemcdlaaFacts
import Derived.JoinedCond
set_option linter.unusedVariables false
set_option linter.unusedSimpArgs false
namespace Go.Proofs.Ytpdajkbfemcdlaa.fallEvents
open Go.Ge
theorem own : ownKnob Try.prog.godebug = none := facts.own
theorem laidOut : laidOutB Try.prog = true := facts.laidOut
theorem tys : argTys Try.prog Try.f28.params.toList = some [(false, [.slice 8 false [.int .i64]]), (true, [.int .i64, .int .i64, .slice 16 true [.int .i64, .int .i64], .slice 16 true [.int .i64, .int .i64], .int .i64])] := by kernel_rfl
theorem contract : ∀ xs : List AVal, HasA [(false, [.slice 8 false [.int .i64]]), (true, tyMem)] xs → ACalls Try.prog 28 xs [] (fun r _ => r = .bool true) := by
  intro xs h
  obtain ⟨c1, _, rfl, h1, h⟩ := hasA1 h
  obtain ⟨c2, _, rfl, h2, h⟩ := hasA1 h
  obtain rfl := hasA0 h
  obtain ⟨o, l, e1, ho, hl, hll⟩ := arg_ints h1
  obtain ⟨oa, ob, m, e2, ha, hb, w⟩ := arg_mem h2
  rw [e1, e2]
  unfold reachBytes at hll
  have w1 := w.len1
  have w2 := w.len2
  unfold reachBytes at w1 w2
  exact ACalls.mono (FallEvents_ok o oa ob l m ho.1 hl (by omega) ha hb (by omega) (by omega) []) fun r h' hh => hh.1
theorem lifted (os : Os) (started : os.Started) (H : Type) (enc : TypeId × Value → H) :
    ReturnsInHanded {} Try.checked os 28 .any (Rows.fallEventsSpec.pre6 enc Try.prog Try.f28 Rows.fallEventsRow.domain false) (Rows.fallEventsSpec.post enc Try.prog Try.f28 false true false false) :=
  law_lifted (C := Try.checked) own started (by kernel_rfl) Try.func28 rfl
    (fun ds h => by
      have h : ds.length = 2 := h
      match ds, h with
      | [d0, d1], _ => rfl) rfl Try.underlying4 laidOut (by kernel_rfl) tys
    (ChangeSpec.witness6 (enc := enc) (C := Try.checked) false ⟨#[], #[.slice none 0 0, .agg #[.int .i64 0, .int .i64 0, .slice none 0 0, .slice none 0 0, .int .i64 0]], []⟩ 8 (by kernel_rfl) (by kernel_rfl) (by kernel_rfl) (by kernel_rfl)) contract
theorem inPlace : Rows.fallEventsRow.inPlace = Try.prog.inPlace 28 := by kernel_rfl
theorem unfollowed : Rows.fallEventsRow.unfollowed = Try.prog.unfollowed 28 := by kernel_rfl
theorem recurses : Rows.fallEventsRow.recurses = Try.prog.recurses 28 := by kernel_rfl
theorem named : Rows.fallEventsRow.named = Try.prog.varsNamed 28 := by kernel_rfl
theorem closed : joinedFacts Try.prog 28 Try.f28 Rows.fallEventsSpec Rows.fallEventsRow = true :=
  facts.joined inPlace unfollowed recurses named rfl rfl rfl (by kernel_rfl) (by kernel_rfl) (by kernel_rfl)
theorem instanceOf : Try.f28.isInstance Try.prog Rows.fallEventsRow.origin Rows.fallEventsRow.targs := of_decide_eq_true (by kernel_rfl)
theorem outside : (Check.packageOf Try.f28.name == "main") = false := by kernel_rfl
theorem funcNamed : Try.prog.funcNamed Rows.fallEventsRow.func = some 28 := by kernel_rfl
theorem over : Rows.fallEventsRow.holds Try.pinned (OpenSpec.ofChange Rows.fallEventsSpec) :=
  OpenClaim.holds_of_wide 28 Try.f28 rfl rfl rfl rfl rfl rfl rfl ⟨rfl, rfl, rfl, rfl, rfl⟩ rfl rfl rfl rfl rfl funcNamed Try.func28 closed instanceOf (by unfold Func.isWrapper; rw [if_neg (ne_of_beq_false outside)]; exact ⟨rfl, rfl⟩)
    (fun os started H enc _ => lifted os started H enc)
theorem proved : Rows.FallEventsSaid := over
#print axioms proved
end Go.Proofs.Ytpdajkbfemcdlaa.fallEvents
namespace Go.Proofs.Ytpdajkbfemcdlaa
/-- The row, under a short name, for the claim. -/
theorem fallEvents_holds : Rows.FallEventsSaid := fallEvents.proved
end Go.Proofs.Ytpdajkbfemcdlaa
