/- a controller that falls and comes back with its log goes on as one that has never fallen, for all lists of numbers -/
import Derived.Test.YtpdajkbfemcdlaaRows
import Derived.Test.YtpdajkbfemcdlaaGeD
import Derived.Test.YtpdajkbfemcdlaaZB2
import Derived.Test.YtpdajkbfemcdlaaFacts
import Derived.JoinedCond
set_option linter.unusedVariables false
set_option linter.unusedSimpArgs false
namespace Go.Proofs.Ytpdajkbfemcdlaa.topFalls
open Go.Ge
theorem own : ownKnob Try.prog.godebug = none := facts.own
theorem laidOut : laidOutB Try.prog = true := facts.laidOut
theorem tys : argTys Try.prog Try.f26.params.toList = some [(false, [.slice 8 false [.int .i64]]), (false, [.slice 8 false [.int .i64]])] := by kernel_rfl
theorem contract : ∀ xs : List AVal, HasA [(false, [.slice 8 false [.int .i64]]), (false, [.slice 8 false [.int .i64]])] xs → ACalls Try.prog 26 xs [] (fun r _ => r = .bool true) := by
  intro xs h
  obtain ⟨c1, _, rfl, h1, h⟩ := hasA1 h
  obtain ⟨c2, _, rfl, h2, h⟩ := hasA1 h
  obtain rfl := hasA0 h
  obtain ⟨o, l, e1, ho, hl, hll⟩ := arg_ints h1
  obtain ⟨ow, w, e2, how, hw, hwl⟩ := arg_ints h2
  rw [e1, e2]
  unfold reachBytes at hll hwl
  exact ACalls.mono (TopFalls_ok o ow l w ho.1 hl (by omega) how.1 hw (by omega) []) fun r h' hh => hh.1
theorem lifted (os : Os) (started : os.Started) (H : Type) (enc : TypeId × Value → H) :
    ReturnsInHanded {} Try.checked os 26 .any (Rows.topFallsSpec.pre6 enc Try.prog Try.f26 Rows.topFallsRow.domain false) (Rows.topFallsSpec.post enc Try.prog Try.f26 false true false false) :=
  law_lifted (C := Try.checked) own started (by kernel_rfl) Try.func26 rfl
    (fun ds h => by
      have h : ds.length = 2 := h
      match ds, h with
      | [d0, d1], _ => rfl) rfl Try.underlying4 laidOut (by kernel_rfl) tys
    (ChangeSpec.witness6 (enc := enc) (C := Try.checked) false ⟨#[], #[.slice none 0 0, .slice none 0 0], []⟩ 8 (by kernel_rfl) (by kernel_rfl) (by kernel_rfl) (by kernel_rfl)) contract
theorem inPlace : Rows.topFallsRow.inPlace = Try.prog.inPlace 26 := by kernel_rfl
theorem unfollowed : Rows.topFallsRow.unfollowed = Try.prog.unfollowed 26 := by kernel_rfl
theorem recurses : Rows.topFallsRow.recurses = Try.prog.recurses 26 := by kernel_rfl
theorem named : Rows.topFallsRow.named = Try.prog.varsNamed 26 := by kernel_rfl
theorem closed : joinedFacts Try.prog 26 Try.f26 Rows.topFallsSpec Rows.topFallsRow = true :=
  facts.joined inPlace unfollowed recurses named rfl rfl rfl (by kernel_rfl) (by kernel_rfl) (by kernel_rfl)
theorem instanceOf : Try.f26.isInstance Try.prog Rows.topFallsRow.origin Rows.topFallsRow.targs := of_decide_eq_true (by kernel_rfl)
theorem outside : (Check.packageOf Try.f26.name == "main") = false := by kernel_rfl
theorem funcNamed : Try.prog.funcNamed Rows.topFallsRow.func = some 26 := by kernel_rfl
theorem over : Rows.topFallsRow.holds Try.pinned (OpenSpec.ofChange Rows.topFallsSpec) :=
  OpenClaim.holds_of_wide 26 Try.f26 rfl rfl rfl rfl rfl rfl rfl ⟨rfl, rfl, rfl, rfl, rfl⟩ rfl rfl rfl rfl rfl funcNamed Try.func26 closed instanceOf (by unfold Func.isWrapper; rw [if_neg (ne_of_beq_false outside)]; exact ⟨rfl, rfl⟩)
    (fun os started H enc _ => lifted os started H enc)
theorem proved : Rows.TopFallsSaid := over
#print axioms proved
end Go.Proofs.Ytpdajkbfemcdlaa.topFalls
namespace Go.Proofs.Ytpdajkbfemcdlaa
/-- The row, under a short name, for the claim. -/
theorem topFalls_holds : Rows.TopFallsSaid := topFalls.proved
end Go.Proofs.Ytpdajkbfemcdlaa
