/- what a controller knows that comes back with its log is what it knew, for all lists of numbers -/
import Derived.Test.YtpdajkbfemcdlaaRows
import Derived.Test.YtpdajkbfemcdlaaGeD
import Derived.Test.YtpdajkbfemcdlaaZB2
import Derived.Test.YtpdajkbfemcdlaaFacts
import Derived.JoinedCond
set_option linter.unusedVariables false
set_option linter.unusedSimpArgs false
namespace Go.Proofs.Ytpdajkbfemcdlaa.fallSame
open Go.Ge
theorem own : ownKnob Try.prog.godebug = none := facts.own
theorem laidOut : laidOutB Try.prog = true := facts.laidOut
theorem tys : argTys Try.prog Try.f31.params.toList = some [(false, [.slice 8 false [.int .i64]])] := by kernel_rfl
theorem contract : ∀ xs : List AVal, HasA [(false, [.slice 8 false [.int .i64]])] xs → ACalls Try.prog 31 xs [] (fun r _ => r = .bool true) := by
  intro xs h
  obtain ⟨c1, _, rfl, h1, h⟩ := hasA1 h
  obtain rfl := hasA0 h
  obtain ⟨o, l, e1, ho, hl, hll⟩ := arg_ints h1
  rw [e1]
  unfold reachBytes at hll
  exact ACalls.mono (FallSame_ok o l ho.1 hl (by omega) []) fun r h' hh => hh.1
theorem lifted (os : Os) (started : os.Started) (H : Type) (enc : TypeId × Value → H) :
    ReturnsInHanded {} Try.checked os 31 .any (Rows.fallSameSpec.pre6 enc Try.prog Try.f31 Rows.fallSameRow.domain false) (Rows.fallSameSpec.post enc Try.prog Try.f31 false true false false) :=
  law_lifted (C := Try.checked) own started (by kernel_rfl) Try.func31 rfl
    (fun ds h => by
      have h : ds.length = 1 := h
      match ds, h with
      | [d0], _ => rfl) rfl Try.underlying4 laidOut (by kernel_rfl) tys
    (ChangeSpec.witness6 (enc := enc) (C := Try.checked) false ⟨#[], #[.slice none 0 0], []⟩ 8 (by kernel_rfl) (by kernel_rfl) (by kernel_rfl) (by kernel_rfl)) contract
theorem inPlace : Rows.fallSameRow.inPlace = Try.prog.inPlace 31 := by kernel_rfl
theorem unfollowed : Rows.fallSameRow.unfollowed = Try.prog.unfollowed 31 := by kernel_rfl
theorem recurses : Rows.fallSameRow.recurses = Try.prog.recurses 31 := by kernel_rfl
theorem named : Rows.fallSameRow.named = Try.prog.varsNamed 31 := by kernel_rfl
theorem closed : joinedFacts Try.prog 31 Try.f31 Rows.fallSameSpec Rows.fallSameRow = true :=
  facts.joined inPlace unfollowed recurses named rfl rfl rfl (by kernel_rfl) (by kernel_rfl) (by kernel_rfl)
theorem instanceOf : Try.f31.isInstance Try.prog Rows.fallSameRow.origin Rows.fallSameRow.targs := of_decide_eq_true (by kernel_rfl)
theorem outside : (Check.packageOf Try.f31.name == "main") = false := by kernel_rfl
theorem funcNamed : Try.prog.funcNamed Rows.fallSameRow.func = some 31 := by kernel_rfl
theorem over : Rows.fallSameRow.holds Try.pinned (OpenSpec.ofChange Rows.fallSameSpec) :=
  OpenClaim.holds_of_wide 31 Try.f31 rfl rfl rfl rfl rfl rfl rfl ⟨rfl, rfl, rfl, rfl, rfl⟩ rfl rfl rfl rfl rfl funcNamed Try.func31 closed instanceOf (by unfold Func.isWrapper; rw [if_neg (ne_of_beq_false outside)]; exact ⟨rfl, rfl⟩)
    (fun os started H enc _ => lifted os started H enc)
theorem proved : Rows.FallSameSaid := over
#print axioms proved
end Go.Proofs.Ytpdajkbfemcdlaa.fallSame
namespace Go.Proofs.Ytpdajkbfemcdlaa
/-- The row, under a short name, for the claim. -/
theorem fallSame_holds : Rows.FallSameSaid := fallSame.proved
end Go.Proofs.Ytpdajkbfemcdlaa
