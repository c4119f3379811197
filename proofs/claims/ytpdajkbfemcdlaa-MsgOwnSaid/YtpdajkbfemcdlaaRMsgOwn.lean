/- MsgOwn: a copy shares nothing -/
import Derived.Test.YtpdajkbfemcdlaaRows
import Derived.Test.YtpdajkbfemcdlaaGeD
import Derived.Test.YtpdajkbfemcdlaaZB1
import Derived.Test.YtpdajkbfemcdlaaFacts
import Derived.JoinedCond
set_option linter.unusedVariables false
set_option linter.unusedSimpArgs false
namespace Go.Proofs.Ytpdajkbfemcdlaa.msgOwn
open Go.Ge
theorem own : ownKnob Try.prog.godebug = none := facts.own
theorem laidOut : laidOutB Try.prog = true := facts.laidOut
theorem tys : argTys Try.prog Try.f11.params.toList = some [(false, [.slice 8 false [.int .i64]])] := by kernel_rfl
theorem contract : ∀ xs : List AVal, HasA [(false, [.slice 8 false [.int .i64]])] xs → ACalls Try.prog 11 xs [] (fun r _ => r = .bool true) := by
  intro xs h
  obtain ⟨c1, _, rfl, h1, h⟩ := hasA1 h
  obtain rfl := hasA0 h
  obtain ⟨o, l, e1, ho, hl, _⟩ := arg_ints h1
  rw [e1]
  exact MsgOwn_law o l ho.1 hl
theorem lifted (os : Os) (started : os.Started) (H : Type) (enc : TypeId × Value → H) :
    ReturnsInHanded {} Try.checked os 11 .any (Rows.msgOwnSpec.pre6 enc Try.prog Try.f11 Rows.msgOwnRow.domain false) (Rows.msgOwnSpec.post enc Try.prog Try.f11 false true false false) :=
  law_lifted (C := Try.checked) own started (by kernel_rfl) Try.func11 rfl
    (fun ds h => by
      have h : ds.length = 1 := h
      match ds, h with
      | [d0], _ => rfl) rfl Try.underlying4 laidOut (by kernel_rfl) tys
    (ChangeSpec.witness6 (enc := enc) (C := Try.checked) false ⟨#[], #[.slice none 0 0], []⟩ 8 (by kernel_rfl) (by kernel_rfl) (by kernel_rfl) (by kernel_rfl)) contract
theorem inPlace : Rows.msgOwnRow.inPlace = Try.prog.inPlace 11 := by kernel_rfl
theorem unfollowed : Rows.msgOwnRow.unfollowed = Try.prog.unfollowed 11 := by kernel_rfl
theorem recurses : Rows.msgOwnRow.recurses = Try.prog.recurses 11 := by kernel_rfl
theorem named : Rows.msgOwnRow.named = Try.prog.varsNamed 11 := by kernel_rfl
theorem closed : joinedFacts Try.prog 11 Try.f11 Rows.msgOwnSpec Rows.msgOwnRow = true :=
  facts.joined inPlace unfollowed recurses named rfl rfl rfl (by kernel_rfl) (by kernel_rfl) (by kernel_rfl)
theorem instanceOf : Try.f11.isInstance Try.prog Rows.msgOwnRow.origin Rows.msgOwnRow.targs := of_decide_eq_true (by kernel_rfl)
theorem outside : (Check.packageOf Try.f11.name == "main") = false := by kernel_rfl
theorem funcNamed : Try.prog.funcNamed Rows.msgOwnRow.func = some 11 := by kernel_rfl
theorem over : Rows.msgOwnRow.holds Try.pinned (OpenSpec.ofChange Rows.msgOwnSpec) :=
  OpenClaim.holds_of_wide 11 Try.f11 rfl rfl rfl rfl rfl rfl rfl ⟨rfl, rfl, rfl, rfl, rfl⟩ rfl rfl rfl rfl rfl funcNamed Try.func11 closed instanceOf (by unfold Func.isWrapper; rw [if_neg (ne_of_beq_false outside)]; exact ⟨rfl, rfl⟩)
    (fun os started H enc _ => lifted os started H enc)
theorem proved : Rows.MsgOwnSaid := over
#print axioms proved
end Go.Proofs.Ytpdajkbfemcdlaa.msgOwn
namespace Go.Proofs.Ytpdajkbfemcdlaa
/-- The row, under a short name, for the claim. -/
theorem msgOwn_holds : Rows.MsgOwnSaid := msgOwn.proved
end Go.Proofs.Ytpdajkbfemcdlaa
