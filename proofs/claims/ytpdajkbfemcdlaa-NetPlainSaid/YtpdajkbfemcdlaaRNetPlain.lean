/- NetPlain: for every input the call returns true and each argument reads as before; condition: none. -/
import Derived.Test.YtpdajkbfemcdlaaRows
import Derived.Test.YtpdajkbfemcdlaaGeD
import Derived.Test.YtpdajkbfemcdlaaZB1
import Derived.Test.YtpdajkbfemcdlaaFacts
import Derived.JoinedCond
set_option linter.unusedVariables false
set_option linter.unusedSimpArgs false
namespace Go.Proofs.Ytpdajkbfemcdlaa.netPlain
open Go.Ge
theorem own : ownKnob Try.prog.godebug = none := facts.own
theorem laidOut : laidOutB Try.prog = true := facts.laidOut
theorem tys : argTys Try.prog Try.f19.params.toList = some [(false, [.slice 8 false [.int .i64]])] := by kernel_rfl
theorem contract : ∀ xs : List AVal, HasA [(false, [.slice 8 false [.int .i64]])] xs → ACalls Try.prog 19 xs [] (fun r _ => r = .bool true) := by
  intro xs h
  obtain ⟨c2, _, rfl, h2, h⟩ := hasA1 h
  obtain rfl := hasA0 h
  obtain ⟨q, l, e2, hq, hl, hll⟩ := arg_ints h2
  rw [e2]
  unfold reachBytes at hll
  exact NetPlain_law q l hq.1 hl (by omega)
theorem lifted (os : Os) (started : os.Started) (H : Type) (enc : TypeId × Value → H) :
    ReturnsInHanded {} Try.checked os 19 .any (Rows.netPlainSpec.pre6 enc Try.prog Try.f19 Rows.netPlainRow.domain false) (Rows.netPlainSpec.post enc Try.prog Try.f19 false true false false) :=
  law_lifted (C := Try.checked) own started (by kernel_rfl) Try.func19 rfl
    (fun ds h => by
      have h : ds.length = 1 := h
      match ds, h with
      | [d0], _ => rfl) rfl Try.underlying4 laidOut (by kernel_rfl) tys
    (ChangeSpec.witness6 (enc := enc) (C := Try.checked) false ⟨#[], #[.slice none 0 0], []⟩ 8 (by kernel_rfl) (by kernel_rfl) (by kernel_rfl) (by kernel_rfl)) contract
theorem inPlace : Rows.netPlainRow.inPlace = Try.prog.inPlace 19 := by kernel_rfl
theorem unfollowed : Rows.netPlainRow.unfollowed = Try.prog.unfollowed 19 := by kernel_rfl
theorem recurses : Rows.netPlainRow.recurses = Try.prog.recurses 19 := by kernel_rfl
theorem named : Rows.netPlainRow.named = Try.prog.varsNamed 19 := by kernel_rfl
theorem closed : joinedFacts Try.prog 19 Try.f19 Rows.netPlainSpec Rows.netPlainRow = true :=
  facts.joined inPlace unfollowed recurses named rfl rfl rfl (by kernel_rfl) (by kernel_rfl) (by kernel_rfl)
theorem instanceOf : Try.f19.isInstance Try.prog Rows.netPlainRow.origin Rows.netPlainRow.targs := of_decide_eq_true (by kernel_rfl)
theorem outside : (Check.packageOf Try.f19.name == "main") = false := by kernel_rfl
theorem funcNamed : Try.prog.funcNamed Rows.netPlainRow.func = some 19 := by kernel_rfl
theorem over : Rows.netPlainRow.holds Try.pinned (OpenSpec.ofChange Rows.netPlainSpec) :=
  OpenClaim.holds_of_wide 19 Try.f19 rfl rfl rfl rfl rfl rfl rfl ⟨rfl, rfl, rfl, rfl, rfl⟩ rfl rfl rfl rfl rfl funcNamed Try.func19 closed instanceOf (by unfold Func.isWrapper; rw [if_neg (ne_of_beq_false outside)]; exact ⟨rfl, rfl⟩)
    (fun os started H enc _ => lifted os started H enc)
theorem proved : Rows.NetPlainSaid := over
#print axioms proved
end Go.Proofs.Ytpdajkbfemcdlaa.netPlain
namespace Go.Proofs.Ytpdajkbfemcdlaa
theorem netPlain_holds : Rows.NetPlainSaid := netPlain.proved
end Go.Proofs.Ytpdajkbfemcdlaa
