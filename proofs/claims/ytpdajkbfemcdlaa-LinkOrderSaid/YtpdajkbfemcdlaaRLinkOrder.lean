/- LinkOrder: whatever the net does, what is received is a beginning of what was put, in order, each once. -/
import Derived.Test.YtpdajkbfemcdlaaRows
import Derived.Test.YtpdajkbfemcdlaaGeD
import Derived.Test.YtpdajkbfemcdlaaZB2
import Derived.Test.YtpdajkbfemcdlaaFacts
import Derived.JoinedCond
set_option linter.unusedVariables false
set_option linter.unusedSimpArgs false
namespace Go.Proofs.Ytpdajkbfemcdlaa.linkOrder
open Go.Ge
theorem own : ownKnob Try.prog.godebug = none := facts.own
theorem laidOut : laidOutB Try.prog = true := facts.laidOut
theorem tys : argTys Try.prog Try.f21.params.toList = some [(false, [.slice 24 true [.int .i64, .int .i64, .int .i64]]), (false, [.slice 8 false [.int .i64]])] := by kernel_rfl
theorem contract : ∀ xs : List AVal, HasA [(false, [.slice 24 true tyFault]), (false, [.slice 8 false [.int .i64]])] xs → ACalls Try.prog 21 xs [] (fun r _ => r = .bool true) := by
  intro xs h
  obtain ⟨c1, _, rfl, h1, h⟩ := hasA1 h
  obtain ⟨c2, _, rfl, h2, h⟩ := hasA1 h
  obtain rfl := hasA0 h
  obtain ⟨o, D, e1, ho, _, hd⟩ := arg_faults h1
  obtain ⟨q, l, e2, hq, hl, hll⟩ := arg_ints h2
  rw [e1, e2]
  unfold reachBytes at hd hll
  exact LinkOrder_law o q D l ho (by omega) hq.1 hl (by omega)
theorem lifted (os : Os) (started : os.Started) (H : Type) (enc : TypeId × Value → H) :
    ReturnsInHanded {} Try.checked os 21 .any (Rows.linkOrderSpec.pre6 enc Try.prog Try.f21 Rows.linkOrderRow.domain false) (Rows.linkOrderSpec.post enc Try.prog Try.f21 false true false false) :=
  law_lifted (C := Try.checked) own started (by kernel_rfl) Try.func21 rfl
    (fun ds h => by
      have h : ds.length = 2 := h
      match ds, h with
      | [d0, d1], _ => rfl) rfl Try.underlying4 laidOut (by kernel_rfl) tys
    (ChangeSpec.witness6 (enc := enc) (C := Try.checked) false ⟨#[], #[.slice none 0 0, .slice none 0 0], []⟩ 8 (by kernel_rfl) (by kernel_rfl) (by kernel_rfl) (by kernel_rfl)) contract
theorem inPlace : Rows.linkOrderRow.inPlace = Try.prog.inPlace 21 := by kernel_rfl
theorem unfollowed : Rows.linkOrderRow.unfollowed = Try.prog.unfollowed 21 := by kernel_rfl
theorem recurses : Rows.linkOrderRow.recurses = Try.prog.recurses 21 := by kernel_rfl
theorem named : Rows.linkOrderRow.named = Try.prog.varsNamed 21 := by kernel_rfl
theorem closed : joinedFacts Try.prog 21 Try.f21 Rows.linkOrderSpec Rows.linkOrderRow = true :=
  facts.joined inPlace unfollowed recurses named rfl rfl rfl (by kernel_rfl) (by kernel_rfl) (by kernel_rfl)
theorem instanceOf : Try.f21.isInstance Try.prog Rows.linkOrderRow.origin Rows.linkOrderRow.targs := of_decide_eq_true (by kernel_rfl)
theorem outside : (Check.packageOf Try.f21.name == "main") = false := by kernel_rfl
theorem funcNamed : Try.prog.funcNamed Rows.linkOrderRow.func = some 21 := by kernel_rfl
theorem over : Rows.linkOrderRow.holds Try.pinned (OpenSpec.ofChange Rows.linkOrderSpec) :=
  OpenClaim.holds_of_wide 21 Try.f21 rfl rfl rfl rfl rfl rfl rfl ⟨rfl, rfl, rfl, rfl, rfl⟩ rfl rfl rfl rfl rfl funcNamed Try.func21 closed instanceOf (by unfold Func.isWrapper; rw [if_neg (ne_of_beq_false outside)]; exact ⟨rfl, rfl⟩)
    (fun os started H enc _ => lifted os started H enc)
theorem proved : Rows.LinkOrderSaid := over
#print axioms proved
end Go.Proofs.Ytpdajkbfemcdlaa.linkOrder
namespace Go.Proofs.Ytpdajkbfemcdlaa
theorem linkOrder_holds : Rows.LinkOrderSaid := linkOrder.proved
end Go.Proofs.Ytpdajkbfemcdlaa
