/- For all numbers and lists, in an order of the graph that is made of them each node comes behind those for which it waits, and there is one unless there is a ring: for every input the call returns true and each argument reads as before; condition: none. -/
import Derived.Test.YtpdajkbfemcdlaaRows
import Derived.Test.YtpdajkbfemcdlaaGeD
import Derived.Test.YtpdajkbfemcdlaaZB1
import Derived.Test.YtpdajkbfemcdlaaFacts
import Derived.JoinedCond
set_option linter.unusedVariables false
set_option linter.unusedSimpArgs false
namespace Go.Proofs.Ytpdajkbfemcdlaa.ringOrder
open Go.Ge
theorem own : ownKnob Try.prog.godebug = none := facts.own
theorem laidOut : laidOutB Try.prog = true := facts.laidOut
theorem tys : argTys Try.prog Try.f24.params.toList = some [(false, [.int .i64]), (false, [.slice 8 false [.int .i64]])] := by kernel_rfl
theorem contract : ∀ xs : List AVal, HasA [(false, [.int .i64]), (false, [.slice 8 false [.int .i64]])] xs → ACalls Try.prog 24 xs [] (fun r _ => r = .bool true) := by
  intro xs h
  obtain ⟨c1, _, rfl, h1, h⟩ := hasA1 h
  obtain ⟨c2, _, rfl, h2, h⟩ := hasA1 h
  obtain rfl := hasA0 h
  obtain ⟨n, e1, hn⟩ := arg_i64 h1
  obtain ⟨o, l, e2, ho, hl, hll⟩ := arg_ints h2
  rw [e1, e2]
  unfold reachBytes at hll
  exact RingOrder_law n o l hn ho.1 hl (by omega)
theorem lifted (os : Os) (started : os.Started) (H : Type) (enc : TypeId × Value → H) :
    ReturnsInHanded {} Try.checked os 24 .any (Rows.ringOrderSpec.pre6 enc Try.prog Try.f24 Rows.ringOrderRow.domain false) (Rows.ringOrderSpec.post enc Try.prog Try.f24 false true false false) :=
  law_lifted (C := Try.checked) own started (by kernel_rfl) Try.func24 rfl
    (fun ds h => by
      have h : ds.length = 2 := h
      match ds, h with
      | [d0, d1], _ => rfl) rfl Try.underlying4 laidOut (by kernel_rfl) tys
    (ChangeSpec.witness6 (enc := enc) (C := Try.checked) false ⟨#[], #[.int .i64 0, .slice none 0 0], []⟩ 8 (by kernel_rfl) (by kernel_rfl) (by kernel_rfl) (by kernel_rfl)) contract
theorem inPlace : Rows.ringOrderRow.inPlace = Try.prog.inPlace 24 := by kernel_rfl
theorem unfollowed : Rows.ringOrderRow.unfollowed = Try.prog.unfollowed 24 := by kernel_rfl
theorem recurses : Rows.ringOrderRow.recurses = Try.prog.recurses 24 := by kernel_rfl
theorem named : Rows.ringOrderRow.named = Try.prog.varsNamed 24 := by kernel_rfl
theorem closed : joinedFacts Try.prog 24 Try.f24 Rows.ringOrderSpec Rows.ringOrderRow = true :=
  facts.joined inPlace unfollowed recurses named rfl rfl rfl (by kernel_rfl) (by kernel_rfl) (by kernel_rfl)
theorem instanceOf : Try.f24.isInstance Try.prog Rows.ringOrderRow.origin Rows.ringOrderRow.targs := of_decide_eq_true (by kernel_rfl)
theorem outside : (Check.packageOf Try.f24.name == "main") = false := by kernel_rfl
theorem funcNamed : Try.prog.funcNamed Rows.ringOrderRow.func = some 24 := by kernel_rfl
theorem over : Rows.ringOrderRow.holds Try.pinned (OpenSpec.ofChange Rows.ringOrderSpec) :=
  OpenClaim.holds_of_wide 24 Try.f24 rfl rfl rfl rfl rfl rfl rfl ⟨rfl, rfl, rfl, rfl, rfl⟩ rfl rfl rfl rfl rfl funcNamed Try.func24 closed instanceOf (by unfold Func.isWrapper; rw [if_neg (ne_of_beq_false outside)]; exact ⟨rfl, rfl⟩)
    (fun os started H enc _ => lifted os started H enc)
theorem proved : Rows.RingOrderSaid := over
#print axioms proved
end Go.Proofs.Ytpdajkbfemcdlaa.ringOrder
namespace Go.Proofs.Ytpdajkbfemcdlaa
/-- The row, under a short name, for the claim. -/
theorem ringOrder_holds : Rows.RingOrderSaid := ringOrder.proved
end Go.Proofs.Ytpdajkbfemcdlaa
