/- For all numbers, what would close a ring of arms that wait for cells is refused and changes nothing, and an arm gets what it waits for as soon as it is given back: for every input the call returns true and each argument reads as before; condition: none. -/
import Derived.Test.YtpdajkbfemcdlaaRows
import Derived.Test.YtpdajkbfemcdlaaGeD
import Derived.Test.YtpdajkbfemcdlaaZB2
import Derived.Test.YtpdajkbfemcdlaaFacts
import Derived.JoinedCond
set_option linter.unusedVariables false
set_option linter.unusedSimpArgs false
namespace Go.Proofs.Ytpdajkbfemcdlaa.leaseLoop
open Go.Ge
theorem own : ownKnob Try.prog.godebug = none := facts.own
theorem laidOut : laidOutB Try.prog = true := facts.laidOut
theorem tys : argTys Try.prog Try.f35.params.toList = some [(false, [.int .i64]), (false, [.int .i64])] := by kernel_rfl
theorem contract : ∀ xs : List AVal, HasA [(false, [.int .i64]), (false, [.int .i64])] xs → ACalls Try.prog 35 xs [] (fun r _ => r = .bool true) := by
  intro xs h
  obtain ⟨c1, _, rfl, h1, h⟩ := hasA1 h
  obtain ⟨c2, _, rfl, h2, h⟩ := hasA1 h
  obtain rfl := hasA0 h
  obtain ⟨x, e1, hx⟩ := arg_i64 h1
  obtain ⟨y, e2, hy⟩ := arg_i64 h2
  rw [e1, e2]
  exact LeaseLoop_law x y hx hy
theorem lifted (os : Os) (started : os.Started) (H : Type) (enc : TypeId × Value → H) :
    ReturnsInHanded {} Try.checked os 35 .any (Rows.leaseLoopSpec.pre6 enc Try.prog Try.f35 Rows.leaseLoopRow.domain false) (Rows.leaseLoopSpec.post enc Try.prog Try.f35 false true false false) :=
  law_lifted (C := Try.checked) own started (by kernel_rfl) Try.func35 rfl
    (fun ds h => by
      have h : ds.length = 2 := h
      match ds, h with
      | [d0, d1], _ => rfl) rfl Try.underlying4 laidOut (by kernel_rfl) tys
    (ChangeSpec.witness6 (enc := enc) (C := Try.checked) false ⟨#[], #[.int .i64 0, .int .i64 0], []⟩ 8 (by kernel_rfl) (by kernel_rfl) (by kernel_rfl) (by kernel_rfl)) contract
theorem inPlace : Rows.leaseLoopRow.inPlace = Try.prog.inPlace 35 := by kernel_rfl
theorem unfollowed : Rows.leaseLoopRow.unfollowed = Try.prog.unfollowed 35 := by kernel_rfl
theorem recurses : Rows.leaseLoopRow.recurses = Try.prog.recurses 35 := by kernel_rfl
theorem named : Rows.leaseLoopRow.named = Try.prog.varsNamed 35 := by kernel_rfl
theorem closed : joinedFacts Try.prog 35 Try.f35 Rows.leaseLoopSpec Rows.leaseLoopRow = true :=
  facts.joined inPlace unfollowed recurses named rfl rfl rfl (by kernel_rfl) (by kernel_rfl) (by kernel_rfl)
theorem instanceOf : Try.f35.isInstance Try.prog Rows.leaseLoopRow.origin Rows.leaseLoopRow.targs := of_decide_eq_true (by kernel_rfl)
theorem outside : (Check.packageOf Try.f35.name == "main") = false := by kernel_rfl
theorem funcNamed : Try.prog.funcNamed Rows.leaseLoopRow.func = some 35 := by kernel_rfl
theorem over : Rows.leaseLoopRow.holds Try.pinned (OpenSpec.ofChange Rows.leaseLoopSpec) :=
  OpenClaim.holds_of_wide 35 Try.f35 rfl rfl rfl rfl rfl rfl rfl ⟨rfl, rfl, rfl, rfl, rfl⟩ rfl rfl rfl rfl rfl funcNamed Try.func35 closed instanceOf (by unfold Func.isWrapper; rw [if_neg (ne_of_beq_false outside)]; exact ⟨rfl, rfl⟩)
    (fun os started H enc _ => lifted os started H enc)
theorem proved : Rows.LeaseLoopSaid := over
#print axioms proved
end Go.Proofs.Ytpdajkbfemcdlaa.leaseLoop
namespace Go.Proofs.Ytpdajkbfemcdlaa
theorem leaseLoop_holds : Rows.LeaseLoopSaid := leaseLoop.proved
end Go.Proofs.Ytpdajkbfemcdlaa
