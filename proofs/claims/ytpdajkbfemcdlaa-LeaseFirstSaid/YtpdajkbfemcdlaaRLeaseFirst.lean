/- For all lists and numbers, of two arms that wait for the same cell the first one gets it first, and the second one as soon as it is given back: for every input the call returns true and each argument reads as before; condition: none. -/
import Derived.Test.YtpdajkbfemcdlaaRows
import Derived.Test.YtpdajkbfemcdlaaGeD
import Derived.Test.YtpdajkbfemcdlaaZB3
import Derived.Test.YtpdajkbfemcdlaaFacts
import Derived.JoinedCond
set_option linter.unusedVariables false
set_option linter.unusedSimpArgs false
namespace Go.Proofs.Ytpdajkbfemcdlaa.leaseFirst
open Go.Ge
theorem own : ownKnob Try.prog.godebug = none := facts.own
theorem laidOut : laidOutB Try.prog = true := facts.laidOut
theorem tys : argTys Try.prog Try.f33.params.toList = some [(false, [.slice 8 false [.int .i64]]), (false, [.int .i64])] := by kernel_rfl
theorem contract : ∀ xs : List AVal, HasA [(false, [.slice 8 false [.int .i64]]), (false, [.int .i64])] xs → ACalls Try.prog 33 xs [] (fun r _ => r = .bool true) := by
  intro xs h
  obtain ⟨c1, _, rfl, h1, h⟩ := hasA1 h
  obtain ⟨c2, _, rfl, h2, h⟩ := hasA1 h
  obtain rfl := hasA0 h
  obtain ⟨o, l, e1, ho, hl, hll⟩ := arg_ints h1
  obtain ⟨k, e2, hk⟩ := arg_i64 h2
  rw [e1, e2]
  exact LeaseFirst_law o l k ho.1 hl hk
theorem lifted (os : Os) (started : os.Started) (H : Type) (enc : TypeId × Value → H) :
    ReturnsInHanded {} Try.checked os 33 .any (Rows.leaseFirstSpec.pre6 enc Try.prog Try.f33 Rows.leaseFirstRow.domain false) (Rows.leaseFirstSpec.post enc Try.prog Try.f33 false true false false) :=
  law_lifted (C := Try.checked) own started (by kernel_rfl) Try.func33 rfl
    (fun ds h => by
      have h : ds.length = 2 := h
      match ds, h with
      | [d0, d1], _ => rfl) rfl Try.underlying4 laidOut (by kernel_rfl) tys
    (ChangeSpec.witness6 (enc := enc) (C := Try.checked) false ⟨#[], #[.slice none 0 0, .int .i64 0], []⟩ 8 (by kernel_rfl) (by kernel_rfl) (by kernel_rfl) (by kernel_rfl)) contract
theorem inPlace : Rows.leaseFirstRow.inPlace = Try.prog.inPlace 33 := by kernel_rfl
theorem unfollowed : Rows.leaseFirstRow.unfollowed = Try.prog.unfollowed 33 := by kernel_rfl
theorem recurses : Rows.leaseFirstRow.recurses = Try.prog.recurses 33 := by kernel_rfl
theorem named : Rows.leaseFirstRow.named = Try.prog.varsNamed 33 := by kernel_rfl
theorem closed : joinedFacts Try.prog 33 Try.f33 Rows.leaseFirstSpec Rows.leaseFirstRow = true :=
  facts.joined inPlace unfollowed recurses named rfl rfl rfl (by kernel_rfl) (by kernel_rfl) (by kernel_rfl)
theorem instanceOf : Try.f33.isInstance Try.prog Rows.leaseFirstRow.origin Rows.leaseFirstRow.targs := of_decide_eq_true (by kernel_rfl)
theorem outside : (Check.packageOf Try.f33.name == "main") = false := by kernel_rfl
theorem funcNamed : Try.prog.funcNamed Rows.leaseFirstRow.func = some 33 := by kernel_rfl
theorem over : Rows.leaseFirstRow.holds Try.pinned (OpenSpec.ofChange Rows.leaseFirstSpec) :=
  OpenClaim.holds_of_wide 33 Try.f33 rfl rfl rfl rfl rfl rfl rfl ⟨rfl, rfl, rfl, rfl, rfl⟩ rfl rfl rfl rfl rfl funcNamed Try.func33 closed instanceOf (by unfold Func.isWrapper; rw [if_neg (ne_of_beq_false outside)]; exact ⟨rfl, rfl⟩)
    (fun os started H enc _ => lifted os started H enc)
theorem proved : Rows.LeaseFirstSaid := over
#print axioms proved
end Go.Proofs.Ytpdajkbfemcdlaa.leaseFirst
namespace Go.Proofs.Ytpdajkbfemcdlaa
theorem leaseFirst_holds : Rows.LeaseFirstSaid := leaseFirst.proved
end Go.Proofs.Ytpdajkbfemcdlaa
