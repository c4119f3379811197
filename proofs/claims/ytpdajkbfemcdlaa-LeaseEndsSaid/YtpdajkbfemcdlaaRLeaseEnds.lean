/- For all numbers of arms and all lists of deeds, when all arms that need not wait give everything back, again and again, nobody waits any more and nobody has cells: for every input the call returns true and each argument reads as before; condition: none. -/
import Derived.Test.YtpdajkbfemcdlaaRows
import Derived.Test.YtpdajkbfemcdlaaGeD
import Derived.Test.YtpdajkbfemcdlaaZB3
import Derived.Test.YtpdajkbfemcdlaaFacts
import Derived.JoinedCond
set_option linter.unusedVariables false
set_option linter.unusedSimpArgs false
namespace Go.Proofs.Ytpdajkbfemcdlaa.leaseEnds
open Go.Ge
theorem own : ownKnob Try.prog.godebug = none := facts.own
theorem laidOut : laidOutB Try.prog = true := facts.laidOut
theorem tys : argTys Try.prog Try.f34.params.toList = some [(false, [.int .i64]), (false, [.slice 8 false [.int .i64]])] := by kernel_rfl
theorem contract : ∀ xs : List AVal, HasA [(false, [.int .i64]), (false, [.slice 8 false [.int .i64]])] xs → ACalls Try.prog 34 xs [] (fun r _ => r = .bool true) := by
  intro xs h
  obtain ⟨c1, _, rfl, h1, h⟩ := hasA1 h
  obtain ⟨c2, _, rfl, h2, h⟩ := hasA1 h
  obtain rfl := hasA0 h
  obtain ⟨n, e1, hn⟩ := arg_i64 h1
  obtain ⟨o, l, e2, ho, hl, hll⟩ := arg_ints h2
  rw [e1, e2]
  unfold reachBytes at hll
  exact LeaseEnds_law n o l hn ho.1 hl (by omega)
theorem lifted (os : Os) (started : os.Started) (H : Type) (enc : TypeId × Value → H) :
    ReturnsInHanded {} Try.checked os 34 .any (Rows.leaseEndsSpec.pre6 enc Try.prog Try.f34 Rows.leaseEndsRow.domain false) (Rows.leaseEndsSpec.post enc Try.prog Try.f34 false true false false) :=
  law_lifted (C := Try.checked) own started (by kernel_rfl) Try.func34 rfl
    (fun ds h => by
      have h : ds.length = 2 := h
      match ds, h with
      | [d0, d1], _ => rfl) rfl Try.underlying4 laidOut (by kernel_rfl) tys
    (ChangeSpec.witness6 (enc := enc) (C := Try.checked) false ⟨#[], #[.int .i64 0, .slice none 0 0], []⟩ 8 (by kernel_rfl) (by kernel_rfl) (by kernel_rfl) (by kernel_rfl)) contract
theorem inPlace : Rows.leaseEndsRow.inPlace = Try.prog.inPlace 34 := by kernel_rfl
theorem unfollowed : Rows.leaseEndsRow.unfollowed = Try.prog.unfollowed 34 := by kernel_rfl
theorem recurses : Rows.leaseEndsRow.recurses = Try.prog.recurses 34 := by kernel_rfl
theorem named : Rows.leaseEndsRow.named = Try.prog.varsNamed 34 := by kernel_rfl
theorem closed : joinedFacts Try.prog 34 Try.f34 Rows.leaseEndsSpec Rows.leaseEndsRow = true :=
  facts.joined inPlace unfollowed recurses named rfl rfl rfl (by kernel_rfl) (by kernel_rfl) (by kernel_rfl)
theorem instanceOf : Try.f34.isInstance Try.prog Rows.leaseEndsRow.origin Rows.leaseEndsRow.targs := of_decide_eq_true (by kernel_rfl)
theorem outside : (Check.packageOf Try.f34.name == "main") = false := by kernel_rfl
theorem funcNamed : Try.prog.funcNamed Rows.leaseEndsRow.func = some 34 := by kernel_rfl
theorem over : Rows.leaseEndsRow.holds Try.pinned (OpenSpec.ofChange Rows.leaseEndsSpec) :=
  OpenClaim.holds_of_wide 34 Try.f34 rfl rfl rfl rfl rfl rfl rfl ⟨rfl, rfl, rfl, rfl, rfl⟩ rfl rfl rfl rfl rfl funcNamed Try.func34 closed instanceOf (by unfold Func.isWrapper; rw [if_neg (ne_of_beq_false outside)]; exact ⟨rfl, rfl⟩)
    (fun os started H enc _ => lifted os started H enc)
theorem proved : Rows.LeaseEndsSaid := over
#print axioms proved
end Go.Proofs.Ytpdajkbfemcdlaa.leaseEnds
namespace Go.Proofs.Ytpdajkbfemcdlaa
theorem leaseEnds_holds : Rows.LeaseEndsSaid := leaseEnds.proved
end Go.Proofs.Ytpdajkbfemcdlaa
