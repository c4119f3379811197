/- LinkAll: when the faults end, everything is received, and nothing waits. -/
import Derived.Test.YtpdajkbfemcdlaaRows
import Derived.Test.YtpdajkbfemcdlaaGeD
import Derived.Test.YtpdajkbfemcdlaaZB2
import Derived.Test.YtpdajkbfemcdlaaFacts
import Derived.JoinedCond
set_option linter.unusedVariables false
set_option linter.unusedSimpArgs false
namespace Go.Proofs.Ytpdajkbfemcdlaa.linkAll
open Go.Ge
theorem own : ownKnob Try.prog.godebug = none := facts.own
theorem laidOut : laidOutB Try.prog = true := facts.laidOut
theorem tys : argTys Try.prog Try.f20.params.toList = some [(false, [.slice 24 true [.int .i64, .int .i64, .int .i64]]), (false, [.slice 8 false [.int .i64]])] := by kernel_rfl
theorem contract : ∀ xs : List AVal, HasA [(false, [.slice 24 true tyFault]), (false, [.slice 8 false [.int .i64]])] xs → ACalls Try.prog 20 xs [] (fun r _ => r = .bool true) := by
  intro xs h
  obtain ⟨c1, _, rfl, h1, h⟩ := hasA1 h
  obtain ⟨c2, _, rfl, h2, h⟩ := hasA1 h
  obtain rfl := hasA0 h
  obtain ⟨o, D, e1, ho, hw, hd⟩ := arg_faults h1
  obtain ⟨q, l, e2, hq, hl, hll⟩ := arg_ints h2
  rw [e1, e2]
  unfold reachBytes at hd hll
  exact LinkAll_law o q D l ho (by omega) hw hq.1 hl (by omega)
theorem lifted (os : Os) (started : os.Started) (H : Type) (enc : TypeId × Value → H) :
    ReturnsInHanded {} Try.checked os 20 .any (Rows.linkAllSpec.pre6 enc Try.prog Try.f20 Rows.linkAllRow.domain false) (Rows.linkAllSpec.post enc Try.prog Try.f20 false true false false) :=
  law_lifted (C := Try.checked) own started (by kernel_rfl) Try.func20 rfl
    (fun ds h => by
      have h : ds.length = 2 := h
      match ds, h with
      | [d0, d1], _ => rfl) rfl Try.underlying4 laidOut (by kernel_rfl) tys
    (ChangeSpec.witness6 (enc := enc) (C := Try.checked) false ⟨#[], #[.slice none 0 0, .slice none 0 0], []⟩ 8 (by kernel_rfl) (by kernel_rfl) (by kernel_rfl) (by kernel_rfl)) contract
theorem inPlace : Rows.linkAllRow.inPlace = Try.prog.inPlace 20 := by kernel_rfl
theorem unfollowed : Rows.linkAllRow.unfollowed = Try.prog.unfollowed 20 := by kernel_rfl
theorem recurses : Rows.linkAllRow.recurses = Try.prog.recurses 20 := by kernel_rfl
theorem named : Rows.linkAllRow.named = Try.prog.varsNamed 20 := by kernel_rfl
theorem closed : joinedFacts Try.prog 20 Try.f20 Rows.linkAllSpec Rows.linkAllRow = true :=
  facts.joined inPlace unfollowed recurses named rfl rfl rfl (by kernel_rfl) (by kernel_rfl) (by kernel_rfl)
theorem instanceOf : Try.f20.isInstance Try.prog Rows.linkAllRow.origin Rows.linkAllRow.targs := of_decide_eq_true (by kernel_rfl)
theorem outside : (Check.packageOf Try.f20.name == "main") = false := by kernel_rfl
theorem funcNamed : Try.prog.funcNamed Rows.linkAllRow.func = some 20 := by kernel_rfl
theorem over : Rows.linkAllRow.holds Try.pinned (OpenSpec.ofChange Rows.linkAllSpec) :=
  OpenClaim.holds_of_wide 20 Try.f20 rfl rfl rfl rfl rfl rfl rfl ⟨rfl, rfl, rfl, rfl, rfl⟩ rfl rfl rfl rfl rfl funcNamed Try.func20 closed instanceOf (by unfold Func.isWrapper; rw [if_neg (ne_of_beq_false outside)]; exact ⟨rfl, rfl⟩)
    (fun os started H enc _ => lifted os started H enc)
theorem proved : Rows.LinkAllSaid := over
#print axioms proved
end Go.Proofs.Ytpdajkbfemcdlaa.linkAll
namespace Go.Proofs.Ytpdajkbfemcdlaa
theorem linkAll_holds : Rows.LinkAllSaid := linkAll.proved
end Go.Proofs.Ytpdajkbfemcdlaa
