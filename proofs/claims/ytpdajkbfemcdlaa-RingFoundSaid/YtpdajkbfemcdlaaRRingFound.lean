/- For all numbers and lists, a ring that is found in the graph that is made of them is a ring, without a node twice: for every input the call returns true and each argument reads as before; condition: none. -/
import Derived.Test.YtpdajkbfemcdlaaRows
import Derived.Test.YtpdajkbfemcdlaaGeD
import Derived.Test.YtpdajkbfemcdlaaZB1
import Derived.Test.YtpdajkbfemcdlaaFacts
import Derived.JoinedCond
set_option linter.unusedVariables false
set_option linter.unusedSimpArgs false
namespace Go.Proofs.Ytpdajkbfemcdlaa.ringFound
open Go.Ge
theorem own : ownKnob Try.prog.godebug = none := facts.own
theorem laidOut : laidOutB Try.prog = true := facts.laidOut
theorem tys : argTys Try.prog Try.f22.params.toList = some [(false, [.int .i64]), (false, [.slice 8 false [.int .i64]])] := by kernel_rfl
theorem contract : ∀ xs : List AVal, HasA [(false, [.int .i64]), (false, [.slice 8 false [.int .i64]])] xs → ACalls Try.prog 22 xs [] (fun r _ => r = .bool true) := by
  intro xs h
  obtain ⟨c1, _, rfl, h1, h⟩ := hasA1 h
  obtain ⟨c2, _, rfl, h2, h⟩ := hasA1 h
  obtain rfl := hasA0 h
  obtain ⟨n, e1, hn⟩ := arg_i64 h1
  obtain ⟨o, l, e2, ho, hl, hll⟩ := arg_ints h2
  rw [e1, e2]
  unfold reachBytes at hll
  exact RingFound_law n o l hn ho.1 hl (by omega)
theorem lifted (os : Os) (started : os.Started) (H : Type) (enc : TypeId × Value → H) :
    ReturnsInHanded {} Try.checked os 22 .any (Rows.ringFoundSpec.pre6 enc Try.prog Try.f22 Rows.ringFoundRow.domain false) (Rows.ringFoundSpec.post enc Try.prog Try.f22 false true false false) :=
  law_lifted (C := Try.checked) own started (by kernel_rfl) Try.func22 rfl
    (fun ds h => by
      have h : ds.length = 2 := h
      match ds, h with
      | [d0, d1], _ => rfl) rfl Try.underlying4 laidOut (by kernel_rfl) tys
    (ChangeSpec.witness6 (enc := enc) (C := Try.checked) false ⟨#[], #[.int .i64 0, .slice none 0 0], []⟩ 8 (by kernel_rfl) (by kernel_rfl) (by kernel_rfl) (by kernel_rfl)) contract
theorem inPlace : Rows.ringFoundRow.inPlace = Try.prog.inPlace 22 := by kernel_rfl
theorem unfollowed : Rows.ringFoundRow.unfollowed = Try.prog.unfollowed 22 := by kernel_rfl
theorem recurses : Rows.ringFoundRow.recurses = Try.prog.recurses 22 := by kernel_rfl
theorem named : Rows.ringFoundRow.named = Try.prog.varsNamed 22 := by kernel_rfl
theorem closed : joinedFacts Try.prog 22 Try.f22 Rows.ringFoundSpec Rows.ringFoundRow = true :=
  facts.joined inPlace unfollowed recurses named rfl rfl rfl (by kernel_rfl) (by kernel_rfl) (by kernel_rfl)
theorem instanceOf : Try.f22.isInstance Try.prog Rows.ringFoundRow.origin Rows.ringFoundRow.targs := of_decide_eq_true (by kernel_rfl)
theorem outside : (Check.packageOf Try.f22.name == "main") = false := by kernel_rfl
theorem funcNamed : Try.prog.funcNamed Rows.ringFoundRow.func = some 22 := by kernel_rfl
theorem over : Rows.ringFoundRow.holds Try.pinned (OpenSpec.ofChange Rows.ringFoundSpec) :=
  OpenClaim.holds_of_wide 22 Try.f22 rfl rfl rfl rfl rfl rfl rfl ⟨rfl, rfl, rfl, rfl, rfl⟩ rfl rfl rfl rfl rfl funcNamed Try.func22 closed instanceOf (by unfold Func.isWrapper; rw [if_neg (ne_of_beq_false outside)]; exact ⟨rfl, rfl⟩)
    (fun os started H enc _ => lifted os started H enc)
theorem proved : Rows.RingFoundSaid := over
#print axioms proved
end Go.Proofs.Ytpdajkbfemcdlaa.ringFound
namespace Go.Proofs.Ytpdajkbfemcdlaa
/-- The row, under a short name, for the claim. -/
theorem ringFound_holds : Rows.RingFoundSaid := ringFound.proved
end Go.Proofs.Ytpdajkbfemcdlaa
