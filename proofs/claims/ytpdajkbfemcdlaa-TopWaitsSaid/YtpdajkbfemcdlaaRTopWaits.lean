/- For all numbers of arms and all lists of deeds, the arms that wait in a table of leases wait in no ring, and all can be served one after the other: for every input the call returns true and each argument reads as before; condition: none. -/
import Derived.Test.YtpdajkbfemcdlaaRows
import Derived.Test.YtpdajkbfemcdlaaGeD
import Derived.Test.YtpdajkbfemcdlaaZB3
import Derived.Test.YtpdajkbfemcdlaaFacts
import Derived.JoinedCond
set_option linter.unusedVariables false
set_option linter.unusedSimpArgs false
namespace Go.Proofs.Ytpdajkbfemcdlaa.topWaits
open Go.Ge
theorem own : ownKnob Try.prog.godebug = none := facts.own
theorem laidOut : laidOutB Try.prog = true := facts.laidOut
theorem tys : argTys Try.prog Try.f39.params.toList = some [(false, [.int .i64]), (false, [.slice 8 false [.int .i64]])] := by kernel_rfl
theorem contract : ∀ xs : List AVal, HasA [(false, [.int .i64]), (false, [.slice 8 false [.int .i64]])] xs → ACalls Try.prog 39 xs [] (fun r _ => r = .bool true) := by
  intro xs h
  obtain ⟨c1, _, rfl, h1, h⟩ := hasA1 h
  obtain ⟨c2, _, rfl, h2, h⟩ := hasA1 h
  obtain rfl := hasA0 h
  obtain ⟨n, e1, hn⟩ := arg_i64 h1
  obtain ⟨o, l, e2, ho, hl, hll⟩ := arg_ints h2
  rw [e1, e2]
  unfold reachBytes at hll
  exact TopWaits_law n o l hn ho.1 hl (by omega)
theorem lifted (os : Os) (started : os.Started) (H : Type) (enc : TypeId × Value → H) :
    ReturnsInHanded {} Try.checked os 39 .any (Rows.topWaitsSpec.pre6 enc Try.prog Try.f39 Rows.topWaitsRow.domain false) (Rows.topWaitsSpec.post enc Try.prog Try.f39 false true false false) :=
  law_lifted (C := Try.checked) own started (by kernel_rfl) Try.func39 rfl
    (fun ds h => by
      have h : ds.length = 2 := h
      match ds, h with
      | [d0, d1], _ => rfl) rfl Try.underlying4 laidOut (by kernel_rfl) tys
    (ChangeSpec.witness6 (enc := enc) (C := Try.checked) false ⟨#[], #[.int .i64 0, .slice none 0 0], []⟩ 8 (by kernel_rfl) (by kernel_rfl) (by kernel_rfl) (by kernel_rfl)) contract
theorem inPlace : Rows.topWaitsRow.inPlace = Try.prog.inPlace 39 := by kernel_rfl
theorem unfollowed : Rows.topWaitsRow.unfollowed = Try.prog.unfollowed 39 := by kernel_rfl
theorem recurses : Rows.topWaitsRow.recurses = Try.prog.recurses 39 := by kernel_rfl
theorem named : Rows.topWaitsRow.named = Try.prog.varsNamed 39 := by kernel_rfl
theorem closed : joinedFacts Try.prog 39 Try.f39 Rows.topWaitsSpec Rows.topWaitsRow = true :=
  facts.joined inPlace unfollowed recurses named rfl rfl rfl (by kernel_rfl) (by kernel_rfl) (by kernel_rfl)
theorem instanceOf : Try.f39.isInstance Try.prog Rows.topWaitsRow.origin Rows.topWaitsRow.targs := of_decide_eq_true (by kernel_rfl)
theorem outside : (Check.packageOf Try.f39.name == "main") = false := by kernel_rfl
theorem funcNamed : Try.prog.funcNamed Rows.topWaitsRow.func = some 39 := by kernel_rfl
theorem over : Rows.topWaitsRow.holds Try.pinned (OpenSpec.ofChange Rows.topWaitsSpec) :=
  OpenClaim.holds_of_wide 39 Try.f39 rfl rfl rfl rfl rfl rfl rfl ⟨rfl, rfl, rfl, rfl, rfl⟩ rfl rfl rfl rfl rfl funcNamed Try.func39 closed instanceOf (by unfold Func.isWrapper; rw [if_neg (ne_of_beq_false outside)]; exact ⟨rfl, rfl⟩)
    (fun os started H enc _ => lifted os started H enc)
theorem proved : Rows.TopWaitsSaid := over
#print axioms proved
end Go.Proofs.Ytpdajkbfemcdlaa.topWaits
namespace Go.Proofs.Ytpdajkbfemcdlaa
theorem topWaits_holds : Rows.TopWaitsSaid := topWaits.proved
end Go.Proofs.Ytpdajkbfemcdlaa
