/- For all lists of deeds and all lists of wishes, in a safe order no arm wants a cell that an arm has whose turn comes later, and if there is no safe order it is said so: for every input the call returns true and each argument reads as before; condition: none. -/
import Derived.Test.YtpdajkbfemcdlaaRows
import Derived.Test.YtpdajkbfemcdlaaGeD
import Derived.Test.YtpdajkbfemcdlaaZB3
import Derived.Test.YtpdajkbfemcdlaaFacts
import Derived.JoinedCond
set_option linter.unusedVariables false
set_option linter.unusedSimpArgs false
namespace Go.Proofs.Ytpdajkbfemcdlaa.ringGives
open Go.Ge
theorem own : ownKnob Try.prog.godebug = none := facts.own
theorem laidOut : laidOutB Try.prog = true := facts.laidOut
theorem tys : argTys Try.prog Try.f38.params.toList = some [(false, [.slice 8 false [.int .i64]]), (false, [.slice 8 false [.int .i64]])] := by kernel_rfl
theorem contract : ∀ xs : List AVal, HasA [(false, [.slice 8 false [.int .i64]]), (false, [.slice 8 false [.int .i64]])] xs → ACalls Try.prog 38 xs [] (fun r _ => r = .bool true) := by
  intro xs h
  obtain ⟨c1, _, rfl, h1, h⟩ := hasA1 h
  obtain ⟨c2, _, rfl, h2, h⟩ := hasA1 h
  obtain rfl := hasA0 h
  obtain ⟨o, l, e1, ho, hl, hll⟩ := arg_ints h1
  obtain ⟨p, m, e2, hp, hm, hml⟩ := arg_ints h2
  rw [e1, e2]
  unfold reachBytes at hll hml
  exact RingGives_law o l p m ho.1 hl (by omega) hp.1 hm (by omega)
theorem lifted (os : Os) (started : os.Started) (H : Type) (enc : TypeId × Value → H) :
    ReturnsInHanded {} Try.checked os 38 .any (Rows.ringGivesSpec.pre6 enc Try.prog Try.f38 Rows.ringGivesRow.domain false) (Rows.ringGivesSpec.post enc Try.prog Try.f38 false true false false) :=
  law_lifted (C := Try.checked) own started (by kernel_rfl) Try.func38 rfl
    (fun ds h => by
      have h : ds.length = 2 := h
      match ds, h with
      | [d0, d1], _ => rfl) rfl Try.underlying4 laidOut (by kernel_rfl) tys
    (ChangeSpec.witness6 (enc := enc) (C := Try.checked) false ⟨#[], #[.slice none 0 0, .slice none 0 0], []⟩ 8 (by kernel_rfl) (by kernel_rfl) (by kernel_rfl) (by kernel_rfl)) contract
theorem inPlace : Rows.ringGivesRow.inPlace = Try.prog.inPlace 38 := by kernel_rfl
theorem unfollowed : Rows.ringGivesRow.unfollowed = Try.prog.unfollowed 38 := by kernel_rfl
theorem recurses : Rows.ringGivesRow.recurses = Try.prog.recurses 38 := by kernel_rfl
theorem named : Rows.ringGivesRow.named = Try.prog.varsNamed 38 := by kernel_rfl
theorem closed : joinedFacts Try.prog 38 Try.f38 Rows.ringGivesSpec Rows.ringGivesRow = true :=
  facts.joined inPlace unfollowed recurses named rfl rfl rfl (by kernel_rfl) (by kernel_rfl) (by kernel_rfl)
theorem instanceOf : Try.f38.isInstance Try.prog Rows.ringGivesRow.origin Rows.ringGivesRow.targs := of_decide_eq_true (by kernel_rfl)
theorem outside : (Check.packageOf Try.f38.name == "main") = false := by kernel_rfl
theorem funcNamed : Try.prog.funcNamed Rows.ringGivesRow.func = some 38 := by kernel_rfl
theorem over : Rows.ringGivesRow.holds Try.pinned (OpenSpec.ofChange Rows.ringGivesSpec) :=
  OpenClaim.holds_of_wide 38 Try.f38 rfl rfl rfl rfl rfl rfl rfl ⟨rfl, rfl, rfl, rfl, rfl⟩ rfl rfl rfl rfl rfl funcNamed Try.func38 closed instanceOf (by unfold Func.isWrapper; rw [if_neg (ne_of_beq_false outside)]; exact ⟨rfl, rfl⟩)
    (fun os started H enc _ => lifted os started H enc)
theorem proved : Rows.RingGivesSaid := over
#print axioms proved
end Go.Proofs.Ytpdajkbfemcdlaa.ringGives
namespace Go.Proofs.Ytpdajkbfemcdlaa
theorem ringGives_holds : Rows.RingGivesSaid := ringGives.proved
end Go.Proofs.Ytpdajkbfemcdlaa
