/- with a log that is cut a controller knows what it knew some events ago, for all lists of numbers and all cuts -/
import Derived.Test.YtpdajkbfemcdlaaRows
import Derived.Test.YtpdajkbfemcdlaaGeD
import Derived.Test.YtpdajkbfemcdlaaZB2
import Derived.Test.YtpdajkbfemcdlaaFacts
import Derived.JoinedCond
set_option linter.unusedVariables false
set_option linter.unusedSimpArgs false
namespace Go.Proofs.Ytpdajkbfemcdlaa.fallTorn
open Go.Ge
theorem own : ownKnob Try.prog.godebug = none := facts.own
theorem laidOut : laidOutB Try.prog = true := facts.laidOut
theorem tys : argTys Try.prog Try.f32.params.toList = some [(false, [.slice 8 false [.int .i64]]), (false, [.int .i64])] := by kernel_rfl
theorem contract : ∀ xs : List AVal, HasA [(false, [.slice 8 false [.int .i64]]), (false, [.int .i64])] xs → ACalls Try.prog 32 xs [] (fun r _ => r = .bool true) := by
  intro xs h
  obtain ⟨c1, _, rfl, h1, h⟩ := hasA1 h
  obtain ⟨c2, _, rfl, h2, h⟩ := hasA1 h
  obtain rfl := hasA0 h
  obtain ⟨o, l, e1, ho, hl, hll⟩ := arg_ints h1
  obtain ⟨n, e2, hn⟩ := arg_i64 h2
  rw [e1, e2]
  unfold reachBytes at hll
  exact ACalls.mono (FallTorn_ok o l n ho.1 hl (by omega) hn []) fun r h' hh => hh.1
theorem lifted (os : Os) (started : os.Started) (H : Type) (enc : TypeId × Value → H) :
    ReturnsInHanded {} Try.checked os 32 .any (Rows.fallTornSpec.pre6 enc Try.prog Try.f32 Rows.fallTornRow.domain false) (Rows.fallTornSpec.post enc Try.prog Try.f32 false true false false) :=
  law_lifted (C := Try.checked) own started (by kernel_rfl) Try.func32 rfl
    (fun ds h => by
      have h : ds.length = 2 := h
      match ds, h with
      | [d0, d1], _ => rfl) rfl Try.underlying4 laidOut (by kernel_rfl) tys
    (ChangeSpec.witness6 (enc := enc) (C := Try.checked) false ⟨#[], #[.slice none 0 0, .int .i64 0], []⟩ 8 (by kernel_rfl) (by kernel_rfl) (by kernel_rfl) (by kernel_rfl)) contract
theorem inPlace : Rows.fallTornRow.inPlace = Try.prog.inPlace 32 := by kernel_rfl
theorem unfollowed : Rows.fallTornRow.unfollowed = Try.prog.unfollowed 32 := by kernel_rfl
theorem recurses : Rows.fallTornRow.recurses = Try.prog.recurses 32 := by kernel_rfl
theorem named : Rows.fallTornRow.named = Try.prog.varsNamed 32 := by kernel_rfl
theorem closed : joinedFacts Try.prog 32 Try.f32 Rows.fallTornSpec Rows.fallTornRow = true :=
  facts.joined inPlace unfollowed recurses named rfl rfl rfl (by kernel_rfl) (by kernel_rfl) (by kernel_rfl)
theorem instanceOf : Try.f32.isInstance Try.prog Rows.fallTornRow.origin Rows.fallTornRow.targs := of_decide_eq_true (by kernel_rfl)
theorem outside : (Check.packageOf Try.f32.name == "main") = false := by kernel_rfl
theorem funcNamed : Try.prog.funcNamed Rows.fallTornRow.func = some 32 := by kernel_rfl
theorem over : Rows.fallTornRow.holds Try.pinned (OpenSpec.ofChange Rows.fallTornSpec) :=
  OpenClaim.holds_of_wide 32 Try.f32 rfl rfl rfl rfl rfl rfl rfl ⟨rfl, rfl, rfl, rfl, rfl⟩ rfl rfl rfl rfl rfl funcNamed Try.func32 closed instanceOf (by unfold Func.isWrapper; rw [if_neg (ne_of_beq_false outside)]; exact ⟨rfl, rfl⟩)
    (fun os started H enc _ => lifted os started H enc)
theorem proved : Rows.FallTornSaid := over
#print axioms proved
end Go.Proofs.Ytpdajkbfemcdlaa.fallTorn
namespace Go.Proofs.Ytpdajkbfemcdlaa
/-- The row, under a short name, for the claim. -/
theorem fallTorn_holds : Rows.FallTornSaid := fallTorn.proved
end Go.Proofs.Ytpdajkbfemcdlaa
