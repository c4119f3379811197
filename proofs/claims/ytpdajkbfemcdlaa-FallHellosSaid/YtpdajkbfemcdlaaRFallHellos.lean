/- For all memories, what a controller says when it comes back is a beat and what was asked for, or the error of the first message that has one: for every input the call returns true and each argument reads as before; condition: none. -/
import Derived.Test.YtpdajkbfemcdlaaRows
import Derived.Test.YtpdajkbfemcdlaaGeTypes
import Derived.Test.YtpdajkbfemcdlaaL4
import Derived.Test.YtpdajkbfemcdlaaFacts
import Derived.JoinedCond
set_option linter.unusedVariables false
set_option linter.unusedSimpArgs false
namespace Go.Proofs.Ytpdajkbfemcdlaa.fallHellos
open Go.Ge
theorem own : ownKnob Try.prog.godebug = none := facts.own
theorem laidOut : laidOutB Try.prog = true := facts.laidOut
theorem tys : argTys Try.prog Try.f6.params.toList = some [(true, [.int .i64, .int .i64, .slice 16 true [.int .i64, .int .i64], .slice 16 true [.int .i64, .int .i64], .int .i64]), (false, [.int .i64]), (false, [.int .i64]), (false, [.int .u32])] := by kernel_rfl
theorem contract : ∀ xs : List AVal, HasA [(true, tyMem), (false, [.int .i64]), (false, [.int .i64]), (false, [.int .u32])] xs → ACalls Try.prog 6 xs [] (fun r _ => r = .bool true) := by
  intro xs h
  obtain ⟨c1, _, rfl, h1, h⟩ := hasA1 h
  obtain ⟨c2, _, rfl, h2, h⟩ := hasA1 h
  obtain ⟨c3, _, rfl, h3, h⟩ := hasA1 h
  obtain ⟨c4, _, rfl, h4, h⟩ := hasA1 h
  obtain rfl := hasA0 h
  obtain ⟨o, p, m, e1, ho, hp, w⟩ := arg_mem h1
  obtain ⟨a, e2, w2⟩ := arg_i64 h2
  obtain ⟨b, e3, w3⟩ := arg_i64 h3
  obtain ⟨c, e4, w4⟩ := arg_u32 h4
  rw [e1, e2, e3, e4]
  exact FallHellos_law o p m a b c ho hp w.len1
theorem lifted (os : Os) (started : os.Started) (H : Type) (enc : TypeId × Value → H) :
    ReturnsInHanded {} Try.checked os 6 .any (Rows.fallHellosSpec.pre6 enc Try.prog Try.f6 Rows.fallHellosRow.domain false) (Rows.fallHellosSpec.post enc Try.prog Try.f6 false true false false) :=
  law_lifted (C := Try.checked) own started (by kernel_rfl) Try.func6 rfl
    (fun ds h => by
      have h : ds.length = 4 := h
      match ds, h with
      | [d0, d1, d2, d3], _ => rfl) rfl Try.underlying4 laidOut (by kernel_rfl) tys
    (ChangeSpec.witness6 (enc := enc) (C := Try.checked) false ⟨#[], #[.agg #[.int .i64 0, .int .i64 0, .slice none 0 0, .slice none 0 0, .int .i64 0], .int .i64 0, .int .i64 0, .int .u32 0], []⟩ 8 (by kernel_rfl) (by kernel_rfl) (by kernel_rfl) (by kernel_rfl)) contract
theorem inPlace : Rows.fallHellosRow.inPlace = Try.prog.inPlace 6 := by kernel_rfl
theorem unfollowed : Rows.fallHellosRow.unfollowed = Try.prog.unfollowed 6 := by kernel_rfl
theorem recurses : Rows.fallHellosRow.recurses = Try.prog.recurses 6 := by kernel_rfl
theorem named : Rows.fallHellosRow.named = Try.prog.varsNamed 6 := by kernel_rfl
theorem closed : joinedFacts Try.prog 6 Try.f6 Rows.fallHellosSpec Rows.fallHellosRow = true :=
  facts.joined inPlace unfollowed recurses named rfl rfl rfl (by kernel_rfl) (by kernel_rfl) (by kernel_rfl)
theorem instanceOf : Try.f6.isInstance Try.prog Rows.fallHellosRow.origin Rows.fallHellosRow.targs := of_decide_eq_true (by kernel_rfl)
theorem outside : (Check.packageOf Try.f6.name == "main") = false := by kernel_rfl
theorem funcNamed : Try.prog.funcNamed Rows.fallHellosRow.func = some 6 := by kernel_rfl
theorem over : Rows.fallHellosRow.holds Try.pinned (OpenSpec.ofChange Rows.fallHellosSpec) :=
  OpenClaim.holds_of_wide 6 Try.f6 rfl rfl rfl rfl rfl rfl rfl ⟨rfl, rfl, rfl, rfl, rfl⟩ rfl rfl rfl rfl rfl funcNamed Try.func6 closed instanceOf (by unfold Func.isWrapper; rw [if_neg (ne_of_beq_false outside)]; exact ⟨rfl, rfl⟩)
    (fun os started H enc _ => lifted os started H enc)
theorem proved : Rows.FallHellosSaid := over
#print axioms proved
end Go.Proofs.Ytpdajkbfemcdlaa.fallHellos
namespace Go.Proofs.Ytpdajkbfemcdlaa
/-- The row, under a short name, for the claim. -/
theorem fallHellos_holds : Rows.FallHellosSaid := fallHellos.proved
end Go.Proofs.Ytpdajkbfemcdlaa
