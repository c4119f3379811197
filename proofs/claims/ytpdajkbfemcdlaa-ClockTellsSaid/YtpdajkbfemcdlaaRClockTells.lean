/- Clocks are compared, and what they show is computed, as by the second implementation: for every input the call returns true and each argument reads as before; condition: none. -/
import Derived.Test.YtpdajkbfemcdlaaRows
import Derived.Test.YtpdajkbfemcdlaaGeTypes
import Derived.Test.YtpdajkbfemcdlaaL3
import Derived.Test.YtpdajkbfemcdlaaFacts
import Derived.JoinedCond
set_option linter.unusedVariables false
set_option linter.unusedSimpArgs false
namespace Go.Proofs.Ytpdajkbfemcdlaa.clockTells
open Go.Ge
theorem own : ownKnob Try.prog.godebug = none := facts.own
theorem laidOut : laidOutB Try.prog = true := facts.laidOut
theorem tys : argTys Try.prog Try.f5.params.toList = some [(false, [.int .u32]), (false, [.int .u32]), (false, [.int .i64]), (false, [.int .i64]), (false, [.int .i64]), (false, [.slice 24 true [.int .i64, .int .i64, .int .i64]]), (false, [.slice 4 false [.int .u32]])] := by kernel_rfl
theorem contract : ∀ xs : List AVal, HasA [(false, [.int .u32]), (false, [.int .u32]), (false, [.int .i64]), (false, [.int .i64]), (false, [.int .i64]), (false, [.slice 24 true tyFault]), (false, [.slice 4 false [.int .u32]])] xs → ACalls Try.prog 5 xs [] (fun r _ => r = .bool true) := by
  intro xs h
  obtain ⟨c1, _, rfl, h1, h⟩ := hasA1 h
  obtain ⟨c2, _, rfl, h2, h⟩ := hasA1 h
  obtain ⟨c3, _, rfl, h3, h⟩ := hasA1 h
  obtain ⟨c4, _, rfl, h4, h⟩ := hasA1 h
  obtain ⟨c5, _, rfl, h5, h⟩ := hasA1 h
  obtain ⟨c6, _, rfl, h6, h⟩ := hasA1 h
  obtain ⟨c7, _, rfl, h7, h⟩ := hasA1 h
  obtain rfl := hasA0 h
  obtain ⟨a, e1, w1⟩ := arg_u32 h1
  obtain ⟨b, e2, w2⟩ := arg_u32 h2
  obtain ⟨n, e3, w3⟩ := arg_i64 h3
  obtain ⟨k, e4, w4⟩ := arg_i64 h4
  obtain ⟨m, e5, w5⟩ := arg_i64 h5
  obtain ⟨o1, fs, e6, ho1, _, hl1⟩ := arg_faults h6
  obtain ⟨o2, l, e7, ho2, w7, hl2⟩ := arg_u32s h7
  unfold reachBytes at hl1 hl2
  rw [e1, e2, e3, e4, e5, e6, e7]
  exact ClockTells_law a b n k m o1 o2 fs l ho1.1 ho2.1 w1 w2 w3 w4 w5 (by omega) (by omega) w7
theorem lifted (os : Os) (started : os.Started) (H : Type) (enc : TypeId × Value → H) :
    ReturnsInHanded {} Try.checked os 5 .any (Rows.clockTellsSpec.pre6 enc Try.prog Try.f5 Rows.clockTellsRow.domain false) (Rows.clockTellsSpec.post enc Try.prog Try.f5 false true false false) :=
  law_lifted (C := Try.checked) own started (by kernel_rfl) Try.func5 rfl
    (fun ds h => by
      have h : ds.length = 7 := h
      match ds, h with
      | [d0, d1, d2, d3, d4, d5, d6], _ => rfl) rfl Try.underlying4 laidOut (by kernel_rfl) tys
    (ChangeSpec.witness6 (enc := enc) (C := Try.checked) false ⟨#[], #[.int .u32 0, .int .u32 0, .int .i64 0, .int .i64 0, .int .i64 0, .slice none 0 0, .slice none 0 0], []⟩ 8 (by kernel_rfl) (by kernel_rfl) (by kernel_rfl) (by kernel_rfl)) contract
theorem inPlace : Rows.clockTellsRow.inPlace = Try.prog.inPlace 5 := by kernel_rfl
theorem unfollowed : Rows.clockTellsRow.unfollowed = Try.prog.unfollowed 5 := by kernel_rfl
theorem recurses : Rows.clockTellsRow.recurses = Try.prog.recurses 5 := by kernel_rfl
theorem named : Rows.clockTellsRow.named = Try.prog.varsNamed 5 := by kernel_rfl
theorem closed : joinedFacts Try.prog 5 Try.f5 Rows.clockTellsSpec Rows.clockTellsRow = true :=
  facts.joined inPlace unfollowed recurses named rfl rfl rfl (by kernel_rfl) (by kernel_rfl) (by kernel_rfl)
theorem instanceOf : Try.f5.isInstance Try.prog Rows.clockTellsRow.origin Rows.clockTellsRow.targs := of_decide_eq_true (by kernel_rfl)
theorem outside : (Check.packageOf Try.f5.name == "main") = false := by kernel_rfl
theorem funcNamed : Try.prog.funcNamed Rows.clockTellsRow.func = some 5 := by kernel_rfl
theorem over : Rows.clockTellsRow.holds Try.pinned (OpenSpec.ofChange Rows.clockTellsSpec) :=
  OpenClaim.holds_of_wide 5 Try.f5 rfl rfl rfl rfl rfl rfl rfl ⟨rfl, rfl, rfl, rfl, rfl⟩ rfl rfl rfl rfl rfl funcNamed Try.func5 closed instanceOf (by unfold Func.isWrapper; rw [if_neg (ne_of_beq_false outside)]; exact ⟨rfl, rfl⟩)
    (fun os started H enc _ => lifted os started H enc)
theorem proved : Rows.ClockTellsSaid := over
#print axioms proved
end Go.Proofs.Ytpdajkbfemcdlaa.clockTells
namespace Go.Proofs.Ytpdajkbfemcdlaa
/-- The row, under a short name, for the claim. -/
theorem clockTells_holds : Rows.ClockTellsSaid := clockTells.proved
end Go.Proofs.Ytpdajkbfemcdlaa
