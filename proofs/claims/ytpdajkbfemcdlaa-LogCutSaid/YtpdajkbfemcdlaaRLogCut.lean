/- LogCut: however a log is cut, a beginning of its records is read, and a changed byte hides no wrong record -/
import Derived.Test.YtpdajkbfemcdlaaRows
import Derived.Test.YtpdajkbfemcdlaaGeD
import Derived.Test.YtpdajkbfemcdlaaL6
import Derived.Test.YtpdajkbfemcdlaaFacts
import Derived.JoinedCond
set_option linter.unusedVariables false
set_option linter.unusedSimpArgs false
namespace Go.Proofs.Ytpdajkbfemcdlaa.logCut
open Go.Ge
theorem own : ownKnob Try.prog.godebug = none := facts.own
theorem laidOut : laidOutB Try.prog = true := facts.laidOut
theorem tys : argTys Try.prog Try.f9.params.toList = some [(false, [.slice 24 false [.slice 1 false [.int .u8]]]), (false, [.int .i64]), (false, [.int .u8])] := by kernel_rfl
theorem contract : ∀ xs : List AVal, HasA [(false, [.slice 24 false [.slice 1 false [.int .u8]]]), (false, [.int .i64]), (false, [.int .u8])] xs → ACalls Try.prog 9 xs [] (fun r _ => r = .bool true) := by
  intro xs h
  obtain ⟨c1, _, rfl, h1, h⟩ := hasA1 h
  obtain ⟨c2, _, rfl, h2, h⟩ := hasA1 h
  obtain ⟨c3, _, rfl, h3, h⟩ := hasA1 h
  obtain rfl := hasA0 h
  obtain ⟨o, l, ys, e1, ho, hE, hu, hl⟩ := arg_recs h1
  obtain ⟨a, e2, w2⟩ := arg_i64 h2
  obtain ⟨b, e3, w3⟩ := arg_u8 h3
  rw [e1, e2, e3]
  exact LogCut_law o l ys a b ho hE w2 w3 hu hl
theorem lifted (os : Os) (started : os.Started) (H : Type) (enc : TypeId × Value → H) :
    ReturnsInHanded {} Try.checked os 9 .any (Rows.logCutSpec.pre6 enc Try.prog Try.f9 Rows.logCutRow.domain false) (Rows.logCutSpec.post enc Try.prog Try.f9 false true false false) :=
  law_lifted (C := Try.checked) own started (by kernel_rfl) Try.func9 rfl
    (fun ds h => by
      have h : ds.length = 3 := h
      match ds, h with
      | [d0, d1, d2], _ => rfl) rfl Try.underlying4 laidOut (by kernel_rfl) tys
    (ChangeSpec.witness6 (enc := enc) (C := Try.checked) false ⟨#[], #[.slice none 0 0, .int .i64 0, .int .u8 0], []⟩ 8 (by kernel_rfl) (by kernel_rfl) (by kernel_rfl) (by kernel_rfl)) contract
theorem inPlace : Rows.logCutRow.inPlace = Try.prog.inPlace 9 := by kernel_rfl
theorem unfollowed : Rows.logCutRow.unfollowed = Try.prog.unfollowed 9 := by kernel_rfl
theorem recurses : Rows.logCutRow.recurses = Try.prog.recurses 9 := by kernel_rfl
theorem named : Rows.logCutRow.named = Try.prog.varsNamed 9 := by kernel_rfl
theorem closed : joinedFacts Try.prog 9 Try.f9 Rows.logCutSpec Rows.logCutRow = true :=
  facts.joined inPlace unfollowed recurses named rfl rfl rfl (by kernel_rfl) (by kernel_rfl) (by kernel_rfl)
theorem instanceOf : Try.f9.isInstance Try.prog Rows.logCutRow.origin Rows.logCutRow.targs := of_decide_eq_true (by kernel_rfl)
theorem outside : (Check.packageOf Try.f9.name == "main") = false := by kernel_rfl
theorem funcNamed : Try.prog.funcNamed Rows.logCutRow.func = some 9 := by kernel_rfl
theorem over : Rows.logCutRow.holds Try.pinned (OpenSpec.ofChange Rows.logCutSpec) :=
  OpenClaim.holds_of_wide 9 Try.f9 rfl rfl rfl rfl rfl rfl rfl ⟨rfl, rfl, rfl, rfl, rfl⟩ rfl rfl rfl rfl rfl funcNamed Try.func9 closed instanceOf (by unfold Func.isWrapper; rw [if_neg (ne_of_beq_false outside)]; exact ⟨rfl, rfl⟩)
    (fun os started H enc _ => lifted os started H enc)
theorem proved : Rows.LogCutSaid := over
#print axioms proved
end Go.Proofs.Ytpdajkbfemcdlaa.logCut
namespace Go.Proofs.Ytpdajkbfemcdlaa
/-- The row, under a short name, for the claim. -/
theorem logCut_holds : Rows.LogCutSaid := logCut.proved
end Go.Proofs.Ytpdajkbfemcdlaa
