/- MsgTells: messages are checked, written and read as by the second implementation -/
import Derived.Test.YtpdajkbfemcdlaaRows
import Derived.Test.YtpdajkbfemcdlaaGeD
import Derived.Test.YtpdajkbfemcdlaaL8
import Derived.Test.YtpdajkbfemcdlaaFacts
import Derived.JoinedCond
set_option linter.unusedVariables false
set_option linter.unusedSimpArgs false
namespace Go.Proofs.Ytpdajkbfemcdlaa.msgTells
open Go.Ge
theorem own : ownKnob Try.prog.godebug = none := facts.own
theorem laidOut : laidOutB Try.prog = true := facts.laidOut
theorem tys : argTys Try.prog Try.f10.params.toList = some [(true, [.int .i64, .int .i64, .int .i64, .int .i64, .int .u32, .slice 16 true [.int .i64, .int .i64]]), (false, [.slice 1 false [.int .u8]])] := by kernel_rfl
theorem contract : ∀ xs : List AVal, HasA [(true, tyMsg), (false, [.slice 1 false [.int .u8]])] xs → ACalls Try.prog 10 xs [] (fun r _ => r = .bool true) := by
  intro xs h
  obtain ⟨c1, _, rfl, h1, h⟩ := hasA1 h
  obtain ⟨c2, _, rfl, h2, h⟩ := hasA1 h
  obtain rfl := hasA0 h
  obtain ⟨o, m, e1, ho, hw⟩ := arg_msg h1
  obtain ⟨p, b, e2, hp, hb, hlb⟩ := arg_bytes h2
  rw [e1, e2]
  exact MsgTells_law o p m b ho hp hw.clock hw.len hb hlb
theorem lifted (os : Os) (started : os.Started) (H : Type) (enc : TypeId × Value → H) :
    ReturnsInHanded {} Try.checked os 10 .any (Rows.msgTellsSpec.pre6 enc Try.prog Try.f10 Rows.msgTellsRow.domain false) (Rows.msgTellsSpec.post enc Try.prog Try.f10 false true false false) :=
  law_lifted (C := Try.checked) own started (by kernel_rfl) Try.func10 rfl
    (fun ds h => by
      have h : ds.length = 2 := h
      match ds, h with
      | [d0, d1], _ => rfl) rfl Try.underlying4 laidOut (by kernel_rfl) tys
    (ChangeSpec.witness6 (enc := enc) (C := Try.checked) false ⟨#[], #[.agg #[.int .i64 0, .int .i64 0, .int .i64 0, .int .i64 0, .int .u32 0, .slice none 0 0], .slice none 0 0], []⟩ 8 (by kernel_rfl) (by kernel_rfl) (by kernel_rfl) (by kernel_rfl)) contract
theorem inPlace : Rows.msgTellsRow.inPlace = Try.prog.inPlace 10 := by kernel_rfl
theorem unfollowed : Rows.msgTellsRow.unfollowed = Try.prog.unfollowed 10 := by kernel_rfl
theorem recurses : Rows.msgTellsRow.recurses = Try.prog.recurses 10 := by kernel_rfl
theorem named : Rows.msgTellsRow.named = Try.prog.varsNamed 10 := by kernel_rfl
theorem closed : joinedFacts Try.prog 10 Try.f10 Rows.msgTellsSpec Rows.msgTellsRow = true :=
  facts.joined inPlace unfollowed recurses named rfl rfl rfl (by kernel_rfl) (by kernel_rfl) (by kernel_rfl)
theorem instanceOf : Try.f10.isInstance Try.prog Rows.msgTellsRow.origin Rows.msgTellsRow.targs := of_decide_eq_true (by kernel_rfl)
theorem outside : (Check.packageOf Try.f10.name == "main") = false := by kernel_rfl
theorem funcNamed : Try.prog.funcNamed Rows.msgTellsRow.func = some 10 := by kernel_rfl
theorem over : Rows.msgTellsRow.holds Try.pinned (OpenSpec.ofChange Rows.msgTellsSpec) :=
  OpenClaim.holds_of_wide 10 Try.f10 rfl rfl rfl rfl rfl rfl rfl ⟨rfl, rfl, rfl, rfl, rfl⟩ rfl rfl rfl rfl rfl funcNamed Try.func10 closed instanceOf (by unfold Func.isWrapper; rw [if_neg (ne_of_beq_false outside)]; exact ⟨rfl, rfl⟩)
    (fun os started H enc _ => lifted os started H enc)
theorem proved : Rows.MsgTellsSaid := over
#print axioms proved
end Go.Proofs.Ytpdajkbfemcdlaa.msgTells
namespace Go.Proofs.Ytpdajkbfemcdlaa
/-- The row, under a short name, for the claim. -/
theorem msgTells_holds : Rows.MsgTellsSaid := msgTells.proved
end Go.Proofs.Ytpdajkbfemcdlaa
