/- Equality, copies and the CRC-32 of messages are those of the second implementation: for every input the call returns true and each argument reads as before; condition: none. -/
import Derived.Test.YtpdajkbfemcdlaaRows
import Derived.Test.YtpdajkbfemcdlaaGeTypes
import Derived.Test.YtpdajkbfemcdlaaL2
import Derived.Test.YtpdajkbfemcdlaaFacts
import Derived.JoinedCond
set_option linter.unusedVariables false
set_option linter.unusedSimpArgs false
namespace Go.Proofs.Ytpdajkbfemcdlaa.msgSame
open Go.Ge
theorem own : ownKnob Try.prog.godebug = none := facts.own
theorem laidOut : laidOutB Try.prog = true := facts.laidOut
theorem tys : argTys Try.prog Try.f4.params.toList = some [(true, [.int .i64, .int .i64, .int .i64, .int .i64, .int .u32, .slice 16 true [.int .i64, .int .i64]]), (true, [.int .i64, .int .i64, .int .i64, .int .i64, .int .u32, .slice 16 true [.int .i64, .int .i64]]), (false, [.slice 1 false [.int .u8]])] := by kernel_rfl
theorem contract : ∀ xs : List AVal, HasA [(true, tyMsg), (true, tyMsg), (false, [.slice 1 false [.int .u8]])] xs → ACalls Try.prog 4 xs [] (fun r _ => r = .bool true) := by
  intro xs h
  obtain ⟨c1, _, rfl, h1, h⟩ := hasA1 h
  obtain ⟨c2, _, rfl, h2, h⟩ := hasA1 h
  obtain ⟨c3, _, rfl, h3, h⟩ := hasA1 h
  obtain rfl := hasA0 h
  obtain ⟨o1, a, e1, ho1, w1⟩ := arg_msg h1
  obtain ⟨o2, b, e2, ho2, w2⟩ := arg_msg h2
  obtain ⟨o3, l, e3, ho3, w3, hl⟩ := arg_bytes h3
  rw [e1, e2, e3]
  exact MsgSame_law o1 o2 o3 a b l ho1 ho2 ho3.1 w1.len w2.len hl w3
theorem lifted (os : Os) (started : os.Started) (H : Type) (enc : TypeId × Value → H) :
    ReturnsInHanded {} Try.checked os 4 .any (Rows.msgSameSpec.pre6 enc Try.prog Try.f4 Rows.msgSameRow.domain false) (Rows.msgSameSpec.post enc Try.prog Try.f4 false true false false) :=
  law_lifted (C := Try.checked) own started (by kernel_rfl) Try.func4 rfl
    (fun ds h => by
      have h : ds.length = 3 := h
      match ds, h with
      | [d0, d1, d2], _ => rfl) rfl Try.underlying4 laidOut (by kernel_rfl) tys
    (ChangeSpec.witness6 (enc := enc) (C := Try.checked) false ⟨#[], #[.agg #[.int .i64 0, .int .i64 0, .int .i64 0, .int .i64 0, .int .u32 0, .slice none 0 0], .agg #[.int .i64 0, .int .i64 0, .int .i64 0, .int .i64 0, .int .u32 0, .slice none 0 0], .slice none 0 0], []⟩ 8 (by kernel_rfl) (by kernel_rfl) (by kernel_rfl) (by kernel_rfl)) contract
theorem inPlace : Rows.msgSameRow.inPlace = Try.prog.inPlace 4 := by kernel_rfl
theorem unfollowed : Rows.msgSameRow.unfollowed = Try.prog.unfollowed 4 := by kernel_rfl
theorem recurses : Rows.msgSameRow.recurses = Try.prog.recurses 4 := by kernel_rfl
theorem named : Rows.msgSameRow.named = Try.prog.varsNamed 4 := by kernel_rfl
theorem closed : joinedFacts Try.prog 4 Try.f4 Rows.msgSameSpec Rows.msgSameRow = true :=
  facts.joined inPlace unfollowed recurses named rfl rfl rfl (by kernel_rfl) (by kernel_rfl) (by kernel_rfl)
theorem instanceOf : Try.f4.isInstance Try.prog Rows.msgSameRow.origin Rows.msgSameRow.targs := of_decide_eq_true (by kernel_rfl)
theorem outside : (Check.packageOf Try.f4.name == "main") = false := by kernel_rfl
theorem funcNamed : Try.prog.funcNamed Rows.msgSameRow.func = some 4 := by kernel_rfl
theorem over : Rows.msgSameRow.holds Try.pinned (OpenSpec.ofChange Rows.msgSameSpec) :=
  OpenClaim.holds_of_wide 4 Try.f4 rfl rfl rfl rfl rfl rfl rfl ⟨rfl, rfl, rfl, rfl, rfl⟩ rfl rfl rfl rfl rfl funcNamed Try.func4 closed instanceOf (by unfold Func.isWrapper; rw [if_neg (ne_of_beq_false outside)]; exact ⟨rfl, rfl⟩)
    (fun os started H enc _ => lifted os started H enc)
theorem proved : Rows.MsgSameSaid := over
#print axioms proved
end Go.Proofs.Ytpdajkbfemcdlaa.msgSame
namespace Go.Proofs.Ytpdajkbfemcdlaa
/-- The row, under a short name, for the claim. -/
theorem msgSame_holds : Rows.MsgSameSaid := msgSame.proved
end Go.Proofs.Ytpdajkbfemcdlaa
