/- MsgBack: what is written is read, and a changed byte is seen -/
import Derived.Test.YtpdajkbfemcdlaaRows
import Derived.Test.YtpdajkbfemcdlaaGeD
import Derived.Test.YtpdajkbfemcdlaaZB1
import Derived.Test.YtpdajkbfemcdlaaFacts
import Derived.JoinedCond
set_option linter.unusedVariables false
set_option linter.unusedSimpArgs false
namespace Go.Proofs.Ytpdajkbfemcdlaa.msgBack
open Go.Ge
theorem own : ownKnob Try.prog.godebug = none := facts.own
theorem laidOut : laidOutB Try.prog = true := facts.laidOut
theorem tys : argTys Try.prog Try.f12.params.toList = some [(false, [.slice 8 false [.int .i64]]), (false, [.int .i64]), (false, [.int .u8])] := by kernel_rfl
theorem contract : ∀ xs : List AVal, HasA [(false, [.slice 8 false [.int .i64]]), (false, [.int .i64]), (false, [.int .u8])] xs → ACalls Try.prog 12 xs [] (fun r _ => r = .bool true) := by
  intro xs h
  obtain ⟨c1, _, rfl, h1, h⟩ := hasA1 h
  obtain ⟨c2, _, rfl, h2, h⟩ := hasA1 h
  obtain ⟨c3, _, rfl, h3, h⟩ := hasA1 h
  obtain rfl := hasA0 h
  obtain ⟨o, l, e1, ho, hl, _⟩ := arg_ints h1
  obtain ⟨n, e2, hn⟩ := arg_i64 h2
  obtain ⟨b, e3, hb⟩ := arg_u8 h3
  rw [e1, e2, e3]
  exact MsgBack_law o l n b ho.1 hl hn hb
theorem lifted (os : Os) (started : os.Started) (H : Type) (enc : TypeId × Value → H) :
    ReturnsInHanded {} Try.checked os 12 .any (Rows.msgBackSpec.pre6 enc Try.prog Try.f12 Rows.msgBackRow.domain false) (Rows.msgBackSpec.post enc Try.prog Try.f12 false true false false) :=
  law_lifted (C := Try.checked) own started (by kernel_rfl) Try.func12 rfl
    (fun ds h => by
      have h : ds.length = 3 := h
      match ds, h with
      | [d0, d1, d2], _ => rfl) rfl Try.underlying4 laidOut (by kernel_rfl) tys
    (ChangeSpec.witness6 (enc := enc) (C := Try.checked) false ⟨#[], #[.slice none 0 0, .int .i64 0, .int .u8 0], []⟩ 8 (by kernel_rfl) (by kernel_rfl) (by kernel_rfl) (by kernel_rfl)) contract
theorem inPlace : Rows.msgBackRow.inPlace = Try.prog.inPlace 12 := by kernel_rfl
theorem unfollowed : Rows.msgBackRow.unfollowed = Try.prog.unfollowed 12 := by kernel_rfl
theorem recurses : Rows.msgBackRow.recurses = Try.prog.recurses 12 := by kernel_rfl
theorem named : Rows.msgBackRow.named = Try.prog.varsNamed 12 := by kernel_rfl
theorem closed : joinedFacts Try.prog 12 Try.f12 Rows.msgBackSpec Rows.msgBackRow = true :=
  facts.joined inPlace unfollowed recurses named rfl rfl rfl (by kernel_rfl) (by kernel_rfl) (by kernel_rfl)
theorem instanceOf : Try.f12.isInstance Try.prog Rows.msgBackRow.origin Rows.msgBackRow.targs := of_decide_eq_true (by kernel_rfl)
theorem outside : (Check.packageOf Try.f12.name == "main") = false := by kernel_rfl
theorem funcNamed : Try.prog.funcNamed Rows.msgBackRow.func = some 12 := by kernel_rfl
theorem over : Rows.msgBackRow.holds Try.pinned (OpenSpec.ofChange Rows.msgBackSpec) :=
  OpenClaim.holds_of_wide 12 Try.f12 rfl rfl rfl rfl rfl rfl rfl ⟨rfl, rfl, rfl, rfl, rfl⟩ rfl rfl rfl rfl rfl funcNamed Try.func12 closed instanceOf (by unfold Func.isWrapper; rw [if_neg (ne_of_beq_false outside)]; exact ⟨rfl, rfl⟩)
    (fun os started H enc _ => lifted os started H enc)
theorem proved : Rows.MsgBackSaid := over
#print axioms proved
end Go.Proofs.Ytpdajkbfemcdlaa.msgBack
namespace Go.Proofs.Ytpdajkbfemcdlaa
/-- The row, under a short name, for the claim. -/
theorem msgBack_holds : Rows.MsgBackSaid := msgBack.proved
end Go.Proofs.Ytpdajkbfemcdlaa
