/- MsgShort: bytes that are cut or continued are no message -/
import Derived.Test.YtpdajkbfemcdlaaRows
import Derived.Test.YtpdajkbfemcdlaaGeD
import Derived.Test.YtpdajkbfemcdlaaZB1
import Derived.Test.YtpdajkbfemcdlaaFacts
import Derived.JoinedCond
set_option linter.unusedVariables false
set_option linter.unusedSimpArgs false
namespace Go.Proofs.Ytpdajkbfemcdlaa.msgShort
open Go.Ge
theorem own : ownKnob Try.prog.godebug = none := facts.own
theorem laidOut : laidOutB Try.prog = true := facts.laidOut
theorem tys : argTys Try.prog Try.f13.params.toList = some [(false, [.slice 8 false [.int .i64]]), (false, [.int .i64]), (false, [.slice 1 false [.int .u8]])] := by kernel_rfl
theorem contract : ∀ xs : List AVal, HasA [(false, [.slice 8 false [.int .i64]]), (false, [.int .i64]), (false, [.slice 1 false [.int .u8]])] xs → ACalls Try.prog 13 xs [] (fun r _ => r = .bool true) := by
  intro xs h
  obtain ⟨c1, _, rfl, h1, h⟩ := hasA1 h
  obtain ⟨c2, _, rfl, h2, h⟩ := hasA1 h
  obtain ⟨c3, _, rfl, h3, h⟩ := hasA1 h
  obtain rfl := hasA0 h
  obtain ⟨o, l, e1, ho, hl, _⟩ := arg_ints h1
  obtain ⟨n, e2, hn⟩ := arg_i64 h2
  obtain ⟨p, b, e3, hp, hb, hlb⟩ := arg_bytes h3
  rw [e1, e2, e3]
  exact MsgShort_law o p l n b ho.1 hl hn hp hb hlb
theorem lifted (os : Os) (started : os.Started) (H : Type) (enc : TypeId × Value → H) :
    ReturnsInHanded {} Try.checked os 13 .any (Rows.msgShortSpec.pre6 enc Try.prog Try.f13 Rows.msgShortRow.domain false) (Rows.msgShortSpec.post enc Try.prog Try.f13 false true false false) :=
  law_lifted (C := Try.checked) own started (by kernel_rfl) Try.func13 rfl
    (fun ds h => by
      have h : ds.length = 3 := h
      match ds, h with
      | [d0, d1, d2], _ => rfl) rfl Try.underlying4 laidOut (by kernel_rfl) tys
    (ChangeSpec.witness6 (enc := enc) (C := Try.checked) false ⟨#[], #[.slice none 0 0, .int .i64 0, .slice none 0 0], []⟩ 8 (by kernel_rfl) (by kernel_rfl) (by kernel_rfl) (by kernel_rfl)) contract
theorem inPlace : Rows.msgShortRow.inPlace = Try.prog.inPlace 13 := by kernel_rfl
theorem unfollowed : Rows.msgShortRow.unfollowed = Try.prog.unfollowed 13 := by kernel_rfl
theorem recurses : Rows.msgShortRow.recurses = Try.prog.recurses 13 := by kernel_rfl
theorem named : Rows.msgShortRow.named = Try.prog.varsNamed 13 := by kernel_rfl
theorem closed : joinedFacts Try.prog 13 Try.f13 Rows.msgShortSpec Rows.msgShortRow = true :=
  facts.joined inPlace unfollowed recurses named rfl rfl rfl (by kernel_rfl) (by kernel_rfl) (by kernel_rfl)
theorem instanceOf : Try.f13.isInstance Try.prog Rows.msgShortRow.origin Rows.msgShortRow.targs := of_decide_eq_true (by kernel_rfl)
theorem outside : (Check.packageOf Try.f13.name == "main") = false := by kernel_rfl
theorem funcNamed : Try.prog.funcNamed Rows.msgShortRow.func = some 13 := by kernel_rfl
theorem over : Rows.msgShortRow.holds Try.pinned (OpenSpec.ofChange Rows.msgShortSpec) :=
  OpenClaim.holds_of_wide 13 Try.f13 rfl rfl rfl rfl rfl rfl rfl ⟨rfl, rfl, rfl, rfl, rfl⟩ rfl rfl rfl rfl rfl funcNamed Try.func13 closed instanceOf (by unfold Func.isWrapper; rw [if_neg (ne_of_beq_false outside)]; exact ⟨rfl, rfl⟩)
    (fun os started H enc _ => lifted os started H enc)
theorem proved : Rows.MsgShortSaid := over
#print axioms proved
end Go.Proofs.Ytpdajkbfemcdlaa.msgShort
namespace Go.Proofs.Ytpdajkbfemcdlaa
/-- The row, under a short name, for the claim. -/
theorem msgShort_holds : Rows.MsgShortSaid := msgShort.proved
end Go.Proofs.Ytpdajkbfemcdlaa
