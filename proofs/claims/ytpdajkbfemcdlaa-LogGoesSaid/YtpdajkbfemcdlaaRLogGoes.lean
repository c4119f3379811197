import Derived.Test.YtpdajkbfemcdlaaRows
import Derived.Test.YtpdajkbfemcdlaaGeD
import Derived.Test.YtpdajkbfemcdlaaL5
import Derived.Test.YtpdajkbfemcdlaaFacts
import Derived.JoinedCond
/- Records that are added behind a cut log stand behind the whole ones: for every list of records, every number and every bytes the law returns true. It holds for all inputs of the given row. -/
set_option linter.unusedVariables false
set_option linter.unusedSimpArgs false
namespace Go.Proofs.Ytpdajkbfemcdlaa.logGoes
open Go.Ge
theorem own : ownKnob Try.prog.godebug = none := facts.own
theorem laidOut : laidOutB Try.prog = true := facts.laidOut
theorem tys : argTys Try.prog Try.f7.params.toList = some [(false, [.slice 24 false [.slice 1 false [.int .u8]]]), (false, [.int .i64]), (false, [.slice 1 false [.int .u8]])] := by kernel_rfl
theorem contract : ∀ xs : List AVal, HasA [(false, [.slice 24 false [.slice 1 false [.int .u8]]]), (false, [.int .i64]), (false, [.slice 1 false [.int .u8]])] xs → ACalls Try.prog 7 xs [] (fun r _ => r = .bool true) := by
  intro xs h
  obtain ⟨c1, _, rfl, h1, h⟩ := hasA1 h
  obtain ⟨c2, _, rfl, h2, h⟩ := hasA1 h
  obtain ⟨c3, _, rfl, h3, h⟩ := hasA1 h
  obtain rfl := hasA0 h
  obtain ⟨o, l, ys, e1, ho, hE, hu, hl⟩ := arg_recs h1
  obtain ⟨a, e2, w2⟩ := arg_i64 h2
  obtain ⟨p, b, e3, hp, hb, hlb⟩ := arg_bytes h3
  rw [e1, e2, e3]
  exact LogGoes_law o p l ys a b ho hE hp w2 hu hb hlb hl
theorem lifted (os : Os) (started : os.Started) (H : Type) (enc : TypeId × Value → H) :
    ReturnsInHanded {} Try.checked os 7 .any (Rows.logGoesSpec.pre6 enc Try.prog Try.f7 Rows.logGoesRow.domain false) (Rows.logGoesSpec.post enc Try.prog Try.f7 false true false false) :=
  law_lifted (C := Try.checked) own started (by kernel_rfl) Try.func7 rfl
    (fun ds h => by
      have h : ds.length = 3 := h
      match ds, h with
      | [d0, d1, d2], _ => rfl) rfl Try.underlying4 laidOut (by kernel_rfl) tys
    (ChangeSpec.witness6 (enc := enc) (C := Try.checked) false ⟨#[], #[.slice none 0 0, .int .i64 0, .slice none 0 0], []⟩ 8 (by kernel_rfl) (by kernel_rfl) (by kernel_rfl) (by kernel_rfl)) contract
theorem inPlace : Rows.logGoesRow.inPlace = Try.prog.inPlace 7 := by kernel_rfl
theorem unfollowed : Rows.logGoesRow.unfollowed = Try.prog.unfollowed 7 := by kernel_rfl
theorem recurses : Rows.logGoesRow.recurses = Try.prog.recurses 7 := by kernel_rfl
theorem named : Rows.logGoesRow.named = Try.prog.varsNamed 7 := by kernel_rfl
theorem closed : joinedFacts Try.prog 7 Try.f7 Rows.logGoesSpec Rows.logGoesRow = true :=
  facts.joined inPlace unfollowed recurses named rfl rfl rfl (by kernel_rfl) (by kernel_rfl) (by kernel_rfl)
theorem instanceOf : Try.f7.isInstance Try.prog Rows.logGoesRow.origin Rows.logGoesRow.targs := of_decide_eq_true (by kernel_rfl)
theorem outside : (Check.packageOf Try.f7.name == "main") = false := by kernel_rfl
theorem funcNamed : Try.prog.funcNamed Rows.logGoesRow.func = some 7 := by kernel_rfl
theorem over : Rows.logGoesRow.holds Try.pinned (OpenSpec.ofChange Rows.logGoesSpec) :=
  OpenClaim.holds_of_wide 7 Try.f7 rfl rfl rfl rfl rfl rfl rfl ⟨rfl, rfl, rfl, rfl, rfl⟩ rfl rfl rfl rfl rfl funcNamed Try.func7 closed instanceOf (by unfold Func.isWrapper; rw [if_neg (ne_of_beq_false outside)]; exact ⟨rfl, rfl⟩)
    (fun os started H enc _ => lifted os started H enc)
theorem proved : Rows.LogGoesSaid := over
#print axioms proved
end Go.Proofs.Ytpdajkbfemcdlaa.logGoes
namespace Go.Proofs.Ytpdajkbfemcdlaa
/-- The row, under a short name, for the claim. -/
theorem logGoes_holds : Rows.LogGoesSaid := logGoes.proved
end Go.Proofs.Ytpdajkbfemcdlaa
