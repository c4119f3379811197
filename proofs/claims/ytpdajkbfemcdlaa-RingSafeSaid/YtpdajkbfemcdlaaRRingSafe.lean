/- a safe order is the first one of all orders that is safe -/
import Derived.Test.YtpdajkbfemcdlaaRows
import Derived.Test.YtpdajkbfemcdlaaGeD
import Derived.Test.YtpdajkbfemcdlaaZB2
import Derived.Test.YtpdajkbfemcdlaaFacts
import Derived.JoinedCond
set_option linter.unusedVariables false
set_option linter.unusedSimpArgs false
namespace Go.Proofs.Ytpdajkbfemcdlaa.ringSafe
open Go.Ge
theorem own : ownKnob Try.prog.godebug = none := facts.own
theorem laidOut : laidOutB Try.prog = true := facts.laidOut
theorem tys : argTys Try.prog Try.f25.params.toList = some [(false, [.slice 24 false [.slice 16 true [.int .i64, .int .i64]]]), (false, [.slice 24 false [.slice 16 true [.int .i64, .int .i64]]])] := by kernel_rfl
theorem contract : ∀ xs : List AVal, HasA [(false, [.slice 24 false [tyCells]]), (false, [.slice 24 false [tyCells]])] xs → ACalls Try.prog 25 xs [] (fun r _ => r = .bool true) := by
  intro xs h
  obtain ⟨c1, _, rfl, h1, h⟩ := hasA1 h
  obtain ⟨c2, _, rfl, h2, h⟩ := hasA1 h
  obtain rfl := hasA0 h
  obtain ⟨o, a, ys, e1, ho, hx, ha, la⟩ := arg_celss h1
  obtain ⟨p, b, zs, e2, hp, hy, hb, lb⟩ := arg_celss h2
  rw [e1, e2]
  unfold reachBytes at ha la hb lb
  exact RingSafe_law o p a b ys zs ho.1 hp.1 hx hy (by omega) (by omega) (fun r hr => by have := ha r hr; omega) (fun r hr => by have := hb r hr; omega)
theorem lifted (os : Os) (started : os.Started) (H : Type) (enc : TypeId × Value → H) :
    ReturnsInHanded {} Try.checked os 25 .any (Rows.ringSafeSpec.pre6 enc Try.prog Try.f25 Rows.ringSafeRow.domain false) (Rows.ringSafeSpec.post enc Try.prog Try.f25 false true false false) :=
  law_lifted (C := Try.checked) own started (by kernel_rfl) Try.func25 rfl
    (fun ds h => by
      have h : ds.length = 2 := h
      match ds, h with
      | [d0, d1], _ => rfl) rfl Try.underlying4 laidOut (by kernel_rfl) tys
    (ChangeSpec.witness6 (enc := enc) (C := Try.checked) false ⟨#[], #[.slice none 0 0, .slice none 0 0], []⟩ 8 (by kernel_rfl) (by kernel_rfl) (by kernel_rfl) (by kernel_rfl)) contract
theorem inPlace : Rows.ringSafeRow.inPlace = Try.prog.inPlace 25 := by kernel_rfl
theorem unfollowed : Rows.ringSafeRow.unfollowed = Try.prog.unfollowed 25 := by kernel_rfl
theorem recurses : Rows.ringSafeRow.recurses = Try.prog.recurses 25 := by kernel_rfl
theorem named : Rows.ringSafeRow.named = Try.prog.varsNamed 25 := by kernel_rfl
theorem closed : joinedFacts Try.prog 25 Try.f25 Rows.ringSafeSpec Rows.ringSafeRow = true :=
  facts.joined inPlace unfollowed recurses named rfl rfl rfl (by kernel_rfl) (by kernel_rfl) (by kernel_rfl)
theorem instanceOf : Try.f25.isInstance Try.prog Rows.ringSafeRow.origin Rows.ringSafeRow.targs := of_decide_eq_true (by kernel_rfl)
theorem outside : (Check.packageOf Try.f25.name == "main") = false := by kernel_rfl
theorem funcNamed : Try.prog.funcNamed Rows.ringSafeRow.func = some 25 := by kernel_rfl
theorem over : Rows.ringSafeRow.holds Try.pinned (OpenSpec.ofChange Rows.ringSafeSpec) :=
  OpenClaim.holds_of_wide 25 Try.f25 rfl rfl rfl rfl rfl rfl rfl ⟨rfl, rfl, rfl, rfl, rfl⟩ rfl rfl rfl rfl rfl funcNamed Try.func25 closed instanceOf (by unfold Func.isWrapper; rw [if_neg (ne_of_beq_false outside)]; exact ⟨rfl, rfl⟩)
    (fun os started H enc _ => lifted os started H enc)
theorem proved : Rows.RingSafeSaid := over
#print axioms proved
end Go.Proofs.Ytpdajkbfemcdlaa.ringSafe
namespace Go.Proofs.Ytpdajkbfemcdlaa
theorem ringSafe_holds : Rows.RingSafeSaid := ringSafe.proved
end Go.Proofs.Ytpdajkbfemcdlaa
