/- NetPlays: a net does what lists of messages do, deed by deed. -/
import Derived.Test.YtpdajkbfemcdlaaRows
import Derived.Test.YtpdajkbfemcdlaaGeD
import Derived.Test.YtpdajkbfemcdlaaZB1
import Derived.Test.YtpdajkbfemcdlaaFacts
import Derived.JoinedCond
set_option linter.unusedVariables false
set_option linter.unusedSimpArgs false
namespace Go.Proofs.Ytpdajkbfemcdlaa.netPlays
open Go.Ge
theorem own : ownKnob Try.prog.godebug = none := facts.own
theorem laidOut : laidOutB Try.prog = true := facts.laidOut
theorem tys : argTys Try.prog Try.f18.params.toList = some [(false, [.slice 24 true [.int .i64, .int .i64, .int .i64]]), (false, [.slice 24 true [.int .i64, .int .i64, .int .i64]]), (false, [.slice 64 true [.int .i64, .int .i64, .int .i64, .int .i64, .int .u32, .slice 16 true [.int .i64, .int .i64]]])] := by kernel_rfl
theorem contract : ∀ xs : List AVal, HasA [(false, [.slice 24 true tyFault]), (false, [.slice 24 true tyFault]), (false, [.slice 64 true tyMsg])] xs → ACalls Try.prog 18 xs [] (fun r _ => r = .bool true) := by
  intro xs h
  obtain ⟨c1, _, rfl, h1, h⟩ := hasA1 h
  obtain ⟨c2, _, rfl, h2, h⟩ := hasA1 h
  obtain ⟨c3, _, rfl, h3, h⟩ := hasA1 h
  obtain rfl := hasA0 h
  obtain ⟨o, fs, e1, ho, _, hf⟩ := arg_faults h1
  obtain ⟨p, D, e2, hp, hw, hd⟩ := arg_faults h2
  obtain ⟨q, l, e3, hq, hl, hll⟩ := arg_msgs h3
  rw [e1, e2, e3]
  unfold reachBytes at hf hd hll
  exact NetPlays_law o p q fs D _ (l.map (·.2)) ho (by omega) hp.1 (by omega) hw hq.1 (MsgsOk.ofPairs l fun p hp => ⟨(hl p hp).1, (hl p hp).2.len⟩) (by rw [List.length_map]; omega)
theorem lifted (os : Os) (started : os.Started) (H : Type) (enc : TypeId × Value → H) :
    ReturnsInHanded {} Try.checked os 18 .any (Rows.netPlaysSpec.pre6 enc Try.prog Try.f18 Rows.netPlaysRow.domain false) (Rows.netPlaysSpec.post enc Try.prog Try.f18 false true false false) :=
  law_lifted (C := Try.checked) own started (by kernel_rfl) Try.func18 rfl
    (fun ds h => by
      have h : ds.length = 3 := h
      match ds, h with
      | [d0, d1, d2], _ => rfl) rfl Try.underlying4 laidOut (by kernel_rfl) tys
    (ChangeSpec.witness6 (enc := enc) (C := Try.checked) false ⟨#[], #[.slice none 0 0, .slice none 0 0, .slice none 0 0], []⟩ 8 (by kernel_rfl) (by kernel_rfl) (by kernel_rfl) (by kernel_rfl)) contract
theorem inPlace : Rows.netPlaysRow.inPlace = Try.prog.inPlace 18 := by kernel_rfl
theorem unfollowed : Rows.netPlaysRow.unfollowed = Try.prog.unfollowed 18 := by kernel_rfl
theorem recurses : Rows.netPlaysRow.recurses = Try.prog.recurses 18 := by kernel_rfl
theorem named : Rows.netPlaysRow.named = Try.prog.varsNamed 18 := by kernel_rfl
theorem closed : joinedFacts Try.prog 18 Try.f18 Rows.netPlaysSpec Rows.netPlaysRow = true :=
  facts.joined inPlace unfollowed recurses named rfl rfl rfl (by kernel_rfl) (by kernel_rfl) (by kernel_rfl)
theorem instanceOf : Try.f18.isInstance Try.prog Rows.netPlaysRow.origin Rows.netPlaysRow.targs := of_decide_eq_true (by kernel_rfl)
theorem outside : (Check.packageOf Try.f18.name == "main") = false := by kernel_rfl
theorem funcNamed : Try.prog.funcNamed Rows.netPlaysRow.func = some 18 := by kernel_rfl
theorem over : Rows.netPlaysRow.holds Try.pinned (OpenSpec.ofChange Rows.netPlaysSpec) :=
  OpenClaim.holds_of_wide 18 Try.f18 rfl rfl rfl rfl rfl rfl rfl ⟨rfl, rfl, rfl, rfl, rfl⟩ rfl rfl rfl rfl rfl funcNamed Try.func18 closed instanceOf (by unfold Func.isWrapper; rw [if_neg (ne_of_beq_false outside)]; exact ⟨rfl, rfl⟩)
    (fun os started H enc _ => lifted os started H enc)
theorem proved : Rows.NetPlaysSaid := over
#print axioms proved
end Go.Proofs.Ytpdajkbfemcdlaa.netPlays
namespace Go.Proofs.Ytpdajkbfemcdlaa
theorem netPlays_holds : Rows.NetPlaysSaid := netPlays.proved
end Go.Proofs.Ytpdajkbfemcdlaa
