/- For all two ends and all lists of deeds and of messages, an end of a connection does what lists of messages do, deed by deed, and with wrong ends there is none: for every input whose numbers, flags and bytes are together at most 1048576 the call returns true and each argument reads as before. -/
import Derived.Test.YtpdajkbfemcdlaaRows
import Derived.Test.YtpdajkbfemcdlaaGeD
import Derived.Test.YtpdajkbfemcdlaaZB1
import Derived.Test.YtpdajkbfemcdlaaFacts
import Derived.JoinedCond
set_option linter.unusedVariables false
set_option linter.unusedSimpArgs false
namespace Go.Proofs.Ytpdajkbfemcdlaa.bulk
open Go.Ge
mutual
theorem b1 {H : Type} : ∀ d : DataW H, Rows.uptoBulk d = bulkD d
  | .lit (.string _) => by simp [Rows.uptoBulk, bulkD]
  | .lit (.int ..) | .lit (.bool _) | .lit (.float ..) | .lit .nil => by simp [Rows.uptoBulk, bulkD]
  | .nil => by simp [Rows.uptoBulk, bulkD]
  | .ptr d => by simp only [Rows.uptoBulk, bulkD, b1 d]
  | .slice a b => by simp only [Rows.uptoBulk, bulkD, b2 a, b2 b]
  | .agg a => by simp only [Rows.uptoBulk, bulkD, b2 a]
  | .iface _ d => by simp only [Rows.uptoBulk, bulkD, b1 d]
  | .map l => by simp only [Rows.uptoBulk, bulkD, b3 l]
  | .held _ => by simp [Rows.uptoBulk, bulkD]
theorem b2 {H : Type} : ∀ l : List (DataW H), Rows.uptoBulkAll l = bulkDs l
  | [] => by simp [Rows.uptoBulkAll, bulkDs]
  | d :: r => by simp only [Rows.uptoBulkAll, bulkDs, b1 d, b2 r]
theorem b3 {H : Type} : ∀ l : List (Lit × DataW H), Rows.uptoBulkEntries l = bulkDe l
  | [] => by simp [Rows.uptoBulkEntries, bulkDe]
  | x :: r => by simp only [Rows.uptoBulkEntries, bulkDe, b4 x, b3 r]
theorem b4 {H : Type} : ∀ x : Lit × DataW H, Rows.uptoBulkEntry x = bulkD1 x
  | (.string _, d) => by simp only [Rows.uptoBulkEntry, bulkD1, b1 d]
  | (.int .., d) | (.bool _, d) | (.float .., d) | (.nil, d) => by simp only [Rows.uptoBulkEntry, bulkD1, b1 d]
end
end Go.Proofs.Ytpdajkbfemcdlaa.bulk
namespace Go.Proofs.Ytpdajkbfemcdlaa.linkEnds
open Go.Ge
theorem own : ownKnob Try.prog.godebug = none := facts.own
theorem laidOut : laidOutB Try.prog = true := facts.laidOut
theorem tys : argTys Try.prog Try.f16.params.toList = some [(false, [.int .i64]), (false, [.int .i64]), (false, [.slice 24 true [.int .i64, .int .i64, .int .i64]]), (false, [.slice 64 true [.int .i64, .int .i64, .int .i64, .int .i64, .int .u32, .slice 16 true [.int .i64, .int .i64]]])] := by kernel_rfl
theorem contract : ∀ xs : List AVal, HasA [(false, [.int .i64]), (false, [.int .i64]), (false, [.slice 24 true tyFault]), (false, [.slice 64 true tyMsg])] xs → bulkVs xs ≤ 1048576 → ACalls Try.prog 16 xs [] (fun r _ => r = .bool true) := by
  intro xs h hb
  obtain ⟨c3, _, rfl, h3, h⟩ := hasA1 h
  obtain ⟨c4, _, rfl, h4, h⟩ := hasA1 h
  obtain ⟨c1, _, rfl, h1, h⟩ := hasA1 h
  obtain ⟨c2, _, rfl, h2, h⟩ := hasA1 h
  obtain rfl := hasA0 h
  obtain ⟨o, D, e1, ho, _, _⟩ := arg_faults h1
  obtain ⟨q, l, e2, hq, hl, hll⟩ := arg_msgs h2
  obtain ⟨a, e3, _⟩ := arg_i64 h3
  obtain ⟨b, e4, _⟩ := arg_i64 h4
  rw [e1, e2, e3, e4] at hb ⊢
  have b1 := bulk_faults D
  simp only [bulkVs, bulkV] at hb
  unfold reachBytes at hll
  exact LinkEnds_law a b o q D _ (l.map (·.2)) ho.1 (by omega) hq.1 (MsgsOk.ofPairs l fun p hp => ⟨(hl p hp).1, (hl p hp).2.len⟩) (by rw [List.length_map]; omega)
theorem noInit : Try.prog.inits.idxOf? 16 = none := by kernel_rfl
theorem hat (F : Stop.Interp) : (Rows.OpenSpec.upto Rows.linkEndsSpec).at F = Rows.linkEndsSpec := rfl
theorem hsv : (Rows.OpenSpec.upto Rows.linkEndsSpec).vars = Rows.linkEndsSpec.vars := rfl
theorem hkb {H : Type} (ds : List (DataW H)) (h : Rows.uptoSmall H ds = true) : bulkDs ds ≤ 1048576 := by have := of_decide_eq_true h; rwa [bulk.b2] at this
theorem hs {H : Type} (ds : List (DataW H)) (h : ds.length = Try.f16.params.size) : Rows.linkEndsSpec.fn H ds = { results := [.lit (.bool true)], args := ds } := by
  have h : ds.length = 4 := h
  match ds, h with
  | [d0, d1, d2, d3], _ => rfl
theorem hres : Try.f16.resultTypes = #[4] := rfl
theorem hread : Try.f16.params.toList.all (fun t => Try.prog.readableRec t && decide (t < Try.prog.types.size)) = true := by kernel_rfl
theorem wv (os : Os) : (World.plainHolding Try.prog os ⟨#[], #[.int .i64 0, .int .i64 0, .slice none 0 0, .slice none 0 0], []⟩).variablesB Try.prog = true := by kernel_rfl
theorem wr (os : Os) : ((World.plainHolding Try.prog os ⟨#[], #[.int .i64 0, .int .i64 0, .slice none 0 0, .slice none 0 0], []⟩).heap.toList.drop Try.prog.globals.size).take ((begin Try.prog (fun _ _ => 0) default).world.heap.size - Try.prog.globals.size) =
      (begin Try.prog (fun _ _ => 0) default).world.heap.toList.drop Try.prog.globals.size := by kernel_rfl
theorem wok (os : Os) : Input.okWideB Try.prog (World.plainHolding Try.prog os ⟨#[], #[.int .i64 0, .int .i64 0, .slice none 0 0, .slice none 0 0], []⟩) 16 ⟨#[], #[.int .i64 0, .int .i64 0, .slice none 0 0, .slice none 0 0], []⟩ = true := by kernel_rfl
theorem wx {H : Type} (enc : TypeId × Value → H) (os : Os) : DataW.whole enc Try.prog (World.plainHolding Try.prog os ⟨#[], #[.int .i64 0, .int .i64 0, .slice none 0 0, .slice none 0 0], []⟩).memory Try.f16.params.toList (Rows.OpenSpec.upto Rows.linkEndsSpec).vars false (#[.int .i64 0, .int .i64 0, .slice none 0 0, .slice none 0 0] : Array Value).toList 8 = some ([.lit (.int .i64 0), .lit (.int .i64 0), .nil, .nil], [], []) := by kernel_rfl
theorem wsz {H : Type} (enc : TypeId × Value → H) (os : Os) : (Rows.OpenSpec.upto Rows.linkEndsSpec).bare.sizedB enc Try.prog Try.f16 false (World.plainHolding Try.prog os ⟨#[], #[.int .i64 0, .int .i64 0, .slice none 0 0, .slice none 0 0], []⟩).memory #[.int .i64 0, .int .i64 0, .slice none 0 0, .slice none 0 0] 8 = true := by kernel_rfl
theorem wk (H : Type) : Rows.uptoSmall H ([.lit (.int .i64 0), .lit (.int .i64 0), .nil, .nil] ++ []) = true := by kernel_rfl
theorem lifted (os : Os) (started : os.Started) (H : Type) (enc : TypeId × Value → H) (F : Stop.Interp) :
    ReturnsInHanded {} Try.checked os 16 .any ((Rows.OpenSpec.upto Rows.linkEndsSpec).pre6 enc Try.prog Try.f16 Rows.linkEndsUptoRow.domain false) (((Rows.OpenSpec.upto Rows.linkEndsSpec).at F).post enc Try.prog Try.f16 false true false false) :=
  law_lifted_upto (C := Try.checked) (s := Rows.OpenSpec.upto Rows.linkEndsSpec) (cs := Rows.linkEndsSpec) (F := F) (k := Rows.uptoSmall) (B := 1048576) rfl (hat F) hsv hkb own started noInit Try.func16 rfl
    hs hres Try.underlying4 laidOut hread tys
    (OpenSpec.witness (enc := enc) (C := Try.checked) (s := Rows.OpenSpec.upto Rows.linkEndsSpec) (k := Rows.uptoSmall) rfl false ⟨#[], #[.int .i64 0, .int .i64 0, .slice none 0 0, .slice none 0 0], []⟩ 8 (wv os) (wr os) (wok os)
      (wx enc os) rfl (wk H) (wsz enc os)) contract
theorem inPlace : Rows.linkEndsUptoRow.inPlace = Try.prog.inPlace 16 := by kernel_rfl
theorem unfollowed : Rows.linkEndsUptoRow.unfollowed = Try.prog.unfollowed 16 := by kernel_rfl
theorem recurses : Rows.linkEndsUptoRow.recurses = Try.prog.recurses 16 := by kernel_rfl
theorem named : Rows.linkEndsUptoRow.named = Try.prog.varsNamed 16 := by kernel_rfl
theorem closed : joinedFacts Try.prog 16 Try.f16 (Rows.OpenSpec.upto Rows.linkEndsSpec).bare Rows.linkEndsUptoRow = true :=
  facts.joined inPlace unfollowed recurses named rfl rfl rfl (by kernel_rfl) (by kernel_rfl) (by kernel_rfl)
theorem instanceOf : Try.f16.isInstance Try.prog Rows.linkEndsUptoRow.origin Rows.linkEndsUptoRow.targs := of_decide_eq_true (by kernel_rfl)
theorem outside : (Check.packageOf Try.f16.name == "main") = false := by kernel_rfl
theorem funcNamed : Try.prog.funcNamed Rows.linkEndsUptoRow.func = some 16 := by kernel_rfl
theorem over : Rows.linkEndsUptoRow.holds Try.pinned (Rows.OpenSpec.upto Rows.linkEndsSpec) :=
  OpenClaim.holds_of_cond 16 Try.f16 rfl rfl rfl rfl rfl rfl rfl ⟨rfl, rfl, rfl, rfl, rfl⟩ rfl rfl rfl rfl rfl funcNamed Try.func16 closed instanceOf (by unfold Func.isWrapper; rw [if_neg (ne_of_beq_false outside)]; exact ⟨rfl, rfl⟩)
    (fun os started H enc _ F => lifted os started H enc F)
theorem proved : Rows.LinkEndsUptoSaid := over
#print axioms proved
end Go.Proofs.Ytpdajkbfemcdlaa.linkEnds
namespace Go.Proofs.Ytpdajkbfemcdlaa
/-- The row, under a short name, for the claim. -/
theorem linkEnds_holds : Rows.LinkEndsUptoSaid := linkEnds.proved
end Go.Proofs.Ytpdajkbfemcdlaa
