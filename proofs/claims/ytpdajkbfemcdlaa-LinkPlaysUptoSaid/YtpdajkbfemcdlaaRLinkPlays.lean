/- For all lists of deeds and of messages, the end of a connection from 0 to 1 does what lists of messages do, deed by deed: for every input whose numbers, flags and bytes are together at most 1048576 the call returns true and each argument reads as before. -/
import Derived.Test.YtpdajkbfemcdlaaRows
import Derived.Test.YtpdajkbfemcdlaaGeD
import Derived.Test.YtpdajkbfemcdlaaZB1
import Derived.Test.YtpdajkbfemcdlaaFacts
import Derived.JoinedCond
set_option linter.unusedVariables false
set_option linter.unusedSimpArgs false
namespace Go.Proofs.Ytpdajkbfemcdlaa.bulk
open Go.Ge
mutual
theorem b1 {H : Type} : ∀ d : DataW H, Rows.uptoBulk d = bulkD d
  | .lit (.string _) => by simp [Rows.uptoBulk, bulkD]
  | .lit (.int ..) | .lit (.bool _) | .lit (.float ..) | .lit .nil => by simp [Rows.uptoBulk, bulkD]
  | .nil => by simp [Rows.uptoBulk, bulkD]
  | .ptr d => by simp only [Rows.uptoBulk, bulkD, b1 d]
  | .slice a b => by simp only [Rows.uptoBulk, bulkD, b2 a, b2 b]
  | .agg a => by simp only [Rows.uptoBulk, bulkD, b2 a]
  | .iface _ d => by simp only [Rows.uptoBulk, bulkD, b1 d]
  | .map l => by simp only [Rows.uptoBulk, bulkD, b3 l]
  | .held _ => by simp [Rows.uptoBulk, bulkD]
theorem b2 {H : Type} : ∀ l : List (DataW H), Rows.uptoBulkAll l = bulkDs l
  | [] => by simp [Rows.uptoBulkAll, bulkDs]
  | d :: r => by simp only [Rows.uptoBulkAll, bulkDs, b1 d, b2 r]
theorem b3 {H : Type} : ∀ l : List (Lit × DataW H), Rows.uptoBulkEntries l = bulkDe l
  | [] => by simp [Rows.uptoBulkEntries, bulkDe]
  | x :: r => by simp only [Rows.uptoBulkEntries, bulkDe, b4 x, b3 r]
theorem b4 {H : Type} : ∀ x : Lit × DataW H, Rows.uptoBulkEntry x = bulkD1 x
  | (.string _, d) => by simp only [Rows.uptoBulkEntry, bulkD1, b1 d]
  | (.int .., d) | (.bool _, d) | (.float .., d) | (.nil, d) => by simp only [Rows.uptoBulkEntry, bulkD1, b1 d]
end
end Go.Proofs.Ytpdajkbfemcdlaa.bulk
namespace Go.Proofs.Ytpdajkbfemcdlaa.linkPlays
open Go.Ge
theorem own : ownKnob Try.prog.godebug = none := facts.own
theorem laidOut : laidOutB Try.prog = true := facts.laidOut
theorem tys : argTys Try.prog Try.f15.params.toList = some [(false, [.slice 24 true [.int .i64, .int .i64, .int .i64]]), (false, [.slice 64 true [.int .i64, .int .i64, .int .i64, .int .i64, .int .u32, .slice 16 true [.int .i64, .int .i64]]])] := by kernel_rfl
theorem contract : ∀ xs : List AVal, HasA [(false, [.slice 24 true tyFault]), (false, [.slice 64 true tyMsg])] xs → bulkVs xs ≤ 1048576 → ACalls Try.prog 15 xs [] (fun r _ => r = .bool true) := by
  intro xs h hb
  obtain ⟨c1, _, rfl, h1, h⟩ := hasA1 h
  obtain ⟨c2, _, rfl, h2, h⟩ := hasA1 h
  obtain rfl := hasA0 h
  obtain ⟨o, D, e1, ho, _, _⟩ := arg_faults h1
  obtain ⟨q, l, e2, hq, hl, hll⟩ := arg_msgs h2
  rw [e1, e2] at hb ⊢
  have b1 := bulk_faults D
  simp only [bulkVs, bulkV] at hb
  unfold reachBytes at hll
  exact LinkPlays_law o q D _ (l.map (·.2)) ho.1 (by omega) hq.1 (MsgsOk.ofPairs l fun p hp => ⟨(hl p hp).1, (hl p hp).2.len⟩) (by rw [List.length_map]; omega)
theorem noInit : Try.prog.inits.idxOf? 15 = none := by kernel_rfl
theorem hat (F : Stop.Interp) : (Rows.OpenSpec.upto Rows.linkPlaysSpec).at F = Rows.linkPlaysSpec := rfl
theorem hsv : (Rows.OpenSpec.upto Rows.linkPlaysSpec).vars = Rows.linkPlaysSpec.vars := rfl
theorem hkb {H : Type} (ds : List (DataW H)) (h : Rows.uptoSmall H ds = true) : bulkDs ds ≤ 1048576 := by have := of_decide_eq_true h; rwa [bulk.b2] at this
theorem hs {H : Type} (ds : List (DataW H)) (h : ds.length = Try.f15.params.size) : Rows.linkPlaysSpec.fn H ds = { results := [.lit (.bool true)], args := ds } := by
  have h : ds.length = 2 := h
  match ds, h with
  | [d0, d1], _ => rfl
theorem hres : Try.f15.resultTypes = #[4] := rfl
theorem hread : Try.f15.params.toList.all (fun t => Try.prog.readableRec t && decide (t < Try.prog.types.size)) = true := by kernel_rfl
theorem wv (os : Os) : (World.plainHolding Try.prog os ⟨#[], #[.slice none 0 0, .slice none 0 0], []⟩).variablesB Try.prog = true := by kernel_rfl
theorem wr (os : Os) : ((World.plainHolding Try.prog os ⟨#[], #[.slice none 0 0, .slice none 0 0], []⟩).heap.toList.drop Try.prog.globals.size).take ((begin Try.prog (fun _ _ => 0) default).world.heap.size - Try.prog.globals.size) =
      (begin Try.prog (fun _ _ => 0) default).world.heap.toList.drop Try.prog.globals.size := by kernel_rfl
theorem wok (os : Os) : Input.okWideB Try.prog (World.plainHolding Try.prog os ⟨#[], #[.slice none 0 0, .slice none 0 0], []⟩) 15 ⟨#[], #[.slice none 0 0, .slice none 0 0], []⟩ = true := by kernel_rfl
theorem wx {H : Type} (enc : TypeId × Value → H) (os : Os) : DataW.whole enc Try.prog (World.plainHolding Try.prog os ⟨#[], #[.slice none 0 0, .slice none 0 0], []⟩).memory Try.f15.params.toList (Rows.OpenSpec.upto Rows.linkPlaysSpec).vars false (#[.slice none 0 0, .slice none 0 0] : Array Value).toList 8 = some ([.nil, .nil], [], []) := by kernel_rfl
theorem wsz {H : Type} (enc : TypeId × Value → H) (os : Os) : (Rows.OpenSpec.upto Rows.linkPlaysSpec).bare.sizedB enc Try.prog Try.f15 false (World.plainHolding Try.prog os ⟨#[], #[.slice none 0 0, .slice none 0 0], []⟩).memory #[.slice none 0 0, .slice none 0 0] 8 = true := by kernel_rfl
theorem wk (H : Type) : Rows.uptoSmall H ([.nil, .nil] ++ []) = true := by kernel_rfl
theorem lifted (os : Os) (started : os.Started) (H : Type) (enc : TypeId × Value → H) (F : Stop.Interp) :
    ReturnsInHanded {} Try.checked os 15 .any ((Rows.OpenSpec.upto Rows.linkPlaysSpec).pre6 enc Try.prog Try.f15 Rows.linkPlaysUptoRow.domain false) (((Rows.OpenSpec.upto Rows.linkPlaysSpec).at F).post enc Try.prog Try.f15 false true false false) :=
  law_lifted_upto (C := Try.checked) (s := Rows.OpenSpec.upto Rows.linkPlaysSpec) (cs := Rows.linkPlaysSpec) (F := F) (k := Rows.uptoSmall) (B := 1048576) rfl (hat F) hsv hkb own started noInit Try.func15 rfl
    hs hres Try.underlying4 laidOut hread tys
    (OpenSpec.witness (enc := enc) (C := Try.checked) (s := Rows.OpenSpec.upto Rows.linkPlaysSpec) (k := Rows.uptoSmall) rfl false ⟨#[], #[.slice none 0 0, .slice none 0 0], []⟩ 8 (wv os) (wr os) (wok os)
      (wx enc os) rfl (wk H) (wsz enc os)) contract
theorem inPlace : Rows.linkPlaysUptoRow.inPlace = Try.prog.inPlace 15 := by kernel_rfl
theorem unfollowed : Rows.linkPlaysUptoRow.unfollowed = Try.prog.unfollowed 15 := by kernel_rfl
theorem recurses : Rows.linkPlaysUptoRow.recurses = Try.prog.recurses 15 := by kernel_rfl
theorem named : Rows.linkPlaysUptoRow.named = Try.prog.varsNamed 15 := by kernel_rfl
theorem closed : joinedFacts Try.prog 15 Try.f15 (Rows.OpenSpec.upto Rows.linkPlaysSpec).bare Rows.linkPlaysUptoRow = true :=
  facts.joined inPlace unfollowed recurses named rfl rfl rfl (by kernel_rfl) (by kernel_rfl) (by kernel_rfl)
theorem instanceOf : Try.f15.isInstance Try.prog Rows.linkPlaysUptoRow.origin Rows.linkPlaysUptoRow.targs := of_decide_eq_true (by kernel_rfl)
theorem outside : (Check.packageOf Try.f15.name == "main") = false := by kernel_rfl
theorem funcNamed : Try.prog.funcNamed Rows.linkPlaysUptoRow.func = some 15 := by kernel_rfl
theorem over : Rows.linkPlaysUptoRow.holds Try.pinned (Rows.OpenSpec.upto Rows.linkPlaysSpec) :=
  OpenClaim.holds_of_cond 15 Try.f15 rfl rfl rfl rfl rfl rfl rfl ⟨rfl, rfl, rfl, rfl, rfl⟩ rfl rfl rfl rfl rfl funcNamed Try.func15 closed instanceOf (by unfold Func.isWrapper; rw [if_neg (ne_of_beq_false outside)]; exact ⟨rfl, rfl⟩)
    (fun os started H enc _ F => lifted os started H enc F)
theorem proved : Rows.LinkPlaysUptoSaid := over
#print axioms proved
end Go.Proofs.Ytpdajkbfemcdlaa.linkPlays
namespace Go.Proofs.Ytpdajkbfemcdlaa
/-- The row, under a short name, for the claim. -/
theorem linkPlays_holds : Rows.LinkPlaysUptoSaid := linkPlays.proved
end Go.Proofs.Ytpdajkbfemcdlaa
