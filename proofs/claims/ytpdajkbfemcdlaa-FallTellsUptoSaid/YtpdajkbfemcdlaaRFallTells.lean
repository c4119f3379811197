/- events are checked, done, written and read as by the second implementation, for all that a controller knows, all events and all bytes -/
import Derived.Test.YtpdajkbfemcdlaaRows
import Derived.Test.YtpdajkbfemcdlaaGeD
import Derived.Test.YtpdajkbfemcdlaaZB2
import Derived.Test.YtpdajkbfemcdlaaFacts
import Derived.JoinedCond
set_option linter.unusedVariables false
set_option linter.unusedSimpArgs false
namespace Go.Proofs.Ytpdajkbfemcdlaa.bulk
open Go.Ge
mutual
theorem b1 {H : Type} : ∀ d : DataW H, Rows.uptoBulk d = bulkD d
  | .lit (.string _) => by simp [Rows.uptoBulk, bulkD]
  | .lit (.int ..) | .lit (.bool _) | .lit (.float ..) | .lit .nil => by simp [Rows.uptoBulk, bulkD]
  | .nil => by simp [Rows.uptoBulk, bulkD]
  | .ptr d => by simp only [Rows.uptoBulk, bulkD, b1 d]
  | .slice a b => by simp only [Rows.uptoBulk, bulkD, b2 a, b2 b]
  | .agg a => by simp only [Rows.uptoBulk, bulkD, b2 a]
  | .iface _ d => by simp only [Rows.uptoBulk, bulkD, b1 d]
  | .map l => by simp only [Rows.uptoBulk, bulkD, b3 l]
  | .held _ => by simp [Rows.uptoBulk, bulkD]
theorem b2 {H : Type} : ∀ l : List (DataW H), Rows.uptoBulkAll l = bulkDs l
  | [] => by simp [Rows.uptoBulkAll, bulkDs]
  | d :: r => by simp only [Rows.uptoBulkAll, bulkDs, b1 d, b2 r]
theorem b3 {H : Type} : ∀ l : List (Lit × DataW H), Rows.uptoBulkEntries l = bulkDe l
  | [] => by simp [Rows.uptoBulkEntries, bulkDe]
  | x :: r => by simp only [Rows.uptoBulkEntries, bulkDe, b4 x, b3 r]
theorem b4 {H : Type} : ∀ x : Lit × DataW H, Rows.uptoBulkEntry x = bulkD1 x
  | (.string _, d) => by simp only [Rows.uptoBulkEntry, bulkD1, b1 d]
  | (.int .., d) | (.bool _, d) | (.float .., d) | (.nil, d) => by simp only [Rows.uptoBulkEntry, bulkD1, b1 d]
end
end Go.Proofs.Ytpdajkbfemcdlaa.bulk
namespace Go.Proofs.Ytpdajkbfemcdlaa.fallTells
open Go.Ge
theorem own : ownKnob Try.prog.godebug = none := facts.own
theorem laidOut : laidOutB Try.prog = true := facts.laidOut
theorem tys : argTys Try.prog Try.f27.params.toList = some [(true, [.int .i64, .int .i64, .slice 16 true [.int .i64, .int .i64], .slice 16 true [.int .i64, .int .i64], .int .i64]), (true, [.int .i64, .int .i64, .slice 16 true [.int .i64, .int .i64]]), (false, [.slice 1 false [.int .u8]])] := by kernel_rfl
theorem contract : ∀ xs : List AVal, HasA [(true, tyMem), (true, tyEvent), (false, [.slice 1 false [.int .u8]])] xs → bulkVs xs ≤ 1048576 → ACalls Try.prog 27 xs [] (fun r _ => r = .bool true) := by
  intro xs h hb
  obtain ⟨c1, _, rfl, h1, h⟩ := hasA1 h
  obtain ⟨c2, _, rfl, h2, h⟩ := hasA1 h
  obtain ⟨c3, _, rfl, h3, h⟩ := hasA1 h
  obtain rfl := hasA0 h
  obtain ⟨oa, ob, m, e1, ha, hob, w⟩ := arg_mem h1
  obtain ⟨q, e, e2, hq, we⟩ := arg_event h2
  obtain ⟨o, b, e3, ho, hu, hl⟩ := arg_bytes h3
  rw [e1, e2, e3] at hb ⊢
  have w1 := w.len1
  have w2 := w.len2
  have w3 := we.len
  have b1 := bulk_ints (k := .u8) b
  simp only [bulkVs, bulkV] at hb
  unfold reachBytes at w1 w2 w3 hl
  exact ACalls.mono (FallTells_ok oa ob q o m e b ha hob hq ho hu (by omega) (by omega) (by omega) (by omega) []) fun r h' hh => hh.1
theorem noInit : Try.prog.inits.idxOf? 27 = none := by kernel_rfl
theorem hat (F : Stop.Interp) : (Rows.OpenSpec.upto Rows.fallTellsSpec).at F = Rows.fallTellsSpec := rfl
theorem hsv : (Rows.OpenSpec.upto Rows.fallTellsSpec).vars = Rows.fallTellsSpec.vars := rfl
theorem hkb {H : Type} (ds : List (DataW H)) (h : Rows.uptoSmall H ds = true) : bulkDs ds ≤ 1048576 := by have := of_decide_eq_true h; rwa [bulk.b2] at this
theorem hs {H : Type} (ds : List (DataW H)) (h : ds.length = Try.f27.params.size) : Rows.fallTellsSpec.fn H ds = { results := [.lit (.bool true)], args := ds } := by
  have h : ds.length = 3 := h
  match ds, h with
  | [d0, d1, d2], _ => rfl
theorem hres : Try.f27.resultTypes = #[4] := rfl
theorem hread : Try.f27.params.toList.all (fun t => Try.prog.readableRec t && decide (t < Try.prog.types.size)) = true := by kernel_rfl
theorem wv (os : Os) : (World.plainHolding Try.prog os ⟨#[], #[.agg #[.int .i64 0, .int .i64 0, .slice none 0 0, .slice none 0 0, .int .i64 0], .agg #[.int .i64 0, .int .i64 0, .slice none 0 0], .slice none 0 0], []⟩).variablesB Try.prog = true := by kernel_rfl
theorem wr (os : Os) : ((World.plainHolding Try.prog os ⟨#[], #[.agg #[.int .i64 0, .int .i64 0, .slice none 0 0, .slice none 0 0, .int .i64 0], .agg #[.int .i64 0, .int .i64 0, .slice none 0 0], .slice none 0 0], []⟩).heap.toList.drop Try.prog.globals.size).take ((begin Try.prog (fun _ _ => 0) default).world.heap.size - Try.prog.globals.size) =
      (begin Try.prog (fun _ _ => 0) default).world.heap.toList.drop Try.prog.globals.size := by kernel_rfl
theorem wok (os : Os) : Input.okWideB Try.prog (World.plainHolding Try.prog os ⟨#[], #[.agg #[.int .i64 0, .int .i64 0, .slice none 0 0, .slice none 0 0, .int .i64 0], .agg #[.int .i64 0, .int .i64 0, .slice none 0 0], .slice none 0 0], []⟩) 27 ⟨#[], #[.agg #[.int .i64 0, .int .i64 0, .slice none 0 0, .slice none 0 0, .int .i64 0], .agg #[.int .i64 0, .int .i64 0, .slice none 0 0], .slice none 0 0], []⟩ = true := by kernel_rfl
theorem wx {H : Type} (enc : TypeId × Value → H) (os : Os) : DataW.whole enc Try.prog (World.plainHolding Try.prog os ⟨#[], #[.agg #[.int .i64 0, .int .i64 0, .slice none 0 0, .slice none 0 0, .int .i64 0], .agg #[.int .i64 0, .int .i64 0, .slice none 0 0], .slice none 0 0], []⟩).memory Try.f27.params.toList (Rows.OpenSpec.upto Rows.fallTellsSpec).vars false (#[.agg #[.int .i64 0, .int .i64 0, .slice none 0 0, .slice none 0 0, .int .i64 0], .agg #[.int .i64 0, .int .i64 0, .slice none 0 0], .slice none 0 0] : Array Value).toList 8 = some ([.agg [.lit (.int .i64 0), .lit (.int .i64 0), .nil, .nil, .lit (.int .i64 0)], .agg [.lit (.int .i64 0), .lit (.int .i64 0), .nil], .nil], [], []) := by kernel_rfl
theorem wsz {H : Type} (enc : TypeId × Value → H) (os : Os) : (Rows.OpenSpec.upto Rows.fallTellsSpec).bare.sizedB enc Try.prog Try.f27 false (World.plainHolding Try.prog os ⟨#[], #[.agg #[.int .i64 0, .int .i64 0, .slice none 0 0, .slice none 0 0, .int .i64 0], .agg #[.int .i64 0, .int .i64 0, .slice none 0 0], .slice none 0 0], []⟩).memory #[.agg #[.int .i64 0, .int .i64 0, .slice none 0 0, .slice none 0 0, .int .i64 0], .agg #[.int .i64 0, .int .i64 0, .slice none 0 0], .slice none 0 0] 8 = true := by kernel_rfl
theorem wk (H : Type) : Rows.uptoSmall H ([.agg [.lit (.int .i64 0), .lit (.int .i64 0), .nil, .nil, .lit (.int .i64 0)], .agg [.lit (.int .i64 0), .lit (.int .i64 0), .nil], .nil] ++ []) = true := by kernel_rfl
theorem lifted (os : Os) (started : os.Started) (H : Type) (enc : TypeId × Value → H) (F : Stop.Interp) :
    ReturnsInHanded {} Try.checked os 27 .any ((Rows.OpenSpec.upto Rows.fallTellsSpec).pre6 enc Try.prog Try.f27 Rows.fallTellsUptoRow.domain false) (((Rows.OpenSpec.upto Rows.fallTellsSpec).at F).post enc Try.prog Try.f27 false true false false) :=
  law_lifted_upto (C := Try.checked) (s := Rows.OpenSpec.upto Rows.fallTellsSpec) (cs := Rows.fallTellsSpec) (F := F) (k := Rows.uptoSmall) (B := 1048576) rfl (hat F) hsv hkb own started noInit Try.func27 rfl
    hs hres Try.underlying4 laidOut hread tys
    (OpenSpec.witness (enc := enc) (C := Try.checked) (s := Rows.OpenSpec.upto Rows.fallTellsSpec) (k := Rows.uptoSmall) rfl false ⟨#[], #[.agg #[.int .i64 0, .int .i64 0, .slice none 0 0, .slice none 0 0, .int .i64 0], .agg #[.int .i64 0, .int .i64 0, .slice none 0 0], .slice none 0 0], []⟩ 8 (wv os) (wr os) (wok os)
      (wx enc os) rfl (wk H) (wsz enc os)) contract
theorem inPlace : Rows.fallTellsUptoRow.inPlace = Try.prog.inPlace 27 := by kernel_rfl
theorem unfollowed : Rows.fallTellsUptoRow.unfollowed = Try.prog.unfollowed 27 := by kernel_rfl
theorem recurses : Rows.fallTellsUptoRow.recurses = Try.prog.recurses 27 := by kernel_rfl
theorem named : Rows.fallTellsUptoRow.named = Try.prog.varsNamed 27 := by kernel_rfl
theorem closed : joinedFacts Try.prog 27 Try.f27 (Rows.OpenSpec.upto Rows.fallTellsSpec).bare Rows.fallTellsUptoRow = true :=
  facts.joined inPlace unfollowed recurses named rfl rfl rfl (by kernel_rfl) (by kernel_rfl) (by kernel_rfl)
theorem instanceOf : Try.f27.isInstance Try.prog Rows.fallTellsUptoRow.origin Rows.fallTellsUptoRow.targs := of_decide_eq_true (by kernel_rfl)
theorem outside : (Check.packageOf Try.f27.name == "main") = false := by kernel_rfl
theorem funcNamed : Try.prog.funcNamed Rows.fallTellsUptoRow.func = some 27 := by kernel_rfl
theorem over : Rows.fallTellsUptoRow.holds Try.pinned (Rows.OpenSpec.upto Rows.fallTellsSpec) :=
  OpenClaim.holds_of_cond 27 Try.f27 rfl rfl rfl rfl rfl rfl rfl ⟨rfl, rfl, rfl, rfl, rfl⟩ rfl rfl rfl rfl rfl funcNamed Try.func27 closed instanceOf (by unfold Func.isWrapper; rw [if_neg (ne_of_beq_false outside)]; exact ⟨rfl, rfl⟩)
    (fun os started H enc _ F => lifted os started H enc F)
theorem proved : Rows.FallTellsUptoSaid := over
#print axioms proved
end Go.Proofs.Ytpdajkbfemcdlaa.fallTells
namespace Go.Proofs.Ytpdajkbfemcdlaa
/-- The row, under a short name, for the claim. -/
theorem fallTells_holds : Rows.FallTellsUptoSaid := fallTells.proved
end Go.Proofs.Ytpdajkbfemcdlaa
