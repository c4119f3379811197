/- For all graphs of at most so much bulk, rings and orders are those of the second implementation: for every input whose arguments hold at most 1048576 things the call returns true and each argument reads as before; condition: none. -/
import Derived.Test.YtpdajkbfemcdlaaRows
import Derived.Test.YtpdajkbfemcdlaaGeD
import Derived.Test.YtpdajkbfemcdlaaZB2
import Derived.Test.YtpdajkbfemcdlaaFacts
import Derived.JoinedCond
set_option linter.unusedVariables false
set_option linter.unusedSimpArgs false
namespace Go.Proofs.Ytpdajkbfemcdlaa.bulk
open Go.Ge
mutual
theorem b1 {H : Type} : ∀ d : DataW H, Rows.uptoBulk d = bulkD d
  | .lit (.string _) => by simp [Rows.uptoBulk, bulkD]
  | .lit (.int ..) | .lit (.bool _) | .lit (.float ..) | .lit .nil => by simp [Rows.uptoBulk, bulkD]
  | .nil => by simp [Rows.uptoBulk, bulkD]
  | .ptr d => by simp only [Rows.uptoBulk, bulkD, b1 d]
  | .slice a b => by simp only [Rows.uptoBulk, bulkD, b2 a, b2 b]
  | .agg a => by simp only [Rows.uptoBulk, bulkD, b2 a]
  | .iface _ d => by simp only [Rows.uptoBulk, bulkD, b1 d]
  | .map l => by simp only [Rows.uptoBulk, bulkD, b3 l]
  | .held _ => by simp [Rows.uptoBulk, bulkD]
theorem b2 {H : Type} : ∀ l : List (DataW H), Rows.uptoBulkAll l = bulkDs l
  | [] => by simp [Rows.uptoBulkAll, bulkDs]
  | d :: r => by simp only [Rows.uptoBulkAll, bulkDs, b1 d, b2 r]
theorem b3 {H : Type} : ∀ l : List (Lit × DataW H), Rows.uptoBulkEntries l = bulkDe l
  | [] => by simp [Rows.uptoBulkEntries, bulkDe]
  | x :: r => by simp only [Rows.uptoBulkEntries, bulkDe, b4 x, b3 r]
theorem b4 {H : Type} : ∀ x : Lit × DataW H, Rows.uptoBulkEntry x = bulkD1 x
  | (.string _, d) => by simp only [Rows.uptoBulkEntry, bulkD1, b1 d]
  | (.int .., d) | (.bool _, d) | (.float .., d) | (.nil, d) => by simp only [Rows.uptoBulkEntry, bulkD1, b1 d]
end
end Go.Proofs.Ytpdajkbfemcdlaa.bulk
namespace Go.Proofs.Ytpdajkbfemcdlaa.ringTells
open Go.Ge
theorem own : ownKnob Try.prog.godebug = none := facts.own
theorem laidOut : laidOutB Try.prog = true := facts.laidOut
theorem tys : argTys Try.prog Try.f23.params.toList = some [(false, [.slice 24 false [.slice 8 false [.int .i64]]])] := by kernel_rfl
theorem contract : ∀ xs : List AVal, HasA [(false, [.slice 24 false [.slice 8 false [.int .i64]]])] xs → bulkVs xs ≤ 1048576 → ACalls Try.prog 23 xs [] (fun r _ => r = .bool true) := by
  intro xs h hb
  obtain ⟨c1, _, rfl, h1, h⟩ := hasA1 h
  obtain rfl := hasA0 h
  obtain ⟨o, G, ys, e1, ho, hx⟩ := arg_rows h1
  rw [e1] at hb ⊢
  have b1 := bulk_rows hx
  simp only [bulkVs, bulkV] at hb
  exact RingTells_law o G ys ho.1 hx (fun r hr => by have := b1.1 r hr; omega) (by omega)
theorem noInit : Try.prog.inits.idxOf? 23 = none := by kernel_rfl
theorem hat (F : Stop.Interp) : (Rows.OpenSpec.upto Rows.ringTellsSpec).at F = Rows.ringTellsSpec := rfl
theorem hsv : (Rows.OpenSpec.upto Rows.ringTellsSpec).vars = Rows.ringTellsSpec.vars := rfl
theorem hkb {H : Type} (ds : List (DataW H)) (h : Rows.uptoSmall H ds = true) : bulkDs ds ≤ 1048576 := by have := of_decide_eq_true h; rwa [bulk.b2] at this
theorem hs {H : Type} (ds : List (DataW H)) (h : ds.length = Try.f23.params.size) : Rows.ringTellsSpec.fn H ds = { results := [.lit (.bool true)], args := ds } := by
  have h : ds.length = 1 := h
  match ds, h with
  | [d0], _ => rfl
theorem hres : Try.f23.resultTypes = #[4] := rfl
theorem hread : Try.f23.params.toList.all (fun t => Try.prog.readableRec t && decide (t < Try.prog.types.size)) = true := by kernel_rfl
theorem wv (os : Os) : (World.plainHolding Try.prog os ⟨#[], #[.slice none 0 0], []⟩).variablesB Try.prog = true := by kernel_rfl
theorem wr (os : Os) : ((World.plainHolding Try.prog os ⟨#[], #[.slice none 0 0], []⟩).heap.toList.drop Try.prog.globals.size).take ((begin Try.prog (fun _ _ => 0) default).world.heap.size - Try.prog.globals.size) =
      (begin Try.prog (fun _ _ => 0) default).world.heap.toList.drop Try.prog.globals.size := by kernel_rfl
theorem wok (os : Os) : Input.okWideB Try.prog (World.plainHolding Try.prog os ⟨#[], #[.slice none 0 0], []⟩) 23 ⟨#[], #[.slice none 0 0], []⟩ = true := by kernel_rfl
theorem wx {H : Type} (enc : TypeId × Value → H) (os : Os) : DataW.whole enc Try.prog (World.plainHolding Try.prog os ⟨#[], #[.slice none 0 0], []⟩).memory Try.f23.params.toList (Rows.OpenSpec.upto Rows.ringTellsSpec).vars false (#[.slice none 0 0] : Array Value).toList 8 = some ([.nil], [], []) := by kernel_rfl
theorem wsz {H : Type} (enc : TypeId × Value → H) (os : Os) : (Rows.OpenSpec.upto Rows.ringTellsSpec).bare.sizedB enc Try.prog Try.f23 false (World.plainHolding Try.prog os ⟨#[], #[.slice none 0 0], []⟩).memory #[.slice none 0 0] 8 = true := by kernel_rfl
theorem wk (H : Type) : Rows.uptoSmall H ([.nil] ++ []) = true := by kernel_rfl
theorem lifted (os : Os) (started : os.Started) (H : Type) (enc : TypeId × Value → H) (F : Stop.Interp) :
    ReturnsInHanded {} Try.checked os 23 .any ((Rows.OpenSpec.upto Rows.ringTellsSpec).pre6 enc Try.prog Try.f23 Rows.ringTellsUptoRow.domain false) (((Rows.OpenSpec.upto Rows.ringTellsSpec).at F).post enc Try.prog Try.f23 false true false false) :=
  law_lifted_upto (C := Try.checked) (s := Rows.OpenSpec.upto Rows.ringTellsSpec) (cs := Rows.ringTellsSpec) (F := F) (k := Rows.uptoSmall) (B := 1048576) rfl (hat F) hsv hkb own started noInit Try.func23 rfl
    hs hres Try.underlying4 laidOut hread tys
    (OpenSpec.witness (enc := enc) (C := Try.checked) (s := Rows.OpenSpec.upto Rows.ringTellsSpec) (k := Rows.uptoSmall) rfl false ⟨#[], #[.slice none 0 0], []⟩ 8 (wv os) (wr os) (wok os)
      (wx enc os) rfl (wk H) (wsz enc os)) contract
theorem inPlace : Rows.ringTellsUptoRow.inPlace = Try.prog.inPlace 23 := by kernel_rfl
theorem unfollowed : Rows.ringTellsUptoRow.unfollowed = Try.prog.unfollowed 23 := by kernel_rfl
theorem recurses : Rows.ringTellsUptoRow.recurses = Try.prog.recurses 23 := by kernel_rfl
theorem named : Rows.ringTellsUptoRow.named = Try.prog.varsNamed 23 := by kernel_rfl
theorem closed : joinedFacts Try.prog 23 Try.f23 (Rows.OpenSpec.upto Rows.ringTellsSpec).bare Rows.ringTellsUptoRow = true :=
  facts.joined inPlace unfollowed recurses named rfl rfl rfl (by kernel_rfl) (by kernel_rfl) (by kernel_rfl)
theorem instanceOf : Try.f23.isInstance Try.prog Rows.ringTellsUptoRow.origin Rows.ringTellsUptoRow.targs := of_decide_eq_true (by kernel_rfl)
theorem outside : (Check.packageOf Try.f23.name == "main") = false := by kernel_rfl
theorem funcNamed : Try.prog.funcNamed Rows.ringTellsUptoRow.func = some 23 := by kernel_rfl
theorem over : Rows.ringTellsUptoRow.holds Try.pinned (Rows.OpenSpec.upto Rows.ringTellsSpec) :=
  OpenClaim.holds_of_cond 23 Try.f23 rfl rfl rfl rfl rfl rfl rfl ⟨rfl, rfl, rfl, rfl, rfl⟩ rfl rfl rfl rfl rfl funcNamed Try.func23 closed instanceOf (by unfold Func.isWrapper; rw [if_neg (ne_of_beq_false outside)]; exact ⟨rfl, rfl⟩)
    (fun os started H enc _ F => lifted os started H enc F)
theorem proved : Rows.RingTellsUptoSaid := over
#print axioms proved
end Go.Proofs.Ytpdajkbfemcdlaa.ringTells
namespace Go.Proofs.Ytpdajkbfemcdlaa
/-- The row, under a short name, for the claim. -/
theorem ringTells_holds : Rows.RingTellsUptoSaid := ringTells.proved
end Go.Proofs.Ytpdajkbfemcdlaa
