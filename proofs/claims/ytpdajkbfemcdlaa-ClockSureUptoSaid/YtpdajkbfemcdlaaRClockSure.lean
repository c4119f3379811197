/- Readings of clocks that lose few ticks are put in order only as the true times are: for every input of bulk at most 1048576 the call returns true and each argument reads as before; condition: the bound on the bulk. -/
import Derived.Test.YtpdajkbfemcdlaaRows
import Derived.Test.YtpdajkbfemcdlaaGeTypes
import Derived.Test.YtpdajkbfemcdlaaL1
import Derived.Test.YtpdajkbfemcdlaaFacts
import Derived.JoinedCond
set_option linter.unusedVariables false
set_option linter.unusedSimpArgs false
namespace Go.Proofs.Ytpdajkbfemcdlaa.bulk
open Go.Ge
mutual
theorem b1 {H : Type} : ∀ d : DataW H, Rows.uptoBulk d = bulkD d
  | .lit (.string _) => by simp [Rows.uptoBulk, bulkD]
  | .lit (.int ..) | .lit (.bool _) | .lit (.float ..) | .lit .nil => by simp [Rows.uptoBulk, bulkD]
  | .nil => by simp [Rows.uptoBulk, bulkD]
  | .ptr d => by simp only [Rows.uptoBulk, bulkD, b1 d]
  | .slice a b => by simp only [Rows.uptoBulk, bulkD, b2 a, b2 b]
  | .agg a => by simp only [Rows.uptoBulk, bulkD, b2 a]
  | .iface _ d => by simp only [Rows.uptoBulk, bulkD, b1 d]
  | .map l => by simp only [Rows.uptoBulk, bulkD, b3 l]
  | .held _ => by simp [Rows.uptoBulk, bulkD]
theorem b2 {H : Type} : ∀ l : List (DataW H), Rows.uptoBulkAll l = bulkDs l
  | [] => by simp [Rows.uptoBulkAll, bulkDs]
  | d :: r => by simp only [Rows.uptoBulkAll, bulkDs, b1 d, b2 r]
theorem b3 {H : Type} : ∀ l : List (Lit × DataW H), Rows.uptoBulkEntries l = bulkDe l
  | [] => by simp [Rows.uptoBulkEntries, bulkDe]
  | x :: r => by simp only [Rows.uptoBulkEntries, bulkDe, b4 x, b3 r]
theorem b4 {H : Type} : ∀ x : Lit × DataW H, Rows.uptoBulkEntry x = bulkD1 x
  | (.string _, d) => by simp only [Rows.uptoBulkEntry, bulkD1, b1 d]
  | (.int .., d) | (.bool _, d) | (.float .., d) | (.nil, d) => by simp only [Rows.uptoBulkEntry, bulkD1, b1 d]
end
end Go.Proofs.Ytpdajkbfemcdlaa.bulk
namespace Go.Proofs.Ytpdajkbfemcdlaa.clockSure
open Go.Ge
theorem own : ownKnob Try.prog.godebug = none := facts.own
theorem laidOut : laidOutB Try.prog = true := facts.laidOut
theorem tys : argTys Try.prog Try.f3.params.toList = some [(false, [.int .u32]), (false, [.int .i64]), (false, [.int .i64]), (false, [.slice 24 true [.int .i64, .int .i64, .int .i64]]), (false, [.int .i64])] := by kernel_rfl
theorem contract : ∀ xs : List AVal, HasA [(false, [.int .u32]), (false, [.int .i64]), (false, [.int .i64]), (false, [.slice 24 true tyFault]), (false, [.int .i64])] xs → bulkVs xs ≤ 1048576 → ACalls Try.prog 3 xs [] (fun r _ => r = .bool true) := by
  intro xs h hb
  obtain ⟨c1, _, rfl, h1, h⟩ := hasA1 h
  obtain ⟨c2, _, rfl, h2, h⟩ := hasA1 h
  obtain ⟨c3, _, rfl, h3, h⟩ := hasA1 h
  obtain ⟨c4, _, rfl, h4, h⟩ := hasA1 h
  obtain ⟨c5, _, rfl, h5, h⟩ := hasA1 h
  obtain rfl := hasA0 h
  obtain ⟨a, e1, w1⟩ := arg_u32 h1
  obtain ⟨t, e2, w2⟩ := arg_i64 h2
  obtain ⟨u, e3, w3⟩ := arg_i64 h3
  obtain ⟨o, l, e4, ho, _, _⟩ := arg_faults h4
  obtain ⟨k, e5, w5⟩ := arg_i64 h5
  rw [e1, e2, e3, e4, e5] at hb ⊢
  have := bulk_faults l
  simp only [bulkVs, bulkV] at hb
  exact ClockSure_law a t u k o l ho w1 w2 w3 w5 (by omega)
theorem noInit : Try.prog.inits.idxOf? 3 = none := by kernel_rfl
theorem hat (F : Stop.Interp) : (Rows.OpenSpec.upto Rows.clockSureSpec).at F = Rows.clockSureSpec := rfl
theorem hsv : (Rows.OpenSpec.upto Rows.clockSureSpec).vars = Rows.clockSureSpec.vars := rfl
theorem hkb {H : Type} (ds : List (DataW H)) (h : Rows.uptoSmall H ds = true) : bulkDs ds ≤ 1048576 := by have := of_decide_eq_true h; rwa [bulk.b2] at this
theorem hs {H : Type} (ds : List (DataW H)) (h : ds.length = Try.f3.params.size) : Rows.clockSureSpec.fn H ds = { results := [.lit (.bool true)], args := ds } := by
  have h : ds.length = 5 := h
  match ds, h with
  | [d0, d1, d2, d3, d4], _ => rfl
theorem hres : Try.f3.resultTypes = #[4] := rfl
theorem hread : Try.f3.params.toList.all (fun t => Try.prog.readableRec t && decide (t < Try.prog.types.size)) = true := by kernel_rfl
theorem wv (os : Os) : (World.plainHolding Try.prog os ⟨#[], #[.int .u32 0, .int .i64 0, .int .i64 0, .slice none 0 0, .int .i64 0], []⟩).variablesB Try.prog = true := by kernel_rfl
theorem wr (os : Os) : ((World.plainHolding Try.prog os ⟨#[], #[.int .u32 0, .int .i64 0, .int .i64 0, .slice none 0 0, .int .i64 0], []⟩).heap.toList.drop Try.prog.globals.size).take ((begin Try.prog (fun _ _ => 0) default).world.heap.size - Try.prog.globals.size) =
      (begin Try.prog (fun _ _ => 0) default).world.heap.toList.drop Try.prog.globals.size := by kernel_rfl
theorem wok (os : Os) : Input.okWideB Try.prog (World.plainHolding Try.prog os ⟨#[], #[.int .u32 0, .int .i64 0, .int .i64 0, .slice none 0 0, .int .i64 0], []⟩) 3 ⟨#[], #[.int .u32 0, .int .i64 0, .int .i64 0, .slice none 0 0, .int .i64 0], []⟩ = true := by kernel_rfl
theorem wx {H : Type} (enc : TypeId × Value → H) (os : Os) : DataW.whole enc Try.prog (World.plainHolding Try.prog os ⟨#[], #[.int .u32 0, .int .i64 0, .int .i64 0, .slice none 0 0, .int .i64 0], []⟩).memory Try.f3.params.toList (Rows.OpenSpec.upto Rows.clockSureSpec).vars false (#[.int .u32 0, .int .i64 0, .int .i64 0, .slice none 0 0, .int .i64 0] : Array Value).toList 8 = some ([.lit (.int .u32 0), .lit (.int .i64 0), .lit (.int .i64 0), .nil, .lit (.int .i64 0)], [], []) := by kernel_rfl
theorem wsz {H : Type} (enc : TypeId × Value → H) (os : Os) : (Rows.OpenSpec.upto Rows.clockSureSpec).bare.sizedB enc Try.prog Try.f3 false (World.plainHolding Try.prog os ⟨#[], #[.int .u32 0, .int .i64 0, .int .i64 0, .slice none 0 0, .int .i64 0], []⟩).memory #[.int .u32 0, .int .i64 0, .int .i64 0, .slice none 0 0, .int .i64 0] 8 = true := by kernel_rfl
theorem wk (H : Type) : Rows.uptoSmall H ([.lit (.int .u32 0), .lit (.int .i64 0), .lit (.int .i64 0), .nil, .lit (.int .i64 0)] ++ []) = true := by kernel_rfl
theorem lifted (os : Os) (started : os.Started) (H : Type) (enc : TypeId × Value → H) (F : Stop.Interp) :
    ReturnsInHanded {} Try.checked os 3 .any ((Rows.OpenSpec.upto Rows.clockSureSpec).pre6 enc Try.prog Try.f3 Rows.clockSureUptoRow.domain false) (((Rows.OpenSpec.upto Rows.clockSureSpec).at F).post enc Try.prog Try.f3 false true false false) :=
  law_lifted_upto (C := Try.checked) (s := Rows.OpenSpec.upto Rows.clockSureSpec) (cs := Rows.clockSureSpec) (F := F) (k := Rows.uptoSmall) (B := 1048576) rfl (hat F) hsv hkb own started noInit Try.func3 rfl
    hs hres Try.underlying4 laidOut hread tys
    (OpenSpec.witness (enc := enc) (C := Try.checked) (s := Rows.OpenSpec.upto Rows.clockSureSpec) (k := Rows.uptoSmall) rfl false ⟨#[], #[.int .u32 0, .int .i64 0, .int .i64 0, .slice none 0 0, .int .i64 0], []⟩ 8 (wv os) (wr os) (wok os)
      (wx enc os) rfl (wk H) (wsz enc os)) contract
theorem inPlace : Rows.clockSureUptoRow.inPlace = Try.prog.inPlace 3 := by kernel_rfl
theorem unfollowed : Rows.clockSureUptoRow.unfollowed = Try.prog.unfollowed 3 := by kernel_rfl
theorem recurses : Rows.clockSureUptoRow.recurses = Try.prog.recurses 3 := by kernel_rfl
theorem named : Rows.clockSureUptoRow.named = Try.prog.varsNamed 3 := by kernel_rfl
theorem closed : joinedFacts Try.prog 3 Try.f3 (Rows.OpenSpec.upto Rows.clockSureSpec).bare Rows.clockSureUptoRow = true :=
  facts.joined inPlace unfollowed recurses named rfl rfl rfl (by kernel_rfl) (by kernel_rfl) (by kernel_rfl)
theorem instanceOf : Try.f3.isInstance Try.prog Rows.clockSureUptoRow.origin Rows.clockSureUptoRow.targs := of_decide_eq_true (by kernel_rfl)
theorem outside : (Check.packageOf Try.f3.name == "main") = false := by kernel_rfl
theorem funcNamed : Try.prog.funcNamed Rows.clockSureUptoRow.func = some 3 := by kernel_rfl
theorem over : Rows.clockSureUptoRow.holds Try.pinned (Rows.OpenSpec.upto Rows.clockSureSpec) :=
  OpenClaim.holds_of_cond 3 Try.f3 rfl rfl rfl rfl rfl rfl rfl ⟨rfl, rfl, rfl, rfl, rfl⟩ rfl rfl rfl rfl rfl funcNamed Try.func3 closed instanceOf (by unfold Func.isWrapper; rw [if_neg (ne_of_beq_false outside)]; exact ⟨rfl, rfl⟩)
    (fun os started H enc _ F => lifted os started H enc F)
theorem proved : Rows.ClockSureUptoSaid := over
#print axioms proved
end Go.Proofs.Ytpdajkbfemcdlaa.clockSure
namespace Go.Proofs.Ytpdajkbfemcdlaa
/-- The row, under a short name, for the claim. -/
theorem clockSure_holds : Rows.ClockSureUptoSaid := clockSure.proved
end Go.Proofs.Ytpdajkbfemcdlaa
