/- what a controller knows that comes back with any bytes as a log, or with a book of events, is what the second implementation says -/
import Derived.Test.YtpdajkbfemcdlaaRows
import Derived.Test.YtpdajkbfemcdlaaGeD
import Derived.Test.YtpdajkbfemcdlaaZB2
import Derived.Test.YtpdajkbfemcdlaaFacts
import Derived.JoinedCond
set_option linter.unusedVariables false
set_option linter.unusedSimpArgs false
namespace Go.Proofs.Ytpdajkbfemcdlaa.bulk
open Go.Ge
mutual
theorem b1 {H : Type} : ∀ d : DataW H, Rows.uptoBulk d = bulkD d
  | .lit (.string _) => by simp [Rows.uptoBulk, bulkD]
  | .lit (.int ..) | .lit (.bool _) | .lit (.float ..) | .lit .nil => by simp [Rows.uptoBulk, bulkD]
  | .nil => by simp [Rows.uptoBulk, bulkD]
  | .ptr d => by simp only [Rows.uptoBulk, bulkD, b1 d]
  | .slice a b => by simp only [Rows.uptoBulk, bulkD, b2 a, b2 b]
  | .agg a => by simp only [Rows.uptoBulk, bulkD, b2 a]
  | .iface _ d => by simp only [Rows.uptoBulk, bulkD, b1 d]
  | .map l => by simp only [Rows.uptoBulk, bulkD, b3 l]
  | .held _ => by simp [Rows.uptoBulk, bulkD]
theorem b2 {H : Type} : ∀ l : List (DataW H), Rows.uptoBulkAll l = bulkDs l
  | [] => by simp [Rows.uptoBulkAll, bulkDs]
  | d :: r => by simp only [Rows.uptoBulkAll, bulkDs, b1 d, b2 r]
theorem b3 {H : Type} : ∀ l : List (Lit × DataW H), Rows.uptoBulkEntries l = bulkDe l
  | [] => by simp [Rows.uptoBulkEntries, bulkDe]
  | x :: r => by simp only [Rows.uptoBulkEntries, bulkDe, b4 x, b3 r]
theorem b4 {H : Type} : ∀ x : Lit × DataW H, Rows.uptoBulkEntry x = bulkD1 x
  | (.string _, d) => by simp only [Rows.uptoBulkEntry, bulkD1, b1 d]
  | (.int .., d) | (.bool _, d) | (.float .., d) | (.nil, d) => by simp only [Rows.uptoBulkEntry, bulkD1, b1 d]
end
end Go.Proofs.Ytpdajkbfemcdlaa.bulk
namespace Go.Proofs.Ytpdajkbfemcdlaa.fallBack
open Go.Ge
theorem own : ownKnob Try.prog.godebug = none := facts.own
theorem laidOut : laidOutB Try.prog = true := facts.laidOut
theorem tys : argTys Try.prog Try.f29.params.toList = some [(false, [.slice 1 false [.int .u8]]), (false, [.slice 40 true [.int .i64, .int .i64, .slice 16 true [.int .i64, .int .i64]]])] := by kernel_rfl
theorem contract : ∀ xs : List AVal, HasA [(false, [.slice 1 false [.int .u8]]), (false, [.slice 40 true tyEvent])] xs → bulkVs xs ≤ 1048576 → ACalls Try.prog 29 xs [] (fun r _ => r = .bool true) := by
  intro xs h hb
  obtain ⟨c1, _, rfl, h1, h⟩ := hasA1 h
  obtain ⟨c2, _, rfl, h2, h⟩ := hasA1 h
  obtain rfl := hasA0 h
  obtain ⟨o, b, e1, ho, hu, hl⟩ := arg_bytes h1
  obtain ⟨oe, l, ys, e2, hoe, hE, hc, hll⟩ := arg_events h2
  rw [e1, e2] at hb ⊢
  have b1 := bulk_ints (k := .u8) b
  simp only [bulkVs, bulkV] at hb
  unfold reachBytes at hc hll
  exact ACalls.mono (FallBack_ok o oe b l ys ho.1 hu (by omega) hoe.1 hE (fun e he => by have := hc e he; omega) (by omega) []) fun r h' hh => hh.1
theorem noInit : Try.prog.inits.idxOf? 29 = none := by kernel_rfl
theorem hat (F : Stop.Interp) : (Rows.OpenSpec.upto Rows.fallBackSpec).at F = Rows.fallBackSpec := rfl
theorem hsv : (Rows.OpenSpec.upto Rows.fallBackSpec).vars = Rows.fallBackSpec.vars := rfl
theorem hkb {H : Type} (ds : List (DataW H)) (h : Rows.uptoSmall H ds = true) : bulkDs ds ≤ 1048576 := by have := of_decide_eq_true h; rwa [bulk.b2] at this
theorem hs {H : Type} (ds : List (DataW H)) (h : ds.length = Try.f29.params.size) : Rows.fallBackSpec.fn H ds = { results := [.lit (.bool true)], args := ds } := by
  have h : ds.length = 2 := h
  match ds, h with
  | [d0, d1], _ => rfl
theorem hres : Try.f29.resultTypes = #[4] := rfl
theorem hread : Try.f29.params.toList.all (fun t => Try.prog.readableRec t && decide (t < Try.prog.types.size)) = true := by kernel_rfl
theorem wv (os : Os) : (World.plainHolding Try.prog os ⟨#[], #[.slice none 0 0, .slice none 0 0], []⟩).variablesB Try.prog = true := by kernel_rfl
theorem wr (os : Os) : ((World.plainHolding Try.prog os ⟨#[], #[.slice none 0 0, .slice none 0 0], []⟩).heap.toList.drop Try.prog.globals.size).take ((begin Try.prog (fun _ _ => 0) default).world.heap.size - Try.prog.globals.size) =
      (begin Try.prog (fun _ _ => 0) default).world.heap.toList.drop Try.prog.globals.size := by kernel_rfl
theorem wok (os : Os) : Input.okWideB Try.prog (World.plainHolding Try.prog os ⟨#[], #[.slice none 0 0, .slice none 0 0], []⟩) 29 ⟨#[], #[.slice none 0 0, .slice none 0 0], []⟩ = true := by kernel_rfl
theorem wx {H : Type} (enc : TypeId × Value → H) (os : Os) : DataW.whole enc Try.prog (World.plainHolding Try.prog os ⟨#[], #[.slice none 0 0, .slice none 0 0], []⟩).memory Try.f29.params.toList (Rows.OpenSpec.upto Rows.fallBackSpec).vars false (#[.slice none 0 0, .slice none 0 0] : Array Value).toList 8 = some ([.nil, .nil], [], []) := by kernel_rfl
theorem wsz {H : Type} (enc : TypeId × Value → H) (os : Os) : (Rows.OpenSpec.upto Rows.fallBackSpec).bare.sizedB enc Try.prog Try.f29 false (World.plainHolding Try.prog os ⟨#[], #[.slice none 0 0, .slice none 0 0], []⟩).memory #[.slice none 0 0, .slice none 0 0] 8 = true := by kernel_rfl
theorem wk (H : Type) : Rows.uptoSmall H ([.nil, .nil] ++ []) = true := by kernel_rfl
theorem lifted (os : Os) (started : os.Started) (H : Type) (enc : TypeId × Value → H) (F : Stop.Interp) :
    ReturnsInHanded {} Try.checked os 29 .any ((Rows.OpenSpec.upto Rows.fallBackSpec).pre6 enc Try.prog Try.f29 Rows.fallBackUptoRow.domain false) (((Rows.OpenSpec.upto Rows.fallBackSpec).at F).post enc Try.prog Try.f29 false true false false) :=
  law_lifted_upto (C := Try.checked) (s := Rows.OpenSpec.upto Rows.fallBackSpec) (cs := Rows.fallBackSpec) (F := F) (k := Rows.uptoSmall) (B := 1048576) rfl (hat F) hsv hkb own started noInit Try.func29 rfl
    hs hres Try.underlying4 laidOut hread tys
    (OpenSpec.witness (enc := enc) (C := Try.checked) (s := Rows.OpenSpec.upto Rows.fallBackSpec) (k := Rows.uptoSmall) rfl false ⟨#[], #[.slice none 0 0, .slice none 0 0], []⟩ 8 (wv os) (wr os) (wok os)
      (wx enc os) rfl (wk H) (wsz enc os)) contract
theorem inPlace : Rows.fallBackUptoRow.inPlace = Try.prog.inPlace 29 := by kernel_rfl
theorem unfollowed : Rows.fallBackUptoRow.unfollowed = Try.prog.unfollowed 29 := by kernel_rfl
theorem recurses : Rows.fallBackUptoRow.recurses = Try.prog.recurses 29 := by kernel_rfl
theorem named : Rows.fallBackUptoRow.named = Try.prog.varsNamed 29 := by kernel_rfl
theorem closed : joinedFacts Try.prog 29 Try.f29 (Rows.OpenSpec.upto Rows.fallBackSpec).bare Rows.fallBackUptoRow = true :=
  facts.joined inPlace unfollowed recurses named rfl rfl rfl (by kernel_rfl) (by kernel_rfl) (by kernel_rfl)
theorem instanceOf : Try.f29.isInstance Try.prog Rows.fallBackUptoRow.origin Rows.fallBackUptoRow.targs := of_decide_eq_true (by kernel_rfl)
theorem outside : (Check.packageOf Try.f29.name == "main") = false := by kernel_rfl
theorem funcNamed : Try.prog.funcNamed Rows.fallBackUptoRow.func = some 29 := by kernel_rfl
theorem over : Rows.fallBackUptoRow.holds Try.pinned (Rows.OpenSpec.upto Rows.fallBackSpec) :=
  OpenClaim.holds_of_cond 29 Try.f29 rfl rfl rfl rfl rfl rfl rfl ⟨rfl, rfl, rfl, rfl, rfl⟩ rfl rfl rfl rfl rfl funcNamed Try.func29 closed instanceOf (by unfold Func.isWrapper; rw [if_neg (ne_of_beq_false outside)]; exact ⟨rfl, rfl⟩)
    (fun os started H enc _ F => lifted os started H enc F)
theorem proved : Rows.FallBackUptoSaid := over
#print axioms proved
end Go.Proofs.Ytpdajkbfemcdlaa.fallBack
namespace Go.Proofs.Ytpdajkbfemcdlaa
theorem fallBack_holds : Rows.FallBackUptoSaid := fallBack.proved
end Go.Proofs.Ytpdajkbfemcdlaa
