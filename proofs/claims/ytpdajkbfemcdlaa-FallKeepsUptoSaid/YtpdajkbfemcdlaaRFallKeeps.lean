/- events are kept, and what is said after a fall is what the second implementation says -/
import Derived.Test.YtpdajkbfemcdlaaRows
import Derived.Test.YtpdajkbfemcdlaaGeD
import Derived.Test.YtpdajkbfemcdlaaZB2
import Derived.Test.YtpdajkbfemcdlaaFacts
import Derived.JoinedCond
set_option linter.unusedVariables false
set_option linter.unusedSimpArgs false
namespace Go.Proofs.Ytpdajkbfemcdlaa.bulk
open Go.Ge
mutual
theorem b1 {H : Type} : ∀ d : DataW H, Rows.uptoBulk d = bulkD d
  | .lit (.string _) => by simp [Rows.uptoBulk, bulkD]
  | .lit (.int ..) | .lit (.bool _) | .lit (.float ..) | .lit .nil => by simp [Rows.uptoBulk, bulkD]
  | .nil => by simp [Rows.uptoBulk, bulkD]
  | .ptr d => by simp only [Rows.uptoBulk, bulkD, b1 d]
  | .slice a b => by simp only [Rows.uptoBulk, bulkD, b2 a, b2 b]
  | .agg a => by simp only [Rows.uptoBulk, bulkD, b2 a]
  | .iface _ d => by simp only [Rows.uptoBulk, bulkD, b1 d]
  | .map l => by simp only [Rows.uptoBulk, bulkD, b3 l]
  | .held _ => by simp [Rows.uptoBulk, bulkD]
theorem b2 {H : Type} : ∀ l : List (DataW H), Rows.uptoBulkAll l = bulkDs l
  | [] => by simp [Rows.uptoBulkAll, bulkDs]
  | d :: r => by simp only [Rows.uptoBulkAll, bulkDs, b1 d, b2 r]
theorem b3 {H : Type} : ∀ l : List (Lit × DataW H), Rows.uptoBulkEntries l = bulkDe l
  | [] => by simp [Rows.uptoBulkEntries, bulkDe]
  | x :: r => by simp only [Rows.uptoBulkEntries, bulkDe, b4 x, b3 r]
theorem b4 {H : Type} : ∀ x : Lit × DataW H, Rows.uptoBulkEntry x = bulkD1 x
  | (.string _, d) => by simp only [Rows.uptoBulkEntry, bulkD1, b1 d]
  | (.int .., d) | (.bool _, d) | (.float .., d) | (.nil, d) => by simp only [Rows.uptoBulkEntry, bulkD1, b1 d]
end
end Go.Proofs.Ytpdajkbfemcdlaa.bulk
namespace Go.Proofs.Ytpdajkbfemcdlaa.fallKeeps
open Go.Ge
theorem own : ownKnob Try.prog.godebug = none := facts.own
theorem laidOut : laidOutB Try.prog = true := facts.laidOut
theorem tys : argTys Try.prog Try.f30.params.toList = some [(true, [.int .i64, .int .i64, .slice 16 true [.int .i64, .int .i64], .slice 16 true [.int .i64, .int .i64], .int .i64]), (true, [.int .i64, .int .i64, .slice 16 true [.int .i64, .int .i64]]), (false, [.slice 1 false [.int .u8]]), (false, [.int .i64]), (false, [.int .i64]), (false, [.int .u32])] := by kernel_rfl
theorem contract : ∀ xs : List AVal, HasA [(true, tyMem), (true, tyEvent), (false, [.slice 1 false [.int .u8]]), (false, [.int .i64]), (false, [.int .i64]), (false, [.int .u32])] xs → bulkVs xs ≤ 1048576 → ACalls Try.prog 30 xs [] (fun r _ => r = .bool true) := by
  intro xs h hb
  obtain ⟨c1, _, rfl, h1, h⟩ := hasA1 h
  obtain ⟨c2, _, rfl, h2, h⟩ := hasA1 h
  obtain ⟨c3, _, rfl, h3, h⟩ := hasA1 h
  obtain ⟨c4, _, rfl, h4, h⟩ := hasA1 h
  obtain ⟨c5, _, rfl, h5, h⟩ := hasA1 h
  obtain ⟨c6, _, rfl, h6, h⟩ := hasA1 h
  obtain rfl := hasA0 h
  obtain ⟨oa, ob, m, e1, ha, hob, w⟩ := arg_mem h1
  obtain ⟨q, e, e2, hq, we⟩ := arg_event h2
  obtain ⟨o, b, e3, ho, hu, hl⟩ := arg_bytes h3
  obtain ⟨x4, e4, w4⟩ := arg_i64 h4
  obtain ⟨x5, e5, w5⟩ := arg_i64 h5
  obtain ⟨x6, e6, w6⟩ := arg_u32 h6
  rw [e1, e2, e3, e4, e5, e6] at hb ⊢
  have w1 := w.len1
  have w2 := w.len2
  have w3 := we.len
  have b1 := bulk_ints (k := .u8) b
  simp only [bulkVs, bulkV] at hb
  have w4' := w.len1
  unfold reachBytes at w1 w2 w3 hl
  exact ACalls.mono (FallKeeps_ok oa ob q o m e b x4 x5 x6 ha hob hq ho hu w4' (by omega) (by omega) (by omega) []) fun r h' hh => hh.1
theorem noInit : Try.prog.inits.idxOf? 30 = none := by kernel_rfl
theorem hat (F : Stop.Interp) : (Rows.OpenSpec.upto Rows.fallKeepsSpec).at F = Rows.fallKeepsSpec := rfl
theorem hsv : (Rows.OpenSpec.upto Rows.fallKeepsSpec).vars = Rows.fallKeepsSpec.vars := rfl
theorem hkb {H : Type} (ds : List (DataW H)) (h : Rows.uptoSmall H ds = true) : bulkDs ds ≤ 1048576 := by have := of_decide_eq_true h; rwa [bulk.b2] at this
theorem hs {H : Type} (ds : List (DataW H)) (h : ds.length = Try.f30.params.size) : Rows.fallKeepsSpec.fn H ds = { results := [.lit (.bool true)], args := ds } := by
  have h : ds.length = 6 := h
  match ds, h with
  | [d0, d1, d2, d3, d4, d5], _ => rfl
theorem hres : Try.f30.resultTypes = #[4] := rfl
theorem hread : Try.f30.params.toList.all (fun t => Try.prog.readableRec t && decide (t < Try.prog.types.size)) = true := by kernel_rfl
theorem wv (os : Os) : (World.plainHolding Try.prog os ⟨#[], #[.agg #[.int .i64 0, .int .i64 0, .slice none 0 0, .slice none 0 0, .int .i64 0], .agg #[.int .i64 0, .int .i64 0, .slice none 0 0], .slice none 0 0, .int .i64 0, .int .i64 0, .int .u32 0], []⟩).variablesB Try.prog = true := by kernel_rfl
theorem wr (os : Os) : ((World.plainHolding Try.prog os ⟨#[], #[.agg #[.int .i64 0, .int .i64 0, .slice none 0 0, .slice none 0 0, .int .i64 0], .agg #[.int .i64 0, .int .i64 0, .slice none 0 0], .slice none 0 0, .int .i64 0, .int .i64 0, .int .u32 0], []⟩).heap.toList.drop Try.prog.globals.size).take ((begin Try.prog (fun _ _ => 0) default).world.heap.size - Try.prog.globals.size) =
      (begin Try.prog (fun _ _ => 0) default).world.heap.toList.drop Try.prog.globals.size := by kernel_rfl
theorem wok (os : Os) : Input.okWideB Try.prog (World.plainHolding Try.prog os ⟨#[], #[.agg #[.int .i64 0, .int .i64 0, .slice none 0 0, .slice none 0 0, .int .i64 0], .agg #[.int .i64 0, .int .i64 0, .slice none 0 0], .slice none 0 0, .int .i64 0, .int .i64 0, .int .u32 0], []⟩) 30 ⟨#[], #[.agg #[.int .i64 0, .int .i64 0, .slice none 0 0, .slice none 0 0, .int .i64 0], .agg #[.int .i64 0, .int .i64 0, .slice none 0 0], .slice none 0 0, .int .i64 0, .int .i64 0, .int .u32 0], []⟩ = true := by kernel_rfl
theorem wx {H : Type} (enc : TypeId × Value → H) (os : Os) : DataW.whole enc Try.prog (World.plainHolding Try.prog os ⟨#[], #[.agg #[.int .i64 0, .int .i64 0, .slice none 0 0, .slice none 0 0, .int .i64 0], .agg #[.int .i64 0, .int .i64 0, .slice none 0 0], .slice none 0 0, .int .i64 0, .int .i64 0, .int .u32 0], []⟩).memory Try.f30.params.toList (Rows.OpenSpec.upto Rows.fallKeepsSpec).vars false (#[.agg #[.int .i64 0, .int .i64 0, .slice none 0 0, .slice none 0 0, .int .i64 0], .agg #[.int .i64 0, .int .i64 0, .slice none 0 0], .slice none 0 0, .int .i64 0, .int .i64 0, .int .u32 0] : Array Value).toList 8 = some ([.agg [.lit (.int .i64 0), .lit (.int .i64 0), .nil, .nil, .lit (.int .i64 0)], .agg [.lit (.int .i64 0), .lit (.int .i64 0), .nil], .nil, .lit (.int .i64 0), .lit (.int .i64 0), .lit (.int .u32 0)], [], []) := by kernel_rfl
theorem wsz {H : Type} (enc : TypeId × Value → H) (os : Os) : (Rows.OpenSpec.upto Rows.fallKeepsSpec).bare.sizedB enc Try.prog Try.f30 false (World.plainHolding Try.prog os ⟨#[], #[.agg #[.int .i64 0, .int .i64 0, .slice none 0 0, .slice none 0 0, .int .i64 0], .agg #[.int .i64 0, .int .i64 0, .slice none 0 0], .slice none 0 0, .int .i64 0, .int .i64 0, .int .u32 0], []⟩).memory #[.agg #[.int .i64 0, .int .i64 0, .slice none 0 0, .slice none 0 0, .int .i64 0], .agg #[.int .i64 0, .int .i64 0, .slice none 0 0], .slice none 0 0, .int .i64 0, .int .i64 0, .int .u32 0] 8 = true := by kernel_rfl
theorem wk (H : Type) : Rows.uptoSmall H ([.agg [.lit (.int .i64 0), .lit (.int .i64 0), .nil, .nil, .lit (.int .i64 0)], .agg [.lit (.int .i64 0), .lit (.int .i64 0), .nil], .nil, .lit (.int .i64 0), .lit (.int .i64 0), .lit (.int .u32 0)] ++ []) = true := by kernel_rfl
theorem lifted (os : Os) (started : os.Started) (H : Type) (enc : TypeId × Value → H) (F : Stop.Interp) :
    ReturnsInHanded {} Try.checked os 30 .any ((Rows.OpenSpec.upto Rows.fallKeepsSpec).pre6 enc Try.prog Try.f30 Rows.fallKeepsUptoRow.domain false) (((Rows.OpenSpec.upto Rows.fallKeepsSpec).at F).post enc Try.prog Try.f30 false true false false) :=
  law_lifted_upto (C := Try.checked) (s := Rows.OpenSpec.upto Rows.fallKeepsSpec) (cs := Rows.fallKeepsSpec) (F := F) (k := Rows.uptoSmall) (B := 1048576) rfl (hat F) hsv hkb own started noInit Try.func30 rfl
    hs hres Try.underlying4 laidOut hread tys
    (OpenSpec.witness (enc := enc) (C := Try.checked) (s := Rows.OpenSpec.upto Rows.fallKeepsSpec) (k := Rows.uptoSmall) rfl false ⟨#[], #[.agg #[.int .i64 0, .int .i64 0, .slice none 0 0, .slice none 0 0, .int .i64 0], .agg #[.int .i64 0, .int .i64 0, .slice none 0 0], .slice none 0 0, .int .i64 0, .int .i64 0, .int .u32 0], []⟩ 8 (wv os) (wr os) (wok os)
      (wx enc os) rfl (wk H) (wsz enc os)) contract
theorem inPlace : Rows.fallKeepsUptoRow.inPlace = Try.prog.inPlace 30 := by kernel_rfl
theorem unfollowed : Rows.fallKeepsUptoRow.unfollowed = Try.prog.unfollowed 30 := by kernel_rfl
theorem recurses : Rows.fallKeepsUptoRow.recurses = Try.prog.recurses 30 := by kernel_rfl
theorem named : Rows.fallKeepsUptoRow.named = Try.prog.varsNamed 30 := by kernel_rfl
theorem closed : joinedFacts Try.prog 30 Try.f30 (Rows.OpenSpec.upto Rows.fallKeepsSpec).bare Rows.fallKeepsUptoRow = true :=
  facts.joined inPlace unfollowed recurses named rfl rfl rfl (by kernel_rfl) (by kernel_rfl) (by kernel_rfl)
theorem instanceOf : Try.f30.isInstance Try.prog Rows.fallKeepsUptoRow.origin Rows.fallKeepsUptoRow.targs := of_decide_eq_true (by kernel_rfl)
theorem outside : (Check.packageOf Try.f30.name == "main") = false := by kernel_rfl
theorem funcNamed : Try.prog.funcNamed Rows.fallKeepsUptoRow.func = some 30 := by kernel_rfl
theorem over : Rows.fallKeepsUptoRow.holds Try.pinned (Rows.OpenSpec.upto Rows.fallKeepsSpec) :=
  OpenClaim.holds_of_cond 30 Try.f30 rfl rfl rfl rfl rfl rfl rfl ⟨rfl, rfl, rfl, rfl, rfl⟩ rfl rfl rfl rfl rfl funcNamed Try.func30 closed instanceOf (by unfold Func.isWrapper; rw [if_neg (ne_of_beq_false outside)]; exact ⟨rfl, rfl⟩)
    (fun os started H enc _ F => lifted os started H enc F)
theorem proved : Rows.FallKeepsUptoSaid := over
#print axioms proved
end Go.Proofs.Ytpdajkbfemcdlaa.fallKeeps
namespace Go.Proofs.Ytpdajkbfemcdlaa
theorem fallKeeps_holds : Rows.FallKeepsUptoSaid := fallKeeps.proved
end Go.Proofs.Ytpdajkbfemcdlaa
