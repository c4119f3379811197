import Derived.Test.YtpdajkbfemcdlaaZB1
/- Contracts: sets of cells: joined, met, less. -/
set_option linter.unusedSimpArgs false
set_option linter.unusedVariables false
set_option maxRecDepth 10000
namespace Go.Proofs.Ytpdajkbfemcdlaa
open Go.Ge Go.Sort
theorem sortedA_ok (o : Own) (L : List (List Cell)) (xs : List AVal) (ho : Rdo o) (hx : Each2 CellsOk L xs) (hne : 0 < L.length) (hl : L.length ≤ 65536) (hb : L.flatten.length < 65536) (h : List HObj) :
    ACalls Try.prog F.grid_sorted [.lst o xs] h (fun r h' => r = .lst (.app 2) (cellsA (normC L.flatten)) ∧ h' = h) := by
  have hcf : CmpOk F.grid_order orderC := fun a b h => order_ok a b h
  refine ACalls.gcn (ACalls.of_aw Try.func182 K.grid_sortedA (by simp [Try.f182]) ?_)
  generalize hQ : retQ R.grid_sortedA _ = Q
  simp (disch := first | assumption | omega) only [C.grid_sortedA, go_sem, ↓reduceIte, reduceCtorEq, reduceIte]
  refine callG_ok (ConcatCell_ok o L xs ho hx hne hl (by omega) _) (by simp (disch := first | assumption | omega) only [go_sem]) ?_
  rintro r h1 hr
  rcases hr with ⟨rfl, hnil, rfl⟩ | ⟨cap, hnn, rfl, hcap, rfl⟩
  · simp (disch := first | assumption | omega) only [go_sem, ↓reduceIte, reduceIte]
    refine callG_ok (SortEmpty_ok F.grid_order 0 0 0 _) (by simp (disch := first | assumption | omega) only [go_sem]) ?_
    rintro _ _ ⟨rfl, hhh⟩
    rw [hhh]
    clear hhh
    simp (disch := first | assumption | omega) only [go_sem, ↓reduceIte, Nat.reduceEqDiff, reduceIte]
    refine callG_ok (CompactShort_ok 0 0 0 0 (by omega) _) (by simp (disch := first | assumption | omega) only [go_sem]) ?_
    rintro _ _ ⟨rfl, hhh⟩
    rw [hhh]
    clear hhh
    simp (disch := first | assumption | omega) only [go_sem, ↓reduceIte, reduceIte]
    refine own_empty (id := 0) (off := 0) (cap := 0) (by simp (disch := first | assumption | omega) only [go_sem, ↓reduceIte, reduceIte]) (fun h => absurd rfl h) (fun h => by cases h) (by omega) ?_
    rintro hp hhp
    have hhp : hp = h1 := by
      rcases hhp with ⟨rfl, _⟩ | ⟨_, h0⟩
      · simp (disch := first | assumption | omega) only [go_sem]
      · exact absurd rfl h0
    subst hhp
    rw [aw_grab]
    simp (disch := first | assumption | omega) only [go_sem, ↓reduceIte, reduceIte]
    subst hQ
    simp (disch := first | assumption | omega) only [R.grid_sortedA, go_sem, ↓reduceIte, reduceIte]
    rw [hnil, normC_nil]
    exact ⟨[], by simp, by simp [AVal.ids, idsL], rfl⟩
  · generalize L.flatten = l at *
    have hpos : 0 < l.length := List.length_pos_iff.2 hnn
    simp (disch := first | assumption | omega) only [go_sem, ↓reduceIte, reduceIte]
    refine callG_ok (SortFunc_ok F.grid_order orderC hcf swoC antiC l h.length cap (List.replicate ((cap - l.length) * 2) .junk) _ (by simp (disch := first | assumption | omega) only [go_sem]) hb (idsRep _)) (by simp (disch := first | assumption | omega) only [go_sem]) ?_
    rintro _ _ ⟨rfl, rfl⟩
    have hsl : l.length = (sortC l).length := (sortC_len l).symm
    have hset : ∀ (x y : HObj), (h ++ [x]).set h.length y = h ++ [y] := fun x y => by simp
    simp (disch := first | assumption | omega) only [hset, go_sem, ↓reduceIte, Nat.reduceEqDiff, reduceIte]
    refine callG_ok (CompactN_ok (sortC l) l.length hsl.symm h.length cap (List.replicate ((cap - l.length) * 2) .junk) _ (by simp (disch := first | assumption | omega) only [go_sem]; simp [sortC]) (by omega) (by omega)) (by simp (disch := first | assumption | omega) only [go_sem]) ?_
    rintro _ _ ⟨rfl, rest', hrest, rfl⟩
    have hnl := normC_len l
    rw [List.length_replicate] at hrest
    have hrest2 : rest'.length + (normC l).length * 2 = (cap - l.length) * 2 + (sortC l).length * 2 := hrest
    rw [show dedupA (sortC l) = normC l from rfl]
    simp (disch := first | assumption | omega) only [hset, go_sem, ↓reduceIte, reduceIte]
    refine own_cells (cs := normC l) (cap := cap) (rest := rest') (id := h.length) (by simp (disch := first | assumption | omega) only [go_sem, ↓reduceIte, reduceIte]) (by simp (disch := first | assumption | omega) only [go_sem]) (by omega) (by omega) (by omega) ?_
    rw [aw_grab]
    simp (disch := first | assumption | omega) only [go_sem, ↓reduceIte, reduceIte]
    subst hQ
    simp (disch := first | assumption | omega) only [R.grid_sortedA, go_sem, ↓reduceIte, reduceIte]
    exact ⟨[.dead], by simp, by simp [AVal.ids, cells_ids]⟩
theorem Join_ok (o p : Own) (a b : List Cell) (ho : Rdn o a) (hp : Rdn p b) (hl : a.length + b.length < 65536) (h : List HObj) :
    ACalls Try.prog F.grid_Join [.lst o (cellsA a), .lst p (cellsA b)] h (fun v h' => v = .lst (.app 2) (cellsA (joinC a b)) ∧ h' = h) := by
  have ho1 := ho.1
  have hp1 := hp.1
  refine ACalls.of_aw Try.func178 K.grid_Join (by simp [Try.f178]) ?_
  generalize hQ : retQ R.grid_Join _ = Q
  simp (disch := first | assumption | omega) only [C.grid_Join, go_sem, ↓reduceIte, Nat.reduceEqDiff, reduceCtorEq, Nat.reduceAdd, Nat.reduceLeDiff, reduceIte, Int.reduceAdd, Int.reduceMul, Nat.reduceMul]
  refine callG_ok (sortedA_ok .sh [a, b] _ (.inl rfl) ⟨_, _, rfl, ⟨o, ho, rfl⟩, _, _, rfl, ⟨p, hp, rfl⟩, rfl⟩ (by simp) (by simp) (by simpa using hl) _) (by simp (disch := first | assumption | omega) only [go_sem]) ?_
  rintro _ _ ⟨rfl, hhh⟩
  rw [hhh]
  clear hhh
  simp (disch := first | assumption | omega) only [go_sem, ↓reduceIte, reduceIte]
  subst hQ
  simp (disch := first | assumption | omega) only [R.grid_Join, go_sem, ↓reduceIte, reduceIte]
  simp [joinC]
theorem filter_len (l : List Cell) (p : Cell → Bool) : (l.filter p).length ≤ l.length := List.length_filter_le _ _
theorem Minus_ok (o p : Own) (a b : List Cell) (ho : Rdn o a) (hp : Rdn p b) (hl : a.length + b.length < 65536) (h : List HObj) :
    ACalls Try.prog F.grid_Minus [.lst o (cellsA a), .lst p (cellsA b)] h (fun v h' => v = .lst (.app 2) (cellsA (minusC a b)) ∧ h' = h) := by
  have ho1 := ho.1
  have hp1 := hp.1
  have hnb := normC_len b
  have hna := normC_len a
  have hpred : ∀ bid, PredOk F.grid_Minus_1 [.hp bid 0] _ (HoldC bid (normC b)) := fun bid => isIn_ok (normC b) bid (normC_up b) (by omega)
  have hfil : (normC a).filter (fun c => !(decide (c ∈ normC b))) = minusC a b := by
    unfold minusC
    congr 1
    funext c
    simp [mem_normC]
  have hfl := filter_len (normC a) (fun c => !(decide (c ∈ normC b)))
  rw [hfil] at hfl
  refine ACalls.gcn (ACalls.of_aw Try.func143 K.grid_Minus (by simp [Try.f143]) ?_)
  generalize hQ : retQ R.grid_Minus _ = Q
  simp (disch := first | assumption | omega) only [C.grid_Minus, go_sem, ↓reduceIte, Nat.reduceEqDiff, Nat.reduceLeDiff, Nat.reduceLT, reduceIte, Int.reduceLT, Int.reduceMul, Nat.reduceMul]
  refine callG_ok (sortedA_ok .sh [b] _ (.inl rfl) ⟨_, _, rfl, ⟨p, hp, rfl⟩, rfl⟩ (by simp) (by simp) (by simp; omega) _) (by simp (disch := first | assumption | omega) only [go_sem]) ?_
  rintro _ _ ⟨rfl, hhh⟩
  rw [hhh]
  clear hhh
  have hfb : [b].flatten = b := by simp
  have hfa : [a].flatten = a := by simp
  rw [hfb]
  simp (disch := first | assumption | omega) only [go_sem, ↓reduceIte, Nat.reduceEqDiff, reduceCtorEq, Nat.reduceLeDiff, reduceIte, Int.reduceMul, Nat.reduceMul]
  refine callG_ok (sortedR_ok .sh [a] _ (.inl rfl) ⟨_, _, rfl, ⟨o, ho, rfl⟩, rfl⟩ (by simp) (by simp) (by simp; omega) _) (by simp (disch := first | assumption | omega) only [go_sem]) ?_
  intro r h1 hr
  rw [hfa] at hr
  rcases hr with ⟨rfl, rfl, rfl⟩ | ⟨cap, rest, rfl, hcap, hc0, hrest, rfl⟩
  · simp (disch := first | assumption | omega) only [go_sem, ↓reduceIte, Nat.reduceEqDiff, reduceIte]
    refine callG_ok (DeleteNone_ok _ _ 0 0 0 _) (by simp (disch := first | assumption | omega) only [go_sem]) ?_
    rintro _ _ ⟨rfl, hhh⟩
    rw [hhh]
    clear hhh
    simp (disch := first | assumption | omega) only [go_sem, ↓reduceIte, reduceIte]
    refine own_empty (id := 0) (off := 0) (cap := 0) (by simp (disch := first | assumption | omega) only [go_sem, ↓reduceIte, reduceIte]) (fun h => absurd rfl h) (fun h => by cases h) (by omega) ?_
    rintro hp2 hhp
    have hhp : hp2 = h ++ [.cells [.lst (.app 2) (cellsA (normC b))]] := by
      rcases hhp with ⟨rfl, _⟩ | ⟨_, h0⟩
      · simp (disch := first | assumption | omega) only [go_sem]
      · exact absurd rfl h0
    subst hhp
    rw [aw_grab]
    simp (disch := first | assumption | omega) only [go_sem, ↓reduceIte, reduceIte]
    subst hQ
    simp (disch := first | assumption | omega) only [R.grid_Minus, go_sem, ↓reduceIte, reduceIte]
    rw [← hfil, normC_nil]
    exact ⟨_, rfl, by simp [AVal.ids, idsL, cellsA], rfl⟩
  · simp (disch := first | assumption | omega) only [go_sem, ↓reduceIte, Nat.reduceEqDiff, reduceIte]
    refine callG_ok (DeleteFunc_ok _ _ _ _ (hpred h.length) (normC a) (h.length + 1) cap rest _ (by simp (disch := first | assumption | omega) only [go_sem]) (fun z => by simp (disch := first | assumption | omega) only [go_sem]; simp [HoldC]) (by omega) hcap) (by simp (disch := first | assumption | omega) only [go_sem]) ?_
    rintro _ _ ⟨rfl, rest', hrest', rfl⟩
    rw [hfil] at hrest' ⊢
    simp (disch := first | assumption | omega) only [go_sem, ↓reduceIte, reduceIte]
    refine own_cells (cs := minusC a b) (cap := cap) (rest := rest') (id := h.length + 1) (by simp (disch := first | assumption | omega) only [go_sem, ↓reduceIte, reduceIte]) (by simp (disch := first | assumption | omega) only [go_sem]) (by omega) (by omega) (by omega) ?_
    rw [aw_grab]
    simp (disch := first | assumption | omega) only [go_sem, ↓reduceIte, reduceIte]
    subst hQ
    simp (disch := first | assumption | omega) only [R.grid_Minus, go_sem, ↓reduceIte, reduceIte]
    refine ⟨[.cells [.lst (.app 2) (cellsA (normC b))], .dead], ?_, by simp [AVal.ids, cells_ids]⟩
    simp
theorem Within_ok (o p : Own) (a b : List Cell) (ho : Rdn o a) (hp : Rdn p b) (hl : a.length < 65536) (hl2 : b.length < 65536) (h : List HObj) :
    ACalls Try.prog F.grid_Within [.lst o (cellsA a), .lst p (cellsA b)] h (fun v h' => v = .bool (withinC a b) ∧ h' = h) := by
  have ho1 := ho.1
  have hp1 := hp.1
  have hnb := normC_len b
  refine ACalls.gcn (ACalls.of_aw Try.func147 K.grid_Within (by simp [Try.f147]) ?_)
  generalize hQ : retQ R.grid_Within _ = Q
  simp (disch := first | assumption | omega) only [C.grid_Within, go_sem, ↓reduceIte, Nat.reduceEqDiff, Nat.reduceLeDiff, Nat.reduceLT, reduceIte, Int.reduceLT, Int.reduceMul, Nat.reduceMul]
  refine callG_ok (sortedA_ok .sh [b] _ (.inl rfl) ⟨_, _, rfl, ⟨p, hp, rfl⟩, rfl⟩ (by simp) (by simp) (by simpa using hl2) _) (by simp (disch := first | assumption | omega) only [go_sem]) ?_
  rintro _ _ ⟨rfl, hhh⟩
  rw [hhh]
  clear hhh
  have hfb : [b].flatten = b := by simp
  rw [hfb]
  simp (disch := first | assumption | omega) only [go_sem, ↓reduceIte, Nat.reduceEqDiff, reduceCtorEq, Nat.reduceLeDiff, reduceIte]
  refine callG_ok (ContainsFunc_ok F.grid_Within_1 [.hp h.length 0] _ (HoldC h.length (normC b)) (notIn2_ok (normC b) h.length (normC_up b) (by omega)) o a ho1 _ (by simp (disch := first | assumption | omega) only [go_sem]; simp [HoldC]) (by omega)) (by simp (disch := first | assumption | omega) only [go_sem]) ?_
  rintro _ _ ⟨rfl, hhh⟩
  rw [hhh]
  clear hhh
  simp (disch := first | assumption | omega) only [go_sem, ↓reduceIte, reduceIte]
  subst hQ
  simp (disch := first | assumption | omega) only [R.grid_Within, go_sem, ↓reduceIte, reduceIte]
  refine ⟨_, rfl, by simp [AVal.ids], ?_⟩
  unfold withinC
  rw [← List.not_all_eq_any_not, Bool.not_not]
  congr 2
  funext c
  simp [mem_normC]
end Go.Proofs.Ytpdajkbfemcdlaa
/- Plain: events and what a controller knows. -/
set_option linter.unusedSimpArgs false
set_option linter.unusedVariables false
namespace Go.Proofs.Ytpdajkbfemcdlaa
open Go.Ge Go.Sort
abbrev Ev := Go.Ge.Event
def evF (e : Ev) : Int := if e.Kind < 1 ∨ e.Kind > 6 then 1 else if e.Kind = 1 ∧ (e.N < 0 ∨ e.N > 2147483647) ∨ e.Kind ≠ 1 ∧ e.N ≠ 0 then 2 else if e.Kind ≠ 3 ∧ e.Kind ≠ 5 ∧ 0 < e.Cells.length then 3 else cellsFault e.Cells
def memF (m : Mem) : Int := if m.Goal < 0 ∨ m.Ticks < 0 ∨ m.Falls < 0 then 1 else if cellsFault m.Asked ≠ 0 then cellsFault m.Asked else cellsFault m.Has
def mem0 : Mem := ⟨0, 0, [], [], 0⟩
def doF (m : Mem) (e : Ev) : Mem × Int :=
  if evF e ≠ 0 then (mem0, evF e) else if memF m ≠ 0 then (mem0, memF m) else
  if e.Kind = 1 then ({ m with Goal := e.N, Ticks := 0 }, 0)
  else if e.Kind = 2 then if m.Ticks ≥ 2000 then (mem0, 19) else ({ m with Ticks := m.Ticks + 1 }, 0)
  else if e.Kind = 3 then if 0 < m.Asked.length then (mem0, 7) else ({ m with Asked := minusC e.Cells m.Has }, 0)
  else if e.Kind = 4 then if cellsFault (joinC m.Has m.Asked) ≠ 0 then (mem0, 6) else ({ m with Has := joinC m.Has m.Asked, Asked := [] }, 0)
  else if e.Kind = 5 then if withinC e.Cells m.Has = false then (mem0, 4) else ({ m with Has := minusC m.Has e.Cells }, 0)
  else ({ m with Falls := IntKind.i64.wrap (m.Falls + 1) }, 0)
def evB (e : Ev) : List Int := (e.Kind % 256) :: (beBytes e.N 4 ++ cellsB e.Cells)
def evOf (b : List Int) : Ev := ⟨b.getD 0 0, val ((b.drop 1).take 4), cellsOf (b.drop 5)⟩
def ev0 : Ev := ⟨0, 0, []⟩
def rdE (b : List Int) : Int := if b.length < 5 then 14 else if b.length % 2 = 0 then 3 else evF (evOf b)
def rdEv (b : List Int) : Ev := if rdE b ≠ 0 then ev0 else evOf b
theorem evF_zero {e : Ev} (h : evF e = 0) : 1 ≤ e.Kind ∧ e.Kind ≤ 6 ∧ 0 ≤ e.N ∧ e.N ≤ 2147483647 ∧ cellsFault e.Cells = 0 := by
  unfold evF at h
  split at h
  · cases h
  split at h
  · cases h
  split at h
  · cases h
  refine ⟨?_, ?_, ?_, ?_, h⟩ <;> omega
theorem evB_length (e : Ev) : (evB e).length = 5 + 2 * e.Cells.length := by
  simp [evB, beBytes_length, cellsB_length]; omega
/-- What is done keeps what is right. -/
theorem minusC_up (a b : List Cell) : Up (minusC a b) := (normC_up a).filter _
theorem minus_fault {a b : List Cell} (h : cellsFault a = 0) : cellsFault (minusC a b) = 0 := by
  obtain ⟨h1, h2, h3⟩ := fault_up h
  refine fault_of ?_ (fun c hc => h2 c ?_) (minusC_up a b)
  · exact Nat.le_trans (List.length_filter_le _ _) (Nat.le_trans (normC_len a) h1)
  · exact (mem_normC a c).1 (List.mem_filter.1 hc).1
theorem memF_zero {m : Mem} : memF m = 0 ↔ 0 ≤ m.Goal ∧ 0 ≤ m.Ticks ∧ 0 ≤ m.Falls ∧ cellsFault m.Asked = 0 ∧ cellsFault m.Has = 0 := by
  unfold memF
  split
  · constructor
    · intro h; cases h
    · intro h; omega
  · split
    · constructor
      · intro h; contradiction
      · intro h; exact absurd h.2.2.2.1 (by assumption)
    · constructor
      · intro h; refine ⟨?_, ?_, ?_, ?_, h⟩ <;> omega
      · intro h; exact h.2.2.2.2
end Go.Proofs.Ytpdajkbfemcdlaa
/- Contracts: events, and what a controller knows. -/
set_option linter.unusedSimpArgs false
set_option linter.unusedVariables false
set_option maxRecDepth 10000
namespace Go.Proofs.Ytpdajkbfemcdlaa
open Go.Ge Go.Sort
def evF1 (e : Ev) : Int := if e.Kind < 1 ∨ e.Kind > 6 then 1 else if e.Kind = 1 ∧ (e.N < 0 ∨ e.N > 2147483647) ∨ e.Kind ≠ 1 ∧ e.N ≠ 0 then 2 else if e.Kind ≠ 3 ∧ e.Kind ≠ 5 ∧ 0 < e.Cells.length then 3 else 0
theorem evF_eq (e : Ev) : evF e = if evF1 e ≠ 0 then evF1 e else cellsFault e.Cells := by
  unfold evF evF1
  repeat' split
  all_goals first | rfl | contradiction | (exfalso; simp_all; done)
theorem FCheck_ok (o : Own) (e : Ev) (ho : Rdo o) (hl : e.Cells.length < 4611686018427387904) (h : List HObj) : ACalls Try.prog F.fall_Check [eventA o e] h (fun v h' => v = .int .i64 (evF e) ∧ h' = h) := by
  rw [evF_eq]
  refine ACalls.of_aw Try.func117 K.fall_Check (by simp [Try.f117]) ?_
  generalize hQ : retQ R.fall_Check _ = Q
  simp (disch := first | assumption | omega) only [C.fall_Check, go_sem, ↓reduceIte, Nat.reduceEqDiff, Nat.reduceLeDiff, reduceIte]
  simp (disch := first | assumption | omega) only [eventA, eventC, go_sem, Nat.reduceAdd, Int.reduceAdd]
  iterate 20 (all_goals (try ((first | refine aopsG_ifn (fun hb => ?_) (fun hb => ?_) | refine condG_ifn (fun hb => ?_) (fun hb => ?_) | refine aopsG_if (fun hb => ?_) (fun hb => ?_) | refine condG_if (fun hb => ?_) (fun hb => ?_) | refine aopsG_split (fun hb => ?_) (fun hb => ?_) | refine condG_split (fun hb => ?_) (fun hb => ?_)) <;> simp (disch := first | assumption | omega) only [hb, go_sem, ↓reduceIte, Nat.reduceEqDiff, Nat.reduceAdd, Nat.reduceLeDiff, Nat.reduceLT, reduceIte, Int.reduceLT, Int.reduceAdd, Int.reduceEq])))
  all_goals (try omega)
  all_goals first
    | (refine callG_ok (gridCheck_ok o e.Cells ho hl _) (by simp (disch := first | assumption | omega) only [go_sem]) ?_
       rintro _ _ ⟨rfl, hhh⟩
       rw [hhh]
       clear hhh
       simp (disch := first | assumption | omega) only [go_sem, ↓reduceIte, reduceIte]
       subst hQ
       simp (disch := first | assumption | omega) only [R.fall_Check, go_sem, ↓reduceIte, reduceIte]
       have : evF1 e = 0 := by unfold evF1; (repeat split) <;> omega
       rw [if_neg (by simp [this])])
    | (subst hQ
       simp (disch := first | assumption | omega) only [R.fall_Check, go_sem, ↓reduceIte, reduceIte]
       refine congrArg (AVal.int .i64) ?_
       have : evF1 e ≠ 0 := by unfold evF1; (repeat split) <;> omega
       rw [if_pos this]
       unfold evF1; (repeat split) <;> omega)
theorem Right_ok (o p : Own) (m : Mem) (ho : Rdo o) (hp : Rdo p) (hl : m.Asked.length < 4611686018427387904) (hl2 : m.Has.length < 4611686018427387904) (h : List HObj) : ACalls Try.prog F.fall_Right [memA o p m] h (fun v h' => v = .int .i64 (memF m) ∧ h' = h) := by
  unfold memF
  refine ACalls.of_aw Try.func120 K.fall_Right (by simp [Try.f120]) ?_
  generalize hQ : retQ R.fall_Right _ = Q
  simp (disch := first | assumption | omega) only [C.fall_Right, go_sem, ↓reduceIte, Nat.reduceEqDiff, Nat.reduceLeDiff, reduceIte]
  simp (disch := first | assumption | omega) only [memA, memC, go_sem, Nat.reduceAdd, Nat.reduceLT, Int.reduceLT, Int.reduceAdd]
  refine condG_if (fun h1 => ?_) fun h1 => ?_
  · simp (disch := first | assumption | omega) only [h1, go_sem]
    subst hQ
    simp (disch := first | assumption | omega) only [R.fall_Right, go_sem, ↓reduceIte, reduceIte]
    rw [if_pos (by omega)]
  simp (disch := first | assumption | omega) only [h1, go_sem, ↓reduceIte, Nat.reduceEqDiff, Nat.reduceAdd, Nat.reduceLeDiff, reduceIte, Int.reduceAdd]
  refine callG_ok (gridCheck_ok o m.Asked ho hl _) (by simp (disch := first | assumption | omega) only [go_sem]) ?_
  rintro _ _ ⟨rfl, hhh⟩
  rw [hhh]
  clear hhh
  simp (disch := first | assumption | omega) only [go_sem, ↓reduceIte, reduceIte]
  refine condG_ifn (fun h2 => ?_) fun h2 => ?_
  · simp (disch := first | assumption | omega) only [h2, go_sem, ↓reduceIte, Nat.reduceEqDiff, reduceIte]
    subst hQ
    simp (disch := first | assumption | omega) only [R.fall_Right, go_sem, ↓reduceIte, reduceIte]
    rw [if_neg (by omega)]
    split
    · rfl
    · rename_i h3; exact absurd h3 (by simp [h2])
  · simp (disch := first | assumption | omega) only [h2, go_sem, ↓reduceIte, Nat.reduceEqDiff, Nat.reduceAdd, Nat.reduceLeDiff, reduceIte, Int.reduceAdd]
    refine callG_ok (gridCheck_ok p m.Has hp hl2 _) (by simp (disch := first | assumption | omega) only [go_sem]) ?_
    rintro _ _ ⟨rfl, hhh⟩
    rw [hhh]
    clear hhh
    simp (disch := first | assumption | omega) only [go_sem, ↓reduceIte, reduceIte]
    subst hQ
    simp (disch := first | assumption | omega) only [R.fall_Right, go_sem, ↓reduceIte, reduceIte]
    rw [if_neg (by omega)]
    split
    · rename_i h3; exact absurd (by simpa using h2) h3
    · rfl
theorem FSame_ok (o1 p1 o2 p2 : Own) (a b : Mem) (h1 : Rdo o1) (k1 : Rdo p1) (h2 : Rdo o2) (k2 : Rdo p2) (l1 : a.Asked.length < 4611686018427387904) (l2 : b.Asked.length < 4611686018427387904) (l3 : a.Has.length < 4611686018427387904) (l4 : b.Has.length < 4611686018427387904) (h : List HObj) :
    ACalls Try.prog F.fall_Same [memA o1 p1 a, memA o2 p2 b] h (fun v h' => v = .bool (decide (a = b)) ∧ h' = h) := by
  refine ACalls.of_aw Try.func115 K.fall_Same (by simp [Try.f115]) ?_
  generalize hQ : retQ R.fall_Same _ = Q
  simp (disch := first | assumption | omega) only [C.fall_Same, go_sem, ↓reduceIte, Nat.reduceEqDiff, reduceCtorEq, Nat.reduceLeDiff, reduceIte]
  simp (disch := first | assumption | omega) only [memA, memC, go_sem, Nat.reduceAdd, Int.reduceAdd]
  by_cases c1 : a.Goal = b.Goal
  case neg =>
    simp (disch := first | assumption | omega) only [c1, go_sem, ↓reduceIte, Nat.reduceEqDiff, reduceIte]
    subst hQ
    simp (disch := first | assumption | omega) only [R.fall_Same, go_sem, ↓reduceIte, reduceIte]
    rw [decide_eq_false (fun e : a = b => c1 (by rw [e]))]
  by_cases c2 : a.Ticks = b.Ticks
  case neg =>
    simp (disch := first | assumption | omega) only [c1, c2, go_sem, ↓reduceIte, Nat.reduceEqDiff, Nat.reduceAdd, Nat.reduceLeDiff, reduceIte, Int.reduceAdd]
    subst hQ
    simp (disch := first | assumption | omega) only [R.fall_Same, go_sem, ↓reduceIte, reduceIte]
    rw [decide_eq_false (fun e : a = b => c2 (by rw [e]))]
  by_cases c3 : a.Falls = b.Falls
  case neg =>
    simp (disch := first | assumption | omega) only [c1, c2, c3, go_sem, ↓reduceIte, Nat.reduceEqDiff, Nat.reduceAdd, Nat.reduceLeDiff, Nat.reduceLT, reduceIte, Int.reduceLT, Int.reduceAdd]
    subst hQ
    simp (disch := first | assumption | omega) only [R.fall_Same, go_sem, ↓reduceIte, reduceIte]
    rw [decide_eq_false (fun e : a = b => c3 (by rw [e]))]
  simp (disch := first | assumption | omega) only [c1, c2, c3, go_sem, ↓reduceIte, Nat.reduceEqDiff, Nat.reduceAdd, Nat.reduceLeDiff, Nat.reduceLT, reduceIte, Int.reduceLT, Int.reduceAdd]
  refine callG_ok (EqualCell_ok o1 o2 a.Asked b.Asked h1 h2 l1 l2 _) (by simp (disch := first | assumption | omega) only [go_sem]) ?_
  rintro _ _ ⟨rfl, hhh⟩
  rw [hhh]
  clear hhh
  by_cases c4 : a.Asked = b.Asked
  case neg =>
    rw [decide_eq_false c4]
    simp (disch := first | assumption | omega) only [go_sem, ↓reduceIte, Nat.reduceEqDiff, reduceIte]
    subst hQ
    simp (disch := first | assumption | omega) only [R.fall_Same, go_sem, ↓reduceIte, reduceIte]
    rw [decide_eq_false (fun e : a = b => c4 (by rw [e]))]
  rw [decide_eq_true c4]
  simp (disch := first | assumption | omega) only [go_sem, ↓reduceIte, Nat.reduceEqDiff, Nat.reduceAdd, Nat.reduceLeDiff, reduceIte, Int.reduceAdd]
  refine callG_ok (EqualCell_ok p1 p2 a.Has b.Has k1 k2 l3 l4 _) (by simp (disch := first | assumption | omega) only [go_sem]) ?_
  rintro _ _ ⟨rfl, hhh⟩
  rw [hhh]
  clear hhh
  simp (disch := first | assumption | omega) only [go_sem, ↓reduceIte, Nat.reduceEqDiff, reduceIte]
  subst hQ
  simp (disch := first | assumption | omega) only [R.fall_Same, go_sem, ↓reduceIte, reduceIte]
  congr 2
  refine propext ⟨?_, ?_⟩
  · intro e
    cases a; cases b
    simp only [Mem.mk.injEq] at *
    exact ⟨c1, c2, c4, e, c3⟩
  · intro e; rw [e]
end Go.Proofs.Ytpdajkbfemcdlaa
/- Contracts: what a controller does. -/
set_option linter.unusedSimpArgs false
set_option linter.unusedVariables false
set_option maxRecDepth 10000
namespace Go.Proofs.Ytpdajkbfemcdlaa
open Go.Ge Go.Sort
def DoQ (m : Mem) (e : Ev) (v : AVal) : Prop := ∃ o' p', v = .tup [memA o' p' (doF m e).1, .int .i64 (doF m e).2] ∧ Rdn o' (doF m e).1.Asked ∧ Rdn p' (doF m e).1.Has
theorem DoQ.none {m : Mem} {e : Ev} {x : Int} (h : doF m e = (mem0, x)) : DoQ m e (.tup [.agg [.int .i64 0, .int .i64 0, .lst .nil [], .lst .nil [], .int .i64 0], .int .i64 x]) := by
  unfold DoQ
  rw [h]
  exact ⟨.nil, .nil, rfl, ⟨.inr rfl, fun _ => rfl⟩, ⟨.inr rfl, fun _ => rfl⟩⟩
theorem Do_ok (o p q : Own) (m : Mem) (e : Ev) (ho : Rdn o m.Asked) (hp : Rdn p m.Has) (hq : Rdn q e.Cells) (l1 : m.Asked.length < 4611686018427387904) (l2 : m.Has.length < 4611686018427387904) (l3 : e.Cells.length < 4611686018427387904) (h : List HObj) :
    ACalls Try.prog F.fall_Do [memA o p m, eventA q e] h (fun v h' => DoQ m e v ∧ h' = h) := by
  have ho1 := ho.1
  have hp1 := hp.1
  have hq1 := hq.1
  refine ACalls.of_aw Try.func110 K.fall_Do (by simp [Try.f110]) ?_
  generalize hQ : retQ R.fall_Do _ = Q
  simp (disch := first | assumption | omega) only [C.fall_Do, go_sem, ↓reduceIte, Nat.reduceEqDiff, reduceCtorEq, Nat.reduceLeDiff, reduceIte]
  simp (disch := first | assumption | omega) only [memA, memC, eventA, eventC, go_sem, Nat.reduceAdd, Nat.reduceLeDiff, Int.reduceAdd]
  refine callG_ok (FCheck_ok q e hq1 l3 _) (by simp (disch := first | assumption | omega) only [go_sem]) ?_
  rintro _ _ ⟨rfl, hhh⟩
  rw [hhh]
  clear hhh
  by_cases hc : evF e = 0
  case neg =>
    simp (disch := first | assumption | omega) only [hc, go_sem, ↓reduceIte, Nat.reduceEqDiff, Nat.reduceAdd, Nat.reduceLeDiff, reduceIte, Int.reduceAdd]
    subst hQ
    simp (disch := first | assumption | omega) only [R.fall_Do, go_sem, ↓reduceIte, Nat.reduceEqDiff, Nat.reduceAdd, reduceIte, Int.reduceAdd]
    exact DoQ.none (by unfold doF; rw [if_pos hc])
  simp (disch := first | assumption | omega) only [hc, go_sem, ↓reduceIte, Nat.reduceEqDiff, Nat.reduceAdd, Nat.reduceLeDiff, reduceIte, Int.reduceAdd]
  refine callG_ok (Right_ok o p m ho1 hp1 l1 l2 _) (by simp (disch := first | assumption | omega) only [go_sem]) ?_
  rintro _ _ ⟨rfl, hhh⟩
  rw [hhh]
  clear hhh
  by_cases hr : memF m = 0
  case neg =>
    simp (disch := first | assumption | omega) only [hr, go_sem, ↓reduceIte, Nat.reduceEqDiff, Nat.reduceAdd, Nat.reduceLeDiff, reduceIte, Int.reduceAdd]
    subst hQ
    simp (disch := first | assumption | omega) only [R.fall_Do, go_sem, ↓reduceIte, Nat.reduceEqDiff, Nat.reduceAdd, reduceIte, Int.reduceAdd]
    exact DoQ.none (by unfold doF; rw [if_neg (by simp [hc]), if_pos hr])
  simp (disch := first | assumption | omega) only [hr, go_sem, ↓reduceIte, Nat.reduceEqDiff, Nat.reduceAdd, Nat.reduceLeDiff, reduceIte, Int.reduceAdd]
  have hd : doF m e = (if e.Kind = 1 then ({ m with Goal := e.N, Ticks := 0 }, 0)
    else if e.Kind = 2 then if m.Ticks ≥ 2000 then (mem0, 19) else ({ m with Ticks := m.Ticks + 1 }, 0)
    else if e.Kind = 3 then if 0 < m.Asked.length then (mem0, 7) else ({ m with Asked := minusC e.Cells m.Has }, 0)
    else if e.Kind = 4 then if cellsFault (joinC m.Has m.Asked) ≠ 0 then (mem0, 6) else ({ m with Has := joinC m.Has m.Asked, Asked := [] }, 0)
    else if e.Kind = 5 then if withinC e.Cells m.Has = false then (mem0, 4) else ({ m with Has := minusC m.Has e.Cells }, 0)
    else ({ m with Falls := IntKind.i64.wrap (m.Falls + 1) }, 0)) := by
    conv => lhs; unfold doF
    rw [if_neg (by simp [hc]), if_neg (by simp [hr])]
  obtain ⟨e1, e2, e3, e4, e5⟩ := evF_zero hc
  obtain ⟨m1, m2, m3, m4, m5⟩ := memF_zero.1 hr
  have f1 := (fault_up m4).1
  have f2 := (fault_up m5).1
  have f3 := (fault_up e5).1
  refine callG_ok (CloneCell_ok o m.Asked ho (by unfold reachBytes; omega) _) (by simp (disch := first | assumption | omega) only [go_sem]) ?_
  rintro _ _ ⟨⟨o2, rfl, ho2⟩, hhh⟩
  rw [hhh]
  clear hhh
  have ho3 : o2 = .nil ∨ o2 = .sh ∨ ∃ z, o2 = .app z := by rcases ho2 with ⟨rfl, _⟩ | rfl; exact .inl rfl; exact .inr (.inr ⟨_, rfl⟩)
  obtain ⟨a1, ha1, ha2, ha3, ha4, ha5⟩ := own_rd (cellsA m.Asked) ho3
  simp (disch := first | assumption | omega) only [go_sem, ↓reduceIte, Nat.reduceEqDiff, reduceIte]
  refine callG_ok (CloneCell_ok p m.Has hp (by unfold reachBytes; omega) _) (by simp (disch := first | assumption | omega) only [go_sem]) ?_
  rintro _ _ ⟨⟨p2, rfl, hp2⟩, hhh⟩
  rw [hhh]
  clear hhh
  have hp3 : p2 = .nil ∨ p2 = .sh ∨ ∃ z, p2 = .app z := by rcases hp2 with ⟨rfl, _⟩ | rfl; exact .inl rfl; exact .inr (.inr ⟨_, rfl⟩)
  obtain ⟨b1, hb1, hb2, hb3, hb4, hb5⟩ := own_rd (cellsA m.Has) hp3
  have hA : Rdn a1 m.Asked := ⟨ha1, fun e => by
    rcases ho2 with ⟨_, h⟩ | rfl
    · exact h
    · cases ha2 e⟩
  have hB : Rdn b1 m.Has := ⟨hb1, fun e => by
    rcases hp2 with ⟨_, h⟩ | rfl
    · exact h
    · cases hb2 e⟩
  by_cases k1 : e.Kind = 1
  · rw [if_pos k1] at hd
    simp (disch := first | assumption | omega) only [ha5, hb5, k1, go_sem, ↓reduceIte, Nat.reduceEqDiff, Nat.reduceAdd, Nat.reduceLeDiff, reduceIte, Int.reduceAdd]
    subst hQ
    simp (disch := first | assumption | omega) only [R.fall_Do, go_sem, ↓reduceIte, Nat.reduceEqDiff, Nat.reduceAdd, reduceIte, Int.reduceAdd]
    exact ⟨a1, b1, by rw [hd]; rfl, by rw [hd]; exact hA, by rw [hd]; exact hB⟩
  rw [if_neg k1] at hd
  by_cases k2 : e.Kind = 2
  · rw [if_pos k2] at hd
    by_cases c : m.Ticks ≥ 2000
    · rw [if_pos c] at hd
      simp (disch := first | assumption | omega) only [k2, c, go_sem, ↓reduceIte, Nat.reduceEqDiff, Nat.reduceAdd, Nat.reduceLeDiff, reduceIte, Int.reduceAdd, Int.reduceEq]
      subst hQ
      simp (disch := first | assumption | omega) only [R.fall_Do, go_sem, ↓reduceIte, Nat.reduceEqDiff, Nat.reduceAdd, reduceIte, Int.reduceAdd]
      exact DoQ.none hd
    · rw [if_neg c] at hd
      simp (disch := first | assumption | omega) only [ha5, hb5, k2, c, go_sem, ↓reduceIte, Nat.reduceEqDiff, Nat.reduceAdd, Nat.reduceLeDiff, reduceIte, Int.reduceAdd, Int.reduceEq]
      subst hQ
      simp (disch := first | assumption | omega) only [R.fall_Do, go_sem, ↓reduceIte, Nat.reduceEqDiff, Nat.reduceAdd, reduceIte, Int.reduceAdd]
      exact ⟨a1, b1, by rw [hd]; rfl, by rw [hd]; exact hA, by rw [hd]; exact hB⟩
  rw [if_neg k2] at hd
  by_cases k3 : e.Kind = 3
  · rw [if_pos k3] at hd
    by_cases c : 0 < m.Asked.length
    · rw [if_pos c] at hd
      have c' : (0 : Int) < m.Asked.length := by omega
      simp (disch := first | assumption | omega) only [ha5, k3, c', go_sem, ↓reduceIte, Nat.reduceEqDiff, Nat.reduceAdd, Nat.reduceLeDiff, reduceIte, Int.reduceAdd, Int.reduceEq]
      subst hQ
      simp (disch := first | assumption | omega) only [R.fall_Do, go_sem, ↓reduceIte, Nat.reduceEqDiff, Nat.reduceAdd, reduceIte, Int.reduceAdd]
      exact DoQ.none hd
    · rw [if_neg c] at hd
      have c' : ¬((0 : Int) < m.Asked.length) := by omega
      simp (disch := first | assumption | omega) only [ha5, hb5, k3, c', go_sem, ↓reduceIte, Nat.reduceEqDiff, Nat.reduceAdd, Nat.reduceLeDiff, Nat.reduceLT, reduceIte, Int.reduceLT, Int.reduceAdd, Int.reduceEq]
      refine callG_ok (Minus_ok q b1 e.Cells m.Has hq hB (by omega) _) (by simp (disch := first | assumption | omega) only [go_sem]) ?_
      rintro _ _ ⟨rfl, hhh⟩
      rw [hhh]
      clear hhh
      simp (disch := first | assumption | omega) only [hb5, go_sem, ↓reduceIte, Nat.reduceEqDiff, Nat.reduceAdd, Nat.reduceLeDiff, reduceIte, Int.reduceAdd]
      subst hQ
      simp (disch := first | assumption | omega) only [R.fall_Do, go_sem, ↓reduceIte, Nat.reduceEqDiff, Nat.reduceAdd, reduceIte, Int.reduceAdd]
      exact ⟨.sh, b1, by rw [hd]; rfl, ⟨.inl rfl, fun h => by cases h⟩, by rw [hd]; exact hB⟩
  rw [if_neg k3] at hd
  by_cases k4 : e.Kind = 4
  · rw [if_pos k4] at hd
    simp (disch := first | assumption | omega) only [ha5, hb5, k4, go_sem, ↓reduceIte, Nat.reduceEqDiff, Nat.reduceAdd, Nat.reduceLeDiff, reduceIte, Int.reduceAdd, Int.reduceEq]
    refine callG_ok (Join_ok b1 a1 m.Has m.Asked hB hA (by omega) _) (by simp (disch := first | assumption | omega) only [go_sem]) ?_
    rintro _ _ ⟨rfl, hhh⟩
    rw [hhh]
    clear hhh
    have hjl : (joinC m.Has m.Asked).length ≤ 800 := Nat.le_trans (normC_len _) (by rw [List.length_append]; omega)
    simp (disch := first | assumption | omega) only [go_sem, ↓reduceIte, reduceIte]
    refine callG_ok (gridCheck_ok .sh (joinC m.Has m.Asked) (.inl rfl) (by omega) _) (by simp (disch := first | assumption | omega) only [go_sem]) ?_
    rintro _ _ ⟨rfl, hhh⟩
    rw [hhh]
    clear hhh
    by_cases c : cellsFault (joinC m.Has m.Asked) = 0
    · rw [if_neg (by simp [c])] at hd
      simp (disch := first | assumption | omega) only [c, go_sem, ↓reduceIte, Nat.reduceEqDiff, Nat.reduceAdd, Nat.reduceLeDiff, reduceIte, Int.reduceAdd]
      subst hQ
      simp (disch := first | assumption | omega) only [R.fall_Do, go_sem, ↓reduceIte, Nat.reduceEqDiff, Nat.reduceAdd, reduceIte, Int.reduceAdd]
      exact ⟨.nil, .sh, by rw [hd]; rfl, by rw [hd]; exact ⟨.inr rfl, fun _ => rfl⟩, ⟨.inl rfl, fun h => by cases h⟩⟩
    · rw [if_pos c] at hd
      simp (disch := first | assumption | omega) only [c, go_sem, ↓reduceIte, Nat.reduceEqDiff, Nat.reduceAdd, Nat.reduceLeDiff, reduceIte, Int.reduceAdd]
      subst hQ
      simp (disch := first | assumption | omega) only [R.fall_Do, go_sem, ↓reduceIte, Nat.reduceEqDiff, Nat.reduceAdd, reduceIte, Int.reduceAdd]
      exact DoQ.none hd
  rw [if_neg k4] at hd
  by_cases k5 : e.Kind = 5
  · rw [if_pos k5] at hd
    simp (disch := first | assumption | omega) only [hb5, k5, go_sem, ↓reduceIte, Nat.reduceEqDiff, Nat.reduceAdd, Nat.reduceLeDiff, Nat.reduceLT, reduceIte, Int.reduceLT, Int.reduceAdd, Int.reduceEq]
    refine callG_ok (Within_ok q b1 e.Cells m.Has hq hB (by omega) (by omega) _) (by simp (disch := first | assumption | omega) only [go_sem]) ?_
    rintro _ _ ⟨rfl, hhh⟩
    rw [hhh]
    clear hhh
    by_cases c : withinC e.Cells m.Has = false
    · rw [if_pos c] at hd
      rw [c]
      simp (disch := first | assumption | omega) only [go_sem, ↓reduceIte, Nat.reduceEqDiff, Nat.reduceAdd, Nat.reduceLeDiff, reduceIte, Int.reduceAdd]
      subst hQ
      simp (disch := first | assumption | omega) only [R.fall_Do, go_sem, ↓reduceIte, Nat.reduceEqDiff, Nat.reduceAdd, reduceIte, Int.reduceAdd]
      exact DoQ.none hd
    · rw [if_neg c] at hd
      rw [show withinC e.Cells m.Has = true by simpa using c]
      simp (disch := first | assumption | omega) only [hb5, go_sem, ↓reduceIte, Nat.reduceEqDiff, Nat.reduceAdd, Nat.reduceLeDiff, Nat.reduceLT, reduceIte, Int.reduceLT, Int.reduceAdd]
      refine callG_ok (Minus_ok b1 q m.Has e.Cells hB hq (by omega) _) (by simp (disch := first | assumption | omega) only [go_sem]) ?_
      rintro _ _ ⟨rfl, hhh⟩
      rw [hhh]
      clear hhh
      simp (disch := first | assumption | omega) only [ha5, go_sem, ↓reduceIte, Nat.reduceEqDiff, Nat.reduceAdd, Nat.reduceLeDiff, reduceIte, Int.reduceAdd]
      subst hQ
      simp (disch := first | assumption | omega) only [R.fall_Do, go_sem, ↓reduceIte, Nat.reduceEqDiff, Nat.reduceAdd, reduceIte, Int.reduceAdd]
      exact ⟨a1, .sh, by rw [hd]; rfl, by rw [hd]; exact hA, ⟨.inl rfl, fun h => by cases h⟩⟩
  rw [if_neg k5] at hd
  have k6 : e.Kind = 6 := by omega
  simp (disch := first | assumption | omega) only [ha5, hb5, k6, go_sem, ↓reduceIte, Nat.reduceEqDiff, Nat.reduceAdd, Nat.reduceLeDiff, Nat.reduceLT, reduceIte, Int.reduceLT, Int.reduceAdd, Int.reduceEq]
  subst hQ
  simp (disch := first | assumption | omega) only [R.fall_Do, go_sem, ↓reduceIte, Nat.reduceEqDiff, Nat.reduceAdd, reduceIte, Int.reduceAdd]
  exact ⟨a1, b1, by rw [hd]; rfl, by rw [hd]; exact hA, by rw [hd]; exact hB⟩
end Go.Proofs.Ytpdajkbfemcdlaa
/- Contracts: messages by the second implementation. -/
set_option linter.unusedSimpArgs false
set_option linter.unusedVariables false
set_option maxRecDepth 10000
namespace Go.Proofs.Ytpdajkbfemcdlaa
open Go.Ge
theorem cells_step : ∀ (i : Nat) (l : List Int), 2 * i + 1 < l.length → cellsOf (l.take (2 * (i + 1))) = cellsOf (l.take (2 * i)) ++ [⟨l.getD (2 * i) 0 - 64, l.getD (2 * i + 1) 0 - 64⟩]
  | 0, x :: y :: l, _ => by simp [cellsOf]
  | i + 1, x :: y :: l, h => by
    have ih := cells_step i l (by simp at h; omega)
    rw [show 2 * (i + 1 + 1) = 2 * (i + 1) + 1 + 1 from by omega, List.take_succ_cons, List.take_succ_cons, show 2 * (i + 1) = 2 * i + 1 + 1 from by omega, List.take_succ_cons, List.take_succ_cons]
    rw [show 2 * (i + 1) = 2 * i + 1 + 1 from by omega] at ih
    simp only [cellsOf, ih, List.cons_append, List.getD_cons_succ]
  | 0, [], h => by simp at h
  | 0, [_], h => by simp at h
  | i + 1, [], h => by simp at h
  | i + 1, [_], h => by simp at h
end Go.Proofs.Ytpdajkbfemcdlaa
/- Contracts: events are written. -/
set_option linter.unusedSimpArgs false
set_option linter.unusedVariables false
set_option maxRecDepth 10000
namespace Go.Proofs.Ytpdajkbfemcdlaa
open Go.Ge Go.Sort
theorem shr24i {n : Int} (h0 : 0 ≤ n) : n.fdiv (2 ^ min (Int.toNat 24) 64) = n / 256 / 256 / 256 := by
  rw [show min (Int.toNat 24) 64 = 24 from rfl, fdiv_pow h0]; omega
theorem shr16i {n : Int} (h0 : 0 ≤ n) : n.fdiv (2 ^ min (Int.toNat 16) 64) = n / 256 / 256 := by
  rw [show min (Int.toNat 16) 64 = 16 from rfl, fdiv_pow h0]; omega
/-- What comes of an event that is written. -/
def WrQ (e : Ev) (v : AVal) : Prop :=
  evF e ≠ 0 ∧ v = .tup [.lst .nil [], .int .i64 (evF e)] ∨ evF e = 0 ∧ v = .tup [.lst (.app 1) (ints .u8 (evB e)), .int .i64 0]
def headE (e : Ev) : List Int := (e.Kind % 256) :: beBytes e.N 4
theorem FWrite_ok (o : Own) (e : Ev) (ho : Rdo o) (hl : e.Cells.length < 4611686018427387904) (h : List HObj) :
    ACalls Try.prog F.fall_Write [eventA o e] h (fun v h' => WrQ e v ∧ h' = h) := by
  refine ACalls.of_aw Try.func118 K.fall_Write (by simp [Try.f118]) ?_
  generalize hQ : retQ R.fall_Write _ = Q
  simp (disch := first | assumption | omega) only [C.fall_Write, go_sem, ↓reduceIte, Nat.reduceEqDiff, Nat.reduceLeDiff, reduceIte]
  simp (disch := first | assumption | omega) only [eventA, eventC, go_sem, Nat.reduceAdd, Nat.reduceLeDiff, Int.reduceAdd]
  refine callG_ok (FCheck_ok o e ho hl _) (by simp (disch := first | assumption | omega) only [go_sem]) ?_
  rintro _ _ ⟨rfl, hhh⟩
  rw [hhh]
  clear hhh
  by_cases hc : evF e = 0
  · obtain ⟨k1, k2, k3, k4, k5⟩ := evF_zero hc
    obtain ⟨g1, g2, g3⟩ := fault_up k5
    simp (disch := first | assumption | omega) only [hc, wrapU8_mod, shr24i k3, shr16i k3, shr8' k3, go_sem, ↓reduceIte, Nat.reduceEqDiff, Nat.reduceAdd, Nat.reduceLeDiff, Nat.reduceLT, reduceIte, Int.reduceLT, Int.reduceLE, Int.reduceAdd, Int.reduceMul, Nat.reduceMul]
    refine aw_count (fun d S => ∃ (i : Nat), i + d = e.Cells.length ∧ S.env 35 = .int .i64 i ∧ S.env 34 = .int .i64 e.Cells.length ∧ S.env 33 = .lst o (cellsA e.Cells) ∧ S.env 5 = .lst (.app 1) (ints .u8 (headE e ++ cellsB (e.Cells.take i))) ∧ S.heap = h) (n := e.Cells.length)
      ⟨0, by omega, by simp (disch := first | assumption | omega) only [go_sem, ↓reduceIte, reduceIte], by simp (disch := first | assumption | omega) only [go_sem, ↓reduceIte, Nat.reduceEqDiff, reduceIte], by simp (disch := first | assumption | omega) only [go_sem, ↓reduceIte, Nat.reduceEqDiff, reduceIte], by simp (disch := first | assumption | omega) only [headE, cellsB, be4, ints, List.flatMap_nil, go_sem, ↓reduceIte, Nat.reduceEqDiff, reduceIte], by simp (disch := first | assumption | omega) only [go_sem]⟩ ?_
    rintro d S ⟨i, hi, e48, e47, e46, e5, eh⟩
    simp (disch := first | assumption | omega) only [e48, e47, go_sem, ↓reduceIte, reduceIte]
    refine condG_if (fun hlt => ?_) fun hge => ?_
    · have hlt : i < e.Cells.length := by omega
      have hat := at_cells hlt
      have hon := g2 _ (List.getElem_mem hlt)
      unfold onG at hon
      have hst := take_snoc hlt
      have hcl : (headE e).length + (cellsB (e.Cells.take i)).length ≤ 813 := by
        rw [cellsB_length, List.length_take]; simp [headE, beBytes_length]; omega
      simp (disch := first | assumption | omega) only [e48, e47, e46, e5, eh, hat, cellA, hlt, wrapU8_mod, go_sem, ↓reduceIte, Nat.reduceEqDiff, Nat.reduceAdd, Nat.reduceLeDiff, Nat.reduceLT, reduceIte, Int.reduceLT, Int.reduceAdd, Int.reduceMul, Nat.reduceMul]
      refine ⟨by omega, by omega, d - 1, by omega, i + 1, by omega, by simp, ?_⟩
      rw [hst, cellsB_snoc, ← List.append_assoc, ← ints_append _ (cellB _)]
      rfl
    · obtain rfl : i = e.Cells.length := by omega
      rw [List.take_length] at e5
      simp (disch := first | assumption | omega) only [e5, go_sem, ↓reduceIte, Nat.reduceEqDiff, reduceIte]
      subst hQ
      simp (disch := first | assumption | omega) only [R.fall_Write, eh, go_sem, ↓reduceIte, Nat.reduceEqDiff, reduceIte]
      exact .inr ⟨hc, rfl⟩
  · simp (disch := first | assumption | omega) only [hc, go_sem, ↓reduceIte, Nat.reduceEqDiff, reduceIte]
    subst hQ
    simp (disch := first | assumption | omega) only [R.fall_Write, go_sem, ↓reduceIte, Nat.reduceEqDiff, reduceIte]
    exact .inl ⟨hc, rfl⟩
theorem or64 {x y : Nat} (hx : x < 4294967296) (hy : y < 4294967296) : bitsV .or .i64 (x : Int) (y : Int) = ((x ||| y : Nat) : Int) := by
  show IntKind.i64.wrap ((BitVec.ofInt 64 (x : Int) ||| BitVec.ofInt 64 (y : Int)).toNat : Int) = _
  have h := Nat.or_lt_two_pow (x := x) (y := y) (n := 32) (by omega) (by omega)
  rw [BitVec.ofInt_natCast, BitVec.ofInt_natCast, BitVec.toNat_or, BitVec.toNat_ofNat, BitVec.toNat_ofNat, Nat.mod_eq_of_lt (by omega), Nat.mod_eq_of_lt (by omega), wrapI64 (by omega) (by omega)]
theorem val4 {a b c d : Int} (ha : 0 ≤ a ∧ a < 256) (hb : 0 ≤ b ∧ b < 256) (hc : 0 ≤ c ∧ c < 256) (hd : 0 ≤ d ∧ d < 256) :
    bitsV .or .i64 (bitsV .or .i64 (bitsV .or .i64 (IntKind.i64.wrap (a * 2 ^ min (Int.toNat 24) 64)) (IntKind.i64.wrap (b * 2 ^ min (Int.toNat 16) 64))) (IntKind.i64.wrap (c * 2 ^ min (Int.toNat 8) 64))) d = ((a * 256 + b) * 256 + c) * 256 + d := by
  obtain ⟨a, rfl⟩ := Int.eq_ofNat_of_zero_le ha.1
  obtain ⟨b, rfl⟩ := Int.eq_ofNat_of_zero_le hb.1
  obtain ⟨c, rfl⟩ := Int.eq_ofNat_of_zero_le hc.1
  obtain ⟨d, rfl⟩ := Int.eq_ofNat_of_zero_le hd.1
  have w1 : IntKind.i64.wrap ((a : Int) * 2 ^ min (Int.toNat 24) 64) = ((2 ^ 24 * a : Nat) : Int) := by
    rw [show min (Int.toNat 24) 64 = 24 from rfl, wrapI64 (by omega) (by omega)]; omega
  have w2 : IntKind.i64.wrap ((b : Int) * 2 ^ min (Int.toNat 16) 64) = ((2 ^ 16 * b : Nat) : Int) := by
    rw [show min (Int.toNat 16) 64 = 16 from rfl, wrapI64 (by omega) (by omega)]; omega
  have w3 : IntKind.i64.wrap ((c : Int) * 2 ^ min (Int.toNat 8) 64) = ((2 ^ 8 * c : Nat) : Int) := by
    rw [show min (Int.toNat 8) 64 = 8 from rfl, wrapI64 (by omega) (by omega)]; omega
  rw [w1, w2, w3, or64 (by omega) (by omega)]
  have o1 : 2 ^ 24 * a ||| 2 ^ 16 * b = 2 ^ 16 * (2 ^ 8 * a + b) := by
    rw [← Nat.two_pow_add_eq_or_of_lt (i := 24) (by omega)]; omega
  rw [o1, or64 (by omega) (by omega)]
  have o2 : 2 ^ 16 * (2 ^ 8 * a + b) ||| 2 ^ 8 * c = 2 ^ 8 * (2 ^ 8 * (2 ^ 8 * a + b) + c) := by
    rw [← Nat.two_pow_add_eq_or_of_lt (i := 16) (by omega)]; omega
  rw [o2, or64 (by omega) (by omega)]
  rw [← Nat.two_pow_add_eq_or_of_lt (i := 8) (by omega)]; omega
theorem val_four {b : List Int} (h : 5 ≤ b.length) : val ((b.drop 1).take 4) = ((b.getD 1 0 * 256 + b.getD 2 0) * 256 + b.getD 3 0) * 256 + b.getD 4 0 := by
  match b, h with
  | x0 :: x1 :: x2 :: x3 :: x4 :: r, _ =>
    simp only [List.drop_succ_cons, List.drop_zero, List.take_succ_cons, List.take_zero, val, List.foldl_cons, List.foldl_nil, List.getD_cons_succ, List.getD_cons_zero]
    omega
theorem FRead_ok (o : Own) (b : List Int) (ho : Rdo o) (hb : ∀ x ∈ b, inU8 x) (hl : b.length ≤ 1099511627776) (h : List HObj) :
    ACalls Try.prog F.fall_Read [.lst o (ints .u8 b)] h (fun v h' => (∃ q, v = .tup [eventA q (rdEv b), .int .i64 (rdE b)] ∧ Rdn q (rdEv b).Cells) ∧ h' = h) := by
  refine ACalls.of_aw Try.func125 K.fall_Read (by simp [Try.f125]) ?_
  generalize hQ : retQ R.fall_Read _ = Q
  simp (disch := first | assumption | omega) only [C.fall_Read, go_sem, ↓reduceIte, reduceCtorEq, reduceIte]
  by_cases h5 : b.length < 5
  · have h5' : (b.length : Int) < 5 := by omega
    have hE : rdE b = 14 := by unfold rdE; rw [if_pos h5]
    have hV : rdEv b = ev0 := by unfold rdEv; rw [if_pos (by rw [hE]; decide)]
    simp (disch := first | assumption | omega) only [h5', go_sem, ↓reduceIte, Nat.reduceEqDiff, Nat.reduceAdd, Nat.reduceLeDiff, reduceIte, Int.reduceAdd]
    subst hQ
    simp (disch := first | assumption | omega) only [R.fall_Read, go_sem, ↓reduceIte, Nat.reduceEqDiff, Nat.reduceAdd, reduceIte, Int.reduceAdd]
    rw [hE, hV]
    exact ⟨.nil, rfl, .inr rfl, fun _ => rfl⟩
  have h5' : ¬ (b.length : Int) < 5 := by omega
  have hrem : (b.length : Int).tmod 2 = ((b.length % 2 : Nat) : Int) := by rw [Int.tmod_eq_emod_of_nonneg (by omega)]; omega
  by_cases h2 : b.length % 2 = 0
  · have hE : rdE b = 3 := by unfold rdE; rw [if_neg h5, if_pos h2]
    have hV : rdEv b = ev0 := by unfold rdEv; rw [if_pos (by rw [hE]; decide)]
    simp (disch := first | assumption | omega) only [h5', hrem, h2, go_sem, ↓reduceIte, Nat.reduceEqDiff, reduceCtorEq, Nat.reduceAdd, Nat.reduceLeDiff, reduceIte, Int.reduceAdd, Int.reduceNe]
    subst hQ
    simp (disch := first | assumption | omega) only [R.fall_Read, go_sem, ↓reduceIte, Nat.reduceEqDiff, Nat.reduceAdd, reduceIte, Int.reduceAdd]
    rw [hE, hV]
    exact ⟨.nil, rfl, .inr rfl, fun _ => rfl⟩
  have h2' : ¬ ((b.length % 2 : Nat) : Int) = 0 := by omega
  have at_n : ∀ i, i < b.length → at_ (ints .u8 b) (i : Int) = .int .u8 (b.getD i 0) := fun i hi => at_ints' b i hi
  have u_n : ∀ i, i < b.length → 0 ≤ b.getD i 0 ∧ b.getD i 0 < 256 := fun i hi => by
    have : inU8 (b.getD i 0) := by rw [getD_get hi]; exact hb _ (List.getElem_mem _)
    unfold inU8 at this; omega
  have a0 : at_ (ints .u8 b) 0 = .int .u8 (b.getD 0 0) := at_n 0 (by omega)
  have a1 : at_ (ints .u8 b) 1 = .int .u8 (b.getD 1 0) := at_n 1 (by omega)
  have a2 : at_ (ints .u8 b) 2 = .int .u8 (b.getD 2 0) := at_n 2 (by omega)
  have a3 : at_ (ints .u8 b) 3 = .int .u8 (b.getD 3 0) := at_n 3 (by omega)
  have a4 : at_ (ints .u8 b) 4 = .int .u8 (b.getD 4 0) := at_n 4 (by omega)
  have u0 := u_n 0 (by omega)
  have u1 := u_n 1 (by omega)
  have u2 := u_n 2 (by omega)
  have u3 := u_n 3 (by omega)
  have u4 := u_n 4 (by omega)
  have l0 : (0 : Int) < b.length := by omega
  have l1 : (1 : Int) < b.length := by omega
  have l2 : (2 : Int) < b.length := by omega
  have l3 : (3 : Int) < b.length := by omega
  have l4 : (4 : Int) < b.length := by omega
  have hv4 := val4 u1 u2 u3 u4
  rw [← val_four (by omega)] at hv4
  have hE : rdE b = evF (evOf b) := by unfold rdE; rw [if_neg h5, if_neg h2]
  have hoff : evOf b = ⟨b.getD 0 0, val ((b.drop 1).take 4), cellsOf (b.drop 5)⟩ := rfl
  obtain ⟨J, hJ⟩ : ∃ J, b.length = 5 + 2 * J := ⟨(b.length - 5) / 2, by omega⟩
  have hCl : (b.drop 5).length = 2 * J := by simp; omega
  have hCg : ∀ i, (b.drop 5).getD i 0 = b.getD (5 + i) 0 := by
    intro i
    simp [List.getD_eq_getElem?_getD, List.getElem?_drop]
  generalize hC : b.drop 5 = C at *
  simp (disch := first | assumption | omega) only [h5', hrem, h2', a0, a1, a2, a3, a4, l0, l1, l2, l3, l4, hv4, go_sem, ↓reduceIte, Nat.reduceEqDiff, reduceCtorEq, Nat.reduceAdd, Nat.reduceLeDiff, Nat.reduceLT, reduceIte, Int.reduceLT, Int.reduceLE, Int.reduceAdd, Int.reduceNe]
  refine aw_count (fun d S => ∃ (i : Nat) (q : Own), i + d = J ∧ S.env 5 = .int .i64 (5 + 2 * i : Nat) ∧ S.env 0 = .lst o (ints .u8 b) ∧ S.env 4 = .box 4 0 ∧ S.boxes 4 = some [.int .i64 (b.getD 0 0), .int .i64 (val ((b.drop 1).take 4)), .lst q (cellsA (cellsOf (C.take (2 * i))))] ∧ (q = .nil ∧ i = 0 ∨ q = .app 2) ∧ S.env 2 = .box 2 0 ∧ S.boxes 2 = some [.int .i64 0, .int .i64 0, .lst .nil []] ∧ S.heap = h) (n := J)
    ⟨0, .nil, by omega, by simp (disch := first | assumption | omega) only [go_sem, ↓reduceIte, reduceIte, Int.reduceMul, Nat.reduceMul]; simp, by simp (disch := first | assumption | omega) only [go_sem, ↓reduceIte, reduceCtorEq, reduceIte], by simp (disch := first | assumption | omega) only [go_sem, ↓reduceIte, Nat.reduceEqDiff, reduceIte], by simp (disch := first | assumption | omega) only [Nat.mul_zero, cellsOf, cellsA, List.take_zero, List.map_nil, go_sem, ↓reduceIte, reduceIte], .inl ⟨rfl, rfl⟩, by simp (disch := first | assumption | omega) only [go_sem, ↓reduceIte, Nat.reduceEqDiff, reduceIte], by simp (disch := first | assumption | omega) only [go_sem, ↓reduceIte, Nat.reduceEqDiff, reduceIte], by simp (disch := first | assumption | omega) only [go_sem]⟩ ?_
  rintro d S ⟨i, q, hi, e5, e0, e4, x4, hq, e2, x2, eh⟩
  have hcl : (cellsOf (C.take (2 * i))).length = i := cellsOf_length i _ (by rw [List.length_take]; omega)
  have hcs := cells_step i C
  by_cases hlt : ((5 + 2 * i : Nat) : Int) < b.length
  · have hlt1 : i < J := by omega
    have c0 := at_n (5 + 2 * i) (by omega)
    have c1 : at_ (ints .u8 b) (((5 + 2 * i : Nat) : Int) + 1) = .int .u8 (b.getD (6 + 2 * i) 0) := by
      have := at_n (6 + 2 * i) (by omega)
      rwa [show ((6 + 2 * i : Nat) : Int) = ((5 + 2 * i : Nat) : Int) + 1 from by omega] at this
    have w0 := u_n (5 + 2 * i) (by omega)
    have w1 := u_n (6 + 2 * i) (by omega)
    have hcell : cellsA (cellsOf (C.take (2 * i))) ++ [AVal.agg [.int .i64 (b.getD (5 + 2 * i) 0 - 64), .int .i64 (b.getD (6 + 2 * i) 0 - 64)]] = cellsA (cellsOf (C.take (2 * (i + 1)))) := by
      rw [hcs (by omega), hCg, hCg, show 5 + (2 * i + 1) = 6 + 2 * i from by omega]; simp [cellsA, cellA]
    simp (disch := first | assumption | omega) only [e5, e0, e4, x4, e2, x2, eh, hlt, c0, c1, go_sem, ↓reduceIte, Nat.reduceEqDiff, reduceCtorEq, Nat.reduceAdd, Nat.reduceLeDiff, Nat.reduceLT, reduceIte, Int.reduceLT, Int.reduceAdd, Int.reduceMul, Nat.reduceMul]
    refine ⟨⟨by omega, by omega⟩, ?_, by omega, by omega, d - 1, by omega, i + 1, .app 2, by omega, by congr 1, by rw [hcell], .inr rfl⟩
    rcases hq with ⟨rfl, h0⟩ | rfl
    · subst h0; rfl
    · rfl
  · obtain rfl : i = J := by omega
    rw [show C.take (2 * i) = C from by rw [← hCl, List.take_length]] at x4
    have hq' : ∃ q', Rdn q' (evOf b).Cells ∧ Ge.rdc (.lst q (cellsA (cellsOf C))) = .lst q' (cellsA (cellsOf C)) := by
      rw [hoff]
      rcases hq with ⟨rfl, h0⟩ | rfl
      · exact ⟨.nil, ⟨.inr rfl, fun _ => List.eq_nil_of_length_eq_zero (by show (cellsOf C).length = 0; rw [cellsOf_length i C hCl]; exact h0)⟩, rfl⟩
      · exact ⟨.sh, ⟨.inl rfl, fun e => by cases e⟩, rfl⟩
    obtain ⟨q', hq1, hq2⟩ := hq'
    have hq3 : Ge.rdc (.lst q' (cellsA (cellsOf C))) = .lst q' (cellsA (cellsOf C)) := by rcases hq1.1 with e | e <;> rw [e] <;> rfl
    have hlc : (evOf b).Cells.length < 4611686018427387904 := by rw [hoff]; show (cellsOf C).length < _; rw [cellsOf_length i C hCl]; omega
    simp (disch := first | assumption | omega) only [e5, e0, e4, x4, hlt, hq2, hq3, go_sem, ↓reduceIte, Nat.reduceEqDiff, reduceCtorEq, Nat.reduceAdd, Nat.reduceLeDiff, reduceIte, Int.reduceAdd]
    have hme : eventA q' (evOf b) = .agg [.int .i64 (b.getD 0 0), .int .i64 (val ((b.drop 1).take 4)), .lst q' (cellsA (cellsOf C))] := by rw [hoff]; rfl
    have hck := fun hp => FCheck_ok q' (evOf b) hq1.1 hlc hp
    rw [hme] at hck
    refine callG_ok (hck _) (by simp (disch := first | assumption | omega) only [go_sem]) ?_
    rintro _ _ ⟨rfl, hhh⟩
    rw [hhh]
    clear hhh
    by_cases hc : evF (evOf b) = 0
    · have hV : rdEv b = evOf b := by unfold rdEv; rw [if_neg (by rw [hE, hc]; simp)]
      simp (disch := first | assumption | omega) only [e4, x4, e2, x2, hc, hq2, go_sem, ↓reduceIte, Nat.reduceEqDiff, Nat.reduceAdd, Nat.reduceLeDiff, reduceIte, Int.reduceAdd]
      subst hQ
      simp (disch := first | assumption | omega) only [R.fall_Read, e2, eh, go_sem, ↓reduceIte, Nat.reduceEqDiff, Nat.reduceAdd, reduceIte, Int.reduceAdd]
      rw [hV, hE, hc]
      exact ⟨q', by rw [hoff]; rfl, hq1⟩
    · have hV : rdEv b = ev0 := by unfold rdEv; rw [if_pos (by rw [hE]; exact hc)]
      simp (disch := first | assumption | omega) only [e2, x2, hc, go_sem, ↓reduceIte, Nat.reduceEqDiff, Nat.reduceAdd, Nat.reduceLeDiff, reduceIte, Int.reduceAdd]
      subst hQ
      simp (disch := first | assumption | omega) only [R.fall_Read, e2, eh, go_sem, ↓reduceIte, Nat.reduceEqDiff, Nat.reduceAdd, reduceIte, Int.reduceAdd]
      rw [hV, hE]
      exact ⟨.nil, rfl, .inr rfl, fun _ => rfl⟩
end Go.Proofs.Ytpdajkbfemcdlaa
/- Contracts: the second implementation of events: sets that are maps. -/
set_option linter.unusedSimpArgs false
set_option linter.unusedVariables false
set_option maxRecDepth 10000
namespace Go.Proofs.Ytpdajkbfemcdlaa
open Go.Ge Go.Sort
def memRC (o p : Own) (m : Mem) : List AVal := [.int .i64 m.Goal, .int .i64 m.Ticks, .int .i64 m.Falls, .lst o (cellsA m.Asked), .lst p (cellsA m.Has)]
def memRA (o p : Own) (m : Mem) : AVal := .agg (memRC o p m)
theorem MemFault_ok (o p : Own) (m : Mem) (ho : Rdo o) (hp : Rdo p) (hl : m.Asked.length < 4611686018427387904) (hl2 : m.Has.length < 4611686018427387904) (h : List HObj) : ACalls Try.prog F.gantref5_MemFault [memRA o p m] h (fun v h' => v = .int .i64 (memF m) ∧ h' = h) := by
  unfold memF
  refine ACalls.of_aw Try.func121 K.gantref5_MemFault (by simp [Try.f121]) ?_
  generalize hQ : retQ R.gantref5_MemFault _ = Q
  simp (disch := first | assumption | omega) only [C.gantref5_MemFault, go_sem, ↓reduceIte, Nat.reduceEqDiff, Nat.reduceLeDiff, reduceIte]
  simp (disch := first | assumption | omega) only [memRA, memRC, go_sem, Nat.reduceAdd, Int.reduceAdd]
  by_cases h1 : m.Goal < 0
  · simp (disch := first | assumption | omega) only [h1, go_sem, ↓reduceIte, Nat.reduceEqDiff, reduceIte]
    subst hQ
    simp (disch := first | assumption | omega) only [R.gantref5_MemFault, go_sem, ↓reduceIte, reduceIte]
    rw [if_pos (by omega)]
  by_cases h2 : m.Ticks < 0
  · simp (disch := first | assumption | omega) only [h1, h2, go_sem, ↓reduceIte, Nat.reduceEqDiff, Nat.reduceAdd, Nat.reduceLeDiff, reduceIte, Int.reduceAdd]
    subst hQ
    simp (disch := first | assumption | omega) only [R.gantref5_MemFault, go_sem, ↓reduceIte, reduceIte]
    rw [if_pos (by omega)]
  by_cases h3 : m.Falls < 0
  · simp (disch := first | assumption | omega) only [h1, h2, h3, go_sem, ↓reduceIte, Nat.reduceEqDiff, Nat.reduceAdd, Nat.reduceLeDiff, reduceIte, Int.reduceAdd]
    subst hQ
    simp (disch := first | assumption | omega) only [R.gantref5_MemFault, go_sem, ↓reduceIte, reduceIte]
    rw [if_pos (by omega)]
  simp (disch := first | assumption | omega) only [h1, h2, h3, go_sem, ↓reduceIte, Nat.reduceEqDiff, Nat.reduceAdd, Nat.reduceLeDiff, reduceIte, Int.reduceAdd]
  refine callG_ok (CellsFault_ok o m.Asked ho hl _) (by simp (disch := first | assumption | omega) only [go_sem]) ?_
  rintro _ _ ⟨rfl, hhh⟩
  rw [hhh]
  clear hhh
  by_cases h4 : cellsFault m.Asked = 0
  · simp (disch := first | assumption | omega) only [h4, go_sem, ↓reduceIte, Nat.reduceEqDiff, Nat.reduceAdd, Nat.reduceLeDiff, Nat.reduceLT, reduceIte, Int.reduceLT, Int.reduceAdd]
    refine callG_ok (CellsFault_ok p m.Has hp hl2 _) (by simp (disch := first | assumption | omega) only [go_sem]) ?_
    rintro _ _ ⟨rfl, hhh⟩
    rw [hhh]
    clear hhh
    simp (disch := first | assumption | omega) only [go_sem, ↓reduceIte, reduceIte]
    subst hQ
    simp (disch := first | assumption | omega) only [R.gantref5_MemFault, go_sem, ↓reduceIte, reduceIte]
    rw [if_neg (by omega)]
    split
    · rename_i h5; exact absurd h4 h5
    · rfl
  · simp (disch := first | assumption | omega) only [h4, go_sem, ↓reduceIte, Nat.reduceEqDiff, reduceIte]
    subst hQ
    simp (disch := first | assumption | omega) only [R.gantref5_MemFault, go_sem, ↓reduceIte, reduceIte]
    rw [if_neg (by omega), if_pos h4]
theorem EventFault_ok (o : Own) (e : Ev) (ho : Rdo o) (hl : e.Cells.length < 4611686018427387904) (h : List HObj) : ACalls Try.prog F.gantref5_EventFault [.int .i64 e.Kind, .int .i64 e.N, .lst o (cellsA e.Cells)] h (fun v h' => v = .int .i64 (evF e) ∧ h' = h) := by
  rw [evF_eq]
  refine ACalls.of_aw Try.func116 K.gantref5_EventFault (by simp [Try.f116]) ?_
  generalize hQ : retQ R.gantref5_EventFault _ = Q
  simp (disch := first | assumption | omega) only [C.gantref5_EventFault, go_sem, ↓reduceIte, reduceCtorEq, reduceIte]
  iterate 20 (all_goals (try ((first | refine aopsG_ifn (fun hb => ?_) (fun hb => ?_) | refine condG_ifn (fun hb => ?_) (fun hb => ?_) | refine aopsG_if (fun hb => ?_) (fun hb => ?_) | refine condG_if (fun hb => ?_) (fun hb => ?_) | refine aopsG_split (fun hb => ?_) (fun hb => ?_) | refine condG_split (fun hb => ?_) (fun hb => ?_)) <;> simp (disch := first | assumption | omega) only [hb, go_sem, ↓reduceIte, Nat.reduceEqDiff, reduceCtorEq, Nat.reduceLT, reduceIte, Int.reduceLT, Int.reduceEq])))
  all_goals (try omega)
  all_goals first
    | (refine callG_ok (CellsFault_ok o e.Cells ho hl _) (by simp (disch := first | assumption | omega) only [go_sem]) ?_
       rintro _ _ ⟨rfl, hhh⟩
       rw [hhh]
       clear hhh
       simp (disch := first | assumption | omega) only [go_sem, ↓reduceIte, reduceIte]
       subst hQ
       simp (disch := first | assumption | omega) only [R.gantref5_EventFault, go_sem, ↓reduceIte, reduceIte]
       have : evF1 e = 0 := by unfold evF1; (repeat split) <;> omega
       rw [if_neg (by simp [this])])
    | (subst hQ
       simp (disch := first | assumption | omega) only [R.gantref5_EventFault, go_sem, ↓reduceIte, reduceIte]
       refine congrArg (AVal.int .i64) ?_
       have : evF1 e ≠ 0 := by unfold evF1; (repeat split) <;> omega
       rw [if_pos this]
       unfold evF1; (repeat split) <;> omega)
/-! ### Sets that are maps -/
def ents (s : List (Nat × Cell)) : List AEnt := s.map fun p => (p.1, cellA p.2, .bool true)
def inS (s : List (Nat × Cell)) (c : Cell) : Prop := c ∈ s.map (·.2)
instance (s : List (Nat × Cell)) (c : Cell) : Decidable (inS s c) := by unfold inS; exact inferInstance
structure WfS (k : Nat) (s : List (Nat × Cell)) : Prop where
  nd : (s.map (·.2)).Nodup
  st : (s.map (·.1)).Nodup
  lt : ∀ p ∈ s, p.1 < k
theorem keq_cell (a b : Cell) : keq (cellA a) (cellA b) = decide (a = b) := by
  rw [← cell_dec]
  simp only [keq, cellA, AVal.cells, aggEq, scEq, int_beq, Bool.and_true]
theorem keyOk_cell (c : Cell) : keyOk true [.i .i64, .i .i64] (cellA c) := by simp [keyOk, cellA, hasSh]
theorem keyOk_ents (s : List (Nat × Cell)) : ∀ e ∈ ents s, keyOk true [.i .i64, .i .i64] e.2.1 := by
  intro e he
  obtain ⟨p, _, rfl⟩ := List.mem_map.1 he
  exact keyOk_cell _
theorem mget_ents (c : Cell) : ∀ s : List (Nat × Cell), mgetL (cellA c) (ents s) = if inS s c then some (.bool true) else none
  | [] => rfl
  | p :: s => by
    have ih := mget_ents c s
    simp only [ents, List.map_cons, mgetL, keq_cell] at ih ⊢
    by_cases h : c = p.2
    · simp [h, inS]
    · have e : inS (p :: s) c ↔ inS s c := by simp only [inS, List.map_cons, List.mem_cons, h, false_or]
      simp only [h, decide_false, Bool.false_eq_true, if_false, ih, e]
theorem mset_ents (c : Cell) : ∀ s : List (Nat × Cell), msetL (cellA c) (.bool true) (ents s) = if inS s c then some (ents s) else none
  | [] => rfl
  | p :: s => by
    have ih := mset_ents c s
    simp only [ents, List.map_cons, msetL, keq_cell] at ih ⊢
    by_cases h : c = p.2
    · simp [h, inS]
    · have e : inS (p :: s) c ↔ inS s c := by simp only [inS, List.map_cons, List.mem_cons, h, false_or]
      simp only [h, decide_false, Bool.false_eq_true, if_false, ih, e]
      by_cases h2 : inS s c
      · simp only [if_pos h2, Option.map_some]
      · simp only [if_neg h2, Option.map_none]
def addS (k : Nat) (s : List (Nat × Cell)) (c : Cell) : List (Nat × Cell) := if inS s c then s else s ++ [(k, c)]
def addK (k : Nat) (s : List (Nat × Cell)) (c : Cell) : Nat := if inS s c then k else k + 1
theorem mput_ents (k : Nat) (s : List (Nat × Cell)) (c : Cell) : mput k (ents s) (cellA c) (.bool true) = .map (addK k s c) (ents (addS k s c)) := by
  unfold mput addK addS
  rw [mset_ents]
  by_cases h : inS s c
  · simp only [if_pos h]
  · simp only [if_neg h]
    simp [ents]
theorem WfS.add {k : Nat} {s : List (Nat × Cell)} (h : WfS k s) (c : Cell) : WfS (addK k s c) (addS k s c) := by
  unfold addK addS
  by_cases hc : inS s c
  · rw [if_pos hc, if_pos hc]; exact h
  · rw [if_neg hc, if_neg hc]
    refine ⟨?_, ?_, ?_⟩
    · rw [List.map_append, List.nodup_append]
      refine ⟨h.nd, by simp, ?_⟩
      rintro a ha b hb rfl
      simp at hb; subst hb
      exact hc ha
    · rw [List.map_append, List.nodup_append]
      refine ⟨h.st, by simp, ?_⟩
      rintro a ha b hb rfl
      simp at hb; subst hb
      obtain ⟨p, hp, e⟩ := List.mem_map.1 ha
      have := h.lt p hp
      omega
    · intro p hp
      rcases List.mem_append.1 hp with hp | hp
      · have := h.lt p hp; omega
      · simp at hp; subst hp; simp
theorem in_add (k : Nat) (s : List (Nat × Cell)) (c d : Cell) : inS (addS k s c) d ↔ inS s d ∨ d = c := by
  unfold addS
  by_cases hc : inS s c
  · rw [if_pos hc]
    constructor
    · exact .inl
    · rintro (h | rfl)
      · exact h
      · exact hc
  · rw [if_neg hc]; simp [inS]
def delS (c : Cell) : List (Nat × Cell) → List (Nat × Cell)
  | [] => []
  | p :: s => if c = p.2 then s else p :: delS c s
theorem mdel_ents (c : Cell) : ∀ s : List (Nat × Cell), mdelL (cellA c) (ents s) = ents (delS c s)
  | [] => rfl
  | p :: s => by
    have ih := mdel_ents c s
    simp only [ents, List.map_cons, mdelL, keq_cell, delS] at ih ⊢
    by_cases h : c = p.2
    · simp [h]
    · simp [h, ih]
theorem delS_sub (c : Cell) : ∀ s : List (Nat × Cell), (delS c s).Sublist s
  | [] => List.Sublist.refl _
  | p :: s => by
    unfold delS
    split
    · exact List.sublist_cons_self _ _
    · exact (delS_sub c s).cons_cons _
theorem WfS.del {k : Nat} {s : List (Nat × Cell)} (h : WfS k s) (c : Cell) : WfS k (delS c s) :=
  ⟨((delS_sub c s).map _).nodup h.nd, ((delS_sub c s).map _).nodup h.st, fun p hp => h.lt p ((delS_sub c s).subset hp)⟩
theorem in_del {c d : Cell} : ∀ {s : List (Nat × Cell)}, (s.map (·.2)).Nodup → (inS (delS c s) d ↔ inS s d ∧ d ≠ c)
  | [], _ => by simp [delS, inS]
  | p :: s, h => by
    rw [List.map_cons, List.nodup_cons] at h
    have ih := in_del (c := c) (d := d) h.2
    unfold delS
    split
    · rename_i hc
      subst hc
      simp only [inS, List.map_cons, List.mem_cons] at ih ⊢
      constructor
      · intro hd
        exact ⟨.inr hd, fun e => h.1 (e ▸ hd)⟩
      · rintro ⟨rfl | hd, hne⟩
        · exact absurd rfl hne
        · exact hd
    · rename_i hc
      simp only [inS, List.map_cons, List.mem_cons] at ih ⊢
      rw [ih]
      constructor
      · rintro (rfl | ⟨h1, h2⟩)
        · exact ⟨.inl rfl, fun e => hc e.symm⟩
        · exact ⟨.inr h1, h2⟩
      · rintro ⟨rfl | h1, h2⟩
        · exact .inl rfl
        · exact .inr ⟨h1, h2⟩
def ofL (k : Nat) (s : List (Nat × Cell)) : List Cell → Nat × List (Nat × Cell)
  | [] => (k, s)
  | c :: l => ofL (addK k s c) (addS k s c) l
theorem ofL_wf : ∀ {l : List Cell} {k : Nat} {s : List (Nat × Cell)}, WfS k s → WfS (ofL k s l).1 (ofL k s l).2
  | [], k, s, h => h
  | c :: l, k, s, h => ofL_wf (l := l) (h.add c)
theorem ofL_in (d : Cell) : ∀ {l : List Cell} {k : Nat} {s : List (Nat × Cell)}, inS (ofL k s l).2 d ↔ inS s d ∨ d ∈ l
  | [], k, s => by simp [ofL]
  | c :: l, k, s => by
    rw [ofL, ofL_in d (l := l), in_add, List.mem_cons]
    constructor
    · rintro ((h | h) | h)
      · exact .inl h
      · exact .inr (.inl h)
      · exact .inr (.inr h)
    · rintro (h | h | h)
      · exact .inl (.inl h)
      · exact .inl (.inr h)
      · exact .inr h
theorem ofL_snoc : ∀ (l : List Cell) (c : Cell) (k : Nat) (s : List (Nat × Cell)), ofL k s (l ++ [c]) = (addK (ofL k s l).1 (ofL k s l).2 c, addS (ofL k s l).1 (ofL k s l).2 c)
  | [], c, k, s => rfl
  | d :: l, c, k, s => by rw [List.cons_append, ofL, ofL_snoc l c]; rfl
theorem WfS.nil (k : Nat) : WfS k [] := ⟨by simp, by simp, by simp⟩
end Go.Proofs.Ytpdajkbfemcdlaa
/- Contracts: the second implementation of events. -/
set_option linter.unusedSimpArgs false
set_option linter.unusedVariables false
set_option maxRecDepth 10000
namespace Go.Proofs.Ytpdajkbfemcdlaa
open Go.Ge Go.Sort
theorem drV_map {s id : Nat} : drV s (.map id) = .map id := rfl
theorem rdv_map {id : Nat} : rdv (.map id) = .map id := rfl
theorem aw_cutBB {P : Program} {a : ACode} {n m : Nat} {K Pm : AState → Prop} {Q : AExit → AState → Prop} {S : AState} (h : aw (ACalls P) a (AExit.inBlock n (AExit.inBlock m (AExit.then Pm Q))) S) (hk : ∀ S', Pm S' → K S') : aw (ACalls P) a (AExit.inBlock n (AExit.inBlock m (AExit.then K Q))) S :=
  aw_mono (CMono_ACalls P) a (fun e S' h => by
    have key : ∀ e S', AExit.inBlock m (AExit.then Pm Q) e S' → AExit.inBlock m (AExit.then K Q) e S' := fun e S' h => by
      cases e with
      | exit i =>
        simp only [AExit.inBlock] at h ⊢
        split at h
        · rename_i hh; rw [if_pos hh]; exact hk _ h
        · rename_i hh; rw [if_neg hh]; exact h
      | normal => exact hk _ h
      | ret => exact h
    cases e with
    | exit i =>
      simp only [AExit.inBlock] at h ⊢
      split at h
      · rename_i hh; rw [if_pos hh]; exact hk _ h
      · rename_i hh; rw [if_neg hh]; exact key (.exit i) _ h
    | normal => exact hk _ h
    | ret => exact h) h
theorem hend (h : List HObj) (x : HObj) : (h ++ [x])[h.length]? = some x := by simp
theorem hendset (h : List HObj) (x y : HObj) : (h ++ [x]).set h.length y = h ++ [y] := by simp
theorem SetOf_ok (o : Own) (l : List Cell) (ho : Rdo o) (hl : l.length < 4611686018427387904) (h : List HObj) :
    ACalls Try.prog F.gantref5_SetOf [.lst o (cellsA l)] h (fun v h' => v = .map h.length ∧ h' = h ++ [.map (ofL 0 [] l).1 (ents (ofL 0 [] l).2)]) := by
  refine ACalls.of_aw Try.func107 K.gantref5_SetOf (by simp [Try.f107]) ?_
  generalize hQ : retQ R.gantref5_SetOf _ = Q
  simp (disch := first | assumption | omega) only [C.gantref5_SetOf, go_sem, ↓reduceIte, reduceCtorEq, reduceIte]
  refine aw_count (fun n S => ∃ (i : Nat), i + n = l.length ∧ S.env 9 = .int .i64 i ∧ S.env 8 = .int .i64 l.length ∧ S.env 7 = .lst o (cellsA l) ∧ S.env 3 = .map h.length ∧ S.heap = h ++ [.map (ofL 0 [] (l.take i)).1 (ents (ofL 0 [] (l.take i)).2)]) (n := l.length) ⟨0, by omega, by simp (disch := first | assumption | omega) only [go_sem, ↓reduceIte, reduceIte], by simp (disch := first | assumption | omega) only [go_sem, ↓reduceIte, Nat.reduceEqDiff, reduceIte], by simp (disch := first | assumption | omega) only [go_sem, ↓reduceIte, Nat.reduceEqDiff, reduceIte], by simp (disch := first | assumption | omega) only [go_sem, ↓reduceIte, Nat.reduceEqDiff, reduceIte], by simp (disch := first | assumption | omega) only [go_sem]; rfl⟩ ?_
  rintro n S ⟨i, hi, e9, e8, e7, e3, eh⟩
  by_cases hlt : (i : Int) < l.length
  · have hi1 : i < l.length := by omega
    have q1 := at_cells hi1
    have hsn : ofL 0 [] (l.take (i + 1)) = (addK (ofL 0 [] (l.take i)).1 (ofL 0 [] (l.take i)).2 l[i], addS (ofL 0 [] (l.take i)).1 (ofL 0 [] (l.take i)).2 l[i]) := by
      rw [List.take_add_one, List.getElem?_eq_getElem hi1]
      exact ofL_snoc _ _ _ _
    have hk := keyOk_cell l[i]
    have hks := keyOk_ents (ofL 0 [] (l.take i)).2
    have hput := mput_ents (ofL 0 [] (l.take i)).1 (ofL 0 [] (l.take i)).2 l[i]
    unfold cellA at hk hput
    simp (disch := first | assumption | omega) only [e9, e8, e7, e3, eh, hlt, q1, cellA, hend, hput, hendset, drV_map, rdv_map, go_sem, ↓reduceIte, Nat.reduceEqDiff, Nat.reduceAdd, Nat.reduceLeDiff, reduceIte, Int.reduceAdd]
    exact ⟨hk, hks, n - 1, by omega, i + 1, by omega, by simp, by rw [hsn]⟩
  · obtain rfl : i = l.length := by omega
    rw [List.take_length] at eh
    simp (disch := first | assumption | omega) only [e9, e8, e3, hlt, go_sem, ↓reduceIte, Nat.reduceEqDiff, reduceIte]
    subst hQ
    simp (disch := first | assumption | omega) only [R.gantref5_SetOf, eh, go_sem, ↓reduceIte, reduceIte]
/-- The cells of a set that lie on the grid. -/
def GridQ (s : List (Nat × Cell)) (v : AVal) : Prop := ∃ (L : List Cell) (q : Own), v = .lst q (cellsA L) ∧ (q = .nil ∧ L = [] ∨ q = .app 2) ∧ Up L ∧ ∀ c, c ∈ L ↔ inS s c ∧ onG c.X ∧ onG c.Y
theorem List_ok (id k : Nat) (s : List (Nat × Cell)) (hw : WfS k s) (h : List HObj) (hid : h[id]? = some (.map k (ents s))) :
    ACalls Try.prog F.gantref5_Set_List [.map id] h (fun v h' => GridQ s v ∧ h' = h) := by
  refine ACalls.of_aw Try.func141 K.gantref5_Set_List (by simp [Try.f141]) ?_
  generalize hQ : retQ R.gantref5_Set_List _ = Q
  simp (disch := first | assumption | omega) only [C.gantref5_Set_List, go_sem, Int.reduceNeg]
  refine aw_count (fun n S => ∃ (L : List Cell) (q : Own), n ≤ 128 ∧ S.env 4 = .int .i64 (64 - (n : Int)) ∧ S.env 0 = .map id ∧ S.env 3 = .lst q (cellsA L) ∧ (q = .nil ∧ L = [] ∨ q = .app 2) ∧ Up L ∧ L.length + 128 * n ≤ 16384 ∧ (∀ c : Cell, c ∈ L ↔ inS s c ∧ onG c.X ∧ -64 ≤ c.Y ∧ c.Y < 64 - (n : Int)) ∧ S.heap = h) (n := 128)
    ⟨[], .nil, by omega, by simp (disch := first | assumption | omega) only [go_sem, ↓reduceIte, reduceIte, Int.reduceNeg]; rfl, by simp (disch := first | assumption | omega) only [go_sem, ↓reduceIte, reduceCtorEq, reduceIte, Int.reduceNeg], by simp (disch := first | assumption | omega) only [go_sem, ↓reduceIte, Nat.reduceEqDiff, reduceIte, Int.reduceNeg]; rfl, .inl ⟨rfl, rfl⟩, List.Pairwise.nil, by simp, fun c => ⟨fun h => (by cases h), fun h => (by omega)⟩, by simp (disch := first | assumption | omega) only [go_sem, Int.reduceNeg]⟩ ?_
  rintro n S ⟨L, q, hn, e4, e0, e3, hq, hu, hL, hm, eh⟩
  by_cases hlt : (64 : Int) - n < 64
  · simp (disch := first | assumption | omega) only [e4, hlt, go_sem, ↓reduceIte, reduceIte, Int.reduceNeg]
    refine aw_cutBB (Pm := fun S => ∃ (L : List Cell) (q : Own), S.env 4 = .int .i64 (64 - (n : Int)) ∧ S.env 0 = .map id ∧ S.env 3 = .lst q (cellsA L) ∧ (q = .nil ∧ L = [] ∨ q = .app 2) ∧ Up L ∧ L.length + 128 * (n - 1) ≤ 16384 ∧ (∀ c : Cell, c ∈ L ↔ inS s c ∧ onG c.X ∧ -64 ≤ c.Y ∧ c.Y < 64 - (n : Int) + 1) ∧ S.heap = h) ?_ ?_
    · refine aw_count (fun m S => ∃ (L : List Cell) (q : Own), m ≤ 128 ∧ S.env 5 = .int .i64 (64 - (m : Int)) ∧ S.env 4 = .int .i64 (64 - (n : Int)) ∧ S.env 0 = .map id ∧ S.env 3 = .lst q (cellsA L) ∧ (q = .nil ∧ L = [] ∨ q = .app 2) ∧ Up L ∧ L.length + 128 * (n - 1) + m ≤ 16384 ∧ (∀ c : Cell, c ∈ L ↔ inS s c ∧ onG c.X ∧ -64 ≤ c.Y ∧ (c.Y < 64 - (n : Int) ∨ c.Y = 64 - (n : Int) ∧ c.X < 64 - (m : Int))) ∧ S.heap = h) (n := 128)
        ⟨L, q, by omega, by simp (disch := first | assumption | omega) only [go_sem, ↓reduceIte, reduceIte, Int.reduceNeg]; rfl, by simp (disch := first | assumption | omega) only [e4, go_sem, ↓reduceIte, Nat.reduceEqDiff, reduceIte, Int.reduceNeg], by simp (disch := first | assumption | omega) only [e0, go_sem, ↓reduceIte, reduceCtorEq, reduceIte, Int.reduceNeg], by simp (disch := first | assumption | omega) only [e3, go_sem, ↓reduceIte, Nat.reduceEqDiff, reduceIte, Int.reduceNeg], hq, hu, by omega, fun c => by rw [hm c]; refine and_congr_right fun _ => ?_; unfold onG; omega, by simp (disch := first | assumption | omega) only [eh, go_sem, Int.reduceNeg]⟩ ?_
      clear e4 e0 e3 eh hq hu hL hm
      clear L q
      rintro m S ⟨L, q, hm128, e5, e4, e0, e3, hq, hu, hL, hm, eh⟩
      by_cases hlm : (64 : Int) - m < 64
      · have hk := keyOk_cell ⟨64 - (m : Int), 64 - (n : Int)⟩
        have hks := keyOk_ents s
        have hget := mget_ents ⟨64 - (m : Int), 64 - (n : Int)⟩ s
        unfold cellA at hk hget
        have hks' : (∀ e ∈ ents s, keyOk true [.i .i64, .i .i64] e.2.1) = True := eq_true hks
        by_cases hin : inS s ⟨64 - (m : Int), 64 - (n : Int)⟩
        · rw [if_pos hin] at hget
          simp (disch := first | assumption | omega) only [e5, e4, e0, e3, eh, hlm, mlookV, hid, hk, hget, hks', rdv_map, go_sem, ↓reduceIte, Nat.reduceEqDiff, reduceCtorEq, Nat.reduceAdd, Nat.reduceLeDiff, reduceIte, Int.reduceAdd, Int.reduceMul, Int.reduceNeg, Nat.reduceMul]
          refine ⟨?_, by omega, by omega, m - 1, by omega, L ++ [⟨64 - (m : Int), 64 - (n : Int)⟩], .app 2, by omega, by congr 1; omega, by simp [cellsA, cellA], .inr rfl, ?_, by simp; omega, fun c => ?_⟩
          · rcases hq with ⟨rfl, rfl⟩ | rfl <;> rfl
          · refine List.pairwise_append.2 ⟨hu, List.pairwise_singleton _ _, fun a ha b hb => ?_⟩
            rw [List.mem_singleton.1 hb]
            obtain ⟨_, _, _, h4⟩ := (hm a).1 ha
            exact h4
          · rw [List.mem_append, List.mem_singleton, hm c]
            constructor
            · rintro (⟨h1, h2, h3, h4⟩ | rfl)
              · exact ⟨h1, h2, h3, by omega⟩
              · exact ⟨hin, by unfold onG; simp only []; omega, by simp only []; omega, .inr ⟨rfl, by simp only []; omega⟩⟩
            · rintro ⟨h1, h2, h3, h4⟩
              by_cases hc : c.X = 64 - (m : Int) ∧ c.Y = 64 - (n : Int)
              · right
                cases c
                simp only [Cell.mk.injEq] at *
                exact hc
              · exact .inl ⟨h1, h2, h3, by omega⟩
        · rw [if_neg hin] at hget
          simp (disch := first | assumption | omega) only [e5, e4, e0, e3, eh, hlm, mlookV, hid, hk, hget, hks', rdv_map, go_sem, ↓reduceIte, Nat.reduceEqDiff, reduceCtorEq, Nat.reduceAdd, Nat.reduceLeDiff, reduceIte, Int.reduceAdd, Int.reduceNeg]
          refine ⟨m - 1, by omega, L, q, by omega, by congr 1; omega, rfl, hq, hu, by omega, fun c => ?_⟩
          rw [hm c]
          constructor
          · rintro ⟨h1, h2, h3, h4⟩
            exact ⟨h1, h2, h3, by omega⟩
          · rintro ⟨h1, h2, h3, h4⟩
            refine ⟨h1, h2, h3, ?_⟩
            have hc : ¬(c.X = 64 - (m : Int) ∧ c.Y = 64 - (n : Int)) := fun ⟨e1, e2⟩ => hin (by
              have e : c = ⟨64 - (m : Int), 64 - (n : Int)⟩ := by cases c; simp only [Cell.mk.injEq] at *; exact ⟨e1, e2⟩
              rw [← e]; exact h1)
            omega
      · simp (disch := first | assumption | omega) only [e5, e4, e0, e3, eh, hlm, go_sem, ↓reduceIte, Nat.reduceEqDiff, reduceCtorEq, reduceIte, Int.reduceNeg]
        exact ⟨L, q, rfl, hq, hu, by omega, fun c => by rw [hm c]; refine and_congr_right fun _ => ?_; unfold onG; omega⟩
    · clear e4 e0 e3 eh hq hu hL hm
      clear L q
      rintro S ⟨L, q, e4, e0, e3, hq, hu, hL, hm, eh⟩
      simp (disch := first | assumption | omega) only [e4, e0, e3, eh, go_sem, ↓reduceIte, Nat.reduceEqDiff, reduceCtorEq, reduceIte, Int.reduceNeg]
      exact ⟨n - 1, by omega, L, q, by omega, by congr 1; omega, rfl, hq, hu, hL, fun c => by rw [hm c]; refine and_congr_right fun _ => ?_; unfold onG; omega⟩
  · simp (disch := first | assumption | omega) only [e4, e3, hlt, go_sem, ↓reduceIte, Nat.reduceEqDiff, reduceIte, Int.reduceNeg]
    subst hQ
    simp (disch := first | assumption | omega) only [R.gantref5_Set_List, eh, go_sem, ↓reduceIte, reduceIte]
    exact ⟨L, q, rfl, hq, hu, fun c => by rw [hm c]; refine and_congr_right fun _ => ?_; unfold onG; omega⟩
end Go.Proofs.Ytpdajkbfemcdlaa
/- Contracts: events are kept, and a controller comes back. -/
set_option linter.unusedSimpArgs false
set_option linter.unusedVariables false
set_option maxRecDepth 10000
namespace Go.Proofs.Ytpdajkbfemcdlaa
open Go.Ge Go.Sort
theorem doF_few (m : Mem) (e : Ev) : (doF m e).1.Asked.length ≤ 400 ∧ (doF m e).1.Has.length ≤ 400 := by
  unfold doF
  by_cases hc : evF e = 0
  case neg => rw [if_pos hc]; exact ⟨by simp [mem0], by simp [mem0]⟩
  rw [if_neg (by simp [hc])]
  by_cases hr : memF m = 0
  case neg => rw [if_pos hr]; exact ⟨by simp [mem0], by simp [mem0]⟩
  rw [if_neg (by simp [hr])]
  obtain ⟨e1, e2, e3, e4, e5⟩ := evF_zero hc
  obtain ⟨m1, m2, m3, m4, m5⟩ := memF_zero.1 hr
  have f1 := (fault_up m4).1
  have f2 := (fault_up m5).1
  have f3 := (fault_up e5).1
  have g1 : (minusC e.Cells m.Has).length ≤ 400 := (fault_up (minus_fault e5)).1
  have g2 : (minusC m.Has e.Cells).length ≤ 400 := (fault_up (minus_fault m5)).1
  repeat' split
  all_goals first
    | exact ⟨f1, f2⟩
    | exact ⟨Nat.zero_le _, Nat.zero_le _⟩
    | exact ⟨g1, f2⟩
    | exact ⟨f1, g2⟩
    | (rename_i hj; exact ⟨Nat.zero_le _, (fault_up (Decidable.not_not.1 hj)).1⟩)
end Go.Proofs.Ytpdajkbfemcdlaa
/- Contracts: events that are made. -/
set_option linter.unusedSimpArgs false
set_option linter.unusedVariables false
set_option maxRecDepth 10000
namespace Go.Proofs.Ytpdajkbfemcdlaa
open Go.Ge Go.Sort
theorem cellsFault_nil : cellsFault [] = 0 := fault_of (by simp) (by simp) List.Pairwise.nil
end Go.Proofs.Ytpdajkbfemcdlaa
/- A controller that falls goes on as one that has never fallen. -/
set_option linter.unusedSimpArgs false
set_option linter.unusedVariables false
set_option maxRecDepth 10000
namespace Go.Proofs.Ytpdajkbfemcdlaa
open Go.Ge Go.Sort
/-- What is done by right events to who knows what is right. -/
def doB (m : Mem) (e : Ev) : Mem × Int :=
  if e.Kind = 1 then ({ m with Goal := e.N, Ticks := 0 }, 0)
  else if e.Kind = 2 then if m.Ticks ≥ 2000 then (mem0, 19) else ({ m with Ticks := m.Ticks + 1 }, 0)
  else if e.Kind = 3 then if 0 < m.Asked.length then (mem0, 7) else ({ m with Asked := minusC e.Cells m.Has }, 0)
  else if e.Kind = 4 then if cellsFault (joinC m.Has m.Asked) ≠ 0 then (mem0, 6) else ({ m with Has := joinC m.Has m.Asked, Asked := [] }, 0)
  else if e.Kind = 5 then if withinC e.Cells m.Has = false then (mem0, 4) else ({ m with Has := minusC m.Has e.Cells }, 0)
  else ({ m with Falls := IntKind.i64.wrap (m.Falls + 1) }, 0)
theorem doF_body {m : Mem} {e : Ev} (h1 : evF e = 0) (h2 : memF m = 0) : doF m e = doB m e := by
  unfold doF
  rw [if_neg (by simp [h1]), if_neg (by simp [h2])]
  rfl
end Go.Proofs.Ytpdajkbfemcdlaa
/- Contracts: what happens, by the second implementation. -/
set_option linter.unusedSimpArgs false
set_option linter.unusedVariables false
set_option maxRecDepth 10000
namespace Go.Proofs.Ytpdajkbfemcdlaa
open Go.Ge Go.Sort
theorem up_nodup {l : List Cell} (h : Up l) : l.Nodup := List.Pairwise.imp (R := cellLt) (S := fun a b => a ≠ b) (fun {a b} hab e => cellLt_irrefl b (by rw [e] at hab; exact hab)) h
theorem nd_inj {α β : Type} (f : α → β) : ∀ {l : List α}, (l.map f).Nodup → ∀ {a b : α}, a ∈ l → b ∈ l → f a = f b → a = b
  | x :: l, h, a, b, ha, hb, e => by
    rw [List.map_cons, List.nodup_cons] at h
    rcases List.mem_cons.1 ha with ea | ha <;> rcases List.mem_cons.1 hb with eb | hb
    · rw [ea, eb]
    · rw [ea] at e; exact absurd (List.mem_map.2 ⟨b, hb, e.symm⟩) h.1
    · rw [eb] at e; exact absurd (List.mem_map.2 ⟨a, ha, e⟩) h.1
    · exact nd_inj f h.2 ha hb e
/-- A list of a set is the sorted list with the same cells. -/
theorem grid_eq {s : List (Nat × Cell)} {v : AVal} {R : List Cell} (h : GridQ s v) (hR : Up R) (hm : ∀ c, c ∈ R ↔ inS s c) (hg : ∀ c ∈ R, onG c.X ∧ onG c.Y) : ∃ q, v = .lst q (cellsA R) ∧ (q = .nil ∧ R = [] ∨ q = .app 2) := by
  obtain ⟨L, q, rfl, hq, hu, hL⟩ := h
  have e : L = R := up_mem_eq hu hR fun c => by
    rw [hL c, ← hm c]
    exact ⟨fun h => h.1, fun h => ⟨h, hg c h⟩⟩
  subst e
  exact ⟨q, rfl, hq⟩
theorem set_len {s : List (Nat × Cell)} {R : List Cell} (hs : (s.map (·.2)).Nodup) (hR : Up R) (hm : ∀ c, c ∈ R ↔ inS s c) : s.length = R.length := by
  have := (List.perm_ext_iff_of_nodup hs (up_nodup hR)).2 fun c => (hm c).symm
  have := this.length_eq
  simpa using this
theorem find_ents : ∀ {s : List (Nat × Cell)} {p : Nat × Cell}, (s.map (·.1)).Nodup → p ∈ s → (ents s).find? (fun x => x.1 == p.1) = some (p.1, cellA p.2, .bool true)
  | q :: s, p, h, hp => by
    rw [List.map_cons, List.nodup_cons] at h
    simp only [ents, List.map_cons, List.find?_cons]
    rcases List.mem_cons.1 hp with rfl | hp
    · simp
    · have hne : ¬ q.1 = p.1 := fun e => h.1 (e ▸ List.mem_map.2 ⟨p, hp, rfl⟩)
      have hb : (q.1 == p.1) = false := by simpa using hne
      rw [hb]
      exact find_ents h.2 hp
theorem filter_ents (lf : List (Nat × Cell)) (p : Nat × Cell) : (ents lf).filter (fun x => x.1 != p.1) = ents (lf.filter fun q => q.1 != p.1) := by
  unfold ents
  rw [List.filter_map]
  rfl
theorem in_rest {lf : List (Nat × Cell)} {p : Nat × Cell} (h1 : (lf.map (·.1)).Nodup) (h2 : (lf.map (·.2)).Nodup) (hp : p ∈ lf) (c : Cell) : inS (lf.filter fun q => q.1 != p.1) c ↔ inS lf c ∧ c ≠ p.2 := by
  have inj1 : ∀ q ∈ lf, q.1 = p.1 → q = p := fun q hq e => nd_inj _ h1 hq hp e
  have inj2 : ∀ q ∈ lf, q.2 = p.2 → q = p := fun q hq e => nd_inj _ h2 hq hp e
  unfold inS
  simp only [List.mem_map, List.mem_filter, bne_iff_ne, ne_eq]
  constructor
  · rintro ⟨q, ⟨hq, hne⟩, rfl⟩
    exact ⟨⟨q, hq, rfl⟩, fun e => hne (by rw [inj2 q hq e])⟩
  · rintro ⟨⟨q, hq, rfl⟩, hne⟩
    exact ⟨q, ⟨hq, fun e => hne (by rw [inj1 q hq e])⟩, rfl⟩
theorem not_mem_take {l : List Cell} (h : Up l) {i : Nat} (hi : i < l.length) : l[i] ∉ l.take i := by
  intro hm
  obtain ⟨j, hj, e⟩ := List.mem_iff_getElem.1 hm
  rw [List.length_take] at hj
  rw [List.getElem_take] at e
  have := up_at h (i := j) (j := i) (by omega) hi
  rw [e] at this
  exact cellLt_irrefl _ this
theorem mem_minusC (a b : List Cell) (c : Cell) : c ∈ minusC a b ↔ c ∈ a ∧ c ∉ b := by
  unfold minusC
  rw [List.mem_filter, mem_normC]
  simp
section
variable (h : List HObj) (a b c x : HObj)
theorem drV_cell {s : Nat} {k1 k2 : IntKind} {x y : Int} : drV s (.agg [.int k1 x, .int k2 y]) = .agg [.int k1 x, .int k2 y] := rfl
theorem h3_0 : (h ++ [a, b, c])[h.length]? = some a := by simp
theorem h3_1 : (h ++ [a, b, c])[h.length + 1]? = some b := by simp [List.getElem?_append]
theorem h3_2 : (h ++ [a, b, c])[h.length + 2]? = some c := by simp [List.getElem?_append]
theorem h3_s1 : (h ++ [a, b, c]).set (h.length + 1) x = h ++ [a, x, c] := by rw [List.set_append_right _ _ (by omega)]; simp
theorem h3_s2 : (h ++ [a, b, c]).set (h.length + 2) x = h ++ [a, b, x] := by rw [List.set_append_right _ _ (by omega)]; simp
end
def HapQ (m : Mem) (e : Ev) (v : AVal) : Prop := ∃ o' p', v = .tup [memRA o' p' (doF m e).1, .int .i64 (doF m e).2] ∧ Rdn o' (doF m e).1.Asked ∧ Rdn p' (doF m e).1.Has
theorem HapQ.none {m : Mem} {e : Ev} {x : Int} (h : doF m e = (mem0, x)) : HapQ m e (.tup [.agg [.int .i64 0, .int .i64 0, .int .i64 0, .lst .nil [], .lst .nil []], .int .i64 x]) := by
  unfold HapQ
  rw [h]
  exact ⟨.nil, .nil, rfl, ⟨.inr rfl, fun _ => rfl⟩, ⟨.inr rfl, fun _ => rfl⟩⟩
theorem Happens_ok (o p q : Own) (m : Mem) (e : Ev) (he : evF e = 0) (ho : Rdn o m.Asked) (hp : Rdn p m.Has) (hq : Rdn q e.Cells) (l1 : m.Asked.length < 4611686018427387904) (l2 : m.Has.length < 4611686018427387904) (h : List HObj) :
    ACalls Try.prog F.gantref5_Happens [memRA o p m, .int .i64 e.Kind, .int .i64 e.N, .lst q (cellsA e.Cells)] h (fun v h' => HapQ m e v ∧ h' = h) := by
  have ho1 := ho.1
  have hp1 := hp.1
  have hq1 := hq.1
  refine ACalls.gcn (ACalls.of_aw Try.func122 K.gantref5_Happens (by simp [Try.f122]) ?_)
  generalize hQ : retQ R.gantref5_Happens _ = Q
  simp (disch := first | assumption | omega) only [C.gantref5_Happens, go_sem, ↓reduceIte, Nat.reduceEqDiff, Nat.reduceLeDiff, reduceIte]
  simp (disch := first | assumption | omega) only [memRA, memRC, go_sem, Nat.reduceAdd, Nat.reduceLeDiff, Int.reduceAdd]
  refine callG_ok (MemFault_ok o p m ho1 hp1 l1 l2 _) (by simp (disch := first | assumption | omega) only [go_sem]) ?_
  rintro _ _ ⟨rfl, hhh⟩
  rw [hhh]
  clear hhh
  by_cases hr : memF m = 0
  case neg =>
    simp (disch := first | assumption | omega) only [hr, go_sem, ↓reduceIte, Nat.reduceEqDiff, Nat.reduceAdd, Nat.reduceLeDiff, reduceIte, Int.reduceAdd]
    subst hQ
    simp (disch := first | assumption | omega) only [R.gantref5_Happens, go_sem, ↓reduceIte, Nat.reduceEqDiff, Nat.reduceAdd, reduceIte, Int.reduceAdd]
    exact ⟨[], by simp, by simp [AVal.ids, idsL], HapQ.none (by unfold doF; rw [if_neg (by simp [he]), if_pos hr])⟩
  have hd := doF_body he hr
  unfold doB at hd
  obtain ⟨e1, e2, e3, e4, e5⟩ := evF_zero he
  obtain ⟨m1, m2, m3, m4, m5⟩ := memF_zero.1 hr
  obtain ⟨f1, ga, ua⟩ := fault_up m4
  obtain ⟨f2, gh, uh⟩ := fault_up m5
  obtain ⟨f3, gc, uc⟩ := fault_up e5
  simp (disch := first | assumption | omega) only [hr, go_sem, ↓reduceIte, Nat.reduceEqDiff, Nat.reduceAdd, Nat.reduceLeDiff, Nat.reduceLT, reduceIte, Int.reduceLT, Int.reduceAdd]
  refine callG_ok (SetOf_ok p m.Has hp1 l2 _) (by simp (disch := first | assumption | omega) only [go_sem]) ?_
  rintro _ _ ⟨rfl, rfl⟩
  have hw1 := ofL_wf (l := m.Has) (WfS.nil 0)
  have hi1 : ∀ c, inS (ofL 0 [] m.Has).2 c ↔ c ∈ m.Has := fun c => by rw [ofL_in]; simp [inS]
  generalize hS1 : (ofL 0 [] m.Has).2 = s1 at *
  generalize hK1 : (ofL 0 [] m.Has).1 = k1 at *
  by_cases c1 : e.Kind = 1
  · rw [if_pos c1] at hd
    simp (disch := first | assumption | omega) only [c1, go_sem, ↓reduceIte, Nat.reduceEqDiff, reduceCtorEq, Nat.reduceAdd, Nat.reduceLeDiff, reduceIte, Int.reduceAdd]
    subst hQ
    simp (disch := first | assumption | omega) only [R.gantref5_Happens, go_sem, ↓reduceIte, Nat.reduceEqDiff, Nat.reduceAdd, reduceIte, Int.reduceAdd]
    exact ⟨_, rfl, by simp [AVal.ids, idsL, cells_ids], o, p, by rw [hd]; rfl, by rw [hd]; exact ho, by rw [hd]; exact hp⟩
  rw [if_neg c1] at hd
  by_cases c2 : e.Kind = 2
  · rw [if_pos c2] at hd
    by_cases c : m.Ticks ≥ 2000
    · rw [if_pos c] at hd
      have c' : 1999 < m.Ticks := by omega
      simp (disch := first | assumption | omega) only [c2, c', go_sem, ↓reduceIte, Nat.reduceEqDiff, reduceCtorEq, Nat.reduceAdd, Nat.reduceLeDiff, reduceIte, Int.reduceAdd, Int.reduceEq]
      subst hQ
      simp (disch := first | assumption | omega) only [R.gantref5_Happens, go_sem, ↓reduceIte, Nat.reduceEqDiff, Nat.reduceAdd, reduceIte, Int.reduceAdd]
      exact ⟨_, rfl, by simp [AVal.ids, idsL], HapQ.none hd⟩
    · rw [if_neg c] at hd
      have c' : ¬ 1999 < m.Ticks := by omega
      simp (disch := first | assumption | omega) only [c2, c', go_sem, ↓reduceIte, Nat.reduceEqDiff, reduceCtorEq, Nat.reduceAdd, Nat.reduceLeDiff, reduceIte, Int.reduceAdd, Int.reduceEq]
      subst hQ
      simp (disch := first | assumption | omega) only [R.gantref5_Happens, go_sem, ↓reduceIte, Nat.reduceEqDiff, Nat.reduceAdd, reduceIte, Int.reduceAdd]
      exact ⟨_, rfl, by simp [AVal.ids, idsL, cells_ids], o, p, by rw [hd]; rfl, by rw [hd]; exact ho, by rw [hd]; exact hp⟩
  rw [if_neg c2] at hd
  by_cases c3 : e.Kind = 3
  · rw [if_pos c3] at hd
    by_cases c : 0 < m.Asked.length
    · rw [if_pos c] at hd
      have c' : ¬ ((m.Asked.length : Int) = 0) := by omega
      simp (disch := first | assumption | omega) only [c3, c', go_sem, ↓reduceIte, Nat.reduceEqDiff, reduceCtorEq, Nat.reduceAdd, Nat.reduceLeDiff, reduceIte, Int.reduceAdd, Int.reduceEq]
      subst hQ
      simp (disch := first | assumption | omega) only [R.gantref5_Happens, go_sem, ↓reduceIte, Nat.reduceEqDiff, Nat.reduceAdd, reduceIte, Int.reduceAdd]
      exact ⟨_, rfl, by simp [AVal.ids, idsL], HapQ.none hd⟩
    rw [if_neg c] at hd
    have c' : (m.Asked.length : Int) = 0 := by omega
    simp (disch := first | assumption | omega) only [c3, c', go_sem, ↓reduceIte, Nat.reduceEqDiff, reduceCtorEq, Nat.reduceAdd, Nat.reduceLeDiff, reduceIte, Int.reduceAdd, Int.reduceEq]
    refine callG_ok (SetOf_ok q e.Cells hq1 (by omega) _) (by simp (disch := first | assumption | omega) only [go_sem]) ?_
    rintro _ _ ⟨rfl, rfl⟩
    have hw2 := ofL_wf (l := e.Cells) (WfS.nil 0)
    have hi2 : ∀ c, inS (ofL 0 [] e.Cells).2 c ↔ c ∈ e.Cells := fun c => by rw [ofL_in]; simp [inS]
    generalize hS2 : (ofL 0 [] e.Cells).2 = s2 at *
    generalize hK2 : (ofL 0 [] e.Cells).1 = k2 at *
    simp (disch := first | assumption | omega) only [rdv_map, go_sem, ↓reduceIte, Nat.reduceEqDiff, Nat.reduceAdd, reduceIte, Int.reduceAdd]
    refine aw_cutB (Pm := fun S => ∃ (s : List (Nat × Cell)) (cur : HObj), WfS k2 s ∧ (∀ c, inS s c ↔ c ∈ e.Cells ∧ c ∉ m.Has) ∧ S.env 12 = .map (h.length + 1) ∧ S.env 4 = .box 4 0 ∧ S.boxes 4 = some (memRC o p m) ∧ S.env 8 = .box 8 0 ∧ S.boxes 8 = some [.int .i64 0, .int .i64 0, .int .i64 0, .lst .nil [], .lst .nil []] ∧ S.heap = h ++ [.map k1 (ents s1), .map k2 (ents s), cur]) ?_ ?_
    · refine aw_count (fun n S => ∃ (s lf : List (Nat × Cell)) (cur : Option Nat), n = lf.length ∧ lf.Sublist s1 ∧ WfS k2 s ∧ (∀ c, inS s c ↔ c ∈ e.Cells ∧ (¬ inS s1 c ∨ inS lf c)) ∧ S.env 53 = .hp (h.length + 2) 0 ∧ S.env 12 = .map (h.length + 1) ∧ S.env 4 = .box 4 0 ∧ S.boxes 4 = some (memRC o p m) ∧ S.env 8 = .box 8 0 ∧ S.boxes 8 = some [.int .i64 0, .int .i64 0, .int .i64 0, .lst .nil [], .lst .nil []] ∧ S.heap = h ++ [.map k1 (ents s1), .map k2 (ents s), .iter h.length k1 (ents s1) (ents lf) cur]) (n := s1.length)
        ⟨s2, s1, none, rfl, List.Sublist.refl _, hw2, fun c => by rw [hi2]; by_cases hc : inS s1 c <;> simp [hc], by simp (disch := first | assumption | omega) only [go_sem, ↓reduceIte, reduceIte], by simp (disch := first | assumption | omega) only [go_sem, ↓reduceIte, Nat.reduceEqDiff, reduceIte], by simp (disch := first | assumption | omega) only [go_sem, ↓reduceIte, Nat.reduceEqDiff, reduceIte], by simp (disch := first | assumption | omega) only [memRC, go_sem, ↓reduceIte, Nat.reduceEqDiff, reduceIte], by simp (disch := first | assumption | omega) only [go_sem, ↓reduceIte, Nat.reduceEqDiff, reduceIte], by simp (disch := first | assumption | omega) only [go_sem, ↓reduceIte, reduceIte], by simp (disch := first | assumption | omega) only [go_sem]⟩ ?_
      rintro n S ⟨s, lf, cur, rfl, hsub, hws, his, e53, e12, e4, x4, e8, x8, eh⟩
      have hst := (hsub.map (·.1)).nodup hw1.st
      have hnd := (hsub.map (·.2)).nodup hw1.nd
      simp (disch := first | assumption | omega) only [e53, e12, e4, x4, e8, x8, eh, h3_0, h3_1, h3_2, h3_s1, h3_s2, drV_map, rdv_map, go_sem, ↓reduceIte, Nat.reduceEqDiff, Nat.reduceAdd, Nat.reduceLeDiff, Nat.reduceLT, reduceIte, Int.reduceLT, Int.reduceAdd]
      refine ⟨fun hz => ?_, fun x hx => ?_⟩
      · have hlf : lf = [] := by
          cases lf with
          | nil => rfl
          | cons a b => cases hz
        subst hlf
        exact ⟨s, _, hws, fun c => by rw [his c, hi1]; simp [inS], rfl⟩
      · obtain ⟨pr, hpr, rfl⟩ := List.mem_map.1 hx
        have hfind := find_ents hw1.st (hsub.subset hpr)
        have hk := keyOk_cell pr.2
        have hks := keyOk_ents s
        have hdl := mdel_ents pr.2 s
        have hfl := filter_ents lf pr
        have hcd : ∀ c, inS (delS pr.2 s) c ↔ c ∈ e.Cells ∧ (¬ inS s1 c ∨ inS (lf.filter fun q => q.1 != pr.1) c) := fun c => by
          rw [in_del hws.nd, his c, in_rest hst hnd hpr]
          have hs1 : inS s1 pr.2 := List.mem_map.2 ⟨pr, hsub.subset hpr, rfl⟩
          constructor
          · rintro ⟨⟨h1, h2⟩, h3⟩
            exact ⟨h1, h2.imp id fun h4 => ⟨h4, h3⟩⟩
          · rintro ⟨h1, h2 | ⟨h2, h3⟩⟩
            · exact ⟨⟨h1, .inl h2⟩, fun e => h2 (e ▸ hs1)⟩
            · exact ⟨⟨h1, .inr h2⟩, h3⟩
        have hlen : (lf.filter fun q => q.1 != pr.1).length < lf.length := List.length_filter_lt_length_iff_exists.2 ⟨pr, hpr, by simp⟩
        simp only []
        rw [hfind]
        unfold cellA at hk hdl hfind
        simp (disch := first | assumption | omega) only [cellA, drV_cell, fillV, AVal.cells, hdl, hfl, go_sem, Nat.reduceAdd, Nat.reduceLeDiff, Int.reduceAdd]
        exact ⟨hk, hks, _, hlen, delS pr.2 s, lf.filter fun q => q.1 != pr.1, some pr.1, rfl, List.filter_sublist.trans hsub, hws.del _, hcd, rfl⟩
    · rintro S ⟨s, cur, hws, his, e12, e4, x4, e8, x8, eh⟩
      simp (disch := first | assumption | omega) only [e12, rdv_map, go_sem, ↓reduceIte, reduceIte]
      refine callG_ok (List_ok (h.length + 1) k2 s hws _ (by simp (disch := first | assumption | omega) only [eh, h3_1, go_sem])) (by simp (disch := first | assumption | omega) only [go_sem]) ?_
      rintro v _ ⟨hv, hhh⟩
      rw [hhh]
      clear hhh
      obtain ⟨q2, rfl, hq2⟩ := grid_eq hv (minusC_up e.Cells m.Has) (fun c => by rw [mem_minusC, his]) (fun c hc => gc c ((mem_minusC _ _ _).1 hc).1)
      have hq3 : q2 = .nil ∨ q2 = .sh ∨ ∃ z, q2 = .app z := by
        rcases hq2 with ⟨rfl, _⟩ | rfl
        · exact .inl rfl
        · exact .inr (.inr ⟨_, rfl⟩)
      obtain ⟨a1, ha1, ha2, ha3, ha4, ha5⟩ := own_rd (cellsA (minusC e.Cells m.Has)) hq3
      have hA : Rdn a1 (minusC e.Cells m.Has) := ⟨ha1, fun h => by
        rcases hq2 with ⟨_, h⟩ | rfl
        · exact h
        · cases ha2 h⟩
      simp (disch := first | assumption | omega) only [e4, x4, e8, x8, memRC, ha5, go_sem, ↓reduceIte, Nat.reduceEqDiff, Nat.reduceAdd, Nat.reduceLeDiff, reduceIte, Int.reduceAdd]
      subst hQ
      simp (disch := first | assumption | omega) only [R.gantref5_Happens, e8, eh, go_sem, ↓reduceIte, Nat.reduceEqDiff, Nat.reduceAdd, reduceIte, Int.reduceAdd]
      exact ⟨_, rfl, by simp [AVal.ids, idsL, cells_ids], a1, p, by rw [hd]; rfl, by rw [hd]; exact hA, by rw [hd]; exact hp⟩
  rw [if_neg c3] at hd
  by_cases c4 : e.Kind = 4
  · rw [if_pos c4] at hd
    simp (disch := first | assumption | omega) only [c4, rdv_map, go_sem, ↓reduceIte, Nat.reduceEqDiff, reduceCtorEq, Nat.reduceAdd, Nat.reduceLeDiff, reduceIte, Int.reduceAdd, Int.reduceEq]
    refine aw_cutB (Pm := fun S => S.env 11 = .map h.length ∧ S.env 4 = .box 4 0 ∧ S.boxes 4 = some (memRC o p m) ∧ S.env 8 = .box 8 0 ∧ S.boxes 8 = some [.int .i64 0, .int .i64 0, .int .i64 0, .lst .nil [], .lst .nil []] ∧ S.heap = h ++ [.map (ofL k1 s1 m.Asked).1 (ents (ofL k1 s1 m.Asked).2)]) ?_ ?_
    · refine aw_count (fun n S => ∃ (i : Nat), i + n = m.Asked.length ∧ S.env 68 = .int .i64 i ∧ S.env 67 = .int .i64 m.Asked.length ∧ S.env 66 = .lst o (cellsA m.Asked) ∧ S.env 11 = .map h.length ∧ S.env 4 = .box 4 0 ∧ S.boxes 4 = some (memRC o p m) ∧ S.env 8 = .box 8 0 ∧ S.boxes 8 = some [.int .i64 0, .int .i64 0, .int .i64 0, .lst .nil [], .lst .nil []] ∧ S.heap = h ++ [.map (ofL k1 s1 (m.Asked.take i)).1 (ents (ofL k1 s1 (m.Asked.take i)).2)]) (n := m.Asked.length)
        ⟨0, by omega, by simp (disch := first | assumption | omega) only [go_sem, ↓reduceIte, reduceIte], by simp (disch := first | assumption | omega) only [go_sem, ↓reduceIte, Nat.reduceEqDiff, reduceIte], by simp (disch := first | assumption | omega) only [go_sem, ↓reduceIte, Nat.reduceEqDiff, reduceIte], by simp (disch := first | assumption | omega) only [go_sem, ↓reduceIte, Nat.reduceEqDiff, reduceIte], by simp (disch := first | assumption | omega) only [go_sem, ↓reduceIte, Nat.reduceEqDiff, reduceIte], by simp (disch := first | assumption | omega) only [memRC, go_sem, ↓reduceIte, Nat.reduceEqDiff, reduceIte], by simp (disch := first | assumption | omega) only [go_sem, ↓reduceIte, Nat.reduceEqDiff, reduceIte], by simp (disch := first | assumption | omega) only [go_sem, ↓reduceIte, reduceIte], by simp (disch := first | assumption | omega) only [go_sem]; rfl⟩ ?_
      rintro n S ⟨i, hi, e68, e67, e66, e11, e4, x4, e8, x8, eh⟩
      by_cases hlt : (i : Int) < m.Asked.length
      · have hlt1 : i < m.Asked.length := by omega
        have q1 := at_cells hlt1
        have hsn : ofL k1 s1 (m.Asked.take (i + 1)) = (addK (ofL k1 s1 (m.Asked.take i)).1 (ofL k1 s1 (m.Asked.take i)).2 m.Asked[i], addS (ofL k1 s1 (m.Asked.take i)).1 (ofL k1 s1 (m.Asked.take i)).2 m.Asked[i]) := by
          rw [List.take_add_one, List.getElem?_eq_getElem hlt1]
          exact ofL_snoc _ _ _ _
        have hk := keyOk_cell m.Asked[i]
        have hks := keyOk_ents (ofL k1 s1 (m.Asked.take i)).2
        have hput := mput_ents (ofL k1 s1 (m.Asked.take i)).1 (ofL k1 s1 (m.Asked.take i)).2 m.Asked[i]
        unfold cellA at hk hput
        simp (disch := first | assumption | omega) only [e68, e67, e66, e11, e4, x4, e8, x8, eh, hlt, q1, cellA, hend, hput, hendset, drV_map, rdv_map, go_sem, ↓reduceIte, Nat.reduceEqDiff, Nat.reduceAdd, Nat.reduceLeDiff, reduceIte, Int.reduceAdd]
        exact ⟨hk, hks, n - 1, by omega, i + 1, by omega, by simp, by rw [hsn]⟩
      · obtain rfl : i = m.Asked.length := by omega
        rw [List.take_length] at eh
        simp (disch := first | assumption | omega) only [e68, e67, e11, e4, x4, e8, x8, eh, hlt, go_sem, ↓reduceIte, Nat.reduceEqDiff, reduceIte]
    · rintro S ⟨e11, e4, x4, e8, x8, eh⟩
      have hw2 := ofL_wf (l := m.Asked) hw1
      have hi2 : ∀ c, inS (ofL k1 s1 m.Asked).2 c ↔ c ∈ m.Has ∨ c ∈ m.Asked := fun c => by rw [ofL_in, hi1]
      generalize (ofL k1 s1 m.Asked).2 = s at *
      generalize (ofL k1 s1 m.Asked).1 = k at *
      have hjm : ∀ c, c ∈ joinC m.Has m.Asked ↔ inS s c := fun c => by rw [hi2]; unfold joinC; rw [mem_normC, List.mem_append]
      have hju : Up (joinC m.Has m.Asked) := normC_up _
      have hlen := set_len hw2.nd hju hjm
      have hgrid : ∀ c ∈ joinC m.Has m.Asked, onG c.X ∧ onG c.Y := fun c hc => by
        rw [hjm, hi2] at hc
        rcases hc with hc | hc
        · exact gh c hc
        · exact ga c hc
      have hel : (ents s).length = (joinC m.Has m.Asked).length := by rw [← hlen]; simp [ents]
      by_cases c : (joinC m.Has m.Asked).length ≤ 400
      · have hz : cellsFault (joinC m.Has m.Asked) = 0 := fault_of c hgrid hju
        rw [if_neg (by simp [hz])] at hd
        have c' : ¬ (400 : Int) < ((joinC m.Has m.Asked).length : Int) := by omega
        simp (disch := first | assumption | omega) only [e11, eh, hend, hel, c', rdv_map, go_sem, ↓reduceIte, Nat.reduceEqDiff, reduceIte]
        refine callG_ok (List_ok h.length k s hw2 _ (by simp (disch := first | assumption | omega) only [eh, hend, go_sem])) (by simp (disch := first | assumption | omega) only [go_sem]) ?_
        rintro v _ ⟨hv, hhh⟩
        rw [hhh]
        clear hhh
        obtain ⟨q2, rfl, hq2⟩ := grid_eq hv hju hjm hgrid
        have hq3 : q2 = .nil ∨ q2 = .sh ∨ ∃ z, q2 = .app z := by
          rcases hq2 with ⟨rfl, _⟩ | rfl
          · exact .inl rfl
          · exact .inr (.inr ⟨_, rfl⟩)
        obtain ⟨a1, ha1, ha2, ha3, ha4, ha5⟩ := own_rd (cellsA (joinC m.Has m.Asked)) hq3
        have hA : Rdn a1 (joinC m.Has m.Asked) := ⟨ha1, fun h => by
          rcases hq2 with ⟨_, h⟩ | rfl
          · exact h
          · cases ha2 h⟩
        simp (disch := first | assumption | omega) only [e4, x4, e8, x8, memRC, ha5, go_sem, ↓reduceIte, Nat.reduceEqDiff, Nat.reduceAdd, Nat.reduceLeDiff, reduceIte, Int.reduceAdd]
        subst hQ
        simp (disch := first | assumption | omega) only [R.gantref5_Happens, e8, eh, go_sem, ↓reduceIte, Nat.reduceEqDiff, Nat.reduceAdd, reduceIte, Int.reduceAdd]
        exact ⟨_, rfl, by simp [AVal.ids, idsL, cells_ids], .nil, a1, by rw [hd]; rfl, by rw [hd]; exact ⟨.inr rfl, fun _ => rfl⟩, by rw [hd]; exact hA⟩
      · have hz : cellsFault (joinC m.Has m.Asked) ≠ 0 := fun hz => c (fault_up hz).1
        rw [if_pos hz] at hd
        have c' : (400 : Int) < ((joinC m.Has m.Asked).length : Int) := by omega
        simp (disch := first | assumption | omega) only [e11, e8, x8, eh, hend, hel, c', rdv_map, go_sem, ↓reduceIte, Nat.reduceEqDiff, Nat.reduceAdd, Nat.reduceLeDiff, reduceIte, Int.reduceAdd]
        subst hQ
        simp (disch := first | assumption | omega) only [R.gantref5_Happens, e8, eh, go_sem, ↓reduceIte, Nat.reduceEqDiff, Nat.reduceAdd, reduceIte, Int.reduceAdd]
        exact ⟨_, rfl, by simp [AVal.ids, idsL], HapQ.none hd⟩
  rw [if_neg c4] at hd
  by_cases c5 : e.Kind = 5
  · rw [if_pos c5] at hd
    simp (disch := first | assumption | omega) only [c5, rdv_map, go_sem, ↓reduceIte, Nat.reduceEqDiff, reduceCtorEq, reduceIte, Int.reduceEq]
    refine aw_cutB (Pm := fun S => ∃ s : List (Nat × Cell), WfS k1 s ∧ (∀ c, inS s c ↔ c ∈ m.Has ∧ c ∉ e.Cells) ∧ (∀ c ∈ e.Cells, c ∈ m.Has) ∧ S.env 11 = .map h.length ∧ S.env 4 = .box 4 0 ∧ S.boxes 4 = some (memRC o p m) ∧ S.env 8 = .box 8 0 ∧ S.boxes 8 = some [.int .i64 0, .int .i64 0, .int .i64 0, .lst .nil [], .lst .nil []] ∧ S.heap = h ++ [.map k1 (ents s)]) ?_ ?_
    · refine aw_count (fun n S => ∃ (i : Nat) (s : List (Nat × Cell)), i + n = e.Cells.length ∧ WfS k1 s ∧ (∀ c, inS s c ↔ c ∈ m.Has ∧ c ∉ e.Cells.take i) ∧ (∀ c ∈ e.Cells.take i, c ∈ m.Has) ∧ S.env 87 = .int .i64 i ∧ S.env 86 = .int .i64 e.Cells.length ∧ S.env 85 = .lst q (cellsA e.Cells) ∧ S.env 11 = .map h.length ∧ S.env 4 = .box 4 0 ∧ S.boxes 4 = some (memRC o p m) ∧ S.env 8 = .box 8 0 ∧ S.boxes 8 = some [.int .i64 0, .int .i64 0, .int .i64 0, .lst .nil [], .lst .nil []] ∧ S.heap = h ++ [.map k1 (ents s)]) (n := e.Cells.length)
        ⟨0, s1, by omega, hw1, fun c => by rw [hi1]; simp, by simp, by simp (disch := first | assumption | omega) only [go_sem, ↓reduceIte, reduceIte], by simp (disch := first | assumption | omega) only [go_sem, ↓reduceIte, Nat.reduceEqDiff, reduceIte], by simp (disch := first | assumption | omega) only [go_sem, ↓reduceIte, Nat.reduceEqDiff, reduceIte], by simp (disch := first | assumption | omega) only [go_sem, ↓reduceIte, Nat.reduceEqDiff, reduceIte], by simp (disch := first | assumption | omega) only [go_sem, ↓reduceIte, Nat.reduceEqDiff, reduceIte], by simp (disch := first | assumption | omega) only [memRC, go_sem, ↓reduceIte, Nat.reduceEqDiff, reduceIte], by simp (disch := first | assumption | omega) only [go_sem, ↓reduceIte, Nat.reduceEqDiff, reduceIte], by simp (disch := first | assumption | omega) only [go_sem, ↓reduceIte, reduceIte], by simp (disch := first | assumption | omega) only [go_sem]⟩ ?_
      rintro n S ⟨i, s, hi, hws, his, hal, e87, e86, e85, e11, e4, x4, e8, x8, eh⟩
      by_cases hlt : (i : Int) < e.Cells.length
      · have hlt1 : i < e.Cells.length := by omega
        have q1 := at_cells hlt1
        have hfr := not_mem_take uc hlt1
        have htk : ∀ c, c ∈ e.Cells.take (i + 1) ↔ c ∈ e.Cells.take i ∨ c = e.Cells[i] := fun c => by
          rw [List.take_add_one, List.getElem?_eq_getElem hlt1, List.mem_append]; simp
        have hmem := List.getElem_mem hlt1
        generalize e.Cells[i] = x at *
        have hk := keyOk_cell x
        have hks := keyOk_ents s
        have hks' : (∀ y ∈ ents s, keyOk true [.i .i64, .i .i64] y.2.1) = True := eq_true hks
        have hget := mget_ents x s
        have hdl := mdel_ents x s
        unfold cellA at hk hget hdl
        by_cases hin : inS s x
        · rw [if_pos hin] at hget
          simp (disch := first | assumption | omega) only [e87, e86, e85, e11, e4, x4, e8, x8, eh, hlt, q1, cellA, hend, mlookV, hk, hks', hget, hdl, hendset, drV_map, rdv_map, go_sem, ↓reduceIte, Nat.reduceEqDiff, Nat.reduceAdd, Nat.reduceLeDiff, reduceIte, Int.reduceAdd]
          trace_state
          exact ⟨n - 1, by omega, i + 1, delS x s, by omega, hws.del x, fun c => by
            rw [in_del hws.nd, his c, htk]
            constructor
            · rintro ⟨⟨h1, h2⟩, h3⟩
              exact ⟨h1, fun h4 => h4.elim h2 h3⟩
            · rintro ⟨h1, h2⟩
              exact ⟨⟨h1, fun h4 => h2 (.inl h4)⟩, fun h4 => h2 (.inr h4)⟩, fun c hc => by
            rcases (htk c).1 hc with hc | rfl
            · exact hal c hc
            · exact ((his _).1 hin).1, by simp, rfl⟩
        · rw [if_neg hin] at hget
          simp (disch := first | assumption | omega) only [e87, e86, e85, e11, e8, x8, eh, hlt, q1, cellA, hend, mlookV, hk, hks', hget, drV_map, rdv_map, go_sem, ↓reduceIte, Nat.reduceEqDiff, Nat.reduceAdd, Nat.reduceLeDiff, reduceIte, Int.reduceAdd]
          subst hQ
          simp (disch := first | assumption | omega) only [R.gantref5_Happens, e8, eh, go_sem, ↓reduceIte, Nat.reduceEqDiff, Nat.reduceAdd, reduceIte, Int.reduceAdd]
          have hz : withinC e.Cells m.Has = false := by
            unfold withinC
            rw [List.all_eq_false]
            refine ⟨x, hmem, ?_⟩
            have : ¬ x ∈ m.Has := fun h1 => hin ((his x).2 ⟨h1, hfr⟩)
            simp [this]
          rw [if_pos hz] at hd
          exact ⟨_, rfl, by simp [AVal.ids, idsL], HapQ.none hd⟩
      · obtain rfl : i = e.Cells.length := by omega
        rw [List.take_length] at his hal
        simp (disch := first | assumption | omega) only [e87, e86, e11, e4, x4, e8, x8, eh, hlt, go_sem, ↓reduceIte, Nat.reduceEqDiff, reduceIte]
        exact ⟨s, hws, his, hal, rfl⟩
    · rintro S ⟨s, hws, his, hal, e11, e4, x4, e8, x8, eh⟩
      have hz : withinC e.Cells m.Has = true := by
        unfold withinC
        rw [List.all_eq_true]
        intro c hc
        simp [hal c hc]
      rw [if_neg (by simp [hz])] at hd
      simp (disch := first | assumption | omega) only [e11, rdv_map, go_sem, ↓reduceIte, reduceIte]
      refine callG_ok (List_ok h.length k1 s hws _ (by simp (disch := first | assumption | omega) only [eh, hend, go_sem])) (by simp (disch := first | assumption | omega) only [go_sem]) ?_
      rintro v _ ⟨hv, hhh⟩
      rw [hhh]
      clear hhh
      obtain ⟨q2, rfl, hq2⟩ := grid_eq hv (minusC_up m.Has e.Cells) (fun c => by rw [mem_minusC, his]) (fun c hc => gh c ((mem_minusC _ _ _).1 hc).1)
      have hq3 : q2 = .nil ∨ q2 = .sh ∨ ∃ z, q2 = .app z := by
        rcases hq2 with ⟨rfl, _⟩ | rfl
        · exact .inl rfl
        · exact .inr (.inr ⟨_, rfl⟩)
      obtain ⟨a1, ha1, ha2, ha3, ha4, ha5⟩ := own_rd (cellsA (minusC m.Has e.Cells)) hq3
      have hA : Rdn a1 (minusC m.Has e.Cells) := ⟨ha1, fun h => by
        rcases hq2 with ⟨_, h⟩ | rfl
        · exact h
        · cases ha2 h⟩
      simp (disch := first | assumption | omega) only [e4, x4, e8, x8, memRC, ha5, go_sem, ↓reduceIte, Nat.reduceEqDiff, Nat.reduceAdd, Nat.reduceLeDiff, reduceIte, Int.reduceAdd]
      subst hQ
      simp (disch := first | assumption | omega) only [R.gantref5_Happens, e8, eh, go_sem, ↓reduceIte, Nat.reduceEqDiff, Nat.reduceAdd, reduceIte, Int.reduceAdd]
      exact ⟨_, rfl, by simp [AVal.ids, idsL, cells_ids], o, a1, by rw [hd]; rfl, by rw [hd]; exact ho, by rw [hd]; exact hA⟩
  rw [if_neg c5] at hd
  have c6 : e.Kind = 6 := by omega
  simp (disch := first | assumption | omega) only [c6, rdv_map, go_sem, ↓reduceIte, Nat.reduceEqDiff, reduceCtorEq, Nat.reduceAdd, Nat.reduceLeDiff, reduceIte, Int.reduceAdd, Int.reduceEq]
  subst hQ
  simp (disch := first | assumption | omega) only [R.gantref5_Happens, go_sem, ↓reduceIte, Nat.reduceEqDiff, Nat.reduceAdd, reduceIte, Int.reduceAdd]
  exact ⟨_, rfl, by simp [AVal.ids, idsL, cells_ids], o, p, by rw [hd]; rfl, by rw [hd]; exact ho, by rw [hd]; exact hp⟩
end Go.Proofs.Ytpdajkbfemcdlaa
/- Contracts: events are written and read by the second implementation. -/
set_option linter.unusedSimpArgs false
set_option linter.unusedVariables false
set_option maxRecDepth 10000
namespace Go.Proofs.Ytpdajkbfemcdlaa
open Go.Ge Go.Sort
def cellX (c : Cell) : List Int := [IntKind.i64.wrap (c.X + 64) % 256, IntKind.i64.wrap (c.Y + 64) % 256]
def evX (e : Ev) : List Int := (e.Kind % 256) :: (beBytes (e.N % 18446744073709551616) 4 ++ e.Cells.flatMap cellX)
theorem cellX_length (l : List Cell) : (l.flatMap cellX).length = 2 * l.length := by
  induction l with
  | nil => rfl
  | cons c l ih => rw [List.flatMap_cons, List.length_append, ih]; simp [cellX]; omega
theorem evX_B {e : Ev} (h : evF e = 0) : evX e = evB e := by
  obtain ⟨h1, h2, h3, h4, h5⟩ := evF_zero h
  obtain ⟨_, g2, _⟩ := fault_up h5
  unfold evX evB
  rw [Int.emod_eq_of_lt h3 (by omega)]
  congr 2
  unfold cellsB
  have key : ∀ l : List Cell, (∀ c ∈ l, onG c.X ∧ onG c.Y) → l.flatMap cellX = l.flatMap cellB := by
    intro l
    induction l with
    | nil => intro _; rfl
    | cons c l ih =>
      intro hl
      rw [List.flatMap_cons, List.flatMap_cons, ih fun c hc => hl c (List.mem_cons_of_mem _ hc)]
      congr 1
      obtain ⟨a1, a2⟩ := hl c List.mem_cons_self
      unfold onG at a1 a2
      unfold cellX cellB
      rw [wrapI64 (by omega) (by omega), wrapI64 (by omega) (by omega)]
  exact key _ g2
theorem EventBytes_ok (o : Own) (e : Ev) (ho : Rdo o) (hl : e.Cells.length ≤ 8796093022208) (h : List HObj) :
    ACalls Try.prog F.gantref5_EventBytes [.int .i64 e.Kind, .int .i64 e.N, .lst o (cellsA e.Cells)] h (fun v h' => v = .lst (.app 1) (ints .u8 (evX e)) ∧ h' = h) := by
  refine ACalls.of_aw Try.func119 K.gantref5_EventBytes (by simp [Try.f119]) ?_
  generalize hQ : retQ R.gantref5_EventBytes _ = Q
  simp (disch := first | assumption | omega) only [C.gantref5_EventBytes, go_sem, ↓reduceIte, Nat.reduceEqDiff, reduceCtorEq, Nat.reduceLeDiff, reduceIte, Int.reduceMul, Nat.reduceMul]
  simp (disch := first | assumption | omega) only [wrapU8_mod, wrapU64_mod, go_sem]
  refine callG_ok (Bytes_app (e.N % 18446744073709551616) 4 (by omega) (by omega) (by omega) _) (by simp (disch := first | assumption | omega) only [go_sem]) ?_
  rintro _ _ ⟨rfl, hhh⟩
  rw [hhh]
  clear hhh
  have hbl := beBytes_length (e.N % 18446744073709551616) 4
  simp (disch := first | assumption | omega) only [hbl, go_sem, ↓reduceIte, Nat.reduceEqDiff, Nat.reduceAdd, Nat.reduceLeDiff, reduceIte, Int.reduceAdd, Int.reduceMul, Nat.reduceMul]
  refine ⟨ints_width _, ?_⟩
  refine aw_count (fun d S => ∃ (i : Nat), i + d = e.Cells.length ∧ S.env 19 = .int .i64 i ∧ S.env 18 = .int .i64 e.Cells.length ∧ S.env 17 = .lst o (cellsA e.Cells) ∧ S.env 7 = .lst (.app 1) (ints .u8 ((e.Kind % 256) :: (beBytes (e.N % 18446744073709551616) 4 ++ (e.Cells.take i).flatMap cellX))) ∧ S.heap = h) (n := e.Cells.length)
    ⟨0, by omega, by simp (disch := first | assumption | omega) only [go_sem, ↓reduceIte, reduceIte], by simp (disch := first | assumption | omega) only [go_sem, ↓reduceIte, Nat.reduceEqDiff, reduceIte], by simp (disch := first | assumption | omega) only [go_sem, ↓reduceIte, Nat.reduceEqDiff, reduceIte], by simp (disch := first | assumption | omega) only [List.take_zero, List.flatMap_nil, List.append_nil, go_sem, ↓reduceIte, Nat.reduceEqDiff, reduceIte]; rfl, by simp (disch := first | assumption | omega) only [go_sem]⟩ ?_
  rintro d S ⟨i, hi, e19, e18, e17, e7, eh⟩
  by_cases hlt : (i : Int) < e.Cells.length
  · have hlt1 : i < e.Cells.length := by omega
    have hat := at_cells hlt1
    have hst := take_snoc hlt1
    have hcl : ((e.Kind % 256) :: (beBytes (e.N % 18446744073709551616) 4 ++ (e.Cells.take i).flatMap cellX)).length ≤ 5 + 2 * e.Cells.length := by
      rw [List.length_cons, List.length_append, hbl, cellX_length, List.length_take]; omega
    generalize hB : (e.Kind % 256) :: (beBytes (e.N % 18446744073709551616) 4 ++ (e.Cells.take i).flatMap cellX) = B at *
    simp (disch := first | assumption | omega) only [e19, e18, e17, e7, eh, hlt, hat, cellA, wrapU8_mod, go_sem, ↓reduceIte, Nat.reduceEqDiff, Nat.reduceAdd, Nat.reduceLeDiff, Nat.reduceLT, reduceIte, Int.reduceLT, Int.reduceAdd, Int.reduceMul, Nat.reduceMul]
    refine ⟨by omega, by omega, d - 1, by omega, i + 1, by omega, by simp, ?_⟩
    rw [hst, List.flatMap_append, ← List.append_assoc, ← List.cons_append, hB, ← ints_append]
    simp [cellX, ints]
  · obtain rfl : i = e.Cells.length := by omega
    rw [List.take_length] at e7
    simp (disch := first | assumption | omega) only [e19, e18, e7, hlt, go_sem, ↓reduceIte, Nat.reduceEqDiff, reduceIte]
    subst hQ
    simp (disch := first | assumption | omega) only [R.gantref5_EventBytes, eh, go_sem, ↓reduceIte, reduceIte]
    rfl
def eoF (b : List Int) : Int := if b.length < 5 then 14 else if b.length % 2 = 0 then 3 else 0
def eoEv (b : List Int) : Ev := if eoF b ≠ 0 then ev0 else evOf b
theorem rdE_eo (b : List Int) : rdE b = if eoF b ≠ 0 then eoF b else evF (evOf b) := by
  unfold rdE eoF
  by_cases h1 : b.length < 5
  · simp [h1]
  · by_cases h2 : b.length % 2 = 0 <;> simp [h1, h2]
def EvOfQ (b : List Int) (v : AVal) : Prop := ∃ q, v = .tup [.int .i64 (eoEv b).Kind, .int .i64 (eoEv b).N, .lst q (cellsA (eoEv b).Cells), .int .i64 (eoF b)] ∧ Rdn q (eoEv b).Cells
theorem EventOf_ok (o : Own) (b : List Int) (ho : Rdo o) (hb : ∀ x ∈ b, inU8 x) (hl : b.length ≤ 1099511627776) (h : List HObj) :
    ACalls Try.prog F.gantref5_EventOf [.lst o (ints .u8 b)] h (fun v h' => EvOfQ b v ∧ h' = h) := by
  refine ACalls.of_aw Try.func124 K.gantref5_EventOf (by simp [Try.f124]) ?_
  generalize hQ : retQ R.gantref5_EventOf _ = Q
  simp (disch := first | assumption | omega) only [C.gantref5_EventOf, go_sem, ↓reduceIte, reduceCtorEq, reduceIte]
  by_cases h5 : b.length < 5
  · have h5' : (b.length : Int) < 5 := by omega
    have hE : eoF b = 14 := by unfold eoF; rw [if_pos h5]
    have hV : eoEv b = ev0 := by unfold eoEv; rw [if_pos (by rw [hE]; decide)]
    simp (disch := first | assumption | omega) only [h5', go_sem]
    subst hQ
    simp (disch := first | assumption | omega) only [R.gantref5_EventOf, go_sem, ↓reduceIte, Nat.reduceEqDiff, reduceIte]
    unfold EvOfQ
    rw [hE, hV]
    exact ⟨.nil, rfl, .inr rfl, fun _ => rfl⟩
  have h5' : ¬ (b.length : Int) < 5 := by omega
  have hrem : (b.length : Int).tmod 2 = ((b.length % 2 : Nat) : Int) := by rw [Int.tmod_eq_emod_of_nonneg (by omega)]; omega
  by_cases h2 : b.length % 2 = 0
  · have hE : eoF b = 3 := by unfold eoF; rw [if_neg h5, if_pos h2]
    have hV : eoEv b = ev0 := by unfold eoEv; rw [if_pos (by rw [hE]; decide)]
    have hr0 : (b.length : Int).tmod 2 = 0 := by omega
    simp (disch := first | assumption | omega) only [h5', hr0, go_sem, ↓reduceIte, reduceCtorEq, reduceIte, Int.reduceEq, Int.reduceNe]
    subst hQ
    simp (disch := first | assumption | omega) only [R.gantref5_EventOf, go_sem, ↓reduceIte, Nat.reduceEqDiff, reduceIte]
    unfold EvOfQ
    rw [hE, hV]
    exact ⟨.nil, rfl, .inr rfl, fun _ => rfl⟩
  have h2' : b.length % 2 = 1 := by omega
  have hE : eoF b = 0 := by unfold eoF; rw [if_neg h5, if_neg h2]
  have hV : eoEv b = evOf b := by unfold eoEv; rw [if_neg (by rw [hE]; decide)]
  have at_n : ∀ i, i < b.length → at_ (ints .u8 b) (i : Int) = .int .u8 (b.getD i 0) := fun i hi => at_ints' b i hi
  have u_n : ∀ i, i < b.length → 0 ≤ b.getD i 0 ∧ b.getD i 0 < 256 := fun i hi => by
    have : inU8 (b.getD i 0) := by rw [getD_get hi]; exact hb _ (List.getElem_mem _)
    unfold inU8 at this; omega
  have hoff : evOf b = ⟨b.getD 0 0, val ((b.drop 1).take 4), cellsOf (b.drop 5)⟩ := rfl
  obtain ⟨J, hJ⟩ : ∃ J, b.length = 5 + 2 * J := ⟨(b.length - 5) / 2, by omega⟩
  have hCl : (b.drop 5).length = 2 * J := by simp; omega
  have hCg : ∀ i, (b.drop 5).getD i 0 = b.getD (5 + i) 0 := by
    intro i
    simp [List.getD_eq_getElem?_getD, List.getElem?_drop]
  have hs1 : List.take (b.length - Int.toNat 5) (List.drop (Int.toNat 5) (ints .u8 b)) = ints .u8 (b.drop 5) := by
    have := take_all (ints .u8 b) 5
    rw [← ints_drop]; rwa [ints_length] at this
  have hr1 : (b.length : Int).tmod 2 = 1 := by omega
  have hlz : (5 : Int) ≤ b.length := by omega
  generalize hC : b.drop 5 = C at *
  simp (disch := first | assumption | omega) only [h5', hr1, hs1, hlz, go_sem, ↓reduceIte, reduceCtorEq, reduceIte, Int.reduceLE, Int.reduceNe]
  refine ⟨⟨Nat.le_refl _, ints_width _⟩, ?_⟩
  refine aw_count (fun d S => ∃ (i : Nat) (q : Own), i + d = J ∧ S.env 6 = .lst .sh (ints .u8 (C.drop (2 * i))) ∧ S.env 0 = .lst o (ints .u8 b) ∧ S.env 4 = .lst q (cellsA (cellsOf (C.take (2 * i)))) ∧ (q = .nil ∧ i = 0 ∨ q = .app 2) ∧ S.heap = h) (n := J)
    ⟨0, .nil, by omega, by simp (disch := first | assumption | omega) only [Nat.mul_zero, List.drop_zero, go_sem, ↓reduceIte, reduceIte], by simp (disch := first | assumption | omega) only [go_sem, ↓reduceIte, reduceCtorEq, reduceIte], by simp (disch := first | assumption | omega) only [Nat.mul_zero, cellsOf, cellsA, List.take_zero, List.map_nil, go_sem, ↓reduceIte, Nat.reduceEqDiff, reduceIte], .inl ⟨rfl, rfl⟩, by simp (disch := first | assumption | omega) only [go_sem]⟩ ?_
  rintro d S ⟨i, q, hi, e6, e0, e4, hq, eh⟩
  have hcl : (cellsOf (C.take (2 * i))).length = i := cellsOf_length i _ (by rw [List.length_take]; omega)
  have hcs := cells_step i C
  have hDl : (C.drop (2 * i)).length = 2 * (J - i) := by rw [List.length_drop, hCl]; omega
  by_cases hlt : i < J
  · have hlt' : (1 : Int) < (C.drop (2 * i)).length := by omega
    have c0 : at_ (ints .u8 (C.drop (2 * i))) 0 = .int .u8 (b.getD (5 + 2 * i) 0) := by
      have := at_ints' (k := .u8) (C.drop (2 * i)) 0 (by omega)
      rw [List.getD_eq_getElem?_getD, List.getElem?_drop, Nat.add_zero, ← List.getD_eq_getElem?_getD, hCg] at this
      exact this
    have c1 : at_ (ints .u8 (C.drop (2 * i))) 1 = .int .u8 (b.getD (6 + 2 * i) 0) := by
      have := at_ints' (k := .u8) (C.drop (2 * i)) 1 (by omega)
      rw [List.getD_eq_getElem?_getD, List.getElem?_drop, ← List.getD_eq_getElem?_getD, hCg, show 5 + (2 * i + 1) = 6 + 2 * i by omega] at this
      exact this
    have w0 := u_n (5 + 2 * i) (by omega)
    have w1 := u_n (6 + 2 * i) (by omega)
    have hcell : cellsA (cellsOf (C.take (2 * i))) ++ [AVal.agg [.int .i64 (b.getD (5 + 2 * i) 0 - 64), .int .i64 (b.getD (6 + 2 * i) 0 - 64)]] = cellsA (cellsOf (C.take (2 * (i + 1)))) := by
      rw [hcs (by omega), hCg, hCg, show 5 + (2 * i + 1) = 6 + 2 * i from by omega]; simp [cellsA, cellA]
    have hD2 : C.drop (2 * (i + 1)) = (C.drop (2 * i)).drop 2 := by rw [List.drop_drop, show 2 * i + 2 = 2 * (i + 1) by omega]
    have hz0 : (0 : Int) < (C.drop (2 * i)).length := by omega
    have hz2 : (2 : Int) ≤ (C.drop (2 * i)).length := by omega
    generalize C.drop (2 * i) = D at *
    have hs2 : List.take (D.length - Int.toNat 2) (List.drop (Int.toNat 2) (ints .u8 D)) = ints .u8 (C.drop (2 * (i + 1))) := by
      have h1 := take_all (ints .u8 D) 2
      rw [ints_length] at h1
      rw [hD2, ← ints_drop]; exact h1
    simp (disch := first | assumption | omega) only [e6, e0, e4, eh, hlt', c0, c1, hz0, hz2, hs2, go_sem, ↓reduceIte, Nat.reduceEqDiff, reduceCtorEq, Nat.reduceAdd, Nat.reduceLeDiff, Nat.reduceLT, reduceIte, Int.reduceLT, Int.reduceLE, Int.reduceAdd, Int.reduceMul, Nat.reduceMul]
    refine ⟨?_, by omega, by omega, ⟨Nat.le_refl _, ints_width _⟩, d - 1, by omega, i + 1, .app 2, by omega, rfl, by rw [hcell], .inr rfl⟩
    rcases hq with ⟨rfl, h0⟩ | rfl
    · subst h0; rfl
    · rfl
  · obtain rfl : i = J := by omega
    have hlt' : ¬ (1 : Int) < (C.drop (2 * i)).length := by omega
    generalize C.drop (2 * i) = D at *
    rw [show C.take (2 * i) = C from by rw [← hCl, List.take_length]] at e4
    have a0 : at_ (ints .u8 b) 0 = .int .u8 (b.getD 0 0) := at_n 0 (by omega)
    have u0 := u_n 0 (by omega)
    have hs3 : List.take (Int.toNat 5 - Int.toNat 1) (List.drop (Int.toNat 1) (ints .u8 b)) = ints .u8 ((b.drop 1).take 4) := by
      rw [ints_drop, ints_take]; rfl
    have l0 : (0 : Int) < b.length := by omega
    have hq2 : q = .nil ∨ q = .sh ∨ ∃ z, q = .app z := by
      rcases hq with ⟨rfl, _⟩ | rfl
      · exact .inl rfl
      · exact .inr (.inr ⟨_, rfl⟩)
    obtain ⟨q1, hq1, hq3, r1, r2, r3⟩ := own_rd (cellsA (cellsOf C)) hq2
    have hQ1 : Rdn q1 (cellsOf C) := ⟨hq1, fun e => by
      rcases hq with ⟨_, h0⟩ | rfl
      · exact List.eq_nil_of_length_eq_zero (by rw [cellsOf_length i C hCl]; exact h0)
      · cases hq3 e⟩
    have hu4 : ∀ x ∈ (b.drop 1).take 4, inU8 x := fun x hx => hb x (List.mem_of_mem_drop (List.mem_of_mem_take hx))
    simp (disch := first | assumption | omega) only [e6, e0, e4, hlt', a0, hs3, l0, hlz, r1, go_sem, ↓reduceIte, Nat.reduceEqDiff, reduceCtorEq, Nat.reduceLeDiff, Nat.reduceLT, reduceIte, Int.reduceLT, Int.reduceLE]
    refine ⟨ints_width _, ?_⟩
    refine callpG_ok (R := fun v => v = .int .i64 (val ((b.drop 1).take 4))) (fun hp' => ACalls.mono (Value_ok .sh ((b.drop 1).take 4) (.inl rfl) hu4 (by rw [List.length_take]; omega) hp') fun r h' hh => ⟨hh.2, hh.1⟩) (by simp (disch := first | assumption | omega) only [go_sem]) ?_
    rintro _ rfl
    simp (disch := first | assumption | omega) only [go_sem, ↓reduceIte, Nat.reduceEqDiff, reduceIte]
    subst hQ
    simp (disch := first | assumption | omega) only [R.gantref5_EventOf, eh, go_sem, ↓reduceIte, Nat.reduceEqDiff, reduceIte]
    unfold EvOfQ
    rw [hE, hV, hoff]
    exact ⟨q1, rfl, hQ1⟩
end Go.Proofs.Ytpdajkbfemcdlaa
/- Events are checked, done, written and read as by the second implementation. -/
set_option linter.unusedSimpArgs false
set_option linter.unusedVariables false
set_option maxRecDepth 10000
namespace Go.Proofs.Ytpdajkbfemcdlaa
open Go.Ge Go.Sort
theorem do_goal : doF mem0 ⟨1, 7, []⟩ = (⟨7, 0, [], [], 0⟩, 0) := by
  have h1 : evF ⟨1, 7, []⟩ = 0 := by unfold evF; simp [cellsFault_nil]
  have h2 : memF mem0 = 0 := memF_zero.2 ⟨by simp [mem0], by simp [mem0], by simp [mem0], cellsFault_nil, cellsFault_nil⟩
  rw [doF_body h1 h2]
  unfold doB
  rw [if_pos rfl]
  rfl
theorem FallTells_ok (o p q ob : Own) (m : Mem) (e : Ev) (b : List Int) (ho : Rdn o m.Asked) (hp : Rdn p m.Has) (hq : Rdn q e.Cells) (hob : Rdn ob b) (hb : ∀ x ∈ b, inU8 x) (l1 : m.Asked.length < 4611686018427387904) (l2 : m.Has.length < 4611686018427387904) (l3 : e.Cells.length ≤ 8796093022208) (l4 : b.length ≤ 1099511627776) (h : List HObj) :
    ACalls Try.prog F.gantlaw5_FallTells [memA o p m, eventA q e, .lst ob (ints .u8 b)] h (fun v h' => v = .bool true ∧ h' = h) := by
  have ho1 := ho.1
  have hp1 := hp.1
  have hq1 := hq.1
  have hob1 := hob.1
  have hDo := fun hp => Do_ok .nil .nil .nil mem0 ⟨1, 7, []⟩ ⟨.inr rfl, fun _ => rfl⟩ ⟨.inr rfl, fun _ => rfl⟩ ⟨.inr rfl, fun _ => rfl⟩ (by simp [mem0]) (by simp [mem0]) (by simp) hp
  refine ACalls.of_aw Try.func27 K.gantlaw5_FallTells (by simp [Try.f27]) ?_
  generalize hQ : retQ R.gantlaw5_FallTells _ = Q
  simp (disch := first | assumption | omega) only [C.gantlaw5_FallTells, go_sem, ↓reduceIte, Nat.reduceEqDiff, reduceCtorEq, Nat.reduceAdd, Nat.reduceLeDiff, reduceIte, Int.reduceAdd]
  simp (disch := first | assumption | omega) only [memA, memC, eventA, eventC, go_sem]
  refine callG_ok (hDo _) (by simp (disch := first | assumption | omega) only [go_sem]) ?_
  rintro _ _ ⟨⟨oz, pz, rfl, hoz, hpz⟩, hhh⟩
  rw [hhh]
  clear hhh
  have hoz1 := hoz.1
  have hpz1 := hpz.1
  rw [do_goal] at *
  simp (disch := first | assumption | omega) only [memA, memC, go_sem, ↓reduceIte, Nat.reduceEqDiff, Nat.reduceAdd, Nat.reduceLeDiff, Nat.reduceLT, reduceIte, Int.reduceLT, Int.reduceAdd]
  refine callG_ok (EventFault_ok q e hq1 (by omega) _) (by simp (disch := first | assumption | omega) only [go_sem]) ?_
  rintro _ _ ⟨rfl, hhh⟩
  rw [hhh]
  clear hhh
  simp (disch := first | assumption | omega) only [go_sem, ↓reduceIte, Nat.reduceEqDiff, Nat.reduceAdd, Nat.reduceLeDiff, reduceIte, Int.reduceAdd]
  refine callG_ok (FCheck_ok q e hq1 (by omega) _) (by simp (disch := first | assumption | omega) only [go_sem]) ?_
  rintro _ _ ⟨rfl, hhh⟩
  rw [hhh]
  clear hhh
  simp (disch := first | assumption | omega) only [go_sem, ↓reduceIte, Nat.reduceEqDiff, Nat.reduceAdd, Nat.reduceLeDiff, reduceIte, Int.reduceAdd]
  refine callG_ok (Do_ok o p q m e ho hp hq l1 l2 (by omega) _) (by simp (disch := first | assumption | omega) only [go_sem]) ?_
  rintro _ _ ⟨⟨o2, p2, rfl, ho2, hp2⟩, hhh⟩
  rw [hhh]
  clear hhh
  have ho3 := ho2.1
  have hp3 := hp2.1
  simp (disch := first | assumption | omega) only [memA, memC, go_sem, ↓reduceIte, Nat.reduceEqDiff, Nat.reduceAdd, Nat.reduceLeDiff, Nat.reduceLT, reduceIte, Int.reduceLT, Int.reduceAdd]
  refine callG_ok (FWrite_ok q e hq1 (by omega) _) (by simp (disch := first | assumption | omega) only [go_sem]) ?_
  rintro _ _ ⟨hw, hhh⟩
  rw [hhh]
  clear hhh
  rcases hw with ⟨hc, rfl⟩ | ⟨hc, rfl⟩
  · have hd : doF m e = (mem0, evF e) := by unfold doF; rw [if_pos hc]
    rw [hd] at ho2 hp2 ⊢
    simp (disch := first | assumption | omega) only [hc, go_sem, ↓reduceIte, Nat.reduceEqDiff, Nat.reduceAdd, Nat.reduceLeDiff, Nat.reduceLT, reduceIte, Int.reduceLT, Int.reduceAdd]
    have hS := fun hp => FSame_ok o2 p2 .nil .nil mem0 mem0 ho3 hp3 (.inr rfl) (.inr rfl) (by simp [mem0]) (by simp [mem0]) (by simp [mem0]) (by simp [mem0]) hp
    refine callG_ok (hS _) (by simp (disch := first | assumption | omega) only [go_sem]) ?_
    rintro _ _ ⟨rfl, hhh⟩
    rw [hhh, decide_eq_true rfl]
    clear hhh
    simp (disch := first | assumption | omega) only [go_sem, ↓reduceIte, Nat.reduceEqDiff, reduceIte]
    subst hQ
    simp (disch := first | assumption | omega) only [R.gantlaw5_FallTells, go_sem, ↓reduceIte, reduceIte]
  simp (disch := first | assumption | omega) only [hc, go_sem, ↓reduceIte, Nat.reduceEqDiff, Nat.reduceAdd, Nat.reduceLeDiff, Nat.reduceLT, reduceIte, Int.reduceLT, Int.reduceAdd]
  refine callG_ok (EventBytes_ok q e hq1 l3 _) (by simp (disch := first | assumption | omega) only [go_sem]) ?_
  rintro _ _ ⟨rfl, hhh⟩
  rw [hhh]
  clear hhh
  rw [evX_B hc]
  have hbl := evB_length e
  simp (disch := first | assumption | omega) only [go_sem, ↓reduceIte, Nat.reduceEqDiff, reduceIte]
  refine callG_ok (EqualByte_ok .sh .sh (evB e) (evB e) (.inl rfl) (.inl rfl) (by omega) (by omega) _) (by simp (disch := first | assumption | omega) only [go_sem]) ?_
  rintro _ _ ⟨rfl, hhh⟩
  rw [hhh, decide_eq_true rfl]
  clear hhh
  simp (disch := first | assumption | omega) only [go_sem, ↓reduceIte, Nat.reduceEqDiff, Nat.reduceAdd, Nat.reduceLeDiff, Nat.reduceLT, reduceIte, Int.reduceLT, Int.reduceAdd]
  refine callG_ok (Right_ok o p m ho1 hp1 l1 l2 _) (by simp (disch := first | assumption | omega) only [go_sem]) ?_
  rintro _ _ ⟨rfl, hhh⟩
  rw [hhh]
  clear hhh
  simp (disch := first | assumption | omega) only [go_sem, ↓reduceIte, Nat.reduceEqDiff, reduceIte]
  refine callG_ok (MemFault_ok o p m ho1 hp1 l1 l2 _) (by simp (disch := first | assumption | omega) only [go_sem]) ?_
  rintro _ _ ⟨rfl, hhh⟩
  rw [hhh]
  clear hhh
  simp (disch := first | assumption | omega) only [go_sem, ↓reduceIte, Nat.reduceEqDiff, Nat.reduceAdd, Nat.reduceLeDiff, Nat.reduceLT, reduceIte, Int.reduceLT, Int.reduceAdd]
  refine callG_ok (Happens_ok o p q m e hc ho hp hq l1 l2 _) (by simp (disch := first | assumption | omega) only [go_sem]) ?_
  rintro _ _ ⟨⟨o4, p4, rfl, ho4, hp4⟩, hhh⟩
  rw [hhh]
  clear hhh
  have ho5 := ho4.1
  have hp5 := hp4.1
  obtain ⟨la, lh⟩ := doF_few m e
  generalize (doF m e).1 = r at *
  generalize (doF m e).2 = x at *
  simp (disch := first | assumption | omega) only [memRA, memRC, go_sem, ↓reduceIte, Nat.reduceEqDiff, Nat.reduceAdd, Nat.reduceLeDiff, Nat.reduceLT, reduceIte, Int.reduceLT, Int.reduceAdd]
  refine callG_ok (EqualCell_ok o2 o4 r.Asked r.Asked ho3 ho5 (by omega) (by omega) _) (by simp (disch := first | assumption | omega) only [go_sem]) ?_
  rintro _ _ ⟨rfl, hhh⟩
  rw [hhh, decide_eq_true rfl]
  clear hhh
  simp (disch := first | assumption | omega) only [go_sem, ↓reduceIte, Nat.reduceEqDiff, Nat.reduceAdd, Nat.reduceLeDiff, Nat.reduceLT, reduceIte, Int.reduceLT, Int.reduceAdd]
  refine callG_ok (EqualCell_ok p2 p4 r.Has r.Has hp3 hp5 (by omega) (by omega) _) (by simp (disch := first | assumption | omega) only [go_sem]) ?_
  rintro _ _ ⟨rfl, hhh⟩
  rw [hhh, decide_eq_true rfl]
  clear hhh
  simp (disch := first | assumption | omega) only [go_sem, ↓reduceIte, Nat.reduceEqDiff, reduceCtorEq, reduceIte]
  refine callG_ok (EventOf_ok ob b hob1 hb l4 _) (by simp (disch := first | assumption | omega) only [go_sem]) ?_
  rintro _ _ ⟨⟨qc, rfl, hqc⟩, hhh⟩
  rw [hhh]
  clear hhh
  have hqc1 := hqc.1
  simp (disch := first | assumption | omega) only [go_sem, ↓reduceIte, Nat.reduceEqDiff, reduceCtorEq, Nat.reduceAdd, Nat.reduceLT, reduceIte, Int.reduceLT, Int.reduceAdd]
  refine callG_ok (FRead_ok ob b hob1 hb l4 _) (by simp (disch := first | assumption | omega) only [go_sem]) ?_
  rintro _ _ ⟨⟨qz, rfl, hqz⟩, hhh⟩
  rw [hhh]
  clear hhh
  have hqz1 := hqz.1
  have hrd := rdE_eo b
  by_cases hk : eoF b = 0
  · rw [if_neg (by simp [hk])] at hrd
    have he : eoEv b = evOf b := by unfold eoEv; rw [if_neg (by simp [hk])]
    have hz : rdEv b = if rdE b ≠ 0 then ev0 else eoEv b := by rw [he]; rfl
    rw [← he] at hrd
    have hel : (eoEv b).Cells.length < 4611686018427387904 := by
      rw [he]
      have h5 : ¬ b.length < 5 := fun hc => by unfold eoF at hk; rw [if_pos hc] at hk; cases hk
      have h6 : ¬ b.length % 2 = 0 := fun hc => by unfold eoF at hk; rw [if_neg h5, if_pos hc] at hk; cases hk
      have : (evOf b).Cells.length = (b.length - 5) / 2 := cellsOf_length _ _ (by rw [List.length_drop]; omega)
      omega
    generalize eoEv b = y at *
    simp (disch := first | assumption | omega) only [eventA, eventC, hk, go_sem, ↓reduceIte, Nat.reduceEqDiff, Nat.reduceAdd, Nat.reduceLeDiff, Nat.reduceLT, reduceIte, Int.reduceLT, Int.reduceAdd]
    refine callG_ok (EventFault_ok qc y hqc1 hel _) (by simp (disch := first | assumption | omega) only [go_sem]) ?_
    rintro _ _ ⟨rfl, hhh⟩
    rw [hhh]
    clear hhh
    rw [hrd] at hz ⊢
    by_cases hy : evF y = 0
    · rw [if_neg (by simp [hy])] at hz
      rw [hz] at hqz ⊢
      simp (disch := first | assumption | omega) only [hy, go_sem, ↓reduceIte, Nat.reduceEqDiff, Nat.reduceAdd, Nat.reduceLeDiff, Nat.reduceLT, reduceIte, Int.reduceLT, Int.reduceAdd]
      refine callG_ok (EqualCell_ok qz qc y.Cells y.Cells hqz1 hqc1 hel hel _) (by simp (disch := first | assumption | omega) only [go_sem]) ?_
      rintro _ _ ⟨rfl, hhh⟩
      rw [hhh, decide_eq_true rfl]
      clear hhh
      simp (disch := first | assumption | omega) only [go_sem, ↓reduceIte, Nat.reduceEqDiff, reduceIte]
      subst hQ
      simp (disch := first | assumption | omega) only [R.gantlaw5_FallTells, go_sem, ↓reduceIte, reduceIte]
    · rw [if_pos hy] at hz
      rw [hz] at hqz ⊢
      simp (disch := first | assumption | omega) only [hy, ev0, go_sem, ↓reduceIte, Nat.reduceEqDiff, Nat.reduceAdd, Nat.reduceLeDiff, Nat.reduceLT, reduceIte, Int.reduceLT, Int.reduceAdd]
      subst hQ
      simp (disch := first | assumption | omega) only [R.gantlaw5_FallTells, go_sem, ↓reduceIte, reduceIte]
  · rw [if_pos hk] at hrd
    have hz : rdEv b = ev0 := by unfold rdEv; rw [if_pos (by rw [hrd]; exact hk)]
    rw [hz] at hqz ⊢
    rw [hrd]
    simp (disch := first | assumption | omega) only [eventA, eventC, hk, ev0, go_sem, ↓reduceIte, Nat.reduceEqDiff, Nat.reduceAdd, Nat.reduceLeDiff, Nat.reduceLT, reduceIte, Int.reduceLT, Int.reduceAdd]
    subst hQ
    simp (disch := first | assumption | omega) only [R.gantlaw5_FallTells, go_sem, ↓reduceIte, reduceIte]
end Go.Proofs.Ytpdajkbfemcdlaa
