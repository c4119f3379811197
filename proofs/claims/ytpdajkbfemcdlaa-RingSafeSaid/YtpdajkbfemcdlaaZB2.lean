import Derived.Test.YtpdajkbfemcdlaaZB1
set_option linter.unusedSimpArgs false
set_option linter.unusedVariables false
namespace Go.Proofs.Ytpdajkbfemcdlaa
open Go.Ge Go.Sort
abbrev Ev := Go.Ge.Event
def evF (e : Ev) : Int := if e.Kind < 1 ∨ e.Kind > 6 then 1 else if e.Kind = 1 ∧ (e.N < 0 ∨ e.N > 2147483647) ∨ e.Kind ≠ 1 ∧ e.N ≠ 0 then 2 else if e.Kind ≠ 3 ∧ e.Kind ≠ 5 ∧ 0 < e.Cells.length then 3 else cellsFault e.Cells
def memF (m : Mem) : Int := if m.Goal < 0 ∨ m.Ticks < 0 ∨ m.Falls < 0 then 1 else if cellsFault m.Asked ≠ 0 then cellsFault m.Asked else cellsFault m.Has
def mem0 : Mem := ⟨0, 0, [], [], 0⟩
def doF (m : Mem) (e : Ev) : Mem × Int :=
  if evF e ≠ 0 then (mem0, evF e) else if memF m ≠ 0 then (mem0, memF m) else
  if e.Kind = 1 then ({ m with Goal := e.N, Ticks := 0 }, 0)
  else if e.Kind = 2 then if m.Ticks ≥ 2000 then (mem0, 19) else ({ m with Ticks := m.Ticks + 1 }, 0)
  else if e.Kind = 3 then if 0 < m.Asked.length then (mem0, 7) else ({ m with Asked := minusC e.Cells m.Has }, 0)
  else if e.Kind = 4 then if cellsFault (joinC m.Has m.Asked) ≠ 0 then (mem0, 6) else ({ m with Has := joinC m.Has m.Asked, Asked := [] }, 0)
  else if e.Kind = 5 then if withinC e.Cells m.Has = false then (mem0, 4) else ({ m with Has := minusC m.Has e.Cells }, 0)
  else ({ m with Falls := IntKind.i64.wrap (m.Falls + 1) }, 0)
end Go.Proofs.Ytpdajkbfemcdlaa
set_option linter.unusedSimpArgs false
set_option linter.unusedVariables false
set_option maxRecDepth 10000
namespace Go.Proofs.Ytpdajkbfemcdlaa
open Go.Ge Go.Sort
def DoQ (m : Mem) (e : Ev) (v : AVal) : Prop := ∃ o' p', v = .tup [memA o' p' (doF m e).1, .int .i64 (doF m e).2] ∧ Rdn o' (doF m e).1.Asked ∧ Rdn p' (doF m e).1.Has
theorem DoQ.none {m : Mem} {e : Ev} {x : Int} (h : doF m e = (mem0, x)) : DoQ m e (.tup [.agg [.int .i64 0, .int .i64 0, .lst .nil [], .lst .nil [], .int .i64 0], .int .i64 x]) := by
  unfold DoQ
  rw [h]
  exact ⟨.nil, .nil, rfl, ⟨.inr rfl, fun _ => rfl⟩, ⟨.inr rfl, fun _ => rfl⟩⟩
end Go.Proofs.Ytpdajkbfemcdlaa
set_option linter.unusedSimpArgs false
set_option linter.unusedVariables false
set_option maxRecDepth 10000
namespace Go.Proofs.Ytpdajkbfemcdlaa
open Go.Ge Go.Sort
def memRC (o p : Own) (m : Mem) : List AVal := [.int .i64 m.Goal, .int .i64 m.Ticks, .int .i64 m.Falls, .lst o (cellsA m.Asked), .lst p (cellsA m.Has)]
def memRA (o p : Own) (m : Mem) : AVal := .agg (memRC o p m)
def ents (s : List (Nat × Cell)) : List AEnt := s.map fun p => (p.1, cellA p.2, .bool true)
def inS (s : List (Nat × Cell)) (c : Cell) : Prop := c ∈ s.map (·.2)
instance (s : List (Nat × Cell)) (c : Cell) : Decidable (inS s c) := by unfold inS; exact inferInstance
structure WfS (k : Nat) (s : List (Nat × Cell)) : Prop where
  nd : (s.map (·.2)).Nodup
  st : (s.map (·.1)).Nodup
  lt : ∀ p ∈ s, p.1 < k
theorem keq_cell (a b : Cell) : keq (cellA a) (cellA b) = decide (a = b) := by
  rw [← cell_dec]
  simp only [keq, cellA, AVal.cells, aggEq, scEq, int_beq, Bool.and_true]
theorem keyOk_cell (c : Cell) : keyOk true [.i .i64, .i .i64] (cellA c) := by simp [keyOk, cellA, hasSh]
theorem keyOk_ents (s : List (Nat × Cell)) : ∀ e ∈ ents s, keyOk true [.i .i64, .i .i64] e.2.1 := by
  intro e he
  obtain ⟨p, _, rfl⟩ := List.mem_map.1 he
  exact keyOk_cell _
theorem mget_ents (c : Cell) : ∀ s : List (Nat × Cell), mgetL (cellA c) (ents s) = if inS s c then some (.bool true) else none
  | [] => rfl
  | p :: s => by
    have ih := mget_ents c s
    simp only [ents, List.map_cons, mgetL, keq_cell] at ih ⊢
    by_cases h : c = p.2
    · simp [h, inS]
    · have e : inS (p :: s) c ↔ inS s c := by simp only [inS, List.map_cons, List.mem_cons, h, false_or]
      simp only [h, decide_false, Bool.false_eq_true, if_false, ih, e]
theorem mset_ents (c : Cell) : ∀ s : List (Nat × Cell), msetL (cellA c) (.bool true) (ents s) = if inS s c then some (ents s) else none
  | [] => rfl
  | p :: s => by
    have ih := mset_ents c s
    simp only [ents, List.map_cons, msetL, keq_cell] at ih ⊢
    by_cases h : c = p.2
    · simp [h, inS]
    · have e : inS (p :: s) c ↔ inS s c := by simp only [inS, List.map_cons, List.mem_cons, h, false_or]
      simp only [h, decide_false, Bool.false_eq_true, if_false, ih, e]
      by_cases h2 : inS s c
      · simp only [if_pos h2, Option.map_some]
      · simp only [if_neg h2, Option.map_none]
def addS (k : Nat) (s : List (Nat × Cell)) (c : Cell) : List (Nat × Cell) := if inS s c then s else s ++ [(k, c)]
def addK (k : Nat) (s : List (Nat × Cell)) (c : Cell) : Nat := if inS s c then k else k + 1
theorem mput_ents (k : Nat) (s : List (Nat × Cell)) (c : Cell) : mput k (ents s) (cellA c) (.bool true) = .map (addK k s c) (ents (addS k s c)) := by
  unfold mput addK addS
  rw [mset_ents]
  by_cases h : inS s c
  · simp only [if_pos h]
  · simp only [if_neg h]
    simp [ents]
theorem WfS.add {k : Nat} {s : List (Nat × Cell)} (h : WfS k s) (c : Cell) : WfS (addK k s c) (addS k s c) := by
  unfold addK addS
  by_cases hc : inS s c
  · rw [if_pos hc, if_pos hc]; exact h
  · rw [if_neg hc, if_neg hc]
    refine ⟨?_, ?_, ?_⟩
    · rw [List.map_append, List.nodup_append]
      refine ⟨h.nd, by simp, ?_⟩
      rintro a ha b hb rfl
      simp at hb; subst hb
      exact hc ha
    · rw [List.map_append, List.nodup_append]
      refine ⟨h.st, by simp, ?_⟩
      rintro a ha b hb rfl
      simp at hb; subst hb
      obtain ⟨p, hp, e⟩ := List.mem_map.1 ha
      have := h.lt p hp
      omega
    · intro p hp
      rcases List.mem_append.1 hp with hp | hp
      · have := h.lt p hp; omega
      · simp at hp; subst hp; simp
theorem in_add (k : Nat) (s : List (Nat × Cell)) (c d : Cell) : inS (addS k s c) d ↔ inS s d ∨ d = c := by
  unfold addS
  by_cases hc : inS s c
  · rw [if_pos hc]
    constructor
    · exact .inl
    · rintro (h | rfl)
      · exact h
      · exact hc
  · rw [if_neg hc]; simp [inS]
def ofL (k : Nat) (s : List (Nat × Cell)) : List Cell → Nat × List (Nat × Cell)
  | [] => (k, s)
  | c :: l => ofL (addK k s c) (addS k s c) l
theorem ofL_wf : ∀ {l : List Cell} {k : Nat} {s : List (Nat × Cell)}, WfS k s → WfS (ofL k s l).1 (ofL k s l).2
  | [], k, s, h => h
  | c :: l, k, s, h => ofL_wf (l := l) (h.add c)
theorem ofL_in (d : Cell) : ∀ {l : List Cell} {k : Nat} {s : List (Nat × Cell)}, inS (ofL k s l).2 d ↔ inS s d ∨ d ∈ l
  | [], k, s => by simp [ofL]
  | c :: l, k, s => by
    rw [ofL, ofL_in d (l := l), in_add, List.mem_cons]
    constructor
    · rintro ((h | h) | h)
      · exact .inl h
      · exact .inr (.inl h)
      · exact .inr (.inr h)
    · rintro (h | h | h)
      · exact .inl (.inl h)
      · exact .inl (.inr h)
      · exact .inr h
theorem ofL_snoc : ∀ (l : List Cell) (c : Cell) (k : Nat) (s : List (Nat × Cell)), ofL k s (l ++ [c]) = (addK (ofL k s l).1 (ofL k s l).2 c, addS (ofL k s l).1 (ofL k s l).2 c)
  | [], c, k, s => rfl
  | d :: l, c, k, s => by rw [List.cons_append, ofL, ofL_snoc l c]; rfl
theorem WfS.nil (k : Nat) : WfS k [] := ⟨by simp, by simp, by simp⟩
end Go.Proofs.Ytpdajkbfemcdlaa
set_option linter.unusedSimpArgs false
set_option linter.unusedVariables false
set_option maxRecDepth 10000
namespace Go.Proofs.Ytpdajkbfemcdlaa
open Go.Ge Go.Sort
theorem drV_map {s id : Nat} : drV s (.map id) = .map id := rfl
theorem rdv_map {id : Nat} : rdv (.map id) = .map id := rfl
theorem hend (h : List HObj) (x : HObj) : (h ++ [x])[h.length]? = some x := by simp
theorem hendset (h : List HObj) (x y : HObj) : (h ++ [x]).set h.length y = h ++ [y] := by simp
theorem SetOf_ok (o : Own) (l : List Cell) (ho : Rdo o) (hl : l.length < 4611686018427387904) (h : List HObj) :
    ACalls Try.prog F.gantref5_SetOf [.lst o (cellsA l)] h (fun v h' => v = .map h.length ∧ h' = h ++ [.map (ofL 0 [] l).1 (ents (ofL 0 [] l).2)]) := by
  refine ACalls.of_aw Try.func107 K.gantref5_SetOf (by simp [Try.f107]) ?_
  generalize hQ : retQ R.gantref5_SetOf _ = Q
  simp (disch := first | assumption | omega) only [C.gantref5_SetOf, go_sem, ↓reduceIte, reduceCtorEq, reduceIte]
  refine aw_count (fun n S => ∃ (i : Nat), i + n = l.length ∧ S.env 9 = .int .i64 i ∧ S.env 8 = .int .i64 l.length ∧ S.env 7 = .lst o (cellsA l) ∧ S.env 3 = .map h.length ∧ S.heap = h ++ [.map (ofL 0 [] (l.take i)).1 (ents (ofL 0 [] (l.take i)).2)]) (n := l.length) ⟨0, by omega, by simp (disch := first | assumption | omega) only [go_sem, ↓reduceIte, reduceIte], by simp (disch := first | assumption | omega) only [go_sem, ↓reduceIte, Nat.reduceEqDiff, reduceIte], by simp (disch := first | assumption | omega) only [go_sem, ↓reduceIte, Nat.reduceEqDiff, reduceIte], by simp (disch := first | assumption | omega) only [go_sem, ↓reduceIte, Nat.reduceEqDiff, reduceIte], by simp (disch := first | assumption | omega) only [go_sem]; rfl⟩ ?_
  rintro n S ⟨i, hi, e9, e8, e7, e3, eh⟩
  by_cases hlt : (i : Int) < l.length
  · have hi1 : i < l.length := by omega
    have q1 := at_cells hi1
    have hsn : ofL 0 [] (l.take (i + 1)) = (addK (ofL 0 [] (l.take i)).1 (ofL 0 [] (l.take i)).2 l[i], addS (ofL 0 [] (l.take i)).1 (ofL 0 [] (l.take i)).2 l[i]) := by
      rw [List.take_add_one, List.getElem?_eq_getElem hi1]
      exact ofL_snoc _ _ _ _
    have hk := keyOk_cell l[i]
    have hks := keyOk_ents (ofL 0 [] (l.take i)).2
    have hput := mput_ents (ofL 0 [] (l.take i)).1 (ofL 0 [] (l.take i)).2 l[i]
    unfold cellA at hk hput
    simp (disch := first | assumption | omega) only [e9, e8, e7, e3, eh, hlt, q1, cellA, hend, hput, hendset, drV_map, rdv_map, go_sem, ↓reduceIte, Nat.reduceEqDiff, Nat.reduceAdd, Nat.reduceLeDiff, reduceIte, Int.reduceAdd]
    exact ⟨hk, hks, n - 1, by omega, i + 1, by omega, by simp, by rw [hsn]⟩
  · obtain rfl : i = l.length := by omega
    rw [List.take_length] at eh
    simp (disch := first | assumption | omega) only [e9, e8, e3, hlt, go_sem, ↓reduceIte, Nat.reduceEqDiff, reduceIte]
    subst hQ
    simp (disch := first | assumption | omega) only [R.gantref5_SetOf, eh, go_sem, ↓reduceIte, reduceIte]
end Go.Proofs.Ytpdajkbfemcdlaa
set_option linter.unusedSimpArgs false
set_option linter.unusedVariables false
set_option maxRecDepth 10000
namespace Go.Proofs.Ytpdajkbfemcdlaa
open Go.Ge Go.Sort
theorem nd_inj {α β : Type} (f : α → β) : ∀ {l : List α}, (l.map f).Nodup → ∀ {a b : α}, a ∈ l → b ∈ l → f a = f b → a = b
  | x :: l, h, a, b, ha, hb, e => by
    rw [List.map_cons, List.nodup_cons] at h
    rcases List.mem_cons.1 ha with ea | ha <;> rcases List.mem_cons.1 hb with eb | hb
    · rw [ea, eb]
    · rw [ea] at e; exact absurd (List.mem_map.2 ⟨b, hb, e.symm⟩) h.1
    · rw [eb] at e; exact absurd (List.mem_map.2 ⟨a, ha, e⟩) h.1
    · exact nd_inj f h.2 ha hb e
theorem find_ents : ∀ {s : List (Nat × Cell)} {p : Nat × Cell}, (s.map (·.1)).Nodup → p ∈ s → (ents s).find? (fun x => x.1 == p.1) = some (p.1, cellA p.2, .bool true)
  | q :: s, p, h, hp => by
    rw [List.map_cons, List.nodup_cons] at h
    simp only [ents, List.map_cons, List.find?_cons]
    rcases List.mem_cons.1 hp with rfl | hp
    · simp
    · have hne : ¬ q.1 = p.1 := fun e => h.1 (e ▸ List.mem_map.2 ⟨p, hp, rfl⟩)
      have hb : (q.1 == p.1) = false := by simpa using hne
      rw [hb]
      exact find_ents h.2 hp
theorem filter_ents (lf : List (Nat × Cell)) (p : Nat × Cell) : (ents lf).filter (fun x => x.1 != p.1) = ents (lf.filter fun q => q.1 != p.1) := by
  unfold ents
  rw [List.filter_map]
  rfl
theorem in_rest {lf : List (Nat × Cell)} {p : Nat × Cell} (h1 : (lf.map (·.1)).Nodup) (h2 : (lf.map (·.2)).Nodup) (hp : p ∈ lf) (c : Cell) : inS (lf.filter fun q => q.1 != p.1) c ↔ inS lf c ∧ c ≠ p.2 := by
  have inj1 : ∀ q ∈ lf, q.1 = p.1 → q = p := fun q hq e => nd_inj _ h1 hq hp e
  have inj2 : ∀ q ∈ lf, q.2 = p.2 → q = p := fun q hq e => nd_inj _ h2 hq hp e
  unfold inS
  simp only [List.mem_map, List.mem_filter, bne_iff_ne, ne_eq]
  constructor
  · rintro ⟨q, ⟨hq, hne⟩, rfl⟩
    exact ⟨⟨q, hq, rfl⟩, fun e => hne (by rw [inj2 q hq e])⟩
  · rintro ⟨⟨q, hq, rfl⟩, hne⟩
    exact ⟨q, ⟨hq, fun e => hne (by rw [inj1 q hq e])⟩, rfl⟩
section
variable (h : List HObj) (a b c x : HObj)
theorem drV_cell {s : Nat} {k1 k2 : IntKind} {x y : Int} : drV s (.agg [.int k1 x, .int k2 y]) = .agg [.int k1 x, .int k2 y] := rfl
end
def HapQ (m : Mem) (e : Ev) (v : AVal) : Prop := ∃ o' p', v = .tup [memRA o' p' (doF m e).1, .int .i64 (doF m e).2] ∧ Rdn o' (doF m e).1.Asked ∧ Rdn p' (doF m e).1.Has
theorem HapQ.none {m : Mem} {e : Ev} {x : Int} (h : doF m e = (mem0, x)) : HapQ m e (.tup [.agg [.int .i64 0, .int .i64 0, .int .i64 0, .lst .nil [], .lst .nil []], .int .i64 x]) := by
  unfold HapQ
  rw [h]
  exact ⟨.nil, .nil, rfl, ⟨.inr rfl, fun _ => rfl⟩, ⟨.inr rfl, fun _ => rfl⟩⟩
end Go.Proofs.Ytpdajkbfemcdlaa
set_option linter.unusedSimpArgs false
set_option linter.unusedVariables false
set_option maxRecDepth 10000
namespace Go.Proofs.Ytpdajkbfemcdlaa
open Go.Ge
theorem at_int {l : List Int} {i : Nat} (h : i < l.length) : at_ (ints .i64 l) (i : Int) = .int .i64 l[i] := by
  rw [at_ints' l i h]; simp [List.getD_eq_getElem?_getD, h]
theorem IndexInt_ok (o : Own) (l : List Int) (v : Int) (ho : Rdo o) (hl : l.length < 4611686018427387904) (h : List HObj) :
    ACalls Try.prog F.slices_Index_int [.lst o (ints .i64 l), .int .i64 v] h (fun r h' => (∃ i, r = .int .i64 i ∧ (0 ≤ i ↔ v ∈ l)) ∧ h' = h) := by
  refine ACalls.of_aw Try.func172 K.slices_Index_int (by simp [Try.f172]) ?_
  generalize hQ : retQ R.slices_Index_int _ = Q
  simp (disch := first | assumption | omega) only [C.slices_Index_int, go_sem, ↓reduceIte, Nat.reduceEqDiff, reduceCtorEq, Nat.reduceAdd, Nat.reduceLeDiff, Nat.reduceLT, reduceIte, Int.reduceBEq, Int.reduceBNe, Int.reduceLT, Int.reduceLE, Int.reduceAdd, Int.reduceSub, Int.reduceMul, Int.reduceNeg, Int.reduceEq, Int.reduceNe, Nat.reduceMul, Nat.reduceSub]
  refine aw_count (fun d S => ∃ (i : Nat), i + d = l.length ∧ S.env 8 = .int .i64 i ∧ S.env 7 = .int .i64 l.length ∧ S.env 0 = .lst o (ints .i64 l) ∧ S.env 1 = .int .i64 v ∧ v ∉ l.take i ∧ S.heap = h) (n := l.length) ⟨0, by simp [go_sem]⟩ ?_
  rintro d S ⟨i, hi, e8, e7, e0, e1, hn, eh⟩
  simp (disch := first | assumption | omega) only [e8, e7, e0, e1, eh, go_sem, ↓reduceIte, Nat.reduceEqDiff, reduceCtorEq, Nat.reduceAdd, Nat.reduceLeDiff, Nat.reduceLT, reduceIte, Int.reduceBEq, Int.reduceBNe, Int.reduceLT, Int.reduceLE, Int.reduceAdd, Int.reduceSub, Int.reduceMul, Int.reduceNeg, Int.reduceEq, Int.reduceNe, Nat.reduceMul, Nat.reduceSub]
  refine condG_if (fun hlt => ?_) fun hge => ?_
  · have hlt1 : i < l.length := by omega
    have hat := at_int hlt1
    by_cases hc : v = l[i]
    · simp (disch := first | assumption | omega) only [e8, e7, e0, e1, eh, hat, hlt1, eq_true hc, go_sem, ↓reduceIte, Nat.reduceEqDiff, reduceCtorEq, Nat.reduceAdd, Nat.reduceLeDiff, Nat.reduceLT, reduceIte, Int.reduceBEq, Int.reduceBNe, Int.reduceLT, Int.reduceLE, Int.reduceAdd, Int.reduceSub, Int.reduceMul, Int.reduceNeg, Int.reduceEq, Int.reduceNe, Nat.reduceMul, Nat.reduceSub]
      subst hQ
      simp (disch := first | assumption | omega) only [R.slices_Index_int, e8, e7, e0, e1, eh, go_sem, ↓reduceIte, Nat.reduceEqDiff, reduceCtorEq, Nat.reduceAdd, Nat.reduceLeDiff, Nat.reduceLT, reduceIte, Int.reduceBEq, Int.reduceBNe, Int.reduceLT, Int.reduceLE, Int.reduceAdd, Int.reduceSub, Int.reduceMul, Int.reduceNeg, Int.reduceEq, Int.reduceNe, Nat.reduceMul, Nat.reduceSub]
      exact ⟨i, rfl, fun _ => hc ▸ List.getElem_mem hlt1, fun _ => by omega⟩
    · simp (disch := first | assumption | omega) only [e8, e7, e0, e1, eh, hat, hlt1, hc, go_sem, ↓reduceIte, Nat.reduceEqDiff, reduceCtorEq, Nat.reduceAdd, Nat.reduceLeDiff, Nat.reduceLT, reduceIte, Int.reduceBEq, Int.reduceBNe, Int.reduceLT, Int.reduceLE, Int.reduceAdd, Int.reduceSub, Int.reduceMul, Int.reduceNeg, Int.reduceEq, Int.reduceNe, Nat.reduceMul, Nat.reduceSub]
      refine ⟨d - 1, by omega, i + 1, by omega, by simp, fun hm => ?_⟩
      rw [List.take_add_one, List.getElem?_eq_getElem hlt1] at hm
      rcases List.mem_append.1 hm with hm | hm
      · exact hn hm
      · simp at hm; exact hc hm
  · obtain rfl : i = l.length := by omega
    rw [List.take_length] at hn
    simp (disch := first | assumption | omega) only [e8, e7, e0, e1, eh, go_sem, ↓reduceIte, Nat.reduceEqDiff, reduceCtorEq, Nat.reduceAdd, Nat.reduceLeDiff, Nat.reduceLT, reduceIte, Int.reduceBEq, Int.reduceBNe, Int.reduceLT, Int.reduceLE, Int.reduceAdd, Int.reduceSub, Int.reduceMul, Int.reduceNeg, Int.reduceEq, Int.reduceNe, Nat.reduceMul, Nat.reduceSub]
    subst hQ
    simp (disch := first | assumption | omega) only [R.slices_Index_int, e8, e7, e0, e1, eh, go_sem, ↓reduceIte, Nat.reduceEqDiff, reduceCtorEq, Nat.reduceAdd, Nat.reduceLeDiff, Nat.reduceLT, reduceIte, Int.reduceBEq, Int.reduceBNe, Int.reduceLT, Int.reduceLE, Int.reduceAdd, Int.reduceSub, Int.reduceMul, Int.reduceNeg, Int.reduceEq, Int.reduceNe, Nat.reduceMul, Nat.reduceSub]
    exact ⟨-1, rfl, fun h => by omega, fun h => absurd h hn⟩
theorem ContainsInt_ok (o : Own) (l : List Int) (v : Int) (ho : Rdo o) (hl : l.length < 4611686018427387904) (h : List HObj) :
    ACalls Try.prog F.slices_Contains_int [.lst o (ints .i64 l), .int .i64 v] h (fun r h' => r = .bool (decide (v ∈ l)) ∧ h' = h) := by
  refine ACalls.of_aw Try.func97 K.slices_Contains_int (by simp [Try.f97]) ?_
  generalize hQ : retQ R.slices_Contains_int _ = Q
  simp (disch := first | assumption | omega) only [C.slices_Contains_int, go_sem, ↓reduceIte, Nat.reduceEqDiff, reduceCtorEq, Nat.reduceAdd, Nat.reduceLeDiff, Nat.reduceLT, reduceIte, Int.reduceBEq, Int.reduceBNe, Int.reduceLT, Int.reduceLE, Int.reduceAdd, Int.reduceSub, Int.reduceMul, Int.reduceNeg, Int.reduceEq, Int.reduceNe, Nat.reduceMul, Nat.reduceSub]
  refine callG_ok (IndexInt_ok o l v ho hl _) (by simp (disch := first | assumption | omega) only [go_sem, ↓reduceIte, Nat.reduceEqDiff, reduceCtorEq, Nat.reduceAdd, Nat.reduceLeDiff, Nat.reduceLT, reduceIte, Int.reduceBEq, Int.reduceBNe, Int.reduceLT, Int.reduceLE, Int.reduceAdd, Int.reduceSub, Int.reduceMul, Int.reduceNeg, Int.reduceEq, Int.reduceNe, Nat.reduceMul, Nat.reduceSub]) ?_
  rintro _ _ ⟨⟨i, rfl, hi⟩, hhh⟩
  rw [hhh]
  clear hhh
  simp (disch := first | assumption | omega) only [go_sem, ↓reduceIte, Nat.reduceEqDiff, reduceCtorEq, Nat.reduceAdd, Nat.reduceLeDiff, Nat.reduceLT, reduceIte, Int.reduceBEq, Int.reduceBNe, Int.reduceLT, Int.reduceLE, Int.reduceAdd, Int.reduceSub, Int.reduceMul, Int.reduceNeg, Int.reduceEq, Int.reduceNe, Nat.reduceMul, Nat.reduceSub]
  subst hQ
  simp (disch := first | assumption | omega) only [R.slices_Contains_int, go_sem, ↓reduceIte, Nat.reduceEqDiff, reduceCtorEq, Nat.reduceAdd, Nat.reduceLeDiff, Nat.reduceLT, reduceIte, Int.reduceBEq, Int.reduceBNe, Int.reduceLT, Int.reduceLE, Int.reduceAdd, Int.reduceSub, Int.reduceMul, Int.reduceNeg, Int.reduceEq, Int.reduceNe, Nat.reduceMul, Nat.reduceSub]
  by_cases hm : v ∈ l
  · rw [decide_eq_true hm, decide_eq_true (hi.2 hm)]
  · rw [decide_eq_false hm, decide_eq_false (fun h => hm (hi.1 h))]
theorem EqualInt_ok (o1 o2 : Own) (a b : List Int) (h1 : Rdo o1) (h2 : Rdo o2) (hl : a.length < 4611686018427387904) (hl2 : b.length < 4611686018427387904) (h : List HObj) :
    ACalls Try.prog F.slices_Equal_int [.lst o1 (ints .i64 a), .lst o2 (ints .i64 b)] h (fun r h' => r = .bool (decide (a = b)) ∧ h' = h) := by
  refine ACalls.of_aw Try.func94 K.slices_Equal_int (by simp [Try.f94]) ?_
  generalize hQ : retQ R.slices_Equal_int _ = Q
  simp (disch := first | assumption | omega) only [C.slices_Equal_int, go_sem, ↓reduceIte, Nat.reduceEqDiff, reduceCtorEq, Nat.reduceAdd, Nat.reduceLeDiff, Nat.reduceLT, reduceIte, Int.reduceBEq, Int.reduceBNe, Int.reduceLT, Int.reduceLE, Int.reduceAdd, Int.reduceSub, Int.reduceMul, Int.reduceNeg, Int.reduceEq, Int.reduceNe, Nat.reduceMul, Nat.reduceSub]
  refine condG_ifn (fun hne => ?_) fun heq => ?_
  · simp (disch := first | assumption | omega) only [go_sem, ↓reduceIte, Nat.reduceEqDiff, reduceCtorEq, Nat.reduceAdd, Nat.reduceLeDiff, Nat.reduceLT, reduceIte, Int.reduceBEq, Int.reduceBNe, Int.reduceLT, Int.reduceLE, Int.reduceAdd, Int.reduceSub, Int.reduceMul, Int.reduceNeg, Int.reduceEq, Int.reduceNe, Nat.reduceMul, Nat.reduceSub]
    subst hQ
    simp (disch := first | assumption | omega) only [R.slices_Equal_int, go_sem, ↓reduceIte, Nat.reduceEqDiff, reduceCtorEq, Nat.reduceAdd, Nat.reduceLeDiff, Nat.reduceLT, reduceIte, Int.reduceBEq, Int.reduceBNe, Int.reduceLT, Int.reduceLE, Int.reduceAdd, Int.reduceSub, Int.reduceMul, Int.reduceNeg, Int.reduceEq, Int.reduceNe, Nat.reduceMul, Nat.reduceSub]
    have : a ≠ b := by rintro rfl; omega
    simp [this]
  · have he : a.length = b.length := by omega
    simp (disch := first | assumption | omega) only [go_sem, ↓reduceIte, Nat.reduceEqDiff, reduceCtorEq, Nat.reduceAdd, Nat.reduceLeDiff, Nat.reduceLT, reduceIte, Int.reduceBEq, Int.reduceBNe, Int.reduceLT, Int.reduceLE, Int.reduceAdd, Int.reduceSub, Int.reduceMul, Int.reduceNeg, Int.reduceEq, Int.reduceNe, Nat.reduceMul, Nat.reduceSub]
    refine aw_count (fun d S => ∃ (i : Nat), i + d = a.length ∧ S.env 13 = .int .i64 i ∧ S.env 12 = .int .i64 a.length ∧ S.env 0 = .lst o1 (ints .i64 a) ∧ S.env 1 = .lst o2 (ints .i64 b) ∧ a.take i = b.take i ∧ S.heap = h) (n := a.length) ⟨0, by simp [go_sem]⟩ ?_
    rintro d S ⟨i, hi, e13, e12, e0, e1, ht, eh⟩
    simp (disch := first | assumption | omega) only [e13, e12, e0, e1, eh, go_sem, ↓reduceIte, Nat.reduceEqDiff, reduceCtorEq, Nat.reduceAdd, Nat.reduceLeDiff, Nat.reduceLT, reduceIte, Int.reduceBEq, Int.reduceBNe, Int.reduceLT, Int.reduceLE, Int.reduceAdd, Int.reduceSub, Int.reduceMul, Int.reduceNeg, Int.reduceEq, Int.reduceNe, Nat.reduceMul, Nat.reduceSub]
    refine condG_if (fun hlt => ?_) fun hge => ?_
    · have hlt1 : i < a.length := by omega
      have hlt2 : i < b.length := by omega
      have hat1 := at_int hlt1
      have hat2 := at_int hlt2
      simp (disch := first | assumption | omega) only [e13, e12, e0, e1, eh, hat1, hat2, hlt1, hlt2, go_sem, ↓reduceIte, Nat.reduceEqDiff, reduceCtorEq, Nat.reduceAdd, Nat.reduceLeDiff, Nat.reduceLT, reduceIte, Int.reduceBEq, Int.reduceBNe, Int.reduceLT, Int.reduceLE, Int.reduceAdd, Int.reduceSub, Int.reduceMul, Int.reduceNeg, Int.reduceEq, Int.reduceNe, Nat.reduceMul, Nat.reduceSub]
      refine condG_ifn (fun hb => ?_) fun hb => ?_
      · simp (disch := first | assumption | omega) only [e13, e12, e0, e1, eh, go_sem, ↓reduceIte, Nat.reduceEqDiff, reduceCtorEq, Nat.reduceAdd, Nat.reduceLeDiff, Nat.reduceLT, reduceIte, Int.reduceBEq, Int.reduceBNe, Int.reduceLT, Int.reduceLE, Int.reduceAdd, Int.reduceSub, Int.reduceMul, Int.reduceNeg, Int.reduceEq, Int.reduceNe, Nat.reduceMul, Nat.reduceSub]
        subst hQ
        simp (disch := first | assumption | omega) only [R.slices_Equal_int, e13, e12, e0, e1, eh, go_sem, ↓reduceIte, Nat.reduceEqDiff, reduceCtorEq, Nat.reduceAdd, Nat.reduceLeDiff, Nat.reduceLT, reduceIte, Int.reduceBEq, Int.reduceBNe, Int.reduceLT, Int.reduceLE, Int.reduceAdd, Int.reduceSub, Int.reduceMul, Int.reduceNeg, Int.reduceEq, Int.reduceNe, Nat.reduceMul, Nat.reduceSub]
        have : a ≠ b := by rintro rfl; exact hb rfl
        simp [this, eh]
      · simp (disch := first | assumption | omega) only [e13, e12, e0, e1, eh, go_sem, ↓reduceIte, Nat.reduceEqDiff, reduceCtorEq, Nat.reduceAdd, Nat.reduceLeDiff, Nat.reduceLT, reduceIte, Int.reduceBEq, Int.reduceBNe, Int.reduceLT, Int.reduceLE, Int.reduceAdd, Int.reduceSub, Int.reduceMul, Int.reduceNeg, Int.reduceEq, Int.reduceNe, Nat.reduceMul, Nat.reduceSub]
        refine ⟨d - 1, by omega, i + 1, by omega, by simp, ?_⟩
        rw [List.take_add_one, List.take_add_one, ht, List.getElem?_eq_getElem hlt1, List.getElem?_eq_getElem hlt2, hb]
    · obtain rfl : i = a.length := by omega
      simp (disch := first | assumption | omega) only [e13, e12, e0, e1, eh, go_sem, ↓reduceIte, Nat.reduceEqDiff, reduceCtorEq, Nat.reduceAdd, Nat.reduceLeDiff, Nat.reduceLT, reduceIte, Int.reduceBEq, Int.reduceBNe, Int.reduceLT, Int.reduceLE, Int.reduceAdd, Int.reduceSub, Int.reduceMul, Int.reduceNeg, Int.reduceEq, Int.reduceNe, Nat.reduceMul, Nat.reduceSub]
      subst hQ
      simp (disch := first | assumption | omega) only [R.slices_Equal_int, go_sem, ↓reduceIte, Nat.reduceEqDiff, reduceCtorEq, Nat.reduceAdd, Nat.reduceLeDiff, Nat.reduceLT, reduceIte, Int.reduceBEq, Int.reduceBNe, Int.reduceLT, Int.reduceLE, Int.reduceAdd, Int.reduceSub, Int.reduceMul, Int.reduceNeg, Int.reduceEq, Int.reduceNe, Nat.reduceMul, Nat.reduceSub]
      rw [List.take_length, he, List.take_length] at ht
      simp [ht, eh]
theorem CloneIntU_ok (o : Own) (l : List Int) (ho : Rdn o l) (hl : l.length ≤ 8796093022208) (h : List HObj) :
    ACalls Try.prog F.slices_Clone_int [.lst o (ints .i64 l)] h (fun r h' => (r = .lst .nil [] ∧ l = [] ∨ ∃ c, r = .lst (.uniq 1 c) (ints .i64 l) ∧ l.length ≤ c) ∧ h' = h) := by
  have h1 := ho.1
  refine ACalls.gcn (ACalls.of_aw Try.func177 K.slices_Clone_int (by simp [Try.f177]) ?_)
  generalize hQ : retQ R.slices_Clone_int _ = Q
  simp (disch := first | assumption | omega) only [C.slices_Clone_int, go_sem, ↓reduceIte, Nat.reduceEqDiff, reduceCtorEq, Nat.reduceAdd, Nat.reduceLeDiff, Nat.reduceLT, reduceIte, Int.reduceBEq, Int.reduceBNe, Int.reduceLT, Int.reduceLE, Int.reduceAdd, Int.reduceSub, Int.reduceMul, Int.reduceNeg, Int.reduceEq, Int.reduceNe, Nat.reduceMul, Nat.reduceSub]
  refine aops_isnilR (o := o) (xs := ints .i64 l) (by simp (disch := first | assumption | omega) only [go_sem, ↓reduceIte, Nat.reduceEqDiff, reduceCtorEq, Nat.reduceAdd, Nat.reduceLeDiff, Nat.reduceLT, reduceIte, Int.reduceBEq, Int.reduceBNe, Int.reduceLT, Int.reduceLE, Int.reduceAdd, Int.reduceSub, Int.reduceMul, Int.reduceNeg, Int.reduceEq, Int.reduceNe, Nat.reduceMul, Nat.reduceSub]) h1 (fun e => by rw [ho.2 e]; rfl) fun b hb => ?_
  cases b
  · simp (disch := first | assumption | omega) only [aops_hop, hstep, srcH, srcW, ints_flat, ints_rdc, go_sem, ↓reduceIte, Nat.reduceEqDiff, reduceCtorEq, Nat.reduceAdd, Nat.reduceLeDiff, Nat.reduceLT, reduceIte, Int.reduceBEq, Int.reduceBNe, Int.reduceLT, Int.reduceLE, Int.reduceAdd, Int.reduceSub, Int.reduceMul, Int.reduceNeg, Int.reduceEq, Int.reduceNe, Nat.reduceMul, Nat.reduceSub]
    refine ⟨ints_width l, by omega, by omega, fun h0 => ?_, fun _ _ => by omega, fun h0 _ cap hc _ => ?_⟩
    · have : l = [] := List.eq_nil_of_length_eq_zero h0
      subst this
      refine own_empty (id := 0) (off := 0) (cap := 0) (by simp (disch := first | assumption | omega) only [go_sem, ↓reduceIte, Nat.reduceEqDiff, reduceCtorEq, Nat.reduceAdd, Nat.reduceLeDiff, Nat.reduceLT, reduceIte, Int.reduceBEq, Int.reduceBNe, Int.reduceLT, Int.reduceLE, Int.reduceAdd, Int.reduceSub, Int.reduceMul, Int.reduceNeg, Int.reduceEq, Int.reduceNe, Nat.reduceMul, Nat.reduceSub]) (fun h => absurd rfl h) (fun _ => rfl) (by omega) ?_
      rintro hp hhp
      simp (disch := first | assumption | omega) only [go_sem, ↓reduceIte, Nat.reduceEqDiff, reduceCtorEq, Nat.reduceAdd, Nat.reduceLeDiff, Nat.reduceLT, reduceIte, Int.reduceBEq, Int.reduceBNe, Int.reduceLT, Int.reduceLE, Int.reduceAdd, Int.reduceSub, Int.reduceMul, Int.reduceNeg, Int.reduceEq, Int.reduceNe, Nat.reduceMul, Nat.reduceSub]
      subst hQ
      simp (disch := first | assumption | omega) only [R.slices_Clone_int, go_sem, ↓reduceIte, Nat.reduceEqDiff, reduceCtorEq, Nat.reduceAdd, Nat.reduceLeDiff, Nat.reduceLT, reduceIte, Int.reduceBEq, Int.reduceBNe, Int.reduceLT, Int.reduceLE, Int.reduceAdd, Int.reduceSub, Int.reduceMul, Int.reduceNeg, Int.reduceEq, Int.reduceNe, Nat.reduceMul, Nat.reduceSub]
      rcases hhp with ⟨rfl, _⟩ | ⟨_, h9⟩
      · exact ⟨[], by simp (disch := first | assumption | omega) only [go_sem, ↓reduceIte, Nat.reduceEqDiff, reduceCtorEq, Nat.reduceAdd, Nat.reduceLeDiff, Nat.reduceLT, reduceIte, Int.reduceBEq, Int.reduceBNe, Int.reduceLT, Int.reduceLE, Int.reduceAdd, Int.reduceSub, Int.reduceMul, Int.reduceNeg, Int.reduceEq, Int.reduceNe, Nat.reduceMul, Nat.reduceSub], by simp [AVal.ids, idsL], .inr ⟨0, rfl, Nat.le_refl _⟩⟩
      · exact absurd rfl h9
    · simp (disch := first | assumption | omega) only [ints_flat, ints_rdc, go_sem, ↓reduceIte, Nat.reduceEqDiff, reduceCtorEq, Nat.reduceAdd, Nat.reduceLeDiff, Nat.reduceLT, reduceIte, Int.reduceBEq, Int.reduceBNe, Int.reduceLT, Int.reduceLE, Int.reduceAdd, Int.reduceSub, Int.reduceMul, Int.reduceNeg, Int.reduceEq, Int.reduceNe, Nat.reduceMul, Nat.reduceSub]
      refine own_flat (id := h.length) (cap := cap) (xs := ints .i64 l) (rest := List.replicate ((cap - l.length) * 1) .junk) (by simp (disch := first | assumption | omega) only [ints_length, go_sem, ↓reduceIte, Nat.reduceEqDiff, reduceCtorEq, Nat.reduceAdd, Nat.reduceLeDiff, Nat.reduceLT, reduceIte, Int.reduceBEq, Int.reduceBNe, Int.reduceLT, Int.reduceLE, Int.reduceAdd, Int.reduceSub, Int.reduceMul, Int.reduceNeg, Int.reduceEq, Int.reduceNe, Nat.reduceMul, Nat.reduceSub]) (by simp (disch := first | assumption | omega) only [ints_flat, ints_length, go_sem, ↓reduceIte, Nat.reduceEqDiff, reduceCtorEq, Nat.reduceAdd, Nat.reduceLeDiff, Nat.reduceLT, reduceIte, Int.reduceBEq, Int.reduceBNe, Int.reduceLT, Int.reduceLE, Int.reduceAdd, Int.reduceSub, Int.reduceMul, Int.reduceNeg, Int.reduceEq, Int.reduceNe, Nat.reduceMul, Nat.reduceSub]) (by simp (disch := first | assumption | omega) only [ints_length, go_sem, ↓reduceIte, Nat.reduceEqDiff, reduceCtorEq, Nat.reduceAdd, Nat.reduceLeDiff, Nat.reduceLT, reduceIte, Int.reduceBEq, Int.reduceBNe, Int.reduceLT, Int.reduceLE, Int.reduceAdd, Int.reduceSub, Int.reduceMul, Int.reduceNeg, Int.reduceEq, Int.reduceNe, Nat.reduceMul, Nat.reduceSub]; omega) (by simp [ints_length]) (by omega) (ints_width l) (fun e => by cases e) (fun _ x hx => by obtain ⟨n, _, rfl⟩ := List.mem_map.1 hx; rfl) (fun _ => rfl) (fun x hx c hc => by obtain ⟨n, _, rfl⟩ := List.mem_map.1 hx; simp only [AVal.cells, List.mem_singleton] at hc; subst hc; exact ⟨rfl, rfl⟩) ?_
      rintro hp hhp
      simp (disch := first | assumption | omega) only [go_sem, ↓reduceIte, Nat.reduceEqDiff, reduceCtorEq, Nat.reduceAdd, Nat.reduceLeDiff, Nat.reduceLT, reduceIte, Int.reduceBEq, Int.reduceBNe, Int.reduceLT, Int.reduceLE, Int.reduceAdd, Int.reduceSub, Int.reduceMul, Int.reduceNeg, Int.reduceEq, Int.reduceNe, Nat.reduceMul, Nat.reduceSub]
      subst hQ
      simp (disch := first | assumption | omega) only [R.slices_Clone_int, go_sem, ↓reduceIte, Nat.reduceEqDiff, reduceCtorEq, Nat.reduceAdd, Nat.reduceLeDiff, Nat.reduceLT, reduceIte, Int.reduceBEq, Int.reduceBNe, Int.reduceLT, Int.reduceLE, Int.reduceAdd, Int.reduceSub, Int.reduceMul, Int.reduceNeg, Int.reduceEq, Int.reduceNe, Nat.reduceMul, Nat.reduceSub]
      rcases hhp with ⟨rfl, _⟩ | ⟨rfl, _⟩
      · exact ⟨_, by simp (disch := first | assumption | omega) only [go_sem, ↓reduceIte, Nat.reduceEqDiff, reduceCtorEq, Nat.reduceAdd, Nat.reduceLeDiff, Nat.reduceLT, reduceIte, Int.reduceBEq, Int.reduceBNe, Int.reduceLT, Int.reduceLE, Int.reduceAdd, Int.reduceSub, Int.reduceMul, Int.reduceNeg, Int.reduceEq, Int.reduceNe, Nat.reduceMul, Nat.reduceSub]; rfl, by simp [AVal.ids, ints_ids], .inr ⟨cap, rfl, hc⟩⟩
      · exact ⟨_, by simp (disch := first | assumption | omega) only [go_sem, ↓reduceIte, Nat.reduceEqDiff, reduceCtorEq, Nat.reduceAdd, Nat.reduceLeDiff, Nat.reduceLT, reduceIte, Int.reduceBEq, Int.reduceBNe, Int.reduceLT, Int.reduceLE, Int.reduceAdd, Int.reduceSub, Int.reduceMul, Int.reduceNeg, Int.reduceEq, Int.reduceNe, Nat.reduceMul, Nat.reduceSub]; rfl, by simp [AVal.ids, ints_ids], .inr ⟨cap, rfl, hc⟩⟩
  · have : l = [] := by
      refine Classical.byContradiction fun h0 => ?_
      have := hb (by simpa [ints] using h0)
      cases this
    subst this
    simp (disch := first | assumption | omega) only [go_sem, ↓reduceIte, Nat.reduceEqDiff, reduceCtorEq, Nat.reduceAdd, Nat.reduceLeDiff, Nat.reduceLT, reduceIte, Int.reduceBEq, Int.reduceBNe, Int.reduceLT, Int.reduceLE, Int.reduceAdd, Int.reduceSub, Int.reduceMul, Int.reduceNeg, Int.reduceEq, Int.reduceNe, Nat.reduceMul, Nat.reduceSub]
    subst hQ
    simp (disch := first | assumption | omega) only [R.slices_Clone_int, go_sem, ↓reduceIte, Nat.reduceEqDiff, reduceCtorEq, Nat.reduceAdd, Nat.reduceLeDiff, Nat.reduceLT, reduceIte, Int.reduceBEq, Int.reduceBNe, Int.reduceLT, Int.reduceLE, Int.reduceAdd, Int.reduceSub, Int.reduceMul, Int.reduceNeg, Int.reduceEq, Int.reduceNe, Nat.reduceMul, Nat.reduceSub]
    exact ⟨[], by simp, by simp [AVal.ids, idsL], by simp [ints]⟩
theorem CloneInt_ok (o : Own) (l : List Int) (ho : Rdn o l) (hl : l.length ≤ 8796093022208) (h : List HObj) :
    ACalls Try.prog F.slices_Clone_int [.lst o (ints .i64 l)] h (fun r h' => (∃ o', r = .lst o' (ints .i64 l) ∧ (o' = .nil ∧ l = [] ∨ o' = .app 1)) ∧ h' = h) :=
  ACalls.gr (ACalls.mono (CloneIntU_ok o l ho hl h) fun r h' ⟨e1, e2⟩ => by
    refine ⟨?_, e2⟩
    rcases e1 with ⟨rfl, rfl⟩ | ⟨c, rfl, _⟩
    · exact ⟨.nil, rfl, .inl ⟨rfl, rfl⟩⟩
    · exact ⟨.app 1, rfl, .inr rfl⟩)
end Go.Proofs.Ytpdajkbfemcdlaa
set_option linter.unusedSimpArgs false
set_option linter.unusedVariables false
set_option maxRecDepth 10000
namespace Go.Proofs.Ytpdajkbfemcdlaa
open Go.Ge Go.Sort
theorem Touches_ok (i j k1 k2 : Nat) (s t : List (Nat × Cell)) (hw1 : WfS k1 s) (hw2 : WfS k2 t) (tb : Bool) (htb : tb = true ↔ ∃ c, inS s c ∧ inS t c) (h : List HObj) (hi : h[i]? = some (.map k1 (ents s))) (hj : h[j]? = some (.map k2 (ents t))) :
    ACalls Try.prog F.gantref5_Set_Touches [.map i, .map j] h (fun v h' => v = .bool tb ∧ h' = h) := by
  have li := (List.getElem?_eq_some_iff.1 hi).1
  have lj := (List.getElem?_eq_some_iff.1 hj).1
  refine ACalls.gcn (ACalls.of_aw Try.func108 K.gantref5_Set_Touches (by simp [Try.f108]) ?_)
  generalize hQ : retQ R.gantref5_Set_Touches _ = Q
  simp (disch := first | assumption | omega) only [C.gantref5_Set_Touches, go_sem, ↓reduceIte, reduceCtorEq, reduceIte]
  simp (disch := first | assumption | omega) only [hi, go_sem]
  refine aw_count (fun n S => ∃ (lf : List (Nat × Cell)) (cur : Option Nat), n = lf.length ∧ lf.Sublist s ∧ (tb = true ↔ ∃ c, inS lf c ∧ inS t c) ∧ S.env 7 = .hp h.length 0 ∧ S.env 1 = .map j ∧ S.heap = h ++ [.iter i k1 (ents s) (ents lf) cur]) (n := s.length)
    ⟨s, none, rfl, List.Sublist.refl _, htb, by simp (disch := first | assumption | omega) only [go_sem, ↓reduceIte, reduceIte], by simp (disch := first | assumption | omega) only [go_sem, ↓reduceIte, Nat.reduceEqDiff, reduceIte], by simp (disch := first | assumption | omega) only [go_sem]⟩ ?_
  rintro n S ⟨lf, cur, rfl, hsub, htl, e7, e1, eh⟩
  have hi' := fun x => (List.getElem?_append_left (l₂ := [x]) li).trans hi
  have hj' := fun x => (List.getElem?_append_left (l₂ := [x]) lj).trans hj
  have hst := (hsub.map (·.1)).nodup hw1.st
  have hnd := (hsub.map (·.2)).nodup hw1.nd
  simp (disch := first | assumption | omega) only [e7, e1, eh, hend, hendset, hi', drV_map, rdv_map, go_sem, ↓reduceIte, Nat.reduceEqDiff, Nat.reduceAdd, Nat.reduceLeDiff, Nat.reduceLT, reduceIte, Int.reduceLT, Int.reduceAdd]
  refine ⟨fun hz => ?_, fun x hx => ?_⟩
  · have hlf : lf = [] := by
      cases lf with
      | nil => rfl
      | cons a b => cases hz
    have hf : tb = false := by
      rw [hlf] at htl
      cases tb with
      | false => rfl
      | true => obtain ⟨c, hc, _⟩ := htl.1 rfl; simp [inS] at hc
    subst hf
    subst hQ
    simp (disch := first | assumption | omega) only [R.gantref5_Set_Touches, eh, go_sem, ↓reduceIte, reduceIte]
    exact ⟨_, rfl, by simp [AVal.ids, idsL]⟩
  · obtain ⟨pr, hpr, rfl⟩ := List.mem_map.1 hx
    have hfind := find_ents hw1.st (hsub.subset hpr)
    have hk := keyOk_cell pr.2
    have hks := keyOk_ents t
    have hgt := mget_ents pr.2 t
    have hfl := filter_ents lf pr
    have hlen : (lf.filter fun q => q.1 != pr.1).length < lf.length := List.length_filter_lt_length_iff_exists.2 ⟨pr, hpr, by simp⟩
    simp only []
    rw [hfind]
    unfold cellA at hk hgt hfind
    by_cases hin : inS t pr.2
    · have htt : tb = true := htl.2 ⟨pr.2, List.mem_map.2 ⟨pr, hpr, rfl⟩, hin⟩
      subst htt
      rw [if_pos hin] at hgt
      simp (disch := first | assumption | omega) only [cellA, drV_cell, fillV, AVal.cells, hfl, hj', hgt, mlookV, go_sem, ↓reduceIte, Nat.reduceAdd, Nat.reduceLeDiff, reduceIte, Int.reduceAdd]
      refine ⟨⟨hk, hks⟩, ?_⟩
      subst hQ
      simp (disch := first | assumption | omega) only [R.gantref5_Set_Touches, go_sem, ↓reduceIte, reduceIte]
      exact ⟨_, rfl, by simp [AVal.ids, idsL]⟩
    · rw [if_neg hin] at hgt
      simp (disch := first | assumption | omega) only [cellA, drV_cell, fillV, AVal.cells, hfl, hj', hgt, mlookV, e7, e1, drV_map, go_sem, ↓reduceIte, Nat.reduceEqDiff, Nat.reduceAdd, Nat.reduceLeDiff, reduceIte, Int.reduceAdd]
      refine ⟨⟨hk, hks⟩, _, hlen, lf.filter fun q => q.1 != pr.1, some pr.1, rfl, List.filter_sublist.trans hsub, ?_, rfl⟩
      rw [htl]
      constructor
      · rintro ⟨c, h1, h2⟩
        exact ⟨c, (in_rest hst hnd hpr c).2 ⟨h1, fun e => hin (e ▸ h2)⟩, h2⟩
      · rintro ⟨c, h1, h2⟩
        exact ⟨c, ((in_rest hst hnd hpr c).1 h1).1, h2⟩
theorem mem_meetC (a b : List Cell) (c : Cell) : c ∈ meetC a b ↔ c ∈ a ∧ c ∈ b := by
  unfold meetC
  rw [List.mem_filter, mem_normC]
  simp
def CelOk (l : List Cell) (x : AVal) : Prop := ∃ q, Rdn q l ∧ x = .lst q (cellsA l)
def touch (a b : List Cell) : Bool := decide (0 < (meetC a b).length)
theorem touch_iff {a b : List Cell} : touch a b = true ↔ ∃ c, c ∈ a ∧ c ∈ b := by
  unfold touch
  rw [decide_eq_true_iff]
  constructor
  · intro h
    have := List.getElem_mem (l := meetC a b) (n := 0) h
    exact ⟨_, (mem_meetC a b _).1 this⟩
  · rintro ⟨c, h1, h2⟩
    exact List.length_pos_of_mem ((mem_meetC a b c).2 ⟨h1, h2⟩)
def tch (has wants : List (List Cell)) (i k : Nat) : Bool := touch (has.getD k []) (wants.getD i [])
theorem okR_take (t : Nat → Bool) (N i : Nat) (D : List Nat) : okR t (N + 1) i D = (okR t N i D && (N == i || D.contains N || !t N)) := by
  unfold okR
  rw [List.range_succ, List.all_append]
  simp
def nats (D : List Nat) : List AVal := ints .i64 (D.map fun (n : Nat) => (n : Int))
theorem nats_mem (D : List Nat) (i : Nat) : decide ((i : Int) ∈ D.map fun (n : Nat) => (n : Int)) = D.contains i := by
  rw [Bool.eq_iff_iff, decide_eq_true_iff, List.contains_iff_mem, List.mem_map]
  constructor
  · rintro ⟨a, ha, e⟩
    have : a = i := by omega
    exact this ▸ ha
  · exact fun h => ⟨i, h, rfl⟩
theorem okR_false {t : Nat → Bool} {N i k : Nat} {D : List Nat} (hk : k < N) (h : (k == i || D.contains k || !t k) = false) : okR t N i D = false := by
  rw [← Bool.not_eq_true]
  unfold okR
  rw [List.all_eq_true]
  intro ha
  have := ha k (List.mem_range.2 hk)
  rw [h] at this
  cases this
theorem getD_at {α : Type} {l : List α} {i : Nat} (h : i < l.length) (d : α) : l.getD i d = l[i] := by simp [List.getD_eq_getElem?_getD, h]
theorem nats_len (D : List Nat) : (D.map fun (n : Nat) => (n : Int)).length = D.length := List.length_map _
theorem free_ok (o q : Own) (has : List (List Cell)) (xs : List AVal) (w : List Cell) (qd : Own) (i : Nat) (D : List Nat) (ho : Rdo o) (hx : Each2 CelOk has xs) (hq : Rdn q w) (hd : Rdo qd) (hl : has.length ≤ 4) (hsz : ∀ r ∈ has, r.length + w.length < 65536) (hD : D.length ≤ 4) (hi : i ≤ 4) (h : List HObj) :
    ACalls Try.prog F.ring_free [.lst o xs, .lst q (cellsA w), .int .i64 i, .lst qd (nats D)] h (fun v h' => v = .bool (okR (fun k => touch (has.getD k []) w) has.length i D) ∧ h' = h) := by
  have lx := hx.length
  have hq1 := hq.1
  refine ACalls.of_aw Try.func176 K.ring_free (by simp [Try.f176]) ?_
  generalize hQ : retQ R.ring_free _ = Q
  simp (disch := first | assumption | omega) only [C.ring_free, go_sem, ↓reduceIte, reduceCtorEq, reduceIte]
  refine aw_count (fun d S => ∃ (k : Nat), k + d = has.length ∧ okR (fun k => touch (has.getD k []) w) k i D = true ∧ S.env 13 = .int .i64 k ∧ S.env 12 = .int .i64 has.length ∧ S.env 11 = .lst o xs ∧ S.env 1 = .lst q (cellsA w) ∧ S.env 2 = .int .i64 i ∧ S.env 3 = .lst qd (nats D) ∧ S.heap = h) (n := has.length)
    ⟨0, by omega, rfl, by simp (disch := first | assumption | omega) only [go_sem, ↓reduceIte, reduceIte], by simp (disch := first | assumption | omega) only [lx, go_sem, ↓reduceIte, Nat.reduceEqDiff, reduceIte], by simp (disch := first | assumption | omega) only [go_sem, ↓reduceIte, Nat.reduceEqDiff, reduceIte], by simp (disch := first | assumption | omega) only [go_sem, ↓reduceIte, Nat.reduceEqDiff, reduceIte], by simp (disch := first | assumption | omega) only [go_sem, ↓reduceIte, Nat.reduceEqDiff, reduceIte], by simp (disch := first | assumption | omega) only [go_sem, ↓reduceIte, Nat.reduceEqDiff, reduceIte], by simp (disch := first | assumption | omega) only [go_sem]⟩ ?_
  rintro d S ⟨k, hk, hok, e13, e12, e11, e1, e2, e3, eh⟩
  by_cases hlt : (k : Int) < has.length
  · have hlt1 : k < has.length := by omega
    have hlt2 : k < xs.length := by omega
    obtain ⟨p, hp, hxi⟩ := hx.at k hlt1
    have hp1 := hp.1
    have hr := hsz _ (List.getElem_mem hlt1)
    have hg := getD_at hlt1 []
    have hstep := okR_take (fun k => touch (has.getD k []) w) k i D
    have hbad : (k == i || D.contains k || !touch (has.getD k []) w) = false → okR (fun k => touch (has.getD k []) w) has.length i D = false := fun hb => okR_false hlt1 hb
    rw [hg] at hstep hbad
    generalize hrr : has[k] = r at *
    by_cases hki : k = i
    · have hb : (k == i) = true := by simpa using hki
      rw [hb, hok] at hstep
      subst hki
      have hself : (((k : Nat) : Int) = k) = True := eq_self _
      simp (disch := first | assumption | omega) only [e13, e12, e11, e1, e2, e3, eh, hlt, hlt2, hxi, go_sem, ↓reduceIte, Nat.reduceEqDiff, Nat.reduceLeDiff, Nat.reduceLT, reduceIte, Int.reduceLT]
      exact ⟨d - 1, by omega, k + 1, by omega, by rw [hstep]; simp, by simp⟩
    · have hb : (k == i) = false := by simpa using hki
      rw [hb, hok] at hstep
      rw [hb] at hbad
      have hki' : ¬ (k : Int) = i := by omega
      simp (disch := first | assumption | omega) only [e13, e12, e11, e2, e3, hlt, hlt2, hxi, hki', go_sem, ↓reduceIte, Nat.reduceEqDiff, Nat.reduceLeDiff, Nat.reduceLT, reduceIte, Int.reduceLT]
      refine callG_ok (ContainsInt_ok qd _ _ hd (by rw [nats_len]; omega) _) (by simp (disch := first | assumption | omega) only [go_sem]) ?_
      rintro _ _ ⟨rfl, hhh⟩
      rw [hhh, nats_mem]
      clear hhh
      cases hc : D.contains k with
      | true =>
        rw [hc] at hstep
        simp (disch := first | assumption | omega) only [e13, e12, e11, e1, e2, e3, eh, go_sem, ↓reduceIte, Nat.reduceEqDiff, reduceIte]
        exact ⟨d - 1, by omega, k + 1, by omega, by rw [hstep]; simp, by simp⟩
      | false =>
        rw [hc] at hstep hbad
        simp (disch := first | assumption | omega) only [e1, go_sem, ↓reduceIte, Nat.reduceEqDiff, reduceIte]
        refine callG_ok (Meet_ok p q r w hp hq hr _) (by simp (disch := first | assumption | omega) only [go_sem]) ?_
        rintro _ _ ⟨rfl, hhh⟩
        rw [hhh]
        clear hhh
        simp (disch := first | assumption | omega) only [go_sem, ↓reduceIte, Nat.reduceEqDiff, reduceIte]
        refine condG_if (fun h0 => ?_) fun h0 => ?_
        · have ht : touch r w = true := by
            unfold touch
            rw [decide_eq_true_iff]; omega
          rw [ht] at hbad
          have hz := hbad rfl
          subst hQ
          simp (disch := first | assumption | omega) only [R.ring_free, eh, hz, go_sem, ↓reduceIte, reduceIte]
        · have ht : touch r w = false := by
            unfold touch
            rw [decide_eq_false_iff_not]; omega
          rw [ht] at hstep
          simp (disch := first | assumption | omega) only [e13, e12, e11, e1, e2, e3, eh, go_sem, ↓reduceIte, Nat.reduceEqDiff, reduceIte]
          exact ⟨d - 1, by omega, k + 1, by omega, by rw [hstep]; simp, by simp⟩
  · obtain rfl : k = has.length := by omega
    simp (disch := first | assumption | omega) only [e13, e12, hlt, go_sem, ↓reduceIte, reduceIte]
    subst hQ
    simp (disch := first | assumption | omega) only [R.ring_free, eh, hok, go_sem, ↓reduceIte, reduceIte]
end Go.Proofs.Ytpdajkbfemcdlaa
set_option linter.unusedSimpArgs false
set_option linter.unusedVariables false
set_option maxRecDepth 10000
namespace Go.Proofs.Ytpdajkbfemcdlaa
open Go.Ge Go.Sort
def chk (a b : List (List Cell)) : Nat → Int
  | 0 => 0
  | k + 1 => if chk a b k ≠ 0 then chk a b k else if cellsFault (a.getD k []) ≠ 0 then cellsFault (a.getD k []) else cellsFault (b.getD k [])
theorem chk_stop {a b : List (List Cell)} {k : Nat} (h : chk a b k ≠ 0) : ∀ n, chk a b (k + n) = chk a b k
  | 0 => rfl
  | n + 1 => by
    have ih := chk_stop h n
    show (if chk a b (k + n) ≠ 0 then chk a b (k + n) else _) = _
    rw [ih, if_pos h]
theorem chk_end {a b : List (List Cell)} {k n : Nat} (h : chk a b k ≠ 0) (hk : k ≤ n) : chk a b n = chk a b k := by
  obtain ⟨m, rfl⟩ := Nat.exists_eq_add_of_le hk
  exact chk_stop h m
theorem chk_all {a b : List (List Cell)} : ∀ {n : Nat}, chk a b n = 0 → ∀ k, k < n → cellsFault (a.getD k []) = 0 ∧ cellsFault (b.getD k []) = 0
  | n + 1, h, k, hk => by
    have h1 : chk a b n = 0 := Classical.byContradiction fun e => by
      have := chk_end e (n := n + 1) (by omega)
      exact e (this ▸ h)
    have h2 : (if chk a b n ≠ 0 then chk a b n else if cellsFault (a.getD n []) ≠ 0 then cellsFault (a.getD n []) else cellsFault (b.getD n [])) = 0 := h
    rw [if_neg (by simp [h1])] at h2
    by_cases hk2 : k = n
    · subst hk2
      by_cases e : cellsFault (a.getD k []) = 0
      · rw [if_neg (fun h => h e)] at h2
        exact ⟨e, h2⟩
      · rw [if_pos e] at h2
        exact absurd h2 e
    · exact chk_all h1 k (by omega)
def clashI (a : List (List Cell)) (i n : Nat) : Bool := (List.range n).any fun j => touch (a.getD i []) (a.getD j [])
def clash (a : List (List Cell)) (n : Nat) : Bool := (List.range n).any fun i => clashI a i i
theorem clashI_succ (a : List (List Cell)) (i n : Nat) : clashI a i (n + 1) = (clashI a i n || touch (a.getD i []) (a.getD n [])) := by
  unfold clashI
  rw [List.range_succ, List.any_append]
  simp
theorem clash_succ (a : List (List Cell)) (n : Nat) : clash a (n + 1) = (clash a n || clashI a n n) := by
  unfold clash
  rw [List.range_succ, List.any_append]
  simp
theorem clashI_true {a : List (List Cell)} {i j n : Nat} (hj : j < n) (h : touch (a.getD i []) (a.getD j []) = true) : clashI a i n = true :=
  List.any_eq_true.2 ⟨j, List.mem_range.2 hj, h⟩
theorem clash_true {a : List (List Cell)} {i n : Nat} (hi : i < n) (h : clashI a i i = true) : clash a n = true :=
  List.any_eq_true.2 ⟨i, List.mem_range.2 hi, h⟩
def pickP (t : Nat → Nat → Bool) (N : Nat) (D : List Nat) (n : Nat) : Option Nat := (List.range n).find? fun i => !D.contains i && okR (t i) N i D
theorem pickP_succ (t : Nat → Nat → Bool) (N : Nat) (D : List Nat) (n : Nat) : pickP t N D (n + 1) = match pickP t N D n with | some k => some k | none => if (!D.contains n && okR (t n) N n D) = true then some n else none := by
  unfold pickP
  rw [List.range_succ, List.find?_append]
  cases (List.range n).find? fun i => !D.contains i && okR (t i) N i D with
  | some k => rfl
  | none =>
    simp only [Option.none_or, List.find?_cons, List.find?_nil]
    split
    · rename_i h; rw [if_pos h]
    · rename_i h; rw [if_neg (fun e => by rw [h] at e; cases e)]
def encO : Option Nat → Int
  | none => -1
  | some k => k
def safeV (a b : List (List Cell)) : Int × List Nat :=
  if 4 < a.length ∨ b.length ≠ a.length then (2, []) else
  if chk a b a.length ≠ 0 then (chk a b a.length, []) else
  if clash a a.length = true then (10, []) else
  match safeN (tch a b) a.length a.length [] with
  | none => (11, [])
  | some r => (0, r)
theorem Safe_ok (o p : Own) (a b : List (List Cell)) (xs ys : List AVal) (ho : Rdo o) (hp : Rdo p) (hx : Each2 CelOk a xs) (hy : Each2 CelOk b ys) (la : a.length < 4611686018427387904) (lb : b.length < 4611686018427387904) (ha : ∀ r ∈ a, r.length < 4611686018427387904) (hb : ∀ r ∈ b, r.length < 4611686018427387904) (h : List HObj) :
    ACalls Try.prog F.ring_Safe [.lst o xs, .lst p ys] h (fun v h' => (∃ q, v = .tup [.lst q (nats (safeV a b).2), .int .i64 (safeV a b).1] ∧ (q = .nil ∧ (safeV a b).2 = [] ∨ q = .app 1)) ∧ h' = h) := by
  have lx := hx.length
  have ly := hy.length
  refine ACalls.of_aw Try.func106 K.ring_Safe (by simp [Try.f106]) ?_
  generalize hQ : retQ R.ring_Safe _ = Q
  simp (disch := first | assumption | omega) only [C.ring_Safe, go_sem, ↓reduceIte, reduceCtorEq, reduceIte, Int.reduceNeg]
  by_cases h4 : 4 < a.length
  · have h4' : (4 : Int) < xs.length := by omega
    have hv : safeV a b = (2, []) := by unfold safeV; rw [if_pos (.inl h4)]
    simp (disch := first | assumption | omega) only [h4', go_sem, ↓reduceIte, Nat.reduceEqDiff, reduceIte, Int.reduceNeg]
    subst hQ
    simp (disch := first | assumption | omega) only [R.ring_Safe, hv, go_sem, ↓reduceIte, Nat.reduceEqDiff, reduceIte]
    exact ⟨.nil, rfl, .inl rfl⟩
  have h4' : ¬ (4 : Int) < xs.length := by omega
  by_cases h5 : b.length = a.length
  case neg =>
    have h5' : ¬ (ys.length : Int) = xs.length := by omega
    have hv : safeV a b = (2, []) := by unfold safeV; rw [if_pos (.inr h5)]
    simp (disch := first | assumption | omega) only [h4', h5', go_sem, ↓reduceIte, Nat.reduceEqDiff, reduceCtorEq, reduceIte, Int.reduceNeg]
    subst hQ
    simp (disch := first | assumption | omega) only [R.ring_Safe, hv, go_sem, ↓reduceIte, Nat.reduceEqDiff, reduceIte]
    exact ⟨.nil, rfl, .inl rfl⟩
  have h5' : (ys.length : Int) = xs.length := by omega
  have hv : safeV a b = if chk a b a.length ≠ 0 then (chk a b a.length, []) else if clash a a.length = true then (10, []) else match safeN (tch a b) a.length a.length [] with | none => (11, []) | some r => (0, r) := by
    unfold safeV; rw [if_neg (by omega)]
  generalize safeV a b = V at *
  simp (disch := first | assumption | omega) only [h4', h5', go_sem, ↓reduceIte, Nat.reduceEqDiff, reduceCtorEq, reduceIte, Int.reduceNeg]
  refine aw_count (fun d S => ∃ (i : Nat), i + d = a.length ∧ chk a b i = 0 ∧ S.env 29 = .int .i64 i ∧ S.env 28 = .int .i64 a.length ∧ S.env 0 = .lst o xs ∧ S.env 1 = .lst p ys ∧ S.heap = h) (n := a.length)
    ⟨0, by omega, rfl, by simp (disch := first | assumption | omega) only [go_sem, ↓reduceIte, reduceIte], by simp (disch := first | assumption | omega) only [lx, go_sem, ↓reduceIte, Nat.reduceEqDiff, reduceIte], by simp (disch := first | assumption | omega) only [go_sem, ↓reduceIte, reduceCtorEq, reduceIte], by simp (disch := first | assumption | omega) only [go_sem, ↓reduceIte, Nat.reduceEqDiff, reduceIte], by simp (disch := first | assumption | omega) only [go_sem]⟩ ?_
  rintro d S ⟨i, hi, hck, e29, e28, e0, e1, eh⟩
  by_cases hlt : (i : Int) < a.length
  · have hlt1 : i < a.length := by omega
    have hlt2 : i < xs.length := by omega
    have hlt3 : i < ys.length := by omega
    have hlt4 : i < b.length := by omega
    obtain ⟨q1, hq1, hxi⟩ := hx.at i hlt1
    obtain ⟨q2, hq2, hyi⟩ := hy.at i hlt4
    have hq3 := hq1.1
    have hq4 := hq2.1
    have ra := ha _ (List.getElem_mem hlt1)
    have rb := hb _ (List.getElem_mem hlt4)
    have hst : chk a b (i + 1) = if chk a b i ≠ 0 then chk a b i else if cellsFault (a.getD i []) ≠ 0 then cellsFault (a.getD i []) else cellsFault (b.getD i []) := rfl
    rw [if_neg (fun h => h hck), getD_at hlt1, getD_at hlt4] at hst
    generalize a[i] = r1 at *
    generalize b[i] = r2 at *
    simp (disch := first | assumption | omega) only [e29, e28, e0, e1, hlt, hlt2, hlt3, hxi, hyi, go_sem, ↓reduceIte, Nat.reduceEqDiff, reduceCtorEq, Nat.reduceAdd, Nat.reduceLeDiff, Nat.reduceLT, reduceIte, Int.reduceLT, Int.reduceAdd, Int.reduceMul, Int.reduceNeg, Nat.reduceMul]
    refine aw_count (fun d S => ∃ (j : Nat), j + d = 2 ∧ (1 ≤ j → cellsFault r1 = 0) ∧ (2 ≤ j → cellsFault r2 = 0) ∧ S.env 42 = .int .i64 j ∧ S.env 41 = .int .i64 2 ∧ S.env 40 = .lst (.app 1) [.lst q1 (cellsA r1), .lst q2 (cellsA r2)] ∧ S.env 29 = .int .i64 i ∧ S.env 28 = .int .i64 a.length ∧ S.env 0 = .lst o xs ∧ S.env 1 = .lst p ys ∧ S.heap = h) (n := 2)
      ⟨0, by omega, fun h => by omega, fun h => by omega, by simp (disch := first | assumption | omega) only [go_sem, ↓reduceIte, reduceIte], by simp (disch := first | assumption | omega) only [go_sem, ↓reduceIte, Nat.reduceEqDiff, reduceIte]; rfl, by simp (disch := first | assumption | omega) only [go_sem, ↓reduceIte, Nat.reduceEqDiff, reduceIte], by simp (disch := first | assumption | omega) only [e29, go_sem, ↓reduceIte, Nat.reduceEqDiff, reduceIte], by simp (disch := first | assumption | omega) only [e28, go_sem, ↓reduceIte, Nat.reduceEqDiff, reduceIte], by simp (disch := first | assumption | omega) only [e0, go_sem, ↓reduceIte, reduceCtorEq, reduceIte], by simp (disch := first | assumption | omega) only [e1, go_sem, ↓reduceIte, Nat.reduceEqDiff, reduceIte], by simp (disch := first | assumption | omega) only [eh, go_sem]⟩ ?_
    rintro d2 S ⟨j, hj, hj1, hj2, e42, e41, e40, e29, e28, e0, e1, eh⟩
    have z0 : at_ [AVal.lst q1 (cellsA r1), AVal.lst q2 (cellsA r2)] 0 = .lst q1 (cellsA r1) := rfl
    have z1 : at_ [AVal.lst q1 (cellsA r1), AVal.lst q2 (cellsA r2)] 1 = .lst q2 (cellsA r2) := rfl
    have h02 : (0 : Int) < ((2 : Nat) : Int) := by omega
    have h12 : (1 : Int) < ((2 : Nat) : Int) := by omega
    rcases (show j = 0 ∨ j = 1 ∨ j = 2 by omega) with rfl | rfl | rfl
    · simp (disch := first | assumption | omega) only [e42, e41, e40, z0, h02, go_sem, ↓reduceIte, Nat.reduceEqDiff, Nat.reduceAdd, Nat.reduceLeDiff, Nat.reduceLT, reduceIte, Int.reduceLT, Int.reduceLE, Int.reduceAdd, Int.reduceNeg]
      refine callG_ok (gridCheck_ok q1 r1 hq3 ra _) (by simp (disch := first | assumption | omega) only [go_sem]) ?_
      rintro _ _ ⟨rfl, hhh⟩
      rw [hhh]
      clear hhh
      by_cases hf : cellsFault r1 = 0
      · simp (disch := first | assumption | omega) only [hf, e42, e41, e40, e29, e28, e0, e1, eh, go_sem, ↓reduceIte, Nat.reduceEqDiff, reduceCtorEq, reduceIte, Int.reduceNeg]
        exact ⟨1, by omega, 1, by omega, fun h => by omega, rfl⟩
      · rw [if_pos hf] at hst
        have hne : chk a b (i + 1) ≠ 0 := by rw [hst]; exact hf
        have hend := chk_end hne (n := a.length) (by omega)
        rw [hend, if_pos hne, hst] at hv
        simp (disch := first | assumption | omega) only [hf, go_sem, ↓reduceIte, Nat.reduceEqDiff, reduceIte, Int.reduceNeg]
        subst hQ
        simp (disch := first | assumption | omega) only [R.ring_Safe, eh, hv, go_sem, ↓reduceIte, Nat.reduceEqDiff, reduceIte]
        exact ⟨.nil, rfl, .inl rfl⟩
    · have e42 : S.env 42 = .int .i64 1 := e42
      simp (disch := first | assumption | omega) only [e42, e41, e40, z1, h12, go_sem, ↓reduceIte, Nat.reduceEqDiff, Nat.reduceAdd, Nat.reduceLeDiff, Nat.reduceLT, reduceIte, Int.reduceLT, Int.reduceLE, Int.reduceAdd, Int.reduceNeg]
      refine callG_ok (gridCheck_ok q2 r2 hq4 rb _) (by simp (disch := first | assumption | omega) only [go_sem]) ?_
      rintro _ _ ⟨rfl, hhh⟩
      rw [hhh]
      clear hhh
      by_cases hf : cellsFault r2 = 0
      · simp (disch := first | assumption | omega) only [hf, e42, e41, e40, e29, e28, e0, e1, eh, go_sem, ↓reduceIte, Nat.reduceEqDiff, reduceCtorEq, Nat.reduceAdd, reduceIte, Int.reduceAdd, Int.reduceNeg]
        exact ⟨0, by omega, 2, by omega, fun _ => hj1 (by omega), rfl⟩
      · rw [if_neg (fun h => h (hj1 (by omega)))] at hst
        have hne : chk a b (i + 1) ≠ 0 := by rw [hst]; exact hf
        have hend := chk_end hne (n := a.length) (by omega)
        rw [hend, if_pos hne, hst] at hv
        simp (disch := first | assumption | omega) only [hf, go_sem, ↓reduceIte, Nat.reduceEqDiff, reduceIte, Int.reduceNeg]
        subst hQ
        simp (disch := first | assumption | omega) only [R.ring_Safe, eh, hv, go_sem, ↓reduceIte, Nat.reduceEqDiff, reduceIte]
        exact ⟨.nil, rfl, .inl rfl⟩
    · rw [if_neg (fun h => h (hj1 (by omega))), hj2 (by omega)] at hst
      have e42 : S.env 42 = .int .i64 2 := e42
      simp (disch := first | assumption | omega) only [e42, e41, e29, e28, e0, e1, eh, go_sem, ↓reduceIte, Nat.reduceEqDiff, reduceCtorEq, Nat.reduceLT, reduceIte, Int.reduceLT, Int.reduceNeg]
      exact ⟨d - 1, by omega, i + 1, by omega, hst, by simp⟩
  · obtain rfl : i = a.length := by omega
    rw [if_neg (by simp [hck])] at hv
    have ha2 : ∀ r ∈ a, r.length ≤ 400 := fun r hr => by
      obtain ⟨k, hk, rfl⟩ := List.mem_iff_getElem.1 hr
      have := (chk_all hck k hk).1
      rw [getD_at hk] at this
      exact (fault_up this).1
    have hb2 : ∀ r ∈ b, r.length ≤ 400 := fun r hr => by
      obtain ⟨k, hk, rfl⟩ := List.mem_iff_getElem.1 hr
      have := (chk_all hck k (by omega)).2
      rw [getD_at hk] at this
      exact (fault_up this).1
    simp (disch := first | assumption | omega) only [e29, e28, e0, hlt, go_sem, ↓reduceIte, reduceCtorEq, reduceIte, Int.reduceNeg]
    refine aw_count (fun d S => ∃ (i : Nat), i + d = a.length ∧ clash a i = false ∧ S.env 55 = .int .i64 i ∧ S.env 54 = .int .i64 a.length ∧ S.env 53 = .lst o xs ∧ S.env 0 = .lst o xs ∧ S.env 1 = .lst p ys ∧ S.heap = h) (n := a.length)
      ⟨0, by omega, rfl, by simp (disch := first | assumption | omega) only [go_sem, ↓reduceIte, reduceIte], by simp (disch := first | assumption | omega) only [lx, go_sem, ↓reduceIte, Nat.reduceEqDiff, reduceIte], by simp (disch := first | assumption | omega) only [go_sem, ↓reduceIte, Nat.reduceEqDiff, reduceIte], by simp (disch := first | assumption | omega) only [e0, go_sem, ↓reduceIte, reduceCtorEq, reduceIte], by simp (disch := first | assumption | omega) only [e1, go_sem, ↓reduceIte, Nat.reduceEqDiff, reduceIte], by simp (disch := first | assumption | omega) only [eh, go_sem]⟩ ?_
    clear e29 e28 e0 e1 eh
    rintro d S ⟨i, hi, hcl, e55, e54, e53, e0, e1, eh⟩
    by_cases hlt : (i : Int) < a.length
    · have hlt1 : i < a.length := by omega
      have hlt2 : i < xs.length := by omega
      obtain ⟨q1, hq1, hxi⟩ := hx.at i hlt1
      have hq3 := hq1.1
      simp (disch := first | assumption | omega) only [e55, e54, e53, e0, hlt, hlt2, hxi, go_sem, ↓reduceIte, Nat.reduceEqDiff, reduceCtorEq, Nat.reduceLeDiff, Nat.reduceLT, reduceIte, Int.reduceLT, Int.reduceLE, Int.reduceNeg]
      have hti : (xs.take i).length = i := by rw [List.length_take]; omega
      refine ⟨⟨by omega, hx.all fun _ _ _ ⟨_, _, e⟩ => by rw [e]; rfl⟩, ?_⟩
      refine aw_count (fun d S => ∃ (j : Nat), j + d = i ∧ clashI a i j = false ∧ S.env 64 = .int .i64 j ∧ S.env 63 = .int .i64 i ∧ S.env 62 = .lst .sh (xs.take i) ∧ S.env 11 = .lst q1 (cellsA a[i]) ∧ S.env 55 = .int .i64 i ∧ S.env 54 = .int .i64 a.length ∧ S.env 53 = .lst o xs ∧ S.env 0 = .lst o xs ∧ S.env 1 = .lst p ys ∧ S.heap = h) (n := i)
        ⟨0, by omega, rfl, by simp (disch := first | assumption | omega) only [go_sem, ↓reduceIte, reduceIte], by simp (disch := first | assumption | omega) only [hti, go_sem, ↓reduceIte, Nat.reduceEqDiff, reduceIte], by simp (disch := first | assumption | omega) only [go_sem, ↓reduceIte, Nat.reduceEqDiff, reduceIte], by simp (disch := first | assumption | omega) only [go_sem, ↓reduceIte, Nat.reduceEqDiff, reduceIte], by simp (disch := first | assumption | omega) only [e55, go_sem, ↓reduceIte, Nat.reduceEqDiff, reduceIte], by simp (disch := first | assumption | omega) only [e54, go_sem, ↓reduceIte, Nat.reduceEqDiff, reduceIte], by simp (disch := first | assumption | omega) only [e53, go_sem, ↓reduceIte, Nat.reduceEqDiff, reduceIte], by simp (disch := first | assumption | omega) only [e0, go_sem, ↓reduceIte, reduceCtorEq, reduceIte], by simp (disch := first | assumption | omega) only [e1, go_sem, ↓reduceIte, Nat.reduceEqDiff, reduceIte], by simp (disch := first | assumption | omega) only [eh, go_sem]⟩ ?_
      clear e55 e54 e53 e0 e1 eh
      rintro d2 S ⟨j, hj, hcj, e64, e63, e62, e11, e55, e54, e53, e0, e1, eh⟩
      by_cases hlj : (j : Int) < i
      · have hj1 : j < i := by omega
        have hj2 : j < (xs.take i).length := by omega
        obtain ⟨q2, hq2, hxj⟩ := (hx.take i).at j (by rw [List.length_take]; omega)
        have hq4 := hq2.1
        rw [List.getElem_take] at hq2 hxj
        have hs := clashI_succ a i j
        have hbad := clashI_true (a := a) (i := i) (j := j) hj1
        rw [getD_at hlt1, getD_at (show j < a.length by omega)] at hs hbad
        have ra := ha2 _ (List.getElem_mem hlt1)
        have rb := ha2 _ (List.getElem_mem (show j < a.length by omega))
        generalize a[j] = r2 at *
        simp (disch := first | assumption | omega) only [e64, e63, e62, e11, hlj, hj2, hxj, go_sem, ↓reduceIte, Nat.reduceEqDiff, Nat.reduceLeDiff, Nat.reduceLT, reduceIte, Int.reduceLT, Int.reduceNeg]
        refine callG_ok (Meet_ok q1 q2 _ r2 hq1 hq2 (by omega) _) (by simp (disch := first | assumption | omega) only [go_sem]) ?_
        rintro _ _ ⟨rfl, hhh⟩
        rw [hhh]
        clear hhh
        simp (disch := first | assumption | omega) only [go_sem, ↓reduceIte, reduceIte, Int.reduceNeg]
        refine condG_if (fun h0 => ?_) fun h0 => ?_
        · have ht : touch a[i] r2 = true := by
            unfold touch
            rw [decide_eq_true_iff]; omega
          rw [if_pos (clash_true hlt1 (hbad ht))] at hv
          subst hQ
          simp (disch := first | assumption | omega) only [R.ring_Safe, eh, hv, go_sem, ↓reduceIte, Nat.reduceEqDiff, reduceIte, Int.reduceNeg]
          exact ⟨.nil, rfl, .inl rfl⟩
        · have ht : touch a[i] r2 = false := by
            unfold touch
            rw [decide_eq_false_iff_not]; omega
          rw [hcj, ht] at hs
          simp (disch := first | assumption | omega) only [e64, e63, e62, e11, e55, e54, e53, e0, e1, eh, go_sem, ↓reduceIte, Nat.reduceEqDiff, reduceCtorEq, reduceIte, Int.reduceNeg]
          exact ⟨d2 - 1, by omega, j + 1, by omega, hs, by simp⟩
      · obtain rfl : j = i := by omega
        have hs := clash_succ a j
        rw [hcl, hcj] at hs
        simp (disch := first | assumption | omega) only [e64, e63, e55, e54, e53, e0, e1, eh, hlj, go_sem, ↓reduceIte, Nat.reduceEqDiff, reduceCtorEq, reduceIte, Int.reduceNeg]
        exact ⟨d - 1, by omega, j + 1, by omega, hs, by simp⟩
    · obtain rfl : i = a.length := by omega
      rw [if_neg (by simp [hcl])] at hv
      simp (disch := first | assumption | omega) only [e55, e54, hlt, go_sem, ↓reduceIte, reduceIte, Int.reduceNeg]
      refine aw_count (fun d S => ∃ (D : List Nat) (q : Own), D.length + d = a.length ∧ D.Nodup ∧ (∀ x ∈ D, x < a.length) ∧ safeN (tch a b) a.length a.length [] = safeN (tch a b) a.length d D ∧ (q = .nil ∧ D = [] ∨ q = .app 1) ∧ S.env 14 = .lst q (nats D) ∧ S.env 0 = .lst o xs ∧ S.env 1 = .lst p ys ∧ S.heap = h) (n := a.length)
        ⟨[], .nil, by simp, List.nodup_nil, by simp, rfl, .inl ⟨rfl, rfl⟩, by simp (disch := first | assumption | omega) only [go_sem, ↓reduceIte, reduceIte]; rfl, by simp (disch := first | assumption | omega) only [e0, go_sem, ↓reduceIte, reduceCtorEq, reduceIte], by simp (disch := first | assumption | omega) only [e1, go_sem, ↓reduceIte, Nat.reduceEqDiff, reduceIte], by simp (disch := first | assumption | omega) only [eh, go_sem]⟩ ?_
      rintro d S ⟨D, q, hd, hdn, hdr, hsf, hq, e14, e0, e1, eh⟩
      have hq3 : q = .nil ∨ q = .sh ∨ ∃ z, q = .app z := by
        rcases hq with ⟨rfl, _⟩ | rfl
        · exact .inl rfl
        · exact .inr (.inr ⟨_, rfl⟩)
      obtain ⟨qt, hqt, hqt2, r1, r2, r3⟩ := own_rd (nats D) hq3
      have hnl : (nats D).length = D.length := by unfold nats ints; rw [List.length_map, List.length_map]
      by_cases hlt : D.length < a.length
      · have hlt' : ((nats D).length : Int) < xs.length := by omega
        simp (disch := first | assumption | omega) only [r1, e14, e0, hlt', go_sem, ↓reduceIte, Nat.reduceEqDiff, reduceCtorEq, reduceIte, Int.reduceNeg]
        refine aw_count (fun e S => ∃ (i : Nat), i + e = a.length ∧ S.env 82 = .int .i64 i ∧ S.env 81 = .int .i64 a.length ∧ S.env 15 = .int .i64 (encO (pickP (tch a b) a.length D i)) ∧ S.env 14 = .lst q (nats D) ∧ S.env 0 = .lst o xs ∧ S.env 1 = .lst p ys ∧ S.heap = h) (n := a.length)
          ⟨0, by omega, by simp (disch := first | assumption | omega) only [go_sem, ↓reduceIte, reduceIte, Int.reduceNeg], by simp (disch := first | assumption | omega) only [lx, go_sem, ↓reduceIte, Nat.reduceEqDiff, reduceIte, Int.reduceNeg], by simp (disch := first | assumption | omega) only [go_sem, ↓reduceIte, Nat.reduceEqDiff, reduceIte, Int.reduceNeg]; rfl, by simp (disch := first | assumption | omega) only [e14, go_sem, ↓reduceIte, Nat.reduceEqDiff, reduceIte, Int.reduceNeg], by simp (disch := first | assumption | omega) only [e0, go_sem, ↓reduceIte, reduceCtorEq, reduceIte, Int.reduceNeg], by simp (disch := first | assumption | omega) only [e1, go_sem, ↓reduceIte, Nat.reduceEqDiff, reduceIte, Int.reduceNeg], by simp (disch := first | assumption | omega) only [eh, go_sem, Int.reduceNeg]⟩ ?_
        rintro e S ⟨i, hi, e82, e81, e15, e14, e0, e1, eh⟩
        by_cases hli : (i : Int) < a.length
        · have hi1 : i < a.length := by omega
          have hi2 : i < ys.length := by omega
          obtain ⟨q2, hq2, hyi⟩ := hy.at i (by omega)
          have hq4 := hq2.1
          have hst := pickP_succ (tch a b) a.length D i
          have rb := hb2 _ (List.getElem_mem (show i < b.length by omega))
          have hfr := free_ok o q2 a xs b[i] qt i D ho hx hq2 hqt (by omega) (fun r hr => by have := ha2 r hr; omega) (by omega) (by omega)
          have htc : (fun k => touch (a.getD k []) b[i]) = tch a b i := by
            funext k
            unfold tch
            rw [getD_at (show i < b.length by omega)]
          rw [htc] at hfr
          generalize b[i] = w at *
          cases hpk : pickP (tch a b) a.length D i with
          | some k =>
            rw [hpk] at hst e15
            have hk0 : ¬ ((k : Nat) : Int) < 0 := by omega
            simp (disch := first | assumption | omega) only [e82, e81, e15, e14, e0, e1, eh, hli, encO, hk0, go_sem, ↓reduceIte, Nat.reduceEqDiff, reduceCtorEq, reduceIte, Int.reduceNeg]
            exact ⟨e - 1, by omega, i + 1, by omega, by simp, by rw [hst]⟩
          | none =>
            rw [hpk] at hst e15
            simp (disch := first | assumption | omega) only [r1, e82, e81, e15, e14, hli, encO, go_sem, ↓reduceIte, Nat.reduceEqDiff, Nat.reduceLT, reduceIte, Int.reduceLT, Int.reduceNeg]
            refine callG_ok (ContainsInt_ok qt _ _ hqt (by rw [nats_len]; omega) _) (by simp (disch := first | assumption | omega) only [go_sem]) ?_
            rintro _ _ ⟨rfl, hhh⟩
            rw [hhh, nats_mem]
            clear hhh
            cases hc : D.contains i with
            | true =>
              rw [hc] at hst
              simp (disch := first | assumption | omega) only [e82, e81, e15, e14, e0, e1, eh, encO, go_sem, ↓reduceIte, Nat.reduceEqDiff, reduceCtorEq, reduceIte, Int.reduceNeg]
              exact ⟨e - 1, by omega, i + 1, by omega, by simp, by rw [hst]; rfl⟩
            | false =>
              rw [hc] at hst
              simp (disch := first | assumption | omega) only [r1, e14, e0, e1, hi2, hyi, go_sem, ↓reduceIte, Nat.reduceEqDiff, reduceCtorEq, Nat.reduceLeDiff, Nat.reduceLT, reduceIte, Int.reduceLT, Int.reduceNeg]
              refine callG_ok (hfr _) (by simp (disch := first | assumption | omega) only [go_sem]) ?_
              rintro _ _ ⟨rfl, hhh⟩
              rw [hhh]
              clear hhh
              cases hok : okR (tch a b i) a.length i D with
              | true =>
                rw [hok] at hst
                simp (disch := first | assumption | omega) only [e82, e81, e14, e0, e1, eh, go_sem, ↓reduceIte, Nat.reduceEqDiff, reduceCtorEq, reduceIte, Int.reduceNeg]
                exact ⟨e - 1, by omega, i + 1, by omega, by simp, by rw [hst]; rfl⟩
              | false =>
                rw [hok] at hst
                simp (disch := first | assumption | omega) only [e82, e81, e15, e14, e0, e1, eh, encO, go_sem, ↓reduceIte, Nat.reduceEqDiff, reduceCtorEq, reduceIte, Int.reduceNeg]
                exact ⟨e - 1, by omega, i + 1, by omega, by simp, by rw [hst]; rfl⟩
        · obtain rfl : i = a.length := by omega
          have hpe : pickP (tch a b) a.length D a.length = pickR (tch a b) a.length D := rfl
          rw [hpe] at e15
          obtain ⟨d', rfl⟩ : ∃ d', d = d' + 1 := ⟨d - 1, by omega⟩
          have hsf2 : safeN (tch a b) a.length (d' + 1) D = (pickR (tch a b) a.length D).bind fun k => safeN (tch a b) a.length d' (D ++ [k]) := rfl
          rw [hsf2] at hsf
          cases hpk : pickR (tch a b) a.length D with
          | none =>
            rw [hpk] at e15 hsf
            rw [hsf] at hv
            simp (disch := first | assumption | omega) only [e82, e81, e15, hli, encO, go_sem, ↓reduceIte, Nat.reduceEqDiff, Nat.reduceLT, reduceIte, Int.reduceLT, Int.reduceNeg]
            subst hQ
            simp (disch := first | assumption | omega) only [R.ring_Safe, eh, hv, go_sem, ↓reduceIte, Nat.reduceEqDiff, reduceIte, Int.reduceNeg]
            exact ⟨.nil, rfl, .inl ⟨rfl, rfl⟩⟩
          | some k =>
            rw [hpk] at e15 hsf
            have hk0 : ¬ ((k : Nat) : Int) < 0 := by omega
            simp (disch := first | assumption | omega) only [e82, e81, e15, e14, e0, e1, eh, hli, encO, hk0, go_sem, ↓reduceIte, Nat.reduceEqDiff, reduceCtorEq, Nat.reduceLeDiff, reduceIte, Int.reduceMul, Int.reduceNeg, Nat.reduceMul]
            obtain ⟨k1, k2, k3⟩ := pickR_some hpk
            have hn2 := snocD hdn hdr k1 k2
            have hnat : nats D ++ [AVal.int IntKind.i64 (k : Nat)] = nats (D ++ [k]) := by simp [nats, ints]
            refine ⟨by rcases hq with ⟨rfl, rfl⟩ | rfl <;> rfl, by omega, by omega, d', by omega, D ++ [k], .app 1, by simp; omega, hn2.1, hn2.2, hsf, .inr rfl, by rw [hnat]⟩
      · obtain rfl : d = 0 := by omega
        rw [hsf] at hv
        have hv2 : V = (0, D) := hv
        subst hv2
        have hlt' : ¬ ((nats D).length : Int) < xs.length := by omega
        simp (disch := first | assumption | omega) only [r1, e14, e0, hlt', go_sem, ↓reduceIte, Nat.reduceEqDiff, reduceCtorEq, reduceIte, Int.reduceNeg]
        subst hQ
        simp (disch := first | assumption | omega) only [R.ring_Safe, eh, go_sem, ↓reduceIte, Nat.reduceEqDiff, reduceIte]
        exact ⟨q, rfl, hq⟩
end Go.Proofs.Ytpdajkbfemcdlaa
set_option linter.unusedSimpArgs false
set_option linter.unusedVariables false
set_option maxRecDepth 10000
namespace Go.Proofs.Ytpdajkbfemcdlaa
open Go.Ge Go.Sort
theorem mem_set {l : List Cell} {c : Cell} : inS (ofL 0 [] l).2 c ↔ c ∈ l := by rw [ofL_in]; simp [inS]
def setO (l : List Cell) : HObj := .map (ofL 0 [] l).1 (ents (ofL 0 [] l).2)
theorem SetO_ok (o : Own) (l : List Cell) (ho : Rdo o) (hl : l.length < 4611686018427387904) (h : List HObj) :
    ACalls Try.prog F.gantref5_SetOf [.lst o (cellsA l)] h (fun v h' => v = .map h.length ∧ h' = h ++ [setO l]) := SetOf_ok o l ho hl h
theorem touch_sets (a b : List Cell) (h : List HObj) : ACalls Try.prog F.gantref5_Set_Touches [.map h.length, .map (h.length + 1)] (h ++ [setO a, setO b]) (fun v h' => v = .bool (touch a b) ∧ h' = h ++ [setO a, setO b]) :=
  Touches_ok h.length (h.length + 1) _ _ (ofL 0 [] a).2 (ofL 0 [] b).2 (ofL_wf (WfS.nil 0)) (ofL_wf (WfS.nil 0)) _ (by rw [touch_iff]; simp only [mem_set]) _ (by simp [setO]) (by simp [setO])
theorem leastN_len {t : Nat → Nat → Bool} {N : Nat} : ∀ (n : Nat) (D r : List Nat), leastN t N n D = some r → r.length = D.length + n
  | 0, D, r, h => by cases h; rfl
  | n + 1, D, r, h => by
    unfold leastN at h
    obtain ⟨i, _, h⟩ := List.exists_of_findSome?_eq_some h
    split at h
    · cases h
    · split at h
      · have := leastN_len n _ r h
        rw [this]; simp; omega
      · cases h
def leastQ (L : Option (List Nat)) (v : AVal) : Prop := ∃ q, v = .lst q (nats (L.getD [])) ∧ Rdo q ∧ (q = .nil → L.getD [] = []) ∧ (L = none → q = .nil)
theorem least_ok (o p : Own) (a b : List (List Cell)) (xs ys : List AVal) (ho : Rdo o) (hp : Rdo p) (hx : Each2 CelOk a xs) (hy : Each2 CelOk b ys) (la : a.length ≤ 4) (lb : b.length = a.length) (ha : ∀ r ∈ a, r.length ≤ 400) (hb : ∀ r ∈ b, r.length ≤ 400) : ∀ (n : Nat) (D : List Nat) (qd : Own) (h : List HObj), D.length + n = a.length → Rdo qd → (qd = .nil → D = []) →
    ACalls Try.prog F.gantlaw5_least [.lst o xs, .lst p ys, .lst qd (nats D)] h (fun v h' => leastQ (leastN (tch a b) a.length n D) v ∧ h' = h) := by
  have lx := hx.length
  have ly := hy.length
  intro n
  induction n with
  | zero =>
    intro D qd h hD hq1 hq2
    have hnl : (nats D).length = D.length := by unfold nats ints; rw [List.length_map, List.length_map]
    have hl : ((nats D).length : Int) = xs.length := by omega
    refine ACalls.of_aw Try.func109 K.gantlaw5_least (by simp [Try.f109]) ?_
    generalize hQ : retQ R.gantlaw5_least _ = Q
    simp (disch := first | assumption | omega) only [C.gantlaw5_least, go_sem, ↓reduceIte, Nat.reduceEqDiff, reduceCtorEq, reduceIte]
    simp (disch := first | assumption | omega) only [hl, go_sem, ↓reduceIte, Nat.reduceEqDiff, reduceIte]
    subst hQ
    simp (disch := first | assumption | omega) only [R.gantlaw5_least, go_sem, ↓reduceIte, reduceIte]
    exact ⟨qd, rfl, hq1, hq2, fun h => by cases h⟩
  | succ n ih =>
    intro D qd h hD hq1 hq2
    have hnl : (nats D).length = D.length := by unfold nats ints; rw [List.length_map, List.length_map]
    have hl : ¬ ((nats D).length : Int) = xs.length := by omega
    generalize hf : (fun i => if D.contains i then none else if okR (tch a b i) a.length i D then leastN (tch a b) a.length n (D ++ [i]) else none) = f
    have hL : leastN (tch a b) a.length (n + 1) D = (List.range a.length).findSome? f := by rw [← hf]; rfl
    rw [hL]
    refine ACalls.gcn (ACalls.of_aw Try.func109 K.gantlaw5_least (by simp [Try.f109]) ?_)
    generalize hQ : retQ R.gantlaw5_least _ = Q
    simp (disch := first | assumption | omega) only [C.gantlaw5_least, go_sem, ↓reduceIte, Nat.reduceEqDiff, reduceCtorEq, reduceIte]
    simp (disch := first | assumption | omega) only [hl, go_sem, ↓reduceIte, reduceCtorEq, reduceIte]
    refine aw_count (fun d S => ∃ (i : Nat) (ext : List HObj), i + d = a.length ∧ (List.range i).findSome? f = none ∧ S.env 19 = .int .i64 i ∧ S.env 18 = .int .i64 a.length ∧ S.env 0 = .lst o xs ∧ S.env 1 = .lst p ys ∧ S.env 2 = .lst qd (nats D) ∧ S.heap = h ++ ext) (n := a.length)
      ⟨0, [], by omega, rfl, by simp (disch := first | assumption | omega) only [go_sem, ↓reduceIte, reduceIte], by simp (disch := first | assumption | omega) only [lx, go_sem, ↓reduceIte, Nat.reduceEqDiff, reduceIte], by simp (disch := first | assumption | omega) only [go_sem, ↓reduceIte, reduceCtorEq, reduceIte], by simp (disch := first | assumption | omega) only [go_sem, ↓reduceIte, Nat.reduceEqDiff, reduceIte], by simp (disch := first | assumption | omega) only [go_sem, ↓reduceIte, Nat.reduceEqDiff, reduceIte], by simp (disch := first | assumption | omega) only [List.append_nil, go_sem]⟩ ?_
    rintro d S ⟨i, ext, hi, hnone, e19, e18, e0, e1, e2, eh⟩
    by_cases hlt : (i : Int) < a.length
    · have hi1 : i < a.length := by omega
      have hfs : (List.range (i + 1)).findSome? f = f i := by
        rw [List.range_succ, List.findSome?_append, hnone]
        simp
      simp (disch := first | assumption | omega) only [e19, e18, e2, hlt, go_sem, ↓reduceIte, Nat.reduceEqDiff, reduceIte]
      refine callG_ok (ContainsInt_ok qd _ _ hq1 (by rw [nats_len]; omega) _) (by simp (disch := first | assumption | omega) only [go_sem]) ?_
      rintro _ _ ⟨rfl, hhh⟩
      rw [hhh, nats_mem]
      clear hhh
      have hfi := congrFun hf i
      cases hc : D.contains i with
      | true =>
        rw [hc, if_pos rfl] at hfi
        simp (disch := first | assumption | omega) only [e19, e18, e0, e1, e2, eh, go_sem, ↓reduceIte, Nat.reduceEqDiff, reduceCtorEq, reduceIte]
        exact ⟨d - 1, by omega, i + 1, ext, by omega, by rw [hfs, ← hfi], by simp, rfl⟩
      | false =>
        rw [hc, if_neg (by decide)] at hfi
        simp (disch := first | assumption | omega) only [e0, go_sem, ↓reduceIte, reduceCtorEq, reduceIte]
        have hi2 : i < ys.length := by omega
        obtain ⟨q2, hq2', hyi⟩ := hy.at i (by omega)
        have hq4 := hq2'.1
        have rb := hb _ (List.getElem_mem (show i < b.length by omega))
        have htc : ∀ k, tch a b i k = touch (a.getD k []) b[i] := fun k => by
          unfold tch
          rw [getD_at (show i < b.length by omega)]
        generalize b[i] = w at *
        refine aw_count (fun d S => ∃ (k : Nat) (ext : List HObj), k + d = a.length ∧ S.env 27 = .int .i64 k ∧ S.env 26 = .int .i64 a.length ∧ S.env 8 = .bool (okR (tch a b i) k i D) ∧ S.env 7 = .int .i64 i ∧ S.env 19 = .int .i64 i ∧ S.env 18 = .int .i64 a.length ∧ S.env 0 = .lst o xs ∧ S.env 1 = .lst p ys ∧ S.env 2 = .lst qd (nats D) ∧ S.heap = h ++ ext) (n := a.length)
          ⟨0, ext, by omega, by simp (disch := first | assumption | omega) only [go_sem, ↓reduceIte, reduceIte], by simp (disch := first | assumption | omega) only [lx, go_sem, ↓reduceIte, Nat.reduceEqDiff, reduceIte], by simp (disch := first | assumption | omega) only [go_sem, ↓reduceIte, Nat.reduceEqDiff, reduceIte]; rfl, by simp (disch := first | assumption | omega) only [go_sem, ↓reduceIte, Nat.reduceEqDiff, reduceIte], by simp (disch := first | assumption | omega) only [e19, go_sem, ↓reduceIte, Nat.reduceEqDiff, reduceIte], by simp (disch := first | assumption | omega) only [e18, go_sem, ↓reduceIte, Nat.reduceEqDiff, reduceIte], by simp (disch := first | assumption | omega) only [e0, go_sem, ↓reduceIte, reduceCtorEq, reduceIte], by simp (disch := first | assumption | omega) only [e1, go_sem, ↓reduceIte, Nat.reduceEqDiff, reduceIte], by simp (disch := first | assumption | omega) only [e2, go_sem, ↓reduceIte, Nat.reduceEqDiff, reduceIte], by simp (disch := first | assumption | omega) only [eh, go_sem]⟩ ?_
        clear e19 e18 e0 e1 e2 eh
        rintro d2 S ⟨k, ext, hk, e27, e26, e8, e7, e19, e18, e0, e1, e2, eh⟩
        by_cases hlk : (k : Int) < a.length
        · have hk1 : k < a.length := by omega
          have hk2 : k < xs.length := by omega
          obtain ⟨q1, hq1', hxk⟩ := hx.at k hk1
          have hq3 := hq1'.1
          have ra := ha _ (List.getElem_mem hk1)
          have hst := okR_take (tch a b i) k i D
          rw [htc, getD_at hk1] at hst
          generalize a[k] = r at *
          cases hok : okR (tch a b i) k i D with
          | false =>
            rw [hok] at hst e8
            simp (disch := first | assumption | omega) only [e27, e26, e8, e7, e19, e18, e0, e1, e2, eh, hlk, go_sem, ↓reduceIte, Nat.reduceEqDiff, reduceCtorEq, reduceIte]
            exact ⟨d2 - 1, by omega, k + 1, ext, by omega, by simp, by rw [hst]; rfl, rfl⟩
          | true =>
            rw [hok] at hst e8
            by_cases hki : k = i
            · subst hki
              have hself : (((k : Nat) : Int) = k) = True := eq_self _
              rw [show (k == k) = true by simp] at hst
              simp (disch := first | assumption | omega) only [e27, e26, e8, e7, e19, e18, e0, e1, e2, eh, hlk, go_sem, ↓reduceIte, Nat.reduceEqDiff, reduceCtorEq, reduceIte]
              exact ⟨d2 - 1, by omega, k + 1, ext, by omega, by simp, by rw [hst]; rfl, rfl⟩
            · have hki' : ¬ (k : Int) = i := by omega
              rw [show (k == i) = false by simpa using hki] at hst
              simp (disch := first | assumption | omega) only [e27, e26, e8, e7, e2, hlk, hki', go_sem, ↓reduceIte, Nat.reduceEqDiff, reduceIte]
              refine callG_ok (ContainsInt_ok qd _ _ hq1 (by rw [nats_len]; omega) _) (by simp (disch := first | assumption | omega) only [go_sem]) ?_
              rintro _ _ ⟨rfl, hhh⟩
              rw [hhh, nats_mem]
              clear hhh
              cases hck : D.contains k with
              | true =>
                rw [hck] at hst
                simp (disch := first | assumption | omega) only [e27, e26, e7, e19, e18, e0, e1, e2, eh, go_sem, ↓reduceIte, Nat.reduceEqDiff, reduceCtorEq, reduceIte]
                exact ⟨d2 - 1, by omega, k + 1, ext, by omega, by simp, by rw [hst]; rfl, rfl⟩
              | false =>
                rw [hck] at hst
                obtain ⟨H, hH⟩ : ∃ H, H = h ++ ext := ⟨_, rfl⟩
                rw [← hH] at eh
                simp (disch := first | assumption | omega) only [e7, e0, e1, hk2, hxk, hi2, hyi, go_sem, ↓reduceIte, Nat.reduceEqDiff, reduceCtorEq, Nat.reduceLeDiff, Nat.reduceLT, reduceIte, Int.reduceLT]
                refine callG_ok (SetO_ok q1 r hq3 (by omega) _) (by simp (disch := first | assumption | omega) only [go_sem]) ?_
                rintro _ _ ⟨rfl, hhh⟩
                rw [hhh]
                clear hhh
                simp (disch := first | assumption | omega) only [eh, go_sem, ↓reduceIte, Nat.reduceEqDiff, reduceIte]
                refine callG_ok (SetO_ok q2 w hq4 (by omega) _) (by simp (disch := first | assumption | omega) only [go_sem]) ?_
                rintro _ _ ⟨rfl, hhh⟩
                rw [hhh]
                clear hhh
                simp (disch := first | assumption | omega) only [rdv_map, List.length_append, List.length_singleton, go_sem, ↓reduceIte, Nat.reduceEqDiff, reduceIte]
                refine callG_ok (touch_sets r w _) (by simp (disch := first | assumption | omega) only [go_sem]) ?_
                rintro _ _ ⟨rfl, hhh⟩
                rw [hhh]
                clear hhh
                simp (disch := first | assumption | omega) only [e27, e26, e7, e19, e18, e0, e1, e2, go_sem, ↓reduceIte, Nat.reduceEqDiff, reduceCtorEq, reduceIte]
                exact ⟨d2 - 1, by omega, k + 1, _, by omega, by simp, by rw [hst]; rfl, by rw [hH, List.append_assoc]⟩
        · obtain rfl : k = a.length := by omega
          simp (disch := first | assumption | omega) only [e27, e26, e8, hlk, go_sem, ↓reduceIte, Nat.reduceEqDiff, reduceIte]
          cases hok : okR (tch a b i) a.length i D with
          | false =>
            rw [hok, if_neg (by decide)] at hfi
            simp (disch := first | assumption | omega) only [e19, e18, e0, e1, e2, eh, go_sem, ↓reduceIte, Nat.reduceEqDiff, reduceCtorEq, reduceIte]
            exact ⟨d - 1, by omega, i + 1, ext, by omega, by rw [hfs, ← hfi], by simp, rfl⟩
          | true =>
            rw [hok, if_pos rfl] at hfi
            simp (disch := first | assumption | omega) only [e0, e1, e2, go_sem, ↓reduceIte, Nat.reduceEqDiff, reduceCtorEq, reduceIte]
            refine callG_ok (CloneInt_ok qd _ ⟨hq1, fun h => by rw [hq2 h]; rfl⟩ (by rw [nats_len]; omega) _) (by simp (disch := first | assumption | omega) only [go_sem]) ?_
            rintro _ _ ⟨⟨qc, rfl, hqc⟩, hhh⟩
            rw [hhh]
            clear hhh
            have hnat : nats D ++ [AVal.int IntKind.i64 (i : Nat)] = nats (D ++ [i]) := by simp [nats, ints]
            have hnn : ints .i64 (D.map fun (n : Nat) => (n : Int)) = nats D := rfl
            rw [hnn]
            simp (disch := first | assumption | omega) only [e7, go_sem, ↓reduceIte, Nat.reduceEqDiff, Nat.reduceLeDiff, reduceIte, Int.reduceMul, Nat.reduceMul]
            refine ⟨by
              rcases hqc with ⟨rfl, h0⟩ | rfl
              · rw [← hnn, h0]; rfl
              · rfl, by omega, by omega, ?_⟩
            rw [hnat]
            refine callG_ok (ih (D ++ [i]) .sh _ (by simp; omega) (.inl rfl) (fun h => by cases h)) (by simp (disch := first | assumption | omega) only [go_sem]) ?_
            rintro _ _ ⟨⟨q, rfl, g1, g2, g3⟩, hhh⟩
            rw [hhh]
            clear hhh
            cases hres : leastN (tch a b) a.length n (D ++ [i]) with
            | none =>
              rw [hres] at hfi g3
              obtain rfl := g3 rfl
              simp (disch := first | assumption | omega) only [Option.getD_none, go_sem, ↓reduceIte, reduceIte]
              simp (disch := first | assumption | omega) only [e19, e18, e0, e1, e2, eh, aops_isnil, isnilV, go_sem, ↓reduceIte, Nat.reduceEqDiff, reduceCtorEq, reduceIte]
              exact ⟨d - 1, by omega, i + 1, ext, by omega, by rw [hfs, ← hfi], by simp, rfl⟩
            | some r =>
              rw [hres] at hfi g2
              have hrl := leastN_len n (D ++ [i]) r hres
              have hqs : q = .sh := g1.elim id fun e => by
                have h0 : r = [] := g2 e
                rw [h0, List.length_append] at hrl; simp only [List.length_nil, List.length_singleton] at hrl; omega
              subst hqs
              simp (disch := first | assumption | omega) only [Option.getD_some, go_sem, ↓reduceIte, reduceIte]
              refine aops_isnilR (o := .sh) (xs := nats r) (by simp (disch := first | assumption | omega) only [go_sem, ↓reduceIte, reduceIte]) (.inl rfl) (fun e => by cases e) fun bb hbb => ?_
              obtain rfl := hbb (fun e => by
                have h1 : (nats r).length = r.length := by unfold nats ints; rw [List.length_map, List.length_map]
                rw [e, hrl] at h1
                simp only [List.length_nil, List.length_append, List.length_singleton] at h1
                omega)
              have hfin : (List.range a.length).findSome? f = some r := by
                obtain ⟨m, hm⟩ : ∃ m, a.length = (i + 1) + m := ⟨a.length - (i + 1), by omega⟩
                rw [hm, List.range_add, List.findSome?_append, hfs, ← hfi]
                rfl
              rw [hfin] at hQ
              simp (disch := first | assumption | omega) only [go_sem, ↓reduceIte, Nat.reduceEqDiff, reduceIte]
              subst hQ
              simp (disch := first | assumption | omega) only [R.gantlaw5_least, eh, go_sem, ↓reduceIte, reduceIte]
              exact ⟨ext, rfl, by simp [AVal.ids, idsL, nats, ints_ids], .sh, rfl, .inl rfl, (fun h => by cases h), (fun h => by cases h)⟩
    · obtain rfl : i = a.length := by omega
      simp (disch := first | assumption | omega) only [e19, e18, hlt, go_sem, ↓reduceIte, reduceIte]
      subst hQ
      simp (disch := first | assumption | omega) only [R.gantlaw5_least, eh, go_sem, ↓reduceIte, reduceIte]
      exact ⟨ext, rfl, by simp [AVal.ids, idsL], .nil, by rw [hnone]; rfl, .inr rfl, fun _ => by rw [hnone]; rfl, fun _ => rfl⟩
end Go.Proofs.Ytpdajkbfemcdlaa
set_option linter.unusedSimpArgs false
set_option linter.unusedVariables false
set_option maxRecDepth 10000
namespace Go.Proofs.Ytpdajkbfemcdlaa
open Go.Ge Go.Sort
theorem arg_celss {cs : List AVal} (h : HasL [.slice 24 false [tyCells]] cs) : ∃ (o : Own) (l : List (List Cell)) (xs : List AVal), packV false cs = .lst o xs ∧ Rdn o l ∧ Each2 CelOk l xs ∧ (∀ r ∈ l, r.length * 16 ≤ reachBytes) ∧ l.length * 24 ≤ reachBytes := by
  obtain ⟨y, e, h⟩ := pack1 h
  rw [e]
  simp only [HasC] at h
  obtain ⟨o, xs, rfl, ho, _, hl, hel⟩ := h
  have key : ∀ xs : List AVal, (∀ y ∈ xs, ∃ cs, y = packV false cs ∧ HasL [tyCells] cs) → ∃ l : List (List Cell), Each2 CelOk l xs ∧ (∀ r ∈ l, r.length * 16 ≤ reachBytes) := by
    intro xs
    induction xs with
    | nil => intro _; exact ⟨[], rfl, by simp⟩
    | cons x xs ih =>
      intro h
      obtain ⟨l, h1, h2⟩ := ih fun y hy => h y (by simp [hy])
      obtain ⟨cs, e, hc⟩ := h x (by simp)
      obtain ⟨y, e', hc⟩ := pack1 hc
      obtain ⟨q, r, e1, e2, e3, e4⟩ := has_cells hc
      refine ⟨r :: l, ⟨x, xs, rfl, ⟨q, e2, by rw [e, e', e1]⟩, h1⟩, ?_⟩
      intro r' hr'
      rcases List.mem_cons.1 hr' with rfl | hr'
      · exact e4
      · exact h2 r' hr'
  obtain ⟨l, h1, h2⟩ := key xs hel
  have hlen := h1.length
  refine ⟨o, l, xs, rfl, ?_, h1, h2, by rw [← hlen]; exact hl⟩
  rcases ho with rfl | ⟨rfl, rfl⟩
  · exact ⟨.inl rfl, fun e => by cases e⟩
  · refine ⟨.inr rfl, fun _ => ?_⟩
    simp at hlen
    exact List.eq_nil_of_length_eq_zero hlen.symm
def touchB (a b : List Cell) : Bool := a.any fun c => decide (c ∈ b)
theorem touch_eq (a b : List Cell) : touch a b = touchB a b := by
  rw [Bool.eq_iff_iff, touch_iff]
  unfold touchB
  simp
theorem tch_eq (a b : List (List Cell)) : tch a b = fun i k => touchB (a.getD k []) (b.getD i []) := by
  funext i k
  unfold tch
  rw [touch_eq]
theorem safeV0 : safeV [[⟨0, 0⟩], []] [[], [⟨0, 0⟩]] = (0, [0, 1]) := by
  unfold safeV clash clashI
  rw [tch_eq]
  simp only [touch_eq]
  decide
theorem clash_end {a : List (List Cell)} {i n : Nat} (h : clash a i = true) (hn : i ≤ n) : clash a n = true := by
  unfold clash at h ⊢
  rw [List.any_eq_true] at h ⊢
  obtain ⟨x, hx, h⟩ := h
  exact ⟨x, List.mem_range.2 (by have := List.mem_range.1 hx; omega), h⟩
theorem RingSafe_law (o p : Own) (a b : List (List Cell)) (xs ys : List AVal) (ho : Rdo o) (hp : Rdo p) (hx : Each2 CelOk a xs) (hy : Each2 CelOk b ys) (la : a.length < 4611686018427387904) (lb : b.length < 4611686018427387904) (ha : ∀ r ∈ a, r.length < 4611686018427387904) (hb : ∀ r ∈ b, r.length < 4611686018427387904) :
    ACalls Try.prog F.gantlaw5_RingSafe [.lst o xs, .lst p ys] [] (fun r _ => r = .bool true) := by
  have lx := hx.length
  have ly := hy.length
  refine ACalls.of_aw Try.func25 K.gantlaw5_RingSafe (by simp [Try.f25]) ?_
  generalize hQ : retQ R.gantlaw5_RingSafe _ = Q
  simp (disch := first | assumption | omega) only [C.gantlaw5_RingSafe, go_sem, ↓reduceIte, Nat.reduceEqDiff, Nat.reduceAdd, Nat.reduceLeDiff, reduceIte, Int.reduceAdd, Int.reduceMul, Nat.reduceMul]
  refine callG_ok (Safe_ok .sh .sh [[⟨0, 0⟩], []] [[], [⟨0, 0⟩]] _ _ (.inl rfl) (.inl rfl) ⟨_, _, rfl, ⟨.sh, ⟨.inl rfl, fun h => by cases h⟩, rfl⟩, _, _, rfl, ⟨.nil, ⟨.inr rfl, fun _ => rfl⟩, rfl⟩, rfl⟩ ⟨_, _, rfl, ⟨.nil, ⟨.inr rfl, fun _ => rfl⟩, rfl⟩, _, _, rfl, ⟨.sh, ⟨.inl rfl, fun h => by cases h⟩, rfl⟩, rfl⟩ (by simp) (by simp) (by simp) (by simp) _) (by simp (disch := first | assumption | omega) only [go_sem]) ?_
  rintro _ _ ⟨⟨q, rfl, hq⟩, hhh⟩
  rw [hhh]
  clear hhh
  rw [safeV0] at hq ⊢
  obtain rfl : q = .app 1 := by
    rcases hq with ⟨_, h⟩ | h
    · cases h
    · exact h
  simp (disch := first | assumption | omega) only [go_sem, ↓reduceIte, Nat.reduceEqDiff, Nat.reduceAdd, Nat.reduceLeDiff, Nat.reduceLT, reduceIte, Int.reduceLT, Int.reduceAdd, Int.reduceMul, Nat.reduceMul]
  refine callG_ok (EqualInt_ok .sh .sh [0, 1] [0, 1] (.inl rfl) (.inl rfl) (by simp) (by simp) _) (by simp (disch := first | assumption | omega) only [go_sem]) ?_
  rintro _ _ ⟨rfl, hhh⟩
  rw [hhh, decide_eq_true rfl]
  clear hhh
  simp (disch := first | assumption | omega) only [go_sem, ↓reduceIte, Nat.reduceEqDiff, reduceCtorEq, reduceIte]
  obtain ⟨big, hbig⟩ : ∃ big : Bool, big = decide (4 < a.length ∨ b.length ≠ a.length) := ⟨_, rfl⟩
  refine aopsG_cut (fun S => S.env 7 = .int .i64 (if big = true then 2 else 0) ∧ S.env 0 = .lst o xs ∧ S.env 1 = .lst p ys) ?_ ?_
  · by_cases h4 : 4 < a.length
    · have h4' : (4 : Int) < xs.length := by omega
      have hb1 : big = true := by rw [hbig]; exact decide_eq_true (.inl h4)
      subst hb1
      simp (disch := first | assumption | omega) only [h4', go_sem, ↓reduceIte, Nat.reduceEqDiff, reduceCtorEq, reduceIte]
    · have h4' : ¬ (4 : Int) < xs.length := by omega
      by_cases h5 : b.length = a.length
      · have h5' : (ys.length : Int) = xs.length := by omega
        have hb1 : big = false := by rw [hbig]; exact decide_eq_false (by omega)
        rw [hb1]
        simp (disch := first | assumption | omega) only [h4', h5', go_sem, ↓reduceIte, Nat.reduceEqDiff, reduceCtorEq, reduceIte]
      · have h5' : ¬ (ys.length : Int) = xs.length := by omega
        have hb1 : big = true := by rw [hbig]; exact decide_eq_true (.inr h5)
        rw [hb1]
        simp (disch := first | assumption | omega) only [h4', h5', go_sem, ↓reduceIte, Nat.reduceEqDiff, reduceCtorEq, reduceIte]
  rintro S ⟨e7, e0, e1⟩
  simp (disch := first | assumption | omega) only [go_sem]
  refine aw_cutB (Pm := fun S => S.env 7 = .int .i64 (if big = true then 2 else chk a b a.length) ∧ S.env 0 = .lst o xs ∧ S.env 1 = .lst p ys) ?_ ?_
  · refine aw_count (fun d S => ∃ (i : Nat) (f : Int), i + d = a.length ∧ (big = true → f = 2) ∧ (big = false → f = chk a b i) ∧ S.env 8 = .int .i64 i ∧ S.env 7 = .int .i64 f ∧ S.env 0 = .lst o xs ∧ S.env 1 = .lst p ys) (n := a.length)
      ⟨0, if big = true then 2 else 0, by omega, fun h => by rw [h]; rfl, fun h => by rw [h]; rfl, by simp (disch := first | assumption | omega) only [go_sem, ↓reduceIte, reduceIte], by simp (disch := first | assumption | omega) only [e7, go_sem, ↓reduceIte, Nat.reduceEqDiff, reduceIte], by simp (disch := first | assumption | omega) only [e0, go_sem, ↓reduceIte, reduceCtorEq, reduceIte], by simp (disch := first | assumption | omega) only [e1, go_sem, ↓reduceIte, Nat.reduceEqDiff, reduceIte]⟩ ?_
    clear e7 e0 e1
    rintro d S ⟨i, f, hi, hf1, hf2, e8, e7, e0, e1⟩
    by_cases hlt : i < a.length
    · have hlt' : (i : Int) < xs.length := by omega
      by_cases hf0 : f = 0
      · have hb1 : big = false := by
          cases big with
          | false => rfl
          | true => have := hf1 rfl; omega
        have hck := hf2 hb1
        rw [hf0] at hck e7
        have hbl : b.length = a.length := by
          have := hbig.symm.trans hb1
          have := of_decide_eq_false this
          omega
        have hlt2 : i < xs.length := by omega
        have hlt3 : i < ys.length := by omega
        have hlt4 : i < b.length := by omega
        obtain ⟨q1, hq1, hxi⟩ := hx.at i hlt
        obtain ⟨q2, hq2, hyi⟩ := hy.at i hlt4
        have hq3 := hq1.1
        have hq4 := hq2.1
        have ra := ha _ (List.getElem_mem hlt)
        have rb := hb _ (List.getElem_mem hlt4)
        have hst : chk a b (i + 1) = if chk a b i ≠ 0 then chk a b i else if cellsFault (a.getD i []) ≠ 0 then cellsFault (a.getD i []) else cellsFault (b.getD i []) := rfl
        rw [if_neg (fun h => h hck.symm), getD_at hlt, getD_at hlt4] at hst
        generalize a[i] = r1 at *
        generalize b[i] = r2 at *
        simp (disch := first | assumption | omega) only [e8, e7, e0, hlt', hxi, go_sem, ↓reduceIte, Nat.reduceEqDiff, reduceCtorEq, Nat.reduceLeDiff, Nat.reduceLT, reduceIte, Int.reduceLT]
        refine callG_ok (CellsFault_ok q1 r1 hq3 ra _) (by simp (disch := first | assumption | omega) only [go_sem]) ?_
        rintro _ _ ⟨rfl, hhh⟩
        rw [hhh]
        clear hhh
        by_cases hf : cellsFault r1 = 0
        · rw [if_neg (fun h => h hf)] at hst
          simp (disch := first | assumption | omega) only [e8, e1, hf, hlt3, hyi, go_sem, ↓reduceIte, Nat.reduceEqDiff, Nat.reduceLeDiff, Nat.reduceLT, reduceIte, Int.reduceLT]
          refine callG_ok (CellsFault_ok q2 r2 hq4 rb _) (by simp (disch := first | assumption | omega) only [go_sem]) ?_
          rintro _ _ ⟨rfl, hhh⟩
          rw [hhh]
          clear hhh
          simp (disch := first | assumption | omega) only [e8, e0, e1, go_sem, ↓reduceIte, Nat.reduceEqDiff, reduceCtorEq, reduceIte]
          exact ⟨d - 1, by omega, i + 1, _, by omega, (fun h => by rw [hb1] at h; cases h), fun _ => hst.symm, by simp, rfl⟩
        · rw [if_pos hf] at hst
          simp (disch := first | assumption | omega) only [e8, e0, e1, hf, go_sem, ↓reduceIte, Nat.reduceEqDiff, reduceCtorEq, reduceIte]
          exact ⟨d - 1, by omega, i + 1, _, by omega, (fun h => by rw [hb1] at h; cases h), fun _ => hst.symm, by simp, rfl⟩
      · simp (disch := first | assumption | omega) only [e8, e7, e0, e1, hlt', hf0, go_sem, ↓reduceIte, Nat.reduceEqDiff, reduceCtorEq, reduceIte]
        cases hb1 : big with
        | true => rw [hf1 hb1]; rfl
        | false =>
          have h1 := hf2 hb1
          rw [chk_end (k := i) (by rw [← h1]; exact hf0) (by omega), ← h1]
          rfl
    · obtain rfl : i = a.length := by omega
      have hlt' : ¬ ((a.length : Nat) : Int) < xs.length := by omega
      simp (disch := first | assumption | omega) only [e8, e7, e0, e1, hlt', go_sem, ↓reduceIte, Nat.reduceEqDiff, reduceCtorEq, reduceIte]
      cases hb1 : big with
      | true => rw [hf1 hb1]; rfl
      | false => rw [hf2 hb1]; rfl
  rintro S ⟨e7, e0, e1⟩
  simp (disch := first | assumption | omega) only [go_sem]
  generalize hF1 : (if big = true then 2 else chk a b a.length) = F1 at *
  refine aw_cutB (Pm := fun S => S.env 7 = .int .i64 (if F1 ≠ 0 then F1 else if clash a a.length = true then 10 else 0) ∧ S.env 0 = .lst o xs ∧ S.env 1 = .lst p ys) ?_ ?_
  · refine aw_count (fun d S => ∃ (i : Nat) (f : Int), i + d = a.length ∧ (F1 ≠ 0 → f = F1) ∧ (F1 = 0 → f = if clash a i = true then 10 else 0) ∧ S.env 9 = .int .i64 i ∧ S.env 7 = .int .i64 f ∧ S.env 0 = .lst o xs ∧ S.env 1 = .lst p ys) (n := a.length)
      ⟨0, F1, by omega, fun _ => rfl, fun h => by rw [h]; rfl, by simp (disch := first | assumption | omega) only [go_sem, ↓reduceIte, reduceIte], by simp (disch := first | assumption | omega) only [e7, go_sem, ↓reduceIte, Nat.reduceEqDiff, reduceIte], by simp (disch := first | assumption | omega) only [e0, go_sem, ↓reduceIte, reduceCtorEq, reduceIte], by simp (disch := first | assumption | omega) only [e1, go_sem, ↓reduceIte, Nat.reduceEqDiff, reduceIte]⟩ ?_
    clear e7 e0 e1
    rintro d S ⟨i, f, hi, hf1, hf2, e9, e7, e0, e1⟩
    by_cases hlt : i < a.length
    · have hlt' : (i : Int) < xs.length := by omega
      by_cases hf0 : f = 0
      · have hz : F1 = 0 := Classical.byContradiction fun h => h ((hf1 h).symm.trans hf0)
        have hcl : clash a i = false := by
          have := hf2 hz
          cases h : clash a i with
          | false => rfl
          | true => rw [h, if_pos rfl] at this; omega
        rw [hf0] at e7
        have hlt2 : i < xs.length := by omega
        obtain ⟨q1, hq1, hxi⟩ := hx.at i hlt
        have hq3 := hq1.1
        have ra := ha _ (List.getElem_mem hlt)
        simp (disch := first | assumption | omega) only [e9, e7, e0, hlt', go_sem, ↓reduceIte, Nat.reduceEqDiff, reduceCtorEq, reduceIte]
        refine aw_count (fun e S => ∃ (j : Nat), j + e = i ∧ S.env 75 = .int .i64 j ∧ S.env 74 = .int .i64 i ∧ S.env 9 = .int .i64 i ∧ S.env 7 = .int .i64 (if clashI a i j = true then 10 else 0) ∧ S.env 0 = .lst o xs ∧ S.env 1 = .lst p ys) (n := i)
          ⟨0, by omega, by simp (disch := first | assumption | omega) only [go_sem, ↓reduceIte, reduceIte], by simp (disch := first | assumption | omega) only [go_sem, ↓reduceIte, Nat.reduceEqDiff, reduceIte], by simp (disch := first | assumption | omega) only [e9, go_sem, ↓reduceIte, Nat.reduceEqDiff, reduceIte], by simp (disch := first | assumption | omega) only [e7, go_sem, ↓reduceIte, Nat.reduceEqDiff, reduceIte]; rfl, by simp (disch := first | assumption | omega) only [e0, go_sem, ↓reduceIte, reduceCtorEq, reduceIte], by simp (disch := first | assumption | omega) only [e1, go_sem, ↓reduceIte, Nat.reduceEqDiff, reduceIte]⟩ ?_
        clear e9 e7 e0 e1
        rintro e S ⟨j, hj, e75, e74, e9, e7, e0, e1⟩
        by_cases hlj : (j : Int) < i
        · have hj1 : j < a.length := by omega
          have hj2 : j < xs.length := by omega
          obtain ⟨q2, hq2, hxj⟩ := hx.at j hj1
          have hq4 := hq2.1
          have rb := ha _ (List.getElem_mem hj1)
          have hs := clashI_succ a i j
          rw [getD_at hlt, getD_at hj1] at hs
          generalize a[j] = r2 at *
          simp (disch := first | assumption | omega) only [e75, e74, e9, e0, hlj, hlt2, hxi, hj2, hxj, go_sem, ↓reduceIte, Nat.reduceEqDiff, reduceCtorEq, Nat.reduceLeDiff, Nat.reduceLT, reduceIte, Int.reduceLT]
          refine callG_ok (SetO_ok q1 _ hq3 ra _) (by simp (disch := first | assumption | omega) only [go_sem]) ?_
          rintro _ _ ⟨rfl, hhh⟩
          rw [hhh]
          clear hhh
          simp (disch := first | assumption | omega) only [go_sem, ↓reduceIte, Nat.reduceEqDiff, reduceIte]
          refine callG_ok (SetO_ok q2 r2 hq4 rb _) (by simp (disch := first | assumption | omega) only [go_sem]) ?_
          rintro _ _ ⟨rfl, hhh⟩
          rw [hhh]
          clear hhh
          simp (disch := first | assumption | omega) only [rdv_map, List.length_append, List.length_singleton, go_sem, ↓reduceIte, Nat.reduceEqDiff, reduceIte]
          refine callG_ok (touch_sets a[i] r2 _) (by simp (disch := first | assumption | omega) only [go_sem]) ?_
          rintro _ _ ⟨rfl, hhh⟩
          rw [hhh]
          clear hhh
          cases ht : touch a[i] r2 with
          | true =>
            rw [ht, Bool.or_true] at hs
            simp (disch := first | assumption | omega) only [e75, e74, e9, e0, e1, go_sem, ↓reduceIte, Nat.reduceEqDiff, reduceCtorEq, reduceIte]
            exact ⟨e - 1, by omega, j + 1, by omega, by simp, by rw [hs]; rfl⟩
          | false =>
            rw [ht, Bool.or_false] at hs
            simp (disch := first | assumption | omega) only [e75, e74, e9, e7, e0, e1, go_sem, ↓reduceIte, Nat.reduceEqDiff, reduceCtorEq, reduceIte]
            exact ⟨e - 1, by omega, j + 1, by omega, by simp, by rw [hs]⟩
        · obtain rfl : j = i := by omega
          have hs := clash_succ a j
          rw [hcl] at hs
          simp (disch := first | assumption | omega) only [e75, e74, e9, e7, e0, e1, hlj, go_sem, ↓reduceIte, Nat.reduceEqDiff, reduceCtorEq, reduceIte]
          exact ⟨d - 1, by omega, j + 1, _, by omega, (fun h => absurd hz h), fun _ => by rw [hs]; rfl, by simp, rfl⟩
      · simp (disch := first | assumption | omega) only [e9, e7, e0, e1, hlt', hf0, go_sem, ↓reduceIte, Nat.reduceEqDiff, reduceCtorEq, reduceIte]
        by_cases hz : F1 = 0
        · have := hf2 hz
          have hcl : clash a i = true := by
            cases h : clash a i with
            | true => rfl
            | false => rw [h] at this; exact absurd this hf0
          rw [hcl, if_pos rfl] at this
          rw [if_neg (fun h => h hz), clash_end hcl (by omega), this]
          rfl
        · rw [if_pos hz, hf1 hz]
    · obtain rfl : i = a.length := by omega
      have hlt' : ¬ ((a.length : Nat) : Int) < xs.length := by omega
      simp (disch := first | assumption | omega) only [e9, e7, e0, e1, hlt', go_sem, ↓reduceIte, Nat.reduceEqDiff, reduceCtorEq, reduceIte]
      by_cases hz : F1 = 0
      · rw [if_neg (fun h => h hz), hf2 hz]
      · rw [if_pos hz, hf1 hz]
  clear e7 e0 e1
  rintro S ⟨e7, e0, e1⟩
  simp (disch := first | assumption | omega) only [e0, e1, go_sem, ↓reduceIte, Nat.reduceEqDiff, reduceIte]
  generalize hF2 : (if F1 ≠ 0 then F1 else if clash a a.length = true then 10 else 0) = F2 at *
  have hA : F2 ≠ 0 → safeV a b = (F2, []) := fun h => by
    unfold safeV
    cases hb1 : big with
    | true =>
      have := of_decide_eq_true (hbig.symm.trans hb1)
      rw [if_pos this]
      rw [hb1, if_pos rfl] at hF1
      rw [← hF1, if_pos (by decide)] at hF2
      rw [hF2]
    | false =>
      have := of_decide_eq_false (hbig.symm.trans hb1)
      rw [if_neg this]
      rw [hb1, if_neg (by decide)] at hF1
      by_cases h1 : F1 = 0
      · rw [if_neg (fun h => h h1)] at hF2
        rw [hF1, if_neg (fun h => h h1)]
        cases hcl : clash a a.length with
        | true => rw [hcl, if_pos rfl] at hF2; rw [if_pos rfl, hF2]
        | false => rw [hcl, if_neg (by decide)] at hF2; exact absurd hF2.symm h
      · rw [if_pos h1] at hF2
        rw [hF1, if_pos h1, hF2]
  have hB : F2 = 0 → a.length ≤ 4 ∧ b.length = a.length ∧ chk a b a.length = 0 ∧ (safeN (tch a b) a.length a.length [] = none → safeV a b = (11, [])) ∧ (∀ r, safeN (tch a b) a.length a.length [] = some r → safeV a b = (0, r)) := fun h => by
    rw [h] at hF2
    have h1 : F1 = 0 := Classical.byContradiction fun h1 => by rw [if_pos h1] at hF2; exact h1 hF2
    rw [if_neg (fun h => h h1)] at hF2
    have hb1 : big = false := by
      cases hb1 : big with
      | true => rw [hb1, if_pos rfl] at hF1; omega
      | false => rfl
    have hb2 := of_decide_eq_false (hbig.symm.trans hb1)
    rw [hb1, if_neg (by decide), h1] at hF1
    refine ⟨by omega, by omega, hF1, fun hR => ?_, fun r hR => ?_⟩ <;>
    · unfold safeV
      rw [if_neg hb2, hF1, if_neg (fun h => h rfl), if_neg (fun h => by rw [h, if_pos rfl] at hF2; cases hF2), hR]
  refine callG_ok (Safe_ok o p a b xs ys ho hp hx hy la lb ha hb _) (by simp (disch := first | assumption | omega) only [go_sem]) ?_
  rintro _ _ ⟨⟨q, rfl, hq⟩, hhh⟩
  rw [hhh]
  clear hhh
  by_cases hz : F2 = 0
  case neg =>
    rw [hA hz] at hq ⊢
    have hn0 : nats [] = [] := rfl
    rcases hq with ⟨rfl, _⟩ | rfl
    · simp (disch := first | assumption | omega) only [e7, hz, hn0, go_sem, ↓reduceIte, Nat.reduceEqDiff, Nat.reduceAdd, Nat.reduceLT, reduceIte, Int.reduceLT, Int.reduceAdd]
      subst hQ
      simp (disch := first | assumption | omega) only [R.gantlaw5_RingSafe, go_sem, ↓reduceIte, reduceIte]
    · simp (disch := first | assumption | omega) only [e7, hz, hn0, go_sem, ↓reduceIte, Nat.reduceEqDiff, Nat.reduceAdd, Nat.reduceLT, reduceIte, Int.reduceLT, Int.reduceAdd]
      subst hQ
      simp (disch := first | assumption | omega) only [R.gantlaw5_RingSafe, go_sem, ↓reduceIte, reduceIte]
  obtain ⟨z1, z2, z3, z4, z5⟩ := hB hz
  subst hz
  have ha4 : ∀ r ∈ a, r.length ≤ 400 := fun r hr => by
    obtain ⟨k, hk, rfl⟩ := List.mem_iff_getElem.1 hr
    have := (chk_all z3 k hk).1
    rw [getD_at hk] at this
    exact (fault_up this).1
  have hb4 : ∀ r ∈ b, r.length ≤ 400 := fun r hr => by
    obtain ⟨k, hk, rfl⟩ := List.mem_iff_getElem.1 hr
    have := (chk_all z3 k (by omega)).2
    rw [getD_at hk] at this
    exact (fault_up this).1
  have hls := least_safe (t := tch a b) (N := a.length) a.length [] List.nodup_nil (by simp) (by simp)
  have hle := fun h => least_ok o p a b xs ys ho hp hx hy z1 z2 ha4 hb4 a.length [] .nil h (by simp) (.inr rfl) (fun _ => rfl)
  rw [hls] at hle
  have hn0 : nats [] = [] := rfl
  rw [hn0] at hle
  cases hR : safeN (tch a b) a.length a.length [] with
  | none =>
    have hpos : 0 < a.length := by
      refine Nat.pos_of_ne_zero fun h0 => ?_
      rw [h0] at hR; cases hR
    have hpos' : (0 : Int) < xs.length := by omega
    rw [z4 hR] at hq ⊢
    rw [hR] at hle
    rcases hq with ⟨rfl, _⟩ | rfl <;>
    · simp (disch := first | assumption | omega) only [e7, e0, e1, hn0, go_sem, ↓reduceIte, Nat.reduceEqDiff, reduceCtorEq, Nat.reduceAdd, Nat.reduceLT, reduceIte, Int.reduceLT, Int.reduceAdd]
      refine callG_ok (hle _) (by simp (disch := first | assumption | omega) only [go_sem]) ?_
      rintro _ _ ⟨⟨qb, rfl, g1, g2, g3⟩, hhh⟩
      rw [hhh]
      clear hhh
      obtain rfl := g3 rfl
      simp (disch := first | assumption | omega) only [e0, hn0, Option.getD_none, aops_isnil, isnilV, hpos', go_sem, ↓reduceIte, Nat.reduceEqDiff, reduceCtorEq, reduceIte]
      subst hQ
      simp (disch := first | assumption | omega) only [R.gantlaw5_RingSafe, go_sem, ↓reduceIte, reduceIte]
  | some r =>
    rw [z5 r hR] at hq ⊢
    rw [hR] at hle
    have hrl := safeN_len a.length [] r hR
    have hnr : (nats r).length = r.length := by unfold nats ints; rw [List.length_map, List.length_map]
    have hq3 : q = .nil ∨ q = .sh ∨ ∃ z, q = .app z := by
      rcases hq with ⟨rfl, _⟩ | rfl
      · exact .inl rfl
      · exact .inr (.inr ⟨_, rfl⟩)
    obtain ⟨qt, hqt, hqt2, r1, r2, r3⟩ := own_rd (nats r) hq3
    simp (disch := first | assumption | omega) only [e7, e0, e1, r2, go_sem, ↓reduceIte, Nat.reduceEqDiff, reduceCtorEq, Nat.reduceAdd, Nat.reduceLT, reduceIte, Int.reduceLT, Int.reduceAdd]
    refine callG_ok (hle _) (by simp (disch := first | assumption | omega) only [go_sem]) ?_
    rintro _ _ ⟨⟨qb, rfl, g1, g2, g3⟩, hhh⟩
    rw [hhh]
    clear hhh
    simp (disch := first | assumption | omega) only [Option.getD_some, go_sem, ↓reduceIte, reduceIte]
    refine aops_isnilR (o := qb) (xs := nats r) (by simp (disch := first | assumption | omega) only [go_sem, ↓reduceIte, reduceIte]) g1 (fun h => by rw [show r = [] from g2 h]; rfl) fun bb hbb => ?_
    have hbl : bb = true → ¬ (0 : Int) < xs.length := fun h1 h2 => by
      have := hbb (fun e => by rw [e] at hnr; simp only [List.length_nil] at hnr hrl; omega)
      rw [h1] at this; cases this
    have heq := fun h => EqualInt_ok qt qb (r.map fun (n : Nat) => (n : Int)) (r.map fun (n : Nat) => (n : Int)) hqt g1 (by rw [nats_len]; simp only [List.length_nil] at hrl; omega) (by rw [nats_len]; simp only [List.length_nil] at hrl; omega) h
    cases bb with
    | true =>
      have hbf := hbl rfl
      simp (disch := first | assumption | omega) only [e0, hbf, go_sem, ↓reduceIte, Nat.reduceEqDiff, reduceCtorEq, reduceIte]
      refine callG_ok (heq _) (by simp (disch := first | assumption | omega) only [go_sem]) ?_
      rintro _ _ ⟨rfl, hhh⟩
      rw [hhh, decide_eq_true rfl]
      clear hhh
      simp (disch := first | assumption | omega) only [go_sem, ↓reduceIte, Nat.reduceEqDiff, reduceIte]
      subst hQ
      simp (disch := first | assumption | omega) only [R.gantlaw5_RingSafe, go_sem, ↓reduceIte, reduceIte]
    | false =>
      simp (disch := first | assumption | omega) only [go_sem, ↓reduceIte, Nat.reduceEqDiff, reduceIte]
      refine callG_ok (heq _) (by simp (disch := first | assumption | omega) only [go_sem]) ?_
      rintro _ _ ⟨rfl, hhh⟩
      rw [hhh, decide_eq_true rfl]
      clear hhh
      simp (disch := first | assumption | omega) only [go_sem, ↓reduceIte, Nat.reduceEqDiff, reduceIte]
      subst hQ
      simp (disch := first | assumption | omega) only [R.gantlaw5_RingSafe, go_sem, ↓reduceIte, reduceIte]
end Go.Proofs.Ytpdajkbfemcdlaa
