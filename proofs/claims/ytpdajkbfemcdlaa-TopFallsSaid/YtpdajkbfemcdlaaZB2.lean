import Derived.Test.YtpdajkbfemcdlaaZB1
/- Contracts: streams; cells that are made. -/
set_option linter.unusedSimpArgs false
set_option linter.unusedVariables false
set_option maxRecDepth 10000
namespace Go.Proofs.Ytpdajkbfemcdlaa
open Go.Ge
theorem Next_ok (id : Nat) (o : Own) (l : List Int) (n : Int) (ho : Rdo o) (hl : ∀ c ∈ l, inI64 c) (hn : inI64 n) (h : List HObj) (hid : h[id]? = some (.cells [.lst o (ints .i64 l)])) :
    ACalls Try.prog F.gantmake_Stream_Next [.hp id 0, .int .i64 n] h (fun v h' => ∃ (x : Int) (o' : Own) (l' : List Int), v = .int .i64 x ∧ 0 ≤ x ∧ (1 ≤ n → x < n) ∧ Rdo o' ∧ (∀ c ∈ l', inI64 c) ∧ h' = h.set id (.cells [.lst o' (ints .i64 l')])) := by
  have hidl : id < h.length := (List.getElem?_eq_some_iff.1 hid).1
  unfold inI64 at hn
  refine ACalls.of_aw Try.func161 K.gantmake_Stream_Next (by simp [Try.f161]) ?_
  generalize hQ : retQ R.gantmake_Stream_Next _ = Q
  simp (disch := first | assumption | omega) only [C.gantmake_Stream_Next, go_sem, ↓reduceIte, reduceCtorEq, Nat.reduceLeDiff, reduceIte]
  by_cases h0 : l.length = 0
  · have h0' : ((l.length : Nat) : Int) = 0 := by omega
    simp (disch := first | assumption | omega) only [hid, eq_true h0', go_sem, ↓reduceIte, Nat.reduceEqDiff, Nat.reduceLT, reduceIte, Int.reduceLT]
    subst hQ
    simp (disch := first | assumption | omega) only [R.gantmake_Stream_Next, go_sem, ↓reduceIte, reduceIte]
    exact ⟨0, o, l, rfl, by omega, fun h => by omega, ho, hl, (set_same hid).symm⟩
  have h0' : ¬ ((l.length : Nat) : Int) = 0 := by omega
  by_cases h1 : n < 1
  · simp (disch := first | assumption | omega) only [hid, h0', h1, go_sem, ↓reduceIte, Nat.reduceEqDiff, Nat.reduceLT, reduceIte, Int.reduceLT]
    subst hQ
    simp (disch := first | assumption | omega) only [R.gantmake_Stream_Next, go_sem, ↓reduceIte, reduceIte]
    exact ⟨0, o, l, rfl, by omega, fun h => by omega, ho, hl, (set_same hid).symm⟩
  have c0 : at_ (ints .i64 l) 0 = .int .i64 (l.getD 0 0) := at_ints' l 0 (by omega)
  have hx : inI64 (l.getD 0 0) := by rw [getD_get (by omega)]; exact hl _ (List.getElem_mem _)
  have l0 : (0 : Int) < l.length := by omega
  have l1 : (1 : Int) ≤ l.length := by omega
  have hs : List.take (l.length - Int.toNat 1) (List.drop (Int.toNat 1) (ints .i64 l)) = ints .i64 (l.drop 1) := by
    have := take_all (ints .i64 l) (Int.toNat 1)
    rw [← ints_drop]; rwa [ints_length] at this
  have hset : ∀ x, (h.set id x)[id]? = some x := fun x => List.getElem?_set_self hidl
  rcases ho with rfl | rfl
  all_goals
    simp (disch := first | assumption | omega) only [hid, h0', h1, c0, l0, l1, hs, go_sem, ↓reduceIte, Nat.reduceEqDiff, reduceCtorEq, Nat.reduceLeDiff, Nat.reduceLT, reduceIte, Int.reduceLT, Int.reduceLE]
    refine ⟨⟨Nat.le_refl _, ints_width l⟩, ?_⟩
    refine callG_ok (Below_ok (l.getD 0 0) n hx (by omega) (by omega) _) (by simp (disch := first | assumption | omega) only [go_sem]) ?_
    rintro _ _ ⟨rfl, hhh⟩
    rw [hhh]
    clear hhh
    have m1 := Int.emod_nonneg (l.getD 0 0) (b := n) (by omega)
    have m2 := Int.emod_lt_of_pos (l.getD 0 0) (b := n) (by omega)
    simp (disch := first | assumption | omega) only [go_sem, ↓reduceIte, reduceIte]
    subst hQ
    simp (disch := first | assumption | omega) only [R.gantmake_Stream_Next, go_sem, ↓reduceIte, reduceIte]
    exact ⟨_, _, l.drop 1, rfl, m1, fun _ => m2, .inl rfl, fun c hc => hl c (List.mem_of_mem_drop hc), rfl⟩
theorem cellsA_width (l : List Cell) : ∀ x ∈ cellsA l, x.width = 2 := by
  intro x hx; obtain ⟨c, _, rfl⟩ := List.mem_map.1 hx; rfl
theorem thaw_cells {C : CallS} {Q : AExit → AState → Prop} {S : AState} {a : ACode} {s cap : Nat} {cs : List Cell} (he : S.env s = .lst (.uniq 2 cap) (cellsA cs)) (hn : cs.length ≤ cap)
    (hK : aw C a Q (({ S with heap := S.heap ++ [.cells (flatC cs ++ List.replicate ((cap - cs.length) * 2) .junk)] } : AState).set s (.ref S.heap.length 0 cs.length cap))) : aw C (.thaw s a) Q S := by
  rw [aw_thaw, he]
  have e : (cellsA cs).length = cs.length := by simp [cellsA]
  simp only [e, flatC_cells]
  refine ⟨by omega, fun x hx => ⟨cellsA_width cs x hx, ?_⟩, hn, hK⟩
  obtain ⟨c, _, rfl⟩ := List.mem_map.1 hx; rfl
theorem thaw_nil {C : CallS} {Q : AExit → AState → Prop} {S : AState} {a : ACode} {s : Nat} {xs : List AVal} (he : S.env s = .lst .nil xs) (hK : aw C a Q S) : aw C (.thaw s a) Q S := by
  rw [aw_thaw, he]; exact hK
theorem own_cells {C : CallS} {Q : AExit → AState → Prop} {S : AState} {a : ACode} {s id cap : Nat} {cs : List Cell} {rest : List AVal} (he : S.env s = .ref id 0 cs.length cap) (hh : S.heap[id]? = some (.cells (flatC cs ++ rest))) (hc : cs.length ≤ cap) (h0 : cap ≠ 0) (hr : rest.length = (cap - cs.length) * 2)
    (hK : aw C a Q (({ S with heap := S.heap.set id .dead } : AState).set s (.lst (.uniq 2 cap) (cellsA cs)))) : aw C (.own s true 2 a) Q S := by
  have e : (cellsA cs).length = cs.length := by simp [cellsA]
  refine own_flat (id := id) (cap := cap) (xs := cellsA cs) (rest := rest) (by rw [e]; exact he) (by rw [flatC_cells]; exact hh) (by rw [e]; exact hc) (by rw [e]; exact hr) (by omega) (cellsA_width cs) (fun _ x hx => ?_) (fun h => by cases h) (fun h => by cases h) (fun x hx c hc => ?_) ?_
  · obtain ⟨c, _, rfl⟩ := List.mem_map.1 hx; exact ⟨_, rfl⟩
  · obtain ⟨y, _, rfl⟩ := List.mem_map.1 hx
    simp only [cellA, AVal.cells, List.mem_cons, List.not_mem_nil, or_false] at hc
    rcases hc with rfl | rfl <;> exact ⟨rfl, rfl⟩
  · rintro hp (⟨_, h⟩ | ⟨rfl, _⟩)
    · exact absurd h h0
    · exact hK
theorem rdcInt {k : IntKind} {n : Int} : Ge.rdc (.int k n) = .int k n := rfl
theorem flatC_rdc (cs : List Cell) : (flatC cs).map Ge.rdc = flatC cs := by
  induction cs with
  | nil => rfl
  | cons c l ih =>
    have e : flatC (c :: l) = [.int .i64 c.X, .int .i64 c.Y] ++ flatC l := rfl
    rw [e, List.map_append, ih]; rfl
theorem flatC_take {cs : List Cell} {rest : List AVal} : (flatC cs ++ rest).take (cs.length * 2) = flatC cs := by
  rw [← flatC_length, List.take_left]
theorem flatC_push {cs : List Cell} {cap : Nat} {c : Cell} (h : cs.length < cap) : fillV (flatC cs ++ List.replicate ((cap - cs.length) * 2) .junk) (cs.length * 2) [.int .i64 c.X, .int .i64 c.Y] = flatC (cs ++ [c]) ++ List.replicate ((cap - (cs.length + 1)) * 2) .junk := by
  unfold fillV
  rw [flatC_take, flatC_append]
  have e : (flatC cs ++ List.replicate ((cap - cs.length) * 2) AVal.junk).drop (cs.length * 2 + [AVal.int .i64 c.X, AVal.int .i64 c.Y].length) = List.replicate ((cap - (cs.length + 1)) * 2) .junk := by
    rw [← List.drop_drop, ← flatC_length, List.drop_left, List.drop_replicate]; congr 1; simp; omega
  rw [e]; rfl
theorem hb1 (cs : List Cell) (h : ∀ c ∈ cs, -4 ≤ c.X ∧ c.X ≤ 3 ∧ -4 ≤ c.Y ∧ c.Y ≤ 3) {x y : Int} (u : Unit) (x0 : 0 ≤ x) (x8 : x < 8) (y0 : 0 ≤ y) (y8 : y < 8) : ∀ c ∈ cs ++ [⟨x - 4, y - 4⟩], -4 ≤ c.X ∧ c.X ≤ 3 ∧ -4 ≤ c.Y ∧ c.Y ≤ 3 := by
  intro c hc
  rcases List.mem_append.1 hc with hc | hc
  · exact h c hc
  · have := List.mem_singleton.1 hc
    subst this
    exact ⟨by show -4 ≤ x - 4; omega, by show x - 4 ≤ 3; omega, by show -4 ≤ y - 4; omega, by show y - 4 ≤ 3; omega⟩
theorem cells_ids (l : List Cell) : idsL (cellsA l) = 0 := by
  induction l with
  | nil => rfl
  | cons c l ih =>
    have e : cellsA (c :: l) = cellA c :: cellsA l := rfl
    rw [e]; simp [idsL, ih, cellA, AVal.ids]
/-- Cells that are held alone, or none. -/
def Held (v : AVal) (cs : List Cell) : Prop := v = .lst .nil [] ∧ cs = [] ∨ ∃ cap, v = .lst (.uniq 2 cap) (cellsA cs) ∧ cs.length ≤ cap ∧ 0 < cap
theorem MadeCells_ok (o : Own) (l : List Int) (ho : Rdo o) (hl : ∀ c ∈ l, inI64 c) (h : List HObj) :
    ACalls Try.prog F.gantmake_Cells [.lst o (ints .i64 l)] h (fun v h' => (∃ cs : List Cell, cs.length ≤ 8 ∧ (∀ c ∈ cs, -4 ≤ c.X ∧ c.X ≤ 3 ∧ -4 ≤ c.Y ∧ c.Y ≤ 3) ∧ (v = .lst .nil [] ∧ cs = [] ∨ v = .lst (.app 2) (cellsA cs))) ∧ h' = h) := by
  refine ACalls.gcn (ACalls.of_aw Try.func111 K.gantmake_Cells (by simp [Try.f111]) ?_)
  generalize hQ : retQ R.gantmake_Cells _ = Q
  simp (disch := first | assumption | omega) only [C.gantmake_Cells, go_sem, ↓reduceIte, Nat.reduceEqDiff, reduceCtorEq, Nat.reduceLeDiff, reduceIte]
  refine callG_ok (Next_ok h.length o l 9 ho hl (by simp [inI64]) _ (by simp (disch := first | assumption | omega) only [go_sem, ↓reduceIte, reduceIte])) (by simp (disch := first | assumption | omega) only [go_sem]) ?_
  rintro _ _ ⟨n, o1, l1, rfl, n0, n9, ho1, hl1, rfl⟩
  have n9 := n9 (by omega)
  obtain ⟨m, rfl⟩ := Int.eq_ofNat_of_zero_le n0
  simp (disch := first | assumption | omega) only [go_sem, ↓reduceIte, reduceIte]
  refine aw_count (fun d S => ∃ (k : Nat) (o' : Own) (l' : List Int) (cs : List Cell) (ext : List HObj), k + d = m ∧ S.env 11 = .int .i64 k ∧ S.env 10 = .int .i64 m ∧ S.env 3 = .hp h.length 0 ∧ Held (S.env 4) cs ∧ cs.length ≤ k ∧ (∀ c ∈ cs, -4 ≤ c.X ∧ c.X ≤ 3 ∧ -4 ≤ c.Y ∧ c.Y ≤ 3) ∧ Rdo o' ∧ (∀ c ∈ l', inI64 c) ∧ S.heap = h ++ .cells [.lst o' (ints .i64 l')] :: ext) (n := m)
    ⟨0, o1, l1, [], [], by omega, by simp (disch := first | assumption | omega) only [go_sem, ↓reduceIte, reduceIte], by simp (disch := first | assumption | omega) only [go_sem, ↓reduceIte, Nat.reduceEqDiff, reduceIte], by simp (disch := first | assumption | omega) only [go_sem, ↓reduceIte, Nat.reduceEqDiff, reduceIte], .inl ⟨by simp (disch := first | assumption | omega) only [go_sem, ↓reduceIte, Nat.reduceEqDiff, reduceIte], rfl⟩, by simp, by simp, ho1, hl1, by simp (disch := first | assumption | omega) only [go_sem]⟩ ?_
  rintro d S ⟨k, o', l', cs, ext, hk, e11, e10, e3, e4, hcs, hcb, ho', hl', eh⟩
  simp (disch := first | assumption | omega) only [e11, e10, go_sem, ↓reduceIte, reduceIte, Int.reduceNeg]
  refine condG_if (fun hlt => ?_) fun hge => ?_
  · simp (disch := first | assumption | omega) only [e3, go_sem, ↓reduceIte, Nat.reduceEqDiff, reduceIte, Int.reduceNeg]
    refine callG_ok (Next_ok h.length o' l' 8 ho' hl' (by simp [inI64]) _ (by simp (disch := first | assumption | omega) only [eh, go_sem])) (by simp (disch := first | assumption | omega) only [go_sem]) ?_
    rintro _ _ ⟨x, o2, l2, rfl, x0, x8, ho2, hl2, rfl⟩
    have x8 := x8 (by omega)
    simp (disch := first | assumption | omega) only [e3, eh, go_sem, ↓reduceIte, Nat.reduceEqDiff, reduceIte, Int.reduceNeg]
    refine callG_ok (Next_ok h.length o2 l2 8 ho2 hl2 (by simp [inI64]) _ (by simp (disch := first | assumption | omega) only [go_sem])) (by simp (disch := first | assumption | omega) only [go_sem]) ?_
    rintro _ _ ⟨y, o3, l3, rfl, y0, y8, ho3, hl3, rfl⟩
    have y8 := y8 (by omega)
    simp (disch := first | assumption | omega) only [go_sem, ↓reduceIte, Nat.reduceEqDiff, Nat.reduceAdd, Nat.reduceLeDiff, reduceIte, Int.reduceAdd, Int.reduceNeg]
    rcases e4 with ⟨e4, rfl⟩ | ⟨cap, e4, hcap, h0⟩
    · refine thaw_nil (xs := []) (by simp (disch := first | assumption | omega) only [e4, go_sem, ↓reduceIte, Nat.reduceEqDiff, reduceIte]) ?_
      simp (disch := first | assumption | omega) only [e4, go_sem, ↓reduceIte, Nat.reduceEqDiff, Nat.reduceAdd, Nat.reduceLeDiff, reduceIte, Int.reduceAdd, Int.reduceNeg]
      refine callG_ok (ContainsCell_ok .nil [] ⟨x - 4, y - 4⟩ (.inr rfl) (by simp) _) (by simp (disch := first | assumption | omega) only [go_sem]) ?_
      rintro _ _ ⟨rfl, hhh⟩
      rw [hhh]
      clear hhh
      rw [show decide ((⟨x - 4, y - 4⟩ : Cell) ∈ ([] : List Cell)) = false from by simp]
      simp (disch := first | assumption | omega) only [e4, aops_hop, hstep, srcH, srcW, growV, List.flatMap_cons, List.flatMap_nil, AVal.cells, rdcInt, go_sem, ↓reduceIte, Nat.reduceEqDiff, reduceCtorEq, Nat.reduceAdd, Nat.reduceLeDiff, reduceIte, Int.reduceAdd, Int.reduceMul, Int.reduceNeg, Nat.reduceMul]
      refine fun _ cap hc => ?_
      refine own_cells (cs := [⟨x - 4, y - 4⟩]) (cap := cap) (rest := List.replicate ((cap - 1) * 2) .junk) (id := h.length + (ext.length + 1)) (by simp (disch := first | assumption | omega) only [go_sem, ↓reduceIte, reduceIte]) (by simp (disch := first | assumption | omega) only [go_sem]; rfl) (by simp; omega) (by omega) (by simp) ?_
      simp (disch := first | assumption | omega) only [e11, e10, e3, go_sem, ↓reduceIte, Nat.reduceEqDiff, reduceIte, Int.reduceNeg]
      refine ⟨d - 1, by omega, k + 1, o3, l3, [⟨x - 4, y - 4⟩], ext ++ [.dead], by omega, by simp, .inr ⟨cap, rfl, by simp; omega, by omega⟩, by simp, hb1 [] (by simp) () x0 x8 y0 y8, ho3, hl3, rfl⟩
    · refine thaw_cells (cs := cs) (cap := cap) (by simp (disch := first | assumption | omega) only [e4, go_sem, ↓reduceIte, Nat.reduceEqDiff, reduceIte]) hcap ?_
      simp (disch := first | assumption | omega) only [go_sem, ↓reduceIte, Nat.reduceEqDiff, Nat.reduceAdd, Nat.reduceLeDiff, reduceIte, Int.reduceAdd, Int.reduceNeg]
      refine callG_ok (ContainsCellR_ok cs ⟨x - 4, y - 4⟩ _ cap _ _ (by simp (disch := first | assumption | omega) only [go_sem]; rfl) (by omega)) (by simp (disch := first | assumption | omega) only [go_sem]) ?_
      rintro _ _ ⟨rfl, hhh⟩
      rw [hhh]
      clear hhh
      by_cases hin : (⟨x - 4, y - 4⟩ : Cell) ∈ cs
      · rw [decide_eq_true hin]
        simp (disch := first | assumption | omega) only [go_sem, ↓reduceIte, reduceIte, Int.reduceNeg]
        refine own_cells (cs := cs) (cap := cap) (rest := List.replicate ((cap - cs.length) * 2) .junk) (id := h.length + (ext.length + 1)) (by simp (disch := first | assumption | omega) only [go_sem, ↓reduceIte, Nat.reduceEqDiff, reduceIte]) (by simp (disch := first | assumption | omega) only [go_sem]) hcap (by omega) (by simp) ?_
        simp (disch := first | assumption | omega) only [e11, e10, e3, go_sem, ↓reduceIte, Nat.reduceEqDiff, reduceIte, Int.reduceNeg]
        refine ⟨d - 1, by omega, k + 1, o3, l3, cs, ext ++ [.dead], by omega, by simp, .inr ⟨cap, rfl, hcap, h0⟩, by omega, hcb, ho3, hl3, rfl⟩
      · rw [decide_eq_false hin]
        have hpush := fun h1 => flatC_push (cs := cs) (cap := cap) (c := ⟨x - 4, y - 4⟩) h1
        simp (disch := first | assumption | omega) only [aops_hop, hstep, srcH, srcW, growV, List.flatMap_cons, List.flatMap_nil, AVal.cells, rdcInt, flatC_take, go_sem, ↓reduceIte, Nat.reduceEqDiff, reduceCtorEq, Nat.reduceAdd, Nat.reduceLeDiff, reduceIte, Int.reduceAdd, Int.reduceMul, Int.reduceNeg, Nat.reduceMul]
        refine ⟨by omega, by omega, fun _ h1 => ⟨by rw [flatC_length, List.length_replicate]; omega, ?_⟩, fun _ h1 => ?_⟩
        · rw [hpush (by omega)]
          refine own_cells (cs := cs ++ [⟨x - 4, y - 4⟩]) (cap := cap) (rest := List.replicate ((cap - (cs.length + 1)) * 2) .junk) (id := h.length + (ext.length + 1)) (by simp (disch := first | assumption | omega) only [go_sem, ↓reduceIte, reduceIte]) (by simp (disch := first | assumption | omega) only [go_sem]) (by simp; omega) (by omega) (by simp) ?_
          simp (disch := first | assumption | omega) only [e11, e10, e3, go_sem, ↓reduceIte, Nat.reduceEqDiff, reduceIte, Int.reduceNeg]
          refine ⟨d - 1, by omega, k + 1, o3, l3, cs ++ [⟨x - 4, y - 4⟩], ext ++ [.dead], by omega, by simp, .inr ⟨cap, rfl, by simp; omega, h0⟩, by simp; omega, hb1 cs hcb () x0 x8 y0 y8, ho3, hl3, rfl⟩
        · have hsr : (if cs.length = 0 then some (0, []) else if cs.length * 2 ≤ (flatC cs).length + (List.replicate ((cap - cs.length) * 2) AVal.junk).length then some (cs.length, List.map Ge.rdc (flatC cs)) else none) = some (cs.length, flatC cs) := by
            by_cases hz : cs.length = 0
            · rw [if_pos hz, List.eq_nil_of_length_eq_zero hz]; rfl
            · rw [if_neg hz, if_pos (by rw [flatC_length]; omega), flatC_rdc]
          rw [hsr]
          refine fun cap2 hc2 => ?_
          refine own_cells (cs := cs ++ [⟨x - 4, y - 4⟩]) (cap := cap2) (rest := List.replicate ((cap2 - (cs.length + 1)) * 2) .junk) (id := h.length + (ext.length + 1 + 1)) (by simp (disch := first | assumption | omega) only [go_sem, ↓reduceIte, reduceIte]) (by simp (disch := first | assumption | omega) only [flatC_append, go_sem]; rfl) (by simp; omega) (by omega) (by simp) ?_
          simp (disch := first | assumption | omega) only [e11, e10, e3, go_sem, ↓reduceIte, Nat.reduceEqDiff, reduceIte, Int.reduceNeg]
          refine ⟨d - 1, by omega, k + 1, o3, l3, cs ++ [⟨x - 4, y - 4⟩], _, by omega, by simp, .inr ⟨cap2, rfl, by simp; omega, by omega⟩, by simp; omega, hb1 cs hcb () x0 x8 y0 y8, ho3, hl3, rfl⟩
  · rcases e4 with ⟨e4, rfl⟩ | ⟨cap, e4, hcap, h0⟩
    · refine thaw_nil (xs := []) (by simp (disch := first | assumption | omega) only [e4, go_sem, ↓reduceIte, Nat.reduceEqDiff, reduceIte]) ?_
      simp (disch := first | assumption | omega) only [e4, go_sem, ↓reduceIte, Nat.reduceEqDiff, reduceIte]
      refine callG_ok (SortNil_ok F.gantmake_Cells_1 _) (by simp (disch := first | assumption | omega) only [go_sem]) ?_
      rintro _ _ ⟨rfl, hhh⟩
      rw [hhh]
      clear hhh
      simp (disch := first | assumption | omega) only [go_sem]
      refine own_nil (xs := []) (by simp (disch := first | assumption | omega) only [e4, go_sem, ↓reduceIte, Nat.reduceEqDiff, reduceIte]) ?_
      rw [aw_grab]
      simp (disch := first | assumption | omega) only [e4, go_sem, ↓reduceIte, Nat.reduceEqDiff, reduceIte]
      subst hQ
      simp (disch := first | assumption | omega) only [R.gantmake_Cells, eh, go_sem, ↓reduceIte, reduceIte, Int.reduceNeg]
      exact ⟨.cells [.lst o' (ints .i64 l')] :: ext, rfl, by simp [AVal.ids, idsL], [], by simp, by simp, .inl rfl⟩
    · refine thaw_cells (cs := cs) (cap := cap) (by simp (disch := first | assumption | omega) only [e4, go_sem, ↓reduceIte, Nat.reduceEqDiff, reduceIte]) hcap ?_
      simp (disch := first | assumption | omega) only [eh, go_sem, ↓reduceIte, reduceIte]
      refine callG_ok (SortSmall_ok F.gantmake_Cells_1 cs _ cap (List.replicate ((cap - cs.length) * 2) .junk) _ (by simp (disch := first | assumption | omega) only [go_sem]) (by omega) cmpMade_ok) (by simp (disch := first | assumption | omega) only [go_sem]) ?_
      rintro _ _ ⟨rfl, cs', hc1, hc2, rfl⟩
      simp (disch := first | assumption | omega) only [go_sem]
      rw [← hc1]
      refine own_cells (cs := cs') (cap := cap) (rest := List.replicate ((cap - cs'.length) * 2) .junk) (id := h.length + (ext.length + 1)) (by simp (disch := first | assumption | omega) only [go_sem, ↓reduceIte, Nat.reduceEqDiff, reduceIte]) (by simp (disch := first | assumption | omega) only [go_sem]) (by omega) (by omega) (by simp) ?_
      rw [aw_grab]
      simp (disch := first | assumption | omega) only [go_sem, ↓reduceIte, reduceIte]
      subst hQ
      simp (disch := first | assumption | omega) only [R.gantmake_Cells, go_sem, ↓reduceIte, reduceIte, Int.reduceNeg]
      exact ⟨.cells [.lst o' (ints .i64 l')] :: (ext ++ [.dead]), rfl, by simp [AVal.ids, cells_ids], cs', by omega, fun c hc => hcb c (hc2 c hc), .inr rfl⟩
end Go.Proofs.Ytpdajkbfemcdlaa
/- Contracts: sets of cells: joined, sorted. -/
set_option linter.unusedSimpArgs false
set_option linter.unusedVariables false
set_option maxRecDepth 10000
namespace Go.Proofs.Ytpdajkbfemcdlaa
open Go.Ge Go.Sort
theorem GrowCell_ok (n : Nat) (hn : n ≤ 65536) (h : List HObj) :
    ACalls Try.prog F.slices_Grow_Cell [.lst .nil [], .int .i64 n] h (fun r h' => (r = .lst .nil [] ∧ n = 0 ∨ ∃ cap, 0 < n ∧ n ≤ cap ∧ r = .lst (.uniq 2 cap) []) ∧ h' = h) := by
  refine ACalls.gcn (ACalls.of_aw Try.func229 K.slices_Grow_Cell (by simp [Try.f229]) ?_)
  generalize hQ : retQ R.slices_Grow_Cell _ = Q
  simp (disch := first | assumption | omega) only [C.slices_Grow_Cell, go_sem, ↓reduceIte, Nat.reduceEqDiff, reduceIte]
  have h0 : ¬ ((n : Int) < 0) := by omega
  simp (disch := first | assumption | omega) only [h0, go_sem, ↓reduceIte, Nat.reduceEqDiff, reduceCtorEq, reduceIte]
  refine condG_if (fun hgt => ?_) fun hle => ?_
  · have hn0 : ¬ (n : Int) = 0 := by omega
    simp (disch := first | assumption | omega) only [hn0, go_sem, ↓reduceIte, Nat.reduceEqDiff, reduceCtorEq, reduceIte, Int.reduceLE]
    refine ⟨by omega, by omega, fun _ cap hc => ?_⟩
    refine own_empty (id := h.length) (off := 0) (cap := cap) (by simp (disch := first | assumption | omega) only [go_sem, ↓reduceIte, reduceIte]) (fun _ => ⟨List.replicate (cap * 2) .junk, by simp (disch := first | assumption | omega) only [go_sem], by simp⟩) (fun h => by cases h) (by omega) ?_
    rintro hp hhp
    simp (disch := first | assumption | omega) only [go_sem]
    subst hQ
    simp (disch := first | assumption | omega) only [R.slices_Grow_Cell, go_sem, ↓reduceIte, reduceIte]
    have hc' : n ≤ cap := by omega
    rcases hhp with ⟨rfl, _⟩ | ⟨rfl, _⟩
    · exact ⟨[.cells (List.replicate (cap * 2) .junk)], by simp (disch := first | assumption | omega) only [go_sem], by simp [AVal.ids, idsL], .inr ⟨cap, by omega, hc', rfl⟩⟩
    · exact ⟨[.dead], by simp (disch := first | assumption | omega) only [go_sem], by simp [AVal.ids, idsL], .inr ⟨cap, by omega, hc', rfl⟩⟩
  · simp (disch := first | assumption | omega) only [go_sem, ↓reduceIte, reduceCtorEq, reduceIte]
    refine own_nil (xs := []) (by simp (disch := first | assumption | omega) only [go_sem, ↓reduceIte, reduceIte]) ?_
    simp (disch := first | assumption | omega) only [go_sem]
    subst hQ
    simp (disch := first | assumption | omega) only [R.slices_Grow_Cell, go_sem, ↓reduceIte, reduceIte]
    exact ⟨[], by simp, by simp [AVal.ids, idsL], .inl (by omega)⟩
theorem flatC_app {A B : List Cell} {cap : Nat} (h : A.length + B.length ≤ cap) : fillV (flatC A ++ List.replicate ((cap - A.length) * 2) .junk) (A.length * 2) (flatC B) = flatC (A ++ B) ++ List.replicate ((cap - (A.length + B.length)) * 2) .junk := by
  unfold fillV
  rw [flatC_take, flatC_append]
  have e : (flatC A ++ List.replicate ((cap - A.length) * 2) AVal.junk).drop (A.length * 2 + (flatC B).length) = List.replicate ((cap - (A.length + B.length)) * 2) .junk := by
    rw [List.drop_append, List.drop_of_length_le (by rw [flatC_length]; omega), List.nil_append, List.drop_replicate, flatC_length, flatC_length]
    congr 1; omega
  rw [e]
theorem flatC_srcH (l : List Cell) : ((cellsA l).flatMap AVal.cells).map Ge.rdc = flatC l := by rw [flatC_cells, flatC_rdc]
def CellsOk (l : List Cell) (v : AVal) : Prop := ∃ q, Rdn q l ∧ v = .lst q (cellsA l)
theorem lenSumC_take {L : List (List Cell)} {i : Nat} (h : i < L.length) : (L.take (i + 1)).flatten = (L.take i).flatten ++ L[i] := by
  rw [List.take_add_one, List.getElem?_eq_getElem h, List.flatten_append]; simp only [Option.toList, List.flatten_cons, List.flatten_nil, List.append_nil]
theorem lenSumC_le {L : List (List Cell)} {i : Nat} : (L.take i).flatten.length ≤ L.flatten.length := by
  have := congrArg List.flatten (List.take_append_drop i L)
  rw [List.flatten_append] at this
  rw [← this, List.length_append]; omega
theorem ConcatCell_ok (o : Own) (L : List (List Cell)) (xs : List AVal) (ho : Rdo o) (hx : Each2 CellsOk L xs) (hne : 0 < L.length) (hl : L.length ≤ 65536) (hb : L.flatten.length ≤ 65536) (h : List HObj) :
    ACalls Try.prog F.slices_Concat_Cell [.lst o xs] h (fun r h' => r = .ref 0 0 0 0 ∧ L.flatten = [] ∧ h' = h ∨ ∃ cap, L.flatten ≠ [] ∧ r = .ref h.length 0 L.flatten.length cap ∧ L.flatten.length ≤ cap ∧ h' = h ++ [.cells (flatC L.flatten ++ List.replicate ((cap - L.flatten.length) * 2) .junk)]) := by
  have lx := hx.length
  refine ACalls.of_aw Try.func205 K.slices_Concat_Cell (by simp [Try.f205]) ?_
  generalize hQ : retQ R.slices_Concat_Cell _ = Q
  simp (disch := first | assumption | omega) only [C.slices_Concat_Cell, go_sem, ↓reduceIte, reduceCtorEq, reduceIte]
  refine aw_count (fun d S => ∃ (i : Nat), i + d = L.length ∧ S.env 11 = .int .i64 i ∧ S.env 10 = .int .i64 L.length ∧ S.env 9 = .lst o xs ∧ S.env 0 = .lst o xs ∧ S.env 3 = .int .i64 (L.take i).flatten.length ∧ S.heap = h) (n := L.length) ⟨0, by simp [go_sem, lx, rdv_o ho]⟩ ?_
  rintro d S ⟨i, hi, e11, e10, e9, e0, e3, eh⟩
  simp (disch := first | assumption | omega) only [e11, e10, go_sem, ↓reduceIte, reduceIte]
  have hle := @lenSumC_le L i
  refine condG_if (fun hlt => ?_) fun hge => ?_
  · have hlt1 : i < L.length := by omega
    have hlt2 : i < xs.length := by omega
    have hs := lenSumC_take hlt1
    have hle2 := @lenSumC_le L (i + 1)
    have hs2 := congrArg List.length hs
    rw [List.length_append] at hs2
    obtain ⟨q, hq, hxi⟩ := hx.at i hlt1
    have hq1 := hq.1
    simp (disch := first | assumption | omega) only [e11, e9, e3, hlt2, hxi, go_sem, ↓reduceIte, Nat.reduceEqDiff, Nat.reduceLeDiff, Nat.reduceLT, reduceIte, Int.reduceLT]
    have h0 : ¬ (((L.take i).flatten.length : Int) + (L[i].length : Int) < 0) := by omega
    simp (disch := first | assumption | omega) only [e11, e10, e9, e0, eh, h0, go_sem, ↓reduceIte, Nat.reduceEqDiff, reduceCtorEq, reduceIte]
    exact ⟨d - 1, by omega, i + 1, by omega, by simp, by rw [hs]; simp⟩
  · obtain rfl : i = L.length := by omega
    rw [List.take_length] at e3
    simp (disch := first | assumption | omega) only [e3, go_sem, ↓reduceIte, Nat.reduceEqDiff, reduceIte]
    refine callG_ok (GrowCell_ok L.flatten.length hb _) (by simp (disch := first | assumption | omega) only [go_sem]) ?_
    rintro r _ ⟨hr, hhh⟩
    rw [hhh]
    clear hhh
    rcases hr with ⟨rfl, hz⟩ | ⟨cap, hpos, hcap, rfl⟩
    · simp (disch := first | assumption | omega) only [go_sem, ↓reduceIte, reduceIte]
      refine thaw_nil (xs := []) (by simp (disch := first | assumption | omega) only [go_sem, ↓reduceIte, reduceIte]) ?_
      simp (disch := first | assumption | omega) only [e0, go_sem, ↓reduceIte, reduceCtorEq, reduceIte]
      refine aw_count (fun d S => ∃ (i : Nat), i + d = L.length ∧ S.env 27 = .int .i64 i ∧ S.env 26 = .int .i64 L.length ∧ S.env 25 = .lst o xs ∧ (S.env 6 = .lst .nil [] ∧ i = 0 ∨ S.env 6 = .ref 0 0 0 0) ∧ S.heap = h) (n := L.length) ⟨0, by omega, by simp (disch := first | assumption | omega) only [go_sem, ↓reduceIte, reduceIte], by simp (disch := first | assumption | omega) only [lx, go_sem, ↓reduceIte, Nat.reduceEqDiff, reduceIte], by simp (disch := first | assumption | omega) only [go_sem, ↓reduceIte, Nat.reduceEqDiff, reduceIte], .inl ⟨by simp (disch := first | assumption | omega) only [go_sem, ↓reduceIte, Nat.reduceEqDiff, reduceIte], rfl⟩, by simp (disch := first | assumption | omega) only [eh, go_sem]⟩ ?_
      clear e11 e10 e9 e0 e3 eh
      rintro d S ⟨i, hi, e27, e26, e25, e6, eh⟩
      simp (disch := first | assumption | omega) only [e27, e26, go_sem, ↓reduceIte, reduceIte]
      refine condG_if (fun hlt => ?_) fun hge => ?_
      · have hlt1 : i < L.length := by omega
        have hlt2 : i < xs.length := by omega
        obtain ⟨p, hp, hxi⟩ := hx.at i hlt1
        have hp1 := hp.1
        have hLi : L[i] = [] := List.eq_nil_of_length_eq_zero (by
          have hs2 := congrArg List.length (lenSumC_take hlt1)
          have := @lenSumC_le L (i + 1)
          rw [List.length_append] at hs2
          omega)
        rw [hLi] at hxi
        rcases e6 with ⟨e6, h0⟩ | e6
        · simp (disch := first | assumption | omega) only [e27, e26, e25, eh, e6, hlt2, hxi, aops_hop, hstep, srcH, srcW, go_sem, ↓reduceIte, Nat.reduceEqDiff, reduceCtorEq, Nat.reduceLeDiff, Nat.reduceLT, reduceIte, Int.reduceLT]
          exact ⟨by simp [cellsA], ⟨d - 1, by omega, i + 1, by omega, by simp, .inr trivial⟩, fun h => absurd rfl h⟩
        · simp (disch := first | assumption | omega) only [e27, e26, e25, eh, e6, hlt2, hxi, aops_hop, hstep, srcH, srcW, go_sem, ↓reduceIte, Nat.reduceEqDiff, reduceCtorEq, Nat.reduceLeDiff, Nat.reduceLT, reduceIte, Int.reduceLT]
          exact ⟨by simp [cellsA], ⟨d - 1, by omega, i + 1, by omega, by simp, .inr trivial⟩, fun h => absurd rfl h⟩
      · rcases e6 with ⟨e6, h0⟩ | e6
        · omega
        · simp (disch := first | assumption | omega) only [e6, go_sem, ↓reduceIte, Nat.reduceEqDiff, reduceIte]
          subst hQ
          simp (disch := first | assumption | omega) only [R.slices_Concat_Cell, eh, go_sem, ↓reduceIte, reduceIte]
          exact .inl (List.eq_nil_of_length_eq_zero hz)
    · simp (disch := first | assumption | omega) only [go_sem, ↓reduceIte, reduceIte]
      refine thaw_cells (cs := []) (cap := cap) (by simp (disch := first | assumption | omega) only [go_sem, ↓reduceIte, reduceIte]; rfl) (by simp) ?_
      simp (disch := first | assumption | omega) only [e0, eh, go_sem, ↓reduceIte, reduceCtorEq, reduceIte]
      refine aw_count (fun d S => ∃ (i : Nat), i + d = L.length ∧ S.env 27 = .int .i64 i ∧ S.env 26 = .int .i64 L.length ∧ S.env 25 = .lst o xs ∧ S.env 6 = .ref h.length 0 (L.take i).flatten.length cap ∧ S.heap = h ++ [.cells (flatC (L.take i).flatten ++ List.replicate ((cap - (L.take i).flatten.length) * 2) .junk)]) (n := L.length) ⟨0, by omega, by simp (disch := first | assumption | omega) only [go_sem, ↓reduceIte, reduceIte], by simp (disch := first | assumption | omega) only [lx, go_sem, ↓reduceIte, Nat.reduceEqDiff, reduceIte], by simp (disch := first | assumption | omega) only [go_sem, ↓reduceIte, Nat.reduceEqDiff, reduceIte], by simp (disch := first | assumption | omega) only [go_sem, ↓reduceIte, Nat.reduceEqDiff, reduceIte]; rfl, by simp (disch := first | assumption | omega) only [go_sem]; rfl⟩ ?_
      clear e11 e10 e9 e0 e3 eh
      rintro d S ⟨i, hi, e27, e26, e25, e6, eh⟩
      simp (disch := first | assumption | omega) only [e27, e26, go_sem, ↓reduceIte, reduceIte]
      refine condG_if (fun hlt => ?_) fun hge => ?_
      · have hlt1 : i < L.length := by omega
        have hlt2 : i < xs.length := by omega
        obtain ⟨p, hp, hxi⟩ := hx.at i hlt1
        have hp1 := hp.1
        have hs2 := congrArg List.length (lenSumC_take hlt1)
        have hle2 := @lenSumC_le L (i + 1)
        rw [List.length_append] at hs2
        have happ := flatC_app (A := (L.take i).flatten) (B := L[i]) (cap := cap) (by omega)
        simp (disch := first | assumption | omega) only [e27, e26, e25, e6, eh, hlt2, hxi, aops_hop, hstep, srcH, srcW, flatC_srcH, go_sem, ↓reduceIte, Nat.reduceEqDiff, Nat.reduceLeDiff, Nat.reduceLT, reduceIte, Int.reduceLT]
        have hLeq := lenSumC_take hlt1
        refine ⟨cellsA_width _, by omega, by omega, fun hz => ⟨d - 1, by omega, i + 1, by omega, by simp, by rw [hLeq, List.eq_nil_of_length_eq_zero hz, List.append_nil], by rw [hLeq, List.eq_nil_of_length_eq_zero hz, List.append_nil]⟩, fun hz hc => ⟨by rw [flatC_length, List.length_replicate]; omega, d - 1, by omega, i + 1, by omega, by simp, by rw [hLeq, List.length_append], by rw [happ, hLeq, List.length_append]⟩, fun hz hc => absurd hc (by omega)⟩
      · obtain rfl : i = L.length := by omega
        rw [List.take_length] at e6 eh
        simp (disch := first | assumption | omega) only [e6, go_sem, ↓reduceIte, Nat.reduceEqDiff, reduceIte]
        subst hQ
        simp (disch := first | assumption | omega) only [R.slices_Concat_Cell, eh, go_sem, ↓reduceIte, reduceIte]
        exact .inr ⟨cap, by intro e; rw [e] at hpos; simp at hpos, rfl, hcap, rfl⟩
end Go.Proofs.Ytpdajkbfemcdlaa
/- Contracts: sets of cells: neighbours that are equal. -/
set_option linter.unusedSimpArgs false
set_option linter.unusedVariables false
set_option maxRecDepth 10000
namespace Go.Proofs.Ytpdajkbfemcdlaa
open Go.Ge Go.Sort
theorem dedupA_cons2 (c d : Cell) (r : List Cell) : dedupA (c :: d :: r) = if c = d then dedupA (d :: r) else c :: dedupA (d :: r) := rfl
theorem dedupA_snoc (x y : Cell) : ∀ p : List Cell, dedupA (p ++ [x, y]) = if x = y then dedupA (p ++ [x]) else dedupA (p ++ [x]) ++ [y]
  | [] => by
    show dedupA [x, y] = if x = y then [x] else [x] ++ [y]
    rw [dedupA_cons2]
    split
    · rename_i h; rw [h]; rfl
    · rfl
  | [c] => by
    have ih := dedupA_snoc x y []
    show dedupA (c :: x :: [y]) = if x = y then dedupA (c :: [x]) else dedupA (c :: [x]) ++ [y]
    by_cases h1 : c = x <;> by_cases h2 : x = y <;> simp [h1, h2, dedupA]
  | c :: d :: r => by
    have ih := dedupA_snoc x y (d :: r)
    show dedupA (c :: d :: (r ++ [x, y])) = if x = y then dedupA (c :: d :: (r ++ [x])) else dedupA (c :: d :: (r ++ [x])) ++ [y]
    rw [dedupA_cons2, dedupA_cons2, show dedupA (d :: (r ++ [x, y])) = _ from ih]
    by_cases h1 : c = d <;> by_cases h2 : x = y <;> simp [h1, h2]
theorem dedupA_take {l : List Cell} {m : Nat} (h : m + 1 < l.length) : dedupA (l.take (m + 2)) = if l[m] = l[m + 1] then dedupA (l.take (m + 1)) else dedupA (l.take (m + 1)) ++ [l[m + 1]] := by
  have e1 : l.take (m + 1) = l.take m ++ [l[m]] := by rw [List.take_add_one, List.getElem?_eq_getElem (by omega)]; rfl
  have e2 : l.take (m + 2) = l.take m ++ [l[m], l[m + 1]] := by
    rw [List.take_add_one (i := m + 1), e1, List.getElem?_eq_getElem h, List.append_assoc]; rfl
  rw [e2, e1, dedupA_snoc]
theorem dedupA_take' {l : List Cell} {a b : Nat} (hb : b < l.length) (ha : a + 1 = b) : dedupA (l.take (b + 1)) = if l[a] = l[b] then dedupA (l.take b) else dedupA (l.take b) ++ [l[b]] := by
  subst ha
  exact dedupA_take hb
theorem set_take {X : List Cell} {K : Nat} (h : K < X.length) (c : Cell) : (X.set K c).take (K + 1) = X.take K ++ [c] := by
  rw [List.take_add_one, List.getElem?_set_self h, List.take_set, List.set_eq_of_length_le (by rw [List.length_take]; omega)]; rfl
theorem flatC_fill {D E : List Cell} {rest zs : List AVal} : fillV (flatC (D ++ E) ++ rest) (D.length * 2) zs = flatC D ++ (zs ++ (flatC (D ++ E) ++ rest).drop (D.length * 2 + zs.length)) := by
  unfold fillV
  rw [flatC_append, List.append_assoc (flatC D), flatC_take, List.append_assoc]
theorem repC_len2 (n : Nat) (a b : AVal) : (repC n [a, b]).length = n * 2 := by
  unfold repC
  simp [List.length_flatten]
theorem cell_dec (a b : Cell) : (decide (a.X = b.X) && decide (a.Y = b.Y)) = decide (a = b) := by
  cases a; cases b; simp only [Cell.mk.injEq]; rw [Bool.decide_and]
/-- A short slice is given back. -/
theorem CompactShort_ok (id off n cap : Nat) (hn : n < 2) (h : List HObj) :
    ACalls Try.prog F.slices_Compact_Cell [.ref id off n cap] h (fun v h' => v = .ref id off n cap ∧ h' = h) := by
  refine ACalls.of_aw Try.func206 K.slices_Compact_Cell (by simp [Try.f206]) ?_
  generalize hQ : retQ R.slices_Compact_Cell _ = Q
  simp (disch := first | assumption | omega) only [C.slices_Compact_Cell, go_sem, ↓reduceIte, reduceCtorEq, reduceIte]
  have h0 : (n : Int) < 2 := by omega
  simp (disch := first | assumption | omega) only [h0, go_sem, ↓reduceIte, reduceCtorEq, reduceIte]
  subst hQ
  simp (disch := first | assumption | omega) only [R.slices_Compact_Cell, go_sem, ↓reduceIte, reduceIte]
theorem Compact_ok (l : List Cell) (id cap : Nat) (rest : List AVal) (h : List HObj) (hid : h[id]? = some (.cells (flatC l ++ rest))) (hn : l.length ≤ 65536) (hc : l.length ≤ cap) :
    ACalls Try.prog F.slices_Compact_Cell [.ref id 0 l.length cap] h (fun v h' => v = .ref id 0 (dedupA l).length cap ∧ ∃ rest', rest'.length + (dedupA l).length * 2 = rest.length + l.length * 2 ∧ h' = h.set id (.cells (flatC (dedupA l) ++ rest'))) := by
  have hidl : id < h.length := (List.getElem?_eq_some_iff.1 hid).1
  by_cases hs : l.length < 2
  · refine ACalls.mono (CompactShort_ok id 0 l.length cap hs h) ?_
    rintro v h' ⟨rfl, rfl⟩
    have e : dedupA l = l := by
      match l, hs with
      | [], _ => rfl
      | [c], _ => rfl
      | _ :: _ :: _, h => simp at h; omega
    rw [e]
    exact ⟨rfl, rest, rfl, by rw [set_same hid]⟩
  have hget : ∀ z, (h.set id z)[id]? = some z := fun z => List.getElem?_set_self hidl
  have hl2 := flatC_length l
  refine ACalls.of_aw Try.func206 K.slices_Compact_Cell (by simp [Try.f206]) ?_
  generalize hQ : retQ R.slices_Compact_Cell _ = Q
  simp (disch := first | assumption | omega) only [C.slices_Compact_Cell, go_sem, ↓reduceIte, reduceCtorEq, reduceIte]
  have h0 : ¬((l.length : Int) < 2) := by omega
  simp (disch := first | assumption | omega) only [h0, go_sem]
  refine aw_count (fun n S => ∃ (k : Nat), n = l.length - k ∧ k + 1 ≤ l.length ∧ S.env 3 = .int .i64 (k + 1 : Nat) ∧ S.env 0 = .ref id 0 l.length cap ∧ dedupA (l.take (k + 1)) = l.take (k + 1) ∧ S.heap = h) (n := l.length)
    ⟨0, by omega, by omega, by simp (disch := first | assumption | omega) only [go_sem, ↓reduceIte, reduceIte]; simp, by simp (disch := first | assumption | omega) only [go_sem, ↓reduceIte, reduceCtorEq, reduceIte], ?_, by simp (disch := first | assumption | omega) only [go_sem]⟩ ?_
  · cases l with
    | nil => rfl
    | cons c l => rfl
  rintro n S ⟨k, rfl, hk, e3, e0, hdd, eh⟩
  by_cases hlt : ((k + 1 : Nat) : Int) < l.length
  · have q1 := flatC_get (l := l) (j := k + 1) (rest := rest) (by omega)
    have q2 := flatC_get (l := l) (j := k) (rest := rest) (by omega)
    have hk1 : (((k + 1 : Nat) : Int) - 1).toNat = k := by omega
    have hk2 : (((k + 1 : Nat) : Int)).toNat = k + 1 := by omega
    have hk3 : (0 : Int) ≤ ((k + 1 : Nat) : Int) - 1 := by omega
    have hk4 : ((k + 1 : Nat) : Int) - 1 < l.length := by omega
    have hll : (flatC l ++ rest).length = l.length * 2 + rest.length := by rw [List.length_append, flatC_length]
    simp (disch := first | assumption | omega) only [e3, e0, eh, hlt, hid, q1, q2, hk1, hk2, hk3, hk4, hll, go_sem, ↓reduceIte, Nat.reduceEqDiff, reduceCtorEq, Nat.reduceLeDiff, reduceIte]
    repeat (refine And.intro ?_ ?_; omega)
    rw [cell_dec]
    by_cases he : l[k + 1] = l[k]
    · have hdd2 : dedupA (l.take (k + 2)) = l.take (k + 1) := by rw [dedupA_take (by omega), if_pos he.symm, hdd]
      simp (disch := first | assumption | omega) only [e3, e0, he, go_sem, ↓reduceIte, Nat.reduceEqDiff, reduceCtorEq, reduceIte]
      refine ⟨⟨by omega, by omega⟩, ?_⟩
      refine aw_count (fun n S => ∃ (q : Nat) (X : List Cell), n = l.length - (k + 1 + (q + 1)) ∧ k + 1 + (q + 1) ≤ l.length ∧ X.length = l.length ∧ (dedupA (l.take (k + (q + 1) + 1))).length ≤ k + (q + 1) ∧ X.take (dedupA (l.take (k + (q + 1) + 1))).length = dedupA (l.take (k + (q + 1) + 1)) ∧ (∀ j, k + (q + 1) ≤ j → X[j]? = l[j]?) ∧ S.env 3 = .int .i64 (dedupA (l.take (k + (q + 1) + 1))).length ∧ S.env 5 = .int .i64 (q + 1 : Nat) ∧ S.env 4 = .ref id ((k + 1) * 2) (l.length - (k + 1)) (cap - (k + 1)) ∧ S.env 0 = .ref id 0 l.length cap ∧ S.heap = h.set id (.cells (flatC X ++ rest))) (n := l.length - (k + 1 + (0 + 1)))
        ⟨0, l, rfl, by omega, rfl, by rw [hdd2, List.length_take]; omega, by rw [hdd2]; simp, fun j _ => rfl, by rw [hdd2]; simp (disch := first | assumption | omega) only [e3, go_sem, ↓reduceIte, Nat.reduceEqDiff, reduceIte]; rw [List.length_take, Nat.min_eq_left hk], by simp (disch := first | assumption | omega) only [go_sem, ↓reduceIte, reduceIte]; simp, by simp (disch := first | assumption | omega) only [go_sem, ↓reduceIte, Nat.reduceEqDiff, reduceIte], by simp (disch := first | assumption | omega) only [e0, go_sem, ↓reduceIte, reduceCtorEq, reduceIte], by simp (disch := first | assumption | omega) only [eh, go_sem]; rw [set_same hid]⟩ ?_
      clear e3 e0 eh q1 q2 hk1 hk2 hk3 hk4 hdd hdd2 he
      rintro n S ⟨q, X, rfl, hq, hX, hKm, hXK, hXl, e3, e5, e4, e0, eh⟩
      have hllX : (flatC X ++ rest).length = l.length * 2 + rest.length := by rw [List.length_append, flatC_length, hX]
      by_cases hlq : ((q + 1 : Nat) : Int) < ((l.length - (k + 1) : Nat) : Int)
      · have hlq2 : k + 1 + (q + 1) < l.length := by omega
        have hXa := hXl (k + 1 + (q + 1)) (by omega)
        have hXb := hXl (k + 1 + q) (by omega)
        rw [List.getElem?_eq_getElem (by omega), List.getElem?_eq_getElem hlq2, Option.some.injEq] at hXa
        rw [List.getElem?_eq_getElem (by omega), List.getElem?_eq_getElem (by omega), Option.some.injEq] at hXb
        have q1 := flatC_get (l := X) (j := k + 1 + (q + 1)) (rest := rest) (by omega)
        have q2 := flatC_get (l := X) (j := k + 1 + q) (rest := rest) (by omega)
        rw [hXa, show (k + 1 + (q + 1)) * 2 = (k + 1) * 2 + (q + 1) * 2 by omega] at q1
        rw [hXb, show (k + 1 + q) * 2 = (k + 1) * 2 + q * 2 by omega] at q2
        have hk1 : (((q + 1 : Nat) : Int) - 1).toNat = q := by omega
        have hk2 : (((q + 1 : Nat) : Int)).toNat = q + 1 := by omega
        have hk3 : (0 : Int) ≤ ((q + 1 : Nat) : Int) - 1 := by omega
        have hk4 : ((q + 1 : Nat) : Int) - 1 < ((l.length - (k + 1) : Nat) : Int) := by omega
        have hstep2 : dedupA (l.take (k + (q + 1 + 1) + 1)) = if l[k + 1 + q] = l[k + 1 + (q + 1)] then dedupA (l.take (k + (q + 1) + 1)) else dedupA (l.take (k + (q + 1) + 1)) ++ [l[k + 1 + (q + 1)]] := by
          have := dedupA_take' (l := l) (a := k + 1 + q) (b := k + 1 + (q + 1)) hlq2 (by omega)
          rw [show k + (q + 1 + 1) + 1 = k + 1 + (q + 1) + 1 by omega, show k + (q + 1) + 1 = k + 1 + (q + 1) by omega]
          exact this
        generalize hD : dedupA (l.take (k + (q + 1) + 1)) = D at *
        simp (disch := first | assumption | omega) only [e5, e4, eh, hlq, hget, hllX, q1, q2, hk1, hk2, hk3, hk4, go_sem, ↓reduceIte, Nat.reduceEqDiff, Nat.reduceLeDiff, reduceIte]
        repeat (refine And.intro ?_ ?_; omega)
        rw [cell_dec]
        by_cases he : l[k + 1 + (q + 1)] = l[k + 1 + q]
        · rw [if_pos he.symm] at hstep2
          simp (disch := first | assumption | omega) only [e3, e5, e4, e0, eh, he, go_sem, ↓reduceIte, Nat.reduceEqDiff, reduceCtorEq, reduceIte]
          exact ⟨l.length - (k + 1 + (q + 1 + 1)), by omega, q + 1, X, rfl, by omega, hX, by rw [hstep2]; omega, by rw [hstep2]; exact hXK, fun j hj => hXl j (by omega), by rw [hstep2], by simp, rfl⟩
        · rw [if_neg (fun e => he e.symm)] at hstep2
          have s1 := flatC_set (l := X) (j := D.length) (rest := rest) (c := l[k + 1 + (q + 1)]) (by omega)
          simp (disch := first | assumption | omega) only [e3, e5, e4, e0, eh, he, hget, hllX, q1, hk2, s1, hlq, List.set_set, go_sem, ↓reduceIte, Nat.reduceEqDiff, reduceCtorEq, Nat.reduceAdd, Nat.reduceLeDiff, reduceIte, Int.reduceAdd]
          repeat (refine And.intro ?_ ?_; omega)
          exact ⟨l.length - (k + 1 + (q + 1 + 1)), by omega, q + 1, X.set D.length l[k + 1 + (q + 1)], rfl, by omega, by simp [hX], by rw [hstep2]; simp; omega, by rw [hstep2, List.length_append, List.length_singleton, set_take (by omega), hXK], fun j hj => by rw [List.getElem?_set_ne (by omega)]; exact hXl j (by omega), by rw [hstep2]; simp, by simp, rfl⟩
      · generalize hD : dedupA (l.take (k + (q + 1) + 1)) = D at *
        have hkq : k + (q + 1) + 1 = l.length := by omega
        rw [hkq, List.take_length] at hD
        have hXs : X = D ++ X.drop D.length := by rw [← hXK]; rw [List.length_take]; rw [Nat.min_eq_left (by omega)]; exact (List.take_append_drop _ _).symm
        simp (disch := first | assumption | omega) only [e3, e5, e4, e0, eh, hlq, hget, hllX, aops_hop, hstep, go_sem, ↓reduceIte, Nat.reduceEqDiff, reduceCtorEq, reduceIte, Int.reduceLE]
        refine ⟨⟨by omega, by omega⟩, fun hz => ⟨by omega, ?_⟩, fun hz => ⟨by omega, by omega, ?_⟩⟩
        · subst hQ
          simp (disch := first | assumption | omega) only [R.slices_Compact_Cell, eh, go_sem, ↓reduceIte, reduceIte]
          rw [hD]
          exact ⟨rfl, flatC (X.drop D.length) ++ rest, by rw [List.length_append, flatC_length, List.length_drop]; omega, by rw [← List.append_assoc, ← flatC_append, ← hXs]⟩
        · subst hQ
          simp (disch := first | assumption | omega) only [R.slices_Compact_Cell, List.set_set, go_sem, ↓reduceIte, reduceIte]
          rw [hD]
          refine ⟨rfl, repC (l.length - D.length) [.int .i64 0, .int .i64 0] ++ (flatC X ++ rest).drop (D.length * 2 + (repC (l.length - D.length) [AVal.int .i64 0, .int .i64 0]).length), ?_, ?_⟩
          · rw [List.length_append, List.length_drop, repC_len2, hllX]; omega
          · rw [hXs, ← flatC_fill]
    · simp (disch := first | assumption | omega) only [e3, e0, eh, he, go_sem, ↓reduceIte, Nat.reduceEqDiff, reduceCtorEq, reduceIte]
      have hdd2 : dedupA (l.take (k + 2)) = l.take (k + 2) := by
        rw [dedupA_take (by omega), if_neg (fun e => he e.symm), hdd, List.take_add_one (i := k + 1), List.getElem?_eq_getElem (by omega)]; rfl
      exact ⟨l.length - (k + 1), by omega, k + 1, rfl, by omega, by simp, hdd2⟩
  · simp (disch := first | assumption | omega) only [e3, e0, hlt, go_sem, ↓reduceIte, Nat.reduceEqDiff, reduceCtorEq, reduceIte]
    subst hQ
    simp (disch := first | assumption | omega) only [R.slices_Compact_Cell, eh, go_sem, ↓reduceIte, reduceIte]
    have hkl : k + 1 = l.length := by omega
    rw [hkl, List.take_length] at hdd
    rw [hdd]
    exact ⟨rfl, rest, rfl, by rw [set_same hid]⟩
end Go.Proofs.Ytpdajkbfemcdlaa
/- Contracts: sets of cells: what is looked for, what is deleted. -/
set_option linter.unusedSimpArgs false
set_option linter.unusedVariables false
set_option maxRecDepth 10000
namespace Go.Proofs.Ytpdajkbfemcdlaa
open Go.Ge Go.Sort
/-- What a function says of cells, where the heap is as it must be. -/
def PredOk (g : Nat) (caps : List AVal) (p : Cell → Bool) (Inv : List HObj → Prop) : Prop := ∀ c h, Inv h → ACalls Try.prog g ([cellA c] ++ caps.map Ge.rdc) h (fun v h' => v = .bool (p c) ∧ h' = h)
def FoundC (p : Cell → Bool) (l : List Cell) (v : AVal) : Prop := (∃ (i : Nat) (hi : i < l.length), v = .int .i64 i ∧ p l[i] = true ∧ ∀ c ∈ l.take i, p c = false) ∨ (v = .int .i64 (-1) ∧ ∀ c ∈ l, p c = false)
theorem take_all_snoc {p : Cell → Bool} {l : List Cell} {i : Nat} (hi : i < l.length) (h : ∀ c ∈ l.take i, p c = false) (hc : p l[i] = false) : ∀ c ∈ l.take (i + 1), p c = false := by
  intro c hm
  rw [List.take_add_one, List.getElem?_eq_getElem hi] at hm
  rcases List.mem_append.1 hm with hm | hm
  · exact h c hm
  · simp only [Option.toList, List.mem_singleton] at hm
    rw [hm]; exact hc
theorem IndexFuncR_ok (g : Nat) (caps : List AVal) (p : Cell → Bool) (Inv : List HObj → Prop) (hp : PredOk g caps p Inv) (l : List Cell) (id cap : Nat) (rest : List AVal) (h : List HObj) (hid : h[id]? = some (.cells (flatC l ++ rest))) (hI : Inv h) (hn : l.length ≤ 65536) :
    ACalls Try.prog F.slices_IndexFunc_Cell [.ref id 0 l.length cap, .func g caps] h (fun v h' => FoundC p l v ∧ h' = h) := by
  have hll : (flatC l ++ rest).length = l.length * 2 + rest.length := by rw [List.length_append, flatC_length]
  refine ACalls.of_aw Try.func207 K.slices_IndexFunc_Cell (by simp [Try.f207]) ?_
  generalize hQ : retQ R.slices_IndexFunc_Cell _ = Q
  simp (disch := first | assumption | omega) only [C.slices_IndexFunc_Cell, go_sem, ↓reduceIte, reduceCtorEq, reduceIte, Int.reduceNeg]
  refine aw_count (fun n S => ∃ (i : Nat), i + n = l.length ∧ S.env 8 = .int .i64 i ∧ S.env 7 = .int .i64 l.length ∧ S.env 0 = .ref id 0 l.length cap ∧ S.env 1 = .func g caps ∧ (∀ c ∈ l.take i, p c = false) ∧ S.heap = h) (n := l.length) ⟨0, by omega, by simp (disch := first | assumption | omega) only [go_sem, ↓reduceIte, reduceIte], by simp (disch := first | assumption | omega) only [go_sem, ↓reduceIte, Nat.reduceEqDiff, reduceIte], by simp (disch := first | assumption | omega) only [go_sem, ↓reduceIte, reduceCtorEq, reduceIte], by simp (disch := first | assumption | omega) only [go_sem, ↓reduceIte, Nat.reduceEqDiff, reduceIte], by simp, by simp (disch := first | assumption | omega) only [go_sem]⟩ ?_
  rintro n S ⟨i, hi, e8, e7, e0, e1, hall, eh⟩
  by_cases hlt : (i : Int) < l.length
  · have q1 := flatC_get (l := l) (j := i) (rest := rest) (by omega)
    simp (disch := first | assumption | omega) only [e8, e7, e0, e1, eh, hlt, hid, q1, hll, go_sem, ↓reduceIte, Nat.reduceEqDiff, reduceCtorEq, Nat.reduceLeDiff, reduceIte, Int.reduceNeg]
    repeat (refine And.intro ?_ ?_; omega)
    refine callvqG_ok (hp l[i] _ (by simp (disch := first | assumption | omega) only [eh, go_sem]; exact hI)) (by simp (disch := first | assumption | omega) only [go_sem]) ?_
    rintro _ _ ⟨rfl, hhh⟩
    rw [hhh]
    clear hhh
    refine ⟨rfl, ?_⟩
    by_cases hx : p l[i] = true
    · simp (disch := first | assumption | omega) only [hx, go_sem, ↓reduceIte, Nat.reduceEqDiff, reduceIte, Int.reduceNeg]
      subst hQ
      simp (disch := first | assumption | omega) only [R.slices_IndexFunc_Cell, eh, go_sem, ↓reduceIte, reduceIte]
      exact .inl ⟨i, by omega, rfl, hx, hall⟩
    · have hx : p l[i] = false := by simpa using hx
      simp (disch := first | assumption | omega) only [e8, e7, e0, e1, eh, hx, go_sem, ↓reduceIte, Nat.reduceEqDiff, reduceCtorEq, reduceIte, Int.reduceNeg]
      exact ⟨n - 1, by omega, i + 1, by omega, by simp, take_all_snoc (by omega) hall hx⟩
  · have hil : i = l.length := by omega
    rw [hil, List.take_length] at hall
    simp (disch := first | assumption | omega) only [e8, e7, hlt, go_sem, ↓reduceIte, reduceIte, Int.reduceNeg]
    subst hQ
    simp (disch := first | assumption | omega) only [R.slices_IndexFunc_Cell, eh, go_sem, ↓reduceIte, reduceIte, Int.reduceNeg]
    exact .inr ⟨rfl, hall⟩
theorem IndexFuncV_ok (g : Nat) (caps : List AVal) (p : Cell → Bool) (Inv : List HObj → Prop) (hp : PredOk g caps p Inv) (o : Own) (l : List Cell) (ho : Rdo o) (h : List HObj) (hI : Inv h) (hn : l.length < 4611686018427387904) :
    ACalls Try.prog F.slices_IndexFunc_Cell [.lst o (cellsA l), .func g caps] h (fun v h' => FoundC p l v ∧ h' = h) := by
  refine ACalls.of_aw Try.func207 K.slices_IndexFunc_Cell (by simp [Try.f207]) ?_
  generalize hQ : retQ R.slices_IndexFunc_Cell _ = Q
  simp (disch := first | assumption | omega) only [C.slices_IndexFunc_Cell, go_sem, ↓reduceIte, reduceCtorEq, reduceIte, Int.reduceNeg]
  refine aw_count (fun n S => ∃ (i : Nat), i + n = l.length ∧ S.env 8 = .int .i64 i ∧ S.env 7 = .int .i64 l.length ∧ S.env 0 = .lst o (cellsA l) ∧ S.env 1 = .func g caps ∧ (∀ c ∈ l.take i, p c = false) ∧ S.heap = h) (n := l.length) ⟨0, by omega, by simp (disch := first | assumption | omega) only [go_sem, ↓reduceIte, reduceIte], by simp (disch := first | assumption | omega) only [go_sem, ↓reduceIte, Nat.reduceEqDiff, reduceIte], by simp (disch := first | assumption | omega) only [go_sem, ↓reduceIte, reduceCtorEq, reduceIte], by simp (disch := first | assumption | omega) only [go_sem, ↓reduceIte, Nat.reduceEqDiff, reduceIte], by simp, by simp (disch := first | assumption | omega) only [go_sem]⟩ ?_
  rintro n S ⟨i, hi, e8, e7, e0, e1, hall, eh⟩
  by_cases hlt : (i : Int) < l.length
  · have q1 := at_cells (l := l) (i := i) (by omega)
    have hi2 : i < l.length := by omega
    simp (disch := first | assumption | omega) only [e8, e7, e0, e1, hlt, q1, cellA, go_sem, ↓reduceIte, Nat.reduceEqDiff, reduceCtorEq, Nat.reduceAdd, Nat.reduceLeDiff, reduceIte, Int.reduceAdd, Int.reduceNeg]
    repeat (refine And.intro ?_ ?_; omega)
    refine callvqG_ok (hp l[i] _ (by simp (disch := first | assumption | omega) only [eh, go_sem]; exact hI)) (by simp (disch := first | assumption | omega) only [go_sem]) ?_
    rintro _ _ ⟨rfl, hhh⟩
    rw [hhh]
    clear hhh
    refine ⟨rfl, ?_⟩
    by_cases hx : p l[i] = true
    · simp (disch := first | assumption | omega) only [hx, go_sem, ↓reduceIte, Nat.reduceEqDiff, reduceIte, Int.reduceNeg]
      subst hQ
      simp (disch := first | assumption | omega) only [R.slices_IndexFunc_Cell, eh, go_sem, ↓reduceIte, reduceIte]
      exact .inl ⟨i, by omega, rfl, hx, hall⟩
    · have hx : p l[i] = false := by simpa using hx
      simp (disch := first | assumption | omega) only [e8, e7, e0, e1, eh, hx, go_sem, ↓reduceIte, Nat.reduceEqDiff, reduceCtorEq, reduceIte, Int.reduceNeg]
      exact ⟨n - 1, by omega, i + 1, by omega, by simp, take_all_snoc (by omega) hall hx⟩
  · have hil : i = l.length := by omega
    rw [hil, List.take_length] at hall
    simp (disch := first | assumption | omega) only [e8, e7, hlt, go_sem, ↓reduceIte, reduceIte, Int.reduceNeg]
    subst hQ
    simp (disch := first | assumption | omega) only [R.slices_IndexFunc_Cell, eh, go_sem, ↓reduceIte, reduceIte, Int.reduceNeg]
    exact .inr ⟨rfl, hall⟩
theorem ContainsFunc_ok (g : Nat) (caps : List AVal) (p : Cell → Bool) (Inv : List HObj → Prop) (hp : PredOk g caps p Inv) (o : Own) (l : List Cell) (ho : Rdo o) (h : List HObj) (hI : Inv h) (hn : l.length < 4611686018427387904) :
    ACalls Try.prog F.slices_ContainsFunc_Cell [.lst o (cellsA l), .func g caps] h (fun v h' => v = .bool (l.any p) ∧ h' = h) := by
  refine ACalls.of_aw Try.func195 K.slices_ContainsFunc_Cell (by simp [Try.f195]) ?_
  generalize hQ : retQ R.slices_ContainsFunc_Cell _ = Q
  simp (disch := first | assumption | omega) only [C.slices_ContainsFunc_Cell, go_sem, ↓reduceIte, Nat.reduceEqDiff, reduceCtorEq, reduceIte]
  refine callG_ok (IndexFuncV_ok g caps p Inv hp o l ho _ (by simp (disch := first | assumption | omega) only [go_sem]; exact hI) hn) (by simp (disch := first | assumption | omega) only [go_sem]) ?_
  rintro v _ ⟨hv, hhh⟩
  rw [hhh]
  clear hhh
  rcases hv with ⟨i, hi, rfl, hx, _⟩ | ⟨rfl, hx⟩
  · have h0 : (0 : Int) ≤ (i : Int) := by omega
    simp (disch := first | assumption | omega) only [h0, go_sem, ↓reduceIte, reduceIte]
    subst hQ
    simp (disch := first | assumption | omega) only [R.slices_ContainsFunc_Cell, go_sem, ↓reduceIte, reduceIte]
    rw [List.any_eq_true.2 ⟨l[i], List.getElem_mem hi, hx⟩]
  · simp (disch := first | assumption | omega) only [go_sem, ↓reduceIte, reduceIte, Int.reduceLE, Int.reduceNeg]
    subst hQ
    simp (disch := first | assumption | omega) only [R.slices_ContainsFunc_Cell, go_sem, ↓reduceIte, reduceIte, Int.reduceNeg]
    rw [List.any_eq_false.2 (fun c hc => by simp [hx c hc])]
end Go.Proofs.Ytpdajkbfemcdlaa
/- Contracts: sets of cells: what is deleted, and found. -/
set_option linter.unusedSimpArgs false
set_option linter.unusedVariables false
set_option maxRecDepth 10000
namespace Go.Proofs.Ytpdajkbfemcdlaa
open Go.Ge Go.Sort
theorem filter_none {p : Cell → Bool} {l : List Cell} (h : ∀ c ∈ l, p c = false) : l.filter (fun c => !p c) = l := by
  rw [List.filter_eq_self]; intro c hc; simp [h c hc]
theorem filter_take_snoc {p : Cell → Bool} {l : List Cell} {i : Nat} (hi : i < l.length) : (l.take (i + 1)).filter (fun c => !p c) = if p l[i] = true then (l.take i).filter (fun c => !p c) else (l.take i).filter (fun c => !p c) ++ [l[i]] := by
  rw [List.take_add_one, List.getElem?_eq_getElem hi, List.filter_append]
  by_cases h : p l[i] = true <;> simp [h]
theorem DeleteShort_ok (g : Nat) (caps : List AVal) (id off cap : Nat) (h : List HObj) :
    ACalls Try.prog F.slices_IndexFunc_Cell [.ref id off 0 cap, .func g caps] h (fun v h' => v = .int .i64 (-1) ∧ h' = h) := by
  refine ACalls.of_aw Try.func207 K.slices_IndexFunc_Cell (by simp [Try.f207]) ?_
  generalize hQ : retQ R.slices_IndexFunc_Cell _ = Q
  simp (disch := first | assumption | omega) only [C.slices_IndexFunc_Cell, go_sem, ↓reduceIte, reduceCtorEq, reduceIte, Int.reduceNeg]
  refine aw_count (fun n S => S.env 8 = .int .i64 0 ∧ S.env 7 = .int .i64 0 ∧ S.heap = h) (n := 0) ⟨by simp (disch := first | assumption | omega) only [go_sem, ↓reduceIte, reduceIte], by simp (disch := first | assumption | omega) only [go_sem, ↓reduceIte, Nat.reduceEqDiff, reduceIte], by simp (disch := first | assumption | omega) only [go_sem]⟩ ?_
  rintro n S ⟨e8, e7, eh⟩
  simp (disch := first | assumption | omega) only [e8, e7, go_sem, ↓reduceIte, Nat.reduceLT, reduceIte, Int.reduceLT, Int.reduceNeg]
  subst hQ
  simp (disch := first | assumption | omega) only [R.slices_IndexFunc_Cell, eh, go_sem, ↓reduceIte, reduceIte, Int.reduceNeg]
theorem DeleteNone_ok (g : Nat) (caps : List AVal) (id off cap : Nat) (h : List HObj) :
    ACalls Try.prog F.slices_DeleteFunc_Cell [.ref id off 0 cap, .func g caps] h (fun v h' => v = .ref id off 0 cap ∧ h' = h) := by
  refine ACalls.of_aw Try.func183 K.slices_DeleteFunc_Cell (by simp [Try.f183]) ?_
  generalize hQ : retQ R.slices_DeleteFunc_Cell _ = Q
  simp (disch := first | assumption | omega) only [C.slices_DeleteFunc_Cell, go_sem, ↓reduceIte, Nat.reduceEqDiff, reduceCtorEq, reduceIte, Int.reduceNeg]
  refine callG_ok (DeleteShort_ok g caps id off cap _) (by simp (disch := first | assumption | omega) only [go_sem]) ?_
  rintro _ _ ⟨rfl, hhh⟩
  rw [hhh]
  clear hhh
  simp (disch := first | assumption | omega) only [go_sem, ↓reduceIte, reduceCtorEq, reduceIte, Int.reduceNeg]
  subst hQ
  simp (disch := first | assumption | omega) only [R.slices_DeleteFunc_Cell, go_sem, ↓reduceIte, reduceIte, Int.reduceNeg]
theorem DeleteFunc_ok (g : Nat) (caps : List AVal) (p : Cell → Bool) (Inv : List HObj → Prop) (hp : PredOk g caps p Inv) (l : List Cell) (id cap : Nat) (rest : List AVal) (h : List HObj) (hid : h[id]? = some (.cells (flatC l ++ rest))) (hI : ∀ z, Inv (h.set id z)) (hn : l.length ≤ 65536) (hc : l.length ≤ cap) :
    ACalls Try.prog F.slices_DeleteFunc_Cell [.ref id 0 l.length cap, .func g caps] h (fun v h' => v = .ref id 0 (l.filter (fun c => !p c)).length cap ∧ ∃ rest', rest'.length + (l.filter (fun c => !p c)).length * 2 = rest.length + l.length * 2 ∧ h' = h.set id (.cells (flatC (l.filter (fun c => !p c)) ++ rest'))) := by
  have hidl : id < h.length := (List.getElem?_eq_some_iff.1 hid).1
  have hIh : Inv h := by have := hI (.cells (flatC l ++ rest)); rwa [set_same hid] at this
  have hget : ∀ z, (h.set id z)[id]? = some z := fun z => List.getElem?_set_self hidl
  refine ACalls.of_aw Try.func183 K.slices_DeleteFunc_Cell (by simp [Try.f183]) ?_
  generalize hQ : retQ R.slices_DeleteFunc_Cell _ = Q
  simp (disch := first | assumption | omega) only [C.slices_DeleteFunc_Cell, go_sem, ↓reduceIte, Nat.reduceEqDiff, reduceCtorEq, reduceIte, Int.reduceNeg]
  refine callG_ok (IndexFuncR_ok g caps p Inv hp l id cap rest _ (by simp (disch := first | assumption | omega) only [hid, go_sem]) (by simp (disch := first | assumption | omega) only [go_sem]; exact hIh) hn) (by simp (disch := first | assumption | omega) only [go_sem]) ?_
  rintro v _ ⟨hv, hhh⟩
  rw [hhh]
  clear hhh
  rcases hv with ⟨i0, hi0, rfl, hx0, hall0⟩ | ⟨rfl, hall0⟩
  · have h1 : ¬ ((i0 : Int) = -1) := by omega
    have hf1 : (l.take (i0 + 1)).filter (fun c => !p c) = l.take i0 := by
      rw [filter_take_snoc hi0, if_pos hx0]
      exact filter_none hall0
    simp (disch := first | assumption | omega) only [h1, go_sem, ↓reduceIte, Nat.reduceEqDiff, reduceIte, Int.reduceNeg]
    refine aw_count (fun n S => ∃ (j : Nat) (X : List Cell), n = l.length - (j + 1) ∧ j + 1 ≤ l.length ∧ X.length = l.length ∧ ((l.take (j + 1)).filter (fun c => !p c)).length ≤ j ∧ X.take ((l.take (j + 1)).filter (fun c => !p c)).length = (l.take (j + 1)).filter (fun c => !p c) ∧ (∀ m, j + 1 ≤ m → X[m]? = l[m]?) ∧ S.env 5 = .int .i64 ((l.take (j + 1)).filter (fun c => !p c)).length ∧ S.env 6 = .int .i64 (j + 1 : Nat) ∧ S.env 0 = .ref id 0 l.length cap ∧ S.env 1 = .func g caps ∧ S.heap = h.set id (.cells (flatC X ++ rest))) (n := l.length - (i0 + 1))
      ⟨i0, l, rfl, by omega, rfl, by rw [hf1, List.length_take]; omega, by rw [hf1]; simp, fun m _ => rfl, by rw [hf1]; simp (disch := first | assumption | omega) only [go_sem, ↓reduceIte, Nat.reduceEqDiff, reduceIte]; rw [List.length_take, Nat.min_eq_left (by omega)], by simp (disch := first | assumption | omega) only [go_sem, ↓reduceIte, reduceIte]; simp, by simp (disch := first | assumption | omega) only [go_sem, ↓reduceIte, reduceCtorEq, reduceIte], by simp (disch := first | assumption | omega) only [go_sem, ↓reduceIte, Nat.reduceEqDiff, reduceIte], by simp (disch := first | assumption | omega) only [go_sem]; rw [set_same hid]⟩ ?_
    rintro n S ⟨j, X, rfl, hj, hX, hKm, hXK, hXl, e5, e6, e0, e1, eh⟩
    have hllX : (flatC X ++ rest).length = l.length * 2 + rest.length := by rw [List.length_append, flatC_length, hX]
    by_cases hlt : ((j + 1 : Nat) : Int) < l.length
    · have hXa := hXl (j + 1) (by omega)
      rw [List.getElem?_eq_getElem (by omega), List.getElem?_eq_getElem (by omega), Option.some.injEq] at hXa
      have q1 := flatC_get (l := X) (j := j + 1) (rest := rest) (by omega)
      rw [hXa] at q1
      have hk2 : (((j + 1 : Nat) : Int)).toNat = j + 1 := by omega
      have hst := filter_take_snoc (p := p) (l := l) (i := j + 1) (by omega)
      generalize hD : (l.take (j + 1)).filter (fun c => !p c) = D at *
      simp (disch := first | assumption | omega) only [e6, e0, e1, eh, hlt, hget, hllX, q1, hk2, go_sem, ↓reduceIte, Nat.reduceEqDiff, reduceCtorEq, Nat.reduceAdd, Nat.reduceLeDiff, reduceIte, Int.reduceAdd]
      repeat (refine And.intro ?_ ?_; omega)
      refine callvqG_ok (hp l[j + 1] _ (by simp (disch := first | assumption | omega) only [eh, go_sem]; exact hI _)) (by simp (disch := first | assumption | omega) only [go_sem]) ?_
      rintro _ _ ⟨rfl, hhh⟩
      rw [hhh]
      clear hhh
      refine ⟨rfl, ?_⟩
      by_cases hx : p l[j + 1] = true
      · rw [if_pos hx] at hst
        simp (disch := first | assumption | omega) only [e5, e6, e0, e1, eh, hx, drV_ref, go_sem, ↓reduceIte, Nat.reduceEqDiff, reduceCtorEq, reduceIte]
        exact ⟨l.length - (j + 1 + 1), by omega, j + 1, X, rfl, by omega, hX, by rw [hst]; omega, by rw [hst]; exact hXK, fun m hm => hXl m (by omega), by rw [hst], by simp, rfl⟩
      · rw [if_neg hx] at hst
        have hx : p l[j + 1] = false := by simpa using hx
        have s1 := flatC_set (l := X) (j := D.length) (rest := rest) (c := l[j + 1]) (by omega)
        simp (disch := first | assumption | omega) only [e5, e6, e0, e1, eh, hx, hget, hllX, s1, List.set_set, drV_ref, go_sem, ↓reduceIte, Nat.reduceEqDiff, reduceCtorEq, Nat.reduceAdd, Nat.reduceLeDiff, reduceIte, Int.reduceAdd]
        repeat (refine And.intro ?_ ?_; omega)
        exact ⟨l.length - (j + 1 + 1), by omega, j + 1, X.set D.length l[j + 1], rfl, by omega, by simp [hX], by rw [hst]; simp; omega, by rw [hst, List.length_append, List.length_singleton, set_take (by omega), hXK], fun m hm => by rw [List.getElem?_set_ne (by omega)]; exact hXl m (by omega), by rw [hst]; simp, by simp, rfl⟩
    · generalize hD : (l.take (j + 1)).filter (fun c => !p c) = D at *
      have hkq : j + 1 = l.length := by omega
      rw [hkq, List.take_length] at hD
      have hXs : X = D ++ X.drop D.length := by rw [← hXK]; rw [List.length_take]; rw [Nat.min_eq_left (by omega)]; exact (List.take_append_drop _ _).symm
      simp (disch := first | assumption | omega) only [e5, e6, e0, eh, hlt, hget, hllX, aops_hop, hstep, go_sem, ↓reduceIte, Nat.reduceEqDiff, reduceCtorEq, reduceIte, Int.reduceLE]
      refine ⟨⟨by omega, by omega⟩, fun hz => ⟨by omega, ?_⟩, fun hz => ⟨by omega, by omega, ?_⟩⟩
      · subst hQ
        simp (disch := first | assumption | omega) only [R.slices_DeleteFunc_Cell, eh, go_sem, ↓reduceIte, reduceIte]
        rw [hD]
        exact ⟨rfl, flatC (X.drop D.length) ++ rest, by rw [List.length_append, flatC_length, List.length_drop]; omega, by rw [← List.append_assoc, ← flatC_append, ← hXs]⟩
      · subst hQ
        simp (disch := first | assumption | omega) only [R.slices_DeleteFunc_Cell, List.set_set, go_sem, ↓reduceIte, reduceIte]
        rw [hD]
        refine ⟨rfl, repC (l.length - D.length) [.int .i64 0, .int .i64 0] ++ (flatC X ++ rest).drop (D.length * 2 + (repC (l.length - D.length) [AVal.int .i64 0, .int .i64 0]).length), ?_, ?_⟩
        · rw [List.length_append, List.length_drop, repC_len2, hllX]; omega
        · rw [hXs, ← flatC_fill]
  · simp (disch := first | assumption | omega) only [go_sem, ↓reduceIte, reduceCtorEq, reduceIte, Int.reduceNeg]
    subst hQ
    simp (disch := first | assumption | omega) only [R.slices_DeleteFunc_Cell, go_sem, ↓reduceIte, reduceIte, Int.reduceNeg]
    rw [filter_none hall0]
    exact ⟨rfl, rest, rfl, by rw [set_same hid]⟩
end Go.Proofs.Ytpdajkbfemcdlaa
/- Contracts: sets of cells. -/
set_option linter.unusedSimpArgs false
set_option linter.unusedVariables false
set_option maxRecDepth 10000
namespace Go.Proofs.Ytpdajkbfemcdlaa
open Go.Ge Go.Sort
theorem orderC_neg (a b : Cell) : orderC a b < 0 ↔ cellLt a b := by
  have := orderC_lt a b
  by_cases h : cellLt a b
  · simp only [h, not_true, iff_false, ge_iff_le, Int.not_le] at this; simp [h, this]
  · simp only [h, not_false_iff, iff_true, ge_iff_le] at this; simp [h]; omega
theorem up_at {l : List Cell} (h : Up l) {i j : Nat} (hi : i < j) (hj : j < l.length) : cellLt l[i] l[j] := List.pairwise_iff_getElem.1 h i j (by omega) hj hi
theorem BinarySearch_ok (o : Own) (l : List Cell) (c : Cell) (ho : Rdo o) (hu : Up l) (hn : l.length ≤ 65536) (h : List HObj) :
    ACalls Try.prog F.slices_BinarySearchFunc_Cell [.lst o (cellsA l), cellA c, .func F.grid_order []] h (fun v h' => (∃ i, v = .tup [.int .i64 i, .bool (decide (c ∈ l))]) ∧ h' = h) := by
  have hcf : CmpOk F.grid_order orderC := fun a b h => order_ok a b h
  refine ACalls.of_aw Try.func208 K.slices_BinarySearchFunc_Cell (by simp [Try.f208]) ?_
  generalize hQ : retQ R.slices_BinarySearchFunc_Cell _ = Q
  simp (disch := first | assumption | omega) only [C.slices_BinarySearchFunc_Cell, go_sem, ↓reduceIte, Nat.reduceEqDiff, reduceCtorEq, reduceIte]
  simp (disch := first | assumption | omega) only [cellA, go_sem]
  refine aw_count (fun n S => ∃ (i j : Nat), n = j - i ∧ i ≤ j ∧ j ≤ l.length ∧ (∀ m (hm : m < l.length), m < i → cellLt l[m] c) ∧ (∀ m (hm : m < l.length), j ≤ m → ¬cellLt l[m] c) ∧ S.env 9 = .int .i64 i ∧ S.env 10 = .int .i64 j ∧ S.env 8 = .int .i64 l.length ∧ S.env 0 = .lst o (cellsA l) ∧ S.env 2 = .func F.grid_order [] ∧ S.env 4 = .box 4 0 ∧ S.boxes 4 = some [.int .i64 c.X, .int .i64 c.Y] ∧ S.heap = h) (n := l.length)
    ⟨0, l.length, rfl, by omega, by omega, fun m _ h => by omega, fun m _ h => by omega, by simp (disch := first | assumption | omega) only [go_sem, ↓reduceIte, Nat.reduceEqDiff, reduceIte], by simp (disch := first | assumption | omega) only [go_sem, ↓reduceIte, reduceIte], by simp (disch := first | assumption | omega) only [go_sem, ↓reduceIte, Nat.reduceEqDiff, reduceIte], by simp (disch := first | assumption | omega) only [go_sem, ↓reduceIte, reduceCtorEq, reduceIte], by simp (disch := first | assumption | omega) only [go_sem, ↓reduceIte, Nat.reduceEqDiff, reduceIte], by simp (disch := first | assumption | omega) only [go_sem, ↓reduceIte, Nat.reduceEqDiff, reduceIte], by simp (disch := first | assumption | omega) only [go_sem, ↓reduceIte, reduceIte], by simp (disch := first | assumption | omega) only [go_sem]⟩ ?_
  rintro n S ⟨i, j, rfl, hij, hj, hlo, hhi, e9, e10, e8, e0, e2, e4, eb, eh⟩
  by_cases hlt : (i : Int) < j
  · have hh : IntKind.i64.wrap (((i : Int) + j).fdiv (2 ^ min (Int.toNat 1) 64)) = (((i + j) / 2 : Nat) : Int) := by
      rw [show ((2 : Int) ^ min (Int.toNat 1) 64) = 2 from rfl, Int.fdiv_eq_ediv_of_nonneg _ (by omega)]
      rw [wrapI64 (by omega) (by omega)]; omega
    generalize hm : (i + j) / 2 = m at hh
    have hml : m < l.length := by omega
    have q1 := at_cells (l := l) (i := m) hml
    have hmz : (m : Int) < l.length := by omega
    simp (disch := first | assumption | omega) only [e9, e10, e0, e2, e4, eb, hlt, cellA, hh, q1, hmz, go_sem, ↓reduceIte, Nat.reduceEqDiff, reduceCtorEq, Nat.reduceAdd, Nat.reduceLeDiff, reduceIte, Int.reduceLE, Int.reduceAdd]
    refine callvqG_ok (hcf l[m] c _) (by simp (disch := first | assumption | omega) only [go_sem]) ?_
    rintro _ _ ⟨rfl, hhh⟩
    rw [hhh]
    clear hhh
    refine ⟨rfl, ?_⟩
    by_cases hx : orderC l[m] c < 0
    · have hx2 := (orderC_neg _ _).1 hx
      simp (disch := first | assumption | omega) only [e10, e8, e0, e2, e4, eb, eh, hx, go_sem, ↓reduceIte, Nat.reduceEqDiff, reduceCtorEq, reduceIte]
      exact ⟨j - (m + 1), by omega, m + 1, j, rfl, by omega, hj, fun k hk hkm => by
        rcases Nat.lt_or_eq_of_le (Nat.le_of_lt_succ hkm) with h1 | rfl
        · exact cellLt_trans (up_at hu h1 hml) hx2
        · exact hx2, hhi, by simp, rfl⟩
    · have hx2 := fun e => hx ((orderC_neg _ _).2 e)
      simp (disch := first | assumption | omega) only [e9, e8, e0, e2, e4, eb, eh, hx, go_sem, ↓reduceIte, Nat.reduceEqDiff, reduceCtorEq, reduceIte]
      exact ⟨m - i, by omega, i, m, rfl, by omega, by omega, hlo, fun k hk hkm e => by
        rcases Nat.lt_or_eq_of_le hkm with h1 | rfl
        · exact hx2 (cellLt_trans (up_at hu h1 hk) e)
        · exact hx2 e, rfl, rfl⟩
  · have hij2 : i = j := by omega
    subst hij2
    have hmem : ∀ (hi : i < l.length), c ∈ l ↔ l[i] = c := fun hi => by
      constructor
      · intro hc
        obtain ⟨m, hm, rfl⟩ := List.mem_iff_getElem.1 hc
        have h1 : ¬ m < i := fun h => cellLt_irrefl _ (hlo m hm h)
        rcases Nat.lt_or_eq_of_le (Nat.le_of_not_lt h1) with h2 | rfl
        · exact absurd (up_at hu h2 hm) (hhi i hi (Nat.le_refl _))
        · rfl
      · rintro rfl; exact List.getElem_mem hi
    have hnm : ¬ i < l.length → c ∉ l := fun hi hc => by
      obtain ⟨m, hm, rfl⟩ := List.mem_iff_getElem.1 hc
      exact cellLt_irrefl _ (hlo m hm (by omega))
    by_cases hil : i < l.length
    · have q1 := at_cells (l := l) (i := i) hil
      have hmz : (i : Int) < l.length := by omega
      simp (disch := first | assumption | omega) only [e9, e10, e8, e0, e2, e4, eb, hlt, cellA, q1, hmz, go_sem, ↓reduceIte, Nat.reduceEqDiff, reduceCtorEq, Nat.reduceAdd, Nat.reduceLeDiff, reduceIte, Int.reduceAdd]
      refine callvqG_ok (hcf l[i] c _) (by simp (disch := first | assumption | omega) only [go_sem]) ?_
      rintro _ _ ⟨rfl, hhh⟩
      rw [hhh]
      clear hhh
      refine ⟨rfl, ?_⟩
      simp (disch := first | assumption | omega) only [go_sem, ↓reduceIte, Nat.reduceEqDiff, reduceIte]
      subst hQ
      simp (disch := first | assumption | omega) only [R.slices_BinarySearchFunc_Cell, eh, go_sem, ↓reduceIte, Nat.reduceEqDiff, reduceIte]
      refine ⟨i, ?_⟩
      congr 4
      rw [decide_eq_decide, orderC_zero]
      exact (hmem hil).symm
    · have hmz : ¬ (i : Int) < l.length := by omega
      simp (disch := first | assumption | omega) only [e9, e10, e8, hlt, hmz, go_sem, ↓reduceIte, Nat.reduceEqDiff, reduceIte]
      subst hQ
      simp (disch := first | assumption | omega) only [R.slices_BinarySearchFunc_Cell, eh, go_sem, ↓reduceIte, Nat.reduceEqDiff, reduceIte]
      refine ⟨i, ?_⟩
      rw [decide_eq_false (hnm hil)]
theorem has_ok (o : Own) (l : List Cell) (c : Cell) (ho : Rdo o) (hu : Up l) (hn : l.length ≤ 65536) (h : List HObj) :
    ACalls Try.prog F.grid_has [.lst o (cellsA l), cellA c] h (fun v h' => v = .bool (decide (c ∈ l)) ∧ h' = h) := by
  refine ACalls.of_aw Try.func185 K.grid_has (by simp [Try.f185]) ?_
  generalize hQ : retQ R.grid_has _ = Q
  simp (disch := first | assumption | omega) only [C.grid_has, go_sem, ↓reduceIte, Nat.reduceEqDiff, reduceCtorEq, Nat.reduceLeDiff, reduceIte]
  simp (disch := first | assumption | omega) only [cellA, go_sem, Nat.reduceAdd, Nat.reduceLeDiff, Int.reduceAdd]
  refine callG_ok (BinarySearch_ok o l c ho hu hn _) (by simp (disch := first | assumption | omega) only [go_sem]) ?_
  rintro _ _ ⟨⟨i, rfl⟩, hhh⟩
  rw [hhh]
  clear hhh
  simp (disch := first | assumption | omega) only [go_sem, ↓reduceIte, Nat.reduceEqDiff, Nat.reduceAdd, Nat.reduceLT, reduceIte, Int.reduceLT, Int.reduceAdd]
  subst hQ
  simp (disch := first | assumption | omega) only [R.grid_has, go_sem, ↓reduceIte, reduceIte]
/-- The object behind a pointer holds a sorted list. -/
def HoldC (bid : Nat) (l : List Cell) (h : List HObj) : Prop := h[bid]? = some (.cells [.lst (.app 2) (cellsA l)])
theorem notIn_ok (l : List Cell) (bid : Nat) (hu : Up l) (hn : l.length ≤ 65536) : PredOk F.grid_Meet_1 [.hp bid 0] (fun c => !decide (c ∈ l)) (HoldC bid l) := by
  intro c h hh
  unfold HoldC at hh
  show ACalls Try.prog F.grid_Meet_1 [cellA c, .hp bid 0] h _
  refine ACalls.of_aw Try.func184 K.grid_Meet_1 (by simp [Try.f184]) ?_
  generalize hQ : retQ R.grid_Meet_1 _ = Q
  simp (disch := first | assumption | omega) only [C.grid_Meet_1, go_sem, ↓reduceIte, Nat.reduceEqDiff, Nat.reduceLeDiff, reduceIte]
  simp (disch := first | assumption | omega) only [cellA, hh, go_sem, ↓reduceIte, Nat.reduceEqDiff, Nat.reduceAdd, Nat.reduceLeDiff, Nat.reduceLT, reduceIte, Int.reduceLT, Int.reduceAdd]
  refine callG_ok (has_ok .sh l c (.inl rfl) hu hn _) (by simp (disch := first | assumption | omega) only [go_sem]) ?_
  rintro _ _ ⟨rfl, hhh⟩
  rw [hhh]
  clear hhh
  simp (disch := first | assumption | omega) only [go_sem, ↓reduceIte, reduceIte]
  subst hQ
  simp (disch := first | assumption | omega) only [R.grid_Meet_1, go_sem, ↓reduceIte, reduceIte]
theorem notIn2_ok (l : List Cell) (bid : Nat) (hu : Up l) (hn : l.length ≤ 65536) : PredOk F.grid_Within_1 [.hp bid 0] (fun c => !decide (c ∈ l)) (HoldC bid l) := by
  intro c h hh
  unfold HoldC at hh
  show ACalls Try.prog F.grid_Within_1 [cellA c, .hp bid 0] h _
  refine ACalls.of_aw Try.func196 K.grid_Within_1 (by simp [Try.f196]) ?_
  generalize hQ : retQ R.grid_Within_1 _ = Q
  simp (disch := first | assumption | omega) only [C.grid_Within_1, go_sem, ↓reduceIte, Nat.reduceEqDiff, Nat.reduceLeDiff, reduceIte]
  simp (disch := first | assumption | omega) only [cellA, hh, go_sem, ↓reduceIte, Nat.reduceEqDiff, Nat.reduceAdd, Nat.reduceLeDiff, Nat.reduceLT, reduceIte, Int.reduceLT, Int.reduceAdd]
  refine callG_ok (has_ok .sh l c (.inl rfl) hu hn _) (by simp (disch := first | assumption | omega) only [go_sem]) ?_
  rintro _ _ ⟨rfl, hhh⟩
  rw [hhh]
  clear hhh
  simp (disch := first | assumption | omega) only [go_sem, ↓reduceIte, reduceIte]
  subst hQ
  simp (disch := first | assumption | omega) only [R.grid_Within_1, go_sem, ↓reduceIte, reduceIte]
theorem isIn_ok (l : List Cell) (bid : Nat) (hu : Up l) (hn : l.length ≤ 65536) : PredOk F.grid_Minus_1 [.hp bid 0] (fun c => decide (c ∈ l)) (HoldC bid l) := by
  intro c h hh
  unfold HoldC at hh
  show ACalls Try.prog F.grid_Minus_1 [cellA c, .hp bid 0] h _
  refine ACalls.of_aw Try.func193 K.grid_Minus_1 (by simp [Try.f193]) ?_
  generalize hQ : retQ R.grid_Minus_1 _ = Q
  simp (disch := first | assumption | omega) only [C.grid_Minus_1, go_sem, ↓reduceIte, Nat.reduceEqDiff, Nat.reduceLeDiff, reduceIte]
  simp (disch := first | assumption | omega) only [cellA, hh, go_sem, ↓reduceIte, Nat.reduceEqDiff, Nat.reduceAdd, Nat.reduceLeDiff, Nat.reduceLT, reduceIte, Int.reduceLT, Int.reduceAdd]
  refine callG_ok (has_ok .sh l c (.inl rfl) hu hn _) (by simp (disch := first | assumption | omega) only [go_sem]) ?_
  rintro _ _ ⟨rfl, hhh⟩
  rw [hhh]
  clear hhh
  simp (disch := first | assumption | omega) only [go_sem, ↓reduceIte, reduceIte]
  subst hQ
  simp (disch := first | assumption | omega) only [R.grid_Minus_1, go_sem, ↓reduceIte, reduceIte]
end Go.Proofs.Ytpdajkbfemcdlaa
/- Contracts: sets of cells: joined, met, less. -/
set_option linter.unusedSimpArgs false
set_option linter.unusedVariables false
set_option maxRecDepth 10000
namespace Go.Proofs.Ytpdajkbfemcdlaa
open Go.Ge Go.Sort
theorem insEmpty_ok (f id off cap : Nat) (h : List HObj) : ACalls Try.prog F.slices_insertionSortCmpFunc_Cell [.ref id off 0 cap, .int .i64 0, .int .i64 0, .func f []] h (fun v h' => v = .tup [] ∧ h' = h) := by
  refine ACalls.of_aw Try.func219 K.slices_insertionSortCmpFunc_Cell (by simp [Try.f219]) ?_
  generalize hQ : retQ R.slices_insertionSortCmpFunc_Cell _ = Q
  simp (disch := first | assumption | omega) only [C.slices_insertionSortCmpFunc_Cell, go_sem, ↓reduceIte, reduceIte]
  refine aw_count (fun d S => S.env 8 = .int .i64 1 ∧ S.env 2 = .int .i64 0 ∧ S.heap = h) (n := 0) ⟨by simp (disch := first | assumption | omega) only [go_sem, ↓reduceIte, reduceIte], by simp (disch := first | assumption | omega) only [go_sem, ↓reduceIte, Nat.reduceEqDiff, reduceIte], by simp (disch := first | assumption | omega) only [go_sem]⟩ ?_
  rintro d S ⟨e8, e2, eh⟩
  simp (disch := first | assumption | omega) only [e8, e2, go_sem, ↓reduceIte, Nat.reduceEqDiff, Nat.reduceLT, reduceIte, Int.reduceLT]
  subst hQ
  simp (disch := first | assumption | omega) only [R.slices_insertionSortCmpFunc_Cell, eh, go_sem]
theorem pdqEmpty_ok (f id off cap : Nat) (lim : Int) (h : List HObj) : ACalls Try.prog F.slices_pdqsortCmpFunc_Cell [.ref id off 0 cap, .int .i64 0, .int .i64 0, .int .i64 lim, .func f []] h (fun v h' => v = .tup [] ∧ h' = h) := by
  refine ACalls.of_aw Try.func203 K.slices_pdqsortCmpFunc_CellF (by simp [Try.f203]) ?_
  generalize hQ : retQ R.slices_pdqsortCmpFunc_CellF _ = Q
  simp (disch := first | assumption | omega) only [C.slices_pdqsortCmpFunc_CellF, go_sem]
  refine aw_count (fun d S => S.env 0 = .ref id off 0 cap ∧ S.env 1 = .int .i64 0 ∧ S.env 2 = .int .i64 0 ∧ S.env 4 = .func f [] ∧ S.heap = h) (n := 0) ⟨by simp (disch := first | assumption | omega) only [go_sem, ↓reduceIte, reduceCtorEq, reduceIte], by simp (disch := first | assumption | omega) only [go_sem, ↓reduceIte, Nat.reduceEqDiff, reduceIte], by simp (disch := first | assumption | omega) only [go_sem, ↓reduceIte, Nat.reduceEqDiff, reduceIte], by simp (disch := first | assumption | omega) only [go_sem, ↓reduceIte, Nat.reduceEqDiff, reduceIte], by simp (disch := first | assumption | omega) only [go_sem]⟩ ?_
  rintro d S ⟨e0, e1, e2, e4, eh⟩
  simp (disch := first | assumption | omega) only [e0, e1, e2, e4, go_sem, ↓reduceIte, Nat.reduceEqDiff, reduceCtorEq, reduceIte, Int.reduceLE]
  refine callG_ok (insEmpty_ok f id off cap _) (by simp (disch := first | assumption | omega) only [go_sem]) ?_
  rintro _ _ ⟨rfl, hhh⟩
  rw [hhh]
  clear hhh
  simp (disch := first | assumption | omega) only [go_sem]
  subst hQ
  simp (disch := first | assumption | omega) only [R.slices_pdqsortCmpFunc_CellF, eh, go_sem]
theorem SortEmpty_ok (f id off cap : Nat) (h : List HObj) : ACalls Try.prog F.slices_SortFunc_Cell [.ref id off 0 cap, .func f []] h (fun v h' => v = .tup [] ∧ h' = h) := by
  refine ACalls.of_aw Try.func180 K.slices_SortFunc_Cell (by simp [Try.f180]) ?_
  generalize hQ : retQ R.slices_SortFunc_Cell _ = Q
  simp (disch := first | assumption | omega) only [C.slices_SortFunc_Cell, go_sem, ↓reduceIte, Nat.reduceEqDiff, reduceCtorEq, reduceIte]
  refine callG_ok (BLen_ok 0 (by omega) _) (by simp (disch := first | assumption | omega) only [go_sem]) ?_
  rintro _ _ ⟨⟨r, rfl⟩, hhh⟩
  rw [hhh]
  clear hhh
  simp (disch := first | assumption | omega) only [go_sem, ↓reduceIte, Nat.reduceEqDiff, reduceIte]
  refine callG_ok (pdqEmpty_ok f id off cap r _) (by simp (disch := first | assumption | omega) only [go_sem]) ?_
  rintro _ _ ⟨rfl, hhh⟩
  rw [hhh]
  clear hhh
  simp (disch := first | assumption | omega) only [go_sem]
  subst hQ
  simp (disch := first | assumption | omega) only [R.slices_SortFunc_Cell, go_sem]
theorem idsRep (n : Nat) {m : Nat} : idsL (List.replicate n .junk) ≤ m := by
  rw [idsL_le]
  intro x hx
  rw [List.eq_of_mem_replicate hx]
  exact Nat.zero_le _
theorem normC_nil : normC [] = [] := by
  have := normC_len []
  exact List.eq_nil_of_length_eq_zero (by simpa using this)
theorem CompactN_ok (l : List Cell) (N : Nat) (hN : l.length = N) (id cap : Nat) (rest : List AVal) (h : List HObj) (hid : h[id]? = some (.cells (flatC l ++ rest))) (hn : l.length ≤ 65536) (hc : l.length ≤ cap) :
    ACalls Try.prog F.slices_Compact_Cell [.ref id 0 N cap] h (fun v h' => v = .ref id 0 (dedupA l).length cap ∧ ∃ rest', rest'.length + (dedupA l).length * 2 = rest.length + l.length * 2 ∧ h' = h.set id (.cells (flatC (dedupA l) ++ rest'))) := by
  subst hN
  exact Compact_ok l id cap rest h hid hn hc
/-- Sorted, still in the object in which it was sorted. -/
def SortedQ (l : List Cell) (h : List HObj) (r : AVal) (h' : List HObj) : Prop := r = .ref 0 0 0 0 ∧ l = [] ∧ h' = h ∨ ∃ cap rest, r = .ref h.length 0 (normC l).length cap ∧ (normC l).length ≤ cap ∧ 0 < cap ∧ rest.length = (cap - (normC l).length) * 2 ∧ h' = h ++ [.cells (flatC (normC l) ++ rest)]
theorem sortedR_ok (o : Own) (L : List (List Cell)) (xs : List AVal) (ho : Rdo o) (hx : Each2 CellsOk L xs) (hne : 0 < L.length) (hl : L.length ≤ 65536) (hb : L.flatten.length < 65536) (h : List HObj) :
    ACalls Try.prog F.grid_sorted [.lst o xs] h (fun r h' => SortedQ L.flatten h r h') := by
  have hcf : CmpOk F.grid_order orderC := fun a b h => order_ok a b h
  refine ACalls.of_aw Try.func182 K.grid_sorted (by simp [Try.f182]) ?_
  generalize hQ : retQ R.grid_sorted _ = Q
  simp (disch := first | assumption | omega) only [C.grid_sorted, go_sem, ↓reduceIte, reduceCtorEq, reduceIte]
  refine callG_ok (ConcatCell_ok o L xs ho hx hne hl (by omega) _) (by simp (disch := first | assumption | omega) only [go_sem]) ?_
  rintro r h1 hr
  rcases hr with ⟨rfl, hnil, rfl⟩ | ⟨cap, hnn, rfl, hcap, rfl⟩
  · simp (disch := first | assumption | omega) only [go_sem, ↓reduceIte, reduceIte]
    refine callG_ok (SortEmpty_ok F.grid_order 0 0 0 _) (by simp (disch := first | assumption | omega) only [go_sem]) ?_
    rintro _ _ ⟨rfl, hhh⟩
    rw [hhh]
    clear hhh
    simp (disch := first | assumption | omega) only [go_sem, ↓reduceIte, Nat.reduceEqDiff, reduceIte]
    refine callG_ok (CompactShort_ok 0 0 0 0 (by omega) _) (by simp (disch := first | assumption | omega) only [go_sem]) ?_
    rintro _ _ ⟨rfl, hhh⟩
    rw [hhh]
    clear hhh
    simp (disch := first | assumption | omega) only [go_sem, ↓reduceIte, reduceIte]
    subst hQ
    simp (disch := first | assumption | omega) only [R.grid_sorted, go_sem, ↓reduceIte, reduceIte]
    exact .inl ⟨rfl, hnil, rfl⟩
  · generalize L.flatten = l at *
    have hpos : 0 < l.length := List.length_pos_iff.2 hnn
    simp (disch := first | assumption | omega) only [go_sem, ↓reduceIte, reduceIte]
    refine callG_ok (SortFunc_ok F.grid_order orderC hcf swoC antiC l h.length cap (List.replicate ((cap - l.length) * 2) .junk) _ (by simp (disch := first | assumption | omega) only [go_sem]) hb (idsRep _)) (by simp (disch := first | assumption | omega) only [go_sem]) ?_
    rintro _ _ ⟨rfl, rfl⟩
    have hsl : l.length = (sortC l).length := (sortC_len l).symm
    have hset : ∀ (x y : HObj), (h ++ [x]).set h.length y = h ++ [y] := fun x y => by simp
    simp (disch := first | assumption | omega) only [hset, go_sem, ↓reduceIte, Nat.reduceEqDiff, reduceIte]
    refine callG_ok (CompactN_ok (sortC l) l.length hsl.symm h.length cap (List.replicate ((cap - l.length) * 2) .junk) _ (by simp (disch := first | assumption | omega) only [go_sem]; simp [sortC]) (by omega) (by omega)) (by simp (disch := first | assumption | omega) only [go_sem]) ?_
    rintro _ _ ⟨rfl, rest', hrest, rfl⟩
    simp (disch := first | assumption | omega) only [hset, go_sem, ↓reduceIte, reduceIte]
    subst hQ
    simp (disch := first | assumption | omega) only [R.grid_sorted, go_sem, ↓reduceIte, reduceIte]
    have hnl := normC_len l
    rw [List.length_replicate] at hrest
    have hrest2 : rest'.length + (normC l).length * 2 = (cap - l.length) * 2 + (sortC l).length * 2 := hrest
    refine .inr ⟨cap, rest', rfl, by omega, by omega, by omega, rfl⟩
end Go.Proofs.Ytpdajkbfemcdlaa
/- Contracts: sets of cells: joined, met, less. -/
set_option linter.unusedSimpArgs false
set_option linter.unusedVariables false
set_option maxRecDepth 10000
namespace Go.Proofs.Ytpdajkbfemcdlaa
open Go.Ge Go.Sort
theorem sortedA_ok (o : Own) (L : List (List Cell)) (xs : List AVal) (ho : Rdo o) (hx : Each2 CellsOk L xs) (hne : 0 < L.length) (hl : L.length ≤ 65536) (hb : L.flatten.length < 65536) (h : List HObj) :
    ACalls Try.prog F.grid_sorted [.lst o xs] h (fun r h' => r = .lst (.app 2) (cellsA (normC L.flatten)) ∧ h' = h) := by
  have hcf : CmpOk F.grid_order orderC := fun a b h => order_ok a b h
  refine ACalls.gcn (ACalls.of_aw Try.func182 K.grid_sortedA (by simp [Try.f182]) ?_)
  generalize hQ : retQ R.grid_sortedA _ = Q
  simp (disch := first | assumption | omega) only [C.grid_sortedA, go_sem, ↓reduceIte, reduceCtorEq, reduceIte]
  refine callG_ok (ConcatCell_ok o L xs ho hx hne hl (by omega) _) (by simp (disch := first | assumption | omega) only [go_sem]) ?_
  rintro r h1 hr
  rcases hr with ⟨rfl, hnil, rfl⟩ | ⟨cap, hnn, rfl, hcap, rfl⟩
  · simp (disch := first | assumption | omega) only [go_sem, ↓reduceIte, reduceIte]
    refine callG_ok (SortEmpty_ok F.grid_order 0 0 0 _) (by simp (disch := first | assumption | omega) only [go_sem]) ?_
    rintro _ _ ⟨rfl, hhh⟩
    rw [hhh]
    clear hhh
    simp (disch := first | assumption | omega) only [go_sem, ↓reduceIte, Nat.reduceEqDiff, reduceIte]
    refine callG_ok (CompactShort_ok 0 0 0 0 (by omega) _) (by simp (disch := first | assumption | omega) only [go_sem]) ?_
    rintro _ _ ⟨rfl, hhh⟩
    rw [hhh]
    clear hhh
    simp (disch := first | assumption | omega) only [go_sem, ↓reduceIte, reduceIte]
    refine own_empty (id := 0) (off := 0) (cap := 0) (by simp (disch := first | assumption | omega) only [go_sem, ↓reduceIte, reduceIte]) (fun h => absurd rfl h) (fun h => by cases h) (by omega) ?_
    rintro hp hhp
    have hhp : hp = h1 := by
      rcases hhp with ⟨rfl, _⟩ | ⟨_, h0⟩
      · simp (disch := first | assumption | omega) only [go_sem]
      · exact absurd rfl h0
    subst hhp
    rw [aw_grab]
    simp (disch := first | assumption | omega) only [go_sem, ↓reduceIte, reduceIte]
    subst hQ
    simp (disch := first | assumption | omega) only [R.grid_sortedA, go_sem, ↓reduceIte, reduceIte]
    rw [hnil, normC_nil]
    exact ⟨[], by simp, by simp [AVal.ids, idsL], rfl⟩
  · generalize L.flatten = l at *
    have hpos : 0 < l.length := List.length_pos_iff.2 hnn
    simp (disch := first | assumption | omega) only [go_sem, ↓reduceIte, reduceIte]
    refine callG_ok (SortFunc_ok F.grid_order orderC hcf swoC antiC l h.length cap (List.replicate ((cap - l.length) * 2) .junk) _ (by simp (disch := first | assumption | omega) only [go_sem]) hb (idsRep _)) (by simp (disch := first | assumption | omega) only [go_sem]) ?_
    rintro _ _ ⟨rfl, rfl⟩
    have hsl : l.length = (sortC l).length := (sortC_len l).symm
    have hset : ∀ (x y : HObj), (h ++ [x]).set h.length y = h ++ [y] := fun x y => by simp
    simp (disch := first | assumption | omega) only [hset, go_sem, ↓reduceIte, Nat.reduceEqDiff, reduceIte]
    refine callG_ok (CompactN_ok (sortC l) l.length hsl.symm h.length cap (List.replicate ((cap - l.length) * 2) .junk) _ (by simp (disch := first | assumption | omega) only [go_sem]; simp [sortC]) (by omega) (by omega)) (by simp (disch := first | assumption | omega) only [go_sem]) ?_
    rintro _ _ ⟨rfl, rest', hrest, rfl⟩
    have hnl := normC_len l
    rw [List.length_replicate] at hrest
    have hrest2 : rest'.length + (normC l).length * 2 = (cap - l.length) * 2 + (sortC l).length * 2 := hrest
    rw [show dedupA (sortC l) = normC l from rfl]
    simp (disch := first | assumption | omega) only [hset, go_sem, ↓reduceIte, reduceIte]
    refine own_cells (cs := normC l) (cap := cap) (rest := rest') (id := h.length) (by simp (disch := first | assumption | omega) only [go_sem, ↓reduceIte, reduceIte]) (by simp (disch := first | assumption | omega) only [go_sem]) (by omega) (by omega) (by omega) ?_
    rw [aw_grab]
    simp (disch := first | assumption | omega) only [go_sem, ↓reduceIte, reduceIte]
    subst hQ
    simp (disch := first | assumption | omega) only [R.grid_sortedA, go_sem, ↓reduceIte, reduceIte]
    exact ⟨[.dead], by simp, by simp [AVal.ids, cells_ids]⟩
theorem Join_ok (o p : Own) (a b : List Cell) (ho : Rdn o a) (hp : Rdn p b) (hl : a.length + b.length < 65536) (h : List HObj) :
    ACalls Try.prog F.grid_Join [.lst o (cellsA a), .lst p (cellsA b)] h (fun v h' => v = .lst (.app 2) (cellsA (joinC a b)) ∧ h' = h) := by
  have ho1 := ho.1
  have hp1 := hp.1
  refine ACalls.of_aw Try.func178 K.grid_Join (by simp [Try.f178]) ?_
  generalize hQ : retQ R.grid_Join _ = Q
  simp (disch := first | assumption | omega) only [C.grid_Join, go_sem, ↓reduceIte, Nat.reduceEqDiff, reduceCtorEq, Nat.reduceAdd, Nat.reduceLeDiff, reduceIte, Int.reduceAdd, Int.reduceMul, Nat.reduceMul]
  refine callG_ok (sortedA_ok .sh [a, b] _ (.inl rfl) ⟨_, _, rfl, ⟨o, ho, rfl⟩, _, _, rfl, ⟨p, hp, rfl⟩, rfl⟩ (by simp) (by simp) (by simpa using hl) _) (by simp (disch := first | assumption | omega) only [go_sem]) ?_
  rintro _ _ ⟨rfl, hhh⟩
  rw [hhh]
  clear hhh
  simp (disch := first | assumption | omega) only [go_sem, ↓reduceIte, reduceIte]
  subst hQ
  simp (disch := first | assumption | omega) only [R.grid_Join, go_sem, ↓reduceIte, reduceIte]
  simp [joinC]
theorem filter_len (l : List Cell) (p : Cell → Bool) : (l.filter p).length ≤ l.length := List.length_filter_le _ _
theorem Meet_ok (o p : Own) (a b : List Cell) (ho : Rdn o a) (hp : Rdn p b) (hl : a.length + b.length < 65536) (h : List HObj) :
    ACalls Try.prog F.grid_Meet [.lst o (cellsA a), .lst p (cellsA b)] h (fun v h' => v = .lst (.app 2) (cellsA (meetC a b)) ∧ h' = h) := by
  have ho1 := ho.1
  have hp1 := hp.1
  have hnb := normC_len b
  have hna := normC_len a
  have hpred : ∀ bid, PredOk F.grid_Meet_1 [.hp bid 0] _ (HoldC bid (normC b)) := fun bid => notIn_ok (normC b) bid (normC_up b) (by omega)
  have hfil : (normC a).filter (fun c => !(!decide (c ∈ normC b))) = meetC a b := by
    unfold meetC
    congr 1
    funext c
    simp [mem_normC]
  have hfl := filter_len (normC a) (fun c => !(!decide (c ∈ normC b)))
  rw [hfil] at hfl
  refine ACalls.gcn (ACalls.of_aw Try.func112 K.grid_Meet (by simp [Try.f112]) ?_)
  generalize hQ : retQ R.grid_Meet _ = Q
  simp (disch := first | assumption | omega) only [C.grid_Meet, go_sem, ↓reduceIte, Nat.reduceEqDiff, Nat.reduceLeDiff, Nat.reduceLT, reduceIte, Int.reduceLT, Int.reduceMul, Nat.reduceMul]
  refine callG_ok (sortedA_ok .sh [b] _ (.inl rfl) ⟨_, _, rfl, ⟨p, hp, rfl⟩, rfl⟩ (by simp) (by simp) (by simp; omega) _) (by simp (disch := first | assumption | omega) only [go_sem]) ?_
  rintro _ _ ⟨rfl, hhh⟩
  rw [hhh]
  clear hhh
  have hfb : [b].flatten = b := by simp
  have hfa : [a].flatten = a := by simp
  rw [hfb]
  simp (disch := first | assumption | omega) only [go_sem, ↓reduceIte, Nat.reduceEqDiff, reduceCtorEq, Nat.reduceLeDiff, reduceIte, Int.reduceMul, Nat.reduceMul]
  refine callG_ok (sortedR_ok .sh [a] _ (.inl rfl) ⟨_, _, rfl, ⟨o, ho, rfl⟩, rfl⟩ (by simp) (by simp) (by simp; omega) _) (by simp (disch := first | assumption | omega) only [go_sem]) ?_
  intro r h1 hr
  rw [hfa] at hr
  rcases hr with ⟨rfl, rfl, rfl⟩ | ⟨cap, rest, rfl, hcap, hc0, hrest, rfl⟩
  · simp (disch := first | assumption | omega) only [go_sem, ↓reduceIte, Nat.reduceEqDiff, reduceIte]
    refine callG_ok (DeleteNone_ok _ _ 0 0 0 _) (by simp (disch := first | assumption | omega) only [go_sem]) ?_
    rintro _ _ ⟨rfl, hhh⟩
    rw [hhh]
    clear hhh
    simp (disch := first | assumption | omega) only [go_sem, ↓reduceIte, reduceIte]
    refine own_empty (id := 0) (off := 0) (cap := 0) (by simp (disch := first | assumption | omega) only [go_sem, ↓reduceIte, reduceIte]) (fun h => absurd rfl h) (fun h => by cases h) (by omega) ?_
    rintro hp2 hhp
    have hhp : hp2 = h ++ [.cells [.lst (.app 2) (cellsA (normC b))]] := by
      rcases hhp with ⟨rfl, _⟩ | ⟨_, h0⟩
      · simp (disch := first | assumption | omega) only [go_sem]
      · exact absurd rfl h0
    subst hhp
    rw [aw_grab]
    simp (disch := first | assumption | omega) only [go_sem, ↓reduceIte, reduceIte]
    subst hQ
    simp (disch := first | assumption | omega) only [R.grid_Meet, go_sem, ↓reduceIte, reduceIte]
    rw [← hfil, normC_nil]
    exact ⟨_, rfl, by simp [AVal.ids, idsL, cellsA], rfl⟩
  · simp (disch := first | assumption | omega) only [go_sem, ↓reduceIte, Nat.reduceEqDiff, reduceIte]
    refine callG_ok (DeleteFunc_ok _ _ _ _ (hpred h.length) (normC a) (h.length + 1) cap rest _ (by simp (disch := first | assumption | omega) only [go_sem]) (fun z => by simp (disch := first | assumption | omega) only [go_sem]; simp [HoldC]) (by omega) hcap) (by simp (disch := first | assumption | omega) only [go_sem]) ?_
    rintro _ _ ⟨rfl, rest', hrest', rfl⟩
    rw [hfil] at hrest' ⊢
    simp (disch := first | assumption | omega) only [go_sem, ↓reduceIte, reduceIte]
    refine own_cells (cs := meetC a b) (cap := cap) (rest := rest') (id := h.length + 1) (by simp (disch := first | assumption | omega) only [go_sem, ↓reduceIte, reduceIte]) (by simp (disch := first | assumption | omega) only [go_sem]) (by omega) (by omega) (by omega) ?_
    rw [aw_grab]
    simp (disch := first | assumption | omega) only [go_sem, ↓reduceIte, reduceIte]
    subst hQ
    simp (disch := first | assumption | omega) only [R.grid_Meet, go_sem, ↓reduceIte, reduceIte]
    refine ⟨[.cells [.lst (.app 2) (cellsA (normC b))], .dead], ?_, by simp [AVal.ids, cells_ids]⟩
    simp
theorem Minus_ok (o p : Own) (a b : List Cell) (ho : Rdn o a) (hp : Rdn p b) (hl : a.length + b.length < 65536) (h : List HObj) :
    ACalls Try.prog F.grid_Minus [.lst o (cellsA a), .lst p (cellsA b)] h (fun v h' => v = .lst (.app 2) (cellsA (minusC a b)) ∧ h' = h) := by
  have ho1 := ho.1
  have hp1 := hp.1
  have hnb := normC_len b
  have hna := normC_len a
  have hpred : ∀ bid, PredOk F.grid_Minus_1 [.hp bid 0] _ (HoldC bid (normC b)) := fun bid => isIn_ok (normC b) bid (normC_up b) (by omega)
  have hfil : (normC a).filter (fun c => !(decide (c ∈ normC b))) = minusC a b := by
    unfold minusC
    congr 1
    funext c
    simp [mem_normC]
  have hfl := filter_len (normC a) (fun c => !(decide (c ∈ normC b)))
  rw [hfil] at hfl
  refine ACalls.gcn (ACalls.of_aw Try.func143 K.grid_Minus (by simp [Try.f143]) ?_)
  generalize hQ : retQ R.grid_Minus _ = Q
  simp (disch := first | assumption | omega) only [C.grid_Minus, go_sem, ↓reduceIte, Nat.reduceEqDiff, Nat.reduceLeDiff, Nat.reduceLT, reduceIte, Int.reduceLT, Int.reduceMul, Nat.reduceMul]
  refine callG_ok (sortedA_ok .sh [b] _ (.inl rfl) ⟨_, _, rfl, ⟨p, hp, rfl⟩, rfl⟩ (by simp) (by simp) (by simp; omega) _) (by simp (disch := first | assumption | omega) only [go_sem]) ?_
  rintro _ _ ⟨rfl, hhh⟩
  rw [hhh]
  clear hhh
  have hfb : [b].flatten = b := by simp
  have hfa : [a].flatten = a := by simp
  rw [hfb]
  simp (disch := first | assumption | omega) only [go_sem, ↓reduceIte, Nat.reduceEqDiff, reduceCtorEq, Nat.reduceLeDiff, reduceIte, Int.reduceMul, Nat.reduceMul]
  refine callG_ok (sortedR_ok .sh [a] _ (.inl rfl) ⟨_, _, rfl, ⟨o, ho, rfl⟩, rfl⟩ (by simp) (by simp) (by simp; omega) _) (by simp (disch := first | assumption | omega) only [go_sem]) ?_
  intro r h1 hr
  rw [hfa] at hr
  rcases hr with ⟨rfl, rfl, rfl⟩ | ⟨cap, rest, rfl, hcap, hc0, hrest, rfl⟩
  · simp (disch := first | assumption | omega) only [go_sem, ↓reduceIte, Nat.reduceEqDiff, reduceIte]
    refine callG_ok (DeleteNone_ok _ _ 0 0 0 _) (by simp (disch := first | assumption | omega) only [go_sem]) ?_
    rintro _ _ ⟨rfl, hhh⟩
    rw [hhh]
    clear hhh
    simp (disch := first | assumption | omega) only [go_sem, ↓reduceIte, reduceIte]
    refine own_empty (id := 0) (off := 0) (cap := 0) (by simp (disch := first | assumption | omega) only [go_sem, ↓reduceIte, reduceIte]) (fun h => absurd rfl h) (fun h => by cases h) (by omega) ?_
    rintro hp2 hhp
    have hhp : hp2 = h ++ [.cells [.lst (.app 2) (cellsA (normC b))]] := by
      rcases hhp with ⟨rfl, _⟩ | ⟨_, h0⟩
      · simp (disch := first | assumption | omega) only [go_sem]
      · exact absurd rfl h0
    subst hhp
    rw [aw_grab]
    simp (disch := first | assumption | omega) only [go_sem, ↓reduceIte, reduceIte]
    subst hQ
    simp (disch := first | assumption | omega) only [R.grid_Minus, go_sem, ↓reduceIte, reduceIte]
    rw [← hfil, normC_nil]
    exact ⟨_, rfl, by simp [AVal.ids, idsL, cellsA], rfl⟩
  · simp (disch := first | assumption | omega) only [go_sem, ↓reduceIte, Nat.reduceEqDiff, reduceIte]
    refine callG_ok (DeleteFunc_ok _ _ _ _ (hpred h.length) (normC a) (h.length + 1) cap rest _ (by simp (disch := first | assumption | omega) only [go_sem]) (fun z => by simp (disch := first | assumption | omega) only [go_sem]; simp [HoldC]) (by omega) hcap) (by simp (disch := first | assumption | omega) only [go_sem]) ?_
    rintro _ _ ⟨rfl, rest', hrest', rfl⟩
    rw [hfil] at hrest' ⊢
    simp (disch := first | assumption | omega) only [go_sem, ↓reduceIte, reduceIte]
    refine own_cells (cs := minusC a b) (cap := cap) (rest := rest') (id := h.length + 1) (by simp (disch := first | assumption | omega) only [go_sem, ↓reduceIte, reduceIte]) (by simp (disch := first | assumption | omega) only [go_sem]) (by omega) (by omega) (by omega) ?_
    rw [aw_grab]
    simp (disch := first | assumption | omega) only [go_sem, ↓reduceIte, reduceIte]
    subst hQ
    simp (disch := first | assumption | omega) only [R.grid_Minus, go_sem, ↓reduceIte, reduceIte]
    refine ⟨[.cells [.lst (.app 2) (cellsA (normC b))], .dead], ?_, by simp [AVal.ids, cells_ids]⟩
    simp
theorem Within_ok (o p : Own) (a b : List Cell) (ho : Rdn o a) (hp : Rdn p b) (hl : a.length < 65536) (hl2 : b.length < 65536) (h : List HObj) :
    ACalls Try.prog F.grid_Within [.lst o (cellsA a), .lst p (cellsA b)] h (fun v h' => v = .bool (withinC a b) ∧ h' = h) := by
  have ho1 := ho.1
  have hp1 := hp.1
  have hnb := normC_len b
  refine ACalls.gcn (ACalls.of_aw Try.func147 K.grid_Within (by simp [Try.f147]) ?_)
  generalize hQ : retQ R.grid_Within _ = Q
  simp (disch := first | assumption | omega) only [C.grid_Within, go_sem, ↓reduceIte, Nat.reduceEqDiff, Nat.reduceLeDiff, Nat.reduceLT, reduceIte, Int.reduceLT, Int.reduceMul, Nat.reduceMul]
  refine callG_ok (sortedA_ok .sh [b] _ (.inl rfl) ⟨_, _, rfl, ⟨p, hp, rfl⟩, rfl⟩ (by simp) (by simp) (by simpa using hl2) _) (by simp (disch := first | assumption | omega) only [go_sem]) ?_
  rintro _ _ ⟨rfl, hhh⟩
  rw [hhh]
  clear hhh
  have hfb : [b].flatten = b := by simp
  rw [hfb]
  simp (disch := first | assumption | omega) only [go_sem, ↓reduceIte, Nat.reduceEqDiff, reduceCtorEq, Nat.reduceLeDiff, reduceIte]
  refine callG_ok (ContainsFunc_ok F.grid_Within_1 [.hp h.length 0] _ (HoldC h.length (normC b)) (notIn2_ok (normC b) h.length (normC_up b) (by omega)) o a ho1 _ (by simp (disch := first | assumption | omega) only [go_sem]; simp [HoldC]) (by omega)) (by simp (disch := first | assumption | omega) only [go_sem]) ?_
  rintro _ _ ⟨rfl, hhh⟩
  rw [hhh]
  clear hhh
  simp (disch := first | assumption | omega) only [go_sem, ↓reduceIte, reduceIte]
  subst hQ
  simp (disch := first | assumption | omega) only [R.grid_Within, go_sem, ↓reduceIte, reduceIte]
  refine ⟨_, rfl, by simp [AVal.ids], ?_⟩
  unfold withinC
  rw [← List.not_all_eq_any_not, Bool.not_not]
  congr 2
  funext c
  simp [mem_normC]
end Go.Proofs.Ytpdajkbfemcdlaa
/- Plain: events and what a controller knows. -/
set_option linter.unusedSimpArgs false
set_option linter.unusedVariables false
namespace Go.Proofs.Ytpdajkbfemcdlaa
open Go.Ge Go.Sort
abbrev Ev := Go.Ge.Event
def evF (e : Ev) : Int := if e.Kind < 1 ∨ e.Kind > 6 then 1 else if e.Kind = 1 ∧ (e.N < 0 ∨ e.N > 2147483647) ∨ e.Kind ≠ 1 ∧ e.N ≠ 0 then 2 else if e.Kind ≠ 3 ∧ e.Kind ≠ 5 ∧ 0 < e.Cells.length then 3 else cellsFault e.Cells
def memF (m : Mem) : Int := if m.Goal < 0 ∨ m.Ticks < 0 ∨ m.Falls < 0 then 1 else if cellsFault m.Asked ≠ 0 then cellsFault m.Asked else cellsFault m.Has
def mem0 : Mem := ⟨0, 0, [], [], 0⟩
def doF (m : Mem) (e : Ev) : Mem × Int :=
  if evF e ≠ 0 then (mem0, evF e) else if memF m ≠ 0 then (mem0, memF m) else
  if e.Kind = 1 then ({ m with Goal := e.N, Ticks := 0 }, 0)
  else if e.Kind = 2 then if m.Ticks ≥ 2000 then (mem0, 19) else ({ m with Ticks := m.Ticks + 1 }, 0)
  else if e.Kind = 3 then if 0 < m.Asked.length then (mem0, 7) else ({ m with Asked := minusC e.Cells m.Has }, 0)
  else if e.Kind = 4 then if cellsFault (joinC m.Has m.Asked) ≠ 0 then (mem0, 6) else ({ m with Has := joinC m.Has m.Asked, Asked := [] }, 0)
  else if e.Kind = 5 then if withinC e.Cells m.Has = false then (mem0, 4) else ({ m with Has := minusC m.Has e.Cells }, 0)
  else ({ m with Falls := IntKind.i64.wrap (m.Falls + 1) }, 0)
def evB (e : Ev) : List Int := (e.Kind % 256) :: (beBytes e.N 4 ++ cellsB e.Cells)
def evOf (b : List Int) : Ev := ⟨b.getD 0 0, val ((b.drop 1).take 4), cellsOf (b.drop 5)⟩
def ev0 : Ev := ⟨0, 0, []⟩
def rdE (b : List Int) : Int := if b.length < 5 then 14 else if b.length % 2 = 0 then 3 else evF (evOf b)
def rdEv (b : List Int) : Ev := if rdE b ≠ 0 then ev0 else evOf b
theorem evF_zero {e : Ev} (h : evF e = 0) : 1 ≤ e.Kind ∧ e.Kind ≤ 6 ∧ 0 ≤ e.N ∧ e.N ≤ 2147483647 ∧ cellsFault e.Cells = 0 := by
  unfold evF at h
  split at h
  · cases h
  split at h
  · cases h
  split at h
  · cases h
  refine ⟨?_, ?_, ?_, ?_, h⟩ <;> omega
theorem evB_length (e : Ev) : (evB e).length = 5 + 2 * e.Cells.length := by
  simp [evB, beBytes_length, cellsB_length]; omega
theorem evB_u8 (e : Ev) : ∀ x ∈ evB e, inU8 x := by
  intro x hx
  unfold evB at hx
  rcases List.mem_cons.1 hx with rfl | hx
  · unfold inU8; omega
  rcases List.mem_append.1 hx with hx | hx
  · exact beBytes_u8 _ _ x hx
  · exact cellsB_u8 _ x hx
theorem evOf_B {e : Ev} (h : evF e = 0) : evOf (evB e) = e := by
  obtain ⟨h1, h2, h3, h4, h5⟩ := evF_zero h
  obtain ⟨_, g2, _⟩ := fault_up h5
  have e1 : (e.Kind % 256) = e.Kind := by omega
  have e2 : ((evB e).drop 1).take 4 = beBytes e.N 4 := by
    unfold evB
    rw [List.drop_one, List.tail_cons, List.take_append_of_le_length (by rw [beBytes_length]; omega), List.take_of_length_le (by rw [beBytes_length]; omega)]
  have e3 : (evB e).drop 5 = cellsB e.Cells := by
    unfold evB
    rw [show (5 : Nat) = 4 + 1 from rfl, List.drop_succ_cons, List.drop_append, List.drop_of_length_le (by rw [beBytes_length]; omega), beBytes_length]; simp
  unfold evOf
  rw [e2, e3, val_be4 h3 (by omega), cellsOf_B _ g2]
  cases e
  simp only [evB, List.getD_cons_zero, Go.Ge.Event.mk.injEq, and_true] at *
  exact e1
theorem rdE_B {e : Ev} (h : evF e = 0) : rdE (evB e) = 0 ∧ rdEv (evB e) = e := by
  have hl := evB_length e
  have e0 : rdE (evB e) = 0 := by
    unfold rdE
    rw [if_neg (by omega), if_neg (by omega), evOf_B h, h]
  exact ⟨e0, by unfold rdEv; rw [if_neg (by simp [e0]), evOf_B h]⟩
/-- What is done keeps what is right. -/
theorem minusC_up (a b : List Cell) : Up (minusC a b) := (normC_up a).filter _
theorem minus_fault {a b : List Cell} (h : cellsFault a = 0) : cellsFault (minusC a b) = 0 := by
  obtain ⟨h1, h2, h3⟩ := fault_up h
  refine fault_of ?_ (fun c hc => h2 c ?_) (minusC_up a b)
  · exact Nat.le_trans (List.length_filter_le _ _) (Nat.le_trans (normC_len a) h1)
  · exact (mem_normC a c).1 (List.mem_filter.1 hc).1
theorem memF_zero {m : Mem} : memF m = 0 ↔ 0 ≤ m.Goal ∧ 0 ≤ m.Ticks ∧ 0 ≤ m.Falls ∧ cellsFault m.Asked = 0 ∧ cellsFault m.Has = 0 := by
  unfold memF
  split
  · constructor
    · intro h; cases h
    · intro h; omega
  · split
    · constructor
      · intro h; contradiction
      · intro h; exact absurd h.2.2.2.1 (by assumption)
    · constructor
      · intro h; refine ⟨?_, ?_, ?_, ?_, h⟩ <;> omega
      · intro h; exact h.2.2.2.2
theorem doF_zero {m : Mem} {e : Ev} (h : (doF m e).2 = 0) : evF e = 0 ∧ memF m = 0 := by
  unfold doF at h
  by_cases h1 : evF e ≠ 0
  · rw [if_pos h1] at h; exact absurd h h1
  rw [if_neg h1] at h
  by_cases h2 : memF m ≠ 0
  · rw [if_pos h2] at h; exact absurd h h2
  exact ⟨Decidable.not_not.1 h1, Decidable.not_not.1 h2⟩
theorem doF_right {m : Mem} {e : Ev} (hf : m.Falls < 9223372036854775807) (h : (doF m e).2 = 0) : memF (doF m e).1 = 0 := by
  obtain ⟨h1, h2⟩ := doF_zero h
  obtain ⟨k1, k2, k3, k4, k5⟩ := evF_zero h1
  obtain ⟨m1, m2, m3, m4, m5⟩ := memF_zero.1 h2
  have hw : IntKind.i64.wrap (m.Falls + 1) = m.Falls + 1 := wrapI64 (by omega) (by omega)
  unfold doF at h ⊢
  rw [if_neg (by simp [h1]), if_neg (by simp [h2])] at h ⊢
  repeat' split
  all_goals first
    | (exfalso; simp_all; done)
    | (refine memF_zero.2 ⟨?_, ?_, ?_, ?_, ?_⟩ <;> simp only [] <;> first | assumption | omega | exact minus_fault ‹_› | exact fault_of (by simp) (by simp) List.Pairwise.nil | (rw [hw]; omega) | simp_all)
def backF : Mem → Nat → List (List Int) → Mem × Nat × Int
  | m, i, [] => (m, i, 0)
  | m, i, r :: rs => if rdE r ≠ 0 then (mem0, i, rdE r) else if (doF m (rdEv r)).2 ≠ 0 then (mem0, i, (doF m (rdEv r)).2) else backF (doF m (rdEv r)).1 (i + 1) rs
/-- Events that are done one after the other. -/
def Chain : Mem → List Ev → Mem → Prop
  | m, [], n => m = n
  | m, e :: es, n => (doF m e).2 = 0 ∧ Chain (doF m e).1 es n
theorem chain_snoc : ∀ {m : Mem} {es : List Ev} {n : Mem} {e : Ev}, Chain m es n → (doF n e).2 = 0 → Chain m (es ++ [e]) (doF n e).1
  | m, [], n, e, h, he => by cases h; exact ⟨he, rfl⟩
  | m, x :: es, n, e, h, he => ⟨h.1, chain_snoc h.2 he⟩
theorem chain_mem : ∀ {m : Mem} {es : List Ev} {n : Mem}, Chain m es n → ∀ e ∈ es, evF e = 0
  | m, [], n, h, e, he => by cases he
  | m, x :: es, n, h, e, he => by
    rcases List.mem_cons.1 he with rfl | he
    · exact (doF_zero h.1).1
    · exact chain_mem h.2 e he
theorem backF_chain : ∀ {m : Mem} {es : List Ev} {n : Mem} (i : Nat), Chain m es n → backF m i (es.map evB) = (n, i + es.length, 0)
  | m, [], n, i, h => by cases h; rfl
  | m, e :: es, n, i, h => by
    obtain ⟨k1, k2⟩ := rdE_B (doF_zero h.1).1
    rw [List.map_cons, backF, k1, k2, if_neg (by simp), if_neg (by simp [h.1]), backF_chain (i + 1) h.2]
    simp only [List.length_cons, Prod.mk.injEq, and_true, true_and]
    omega
end Go.Proofs.Ytpdajkbfemcdlaa
/- Contracts: events, and what a controller knows. -/
set_option linter.unusedSimpArgs false
set_option linter.unusedVariables false
set_option maxRecDepth 10000
namespace Go.Proofs.Ytpdajkbfemcdlaa
open Go.Ge Go.Sort
def evF1 (e : Ev) : Int := if e.Kind < 1 ∨ e.Kind > 6 then 1 else if e.Kind = 1 ∧ (e.N < 0 ∨ e.N > 2147483647) ∨ e.Kind ≠ 1 ∧ e.N ≠ 0 then 2 else if e.Kind ≠ 3 ∧ e.Kind ≠ 5 ∧ 0 < e.Cells.length then 3 else 0
theorem evF_eq (e : Ev) : evF e = if evF1 e ≠ 0 then evF1 e else cellsFault e.Cells := by
  unfold evF evF1
  repeat' split
  all_goals first | rfl | contradiction | (exfalso; simp_all; done)
theorem FCheck_ok (o : Own) (e : Ev) (ho : Rdo o) (hl : e.Cells.length < 4611686018427387904) (h : List HObj) : ACalls Try.prog F.fall_Check [eventA o e] h (fun v h' => v = .int .i64 (evF e) ∧ h' = h) := by
  rw [evF_eq]
  refine ACalls.of_aw Try.func117 K.fall_Check (by simp [Try.f117]) ?_
  generalize hQ : retQ R.fall_Check _ = Q
  simp (disch := first | assumption | omega) only [C.fall_Check, go_sem, ↓reduceIte, Nat.reduceEqDiff, Nat.reduceLeDiff, reduceIte]
  simp (disch := first | assumption | omega) only [eventA, eventC, go_sem, Nat.reduceAdd, Int.reduceAdd]
  iterate 20 (all_goals (try ((first | refine aopsG_ifn (fun hb => ?_) (fun hb => ?_) | refine condG_ifn (fun hb => ?_) (fun hb => ?_) | refine aopsG_if (fun hb => ?_) (fun hb => ?_) | refine condG_if (fun hb => ?_) (fun hb => ?_) | refine aopsG_split (fun hb => ?_) (fun hb => ?_) | refine condG_split (fun hb => ?_) (fun hb => ?_)) <;> simp (disch := first | assumption | omega) only [hb, go_sem, ↓reduceIte, Nat.reduceEqDiff, Nat.reduceAdd, Nat.reduceLeDiff, Nat.reduceLT, reduceIte, Int.reduceLT, Int.reduceAdd, Int.reduceEq])))
  all_goals (try omega)
  all_goals first
    | (refine callG_ok (gridCheck_ok o e.Cells ho hl _) (by simp (disch := first | assumption | omega) only [go_sem]) ?_
       rintro _ _ ⟨rfl, hhh⟩
       rw [hhh]
       clear hhh
       simp (disch := first | assumption | omega) only [go_sem, ↓reduceIte, reduceIte]
       subst hQ
       simp (disch := first | assumption | omega) only [R.fall_Check, go_sem, ↓reduceIte, reduceIte]
       have : evF1 e = 0 := by unfold evF1; (repeat split) <;> omega
       rw [if_neg (by simp [this])])
    | (subst hQ
       simp (disch := first | assumption | omega) only [R.fall_Check, go_sem, ↓reduceIte, reduceIte]
       refine congrArg (AVal.int .i64) ?_
       have : evF1 e ≠ 0 := by unfold evF1; (repeat split) <;> omega
       rw [if_pos this]
       unfold evF1; (repeat split) <;> omega)
theorem Right_ok (o p : Own) (m : Mem) (ho : Rdo o) (hp : Rdo p) (hl : m.Asked.length < 4611686018427387904) (hl2 : m.Has.length < 4611686018427387904) (h : List HObj) : ACalls Try.prog F.fall_Right [memA o p m] h (fun v h' => v = .int .i64 (memF m) ∧ h' = h) := by
  unfold memF
  refine ACalls.of_aw Try.func120 K.fall_Right (by simp [Try.f120]) ?_
  generalize hQ : retQ R.fall_Right _ = Q
  simp (disch := first | assumption | omega) only [C.fall_Right, go_sem, ↓reduceIte, Nat.reduceEqDiff, Nat.reduceLeDiff, reduceIte]
  simp (disch := first | assumption | omega) only [memA, memC, go_sem, Nat.reduceAdd, Nat.reduceLT, Int.reduceLT, Int.reduceAdd]
  refine condG_if (fun h1 => ?_) fun h1 => ?_
  · simp (disch := first | assumption | omega) only [h1, go_sem]
    subst hQ
    simp (disch := first | assumption | omega) only [R.fall_Right, go_sem, ↓reduceIte, reduceIte]
    rw [if_pos (by omega)]
  simp (disch := first | assumption | omega) only [h1, go_sem, ↓reduceIte, Nat.reduceEqDiff, Nat.reduceAdd, Nat.reduceLeDiff, reduceIte, Int.reduceAdd]
  refine callG_ok (gridCheck_ok o m.Asked ho hl _) (by simp (disch := first | assumption | omega) only [go_sem]) ?_
  rintro _ _ ⟨rfl, hhh⟩
  rw [hhh]
  clear hhh
  simp (disch := first | assumption | omega) only [go_sem, ↓reduceIte, reduceIte]
  refine condG_ifn (fun h2 => ?_) fun h2 => ?_
  · simp (disch := first | assumption | omega) only [h2, go_sem, ↓reduceIte, Nat.reduceEqDiff, reduceIte]
    subst hQ
    simp (disch := first | assumption | omega) only [R.fall_Right, go_sem, ↓reduceIte, reduceIte]
    rw [if_neg (by omega)]
    split
    · rfl
    · rename_i h3; exact absurd h3 (by simp [h2])
  · simp (disch := first | assumption | omega) only [h2, go_sem, ↓reduceIte, Nat.reduceEqDiff, Nat.reduceAdd, Nat.reduceLeDiff, reduceIte, Int.reduceAdd]
    refine callG_ok (gridCheck_ok p m.Has hp hl2 _) (by simp (disch := first | assumption | omega) only [go_sem]) ?_
    rintro _ _ ⟨rfl, hhh⟩
    rw [hhh]
    clear hhh
    simp (disch := first | assumption | omega) only [go_sem, ↓reduceIte, reduceIte]
    subst hQ
    simp (disch := first | assumption | omega) only [R.fall_Right, go_sem, ↓reduceIte, reduceIte]
    rw [if_neg (by omega)]
    split
    · rename_i h3; exact absurd (by simpa using h2) h3
    · rfl
theorem FSame_ok (o1 p1 o2 p2 : Own) (a b : Mem) (h1 : Rdo o1) (k1 : Rdo p1) (h2 : Rdo o2) (k2 : Rdo p2) (l1 : a.Asked.length < 4611686018427387904) (l2 : b.Asked.length < 4611686018427387904) (l3 : a.Has.length < 4611686018427387904) (l4 : b.Has.length < 4611686018427387904) (h : List HObj) :
    ACalls Try.prog F.fall_Same [memA o1 p1 a, memA o2 p2 b] h (fun v h' => v = .bool (decide (a = b)) ∧ h' = h) := by
  refine ACalls.of_aw Try.func115 K.fall_Same (by simp [Try.f115]) ?_
  generalize hQ : retQ R.fall_Same _ = Q
  simp (disch := first | assumption | omega) only [C.fall_Same, go_sem, ↓reduceIte, Nat.reduceEqDiff, reduceCtorEq, Nat.reduceLeDiff, reduceIte]
  simp (disch := first | assumption | omega) only [memA, memC, go_sem, Nat.reduceAdd, Int.reduceAdd]
  by_cases c1 : a.Goal = b.Goal
  case neg =>
    simp (disch := first | assumption | omega) only [c1, go_sem, ↓reduceIte, Nat.reduceEqDiff, reduceIte]
    subst hQ
    simp (disch := first | assumption | omega) only [R.fall_Same, go_sem, ↓reduceIte, reduceIte]
    rw [decide_eq_false (fun e : a = b => c1 (by rw [e]))]
  by_cases c2 : a.Ticks = b.Ticks
  case neg =>
    simp (disch := first | assumption | omega) only [c1, c2, go_sem, ↓reduceIte, Nat.reduceEqDiff, Nat.reduceAdd, Nat.reduceLeDiff, reduceIte, Int.reduceAdd]
    subst hQ
    simp (disch := first | assumption | omega) only [R.fall_Same, go_sem, ↓reduceIte, reduceIte]
    rw [decide_eq_false (fun e : a = b => c2 (by rw [e]))]
  by_cases c3 : a.Falls = b.Falls
  case neg =>
    simp (disch := first | assumption | omega) only [c1, c2, c3, go_sem, ↓reduceIte, Nat.reduceEqDiff, Nat.reduceAdd, Nat.reduceLeDiff, Nat.reduceLT, reduceIte, Int.reduceLT, Int.reduceAdd]
    subst hQ
    simp (disch := first | assumption | omega) only [R.fall_Same, go_sem, ↓reduceIte, reduceIte]
    rw [decide_eq_false (fun e : a = b => c3 (by rw [e]))]
  simp (disch := first | assumption | omega) only [c1, c2, c3, go_sem, ↓reduceIte, Nat.reduceEqDiff, Nat.reduceAdd, Nat.reduceLeDiff, Nat.reduceLT, reduceIte, Int.reduceLT, Int.reduceAdd]
  refine callG_ok (EqualCell_ok o1 o2 a.Asked b.Asked h1 h2 l1 l2 _) (by simp (disch := first | assumption | omega) only [go_sem]) ?_
  rintro _ _ ⟨rfl, hhh⟩
  rw [hhh]
  clear hhh
  by_cases c4 : a.Asked = b.Asked
  case neg =>
    rw [decide_eq_false c4]
    simp (disch := first | assumption | omega) only [go_sem, ↓reduceIte, Nat.reduceEqDiff, reduceIte]
    subst hQ
    simp (disch := first | assumption | omega) only [R.fall_Same, go_sem, ↓reduceIte, reduceIte]
    rw [decide_eq_false (fun e : a = b => c4 (by rw [e]))]
  rw [decide_eq_true c4]
  simp (disch := first | assumption | omega) only [go_sem, ↓reduceIte, Nat.reduceEqDiff, Nat.reduceAdd, Nat.reduceLeDiff, reduceIte, Int.reduceAdd]
  refine callG_ok (EqualCell_ok p1 p2 a.Has b.Has k1 k2 l3 l4 _) (by simp (disch := first | assumption | omega) only [go_sem]) ?_
  rintro _ _ ⟨rfl, hhh⟩
  rw [hhh]
  clear hhh
  simp (disch := first | assumption | omega) only [go_sem, ↓reduceIte, Nat.reduceEqDiff, reduceIte]
  subst hQ
  simp (disch := first | assumption | omega) only [R.fall_Same, go_sem, ↓reduceIte, reduceIte]
  congr 2
  refine propext ⟨?_, ?_⟩
  · intro e
    cases a; cases b
    simp only [Mem.mk.injEq] at *
    exact ⟨c1, c2, c4, e, c3⟩
  · intro e; rw [e]
end Go.Proofs.Ytpdajkbfemcdlaa
/- Contracts: what a controller does. -/
set_option linter.unusedSimpArgs false
set_option linter.unusedVariables false
set_option maxRecDepth 10000
namespace Go.Proofs.Ytpdajkbfemcdlaa
open Go.Ge Go.Sort
def DoQ (m : Mem) (e : Ev) (v : AVal) : Prop := ∃ o' p', v = .tup [memA o' p' (doF m e).1, .int .i64 (doF m e).2] ∧ Rdn o' (doF m e).1.Asked ∧ Rdn p' (doF m e).1.Has
theorem DoQ.none {m : Mem} {e : Ev} {x : Int} (h : doF m e = (mem0, x)) : DoQ m e (.tup [.agg [.int .i64 0, .int .i64 0, .lst .nil [], .lst .nil [], .int .i64 0], .int .i64 x]) := by
  unfold DoQ
  rw [h]
  exact ⟨.nil, .nil, rfl, ⟨.inr rfl, fun _ => rfl⟩, ⟨.inr rfl, fun _ => rfl⟩⟩
theorem Do_ok (o p q : Own) (m : Mem) (e : Ev) (ho : Rdn o m.Asked) (hp : Rdn p m.Has) (hq : Rdn q e.Cells) (l1 : m.Asked.length < 4611686018427387904) (l2 : m.Has.length < 4611686018427387904) (l3 : e.Cells.length < 4611686018427387904) (h : List HObj) :
    ACalls Try.prog F.fall_Do [memA o p m, eventA q e] h (fun v h' => DoQ m e v ∧ h' = h) := by
  have ho1 := ho.1
  have hp1 := hp.1
  have hq1 := hq.1
  refine ACalls.of_aw Try.func110 K.fall_Do (by simp [Try.f110]) ?_
  generalize hQ : retQ R.fall_Do _ = Q
  simp (disch := first | assumption | omega) only [C.fall_Do, go_sem, ↓reduceIte, Nat.reduceEqDiff, reduceCtorEq, Nat.reduceLeDiff, reduceIte]
  simp (disch := first | assumption | omega) only [memA, memC, eventA, eventC, go_sem, Nat.reduceAdd, Nat.reduceLeDiff, Int.reduceAdd]
  refine callG_ok (FCheck_ok q e hq1 l3 _) (by simp (disch := first | assumption | omega) only [go_sem]) ?_
  rintro _ _ ⟨rfl, hhh⟩
  rw [hhh]
  clear hhh
  by_cases hc : evF e = 0
  case neg =>
    simp (disch := first | assumption | omega) only [hc, go_sem, ↓reduceIte, Nat.reduceEqDiff, Nat.reduceAdd, Nat.reduceLeDiff, reduceIte, Int.reduceAdd]
    subst hQ
    simp (disch := first | assumption | omega) only [R.fall_Do, go_sem, ↓reduceIte, Nat.reduceEqDiff, Nat.reduceAdd, reduceIte, Int.reduceAdd]
    exact DoQ.none (by unfold doF; rw [if_pos hc])
  simp (disch := first | assumption | omega) only [hc, go_sem, ↓reduceIte, Nat.reduceEqDiff, Nat.reduceAdd, Nat.reduceLeDiff, reduceIte, Int.reduceAdd]
  refine callG_ok (Right_ok o p m ho1 hp1 l1 l2 _) (by simp (disch := first | assumption | omega) only [go_sem]) ?_
  rintro _ _ ⟨rfl, hhh⟩
  rw [hhh]
  clear hhh
  by_cases hr : memF m = 0
  case neg =>
    simp (disch := first | assumption | omega) only [hr, go_sem, ↓reduceIte, Nat.reduceEqDiff, Nat.reduceAdd, Nat.reduceLeDiff, reduceIte, Int.reduceAdd]
    subst hQ
    simp (disch := first | assumption | omega) only [R.fall_Do, go_sem, ↓reduceIte, Nat.reduceEqDiff, Nat.reduceAdd, reduceIte, Int.reduceAdd]
    exact DoQ.none (by unfold doF; rw [if_neg (by simp [hc]), if_pos hr])
  simp (disch := first | assumption | omega) only [hr, go_sem, ↓reduceIte, Nat.reduceEqDiff, Nat.reduceAdd, Nat.reduceLeDiff, reduceIte, Int.reduceAdd]
  have hd : doF m e = (if e.Kind = 1 then ({ m with Goal := e.N, Ticks := 0 }, 0)
    else if e.Kind = 2 then if m.Ticks ≥ 2000 then (mem0, 19) else ({ m with Ticks := m.Ticks + 1 }, 0)
    else if e.Kind = 3 then if 0 < m.Asked.length then (mem0, 7) else ({ m with Asked := minusC e.Cells m.Has }, 0)
    else if e.Kind = 4 then if cellsFault (joinC m.Has m.Asked) ≠ 0 then (mem0, 6) else ({ m with Has := joinC m.Has m.Asked, Asked := [] }, 0)
    else if e.Kind = 5 then if withinC e.Cells m.Has = false then (mem0, 4) else ({ m with Has := minusC m.Has e.Cells }, 0)
    else ({ m with Falls := IntKind.i64.wrap (m.Falls + 1) }, 0)) := by
    conv => lhs; unfold doF
    rw [if_neg (by simp [hc]), if_neg (by simp [hr])]
  obtain ⟨e1, e2, e3, e4, e5⟩ := evF_zero hc
  obtain ⟨m1, m2, m3, m4, m5⟩ := memF_zero.1 hr
  have f1 := (fault_up m4).1
  have f2 := (fault_up m5).1
  have f3 := (fault_up e5).1
  refine callG_ok (CloneCell_ok o m.Asked ho (by unfold reachBytes; omega) _) (by simp (disch := first | assumption | omega) only [go_sem]) ?_
  rintro _ _ ⟨⟨o2, rfl, ho2⟩, hhh⟩
  rw [hhh]
  clear hhh
  have ho3 : o2 = .nil ∨ o2 = .sh ∨ ∃ z, o2 = .app z := by rcases ho2 with ⟨rfl, _⟩ | rfl; exact .inl rfl; exact .inr (.inr ⟨_, rfl⟩)
  obtain ⟨a1, ha1, ha2, ha3, ha4, ha5⟩ := own_rd (cellsA m.Asked) ho3
  simp (disch := first | assumption | omega) only [go_sem, ↓reduceIte, Nat.reduceEqDiff, reduceIte]
  refine callG_ok (CloneCell_ok p m.Has hp (by unfold reachBytes; omega) _) (by simp (disch := first | assumption | omega) only [go_sem]) ?_
  rintro _ _ ⟨⟨p2, rfl, hp2⟩, hhh⟩
  rw [hhh]
  clear hhh
  have hp3 : p2 = .nil ∨ p2 = .sh ∨ ∃ z, p2 = .app z := by rcases hp2 with ⟨rfl, _⟩ | rfl; exact .inl rfl; exact .inr (.inr ⟨_, rfl⟩)
  obtain ⟨b1, hb1, hb2, hb3, hb4, hb5⟩ := own_rd (cellsA m.Has) hp3
  have hA : Rdn a1 m.Asked := ⟨ha1, fun e => by
    rcases ho2 with ⟨_, h⟩ | rfl
    · exact h
    · cases ha2 e⟩
  have hB : Rdn b1 m.Has := ⟨hb1, fun e => by
    rcases hp2 with ⟨_, h⟩ | rfl
    · exact h
    · cases hb2 e⟩
  by_cases k1 : e.Kind = 1
  · rw [if_pos k1] at hd
    simp (disch := first | assumption | omega) only [ha5, hb5, k1, go_sem, ↓reduceIte, Nat.reduceEqDiff, Nat.reduceAdd, Nat.reduceLeDiff, reduceIte, Int.reduceAdd]
    subst hQ
    simp (disch := first | assumption | omega) only [R.fall_Do, go_sem, ↓reduceIte, Nat.reduceEqDiff, Nat.reduceAdd, reduceIte, Int.reduceAdd]
    exact ⟨a1, b1, by rw [hd]; rfl, by rw [hd]; exact hA, by rw [hd]; exact hB⟩
  rw [if_neg k1] at hd
  by_cases k2 : e.Kind = 2
  · rw [if_pos k2] at hd
    by_cases c : m.Ticks ≥ 2000
    · rw [if_pos c] at hd
      simp (disch := first | assumption | omega) only [k2, c, go_sem, ↓reduceIte, Nat.reduceEqDiff, Nat.reduceAdd, Nat.reduceLeDiff, reduceIte, Int.reduceAdd, Int.reduceEq]
      subst hQ
      simp (disch := first | assumption | omega) only [R.fall_Do, go_sem, ↓reduceIte, Nat.reduceEqDiff, Nat.reduceAdd, reduceIte, Int.reduceAdd]
      exact DoQ.none hd
    · rw [if_neg c] at hd
      simp (disch := first | assumption | omega) only [ha5, hb5, k2, c, go_sem, ↓reduceIte, Nat.reduceEqDiff, Nat.reduceAdd, Nat.reduceLeDiff, reduceIte, Int.reduceAdd, Int.reduceEq]
      subst hQ
      simp (disch := first | assumption | omega) only [R.fall_Do, go_sem, ↓reduceIte, Nat.reduceEqDiff, Nat.reduceAdd, reduceIte, Int.reduceAdd]
      exact ⟨a1, b1, by rw [hd]; rfl, by rw [hd]; exact hA, by rw [hd]; exact hB⟩
  rw [if_neg k2] at hd
  by_cases k3 : e.Kind = 3
  · rw [if_pos k3] at hd
    by_cases c : 0 < m.Asked.length
    · rw [if_pos c] at hd
      have c' : (0 : Int) < m.Asked.length := by omega
      simp (disch := first | assumption | omega) only [ha5, k3, c', go_sem, ↓reduceIte, Nat.reduceEqDiff, Nat.reduceAdd, Nat.reduceLeDiff, reduceIte, Int.reduceAdd, Int.reduceEq]
      subst hQ
      simp (disch := first | assumption | omega) only [R.fall_Do, go_sem, ↓reduceIte, Nat.reduceEqDiff, Nat.reduceAdd, reduceIte, Int.reduceAdd]
      exact DoQ.none hd
    · rw [if_neg c] at hd
      have c' : ¬((0 : Int) < m.Asked.length) := by omega
      simp (disch := first | assumption | omega) only [ha5, hb5, k3, c', go_sem, ↓reduceIte, Nat.reduceEqDiff, Nat.reduceAdd, Nat.reduceLeDiff, Nat.reduceLT, reduceIte, Int.reduceLT, Int.reduceAdd, Int.reduceEq]
      refine callG_ok (Minus_ok q b1 e.Cells m.Has hq hB (by omega) _) (by simp (disch := first | assumption | omega) only [go_sem]) ?_
      rintro _ _ ⟨rfl, hhh⟩
      rw [hhh]
      clear hhh
      simp (disch := first | assumption | omega) only [hb5, go_sem, ↓reduceIte, Nat.reduceEqDiff, Nat.reduceAdd, Nat.reduceLeDiff, reduceIte, Int.reduceAdd]
      subst hQ
      simp (disch := first | assumption | omega) only [R.fall_Do, go_sem, ↓reduceIte, Nat.reduceEqDiff, Nat.reduceAdd, reduceIte, Int.reduceAdd]
      exact ⟨.sh, b1, by rw [hd]; rfl, ⟨.inl rfl, fun h => by cases h⟩, by rw [hd]; exact hB⟩
  rw [if_neg k3] at hd
  by_cases k4 : e.Kind = 4
  · rw [if_pos k4] at hd
    simp (disch := first | assumption | omega) only [ha5, hb5, k4, go_sem, ↓reduceIte, Nat.reduceEqDiff, Nat.reduceAdd, Nat.reduceLeDiff, reduceIte, Int.reduceAdd, Int.reduceEq]
    refine callG_ok (Join_ok b1 a1 m.Has m.Asked hB hA (by omega) _) (by simp (disch := first | assumption | omega) only [go_sem]) ?_
    rintro _ _ ⟨rfl, hhh⟩
    rw [hhh]
    clear hhh
    have hjl : (joinC m.Has m.Asked).length ≤ 800 := Nat.le_trans (normC_len _) (by rw [List.length_append]; omega)
    simp (disch := first | assumption | omega) only [go_sem, ↓reduceIte, reduceIte]
    refine callG_ok (gridCheck_ok .sh (joinC m.Has m.Asked) (.inl rfl) (by omega) _) (by simp (disch := first | assumption | omega) only [go_sem]) ?_
    rintro _ _ ⟨rfl, hhh⟩
    rw [hhh]
    clear hhh
    by_cases c : cellsFault (joinC m.Has m.Asked) = 0
    · rw [if_neg (by simp [c])] at hd
      simp (disch := first | assumption | omega) only [c, go_sem, ↓reduceIte, Nat.reduceEqDiff, Nat.reduceAdd, Nat.reduceLeDiff, reduceIte, Int.reduceAdd]
      subst hQ
      simp (disch := first | assumption | omega) only [R.fall_Do, go_sem, ↓reduceIte, Nat.reduceEqDiff, Nat.reduceAdd, reduceIte, Int.reduceAdd]
      exact ⟨.nil, .sh, by rw [hd]; rfl, by rw [hd]; exact ⟨.inr rfl, fun _ => rfl⟩, ⟨.inl rfl, fun h => by cases h⟩⟩
    · rw [if_pos c] at hd
      simp (disch := first | assumption | omega) only [c, go_sem, ↓reduceIte, Nat.reduceEqDiff, Nat.reduceAdd, Nat.reduceLeDiff, reduceIte, Int.reduceAdd]
      subst hQ
      simp (disch := first | assumption | omega) only [R.fall_Do, go_sem, ↓reduceIte, Nat.reduceEqDiff, Nat.reduceAdd, reduceIte, Int.reduceAdd]
      exact DoQ.none hd
  rw [if_neg k4] at hd
  by_cases k5 : e.Kind = 5
  · rw [if_pos k5] at hd
    simp (disch := first | assumption | omega) only [hb5, k5, go_sem, ↓reduceIte, Nat.reduceEqDiff, Nat.reduceAdd, Nat.reduceLeDiff, Nat.reduceLT, reduceIte, Int.reduceLT, Int.reduceAdd, Int.reduceEq]
    refine callG_ok (Within_ok q b1 e.Cells m.Has hq hB (by omega) (by omega) _) (by simp (disch := first | assumption | omega) only [go_sem]) ?_
    rintro _ _ ⟨rfl, hhh⟩
    rw [hhh]
    clear hhh
    by_cases c : withinC e.Cells m.Has = false
    · rw [if_pos c] at hd
      rw [c]
      simp (disch := first | assumption | omega) only [go_sem, ↓reduceIte, Nat.reduceEqDiff, Nat.reduceAdd, Nat.reduceLeDiff, reduceIte, Int.reduceAdd]
      subst hQ
      simp (disch := first | assumption | omega) only [R.fall_Do, go_sem, ↓reduceIte, Nat.reduceEqDiff, Nat.reduceAdd, reduceIte, Int.reduceAdd]
      exact DoQ.none hd
    · rw [if_neg c] at hd
      rw [show withinC e.Cells m.Has = true by simpa using c]
      simp (disch := first | assumption | omega) only [hb5, go_sem, ↓reduceIte, Nat.reduceEqDiff, Nat.reduceAdd, Nat.reduceLeDiff, Nat.reduceLT, reduceIte, Int.reduceLT, Int.reduceAdd]
      refine callG_ok (Minus_ok b1 q m.Has e.Cells hB hq (by omega) _) (by simp (disch := first | assumption | omega) only [go_sem]) ?_
      rintro _ _ ⟨rfl, hhh⟩
      rw [hhh]
      clear hhh
      simp (disch := first | assumption | omega) only [ha5, go_sem, ↓reduceIte, Nat.reduceEqDiff, Nat.reduceAdd, Nat.reduceLeDiff, reduceIte, Int.reduceAdd]
      subst hQ
      simp (disch := first | assumption | omega) only [R.fall_Do, go_sem, ↓reduceIte, Nat.reduceEqDiff, Nat.reduceAdd, reduceIte, Int.reduceAdd]
      exact ⟨a1, .sh, by rw [hd]; rfl, by rw [hd]; exact hA, ⟨.inl rfl, fun h => by cases h⟩⟩
  rw [if_neg k5] at hd
  have k6 : e.Kind = 6 := by omega
  simp (disch := first | assumption | omega) only [ha5, hb5, k6, go_sem, ↓reduceIte, Nat.reduceEqDiff, Nat.reduceAdd, Nat.reduceLeDiff, Nat.reduceLT, reduceIte, Int.reduceLT, Int.reduceAdd, Int.reduceEq]
  subst hQ
  simp (disch := first | assumption | omega) only [R.fall_Do, go_sem, ↓reduceIte, Nat.reduceEqDiff, Nat.reduceAdd, reduceIte, Int.reduceAdd]
  exact ⟨a1, b1, by rw [hd]; rfl, by rw [hd]; exact hA, by rw [hd]; exact hB⟩
end Go.Proofs.Ytpdajkbfemcdlaa
/- Contracts: messages by the second implementation. -/
set_option linter.unusedSimpArgs false
set_option linter.unusedVariables false
set_option maxRecDepth 10000
namespace Go.Proofs.Ytpdajkbfemcdlaa
open Go.Ge
theorem cells_step : ∀ (i : Nat) (l : List Int), 2 * i + 1 < l.length → cellsOf (l.take (2 * (i + 1))) = cellsOf (l.take (2 * i)) ++ [⟨l.getD (2 * i) 0 - 64, l.getD (2 * i + 1) 0 - 64⟩]
  | 0, x :: y :: l, _ => by simp [cellsOf]
  | i + 1, x :: y :: l, h => by
    have ih := cells_step i l (by simp at h; omega)
    rw [show 2 * (i + 1 + 1) = 2 * (i + 1) + 1 + 1 from by omega, List.take_succ_cons, List.take_succ_cons, show 2 * (i + 1) = 2 * i + 1 + 1 from by omega, List.take_succ_cons, List.take_succ_cons]
    rw [show 2 * (i + 1) = 2 * i + 1 + 1 from by omega] at ih
    simp only [cellsOf, ih, List.cons_append, List.getD_cons_succ]
  | 0, [], h => by simp at h
  | 0, [_], h => by simp at h
  | i + 1, [], h => by simp at h
  | i + 1, [_], h => by simp at h
end Go.Proofs.Ytpdajkbfemcdlaa
/- Contracts: events are written. -/
set_option linter.unusedSimpArgs false
set_option linter.unusedVariables false
set_option maxRecDepth 10000
namespace Go.Proofs.Ytpdajkbfemcdlaa
open Go.Ge Go.Sort
theorem shr24i {n : Int} (h0 : 0 ≤ n) : n.fdiv (2 ^ min (Int.toNat 24) 64) = n / 256 / 256 / 256 := by
  rw [show min (Int.toNat 24) 64 = 24 from rfl, fdiv_pow h0]; omega
theorem shr16i {n : Int} (h0 : 0 ≤ n) : n.fdiv (2 ^ min (Int.toNat 16) 64) = n / 256 / 256 := by
  rw [show min (Int.toNat 16) 64 = 16 from rfl, fdiv_pow h0]; omega
/-- What comes of an event that is written. -/
def WrQ (e : Ev) (v : AVal) : Prop :=
  evF e ≠ 0 ∧ v = .tup [.lst .nil [], .int .i64 (evF e)] ∨ evF e = 0 ∧ v = .tup [.lst (.app 1) (ints .u8 (evB e)), .int .i64 0]
def headE (e : Ev) : List Int := (e.Kind % 256) :: beBytes e.N 4
theorem FWrite_ok (o : Own) (e : Ev) (ho : Rdo o) (hl : e.Cells.length < 4611686018427387904) (h : List HObj) :
    ACalls Try.prog F.fall_Write [eventA o e] h (fun v h' => WrQ e v ∧ h' = h) := by
  refine ACalls.of_aw Try.func118 K.fall_Write (by simp [Try.f118]) ?_
  generalize hQ : retQ R.fall_Write _ = Q
  simp (disch := first | assumption | omega) only [C.fall_Write, go_sem, ↓reduceIte, Nat.reduceEqDiff, Nat.reduceLeDiff, reduceIte]
  simp (disch := first | assumption | omega) only [eventA, eventC, go_sem, Nat.reduceAdd, Nat.reduceLeDiff, Int.reduceAdd]
  refine callG_ok (FCheck_ok o e ho hl _) (by simp (disch := first | assumption | omega) only [go_sem]) ?_
  rintro _ _ ⟨rfl, hhh⟩
  rw [hhh]
  clear hhh
  by_cases hc : evF e = 0
  · obtain ⟨k1, k2, k3, k4, k5⟩ := evF_zero hc
    obtain ⟨g1, g2, g3⟩ := fault_up k5
    simp (disch := first | assumption | omega) only [hc, wrapU8_mod, shr24i k3, shr16i k3, shr8' k3, go_sem, ↓reduceIte, Nat.reduceEqDiff, Nat.reduceAdd, Nat.reduceLeDiff, Nat.reduceLT, reduceIte, Int.reduceLT, Int.reduceLE, Int.reduceAdd, Int.reduceMul, Nat.reduceMul]
    refine aw_count (fun d S => ∃ (i : Nat), i + d = e.Cells.length ∧ S.env 35 = .int .i64 i ∧ S.env 34 = .int .i64 e.Cells.length ∧ S.env 33 = .lst o (cellsA e.Cells) ∧ S.env 5 = .lst (.app 1) (ints .u8 (headE e ++ cellsB (e.Cells.take i))) ∧ S.heap = h) (n := e.Cells.length)
      ⟨0, by omega, by simp (disch := first | assumption | omega) only [go_sem, ↓reduceIte, reduceIte], by simp (disch := first | assumption | omega) only [go_sem, ↓reduceIte, Nat.reduceEqDiff, reduceIte], by simp (disch := first | assumption | omega) only [go_sem, ↓reduceIte, Nat.reduceEqDiff, reduceIte], by simp (disch := first | assumption | omega) only [headE, cellsB, be4, ints, List.flatMap_nil, go_sem, ↓reduceIte, Nat.reduceEqDiff, reduceIte], by simp (disch := first | assumption | omega) only [go_sem]⟩ ?_
    rintro d S ⟨i, hi, e48, e47, e46, e5, eh⟩
    simp (disch := first | assumption | omega) only [e48, e47, go_sem, ↓reduceIte, reduceIte]
    refine condG_if (fun hlt => ?_) fun hge => ?_
    · have hlt : i < e.Cells.length := by omega
      have hat := at_cells hlt
      have hon := g2 _ (List.getElem_mem hlt)
      unfold onG at hon
      have hst := take_snoc hlt
      have hcl : (headE e).length + (cellsB (e.Cells.take i)).length ≤ 813 := by
        rw [cellsB_length, List.length_take]; simp [headE, beBytes_length]; omega
      simp (disch := first | assumption | omega) only [e48, e47, e46, e5, eh, hat, cellA, hlt, wrapU8_mod, go_sem, ↓reduceIte, Nat.reduceEqDiff, Nat.reduceAdd, Nat.reduceLeDiff, Nat.reduceLT, reduceIte, Int.reduceLT, Int.reduceAdd, Int.reduceMul, Nat.reduceMul]
      refine ⟨by omega, by omega, d - 1, by omega, i + 1, by omega, by simp, ?_⟩
      rw [hst, cellsB_snoc, ← List.append_assoc, ← ints_append _ (cellB _)]
      rfl
    · obtain rfl : i = e.Cells.length := by omega
      rw [List.take_length] at e5
      simp (disch := first | assumption | omega) only [e5, go_sem, ↓reduceIte, Nat.reduceEqDiff, reduceIte]
      subst hQ
      simp (disch := first | assumption | omega) only [R.fall_Write, eh, go_sem, ↓reduceIte, Nat.reduceEqDiff, reduceIte]
      exact .inr ⟨hc, rfl⟩
  · simp (disch := first | assumption | omega) only [hc, go_sem, ↓reduceIte, Nat.reduceEqDiff, reduceIte]
    subst hQ
    simp (disch := first | assumption | omega) only [R.fall_Write, go_sem, ↓reduceIte, Nat.reduceEqDiff, reduceIte]
    exact .inl ⟨hc, rfl⟩
theorem or64 {x y : Nat} (hx : x < 4294967296) (hy : y < 4294967296) : bitsV .or .i64 (x : Int) (y : Int) = ((x ||| y : Nat) : Int) := by
  show IntKind.i64.wrap ((BitVec.ofInt 64 (x : Int) ||| BitVec.ofInt 64 (y : Int)).toNat : Int) = _
  have h := Nat.or_lt_two_pow (x := x) (y := y) (n := 32) (by omega) (by omega)
  rw [BitVec.ofInt_natCast, BitVec.ofInt_natCast, BitVec.toNat_or, BitVec.toNat_ofNat, BitVec.toNat_ofNat, Nat.mod_eq_of_lt (by omega), Nat.mod_eq_of_lt (by omega), wrapI64 (by omega) (by omega)]
theorem val4 {a b c d : Int} (ha : 0 ≤ a ∧ a < 256) (hb : 0 ≤ b ∧ b < 256) (hc : 0 ≤ c ∧ c < 256) (hd : 0 ≤ d ∧ d < 256) :
    bitsV .or .i64 (bitsV .or .i64 (bitsV .or .i64 (IntKind.i64.wrap (a * 2 ^ min (Int.toNat 24) 64)) (IntKind.i64.wrap (b * 2 ^ min (Int.toNat 16) 64))) (IntKind.i64.wrap (c * 2 ^ min (Int.toNat 8) 64))) d = ((a * 256 + b) * 256 + c) * 256 + d := by
  obtain ⟨a, rfl⟩ := Int.eq_ofNat_of_zero_le ha.1
  obtain ⟨b, rfl⟩ := Int.eq_ofNat_of_zero_le hb.1
  obtain ⟨c, rfl⟩ := Int.eq_ofNat_of_zero_le hc.1
  obtain ⟨d, rfl⟩ := Int.eq_ofNat_of_zero_le hd.1
  have w1 : IntKind.i64.wrap ((a : Int) * 2 ^ min (Int.toNat 24) 64) = ((2 ^ 24 * a : Nat) : Int) := by
    rw [show min (Int.toNat 24) 64 = 24 from rfl, wrapI64 (by omega) (by omega)]; omega
  have w2 : IntKind.i64.wrap ((b : Int) * 2 ^ min (Int.toNat 16) 64) = ((2 ^ 16 * b : Nat) : Int) := by
    rw [show min (Int.toNat 16) 64 = 16 from rfl, wrapI64 (by omega) (by omega)]; omega
  have w3 : IntKind.i64.wrap ((c : Int) * 2 ^ min (Int.toNat 8) 64) = ((2 ^ 8 * c : Nat) : Int) := by
    rw [show min (Int.toNat 8) 64 = 8 from rfl, wrapI64 (by omega) (by omega)]; omega
  rw [w1, w2, w3, or64 (by omega) (by omega)]
  have o1 : 2 ^ 24 * a ||| 2 ^ 16 * b = 2 ^ 16 * (2 ^ 8 * a + b) := by
    rw [← Nat.two_pow_add_eq_or_of_lt (i := 24) (by omega)]; omega
  rw [o1, or64 (by omega) (by omega)]
  have o2 : 2 ^ 16 * (2 ^ 8 * a + b) ||| 2 ^ 8 * c = 2 ^ 8 * (2 ^ 8 * (2 ^ 8 * a + b) + c) := by
    rw [← Nat.two_pow_add_eq_or_of_lt (i := 16) (by omega)]; omega
  rw [o2, or64 (by omega) (by omega)]
  rw [← Nat.two_pow_add_eq_or_of_lt (i := 8) (by omega)]; omega
theorem val_four {b : List Int} (h : 5 ≤ b.length) : val ((b.drop 1).take 4) = ((b.getD 1 0 * 256 + b.getD 2 0) * 256 + b.getD 3 0) * 256 + b.getD 4 0 := by
  match b, h with
  | x0 :: x1 :: x2 :: x3 :: x4 :: r, _ =>
    simp only [List.drop_succ_cons, List.drop_zero, List.take_succ_cons, List.take_zero, val, List.foldl_cons, List.foldl_nil, List.getD_cons_succ, List.getD_cons_zero]
    omega
theorem FRead_ok (o : Own) (b : List Int) (ho : Rdo o) (hb : ∀ x ∈ b, inU8 x) (hl : b.length ≤ 1099511627776) (h : List HObj) :
    ACalls Try.prog F.fall_Read [.lst o (ints .u8 b)] h (fun v h' => (∃ q, v = .tup [eventA q (rdEv b), .int .i64 (rdE b)] ∧ Rdn q (rdEv b).Cells) ∧ h' = h) := by
  refine ACalls.of_aw Try.func125 K.fall_Read (by simp [Try.f125]) ?_
  generalize hQ : retQ R.fall_Read _ = Q
  simp (disch := first | assumption | omega) only [C.fall_Read, go_sem, ↓reduceIte, reduceCtorEq, reduceIte]
  by_cases h5 : b.length < 5
  · have h5' : (b.length : Int) < 5 := by omega
    have hE : rdE b = 14 := by unfold rdE; rw [if_pos h5]
    have hV : rdEv b = ev0 := by unfold rdEv; rw [if_pos (by rw [hE]; decide)]
    simp (disch := first | assumption | omega) only [h5', go_sem, ↓reduceIte, Nat.reduceEqDiff, Nat.reduceAdd, Nat.reduceLeDiff, reduceIte, Int.reduceAdd]
    subst hQ
    simp (disch := first | assumption | omega) only [R.fall_Read, go_sem, ↓reduceIte, Nat.reduceEqDiff, Nat.reduceAdd, reduceIte, Int.reduceAdd]
    rw [hE, hV]
    exact ⟨.nil, rfl, .inr rfl, fun _ => rfl⟩
  have h5' : ¬ (b.length : Int) < 5 := by omega
  have hrem : (b.length : Int).tmod 2 = ((b.length % 2 : Nat) : Int) := by rw [Int.tmod_eq_emod_of_nonneg (by omega)]; omega
  by_cases h2 : b.length % 2 = 0
  · have hE : rdE b = 3 := by unfold rdE; rw [if_neg h5, if_pos h2]
    have hV : rdEv b = ev0 := by unfold rdEv; rw [if_pos (by rw [hE]; decide)]
    simp (disch := first | assumption | omega) only [h5', hrem, h2, go_sem, ↓reduceIte, Nat.reduceEqDiff, reduceCtorEq, Nat.reduceAdd, Nat.reduceLeDiff, reduceIte, Int.reduceAdd, Int.reduceNe]
    subst hQ
    simp (disch := first | assumption | omega) only [R.fall_Read, go_sem, ↓reduceIte, Nat.reduceEqDiff, Nat.reduceAdd, reduceIte, Int.reduceAdd]
    rw [hE, hV]
    exact ⟨.nil, rfl, .inr rfl, fun _ => rfl⟩
  have h2' : ¬ ((b.length % 2 : Nat) : Int) = 0 := by omega
  have at_n : ∀ i, i < b.length → at_ (ints .u8 b) (i : Int) = .int .u8 (b.getD i 0) := fun i hi => at_ints' b i hi
  have u_n : ∀ i, i < b.length → 0 ≤ b.getD i 0 ∧ b.getD i 0 < 256 := fun i hi => by
    have : inU8 (b.getD i 0) := by rw [getD_get hi]; exact hb _ (List.getElem_mem _)
    unfold inU8 at this; omega
  have a0 : at_ (ints .u8 b) 0 = .int .u8 (b.getD 0 0) := at_n 0 (by omega)
  have a1 : at_ (ints .u8 b) 1 = .int .u8 (b.getD 1 0) := at_n 1 (by omega)
  have a2 : at_ (ints .u8 b) 2 = .int .u8 (b.getD 2 0) := at_n 2 (by omega)
  have a3 : at_ (ints .u8 b) 3 = .int .u8 (b.getD 3 0) := at_n 3 (by omega)
  have a4 : at_ (ints .u8 b) 4 = .int .u8 (b.getD 4 0) := at_n 4 (by omega)
  have u0 := u_n 0 (by omega)
  have u1 := u_n 1 (by omega)
  have u2 := u_n 2 (by omega)
  have u3 := u_n 3 (by omega)
  have u4 := u_n 4 (by omega)
  have l0 : (0 : Int) < b.length := by omega
  have l1 : (1 : Int) < b.length := by omega
  have l2 : (2 : Int) < b.length := by omega
  have l3 : (3 : Int) < b.length := by omega
  have l4 : (4 : Int) < b.length := by omega
  have hv4 := val4 u1 u2 u3 u4
  rw [← val_four (by omega)] at hv4
  have hE : rdE b = evF (evOf b) := by unfold rdE; rw [if_neg h5, if_neg h2]
  have hoff : evOf b = ⟨b.getD 0 0, val ((b.drop 1).take 4), cellsOf (b.drop 5)⟩ := rfl
  obtain ⟨J, hJ⟩ : ∃ J, b.length = 5 + 2 * J := ⟨(b.length - 5) / 2, by omega⟩
  have hCl : (b.drop 5).length = 2 * J := by simp; omega
  have hCg : ∀ i, (b.drop 5).getD i 0 = b.getD (5 + i) 0 := by
    intro i
    simp [List.getD_eq_getElem?_getD, List.getElem?_drop]
  generalize hC : b.drop 5 = C at *
  simp (disch := first | assumption | omega) only [h5', hrem, h2', a0, a1, a2, a3, a4, l0, l1, l2, l3, l4, hv4, go_sem, ↓reduceIte, Nat.reduceEqDiff, reduceCtorEq, Nat.reduceAdd, Nat.reduceLeDiff, Nat.reduceLT, reduceIte, Int.reduceLT, Int.reduceLE, Int.reduceAdd, Int.reduceNe]
  refine aw_count (fun d S => ∃ (i : Nat) (q : Own), i + d = J ∧ S.env 5 = .int .i64 (5 + 2 * i : Nat) ∧ S.env 0 = .lst o (ints .u8 b) ∧ S.env 4 = .box 4 0 ∧ S.boxes 4 = some [.int .i64 (b.getD 0 0), .int .i64 (val ((b.drop 1).take 4)), .lst q (cellsA (cellsOf (C.take (2 * i))))] ∧ (q = .nil ∧ i = 0 ∨ q = .app 2) ∧ S.env 2 = .box 2 0 ∧ S.boxes 2 = some [.int .i64 0, .int .i64 0, .lst .nil []] ∧ S.heap = h) (n := J)
    ⟨0, .nil, by omega, by simp (disch := first | assumption | omega) only [go_sem, ↓reduceIte, reduceIte, Int.reduceMul, Nat.reduceMul]; simp, by simp (disch := first | assumption | omega) only [go_sem, ↓reduceIte, reduceCtorEq, reduceIte], by simp (disch := first | assumption | omega) only [go_sem, ↓reduceIte, Nat.reduceEqDiff, reduceIte], by simp (disch := first | assumption | omega) only [Nat.mul_zero, cellsOf, cellsA, List.take_zero, List.map_nil, go_sem, ↓reduceIte, reduceIte], .inl ⟨rfl, rfl⟩, by simp (disch := first | assumption | omega) only [go_sem, ↓reduceIte, Nat.reduceEqDiff, reduceIte], by simp (disch := first | assumption | omega) only [go_sem, ↓reduceIte, Nat.reduceEqDiff, reduceIte], by simp (disch := first | assumption | omega) only [go_sem]⟩ ?_
  rintro d S ⟨i, q, hi, e5, e0, e4, x4, hq, e2, x2, eh⟩
  have hcl : (cellsOf (C.take (2 * i))).length = i := cellsOf_length i _ (by rw [List.length_take]; omega)
  have hcs := cells_step i C
  by_cases hlt : ((5 + 2 * i : Nat) : Int) < b.length
  · have hlt1 : i < J := by omega
    have c0 := at_n (5 + 2 * i) (by omega)
    have c1 : at_ (ints .u8 b) (((5 + 2 * i : Nat) : Int) + 1) = .int .u8 (b.getD (6 + 2 * i) 0) := by
      have := at_n (6 + 2 * i) (by omega)
      rwa [show ((6 + 2 * i : Nat) : Int) = ((5 + 2 * i : Nat) : Int) + 1 from by omega] at this
    have w0 := u_n (5 + 2 * i) (by omega)
    have w1 := u_n (6 + 2 * i) (by omega)
    have hcell : cellsA (cellsOf (C.take (2 * i))) ++ [AVal.agg [.int .i64 (b.getD (5 + 2 * i) 0 - 64), .int .i64 (b.getD (6 + 2 * i) 0 - 64)]] = cellsA (cellsOf (C.take (2 * (i + 1)))) := by
      rw [hcs (by omega), hCg, hCg, show 5 + (2 * i + 1) = 6 + 2 * i from by omega]; simp [cellsA, cellA]
    simp (disch := first | assumption | omega) only [e5, e0, e4, x4, e2, x2, eh, hlt, c0, c1, go_sem, ↓reduceIte, Nat.reduceEqDiff, reduceCtorEq, Nat.reduceAdd, Nat.reduceLeDiff, Nat.reduceLT, reduceIte, Int.reduceLT, Int.reduceAdd, Int.reduceMul, Nat.reduceMul]
    refine ⟨⟨by omega, by omega⟩, ?_, by omega, by omega, d - 1, by omega, i + 1, .app 2, by omega, by congr 1, by rw [hcell], .inr rfl⟩
    rcases hq with ⟨rfl, h0⟩ | rfl
    · subst h0; rfl
    · rfl
  · obtain rfl : i = J := by omega
    rw [show C.take (2 * i) = C from by rw [← hCl, List.take_length]] at x4
    have hq' : ∃ q', Rdn q' (evOf b).Cells ∧ Ge.rdc (.lst q (cellsA (cellsOf C))) = .lst q' (cellsA (cellsOf C)) := by
      rw [hoff]
      rcases hq with ⟨rfl, h0⟩ | rfl
      · exact ⟨.nil, ⟨.inr rfl, fun _ => List.eq_nil_of_length_eq_zero (by show (cellsOf C).length = 0; rw [cellsOf_length i C hCl]; exact h0)⟩, rfl⟩
      · exact ⟨.sh, ⟨.inl rfl, fun e => by cases e⟩, rfl⟩
    obtain ⟨q', hq1, hq2⟩ := hq'
    have hq3 : Ge.rdc (.lst q' (cellsA (cellsOf C))) = .lst q' (cellsA (cellsOf C)) := by rcases hq1.1 with e | e <;> rw [e] <;> rfl
    have hlc : (evOf b).Cells.length < 4611686018427387904 := by rw [hoff]; show (cellsOf C).length < _; rw [cellsOf_length i C hCl]; omega
    simp (disch := first | assumption | omega) only [e5, e0, e4, x4, hlt, hq2, hq3, go_sem, ↓reduceIte, Nat.reduceEqDiff, reduceCtorEq, Nat.reduceAdd, Nat.reduceLeDiff, reduceIte, Int.reduceAdd]
    have hme : eventA q' (evOf b) = .agg [.int .i64 (b.getD 0 0), .int .i64 (val ((b.drop 1).take 4)), .lst q' (cellsA (cellsOf C))] := by rw [hoff]; rfl
    have hck := fun hp => FCheck_ok q' (evOf b) hq1.1 hlc hp
    rw [hme] at hck
    refine callG_ok (hck _) (by simp (disch := first | assumption | omega) only [go_sem]) ?_
    rintro _ _ ⟨rfl, hhh⟩
    rw [hhh]
    clear hhh
    by_cases hc : evF (evOf b) = 0
    · have hV : rdEv b = evOf b := by unfold rdEv; rw [if_neg (by rw [hE, hc]; simp)]
      simp (disch := first | assumption | omega) only [e4, x4, e2, x2, hc, hq2, go_sem, ↓reduceIte, Nat.reduceEqDiff, Nat.reduceAdd, Nat.reduceLeDiff, reduceIte, Int.reduceAdd]
      subst hQ
      simp (disch := first | assumption | omega) only [R.fall_Read, e2, eh, go_sem, ↓reduceIte, Nat.reduceEqDiff, Nat.reduceAdd, reduceIte, Int.reduceAdd]
      rw [hV, hE, hc]
      exact ⟨q', by rw [hoff]; rfl, hq1⟩
    · have hV : rdEv b = ev0 := by unfold rdEv; rw [if_pos (by rw [hE]; exact hc)]
      simp (disch := first | assumption | omega) only [e2, x2, hc, go_sem, ↓reduceIte, Nat.reduceEqDiff, Nat.reduceAdd, Nat.reduceLeDiff, reduceIte, Int.reduceAdd]
      subst hQ
      simp (disch := first | assumption | omega) only [R.fall_Read, e2, eh, go_sem, ↓reduceIte, Nat.reduceEqDiff, Nat.reduceAdd, reduceIte, Int.reduceAdd]
      rw [hV, hE]
      exact ⟨.nil, rfl, .inr rfl, fun _ => rfl⟩
end Go.Proofs.Ytpdajkbfemcdlaa
/- Contracts: events are kept, and a controller comes back. -/
set_option linter.unusedSimpArgs false
set_option linter.unusedVariables false
set_option maxRecDepth 10000
namespace Go.Proofs.Ytpdajkbfemcdlaa
open Go.Ge Go.Sort
def zeroM : AVal := .agg [.int .i64 0, .int .i64 0, .lst .nil [], .lst .nil [], .int .i64 0]
/-- What comes of an event that is kept. -/
def KeepQ (m : Mem) (b : List Int) (e : Ev) (v : AVal) : Prop :=
  (doF m e).2 ≠ 0 ∧ v = .tup [zeroM, .lst .nil [], .int .i64 (doF m e).2] ∨ (doF m e).2 = 0 ∧ ∃ rs, IsScan b rs ∧
    (100000 < (book 0 rs).length + 6 + (evB e).length ∧ v = .tup [zeroM, .lst .nil [], .int .i64 6] ∨ (book 0 rs).length + 6 + (evB e).length ≤ 100000 ∧ ∃ o' p', v = .tup [memA o' p' (doF m e).1, .lst (.app 1) (ints .u8 (book 0 (rs ++ [evB e]))), .int .i64 0] ∧ Rdn o' (doF m e).1.Asked ∧ Rdn p' (doF m e).1.Has)
theorem Keep_ok (o p q r : Own) (m : Mem) (b : List Int) (e : Ev) (ho : Rdn o m.Asked) (hp : Rdn p m.Has) (hq : Rdn q e.Cells) (hr : Rdn r b) (hb : ∀ x ∈ b, inU8 x) (l0 : b.length ≤ 1099511627776) (l1 : m.Asked.length < 4611686018427387904) (l2 : m.Has.length < 4611686018427387904) (l3 : e.Cells.length < 4611686018427387904) (h : List HObj) :
    ACalls Try.prog F.fall_Keep [memA o p m, .lst r (ints .u8 b), eventA q e] h (fun v h' => KeepQ m b e v ∧ h' = h) := by
  have ho1 := ho.1
  have hp1 := hp.1
  have hq1 := hq.1
  have hr1 := hr.1
  refine ACalls.of_aw Try.func113 K.fall_Keep (by simp [Try.f113]) ?_
  generalize hQ : retQ R.fall_Keep _ = Q
  simp (disch := first | assumption | omega) only [C.fall_Keep, go_sem, ↓reduceIte, Nat.reduceEqDiff, reduceCtorEq, Nat.reduceLeDiff, reduceIte]
  simp (disch := first | assumption | omega) only [memA, memC, eventA, eventC, go_sem, Nat.reduceAdd, Nat.reduceLeDiff, Int.reduceAdd]
  refine callG_ok (Do_ok o p q m e ho hp hq l1 l2 l3 _) (by simp (disch := first | assumption | omega) only [go_sem]) ?_
  rintro _ _ ⟨⟨o2, p2, rfl, ho2, hp2⟩, hhh⟩
  rw [hhh]
  clear hhh
  have ho3 := ho2.1
  have hp3 := hp2.1
  by_cases hd : (doF m e).2 = 0
  case neg =>
    simp (disch := first | assumption | omega) only [memA, memC, hd, go_sem, ↓reduceIte, Nat.reduceEqDiff, Nat.reduceAdd, Nat.reduceLeDiff, Nat.reduceLT, reduceIte, Int.reduceLT, Int.reduceAdd]
    subst hQ
    simp (disch := first | assumption | omega) only [R.fall_Keep, go_sem, ↓reduceIte, Nat.reduceEqDiff, Nat.reduceAdd, reduceIte, Int.reduceAdd]
    exact .inl ⟨hd, rfl⟩
  have hev := (doF_zero hd).1
  have hevl := evB_length e
  have hfew := (fault_up (evF_zero hev).2.2.2.2).1
  simp (disch := first | assumption | omega) only [memA, memC, hd, go_sem, ↓reduceIte, Nat.reduceEqDiff, Nat.reduceAdd, Nat.reduceLeDiff, Nat.reduceLT, reduceIte, Int.reduceLT, Int.reduceAdd]
  refine callG_ok (FWrite_ok q e hq1 l3 _) (by simp (disch := first | assumption | omega) only [go_sem]) ?_
  rintro _ _ ⟨hw, hhh⟩
  rw [hhh]
  clear hhh
  rcases hw with ⟨hne, _⟩ | ⟨_, rfl⟩
  · exact absurd hev hne
  simp (disch := first | assumption | omega) only [go_sem, ↓reduceIte, Nat.reduceEqDiff, reduceCtorEq, Nat.reduceAdd, Nat.reduceLT, reduceIte, Int.reduceLT, Int.reduceAdd]
  refine callG_ok (Add_ok r .sh b (evB e) hr ⟨.inl rfl, fun h => by cases h⟩ hb (evB_u8 e) l0 (by omega) _) (by simp (disch := first | assumption | omega) only [go_sem]) ?_
  rintro _ _ ⟨ha, hhh⟩
  rw [hhh]
  clear hhh
  rcases ha with ⟨hlong, _⟩ | ⟨_, rs, hS, ⟨hfull, rfl⟩ | ⟨hroom, rfl⟩⟩
  · omega
  · simp (disch := first | assumption | omega) only [go_sem, ↓reduceIte, Nat.reduceEqDiff, Nat.reduceAdd, Nat.reduceLeDiff, Nat.reduceLT, reduceIte, Int.reduceLT, Int.reduceAdd, Int.reduceEq]
    subst hQ
    simp (disch := first | assumption | omega) only [R.fall_Keep, go_sem, ↓reduceIte, Nat.reduceEqDiff, Nat.reduceAdd, reduceIte, Int.reduceAdd]
    exact .inr ⟨hd, rs, hS, .inl ⟨hfull, rfl⟩⟩
  · simp (disch := first | assumption | omega) only [go_sem, ↓reduceIte, Nat.reduceEqDiff, Nat.reduceAdd, Nat.reduceLeDiff, Nat.reduceLT, reduceIte, Int.reduceLT, Int.reduceAdd]
    subst hQ
    simp (disch := first | assumption | omega) only [R.fall_Keep, go_sem, ↓reduceIte, Nat.reduceEqDiff, Nat.reduceAdd, reduceIte, Int.reduceAdd]
    exact .inr ⟨hd, rs, hS, .inr ⟨hroom, o2, p2, rfl, ho2, hp2⟩⟩
/-- What comes back. -/
def BackQ (b : List Int) (v : AVal) : Prop := ∃ rs o p, IsScan b rs ∧ v = .tup [memA o p (backF mem0 0 rs).1, .int .i64 (backF mem0 0 rs).2.1, .int .i64 (backF mem0 0 rs).2.2] ∧ Rdn o (backF mem0 0 rs).1.Asked ∧ Rdn p (backF mem0 0 rs).1.Has
theorem doF_few (m : Mem) (e : Ev) : (doF m e).1.Asked.length ≤ 400 ∧ (doF m e).1.Has.length ≤ 400 := by
  unfold doF
  by_cases hc : evF e = 0
  case neg => rw [if_pos hc]; exact ⟨by simp [mem0], by simp [mem0]⟩
  rw [if_neg (by simp [hc])]
  by_cases hr : memF m = 0
  case neg => rw [if_pos hr]; exact ⟨by simp [mem0], by simp [mem0]⟩
  rw [if_neg (by simp [hr])]
  obtain ⟨e1, e2, e3, e4, e5⟩ := evF_zero hc
  obtain ⟨m1, m2, m3, m4, m5⟩ := memF_zero.1 hr
  have f1 := (fault_up m4).1
  have f2 := (fault_up m5).1
  have f3 := (fault_up e5).1
  have g1 : (minusC e.Cells m.Has).length ≤ 400 := (fault_up (minus_fault e5)).1
  have g2 : (minusC m.Has e.Cells).length ≤ 400 := (fault_up (minus_fault m5)).1
  repeat' split
  all_goals first
    | exact ⟨f1, f2⟩
    | exact ⟨Nat.zero_le _, Nat.zero_le _⟩
    | exact ⟨g1, f2⟩
    | exact ⟨f1, g2⟩
    | (rename_i hj; exact ⟨Nat.zero_le _, (fault_up (Decidable.not_not.1 hj)).1⟩)
theorem Back_ok (o : Own) (b : List Int) (ho : Rdo o) (hb : ∀ x ∈ b, inU8 x) (hl : b.length ≤ 1099511627776) (h : List HObj) :
    ACalls Try.prog F.fall_Back [.lst o (ints .u8 b)] h (fun v h' => BackQ b v ∧ h' = h) := by
  refine ACalls.of_aw Try.func114 K.fall_Back (by simp [Try.f114]) ?_
  generalize hQ : retQ R.fall_Back _ = Q
  simp (disch := first | assumption | omega) only [C.fall_Back, go_sem, ↓reduceIte, reduceCtorEq, reduceIte]
  refine callG_ok (Read_ok o b ho hb hl _) (by simp (disch := first | assumption | omega) only [go_sem]) ?_
  rintro _ _ ⟨⟨rs, x, rfl, ⟨q, xs, rfl, hE, hq⟩, hS⟩, hhh⟩
  rw [hhh]
  clear hhh
  have hq2 : q = .nil ∨ q = .sh ∨ ∃ z, q = .app z := by
    rcases hq with ⟨rfl, _⟩ | rfl
    · exact .inl rfl
    · exact .inr (.inr ⟨_, rfl⟩)
  obtain ⟨q1, hq1, _, r1, r2, r3⟩ := own_rd xs hq2
  have lx := hE.length
  have hbl : rs.length ≤ 1099511627776 := by
    have h1 := hS.pre.length_le
    rw [book_length] at h1
    have h2 : rs.length ≤ sizeOf' rs := by
      unfold sizeOf'
      clear h1 hE lx hS hq
      induction rs with
      | nil => simp
      | cons r rs ih => simp only [List.map_cons, List.sum_cons, List.length_cons]; omega
    omega
  simp (disch := first | assumption | omega) only [r2, go_sem, ↓reduceIte, Nat.reduceEqDiff, Nat.reduceAdd, Nat.reduceLT, reduceIte, Int.reduceLT, Int.reduceAdd]
  refine aw_count (fun n S => ∃ (i : Nat) (m : Mem) (o1 p1 : Own), i + n = rs.length ∧ S.env 19 = .int .i64 i ∧ S.env 18 = .int .i64 rs.length ∧ S.env 17 = .lst q1 xs ∧ S.env 5 = .lst q1 xs ∧ S.env 7 = .box 7 0 ∧ S.boxes 7 = some (memC o1 p1 m) ∧ S.env 2 = .box 2 0 ∧ S.boxes 2 = some [.int .i64 0, .int .i64 0, .lst .nil [], .lst .nil [], .int .i64 0] ∧ Rdn o1 m.Asked ∧ Rdn p1 m.Has ∧ m.Asked.length ≤ 400 ∧ m.Has.length ≤ 400 ∧ backF m i (rs.drop i) = backF mem0 0 rs ∧ S.heap = h) (n := rs.length)
    ⟨0, mem0, .nil, .nil, by omega, by simp (disch := first | assumption | omega) only [go_sem, ↓reduceIte, reduceIte], by simp (disch := first | assumption | omega) only [lx, go_sem, ↓reduceIte, Nat.reduceEqDiff, reduceIte], by simp (disch := first | assumption | omega) only [go_sem, ↓reduceIte, Nat.reduceEqDiff, reduceIte], by simp (disch := first | assumption | omega) only [go_sem, ↓reduceIte, Nat.reduceEqDiff, reduceIte], by simp (disch := first | assumption | omega) only [go_sem, ↓reduceIte, Nat.reduceEqDiff, reduceIte], by simp (disch := first | assumption | omega) only [memC, mem0, cellsA, List.map_nil, go_sem, ↓reduceIte, reduceIte], by simp (disch := first | assumption | omega) only [go_sem, ↓reduceIte, Nat.reduceEqDiff, reduceIte], by simp (disch := first | assumption | omega) only [go_sem, ↓reduceIte, Nat.reduceEqDiff, reduceIte], ⟨.inr rfl, fun _ => rfl⟩, ⟨.inr rfl, fun _ => rfl⟩, by simp [mem0], by simp [mem0], rfl, by simp (disch := first | assumption | omega) only [go_sem]⟩ ?_
  rintro n S ⟨i, m, o1, p1, hi, e19, e18, e17, e5, e7, x7, e2, x2, ho1, hp1, la, lh, hbk, eh⟩
  have ho2 := ho1.1
  have hp2 := hp1.1
  by_cases hlt : (i : Int) < rs.length
  · have hlt1 : i < rs.length := by omega
    have hlt2 : i < xs.length := by omega
    obtain ⟨qi, hqi, hxi⟩ := hE.at i hlt1
    have hqi1 := hqi.1
    have hu := hS.u8 hb _ (List.getElem_mem hlt1)
    have hsh := hS.short _ (List.getElem_mem hlt1)
    rw [List.drop_eq_getElem_cons hlt1, backF] at hbk
    generalize rs[i] = r at *
    simp (disch := first | assumption | omega) only [e19, e18, e17, hlt, hlt2, hxi, go_sem, ↓reduceIte, Nat.reduceEqDiff, Nat.reduceLeDiff, Nat.reduceLT, reduceIte, Int.reduceLT]
    refine callG_ok (FRead_ok qi r hqi1 hu (by omega) _) (by simp (disch := first | assumption | omega) only [go_sem]) ?_
    rintro _ _ ⟨⟨qe, rfl, hqe⟩, hhh⟩
    rw [hhh]
    clear hhh
    have hqe1 := hqe.1
    by_cases hre : rdE r = 0
    case neg =>
      rw [if_pos hre] at hbk
      simp (disch := first | assumption | omega) only [e2, x2, hre, eventA, eventC, memC, go_sem, ↓reduceIte, Nat.reduceEqDiff, Nat.reduceAdd, Nat.reduceLeDiff, Nat.reduceLT, reduceIte, Int.reduceLT, Int.reduceAdd]
      subst hQ
      simp (disch := first | assumption | omega) only [R.fall_Back, e2, eh, go_sem, ↓reduceIte, Nat.reduceEqDiff, Nat.reduceAdd, reduceIte, Int.reduceAdd]
      exact ⟨rs, .nil, .nil, hS, by rw [← hbk]; rfl, by rw [← hbk]; exact ⟨.inr rfl, fun _ => rfl⟩, by rw [← hbk]; exact ⟨.inr rfl, fun _ => rfl⟩⟩
    rw [if_neg (by simp [hre])] at hbk
    have hel : (rdEv r).Cells.length < 4611686018427387904 := by
      unfold rdEv
      split
      · simp [ev0]
      · have h5 : ¬ r.length < 5 := fun hc => by unfold rdE at hre; rw [if_pos hc] at hre; cases hre
        have h6 : ¬ r.length % 2 = 0 := fun hc => by unfold rdE at hre; rw [if_neg h5, if_pos hc] at hre; cases hre
        have : (evOf r).Cells.length = (r.length - 5) / 2 := cellsOf_length _ _ (by rw [List.length_drop]; omega)
        omega
    simp (disch := first | assumption | omega) only [e7, x7, hre, eventA, eventC, memC, go_sem, ↓reduceIte, Nat.reduceEqDiff, Nat.reduceAdd, Nat.reduceLeDiff, Nat.reduceLT, reduceIte, Int.reduceLT, Int.reduceAdd]
    refine callG_ok (Do_ok o1 p1 qe m (rdEv r) ho1 hp1 hqe (by omega) (by omega) hel _) (by simp (disch := first | assumption | omega) only [go_sem]) ?_
    rintro _ _ ⟨⟨o3, p3, rfl, ho3, hp3⟩, hhh⟩
    rw [hhh]
    clear hhh
    have ho4 := ho3.1
    have hp4 := hp3.1
    by_cases hd : (doF m (rdEv r)).2 = 0
    case neg =>
      rw [if_pos hd] at hbk
      simp (disch := first | assumption | omega) only [e7, x7, e2, x2, hd, memA, memC, go_sem, ↓reduceIte, Nat.reduceEqDiff, Nat.reduceAdd, Nat.reduceLeDiff, Nat.reduceLT, reduceIte, Int.reduceLT, Int.reduceAdd]
      subst hQ
      simp (disch := first | assumption | omega) only [R.fall_Back, e2, eh, go_sem, ↓reduceIte, Nat.reduceEqDiff, Nat.reduceAdd, reduceIte, Int.reduceAdd]
      exact ⟨rs, .nil, .nil, hS, by rw [← hbk]; rfl, by rw [← hbk]; exact ⟨.inr rfl, fun _ => rfl⟩, by rw [← hbk]; exact ⟨.inr rfl, fun _ => rfl⟩⟩
    rw [if_neg (by simp [hd])] at hbk
    simp (disch := first | assumption | omega) only [e19, e18, e17, e5, e7, x7, e2, x2, eh, hd, memA, memC, go_sem, ↓reduceIte, Nat.reduceEqDiff, Nat.reduceAdd, Nat.reduceLeDiff, Nat.reduceLT, reduceIte, Int.reduceLT, Int.reduceAdd]
    exact ⟨n - 1, by omega, i + 1, (doF m (rdEv r)).1, o3, p3, by omega, by simp, rfl, ho3, hp3, (doF_few _ _).1, (doF_few _ _).2, hbk⟩
  · obtain rfl : i = rs.length := by omega
    rw [List.drop_length, backF] at hbk
    simp (disch := first | assumption | omega) only [e19, e18, e5, e7, x7, e2, x2, hlt, lx, memC, go_sem, ↓reduceIte, Nat.reduceEqDiff, Nat.reduceAdd, Nat.reduceLeDiff, reduceIte, Int.reduceAdd]
    subst hQ
    simp (disch := first | assumption | omega) only [R.fall_Back, e2, eh, go_sem, ↓reduceIte, Nat.reduceEqDiff, Nat.reduceAdd, reduceIte, Int.reduceAdd]
    exact ⟨rs, o1, p1, hS, by rw [← hbk]; rfl, by rw [← hbk]; exact ho1, by rw [← hbk]; exact hp1⟩
end Go.Proofs.Ytpdajkbfemcdlaa
/- Contracts: events that are made. -/
set_option linter.unusedSimpArgs false
set_option linter.unusedVariables false
set_option maxRecDepth 10000
namespace Go.Proofs.Ytpdajkbfemcdlaa
open Go.Ge Go.Sort
theorem at_int6 {l : List Int} {i : Nat} (h : i < l.length) : at_ (ints .i64 l) (i : Int) = .int .i64 l[i] := by
  rw [at_ints' l i h]; simp [List.getD_eq_getElem?_getD, h]
theorem wrap_inI64 (n : Int) : inI64 (IntKind.i64.wrap n) := by
  have e : IntKind.i64.wrap n = (n + 9223372036854775808) % 18446744073709551616 - 9223372036854775808 := by
    simp only [IntKind.wrap, IntKind.bits, IntKind.signed]; simp; omega
  unfold inI64
  rw [e]
  omega
theorem two_inI64 (a b : Int) : ∀ c ∈ [IntKind.i64.wrap a, IntKind.i64.wrap b], inI64 c := by
  intro c hc
  rcases List.mem_cons.1 hc with rfl | hc
  · exact wrap_inI64 _
  · rw [List.mem_singleton.1 hc]; exact wrap_inI64 _
theorem cellsFault_nil : cellsFault [] = 0 := fault_of (by simp) (by simp) List.Pairwise.nil
theorem do_mark : doF mem0 ⟨6, 0, []⟩ = (⟨0, 0, [], [], 1⟩, 0) := by
  have h1 : evF ⟨6, 0, []⟩ = 0 := by unfold evF; simp [cellsFault_nil]
  have h2 : memF mem0 = 0 := memF_zero.2 ⟨by simp [mem0], by simp [mem0], by simp [mem0], cellsFault_nil, cellsFault_nil⟩
  unfold doF
  rw [if_neg (by simp [h1]), if_neg (by simp [h2])]
  simp only [mem0]
  rw [if_neg (by omega), if_neg (by omega), if_neg (by omega), if_neg (by omega), if_neg (by omega)]
  rfl
end Go.Proofs.Ytpdajkbfemcdlaa
/- What a controller knows that comes back is what it knew. -/
set_option linter.unusedSimpArgs false
set_option linter.unusedVariables false
set_option maxRecDepth 10000
namespace Go.Proofs.Ytpdajkbfemcdlaa
open Go.Ge Go.Sort
theorem evs_short {es : List Ev} (h : ∀ e ∈ es, evF e = 0) : ∀ r ∈ es.map evB, r.length ≤ 805 := by
  intro r hr
  obtain ⟨e, he, rfl⟩ := List.mem_map.1 hr
  have := (fault_up (evF_zero (h e he)).2.2.2.2).1
  rw [evB_length]; omega
theorem evs_size : ∀ {es : List Ev}, (∀ e ∈ es, evF e = 0) → sizeOf' (es.map evB) ≤ 811 * es.length
  | [], _ => by simp [sizeOf']
  | e :: es, h => by
    have ih := evs_size (es := es) fun x hx => h x (List.mem_cons_of_mem _ hx)
    have := evs_short h (evB e) (by simp)
    simp only [sizeOf', List.map_cons, List.sum_cons, List.length_cons] at *
    omega
theorem evs_scan {es : List Ev} (h : ∀ e ∈ es, evF e = 0) : IsScan (book 0 (es.map evB)) (es.map evB) := IsScan.book fun r hr => by have := evs_short h r hr; omega
theorem evs_u8 {es : List Ev} : ∀ x ∈ book 0 (es.map evB), inU8 x := book_u8 0 _ fun r hr x hx => by
  obtain ⟨e, he, rfl⟩ := List.mem_map.1 hr
  exact evB_u8 e x hx
def BookO (q : Own) (b : List Int) : Prop := q = .nil ∧ b = [] ∨ q = .sh ∨ q = .app 1
theorem BookO.rd {q : Own} {b : List Int} (h : BookO q b) : ∃ q', Rdn q' b ∧ rdv (.lst q (ints .u8 b)) = .lst q' (ints .u8 b) ∧ rd1 (.lst q (ints .u8 b)) = .lst q' (ints .u8 b) ∧ Ge.rdc (.lst q (ints .u8 b)) = .lst q' (ints .u8 b) := by
  rcases h with ⟨rfl, e⟩ | rfl | rfl
  · exact ⟨.nil, ⟨.inr rfl, fun _ => e⟩, rfl, rfl, rfl⟩
  · exact ⟨.sh, ⟨.inl rfl, fun e => by cases e⟩, rfl, rfl, rfl⟩
  · exact ⟨.sh, ⟨.inl rfl, fun e => by cases e⟩, rfl, rfl, rfl⟩
end Go.Proofs.Ytpdajkbfemcdlaa
/- A controller that falls goes on as one that has never fallen. -/
set_option linter.unusedSimpArgs false
set_option linter.unusedVariables false
set_option maxRecDepth 10000
namespace Go.Proofs.Ytpdajkbfemcdlaa
open Go.Ge Go.Sort
def withF (m : Mem) (k : Int) : Mem := { m with Falls := k }
theorem memF_with {m : Mem} {k : Int} (hk : 0 ≤ k) (hm : 0 ≤ m.Falls) : memF (withF m k) = memF m := by
  unfold memF withF
  simp only []
  by_cases h : m.Goal < 0 ∨ m.Ticks < 0 ∨ m.Falls < 0
  · rw [if_pos h, if_pos (by omega)]
  · rw [if_neg h, if_neg (by omega)]
/-- What is done by right events to who knows what is right. -/
def doB (m : Mem) (e : Ev) : Mem × Int :=
  if e.Kind = 1 then ({ m with Goal := e.N, Ticks := 0 }, 0)
  else if e.Kind = 2 then if m.Ticks ≥ 2000 then (mem0, 19) else ({ m with Ticks := m.Ticks + 1 }, 0)
  else if e.Kind = 3 then if 0 < m.Asked.length then (mem0, 7) else ({ m with Asked := minusC e.Cells m.Has }, 0)
  else if e.Kind = 4 then if cellsFault (joinC m.Has m.Asked) ≠ 0 then (mem0, 6) else ({ m with Has := joinC m.Has m.Asked, Asked := [] }, 0)
  else if e.Kind = 5 then if withinC e.Cells m.Has = false then (mem0, 4) else ({ m with Has := minusC m.Has e.Cells }, 0)
  else ({ m with Falls := IntKind.i64.wrap (m.Falls + 1) }, 0)
theorem doF_body {m : Mem} {e : Ev} (h1 : evF e = 0) (h2 : memF m = 0) : doF m e = doB m e := by
  unfold doF
  rw [if_neg (by simp [h1]), if_neg (by simp [h2])]
  rfl
theorem doB_with {m : Mem} {e : Ev} {k : Int} (h1 : 1 ≤ e.Kind) (h2 : e.Kind < 6) : doB (withF m k) e = if (doB m e).2 = 0 then (withF (doB m e).1 k, 0) else doB m e := by
  unfold doB withF
  by_cases k1 : e.Kind = 1
  · simp [k1]
  by_cases k2 : e.Kind = 2
  · by_cases c : m.Ticks ≥ 2000
    · simp [k2, c]
    · have c' : ¬ 2000 ≤ m.Ticks := c
      simp [k2, c']
  by_cases k3 : e.Kind = 3
  · by_cases c : 0 < m.Asked.length <;> simp [k3, c]
  by_cases k4 : e.Kind = 4
  · by_cases c : cellsFault (joinC m.Has m.Asked) = 0 <;> simp [k4, c]
  by_cases k5 : e.Kind = 5
  · by_cases c : withinC e.Cells m.Has = false
    · simp [k5, c]
    · have c' : withinC e.Cells m.Has = true := by simpa using c
      simp [k5, c']
  omega
theorem doB_noFall {m : Mem} {e : Ev} (h1 : 1 ≤ e.Kind) (h2 : e.Kind < 6) (h : (doB m e).2 = 0) : (doB m e).1.Falls = m.Falls := by
  have := doB_with (m := m) (k := m.Falls) h1 h2
  rw [if_pos h] at this
  have e1 : withF m m.Falls = m := rfl
  rw [e1] at this
  rw [this]
  rfl
theorem doF_with {m : Mem} {e : Ev} {k : Int} (hk : 0 ≤ k) (hm : 0 ≤ m.Falls) (he : e.Kind ≠ 6) : doF (withF m k) e = if (doF m e).2 = 0 then (withF (doF m e).1 k, 0) else doF m e := by
  have hmf := memF_with (m := m) hk hm
  by_cases h1 : evF e = 0
  case neg =>
    have d1 : ∀ m, doF m e = (mem0, evF e) := fun m => by unfold doF; rw [if_pos h1]
    rw [d1, d1, if_neg h1]
  by_cases h2 : memF m = 0
  case neg =>
    have d1 : ∀ p, memF p = memF m → doF p e = (mem0, memF m) := fun p hp => by unfold doF; rw [if_neg (fun c => c h1), if_pos (by rw [hp]; exact h2), hp]
    rw [d1 _ hmf, d1 _ rfl, if_neg h2]
  obtain ⟨e1, e2, _⟩ := evF_zero h1
  rw [doF_body h1 h2, doF_body h1 (hmf.trans h2)]
  exact doB_with e1 (by omega)
theorem doF_noFall {m : Mem} {e : Ev} (he : e.Kind ≠ 6) (h : (doF m e).2 = 0) : (doF m e).1.Falls = m.Falls := by
  obtain ⟨h1, h2⟩ := doF_zero h
  obtain ⟨e1, e2, _⟩ := evF_zero h1
  rw [doF_body h1 h2] at h ⊢
  exact doB_noFall e1 (by omega) h
def evMark : Ev := ⟨6, 0, []⟩
theorem evF_mark : evF evMark = 0 := by unfold evF evMark; simp [cellsFault_nil]
theorem evB_mark : evB evMark = [6, 0, 0, 0, 0] := by simp [evB, evMark, be4, cellsB]
theorem doF_mark {m : Mem} (h : memF m = 0) (hf : m.Falls < 9223372036854775807) : doF m evMark = (withF m (m.Falls + 1), 0) := by
  obtain ⟨m1, m2, m3, m4, m5⟩ := memF_zero.1 h
  rw [doF_body evF_mark h]
  unfold doB
  rw [if_neg (by decide), if_neg (by decide), if_neg (by decide), if_neg (by decide), if_neg (by decide), wrapI64 (by omega) (by omega)]
  rfl
theorem withF_self {m : Mem} (h : m.Falls = 0) : withF m 0 = m := by cases m; simp only [withF] at *; subst h; rfl
theorem scan_torn {es : List Ev} (h : ∀ e ∈ es, evF e = 0) : IsScan (book 0 (es.map evB) ++ [0, 9, 1]) (es.map evB) where
  short := fun r hr => by have := evs_short h r hr; omega
  pre := List.prefix_append _ _
  max := fun r hr hp => by
    have := hp.length_le
    rw [book_snoc, List.length_append, recB_length, List.length_append] at this
    simp at this
    omega
theorem TopFalls_ok (o ow : Own) (l wh : List Int) (ho : Rdo o) (hl : ∀ c ∈ l, inI64 c) (hll : l.length ≤ 1152921504606846976) (how : Rdo ow) (hw : ∀ c ∈ wh, inI64 c) (hwl : wh.length ≤ 1152921504606846976) (h : List HObj) :
    ACalls Try.prog F.ganttop_TopFalls [.lst o (ints .i64 l), .lst ow (ints .i64 wh)] h (fun v h' => v = .bool true ∧ h' = h) := by
  have hDo := fun hp => Do_ok .nil .nil .nil mem0 ⟨6, 0, []⟩ ⟨.inr rfl, fun _ => rfl⟩ ⟨.inr rfl, fun _ => rfl⟩ ⟨.inr rfl, fun _ => rfl⟩ (by simp [mem0]) (by simp [mem0]) (by simp) hp
  refine ACalls.of_aw Try.func26 K.ganttop_TopFalls (by simp [Try.f26]) ?_
  generalize hQ : retQ R.ganttop_TopFalls _ = Q
  simp (disch := first | assumption | omega) only [C.ganttop_TopFalls, go_sem, ↓reduceIte, Nat.reduceEqDiff, Nat.reduceAdd, Nat.reduceLeDiff, reduceIte, Int.reduceAdd]
  refine callG_ok (hDo _) (by simp (disch := first | assumption | omega) only [go_sem]) ?_
  rintro _ _ ⟨⟨oz, pz, rfl, hoz, hpz⟩, hhh⟩
  rw [hhh]
  clear hhh
  have hoz1 := hoz.1
  have hpz1 := hpz.1
  rw [do_mark] at *
  obtain ⟨N, hN, hN30, hNl⟩ : ∃ N : Nat, (if (30 : Int) < l.length then (30 : Int) else (l.length : Int)) = (N : Int) ∧ N ≤ 30 ∧ N ≤ l.length := by
    split
    · exact ⟨30, rfl, by omega, by omega⟩
    · exact ⟨l.length, rfl, by omega, by omega⟩
  simp (disch := first | assumption | omega) only [memA, memC, hN, ints_take, go_sem, ↓reduceIte, Nat.reduceEqDiff, reduceCtorEq, Nat.reduceAdd, Nat.reduceLeDiff, Nat.reduceLT, reduceIte, Int.reduceLT, Int.reduceLE, Int.reduceAdd]
  have hLn : (l.take N).length = N := by simp; omega
  have hLw : ∀ c ∈ l.take N, inI64 c := fun c hc => hl c (List.mem_of_mem_take hc)
  refine ⟨⟨by omega, ints_width _⟩, ?_⟩
  refine aw_count (fun d S => ∃ (i : Nat) (es : List Ev) (a : Mem) (fz : Int) (qb o1 p1 o2 p2 : Own), i + d = N ∧ es.length ≤ 2 * i ∧ a.Falls = 0 ∧ 0 ≤ fz ∧ fz ≤ i ∧ memF a = 0 ∧ Chain mem0 es (withF a fz) ∧ S.env 45 = .int .i64 i ∧ S.env 44 = .int .i64 N ∧ S.env 43 = .lst .sh (ints .i64 (l.take N)) ∧ S.env 1 = .lst ow (ints .i64 wh) ∧ S.env 7 = .box 7 0 ∧ S.boxes 7 = some (memC o1 p1 a) ∧ S.env 8 = .box 8 0 ∧ S.boxes 8 = some (memC o2 p2 (withF a fz)) ∧ S.env 9 = .lst qb (ints .u8 (book 0 (es.map evB))) ∧ BookO qb (book 0 (es.map evB)) ∧ Rdn o1 a.Asked ∧ Rdn p1 a.Has ∧ Rdn o2 a.Asked ∧ Rdn p2 a.Has ∧ a.Asked.length ≤ 400 ∧ a.Has.length ≤ 400 ∧ S.heap = h) (n := N)
    ⟨0, [], mem0, 0, .nil, .nil, .nil, .nil, .nil, by omega, by simp, rfl, by omega, by omega, memF_zero.2 ⟨by simp [mem0], by simp [mem0], by simp [mem0], cellsFault_nil, cellsFault_nil⟩, rfl, by simp (disch := first | assumption | omega) only [go_sem, ↓reduceIte, reduceIte], by simp (disch := first | assumption | omega) only [hLn, go_sem, ↓reduceIte, Nat.reduceEqDiff, reduceIte], by simp (disch := first | assumption | omega) only [go_sem, ↓reduceIte, Nat.reduceEqDiff, reduceIte], by simp (disch := first | assumption | omega) only [go_sem, ↓reduceIte, Nat.reduceEqDiff, reduceIte], by simp (disch := first | assumption | omega) only [go_sem, ↓reduceIte, Nat.reduceEqDiff, reduceIte], by simp (disch := first | assumption | omega) only [memC, mem0, cellsA, List.map_nil, go_sem, ↓reduceIte, Nat.reduceEqDiff, reduceIte], by simp (disch := first | assumption | omega) only [go_sem, ↓reduceIte, Nat.reduceEqDiff, reduceIte], by simp (disch := first | assumption | omega) only [memC, withF, mem0, cellsA, List.map_nil, go_sem, ↓reduceIte, reduceIte], by simp (disch := first | assumption | omega) only [List.map_nil, book, ints_nil, go_sem, ↓reduceIte, Nat.reduceEqDiff, reduceIte], .inl ⟨rfl, rfl⟩, ⟨.inr rfl, fun _ => rfl⟩, ⟨.inr rfl, fun _ => rfl⟩, ⟨.inr rfl, fun _ => rfl⟩, ⟨.inr rfl, fun _ => rfl⟩, by simp [mem0], by simp [mem0], by simp (disch := first | assumption | omega) only [go_sem]⟩ ?_
  generalize l.take N = L at *
  rintro d S ⟨i, es, a, fz, qb, o1, p1, o2, p2, hid, hel, haF, hF0, hFi, hma, hC, e45, e44, e43, e1, e7, x7, e8, x8, e9, hqb, ho1, hp1, ho2, hp2, la, lh, eh⟩
  have ho3 := ho1.1
  have hp3 := hp1.1
  have ho4 := ho2.1
  have hp4 := hp2.1
  obtain ⟨qr, hqr, s1, s2, s3⟩ := hqb.rd
  have hqr1 := hqr.1
  have hev := chain_mem hC
  by_cases hlt : (i : Int) < N
  · have hi1 : i < L.length := by omega
    have hat := at_int6 hi1
    have hx := hLw _ (List.getElem_mem hi1)
    generalize L[i] = x at *
    simp (disch := first | assumption | omega) only [e45, e44, e43, hlt, hi1, hat, go_sem, ↓reduceIte, Nat.reduceEqDiff, Nat.reduceLeDiff, Nat.reduceLT, reduceIte, Int.reduceLT]
    refine callG_ok (Below_ok x 5 hx (by omega) (by omega) _) (by simp (disch := first | assumption | omega) only [go_sem]) ?_
    rintro _ _ ⟨rfl, hhh⟩
    rw [hhh]
    clear hhh
    have hm0 := Int.emod_nonneg x (b := 5) (by omega)
    have hm1 := Int.emod_lt_of_pos x (b := 5) (by omega)
    generalize x % 5 = k at *
    simp (disch := first | assumption | omega) only [go_sem, ↓reduceIte, Nat.reduceEqDiff, Nat.reduceAdd, Nat.reduceLeDiff, reduceIte, Int.reduceAdd]
    refine condG_cutB (fun S => ∃ (e : Ev) (qe : Own), e.Kind ≠ 6 ∧ S.env 10 = .int .i64 i ∧ S.env 45 = .int .i64 i ∧ S.env 44 = .int .i64 N ∧ S.env 43 = .lst .sh (ints .i64 L) ∧ S.env 1 = .lst ow (ints .i64 wh) ∧ S.env 7 = .box 7 0 ∧ S.boxes 7 = some (memC o1 p1 a) ∧ S.env 8 = .box 8 0 ∧ S.boxes 8 = some (memC o2 p2 (withF a fz)) ∧ S.env 9 = .lst qb (ints .u8 (book 0 (es.map evB))) ∧ S.env 12 = .box 12 0 ∧ S.boxes 12 = some (eventC qe e) ∧ (qe = .nil ∧ e.Cells = [] ∨ qe = .app 2) ∧ e.Cells.length ≤ 400 ∧ S.heap = h) ?_ ?_
    · by_cases k1 : 1 + k = 1
      · simp (disch := first | assumption | omega) only [k1, go_sem, ↓reduceIte, Nat.reduceEqDiff, reduceIte, Int.reduceNe]
        refine callG_ok (Below_ok (IntKind.i64.wrap (x.tdiv 5)) 100 (wrap_inI64 _) (by omega) (by omega) _) (by simp (disch := first | assumption | omega) only [go_sem]) ?_
        rintro _ _ ⟨rfl, hhh⟩
        rw [hhh]
        clear hhh
        simp (disch := first | assumption | omega) only [e45, e44, e43, e1, e7, x7, e8, x8, e9, eh, memC, withF, go_sem, ↓reduceIte, Nat.reduceEqDiff, Nat.reduceAdd, Nat.reduceLeDiff, reduceIte, Int.reduceAdd]
        exact ⟨⟨1, IntKind.i64.wrap (x.tdiv 5) % 100, []⟩, .nil, by simp, rfl, .inl ⟨rfl, rfl⟩, by simp⟩
      by_cases k3 : 1 + k = 3
      · simp (disch := first | assumption | omega) only [k3, go_sem, ↓reduceIte, Nat.reduceEqDiff, Nat.reduceAdd, Nat.reduceLeDiff, reduceIte, Int.reduceAdd, Int.reduceMul, Int.reduceEq, Int.reduceNe, Nat.reduceMul]
        refine callG_ok (MadeCells_ok .sh [IntKind.i64.wrap (x.tdiv 7), IntKind.i64.wrap (x.tdiv 11)] (.inl rfl) (two_inI64 _ _) _) (by simp (disch := first | assumption | omega) only [go_sem]) ?_
        rintro _ _ ⟨⟨cs, h8, hcb, hv⟩, hhh⟩
        rw [hhh]
        clear hhh
        rcases hv with ⟨rfl, rfl⟩ | rfl
        · simp (disch := first | assumption | omega) only [e45, e44, e43, e1, e7, x7, e8, x8, e9, eh, memC, withF, go_sem, ↓reduceIte, Nat.reduceEqDiff, Nat.reduceAdd, Nat.reduceLeDiff, reduceIte, Int.reduceAdd, Int.reduceEq]
          exact ⟨⟨3, 0, []⟩, .nil, by simp, rfl, .inl ⟨rfl, rfl⟩, by simp⟩
        · simp (disch := first | assumption | omega) only [e45, e44, e43, e1, e7, x7, e8, x8, e9, eh, memC, withF, go_sem, ↓reduceIte, Nat.reduceEqDiff, Nat.reduceAdd, Nat.reduceLeDiff, reduceIte, Int.reduceAdd, Int.reduceEq]
          exact ⟨⟨3, 0, cs⟩, .app 2, by simp, rfl, .inr rfl, by show cs.length ≤ 400; omega⟩
      by_cases k5 : 1 + k = 5
      · simp (disch := first | assumption | omega) only [k5, go_sem, ↓reduceIte, Nat.reduceEqDiff, Nat.reduceAdd, Nat.reduceLeDiff, reduceIte, Int.reduceAdd, Int.reduceMul, Int.reduceEq, Int.reduceNe, Nat.reduceMul]
        refine callG_ok (MadeCells_ok .sh [IntKind.i64.wrap (x.tdiv 7), IntKind.i64.wrap (x.tdiv 11)] (.inl rfl) (two_inI64 _ _) _) (by simp (disch := first | assumption | omega) only [go_sem]) ?_
        rintro _ _ ⟨⟨cs, h8, hcb, hv⟩, hhh⟩
        rw [hhh]
        clear hhh
        have hml : (meetC a.Has cs).length ≤ 400 := by
          unfold meetC
          exact Nat.le_trans (List.length_filter_le _ _) (Nat.le_trans (normC_len _) lh)
        rcases hv with ⟨rfl, rfl⟩ | rfl
        · simp (disch := first | assumption | omega) only [e7, x7, memC, go_sem, ↓reduceIte, Nat.reduceEqDiff, Nat.reduceAdd, Nat.reduceLeDiff, Nat.reduceLT, reduceIte, Int.reduceLT, Int.reduceAdd]
          refine callG_ok (Meet_ok p1 .nil a.Has [] hp1 ⟨.inr rfl, fun _ => rfl⟩ (by simp; omega) _) (by simp (disch := first | assumption | omega) only [go_sem]) ?_
          rintro _ _ ⟨rfl, hhh⟩
          rw [hhh]
          clear hhh
          simp (disch := first | assumption | omega) only [e45, e44, e43, e1, e7, x7, e8, x8, e9, eh, memC, withF, go_sem, ↓reduceIte, Nat.reduceEqDiff, Nat.reduceAdd, Nat.reduceLeDiff, reduceIte, Int.reduceAdd]
          exact ⟨⟨5, 0, meetC a.Has []⟩, .app 2, by simp, rfl, .inr rfl, hml⟩
        · simp (disch := first | assumption | omega) only [e7, x7, memC, go_sem, ↓reduceIte, Nat.reduceEqDiff, Nat.reduceAdd, Nat.reduceLeDiff, Nat.reduceLT, reduceIte, Int.reduceLT, Int.reduceAdd]
          refine callG_ok (Meet_ok p1 .sh a.Has cs hp1 ⟨.inl rfl, fun h => by cases h⟩ (by omega) _) (by simp (disch := first | assumption | omega) only [go_sem]) ?_
          rintro _ _ ⟨rfl, hhh⟩
          rw [hhh]
          clear hhh
          simp (disch := first | assumption | omega) only [e45, e44, e43, e1, e7, x7, e8, x8, e9, eh, memC, withF, go_sem, ↓reduceIte, Nat.reduceEqDiff, Nat.reduceAdd, Nat.reduceLeDiff, reduceIte, Int.reduceAdd]
          exact ⟨⟨5, 0, meetC a.Has cs⟩, .app 2, by simp, rfl, .inr rfl, hml⟩
      · simp (disch := first | assumption | omega) only [e45, e44, e43, e1, e7, x7, e8, x8, e9, eh, k1, k3, k5, memC, withF, go_sem, ↓reduceIte, Nat.reduceEqDiff, reduceIte]
        exact ⟨⟨1 + k, 0, []⟩, .nil, by show 1 + k ≠ 6; omega, rfl, .inl ⟨rfl, rfl⟩, by simp⟩
    · clear e45 e44 e43 e1 e7 x7 e8 x8 e9 eh
      rintro S ⟨e, qe, hk6, e10, e45, e44, e43, e1, e7, x7, e8, x8, e9, e12, x12, hqe, hel2, eh⟩
      have hqe2 : qe = .nil ∨ qe = .sh ∨ ∃ z, qe = .app z := by
        rcases hqe with ⟨rfl, _⟩ | rfl
        · exact .inl rfl
        · exact .inr (.inr ⟨_, rfl⟩)
      obtain ⟨a1, ha1, ha2, ha3, ha4, ha5⟩ := own_rd (cellsA e.Cells) hqe2
      have hA : Rdn a1 e.Cells := ⟨ha1, fun h => by
        rcases hqe with ⟨_, h⟩ | rfl
        · exact h
        · cases ha2 h⟩
      have hsz := evs_size hev
      have hbl := book_length 0 (es.map evB)
      simp (disch := first | assumption | omega) only [e7, x7, e12, x12, memC, eventC, ha5, go_sem, ↓reduceIte, Nat.reduceEqDiff, Nat.reduceAdd, Nat.reduceLeDiff, reduceIte, Int.reduceAdd]
      refine callG_ok (Do_ok o1 p1 a1 a e ho1 hp1 hA (by omega) (by omega) (by omega) _) (by simp (disch := first | assumption | omega) only [go_sem]) ?_
      rintro _ _ ⟨⟨o5, p5, rfl, ho5, hp5⟩, hhh⟩
      rw [hhh]
      clear hhh
      have ho6 := ho5.1
      have hp6 := hp5.1
      have hdw := doF_with (m := a) (e := e) hF0 (by omega) hk6
      simp (disch := first | assumption | omega) only [e8, x8, e9, e12, x12, memA, memC, withF, eventC, ha5, s1, go_sem, ↓reduceIte, Nat.reduceEqDiff, Nat.reduceAdd, Nat.reduceLeDiff, Nat.reduceLT, reduceIte, Int.reduceLT, Int.reduceAdd]
      have hKeep := fun hp => Keep_ok o2 p2 a1 qr (withF a fz) (book 0 (es.map evB)) e ho2 hp2 hA hqr evs_u8 (by omega) (by show a.Asked.length < _; omega) (by show a.Has.length < _; omega) (by omega) hp
      refine callG_ok (hKeep _) (by simp (disch := first | assumption | omega) only [go_sem]) ?_
      rintro _ _ ⟨hkq, hhh⟩
      rw [hhh]
      clear hhh
      by_cases hd : (doF a e).2 = 0
      case neg =>
        rw [if_neg hd] at hdw
        unfold KeepQ at hkq
        rw [hdw] at hkq
        rcases hkq with ⟨_, rfl⟩ | ⟨hz, _⟩
        case inr => exact absurd hz hd
        simp (disch := first | assumption | omega) only [e45, e44, e43, e1, e7, x7, e8, x8, e9, eh, memC, withF, zeroM, hd, go_sem, ↓reduceIte, Nat.reduceEqDiff, Nat.reduceAdd, Nat.reduceLeDiff, Nat.reduceLT, reduceIte, Int.reduceLT, Int.reduceAdd]
        exact ⟨d - 1, by omega, i + 1, es, a, fz, qb, o1, p1, o2, p2, by omega, by omega, haF, hF0, by omega, hma, hC, by simp, rfl, rfl, rfl, hqb, ho1, hp1, ho2, hp2, la, lh⟩
      rw [if_pos hd] at hdw
      have hma2 := doF_right (m := a) (e := e) (by omega) hd
      have haF2 := (doF_noFall hk6 hd).trans haF
      obtain ⟨lx1, lx2⟩ := doF_few a e
      have hdw2 : (doF (withF a fz) e).2 = 0 := by rw [hdw]
      have hC2 := chain_snoc hC hdw2
      have hfew := (fault_up (evF_zero (doF_zero hd).1).2.2.2.2).1
      have hevl := evB_length e
      have hev2 := chain_mem hC2
      rw [hdw] at hC2
      simp only [] at hC2
      rcases hkq with ⟨hne, _⟩ | ⟨_, rs, hS, ⟨hfull, _⟩ | ⟨_, o7, p7, rfl, ho7, hp7⟩⟩
      · exact absurd hdw2 hne
      · rw [IsScan.unique hS (evs_scan hev)] at hfull
        omega
      rw [IsScan.unique hS (evs_scan hev)]
      have hsn : es.map evB ++ [evB e] = (es ++ [e]).map evB := by simp
      rw [hsn]
      rw [hdw] at ho7 hp7 ⊢
      simp only [] at ho7 hp7
      have ho8 := ho7.1
      have hp8 := hp7.1
      generalize (doF a e).1 = a9 at *
      simp (disch := first | assumption | omega) only [e1, e7, x7, e8, x8, memA, memC, withF, hd, onlyV, go_sem, ↓reduceIte, Nat.reduceEqDiff, Nat.reduceAdd, Nat.reduceLeDiff, Nat.reduceLT, reduceIte, Int.reduceLT, Int.reduceAdd]
      have hsz2 := evs_size hev2
      have hbl2 := book_length 0 ((es ++ [e]).map evB)
      have hesl : (es ++ [e]).length = es.length + 1 := by simp
      by_cases h0 : 0 < wh.length
      case neg =>
        have h0' : ¬ ((0 : Int) < wh.length) := by omega
        simp (disch := first | assumption | omega) only [e45, e44, e43, e1, e7, e8, eh, h0', go_sem, ↓reduceIte, Nat.reduceEqDiff, reduceIte]
        exact ⟨d - 1, by omega, i + 1, es ++ [e], a9, fz, .sh, o5, p5, o7, p7, by omega, by omega, haF2, hF0, by omega, hma2, hC2, by simp, rfl, rfl, rfl, .inr (.inl rfl), ho5, hp5, ho7, hp7, lx1, lx2⟩
      have h0' : (0 : Int) < wh.length := by omega
      have hml := Nat.mod_lt i h0
      have hrem : ((i : Int).tmod (wh.length : Int)) = ((i % wh.length : Nat) : Int) := by rw [Int.tmod_eq_emod_of_nonneg (by omega)]; omega
      have hat2 := at_int6 hml
      have hx2 := hw _ (List.getElem_mem hml)
      have hz0 : ¬ (wh.length : Int) = 0 := by omega
      have hmlz : ((i % wh.length : Nat) : Int) < wh.length := by omega
      generalize wh[i % wh.length] = y at *
      generalize i % wh.length = j at *
      simp (disch := first | assumption | omega) only [e10, e1, h0', hrem, hat2, hmlz, go_sem, ↓reduceIte, Nat.reduceEqDiff, Nat.reduceLeDiff, Nat.reduceLT, reduceIte, Int.reduceLT]
      refine ⟨hz0, ?_⟩
      refine callG_ok (Below_ok y 3 hx2 (by omega) (by omega) _) (by simp (disch := first | assumption | omega) only [go_sem]) ?_
      rintro _ _ ⟨rfl, hhh⟩
      rw [hhh]
      clear hhh
      generalize y % 3 = z
      by_cases hz : z = 0
      case neg =>
        simp (disch := first | assumption | omega) only [e45, e44, e43, e1, e7, e8, eh, hz, go_sem, ↓reduceIte, Nat.reduceEqDiff, reduceIte]
        exact ⟨d - 1, by omega, i + 1, es ++ [e], a9, fz, .sh, o5, p5, o7, p7, by omega, by omega, haF2, hF0, by omega, hma2, hC2, by simp, rfl, rfl, rfl, .inr (.inl rfl), ho5, hp5, ho7, hp7, lx1, lx2⟩
      have hbk6 : 6 ≤ (book 0 ((es ++ [e]).map evB)).length := by
        rw [← hsn, book_snoc, List.length_append, recB_length]; omega
      have hu8 := evs_u8 (es := es ++ [e])
      have hscan := evs_scan hev2
      have htorn := scan_torn hev2
      have hbf := backF_chain 0 hC2
      have hsn2 : (es ++ [e]).map evB ++ [evB evMark] = (es ++ [e] ++ [evMark]).map evB := by simp
      rw [evB_mark] at hsn2
      have hmark : doF (withF a9 fz) evMark = (withF a9 (fz + 1), 0) := doF_mark (by rw [memF_with hF0 (by omega)]; exact hma2) (by show fz < _; omega)
      have hC3 := chain_snoc hC2 (by rw [hmark])
      rw [hmark] at hC3
      simp only [] at hC3
      generalize hbk : book 0 ((es ++ [e]).map evB) = bk at *
      simp (disch := first | assumption | omega) only [hz, go_sem, ↓reduceIte, Nat.reduceEqDiff, reduceIte]
      refine callG_ok (CloneByte_ok .sh bk ⟨.inl rfl, fun h => by cases h⟩ (by omega) _) (by simp (disch := first | assumption | omega) only [go_sem]) ?_
      rintro _ _ ⟨⟨oc, rfl, hoc⟩, hhh⟩
      rw [hhh]
      clear hhh
      rcases hoc with ⟨_, hbn⟩ | rfl
      · rw [hbn] at hbk6; simp at hbk6
      have hap : ints .u8 bk ++ [AVal.int .u8 0, .int .u8 9, .int .u8 1] = ints .u8 (bk ++ [0, 9, 1]) := by simp [ints]
      have htk : List.take bk.length (ints .u8 (bk ++ [0, 9, 1])) = ints .u8 bk := by rw [ints_take]; simp
      simp (disch := first | assumption | omega) only [hap, go_sem, ↓reduceIte, Nat.reduceEqDiff, Nat.reduceAdd, Nat.reduceLeDiff, reduceIte, Int.reduceAdd, Int.reduceMul, Nat.reduceMul]
      refine ⟨by omega, by omega, ?_⟩
      refine callG_ok (Back_ok .sh (bk ++ [0, 9, 1]) (.inl rfl) (fun x hx => by
        rcases List.mem_append.1 hx with hx | hx
        · exact hu8 x hx
        · simp at hx; rcases hx with rfl | rfl | rfl <;> unfold inU8 <;> omega) (by simp; omega) _) (by simp (disch := first | assumption | omega) only [go_sem]) ?_
      rintro _ _ ⟨⟨rs2, oq, pq, hS2, rfl, hoq, hpq⟩, hhh⟩
      rw [hhh]
      clear hhh
      rw [IsScan.unique hS2 htorn, hbf] at hoq hpq ⊢
      have hoq1 := hoq.1
      have hpq1 := hpq.1
      simp (disch := first | assumption | omega) only [e8, memA, memC, withF, go_sem, ↓reduceIte, Nat.reduceEqDiff, Nat.reduceAdd, Nat.reduceLeDiff, Nat.reduceLT, reduceIte, Int.reduceLT, Int.reduceAdd]
      have hSame := fun hp => FSame_ok oq pq o7 p7 (withF a9 fz) (withF a9 fz) hoq1 hpq1 ho8 hp8 (by show a9.Asked.length < _; omega) (by show a9.Asked.length < _; omega) (by show a9.Has.length < _; omega) (by show a9.Has.length < _; omega) hp
      refine callG_ok (hSame _) (by simp (disch := first | assumption | omega) only [go_sem]) ?_
      rintro _ _ ⟨rfl, hhh⟩
      rw [hhh, decide_eq_true rfl]
      clear hhh
      simp (disch := first | assumption | omega) only [e8, htk, go_sem, ↓reduceIte, Nat.reduceEqDiff, Nat.reduceAdd, Nat.reduceLeDiff, reduceIte, Int.reduceLE, Int.reduceAdd, Int.reduceMul, Nat.reduceMul]
      have hAdd := fun hp => Add_ok .sh .sh bk [6, 0, 0, 0, 0] ⟨.inl rfl, fun h => by cases h⟩ ⟨.inl rfl, fun h => by cases h⟩ hu8 (by intro x hx; simp at hx; unfold inU8; omega) (by omega) (by simp) hp
      refine ⟨⟨by simp, ints_width _⟩, ?_⟩
      refine callG_ok (hAdd _) (by simp (disch := first | assumption | omega) only [go_sem]) ?_
      rintro _ _ ⟨hq, hhh⟩
      rw [hhh]
      clear hhh
      rcases hq with ⟨hlong, _⟩ | ⟨_, rs3, hS3, ⟨hfull, _⟩ | ⟨hroom, rfl⟩⟩
      · simp at hlong
      · rw [IsScan.unique hS3 hscan, hbk] at hfull
        simp at hfull
        omega
      rw [IsScan.unique hS3 hscan, hsn2]
      simp (disch := first | assumption | omega) only [e8, go_sem, ↓reduceIte, Nat.reduceEqDiff, Nat.reduceAdd, Nat.reduceLeDiff, Nat.reduceLT, reduceIte, Int.reduceLT, Int.reduceAdd]
      have hDo2 := fun hp => Do_ok oq pq .nil (withF a9 fz) evMark hoq hpq ⟨.inr rfl, fun _ => rfl⟩ (by show a9.Asked.length < _; omega) (by show a9.Has.length < _; omega) (by simp [evMark]) hp
      refine callG_ok (hDo2 _) (by simp (disch := first | assumption | omega) only [go_sem]) ?_
      rintro _ _ ⟨⟨or, pr, rfl, hor, hpr⟩, hhh⟩
      rw [hhh]
      clear hhh
      rw [hmark] at hor hpr ⊢
      have hor1 := hor.1
      have hpr1 := hpr.1
      simp (disch := first | assumption | omega) only [e45, e44, e43, e1, e7, e8, eh, memA, memC, withF, go_sem, ↓reduceIte, Nat.reduceEqDiff, Nat.reduceAdd, Nat.reduceLeDiff, Nat.reduceLT, reduceIte, Int.reduceLT, Int.reduceAdd]
      exact ⟨d - 1, by omega, i + 1, es ++ [e] ++ [evMark], a9, fz + 1, .sh, o5, p5, or, pr, by omega, by simp; omega, haF2, by omega, by omega, hma2, hC3, by simp, rfl, rfl, by rw [List.append_assoc]; rfl, .inr (.inl rfl), ho5, hp5, hor, hpr, lx1, lx2⟩
  · have hbl := book_length 0 (es.map evB)
    have hsz := evs_size hev
    have hbf := backF_chain 0 hC
    simp (disch := first | assumption | omega) only [e45, e44, e9, hlt, s1, memC, withF, go_sem, ↓reduceIte, Nat.reduceEqDiff, reduceIte]
    refine callG_ok (Back_ok qr (book 0 (es.map evB)) hqr.1 evs_u8 (by omega) _) (by simp (disch := first | assumption | omega) only [go_sem]) ?_
    rintro _ _ ⟨⟨rs, o5, p5, hS, rfl, ho5, hp5⟩, hhh⟩
    rw [hhh]
    clear hhh
    rw [IsScan.unique hS (evs_scan hev), hbf] at ho5 hp5 ⊢
    have ho6 := ho5.1
    have hp6 := hp5.1
    have hS1 := fun hp => FSame_ok o1 p1 o2 p2 a (withF a 0) ho3 hp3 ho4 hp4 (by omega) (by show a.Asked.length < _; omega) (by omega) (by show a.Has.length < _; omega) hp
    have hS2 := fun hp => FSame_ok o1 p1 o5 p5 a (withF a 0) ho3 hp3 ho6 hp6 (by omega) (by show a.Asked.length < _; omega) (by omega) (by show a.Has.length < _; omega) hp
    simp (disch := first | assumption | omega) only [e7, x7, e8, x8, memA, memC, withF, go_sem, ↓reduceIte, Nat.reduceEqDiff, Nat.reduceAdd, Nat.reduceLeDiff, Nat.reduceLT, reduceIte, Int.reduceLT, Int.reduceAdd]
    refine callG_ok (hS1 _) (by simp (disch := first | assumption | omega) only [go_sem]) ?_
    rintro _ _ ⟨rfl, hhh⟩
    rw [hhh, decide_eq_true (withF_self haF).symm]
    clear hhh
    simp (disch := first | assumption | omega) only [e7, x7, memC, go_sem, ↓reduceIte, Nat.reduceEqDiff, Nat.reduceAdd, Nat.reduceLeDiff, reduceIte, Int.reduceAdd]
    refine callG_ok (hS2 _) (by simp (disch := first | assumption | omega) only [go_sem]) ?_
    rintro _ _ ⟨rfl, hhh⟩
    rw [hhh, decide_eq_true (withF_self haF).symm]
    clear hhh
    simp (disch := first | assumption | omega) only [go_sem, ↓reduceIte, Nat.reduceEqDiff, reduceIte]
    subst hQ
    simp (disch := first | assumption | omega) only [R.ganttop_TopFalls, eh, go_sem, ↓reduceIte, reduceIte]
end Go.Proofs.Ytpdajkbfemcdlaa
