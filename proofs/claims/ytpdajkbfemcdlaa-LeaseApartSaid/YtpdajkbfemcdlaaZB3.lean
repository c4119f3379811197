import Derived.Test.YtpdajkbfemcdlaaZB2
set_option linter.unusedSimpArgs false
set_option linter.unusedVariables false
set_option maxRecDepth 10000
namespace Go.Proofs.Ytpdajkbfemcdlaa
open Go.Ge Go.Sort
def cfM (a b : Cell) : Int := if ¬a.Y = b.Y then IntKind.i64.wrap (a.Y - b.Y) else IntKind.i64.wrap (a.X - b.X)
theorem cmpM_ok : CmpOk F.gantmake_Cells_1 cfM := by
  intro a b h
  refine ACalls.of_aw Try.func181 K.gantmake_Cells_1 (by simp [Try.f181]) ?_
  generalize hQ : retQ R.gantmake_Cells_1 _ = Q
  simp (disch := first | assumption | omega) only [C.gantmake_Cells_1, go_sem, ↓reduceIte, Nat.reduceEqDiff, Nat.reduceLeDiff, reduceIte]
  simp (disch := first | assumption | omega) only [cellA, go_sem, Nat.reduceAdd, Nat.reduceLT, Int.reduceLT, Int.reduceAdd]
  refine condG_ifn (fun hc => ?_) fun hc => ?_
  · simp (disch := first | assumption | omega) only [go_sem, ↓reduceIte, Nat.reduceEqDiff, Nat.reduceAdd, Nat.reduceLeDiff, Nat.reduceLT, reduceIte, Int.reduceLT, Int.reduceAdd]
    subst hQ
    simp (disch := first | assumption | omega) only [R.gantmake_Cells_1, go_sem, ↓reduceIte, reduceIte]
    rw [cfM, if_pos hc]
  · simp (disch := first | assumption | omega) only [go_sem, ↓reduceIte, Nat.reduceEqDiff, Nat.reduceAdd, Nat.reduceLeDiff, reduceIte, Int.reduceAdd]
    subst hQ
    simp (disch := first | assumption | omega) only [R.gantmake_Cells_1, go_sem, ↓reduceIte, reduceIte]
    rw [cfM, if_neg (fun e => e hc)]
def Small (c : Cell) : Prop := -4 ≤ c.X ∧ c.X ≤ 3 ∧ -4 ≤ c.Y ∧ c.Y ≤ 3
theorem cfM_small {a b : Cell} (ha : Small a) (hb : Small b) : ltC cfM a b = ltC orderC a b := by
  unfold Small at ha hb
  rw [ltC_lt, Bool.eq_iff_iff, decide_eq_true_iff]
  unfold ltC cfM cellLt
  have w1 : IntKind.i64.wrap (a.Y - b.Y) = a.Y - b.Y := wrapI64 (by omega) (by omega)
  have w2 : IntKind.i64.wrap (a.X - b.X) = a.X - b.X := wrapI64 (by omega) (by omega)
  rw [w1, w2, decide_eq_true_iff]
  split <;> omega
def GoodC (cs : List Cell) : Prop := (∀ c ∈ cs, -4 ≤ c.X ∧ c.X ≤ 3 ∧ -4 ≤ c.Y ∧ c.Y ≤ 3) ∧ cs.Nodup
theorem goodC_nil : GoodC [] := ⟨by simp, List.nodup_nil⟩
theorem hb2 (cs : List Cell) (h : GoodC cs) {x y : Int} (hn : (⟨x - 4, y - 4⟩ : Cell) ∉ cs) (x0 : 0 ≤ x) (x8 : x < 8) (y0 : 0 ≤ y) (y8 : y < 8) : GoodC (cs ++ [⟨x - 4, y - 4⟩]) :=
  ⟨hb1 cs h.1 () x0 x8 y0 y8, List.nodup_append.2 ⟨h.2, by simp, fun a ha b hb e => hn (by rw [List.mem_singleton] at hb; rw [← hb, ← e]; exact ha)⟩⟩
def SmallA (d : Array Cell) : Prop := ∀ i, i < d.size → Small d[i]!
theorem small_mem {d : Array Cell} : SmallA d ↔ ∀ c ∈ d.toList, Small c := by
  constructor
  · intro h c hc
    obtain ⟨i, hi, rfl⟩ := List.mem_iff_getElem.1 hc
    have hi' : i < d.size := by simpa using hi
    have := h i hi'
    simpa [getElem!_pos, hi'] using this
  · intro h i hi
    rw [getElem!_pos d i hi]
    exact h _ (by simp)
theorem small_swp {d : Array Cell} (h : SmallA d) {i j : Nat} (hi : i < d.size) (hj : j < d.size) : SmallA (swp d i j) := by
  have hi' := h i hi
  have hj' := h j hj
  rw [small_mem] at h ⊢
  intro c hc
  unfold swp at hc
  rw [Array.toList_setIfInBounds, Array.toList_setIfInBounds] at hc
  rcases List.mem_or_eq_of_mem_set hc with hc | rfl
  · rcases List.mem_or_eq_of_mem_set hc with hc | rfl
    · exact h c hc
    · exact hj'
  · exact hi'
theorem insInner_congr (a : Nat) : ∀ (j : Nat) (d : Array Cell), SmallA d → j < d.size → insInner (ltC cfM) a j d = insInner (ltC orderC) a j d ∧ SmallA (insInner (ltC orderC) a j d)
  | 0, d, h, _ => ⟨rfl, h⟩
  | j + 1, d, h, hj => by
    have e := cfM_small (h (j + 1) hj) (h j (by omega))
    unfold insInner
    rw [e]
    split
    · exact insInner_congr a j _ (small_swp h hj (by omega)) (by rw [Sort.size_swp]; omega)
    · exact ⟨rfl, h⟩
theorem insInner_size (lt : Cell → Cell → Bool) (a : Nat) : ∀ (j : Nat) (d : Array Cell), (insInner lt a j d).size = d.size
  | 0, d => rfl
  | j + 1, d => by
    unfold insInner
    split
    · rw [insInner_size lt a j, Sort.size_swp]
    · rfl
theorem insOuter_congr (a b : Nat) : ∀ (n i : Nat) (d : Array Cell), b - i = n → SmallA d → b ≤ d.size → insOuter (ltC cfM) a b i d = insOuter (ltC orderC) a b i d
  | 0, i, d, hn, h, hb => by
    rw [insOuter.eq_def (ltC cfM), insOuter.eq_def (ltC orderC), if_neg (by omega), if_neg (by omega)]
  | n + 1, i, d, hn, h, hb => by
    rw [insOuter.eq_def (ltC cfM), insOuter.eq_def (ltC orderC), if_pos (by omega), if_pos (by omega)]
    obtain ⟨h1, h2⟩ := insInner_congr a i d h (by omega)
    rw [h1]
    exact insOuter_congr a b n (i + 1) _ (by omega) h2 (by rw [insInner_size]; exact hb)
def sortM (l : List Cell) : List Cell := (insertionSort (ltC cfM) l.toArray 0 l.length).toList
theorem sortM_ok {l : List Cell} (h : GoodC l) : (sortM l).length = l.length ∧ (∀ c ∈ sortM l, c ∈ l) ∧ Up (sortM l) := by
  have hs : SmallA l.toArray := fun i hi => by
    simp only [List.size_toArray] at hi
    have := h.1 _ (List.getElem_mem hi)
    simpa [Small, getElem!_pos, hi] using this
  have e : insertionSort (ltC cfM) l.toArray 0 l.length = insertionSort (ltC orderC) l.toArray 0 l.length := insOuter_congr 0 l.length _ 1 l.toArray rfl hs (by simp)
  obtain ⟨p1, p2⟩ := insertionSort_holds swoC l.toArray 0 l.length (by omega) (by simp)
  have hu : sortM l = sortC l := by
    unfold sortM
    rw [e]
    exact sorted_unique_holds swoC antiC l.toArray _ (by simpa using p1) (by simpa using p2)
  rw [hu]
  refine ⟨sortC_len l, fun c hc => (sortC_perm l).mem_iff.1 hc, ?_⟩
  have h1 := sortC_pair l
  have h2 : (sortC l).Nodup := (sortC_perm l).nodup_iff.2 h.2
  refine (h1.and h2).imp fun {a b} hab => ?_
  exact Decidable.byContradiction fun hn => hab.2 (cellLt_total hn hab.1)
theorem pdqUp_ok (l : List Cell) (id cap : Nat) (rest : List AVal) (lim : Int) (h : List HObj) (hid : h[id]? = some (.cells (flatC l ++ rest))) (hn : l.length ≤ 12) :
    ACalls Try.prog F.slices_pdqsortCmpFunc_Cell [.ref id 0 l.length cap, .int .i64 0, .int .i64 l.length, .int .i64 lim, .func F.gantmake_Cells_1 []] h
      (fun v h' => v = .tup [] ∧ h' = h.set id (.cells (flatC (sortM l) ++ rest))) := by
  refine ACalls.of_aw Try.func203 K.slices_pdqsortCmpFunc_Cell (by simp [Try.f203]) ?_
  generalize hQ : retQ R.slices_pdqsortCmpFunc_Cell _ = Q
  simp (disch := first | assumption | omega) only [C.slices_pdqsortCmpFunc_Cell, go_sem]
  refine aw_count (fun d S => S.env 0 = .ref id 0 l.length cap ∧ S.env 1 = .int .i64 0 ∧ S.env 2 = .int .i64 l.length ∧ S.env 4 = .func F.gantmake_Cells_1 [] ∧ S.heap = h) (n := 0) ⟨by simp (disch := first | assumption | omega) only [go_sem, ↓reduceIte, reduceCtorEq, reduceIte], by simp (disch := first | assumption | omega) only [go_sem, ↓reduceIte, Nat.reduceEqDiff, reduceIte], by simp (disch := first | assumption | omega) only [go_sem, ↓reduceIte, Nat.reduceEqDiff, reduceIte], by simp (disch := first | assumption | omega) only [go_sem, ↓reduceIte, Nat.reduceEqDiff, reduceIte], by simp (disch := first | assumption | omega) only [go_sem]⟩ ?_
  rintro d S ⟨e0, e1, e2, e4, eh⟩
  have hn' : (l.length : Int) ≤ 12 := by omega
  simp (disch := first | assumption | omega) only [e0, e1, e2, e4, hn', go_sem, ↓reduceIte, Nat.reduceEqDiff, reduceCtorEq, reduceIte]
  refine callG_ok (insertion_ok F.gantmake_Cells_1 cfM cmpM_ok l.toArray l.length (by simp) id cap 0 l.length rest _ (by simp (disch := first | assumption | omega) only [eh, hid, go_sem]) (by omega) (by simp) (by simp; omega)) (by simp (disch := first | assumption | omega) only [go_sem]) ?_
  rintro _ _ ⟨rfl, hhh⟩
  rw [hhh]
  clear hhh
  simp (disch := first | assumption | omega) only [eh, go_sem]
  subst hQ
  simp (disch := first | assumption | omega) only [R.slices_pdqsortCmpFunc_Cell, go_sem]
  rfl
theorem SortUp_ok (l : List Cell) (id cap : Nat) (rest : List AVal) (h : List HObj) (hid : h[id]? = some (.cells (flatC l ++ rest))) (hn : l.length ≤ 12) :
    ACalls Try.prog F.slices_SortFunc_Cell [.ref id 0 l.length cap, .func F.gantmake_Cells_1 []] h
      (fun v h' => v = .tup [] ∧ h' = h.set id (.cells (flatC (sortM l) ++ rest))) := by
  refine ACalls.of_aw Try.func180 K.slices_SortFunc_Cell (by simp [Try.f180]) ?_
  generalize hQ : retQ R.slices_SortFunc_Cell _ = Q
  simp (disch := first | assumption | omega) only [C.slices_SortFunc_Cell, go_sem, ↓reduceIte, Nat.reduceEqDiff, reduceCtorEq, reduceIte]
  refine callG_ok (BLen_ok l.length (by omega) _) (by simp (disch := first | assumption | omega) only [go_sem]) ?_
  rintro _ _ ⟨⟨r, rfl⟩, hhh⟩
  rw [hhh]
  clear hhh
  simp (disch := first | assumption | omega) only [go_sem, ↓reduceIte, Nat.reduceEqDiff, reduceIte]
  refine callG_ok (pdqUp_ok l id cap rest r _ (by simp (disch := first | assumption | omega) only [hid, go_sem]) hn) (by simp (disch := first | assumption | omega) only [go_sem]) ?_
  rintro _ _ ⟨rfl, hhh⟩
  rw [hhh]
  clear hhh
  simp (disch := first | assumption | omega) only [go_sem]
  subst hQ
  simp (disch := first | assumption | omega) only [R.slices_SortFunc_Cell, go_sem]
theorem MadeUp_ok (o : Own) (l : List Int) (ho : Rdo o) (hl : ∀ c ∈ l, inI64 c) (h : List HObj) :
    ACalls Try.prog F.gantmake_Cells [.lst o (ints .i64 l)] h (fun v h' => (∃ cs : List Cell, cs.length ≤ 8 ∧ (∀ c ∈ cs, -4 ≤ c.X ∧ c.X ≤ 3 ∧ -4 ≤ c.Y ∧ c.Y ≤ 3) ∧ Up cs ∧ (v = .lst .nil [] ∧ cs = [] ∨ v = .lst (.app 2) (cellsA cs))) ∧ h' = h) := by
  refine ACalls.gcn (ACalls.of_aw Try.func111 K.gantmake_Cells (by simp [Try.f111]) ?_)
  generalize hQ : retQ R.gantmake_Cells _ = Q
  simp (disch := first | assumption | omega) only [C.gantmake_Cells, go_sem, ↓reduceIte, Nat.reduceEqDiff, reduceCtorEq, Nat.reduceLeDiff, reduceIte]
  refine callG_ok (Next_ok h.length o l 9 ho hl (by simp [inI64]) _ (by simp (disch := first | assumption | omega) only [go_sem, ↓reduceIte, reduceIte])) (by simp (disch := first | assumption | omega) only [go_sem]) ?_
  rintro _ _ ⟨n, o1, l1, rfl, n0, n9, ho1, hl1, rfl⟩
  have n9 := n9 (by omega)
  obtain ⟨m, rfl⟩ := Int.eq_ofNat_of_zero_le n0
  simp (disch := first | assumption | omega) only [go_sem, ↓reduceIte, reduceIte]
  refine aw_count (fun d S => ∃ (k : Nat) (o' : Own) (l' : List Int) (cs : List Cell) (ext : List HObj), k + d = m ∧ S.env 11 = .int .i64 k ∧ S.env 10 = .int .i64 m ∧ S.env 3 = .hp h.length 0 ∧ Held (S.env 4) cs ∧ cs.length ≤ k ∧ GoodC cs ∧ Rdo o' ∧ (∀ c ∈ l', inI64 c) ∧ S.heap = h ++ .cells [.lst o' (ints .i64 l')] :: ext) (n := m)
    ⟨0, o1, l1, [], [], by omega, by simp (disch := first | assumption | omega) only [go_sem, ↓reduceIte, reduceIte], by simp (disch := first | assumption | omega) only [go_sem, ↓reduceIte, Nat.reduceEqDiff, reduceIte], by simp (disch := first | assumption | omega) only [go_sem, ↓reduceIte, Nat.reduceEqDiff, reduceIte], .inl ⟨by simp (disch := first | assumption | omega) only [go_sem, ↓reduceIte, Nat.reduceEqDiff, reduceIte], rfl⟩, by simp, goodC_nil, ho1, hl1, by simp (disch := first | assumption | omega) only [go_sem]⟩ ?_
  rintro d S ⟨k, o', l', cs, ext, hk, e11, e10, e3, e4, hcs, hcb, ho', hl', eh⟩
  simp (disch := first | assumption | omega) only [e11, e10, go_sem, ↓reduceIte, reduceIte]
  refine condG_if (fun hlt => ?_) fun hge => ?_
  · simp (disch := first | assumption | omega) only [e3, go_sem, ↓reduceIte, Nat.reduceEqDiff, reduceIte]
    refine callG_ok (Next_ok h.length o' l' 8 ho' hl' (by simp [inI64]) _ (by simp (disch := first | assumption | omega) only [eh, go_sem])) (by simp (disch := first | assumption | omega) only [go_sem]) ?_
    rintro _ _ ⟨x, o2, l2, rfl, x0, x8, ho2, hl2, rfl⟩
    have x8 := x8 (by omega)
    simp (disch := first | assumption | omega) only [e3, eh, go_sem, ↓reduceIte, Nat.reduceEqDiff, reduceIte]
    refine callG_ok (Next_ok h.length o2 l2 8 ho2 hl2 (by simp [inI64]) _ (by simp (disch := first | assumption | omega) only [go_sem])) (by simp (disch := first | assumption | omega) only [go_sem]) ?_
    rintro _ _ ⟨y, o3, l3, rfl, y0, y8, ho3, hl3, rfl⟩
    have y8 := y8 (by omega)
    simp (disch := first | assumption | omega) only [go_sem, ↓reduceIte, Nat.reduceEqDiff, Nat.reduceAdd, Nat.reduceLeDiff, reduceIte, Int.reduceAdd]
    rcases e4 with ⟨e4, rfl⟩ | ⟨cap, e4, hcap, h0⟩
    · refine thaw_nil (xs := []) (by simp (disch := first | assumption | omega) only [e4, go_sem, ↓reduceIte, Nat.reduceEqDiff, reduceIte]) ?_
      simp (disch := first | assumption | omega) only [e4, go_sem, ↓reduceIte, Nat.reduceEqDiff, Nat.reduceAdd, Nat.reduceLeDiff, reduceIte, Int.reduceAdd]
      refine callG_ok (ContainsCell_ok .nil [] ⟨x - 4, y - 4⟩ (.inr rfl) (by simp) _) (by simp (disch := first | assumption | omega) only [go_sem]) ?_
      rintro _ _ ⟨rfl, hhh⟩
      rw [hhh]
      clear hhh
      rw [show decide ((⟨x - 4, y - 4⟩ : Cell) ∈ ([] : List Cell)) = false from by simp]
      simp (disch := first | assumption | omega) only [e4, aops_hop, hstep, srcH, srcW, growV, List.flatMap_cons, List.flatMap_nil, AVal.cells, rdcInt, go_sem, ↓reduceIte, Nat.reduceEqDiff, reduceCtorEq, Nat.reduceAdd, Nat.reduceLeDiff, reduceIte, Int.reduceAdd, Int.reduceMul, Nat.reduceMul]
      refine fun _ cap hc => ?_
      refine own_cells (cs := [⟨x - 4, y - 4⟩]) (cap := cap) (rest := List.replicate ((cap - 1) * 2) .junk) (id := h.length + (ext.length + 1)) (by simp (disch := first | assumption | omega) only [go_sem, ↓reduceIte, reduceIte]) (by simp (disch := first | assumption | omega) only [go_sem]; rfl) (by simp; omega) (by omega) (by simp) ?_
      simp (disch := first | assumption | omega) only [e11, e10, e3, go_sem, ↓reduceIte, Nat.reduceEqDiff, reduceIte]
      refine ⟨d - 1, by omega, k + 1, o3, l3, [⟨x - 4, y - 4⟩], ext ++ [.dead], by omega, by simp, .inr ⟨cap, rfl, by simp; omega, by omega⟩, by simp, hb2 [] goodC_nil (by simp) x0 x8 y0 y8, ho3, hl3, rfl⟩
    · refine thaw_cells (cs := cs) (cap := cap) (by simp (disch := first | assumption | omega) only [e4, go_sem, ↓reduceIte, Nat.reduceEqDiff, reduceIte]) hcap ?_
      simp (disch := first | assumption | omega) only [go_sem, ↓reduceIte, Nat.reduceEqDiff, Nat.reduceAdd, Nat.reduceLeDiff, reduceIte, Int.reduceAdd]
      refine callG_ok (ContainsCellR_ok cs ⟨x - 4, y - 4⟩ _ cap _ _ (by simp (disch := first | assumption | omega) only [go_sem]; rfl) (by omega)) (by simp (disch := first | assumption | omega) only [go_sem]) ?_
      rintro _ _ ⟨rfl, hhh⟩
      rw [hhh]
      clear hhh
      by_cases hin : (⟨x - 4, y - 4⟩ : Cell) ∈ cs
      · rw [decide_eq_true hin]
        simp (disch := first | assumption | omega) only [go_sem, ↓reduceIte, reduceIte]
        refine own_cells (cs := cs) (cap := cap) (rest := List.replicate ((cap - cs.length) * 2) .junk) (id := h.length + (ext.length + 1)) (by simp (disch := first | assumption | omega) only [go_sem, ↓reduceIte, Nat.reduceEqDiff, reduceIte]) (by simp (disch := first | assumption | omega) only [go_sem]) hcap (by omega) (by simp) ?_
        simp (disch := first | assumption | omega) only [e11, e10, e3, go_sem, ↓reduceIte, Nat.reduceEqDiff, reduceIte]
        refine ⟨d - 1, by omega, k + 1, o3, l3, cs, ext ++ [.dead], by omega, by simp, .inr ⟨cap, rfl, hcap, h0⟩, by omega, hcb, ho3, hl3, rfl⟩
      · rw [decide_eq_false hin]
        have hpush := fun h1 => flatC_push (cs := cs) (cap := cap) (c := ⟨x - 4, y - 4⟩) h1
        simp (disch := first | assumption | omega) only [aops_hop, hstep, srcH, srcW, growV, List.flatMap_cons, List.flatMap_nil, AVal.cells, rdcInt, flatC_take, go_sem, ↓reduceIte, Nat.reduceEqDiff, reduceCtorEq, Nat.reduceAdd, Nat.reduceLeDiff, reduceIte, Int.reduceAdd, Int.reduceMul, Nat.reduceMul]
        refine ⟨by omega, by omega, fun _ h1 => ⟨by rw [flatC_length, List.length_replicate]; omega, ?_⟩, fun _ h1 => ?_⟩
        · rw [hpush (by omega)]
          refine own_cells (cs := cs ++ [⟨x - 4, y - 4⟩]) (cap := cap) (rest := List.replicate ((cap - (cs.length + 1)) * 2) .junk) (id := h.length + (ext.length + 1)) (by simp (disch := first | assumption | omega) only [go_sem, ↓reduceIte, reduceIte]) (by simp (disch := first | assumption | omega) only [go_sem]) (by simp; omega) (by omega) (by simp) ?_
          simp (disch := first | assumption | omega) only [e11, e10, e3, go_sem, ↓reduceIte, Nat.reduceEqDiff, reduceIte]
          refine ⟨d - 1, by omega, k + 1, o3, l3, cs ++ [⟨x - 4, y - 4⟩], ext ++ [.dead], by omega, by simp, .inr ⟨cap, rfl, by simp; omega, h0⟩, by simp; omega, hb2 cs hcb hin x0 x8 y0 y8, ho3, hl3, rfl⟩
        · have hsr : (if cs.length = 0 then some (0, []) else if cs.length * 2 ≤ (flatC cs).length + (List.replicate ((cap - cs.length) * 2) AVal.junk).length then some (cs.length, List.map Ge.rdc (flatC cs)) else none) = some (cs.length, flatC cs) := by
            by_cases hz : cs.length = 0
            · rw [if_pos hz, List.eq_nil_of_length_eq_zero hz]; rfl
            · rw [if_neg hz, if_pos (by rw [flatC_length]; omega), flatC_rdc]
          rw [hsr]
          refine fun cap2 hc2 => ?_
          refine own_cells (cs := cs ++ [⟨x - 4, y - 4⟩]) (cap := cap2) (rest := List.replicate ((cap2 - (cs.length + 1)) * 2) .junk) (id := h.length + (ext.length + 1 + 1)) (by simp (disch := first | assumption | omega) only [go_sem, ↓reduceIte, reduceIte]) (by simp (disch := first | assumption | omega) only [flatC_append, go_sem]; rfl) (by simp; omega) (by omega) (by simp) ?_
          simp (disch := first | assumption | omega) only [e11, e10, e3, go_sem, ↓reduceIte, Nat.reduceEqDiff, reduceIte]
          refine ⟨d - 1, by omega, k + 1, o3, l3, cs ++ [⟨x - 4, y - 4⟩], _, by omega, by simp, .inr ⟨cap2, rfl, by simp; omega, by omega⟩, by simp; omega, hb2 cs hcb hin x0 x8 y0 y8, ho3, hl3, rfl⟩
  · rcases e4 with ⟨e4, rfl⟩ | ⟨cap, e4, hcap, h0⟩
    · refine thaw_nil (xs := []) (by simp (disch := first | assumption | omega) only [e4, go_sem, ↓reduceIte, Nat.reduceEqDiff, reduceIte]) ?_
      simp (disch := first | assumption | omega) only [e4, go_sem, ↓reduceIte, Nat.reduceEqDiff, reduceIte]
      refine callG_ok (SortNil_ok F.gantmake_Cells_1 _) (by simp (disch := first | assumption | omega) only [go_sem]) ?_
      rintro _ _ ⟨rfl, hhh⟩
      rw [hhh]
      clear hhh
      simp (disch := first | assumption | omega) only [go_sem]
      refine own_nil (xs := []) (by simp (disch := first | assumption | omega) only [e4, go_sem, ↓reduceIte, Nat.reduceEqDiff, reduceIte]) ?_
      rw [aw_grab]
      simp (disch := first | assumption | omega) only [e4, go_sem, ↓reduceIte, Nat.reduceEqDiff, reduceIte]
      subst hQ
      simp (disch := first | assumption | omega) only [R.gantmake_Cells, eh, go_sem, ↓reduceIte, reduceIte, Int.reduceNeg]
      exact ⟨.cells [.lst o' (ints .i64 l')] :: ext, rfl, by simp [AVal.ids, idsL], [], by simp, by simp, List.Pairwise.nil, .inl rfl⟩
    · refine thaw_cells (cs := cs) (cap := cap) (by simp (disch := first | assumption | omega) only [e4, go_sem, ↓reduceIte, Nat.reduceEqDiff, reduceIte]) hcap ?_
      simp (disch := first | assumption | omega) only [eh, go_sem, ↓reduceIte, reduceIte]
      refine callG_ok (SortUp_ok cs _ cap (List.replicate ((cap - cs.length) * 2) .junk) _ (by simp (disch := first | assumption | omega) only [go_sem]) (by omega)) (by simp (disch := first | assumption | omega) only [go_sem]) ?_
      rintro _ _ ⟨rfl, hhh⟩
      rw [hhh]
      clear hhh
      obtain ⟨hc1, hc2, hc3⟩ := sortM_ok hcb
      generalize sortM cs = cs' at *
      simp (disch := first | assumption | omega) only [go_sem]
      rw [← hc1]
      refine own_cells (cs := cs') (cap := cap) (rest := List.replicate ((cap - cs'.length) * 2) .junk) (id := h.length + (ext.length + 1)) (by simp (disch := first | assumption | omega) only [go_sem, ↓reduceIte, Nat.reduceEqDiff, reduceIte]) (by simp (disch := first | assumption | omega) only [go_sem]) (by omega) (by omega) (by simp) ?_
      rw [aw_grab]
      simp (disch := first | assumption | omega) only [go_sem, ↓reduceIte, reduceIte]
      subst hQ
      simp (disch := first | assumption | omega) only [R.gantmake_Cells, go_sem, ↓reduceIte, reduceIte, Int.reduceNeg]
      exact ⟨.cells [.lst o' (ints .i64 l')] :: (ext ++ [.dead]), rfl, by simp [AVal.ids, cells_ids], cs', by omega, fun c hc => hcb.1 c (hc2 c hc), hc3, .inr rfl⟩
end Go.Proofs.Ytpdajkbfemcdlaa
set_option linter.unusedSimpArgs false
set_option linter.unusedVariables false
set_option maxRecDepth 10000
namespace Go.Proofs.Ytpdajkbfemcdlaa
open Go.Ge Go.Sort
theorem ring_dec (T : Tb) (arm : Nat) (cs : List Cell) : ∃ tb, RingB T arm cs tb := by
  rcases Classical.em (∃ k ∈ blkL T arm (minusC cs (T.of arm)) T.waits.length, Rcw T k arm) with h | h
  · exact ⟨true, fun _ => h, fun _ => rfl⟩
  · exact ⟨false, (fun e => by cases e), fun e => absurd e h⟩
def Good (n : Nat) (T : Tb) : Prop := T.Inv ∧ Busy T ∧ T.has.length = n
theorem Good.ask {n : Nat} {T : Tb} (h : Good n T) {arm : Nat} (ha : arm < n) {cs : List Cell} {tb : Bool} (htb : RingB T arm cs tb) : Good n (askL T arm cs tb).2 := by
  obtain ⟨h1, h2, h3⟩ := ask_all h.1 h.2.1 (by rw [h.2.2]; exact ha) htb
  exact ⟨h1, h2, h3.trans h.2.2⟩
theorem Good.done {n : Nat} {T : Tb} (h : Good n T) {arm : Nat} (ha : arm < n) (cs : List Cell) : Good n (if doneC T arm cs = 0 then doneL T arm cs else T) := by
  split
  · obtain ⟨h1, h2, h3, _⟩ := done_all h.1 (arm := arm) (by rw [h.2.2]; exact ha) cs
    exact ⟨h1, h2, h3.trans h.2.2⟩
  · exact h
theorem three_inI64 (a b c : Int) : ∀ x ∈ [IntKind.i64.wrap a, IntKind.i64.wrap b, IntKind.i64.wrap c], inI64 x := by
  intro x hx
  simp only [List.mem_cons, List.not_mem_nil, or_false] at hx
  rcases hx with rfl | rfl | rfl <;> exact wrap_inI64 _
theorem lTable_ok (n : Nat) (h1 : 1 ≤ n) (h4 : n ≤ 4) (o : Own) (l : List Int) (ho : Rdo o) (hl : ∀ c ∈ l, inI64 c) (hll : l.length ≤ 1152921504606846976) (h : List HObj) :
    ACalls Try.prog F.gantkeep5_table [.int .i64 n, .lst o (ints .i64 l)] h (fun v h' => ∃ tid T, v = .tup [.hp tid 0, .bool true] ∧ Lv h h' tid T ∧ Good n T) := by
  obtain ⟨i0, b0⟩ := newT_inv n
  have ro : ∀ l : List Cell, Rdn .sh l := fun l => ⟨.inl rfl, fun e => by cases e⟩
  obtain ⟨N, hN, hN30, hNl⟩ : ∃ N : Nat, (if (60 : Int) < l.length then (60 : Int) else (l.length : Int)) = (N : Int) ∧ N ≤ 60 ∧ N ≤ l.length := by
    split
    · exact ⟨60, rfl, by omega, by omega⟩
    · exact ⟨l.length, rfl, by omega, by omega⟩
  have hNI : (N : Int) ≤ l.length := by omega
  refine ACalls.of_aw Try.func135 K.gantkeep5_table (by simp [Try.f135]) ?_
  generalize hQ : retQ R.gantkeep5_table _ = Q
  simp (disch := first | assumption | omega) only [C.gantkeep5_table, go_sem, ↓reduceIte, reduceCtorEq, reduceIte]
  refine callG_ok (NewLv n h1 h4 _) (by simp (disch := first | assumption | omega) only [go_sem]) ?_
  rintro _ h1 ⟨tid, rfl, hL⟩
  simp only [go_sem] at hL
  simp (disch := first | assumption | omega) only [hN, ints_take, go_sem, ↓reduceIte, Nat.reduceEqDiff, Nat.reduceAdd, Nat.reduceLT, reduceIte, Int.reduceLT, Int.reduceLE, Int.reduceAdd]
  have hLn : (l.take N).length = N := by simp; omega
  have hLw : ∀ c ∈ l.take N, inI64 c := fun c hc => hl c (List.mem_of_mem_take hc)
  refine ⟨⟨by omega, ints_width _⟩, ?_⟩
  refine aw_count (fun d S => ∃ (i : Nat) (T : Tb), i + d = N ∧ S.env 30 = .int .i64 i ∧ S.env 29 = .int .i64 N ∧ S.env 28 = .lst .sh (ints .i64 (l.take N)) ∧ S.env 6 = .hp tid 0 ∧ S.env 0 = .int .i64 n ∧ Lv h S.heap tid T ∧ Good n T) (n := N)
    ⟨0, newT n, by omega, by simp (disch := first | assumption | omega) only [go_sem, ↓reduceIte, reduceIte], by simp (disch := first | assumption | omega) only [hLn, go_sem, ↓reduceIte, Nat.reduceEqDiff, reduceIte], by simp (disch := first | assumption | omega) only [go_sem, ↓reduceIte, Nat.reduceEqDiff, reduceIte], by simp (disch := first | assumption | omega) only [go_sem, ↓reduceIte, Nat.reduceEqDiff, reduceIte], by simp (disch := first | assumption | omega) only [go_sem, ↓reduceIte, reduceCtorEq, reduceIte], by simp (disch := first | assumption | omega) only [go_sem]; exact hL, i0, b0, by simp [newT]⟩ ?_
  generalize l.take N = L at *
  rintro d S ⟨i, T, hid, e30, e29, e28, e6, e0, hT, hG⟩
  by_cases hlt : (i : Int) < N
  · have hlt1 : i < L.length := by omega
    have hgx := at_ints' (k := .i64) L i hlt1
    have hxi := hLw _ (List.getElem_mem hlt1)
    rw [getD_at hlt1] at hgx
    generalize L[i] = x at *
    simp (disch := first | assumption | omega) only [e30, e29, e28, e0, hlt, hgx, go_sem, ↓reduceIte, Nat.reduceEqDiff, reduceCtorEq, Nat.reduceLeDiff, Nat.reduceLT, reduceIte, Int.reduceLT]
    refine ⟨hlt1, ?_⟩
    refine callG_ok (Below_ok x n hxi (by omega) (by omega) _) (by simp (disch := first | assumption | omega) only [go_sem]) ?_
    rintro _ _ ⟨rfl, hhh⟩
    rw [hhh]
    clear hhh
    have m1 := Int.emod_nonneg x (b := (n : Int)) (by omega)
    have m2 := Int.emod_lt_of_pos x (b := (n : Int)) (by omega)
    obtain ⟨a, ha⟩ := Int.eq_ofNat_of_zero_le m1
    rw [ha] at m1 m2 ⊢
    have han : a < n := by omega
    obtain ⟨hI, hB, hTn⟩ := hG
    simp (disch := first | assumption | omega) only [go_sem, ↓reduceIte, Nat.reduceEqDiff, Nat.reduceAdd, Nat.reduceLeDiff, reduceIte, Int.reduceAdd, Int.reduceMul, Int.reduceNe, Nat.reduceMul]
    refine callG_ok (MadeUp_ok .sh [IntKind.i64.wrap (x.tdiv 7), IntKind.i64.wrap (x.tdiv 11), IntKind.i64.wrap (x.tdiv 13)] (.inl rfl) (three_inI64 _ _ _) _) (by simp (disch := first | assumption | omega) only [go_sem]) ?_
    rintro _ _ ⟨⟨cs, h8, hcb, hup, hv⟩, hhh⟩
    rw [hhh]
    clear hhh
    rcases hv with ⟨rfl, rfl⟩ | rfl
    · simp (disch := first | assumption | omega) only [go_sem, ↓reduceIte, Nat.reduceEqDiff, reduceIte, Int.reduceNe]
      refine callG_ok (Below_ok (IntKind.i64.wrap (x.tdiv 5)) 4 (wrap_inI64 _) (by omega) (by omega) _) (by simp (disch := first | assumption | omega) only [go_sem]) ?_
      rintro _ _ ⟨rfl, hhh⟩
      rw [hhh]
      clear hhh
      have k1 := Int.emod_nonneg (IntKind.i64.wrap (x.tdiv 5)) (b := 4) (by omega)
      have k2 := Int.emod_lt_of_pos (IntKind.i64.wrap (x.tdiv 5)) (b := 4) (by omega)
      generalize IntKind.i64.wrap (x.tdiv 5) % 4 = u at *
      simp (disch := first | assumption | omega) only [go_sem, ↓reduceIte, reduceIte]
      by_cases u0 : u = 0
      · simp (disch := first | assumption | omega) only [e6, u0, go_sem, ↓reduceIte, Nat.reduceEqDiff, reduceIte]
        obtain ⟨tb, htb⟩ := ring_dec T a ([] : List Cell)
        refine callG_ok (AskLv a _ rfl .nil ([] : List Cell) ⟨.inr rfl, fun _ => rfl⟩ (by first | omega | simp) T hI (by omega) (by omega) tb htb tid h _ (by simp (disch := first | assumption | omega) only [go_sem]; exact hT)) (by simp (disch := first | assumption | omega) only [go_sem]) ?_
        rintro _ h2 ⟨rfl, hL2⟩
        have hG2 := Good.ask (n := n) ⟨hI, hB, hTn⟩ han htb
        generalize (askL T a ([] : List Cell) tb).2 = T2 at *
        simp (disch := first | assumption | omega) only [e30, e29, e28, e6, e0, go_sem, ↓reduceIte, Nat.reduceEqDiff, reduceCtorEq, reduceIte]
        exact ⟨d - 1, by omega, i + 1, T2, by omega, by simp, hL2, hG2⟩
      by_cases u1 : u = 1
      · have u0' : ¬(1 : Int) = 0 := by omega
        simp (disch := first | assumption | omega) only [e6, u1, u0', go_sem, ↓reduceIte, Nat.reduceEqDiff, reduceIte]
        obtain ⟨tb, htb⟩ := ring_dec T a ([] : List Cell)
        refine callG_ok (AskLv a _ rfl .nil ([] : List Cell) ⟨.inr rfl, fun _ => rfl⟩ (by first | omega | simp) T hI (by omega) (by omega) tb htb tid h _ (by simp (disch := first | assumption | omega) only [go_sem]; exact hT)) (by simp (disch := first | assumption | omega) only [go_sem]) ?_
        rintro _ h2 ⟨rfl, hL2⟩
        have hG2 := Good.ask (n := n) ⟨hI, hB, hTn⟩ han htb
        generalize (askL T a ([] : List Cell) tb).2 = T2 at *
        simp (disch := first | assumption | omega) only [e30, e29, e28, e6, e0, go_sem, ↓reduceIte, Nat.reduceEqDiff, reduceCtorEq, reduceIte]
        exact ⟨d - 1, by omega, i + 1, T2, by omega, by simp, hL2, hG2⟩
      by_cases u2 : u = 2
      · simp (disch := first | assumption | omega) only [e6, u2, go_sem, ↓reduceIte, Nat.reduceEqDiff, reduceIte, Int.reduceEq]
        refine callG_ok (CellsLv a _ rfl T hI (by omega) tid h _ (by simp (disch := first | assumption | omega) only [go_sem]; exact hT)) (by simp (disch := first | assumption | omega) only [go_sem]) ?_
        rintro _ _ ⟨⟨o', rfl, ho'⟩, hhh⟩
        rw [hhh]
        clear hhh
        have hcl := (fault_up (hI.ok a)).1
        have ho2 : o' = .nil ∧ T.of a = [] ∨ o' = .app 2 := ho'
        rcases ho2 with ⟨rfl, ha0⟩ | rfl
        · simp (disch := first | assumption | omega) only [e6, go_sem, ↓reduceIte, Nat.reduceEqDiff, reduceIte]
          refine callG_ok (Meet_ok .nil .nil (T.of a) ([] : List Cell) ⟨.inr rfl, fun _ => ha0⟩ ⟨.inr rfl, fun _ => rfl⟩ (by first | omega | simp) _) (by simp (disch := first | assumption | omega) only [go_sem]) ?_
          rintro _ _ ⟨rfl, hhh⟩
          rw [hhh]
          clear hhh
          have hml : (meetC (T.of a) ([] : List Cell)).length ≤ 400 := Nat.le_trans (Nat.le_trans (List.length_filter_le _ _) (normC_len _)) hcl
          simp (disch := first | assumption | omega) only [go_sem, ↓reduceIte, Nat.reduceEqDiff, reduceIte]
          refine callG_ok (DoneLv a _ rfl .sh (meetC (T.of a) ([] : List Cell)) (ro _) (by omega) T hI (by omega) (by omega) tid h _ (by simp (disch := first | assumption | omega) only [go_sem]; exact hT)) (by simp (disch := first | assumption | omega) only [go_sem]) ?_
          rintro _ h2 ⟨rfl, hL2⟩
          have hG2 := Good.done (n := n) ⟨hI, hB, hTn⟩ han (meetC (T.of a) ([] : List Cell))
          generalize (if doneC T a (meetC (T.of a) ([] : List Cell)) = 0 then doneL T a (meetC (T.of a) ([] : List Cell)) else T) = T2 at *
          simp (disch := first | assumption | omega) only [e30, e29, e28, e6, e0, go_sem, ↓reduceIte, Nat.reduceEqDiff, reduceCtorEq, reduceIte]
          exact ⟨d - 1, by omega, i + 1, T2, by omega, by simp, hL2, hG2⟩
        · simp (disch := first | assumption | omega) only [e6, go_sem, ↓reduceIte, Nat.reduceEqDiff, reduceIte]
          refine callG_ok (Meet_ok .sh .nil (T.of a) ([] : List Cell) (ro _) ⟨.inr rfl, fun _ => rfl⟩ (by first | omega | simp) _) (by simp (disch := first | assumption | omega) only [go_sem]) ?_
          rintro _ _ ⟨rfl, hhh⟩
          rw [hhh]
          clear hhh
          have hml : (meetC (T.of a) ([] : List Cell)).length ≤ 400 := Nat.le_trans (Nat.le_trans (List.length_filter_le _ _) (normC_len _)) hcl
          simp (disch := first | assumption | omega) only [go_sem, ↓reduceIte, Nat.reduceEqDiff, reduceIte]
          refine callG_ok (DoneLv a _ rfl .sh (meetC (T.of a) ([] : List Cell)) (ro _) (by omega) T hI (by omega) (by omega) tid h _ (by simp (disch := first | assumption | omega) only [go_sem]; exact hT)) (by simp (disch := first | assumption | omega) only [go_sem]) ?_
          rintro _ h2 ⟨rfl, hL2⟩
          have hG2 := Good.done (n := n) ⟨hI, hB, hTn⟩ han (meetC (T.of a) ([] : List Cell))
          generalize (if doneC T a (meetC (T.of a) ([] : List Cell)) = 0 then doneL T a (meetC (T.of a) ([] : List Cell)) else T) = T2 at *
          simp (disch := first | assumption | omega) only [e30, e29, e28, e6, e0, go_sem, ↓reduceIte, Nat.reduceEqDiff, reduceCtorEq, reduceIte]
          exact ⟨d - 1, by omega, i + 1, T2, by omega, by simp, hL2, hG2⟩
      simp (disch := first | assumption | omega) only [e6, u0, u1, u2, go_sem, ↓reduceIte, Nat.reduceEqDiff, reduceIte]
      refine callG_ok (CellsLv a _ rfl T hI (by omega) tid h _ (by simp (disch := first | assumption | omega) only [go_sem]; exact hT)) (by simp (disch := first | assumption | omega) only [go_sem]) ?_
      rintro _ _ ⟨⟨o', rfl, ho'⟩, hhh⟩
      rw [hhh]
      clear hhh
      have hcl := (fault_up (hI.ok a)).1
      have ho2 : o' = .nil ∧ T.of a = [] ∨ o' = .app 2 := ho'
      rcases ho2 with ⟨rfl, ha0⟩ | rfl
      · simp (disch := first | assumption | omega) only [go_sem, ↓reduceIte, Nat.reduceEqDiff, reduceIte]
        refine callG_ok (DoneLv a _ rfl .nil (T.of a) ⟨.inr rfl, fun _ => ha0⟩ (by omega) T hI (by omega) (by omega) tid h _ (by simp (disch := first | assumption | omega) only [go_sem]; exact hT)) (by simp (disch := first | assumption | omega) only [go_sem]) ?_
        rintro _ h2 ⟨rfl, hL2⟩
        have hG2 := Good.done (n := n) ⟨hI, hB, hTn⟩ han (T.of a)
        generalize (if doneC T a (T.of a) = 0 then doneL T a (T.of a) else T) = T2 at *
        simp (disch := first | assumption | omega) only [e30, e29, e28, e6, e0, go_sem, ↓reduceIte, Nat.reduceEqDiff, reduceCtorEq, reduceIte]
        exact ⟨d - 1, by omega, i + 1, T2, by omega, by simp, hL2, hG2⟩
      · simp (disch := first | assumption | omega) only [go_sem, ↓reduceIte, Nat.reduceEqDiff, reduceIte]
        refine callG_ok (DoneLv a _ rfl .sh (T.of a) (ro _) (by omega) T hI (by omega) (by omega) tid h _ (by simp (disch := first | assumption | omega) only [go_sem]; exact hT)) (by simp (disch := first | assumption | omega) only [go_sem]) ?_
        rintro _ h2 ⟨rfl, hL2⟩
        have hG2 := Good.done (n := n) ⟨hI, hB, hTn⟩ han (T.of a)
        generalize (if doneC T a (T.of a) = 0 then doneL T a (T.of a) else T) = T2 at *
        simp (disch := first | assumption | omega) only [e30, e29, e28, e6, e0, go_sem, ↓reduceIte, Nat.reduceEqDiff, reduceCtorEq, reduceIte]
        exact ⟨d - 1, by omega, i + 1, T2, by omega, by simp, hL2, hG2⟩
    · simp (disch := first | assumption | omega) only [go_sem, ↓reduceIte, Nat.reduceEqDiff, reduceIte, Int.reduceNe]
      refine callG_ok (Below_ok (IntKind.i64.wrap (x.tdiv 5)) 4 (wrap_inI64 _) (by omega) (by omega) _) (by simp (disch := first | assumption | omega) only [go_sem]) ?_
      rintro _ _ ⟨rfl, hhh⟩
      rw [hhh]
      clear hhh
      have k1 := Int.emod_nonneg (IntKind.i64.wrap (x.tdiv 5)) (b := 4) (by omega)
      have k2 := Int.emod_lt_of_pos (IntKind.i64.wrap (x.tdiv 5)) (b := 4) (by omega)
      generalize IntKind.i64.wrap (x.tdiv 5) % 4 = u at *
      simp (disch := first | assumption | omega) only [go_sem, ↓reduceIte, reduceIte]
      by_cases u0 : u = 0
      · simp (disch := first | assumption | omega) only [e6, u0, go_sem, ↓reduceIte, Nat.reduceEqDiff, reduceIte]
        obtain ⟨tb, htb⟩ := ring_dec T a cs
        refine callG_ok (AskLv a _ rfl .sh cs (ro _) (by first | omega | simp) T hI (by omega) (by omega) tb htb tid h _ (by simp (disch := first | assumption | omega) only [go_sem]; exact hT)) (by simp (disch := first | assumption | omega) only [go_sem]) ?_
        rintro _ h2 ⟨rfl, hL2⟩
        have hG2 := Good.ask (n := n) ⟨hI, hB, hTn⟩ han htb
        generalize (askL T a cs tb).2 = T2 at *
        simp (disch := first | assumption | omega) only [e30, e29, e28, e6, e0, go_sem, ↓reduceIte, Nat.reduceEqDiff, reduceCtorEq, reduceIte]
        exact ⟨d - 1, by omega, i + 1, T2, by omega, by simp, hL2, hG2⟩
      by_cases u1 : u = 1
      · have u0' : ¬(1 : Int) = 0 := by omega
        simp (disch := first | assumption | omega) only [e6, u1, u0', go_sem, ↓reduceIte, Nat.reduceEqDiff, reduceIte]
        obtain ⟨tb, htb⟩ := ring_dec T a cs
        refine callG_ok (AskLv a _ rfl .sh cs (ro _) (by first | omega | simp) T hI (by omega) (by omega) tb htb tid h _ (by simp (disch := first | assumption | omega) only [go_sem]; exact hT)) (by simp (disch := first | assumption | omega) only [go_sem]) ?_
        rintro _ h2 ⟨rfl, hL2⟩
        have hG2 := Good.ask (n := n) ⟨hI, hB, hTn⟩ han htb
        generalize (askL T a cs tb).2 = T2 at *
        simp (disch := first | assumption | omega) only [e30, e29, e28, e6, e0, go_sem, ↓reduceIte, Nat.reduceEqDiff, reduceCtorEq, reduceIte]
        exact ⟨d - 1, by omega, i + 1, T2, by omega, by simp, hL2, hG2⟩
      by_cases u2 : u = 2
      · simp (disch := first | assumption | omega) only [e6, u2, go_sem, ↓reduceIte, Nat.reduceEqDiff, reduceIte, Int.reduceEq]
        refine callG_ok (CellsLv a _ rfl T hI (by omega) tid h _ (by simp (disch := first | assumption | omega) only [go_sem]; exact hT)) (by simp (disch := first | assumption | omega) only [go_sem]) ?_
        rintro _ _ ⟨⟨o', rfl, ho'⟩, hhh⟩
        rw [hhh]
        clear hhh
        have hcl := (fault_up (hI.ok a)).1
        have ho2 : o' = .nil ∧ T.of a = [] ∨ o' = .app 2 := ho'
        rcases ho2 with ⟨rfl, ha0⟩ | rfl
        · simp (disch := first | assumption | omega) only [e6, go_sem, ↓reduceIte, Nat.reduceEqDiff, reduceIte]
          refine callG_ok (Meet_ok .nil .sh (T.of a) cs ⟨.inr rfl, fun _ => ha0⟩ (ro _) (by first | omega | simp) _) (by simp (disch := first | assumption | omega) only [go_sem]) ?_
          rintro _ _ ⟨rfl, hhh⟩
          rw [hhh]
          clear hhh
          have hml : (meetC (T.of a) cs).length ≤ 400 := Nat.le_trans (Nat.le_trans (List.length_filter_le _ _) (normC_len _)) hcl
          simp (disch := first | assumption | omega) only [go_sem, ↓reduceIte, Nat.reduceEqDiff, reduceIte]
          refine callG_ok (DoneLv a _ rfl .sh (meetC (T.of a) cs) (ro _) (by omega) T hI (by omega) (by omega) tid h _ (by simp (disch := first | assumption | omega) only [go_sem]; exact hT)) (by simp (disch := first | assumption | omega) only [go_sem]) ?_
          rintro _ h2 ⟨rfl, hL2⟩
          have hG2 := Good.done (n := n) ⟨hI, hB, hTn⟩ han (meetC (T.of a) cs)
          generalize (if doneC T a (meetC (T.of a) cs) = 0 then doneL T a (meetC (T.of a) cs) else T) = T2 at *
          simp (disch := first | assumption | omega) only [e30, e29, e28, e6, e0, go_sem, ↓reduceIte, Nat.reduceEqDiff, reduceCtorEq, reduceIte]
          exact ⟨d - 1, by omega, i + 1, T2, by omega, by simp, hL2, hG2⟩
        · simp (disch := first | assumption | omega) only [e6, go_sem, ↓reduceIte, Nat.reduceEqDiff, reduceIte]
          refine callG_ok (Meet_ok .sh .sh (T.of a) cs (ro _) (ro _) (by first | omega | simp) _) (by simp (disch := first | assumption | omega) only [go_sem]) ?_
          rintro _ _ ⟨rfl, hhh⟩
          rw [hhh]
          clear hhh
          have hml : (meetC (T.of a) cs).length ≤ 400 := Nat.le_trans (Nat.le_trans (List.length_filter_le _ _) (normC_len _)) hcl
          simp (disch := first | assumption | omega) only [go_sem, ↓reduceIte, Nat.reduceEqDiff, reduceIte]
          refine callG_ok (DoneLv a _ rfl .sh (meetC (T.of a) cs) (ro _) (by omega) T hI (by omega) (by omega) tid h _ (by simp (disch := first | assumption | omega) only [go_sem]; exact hT)) (by simp (disch := first | assumption | omega) only [go_sem]) ?_
          rintro _ h2 ⟨rfl, hL2⟩
          have hG2 := Good.done (n := n) ⟨hI, hB, hTn⟩ han (meetC (T.of a) cs)
          generalize (if doneC T a (meetC (T.of a) cs) = 0 then doneL T a (meetC (T.of a) cs) else T) = T2 at *
          simp (disch := first | assumption | omega) only [e30, e29, e28, e6, e0, go_sem, ↓reduceIte, Nat.reduceEqDiff, reduceCtorEq, reduceIte]
          exact ⟨d - 1, by omega, i + 1, T2, by omega, by simp, hL2, hG2⟩
      simp (disch := first | assumption | omega) only [e6, u0, u1, u2, go_sem, ↓reduceIte, Nat.reduceEqDiff, reduceIte]
      refine callG_ok (CellsLv a _ rfl T hI (by omega) tid h _ (by simp (disch := first | assumption | omega) only [go_sem]; exact hT)) (by simp (disch := first | assumption | omega) only [go_sem]) ?_
      rintro _ _ ⟨⟨o', rfl, ho'⟩, hhh⟩
      rw [hhh]
      clear hhh
      have hcl := (fault_up (hI.ok a)).1
      have ho2 : o' = .nil ∧ T.of a = [] ∨ o' = .app 2 := ho'
      rcases ho2 with ⟨rfl, ha0⟩ | rfl
      · simp (disch := first | assumption | omega) only [go_sem, ↓reduceIte, Nat.reduceEqDiff, reduceIte]
        refine callG_ok (DoneLv a _ rfl .nil (T.of a) ⟨.inr rfl, fun _ => ha0⟩ (by omega) T hI (by omega) (by omega) tid h _ (by simp (disch := first | assumption | omega) only [go_sem]; exact hT)) (by simp (disch := first | assumption | omega) only [go_sem]) ?_
        rintro _ h2 ⟨rfl, hL2⟩
        have hG2 := Good.done (n := n) ⟨hI, hB, hTn⟩ han (T.of a)
        generalize (if doneC T a (T.of a) = 0 then doneL T a (T.of a) else T) = T2 at *
        simp (disch := first | assumption | omega) only [e30, e29, e28, e6, e0, go_sem, ↓reduceIte, Nat.reduceEqDiff, reduceCtorEq, reduceIte]
        exact ⟨d - 1, by omega, i + 1, T2, by omega, by simp, hL2, hG2⟩
      · simp (disch := first | assumption | omega) only [go_sem, ↓reduceIte, Nat.reduceEqDiff, reduceIte]
        refine callG_ok (DoneLv a _ rfl .sh (T.of a) (ro _) (by omega) T hI (by omega) (by omega) tid h _ (by simp (disch := first | assumption | omega) only [go_sem]; exact hT)) (by simp (disch := first | assumption | omega) only [go_sem]) ?_
        rintro _ h2 ⟨rfl, hL2⟩
        have hG2 := Good.done (n := n) ⟨hI, hB, hTn⟩ han (T.of a)
        generalize (if doneC T a (T.of a) = 0 then doneL T a (T.of a) else T) = T2 at *
        simp (disch := first | assumption | omega) only [e30, e29, e28, e6, e0, go_sem, ↓reduceIte, Nat.reduceEqDiff, reduceCtorEq, reduceIte]
        exact ⟨d - 1, by omega, i + 1, T2, by omega, by simp, hL2, hG2⟩
  · obtain rfl : i = N := by omega
    simp (disch := first | assumption | omega) only [e30, e29, e6, hlt, go_sem, ↓reduceIte, Nat.reduceEqDiff, reduceIte]
    subst hQ
    simp (disch := first | assumption | omega) only [R.gantkeep5_table, go_sem, ↓reduceIte, Nat.reduceEqDiff, reduceIte]
    exact ⟨tid, T, rfl, hT, hG⟩
end Go.Proofs.Ytpdajkbfemcdlaa
set_option linter.unusedSimpArgs false
set_option linter.unusedVariables false
set_option maxRecDepth 10000
namespace Go.Proofs.Ytpdajkbfemcdlaa
open Go.Ge Go.Sort
theorem wish_nil {T : Tb} (h : T.Inv) (i : Nat) : T.wish i = [] ↔ atN i T.waits = none := by
  unfold Tb.wish
  cases he : atN i T.waits with
  | none => simp
  | some j =>
    obtain ⟨hl, e⟩ := atN_some he
    simp only [getD_at hl]
    exact ⟨fun h2 => absurd h2 (h.ne _ (List.getElem_mem hl)), fun h2 => by cases h2⟩
end Go.Proofs.Ytpdajkbfemcdlaa
set_option linter.unusedSimpArgs false
set_option linter.unusedVariables false
set_option maxRecDepth 10000
namespace Go.Proofs.Ytpdajkbfemcdlaa
open Go.Ge Go.Sort
def SeenS (T : Tb) (i m : Nat) (s : List (Nat × Cell)) : Prop := ∀ c, inS s c ↔ (∃ j, j < i ∧ c ∈ T.of j) ∨ c ∈ (T.of i).take m
theorem seen_new {T : Tb} (h : T.Inv) {i m : Nat} {s : List (Nat × Cell)} (hs : SeenS T i m s) (hm : m < (T.of i).length) : ¬inS s (T.of i)[m] := by
  rw [hs]
  rintro (⟨j, hj, hc⟩ | hc)
  · exact h.apart i j _ (by omega) (List.getElem_mem hm) hc
  · obtain ⟨q, hq, e⟩ := List.mem_iff_getElem.1 hc
    rw [List.length_take] at hq
    rw [List.getElem_take] at e
    have := List.pairwise_iff_getElem.1 (fault_up (h.ok i)).2.2 q m (by omega) hm (by omega)
    rw [e] at this
    exact cellLt_irrefl _ this
theorem seen_add {T : Tb} {i m k : Nat} {s : List (Nat × Cell)} (hs : SeenS T i m s) (hm : m < (T.of i).length) : SeenS T i (m + 1) (addS k s (T.of i)[m]) := by
  intro c
  rw [in_add, hs, List.take_add_one, List.getElem?_eq_getElem hm, List.mem_append]
  simp [or_assoc]
theorem seen_next {T : Tb} {i : Nat} {s : List (Nat × Cell)} (hs : SeenS T i (T.of i).length s) : SeenS T (i + 1) 0 s := by
  intro c
  rw [hs, List.take_length]
  constructor
  · rintro (⟨j, hj, hc⟩ | hc)
    · exact .inl ⟨j, by omega, hc⟩
    · exact .inl ⟨i, by omega, hc⟩
  · rintro (⟨j, hj, hc⟩ | hc)
    · by_cases e : j = i
      · exact .inr (e ▸ hc)
      · exact .inl ⟨j, by omega, hc⟩
    · simp at hc
theorem wish_line {T : Tb} (h : T.Inv) (i : Nat) : decide ((0 : Int) < ((T.wish i).length : Nat)) = (T.waits.map (·.1)).contains i := by
  rw [Bool.eq_iff_iff, decide_eq_true_iff, List.contains_iff_mem]
  constructor
  · intro h1
    have : T.wish i ≠ [] := fun e => by rw [e] at h1; simp at h1
    rw [Ne, wish_nil h] at this
    cases he : atN i T.waits with
    | none => exact absurd he this
    | some j =>
      obtain ⟨hl, e⟩ := atN_some he
      exact List.mem_map.2 ⟨_, List.getElem_mem hl, e⟩
  · intro h1
    have : T.wish i ≠ [] := fun e => by
      obtain ⟨w, hw, e2⟩ := List.mem_map.1 h1
      exact atN_none ((wish_nil h i).1 e) w hw e2
    have := List.length_pos_iff.2 this
    omega
theorem meet_wish {T : Tb} (h : T.Inv) (i : Nat) : meetC (T.of i) (T.wish i) = [] := List.eq_nil_iff_forall_not_mem.2 fun c hc => by
  obtain ⟨h1, h2⟩ := (mem_meetC _ _ c).1 hc
  unfold Tb.wish at h2
  split at h2
  · cases h2
  · rename_i j hj
    obtain ⟨hl, e⟩ := atN_some hj
    rw [getD_at hl] at h2
    have := h.off _ (List.getElem_mem hl) c h2
    rw [e] at this
    exact this h1
theorem rd_made {o : Own} {L : List Cell} (h : o = .nil ∧ L = [] ∨ o = .app 2) : ∃ q, Rdn q L ∧ rdv (.lst o (cellsA L)) = .lst q (cellsA L) := by
  rcases h with ⟨rfl, h⟩ | rfl
  · exact ⟨.nil, ⟨.inr rfl, fun _ => h⟩, rfl⟩
  · exact ⟨.sh, ⟨.inl rfl, fun e => by cases e⟩, rfl⟩
theorem arms_lst {v : AVal} {l : List Nat} (h : Arms v l) : ∃ o q, v = .lst o (nats l) ∧ rdv (.lst o (nats l)) = .lst q (nats l) ∧ Rdo q := by
  rcases h with ⟨rfl, rfl⟩ | rfl
  · exact ⟨.nil, .nil, rfl, rfl, .inr rfl⟩
  · exact ⟨.app 1, .sh, rfl, rfl, .inl rfl⟩
theorem LeaseApart_law (arms : Int) (o : Own) (l : List Int) (ha : inI64 arms) (ho : Rdo o) (hl : ∀ c ∈ l, inI64 c) (hll : l.length ≤ 1152921504606846976) :
    ACalls Try.prog F.gantkeep5_LeaseApart [.int .i64 arms, .lst o (ints .i64 l)] [] (fun r _ => r = .bool true) := by
  have ro : ∀ l : List Cell, Rdn .sh l := fun l => ⟨.inl rfl, fun e => by cases e⟩
  refine ACalls.of_aw Try.func36 K.gantkeep5_LeaseApart (by simp [Try.f36]) ?_
  generalize hQ : retQ R.gantkeep5_LeaseApart _ = Q
  simp (disch := first | assumption | omega) only [C.gantkeep5_LeaseApart, go_sem]
  refine callG_ok (leases_ok _) (by simp (disch := first | assumption | omega) only [go_sem]) ?_
  rintro _ _ ⟨rfl, hhh⟩
  rw [hhh]
  clear hhh
  simp (disch := first | assumption | omega) only [go_sem, ↓reduceIte, reduceCtorEq, reduceIte]
  refine callG_ok (Below_ok arms 4 ha (by omega) (by omega) _) (by simp (disch := first | assumption | omega) only [go_sem]) ?_
  rintro _ _ ⟨rfl, hhh⟩
  rw [hhh]
  clear hhh
  have m1 := Int.emod_nonneg arms (b := 4) (by omega)
  have m2 := Int.emod_lt_of_pos arms (b := 4) (by omega)
  obtain ⟨n, hn⟩ : ∃ n : Nat, 1 + arms % 4 = n := ⟨(1 + arms % 4).toNat, by omega⟩
  have hn1 : 1 ≤ n := by omega
  have hn4 : n ≤ 4 := by omega
  have hwc := hn4
  simp (disch := first | assumption | omega) only [hn, go_sem, ↓reduceIte, Nat.reduceEqDiff, reduceCtorEq, reduceIte]
  refine callG_ok (lTable_ok n hn1 hn4 o l ho hl hll _) (by simp (disch := first | assumption | omega) only [go_sem]) ?_
  rintro _ h1 ⟨tid, T, rfl, hL, hI, hB, hTn⟩
  simp only [go_sem] at hL
  simp (disch := first | assumption | omega) only [go_sem, ↓reduceIte, Nat.reduceEqDiff, Nat.reduceAdd, Nat.reduceLT, reduceIte, Int.reduceLT, Int.reduceAdd]
  refine callG_ok (CheckLv T hI (by omega) tid [] _ (by first | exact hL | (simp (disch := first | assumption | omega) only [go_sem, ↓reduceIte, Nat.reduceEqDiff, reduceCtorEq, Nat.reduceAdd, Nat.reduceLeDiff, Nat.reduceLT, reduceIte, Int.reduceBEq, Int.reduceBNe, Int.reduceLT, Int.reduceLE, Int.reduceAdd, Int.reduceSub, Int.reduceMul, Int.reduceNeg, Int.reduceEq, Int.reduceNe, Nat.reduceMul, Nat.reduceSub]; exact hL))) (by simp (disch := first | assumption | omega) only [go_sem]) ?_
  rintro _ _ ⟨rfl, hhh⟩
  rw [hhh]
  clear hhh
  simp (disch := first | assumption | omega) only [go_sem, ↓reduceIte, Nat.reduceEqDiff, reduceCtorEq, reduceIte]
  have hLm : ∀ k s, Lv [] (h1 ++ [.map k (ents s)]) tid T := fun k s => hL.frame (S := []) Fr.app (by simp)
  have hw0 : WfS 0 [] := ⟨List.nodup_nil, List.nodup_nil, by simp⟩
  have hs0 : SeenS T 0 0 [] := fun c => by simp [inS]
  refine aw_count (fun d S => ∃ (i k : Nat) (s : List (Nat × Cell)), i + d = n ∧ S.env 31 = .int .i64 i ∧ S.env 30 = .int .i64 n ∧ S.env 5 = .hp tid 0 ∧ S.env 7 = .map h1.length ∧ S.heap = h1 ++ [.map k (ents s)] ∧ WfS k s ∧ SeenS T i 0 s) (n := n)
    ⟨0, 0, [], by omega, by simp (disch := first | assumption | omega) only [go_sem, ↓reduceIte, reduceIte], by simp (disch := first | assumption | omega) only [go_sem, ↓reduceIte, Nat.reduceEqDiff, reduceIte], by simp (disch := first | assumption | omega) only [go_sem, ↓reduceIte, Nat.reduceEqDiff, reduceIte], by simp (disch := first | assumption | omega) only [go_sem, ↓reduceIte, Nat.reduceEqDiff, reduceIte], by simp (disch := first | assumption | omega) only [go_sem]; rfl, hw0, hs0⟩ ?_
  rintro d S ⟨i, k, s, hi, e31, e30, e5, e7, eh, hw, hs⟩
  by_cases hlt : (i : Int) < n
  · have hin : i < n := by omega
    have hcl := (fault_up (hI.ok i)).1
    simp (disch := first | assumption | omega) only [e31, e30, e5, hlt, go_sem, ↓reduceIte, Nat.reduceEqDiff, reduceIte]
    refine callG_ok (CellsLv i _ rfl T hI (by omega) tid [] _ (by simp (disch := first | assumption | omega) only [eh, go_sem]; exact hLm _ _)) (by simp (disch := first | assumption | omega) only [go_sem]) ?_
    rintro _ _ ⟨⟨o', rfl, ho'⟩, hhh⟩
    rw [hhh]
    clear hhh
    have hml := meet_wish hI i
    have hwl := wish_line hI i
    have hwcl := hI.toArms.len
    have hfw := (fault_up (wish_fault hI i)).1
    have hov : (o' = .nil ∨ o' = .app 2) := ho'.imp (·.1) id
    clear ho'
    rcases hov with rfl | rfl
    · simp (disch := first | assumption | omega) only [go_sem, ↓reduceIte, reduceIte]
      refine aw_count (fun e S => ∃ (m k : Nat) (s : List (Nat × Cell)), m + e = (T.of i).length ∧ S.env 38 = .int .i64 m ∧ S.env 37 = .int .i64 (T.of i).length ∧ S.env 36 = .lst .nil (cellsA (T.of i)) ∧ S.env 8 = .int .i64 i ∧ S.env 31 = .int .i64 i ∧ S.env 30 = .int .i64 n ∧ S.env 5 = .hp tid 0 ∧ S.env 7 = .map h1.length ∧ S.heap = h1 ++ [.map k (ents s)] ∧ WfS k s ∧ SeenS T i m s) (n := (T.of i).length)
        ⟨0, k, s, by omega, by simp (disch := first | assumption | omega) only [go_sem, ↓reduceIte, reduceIte], by simp (disch := first | assumption | omega) only [go_sem, ↓reduceIte, Nat.reduceEqDiff, reduceIte], by simp (disch := first | assumption | omega) only [go_sem, ↓reduceIte, Nat.reduceEqDiff, reduceIte], by simp (disch := first | assumption | omega) only [go_sem, ↓reduceIte, Nat.reduceEqDiff, reduceIte], by simp (disch := first | assumption | omega) only [e31, go_sem, ↓reduceIte, Nat.reduceEqDiff, reduceIte], by simp (disch := first | assumption | omega) only [e30, go_sem, ↓reduceIte, Nat.reduceEqDiff, reduceIte], by simp (disch := first | assumption | omega) only [e5, go_sem, ↓reduceIte, Nat.reduceEqDiff, reduceIte], by simp (disch := first | assumption | omega) only [e7, go_sem, ↓reduceIte, Nat.reduceEqDiff, reduceIte], by simp (disch := first | assumption | omega) only [eh, go_sem], hw, hs⟩ ?_
      clear e31 e30 e5 e7 eh hw hs
      clear k s
      rintro e S ⟨m, k, s, hm, e38, e37, e36, e8, e31, e30, e5, e7, eh, hw, hs⟩
      by_cases hlm : (m : Int) < (T.of i).length
      · have hm1 : m < (T.of i).length := by omega
        have q1 := at_cells hm1
        have hnew := seen_new hI hs hm1
        have hadd := seen_add (k := k) hs hm1
        have hwad := hw.add (T.of i)[m]
        have hk := keyOk_cell (T.of i)[m]
        have hks := keyOk_ents s
        have hput := mput_ents k s (T.of i)[m]
        have hgt := mget_ents (T.of i)[m] s
        rw [if_neg hnew] at hgt
        generalize (T.of i)[m] = c at *
        unfold cellA at hk hput hgt
        simp (disch := first | assumption | omega) only [e38, e37, e36, e8, e31, e30, e5, e7, eh, hlm, q1, cellA, hend, hput, hgt, mlookV, hendset, drV_map, rdv_map, fillV, AVal.cells, go_sem, ↓reduceIte, Nat.reduceEqDiff, Nat.reduceAdd, Nat.reduceLeDiff, reduceIte, Int.reduceAdd]
        exact ⟨⟨hk, hks⟩, hk, hks, e - 1, by omega, m + 1, _, _, by omega, by simp, rfl, hwad, hadd⟩
      · obtain rfl : m = (T.of i).length := by omega
        have hsn := seen_next hs
        simp (disch := first | assumption | omega) only [e38, e37, e8, e5, hlm, go_sem, ↓reduceIte, Nat.reduceEqDiff, reduceIte]
        refine callG_ok (CellsLv i _ rfl T hI (by omega) tid [] _ (by simp (disch := first | assumption | omega) only [eh, go_sem]; exact hLm _ _)) (by simp (disch := first | assumption | omega) only [go_sem]) ?_
        rintro _ _ ⟨⟨o1, rfl, ho1⟩, hhh⟩
        rw [hhh]
        clear hhh
        obtain ⟨q1, hq1, hr1⟩ := rd_made ho1
        simp (disch := first | assumption | omega) only [e8, e5, go_sem, ↓reduceIte, Nat.reduceEqDiff, reduceIte]
        refine callG_ok (WaitsLv i _ rfl T hI (by omega) (by omega) tid [] _ (by simp (disch := first | assumption | omega) only [eh, go_sem]; exact hLm _ _)) (by simp (disch := first | assumption | omega) only [go_sem]) ?_
        rintro _ _ ⟨⟨o2, rfl, ho2⟩, hhh⟩
        rw [hhh]
        clear hhh
        obtain ⟨q2, hq2, hr2⟩ := rd_made ho2
        simp (disch := first | assumption | omega) only [hr1, hr2, go_sem, ↓reduceIte, Nat.reduceEqDiff, reduceIte]
        refine callG_ok (Meet_ok q1 q2 (T.of i) (T.wish i) hq1 hq2 (by omega) _) (by simp (disch := first | assumption | omega) only [go_sem]) ?_
        rintro _ _ ⟨rfl, hhh⟩
        rw [hhh, hml]
        clear hhh
        simp (disch := first | assumption | omega) only [e8, e5, go_sem, ↓reduceIte, Nat.reduceEqDiff, Nat.reduceLT, reduceIte, Int.reduceLT]
        refine callG_ok (WaitsLv i _ rfl T hI (by omega) (by omega) tid [] _ (by simp (disch := first | assumption | omega) only [eh, go_sem]; exact hLm _ _)) (by simp (disch := first | assumption | omega) only [go_sem]) ?_
        rintro _ _ ⟨⟨o3, rfl, ho3⟩, hhh⟩
        rw [hhh]
        clear hhh
        obtain ⟨q3, hq3, hr3⟩ := rd_made ho3
        have hq31 := hq3.1
        simp (disch := first | assumption | omega) only [e5, hr3, hwl, go_sem, ↓reduceIte, Nat.reduceEqDiff, reduceIte]
        refine callG_ok (LineLv T hI (by omega) tid [] _ (by simp (disch := first | assumption | omega) only [eh, go_sem]; exact hLm _ _)) (by simp (disch := first | assumption | omega) only [go_sem]) ?_
        rintro bv _ ⟨hbv, hhh⟩
        rw [hhh]
        clear hhh
        obtain ⟨ob, q4, rfl, hr4, hq4⟩ := arms_lst hbv
        simp (disch := first | assumption | omega) only [e8, hr4, go_sem, ↓reduceIte, Nat.reduceEqDiff, reduceIte]
        refine callG_ok (ContainsInt_ok q4 _ i hq4 (by rw [nats_len]; simp only [List.length_map]; omega) _) (by simp (disch := first | assumption | omega) only [go_sem]) ?_
        rintro _ _ ⟨rfl, hhh⟩
        rw [hhh, nats_mem]
        clear hhh
        generalize (List.map (fun x => x.1) T.waits).contains i = bb
        have hz : (!(bb == bb)) = false := by cases bb <;> rfl
        simp (disch := first | assumption | omega) only [e31, e30, e5, e7, eh, hz, go_sem, ↓reduceIte, Nat.reduceEqDiff, reduceIte]
        exact ⟨d - 1, by omega, i + 1, k, s, by omega, by simp, rfl, hw, hsn⟩
    · simp (disch := first | assumption | omega) only [go_sem, ↓reduceIte, reduceIte]
      refine aw_count (fun e S => ∃ (m k : Nat) (s : List (Nat × Cell)), m + e = (T.of i).length ∧ S.env 38 = .int .i64 m ∧ S.env 37 = .int .i64 (T.of i).length ∧ S.env 36 = .lst (.app 2) (cellsA (T.of i)) ∧ S.env 8 = .int .i64 i ∧ S.env 31 = .int .i64 i ∧ S.env 30 = .int .i64 n ∧ S.env 5 = .hp tid 0 ∧ S.env 7 = .map h1.length ∧ S.heap = h1 ++ [.map k (ents s)] ∧ WfS k s ∧ SeenS T i m s) (n := (T.of i).length)
        ⟨0, k, s, by omega, by simp (disch := first | assumption | omega) only [go_sem, ↓reduceIte, reduceIte], by simp (disch := first | assumption | omega) only [go_sem, ↓reduceIte, Nat.reduceEqDiff, reduceIte], by simp (disch := first | assumption | omega) only [go_sem, ↓reduceIte, Nat.reduceEqDiff, reduceIte], by simp (disch := first | assumption | omega) only [go_sem, ↓reduceIte, Nat.reduceEqDiff, reduceIte], by simp (disch := first | assumption | omega) only [e31, go_sem, ↓reduceIte, Nat.reduceEqDiff, reduceIte], by simp (disch := first | assumption | omega) only [e30, go_sem, ↓reduceIte, Nat.reduceEqDiff, reduceIte], by simp (disch := first | assumption | omega) only [e5, go_sem, ↓reduceIte, Nat.reduceEqDiff, reduceIte], by simp (disch := first | assumption | omega) only [e7, go_sem, ↓reduceIte, Nat.reduceEqDiff, reduceIte], by simp (disch := first | assumption | omega) only [eh, go_sem], hw, hs⟩ ?_
      clear e31 e30 e5 e7 eh hw hs
      clear k s
      rintro e S ⟨m, k, s, hm, e38, e37, e36, e8, e31, e30, e5, e7, eh, hw, hs⟩
      by_cases hlm : (m : Int) < (T.of i).length
      · have hm1 : m < (T.of i).length := by omega
        have q1 := at_cells hm1
        have hnew := seen_new hI hs hm1
        have hadd := seen_add (k := k) hs hm1
        have hwad := hw.add (T.of i)[m]
        have hk := keyOk_cell (T.of i)[m]
        have hks := keyOk_ents s
        have hput := mput_ents k s (T.of i)[m]
        have hgt := mget_ents (T.of i)[m] s
        rw [if_neg hnew] at hgt
        generalize (T.of i)[m] = c at *
        unfold cellA at hk hput hgt
        simp (disch := first | assumption | omega) only [e38, e37, e36, e8, e31, e30, e5, e7, eh, hlm, q1, cellA, hend, hput, hgt, mlookV, hendset, drV_map, rdv_map, fillV, AVal.cells, go_sem, ↓reduceIte, Nat.reduceEqDiff, Nat.reduceAdd, Nat.reduceLeDiff, reduceIte, Int.reduceAdd]
        exact ⟨⟨hk, hks⟩, hk, hks, e - 1, by omega, m + 1, _, _, by omega, by simp, rfl, hwad, hadd⟩
      · obtain rfl : m = (T.of i).length := by omega
        have hsn := seen_next hs
        simp (disch := first | assumption | omega) only [e38, e37, e8, e5, hlm, go_sem, ↓reduceIte, Nat.reduceEqDiff, reduceIte]
        refine callG_ok (CellsLv i _ rfl T hI (by omega) tid [] _ (by simp (disch := first | assumption | omega) only [eh, go_sem]; exact hLm _ _)) (by simp (disch := first | assumption | omega) only [go_sem]) ?_
        rintro _ _ ⟨⟨o1, rfl, ho1⟩, hhh⟩
        rw [hhh]
        clear hhh
        obtain ⟨q1, hq1, hr1⟩ := rd_made ho1
        simp (disch := first | assumption | omega) only [e8, e5, go_sem, ↓reduceIte, Nat.reduceEqDiff, reduceIte]
        refine callG_ok (WaitsLv i _ rfl T hI (by omega) (by omega) tid [] _ (by simp (disch := first | assumption | omega) only [eh, go_sem]; exact hLm _ _)) (by simp (disch := first | assumption | omega) only [go_sem]) ?_
        rintro _ _ ⟨⟨o2, rfl, ho2⟩, hhh⟩
        rw [hhh]
        clear hhh
        obtain ⟨q2, hq2, hr2⟩ := rd_made ho2
        simp (disch := first | assumption | omega) only [hr1, hr2, go_sem, ↓reduceIte, Nat.reduceEqDiff, reduceIte]
        refine callG_ok (Meet_ok q1 q2 (T.of i) (T.wish i) hq1 hq2 (by omega) _) (by simp (disch := first | assumption | omega) only [go_sem]) ?_
        rintro _ _ ⟨rfl, hhh⟩
        rw [hhh, hml]
        clear hhh
        simp (disch := first | assumption | omega) only [e8, e5, go_sem, ↓reduceIte, Nat.reduceEqDiff, Nat.reduceLT, reduceIte, Int.reduceLT]
        refine callG_ok (WaitsLv i _ rfl T hI (by omega) (by omega) tid [] _ (by simp (disch := first | assumption | omega) only [eh, go_sem]; exact hLm _ _)) (by simp (disch := first | assumption | omega) only [go_sem]) ?_
        rintro _ _ ⟨⟨o3, rfl, ho3⟩, hhh⟩
        rw [hhh]
        clear hhh
        obtain ⟨q3, hq3, hr3⟩ := rd_made ho3
        have hq31 := hq3.1
        simp (disch := first | assumption | omega) only [e5, hr3, hwl, go_sem, ↓reduceIte, Nat.reduceEqDiff, reduceIte]
        refine callG_ok (LineLv T hI (by omega) tid [] _ (by simp (disch := first | assumption | omega) only [eh, go_sem]; exact hLm _ _)) (by simp (disch := first | assumption | omega) only [go_sem]) ?_
        rintro bv _ ⟨hbv, hhh⟩
        rw [hhh]
        clear hhh
        obtain ⟨ob, q4, rfl, hr4, hq4⟩ := arms_lst hbv
        simp (disch := first | assumption | omega) only [e8, hr4, go_sem, ↓reduceIte, Nat.reduceEqDiff, reduceIte]
        refine callG_ok (ContainsInt_ok q4 _ i hq4 (by rw [nats_len]; simp only [List.length_map]; omega) _) (by simp (disch := first | assumption | omega) only [go_sem]) ?_
        rintro _ _ ⟨rfl, hhh⟩
        rw [hhh, nats_mem]
        clear hhh
        generalize (List.map (fun x => x.1) T.waits).contains i = bb
        have hz : (!(bb == bb)) = false := by cases bb <;> rfl
        simp (disch := first | assumption | omega) only [e31, e30, e5, e7, eh, hz, go_sem, ↓reduceIte, Nat.reduceEqDiff, reduceIte]
        exact ⟨d - 1, by omega, i + 1, k, s, by omega, by simp, rfl, hw, hsn⟩
  · obtain rfl : n = i := by omega
    simp (disch := first | assumption | omega) only [e31, e30, hlt, go_sem, ↓reduceIte, reduceIte]
    subst hQ
    simp (disch := first | assumption | omega) only [R.gantkeep5_LeaseApart, go_sem, ↓reduceIte, reduceIte]
end Go.Proofs.Ytpdajkbfemcdlaa
