import Derived.Test.YtpdajkbfemcdlaaZB1
/- Contracts: the second implementation's order. -/
set_option linter.unusedSimpArgs false
set_option linter.unusedVariables false
set_option maxRecDepth 10000
namespace Go.Proofs.Ytpdajkbfemcdlaa
open Go.Ge
/-- The least node from c on that can come next, or -1. -/
def lowN (g : Gr) (out : List Nat) (c : Nat) : Int := match ((List.range g.length).drop c).find? (rdyB g out) with | some k => (k : Int) | none => -1
theorem lowN_end (g : Gr) (out : List Nat) : lowN g out g.length = -1 := by
  unfold lowN; rw [List.drop_of_length_le (by simp)]; rfl
theorem lowN_step {g : Gr} {out : List Nat} {c : Nat} (h : c < g.length) : lowN g out c = if rdyB g out c = true then (c : Int) else lowN g out (c + 1) := by
  unfold lowN
  have : (List.range g.length).drop c = c :: (List.range g.length).drop (c + 1) := by
    rw [List.drop_eq_getElem_cons (by simpa using h)]; simp
  rw [this, List.find?_cons]
  cases rdyB g out c <;> rfl
theorem lowN_zero {g : Gr} {out : List Nat} {k : Nat} (h : pick g out = some k) : lowN g out 0 = k := by
  unfold lowN; unfold pick at h; rw [List.drop_zero, h]
theorem rawRow_snoc (L : List Nat) (k : Nat) : rawRow (L ++ [k]) = .lst (.app 1) (ints .i64 (ni L) ++ [.int .i64 k]) := by cases L <;> simp [rawRow, ni, ints]
theorem orderOf_ok (o : Own) (g : Gr) (xs : List AVal) (ho : Rdo o) (hg : Gfine g) (hx : Each2 RowOk (toI g) xs) (ha : Acyc g) (h : List HObj) :
    ACalls Try.prog F.gantlaw5_orderOf [.lst o xs] h (fun r h' => r = rawRow (orderL g g.length) ∧ h' = h) := by
  have lx := hx.length
  rw [toI_length] at lx
  have n64 := hg.n64
  refine ACalls.gcn (ACalls.of_aw Try.func104 K.gantlaw5_orderOf (by simp [Try.f104]) ?_)
  generalize hQ : retQ R.gantlaw5_orderOf _ = Q
  simp (disch := first | assumption | omega) only [C.gantlaw5_orderOf, go_sem, ↓reduceIte, Nat.reduceEqDiff, reduceCtorEq, Nat.reduceAdd, Nat.reduceLeDiff, Nat.reduceLT, reduceIte, Int.reduceBEq, Int.reduceBNe, Int.reduceLT, Int.reduceLE, Int.reduceAdd, Int.reduceSub, Int.reduceMul, Int.reduceNeg, Int.reduceEq, Int.reduceNe, Nat.reduceMul, Nat.reduceSub]
  simp (disch := first | assumption | omega) only [lx, bls_rep, go_sem, ↓reduceIte, Nat.reduceEqDiff, reduceCtorEq, Nat.reduceAdd, Nat.reduceLeDiff, Nat.reduceLT, reduceIte, Int.reduceBEq, Int.reduceBNe, Int.reduceLT, Int.reduceLE, Int.reduceAdd, Int.reduceSub, Int.reduceMul, Int.reduceNeg, Int.reduceEq, Int.reduceNe, Nat.reduceMul, Nat.reduceSub]
  refine ⟨by omega, ?_⟩
  refine thaw_bls (s := List.replicate g.length false) (n := g.length) (by simp (disch := first | assumption | omega) only [bls_rep, go_sem, ↓reduceIte, Nat.reduceEqDiff, reduceCtorEq, Nat.reduceAdd, Nat.reduceLeDiff, Nat.reduceLT, reduceIte, Int.reduceBEq, Int.reduceBNe, Int.reduceLT, Int.reduceLE, Int.reduceAdd, Int.reduceSub, Int.reduceMul, Int.reduceNeg, Int.reduceEq, Int.reduceNe, Nat.reduceMul, Nat.reduceSub]) (by simp) ?_
  simp (disch := first | assumption | omega) only [lx, go_sem, ↓reduceIte, Nat.reduceEqDiff, reduceCtorEq, Nat.reduceAdd, Nat.reduceLeDiff, Nat.reduceLT, reduceIte, Int.reduceBEq, Int.reduceBNe, Int.reduceLT, Int.reduceLE, Int.reduceAdd, Int.reduceSub, Int.reduceMul, Int.reduceNeg, Int.reduceEq, Int.reduceNe, Nat.reduceMul, Nat.reduceSub]
  refine aw_count (fun d S => ∃ (m : Nat) (s : List Bool), m + d = g.length ∧ S.env 15 = .int .i64 m ∧ S.env 14 = .int .i64 g.length ∧ S.env 3 = rawRow (orderL g m) ∧ S.env 4 = .ref h.length 0 g.length g.length ∧ S.env 0 = .lst o xs ∧ s.length = g.length ∧ (∀ k, s.getD k false = (orderL g m).contains k) ∧ S.heap = h ++ [.cells (bls s)]) (n := g.length)
    ⟨0, List.replicate g.length false, by omega, by simp (disch := first | assumption | omega) only [go_sem, ↓reduceIte, Nat.reduceEqDiff, reduceCtorEq, Nat.reduceAdd, Nat.reduceLeDiff, Nat.reduceLT, reduceIte, Int.reduceBEq, Int.reduceBNe, Int.reduceLT, Int.reduceLE, Int.reduceAdd, Int.reduceSub, Int.reduceMul, Int.reduceNeg, Int.reduceEq, Int.reduceNe, Nat.reduceMul, Nat.reduceSub], by simp (disch := first | assumption | omega) only [go_sem, ↓reduceIte, Nat.reduceEqDiff, reduceCtorEq, Nat.reduceAdd, Nat.reduceLeDiff, Nat.reduceLT, reduceIte, Int.reduceBEq, Int.reduceBNe, Int.reduceLT, Int.reduceLE, Int.reduceAdd, Int.reduceSub, Int.reduceMul, Int.reduceNeg, Int.reduceEq, Int.reduceNe, Nat.reduceMul, Nat.reduceSub], by simp (disch := first | assumption | omega) only [go_sem, ↓reduceIte, Nat.reduceEqDiff, reduceCtorEq, Nat.reduceAdd, Nat.reduceLeDiff, Nat.reduceLT, reduceIte, Int.reduceBEq, Int.reduceBNe, Int.reduceLT, Int.reduceLE, Int.reduceAdd, Int.reduceSub, Int.reduceMul, Int.reduceNeg, Int.reduceEq, Int.reduceNe, Nat.reduceMul, Nat.reduceSub]; rfl, by simp (disch := first | assumption | omega) only [go_sem, ↓reduceIte, Nat.reduceEqDiff, reduceCtorEq, Nat.reduceAdd, Nat.reduceLeDiff, Nat.reduceLT, reduceIte, Int.reduceBEq, Int.reduceBNe, Int.reduceLT, Int.reduceLE, Int.reduceAdd, Int.reduceSub, Int.reduceMul, Int.reduceNeg, Int.reduceEq, Int.reduceNe, Nat.reduceMul, Nat.reduceSub], by simp (disch := first | assumption | omega) only [go_sem, ↓reduceIte, Nat.reduceEqDiff, reduceCtorEq, Nat.reduceAdd, Nat.reduceLeDiff, Nat.reduceLT, reduceIte, Int.reduceBEq, Int.reduceBNe, Int.reduceLT, Int.reduceLE, Int.reduceAdd, Int.reduceSub, Int.reduceMul, Int.reduceNeg, Int.reduceEq, Int.reduceNe, Nat.reduceMul, Nat.reduceSub], by simp, fun k => by rw [List.getD_eq_getElem?_getD, List.getElem?_replicate]; split <;> rfl, by simp (disch := first | assumption | omega) only [go_sem, ↓reduceIte, Nat.reduceEqDiff, reduceCtorEq, Nat.reduceAdd, Nat.reduceLeDiff, Nat.reduceLT, reduceIte, Int.reduceBEq, Int.reduceBNe, Int.reduceLT, Int.reduceLE, Int.reduceAdd, Int.reduceSub, Int.reduceMul, Int.reduceNeg, Int.reduceEq, Int.reduceNe, Nat.reduceMul, Nat.reduceSub]⟩ ?_
  rintro d S ⟨m, s, hmd, e15, e14, e3, e4, e0, hsl, hs, eh⟩
  have hbl := bls_length s
  have hge : S.heap[h.length]? = some (.cells (bls s)) := by rw [eh, hpx_get0]; rfl
  by_cases hlt : (m : Int) < g.length
  · obtain ⟨k, hk, hk'⟩ := order_more hg.ok ha (m := m) (by omega)
    have hkl := (pick_some hk).1
    have hw0 : IntKind.i64.wrap ((g.length : Int) - 1) = (g.length : Int) - 1 := wrapI64 (by omega) (by omega)
    simp (disch := first | assumption | omega) only [e15, e14, e3, e4, e0, hlt, lx, hw0, go_sem, ↓reduceIte, Nat.reduceEqDiff, reduceCtorEq, Nat.reduceAdd, Nat.reduceLeDiff, Nat.reduceLT, reduceIte, Int.reduceBEq, Int.reduceBNe, Int.reduceLT, Int.reduceLE, Int.reduceAdd, Int.reduceSub, Int.reduceMul, Int.reduceNeg, Int.reduceEq, Int.reduceNe, Nat.reduceMul, Nat.reduceSub]
    refine aw_count (fun d' S => d' ≤ g.length ∧ S.env 6 = .int .i64 ((d' : Int) - 1) ∧ S.env 5 = .int .i64 (lowN g (orderL g m) d') ∧ S.env 15 = .int .i64 m ∧ S.env 14 = .int .i64 g.length ∧ S.env 3 = rawRow (orderL g m) ∧ S.env 4 = .ref h.length 0 g.length g.length ∧ S.env 0 = .lst o xs ∧ S.heap = h ++ [.cells (bls s)]) (n := g.length)
      ⟨Nat.le_refl _, by simp (disch := first | assumption | omega) only [go_sem, ↓reduceIte, Nat.reduceEqDiff, reduceCtorEq, Nat.reduceAdd, Nat.reduceLeDiff, Nat.reduceLT, reduceIte, Int.reduceBEq, Int.reduceBNe, Int.reduceLT, Int.reduceLE, Int.reduceAdd, Int.reduceSub, Int.reduceMul, Int.reduceNeg, Int.reduceEq, Int.reduceNe, Nat.reduceMul, Nat.reduceSub], by simp (disch := first | assumption | omega) only [lowN_end, go_sem, ↓reduceIte, Nat.reduceEqDiff, reduceCtorEq, Nat.reduceAdd, Nat.reduceLeDiff, Nat.reduceLT, reduceIte, Int.reduceBEq, Int.reduceBNe, Int.reduceLT, Int.reduceLE, Int.reduceAdd, Int.reduceSub, Int.reduceMul, Int.reduceNeg, Int.reduceEq, Int.reduceNe, Nat.reduceMul, Nat.reduceSub], by simp (disch := first | assumption | omega) only [e15, go_sem, ↓reduceIte, Nat.reduceEqDiff, reduceCtorEq, Nat.reduceAdd, Nat.reduceLeDiff, Nat.reduceLT, reduceIte, Int.reduceBEq, Int.reduceBNe, Int.reduceLT, Int.reduceLE, Int.reduceAdd, Int.reduceSub, Int.reduceMul, Int.reduceNeg, Int.reduceEq, Int.reduceNe, Nat.reduceMul, Nat.reduceSub], by simp (disch := first | assumption | omega) only [e14, go_sem, ↓reduceIte, Nat.reduceEqDiff, reduceCtorEq, Nat.reduceAdd, Nat.reduceLeDiff, Nat.reduceLT, reduceIte, Int.reduceBEq, Int.reduceBNe, Int.reduceLT, Int.reduceLE, Int.reduceAdd, Int.reduceSub, Int.reduceMul, Int.reduceNeg, Int.reduceEq, Int.reduceNe, Nat.reduceMul, Nat.reduceSub], by simp (disch := first | assumption | omega) only [e3, go_sem, ↓reduceIte, Nat.reduceEqDiff, reduceCtorEq, Nat.reduceAdd, Nat.reduceLeDiff, Nat.reduceLT, reduceIte, Int.reduceBEq, Int.reduceBNe, Int.reduceLT, Int.reduceLE, Int.reduceAdd, Int.reduceSub, Int.reduceMul, Int.reduceNeg, Int.reduceEq, Int.reduceNe, Nat.reduceMul, Nat.reduceSub], by simp (disch := first | assumption | omega) only [e4, go_sem, ↓reduceIte, Nat.reduceEqDiff, reduceCtorEq, Nat.reduceAdd, Nat.reduceLeDiff, Nat.reduceLT, reduceIte, Int.reduceBEq, Int.reduceBNe, Int.reduceLT, Int.reduceLE, Int.reduceAdd, Int.reduceSub, Int.reduceMul, Int.reduceNeg, Int.reduceEq, Int.reduceNe, Nat.reduceMul, Nat.reduceSub], by simp (disch := first | assumption | omega) only [e0, go_sem, ↓reduceIte, Nat.reduceEqDiff, reduceCtorEq, Nat.reduceAdd, Nat.reduceLeDiff, Nat.reduceLT, reduceIte, Int.reduceBEq, Int.reduceBNe, Int.reduceLT, Int.reduceLE, Int.reduceAdd, Int.reduceSub, Int.reduceMul, Int.reduceNeg, Int.reduceEq, Int.reduceNe, Nat.reduceMul, Nat.reduceSub], by simp (disch := first | assumption | omega) only [eh, go_sem, ↓reduceIte, Nat.reduceEqDiff, reduceCtorEq, Nat.reduceAdd, Nat.reduceLeDiff, Nat.reduceLT, reduceIte, Int.reduceBEq, Int.reduceBNe, Int.reduceLT, Int.reduceLE, Int.reduceAdd, Int.reduceSub, Int.reduceMul, Int.reduceNeg, Int.reduceEq, Int.reduceNe, Nat.reduceMul, Nat.reduceSub]⟩ ?_
    clear e15 e14 e3 e4 e0 eh hge
    rintro d' S ⟨hdl, e6, e5, e15, e14, e3, e4, e0, eh⟩
    have hge : S.heap[h.length]? = some (.cells (bls s)) := by rw [eh, hpx_get0]; rfl
    cases d' with
    | zero =>
      rw [lowN_zero hk] at e5
      have hz : ((0 : Nat) : Int) - 1 = -1 := rfl
      rw [hz] at e6
      have hbs := bls_set (s := s) (k := k) (by omega) true
      have hk2 : (k : Int) < g.length := by omega
      have hs' : ∀ j, (s.set k true).getD j false = (orderL g (m + 1)).contains j := fun j => by
        rw [getD_set_or (by omega), hs j, hk']
        rw [Bool.eq_iff_iff]
        simp [or_comm]
      have o1 := (orderL_ok hg.ok ha m (by omega)).1
      cases hL : orderL g m with
      | nil =>
        rw [hL] at e3 hk'
        simp only [rawRow] at e3
        simp (disch := first | assumption | omega) only [e6, e5, e15, e14, e3, e4, e0, hge, hbs, hk2, hbl, hsl, Nat.mul_one, go_sem, ↓reduceIte, Nat.reduceEqDiff, reduceCtorEq, Nat.reduceAdd, Nat.reduceLeDiff, Nat.reduceLT, reduceIte, Int.reduceBEq, Int.reduceBNe, Int.reduceLT, Int.reduceLE, Int.reduceAdd, Int.reduceSub, Int.reduceMul, Int.reduceNeg, Int.reduceEq, Int.reduceNe, Nat.reduceMul, Nat.reduceSub]
        exact ⟨by omega, d - 1, by omega, m + 1, _, by omega, by simp, by rw [hk']; rfl, by rw [List.length_set]; exact hsl, hs', by rw [eh, hpx_set0]; rfl⟩
      | cons b r =>
        rw [hL] at e3 hk' o1
        simp only [rawRow] at e3
        simp only [List.length_cons] at o1
        simp (disch := first | assumption | omega) only [e6, e5, e15, e14, e3, e4, e0, hge, hbs, hk2, hbl, hsl, Nat.mul_one, ni_length, go_sem, ↓reduceIte, Nat.reduceEqDiff, reduceCtorEq, Nat.reduceAdd, Nat.reduceLeDiff, Nat.reduceLT, reduceIte, Int.reduceBEq, Int.reduceBNe, Int.reduceLT, Int.reduceLE, Int.reduceAdd, Int.reduceSub, Int.reduceMul, Int.reduceNeg, Int.reduceEq, Int.reduceNe, Nat.reduceMul, Nat.reduceSub]
        exact ⟨by omega, by omega, by omega, d - 1, by omega, m + 1, _, by omega, by simp, by rw [hk', rawRow_snoc], by rw [List.length_set]; exact hsl, hs', by rw [eh, hpx_set0]; rfl⟩
    | succ c =>
      have hc : c < g.length := by omega
      have hcz : (((c + 1 : Nat) : Int) - 1) = (c : Int) := by omega
      rw [hcz] at e6
      have hc2 : c < (toI g).length := by rw [toI_length]; exact hc
      have hc3 : (c : Int) < xs.length := by omega
      have hc4 : c < xs.length := by omega
      have hc5 : (0 : Int) ≤ c := by omega
      have hc6 : (c : Int) < g.length := by omega
      obtain ⟨q, hq, hxc⟩ := hx.at c hc2
      rw [toI_get hc2] at hq hxc
      have hq1 := hq.1
      have hrl := hg.row c
      have hgc := bls_getD (s := s) (k := c) (by omega)
      have hlow := lowN_step (g := g) (out := orderL g m) hc
      simp (disch := first | assumption | omega) only [e6, e5, e15, e14, e3, e4, e0, hge, hgc, hc5, hc6, hc3, hc4, hxc, hbl, hsl, Nat.mul_one, ni_length, go_sem, ↓reduceIte, Nat.reduceEqDiff, reduceCtorEq, Nat.reduceAdd, Nat.reduceLeDiff, Nat.reduceLT, reduceIte, Int.reduceBEq, Int.reduceBNe, Int.reduceLT, Int.reduceLE, Int.reduceAdd, Int.reduceSub, Int.reduceMul, Int.reduceNeg, Int.reduceEq, Int.reduceNe, Nat.reduceMul, Nat.reduceSub]
      refine ⟨hc, ?_⟩
      refine aw_count (fun d'' S => ∃ (j : Nat), j + d'' = (nx g c).length ∧ S.env 34 = .int .i64 j ∧ S.env 33 = .int .i64 (nx g c).length ∧ S.env 32 = .lst q (ints .i64 (ni (nx g c))) ∧ S.env 7 = .bool (!(s.getD c false) && ((nx g c).take j).all (fun k => s.getD k false)) ∧ S.env 6 = .int .i64 c ∧ S.env 5 = .int .i64 (lowN g (orderL g m) (c + 1)) ∧ S.env 15 = .int .i64 m ∧ S.env 14 = .int .i64 g.length ∧ S.env 3 = rawRow (orderL g m) ∧ S.env 4 = .ref h.length 0 g.length g.length ∧ S.env 0 = .lst o xs ∧ S.heap = h ++ [.cells (bls s)]) (n := (nx g c).length)
        ⟨0, by omega, by simp (disch := first | assumption | omega) only [go_sem, ↓reduceIte, Nat.reduceEqDiff, reduceCtorEq, Nat.reduceAdd, Nat.reduceLeDiff, Nat.reduceLT, reduceIte, Int.reduceBEq, Int.reduceBNe, Int.reduceLT, Int.reduceLE, Int.reduceAdd, Int.reduceSub, Int.reduceMul, Int.reduceNeg, Int.reduceEq, Int.reduceNe, Nat.reduceMul, Nat.reduceSub], by simp (disch := first | assumption | omega) only [ni_length, go_sem, ↓reduceIte, Nat.reduceEqDiff, reduceCtorEq, Nat.reduceAdd, Nat.reduceLeDiff, Nat.reduceLT, reduceIte, Int.reduceBEq, Int.reduceBNe, Int.reduceLT, Int.reduceLE, Int.reduceAdd, Int.reduceSub, Int.reduceMul, Int.reduceNeg, Int.reduceEq, Int.reduceNe, Nat.reduceMul, Nat.reduceSub], by simp (disch := first | assumption | omega) only [go_sem, ↓reduceIte, Nat.reduceEqDiff, reduceCtorEq, Nat.reduceAdd, Nat.reduceLeDiff, Nat.reduceLT, reduceIte, Int.reduceBEq, Int.reduceBNe, Int.reduceLT, Int.reduceLE, Int.reduceAdd, Int.reduceSub, Int.reduceMul, Int.reduceNeg, Int.reduceEq, Int.reduceNe, Nat.reduceMul, Nat.reduceSub], by simp (disch := first | assumption | omega) only [List.take_zero, List.all_nil, Bool.and_true, go_sem, ↓reduceIte, Nat.reduceEqDiff, reduceCtorEq, Nat.reduceAdd, Nat.reduceLeDiff, Nat.reduceLT, reduceIte, Int.reduceBEq, Int.reduceBNe, Int.reduceLT, Int.reduceLE, Int.reduceAdd, Int.reduceSub, Int.reduceMul, Int.reduceNeg, Int.reduceEq, Int.reduceNe, Nat.reduceMul, Nat.reduceSub], by simp (disch := first | assumption | omega) only [e6, go_sem, ↓reduceIte, Nat.reduceEqDiff, reduceCtorEq, Nat.reduceAdd, Nat.reduceLeDiff, Nat.reduceLT, reduceIte, Int.reduceBEq, Int.reduceBNe, Int.reduceLT, Int.reduceLE, Int.reduceAdd, Int.reduceSub, Int.reduceMul, Int.reduceNeg, Int.reduceEq, Int.reduceNe, Nat.reduceMul, Nat.reduceSub], by simp (disch := first | assumption | omega) only [e5, go_sem, ↓reduceIte, Nat.reduceEqDiff, reduceCtorEq, Nat.reduceAdd, Nat.reduceLeDiff, Nat.reduceLT, reduceIte, Int.reduceBEq, Int.reduceBNe, Int.reduceLT, Int.reduceLE, Int.reduceAdd, Int.reduceSub, Int.reduceMul, Int.reduceNeg, Int.reduceEq, Int.reduceNe, Nat.reduceMul, Nat.reduceSub], by simp (disch := first | assumption | omega) only [e15, go_sem, ↓reduceIte, Nat.reduceEqDiff, reduceCtorEq, Nat.reduceAdd, Nat.reduceLeDiff, Nat.reduceLT, reduceIte, Int.reduceBEq, Int.reduceBNe, Int.reduceLT, Int.reduceLE, Int.reduceAdd, Int.reduceSub, Int.reduceMul, Int.reduceNeg, Int.reduceEq, Int.reduceNe, Nat.reduceMul, Nat.reduceSub], by simp (disch := first | assumption | omega) only [e14, go_sem, ↓reduceIte, Nat.reduceEqDiff, reduceCtorEq, Nat.reduceAdd, Nat.reduceLeDiff, Nat.reduceLT, reduceIte, Int.reduceBEq, Int.reduceBNe, Int.reduceLT, Int.reduceLE, Int.reduceAdd, Int.reduceSub, Int.reduceMul, Int.reduceNeg, Int.reduceEq, Int.reduceNe, Nat.reduceMul, Nat.reduceSub], by simp (disch := first | assumption | omega) only [e3, go_sem, ↓reduceIte, Nat.reduceEqDiff, reduceCtorEq, Nat.reduceAdd, Nat.reduceLeDiff, Nat.reduceLT, reduceIte, Int.reduceBEq, Int.reduceBNe, Int.reduceLT, Int.reduceLE, Int.reduceAdd, Int.reduceSub, Int.reduceMul, Int.reduceNeg, Int.reduceEq, Int.reduceNe, Nat.reduceMul, Nat.reduceSub], by simp (disch := first | assumption | omega) only [e4, go_sem, ↓reduceIte, Nat.reduceEqDiff, reduceCtorEq, Nat.reduceAdd, Nat.reduceLeDiff, Nat.reduceLT, reduceIte, Int.reduceBEq, Int.reduceBNe, Int.reduceLT, Int.reduceLE, Int.reduceAdd, Int.reduceSub, Int.reduceMul, Int.reduceNeg, Int.reduceEq, Int.reduceNe, Nat.reduceMul, Nat.reduceSub], by simp (disch := first | assumption | omega) only [e0, go_sem, ↓reduceIte, Nat.reduceEqDiff, reduceCtorEq, Nat.reduceAdd, Nat.reduceLeDiff, Nat.reduceLT, reduceIte, Int.reduceBEq, Int.reduceBNe, Int.reduceLT, Int.reduceLE, Int.reduceAdd, Int.reduceSub, Int.reduceMul, Int.reduceNeg, Int.reduceEq, Int.reduceNe, Nat.reduceMul, Nat.reduceSub], by simp (disch := first | assumption | omega) only [eh, go_sem, ↓reduceIte, Nat.reduceEqDiff, reduceCtorEq, Nat.reduceAdd, Nat.reduceLeDiff, Nat.reduceLT, reduceIte, Int.reduceBEq, Int.reduceBNe, Int.reduceLT, Int.reduceLE, Int.reduceAdd, Int.reduceSub, Int.reduceMul, Int.reduceNeg, Int.reduceEq, Int.reduceNe, Nat.reduceMul, Nat.reduceSub]⟩ ?_
      clear e6 e5 e15 e14 e3 e4 e0 eh hge
      rintro d'' S ⟨j, hjd, e34, e33, e32, e7, e6, e5, e15, e14, e3, e4, e0, eh⟩
      have hge : S.heap[h.length]? = some (.cells (bls s)) := by rw [eh, hpx_get0]; rfl
      have hrdy : rdyB g (orderL g m) c = (!(s.getD c false) && (nx g c).all (fun k => s.getD k false)) := by
        unfold rdyB
        rw [hs c]
        congr 1
        rw [Bool.eq_iff_iff, List.all_eq_true, List.all_eq_true]
        exact ⟨fun h x hx => by rw [hs x]; exact h x hx, fun h x hx => by rw [← hs x]; exact h x hx⟩
      by_cases hjl : (j : Int) < (nx g c).length
      · have hj : j < (nx g c).length := by omega
        have hj2 : j < (ni (nx g c)).length := by rw [ni_length]; exact hj
        have hatj := at_int hj2
        rw [ni_get hj2] at hatj
        have hkb := hg.ok c _ (List.getElem_mem hj)
        have htk : (nx g c).take (j + 1) = (nx g c).take j ++ [(nx g c)[j]] := by rw [List.take_add_one, List.getElem?_eq_getElem hj]; rfl
        generalize (nx g c)[j] = b at *
        have hkl2 : (b : Int) < g.length := by omega
        have hgb := bls_getD (s := s) (k := b) (by omega)
        cases hB : (!(s.getD c false) && ((nx g c).take j).all (fun k => s.getD k false))
        · rw [hB] at e7
          simp (disch := first | assumption | omega) only [e34, e33, e32, e7, e6, e5, e15, e14, e3, e4, e0, hge, hjl, hatj, ni_length, go_sem, ↓reduceIte, Nat.reduceEqDiff, reduceCtorEq, Nat.reduceAdd, Nat.reduceLeDiff, Nat.reduceLT, reduceIte, Int.reduceBEq, Int.reduceBNe, Int.reduceLT, Int.reduceLE, Int.reduceAdd, Int.reduceSub, Int.reduceMul, Int.reduceNeg, Int.reduceEq, Int.reduceNe, Nat.reduceMul, Nat.reduceSub]
          refine ⟨d'' - 1, by omega, j + 1, by omega, by simp, ?_, eh⟩
          rw [htk, List.all_append, ← Bool.and_assoc, hB, Bool.false_and]
        · rw [hB] at e7
          cases hsb : s.getD b false
          · rw [hsb] at hgb
            simp (disch := first | assumption | omega) only [e34, e33, e32, e7, e6, e5, e15, e14, e3, e4, e0, hge, hjl, hatj, ni_length, hkl2, hgb, hbl, hsl, Nat.mul_one, go_sem, ↓reduceIte, Nat.reduceEqDiff, reduceCtorEq, Nat.reduceAdd, Nat.reduceLeDiff, Nat.reduceLT, reduceIte, Int.reduceBEq, Int.reduceBNe, Int.reduceLT, Int.reduceLE, Int.reduceAdd, Int.reduceSub, Int.reduceMul, Int.reduceNeg, Int.reduceEq, Int.reduceNe, Nat.reduceMul, Nat.reduceSub]
            refine ⟨by omega, d'' - 1, by omega, j + 1, by omega, by simp, ?_, eh⟩
            rw [htk, List.all_append, ← Bool.and_assoc, hB, Bool.true_and, List.all_cons, List.all_nil, Bool.and_true, hsb]
          · rw [hsb] at hgb
            simp (disch := first | assumption | omega) only [e34, e33, e32, e7, e6, e5, e15, e14, e3, e4, e0, hge, hjl, hatj, ni_length, hkl2, hgb, hbl, hsl, Nat.mul_one, go_sem, ↓reduceIte, Nat.reduceEqDiff, reduceCtorEq, Nat.reduceAdd, Nat.reduceLeDiff, Nat.reduceLT, reduceIte, Int.reduceBEq, Int.reduceBNe, Int.reduceLT, Int.reduceLE, Int.reduceAdd, Int.reduceSub, Int.reduceMul, Int.reduceNeg, Int.reduceEq, Int.reduceNe, Nat.reduceMul, Nat.reduceSub]
            refine ⟨by omega, d'' - 1, by omega, j + 1, by omega, by simp, ?_, eh⟩
            rw [htk, List.all_append, ← Bool.and_assoc, hB, Bool.true_and, List.all_cons, List.all_nil, Bool.and_true, hsb]
      · obtain rfl : j = (nx g c).length := by omega
        rw [List.take_length, ← hrdy] at e7
        have hwc : IntKind.i64.wrap ((c : Int) - 1) = (c : Int) - 1 := wrapI64 (by omega) (by omega)
        cases hR : rdyB g (orderL g m) c
        · rw [hR] at e7 hlow
          simp (disch := first | assumption | omega) only [e34, e33, e32, e7, e6, e5, e15, e14, e3, e4, e0, hjl, hwc, go_sem, ↓reduceIte, Nat.reduceEqDiff, reduceCtorEq, Nat.reduceAdd, Nat.reduceLeDiff, Nat.reduceLT, reduceIte, Int.reduceBEq, Int.reduceBNe, Int.reduceLT, Int.reduceLE, Int.reduceAdd, Int.reduceSub, Int.reduceMul, Int.reduceNeg, Int.reduceEq, Int.reduceNe, Nat.reduceMul, Nat.reduceSub]
          exact ⟨c, by omega, by omega, rfl, by rw [hlow]; simp, eh⟩
        · rw [hR] at e7 hlow
          simp (disch := first | assumption | omega) only [e34, e33, e32, e7, e6, e5, e15, e14, e3, e4, e0, hjl, hwc, go_sem, ↓reduceIte, Nat.reduceEqDiff, reduceCtorEq, Nat.reduceAdd, Nat.reduceLeDiff, Nat.reduceLT, reduceIte, Int.reduceBEq, Int.reduceBNe, Int.reduceLT, Int.reduceLE, Int.reduceAdd, Int.reduceSub, Int.reduceMul, Int.reduceNeg, Int.reduceEq, Int.reduceNe, Nat.reduceMul, Nat.reduceSub]
          exact ⟨c, by omega, by omega, rfl, by rw [hlow]; simp, eh⟩
  · obtain rfl : m = g.length := by omega
    simp (disch := first | assumption | omega) only [e15, e14, e3, e4, e0, hlt, go_sem, ↓reduceIte, Nat.reduceEqDiff, reduceCtorEq, Nat.reduceAdd, Nat.reduceLeDiff, Nat.reduceLT, reduceIte, Int.reduceBEq, Int.reduceBNe, Int.reduceLT, Int.reduceLE, Int.reduceAdd, Int.reduceSub, Int.reduceMul, Int.reduceNeg, Int.reduceEq, Int.reduceNe, Nat.reduceMul, Nat.reduceSub]
    subst hQ
    simp (disch := first | assumption | omega) only [R.gantlaw5_orderOf, go_sem, ↓reduceIte, Nat.reduceEqDiff, reduceCtorEq, Nat.reduceAdd, Nat.reduceLeDiff, Nat.reduceLT, reduceIte, Int.reduceBEq, Int.reduceBNe, Int.reduceLT, Int.reduceLE, Int.reduceAdd, Int.reduceSub, Int.reduceMul, Int.reduceNeg, Int.reduceEq, Int.reduceNe, Nat.reduceMul, Nat.reduceSub]
    cases hL : orderL g g.length <;> simp only [rawRow] <;> exact ⟨rfl, _, eh, by simp [AVal.ids, idsL, ints_ids], trivial⟩
end Go.Proofs.Ytpdajkbfemcdlaa
/- Contracts: the second implementation's rings. -/
set_option linter.unusedSimpArgs false
set_option linter.unusedVariables false
set_option maxRecDepth 10000
namespace Go.Proofs.Ytpdajkbfemcdlaa
open Go.Ge
theorem pushInts {C : CallS} {r : AOpn → AVal} {hp : List HObj} {K : AVal → List HObj → Prop} {x y : AOpn} {id cap : Nat} {L : List Int} {rest : List AVal} {v : Int} {o : Own} (hx : r x = .ref id 0 L.length cap) (hy : r y = .lst o [.int .i64 v]) (hh : hp[id]? = some (.cells (ints .i64 L ++ rest)))
    (hr : rest.length = cap - L.length) (hc : L.length ≤ cap) (hb : L.length ≤ 1048576)
    (hK : ∀ id' cap' rest' h', h'[id']? = some (.cells (ints .i64 (L ++ [v]) ++ rest')) → rest'.length = cap' - (L.length + 1) → L.length + 1 ≤ cap' → Fr [id] hp h' → (id' = id ∨ id' = hp.length) → K (.ref id' 0 (L.length + 1) cap') h') : hstep C r hp (.appendR 1 8 x y) K := by
  have hm : ([AVal.int .i64 v].flatMap AVal.cells).map Ge.rdc = [.int .i64 v] := rfl
  have hsrc : srcH 1 hp (.ref id 0 L.length cap) = some (L.length, ints .i64 L) := by
    simp only [srcH]
    split
    · rename_i e
      have : L = [] := List.eq_nil_of_length_eq_zero e
      subst this; rfl
    · rw [hh]
      simp only [Nat.mul_one, List.drop_zero, Nat.zero_add]
      rw [if_pos (by rw [List.length_append, ints_length]; omega), List.take_left' (ints_length _ _), ints_rdc]
  have hs1 : srcH 1 hp (.lst o [.int .i64 v]) = some (1, [.int .i64 v]) := rfl
  have hli := ints_length .i64 L
  simp only [hstep, hx, hy, hs1]
  refine ⟨by simp [srcW, AVal.width, AVal.cells], by omega, by omega, fun e => by omega, fun _ hlt => ?_, fun _ hge => ?_⟩
  · simp only [hh, Nat.mul_one]
    refine ⟨by rw [List.length_append, hli]; omega, ?_⟩
    refine hK id cap (rest.drop 1) _ ?_ (by rw [List.length_drop]; omega) hlt (Fr.set (by simp)) (.inl rfl)
    rw [List.getElem?_set_self (lt_of_get hh)]
    congr 2
    unfold fillV
    rw [Nat.zero_add, List.take_left' hli, List.length_singleton, ← hli, List.drop_length_add_append, ← ints_append]; rfl
  · rw [hsrc]
    simp only []
    intro cap' hc'
    refine hK hp.length cap' (List.replicate ((cap' - (L.length + 1)) * 1) .junk) _ ?_ (by simp) hc' Fr.app (.inr rfl)
    rw [List.getElem?_append_right (Nat.le_refl _), Nat.sub_self, ← ints_append]; rfl
theorem Fr.ext {h0 h : List HObj} (a : Fr [] h0 h) : ∃ ext, h = h0 ++ ext := by
  refine ⟨h.drop h0.length, ?_⟩
  apply List.ext_getElem?
  intro i
  by_cases hi : i < h0.length
  · rw [List.getElem?_append_left hi, a.2 i hi (by simp)]
  · rw [List.getElem?_append_right (by omega), List.getElem?_drop]; congr 1; omega
theorem StepsQ.uniq {g : Gr} {t k : Nat} {v w : Int} (h : StepsQ g t k v) (h' : StepsQ g t k w) : v = w := by
  rcases h with ⟨d, h1, rfl⟩ | ⟨h1, rfl⟩
  · rcases h' with ⟨d', h2, rfl⟩ | ⟨h2, rfl⟩
    · rw [h1.uniq h2]
    · exact absurd h1.1 (h2 d)
  · rcases h' with ⟨d', h2, rfl⟩ | ⟨h2, rfl⟩
    · exact absurd h2.1 (h1 d')
    · rfl
open Classical in
/-- The least of those from which it takes v steps. -/
noncomputable def bestP (g : Gr) (t : Nat) (v : Int) : List Nat → Int → Int
  | [], b => b
  | k :: l, b => bestP g t v l (if StepsQ g t k v ∧ (b < 0 ∨ (k : Int) < b) then (k : Int) else b)
open Classical in
theorem bestP_snoc {g : Gr} {t : Nat} {v : Int} (k : Nat) : ∀ (l : List Nat) (b : Int), bestP g t v (l ++ [k]) b = if StepsQ g t k v ∧ (bestP g t v l b < 0 ∨ (k : Int) < bestP g t v l b) then (k : Int) else bestP g t v l b
  | [], b => by rw [List.nil_append]; simp only [bestP]; congr
  | x :: l, b => by rw [List.cons_append, bestP, bestP_snoc k l, bestP]
open Classical in
theorem bestP_none {g : Gr} {t : Nat} {v : Int} : ∀ (l : List Nat) (b : Int), (∀ k ∈ l, ¬StepsQ g t k v) → bestP g t v l b = b
  | [], b, _ => rfl
  | x :: l, b, h => by rw [bestP, if_neg (fun hc => h x (by simp) hc.1), bestP_none l b (fun k hk => h k (by simp [hk]))]
open Classical in
theorem bestP_far {g : Gr} {t : Nat} {v : Int} {F : List Int} : ∀ (l : List Nat) (b : Int), (∀ k ∈ l, StepsQ g t k v ↔ F.getD k 0 = v) → bestP g t v l b = bestN F v l b
  | [], b, _ => rfl
  | x :: l, b, h => by
    rw [bestP, bestN, bestP_far l _ (fun k hk => h k (by simp [hk]))]
    congr 1
    by_cases hc : StepsQ g t x v
    · have := (h x (by simp)).1 hc
      by_cases hb : b < 0 ∨ (x : Int) < b
      · rw [if_pos ⟨hc, hb⟩, if_pos ⟨this, hb⟩]
      · rw [if_neg (fun h => hb h.2), if_neg (fun h => hb h.2)]
    · have : ¬F.getD x 0 = v := fun e => hc ((h x (by simp)).2 e)
      rw [if_neg (fun h => hc h.1), if_neg (fun h => this h.1)]
theorem steps_far {g : Gr} {t n k : Nat} {F : List Int} (hF : FarOk g t n F) (hk : k < g.length) {v : Int} (h1 : 1 ≤ v) (h2 : v ≤ n) (h3 : v < 1000) : StepsQ g t k v ↔ F.getD k 0 = v := by
  rcases hF.2 k hk with ⟨e, hn⟩ | ⟨d, e, hd, hl⟩
  · rw [e]
    constructor
    · rintro (⟨d, h, rfl⟩ | ⟨_, rfl⟩)
      · exact absurd h.1 (hn d (by omega))
      · omega
    · intro h; omega
  · rw [e]
    constructor
    · rintro (⟨d', h, rfl⟩ | ⟨h, rfl⟩)
      · rw [hl.uniq h]
      · omega
    · intro h; exact .inl ⟨d, hl, h.symm⟩
theorem wayBack_ok (o : Own) (g : Gr) (xs : List AVal) (ho : Rdo o) (hg : Gfine g) (hx : Each2 RowOk (toI g) xs) (a D : Nat) (FF : List Int) (hD : Ld g a D a) (hF : FarOk g a D FF) (s : Nat) (hs1 : 1 ≤ s) (hsD : s ≤ D) (h0 : List HObj) :
    ACalls Try.prog F.gantlaw5_wayBack [.lst o xs, .ref h0.length 0 1 1, .int .i64 s] (h0 ++ [.cells [.int .i64 a]]) (fun r h' => (s < D ∧ r = .lst .nil [] ∨ s = D ∧ r = .lst (.app 1) (ints .i64 (ni (wayF g FF D a)))) ∧ ∃ ext, h' = h0 ++ ext) := by
  have lx := hx.length
  rw [toI_length] at lx
  have n64 := hg.n64
  have hDs := hD.short
  have hag := hD.1.lt
  refine ACalls.of_aw Try.func175 K.gantlaw5_wayBack (by simp [Try.f175]) ?_
  generalize hQ : retQ R.gantlaw5_wayBack _ = Q
  simp (disch := first | assumption | omega) only [C.gantlaw5_wayBack, go_sem, ↓reduceIte, Nat.reduceEqDiff, reduceCtorEq, Nat.reduceAdd, Nat.reduceLeDiff, Nat.reduceLT, reduceIte, Int.reduceBEq, Int.reduceBNe, Int.reduceLT, Int.reduceLE, Int.reduceAdd, Int.reduceSub, Int.reduceMul, Int.reduceNeg, Int.reduceEq, Int.reduceNe, Nat.reduceMul, Nat.reduceSub]
  refine aw_count (fun d S => ∃ (id cap : Nat) (rest : List AVal) (pre : List Nat) (b : Nat), d + (pre.length + 1) = s ∧ S.env 1 = .ref id 0 (pre.length + 1) cap ∧ S.env 0 = .lst o xs ∧ S.env 2 = .int .i64 s ∧ h0.length ≤ id ∧ S.heap[id]? = some (.cells (ints .i64 (ni (pre ++ [b])) ++ rest)) ∧ rest.length = cap - (pre.length + 1) ∧ pre.length + 1 ≤ cap ∧ Fr [] h0 S.heap ∧
      (pre = [] ∧ b = a ∨ s = D ∧ ∃ l, pre = a :: l) ∧ (s = D → pre ++ wayF g FF (D - pre.length) b = wayF g FF D a ∧ Ld g a (D - pre.length) b)) (n := s - 1)
    ⟨h0.length, 1, [], [], a, by simp only [List.length_nil]; omega, by simp (disch := first | assumption | omega) only [go_sem, ↓reduceIte, Nat.reduceEqDiff, reduceCtorEq, Nat.reduceAdd, Nat.reduceLeDiff, Nat.reduceLT, reduceIte, Int.reduceBEq, Int.reduceBNe, Int.reduceLT, Int.reduceLE, Int.reduceAdd, Int.reduceSub, Int.reduceMul, Int.reduceNeg, Int.reduceEq, Int.reduceNe, Nat.reduceMul, Nat.reduceSub], by simp (disch := first | assumption | omega) only [go_sem, ↓reduceIte, Nat.reduceEqDiff, reduceCtorEq, Nat.reduceAdd, Nat.reduceLeDiff, Nat.reduceLT, reduceIte, Int.reduceBEq, Int.reduceBNe, Int.reduceLT, Int.reduceLE, Int.reduceAdd, Int.reduceSub, Int.reduceMul, Int.reduceNeg, Int.reduceEq, Int.reduceNe, Nat.reduceMul, Nat.reduceSub], by simp (disch := first | assumption | omega) only [go_sem, ↓reduceIte, Nat.reduceEqDiff, reduceCtorEq, Nat.reduceAdd, Nat.reduceLeDiff, Nat.reduceLT, reduceIte, Int.reduceBEq, Int.reduceBNe, Int.reduceLT, Int.reduceLE, Int.reduceAdd, Int.reduceSub, Int.reduceMul, Int.reduceNeg, Int.reduceEq, Int.reduceNe, Nat.reduceMul, Nat.reduceSub], Nat.le_refl _, by simp (disch := first | assumption | omega) only [go_sem, ↓reduceIte, Nat.reduceEqDiff, reduceCtorEq, Nat.reduceAdd, Nat.reduceLeDiff, Nat.reduceLT, reduceIte, Int.reduceBEq, Int.reduceBNe, Int.reduceLT, Int.reduceLE, Int.reduceAdd, Int.reduceSub, Int.reduceMul, Int.reduceNeg, Int.reduceEq, Int.reduceNe, Nat.reduceMul, Nat.reduceSub]; rfl, by simp, by simp, by simp (disch := first | assumption | omega) only [go_sem, ↓reduceIte, Nat.reduceEqDiff, reduceCtorEq, Nat.reduceAdd, Nat.reduceLeDiff, Nat.reduceLT, reduceIte, Int.reduceBEq, Int.reduceBNe, Int.reduceLT, Int.reduceLE, Int.reduceAdd, Int.reduceSub, Int.reduceMul, Int.reduceNeg, Int.reduceEq, Int.reduceNe, Nat.reduceMul, Nat.reduceSub]; exact Fr.app, .inl ⟨rfl, rfl⟩, fun _ => ⟨by simp, by simpa using hD⟩⟩ ?_
  rintro d S ⟨id, cap, rest, pre, b, hds, e1, e0, e2, hid, hge, hrl, hcap, hfr, hpre, hall⟩
  have hbg : b < g.length := by
    rcases hpre with ⟨_, rfl⟩ | ⟨hsD', _⟩
    · exact hag
    · exact (hall hsD').2.1.lt
  have hhd : (ints .i64 (ni (pre ++ [b])) ++ rest).getD 0 .junk = .int .i64 a := by
    rcases hpre with ⟨rfl, rfl⟩ | ⟨_, l, rfl⟩ <;> rfl
  have hni : (ni (pre ++ [b])).length = pre.length + 1 := by simp [ni]
  have hlast : (ints .i64 (ni (pre ++ [b])) ++ rest).getD pre.length .junk = .int .i64 b := by
    rw [List.getD_eq_getElem?_getD, List.getElem?_append_left (by rw [ints_length, hni]; omega), ← List.getD_eq_getElem?_getD, getD_ints _ _ (by rw [hni]; omega)]
    simp [ni, List.getD_eq_getElem?_getD]
  have hlen : (ints .i64 (ni (pre ++ [b])) ++ rest).length = cap := by rw [List.length_append, ints_length, hni, hrl]; omega
  generalize hcs : ints .i64 (ni (pre ++ [b])) ++ rest = cs at *
  have hwl : IntKind.i64.wrap (((pre.length + 1 : Nat) : Int) - 1) = (pre.length : Int) := by rw [wrapI64 (by omega) (by omega)]; omega
  have hb2 : b < (toI g).length := by rw [toI_length]; exact hbg
  have hb3 : (b : Int) < xs.length := by omega
  have hb4 : b < xs.length := by omega
  obtain ⟨q, hq, hxb⟩ := hx.at b hb2
  rw [toI_get hb2] at hq hxb
  have hq1 := hq.1
  have hrow := hg.row b
  by_cases hlt : ((pre.length + 1 : Nat) : Int) < s
  · simp (disch := first | assumption | omega) only [e1, e0, e2, hlt, hwl, hge, hlast, hlen, hb3, hb4, hxb, Nat.mul_one, Nat.zero_add, ni_length, go_sem, ↓reduceIte, Nat.reduceEqDiff, reduceCtorEq, Nat.reduceAdd, Nat.reduceLeDiff, Nat.reduceLT, reduceIte, Int.reduceBEq, Int.reduceBNe, Int.reduceLT, Int.reduceLE, Int.reduceAdd, Int.reduceSub, Int.reduceMul, Int.reduceNeg, Int.reduceEq, Int.reduceNe, Nat.reduceMul, Nat.reduceSub]
    refine ⟨by omega, by omega, ?_⟩
    obtain ⟨H, eH⟩ : ∃ H, S.heap = H := ⟨_, rfl⟩
    rw [eH] at hge hfr
    generalize hv0 : (s : Int) - (pre.length + 1 : Nat) = v0 at *
    refine aw_count (fun d' S => ∃ (j : Nat), j + d' = (nx g b).length ∧ S.env 24 = .int .i64 j ∧ S.env 23 = .int .i64 (nx g b).length ∧ S.env 22 = .lst q (ints .i64 (ni (nx g b))) ∧ S.env 7 = .int .i64 (bestP g a v0 ((nx g b).take j) (-1)) ∧ S.env 1 = .ref id 0 (pre.length + 1) cap ∧ S.env 0 = .lst o xs ∧ S.env 2 = .int .i64 s ∧ S.heap = H) (n := (nx g b).length)
      ⟨0, by omega, by simp (disch := first | assumption | omega) only [go_sem, ↓reduceIte, Nat.reduceEqDiff, reduceCtorEq, Nat.reduceAdd, Nat.reduceLeDiff, Nat.reduceLT, reduceIte, Int.reduceBEq, Int.reduceBNe, Int.reduceLT, Int.reduceLE, Int.reduceAdd, Int.reduceSub, Int.reduceMul, Int.reduceNeg, Int.reduceEq, Int.reduceNe, Nat.reduceMul, Nat.reduceSub], by simp (disch := first | assumption | omega) only [ni_length, go_sem, ↓reduceIte, Nat.reduceEqDiff, reduceCtorEq, Nat.reduceAdd, Nat.reduceLeDiff, Nat.reduceLT, reduceIte, Int.reduceBEq, Int.reduceBNe, Int.reduceLT, Int.reduceLE, Int.reduceAdd, Int.reduceSub, Int.reduceMul, Int.reduceNeg, Int.reduceEq, Int.reduceNe, Nat.reduceMul, Nat.reduceSub], by simp (disch := first | assumption | omega) only [go_sem, ↓reduceIte, Nat.reduceEqDiff, reduceCtorEq, Nat.reduceAdd, Nat.reduceLeDiff, Nat.reduceLT, reduceIte, Int.reduceBEq, Int.reduceBNe, Int.reduceLT, Int.reduceLE, Int.reduceAdd, Int.reduceSub, Int.reduceMul, Int.reduceNeg, Int.reduceEq, Int.reduceNe, Nat.reduceMul, Nat.reduceSub], by simp (disch := first | assumption | omega) only [go_sem, ↓reduceIte, Nat.reduceEqDiff, reduceCtorEq, Nat.reduceAdd, Nat.reduceLeDiff, Nat.reduceLT, reduceIte, Int.reduceBEq, Int.reduceBNe, Int.reduceLT, Int.reduceLE, Int.reduceAdd, Int.reduceSub, Int.reduceMul, Int.reduceNeg, Int.reduceEq, Int.reduceNe, Nat.reduceMul, Nat.reduceSub]; rfl, by simp (disch := first | assumption | omega) only [e1, go_sem, ↓reduceIte, Nat.reduceEqDiff, reduceCtorEq, Nat.reduceAdd, Nat.reduceLeDiff, Nat.reduceLT, reduceIte, Int.reduceBEq, Int.reduceBNe, Int.reduceLT, Int.reduceLE, Int.reduceAdd, Int.reduceSub, Int.reduceMul, Int.reduceNeg, Int.reduceEq, Int.reduceNe, Nat.reduceMul, Nat.reduceSub], by simp (disch := first | assumption | omega) only [e0, go_sem, ↓reduceIte, Nat.reduceEqDiff, reduceCtorEq, Nat.reduceAdd, Nat.reduceLeDiff, Nat.reduceLT, reduceIte, Int.reduceBEq, Int.reduceBNe, Int.reduceLT, Int.reduceLE, Int.reduceAdd, Int.reduceSub, Int.reduceMul, Int.reduceNeg, Int.reduceEq, Int.reduceNe, Nat.reduceMul, Nat.reduceSub], by simp (disch := first | assumption | omega) only [e2, go_sem, ↓reduceIte, Nat.reduceEqDiff, reduceCtorEq, Nat.reduceAdd, Nat.reduceLeDiff, Nat.reduceLT, reduceIte, Int.reduceBEq, Int.reduceBNe, Int.reduceLT, Int.reduceLE, Int.reduceAdd, Int.reduceSub, Int.reduceMul, Int.reduceNeg, Int.reduceEq, Int.reduceNe, Nat.reduceMul, Nat.reduceSub], by simp (disch := first | assumption | omega) only [eH, go_sem, ↓reduceIte, Nat.reduceEqDiff, reduceCtorEq, Nat.reduceAdd, Nat.reduceLeDiff, Nat.reduceLT, reduceIte, Int.reduceBEq, Int.reduceBNe, Int.reduceLT, Int.reduceLE, Int.reduceAdd, Int.reduceSub, Int.reduceMul, Int.reduceNeg, Int.reduceEq, Int.reduceNe, Nat.reduceMul, Nat.reduceSub]⟩ ?_
    clear e1 e0 e2 eH
    rintro d' S ⟨j, hjd, e24, e23, e22, e7, e1, e0, e2, eH⟩
    rw [← eH] at hge hfr
    have hwv : IntKind.i64.wrap ((s : Int) - (pre.length + 1 : Nat)) = v0 := by rw [wrapI64 (by omega) (by omega)]; exact hv0
    by_cases hjl : (j : Int) < (nx g b).length
    · have hj : j < (nx g b).length := by omega
      have hj2 : j < (ni (nx g b)).length := by rw [ni_length]; exact hj
      have hatj := at_int hj2
      rw [ni_get hj2] at hatj
      have hkb := hg.ok b _ (List.getElem_mem hj)
      have htk : (nx g b).take (j + 1) = (nx g b).take j ++ [(nx g b)[j]] := by rw [List.take_add_one, List.getElem?_eq_getElem hj]; rfl
      generalize (nx g b)[j] = k at *
      have hsn := bestP_snoc (g := g) (t := a) (v := v0) k ((nx g b).take j) (-1)
      rw [← htk] at hsn
      generalize bestP g a v0 ((nx g b).take j) (-1) = B at *
      have hcall := steps2_ok o g xs ho hg hx k a hkb hag
      by_cases hB : B < 0
      · simp (disch := first | assumption | omega) only [e24, e23, e22, e7, e1, e0, e2, hjl, hatj, ni_length, hB, hge, hhd, hlen, Nat.mul_one, Nat.zero_add, hwv, go_sem, ↓reduceIte, Nat.reduceEqDiff, reduceCtorEq, Nat.reduceAdd, Nat.reduceLeDiff, Nat.reduceLT, reduceIte, Int.reduceBEq, Int.reduceBNe, Int.reduceLT, Int.reduceLE, Int.reduceAdd, Int.reduceSub, Int.reduceMul, Int.reduceNeg, Int.reduceEq, Int.reduceNe, Nat.reduceMul, Nat.reduceSub]
        refine ⟨by omega, by omega, ?_⟩
        refine callG_ok (hcall _) (by simp (disch := first | assumption | omega) only [go_sem, ↓reduceIte, Nat.reduceEqDiff, reduceCtorEq, Nat.reduceAdd, Nat.reduceLeDiff, Nat.reduceLT, reduceIte, Int.reduceBEq, Int.reduceBNe, Int.reduceLT, Int.reduceLE, Int.reduceAdd, Int.reduceSub, Int.reduceMul, Int.reduceNeg, Int.reduceEq, Int.reduceNe, Nat.reduceMul, Nat.reduceSub]) ?_
        rintro _ _ ⟨⟨v, rfl, hv⟩, hhh⟩
        rw [hhh]
        clear hhh
        by_cases hvv : v = v0
        · subst hvv
          simp (disch := first | assumption | omega) only [e24, e23, e22, e7, e1, e0, e2, hwv, go_sem, ↓reduceIte, Nat.reduceEqDiff, reduceCtorEq, Nat.reduceAdd, Nat.reduceLeDiff, Nat.reduceLT, reduceIte, Int.reduceBEq, Int.reduceBNe, Int.reduceLT, Int.reduceLE, Int.reduceAdd, Int.reduceSub, Int.reduceMul, Int.reduceNeg, Int.reduceEq, Int.reduceNe, Nat.reduceMul, Nat.reduceSub]
          refine ⟨d' - 1, by omega, j + 1, by omega, by simp, ?_, eH⟩
          rw [hsn, if_pos ⟨hv, .inl hB⟩]
        · simp (disch := first | assumption | omega) only [e24, e23, e22, e7, e1, e0, e2, hwv, hvv, go_sem, ↓reduceIte, Nat.reduceEqDiff, reduceCtorEq, Nat.reduceAdd, Nat.reduceLeDiff, Nat.reduceLT, reduceIte, Int.reduceBEq, Int.reduceBNe, Int.reduceLT, Int.reduceLE, Int.reduceAdd, Int.reduceSub, Int.reduceMul, Int.reduceNeg, Int.reduceEq, Int.reduceNe, Nat.reduceMul, Nat.reduceSub]
          refine ⟨d' - 1, by omega, j + 1, by omega, by simp, ?_, eH⟩
          rw [hsn, if_neg (fun hc => hvv (hv.uniq hc.1))]
      · by_cases hkB : (k : Int) < B
        · simp (disch := first | assumption | omega) only [e24, e23, e22, e7, e1, e0, e2, hjl, hatj, ni_length, hB, hkB, hge, hhd, hlen, Nat.mul_one, Nat.zero_add, hwv, go_sem, ↓reduceIte, Nat.reduceEqDiff, reduceCtorEq, Nat.reduceAdd, Nat.reduceLeDiff, Nat.reduceLT, reduceIte, Int.reduceBEq, Int.reduceBNe, Int.reduceLT, Int.reduceLE, Int.reduceAdd, Int.reduceSub, Int.reduceMul, Int.reduceNeg, Int.reduceEq, Int.reduceNe, Nat.reduceMul, Nat.reduceSub]
          refine ⟨by omega, by omega, ?_⟩
          refine callG_ok (hcall _) (by simp (disch := first | assumption | omega) only [go_sem, ↓reduceIte, Nat.reduceEqDiff, reduceCtorEq, Nat.reduceAdd, Nat.reduceLeDiff, Nat.reduceLT, reduceIte, Int.reduceBEq, Int.reduceBNe, Int.reduceLT, Int.reduceLE, Int.reduceAdd, Int.reduceSub, Int.reduceMul, Int.reduceNeg, Int.reduceEq, Int.reduceNe, Nat.reduceMul, Nat.reduceSub]) ?_
          rintro _ _ ⟨⟨v, rfl, hv⟩, hhh⟩
          rw [hhh]
          clear hhh
          by_cases hvv : v = v0
          · subst hvv
            simp (disch := first | assumption | omega) only [e24, e23, e22, e7, e1, e0, e2, hwv, go_sem, ↓reduceIte, Nat.reduceEqDiff, reduceCtorEq, Nat.reduceAdd, Nat.reduceLeDiff, Nat.reduceLT, reduceIte, Int.reduceBEq, Int.reduceBNe, Int.reduceLT, Int.reduceLE, Int.reduceAdd, Int.reduceSub, Int.reduceMul, Int.reduceNeg, Int.reduceEq, Int.reduceNe, Nat.reduceMul, Nat.reduceSub]
            refine ⟨d' - 1, by omega, j + 1, by omega, by simp, ?_, eH⟩
            rw [hsn, if_pos ⟨hv, .inr hkB⟩]
          · simp (disch := first | assumption | omega) only [e24, e23, e22, e7, e1, e0, e2, hwv, hvv, go_sem, ↓reduceIte, Nat.reduceEqDiff, reduceCtorEq, Nat.reduceAdd, Nat.reduceLeDiff, Nat.reduceLT, reduceIte, Int.reduceBEq, Int.reduceBNe, Int.reduceLT, Int.reduceLE, Int.reduceAdd, Int.reduceSub, Int.reduceMul, Int.reduceNeg, Int.reduceEq, Int.reduceNe, Nat.reduceMul, Nat.reduceSub]
            refine ⟨d' - 1, by omega, j + 1, by omega, by simp, ?_, eH⟩
            rw [hsn, if_neg (fun hc => hvv (hv.uniq hc.1))]
        · simp (disch := first | assumption | omega) only [e24, e23, e22, e7, e1, e0, e2, hjl, hatj, ni_length, hB, hkB, go_sem, ↓reduceIte, Nat.reduceEqDiff, reduceCtorEq, Nat.reduceAdd, Nat.reduceLeDiff, Nat.reduceLT, reduceIte, Int.reduceBEq, Int.reduceBNe, Int.reduceLT, Int.reduceLE, Int.reduceAdd, Int.reduceSub, Int.reduceMul, Int.reduceNeg, Int.reduceEq, Int.reduceNe, Nat.reduceMul, Nat.reduceSub]
          refine ⟨d' - 1, by omega, j + 1, by omega, by simp, ?_, eH⟩
          rw [hsn, if_neg (fun hc => hc.2.elim hB hkB)]
    · obtain rfl : j = (nx g b).length := by omega
      rw [List.take_length] at e7
      rcases Nat.lt_or_ge s D with hsd | hsd
      · obtain ⟨rfl, rfl⟩ : pre = [] ∧ b = a := hpre.elim (fun x => x) (fun h => by omega)
        have hno : bestP g b v0 (nx g b) (-1) = -1 := bestP_none _ _ fun k hk hc => by
          simp only [List.length_nil] at hv0
          rcases hc with ⟨d2, hd2, e⟩ | ⟨_, e⟩
          · exact hD.2 (d2 + 1) (by omega) (.step hk hd2.1)
          · omega
        rw [hno] at e7
        simp (disch := first | assumption | omega) only [e24, e23, e22, e7, e1, e0, e2, hjl, go_sem, ↓reduceIte, Nat.reduceEqDiff, reduceCtorEq, Nat.reduceAdd, Nat.reduceLeDiff, Nat.reduceLT, reduceIte, Int.reduceBEq, Int.reduceBNe, Int.reduceLT, Int.reduceLE, Int.reduceAdd, Int.reduceSub, Int.reduceMul, Int.reduceNeg, Int.reduceEq, Int.reduceNe, Nat.reduceMul, Nat.reduceSub]
        subst hQ
        simp (disch := first | assumption | omega) only [R.gantlaw5_wayBack, go_sem, ↓reduceIte, Nat.reduceEqDiff, reduceCtorEq, Nat.reduceAdd, Nat.reduceLeDiff, Nat.reduceLT, reduceIte, Int.reduceBEq, Int.reduceBNe, Int.reduceLT, Int.reduceLE, Int.reduceAdd, Int.reduceSub, Int.reduceMul, Int.reduceNeg, Int.reduceEq, Int.reduceNe, Nat.reduceMul, Nat.reduceSub]
        exact ⟨.inl hsd, Fr.ext hfr⟩
      · obtain rfl : s = D := by omega
        obtain ⟨hw, hLb⟩ := hall rfl
        obtain ⟨e2', he2'⟩ : ∃ e2', s - pre.length = e2' + 2 := ⟨s - pre.length - 2, by omega⟩
        rw [he2'] at hLb hw
        obtain ⟨m, hm1, hm2, hm3⟩ := best_ok hg.ok hF (by omega) hLb
        have hbe : bestP g a v0 (nx g b) (-1) = m := by
          rw [bestP_far _ _ (fun k hk => steps_far hF (hg.ok b k hk) (by omega) (by omega) (by omega)), ← hm1]
          congr 1; omega
        rw [hbe] at e7
        have hm0 : ¬(m : Int) < 0 := by omega
        simp (disch := first | assumption | omega) only [e24, e23, e22, e7, e1, e0, e2, hjl, hm0, aops_hop, go_sem, ↓reduceIte, Nat.reduceEqDiff, reduceCtorEq, Nat.reduceAdd, Nat.reduceLeDiff, Nat.reduceLT, reduceIte, Int.reduceBEq, Int.reduceBNe, Int.reduceLT, Int.reduceLE, Int.reduceAdd, Int.reduceSub, Int.reduceMul, Int.reduceNeg, Int.reduceEq, Int.reduceNe, Nat.reduceMul, Nat.reduceSub]
        refine pushInts (id := id) (cap := cap) (L := ni (pre ++ [b])) (rest := rest) (v := m) (o := .sh) (by simp (disch := first | assumption | omega) only [e1, hni, go_sem, ↓reduceIte, Nat.reduceEqDiff, reduceCtorEq, Nat.reduceAdd, Nat.reduceLeDiff, Nat.reduceLT, reduceIte, Int.reduceBEq, Int.reduceBNe, Int.reduceLT, Int.reduceLE, Int.reduceAdd, Int.reduceSub, Int.reduceMul, Int.reduceNeg, Int.reduceEq, Int.reduceNe, Nat.reduceMul, Nat.reduceSub]) (by simp (disch := first | assumption | omega) only [go_sem, ↓reduceIte, Nat.reduceEqDiff, reduceCtorEq, Nat.reduceAdd, Nat.reduceLeDiff, Nat.reduceLT, reduceIte, Int.reduceBEq, Int.reduceBNe, Int.reduceLT, Int.reduceLE, Int.reduceAdd, Int.reduceSub, Int.reduceMul, Int.reduceNeg, Int.reduceEq, Int.reduceNe, Nat.reduceMul, Nat.reduceSub]) (by rw [hge, hcs]) (by omega) (by omega) (by omega) ?_
        intro id' cap' rest' h' hg' hr' hc' hfr' hid' _
        simp (disch := first | assumption | omega) only [e0, e2, go_sem, ↓reduceIte, Nat.reduceEqDiff, reduceCtorEq, Nat.reduceAdd, Nat.reduceLeDiff, Nat.reduceLT, reduceIte, Int.reduceBEq, Int.reduceBNe, Int.reduceLT, Int.reduceLE, Int.reduceAdd, Int.reduceSub, Int.reduceMul, Int.reduceNeg, Int.reduceEq, Int.reduceNe, Nat.reduceMul, Nat.reduceSub]
        have hidn : h0.length ≤ id' := by
          rcases hid' with rfl | rfl
          · exact hid
          · exact hfr.1
        have hway : wayF g FF (e2' + 2) b = b :: wayF g FF (e2' + 1) m := by rw [wayF, hm1]; rfl
        exact ⟨d - 1, by omega, id', cap', rest', pre ++ [b], m, by simp; omega, by rw [hni]; simp, hidn, by rw [hg', ni_append (pre ++ [b]) [m]]; rfl, by rw [hr', hni]; simp, by rw [hni] at hc'; simpa using hc',
          hfr.trans hfr' (fun i hi => .inr (by simp at hi; subst hi; exact hid)),
          .inr (by rcases hpre with ⟨rfl, rfl⟩ | ⟨_, l, rfl⟩ <;> (first | exact ⟨[], rfl⟩ | exact ⟨_, rfl⟩)),
          by rw [← hw, hway, List.length_append, List.length_singleton, show s - (pre.length + 1) = e2' + 1 by omega, List.append_assoc]; rfl,
          by rw [List.length_append, List.length_singleton, show s - (pre.length + 1) = e2' + 1 by omega]; exact hm3⟩
  · simp (disch := first | assumption | omega) only [e1, e0, e2, hlt, hwl, hge, hlast, hlen, hb3, hb4, hxb, Nat.mul_one, Nat.zero_add, ni_length, hhd, go_sem, ↓reduceIte, Nat.reduceEqDiff, reduceCtorEq, Nat.reduceAdd, Nat.reduceLeDiff, Nat.reduceLT, reduceIte, Int.reduceBEq, Int.reduceBNe, Int.reduceLT, Int.reduceLE, Int.reduceAdd, Int.reduceSub, Int.reduceMul, Int.reduceNeg, Int.reduceEq, Int.reduceNe, Nat.reduceMul, Nat.reduceSub]
    refine ⟨by omega, by omega, by omega, by omega, ?_⟩
    obtain rfl : s = pre.length + 1 := by omega
    refine callpG_ok (R := fun r => r = .bool (decide (pre.length + 1 = D))) (fun hp' => ACalls.mono (ContainsInt_ok q (ni (nx g b)) a hq1 (by rw [ni_length]; omega) hp') fun r h' hh => ⟨hh.2, by
      rw [hh.1]
      congr 1
      rw [decide_eq_decide, mem_ni]
      constructor
      · intro hc
        rcases hpre with ⟨rfl, rfl⟩ | ⟨hh2, _⟩
        · refine Decidable.byContradiction fun hne => hD.2 1 ?_ (.one hc)
          simp only [List.length_nil] at *; omega
        · exact hh2
      · intro hc
        obtain ⟨_, hLb⟩ := hall hc
        rw [show D - pre.length = 1 by omega] at hLb
        exact hLb.one⟩) (by simp (disch := first | assumption | omega) only [go_sem, ↓reduceIte, Nat.reduceEqDiff, reduceCtorEq, Nat.reduceAdd, Nat.reduceLeDiff, Nat.reduceLT, reduceIte, Int.reduceBEq, Int.reduceBNe, Int.reduceLT, Int.reduceLE, Int.reduceAdd, Int.reduceSub, Int.reduceMul, Int.reduceNeg, Int.reduceEq, Int.reduceNe, Nat.reduceMul, Nat.reduceSub]) ?_
    rintro _ rfl
    by_cases hsd : pre.length + 1 = D
    · simp (disch := first | assumption | omega) only [eq_true hsd, e1, e0, e2, go_sem, ↓reduceIte, Nat.reduceEqDiff, reduceCtorEq, Nat.reduceAdd, Nat.reduceLeDiff, Nat.reduceLT, reduceIte, Int.reduceBEq, Int.reduceBNe, Int.reduceLT, Int.reduceLE, Int.reduceAdd, Int.reduceSub, Int.reduceMul, Int.reduceNeg, Int.reduceEq, Int.reduceNe, Nat.reduceMul, Nat.reduceSub]
      refine own_ints' (k := .i64) (ns := ni (pre ++ [b])) (rest := rest) (cap := cap) (id := id) (by simp (disch := first | assumption | omega) only [e1, hni, go_sem, ↓reduceIte, Nat.reduceEqDiff, reduceCtorEq, Nat.reduceAdd, Nat.reduceLeDiff, Nat.reduceLT, reduceIte, Int.reduceBEq, Int.reduceBNe, Int.reduceLT, Int.reduceLE, Int.reduceAdd, Int.reduceSub, Int.reduceMul, Int.reduceNeg, Int.reduceEq, Int.reduceNe, Nat.reduceMul, Nat.reduceSub]) (by simp (disch := first | assumption | omega) only [hge, hcs, go_sem, ↓reduceIte, Nat.reduceEqDiff, reduceCtorEq, Nat.reduceAdd, Nat.reduceLeDiff, Nat.reduceLT, reduceIte, Int.reduceBEq, Int.reduceBNe, Int.reduceLT, Int.reduceLE, Int.reduceAdd, Int.reduceSub, Int.reduceMul, Int.reduceNeg, Int.reduceEq, Int.reduceNe, Nat.reduceMul, Nat.reduceSub]) (by omega) (by omega) ?_
      rintro hp hhp
      rw [aw_grab]
      simp (disch := first | assumption | omega) only [e1, go_sem, ↓reduceIte, Nat.reduceEqDiff, reduceCtorEq, Nat.reduceAdd, Nat.reduceLeDiff, Nat.reduceLT, reduceIte, Int.reduceBEq, Int.reduceBNe, Int.reduceLT, Int.reduceLE, Int.reduceAdd, Int.reduceSub, Int.reduceMul, Int.reduceNeg, Int.reduceEq, Int.reduceNe, Nat.reduceMul, Nat.reduceSub]
      subst hQ
      simp (disch := first | assumption | omega) only [R.gantlaw5_wayBack, go_sem, ↓reduceIte, Nat.reduceEqDiff, reduceCtorEq, Nat.reduceAdd, Nat.reduceLeDiff, Nat.reduceLT, reduceIte, Int.reduceBEq, Int.reduceBNe, Int.reduceLT, Int.reduceLE, Int.reduceAdd, Int.reduceSub, Int.reduceMul, Int.reduceNeg, Int.reduceEq, Int.reduceNe, Nat.reduceMul, Nat.reduceSub]
      obtain ⟨hw, _⟩ := hall hsd
      rw [show D - pre.length = 1 by omega] at hw
      refine ⟨.inr ⟨hsd, by rw [← hw]; rfl⟩, ?_⟩
      rcases hhp with ⟨rfl, _⟩ | ⟨rfl, _⟩
      · exact Fr.ext hfr
      · exact Fr.ext (hfr.trans (S' := [id]) (Fr.set (by simp)) (fun i hi => .inr (by simp at hi; subst hi; exact hid)))
    · simp (disch := first | assumption | omega) only [hsd, e1, e0, e2, go_sem, ↓reduceIte, Nat.reduceEqDiff, reduceCtorEq, Nat.reduceAdd, Nat.reduceLeDiff, Nat.reduceLT, reduceIte, Int.reduceBEq, Int.reduceBNe, Int.reduceLT, Int.reduceLE, Int.reduceAdd, Int.reduceSub, Int.reduceMul, Int.reduceNeg, Int.reduceEq, Int.reduceNe, Nat.reduceMul, Nat.reduceSub]
      subst hQ
      simp (disch := first | assumption | omega) only [R.gantlaw5_wayBack, go_sem, ↓reduceIte, Nat.reduceEqDiff, reduceCtorEq, Nat.reduceAdd, Nat.reduceLeDiff, Nat.reduceLT, reduceIte, Int.reduceBEq, Int.reduceBNe, Int.reduceLT, Int.reduceLE, Int.reduceAdd, Int.reduceSub, Int.reduceMul, Int.reduceNeg, Int.reduceEq, Int.reduceNe, Nat.reduceMul, Nat.reduceSub]
      exact ⟨.inl (show _ < _ by omega), Fr.ext hfr⟩
end Go.Proofs.Ytpdajkbfemcdlaa
/- Contracts: the second implementation's ring; facts of the law. -/
set_option linter.unusedSimpArgs false
set_option linter.unusedVariables false
set_option maxRecDepth 10000
namespace Go.Proofs.Ytpdajkbfemcdlaa
open Go.Ge
theorem ringOf_ok (o : Own) (g : Gr) (xs : List AVal) (ho : Rdo o) (hg : Gfine g) (hx : Each2 RowOk (toI g) xs) (a D : Nat) (FF : List Int) (hD : Ld g a D a) (hF : FarOk g a D FF) (h : List HObj) :
    ACalls Try.prog F.gantlaw5_ringOf [.lst o xs, .int .i64 a] h (fun r h' => r = .lst (.app 1) (ints .i64 (ni (wayF g FF D a))) ∧ h' = h) := by
  have lx := hx.length
  rw [toI_length] at lx
  have n64 := hg.n64
  have hDs := hD.short
  have hDp := hD.1.pos
  refine ACalls.gcn (ACalls.of_aw Try.func105 K.gantlaw5_ringOf (by simp [Try.f105]) ?_)
  generalize hQ : retQ R.gantlaw5_ringOf _ = Q
  simp (disch := first | assumption | omega) only [C.gantlaw5_ringOf, go_sem, ↓reduceIte, Nat.reduceEqDiff, reduceCtorEq, Nat.reduceAdd, Nat.reduceLeDiff, Nat.reduceLT, reduceIte, Int.reduceBEq, Int.reduceBNe, Int.reduceLT, Int.reduceLE, Int.reduceAdd, Int.reduceSub, Int.reduceMul, Int.reduceNeg, Int.reduceEq, Int.reduceNe, Nat.reduceMul, Nat.reduceSub]
  refine aw_count (fun d S => ∃ (s : Nat) (ext : List HObj), s + d = D ∧ 1 ≤ s ∧ S.env 5 = .int .i64 s ∧ S.env 0 = .lst o xs ∧ S.env 1 = .int .i64 a ∧ S.heap = h ++ ext) (n := D - 1)
    ⟨1, [], by omega, by omega, by simp (disch := first | assumption | omega) only [go_sem, ↓reduceIte, Nat.reduceEqDiff, reduceCtorEq, Nat.reduceAdd, Nat.reduceLeDiff, Nat.reduceLT, reduceIte, Int.reduceBEq, Int.reduceBNe, Int.reduceLT, Int.reduceLE, Int.reduceAdd, Int.reduceSub, Int.reduceMul, Int.reduceNeg, Int.reduceEq, Int.reduceNe, Nat.reduceMul, Nat.reduceSub]; rfl, by simp (disch := first | assumption | omega) only [go_sem, ↓reduceIte, Nat.reduceEqDiff, reduceCtorEq, Nat.reduceAdd, Nat.reduceLeDiff, Nat.reduceLT, reduceIte, Int.reduceBEq, Int.reduceBNe, Int.reduceLT, Int.reduceLE, Int.reduceAdd, Int.reduceSub, Int.reduceMul, Int.reduceNeg, Int.reduceEq, Int.reduceNe, Nat.reduceMul, Nat.reduceSub], by simp (disch := first | assumption | omega) only [go_sem, ↓reduceIte, Nat.reduceEqDiff, reduceCtorEq, Nat.reduceAdd, Nat.reduceLeDiff, Nat.reduceLT, reduceIte, Int.reduceBEq, Int.reduceBNe, Int.reduceLT, Int.reduceLE, Int.reduceAdd, Int.reduceSub, Int.reduceMul, Int.reduceNeg, Int.reduceEq, Int.reduceNe, Nat.reduceMul, Nat.reduceSub], by simp (disch := first | assumption | omega) only [List.append_nil, go_sem, ↓reduceIte, Nat.reduceEqDiff, reduceCtorEq, Nat.reduceAdd, Nat.reduceLeDiff, Nat.reduceLT, reduceIte, Int.reduceBEq, Int.reduceBNe, Int.reduceLT, Int.reduceLE, Int.reduceAdd, Int.reduceSub, Int.reduceMul, Int.reduceNeg, Int.reduceEq, Int.reduceNe, Nat.reduceMul, Nat.reduceSub]⟩ ?_
  rintro d S ⟨s, ext, hsd, hs1, e5, e0, e1, eh⟩
  have hsl : (s : Int) ≤ g.length := by omega
  have hsl2 : (s : Int) ≤ xs.length := by omega
  simp (disch := first | assumption | omega) only [e5, e0, e1, hsl2, go_sem, ↓reduceIte, Nat.reduceEqDiff, reduceCtorEq, Nat.reduceAdd, Nat.reduceLeDiff, Nat.reduceLT, reduceIte, Int.reduceBEq, Int.reduceBNe, Int.reduceLT, Int.reduceLE, Int.reduceAdd, Int.reduceSub, Int.reduceMul, Int.reduceNeg, Int.reduceEq, Int.reduceNe, Nat.reduceMul, Nat.reduceSub]
  refine callG_ok (wayBack_ok o g xs ho hg hx a D FF hD hF s hs1 (by omega) S.heap) (by simp (disch := first | assumption | omega) only [go_sem, ↓reduceIte, Nat.reduceEqDiff, reduceCtorEq, Nat.reduceAdd, Nat.reduceLeDiff, Nat.reduceLT, reduceIte, Int.reduceBEq, Int.reduceBNe, Int.reduceLT, Int.reduceLE, Int.reduceAdd, Int.reduceSub, Int.reduceMul, Int.reduceNeg, Int.reduceEq, Int.reduceNe, Nat.reduceMul, Nat.reduceSub]) ?_
  rintro _ _ ⟨hr, ext2, rfl⟩
  rcases hr with ⟨hlt, rfl⟩ | ⟨rfl, rfl⟩
  · simp (disch := first | assumption | omega) only [e5, e0, e1, go_sem, ↓reduceIte, Nat.reduceEqDiff, reduceCtorEq, Nat.reduceAdd, Nat.reduceLeDiff, Nat.reduceLT, reduceIte, Int.reduceBEq, Int.reduceBNe, Int.reduceLT, Int.reduceLE, Int.reduceAdd, Int.reduceSub, Int.reduceMul, Int.reduceNeg, Int.reduceEq, Int.reduceNe, Nat.reduceMul, Nat.reduceSub]
    refine ⟨rfl, ?_⟩
    simp (disch := first | assumption | omega) only [e5, e0, e1, go_sem, ↓reduceIte, Nat.reduceEqDiff, reduceCtorEq, Nat.reduceAdd, Nat.reduceLeDiff, Nat.reduceLT, reduceIte, Int.reduceBEq, Int.reduceBNe, Int.reduceLT, Int.reduceLE, Int.reduceAdd, Int.reduceSub, Int.reduceMul, Int.reduceNeg, Int.reduceEq, Int.reduceNe, Nat.reduceMul, Nat.reduceSub]
    exact ⟨d - 1, by omega, s + 1, ext ++ ext2, by omega, by omega, by simp, by rw [eh, List.append_assoc]⟩
  · obtain ⟨_, wl, hwl⟩ := wayF_ok hg.ok hF s a hs1 (Nat.le_refl _) hD
    rw [hwl]
    have hcons : ints .i64 (ni (a :: wl)) = .int .i64 a :: ints .i64 (ni wl) := rfl
    simp (disch := first | assumption | omega) only [e5, e0, e1, go_sem, ↓reduceIte, Nat.reduceEqDiff, reduceCtorEq, Nat.reduceAdd, Nat.reduceLeDiff, Nat.reduceLT, reduceIte, Int.reduceBEq, Int.reduceBNe, Int.reduceLT, Int.reduceLE, Int.reduceAdd, Int.reduceSub, Int.reduceMul, Int.reduceNeg, Int.reduceEq, Int.reduceNe, Nat.reduceMul, Nat.reduceSub]
    refine aops_isnilR (o := .sh) (xs := ints .i64 (ni (a :: wl))) (by simp (disch := first | assumption | omega) only [go_sem, ↓reduceIte, Nat.reduceEqDiff, reduceCtorEq, Nat.reduceAdd, Nat.reduceLeDiff, Nat.reduceLT, reduceIte, Int.reduceBEq, Int.reduceBNe, Int.reduceLT, Int.reduceLE, Int.reduceAdd, Int.reduceSub, Int.reduceMul, Int.reduceNeg, Int.reduceEq, Int.reduceNe, Nat.reduceMul, Nat.reduceSub]) (.inl rfl) (fun e => by cases e) fun b hb => ?_
    obtain rfl := hb (by rw [hcons]; exact List.cons_ne_nil _ _)
    simp (disch := first | assumption | omega) only [e5, e0, e1, go_sem, ↓reduceIte, Nat.reduceEqDiff, reduceCtorEq, Nat.reduceAdd, Nat.reduceLeDiff, Nat.reduceLT, reduceIte, Int.reduceBEq, Int.reduceBNe, Int.reduceLT, Int.reduceLE, Int.reduceAdd, Int.reduceSub, Int.reduceMul, Int.reduceNeg, Int.reduceEq, Int.reduceNe, Nat.reduceMul, Nat.reduceSub]
    subst hQ
    simp (disch := first | assumption | omega) only [R.gantlaw5_ringOf, go_sem, ↓reduceIte, Nat.reduceEqDiff, reduceCtorEq, Nat.reduceAdd, Nat.reduceLeDiff, Nat.reduceLT, reduceIte, Int.reduceBEq, Int.reduceBNe, Int.reduceLT, Int.reduceLE, Int.reduceAdd, Int.reduceSub, Int.reduceMul, Int.reduceNeg, Int.reduceEq, Int.reduceNe, Nat.reduceMul, Nat.reduceSub]
    exact ⟨ext ++ ext2, by rw [eh, List.append_assoc], by simp [AVal.ids, idsL, ints_ids], by rw [hwl]⟩
theorem RingTells1_ok (k : Int) (o : Own) (xs : List AVal) (id : Nat) (ho : Rdo o) (h : List HObj) (hh : h[id]? = some (.cells [.lst o xs])) :
    ACalls Try.prog F.gantlaw5_RingTells_1 [.int .i64 k, .hp id 0] h (fun r h' => r = .bool (badI xs.length k) ∧ h' = h) := by
  have hgd : [AVal.lst o xs].getD 0 .junk = .lst o xs := rfl
  have hrd : Ge.rdc (.lst o xs) = .lst o xs := by rcases ho with rfl | rfl <;> rfl
  refine ACalls.of_aw Try.func100 K.gantlaw5_RingTells_1 (by simp [Try.f100]) ?_
  generalize hQ : retQ R.gantlaw5_RingTells_1 _ = Q
  simp (disch := first | assumption | omega) only [C.gantlaw5_RingTells_1, go_sem, ↓reduceIte, Nat.reduceEqDiff, reduceCtorEq, Nat.reduceAdd, Nat.reduceLeDiff, Nat.reduceLT, reduceIte, Int.reduceBEq, Int.reduceBNe, Int.reduceLT, Int.reduceLE, Int.reduceAdd, Int.reduceSub, Int.reduceMul, Int.reduceNeg, Int.reduceEq, Int.reduceNe, Nat.reduceMul, Nat.reduceSub]
  by_cases hk : k < 0
  · simp (disch := first | assumption | omega) only [hk, go_sem, ↓reduceIte, Nat.reduceEqDiff, reduceCtorEq, Nat.reduceAdd, Nat.reduceLeDiff, Nat.reduceLT, reduceIte, Int.reduceBEq, Int.reduceBNe, Int.reduceLT, Int.reduceLE, Int.reduceAdd, Int.reduceSub, Int.reduceMul, Int.reduceNeg, Int.reduceEq, Int.reduceNe, Nat.reduceMul, Nat.reduceSub]
    subst hQ
    simp (disch := first | assumption | omega) only [R.gantlaw5_RingTells_1, go_sem, ↓reduceIte, Nat.reduceEqDiff, reduceCtorEq, Nat.reduceAdd, Nat.reduceLeDiff, Nat.reduceLT, reduceIte, Int.reduceBEq, Int.reduceBNe, Int.reduceLT, Int.reduceLE, Int.reduceAdd, Int.reduceSub, Int.reduceMul, Int.reduceNeg, Int.reduceEq, Int.reduceNe, Nat.reduceMul, Nat.reduceSub]
    simp [badI, hk]
  · by_cases hn : (xs.length : Int) ≤ k
    · simp (disch := first | assumption | omega) only [hk, hn, hh, hrd, go_sem, ↓reduceIte, Nat.reduceEqDiff, reduceCtorEq, Nat.reduceAdd, Nat.reduceLeDiff, Nat.reduceLT, reduceIte, Int.reduceBEq, Int.reduceBNe, Int.reduceLT, Int.reduceLE, Int.reduceAdd, Int.reduceSub, Int.reduceMul, Int.reduceNeg, Int.reduceEq, Int.reduceNe, Nat.reduceMul, Nat.reduceSub]
      subst hQ
      simp (disch := first | assumption | omega) only [R.gantlaw5_RingTells_1, go_sem, ↓reduceIte, Nat.reduceEqDiff, reduceCtorEq, Nat.reduceAdd, Nat.reduceLeDiff, Nat.reduceLT, reduceIte, Int.reduceBEq, Int.reduceBNe, Int.reduceLT, Int.reduceLE, Int.reduceAdd, Int.reduceSub, Int.reduceMul, Int.reduceNeg, Int.reduceEq, Int.reduceNe, Nat.reduceMul, Nat.reduceSub]
      simp [badI, hn]
    · simp (disch := first | assumption | omega) only [hk, hn, hh, hrd, go_sem, ↓reduceIte, Nat.reduceEqDiff, reduceCtorEq, Nat.reduceAdd, Nat.reduceLeDiff, Nat.reduceLT, reduceIte, Int.reduceBEq, Int.reduceBNe, Int.reduceLT, Int.reduceLE, Int.reduceAdd, Int.reduceSub, Int.reduceMul, Int.reduceNeg, Int.reduceEq, Int.reduceNe, Nat.reduceMul, Nat.reduceSub]
      subst hQ
      simp (disch := first | assumption | omega) only [R.gantlaw5_RingTells_1, go_sem, ↓reduceIte, Nat.reduceEqDiff, reduceCtorEq, Nat.reduceAdd, Nat.reduceLeDiff, Nat.reduceLT, reduceIte, Int.reduceBEq, Int.reduceBNe, Int.reduceLT, Int.reduceLE, Int.reduceAdd, Int.reduceSub, Int.reduceMul, Int.reduceNeg, Int.reduceEq, Int.reduceNe, Nat.reduceMul, Nat.reduceSub]
      simp [badI, hn, hk]
/-- A graph without fault is one of nodes. -/
theorem graphE_zero {G : List (List Int)} (h : graphE G = 0) (hb : ∀ r ∈ G, r.length ≤ 1048576) : ∃ g, G = toI g ∧ Gfine g := by
  unfold graphE at h
  split at h
  · omega
  rename_i h64
  split at h
  · omega
  rename_i hany
  have hin : ∀ r ∈ G, ∀ k ∈ r, 0 ≤ k ∧ k < G.length := by
    intro r hr k hk
    have : badI G.length k = false := by
      cases hb : badI G.length k
      · rfl
      · exact absurd (List.any_eq_true.2 ⟨r, hr, List.any_eq_true.2 ⟨k, hk, hb⟩⟩) hany
    simp only [badI, Bool.or_eq_false_iff, decide_eq_false_iff_not] at this
    omega
  have hG : toI (G.map fun r => r.map Int.toNat) = G := by
    unfold toI
    rw [List.map_map]
    conv => rhs; rw [← List.map_id G]
    refine List.map_congr_left fun r hr => ?_
    show ni (r.map Int.toNat) = r
    unfold ni
    rw [List.map_map]
    conv => rhs; rw [← List.map_id r]
    refine List.map_congr_left fun k hk => ?_
    have := hin r hr k hk
    show ((k.toNat : Nat) : Int) = k
    omega
  refine ⟨G.map fun r => r.map Int.toNat, hG.symm, ⟨?_, by simpa using h64, ?_⟩⟩
  · intro i k hk
    unfold nx at hk
    rw [List.getD_eq_getElem?_getD, List.getElem?_map] at hk
    cases hr : G[i]? with
    | none => rw [hr] at hk; simp at hk
    | some r =>
      rw [hr] at hk
      simp only [Option.map_some, Option.getD_some, List.mem_map] at hk
      obtain ⟨x, hx, rfl⟩ := hk
      have := hin r (List.mem_of_getElem? hr) x hx
      simp; omega
  · refine Nat.le_trans (pend_le (M := 1048576) (fun i => ?_) _) ?_
    · unfold nx
      rw [List.getD_eq_getElem?_getD, List.getElem?_map]
      cases hr : G[i]? with
      | none => simp
      | some r => simpa using hb r (List.mem_of_getElem? hr)
    · simp only [List.length_map]
      have : G.length * 1048576 ≤ 64 * 1048576 := Nat.mul_le_mul_right _ (by omega)
      omega
theorem fine10 : Gfine [[1], [0]] := by
  have nx0 : nx [[1], [0]] 0 = [1] := rfl
  have nx1 : nx [[1], [0]] 1 = [0] := rfl
  have nx2 : ∀ i, nx [[1], [0]] (i + 2) = [] := fun i => rfl
  refine ⟨?_, by simp, Nat.le_trans (pend_le (M := 1) (fun i => ?_) _) (by simp)⟩
  · intro i k hk
    match i, hk with
    | 0, hk => rw [nx0] at hk; simp at hk; simp [hk]
    | 1, hk => rw [nx1] at hk; simp at hk; simp [hk]
    | i + 2, hk => rw [nx2] at hk; cases hk
  · match i with
    | 0 => rw [nx0]; simp
    | 1 => rw [nx1]; simp
    | i + 2 => rw [nx2]; simp
theorem find10 {r : AVal} (h : FindQ [[1], [0]] r) : r = .tup [.lst (.app 1) (ints .i64 [0, 1]), .int .i64 0] := by
  have nx0 : nx [[1], [0]] 0 = [1] := rfl
  have nx1 : nx [[1], [0]] 1 = [0] := rfl
  have r0 : Rch [[1], [0]] 0 0 := ⟨2, .step (k := 1) (by rw [nx0]; simp) (.one (by rw [nx1]; simp))⟩
  have hS : stuckL [[1], [0]] = [0, 1] := by
    have r1 : Rch [[1], [0]] 1 1 := ⟨2, .step (k := 0) (by rw [nx1]; simp) (.one (by rw [nx0]; simp))⟩
    show stuckN _ 2 = _
    rw [(stuckN_succ _ 1).1 r1, (stuckN_succ _ 0).1 r0]; rfl
  rcases h with ⟨h, _⟩ | ⟨i, l, d, FF, h, hd, hF, rfl⟩
  · rw [hS] at h; cases h
  · rw [hS] at h
    obtain ⟨rfl, _⟩ := List.cons.inj h
    have h2 : Ld [[1], [0]] 0 2 0 := ⟨.step (k := 1) (by rw [nx0]; simp) (.one (by rw [nx1]; simp)), fun m hm hw => by
      have := hw.pos
      obtain rfl : m = 1 := by omega
      rcases hw.inv with ⟨_, h⟩ | ⟨k, m', e, _, _⟩
      · rw [nx0] at h; simp at h
      · rename_i hw'; have := hw'.pos; omega⟩
    have := hd.uniq h2
    subst this
    obtain ⟨w1, l, w2⟩ := wayF_ok fine10.ok hF 2 0 (by omega) (Nat.le_refl _) h2
    rw [w2] at w1 ⊢
    have hl := w1.len
    match l, hl, w1 with
    | [k], _, w1 =>
      simp only [IsWay] at w1
      have := w1.2.1
      rw [nx0] at this
      simp at this
      subst this; rfl
end Go.Proofs.Ytpdajkbfemcdlaa
/- The law RingTells. -/
set_option linter.unusedSimpArgs false
set_option linter.unusedVariables false
set_option maxRecDepth 10000
namespace Go.Proofs.Ytpdajkbfemcdlaa
open Go.Ge
theorem rawRow_eq (L : List Nat) : ∃ q, rawRow L = .lst q (ints .i64 (ni L)) ∧ (q = .nil ∧ L = [] ∨ q = .app 1) := by cases L with
  | nil => exact ⟨.nil, rfl, .inl ⟨rfl, rfl⟩⟩
  | cons a l => exact ⟨.app 1, rfl, .inr rfl⟩
/-- The fault of the first rows. -/
def fE (G : List (List Int)) (i : Nat) : Int := if 64 < G.length then 2 else if ((G.take i).any fun r => r.any (badI G.length)) then 1 else 0
theorem fE_full (G : List (List Int)) : fE G G.length = graphE G := by unfold fE graphE; rw [List.take_length]
theorem fE_step {G : List (List Int)} {i : Nat} (h : i < G.length) : fE G (i + 1) = if fE G i = 0 then (if G[i].any (badI G.length) then 1 else 0) else fE G i := by
  unfold fE
  rw [List.take_add_one, List.getElem?_eq_getElem h, Option.toList_some, List.any_append, List.any_cons, List.any_nil, Bool.or_false]
  by_cases h64 : 64 < G.length
  · simp [h64]
  · simp only [h64, if_false]
    cases (G.take i).any fun r => r.any (badI G.length) <;> simp
theorem RingTells_law (o : Own) (G : List (List Int)) (xs : List AVal) (ho : Rdo o) (hx : Each2 RowOk G xs) (hl : ∀ r ∈ G, r.length ≤ 1048576) (hn : G.length ≤ 1048576) :
    ACalls Try.prog F.gantlaw5_RingTells [.lst o xs] [] (fun r _ => r = .bool true) := by
  have lx := hx.length
  have hrd : Ge.rdc (.lst o xs) = .lst o xs := by rcases ho with rfl | rfl <;> rfl
  have hrv : rdv (.lst o xs) = .lst o xs := by rcases ho with rfl | rfl <;> rfl
  have hl' : ∀ r ∈ G, r.length ≤ 1152921504606846976 := fun r hr => Nat.le_trans (hl r hr) (by omega)
  refine ACalls.of_aw Try.func23 K.gantlaw5_RingTells (by simp [Try.f23]) ?_
  generalize hQ : retQ R.gantlaw5_RingTells _ = Q
  simp (disch := first | assumption | omega) only [C.gantlaw5_RingTells, go_sem, ↓reduceIte, Nat.reduceEqDiff, reduceCtorEq, Nat.reduceAdd, Nat.reduceLeDiff, Nat.reduceLT, reduceIte, Int.reduceBEq, Int.reduceBNe, Int.reduceLT, Int.reduceLE, Int.reduceAdd, Int.reduceSub, Int.reduceMul, Int.reduceNeg, Int.reduceEq, Int.reduceNe, Nat.reduceMul, Nat.reduceSub]
  refine callG_ok (Find_ok .sh [[1], [0]] [.lst .sh (ints .i64 [1]), .lst .sh (ints .i64 [0])] (.inl rfl) fine10 ⟨_, _, rfl, ⟨.sh, ⟨.inl rfl, fun e => by cases e⟩, rfl⟩, ⟨_, _, rfl, ⟨.sh, ⟨.inl rfl, fun e => by cases e⟩, rfl⟩, rfl⟩⟩ _) (by simp (disch := first | assumption | omega) only [go_sem, ↓reduceIte, Nat.reduceEqDiff, reduceCtorEq, Nat.reduceAdd, Nat.reduceLeDiff, Nat.reduceLT, reduceIte, Int.reduceBEq, Int.reduceBNe, Int.reduceLT, Int.reduceLE, Int.reduceAdd, Int.reduceSub, Int.reduceMul, Int.reduceNeg, Int.reduceEq, Int.reduceNe, Nat.reduceMul, Nat.reduceSub]) ?_
  rintro _ _ ⟨hq, hhh⟩
  rw [hhh]
  clear hhh
  obtain rfl := find10 hq
  clear hq
  simp (disch := first | assumption | omega) only [go_sem, ↓reduceIte, Nat.reduceEqDiff, reduceCtorEq, Nat.reduceAdd, Nat.reduceLeDiff, Nat.reduceLT, reduceIte, Int.reduceBEq, Int.reduceBNe, Int.reduceLT, Int.reduceLE, Int.reduceAdd, Int.reduceSub, Int.reduceMul, Int.reduceNeg, Int.reduceEq, Int.reduceNe, Nat.reduceMul, Nat.reduceSub]
  refine callG_ok (EqualInt_ok .sh .sh [0, 1] [0, 1] (.inl rfl) (.inl rfl) (by simp) (by simp) _) (by simp (disch := first | assumption | omega) only [go_sem, ↓reduceIte, Nat.reduceEqDiff, reduceCtorEq, Nat.reduceAdd, Nat.reduceLeDiff, Nat.reduceLT, reduceIte, Int.reduceBEq, Int.reduceBNe, Int.reduceLT, Int.reduceLE, Int.reduceAdd, Int.reduceSub, Int.reduceMul, Int.reduceNeg, Int.reduceEq, Int.reduceNe, Nat.reduceMul, Nat.reduceSub]) ?_
  rintro _ _ ⟨rfl, hhh⟩
  rw [hhh, decide_eq_true rfl]
  clear hhh
  have hgd : [AVal.lst o xs].getD 0 .junk = .lst o xs := rfl
  have hl64 : (64 : Int) < xs.length ↔ 64 < G.length := by omega
  by_cases h64 : (64 : Int) < xs.length
  all_goals (
    simp (disch := first | assumption | omega) only [hrd, hrv, h64, go_sem, ↓reduceIte, Nat.reduceEqDiff, reduceCtorEq, Nat.reduceAdd, Nat.reduceLeDiff, Nat.reduceLT, reduceIte, Int.reduceBEq, Int.reduceBNe, Int.reduceLT, Int.reduceLE, Int.reduceAdd, Int.reduceSub, Int.reduceMul, Int.reduceNeg, Int.reduceEq, Int.reduceNe, Nat.reduceMul, Nat.reduceSub]
    refine aw_count (fun d S => ∃ (i : Nat), i + d = G.length ∧ S.env 36 = .int .i64 i ∧ S.env 35 = .int .i64 G.length ∧ S.env 34 = .lst o xs ∧ S.env 1 = .hp 0 0 ∧ S.env 5 = .int .i64 (fE G i) ∧ S.heap = [.cells [.lst o xs]]) (n := G.length)
      ⟨0, by omega, by simp (disch := first | assumption | omega) only [go_sem, ↓reduceIte, Nat.reduceEqDiff, reduceCtorEq, Nat.reduceAdd, Nat.reduceLeDiff, Nat.reduceLT, reduceIte, Int.reduceBEq, Int.reduceBNe, Int.reduceLT, Int.reduceLE, Int.reduceAdd, Int.reduceSub, Int.reduceMul, Int.reduceNeg, Int.reduceEq, Int.reduceNe, Nat.reduceMul, Nat.reduceSub], by simp (disch := first | assumption | omega) only [lx, go_sem, ↓reduceIte, Nat.reduceEqDiff, reduceCtorEq, Nat.reduceAdd, Nat.reduceLeDiff, Nat.reduceLT, reduceIte, Int.reduceBEq, Int.reduceBNe, Int.reduceLT, Int.reduceLE, Int.reduceAdd, Int.reduceSub, Int.reduceMul, Int.reduceNeg, Int.reduceEq, Int.reduceNe, Nat.reduceMul, Nat.reduceSub], by simp (disch := first | assumption | omega) only [go_sem, ↓reduceIte, Nat.reduceEqDiff, reduceCtorEq, Nat.reduceAdd, Nat.reduceLeDiff, Nat.reduceLT, reduceIte, Int.reduceBEq, Int.reduceBNe, Int.reduceLT, Int.reduceLE, Int.reduceAdd, Int.reduceSub, Int.reduceMul, Int.reduceNeg, Int.reduceEq, Int.reduceNe, Nat.reduceMul, Nat.reduceSub], by simp (disch := first | assumption | omega) only [go_sem, ↓reduceIte, Nat.reduceEqDiff, reduceCtorEq, Nat.reduceAdd, Nat.reduceLeDiff, Nat.reduceLT, reduceIte, Int.reduceBEq, Int.reduceBNe, Int.reduceLT, Int.reduceLE, Int.reduceAdd, Int.reduceSub, Int.reduceMul, Int.reduceNeg, Int.reduceEq, Int.reduceNe, Nat.reduceMul, Nat.reduceSub], by simp (disch := first | assumption | omega) only [go_sem, ↓reduceIte, Nat.reduceEqDiff, reduceCtorEq, Nat.reduceAdd, Nat.reduceLeDiff, Nat.reduceLT, reduceIte, Int.reduceBEq, Int.reduceBNe, Int.reduceLT, Int.reduceLE, Int.reduceAdd, Int.reduceSub, Int.reduceMul, Int.reduceNeg, Int.reduceEq, Int.reduceNe, Nat.reduceMul, Nat.reduceSub]; unfold fE; simp only [← hl64]; simp [h64], by simp (disch := first | assumption | omega) only [go_sem, ↓reduceIte, Nat.reduceEqDiff, reduceCtorEq, Nat.reduceAdd, Nat.reduceLeDiff, Nat.reduceLT, reduceIte, Int.reduceBEq, Int.reduceBNe, Int.reduceLT, Int.reduceLE, Int.reduceAdd, Int.reduceSub, Int.reduceMul, Int.reduceNeg, Int.reduceEq, Int.reduceNe, Nat.reduceMul, Nat.reduceSub]⟩ ?_
    rintro d S ⟨i, hid, e36, e35, e34, e1, e5, eh⟩
    have hge : S.heap[0]? = some (.cells [.lst o xs]) := by rw [eh]; rfl
    by_cases hlt : (i : Int) < G.length
    · have hi : i < G.length := by omega
      have hi2 : (i : Int) < xs.length := by omega
      have hi3 : i < xs.length := by omega
      obtain ⟨q, hq, hxi⟩ := hx.at i hi
      have hq1 := hq.1
      have hrl := hl _ (List.getElem_mem hi)
      have hst := fE_step hi
      generalize hfi : fE G i = fi at *
      by_cases hz : fi = 0
      · subst hz
        rw [if_pos rfl] at hst
        simp (disch := first | assumption | omega) only [e36, e35, e34, e1, e5, hlt, hi2, hi3, hxi, go_sem, ↓reduceIte, Nat.reduceEqDiff, reduceCtorEq, Nat.reduceAdd, Nat.reduceLeDiff, Nat.reduceLT, reduceIte, Int.reduceBEq, Int.reduceBNe, Int.reduceLT, Int.reduceLE, Int.reduceAdd, Int.reduceSub, Int.reduceMul, Int.reduceNeg, Int.reduceEq, Int.reduceNe, Nat.reduceMul, Nat.reduceSub]
        refine callG_ok (ContainsFuncInt_ok q G[i] F.gantlaw5_RingTells_1 [.hp 0 0] (badI xs.length) hq1 (by omega) (by simp [storC]) _ (fun x _ => RingTells1_ok x o xs 0 ho _ hge)) (by simp (disch := first | assumption | omega) only [go_sem, ↓reduceIte, Nat.reduceEqDiff, reduceCtorEq, Nat.reduceAdd, Nat.reduceLeDiff, Nat.reduceLT, reduceIte, Int.reduceBEq, Int.reduceBNe, Int.reduceLT, Int.reduceLE, Int.reduceAdd, Int.reduceSub, Int.reduceMul, Int.reduceNeg, Int.reduceEq, Int.reduceNe, Nat.reduceMul, Nat.reduceSub]) ?_
        rintro _ _ ⟨rfl, hhh⟩
        rw [hhh, lx]
        clear hhh
        cases hb : G[i].any (badI G.length)
        · simp (disch := first | assumption | omega) only [e36, e35, e34, e1, e5, go_sem, ↓reduceIte, Nat.reduceEqDiff, reduceCtorEq, Nat.reduceAdd, Nat.reduceLeDiff, Nat.reduceLT, reduceIte, Int.reduceBEq, Int.reduceBNe, Int.reduceLT, Int.reduceLE, Int.reduceAdd, Int.reduceSub, Int.reduceMul, Int.reduceNeg, Int.reduceEq, Int.reduceNe, Nat.reduceMul, Nat.reduceSub]
          exact ⟨d - 1, by omega, i + 1, by omega, by simp, by rw [hst, hb]; simp, eh⟩
        · simp (disch := first | assumption | omega) only [e36, e35, e34, e1, e5, go_sem, ↓reduceIte, Nat.reduceEqDiff, reduceCtorEq, Nat.reduceAdd, Nat.reduceLeDiff, Nat.reduceLT, reduceIte, Int.reduceBEq, Int.reduceBNe, Int.reduceLT, Int.reduceLE, Int.reduceAdd, Int.reduceSub, Int.reduceMul, Int.reduceNeg, Int.reduceEq, Int.reduceNe, Nat.reduceMul, Nat.reduceSub]
          exact ⟨d - 1, by omega, i + 1, by omega, by simp, by rw [hst, hb]; simp, eh⟩
      · rw [if_neg hz] at hst
        simp (disch := first | assumption | omega) only [e36, e35, e34, e1, e5, hlt, hi2, hi3, hxi, hz, go_sem, ↓reduceIte, Nat.reduceEqDiff, reduceCtorEq, Nat.reduceAdd, Nat.reduceLeDiff, Nat.reduceLT, reduceIte, Int.reduceBEq, Int.reduceBNe, Int.reduceLT, Int.reduceLE, Int.reduceAdd, Int.reduceSub, Int.reduceMul, Int.reduceNeg, Int.reduceEq, Int.reduceNe, Nat.reduceMul, Nat.reduceSub]
        exact ⟨d - 1, by omega, i + 1, by omega, by simp, by rw [hst], eh⟩
    · obtain rfl : i = G.length := by omega
      rw [fE_full] at e5
      by_cases hE : graphE G = 0
      · try (exact absurd hE (by unfold graphE; rw [if_pos (by omega)]; decide))
        all_goals (
        obtain ⟨g, rfl, hg⟩ := graphE_zero hE hl
        have tl := toI_length g
        have hsl0 := stuckN_length g g.length
        have n64 := hg.n64
        rw [hE] at e5
        simp (disch := first | assumption | omega) only [e36, e35, e34, e1, e5, hlt, hge, hgd, hrd, hrv, go_sem, ↓reduceIte, Nat.reduceEqDiff, reduceCtorEq, Nat.reduceAdd, Nat.reduceLeDiff, Nat.reduceLT, reduceIte, Int.reduceBEq, Int.reduceBNe, Int.reduceLT, Int.reduceLE, Int.reduceAdd, Int.reduceSub, Int.reduceMul, Int.reduceNeg, Int.reduceEq, Int.reduceNe, Nat.reduceMul, Nat.reduceSub]
        refine callG_ok (Stuck_ok o g xs ho hg hx _) (by simp (disch := first | assumption | omega) only [go_sem, ↓reduceIte, Nat.reduceEqDiff, reduceCtorEq, Nat.reduceAdd, Nat.reduceLeDiff, Nat.reduceLT, reduceIte, Int.reduceBEq, Int.reduceBNe, Int.reduceLT, Int.reduceLE, Int.reduceAdd, Int.reduceSub, Int.reduceMul, Int.reduceNeg, Int.reduceEq, Int.reduceNe, Nat.reduceMul, Nat.reduceSub]) ?_
        rintro _ _ ⟨⟨q, rfl, hq⟩, hhh⟩
        rw [hhh]
        clear hhh
        obtain ⟨q8, hq8, hqr⟩ : ∃ q', Rdo q' ∧ Ge.rdc (.lst q (ints .i64 (ni (stuckL g)))) = .lst q' (ints .i64 (ni (stuckL g))) := by
          rcases hq with ⟨rfl, _⟩ | rfl
          · exact ⟨.nil, .inr rfl, rfl⟩
          · exact ⟨.sh, .inl rfl, rfl⟩
        have hq1 : rd1 (.lst q (ints .i64 (ni (stuckL g)))) = .lst q8 (ints .i64 (ni (stuckL g))) := by
          rw [← hqr]; rcases hq with ⟨rfl, _⟩ | rfl <;> rfl
        have hq2 : rd1 (.lst q8 (ints .i64 (ni (stuckL g)))) = .lst q8 (ints .i64 (ni (stuckL g))) := by rcases hq8 with rfl | rfl <;> rfl
        have hq3 : rdv (.lst q8 (ints .i64 (ni (stuckL g)))) = .lst q8 (ints .i64 (ni (stuckL g))) := by rcases hq8 with rfl | rfl <;> rfl
        simp (disch := first | assumption | omega) only [e36, e35, e34, e1, e5, hlt, hge, hgd, hrd, hrv, hq1, hq2, hq3, go_sem, ↓reduceIte, Nat.reduceEqDiff, reduceCtorEq, Nat.reduceAdd, Nat.reduceLeDiff, Nat.reduceLT, reduceIte, Int.reduceBEq, Int.reduceBNe, Int.reduceLT, Int.reduceLE, Int.reduceAdd, Int.reduceSub, Int.reduceMul, Int.reduceNeg, Int.reduceEq, Int.reduceNe, Nat.reduceMul, Nat.reduceSub]
        refine callG_ok (Find_ok o g xs ho hg hx _) (by simp (disch := first | assumption | omega) only [go_sem, ↓reduceIte, Nat.reduceEqDiff, reduceCtorEq, Nat.reduceAdd, Nat.reduceLeDiff, Nat.reduceLT, reduceIte, Int.reduceBEq, Int.reduceBNe, Int.reduceLT, Int.reduceLE, Int.reduceAdd, Int.reduceSub, Int.reduceMul, Int.reduceNeg, Int.reduceEq, Int.reduceNe, Nat.reduceMul, Nat.reduceSub]) ?_
        rintro _ _ ⟨hF, hhh⟩
        rw [hhh]
        clear hhh
        rcases hF with ⟨hS, rfl⟩ | ⟨i0, sl, D, FF, hS, hD, hFF, rfl⟩
        · simp (disch := first | assumption | omega) only [e36, e35, e34, e1, e5, hlt, hge, hgd, hrd, hrv, go_sem, ↓reduceIte, Nat.reduceEqDiff, reduceCtorEq, Nat.reduceAdd, Nat.reduceLeDiff, Nat.reduceLT, reduceIte, Int.reduceBEq, Int.reduceBNe, Int.reduceLT, Int.reduceLE, Int.reduceAdd, Int.reduceSub, Int.reduceMul, Int.reduceNeg, Int.reduceEq, Int.reduceNe, Nat.reduceMul, Nat.reduceSub]
          refine callG_ok (Order_ok o g xs ho hg hx _ hS) (by simp (disch := first | assumption | omega) only [go_sem, ↓reduceIte, Nat.reduceEqDiff, reduceCtorEq, Nat.reduceAdd, Nat.reduceLeDiff, Nat.reduceLT, reduceIte, Int.reduceBEq, Int.reduceBNe, Int.reduceLT, Int.reduceLE, Int.reduceAdd, Int.reduceSub, Int.reduceMul, Int.reduceNeg, Int.reduceEq, Int.reduceNe, Nat.reduceMul, Nat.reduceSub]) ?_
          rintro _ _ ⟨rfl, hhh⟩
          rw [hhh]
          clear hhh
          have hro := rdO_rdo (orderL g g.length)
          have ho1 : rd1 (rawRow (orderL g g.length)) = .lst (rdO (orderL g g.length)) (ints .i64 (ni (orderL g g.length))) := by
            rw [← rdc_raw']; cases orderL g g.length <;> rfl
          generalize hqo : rdO (orderL g g.length) = qo at *
          have ho2 : rd1 (.lst qo (ints .i64 (ni (orderL g g.length)))) = .lst qo (ints .i64 (ni (orderL g g.length))) := by rcases hro with rfl | rfl <;> rfl
          have ho3 : rdv (.lst qo (ints .i64 (ni (orderL g g.length)))) = .lst qo (ints .i64 (ni (orderL g g.length))) := by rcases hro with rfl | rfl <;> rfl
          simp (disch := first | assumption | omega) only [e36, e35, e34, e1, e5, hlt, hge, hgd, hrd, hrv, tl, ho1, ho2, ho3, go_sem, ↓reduceIte, Nat.reduceEqDiff, reduceCtorEq, Nat.reduceAdd, Nat.reduceLeDiff, Nat.reduceLT, reduceIte, Int.reduceBEq, Int.reduceBNe, Int.reduceLT, Int.reduceLE, Int.reduceAdd, Int.reduceSub, Int.reduceMul, Int.reduceNeg, Int.reduceEq, Int.reduceNe, Nat.reduceMul, Nat.reduceSub]
          refine callG_ok (Check_ring_ok o (toI g) xs ho hx hl' (by omega) _) (by simp (disch := first | assumption | omega) only [go_sem, ↓reduceIte, Nat.reduceEqDiff, reduceCtorEq, Nat.reduceAdd, Nat.reduceLeDiff, Nat.reduceLT, reduceIte, Int.reduceBEq, Int.reduceBNe, Int.reduceLT, Int.reduceLE, Int.reduceAdd, Int.reduceSub, Int.reduceMul, Int.reduceNeg, Int.reduceEq, Int.reduceNe, Nat.reduceMul, Nat.reduceSub]) ?_
          rintro _ _ ⟨rfl, hhh⟩
          rw [hhh, hE]
          clear hhh
          simp (disch := first | assumption | omega) only [e36, e35, e34, e1, e5, hge, hgd, hrd, hrv, go_sem, ↓reduceIte, Nat.reduceEqDiff, reduceCtorEq, Nat.reduceAdd, Nat.reduceLeDiff, Nat.reduceLT, reduceIte, Int.reduceBEq, Int.reduceBNe, Int.reduceLT, Int.reduceLE, Int.reduceAdd, Int.reduceSub, Int.reduceMul, Int.reduceNeg, Int.reduceEq, Int.reduceNe, Nat.reduceMul, Nat.reduceSub]
          refine aw_count (fun d S => ∃ (i : Nat), i + d = g.length ∧ S.env 95 = .int .i64 i ∧ S.env 94 = .int .i64 g.length ∧ S.env 14 = rawRow (stuckN g i) ∧ S.env 1 = .hp 0 0 ∧ S.env 8 = .lst q8 (ints .i64 (ni (stuckL g))) ∧ S.env 9 = .int .i64 0 ∧ S.env 10 = .lst .nil [] ∧ S.env 11 = .int .i64 4 ∧ S.env 12 = .lst qo (ints .i64 (ni (orderL g g.length))) ∧ S.env 13 = .int .i64 0 ∧ S.heap = [.cells [.lst o xs]]) (n := g.length)
            ⟨0, by omega, by simp (disch := first | assumption | omega) only [go_sem, ↓reduceIte, Nat.reduceEqDiff, reduceCtorEq, Nat.reduceAdd, Nat.reduceLeDiff, Nat.reduceLT, reduceIte, Int.reduceBEq, Int.reduceBNe, Int.reduceLT, Int.reduceLE, Int.reduceAdd, Int.reduceSub, Int.reduceMul, Int.reduceNeg, Int.reduceEq, Int.reduceNe, Nat.reduceMul, Nat.reduceSub], by simp (disch := first | assumption | omega) only [lx, tl, go_sem, ↓reduceIte, Nat.reduceEqDiff, reduceCtorEq, Nat.reduceAdd, Nat.reduceLeDiff, Nat.reduceLT, reduceIte, Int.reduceBEq, Int.reduceBNe, Int.reduceLT, Int.reduceLE, Int.reduceAdd, Int.reduceSub, Int.reduceMul, Int.reduceNeg, Int.reduceEq, Int.reduceNe, Nat.reduceMul, Nat.reduceSub], by simp (disch := first | assumption | omega) only [go_sem, ↓reduceIte, Nat.reduceEqDiff, reduceCtorEq, Nat.reduceAdd, Nat.reduceLeDiff, Nat.reduceLT, reduceIte, Int.reduceBEq, Int.reduceBNe, Int.reduceLT, Int.reduceLE, Int.reduceAdd, Int.reduceSub, Int.reduceMul, Int.reduceNeg, Int.reduceEq, Int.reduceNe, Nat.reduceMul, Nat.reduceSub]; rfl, by simp (disch := first | assumption | omega) only [e1, go_sem, ↓reduceIte, Nat.reduceEqDiff, reduceCtorEq, Nat.reduceAdd, Nat.reduceLeDiff, Nat.reduceLT, reduceIte, Int.reduceBEq, Int.reduceBNe, Int.reduceLT, Int.reduceLE, Int.reduceAdd, Int.reduceSub, Int.reduceMul, Int.reduceNeg, Int.reduceEq, Int.reduceNe, Nat.reduceMul, Nat.reduceSub], by simp (disch := first | assumption | omega) only [go_sem, ↓reduceIte, Nat.reduceEqDiff, reduceCtorEq, Nat.reduceAdd, Nat.reduceLeDiff, Nat.reduceLT, reduceIte, Int.reduceBEq, Int.reduceBNe, Int.reduceLT, Int.reduceLE, Int.reduceAdd, Int.reduceSub, Int.reduceMul, Int.reduceNeg, Int.reduceEq, Int.reduceNe, Nat.reduceMul, Nat.reduceSub], by simp (disch := first | assumption | omega) only [go_sem, ↓reduceIte, Nat.reduceEqDiff, reduceCtorEq, Nat.reduceAdd, Nat.reduceLeDiff, Nat.reduceLT, reduceIte, Int.reduceBEq, Int.reduceBNe, Int.reduceLT, Int.reduceLE, Int.reduceAdd, Int.reduceSub, Int.reduceMul, Int.reduceNeg, Int.reduceEq, Int.reduceNe, Nat.reduceMul, Nat.reduceSub], by simp (disch := first | assumption | omega) only [go_sem, ↓reduceIte, Nat.reduceEqDiff, reduceCtorEq, Nat.reduceAdd, Nat.reduceLeDiff, Nat.reduceLT, reduceIte, Int.reduceBEq, Int.reduceBNe, Int.reduceLT, Int.reduceLE, Int.reduceAdd, Int.reduceSub, Int.reduceMul, Int.reduceNeg, Int.reduceEq, Int.reduceNe, Nat.reduceMul, Nat.reduceSub], by simp (disch := first | assumption | omega) only [go_sem, ↓reduceIte, Nat.reduceEqDiff, reduceCtorEq, Nat.reduceAdd, Nat.reduceLeDiff, Nat.reduceLT, reduceIte, Int.reduceBEq, Int.reduceBNe, Int.reduceLT, Int.reduceLE, Int.reduceAdd, Int.reduceSub, Int.reduceMul, Int.reduceNeg, Int.reduceEq, Int.reduceNe, Nat.reduceMul, Nat.reduceSub], by simp (disch := first | assumption | omega) only [go_sem, ↓reduceIte, Nat.reduceEqDiff, reduceCtorEq, Nat.reduceAdd, Nat.reduceLeDiff, Nat.reduceLT, reduceIte, Int.reduceBEq, Int.reduceBNe, Int.reduceLT, Int.reduceLE, Int.reduceAdd, Int.reduceSub, Int.reduceMul, Int.reduceNeg, Int.reduceEq, Int.reduceNe, Nat.reduceMul, Nat.reduceSub], by simp (disch := first | assumption | omega) only [go_sem, ↓reduceIte, Nat.reduceEqDiff, reduceCtorEq, Nat.reduceAdd, Nat.reduceLeDiff, Nat.reduceLT, reduceIte, Int.reduceBEq, Int.reduceBNe, Int.reduceLT, Int.reduceLE, Int.reduceAdd, Int.reduceSub, Int.reduceMul, Int.reduceNeg, Int.reduceEq, Int.reduceNe, Nat.reduceMul, Nat.reduceSub], by simp (disch := first | assumption | omega) only [eh, go_sem, ↓reduceIte, Nat.reduceEqDiff, reduceCtorEq, Nat.reduceAdd, Nat.reduceLeDiff, Nat.reduceLT, reduceIte, Int.reduceBEq, Int.reduceBNe, Int.reduceLT, Int.reduceLE, Int.reduceAdd, Int.reduceSub, Int.reduceMul, Int.reduceNeg, Int.reduceEq, Int.reduceNe, Nat.reduceMul, Nat.reduceSub]⟩ ?_
          clear e36 e35 e34 e1 e5 eh hge hlt hid
          rintro d S ⟨i, hid, e95, e94, e14, e1, e8, e9, e10, e11, e12, e13, eh⟩
          have hge : S.heap[0]? = some (.cells [.lst o xs]) := by rw [eh]; rfl
          by_cases hlt : (i : Int) < g.length
          · have hi : i < g.length := by omega
            have hi2 : (i : Int) < xs.length := by omega
            have hss := stuckN_succ g i
            simp (disch := first | assumption | omega) only [e95, e94, e14, e1, e8, e9, e10, e11, e12, e13, hlt, hge, hgd, hrd, hrv, go_sem, ↓reduceIte, Nat.reduceEqDiff, reduceCtorEq, Nat.reduceAdd, Nat.reduceLeDiff, Nat.reduceLT, reduceIte, Int.reduceBEq, Int.reduceBNe, Int.reduceLT, Int.reduceLE, Int.reduceAdd, Int.reduceSub, Int.reduceMul, Int.reduceNeg, Int.reduceEq, Int.reduceNe, Nat.reduceMul, Nat.reduceSub]
            refine callG_ok (Reached_ok o g xs ho hg hx i hi _) (by simp (disch := first | assumption | omega) only [go_sem, ↓reduceIte, Nat.reduceEqDiff, reduceCtorEq, Nat.reduceAdd, Nat.reduceLeDiff, Nat.reduceLT, reduceIte, Int.reduceBEq, Int.reduceBNe, Int.reduceLT, Int.reduceLE, Int.reduceAdd, Int.reduceSub, Int.reduceMul, Int.reduceNeg, Int.reduceEq, Int.reduceNe, Nat.reduceMul, Nat.reduceSub]) ?_
            rintro _ _ ⟨⟨s, rfl, hsl, hs'⟩, hhh⟩
            rw [hhh]
            clear hhh
            have hbl := bls_length s
            have hgs := at_bls (s := s) (k := i) (by omega)
            have hsi := hs' i
            have hsn := stuckN_length g i
            cases hsv : s.getD i false
            · rw [hsv] at hgs hsi
              have hnr : ¬Rch g i i := fun h => by have := hsi.2 h; cases this
              simp (disch := first | assumption | omega) only [e95, e94, e14, e1, e8, e9, e10, e11, e12, e13, hbl, hgs, hsl, hlt, go_sem, ↓reduceIte, Nat.reduceEqDiff, reduceCtorEq, Nat.reduceAdd, Nat.reduceLeDiff, Nat.reduceLT, reduceIte, Int.reduceBEq, Int.reduceBNe, Int.reduceLT, Int.reduceLE, Int.reduceAdd, Int.reduceSub, Int.reduceMul, Int.reduceNeg, Int.reduceEq, Int.reduceNe, Nat.reduceMul, Nat.reduceSub]
              exact ⟨d - 1, by omega, i + 1, by omega, by simp, by rw [hss.2 hnr], eh⟩
            · rw [hsv] at hgs hsi
              have hyr := hss.1 (hsi.1 rfl)
              cases hL : stuckN g i with
              | nil =>
                rw [hL] at e14 hyr
                simp only [rawRow] at e14
                simp (disch := first | assumption | omega) only [e95, e94, e14, e1, e8, e9, e10, e11, e12, e13, hbl, hgs, hsl, hlt, go_sem, ↓reduceIte, Nat.reduceEqDiff, reduceCtorEq, Nat.reduceAdd, Nat.reduceLeDiff, Nat.reduceLT, reduceIte, Int.reduceBEq, Int.reduceBNe, Int.reduceLT, Int.reduceLE, Int.reduceAdd, Int.reduceSub, Int.reduceMul, Int.reduceNeg, Int.reduceEq, Int.reduceNe, Nat.reduceMul, Nat.reduceSub]
                exact ⟨d - 1, by omega, i + 1, by omega, by simp, by rw [hyr]; rfl, eh⟩
              | cons b r =>
                rw [hL] at e14 hyr hsn
                simp only [rawRow] at e14
                simp only [List.length_cons] at hsn
                simp (disch := first | assumption | omega) only [e95, e94, e14, e1, e8, e9, e10, e11, e12, e13, hbl, hgs, hsl, hlt, ni_length, go_sem, ↓reduceIte, Nat.reduceEqDiff, reduceCtorEq, Nat.reduceAdd, Nat.reduceLeDiff, Nat.reduceLT, reduceIte, Int.reduceBEq, Int.reduceBNe, Int.reduceLT, Int.reduceLE, Int.reduceAdd, Int.reduceSub, Int.reduceMul, Int.reduceNeg, Int.reduceEq, Int.reduceNe, Nat.reduceMul, Nat.reduceSub]
                exact ⟨by omega, by omega, d - 1, by omega, i + 1, by omega, by simp, by rw [hyr, rawRow_snoc], eh⟩
          · obtain rfl : i = g.length := by omega
            change S.env 14 = rawRow (stuckL g) at e14
            rw [hS] at e14
            simp only [rawRow] at e14
            have hno : ni (stuckL g) = [] := by rw [hS]; rfl
            simp (disch := first | assumption | omega) only [e95, e94, e14, e1, e8, e9, e10, e11, e12, e13, hlt, hgd, hrd, hrv, hq3, go_sem, ↓reduceIte, Nat.reduceEqDiff, reduceCtorEq, Nat.reduceAdd, Nat.reduceLeDiff, Nat.reduceLT, reduceIte, Int.reduceBEq, Int.reduceBNe, Int.reduceLT, Int.reduceLE, Int.reduceAdd, Int.reduceSub, Int.reduceMul, Int.reduceNeg, Int.reduceEq, Int.reduceNe, Nat.reduceMul, Nat.reduceSub]
            refine callG_ok (EqualInt_ok q8 .nil (ni (stuckL g)) [] hq8 (.inr rfl) (by rw [hno]; simp) (by simp) _) (by simp (disch := first | assumption | omega) only [hq3, go_sem, ↓reduceIte, Nat.reduceEqDiff, reduceCtorEq, Nat.reduceAdd, Nat.reduceLeDiff, Nat.reduceLT, reduceIte, Int.reduceBEq, Int.reduceBNe, Int.reduceLT, Int.reduceLE, Int.reduceAdd, Int.reduceSub, Int.reduceMul, Int.reduceNeg, Int.reduceEq, Int.reduceNe, Nat.reduceMul, Nat.reduceSub]) ?_
            rintro _ _ ⟨rfl, hhh⟩
            rw [hhh, decide_eq_true hno]
            clear hhh
            simp (disch := first | assumption | omega) only [e95, e94, e14, e1, e8, e9, e10, e11, e12, e13, hge, hgd, hrd, hrv, ho3, go_sem, ↓reduceIte, Nat.reduceEqDiff, reduceCtorEq, Nat.reduceAdd, Nat.reduceLeDiff, Nat.reduceLT, reduceIte, Int.reduceBEq, Int.reduceBNe, Int.reduceLT, Int.reduceLE, Int.reduceAdd, Int.reduceSub, Int.reduceMul, Int.reduceNeg, Int.reduceEq, Int.reduceNe, Nat.reduceMul, Nat.reduceSub]
            refine callG_ok (orderOf_ok o g xs ho hg hx (acyc_of hS) _) (by simp (disch := first | assumption | omega) only [go_sem, ↓reduceIte, Nat.reduceEqDiff, reduceCtorEq, Nat.reduceAdd, Nat.reduceLeDiff, Nat.reduceLT, reduceIte, Int.reduceBEq, Int.reduceBNe, Int.reduceLT, Int.reduceLE, Int.reduceAdd, Int.reduceSub, Int.reduceMul, Int.reduceNeg, Int.reduceEq, Int.reduceNe, Nat.reduceMul, Nat.reduceSub]) ?_
            rintro _ _ ⟨rfl, hhh⟩
            rw [hhh]
            clear hhh
            obtain ⟨qz, hrz, hqz⟩ := rawRow_eq (orderL g g.length)
            rw [hrz]
            have hol := (orderL_ok hg.ok (acyc_of hS) g.length (Nat.le_refl _)).1
            rcases hqz with ⟨rfl, hz⟩ | rfl
            all_goals (
              simp (disch := first | assumption | omega) only [e95, e94, e14, e1, e8, e9, e10, e11, e12, e13, ho1, ho2, ho3, go_sem, ↓reduceIte, Nat.reduceEqDiff, reduceCtorEq, Nat.reduceAdd, Nat.reduceLeDiff, Nat.reduceLT, reduceIte, Int.reduceBEq, Int.reduceBNe, Int.reduceLT, Int.reduceLE, Int.reduceAdd, Int.reduceSub, Int.reduceMul, Int.reduceNeg, Int.reduceEq, Int.reduceNe, Nat.reduceMul, Nat.reduceSub]
              refine callG_ok (EqualInt_ok qo _ (ni (orderL g g.length)) (ni (orderL g g.length)) hro (by first | exact .inl rfl | exact .inr rfl) (by rw [ni_length]; omega) (by rw [ni_length]; omega) _) (by simp (disch := first | assumption | omega) only [go_sem, ↓reduceIte, Nat.reduceEqDiff, reduceCtorEq, Nat.reduceAdd, Nat.reduceLeDiff, Nat.reduceLT, reduceIte, Int.reduceBEq, Int.reduceBNe, Int.reduceLT, Int.reduceLE, Int.reduceAdd, Int.reduceSub, Int.reduceMul, Int.reduceNeg, Int.reduceEq, Int.reduceNe, Nat.reduceMul, Nat.reduceSub]) ?_
              rintro _ _ ⟨rfl, hhh⟩
              rw [hhh, decide_eq_true rfl]
              clear hhh
              simp (disch := first | assumption | omega) only [e95, e94, e14, e1, e8, e9, e10, e11, e12, e13, go_sem, ↓reduceIte, Nat.reduceEqDiff, reduceCtorEq, Nat.reduceAdd, Nat.reduceLeDiff, Nat.reduceLT, reduceIte, Int.reduceBEq, Int.reduceBNe, Int.reduceLT, Int.reduceLE, Int.reduceAdd, Int.reduceSub, Int.reduceMul, Int.reduceNeg, Int.reduceEq, Int.reduceNe, Nat.reduceMul, Nat.reduceSub]
              subst hQ
              simp (disch := first | assumption | omega) only [R.gantlaw5_RingTells, go_sem, ↓reduceIte, Nat.reduceEqDiff, reduceCtorEq, Nat.reduceAdd, Nat.reduceLeDiff, Nat.reduceLT, reduceIte, Int.reduceBEq, Int.reduceBNe, Int.reduceLT, Int.reduceLE, Int.reduceAdd, Int.reduceSub, Int.reduceMul, Int.reduceNeg, Int.reduceEq, Int.reduceNe, Nat.reduceMul, Nat.reduceSub]
            )
        · simp (disch := first | assumption | omega) only [e36, e35, e34, e1, e5, hlt, hge, hgd, hrd, hrv, go_sem, ↓reduceIte, Nat.reduceEqDiff, reduceCtorEq, Nat.reduceAdd, Nat.reduceLeDiff, Nat.reduceLT, reduceIte, Int.reduceBEq, Int.reduceBNe, Int.reduceLT, Int.reduceLE, Int.reduceAdd, Int.reduceSub, Int.reduceMul, Int.reduceNeg, Int.reduceEq, Int.reduceNe, Nat.reduceMul, Nat.reduceSub]
          refine callG_ok (Order_loop o g xs ho hg hx _ (by rw [hS]; simp)) (by simp (disch := first | assumption | omega) only [go_sem, ↓reduceIte, Nat.reduceEqDiff, reduceCtorEq, Nat.reduceAdd, Nat.reduceLeDiff, Nat.reduceLT, reduceIte, Int.reduceBEq, Int.reduceBNe, Int.reduceLT, Int.reduceLE, Int.reduceAdd, Int.reduceSub, Int.reduceMul, Int.reduceNeg, Int.reduceEq, Int.reduceNe, Nat.reduceMul, Nat.reduceSub]) ?_
          rintro _ _ ⟨rfl, hhh⟩
          rw [hhh]
          clear hhh
          simp (disch := first | assumption | omega) only [e36, e35, e34, e1, e5, hlt, hge, hgd, hrd, hrv, tl, go_sem, ↓reduceIte, Nat.reduceEqDiff, reduceCtorEq, Nat.reduceAdd, Nat.reduceLeDiff, Nat.reduceLT, reduceIte, Int.reduceBEq, Int.reduceBNe, Int.reduceLT, Int.reduceLE, Int.reduceAdd, Int.reduceSub, Int.reduceMul, Int.reduceNeg, Int.reduceEq, Int.reduceNe, Nat.reduceMul, Nat.reduceSub]
          refine callG_ok (Check_ring_ok o (toI g) xs ho hx hl' (by omega) _) (by simp (disch := first | assumption | omega) only [go_sem, ↓reduceIte, Nat.reduceEqDiff, reduceCtorEq, Nat.reduceAdd, Nat.reduceLeDiff, Nat.reduceLT, reduceIte, Int.reduceBEq, Int.reduceBNe, Int.reduceLT, Int.reduceLE, Int.reduceAdd, Int.reduceSub, Int.reduceMul, Int.reduceNeg, Int.reduceEq, Int.reduceNe, Nat.reduceMul, Nat.reduceSub]) ?_
          rintro _ _ ⟨rfl, hhh⟩
          rw [hhh, hE]
          clear hhh
          simp (disch := first | assumption | omega) only [e36, e35, e34, e1, e5, hge, hgd, hrd, hrv, go_sem, ↓reduceIte, Nat.reduceEqDiff, reduceCtorEq, Nat.reduceAdd, Nat.reduceLeDiff, Nat.reduceLT, reduceIte, Int.reduceBEq, Int.reduceBNe, Int.reduceLT, Int.reduceLE, Int.reduceAdd, Int.reduceSub, Int.reduceMul, Int.reduceNeg, Int.reduceEq, Int.reduceNe, Nat.reduceMul, Nat.reduceSub]
          refine aw_count (fun d S => ∃ (i : Nat), i + d = g.length ∧ S.env 95 = .int .i64 i ∧ S.env 94 = .int .i64 g.length ∧ S.env 14 = rawRow (stuckN g i) ∧ S.env 1 = .hp 0 0 ∧ S.env 8 = .lst q8 (ints .i64 (ni (stuckL g))) ∧ S.env 9 = .int .i64 0 ∧ S.env 10 = .lst .sh (ints .i64 (ni (wayF g FF D i0))) ∧ S.env 11 = .int .i64 0 ∧ S.env 12 = .lst .nil [] ∧ S.env 13 = .int .i64 11 ∧ S.heap = [.cells [.lst o xs]]) (n := g.length)
            ⟨0, by omega, by simp (disch := first | assumption | omega) only [go_sem, ↓reduceIte, Nat.reduceEqDiff, reduceCtorEq, Nat.reduceAdd, Nat.reduceLeDiff, Nat.reduceLT, reduceIte, Int.reduceBEq, Int.reduceBNe, Int.reduceLT, Int.reduceLE, Int.reduceAdd, Int.reduceSub, Int.reduceMul, Int.reduceNeg, Int.reduceEq, Int.reduceNe, Nat.reduceMul, Nat.reduceSub], by simp (disch := first | assumption | omega) only [lx, tl, go_sem, ↓reduceIte, Nat.reduceEqDiff, reduceCtorEq, Nat.reduceAdd, Nat.reduceLeDiff, Nat.reduceLT, reduceIte, Int.reduceBEq, Int.reduceBNe, Int.reduceLT, Int.reduceLE, Int.reduceAdd, Int.reduceSub, Int.reduceMul, Int.reduceNeg, Int.reduceEq, Int.reduceNe, Nat.reduceMul, Nat.reduceSub], by simp (disch := first | assumption | omega) only [go_sem, ↓reduceIte, Nat.reduceEqDiff, reduceCtorEq, Nat.reduceAdd, Nat.reduceLeDiff, Nat.reduceLT, reduceIte, Int.reduceBEq, Int.reduceBNe, Int.reduceLT, Int.reduceLE, Int.reduceAdd, Int.reduceSub, Int.reduceMul, Int.reduceNeg, Int.reduceEq, Int.reduceNe, Nat.reduceMul, Nat.reduceSub]; rfl, by simp (disch := first | assumption | omega) only [e1, go_sem, ↓reduceIte, Nat.reduceEqDiff, reduceCtorEq, Nat.reduceAdd, Nat.reduceLeDiff, Nat.reduceLT, reduceIte, Int.reduceBEq, Int.reduceBNe, Int.reduceLT, Int.reduceLE, Int.reduceAdd, Int.reduceSub, Int.reduceMul, Int.reduceNeg, Int.reduceEq, Int.reduceNe, Nat.reduceMul, Nat.reduceSub], by simp (disch := first | assumption | omega) only [go_sem, ↓reduceIte, Nat.reduceEqDiff, reduceCtorEq, Nat.reduceAdd, Nat.reduceLeDiff, Nat.reduceLT, reduceIte, Int.reduceBEq, Int.reduceBNe, Int.reduceLT, Int.reduceLE, Int.reduceAdd, Int.reduceSub, Int.reduceMul, Int.reduceNeg, Int.reduceEq, Int.reduceNe, Nat.reduceMul, Nat.reduceSub], by simp (disch := first | assumption | omega) only [go_sem, ↓reduceIte, Nat.reduceEqDiff, reduceCtorEq, Nat.reduceAdd, Nat.reduceLeDiff, Nat.reduceLT, reduceIte, Int.reduceBEq, Int.reduceBNe, Int.reduceLT, Int.reduceLE, Int.reduceAdd, Int.reduceSub, Int.reduceMul, Int.reduceNeg, Int.reduceEq, Int.reduceNe, Nat.reduceMul, Nat.reduceSub], by simp (disch := first | assumption | omega) only [go_sem, ↓reduceIte, Nat.reduceEqDiff, reduceCtorEq, Nat.reduceAdd, Nat.reduceLeDiff, Nat.reduceLT, reduceIte, Int.reduceBEq, Int.reduceBNe, Int.reduceLT, Int.reduceLE, Int.reduceAdd, Int.reduceSub, Int.reduceMul, Int.reduceNeg, Int.reduceEq, Int.reduceNe, Nat.reduceMul, Nat.reduceSub], by simp (disch := first | assumption | omega) only [go_sem, ↓reduceIte, Nat.reduceEqDiff, reduceCtorEq, Nat.reduceAdd, Nat.reduceLeDiff, Nat.reduceLT, reduceIte, Int.reduceBEq, Int.reduceBNe, Int.reduceLT, Int.reduceLE, Int.reduceAdd, Int.reduceSub, Int.reduceMul, Int.reduceNeg, Int.reduceEq, Int.reduceNe, Nat.reduceMul, Nat.reduceSub], by simp (disch := first | assumption | omega) only [go_sem, ↓reduceIte, Nat.reduceEqDiff, reduceCtorEq, Nat.reduceAdd, Nat.reduceLeDiff, Nat.reduceLT, reduceIte, Int.reduceBEq, Int.reduceBNe, Int.reduceLT, Int.reduceLE, Int.reduceAdd, Int.reduceSub, Int.reduceMul, Int.reduceNeg, Int.reduceEq, Int.reduceNe, Nat.reduceMul, Nat.reduceSub], by simp (disch := first | assumption | omega) only [go_sem, ↓reduceIte, Nat.reduceEqDiff, reduceCtorEq, Nat.reduceAdd, Nat.reduceLeDiff, Nat.reduceLT, reduceIte, Int.reduceBEq, Int.reduceBNe, Int.reduceLT, Int.reduceLE, Int.reduceAdd, Int.reduceSub, Int.reduceMul, Int.reduceNeg, Int.reduceEq, Int.reduceNe, Nat.reduceMul, Nat.reduceSub], by simp (disch := first | assumption | omega) only [eh, go_sem, ↓reduceIte, Nat.reduceEqDiff, reduceCtorEq, Nat.reduceAdd, Nat.reduceLeDiff, Nat.reduceLT, reduceIte, Int.reduceBEq, Int.reduceBNe, Int.reduceLT, Int.reduceLE, Int.reduceAdd, Int.reduceSub, Int.reduceMul, Int.reduceNeg, Int.reduceEq, Int.reduceNe, Nat.reduceMul, Nat.reduceSub]⟩ ?_
          clear e36 e35 e34 e1 e5 eh hge hlt hid
          rintro d S ⟨i, hid, e95, e94, e14, e1, e8, e9, e10, e11, e12, e13, eh⟩
          have hge : S.heap[0]? = some (.cells [.lst o xs]) := by rw [eh]; rfl
          by_cases hlt : (i : Int) < g.length
          · have hi : i < g.length := by omega
            have hi2 : (i : Int) < xs.length := by omega
            have hss := stuckN_succ g i
            simp (disch := first | assumption | omega) only [e95, e94, e14, e1, e8, e9, e10, e11, e12, e13, hlt, hge, hgd, hrd, hrv, go_sem, ↓reduceIte, Nat.reduceEqDiff, reduceCtorEq, Nat.reduceAdd, Nat.reduceLeDiff, Nat.reduceLT, reduceIte, Int.reduceBEq, Int.reduceBNe, Int.reduceLT, Int.reduceLE, Int.reduceAdd, Int.reduceSub, Int.reduceMul, Int.reduceNeg, Int.reduceEq, Int.reduceNe, Nat.reduceMul, Nat.reduceSub]
            refine callG_ok (Reached_ok o g xs ho hg hx i hi _) (by simp (disch := first | assumption | omega) only [go_sem, ↓reduceIte, Nat.reduceEqDiff, reduceCtorEq, Nat.reduceAdd, Nat.reduceLeDiff, Nat.reduceLT, reduceIte, Int.reduceBEq, Int.reduceBNe, Int.reduceLT, Int.reduceLE, Int.reduceAdd, Int.reduceSub, Int.reduceMul, Int.reduceNeg, Int.reduceEq, Int.reduceNe, Nat.reduceMul, Nat.reduceSub]) ?_
            rintro _ _ ⟨⟨s, rfl, hsl, hs'⟩, hhh⟩
            rw [hhh]
            clear hhh
            have hbl := bls_length s
            have hgs := at_bls (s := s) (k := i) (by omega)
            have hsi := hs' i
            have hsn := stuckN_length g i
            cases hsv : s.getD i false
            · rw [hsv] at hgs hsi
              have hnr : ¬Rch g i i := fun h => by have := hsi.2 h; cases this
              simp (disch := first | assumption | omega) only [e95, e94, e14, e1, e8, e9, e10, e11, e12, e13, hbl, hgs, hsl, hlt, go_sem, ↓reduceIte, Nat.reduceEqDiff, reduceCtorEq, Nat.reduceAdd, Nat.reduceLeDiff, Nat.reduceLT, reduceIte, Int.reduceBEq, Int.reduceBNe, Int.reduceLT, Int.reduceLE, Int.reduceAdd, Int.reduceSub, Int.reduceMul, Int.reduceNeg, Int.reduceEq, Int.reduceNe, Nat.reduceMul, Nat.reduceSub]
              exact ⟨d - 1, by omega, i + 1, by omega, by simp, by rw [hss.2 hnr], eh⟩
            · rw [hsv] at hgs hsi
              have hyr := hss.1 (hsi.1 rfl)
              cases hL : stuckN g i with
              | nil =>
                rw [hL] at e14 hyr
                simp only [rawRow] at e14
                simp (disch := first | assumption | omega) only [e95, e94, e14, e1, e8, e9, e10, e11, e12, e13, hbl, hgs, hsl, hlt, go_sem, ↓reduceIte, Nat.reduceEqDiff, reduceCtorEq, Nat.reduceAdd, Nat.reduceLeDiff, Nat.reduceLT, reduceIte, Int.reduceBEq, Int.reduceBNe, Int.reduceLT, Int.reduceLE, Int.reduceAdd, Int.reduceSub, Int.reduceMul, Int.reduceNeg, Int.reduceEq, Int.reduceNe, Nat.reduceMul, Nat.reduceSub]
                exact ⟨d - 1, by omega, i + 1, by omega, by simp, by rw [hyr]; rfl, eh⟩
              | cons b r =>
                rw [hL] at e14 hyr hsn
                simp only [rawRow] at e14
                simp only [List.length_cons] at hsn
                simp (disch := first | assumption | omega) only [e95, e94, e14, e1, e8, e9, e10, e11, e12, e13, hbl, hgs, hsl, hlt, ni_length, go_sem, ↓reduceIte, Nat.reduceEqDiff, reduceCtorEq, Nat.reduceAdd, Nat.reduceLeDiff, Nat.reduceLT, reduceIte, Int.reduceBEq, Int.reduceBNe, Int.reduceLT, Int.reduceLE, Int.reduceAdd, Int.reduceSub, Int.reduceMul, Int.reduceNeg, Int.reduceEq, Int.reduceNe, Nat.reduceMul, Nat.reduceSub]
                exact ⟨by omega, by omega, d - 1, by omega, i + 1, by omega, by simp, by rw [hyr, rawRow_snoc], eh⟩
          · obtain rfl : i = g.length := by omega
            change S.env 14 = rawRow (stuckL g) at e14
            rw [hS] at e14
            simp only [rawRow] at e14
            have hno : ni (stuckL g) = ni (i0 :: sl) := by rw [hS]
            have hlen : (ni (i0 :: sl)).length ≤ 64 := by rw [← hno, ni_length]; unfold stuckL; omega
            have hlen2 : (i0 :: sl).length ≤ 64 := by rw [ni_length] at hlen; exact hlen
            have hat0 : at_ (ints .i64 (ni (i0 :: sl))) 0 = .int .i64 i0 := rfl
            have hlp : (0 : Int) < ((sl.length + 1 : Nat) : Int) := by omega
            have hlz : ¬((sl.length + 1 : Nat) : Int) = 0 := by omega
            have hDs := hD.short
            have hwl : (wayF g FF D i0).length ≤ 64 := by rw [(wayF_ok hg.ok hFF D i0 hD.1.pos (Nat.le_refl _) hD).1.len]; omega
            simp (disch := first | assumption | omega) only [e95, e94, e14, e1, e8, e9, e10, e11, e12, e13, hlt, hgd, hrd, hrv, hq3, go_sem, ↓reduceIte, Nat.reduceEqDiff, reduceCtorEq, Nat.reduceAdd, Nat.reduceLeDiff, Nat.reduceLT, reduceIte, Int.reduceBEq, Int.reduceBNe, Int.reduceLT, Int.reduceLE, Int.reduceAdd, Int.reduceSub, Int.reduceMul, Int.reduceNeg, Int.reduceEq, Int.reduceNe, Nat.reduceMul, Nat.reduceSub]
            refine callG_ok (EqualInt_ok q8 .sh (ni (stuckL g)) (ni (i0 :: sl)) hq8 (.inl rfl) (by rw [hno]; omega) (by omega) _) (by simp (disch := first | assumption | omega) only [hq3, go_sem, ↓reduceIte, Nat.reduceEqDiff, reduceCtorEq, Nat.reduceAdd, Nat.reduceLeDiff, Nat.reduceLT, reduceIte, Int.reduceBEq, Int.reduceBNe, Int.reduceLT, Int.reduceLE, Int.reduceAdd, Int.reduceSub, Int.reduceMul, Int.reduceNeg, Int.reduceEq, Int.reduceNe, Nat.reduceMul, Nat.reduceSub]) ?_
            rintro _ _ ⟨rfl, hhh⟩
            rw [hhh, decide_eq_true hno]
            clear hhh
            simp (disch := first | assumption | omega) only [e95, e94, e14, e1, e8, e9, e10, e11, e12, e13, hge, hgd, hrd, hrv, hat0, hlp, hlz, ni_length, go_sem, ↓reduceIte, Nat.reduceEqDiff, reduceCtorEq, Nat.reduceAdd, Nat.reduceLeDiff, Nat.reduceLT, reduceIte, Int.reduceBEq, Int.reduceBNe, Int.reduceLT, Int.reduceLE, Int.reduceAdd, Int.reduceSub, Int.reduceMul, Int.reduceNeg, Int.reduceEq, Int.reduceNe, Nat.reduceMul, Nat.reduceSub]
            refine callpG_ok (R := fun r => r = .lst (.app 1) (ints .i64 (ni (wayF g FF D i0)))) (fun hp' => ACalls.mono (ringOf_ok o g xs ho hg hx i0 D FF hD hFF hp') fun r h' hh => ⟨hh.2, hh.1⟩) (by simp (disch := first | assumption | omega) only [go_sem, ↓reduceIte, Nat.reduceEqDiff, reduceCtorEq, Nat.reduceAdd, Nat.reduceLeDiff, Nat.reduceLT, reduceIte, Int.reduceBEq, Int.reduceBNe, Int.reduceLT, Int.reduceLE, Int.reduceAdd, Int.reduceSub, Int.reduceMul, Int.reduceNeg, Int.reduceEq, Int.reduceNe, Nat.reduceMul, Nat.reduceSub]) ?_
            rintro _ rfl
            simp (disch := first | assumption | omega) only [e95, e94, e14, e1, e8, e9, e10, e11, e12, e13, go_sem, ↓reduceIte, Nat.reduceEqDiff, reduceCtorEq, Nat.reduceAdd, Nat.reduceLeDiff, Nat.reduceLT, reduceIte, Int.reduceBEq, Int.reduceBNe, Int.reduceLT, Int.reduceLE, Int.reduceAdd, Int.reduceSub, Int.reduceMul, Int.reduceNeg, Int.reduceEq, Int.reduceNe, Nat.reduceMul, Nat.reduceSub]
            refine callpG_ok (R := fun r => r = .bool true) (fun hp' => ACalls.mono (EqualInt_ok .sh .sh (ni (wayF g FF D i0)) (ni (wayF g FF D i0)) (.inl rfl) (.inl rfl) (by rw [ni_length]; omega) (by rw [ni_length]; omega) hp') fun r h' hh => ⟨hh.2, by rw [hh.1, decide_eq_true rfl]⟩) (by simp (disch := first | assumption | omega) only [go_sem, ↓reduceIte, Nat.reduceEqDiff, reduceCtorEq, Nat.reduceAdd, Nat.reduceLeDiff, Nat.reduceLT, reduceIte, Int.reduceBEq, Int.reduceBNe, Int.reduceLT, Int.reduceLE, Int.reduceAdd, Int.reduceSub, Int.reduceMul, Int.reduceNeg, Int.reduceEq, Int.reduceNe, Nat.reduceMul, Nat.reduceSub]) ?_
            rintro _ rfl
            simp (disch := first | assumption | omega) only [e95, e94, e14, e1, e8, e9, e10, e11, e12, e13, go_sem, ↓reduceIte, Nat.reduceEqDiff, reduceCtorEq, Nat.reduceAdd, Nat.reduceLeDiff, Nat.reduceLT, reduceIte, Int.reduceBEq, Int.reduceBNe, Int.reduceLT, Int.reduceLE, Int.reduceAdd, Int.reduceSub, Int.reduceMul, Int.reduceNeg, Int.reduceEq, Int.reduceNe, Nat.reduceMul, Nat.reduceSub]
            subst hQ
            simp (disch := first | assumption | omega) only [R.gantlaw5_RingTells, go_sem, ↓reduceIte, Nat.reduceEqDiff, reduceCtorEq, Nat.reduceAdd, Nat.reduceLeDiff, Nat.reduceLT, reduceIte, Int.reduceBEq, Int.reduceBNe, Int.reduceLT, Int.reduceLE, Int.reduceAdd, Int.reduceSub, Int.reduceMul, Int.reduceNeg, Int.reduceEq, Int.reduceNe, Nat.reduceMul, Nat.reduceSub]
        )
      · simp (disch := first | assumption | omega) only [e36, e35, e34, e1, e5, hlt, hge, hgd, hrd, hrv, go_sem, ↓reduceIte, Nat.reduceEqDiff, reduceCtorEq, Nat.reduceAdd, Nat.reduceLeDiff, Nat.reduceLT, reduceIte, Int.reduceBEq, Int.reduceBNe, Int.reduceLT, Int.reduceLE, Int.reduceAdd, Int.reduceSub, Int.reduceMul, Int.reduceNeg, Int.reduceEq, Int.reduceNe, Nat.reduceMul, Nat.reduceSub]
        refine callG_ok (Stuck_bad o G xs ho hx hl' (by omega) hE _) (by simp (disch := first | assumption | omega) only [go_sem, ↓reduceIte, Nat.reduceEqDiff, reduceCtorEq, Nat.reduceAdd, Nat.reduceLeDiff, Nat.reduceLT, reduceIte, Int.reduceBEq, Int.reduceBNe, Int.reduceLT, Int.reduceLE, Int.reduceAdd, Int.reduceSub, Int.reduceMul, Int.reduceNeg, Int.reduceEq, Int.reduceNe, Nat.reduceMul, Nat.reduceSub]) ?_
        rintro _ _ ⟨rfl, hhh⟩
        rw [hhh]
        clear hhh
        simp (disch := first | assumption | omega) only [e36, e35, e34, e1, e5, hlt, hge, hgd, hrd, hrv, go_sem, ↓reduceIte, Nat.reduceEqDiff, reduceCtorEq, Nat.reduceAdd, Nat.reduceLeDiff, Nat.reduceLT, reduceIte, Int.reduceBEq, Int.reduceBNe, Int.reduceLT, Int.reduceLE, Int.reduceAdd, Int.reduceSub, Int.reduceMul, Int.reduceNeg, Int.reduceEq, Int.reduceNe, Nat.reduceMul, Nat.reduceSub]
        refine callG_ok (Find_bad o G xs ho hx hl' (by omega) hE _) (by simp (disch := first | assumption | omega) only [go_sem, ↓reduceIte, Nat.reduceEqDiff, reduceCtorEq, Nat.reduceAdd, Nat.reduceLeDiff, Nat.reduceLT, reduceIte, Int.reduceBEq, Int.reduceBNe, Int.reduceLT, Int.reduceLE, Int.reduceAdd, Int.reduceSub, Int.reduceMul, Int.reduceNeg, Int.reduceEq, Int.reduceNe, Nat.reduceMul, Nat.reduceSub]) ?_
        rintro _ _ ⟨rfl, hhh⟩
        rw [hhh]
        clear hhh
        simp (disch := first | assumption | omega) only [e36, e35, e34, e1, e5, hlt, hge, hgd, hrd, hrv, go_sem, ↓reduceIte, Nat.reduceEqDiff, reduceCtorEq, Nat.reduceAdd, Nat.reduceLeDiff, Nat.reduceLT, reduceIte, Int.reduceBEq, Int.reduceBNe, Int.reduceLT, Int.reduceLE, Int.reduceAdd, Int.reduceSub, Int.reduceMul, Int.reduceNeg, Int.reduceEq, Int.reduceNe, Nat.reduceMul, Nat.reduceSub]
        refine callG_ok (Order_bad o G xs ho hx hl' (by omega) hE _) (by simp (disch := first | assumption | omega) only [go_sem, ↓reduceIte, Nat.reduceEqDiff, reduceCtorEq, Nat.reduceAdd, Nat.reduceLeDiff, Nat.reduceLT, reduceIte, Int.reduceBEq, Int.reduceBNe, Int.reduceLT, Int.reduceLE, Int.reduceAdd, Int.reduceSub, Int.reduceMul, Int.reduceNeg, Int.reduceEq, Int.reduceNe, Nat.reduceMul, Nat.reduceSub]) ?_
        rintro _ _ ⟨rfl, hhh⟩
        rw [hhh]
        clear hhh
        simp (disch := first | assumption | omega) only [e36, e35, e34, e1, e5, hlt, hge, hgd, hrd, hrv, go_sem, ↓reduceIte, Nat.reduceEqDiff, reduceCtorEq, Nat.reduceAdd, Nat.reduceLeDiff, Nat.reduceLT, reduceIte, Int.reduceBEq, Int.reduceBNe, Int.reduceLT, Int.reduceLE, Int.reduceAdd, Int.reduceSub, Int.reduceMul, Int.reduceNeg, Int.reduceEq, Int.reduceNe, Nat.reduceMul, Nat.reduceSub]
        refine callG_ok (Check_ring_ok o G xs ho hx hl' (by omega) _) (by simp (disch := first | assumption | omega) only [go_sem, ↓reduceIte, Nat.reduceEqDiff, reduceCtorEq, Nat.reduceAdd, Nat.reduceLeDiff, Nat.reduceLT, reduceIte, Int.reduceBEq, Int.reduceBNe, Int.reduceLT, Int.reduceLE, Int.reduceAdd, Int.reduceSub, Int.reduceMul, Int.reduceNeg, Int.reduceEq, Int.reduceNe, Nat.reduceMul, Nat.reduceSub]) ?_
        rintro _ _ ⟨rfl, hhh⟩
        rw [hhh]
        clear hhh
        simp (disch := first | assumption | omega) only [e36, e35, e34, e1, e5, hE, go_sem, ↓reduceIte, Nat.reduceEqDiff, reduceCtorEq, Nat.reduceAdd, Nat.reduceLeDiff, Nat.reduceLT, reduceIte, Int.reduceBEq, Int.reduceBNe, Int.reduceLT, Int.reduceLE, Int.reduceAdd, Int.reduceSub, Int.reduceMul, Int.reduceNeg, Int.reduceEq, Int.reduceNe, Nat.reduceMul, Nat.reduceSub]
        subst hQ
        simp (disch := first | assumption | omega) only [R.gantlaw5_RingTells, go_sem, ↓reduceIte, Nat.reduceEqDiff, reduceCtorEq, Nat.reduceAdd, Nat.reduceLeDiff, Nat.reduceLT, reduceIte, Int.reduceBEq, Int.reduceBNe, Int.reduceLT, Int.reduceLE, Int.reduceAdd, Int.reduceSub, Int.reduceMul, Int.reduceNeg, Int.reduceEq, Int.reduceNe, Nat.reduceMul, Nat.reduceSub]
    )
/-! ### The argument -/
theorem has_rows {y : AVal} (h : HasC (.slice 24 false [.slice 8 false [.int .i64]]) y) : ∃ (o : Own) (l : List (List Int)) (xs : List AVal), y = .lst o xs ∧ Rdn o l ∧ Each2 RowOk l xs := by
  simp only [HasC] at h
  obtain ⟨o, xs, rfl, ho, _, hl, hel⟩ := h
  have key : ∀ xs : List AVal, (∀ y ∈ xs, ∃ cs, y = packV false cs ∧ HasL [.slice 8 false [.int .i64]] cs) → ∃ l : List (List Int), Each2 RowOk l xs := by
    intro xs
    induction xs with
    | nil => intro _; exact ⟨[], rfl⟩
    | cons x xs ih =>
      intro h
      obtain ⟨l, h1⟩ := ih fun y hy => h y (by simp [hy])
      obtain ⟨cs, e, hc⟩ := h x (by simp)
      obtain ⟨q, r, e1, e2, e3, e4⟩ := arg_ints hc
      exact ⟨r :: l, ⟨x, xs, rfl, ⟨q, e2, by rw [e, e1]⟩, h1⟩⟩
  obtain ⟨l, h1⟩ := key xs hel
  have hlen := h1.length
  refine ⟨o, l, xs, rfl, ?_, h1⟩
  rcases ho with rfl | ⟨rfl, rfl⟩
  · exact ⟨.inl rfl, fun e => by cases e⟩
  · refine ⟨.inr rfl, fun _ => ?_⟩
    simp at hlen
    exact List.eq_nil_of_length_eq_zero hlen.symm
theorem arg_rows {cs : List AVal} (h : HasL [.slice 24 false [.slice 8 false [.int .i64]]] cs) : ∃ (o : Own) (l : List (List Int)) (xs : List AVal), packV false cs = .lst o xs ∧ Rdn o l ∧ Each2 RowOk l xs := by
  obtain ⟨y, e, h⟩ := pack1 h
  rw [e]; exact has_rows h
theorem bulk_rows : ∀ {L : List (List Int)} {xs : List AVal}, Each2 RowOk L xs → (∀ r ∈ L, r.length ≤ bulkVs xs) ∧ L.length ≤ bulkVs xs
  | [], _, _ => ⟨by simp, by simp⟩
  | r :: L, _, ⟨_, _, rfl, ⟨_, _, rfl⟩, h⟩ => by
    have h1 := bulk_rows h
    have h2 := bulk_ints (k := .i64) r
    simp only [bulkVs, bulkV]
    refine ⟨fun x hx => ?_, by simp only [List.length_cons]; omega⟩
    rcases List.mem_cons.1 hx with rfl | hx
    · omega
    · have := h1.1 x hx; omega
end Go.Proofs.Ytpdajkbfemcdlaa
