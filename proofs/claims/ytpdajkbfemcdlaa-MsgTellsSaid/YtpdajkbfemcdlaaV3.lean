/- Contracts: logs, read and written. -/
import Derived.Test.YtpdajkbfemcdlaaV2
import Derived.Test.YtpdajkbfemcdlaaU2
set_option linter.unusedSimpArgs false
set_option linter.unusedVariables false
set_option maxRecDepth 10000
namespace Go.Proofs.Ytpdajkbfemcdlaa
open Go.Ge
theorem Recs.rd {rs : List (List Int)} {x : AVal} (h : Recs rs x) : ∃ q xs, x = .lst q xs ∧ Each2 RecOk rs xs ∧ (q = .nil ∧ rs = [] ∨ q = .app 1) := h
theorem Read_ok (o : Own) (b : List Int) (ho : Rdo o) (hb : ∀ x ∈ b, inU8 x) (hl : b.length ≤ 1099511627776) (h : List HObj) :
    ACalls Try.prog F.log_Read [.lst o (ints .u8 b)] h (fun v h' => (∃ rs x, v = .tup [x, .int .i64 (book 0 rs).length] ∧ Recs rs x ∧ IsScan b rs) ∧ h' = h) := by
  refine ACalls.of_aw Try.func63 K.log_Read (by simp [Try.f63]) ?_
  generalize hQ : retQ R.log_Read _ = Q
  simp (disch := first | assumption | omega) only [C.log_Read, go_sem, ↓reduceIte, Nat.reduceEqDiff, reduceCtorEq, Nat.reduceAdd, Nat.reduceLeDiff, Nat.reduceLT, reduceIte, Int.reduceBEq, Int.reduceBNe, Int.reduceLT, Int.reduceLE, Int.reduceAdd, Int.reduceSub, Int.reduceMul, Int.reduceNeg, Int.reduceEq, Int.reduceNe, Nat.reduceMul, Nat.reduceSub]
  refine callG_ok (scan_ok o b ho hb hl _) (by simp (disch := first | assumption | omega) only [go_sem, ↓reduceIte, Nat.reduceEqDiff, reduceCtorEq, Nat.reduceAdd, Nat.reduceLeDiff, Nat.reduceLT, reduceIte, Int.reduceBEq, Int.reduceBNe, Int.reduceLT, Int.reduceLE, Int.reduceAdd, Int.reduceSub, Int.reduceMul, Int.reduceNeg, Int.reduceEq, Int.reduceNe, Nat.reduceMul, Nat.reduceSub]) ?_
  rintro _ _ ⟨⟨rs, x, rfl, ⟨q, xs, rfl, hE, hq⟩, hS⟩, hhh⟩
  rw [hhh]
  clear hhh
  rcases hq with ⟨rfl, rfl⟩ | rfl
  · simp (disch := first | assumption | omega) only [go_sem, ↓reduceIte, Nat.reduceEqDiff, reduceCtorEq, Nat.reduceAdd, Nat.reduceLeDiff, Nat.reduceLT, reduceIte, Int.reduceBEq, Int.reduceBNe, Int.reduceLT, Int.reduceLE, Int.reduceAdd, Int.reduceSub, Int.reduceMul, Int.reduceNeg, Int.reduceEq, Int.reduceNe, Nat.reduceMul, Nat.reduceSub]
    subst hQ
    simp (disch := first | assumption | omega) only [R.log_Read, go_sem, ↓reduceIte, Nat.reduceEqDiff, reduceCtorEq, Nat.reduceAdd, Nat.reduceLeDiff, Nat.reduceLT, reduceIte, Int.reduceBEq, Int.reduceBNe, Int.reduceLT, Int.reduceLE, Int.reduceAdd, Int.reduceSub, Int.reduceMul, Int.reduceNeg, Int.reduceEq, Int.reduceNe, Nat.reduceMul, Nat.reduceSub]
    exact ⟨[], _, rfl, ⟨.nil, xs, rfl, hE, .inl ⟨rfl, rfl⟩⟩, hS⟩
  · simp (disch := first | assumption | omega) only [go_sem, ↓reduceIte, Nat.reduceEqDiff, reduceCtorEq, Nat.reduceAdd, Nat.reduceLeDiff, Nat.reduceLT, reduceIte, Int.reduceBEq, Int.reduceBNe, Int.reduceLT, Int.reduceLE, Int.reduceAdd, Int.reduceSub, Int.reduceMul, Int.reduceNeg, Int.reduceEq, Int.reduceNe, Nat.reduceMul, Nat.reduceSub]
    subst hQ
    simp (disch := first | assumption | omega) only [R.log_Read, go_sem, ↓reduceIte, Nat.reduceEqDiff, reduceCtorEq, Nat.reduceAdd, Nat.reduceLeDiff, Nat.reduceLT, reduceIte, Int.reduceBEq, Int.reduceBNe, Int.reduceLT, Int.reduceLE, Int.reduceAdd, Int.reduceSub, Int.reduceMul, Int.reduceNeg, Int.reduceEq, Int.reduceNe, Nat.reduceMul, Nat.reduceSub]
    exact ⟨rs, _, rfl, ⟨.app 1, xs, rfl, hE, .inr rfl⟩, hS⟩
theorem Whole_ok (o : Own) (b : List Int) (ho : Rdo o) (hb : ∀ x ∈ b, inU8 x) (hl : b.length ≤ 1099511627776) (h : List HObj) :
    ACalls Try.prog F.log_Whole [.lst o (ints .u8 b)] h (fun v h' => (∃ rs, v = .bool (decide ((book 0 rs).length = b.length)) ∧ IsScan b rs) ∧ h' = h) := by
  refine ACalls.of_aw Try.func66 K.log_Whole (by simp [Try.f66]) ?_
  generalize hQ : retQ R.log_Whole _ = Q
  simp (disch := first | assumption | omega) only [C.log_Whole, go_sem, ↓reduceIte, Nat.reduceEqDiff, reduceCtorEq, Nat.reduceAdd, Nat.reduceLeDiff, Nat.reduceLT, reduceIte, Int.reduceBEq, Int.reduceBNe, Int.reduceLT, Int.reduceLE, Int.reduceAdd, Int.reduceSub, Int.reduceMul, Int.reduceNeg, Int.reduceEq, Int.reduceNe, Nat.reduceMul, Nat.reduceSub]
  refine callG_ok (scan_ok o b ho hb hl _) (by simp (disch := first | assumption | omega) only [go_sem, ↓reduceIte, Nat.reduceEqDiff, reduceCtorEq, Nat.reduceAdd, Nat.reduceLeDiff, Nat.reduceLT, reduceIte, Int.reduceBEq, Int.reduceBNe, Int.reduceLT, Int.reduceLE, Int.reduceAdd, Int.reduceSub, Int.reduceMul, Int.reduceNeg, Int.reduceEq, Int.reduceNe, Nat.reduceMul, Nat.reduceSub]) ?_
  rintro _ _ ⟨⟨rs, x, rfl, ⟨q, xs, rfl, hE, hq⟩, hS⟩, hhh⟩
  rw [hhh]
  clear hhh
  have e1 : (((book 0 rs).length : Int) = b.length) = ((book 0 rs).length = b.length) := propext ⟨fun h => by omega, fun h => by omega⟩
  rcases hq with ⟨rfl, rfl⟩ | rfl
  · simp (disch := first | assumption | omega) only [go_sem, ↓reduceIte, Nat.reduceEqDiff, reduceCtorEq, Nat.reduceAdd, Nat.reduceLeDiff, Nat.reduceLT, reduceIte, Int.reduceBEq, Int.reduceBNe, Int.reduceLT, Int.reduceLE, Int.reduceAdd, Int.reduceSub, Int.reduceMul, Int.reduceNeg, Int.reduceEq, Int.reduceNe, Nat.reduceMul, Nat.reduceSub]
    subst hQ
    simp (disch := first | assumption | omega) only [R.log_Whole, go_sem, ↓reduceIte, Nat.reduceEqDiff, reduceCtorEq, Nat.reduceAdd, Nat.reduceLeDiff, Nat.reduceLT, reduceIte, Int.reduceBEq, Int.reduceBNe, Int.reduceLT, Int.reduceLE, Int.reduceAdd, Int.reduceSub, Int.reduceMul, Int.reduceNeg, Int.reduceEq, Int.reduceNe, Nat.reduceMul, Nat.reduceSub]
    exact ⟨[], by simp only [e1], hS⟩
  · simp (disch := first | assumption | omega) only [go_sem, ↓reduceIte, Nat.reduceEqDiff, reduceCtorEq, Nat.reduceAdd, Nat.reduceLeDiff, Nat.reduceLT, reduceIte, Int.reduceBEq, Int.reduceBNe, Int.reduceLT, Int.reduceLE, Int.reduceAdd, Int.reduceSub, Int.reduceMul, Int.reduceNeg, Int.reduceEq, Int.reduceNe, Nat.reduceMul, Nat.reduceSub]
    subst hQ
    simp (disch := first | assumption | omega) only [R.log_Whole, go_sem, ↓reduceIte, Nat.reduceEqDiff, reduceCtorEq, Nat.reduceAdd, Nat.reduceLeDiff, Nat.reduceLT, reduceIte, Int.reduceBEq, Int.reduceBNe, Int.reduceLT, Int.reduceLE, Int.reduceAdd, Int.reduceSub, Int.reduceMul, Int.reduceNeg, Int.reduceEq, Int.reduceNe, Nat.reduceMul, Nat.reduceSub]
    exact ⟨rs, by simp only [e1], hS⟩
/-- What comes of a record that is added. -/
def AddQ (b r : List Int) (v : AVal) : Prop :=
  2000 < r.length ∧ v = .tup [.lst .nil [], .int .i64 2] ∨ r.length ≤ 2000 ∧ ∃ rs, IsScan b rs ∧
    (100000 < (book 0 rs).length + 6 + r.length ∧ v = .tup [.lst .nil [], .int .i64 6] ∨ (book 0 rs).length + 6 + r.length ≤ 100000 ∧ v = .tup [.lst (.app 1) (ints .u8 (book 0 (rs ++ [r]))), .int .i64 0])
theorem Add_ok (o p : Own) (b r : List Int) (ho : Rdn o b) (hp : Rdn p r) (hb : ∀ x ∈ b, inU8 x) (hr : ∀ x ∈ r, inU8 x) (hl : b.length ≤ 1099511627776) (hrl : r.length ≤ 140737488351232) (h : List HObj) :
    ACalls Try.prog F.log_Add [.lst o (ints .u8 b), .lst p (ints .u8 r)] h (fun v h' => AddQ b r v ∧ h' = h) := by
  have ho1 := ho.1
  have hp1 := hp.1
  refine ACalls.of_aw Try.func61 K.log_Add (by simp [Try.f61]) ?_
  generalize hQ : retQ R.log_Add _ = Q
  simp (disch := first | assumption | omega) only [C.log_Add, go_sem, ↓reduceIte, Nat.reduceEqDiff, reduceCtorEq, Nat.reduceAdd, Nat.reduceLeDiff, Nat.reduceLT, reduceIte, Int.reduceBEq, Int.reduceBNe, Int.reduceLT, Int.reduceLE, Int.reduceAdd, Int.reduceSub, Int.reduceMul, Int.reduceNeg, Int.reduceEq, Int.reduceNe, Nat.reduceMul, Nat.reduceSub]
  by_cases hbig : 2000 < r.length
  · have hbig' : (2000 : Int) < r.length := by omega
    simp (disch := first | assumption | omega) only [hbig', go_sem, ↓reduceIte, Nat.reduceEqDiff, reduceCtorEq, Nat.reduceAdd, Nat.reduceLeDiff, Nat.reduceLT, reduceIte, Int.reduceBEq, Int.reduceBNe, Int.reduceLT, Int.reduceLE, Int.reduceAdd, Int.reduceSub, Int.reduceMul, Int.reduceNeg, Int.reduceEq, Int.reduceNe, Nat.reduceMul, Nat.reduceSub]
    subst hQ
    simp (disch := first | assumption | omega) only [R.log_Add, go_sem, ↓reduceIte, Nat.reduceEqDiff, reduceCtorEq, Nat.reduceAdd, Nat.reduceLeDiff, Nat.reduceLT, reduceIte, Int.reduceBEq, Int.reduceBNe, Int.reduceLT, Int.reduceLE, Int.reduceAdd, Int.reduceSub, Int.reduceMul, Int.reduceNeg, Int.reduceEq, Int.reduceNe, Nat.reduceMul, Nat.reduceSub]
    exact .inl ⟨hbig, rfl⟩
  have hbig' : ¬ (2000 : Int) < r.length := by omega
  simp (disch := first | assumption | omega) only [hbig', go_sem, ↓reduceIte, Nat.reduceEqDiff, reduceCtorEq, Nat.reduceAdd, Nat.reduceLeDiff, Nat.reduceLT, reduceIte, Int.reduceBEq, Int.reduceBNe, Int.reduceLT, Int.reduceLE, Int.reduceAdd, Int.reduceSub, Int.reduceMul, Int.reduceNeg, Int.reduceEq, Int.reduceNe, Nat.reduceMul, Nat.reduceSub]
  refine callG_ok (scan_ok o b ho.1 hb hl _) (by simp (disch := first | assumption | omega) only [go_sem, ↓reduceIte, Nat.reduceEqDiff, reduceCtorEq, Nat.reduceAdd, Nat.reduceLeDiff, Nat.reduceLT, reduceIte, Int.reduceBEq, Int.reduceBNe, Int.reduceLT, Int.reduceLE, Int.reduceAdd, Int.reduceSub, Int.reduceMul, Int.reduceNeg, Int.reduceEq, Int.reduceNe, Nat.reduceMul, Nat.reduceSub]) ?_
  rintro _ _ ⟨⟨rs, x, rfl, ⟨q, xs, rfl, hE, hq⟩, hS⟩, hhh⟩
  rw [hhh]
  clear hhh
  have hlast := lastOf_bd 0 rs (by omega) (by omega)
  have hpl := hS.pre.length_le
  rcases Nat.lt_or_ge 100000 ((book 0 rs).length + 6 + r.length) with e2 | e2
  · have hfull : (100000 : Int) < (book 0 rs).length + 6 + r.length := by omega
    rcases hq with ⟨rfl, rfl⟩ | rfl
    · simp (disch := first | assumption | omega) only [hfull, go_sem, ↓reduceIte, Nat.reduceEqDiff, reduceCtorEq, Nat.reduceAdd, Nat.reduceLeDiff, Nat.reduceLT, reduceIte, Int.reduceBEq, Int.reduceBNe, Int.reduceLT, Int.reduceLE, Int.reduceAdd, Int.reduceSub, Int.reduceMul, Int.reduceNeg, Int.reduceEq, Int.reduceNe, Nat.reduceMul, Nat.reduceSub]
      subst hQ
      simp (disch := first | assumption | omega) only [R.log_Add, go_sem, ↓reduceIte, Nat.reduceEqDiff, reduceCtorEq, Nat.reduceAdd, Nat.reduceLeDiff, Nat.reduceLT, reduceIte, Int.reduceBEq, Int.reduceBNe, Int.reduceLT, Int.reduceLE, Int.reduceAdd, Int.reduceSub, Int.reduceMul, Int.reduceNeg, Int.reduceEq, Int.reduceNe, Nat.reduceMul, Nat.reduceSub]
      exact .inr ⟨by omega, [], hS, .inl ⟨e2, rfl⟩⟩
    · simp (disch := first | assumption | omega) only [hfull, go_sem, ↓reduceIte, Nat.reduceEqDiff, reduceCtorEq, Nat.reduceAdd, Nat.reduceLeDiff, Nat.reduceLT, reduceIte, Int.reduceBEq, Int.reduceBNe, Int.reduceLT, Int.reduceLE, Int.reduceAdd, Int.reduceSub, Int.reduceMul, Int.reduceNeg, Int.reduceEq, Int.reduceNe, Nat.reduceMul, Nat.reduceSub]
      subst hQ
      simp (disch := first | assumption | omega) only [R.log_Add, go_sem, ↓reduceIte, Nat.reduceEqDiff, reduceCtorEq, Nat.reduceAdd, Nat.reduceLeDiff, Nat.reduceLT, reduceIte, Int.reduceBEq, Int.reduceBNe, Int.reduceLT, Int.reduceLE, Int.reduceAdd, Int.reduceSub, Int.reduceMul, Int.reduceNeg, Int.reduceEq, Int.reduceNe, Nat.reduceMul, Nat.reduceSub]
      exact .inr ⟨by omega, rs, hS, .inl ⟨e2, rfl⟩⟩
  · have hfull : ¬ (100000 : Int) < (book 0 rs).length + 6 + r.length := by omega
    have htk : List.take ((book 0 rs).length) (ints .u8 b) = ints .u8 (book 0 rs) := by
      rw [ints_take]; congr 1; exact (List.prefix_iff_eq_take.1 hS.pre).symm
    have hs := logSum_bd (lastOf 0 rs) r
    have hlen : (book 0 (rs ++ [r])).length = (book 0 rs).length + 6 + r.length := by rw [book_snoc, List.length_append, recB_length]; omega
    have hbk : ints .u8 (book 0 (rs ++ [r])) = ints .u8 (book 0 rs) ++ (AVal.int .u8 (IntKind.u8.wrap ((r.length : Int) / 256)) :: AVal.int .u8 (IntKind.u8.wrap (r.length : Int)) :: (ints .u8 r ++ ints .u8 (four (logSum (lastOf 0 rs) r)))) := by
      rw [book_snoc, recB, be2]
      simp [ints, wrapU8_mod]
    rcases hq with ⟨e0, e3⟩ | e3 <;> subst e3
    case' inr =>
      simp (disch := first | assumption | omega) only [hfull, htk, shr8' (Int.natCast_nonneg r.length), go_sem, ↓reduceIte, Nat.reduceEqDiff, reduceCtorEq, Nat.reduceAdd, Nat.reduceLeDiff, Nat.reduceLT, reduceIte, Int.reduceBEq, Int.reduceBNe, Int.reduceLT, Int.reduceLE, Int.reduceAdd, Int.reduceSub, Int.reduceMul, Int.reduceNeg, Int.reduceEq, Int.reduceNe, Nat.reduceMul, Nat.reduceSub]
    case' inl =>
      subst e0
      simp (disch := first | assumption | omega) only [hfull, htk, shr8' (Int.natCast_nonneg r.length), go_sem, ↓reduceIte, Nat.reduceEqDiff, reduceCtorEq, Nat.reduceAdd, Nat.reduceLeDiff, Nat.reduceLT, reduceIte, Int.reduceBEq, Int.reduceBNe, Int.reduceLT, Int.reduceLE, Int.reduceAdd, Int.reduceSub, Int.reduceMul, Int.reduceNeg, Int.reduceEq, Int.reduceNe, Nat.reduceMul, Nat.reduceSub]
    all_goals
      refine ⟨⟨by omega, ints_width b⟩, ints_width _, by omega, by omega, by omega, by omega, ints_width _, by omega, by omega, ?_⟩
      refine callG_ok (sum_ok _ p r hp hlast.1 hlast.2 hr (by omega) _) (by simp (disch := first | assumption | omega) only [go_sem, ↓reduceIte, Nat.reduceEqDiff, reduceCtorEq, Nat.reduceAdd, Nat.reduceLeDiff, Nat.reduceLT, reduceIte, Int.reduceBEq, Int.reduceBNe, Int.reduceLT, Int.reduceLE, Int.reduceAdd, Int.reduceSub, Int.reduceMul, Int.reduceNeg, Int.reduceEq, Int.reduceNe, Nat.reduceMul, Nat.reduceSub]) ?_
      rintro _ _ ⟨rfl, hhh⟩
      rw [hhh]
      clear hhh
      simp (disch := first | assumption | omega) only [go_sem, ↓reduceIte, Nat.reduceEqDiff, reduceCtorEq, Nat.reduceAdd, Nat.reduceLeDiff, Nat.reduceLT, reduceIte, Int.reduceBEq, Int.reduceBNe, Int.reduceLT, Int.reduceLE, Int.reduceAdd, Int.reduceSub, Int.reduceMul, Int.reduceNeg, Int.reduceEq, Int.reduceNe, Nat.reduceMul, Nat.reduceSub]
      refine callG_ok (four_ok _ hs.1 hs.2 _) (by simp (disch := first | assumption | omega) only [go_sem, ↓reduceIte, Nat.reduceEqDiff, reduceCtorEq, Nat.reduceAdd, Nat.reduceLeDiff, Nat.reduceLT, reduceIte, Int.reduceBEq, Int.reduceBNe, Int.reduceLT, Int.reduceLE, Int.reduceAdd, Int.reduceSub, Int.reduceMul, Int.reduceNeg, Int.reduceEq, Int.reduceNe, Nat.reduceMul, Nat.reduceSub]) ?_
      rintro _ _ ⟨rfl, hhh⟩
      rw [hhh]
      clear hhh
      simp (disch := first | assumption | omega) only [four_length, go_sem, ↓reduceIte, Nat.reduceEqDiff, reduceCtorEq, Nat.reduceAdd, Nat.reduceLeDiff, Nat.reduceLT, reduceIte, Int.reduceBEq, Int.reduceBNe, Int.reduceLT, Int.reduceLE, Int.reduceAdd, Int.reduceSub, Int.reduceMul, Int.reduceNeg, Int.reduceEq, Int.reduceNe, Nat.reduceMul, Nat.reduceSub]
      refine ⟨ints_width _, by omega, by omega, ?_⟩
      subst hQ
      simp (disch := first | assumption | omega) only [R.log_Add, go_sem, ↓reduceIte, Nat.reduceEqDiff, reduceCtorEq, Nat.reduceAdd, Nat.reduceLeDiff, Nat.reduceLT, reduceIte, Int.reduceBEq, Int.reduceBNe, Int.reduceLT, Int.reduceLE, Int.reduceAdd, Int.reduceSub, Int.reduceMul, Int.reduceNeg, Int.reduceEq, Int.reduceNe, Nat.reduceMul, Nat.reduceSub]
      refine .inr ⟨by omega, _, hS, .inr ⟨by omega, ?_⟩⟩
      rw [hbk]
/-- The error of records that are written one behind the other, or 0. -/
def allE : List (List Int) → Nat → Int
  | [], _ => 0
  | r :: rs, n => if 2000 < r.length then 2 else if 100000 < n + 6 + r.length then 6 else allE rs (n + 6 + r.length)
theorem allE_step {L : List (List Int)} {i : Nat} (h : i < L.length) (n : Nat) : allE (L.drop i) n = if 2000 < L[i].length then 2 else if 100000 < n + 6 + L[i].length then 6 else allE (L.drop (i + 1)) (n + 6 + L[i].length) := by
  rw [List.drop_eq_getElem_cons h]; rfl
def AllQ (L : List (List Int)) (v : AVal) : Prop :=
  allE L 0 ≠ 0 ∧ v = .tup [.lst .nil [], .int .i64 (allE L 0)] ∨ allE L 0 = 0 ∧ ∃ q, v = .tup [.lst q (ints .u8 (book 0 L)), .int .i64 0] ∧ (q = .nil ∧ L = [] ∨ q = .app 1)
theorem take_snoc {α : Type} {l : List α} {i : Nat} (h : i < l.length) : l.take (i + 1) = l.take i ++ [l[i]] := by
  rw [List.take_add_one, List.getElem?_eq_getElem h]; rfl
theorem All_ok (o : Own) (L : List (List Int)) (xs : List AVal) (ho : Rdn o L) (hx : Each2 RecOk L xs) (hu : ∀ r ∈ L, ∀ x ∈ r, inU8 x) (hl : ∀ r ∈ L, r.length ≤ 140737488351232) (hn : L.length ≤ 140737488351232) (h : List HObj) :
    ACalls Try.prog F.log_All [.lst o xs] h (fun v h' => AllQ L v ∧ h' = h) := by
  have ho1 := ho.1
  have lx := hx.length
  refine ACalls.of_aw Try.func62 K.log_All (by simp [Try.f62]) ?_
  generalize hQ : retQ R.log_All _ = Q
  simp (disch := first | assumption | omega) only [C.log_All, go_sem, ↓reduceIte, Nat.reduceEqDiff, reduceCtorEq, Nat.reduceAdd, Nat.reduceLeDiff, Nat.reduceLT, reduceIte, Int.reduceBEq, Int.reduceBNe, Int.reduceLT, Int.reduceLE, Int.reduceAdd, Int.reduceSub, Int.reduceMul, Int.reduceNeg, Int.reduceEq, Int.reduceNe, Nat.reduceMul, Nat.reduceSub]
  refine aw_count (fun d S => ∃ (i : Nat) (q : Own), i + d = L.length ∧ S.env 11 = .int .i64 i ∧ S.env 10 = .int .i64 L.length ∧ S.env 9 = .lst o xs ∧ S.env 4 = .lst q (ints .u8 (book 0 (L.take i))) ∧ (q = .nil ∧ i = 0 ∨ q = .app 1) ∧ (∀ r ∈ L.take i, r.length ≤ 2000) ∧ (book 0 (L.take i)).length ≤ 100000 ∧ allE L 0 = allE (L.drop i) (book 0 (L.take i)).length ∧ S.heap = h) (n := L.length)
    ⟨0, .nil, by simp [go_sem, lx, book, ints, rdv_o ho1]⟩ ?_
  rintro d S ⟨i, q, hi, e11, e10, e9, e4, hq, hS, hB, hA, eh⟩
  simp (disch := first | assumption | omega) only [e11, e10, e9, e4, eh, go_sem, ↓reduceIte, Nat.reduceEqDiff, reduceCtorEq, Nat.reduceAdd, Nat.reduceLeDiff, Nat.reduceLT, reduceIte, Int.reduceBEq, Int.reduceBNe, Int.reduceLT, Int.reduceLE, Int.reduceAdd, Int.reduceSub, Int.reduceMul, Int.reduceNeg, Int.reduceEq, Int.reduceNe, Nat.reduceMul, Nat.reduceSub]
  refine condG_if (fun hlt => ?_) fun hge => ?_
  · have hlt1 : i < L.length := by omega
    have hlt2 : i < xs.length := by omega
    obtain ⟨p, hp, hxi⟩ := hx.at i hlt1
    have hp1 := hp.1
    have hri := hl _ (List.getElem_mem hlt1)
    have hui := hu _ (List.getElem_mem hlt1)
    have hst := take_snoc hlt1
    have hae := allE_step hlt1 (book 0 (L.take i)).length
    have hbu : ∀ x ∈ book 0 (L.take i), inU8 x := book_u8 0 _ (fun r hr => hu r (List.mem_of_mem_take hr))
    have hsc : IsScan (book 0 (L.take i)) (L.take i) := IsScan.book hS
    rcases hq with ⟨rfl, h0⟩ | rfl
    case' inl =>
      have hrd : Rdn .nil (book 0 (L.take i)) := ⟨.inr rfl, fun _ => by rw [h0]; rfl⟩
      simp (disch := first | assumption | omega) only [e11, e10, e9, e4, eh, hlt2, hxi, go_sem, ↓reduceIte, Nat.reduceEqDiff, reduceCtorEq, Nat.reduceAdd, Nat.reduceLeDiff, Nat.reduceLT, reduceIte, Int.reduceBEq, Int.reduceBNe, Int.reduceLT, Int.reduceLE, Int.reduceAdd, Int.reduceSub, Int.reduceMul, Int.reduceNeg, Int.reduceEq, Int.reduceNe, Nat.reduceMul, Nat.reduceSub]
    case' inr =>
      have hrd : Rdn .sh (book 0 (L.take i)) := ⟨.inl rfl, fun e => by cases e⟩
      simp (disch := first | assumption | omega) only [e11, e10, e9, e4, eh, hlt2, hxi, go_sem, ↓reduceIte, Nat.reduceEqDiff, reduceCtorEq, Nat.reduceAdd, Nat.reduceLeDiff, Nat.reduceLT, reduceIte, Int.reduceBEq, Int.reduceBNe, Int.reduceLT, Int.reduceLE, Int.reduceAdd, Int.reduceSub, Int.reduceMul, Int.reduceNeg, Int.reduceEq, Int.reduceNe, Nat.reduceMul, Nat.reduceSub]
    all_goals
      refine callG_ok (Add_ok _ p _ _ hrd hp hbu hui (by omega) hri _) (by simp (disch := first | assumption | omega) only [go_sem, ↓reduceIte, Nat.reduceEqDiff, reduceCtorEq, Nat.reduceAdd, Nat.reduceLeDiff, Nat.reduceLT, reduceIte, Int.reduceBEq, Int.reduceBNe, Int.reduceLT, Int.reduceLE, Int.reduceAdd, Int.reduceSub, Int.reduceMul, Int.reduceNeg, Int.reduceEq, Int.reduceNe, Nat.reduceMul, Nat.reduceSub]) ?_
      rintro _ _ ⟨hv, hhh⟩
      rw [hhh]
      clear hhh
      rcases hv with ⟨g1, rfl⟩ | ⟨g1, rs, hsc', hv⟩
      · rw [if_pos g1] at hae
        simp (disch := first | assumption | omega) only [e11, e10, e9, e4, eh, go_sem, ↓reduceIte, Nat.reduceEqDiff, reduceCtorEq, Nat.reduceAdd, Nat.reduceLeDiff, Nat.reduceLT, reduceIte, Int.reduceBEq, Int.reduceBNe, Int.reduceLT, Int.reduceLE, Int.reduceAdd, Int.reduceSub, Int.reduceMul, Int.reduceNeg, Int.reduceEq, Int.reduceNe, Nat.reduceMul, Nat.reduceSub]
        subst hQ
        simp (disch := first | assumption | omega) only [R.log_All, e11, e10, e9, e4, eh, go_sem, ↓reduceIte, Nat.reduceEqDiff, reduceCtorEq, Nat.reduceAdd, Nat.reduceLeDiff, Nat.reduceLT, reduceIte, Int.reduceBEq, Int.reduceBNe, Int.reduceLT, Int.reduceLE, Int.reduceAdd, Int.reduceSub, Int.reduceMul, Int.reduceNeg, Int.reduceEq, Int.reduceNe, Nat.reduceMul, Nat.reduceSub]
        exact .inl ⟨by rw [hA, hae]; decide, by rw [hA, hae]⟩
      obtain rfl := hsc'.unique hsc
      rw [if_neg (by omega)] at hae
      rcases hv with ⟨g2, rfl⟩ | ⟨g2, rfl⟩
      · rw [if_pos g2] at hae
        simp (disch := first | assumption | omega) only [e11, e10, e9, e4, eh, go_sem, ↓reduceIte, Nat.reduceEqDiff, reduceCtorEq, Nat.reduceAdd, Nat.reduceLeDiff, Nat.reduceLT, reduceIte, Int.reduceBEq, Int.reduceBNe, Int.reduceLT, Int.reduceLE, Int.reduceAdd, Int.reduceSub, Int.reduceMul, Int.reduceNeg, Int.reduceEq, Int.reduceNe, Nat.reduceMul, Nat.reduceSub]
        subst hQ
        simp (disch := first | assumption | omega) only [R.log_All, e11, e10, e9, e4, eh, go_sem, ↓reduceIte, Nat.reduceEqDiff, reduceCtorEq, Nat.reduceAdd, Nat.reduceLeDiff, Nat.reduceLT, reduceIte, Int.reduceBEq, Int.reduceBNe, Int.reduceLT, Int.reduceLE, Int.reduceAdd, Int.reduceSub, Int.reduceMul, Int.reduceNeg, Int.reduceEq, Int.reduceNe, Nat.reduceMul, Nat.reduceSub]
        exact .inl ⟨by rw [hA, hae]; decide, by rw [hA, hae]⟩
      · rw [if_neg (by omega)] at hae
        simp (disch := first | assumption | omega) only [e11, e10, e9, e4, eh, go_sem, ↓reduceIte, Nat.reduceEqDiff, reduceCtorEq, Nat.reduceAdd, Nat.reduceLeDiff, Nat.reduceLT, reduceIte, Int.reduceBEq, Int.reduceBNe, Int.reduceLT, Int.reduceLE, Int.reduceAdd, Int.reduceSub, Int.reduceMul, Int.reduceNeg, Int.reduceEq, Int.reduceNe, Nat.reduceMul, Nat.reduceSub]
        have hlen : (book 0 (L.take (i + 1))).length = (book 0 (L.take i)).length + 6 + L[i].length := by rw [hst, book_snoc, List.length_append, recB_length]; omega
        refine ⟨d - 1, by omega, i + 1, .app 1, by omega, by simp, by rw [hst], .inr rfl, ?_, by omega, by rw [hA, hae, hlen]⟩
        intro r hr
        rw [hst] at hr
        rcases List.mem_append.1 hr with hr | hr
        · exact hS r hr
        · simp at hr; subst hr; exact g1
  · obtain rfl : i = L.length := by omega
    rw [List.drop_length, allE] at hA
    rw [List.take_length] at e4
    rcases hq with ⟨rfl, h0⟩ | rfl
    · simp (disch := first | assumption | omega) only [e11, e10, e9, e4, eh, go_sem, ↓reduceIte, Nat.reduceEqDiff, reduceCtorEq, Nat.reduceAdd, Nat.reduceLeDiff, Nat.reduceLT, reduceIte, Int.reduceBEq, Int.reduceBNe, Int.reduceLT, Int.reduceLE, Int.reduceAdd, Int.reduceSub, Int.reduceMul, Int.reduceNeg, Int.reduceEq, Int.reduceNe, Nat.reduceMul, Nat.reduceSub]
      subst hQ
      simp (disch := first | assumption | omega) only [R.log_All, e11, e10, e9, e4, eh, go_sem, ↓reduceIte, Nat.reduceEqDiff, reduceCtorEq, Nat.reduceAdd, Nat.reduceLeDiff, Nat.reduceLT, reduceIte, Int.reduceBEq, Int.reduceBNe, Int.reduceLT, Int.reduceLE, Int.reduceAdd, Int.reduceSub, Int.reduceMul, Int.reduceNeg, Int.reduceEq, Int.reduceNe, Nat.reduceMul, Nat.reduceSub]
      exact .inr ⟨hA, .nil, rfl, .inl ⟨rfl, List.eq_nil_of_length_eq_zero h0⟩⟩
    · simp (disch := first | assumption | omega) only [e11, e10, e9, e4, eh, go_sem, ↓reduceIte, Nat.reduceEqDiff, reduceCtorEq, Nat.reduceAdd, Nat.reduceLeDiff, Nat.reduceLT, reduceIte, Int.reduceBEq, Int.reduceBNe, Int.reduceLT, Int.reduceLE, Int.reduceAdd, Int.reduceSub, Int.reduceMul, Int.reduceNeg, Int.reduceEq, Int.reduceNe, Nat.reduceMul, Nat.reduceSub]
      subst hQ
      simp (disch := first | assumption | omega) only [R.log_All, e11, e10, e9, e4, eh, go_sem, ↓reduceIte, Nat.reduceEqDiff, reduceCtorEq, Nat.reduceAdd, Nat.reduceLeDiff, Nat.reduceLT, reduceIte, Int.reduceBEq, Int.reduceBNe, Int.reduceLT, Int.reduceLE, Int.reduceAdd, Int.reduceSub, Int.reduceMul, Int.reduceNeg, Int.reduceEq, Int.reduceNe, Nat.reduceMul, Nat.reduceSub]
      exact .inr ⟨hA, .app 1, rfl, .inr rfl⟩
theorem Recs.rdo {rs : List (List Int)} {q : Own} {xs : List AVal} (h : Each2 RecOk rs xs) (hq : q = .nil ∧ rs = [] ∨ q = .app 1) : ∃ q', rdv (.lst q xs) = .lst q' xs ∧ Rdn q' rs := by
  rcases hq with ⟨rfl, e⟩ | rfl
  · exact ⟨.nil, rfl, .inr rfl, fun _ => e⟩
  · exact ⟨.sh, rfl, .inl rfl, fun e => by cases e⟩
theorem allE_ok : ∀ (L : List (List Int)) (n : Nat), allE L n = 0 ↔ (∀ r ∈ L, r.length ≤ 2000) ∧ (L ≠ [] → n + sizeOf' L ≤ 100000)
  | [], n => by simp [allE]
  | r :: L, n => by
    have e : sizeOf' (r :: L) = 6 + r.length + sizeOf' L := by simp [sizeOf']
    simp only [allE]
    split
    · rename_i h
      constructor
      · intro h'; cases h'
      · intro h'; have := h'.1 r (by simp); omega
    · split
      · rename_i h
        constructor
        · intro h'; cases h'
        · intro h'; have := h'.2 (by simp); omega
      · rw [allE_ok L]
        constructor
        · rintro ⟨h1, h2⟩
          refine ⟨fun x hx => ?_, fun _ => ?_⟩
          · rcases List.mem_cons.1 hx with rfl | hx
            · omega
            · exact h1 x hx
          · by_cases h0 : L = []
            · subst h0; rw [e]; simp [sizeOf']; omega
            · have := h2 h0; omega
        · rintro ⟨h1, h2⟩
          exact ⟨fun x hx => h1 x (by simp [hx]), fun _ => by have := h2 (by simp); omega⟩
theorem size_short {L : List (List Int)} (h : ∀ r ∈ L, r.length ≤ 2000) : sizeOf' L ≤ 2006 * L.length := by
  induction L with
  | nil => simp [sizeOf']
  | cons r L ih =>
    have e : sizeOf' (r :: L) = 6 + r.length + sizeOf' L := by simp [sizeOf']
    have := ih (fun x hx => h x (by simp [hx]))
    have := h r (by simp)
    rw [e, List.length_cons]; omega
end Go.Proofs.Ytpdajkbfemcdlaa
