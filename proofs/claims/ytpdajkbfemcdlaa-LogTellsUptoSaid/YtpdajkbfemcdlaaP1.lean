/- Contracts: clocks. -/
import Derived.Test.YtpdajkbfemcdlaaGeD
import Derived.Test.YtpdajkbfemcdlaaCb
set_option linter.unusedSimpArgs false
set_option linter.unusedVariables false
set_option maxRecDepth 10000
namespace Go.Proofs.Ytpdajkbfemcdlaa
open Go.Ge
def diff (a b : Int) : Int := (a - b + 2147483648) % 4294967296 - 2147483648
def after (a n : Int) : Int := (a + n) % 4294967296
theorem diff_bd (a b : Int) : -2147483648 ≤ diff a b ∧ diff a b < 2147483648 := by unfold diff; omega
theorem after_bd (a n : Int) : 0 ≤ after a n ∧ after a n < 4294967296 := by unfold after; omega
theorem clock_Diff_ok (a b : Int) (h : List HObj) : ACalls Try.prog F.clock_Diff [.int .u32 a, .int .u32 b] h (fun r h' => r = .int .i64 (diff a b) ∧ h' = h) := by
  refine ACalls.of_aw Try.func44 K.clock_Diff (by simp [Try.f44]) ?_
  generalize hQ : retQ R.clock_Diff _ = Q
  simp (disch := first | assumption | omega) only [C.clock_Diff, go_sem, ↓reduceIte, Nat.reduceEqDiff, reduceCtorEq, Nat.reduceAdd, Nat.reduceLeDiff, Nat.reduceLT, wrapU32, reduceIte, Int.natCast_nonneg, Int.ofNat_lt, Int.ofNat_le, cond_true, cond_false]
  subst hQ
  simp (disch := first | assumption | omega) only [R.clock_Diff, go_sem, ↓reduceIte, Nat.reduceEqDiff, reduceCtorEq, Nat.reduceAdd, Nat.reduceLeDiff, Nat.reduceLT, wrapU32, reduceIte, Int.natCast_nonneg, Int.ofNat_lt, Int.ofNat_le, cond_true, cond_false]
  simp only [wrapU32_mod, wrapI32_mod, AVal.int.injEq, true_and]
  have : (((a - b) % 4294967296 + 2147483648) % 4294967296 - 2147483648) = diff a b := by unfold diff; omega
  rw [this]
  exact wrapI64 (by have := diff_bd a b; omega) (by have := diff_bd a b; omega)
theorem clock_After_ok (a n : Int) (h : List HObj) : ACalls Try.prog F.clock_After [.int .u32 a, .int .i64 n] h (fun r h' => r = .int .u32 (after a n) ∧ h' = h) := by
  refine ACalls.of_aw Try.func52 K.clock_After (by simp [Try.f52]) ?_
  generalize hQ : retQ R.clock_After _ = Q
  simp (disch := first | assumption | omega) only [C.clock_After, go_sem, ↓reduceIte, Nat.reduceEqDiff, reduceCtorEq, Nat.reduceAdd, Nat.reduceLeDiff, Nat.reduceLT, wrapU32, reduceIte, Int.natCast_nonneg, Int.ofNat_lt, Int.ofNat_le, cond_true, cond_false]
  subst hQ
  simp (disch := first | assumption | omega) only [R.clock_After, go_sem, ↓reduceIte, Nat.reduceEqDiff, reduceCtorEq, Nat.reduceAdd, Nat.reduceLeDiff, Nat.reduceLT, wrapU32, reduceIte, Int.natCast_nonneg, Int.ofNat_lt, Int.ofNat_le, cond_true, cond_false]
  simp only [wrapU32_mod, AVal.int.injEq, true_and]
  unfold after; omega
theorem Below_ok (x n : Int) (hx : inI64 x) (hn : 0 < n) (hn2 : n < 9223372036854775808) (h : List HObj) : ACalls Try.prog F.gantmake_Below [.int .i64 x, .int .i64 n] h (fun r h' => r = .int .i64 (x % n) ∧ h' = h) := by
  unfold inI64 at hx
  refine ACalls.of_aw Try.func42 K.gantmake_Below (by simp [Try.f42]) ?_
  generalize hQ : retQ R.gantmake_Below _ = Q
  simp (disch := first | assumption | omega) only [C.gantmake_Below, go_sem, ↓reduceIte, Nat.reduceEqDiff, reduceCtorEq, Nat.reduceAdd, Nat.reduceLeDiff, Nat.reduceLT, wrapU32, reduceIte, Int.natCast_nonneg, Int.ofNat_lt, Int.ofNat_le, cond_true, cond_false]
  refine ⟨by omega, ?_⟩
  have e := Int.tmod_eq_emod (a := x) (b := n)
  have h1 := Int.emod_nonneg x (show n ≠ 0 by omega)
  have h2 := Int.emod_lt_of_pos x hn
  by_cases h0 : 0 ≤ x ∨ n ∣ x
  · rw [if_pos h0] at e
    refine condG_if (fun hlt => by omega) fun hge => ?_
    simp (disch := first | assumption | omega) only [go_sem, ↓reduceIte, Nat.reduceEqDiff, reduceCtorEq, Nat.reduceAdd, Nat.reduceLeDiff, Nat.reduceLT, wrapU32, reduceIte, Int.natCast_nonneg, Int.ofNat_lt, Int.ofNat_le, cond_true, cond_false]
    subst hQ
    simp (disch := first | assumption | omega) only [R.gantmake_Below, go_sem, ↓reduceIte, Nat.reduceEqDiff, reduceCtorEq, Nat.reduceAdd, Nat.reduceLeDiff, Nat.reduceLT, wrapU32, reduceIte, Int.natCast_nonneg, Int.ofNat_lt, Int.ofNat_le, cond_true, cond_false]
    rw [e]; simp
  · rw [if_neg h0] at e
    have : (n.natAbs : Int) = n := by omega
    refine condG_if (fun hlt => ?_) fun hge => ?_
    · simp (disch := first | assumption | omega) only [go_sem, ↓reduceIte, Nat.reduceEqDiff, reduceCtorEq, Nat.reduceAdd, Nat.reduceLeDiff, Nat.reduceLT, wrapU32, reduceIte, Int.natCast_nonneg, Int.ofNat_lt, Int.ofNat_le, cond_true, cond_false]
      subst hQ
      simp (disch := first | assumption | omega) only [R.gantmake_Below, go_sem, ↓reduceIte, Nat.reduceEqDiff, reduceCtorEq, Nat.reduceAdd, Nat.reduceLeDiff, Nat.reduceLT, wrapU32, reduceIte, Int.natCast_nonneg, Int.ofNat_lt, Int.ofNat_le, cond_true, cond_false]
      rw [e]; congr 1; omega
    · exfalso
      have h3 : x % n ≠ 0 := fun h => h0 (.inr (Int.dvd_of_emod_eq_zero h))
      omega
def lostOf (arm tick : Int) (l : List Fault) : Nat := l.countP fun f => f.Kind == 5 && f.N == arm && decide (0 ≤ f.Tick) && decide (f.Tick ≤ tick)
def show' (start arm tick : Int) (l : List Fault) : Int := after start (max tick 0 - lostOf arm tick l)
theorem countP_take {α : Type} (p : α → Bool) (l : List α) (i : Nat) (h : i < l.length) : (l.take (i + 1)).countP p = (l.take i).countP p + if p l[i] then 1 else 0 := by
  rw [List.take_add_one, List.countP_append, List.getElem?_eq_getElem h]
  simp [List.countP_cons]
theorem Show_ok (start arm tick : Int) (o : Own) (l : List Fault) (ho : Rdo o) (ht : inI64 tick) (hl : l.length < 4611686018427387904) (h : List HObj) :
    ACalls Try.prog F.clock_Show [.int .u32 start, .int .i64 arm, .int .i64 tick, .lst o (faultsA l)] h (fun r h' => r = .int .u32 (show' start arm tick l) ∧ h' = h) := by
  unfold inI64 at ht
  refine ACalls.of_aw Try.func43 K.clock_Show (by simp [Try.f43]) ?_
  generalize hQ : retQ R.clock_Show _ = Q
  simp (disch := first | assumption | omega) only [C.clock_Show, go_sem, ↓reduceIte, Nat.reduceEqDiff, reduceCtorEq, Nat.reduceAdd, Nat.reduceLeDiff, Nat.reduceLT, wrapU32, reduceIte, Int.natCast_nonneg, Int.ofNat_lt, Int.ofNat_le, cond_true, cond_false]
  refine aw_count (fun d S => ∃ (i : Nat), i + d = l.length ∧ S.env 14 = .int .i64 i ∧ S.env 13 = .int .i64 l.length ∧ S.env 12 = .lst o (faultsA l) ∧ S.env 0 = .int .u32 start ∧ S.env 1 = .int .i64 arm ∧ S.env 2 = .int .i64 tick ∧
    S.env 9 = .int .i64 (lostOf arm tick (l.take i)) ∧ S.heap = h) (n := l.length) ⟨0, by simp [go_sem, faultsA, lostOf]⟩ ?_
  rintro d S ⟨i, hi, e14, e13, e12, e0, e1, e2, e9, eh⟩
  have hlost : lostOf arm tick (l.take i) ≤ l.length := Nat.le_trans List.countP_le_length (by simp; omega)
  simp (disch := first | assumption | omega) only [e14, e13, e12, e0, e1, e2, e9, eh, go_sem, ↓reduceIte, Nat.reduceEqDiff, reduceCtorEq, Nat.reduceAdd, Nat.reduceLeDiff, Nat.reduceLT, wrapU32, reduceIte, Int.natCast_nonneg, Int.ofNat_lt, Int.ofNat_le, cond_true, cond_false]
  refine condG_if (fun hlt => ?_) fun hge => ?_
  · have hlt : i < l.length := by omega
    have hat := at_faults hlt
    have hstep : lostOf arm tick (l.take (i + 1)) = _ := countP_take (fun f : Fault => f.Kind == 5 && f.N == arm && decide (0 ≤ f.Tick) && decide (f.Tick ≤ tick)) l i hlt
    simp (disch := first | assumption | omega) only [e14, e13, e12, e0, e1, e2, e9, eh, hat, faultA, hlt, go_sem, ↓reduceIte, Nat.reduceEqDiff, reduceCtorEq, Nat.reduceAdd, Nat.reduceLeDiff, Nat.reduceLT, wrapU32, reduceIte, Int.natCast_nonneg, Int.ofNat_lt, Int.ofNat_le, cond_true, cond_false]
    iterate 4 (all_goals (try ((first | refine aopsG_split (fun hb => ?_) (fun hb => ?_) | refine condG_split (fun hb => ?_) (fun hb => ?_)) <;> simp (disch := first | assumption | omega) only [hb, e14, e13, e12, e0, e1, e2, e9, eh, go_sem, ↓reduceIte, Nat.reduceEqDiff, reduceCtorEq, Nat.reduceAdd, Nat.reduceLeDiff, Nat.reduceLT, wrapU32, reduceIte, Int.natCast_nonneg, Int.ofNat_lt, Int.ofNat_le, cond_true, cond_false])))
    all_goals
      refine ⟨d - 1, by omega, i + 1, by omega, by simp, ?_⟩
      rw [hstep]
      simp_all [lostOf] <;> (try split) <;> omega
  · obtain rfl : i = l.length := by omega
    simp (disch := first | assumption | omega) only [e14, e13, e12, e0, e1, e2, e9, eh, go_sem, ↓reduceIte, Nat.reduceEqDiff, reduceCtorEq, Nat.reduceAdd, Nat.reduceLeDiff, Nat.reduceLT, wrapU32, reduceIte, Int.natCast_nonneg, Int.ofNat_lt, Int.ofNat_le, cond_true, cond_false]
    refine callG_ok (clock_After_ok _ _ _) (by simp (disch := first | assumption | omega) only [go_sem, ↓reduceIte, Nat.reduceEqDiff, reduceCtorEq, Nat.reduceAdd, Nat.reduceLeDiff, Nat.reduceLT, wrapU32, reduceIte, Int.natCast_nonneg, Int.ofNat_lt, Int.ofNat_le, cond_true, cond_false]) ?_
    rintro _ _ ⟨rfl, rfl⟩
    simp (disch := first | assumption | omega) only [go_sem, ↓reduceIte, Nat.reduceEqDiff, reduceCtorEq, Nat.reduceAdd, Nat.reduceLeDiff, Nat.reduceLT, wrapU32, reduceIte, Int.natCast_nonneg, Int.ofNat_lt, Int.ofNat_le, cond_true, cond_false]
    subst hQ
    simp (disch := first | assumption | omega) only [R.clock_Show, go_sem, ↓reduceIte, Nat.reduceEqDiff, reduceCtorEq, Nat.reduceAdd, Nat.reduceLeDiff, Nat.reduceLT, wrapU32, reduceIte, Int.natCast_nonneg, Int.ofNat_lt, Int.ofNat_le, cond_true, cond_false]
    rw [List.take_length]
    refine ⟨?_, eh⟩
    have e5 : (if tick < 0 then 0 else tick) = max tick 0 := by omega
    rw [e5, show']
theorem Before_ok (a b lost : Int) (hl : inI64 lost) (h : List HObj) : ACalls Try.prog F.clock_Before [.int .u32 a, .int .u32 b, .int .i64 lost] h
    (fun r h' => r = (if lost < 0 ∨ lost > 1048576 then .tup [.bool false, .int .i64 1] else .tup [.bool (decide (diff b a > lost)), .int .i64 0]) ∧ h' = h) := by
  refine ACalls.of_aw Try.func41 K.clock_Before (by simp [Try.f41]) ?_
  generalize hQ : retQ R.clock_Before _ = Q
  simp (disch := first | assumption | omega) only [C.clock_Before, go_sem, ↓reduceIte, Nat.reduceEqDiff, reduceCtorEq, Nat.reduceAdd, Nat.reduceLeDiff, Nat.reduceLT, wrapU32, reduceIte, Int.natCast_nonneg, Int.ofNat_lt, Int.ofNat_le, cond_true, cond_false]
  by_cases h1 : lost < 0
  · simp (disch := first | assumption | omega) only [h1, decide_true, go_sem, ↓reduceIte, Nat.reduceEqDiff, reduceCtorEq, Nat.reduceAdd, Nat.reduceLeDiff, Nat.reduceLT, wrapU32, reduceIte, Int.natCast_nonneg, Int.ofNat_lt, Int.ofNat_le, cond_true, cond_false]
    subst hQ
    simp (disch := first | assumption | omega) only [R.clock_Before, go_sem, ↓reduceIte, Nat.reduceEqDiff, reduceCtorEq, Nat.reduceAdd, Nat.reduceLeDiff, Nat.reduceLT, wrapU32, reduceIte, Int.natCast_nonneg, Int.ofNat_lt, Int.ofNat_le, cond_true, cond_false]
    rw [if_pos (.inl h1)]
  · by_cases h2 : lost > 1048576
    · simp (disch := first | assumption | omega) only [h1, h2, decide_true, decide_false, go_sem, ↓reduceIte, Nat.reduceEqDiff, reduceCtorEq, Nat.reduceAdd, Nat.reduceLeDiff, Nat.reduceLT, wrapU32, reduceIte, Int.natCast_nonneg, Int.ofNat_lt, Int.ofNat_le, cond_true, cond_false]
      subst hQ
      simp (disch := first | assumption | omega) only [R.clock_Before, go_sem, ↓reduceIte, Nat.reduceEqDiff, reduceCtorEq, Nat.reduceAdd, Nat.reduceLeDiff, Nat.reduceLT, wrapU32, reduceIte, Int.natCast_nonneg, Int.ofNat_lt, Int.ofNat_le, cond_true, cond_false]
      rw [if_pos (.inr h2)]
    · simp (disch := first | assumption | omega) only [h1, h2, decide_true, decide_false, go_sem, ↓reduceIte, Nat.reduceEqDiff, reduceCtorEq, Nat.reduceAdd, Nat.reduceLeDiff, Nat.reduceLT, wrapU32, reduceIte, Int.natCast_nonneg, Int.ofNat_lt, Int.ofNat_le, cond_true, cond_false]
      refine callG_ok (clock_Diff_ok _ _ _) (by simp (disch := first | assumption | omega) only [go_sem, ↓reduceIte, Nat.reduceEqDiff, reduceCtorEq, Nat.reduceAdd, Nat.reduceLeDiff, Nat.reduceLT, wrapU32, reduceIte, Int.natCast_nonneg, Int.ofNat_lt, Int.ofNat_le, cond_true, cond_false]) ?_
      rintro _ _ ⟨rfl, rfl⟩
      simp (disch := first | assumption | omega) only [go_sem, ↓reduceIte, Nat.reduceEqDiff, reduceCtorEq, Nat.reduceAdd, Nat.reduceLeDiff, Nat.reduceLT, wrapU32, reduceIte, Int.natCast_nonneg, Int.ofNat_lt, Int.ofNat_le, cond_true, cond_false]
      subst hQ
      simp (disch := first | assumption | omega) only [R.clock_Before, go_sem, ↓reduceIte, Nat.reduceEqDiff, reduceCtorEq, Nat.reduceAdd, Nat.reduceLeDiff, Nat.reduceLT, wrapU32, reduceIte, Int.natCast_nonneg, Int.ofNat_lt, Int.ofNat_le, cond_true, cond_false]
      rw [if_neg (by omega)]
theorem Range_ok (a lost : Int) (hl : inI64 lost) (h : List HObj) : ACalls Try.prog F.clock_Range [.int .u32 a, .int .i64 lost] h
    (fun r h' => r = (if lost < 0 ∨ lost > 1048576 then .tup [.int .u32 0, .int .u32 0, .int .i64 1] else .tup [.int .u32 a, .int .u32 (after a lost), .int .i64 0]) ∧ h' = h) := by
  refine ACalls.of_aw Try.func45 K.clock_Range (by simp [Try.f45]) ?_
  generalize hQ : retQ R.clock_Range _ = Q
  simp (disch := first | assumption | omega) only [C.clock_Range, go_sem, ↓reduceIte, Nat.reduceEqDiff, reduceCtorEq, Nat.reduceAdd, Nat.reduceLeDiff, Nat.reduceLT, wrapU32, reduceIte, Int.natCast_nonneg, Int.ofNat_lt, Int.ofNat_le, cond_true, cond_false]
  by_cases h1 : lost < 0
  · simp (disch := first | assumption | omega) only [h1, decide_true, go_sem, ↓reduceIte, Nat.reduceEqDiff, reduceCtorEq, Nat.reduceAdd, Nat.reduceLeDiff, Nat.reduceLT, wrapU32, reduceIte, Int.natCast_nonneg, Int.ofNat_lt, Int.ofNat_le, cond_true, cond_false]
    subst hQ
    simp (disch := first | assumption | omega) only [R.clock_Range, go_sem, ↓reduceIte, Nat.reduceEqDiff, reduceCtorEq, Nat.reduceAdd, Nat.reduceLeDiff, Nat.reduceLT, wrapU32, reduceIte, Int.natCast_nonneg, Int.ofNat_lt, Int.ofNat_le, cond_true, cond_false]
    rw [if_pos (.inl h1)]
  · by_cases h2 : lost > 1048576
    · simp (disch := first | assumption | omega) only [h1, h2, decide_true, decide_false, go_sem, ↓reduceIte, Nat.reduceEqDiff, reduceCtorEq, Nat.reduceAdd, Nat.reduceLeDiff, Nat.reduceLT, wrapU32, reduceIte, Int.natCast_nonneg, Int.ofNat_lt, Int.ofNat_le, cond_true, cond_false]
      subst hQ
      simp (disch := first | assumption | omega) only [R.clock_Range, go_sem, ↓reduceIte, Nat.reduceEqDiff, reduceCtorEq, Nat.reduceAdd, Nat.reduceLeDiff, Nat.reduceLT, wrapU32, reduceIte, Int.natCast_nonneg, Int.ofNat_lt, Int.ofNat_le, cond_true, cond_false]
      rw [if_pos (.inr h2)]
    · simp (disch := first | assumption | omega) only [h1, h2, decide_true, decide_false, go_sem, ↓reduceIte, Nat.reduceEqDiff, reduceCtorEq, Nat.reduceAdd, Nat.reduceLeDiff, Nat.reduceLT, wrapU32, reduceIte, Int.natCast_nonneg, Int.ofNat_lt, Int.ofNat_le, cond_true, cond_false]
      refine callG_ok (clock_After_ok _ _ _) (by simp (disch := first | assumption | omega) only [go_sem, ↓reduceIte, Nat.reduceEqDiff, reduceCtorEq, Nat.reduceAdd, Nat.reduceLeDiff, Nat.reduceLT, wrapU32, reduceIte, Int.natCast_nonneg, Int.ofNat_lt, Int.ofNat_le, cond_true, cond_false]) ?_
      rintro _ _ ⟨rfl, rfl⟩
      simp (disch := first | assumption | omega) only [go_sem, ↓reduceIte, Nat.reduceEqDiff, reduceCtorEq, Nat.reduceAdd, Nat.reduceLeDiff, Nat.reduceLT, wrapU32, reduceIte, Int.natCast_nonneg, Int.ofNat_lt, Int.ofNat_le, cond_true, cond_false]
      subst hQ
      simp (disch := first | assumption | omega) only [R.clock_Range, go_sem, ↓reduceIte, Nat.reduceEqDiff, reduceCtorEq, Nat.reduceAdd, Nat.reduceLeDiff, Nat.reduceLT, wrapU32, reduceIte, Int.natCast_nonneg, Int.ofNat_lt, Int.ofNat_le, cond_true, cond_false]
      rw [if_neg (by omega)]
theorem Middle_ok (a b : Int) (h : List HObj) : ACalls Try.prog F.clock_Middle [.int .u32 a, .int .u32 b] h (fun r h' => r = .int .u32 (after a ((diff b a).tdiv 2)) ∧ h' = h) := by
  refine ACalls.of_aw Try.func56 K.clock_Middle (by simp [Try.f56]) ?_
  generalize hQ : retQ R.clock_Middle _ = Q
  simp (disch := first | assumption | omega) only [C.clock_Middle, go_sem, ↓reduceIte, Nat.reduceEqDiff, reduceCtorEq, Nat.reduceAdd, Nat.reduceLeDiff, Nat.reduceLT, wrapU32, reduceIte, Int.natCast_nonneg, Int.ofNat_lt, Int.ofNat_le, cond_true, cond_false]
  refine callG_ok (clock_Diff_ok _ _ _) (by simp (disch := first | assumption | omega) only [go_sem, ↓reduceIte, Nat.reduceEqDiff, reduceCtorEq, Nat.reduceAdd, Nat.reduceLeDiff, Nat.reduceLT, wrapU32, reduceIte, Int.natCast_nonneg, Int.ofNat_lt, Int.ofNat_le, cond_true, cond_false]) ?_
  rintro _ _ ⟨rfl, rfl⟩
  simp (disch := first | assumption | omega) only [go_sem, ↓reduceIte, Nat.reduceEqDiff, reduceCtorEq, Nat.reduceAdd, Nat.reduceLeDiff, Nat.reduceLT, wrapU32, reduceIte, Int.natCast_nonneg, Int.ofNat_lt, Int.ofNat_le, cond_true, cond_false]
  have hd := diff_bd b a
  have h2 : -2147483648 ≤ (diff b a).tdiv 2 ∧ (diff b a).tdiv 2 < 2147483648 := by
    rcases Int.le_total 0 (diff b a) with h0 | h0
    · rw [Int.tdiv_eq_ediv_of_nonneg h0]; omega
    · have e : diff b a = -(-diff b a) := by omega
      rw [e, Int.neg_tdiv, Int.tdiv_eq_ediv_of_nonneg (by omega)]; omega
  simp (disch := first | assumption | omega) only [go_sem, ↓reduceIte, Nat.reduceEqDiff, reduceCtorEq, Nat.reduceAdd, Nat.reduceLeDiff, Nat.reduceLT, wrapU32, reduceIte, Int.natCast_nonneg, Int.ofNat_lt, Int.ofNat_le, cond_true, cond_false]
  refine ⟨by omega, ?_⟩
  refine callG_ok (clock_After_ok _ _ _) (by simp (disch := first | assumption | omega) only [go_sem, ↓reduceIte, Nat.reduceEqDiff, reduceCtorEq, Nat.reduceAdd, Nat.reduceLeDiff, Nat.reduceLT, wrapU32, reduceIte, Int.natCast_nonneg, Int.ofNat_lt, Int.ofNat_le, cond_true, cond_false]) ?_
  rintro _ _ ⟨rfl, rfl⟩
  simp (disch := first | assumption | omega) only [go_sem, ↓reduceIte, Nat.reduceEqDiff, reduceCtorEq, Nat.reduceAdd, Nat.reduceLeDiff, Nat.reduceLT, wrapU32, reduceIte, Int.natCast_nonneg, Int.ofNat_lt, Int.ofNat_le, cond_true, cond_false]
  subst hQ
  simp (disch := first | assumption | omega) only [R.clock_Middle, go_sem, ↓reduceIte, Nat.reduceEqDiff, reduceCtorEq, Nat.reduceAdd, Nat.reduceLeDiff, Nat.reduceLT, wrapU32, reduceIte, Int.natCast_nonneg, Int.ofNat_lt, Int.ofNat_le, cond_true, cond_false]
end Go.Proofs.Ytpdajkbfemcdlaa
