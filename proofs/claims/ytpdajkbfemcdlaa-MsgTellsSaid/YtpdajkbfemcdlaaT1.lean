import Derived.Test.YtpdajkbfemcdlaaGeD
import Derived.Test.YtpdajkbfemcdlaaCa
set_option linter.unusedSimpArgs false
namespace Go.Proofs.Ytpdajkbfemcdlaa
open Go.Ge
/-- The m least significant bytes of a number, the most significant first. -/
def beBytes (n : Int) : Nat → List Int
  | 0 => []
  | m + 1 => beBytes (n / 256) m ++ [n % 256]
theorem beBytes_length (n : Int) (m : Nat) : (beBytes n m).length = m := by
  induction m generalizing n with
  | zero => rfl
  | succ m ih => simp [beBytes, ih]
def beStep (n : Int) : Nat → Int
  | 0 => n
  | m + 1 => beStep n m / 256
theorem beBytes_split (n : Int) (m k : Nat) : beBytes n (m + k) = beBytes (beStep n k) m ++ beBytes n k := by
  induction k generalizing n with
  | zero => simp [beBytes, beStep]
  | succ k ih =>
    have e : ∀ k n, beStep n (k + 1) = beStep (n / 256) k := by
      intro k
      induction k with
      | zero => intro n; rfl
      | succ k ih => intro n; rw [beStep, ih]; rfl
    rw [← Nat.add_assoc, beBytes, ih, e, beBytes, List.append_assoc]
theorem beStep_bd (n : Int) (k : Nat) (h0 : 0 ≤ n) (h : n < 18446744073709551616) : 0 ≤ beStep n k ∧ beStep n k < 18446744073709551616 := by
  induction k with
  | zero => exact ⟨h0, h⟩
  | succ k ih => rw [beStep]; omega
theorem Bytes_ok (n : Int) (m : Nat) (hn0 : 0 ≤ n) (hn : n < 18446744073709551616) (hm : m ≤ 1000) (h : List HObj) :
    ACalls Try.prog F.gantref5_Bytes [.int .u64 n, .int .i64 m] h (fun r h' => r = .lst (.uniq 1 m) (ints .u8 (beBytes n m)) ∧ h' = h) := by
  refine ACalls.gcn (ACalls.of_aw Try.func155 K.gantref5_Bytes (by simp [Try.f155]) ?_)
  generalize hQ : retQ R.gantref5_Bytes _ = Q
  simp (disch := first | assumption | omega) only [C.gantref5_Bytes, go_sem, ↓reduceIte, Nat.reduceEqDiff, reduceCtorEq, Nat.reduceAdd, Nat.reduceLeDiff, Nat.reduceLT, wrapU32, reduceIte]
  refine ⟨⟨by omega, by omega, by omega⟩, ?_⟩
  refine thaw_ints (n := m) (k := .u8) (ns := List.replicate m 0) (by simp (disch := first | assumption | omega) only [ints_rep, go_sem, ↓reduceIte, Nat.reduceEqDiff, reduceCtorEq, Nat.reduceAdd, Nat.reduceLeDiff, Nat.reduceLT, wrapU32, reduceIte]) (by simp) ?_
  simp (disch := first | assumption | omega) only [go_sem, ↓reduceIte, Nat.reduceEqDiff, reduceCtorEq, Nat.reduceAdd, Nat.reduceLeDiff, Nat.reduceLT, wrapU32, reduceIte]
  refine aw_count (fun d S => ∃ (k : Nat), k + d = m ∧ S.env 6 = .int .i64 ((d : Int) - 1) ∧ S.env 0 = .int .u64 (beStep n k) ∧ S.env 5 = .ref h.length 0 m m ∧
    S.heap = h ++ [.cells (ints .u8 (List.replicate d 0 ++ beBytes n k))]) (n := m) ?_ ?_
  · refine ⟨0, by omega, ?_⟩
    simp [go_sem, beStep, beBytes]
  · rintro d S ⟨k, hk, e6, e0, e5, eh⟩
    simp (disch := first | assumption | omega) only [e6, e0, e5, eh, go_sem, ↓reduceIte, Nat.reduceEqDiff, reduceCtorEq, Nat.reduceAdd, Nat.reduceLeDiff, Nat.reduceLT, wrapU32, reduceIte]
    refine condG_if ?_ ?_
    · intro hlt
      obtain ⟨d, rfl⟩ : ∃ d', d = d' + 1 := ⟨d - 1, by omega⟩
      have hb := beStep_bd n k hn0 hn
      simp (disch := first | assumption | omega) only [e6, e0, e5, eh, go_sem, ↓reduceIte, Nat.reduceEqDiff, reduceCtorEq, Nat.reduceAdd, Nat.reduceLeDiff, Nat.reduceLT, wrapU32, reduceIte]
      have e1 : (((d + 1 : Nat) : Int) - 1).toNat = d := by omega
      simp only [e1, Nat.mul_one, ints_length, List.length_append, List.length_replicate]
      refine ⟨⟨by omega, by omega⟩, by omega, by omega, d, by omega, k + 1, by omega, by rw [show (((d + 1 : Nat) : Int) - 1 - 1) = (d : Int) - 1 by omega], ?_, ?_⟩
      · rfl
      · rw [ints_set _ _ _ (by simp; omega), wrapU8_mod]
        congr 4
        rw [List.set_append_left _ _ (by simp), List.replicate_succ', List.set_append_right _ _ (by simp)]
        have e2 : beBytes n (k + 1) = [beStep n k % 256] ++ beBytes n k := by
          have := beBytes_split n 1 k
          rw [Nat.add_comm] at this
          simpa [beBytes] using this
        simp [e2]
    · intro hge
      obtain rfl : d = 0 := by omega
      obtain rfl : k = m := by omega
      simp (disch := first | assumption | omega) only [e6, e0, e5, eh, List.replicate_zero, go_sem, ↓reduceIte, Nat.reduceEqDiff, reduceCtorEq, Nat.reduceAdd, Nat.reduceLeDiff, Nat.reduceLT, wrapU32, reduceIte]
      refine own_ints (id := h.length) (n := k) (k := .u8) (ns := beBytes n k) (by simp (disch := first | assumption | omega) only [go_sem, ↓reduceIte, Nat.reduceEqDiff, reduceCtorEq, Nat.reduceAdd, Nat.reduceLeDiff, Nat.reduceLT, wrapU32, reduceIte]) (by simp (disch := first | assumption | omega) only [eh, List.replicate_zero, go_sem, ↓reduceIte, Nat.reduceEqDiff, reduceCtorEq, Nat.reduceAdd, Nat.reduceLeDiff, Nat.reduceLT, wrapU32, reduceIte]) (beBytes_length n k) ?_
      rintro hp hhp
      subst hQ
      simp (disch := first | assumption | omega) only [R.gantref5_Bytes, go_sem, ↓reduceIte, Nat.reduceEqDiff, reduceCtorEq, Nat.reduceAdd, Nat.reduceLeDiff, Nat.reduceLT, wrapU32, reduceIte]
      rcases hhp with rfl | rfl
      · simp (disch := first | assumption | omega) only [eh, go_sem, ↓reduceIte, Nat.reduceEqDiff, reduceCtorEq, Nat.reduceAdd, Nat.reduceLeDiff, Nat.reduceLT, wrapU32, reduceIte]
        exact ⟨_, rfl, by simp [AVal.ids, ints_ids]⟩
      · simp (disch := first | assumption | omega) only [eh, go_sem, ↓reduceIte, Nat.reduceEqDiff, reduceCtorEq, Nat.reduceAdd, Nat.reduceLeDiff, Nat.reduceLT, wrapU32, reduceIte]
        exact ⟨_, rfl, by simp [AVal.ids, ints_ids]⟩
end Go.Proofs.Ytpdajkbfemcdlaa
