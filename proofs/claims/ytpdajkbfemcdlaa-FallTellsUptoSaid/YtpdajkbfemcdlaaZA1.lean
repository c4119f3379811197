import Derived.Test.YtpdajkbfemcdlaaGeD
import Derived.Test.YtpdajkbfemcdlaaChecked
import Derived.Test.YtpdajkbfemcdlaaFn
import Derived.KernelRfl
/- Annotated code of functions, checked against the program. -/
namespace Go.Proofs.Ytpdajkbfemcdlaa
open Go.Ge
/-- gantry/gantref5.Bytes -/
def C.gantref5_Bytes : ACode :=
  .seq (.region [
    ⟨some 4, .move false (.c (.lst .nil [])), none⟩]) (
  .seq (.region [
    ⟨some 7, .move false (.t 1), none⟩, 
    ⟨some 8, .mkslice 1 1 true (.int .u8 0) (.t 7), none⟩, 
    ⟨some 5, .move true (.t 8), none⟩]) (
  .seq (.seq (.region [
    ⟨some 9, .move false (.t 1), none⟩, 
    ⟨some 10, .bin .sub (.t 9) (.c (.int .i64 1)), none⟩, 
    ⟨some 6, .move false (.t 10), none⟩]) (
  .block 0 (.thaw 5 (.loop (.seq (.seq (.region [
    ⟨some 11, .move false (.t 6), none⟩, 
    ⟨some 12, .bin .geq (.t 11) (.c (.int .i64 0)), none⟩]) (
  .cond (.t 12) (.skip) (.exit 0))) (
  .seq (.block 1 (.seq (.region [
    ⟨some 15, .move false (.t 5), none⟩, 
    ⟨some 16, .move false (.t 6), none⟩, 
    ⟨some 17, .move false (.t 0), none⟩, 
    ⟨some 18, .conv .u8 (.t 17), none⟩, 
    ⟨some 19, .iaddr 1 (.t 15) (.t 16), none⟩, 
    ⟨none, .store 1 (.t 19) (.t 18), none⟩]) (
  .region [
    ⟨some 20, .move false (.t 0), none⟩, 
    ⟨some 21, .bin .quo (.t 20) (.c (.int .u64 256)), none⟩, 
    ⟨some 0, .move false (.t 21), none⟩]))) (
  .region [
    ⟨some 13, .move false (.t 6), none⟩, 
    ⟨some 14, .bin .sub (.t 13) (.c (.int .i64 1)), none⟩, 
    ⟨some 6, .move false (.t 14), none⟩]))))))) (
  .seq (.region [
    ⟨some 22, .move false (.t 5), none⟩, 
    ⟨some 4, .move false (.t 22), none⟩]) (
  .own 4 false 1 (.ret)))))
def R.gantref5_Bytes : List ARes := [.t 4]
set_option maxRecDepth 100000 in
theorem K.gantref5_Bytes : ckFun Try.prog Try.f155 C.gantref5_Bytes R.gantref5_Bytes = true := by kernel_rfl
end Go.Proofs.Ytpdajkbfemcdlaa
set_option linter.unusedSimpArgs false
namespace Go.Proofs.Ytpdajkbfemcdlaa
open Go.Ge
/-- The m least significant bytes of a number, the most significant first. -/
def beBytes (n : Int) : Nat → List Int
  | 0 => []
  | m + 1 => beBytes (n / 256) m ++ [n % 256]
theorem beBytes_length (n : Int) (m : Nat) : (beBytes n m).length = m := by
  induction m generalizing n with
  | zero => rfl
  | succ m ih => simp [beBytes, ih]
def beStep (n : Int) : Nat → Int
  | 0 => n
  | m + 1 => beStep n m / 256
theorem beBytes_split (n : Int) (m k : Nat) : beBytes n (m + k) = beBytes (beStep n k) m ++ beBytes n k := by
  induction k generalizing n with
  | zero => simp [beBytes, beStep]
  | succ k ih =>
    have e : ∀ k n, beStep n (k + 1) = beStep (n / 256) k := by
      intro k
      induction k with
      | zero => intro n; rfl
      | succ k ih => intro n; rw [beStep, ih]; rfl
    rw [← Nat.add_assoc, beBytes, ih, e, beBytes, List.append_assoc]
theorem beStep_bd (n : Int) (k : Nat) (h0 : 0 ≤ n) (h : n < 18446744073709551616) : 0 ≤ beStep n k ∧ beStep n k < 18446744073709551616 := by
  induction k with
  | zero => exact ⟨h0, h⟩
  | succ k ih => rw [beStep]; omega
theorem Bytes_ok (n : Int) (m : Nat) (hn0 : 0 ≤ n) (hn : n < 18446744073709551616) (hm : m ≤ 1000) (h : List HObj) :
    ACalls Try.prog F.gantref5_Bytes [.int .u64 n, .int .i64 m] h (fun r h' => r = .lst (.uniq 1 m) (ints .u8 (beBytes n m)) ∧ h' = h) := by
  refine ACalls.gcn (ACalls.of_aw Try.func155 K.gantref5_Bytes (by simp [Try.f155]) ?_)
  generalize hQ : retQ R.gantref5_Bytes _ = Q
  simp (disch := first | assumption | omega) only [C.gantref5_Bytes, go_sem, ↓reduceIte, Nat.reduceEqDiff, reduceCtorEq, Nat.reduceAdd, Nat.reduceLeDiff, Nat.reduceLT, wrapU32, reduceIte]
  refine ⟨⟨by omega, by omega, by omega⟩, ?_⟩
  refine thaw_ints (n := m) (k := .u8) (ns := List.replicate m 0) (by simp (disch := first | assumption | omega) only [ints_rep, go_sem, ↓reduceIte, Nat.reduceEqDiff, reduceCtorEq, Nat.reduceAdd, Nat.reduceLeDiff, Nat.reduceLT, wrapU32, reduceIte]) (by simp) ?_
  simp (disch := first | assumption | omega) only [go_sem, ↓reduceIte, Nat.reduceEqDiff, reduceCtorEq, Nat.reduceAdd, Nat.reduceLeDiff, Nat.reduceLT, wrapU32, reduceIte]
  refine aw_count (fun d S => ∃ (k : Nat), k + d = m ∧ S.env 6 = .int .i64 ((d : Int) - 1) ∧ S.env 0 = .int .u64 (beStep n k) ∧ S.env 5 = .ref h.length 0 m m ∧
    S.heap = h ++ [.cells (ints .u8 (List.replicate d 0 ++ beBytes n k))]) (n := m) ?_ ?_
  · refine ⟨0, by omega, ?_⟩
    simp [go_sem, beStep, beBytes]
  · rintro d S ⟨k, hk, e6, e0, e5, eh⟩
    simp (disch := first | assumption | omega) only [e6, e0, e5, eh, go_sem, ↓reduceIte, Nat.reduceEqDiff, reduceCtorEq, Nat.reduceAdd, Nat.reduceLeDiff, Nat.reduceLT, wrapU32, reduceIte]
    refine condG_if ?_ ?_
    · intro hlt
      obtain ⟨d, rfl⟩ : ∃ d', d = d' + 1 := ⟨d - 1, by omega⟩
      have hb := beStep_bd n k hn0 hn
      simp (disch := first | assumption | omega) only [e6, e0, e5, eh, go_sem, ↓reduceIte, Nat.reduceEqDiff, reduceCtorEq, Nat.reduceAdd, Nat.reduceLeDiff, Nat.reduceLT, wrapU32, reduceIte]
      have e1 : (((d + 1 : Nat) : Int) - 1).toNat = d := by omega
      simp only [e1, Nat.mul_one, ints_length, List.length_append, List.length_replicate]
      refine ⟨⟨by omega, by omega⟩, by omega, by omega, d, by omega, k + 1, by omega, by rw [show (((d + 1 : Nat) : Int) - 1 - 1) = (d : Int) - 1 by omega], ?_, ?_⟩
      · rfl
      · rw [ints_set _ _ _ (by simp; omega), wrapU8_mod]
        congr 4
        rw [List.set_append_left _ _ (by simp), List.replicate_succ', List.set_append_right _ _ (by simp)]
        have e2 : beBytes n (k + 1) = [beStep n k % 256] ++ beBytes n k := by
          have := beBytes_split n 1 k
          rw [Nat.add_comm] at this
          simpa [beBytes] using this
        simp [e2]
    · intro hge
      obtain rfl : d = 0 := by omega
      obtain rfl : k = m := by omega
      simp (disch := first | assumption | omega) only [e6, e0, e5, eh, List.replicate_zero, go_sem, ↓reduceIte, Nat.reduceEqDiff, reduceCtorEq, Nat.reduceAdd, Nat.reduceLeDiff, Nat.reduceLT, wrapU32, reduceIte]
      refine own_ints (id := h.length) (n := k) (k := .u8) (ns := beBytes n k) (by simp (disch := first | assumption | omega) only [go_sem, ↓reduceIte, Nat.reduceEqDiff, reduceCtorEq, Nat.reduceAdd, Nat.reduceLeDiff, Nat.reduceLT, wrapU32, reduceIte]) (by simp (disch := first | assumption | omega) only [eh, List.replicate_zero, go_sem, ↓reduceIte, Nat.reduceEqDiff, reduceCtorEq, Nat.reduceAdd, Nat.reduceLeDiff, Nat.reduceLT, wrapU32, reduceIte]) (beBytes_length n k) ?_
      rintro hp hhp
      subst hQ
      simp (disch := first | assumption | omega) only [R.gantref5_Bytes, go_sem, ↓reduceIte, Nat.reduceEqDiff, reduceCtorEq, Nat.reduceAdd, Nat.reduceLeDiff, Nat.reduceLT, wrapU32, reduceIte]
      rcases hhp with rfl | rfl
      · simp (disch := first | assumption | omega) only [eh, go_sem, ↓reduceIte, Nat.reduceEqDiff, reduceCtorEq, Nat.reduceAdd, Nat.reduceLeDiff, Nat.reduceLT, wrapU32, reduceIte]
        exact ⟨_, rfl, by simp [AVal.ids, ints_ids]⟩
      · simp (disch := first | assumption | omega) only [eh, go_sem, ↓reduceIte, Nat.reduceEqDiff, reduceCtorEq, Nat.reduceAdd, Nat.reduceLeDiff, Nat.reduceLT, wrapU32, reduceIte]
        exact ⟨_, rfl, by simp [AVal.ids, ints_ids]⟩
end Go.Proofs.Ytpdajkbfemcdlaa
/- Annotated code of functions, checked against the program. -/
namespace Go.Proofs.Ytpdajkbfemcdlaa
open Go.Ge
/-- slices.Equal[[]gantry/api.Cell,gantry/api.Cell] -/
def C.slices_Equal_Cell : ACode :=
  .seq (.region [
    ⟨some 4, .move false (.c (.bool false)), none⟩]) (
  .seq (.seq (.region [
    ⟨some 6, .move false (.t 0), none⟩, 
    ⟨some 7, .len (.t 6), none⟩, 
    ⟨some 8, .move false (.t 1), none⟩, 
    ⟨some 9, .len (.t 8), none⟩, 
    ⟨some 10, .bin .neq (.t 7) (.t 9), none⟩]) (
  .cond (.t 10) (.seq (.region [
    ⟨some 4, .move false (.c (.bool false)), none⟩]) (
  .ret)) (.skip))) (
  .seq (.seq (.region [
    ⟨some 11, .move false (.t 0), none⟩, 
    ⟨some 12, .len (.t 11), none⟩, 
    ⟨some 13, .move false (.c (.int .i64 0)), none⟩]) (
  .block 0 (.loop (.seq (.region [
    ⟨some 14, .bin .lss (.t 13) (.t 12), none⟩]) (
  .seq (.cond (.t 14) (.skip) (.exit 0)) (
  .seq (.block 1 (.seq (.region [
    ⟨some 15, .move false (.t 13), none⟩, 
    ⟨some 5, .move false (.t 15), none⟩]) (
  .seq (.drawn [0, 1, 2, 3, 4, 5, 6, 7, 8] [0, 0, 3, 7, 0, 0, 48, 112, 255] [
    ⟨some 16, .move false (.t 0), none⟩, 
    ⟨some 17, .move false (.t 5), none⟩, 
    ⟨some 18, .iaddr 2 (.t 16) (.t 17), none⟩, 
    ⟨some 19, .load 0 true 2 (.t 18), none⟩, 
    ⟨some 20, .move false (.t 1), none⟩, 
    ⟨some 21, .move false (.t 5), none⟩, 
    ⟨some 22, .iaddr 2 (.t 20) (.t 21), none⟩, 
    ⟨some 23, .load 0 true 2 (.t 22), none⟩, 
    ⟨some 24, .eqs true [.i .i64, .i .i64] (.t 19) (.t 23), none⟩]) (
  .cond (.t 24) (.seq (.region [
    ⟨some 4, .move false (.c (.bool false)), none⟩]) (
  .ret)) (.skip))))) (
  .region [
    ⟨some 25, .bin .add (.t 13) (.c (.int .i64 1)), none⟩, 
    ⟨some 13, .move false (.t 25), none⟩]))))))) (
  .seq (.region [
    ⟨some 4, .move false (.c (.bool true)), none⟩]) (
  .ret))))
def R.slices_Equal_Cell : List ARes := [.t 4]
set_option maxRecDepth 100000 in
theorem K.slices_Equal_Cell : ckFun Try.prog Try.f123 C.slices_Equal_Cell R.slices_Equal_Cell = true := by kernel_rfl
/-- slices.Clone[[]gantry/api.Cell,gantry/api.Cell] -/
def C.slices_Clone_Cell : ACode :=
  .seq (.region [
    ⟨some 2, .move false (.c (.lst .nil [])), none⟩]) (
  .seq (.seq (.region [
    ⟨some 3, .move false (.t 0), none⟩, 
    ⟨some 4, .isnil false false (.t 3), none⟩]) (
  .cond (.t 4) (.seq (.region [
    ⟨some 2, .move false (.c (.lst .nil [])), none⟩]) (
  .ret)) (.skip))) (
  .seq (.region [
    ⟨some 5, .buildS false 2 [], none⟩, 
    ⟨some 6, .move false (.t 0), none⟩, 
    ⟨some 7, .append 2 16 (.t 5) (.t 6), none⟩, 
    ⟨some 2, .move true (.t 7), none⟩]) (
  .ret)))
def R.slices_Clone_Cell : List ARes := [.t 2]
set_option maxRecDepth 100000 in
theorem K.slices_Clone_Cell : ckFun Try.prog Try.f148 C.slices_Clone_Cell R.slices_Clone_Cell = true := by kernel_rfl
end Go.Proofs.Ytpdajkbfemcdlaa
/- Annotated code of functions, checked against the program. -/
namespace Go.Proofs.Ytpdajkbfemcdlaa
open Go.Ge
/-- slices.Equal[[]byte,byte] -/
def C.slices_Equal_byte : ACode :=
  .seq (.region [
    ⟨some 4, .move false (.c (.bool false)), none⟩]) (
  .seq (.seq (.region [
    ⟨some 6, .move false (.t 0), none⟩, 
    ⟨some 7, .len (.t 6), none⟩, 
    ⟨some 8, .move false (.t 1), none⟩, 
    ⟨some 9, .len (.t 8), none⟩, 
    ⟨some 10, .bin .neq (.t 7) (.t 9), none⟩]) (
  .cond (.t 10) (.seq (.region [
    ⟨some 4, .move false (.c (.bool false)), none⟩]) (
  .ret)) (.skip))) (
  .seq (.seq (.region [
    ⟨some 11, .move false (.t 0), none⟩, 
    ⟨some 12, .len (.t 11), none⟩, 
    ⟨some 13, .move false (.c (.int .i64 0)), none⟩]) (
  .block 0 (.loop (.seq (.region [
    ⟨some 14, .bin .lss (.t 13) (.t 12), none⟩]) (
  .seq (.cond (.t 14) (.skip) (.exit 0)) (
  .seq (.block 1 (.seq (.region [
    ⟨some 15, .move false (.t 13), none⟩, 
    ⟨some 5, .move false (.t 15), none⟩]) (
  .seq (.drawn [0, 1, 2, 3, 4, 5, 6, 7, 8] [0, 0, 3, 7, 0, 0, 48, 112, 255] [
    ⟨some 16, .move false (.t 0), none⟩, 
    ⟨some 17, .move false (.t 5), none⟩, 
    ⟨some 18, .iaddr 1 (.t 16) (.t 17), none⟩, 
    ⟨some 19, .load 0 false 1 (.t 18), none⟩, 
    ⟨some 20, .move false (.t 1), none⟩, 
    ⟨some 21, .move false (.t 5), none⟩, 
    ⟨some 22, .iaddr 1 (.t 20) (.t 21), none⟩, 
    ⟨some 23, .load 0 false 1 (.t 22), none⟩, 
    ⟨some 24, .bin .neq (.t 19) (.t 23), none⟩]) (
  .cond (.t 24) (.seq (.region [
    ⟨some 4, .move false (.c (.bool false)), none⟩]) (
  .ret)) (.skip))))) (
  .region [
    ⟨some 25, .bin .add (.t 13) (.c (.int .i64 1)), none⟩, 
    ⟨some 13, .move false (.t 25), none⟩]))))))) (
  .seq (.region [
    ⟨some 4, .move false (.c (.bool true)), none⟩]) (
  .ret))))
def R.slices_Equal_byte : List ARes := [.t 4]
set_option maxRecDepth 100000 in
theorem K.slices_Equal_byte : ckFun Try.prog Try.f65 C.slices_Equal_byte R.slices_Equal_byte = true := by kernel_rfl
/-- gantry/gantref5.Value -/
def C.gantref5_Value : ACode :=
  .seq (.region [
    ⟨some 2, .move false (.c (.int .i64 0)), none⟩]) (
  .seq (.region [
    ⟨some 3, .move false (.c (.int .i64 0)), none⟩]) (
  .seq (.seq (.region [
    ⟨some 6, .move false (.t 0), none⟩, 
    ⟨some 7, .len (.t 6), none⟩, 
    ⟨some 8, .move false (.c (.int .i64 0)), none⟩]) (
  .block 0 (.loop (.seq (.region [
    ⟨some 9, .bin .lss (.t 8) (.t 7), none⟩]) (
  .seq (.cond (.t 9) (.skip) (.exit 0)) (
  .seq (.block 1 (.seq (.region [
    ⟨some 10, .iaddr 1 (.t 6) (.t 8), none⟩, 
    ⟨some 11, .load 2 false 1 (.t 10), none⟩, 
    ⟨some 5, .move false (.t 11), none⟩]) (
  .region [
    ⟨some 12, .move false (.t 3), none⟩, 
    ⟨some 13, .bin .mul (.c (.int .i64 256)) (.t 12), none⟩, 
    ⟨some 14, .move false (.t 5), none⟩, 
    ⟨some 15, .conv .i64 (.t 14), none⟩, 
    ⟨some 16, .bin .add (.t 13) (.t 15), none⟩, 
    ⟨some 3, .move false (.t 16), none⟩]))) (
  .region [
    ⟨some 17, .bin .add (.t 8) (.c (.int .i64 1)), none⟩, 
    ⟨some 8, .move false (.t 17), none⟩]))))))) (
  .seq (.region [
    ⟨some 18, .move false (.t 3), none⟩, 
    ⟨some 2, .move false (.t 18), none⟩]) (
  .ret))))
def R.gantref5_Value : List ARes := [.t 2]
set_option maxRecDepth 100000 in
theorem K.gantref5_Value : ckFun Try.prog Try.f154 C.gantref5_Value R.gantref5_Value = true := by kernel_rfl
end Go.Proofs.Ytpdajkbfemcdlaa
/- Annotated code of functions, checked against the program. -/
namespace Go.Proofs.Ytpdajkbfemcdlaa
open Go.Ge
/-- gantry/grid.Check -/
def C.grid_Check : ACode :=
  .seq (.region [
    ⟨some 2, .move false (.c (.int .i64 0)), none⟩]) (
  .seq (.seq (.region [
    ⟨some 5, .move false (.t 0), none⟩, 
    ⟨some 6, .len (.t 5), none⟩, 
    ⟨some 7, .bin .gtr (.t 6) (.c (.int .i64 400)), none⟩]) (
  .cond (.t 7) (.seq (.region [
    ⟨some 2, .move false (.c (.int .i64 2)), none⟩]) (
  .ret)) (.skip))) (
  .seq (.seq (.region [
    ⟨some 8, .move false (.t 0), none⟩, 
    ⟨some 9, .len (.t 8), none⟩, 
    ⟨some 10, .move false (.c (.int .i64 0)), none⟩]) (
  .block 0 (.loop (.seq (.region [
    ⟨some 11, .bin .lss (.t 10) (.t 9), none⟩]) (
  .seq (.cond (.t 11) (.skip) (.exit 0)) (
  .seq (.block 1 (.seq (.region [
    ⟨some 12, .move false (.t 10), none⟩, 
    ⟨some 13, .iaddr 2 (.t 8) (.t 10), none⟩, 
    ⟨some 14, .load 2 true 2 (.t 13), none⟩, 
    ⟨some 4, .alloc false [(.int .i64 0), (.int .i64 0)], none⟩, 
    ⟨some 3, .move false (.t 12), none⟩, 
    ⟨none, .store 2 (.t 4) (.t 14), none⟩]) (
  .seq (.seq (.region [
    ⟨some 15, .faddr 0 (.t 4), none⟩, 
    ⟨some 16, .load 2 false 1 (.t 15), none⟩, 
    ⟨some 17, .call true F.grid_on [(.t 16)], none⟩, 
    ⟨some 18, .un .not (.t 17), none⟩, 
    ⟨some 19, .move false (.t 18), none⟩, 
    ⟨some 20, .faddr 1 (.t 4), (some (19, false))⟩, 
    ⟨some 21, .load 2 false 1 (.t 20), (some (19, false))⟩, 
    ⟨some 22, .call true F.grid_on [(.t 21)], (some (19, false))⟩, 
    ⟨some 23, .un .not (.t 22), (some (19, false))⟩, 
    ⟨some 24, .pick (.t 19) (.c (.bool true)) (.t 23), none⟩]) (
  .cond (.t 24) (.seq (.region [
    ⟨some 2, .move false (.c (.int .i64 17)), none⟩]) (
  .ret)) (.skip))) (
  .seq (.drawn [0, 1, 2, 3, 4, 5, 6, 7, 8, 9, 10, 11] [0, 1, 3, 7, 7, 23, 63, 127, 7, 511, 1023, 2047] [
    ⟨some 25, .move false (.t 3), none⟩, 
    ⟨some 26, .bin .gtr (.t 25) (.c (.int .i64 0)), none⟩, 
    ⟨some 27, .move false (.t 26), none⟩, 
    ⟨some 28, .move false (.t 0), (some (27, true))⟩, 
    ⟨some 29, .move false (.t 3), (some (27, true))⟩, 
    ⟨some 30, .bin .sub (.t 29) (.c (.int .i64 1)), (some (27, true))⟩, 
    ⟨some 31, .iaddr 2 (.t 28) (.t 30), (some (27, true))⟩, 
    ⟨some 32, .load 0 true 2 (.t 31), (some (27, true))⟩, 
    ⟨some 33, .load 1 true 2 (.t 4), (some (27, true))⟩, 
    ⟨some 34, .call false F.grid_order [(.t 32), (.t 33)], (some (27, true))⟩, 
    ⟨some 35, .bin .geq (.t 34) (.c (.int .i64 0)), (some (27, true))⟩, 
    ⟨some 36, .pick (.t 27) (.t 35) (.c (.bool false)), none⟩]) (
  .cond (.t 36) (.seq (.region [
    ⟨some 2, .move false (.c (.int .i64 9)), none⟩]) (
  .ret)) (.skip)))))) (
  .region [
    ⟨some 37, .bin .add (.t 10) (.c (.int .i64 1)), none⟩, 
    ⟨some 10, .move false (.t 37), none⟩]))))))) (
  .seq (.region [
    ⟨some 2, .move false (.c (.int .i64 0)), none⟩]) (
  .ret))))
def R.grid_Check : List ARes := [.t 2]
set_option maxRecDepth 100000 in
theorem K.grid_Check : ckFun Try.prog Try.f158 C.grid_Check R.grid_Check = true := by kernel_rfl
/-- gantry/grid.on -/
def C.grid_on : ACode :=
  .seq (.region [
    ⟨some 2, .move false (.c (.bool false)), none⟩]) (
  .seq (.region [
    ⟨some 3, .move false (.t 0), none⟩, 
    ⟨some 4, .bin .geq (.t 3) (.c (.int .i64 (-64))), none⟩, 
    ⟨some 5, .move false (.t 4), none⟩, 
    ⟨some 6, .move false (.t 0), (some (5, true))⟩, 
    ⟨some 7, .bin .lss (.t 6) (.c (.int .i64 64)), (some (5, true))⟩, 
    ⟨some 8, .pick (.t 5) (.t 7) (.c (.bool false)), none⟩, 
    ⟨some 2, .move false (.t 8), none⟩]) (
  .ret))
def R.grid_on : List ARes := [.t 2]
set_option maxRecDepth 100000 in
theorem K.grid_on : ckFun Try.prog Try.f197 C.grid_on R.grid_on = true := by kernel_rfl
/-- gantry/grid.order -/
def C.grid_order : ACode :=
  .seq (.region [
    ⟨some 2, .bx false (.t 0), none⟩, 
    ⟨some 3, .bx false (.t 1), none⟩, 
    ⟨some 4, .move false (.c (.int .i64 0)), none⟩]) (
  .seq (.seq (.region [
    ⟨some 6, .faddr 1 (.t 2), none⟩, 
    ⟨some 7, .load 2 false 1 (.t 6), none⟩, 
    ⟨some 8, .faddr 1 (.t 3), none⟩, 
    ⟨some 9, .load 2 false 1 (.t 8), none⟩, 
    ⟨some 10, .call true F.cmp_Compare_int [(.t 7), (.t 9)], none⟩, 
    ⟨some 5, .move false (.t 10), none⟩]) (
  .seq (.region [
    ⟨some 11, .move false (.t 5), none⟩, 
    ⟨some 12, .bin .neq (.t 11) (.c (.int .i64 0)), none⟩]) (
  .cond (.t 12) (.seq (.region [
    ⟨some 13, .move false (.t 5), none⟩, 
    ⟨some 4, .move false (.t 13), none⟩]) (
  .ret)) (.skip)))) (
  .seq (.region [
    ⟨some 14, .faddr 0 (.t 2), none⟩, 
    ⟨some 15, .load 2 false 1 (.t 14), none⟩, 
    ⟨some 16, .faddr 0 (.t 3), none⟩, 
    ⟨some 17, .load 2 false 1 (.t 16), none⟩, 
    ⟨some 18, .call true F.cmp_Compare_int [(.t 15), (.t 17)], none⟩, 
    ⟨some 4, .move false (.t 18), none⟩]) (
  .ret)))
def R.grid_order : List ARes := [.t 4]
set_option maxRecDepth 100000 in
theorem K.grid_order : ckFun Try.prog Try.f198 C.grid_order R.grid_order = true := by kernel_rfl
/-- cmp.Compare[int] -/
def C.cmp_Compare_int : ACode :=
  .seq (.region [
    ⟨some 4, .move false (.c (.int .i64 0)), none⟩]) (
  .seq (.region [
    ⟨some 7, .move false (.t 0), none⟩, 
    ⟨some 8, .call true F.cmp_isNaN_int [(.t 7)], none⟩, 
    ⟨some 5, .move false (.t 8), none⟩]) (
  .seq (.region [
    ⟨some 9, .move false (.t 1), none⟩, 
    ⟨some 10, .call true F.cmp_isNaN_int [(.t 9)], none⟩, 
    ⟨some 6, .move false (.t 10), none⟩]) (
  .seq (.seq (.region [
    ⟨some 11, .move false (.t 5), none⟩]) (
  .cond (.t 11) (.seq (.seq (.region [
    ⟨some 12, .move false (.t 6), none⟩]) (
  .cond (.t 12) (.seq (.region [
    ⟨some 4, .move false (.c (.int .i64 0)), none⟩]) (
  .ret)) (.skip))) (
  .seq (.region [
    ⟨some 4, .move false (.c (.int .i64 (-1))), none⟩]) (
  .ret))) (.skip))) (
  .seq (.seq (.region [
    ⟨some 13, .move false (.t 6), none⟩]) (
  .cond (.t 13) (.seq (.region [
    ⟨some 4, .move false (.c (.int .i64 1)), none⟩]) (
  .ret)) (.skip))) (
  .seq (.seq (.region [
    ⟨some 14, .move false (.t 0), none⟩, 
    ⟨some 15, .move false (.t 1), none⟩, 
    ⟨some 16, .bin .lss (.t 14) (.t 15), none⟩]) (
  .cond (.t 16) (.seq (.region [
    ⟨some 4, .move false (.c (.int .i64 (-1))), none⟩]) (
  .ret)) (.skip))) (
  .seq (.seq (.region [
    ⟨some 17, .move false (.t 0), none⟩, 
    ⟨some 18, .move false (.t 1), none⟩, 
    ⟨some 19, .bin .gtr (.t 17) (.t 18), none⟩]) (
  .cond (.t 19) (.seq (.region [
    ⟨some 4, .move false (.c (.int .i64 1)), none⟩]) (
  .ret)) (.skip))) (
  .seq (.region [
    ⟨some 4, .move false (.c (.int .i64 0)), none⟩]) (
  .ret))))))))
def R.cmp_Compare_int : List ARes := [.t 4]
set_option maxRecDepth 100000 in
theorem K.cmp_Compare_int : ckFun Try.prog Try.f215 C.cmp_Compare_int R.cmp_Compare_int = true := by kernel_rfl
/-- cmp.isNaN[int] -/
def C.cmp_isNaN_int : ACode :=
  .seq (.region [
    ⟨some 2, .move false (.c (.bool false)), none⟩]) (
  .seq (.region [
    ⟨some 3, .move false (.t 0), none⟩, 
    ⟨some 4, .move false (.t 0), none⟩, 
    ⟨some 5, .bin .neq (.t 3) (.t 4), none⟩, 
    ⟨some 2, .move false (.t 5), none⟩]) (
  .ret))
def R.cmp_isNaN_int : List ARes := [.t 2]
set_option maxRecDepth 100000 in
theorem K.cmp_isNaN_int : ckFun Try.prog Try.f230 C.cmp_isNaN_int R.cmp_isNaN_int = true := by kernel_rfl
/-- gantry/gantref5.CellsFault -/
def C.gantref5_CellsFault : ACode :=
  .seq (.region [
    ⟨some 2, .move false (.c (.int .i64 0)), none⟩]) (
  .seq (.seq (.region [
    ⟨some 5, .move false (.t 0), none⟩, 
    ⟨some 6, .len (.t 5), none⟩, 
    ⟨some 7, .bin .gtr (.t 6) (.c (.int .i64 400)), none⟩]) (
  .cond (.t 7) (.seq (.region [
    ⟨some 2, .move false (.c (.int .i64 2)), none⟩]) (
  .ret)) (.skip))) (
  .seq (.seq (.region [
    ⟨some 8, .move false (.t 0), none⟩, 
    ⟨some 9, .len (.t 8), none⟩, 
    ⟨some 10, .move false (.c (.int .i64 0)), none⟩]) (
  .block 0 (.loop (.seq (.region [
    ⟨some 11, .bin .lss (.t 10) (.t 9), none⟩]) (
  .seq (.cond (.t 11) (.skip) (.exit 0)) (
  .seq (.block 1 (.seq (.region [
    ⟨some 12, .move false (.t 10), none⟩, 
    ⟨some 13, .iaddr 2 (.t 8) (.t 10), none⟩, 
    ⟨some 14, .load 2 true 2 (.t 13), none⟩, 
    ⟨some 4, .alloc false [(.int .i64 0), (.int .i64 0)], none⟩, 
    ⟨some 3, .move false (.t 12), none⟩, 
    ⟨none, .store 2 (.t 4) (.t 14), none⟩]) (
  .seq (.seq (.region [
    ⟨some 15, .faddr 0 (.t 4), none⟩, 
    ⟨some 16, .load 2 false 1 (.t 15), none⟩, 
    ⟨some 17, .bin .lss (.t 16) (.c (.int .i64 (-64))), none⟩, 
    ⟨some 18, .move false (.t 17), none⟩, 
    ⟨some 19, .faddr 0 (.t 4), (some (18, false))⟩, 
    ⟨some 20, .load 2 false 1 (.t 19), (some (18, false))⟩, 
    ⟨some 21, .bin .gtr (.t 20) (.c (.int .i64 63)), (some (18, false))⟩, 
    ⟨some 22, .pick (.t 18) (.c (.bool true)) (.t 21), none⟩, 
    ⟨some 23, .move false (.t 22), none⟩, 
    ⟨some 24, .faddr 1 (.t 4), (some (23, false))⟩, 
    ⟨some 25, .load 2 false 1 (.t 24), (some (23, false))⟩, 
    ⟨some 26, .bin .lss (.t 25) (.c (.int .i64 (-64))), (some (23, false))⟩, 
    ⟨some 27, .pick (.t 23) (.c (.bool true)) (.t 26), none⟩, 
    ⟨some 28, .move false (.t 27), none⟩, 
    ⟨some 29, .faddr 1 (.t 4), (some (28, false))⟩, 
    ⟨some 30, .load 2 false 1 (.t 29), (some (28, false))⟩, 
    ⟨some 31, .bin .gtr (.t 30) (.c (.int .i64 63)), (some (28, false))⟩, 
    ⟨some 32, .pick (.t 28) (.c (.bool true)) (.t 31), none⟩]) (
  .cond (.t 32) (.seq (.region [
    ⟨some 2, .move false (.c (.int .i64 17)), none⟩]) (
  .ret)) (.skip))) (
  .seq (.drawn [0, 1, 2, 3, 4, 5, 6, 7, 8, 9, 10, 11, 12, 13, 14, 15, 16, 17, 18, 19, 20, 21, 22, 23, 24, 25, 26, 27, 28, 29, 30, 31, 32, 33, 34] [0, 1, 3, 7, 7, 23, 63, 127, 255, 7, 519, 2047, 4095, 8191, 8191, 24575, 65535, 131071, 262143, 8191, 532479, 2097151, 4194303, 8388607, 8388607, 25165823, 67108863, 134217727, 268435455, 8388607, 545259519, 2147483647, 4294967295, 8589934591, 17179869183] [
    ⟨some 33, .move false (.t 3), none⟩, 
    ⟨some 34, .bin .gtr (.t 33) (.c (.int .i64 0)), none⟩, 
    ⟨some 35, .move false (.t 34), none⟩, 
    ⟨some 36, .move false (.t 0), (some (35, true))⟩, 
    ⟨some 37, .move false (.t 3), (some (35, true))⟩, 
    ⟨some 38, .bin .sub (.t 37) (.c (.int .i64 1)), (some (35, true))⟩, 
    ⟨some 39, .iaddr 2 (.t 36) (.t 38), (some (35, true))⟩, 
    ⟨some 40, .faddr 1 (.t 39), (some (35, true))⟩, 
    ⟨some 41, .load 0 false 1 (.t 40), (some (35, true))⟩, 
    ⟨some 42, .faddr 1 (.t 4), (some (35, true))⟩, 
    ⟨some 43, .load 1 false 1 (.t 42), (some (35, true))⟩, 
    ⟨some 44, .bin .gtr (.t 41) (.t 43), (some (35, true))⟩, 
    ⟨some 45, .move false (.t 44), (some (35, true))⟩, 
    ⟨some 46, .move false (.t 0), (some (45, false))⟩, 
    ⟨some 47, .move false (.t 3), (some (45, false))⟩, 
    ⟨some 48, .bin .sub (.t 47) (.c (.int .i64 1)), (some (45, false))⟩, 
    ⟨some 49, .iaddr 2 (.t 46) (.t 48), (some (45, false))⟩, 
    ⟨some 50, .faddr 1 (.t 49), (some (45, false))⟩, 
    ⟨some 51, .load 0 false 1 (.t 50), (some (45, false))⟩, 
    ⟨some 52, .faddr 1 (.t 4), (some (45, false))⟩, 
    ⟨some 53, .load 1 false 1 (.t 52), (some (45, false))⟩, 
    ⟨some 54, .bin .eql (.t 51) (.t 53), (some (45, false))⟩, 
    ⟨some 55, .move false (.t 54), (some (45, false))⟩, 
    ⟨some 56, .move false (.t 0), (some (55, true))⟩, 
    ⟨some 57, .move false (.t 3), (some (55, true))⟩, 
    ⟨some 58, .bin .sub (.t 57) (.c (.int .i64 1)), (some (55, true))⟩, 
    ⟨some 59, .iaddr 2 (.t 56) (.t 58), (some (55, true))⟩, 
    ⟨some 60, .faddr 0 (.t 59), (some (55, true))⟩, 
    ⟨some 61, .load 0 false 1 (.t 60), (some (55, true))⟩, 
    ⟨some 62, .faddr 0 (.t 4), (some (55, true))⟩, 
    ⟨some 63, .load 1 false 1 (.t 62), (some (55, true))⟩, 
    ⟨some 64, .bin .geq (.t 61) (.t 63), (some (55, true))⟩, 
    ⟨some 65, .pick (.t 55) (.t 64) (.c (.bool false)), (some (45, false))⟩, 
    ⟨some 66, .pick (.t 45) (.c (.bool true)) (.t 65), (some (35, true))⟩, 
    ⟨some 67, .pick (.t 35) (.t 66) (.c (.bool false)), none⟩]) (
  .cond (.t 67) (.seq (.region [
    ⟨some 2, .move false (.c (.int .i64 9)), none⟩]) (
  .ret)) (.skip)))))) (
  .region [
    ⟨some 68, .bin .add (.t 10) (.c (.int .i64 1)), none⟩, 
    ⟨some 10, .move false (.t 68), none⟩]))))))) (
  .seq (.region [
    ⟨some 2, .move false (.c (.int .i64 0)), none⟩]) (
  .ret))))
def R.gantref5_CellsFault : List ARes := [.t 2]
set_option maxRecDepth 100000 in
theorem K.gantref5_CellsFault : ckFun Try.prog Try.f59 C.gantref5_CellsFault R.gantref5_CellsFault = true := by kernel_rfl
end Go.Proofs.Ytpdajkbfemcdlaa
/- Contracts: cells and messages are checked. -/
set_option linter.unusedSimpArgs false
set_option linter.unusedVariables false
set_option maxRecDepth 10000
namespace Go.Proofs.Ytpdajkbfemcdlaa
open Go.Ge
def cmpI (a b : Int) : Int := if a < b then -1 else if a > b then 1 else 0
def orderC (a b : Cell) : Int := if cmpI a.Y b.Y ≠ 0 then cmpI a.Y b.Y else cmpI a.X b.X
def cellLt (a b : Cell) : Prop := a.Y < b.Y ∨ a.Y = b.Y ∧ a.X < b.X
instance (a b : Cell) : Decidable (cellLt a b) := by unfold cellLt; exact inferInstance
theorem orderC_lt (a b : Cell) : orderC a b ≥ 0 ↔ ¬cellLt a b := by
  unfold orderC cmpI cellLt
  split <;> (repeat split) <;> (repeat split at *) <;> omega
theorem orderC_zero (a b : Cell) : orderC a b = 0 ↔ a = b := by
  cases a; cases b
  unfold orderC cmpI
  simp only [Cell.mk.injEq]
  split <;> (repeat split at *) <;> (repeat split) <;> omega
def onG (n : Int) : Prop := -64 ≤ n ∧ n < 64
instance (n : Int) : Decidable (onG n) := by unfold onG; exact inferInstance
def cellsF : Option Cell → List Cell → Int
  | _, [] => 0
  | p, c :: r => if ¬onG c.X ∨ ¬onG c.Y then 17 else if (∃ q ∈ p, ¬cellLt q c) then 9 else cellsF (some c) r
/-- The fault of a set of cells. -/
def cellsFault (l : List Cell) : Int := if l.length > 400 then 2 else cellsF none l
def prevC (l : List Cell) (i : Nat) : Option Cell := if i = 0 then none else l[i - 1]?
theorem cellsF_step {l : List Cell} {i : Nat} (h : i < l.length) : cellsF (prevC l i) (l.drop i) = if ¬onG l[i].X ∨ ¬onG l[i].Y then 17 else if (∃ q ∈ prevC l i, ¬cellLt q l[i]) then 9 else cellsF (prevC l (i + 1)) (l.drop (i + 1)) := by
  rw [List.drop_eq_getElem_cons h, cellsF]
  have : prevC l (i + 1) = some l[i] := by unfold prevC; simp [h]
  rw [this]
theorem isNaN_ok (a : Int) (h : List HObj) : ACalls Try.prog F.cmp_isNaN_int [.int .i64 a] h (fun r h' => r = .bool false ∧ h' = h) := by
  refine ACalls.of_aw Try.func230 K.cmp_isNaN_int (by simp [Try.f230]) ?_
  generalize hQ : retQ R.cmp_isNaN_int _ = Q
  simp (disch := first | assumption | omega) only [C.cmp_isNaN_int, go_sem, ↓reduceIte, Nat.reduceEqDiff, reduceCtorEq, reduceIte, decide_false, not_true_eq_false, Bool.true_and, int_bne]
  subst hQ
  simp (disch := first | assumption | omega) only [R.cmp_isNaN_int, go_sem, ↓reduceIte, reduceIte]
theorem Compare_ok (a b : Int) (h : List HObj) : ACalls Try.prog F.cmp_Compare_int [.int .i64 a, .int .i64 b] h (fun r h' => r = .int .i64 (cmpI a b) ∧ h' = h) := by
  refine ACalls.of_aw Try.func215 K.cmp_Compare_int (by simp [Try.f215]) ?_
  generalize hQ : retQ R.cmp_Compare_int _ = Q
  simp (disch := first | assumption | omega) only [C.cmp_Compare_int, go_sem, ↓reduceIte, reduceCtorEq, reduceIte, Int.reduceNeg, Bool.true_and]
  refine callG_ok (isNaN_ok a _) (by simp (disch := first | assumption | omega) only [go_sem]) ?_
  rintro _ _ ⟨rfl, hhh⟩
  try rw [hhh]
  clear hhh
  simp (disch := first | assumption | omega) only [go_sem, ↓reduceIte, Nat.reduceEqDiff, reduceIte, Int.reduceNeg, Bool.true_and]
  refine callG_ok (isNaN_ok b _) (by simp (disch := first | assumption | omega) only [go_sem]) ?_
  rintro _ _ ⟨rfl, hhh⟩
  try rw [hhh]
  clear hhh
  simp (disch := first | assumption | omega) only [go_sem, ↓reduceIte, Nat.reduceEqDiff, reduceCtorEq, reduceIte, Int.reduceNeg, Bool.true_and]
  refine condG_if (fun hlt => ?_) fun hge => ?_
  · simp (disch := first | assumption | omega) only [go_sem, Int.reduceNeg, Bool.true_and]
    subst hQ
    simp (disch := first | assumption | omega) only [R.cmp_Compare_int, go_sem, ↓reduceIte, reduceIte, Int.reduceNeg, Bool.true_and]
    rw [cmpI, if_pos hlt]
  · simp (disch := first | assumption | omega) only [go_sem, ↓reduceIte, Nat.reduceEqDiff, reduceCtorEq, reduceIte, Bool.true_and]
    refine condG_if (fun hlt2 => ?_) fun hge2 => ?_
    · simp (disch := first | assumption | omega) only [go_sem, Bool.true_and]
      subst hQ
      simp (disch := first | assumption | omega) only [R.cmp_Compare_int, go_sem, ↓reduceIte, reduceIte, Bool.true_and]
      rw [cmpI, if_neg hge, if_pos hlt2]
    · simp (disch := first | assumption | omega) only [go_sem, Bool.true_and]
      subst hQ
      simp (disch := first | assumption | omega) only [R.cmp_Compare_int, go_sem, ↓reduceIte, reduceIte, Bool.true_and]
      rw [cmpI, if_neg hge, if_neg hge2]
theorem order_ok (a b : Cell) (h : List HObj) : ACalls Try.prog F.grid_order [cellA a, cellA b] h (fun r h' => r = .int .i64 (orderC a b) ∧ h' = h) := by
  refine ACalls.of_aw Try.func198 K.grid_order (by simp [Try.f198]) ?_
  generalize hQ : retQ R.grid_order _ = Q
  simp (disch := first | assumption | omega) only [C.grid_order, go_sem, ↓reduceIte, Nat.reduceEqDiff, Nat.reduceLeDiff, reduceIte, Bool.true_and]
  simp (disch := first | assumption | omega) only [cellA, go_sem, ↓reduceIte, Nat.reduceEqDiff, Nat.reduceAdd, Nat.reduceLT, reduceIte, Int.reduceLT, Int.reduceAdd, Bool.true_and]
  refine callG_ok (Compare_ok a.Y b.Y _) (by simp (disch := first | assumption | omega) only [go_sem]) ?_
  rintro _ _ ⟨rfl, hhh⟩
  try rw [hhh]
  clear hhh
  simp (disch := first | assumption | omega) only [go_sem, ↓reduceIte, reduceIte, Bool.true_and, int_bne]
  refine condG_ifn (fun hb => ?_) fun hb => ?_
  · simp (disch := first | assumption | omega) only [go_sem, ↓reduceIte, Nat.reduceEqDiff, reduceIte, Bool.true_and]
    subst hQ
    simp (disch := first | assumption | omega) only [R.grid_order, go_sem, ↓reduceIte, reduceIte, Bool.true_and]
    rw [orderC, if_pos hb]
  · simp (disch := first | assumption | omega) only [go_sem, ↓reduceIte, Nat.reduceEqDiff, Nat.reduceAdd, Nat.reduceLeDiff, reduceIte, Int.reduceAdd, Bool.true_and]
    refine callG_ok (Compare_ok a.X b.X _) (by simp (disch := first | assumption | omega) only [go_sem]) ?_
    rintro _ _ ⟨rfl, hhh⟩
    try rw [hhh]
    clear hhh
    simp (disch := first | assumption | omega) only [go_sem, ↓reduceIte, reduceIte, Bool.true_and]
    subst hQ
    simp (disch := first | assumption | omega) only [R.grid_order, go_sem, ↓reduceIte, reduceIte, Bool.true_and]
    rw [orderC, if_neg (by simp [hb])]
theorem on_ok (n : Int) (h : List HObj) : ACalls Try.prog F.grid_on [.int .i64 n] h (fun r h' => r = .bool (decide (onG n)) ∧ h' = h) := by
  refine ACalls.of_aw Try.func197 K.grid_on (by simp [Try.f197]) ?_
  generalize hQ : retQ R.grid_on _ = Q
  simp (disch := first | assumption | omega) only [C.grid_on, go_sem, ↓reduceIte, reduceCtorEq, reduceIte, Int.reduceNeg, Bool.true_and]
  refine aopsG_if (fun h1 => ?_) fun h1 => ?_
  · simp (disch := first | assumption | omega) only [h1, go_sem, ↓reduceIte, Nat.reduceEqDiff, reduceCtorEq, reduceIte, cond_true, Int.reduceNeg, decide_true, Bool.true_and]
    subst hQ
    simp (disch := first | assumption | omega) only [R.grid_on, go_sem, ↓reduceIte, reduceIte, Bool.true_and]
    have : decide (n < 64) = decide (onG n) := by
      unfold onG; by_cases h2 : n < 64 <;> simp [h1, h2]
    rw [this]
  · simp (disch := first | assumption | omega) only [h1, go_sem, ↓reduceIte, Nat.reduceEqDiff, reduceIte, cond_false, Int.reduceNeg, decide_false, Bool.true_and]
    subst hQ
    simp (disch := first | assumption | omega) only [R.grid_on, go_sem, ↓reduceIte, reduceIte, Bool.true_and]
    have : ¬ onG n := by unfold onG; omega
    simp [this]
theorem gridCheck_ok (o : Own) (l : List Cell) (ho : Rdo o) (hl : l.length < 4611686018427387904) (h : List HObj) : ACalls Try.prog F.grid_Check [.lst o (cellsA l)] h (fun r h' => r = .int .i64 (cellsFault l) ∧ h' = h) := by
  refine ACalls.of_aw Try.func158 K.grid_Check (by simp [Try.f158]) ?_
  generalize hQ : retQ R.grid_Check _ = Q
  simp (disch := first | assumption | omega) only [C.grid_Check, go_sem, ↓reduceIte, reduceCtorEq, reduceIte, Bool.true_and]
  refine condG_if (fun h4 => ?_) fun h4 => ?_
  · simp (disch := first | assumption | omega) only [go_sem, Bool.true_and]
    subst hQ
    simp (disch := first | assumption | omega) only [R.grid_Check, go_sem, ↓reduceIte, reduceIte, Bool.true_and]
    rw [cellsFault, if_pos (by omega)]
  · have h5 : ¬ l.length > 400 := by omega
    simp (disch := first | assumption | omega) only [go_sem, ↓reduceIte, reduceCtorEq, reduceIte, Bool.true_and]
    refine aw_count (fun d S => ∃ (i : Nat), i + d = l.length ∧ S.env 10 = .int .i64 i ∧ S.env 9 = .int .i64 l.length ∧ S.env 8 = .lst o (cellsA l) ∧ S.env 0 = .lst o (cellsA l) ∧ cellsF none l = cellsF (prevC l i) (l.drop i) ∧ S.heap = h) (n := l.length) ⟨0, by simp [go_sem, prevC]⟩ ?_
    rintro d S ⟨i, hi, e10, e9, e8, e0, hf, eh⟩
    simp (disch := first | assumption | omega) only [e10, e9, go_sem, ↓reduceIte, reduceIte, Int.ofNat_lt, Bool.true_and]
    refine condG_if (fun hlt => ?_) fun hge => ?_
    · have hlt : i < l.length := by omega
      have hat := at_cells hlt
      rw [cellsF_step hlt] at hf
      simp (disch := first | assumption | omega) only [e10, e8, hat, cellA, hlt, go_sem, ↓reduceIte, Nat.reduceEqDiff, Nat.reduceAdd, Nat.reduceLeDiff, reduceIte, Int.natCast_nonneg, Int.ofNat_lt, Int.reduceAdd, decide_true, Bool.true_and]
      by_cases hx : onG l[i].X
      · refine callG_ok (on_ok l[i].X _) (by simp (disch := first | assumption | omega) only [go_sem]) ?_
        rintro _ _ ⟨rfl, hhh⟩
        try rw [hhh]
        clear hhh
        simp (disch := first | assumption | omega) only [hx, go_sem, ↓reduceIte, Nat.reduceEqDiff, Nat.reduceAdd, Nat.reduceLeDiff, Nat.reduceLT, reduceIte, Int.reduceLT, Int.reduceAdd, decide_true, Bool.true_and]
        by_cases hy : onG l[i].Y
        · refine callG_ok (on_ok l[i].Y _) (by simp (disch := first | assumption | omega) only [go_sem]) ?_
          rintro _ _ ⟨rfl, hhh⟩
          try rw [hhh]
          clear hhh
          simp (disch := first | assumption | omega) only [hy, go_sem, ↓reduceIte, Nat.reduceEqDiff, reduceIte, cond_false, decide_true, Bool.true_and, alS]
          rw [if_neg (by simp [hx, hy])] at hf
          refine aopsG_if (fun h0 => ?_) fun h0 => ?_
          · have hi0 := h0
            have h0 : 0 < i := by omega
            have hat2 := at_cells (l := l) (i := i - 1) (by omega)
            have ei : ((i - 1 : Nat) : Int) = (i : Int) - 1 := by omega
            rw [ei] at hat2
            have hp : prevC l i = some l[i - 1] := by unfold prevC; rw [if_neg (by omega), List.getElem?_eq_getElem (by omega)]
            have hlt2 : i - 1 < l.length := by omega
            simp (disch := first | assumption | omega) only [e0, hat2, hi0, cellA, go_sem, ↓reduceIte, Nat.reduceEqDiff, reduceCtorEq, Nat.reduceAdd, Nat.reduceLeDiff, reduceIte, Int.reduceAdd, decide_true, Bool.true_and]
            refine ⟨⟨by omega, by omega⟩, ?_⟩
            refine callG_ok (order_ok l[i - 1] l[i] _) (by simp (disch := first | assumption | omega) only [go_sem]) ?_
            rintro _ _ ⟨rfl, hhh⟩
            try rw [hhh]
            clear hhh
            simp (disch := first | assumption | omega) only [go_sem, ↓reduceIte, Nat.reduceEqDiff, reduceIte, cond_true, Bool.true_and]
            refine condG_if (fun hc => ?_) fun hc => ?_
            · simp (disch := first | assumption | omega) only [go_sem, Bool.true_and]
              subst hQ
              simp (disch := first | assumption | omega) only [R.grid_Check, go_sem, ↓reduceIte, reduceIte, Bool.true_and]
              rw [cellsFault, if_neg h5, hf, hp, if_pos ⟨_, rfl, (orderC_lt _ _).1 hc⟩]
              exact ⟨rfl, eh⟩
            · simp (disch := first | assumption | omega) only [e10, e9, e8, e0, eh, go_sem, ↓reduceIte, Nat.reduceEqDiff, reduceCtorEq, reduceIte, Bool.true_and]
              rw [hp, if_neg (by rintro ⟨q, hq, hq2⟩; cases hq; exact hc ((orderC_lt _ _).2 hq2))] at hf
              exact ⟨d - 1, by omega, i + 1, by omega, by simp, hf⟩
          · have hp : prevC l i = none := by unfold prevC; rw [if_pos (by omega)]
            rw [hp, if_neg (by simp)] at hf
            simp (disch := first | assumption | omega) only [e10, e9, e8, e0, eh, h0, go_sem, ↓reduceIte, Nat.reduceEqDiff, reduceCtorEq, reduceIte, cond_false, decide_false, Bool.true_and]
            exact ⟨d - 1, by omega, i + 1, by omega, by simp, hf⟩
        · refine callG_ok (on_ok l[i].Y _) (by simp (disch := first | assumption | omega) only [go_sem]) ?_
          rintro _ _ ⟨rfl, hhh⟩
          try rw [hhh]
          clear hhh
          simp (disch := first | assumption | omega) only [hy, go_sem, ↓reduceIte, Nat.reduceEqDiff, reduceIte, cond_false, decide_false, Bool.true_and]
          subst hQ
          simp (disch := first | assumption | omega) only [R.grid_Check, go_sem, ↓reduceIte, reduceIte, Bool.true_and]
          rw [cellsFault, if_neg h5, hf, if_pos (.inr hy)]
          exact ⟨rfl, eh⟩
      · refine callG_ok (on_ok l[i].X _) (by simp (disch := first | assumption | omega) only [go_sem]) ?_
        rintro _ _ ⟨rfl, hhh⟩
        try rw [hhh]
        clear hhh
        simp (disch := first | assumption | omega) only [hx, go_sem, ↓reduceIte, Nat.reduceEqDiff, reduceIte, cond_true, decide_false, Bool.true_and]
        subst hQ
        simp (disch := first | assumption | omega) only [R.grid_Check, go_sem, ↓reduceIte, reduceIte, Bool.true_and]
        rw [cellsFault, if_neg h5, hf, if_pos (.inl hx)]
        exact ⟨rfl, eh⟩
    · obtain rfl : i = l.length := by omega
      rw [List.drop_length, cellsF] at hf
      simp (disch := first | assumption | omega) only [go_sem, ↓reduceIte, reduceIte, Bool.true_and]
      subst hQ
      simp (disch := first | assumption | omega) only [R.grid_Check, go_sem, ↓reduceIte, reduceIte, Bool.true_and]
      rw [cellsFault, if_neg h5, hf]
      exact ⟨rfl, eh⟩
theorem CellsFault_ok (o : Own) (l : List Cell) (ho : Rdo o) (hl : l.length < 4611686018427387904) (h : List HObj) : ACalls Try.prog F.gantref5_CellsFault [.lst o (cellsA l)] h (fun r h' => r = .int .i64 (cellsFault l) ∧ h' = h) := by
  refine ACalls.of_aw Try.func59 K.gantref5_CellsFault (by simp [Try.f59]) ?_
  generalize hQ : retQ R.gantref5_CellsFault _ = Q
  simp (disch := first | assumption | omega) only [C.gantref5_CellsFault, go_sem, ↓reduceIte, reduceCtorEq, reduceIte, Int.reduceNeg, Bool.true_and]
  refine condG_if (fun h4 => ?_) fun h4 => ?_
  · simp (disch := first | assumption | omega) only [go_sem, Int.reduceNeg, Bool.true_and]
    subst hQ
    simp (disch := first | assumption | omega) only [R.gantref5_CellsFault, go_sem, ↓reduceIte, reduceIte, Bool.true_and]
    rw [cellsFault, if_pos (by omega)]
  · have h5 : ¬ l.length > 400 := by omega
    simp (disch := first | assumption | omega) only [go_sem, ↓reduceIte, reduceCtorEq, reduceIte, Int.reduceNeg, Bool.true_and]
    refine aw_count (fun d S => ∃ (i : Nat), i + d = l.length ∧ S.env 10 = .int .i64 i ∧ S.env 9 = .int .i64 l.length ∧ S.env 8 = .lst o (cellsA l) ∧ S.env 0 = .lst o (cellsA l) ∧ cellsF none l = cellsF (prevC l i) (l.drop i) ∧ S.heap = h) (n := l.length) ⟨0, by simp [go_sem, prevC]⟩ ?_
    rintro d S ⟨i, hi, e10, e9, e8, e0, hf, eh⟩
    simp (disch := first | assumption | omega) only [e10, e9, go_sem, ↓reduceIte, reduceIte, Int.ofNat_lt, Int.reduceNeg, Bool.true_and]
    refine condG_if (fun hlt => ?_) fun hge => ?_
    · have hlt : i < l.length := by omega
      have hat := at_cells hlt
      rw [cellsF_step hlt] at hf
      simp (disch := first | assumption | omega) only [e10, e8, hat, cellA, hlt, go_sem, ↓reduceIte, Nat.reduceEqDiff, Nat.reduceAdd, Nat.reduceLeDiff, reduceIte, Int.natCast_nonneg, Int.ofNat_lt, Int.reduceAdd, Int.reduceNeg, decide_true, Bool.true_and]
      by_cases hx : onG l[i].X
      · by_cases hy : onG l[i].Y
        · rw [if_neg (by simp [hx, hy])] at hf
          have q1 : ¬ l[i].X < -64 := by unfold onG at hx; omega
          have q2 : ¬ 63 < l[i].X := by unfold onG at hx; omega
          have q3 : ¬ l[i].Y < -64 := by unfold onG at hy; omega
          have q4 : ¬ 63 < l[i].Y := by unfold onG at hy; omega
          simp (disch := first | assumption | omega) only [q1, q2, q3, q4, go_sem, ↓reduceIte, Nat.reduceEqDiff, Nat.reduceAdd, Nat.reduceLeDiff, Nat.reduceLT, reduceIte, cond_false, Int.reduceLT, Int.reduceAdd, Int.reduceNeg, decide_false, Bool.true_and, alS]
          refine aopsG_if (fun h0 => ?_) fun h0 => ?_
          · have hi0 := h0
            have h0 : 0 < i := by omega
            have hat2 := at_cells (l := l) (i := i - 1) (by omega)
            have ei : ((i - 1 : Nat) : Int) = (i : Int) - 1 := by omega
            rw [ei] at hat2
            have hp : prevC l i = some l[i - 1] := by unfold prevC; rw [if_neg (by omega), List.getElem?_eq_getElem (by omega)]
            have hlt2 : i - 1 < l.length := by omega
            rw [hp] at hf
            have hx1 : (0 : Int) ≤ (i : Int) - 1 := by omega
            have hx2 : (i : Int) - 1 < l.length := by omega
            simp (disch := first | assumption | omega) only [e0, hat2, hi0, cellA, hx1, hx2, go_sem, ↓reduceIte, Nat.reduceEqDiff, reduceCtorEq, Nat.reduceAdd, Nat.reduceLeDiff, Nat.reduceLT, reduceIte, Int.reduceLT, Int.reduceAdd, decide_true, Bool.true_and]
            iterate 3 (all_goals (try ((first | refine aopsG_ifn (fun hb => ?_) (fun hb => ?_) | refine condG_ifn (fun hb => ?_) (fun hb => ?_) | refine aopsG_if (fun hb => ?_) (fun hb => ?_) | refine condG_if (fun hb => ?_) (fun hb => ?_) | refine aopsG_split (fun hb => ?_) (fun hb => ?_) | refine condG_split (fun hb => ?_) (fun hb => ?_)) <;> simp (disch := first | assumption | omega) only [hb, e10, e9, e8, e0, eh, hat2, cellA, hx1, hx2, go_sem, ↓reduceIte, Nat.reduceEqDiff, reduceCtorEq, Nat.reduceAdd, Nat.reduceLeDiff, Nat.reduceLT, reduceIte, cond_true, cond_false, Int.reduceLT, Int.reduceAdd, decide_true, decide_false, Bool.true_and, int_beq])))
            all_goals first
              | (rw [if_neg (by rintro ⟨q, hq, hq2⟩; cases hq; exact hq2 (by unfold cellLt; omega))] at hf
                 exact ⟨d - 1, by omega, i + 1, by omega, by simp, hf⟩)
              | (rw [if_pos ⟨_, rfl, by unfold cellLt; omega⟩] at hf
                 subst hQ
                 simp (disch := first | assumption | omega) only [R.gantref5_CellsFault, eh, go_sem, ↓reduceIte, reduceIte, Bool.true_and]
                 rw [cellsFault, if_neg h5, hf])
          · have hp : prevC l i = none := by unfold prevC; rw [if_pos (by omega)]
            rw [hp, if_neg (by simp)] at hf
            simp (disch := first | assumption | omega) only [e10, e9, e8, e0, eh, h0, go_sem, ↓reduceIte, Nat.reduceEqDiff, reduceCtorEq, reduceIte, cond_false, decide_false, Bool.true_and]
            exact ⟨d - 1, by omega, i + 1, by omega, by simp, hf⟩
        · have q : l[i].Y < -64 ∨ 63 < l[i].Y := by unfold onG at hy; omega
          rw [if_pos (.inr hy)] at hf
          iterate 4 (all_goals (try ((first | refine aopsG_ifn (fun hb => ?_) (fun hb => ?_) | refine condG_ifn (fun hb => ?_) (fun hb => ?_) | refine aopsG_if (fun hb => ?_) (fun hb => ?_) | refine condG_if (fun hb => ?_) (fun hb => ?_) | refine aopsG_split (fun hb => ?_) (fun hb => ?_) | refine condG_split (fun hb => ?_) (fun hb => ?_)) <;> simp (disch := first | assumption | omega) only [hb, go_sem, ↓reduceIte, Nat.reduceEqDiff, Nat.reduceAdd, Nat.reduceLeDiff, Nat.reduceLT, reduceIte, cond_true, cond_false, Int.reduceLT, Int.reduceAdd, Int.reduceNeg, decide_true, decide_false, Bool.true_and, alS])))
          all_goals (subst hQ; simp (disch := first | assumption | omega) only [R.gantref5_CellsFault, go_sem, ↓reduceIte, reduceIte, Bool.true_and]; first | omega | (rw [cellsFault, if_neg h5, hf]; exact ⟨rfl, eh⟩))
      · have q : l[i].X < -64 ∨ 63 < l[i].X := by unfold onG at hx; omega
        rw [if_pos (.inl hx)] at hf
        iterate 4 (all_goals (try ((first | refine aopsG_ifn (fun hb => ?_) (fun hb => ?_) | refine condG_ifn (fun hb => ?_) (fun hb => ?_) | refine aopsG_if (fun hb => ?_) (fun hb => ?_) | refine condG_if (fun hb => ?_) (fun hb => ?_) | refine aopsG_split (fun hb => ?_) (fun hb => ?_) | refine condG_split (fun hb => ?_) (fun hb => ?_)) <;> simp (disch := first | assumption | omega) only [hb, go_sem, ↓reduceIte, Nat.reduceEqDiff, Nat.reduceAdd, Nat.reduceLeDiff, reduceIte, cond_true, cond_false, Int.reduceAdd, Int.reduceNeg, decide_true, decide_false, Bool.true_and, alS])))
        all_goals (subst hQ; simp (disch := first | assumption | omega) only [R.gantref5_CellsFault, go_sem, ↓reduceIte, reduceIte, Bool.true_and]; first | omega | (rw [cellsFault, if_neg h5, hf]; exact ⟨rfl, eh⟩))
    · obtain rfl : i = l.length := by omega
      rw [List.drop_length, cellsF] at hf
      simp (disch := first | assumption | omega) only [go_sem, ↓reduceIte, reduceIte, Int.reduceNeg, Bool.true_and]
      subst hQ
      simp (disch := first | assumption | omega) only [R.gantref5_CellsFault, go_sem, ↓reduceIte, reduceIte, Bool.true_and]
      rw [cellsFault, if_neg h5, hf]
      exact ⟨rfl, eh⟩
end Go.Proofs.Ytpdajkbfemcdlaa
/- Contracts: clocks. -/
set_option linter.unusedSimpArgs false
set_option linter.unusedVariables false
set_option maxRecDepth 10000
namespace Go.Proofs.Ytpdajkbfemcdlaa
open Go.Ge
def after (a n : Int) : Int := (a + n) % 4294967296
end Go.Proofs.Ytpdajkbfemcdlaa
/- Contracts: messages, the same and copied. -/
set_option linter.unusedSimpArgs false
set_option linter.unusedVariables false
set_option maxRecDepth 10000
namespace Go.Proofs.Ytpdajkbfemcdlaa
open Go.Ge
theorem EqualCell_ok (o1 o2 : Own) (a b : List Cell) (h1 : Rdo o1) (h2 : Rdo o2) (hl : a.length < 4611686018427387904) (hl2 : b.length < 4611686018427387904) (h : List HObj) :
    ACalls Try.prog F.slices_Equal_Cell [.lst o1 (cellsA a), .lst o2 (cellsA b)] h (fun r h' => r = .bool (decide (a = b)) ∧ h' = h) := by
  refine ACalls.of_aw Try.func123 K.slices_Equal_Cell (by simp [Try.f123]) ?_
  generalize hQ : retQ R.slices_Equal_Cell _ = Q
  simp (disch := first | assumption | omega) only [C.slices_Equal_Cell, go_sem, ↓reduceIte, Nat.reduceEqDiff, reduceCtorEq, reduceIte, Bool.true_and]
  by_cases he : a.length = b.length
  · simp (disch := first | assumption | omega) only [he, go_sem, ↓reduceIte, reduceCtorEq, reduceIte, Bool.true_and]
    refine aw_count (fun d S => ∃ (i : Nat), i + d = a.length ∧ S.env 13 = .int .i64 i ∧ S.env 12 = .int .i64 b.length ∧ S.env 0 = .lst o1 (cellsA a) ∧ S.env 1 = .lst o2 (cellsA b) ∧ a.take i = b.take i ∧ S.heap = h) (n := a.length) ⟨0, by simp [go_sem]⟩ ?_
    rintro d S ⟨i, hi, e13, e12, e0, e1, ht, eh⟩
    simp (disch := first | assumption | omega) only [e13, e12, go_sem, ↓reduceIte, reduceIte, Int.ofNat_lt, Bool.true_and]
    refine condG_if (fun hlt => ?_) fun hge => ?_
    · have hlt1 : i < a.length := by omega
      have hlt2 : i < b.length := by omega
      have hat1 := at_cells hlt1
      have hat2 := at_cells hlt2
      simp (disch := first | assumption | omega) only [e13, e0, e1, hat1, hat2, cellA, hlt1, hlt2, go_sem, ↓reduceIte, Nat.reduceEqDiff, reduceCtorEq, Nat.reduceAdd, Nat.reduceLeDiff, reduceIte, Int.natCast_nonneg, Int.ofNat_lt, Int.reduceAdd, decide_true, Bool.true_and, aggEq, scEq, hasSh, alS]
      refine condG_split (fun hb => ?_) fun hb => ?_
      · simp (disch := first | assumption | omega) only [go_sem, Bool.true_and]
        subst hQ
        simp (disch := first | assumption | omega) only [R.slices_Equal_Cell, eh, go_sem, ↓reduceIte, reduceIte, Bool.true_and]
        have : a ≠ b := by
          rintro rfl
          simp at hb
        simp [this, eh]
      · simp (disch := first | assumption | omega) only [e13, e12, e0, e1, eh, go_sem, ↓reduceIte, Nat.reduceEqDiff, reduceCtorEq, reduceIte, Bool.true_and]
        refine ⟨d - 1, by omega, i + 1, by omega, by simp, ?_⟩
        rw [List.take_add_one, List.take_add_one, ht, List.getElem?_eq_getElem hlt1, List.getElem?_eq_getElem hlt2]
        have : a[i] = b[i] := by
          simp at hb
          cases h1 : a[i]; cases h2 : b[i]; simp_all
        rw [this]
    · obtain rfl : i = a.length := by omega
      simp (disch := first | assumption | omega) only [go_sem, ↓reduceIte, reduceIte, Bool.true_and]
      subst hQ
      simp (disch := first | assumption | omega) only [R.slices_Equal_Cell, go_sem, ↓reduceIte, reduceIte, Bool.true_and]
      rw [List.take_length, he, List.take_length] at ht
      simp [ht, eh]
  · have hd : ¬((a.length : Int) = b.length) := by omega
    have hd2 : ((a.length : Int) != b.length) = true := by simpa using hd
    simp (disch := first | assumption | omega) only [hd2, go_sem, Bool.true_and]
    subst hQ
    simp (disch := first | assumption | omega) only [R.slices_Equal_Cell, go_sem, ↓reduceIte, reduceIte, Bool.true_and]
    have : a ≠ b := by rintro rfl; exact he rfl
    simp [this]
theorem CloneCell_ok (o : Own) (l : List Cell) (ho : Rdn o l) (hl : l.length * 16 ≤ reachBytes) (h : List HObj) :
    ACalls Try.prog F.slices_Clone_Cell [.lst o (cellsA l)] h (fun r h' => (∃ o', r = .lst o' (cellsA l) ∧ (o' = .nil ∧ l = [] ∨ o' = .app 2)) ∧ h' = h) := by
  have h1 := ho.1
  refine ACalls.of_aw Try.func148 K.slices_Clone_Cell (by simp [Try.f148]) ?_
  generalize hQ : retQ R.slices_Clone_Cell _ = Q
  simp (disch := first | assumption | omega) only [C.slices_Clone_Cell, go_sem, ↓reduceIte, reduceCtorEq, reduceIte, Bool.true_and]
  refine aops_isnilR (o := o) (xs := cellsA l) (by simp (disch := first | assumption | omega) only [go_sem, ↓reduceIte, reduceIte]) h1 (fun e => by rw [ho.2 e]; rfl) fun b hb => ?_
  cases b
  · simp (disch := first | assumption | omega) only [go_sem, ↓reduceIte, Nat.reduceEqDiff, reduceCtorEq, Nat.reduceLeDiff, reduceIte, Int.reduceMul, Nat.reduceMul, Bool.true_and]
    refine ⟨fun v hv => ?_, by unfold reachBytes at hl; omega, by unfold reachBytes at hl; omega, ?_⟩
    · obtain ⟨c, _, rfl⟩ := List.mem_map.1 hv; rfl
    subst hQ
    simp (disch := first | assumption | omega) only [R.slices_Clone_Cell, go_sem, ↓reduceIte, reduceIte, Bool.true_and]
    exact ⟨_, rfl, .inr rfl⟩
  · have : l = [] := by
      refine Classical.byContradiction fun h0 => ?_
      have := hb (by simpa [cellsA] using h0)
      cases this
    subst this
    simp (disch := first | assumption | omega) only [go_sem, ↓reduceIte, reduceIte, Bool.true_and]
    subst hQ
    simp (disch := first | assumption | omega) only [R.slices_Clone_Cell, go_sem, ↓reduceIte, reduceIte, Bool.true_and]
    exact ⟨.nil, by simp [cellsA], by simp⟩
end Go.Proofs.Ytpdajkbfemcdlaa
/- Annotated code of functions, checked against the program. -/
namespace Go.Proofs.Ytpdajkbfemcdlaa
open Go.Ge
/-- slices.insertionSortCmpFunc[gantry/api.Cell] -/
def C.slices_insertionSortCmpFunc_Cell : ACode :=
  .seq (.region [
    ⟨some 10, .move false (.t 1), none⟩, 
    ⟨some 11, .bin .add (.t 10) (.c (.int .i64 1)), none⟩, 
    ⟨some 8, .move false (.t 11), none⟩]) (
  .block 0 (.loop (.seq (.seq (.region [
    ⟨some 12, .move false (.t 8), none⟩, 
    ⟨some 13, .move false (.t 2), none⟩, 
    ⟨some 14, .bin .lss (.t 12) (.t 13), none⟩]) (
  .cond (.t 14) (.skip) (.exit 0))) (
  .seq (.block 1 (.seq (.region [
    ⟨some 17, .move false (.t 8), none⟩, 
    ⟨some 9, .move false (.t 17), none⟩]) (
  .block 2 (.loop (.seq (.seq (.drawn [0, 1, 2, 3, 4, 5, 6, 7, 8, 9, 10, 11, 12, 13, 14, 15, 16] [0, 0, 3, 7, 15, 15, 15, 111, 239, 15, 15, 1039, 3599, 7695, 16383, 32767, 65535] [
    ⟨some 18, .move false (.t 9), none⟩, 
    ⟨some 19, .move false (.t 1), none⟩, 
    ⟨some 20, .bin .gtr (.t 18) (.t 19), none⟩, 
    ⟨some 21, .move false (.t 20), none⟩, 
    ⟨some 22, .move false (.t 3), (some (21, true))⟩, 
    ⟨some 23, .move false (.t 0), (some (21, true))⟩, 
    ⟨some 24, .move false (.t 9), (some (21, true))⟩, 
    ⟨some 25, .iaddr 2 (.t 23) (.t 24), (some (21, true))⟩, 
    ⟨some 26, .load 2 true 2 (.t 25), (some (21, true))⟩, 
    ⟨some 27, .move false (.t 0), (some (21, true))⟩, 
    ⟨some 28, .move false (.t 9), (some (21, true))⟩, 
    ⟨some 29, .bin .sub (.t 28) (.c (.int .i64 1)), (some (21, true))⟩, 
    ⟨some 30, .iaddr 2 (.t 27) (.t 29), (some (21, true))⟩, 
    ⟨some 31, .load 2 true 2 (.t 30), (some (21, true))⟩, 
    ⟨some 32, .hop (.callvq (.t 22) [(.t 26), (.t 31)]), (some (21, true))⟩, 
    ⟨some 33, .bin .lss (.t 32) (.c (.int .i64 0)), (some (21, true))⟩, 
    ⟨some 34, .pick (.t 21) (.t 33) (.c (.bool false)), none⟩]) (
  .cond (.t 34) (.skip) (.exit 2))) (
  .seq (.block 3 (.drawn [0, 1, 2, 3, 4, 5, 6, 7, 8, 9, 10, 11, 12, 13, 14, 15, 16, 17] [0, 0, 0, 0, 8, 0, 0, 64, 224, 480, 0, 0, 3072, 7168, 16355, 32739, 65535, 131071] [
    ⟨some 37, .move false (.t 0), none⟩, 
    ⟨some 38, .move false (.t 9), none⟩, 
    ⟨some 39, .move false (.t 0), none⟩, 
    ⟨some 40, .move false (.t 9), none⟩, 
    ⟨some 41, .bin .sub (.t 40) (.c (.int .i64 1)), none⟩, 
    ⟨some 42, .move false (.t 0), none⟩, 
    ⟨some 43, .move false (.t 9), none⟩, 
    ⟨some 44, .bin .sub (.t 43) (.c (.int .i64 1)), none⟩, 
    ⟨some 45, .iaddr 2 (.t 42) (.t 44), none⟩, 
    ⟨some 46, .load 2 true 2 (.t 45), none⟩, 
    ⟨some 47, .move false (.t 0), none⟩, 
    ⟨some 48, .move false (.t 9), none⟩, 
    ⟨some 49, .iaddr 2 (.t 47) (.t 48), none⟩, 
    ⟨some 50, .load 2 true 2 (.t 49), none⟩, 
    ⟨some 51, .iaddr 2 (.t 37) (.t 38), none⟩, 
    ⟨none, .store 2 (.t 51) (.t 46), none⟩, 
    ⟨some 52, .iaddr 2 (.t 39) (.t 41), none⟩, 
    ⟨none, .store 2 (.t 52) (.t 50), none⟩])) (
  .region [
    ⟨some 35, .move false (.t 9), none⟩, 
    ⟨some 36, .bin .sub (.t 35) (.c (.int .i64 1)), none⟩, 
    ⟨some 9, .move false (.t 36), none⟩]))))))) (
  .region [
    ⟨some 15, .move false (.t 8), none⟩, 
    ⟨some 16, .bin .add (.t 15) (.c (.int .i64 1)), none⟩, 
    ⟨some 8, .move false (.t 16), none⟩])))))
def R.slices_insertionSortCmpFunc_Cell : List ARes := []
set_option maxRecDepth 100000 in
theorem K.slices_insertionSortCmpFunc_Cell : ckFun Try.prog Try.f219 C.slices_insertionSortCmpFunc_Cell R.slices_insertionSortCmpFunc_Cell = true := by kernel_rfl
/-- slices.SortFunc[[]gantry/api.Cell,gantry/api.Cell] -/
def C.slices_SortFunc_Cell : ACode :=
  .seq (.region [
    ⟨some 5, .move false (.t 0), none⟩, 
    ⟨some 6, .len (.t 5), none⟩, 
    ⟨some 4, .move false (.t 6), none⟩]) (
  .region [
    ⟨some 7, .move false (.t 0), none⟩, 
    ⟨some 8, .move false (.t 4), none⟩, 
    ⟨some 9, .move false (.t 4), none⟩, 
    ⟨some 10, .conv .u64 (.t 9), none⟩, 
    ⟨some 11, .call true F.bits_Len [(.t 10)], none⟩, 
    ⟨some 12, .move false (.t 1), none⟩, 
    ⟨some 13, .call true F.slices_pdqsortCmpFunc_Cell [(.t 7), (.c (.int .i64 0)), (.t 8), (.t 11), (.t 12)], none⟩])
def R.slices_SortFunc_Cell : List ARes := []
set_option maxRecDepth 100000 in
theorem K.slices_SortFunc_Cell : ckFun Try.prog Try.f180 C.slices_SortFunc_Cell R.slices_SortFunc_Cell = true := by kernel_rfl
/-- math/bits.Len -/
def C.bits_Len : ACode :=
  .seq (.region [
    ⟨some 2, .move false (.c (.int .i64 0)), none⟩]) (
  .seq (.cond (.c (.bool false)) (.seq (.region [
    ⟨some 3, .move false (.t 0), none⟩, 
    ⟨some 4, .conv .u32 (.t 3), none⟩, 
    ⟨some 5, .call true F.bits_Len32 [(.t 4)], none⟩, 
    ⟨some 2, .move false (.t 5), none⟩]) (
  .ret)) (.skip)) (
  .seq (.region [
    ⟨some 6, .move false (.t 0), none⟩, 
    ⟨some 7, .call true F.bits_Len64 [(.t 6)], none⟩, 
    ⟨some 2, .move false (.t 7), none⟩]) (
  .ret)))
def R.bits_Len : List ARes := [.t 2]
set_option maxRecDepth 100000 in
theorem K.bits_Len : ckFun Try.prog Try.f204 C.bits_Len R.bits_Len = true := by kernel_rfl
/-- math/bits.Len64 -/
def C.bits_Len64 : ACode :=
  .seq (.region [
    ⟨some 2, .move false (.c (.int .i64 0)), none⟩]) (
  .seq (.seq (.region [
    ⟨some 3, .move false (.t 0), none⟩, 
    ⟨some 4, .bin .geq (.t 3) (.c (.int .u64 4294967296)), none⟩]) (
  .cond (.t 4) (.seq (.region [
    ⟨some 5, .move false (.t 0), none⟩, 
    ⟨some 6, .bin .shr (.t 5) (.c (.int .u64 32)), none⟩, 
    ⟨some 0, .move false (.t 6), none⟩]) (
  .region [
    ⟨some 2, .move false (.c (.int .i64 32)), none⟩])) (.skip))) (
  .seq (.seq (.region [
    ⟨some 7, .move false (.t 0), none⟩, 
    ⟨some 8, .bin .geq (.t 7) (.c (.int .u64 65536)), none⟩]) (
  .cond (.t 8) (.seq (.region [
    ⟨some 9, .move false (.t 0), none⟩, 
    ⟨some 10, .bin .shr (.t 9) (.c (.int .u64 16)), none⟩, 
    ⟨some 0, .move false (.t 10), none⟩]) (
  .region [
    ⟨some 11, .move false (.t 2), none⟩, 
    ⟨some 12, .bin .add (.t 11) (.c (.int .i64 16)), none⟩, 
    ⟨some 2, .move false (.t 12), none⟩])) (.skip))) (
  .seq (.seq (.region [
    ⟨some 13, .move false (.t 0), none⟩, 
    ⟨some 14, .bin .geq (.t 13) (.c (.int .u64 256)), none⟩]) (
  .cond (.t 14) (.seq (.region [
    ⟨some 15, .move false (.t 0), none⟩, 
    ⟨some 16, .bin .shr (.t 15) (.c (.int .u64 8)), none⟩, 
    ⟨some 0, .move false (.t 16), none⟩]) (
  .region [
    ⟨some 17, .move false (.t 2), none⟩, 
    ⟨some 18, .bin .add (.t 17) (.c (.int .i64 8)), none⟩, 
    ⟨some 2, .move false (.t 18), none⟩])) (.skip))) (
  .seq (.region [
    ⟨some 19, .move false (.t 2), none⟩, 
    ⟨some 20, .move false (.t 0), none⟩, 
    ⟨some 21, .conv .u8 (.t 20), none⟩, 
    ⟨some 22, .idx (.c (.str ⟨#[0, 1, 2, 2, 3, 3, 3, 3, 4, 4, 4, 4, 4, 4, 4, 4, 5, 5, 5, 5, 5, 5, 5, 5, 5, 5, 5, 5, 5, 5, 5, 5, 6, 6, 6, 6, 6, 6, 6, 6, 6, 6, 6, 6, 6, 6, 6, 6, 6, 6, 6, 6, 6, 6, 6, 6, 6, 6, 6, 6, 6, 6, 6, 6, 7, 7, 7, 7, 7, 7, 7, 7, 7, 7, 7, 7, 7, 7, 7, 7, 7, 7, 7, 7, 7, 7, 7, 7, 7, 7, 7, 7, 7, 7, 7, 7, 7, 7, 7, 7, 7, 7, 7, 7, 7, 7, 7, 7, 7, 7, 7, 7, 7, 7, 7, 7, 7, 7, 7, 7, 7, 7, 7, 7, 7, 7, 7, 7, 8, 8, 8, 8, 8, 8, 8, 8, 8, 8, 8, 8, 8, 8, 8, 8, 8, 8, 8, 8, 8, 8, 8, 8, 8, 8, 8, 8, 8, 8, 8, 8, 8, 8, 8, 8, 8, 8, 8, 8, 8, 8, 8, 8, 8, 8, 8, 8, 8, 8, 8, 8, 8, 8, 8, 8, 8, 8, 8, 8, 8, 8, 8, 8, 8, 8, 8, 8, 8, 8, 8, 8, 8, 8, 8, 8, 8, 8, 8, 8, 8, 8, 8, 8, 8, 8, 8, 8, 8, 8, 8, 8, 8, 8, 8, 8, 8, 8, 8, 8, 8, 8, 8, 8, 8, 8, 8, 8, 8, 8, 8, 8, 8, 8, 8, 8, 8, 8, 8, 8, 8, 8, 8, 8, 8, 8, 8, 8]⟩)) (.t 21), none⟩, 
    ⟨some 23, .conv .i64 (.t 22), none⟩, 
    ⟨some 24, .bin .add (.t 19) (.t 23), none⟩, 
    ⟨some 2, .move false (.t 24), none⟩]) (
  .ret)))))
def R.bits_Len64 : List ARes := [.t 2]
set_option maxRecDepth 100000 in
theorem K.bits_Len64 : ckFun Try.prog Try.f228 C.bits_Len64 R.bits_Len64 = true := by kernel_rfl
end Go.Proofs.Ytpdajkbfemcdlaa
/- Annotated code of functions, checked against the program. -/
namespace Go.Proofs.Ytpdajkbfemcdlaa
open Go.Ge
/-- slices.siftDownCmpFunc[gantry/api.Cell] -/
def C.slices_siftDownCmpFunc_Cell : ACode :=
  .seq (.region [
    ⟨some 12, .move false (.t 1), none⟩, 
    ⟨some 10, .move false (.t 12), none⟩]) (
  .block 0 (.loop (.block 1 (.seq (.region [
    ⟨some 13, .move false (.t 10), none⟩, 
    ⟨some 14, .bin .mul (.c (.int .i64 2)) (.t 13), none⟩, 
    ⟨some 15, .bin .add (.t 14) (.c (.int .i64 1)), none⟩, 
    ⟨some 11, .move false (.t 15), none⟩]) (
  .seq (.seq (.region [
    ⟨some 16, .move false (.t 11), none⟩, 
    ⟨some 17, .move false (.t 2), none⟩, 
    ⟨some 18, .bin .geq (.t 16) (.t 17), none⟩]) (
  .cond (.t 18) (.exit 0) (.skip))) (
  .seq (.seq (.drawn [0, 1, 2, 3, 4, 5, 6, 7, 8, 9, 10, 11, 12, 13, 14, 15, 16, 17, 18, 19, 20, 21] [0, 1, 0, 7, 15, 31, 31, 31, 31, 415, 991, 2015, 31, 31, 31, 24607, 57375, 127007, 258079, 524287, 1048575, 2097151] [
    ⟨some 19, .move false (.t 11), none⟩, 
    ⟨some 20, .bin .add (.t 19) (.c (.int .i64 1)), none⟩, 
    ⟨some 21, .move false (.t 2), none⟩, 
    ⟨some 22, .bin .lss (.t 20) (.t 21), none⟩, 
    ⟨some 23, .move false (.t 22), none⟩, 
    ⟨some 24, .move false (.t 4), (some (23, true))⟩, 
    ⟨some 25, .move false (.t 0), (some (23, true))⟩, 
    ⟨some 26, .move false (.t 3), (some (23, true))⟩, 
    ⟨some 27, .move false (.t 11), (some (23, true))⟩, 
    ⟨some 28, .bin .add (.t 26) (.t 27), (some (23, true))⟩, 
    ⟨some 29, .iaddr 2 (.t 25) (.t 28), (some (23, true))⟩, 
    ⟨some 30, .load 2 true 2 (.t 29), (some (23, true))⟩, 
    ⟨some 31, .move false (.t 0), (some (23, true))⟩, 
    ⟨some 32, .move false (.t 3), (some (23, true))⟩, 
    ⟨some 33, .move false (.t 11), (some (23, true))⟩, 
    ⟨some 34, .bin .add (.t 32) (.t 33), (some (23, true))⟩, 
    ⟨some 35, .bin .add (.t 34) (.c (.int .i64 1)), (some (23, true))⟩, 
    ⟨some 36, .iaddr 2 (.t 31) (.t 35), (some (23, true))⟩, 
    ⟨some 37, .load 2 true 2 (.t 36), (some (23, true))⟩, 
    ⟨some 38, .hop (.callvq (.t 24) [(.t 30), (.t 37)]), (some (23, true))⟩, 
    ⟨some 39, .bin .lss (.t 38) (.c (.int .i64 0)), (some (23, true))⟩, 
    ⟨some 40, .pick (.t 23) (.t 39) (.c (.bool false)), none⟩]) (
  .cond (.t 40) (.region [
    ⟨some 41, .move false (.t 11), none⟩, 
    ⟨some 42, .bin .add (.t 41) (.c (.int .i64 1)), none⟩, 
    ⟨some 11, .move false (.t 42), none⟩]) (.skip))) (
  .seq (.seq (.drawn [0, 1, 2, 3, 4, 5, 6, 7, 8, 9, 10, 11, 12, 13, 14, 15] [0, 0, 0, 0, 12, 30, 62, 0, 0, 0, 768, 1920, 3968, 8191, 16383, 32767] [
    ⟨some 43, .move false (.t 4), none⟩, 
    ⟨some 44, .move false (.t 0), none⟩, 
    ⟨some 45, .move false (.t 3), none⟩, 
    ⟨some 46, .move false (.t 10), none⟩, 
    ⟨some 47, .bin .add (.t 45) (.t 46), none⟩, 
    ⟨some 48, .iaddr 2 (.t 44) (.t 47), none⟩, 
    ⟨some 49, .load 2 true 2 (.t 48), none⟩, 
    ⟨some 50, .move false (.t 0), none⟩, 
    ⟨some 51, .move false (.t 3), none⟩, 
    ⟨some 52, .move false (.t 11), none⟩, 
    ⟨some 53, .bin .add (.t 51) (.t 52), none⟩, 
    ⟨some 54, .iaddr 2 (.t 50) (.t 53), none⟩, 
    ⟨some 55, .load 2 true 2 (.t 54), none⟩, 
    ⟨some 56, .hop (.callvq (.t 43) [(.t 49), (.t 55)]), none⟩, 
    ⟨some 57, .bin .lss (.t 56) (.c (.int .i64 0)), none⟩, 
    ⟨some 58, .un .not (.t 57), none⟩]) (
  .cond (.t 58) (.ret) (.skip))) (
  .seq (.drawn [0, 1, 2, 3, 4, 5, 6, 7, 8, 9, 10, 11, 12, 13, 14, 15, 16, 17, 18, 19, 20, 21, 22, 23] [0, 0, 0, 6, 0, 0, 0, 96, 0, 0, 0, 1536, 3840, 7936, 0, 0, 0, 98304, 245760, 507904, 1048335, 2096911, 4194303, 8388607] [
    ⟨some 59, .move false (.t 0), none⟩, 
    ⟨some 60, .move false (.t 3), none⟩, 
    ⟨some 61, .move false (.t 10), none⟩, 
    ⟨some 62, .bin .add (.t 60) (.t 61), none⟩, 
    ⟨some 63, .move false (.t 0), none⟩, 
    ⟨some 64, .move false (.t 3), none⟩, 
    ⟨some 65, .move false (.t 11), none⟩, 
    ⟨some 66, .bin .add (.t 64) (.t 65), none⟩, 
    ⟨some 67, .move false (.t 0), none⟩, 
    ⟨some 68, .move false (.t 3), none⟩, 
    ⟨some 69, .move false (.t 11), none⟩, 
    ⟨some 70, .bin .add (.t 68) (.t 69), none⟩, 
    ⟨some 71, .iaddr 2 (.t 67) (.t 70), none⟩, 
    ⟨some 72, .load 2 true 2 (.t 71), none⟩, 
    ⟨some 73, .move false (.t 0), none⟩, 
    ⟨some 74, .move false (.t 3), none⟩, 
    ⟨some 75, .move false (.t 10), none⟩, 
    ⟨some 76, .bin .add (.t 74) (.t 75), none⟩, 
    ⟨some 77, .iaddr 2 (.t 73) (.t 76), none⟩, 
    ⟨some 78, .load 2 true 2 (.t 77), none⟩, 
    ⟨some 79, .iaddr 2 (.t 59) (.t 62), none⟩, 
    ⟨none, .store 2 (.t 79) (.t 72), none⟩, 
    ⟨some 80, .iaddr 2 (.t 63) (.t 66), none⟩, 
    ⟨none, .store 2 (.t 80) (.t 78), none⟩]) (
  .region [
    ⟨some 81, .move false (.t 11), none⟩, 
    ⟨some 10, .move false (.t 81), none⟩])))))))))
def R.slices_siftDownCmpFunc_Cell : List ARes := []
set_option maxRecDepth 100000 in
theorem K.slices_siftDownCmpFunc_Cell : ckFun Try.prog Try.f234 C.slices_siftDownCmpFunc_Cell R.slices_siftDownCmpFunc_Cell = true := by kernel_rfl
/-- slices.heapSortCmpFunc[gantry/api.Cell] -/
def C.slices_heapSortCmpFunc_Cell : ACode :=
  .seq (.region [
    ⟨some 13, .move false (.t 1), none⟩, 
    ⟨some 8, .move false (.t 13), none⟩]) (
  .seq (.region [
    ⟨some 9, .move false (.c (.int .i64 0)), none⟩]) (
  .seq (.region [
    ⟨some 14, .move false (.t 2), none⟩, 
    ⟨some 15, .move false (.t 1), none⟩, 
    ⟨some 16, .bin .sub (.t 14) (.t 15), none⟩, 
    ⟨some 10, .move false (.t 16), none⟩]) (
  .seq (.seq (.region [
    ⟨some 17, .move false (.t 10), none⟩, 
    ⟨some 18, .bin .sub (.t 17) (.c (.int .i64 1)), none⟩, 
    ⟨some 19, .bin .quo (.t 18) (.c (.int .i64 2)), none⟩, 
    ⟨some 11, .move false (.t 19), none⟩]) (
  .block 0 (.loop (.seq (.seq (.region [
    ⟨some 20, .move false (.t 11), none⟩, 
    ⟨some 21, .bin .geq (.t 20) (.c (.int .i64 0)), none⟩]) (
  .cond (.t 21) (.skip) (.exit 0))) (
  .seq (.block 1 (.region [
    ⟨some 24, .move false (.t 0), none⟩, 
    ⟨some 25, .move false (.t 11), none⟩, 
    ⟨some 26, .move false (.t 10), none⟩, 
    ⟨some 27, .move false (.t 8), none⟩, 
    ⟨some 28, .move false (.t 3), none⟩, 
    ⟨some 29, .call true F.slices_siftDownCmpFunc_Cell [(.t 24), (.t 25), (.t 26), (.t 27), (.t 28)], none⟩])) (
  .region [
    ⟨some 22, .move false (.t 11), none⟩, 
    ⟨some 23, .bin .sub (.t 22) (.c (.int .i64 1)), none⟩, 
    ⟨some 11, .move false (.t 23), none⟩])))))) (
  .seq (.region [
    ⟨some 30, .move false (.t 10), none⟩, 
    ⟨some 31, .bin .sub (.t 30) (.c (.int .i64 1)), none⟩, 
    ⟨some 12, .move false (.t 31), none⟩]) (
  .block 2 (.loop (.seq (.seq (.region [
    ⟨some 32, .move false (.t 12), none⟩, 
    ⟨some 33, .bin .geq (.t 32) (.c (.int .i64 0)), none⟩]) (
  .cond (.t 33) (.skip) (.exit 2))) (
  .seq (.block 3 (.seq (.drawn [0, 1, 2, 3, 4, 5, 6, 7, 8, 9, 10, 11, 12, 13, 14, 15, 16, 17, 18, 19] [0, 0, 0, 0, 0, 24, 0, 0, 0, 384, 960, 1984, 0, 0, 12288, 28672, 65475, 131011, 262143, 524287] [
    ⟨some 36, .move false (.t 0), none⟩, 
    ⟨some 37, .move false (.t 8), none⟩, 
    ⟨some 38, .move false (.t 0), none⟩, 
    ⟨some 39, .move false (.t 8), none⟩, 
    ⟨some 40, .move false (.t 12), none⟩, 
    ⟨some 41, .bin .add (.t 39) (.t 40), none⟩, 
    ⟨some 42, .move false (.t 0), none⟩, 
    ⟨some 43, .move false (.t 8), none⟩, 
    ⟨some 44, .move false (.t 12), none⟩, 
    ⟨some 45, .bin .add (.t 43) (.t 44), none⟩, 
    ⟨some 46, .iaddr 2 (.t 42) (.t 45), none⟩, 
    ⟨some 47, .load 2 true 2 (.t 46), none⟩, 
    ⟨some 48, .move false (.t 0), none⟩, 
    ⟨some 49, .move false (.t 8), none⟩, 
    ⟨some 50, .iaddr 2 (.t 48) (.t 49), none⟩, 
    ⟨some 51, .load 2 true 2 (.t 50), none⟩, 
    ⟨some 52, .iaddr 2 (.t 36) (.t 37), none⟩, 
    ⟨none, .store 2 (.t 52) (.t 47), none⟩, 
    ⟨some 53, .iaddr 2 (.t 38) (.t 41), none⟩, 
    ⟨none, .store 2 (.t 53) (.t 51), none⟩]) (
  .region [
    ⟨some 54, .move false (.t 0), none⟩, 
    ⟨some 55, .move false (.t 9), none⟩, 
    ⟨some 56, .move false (.t 12), none⟩, 
    ⟨some 57, .move false (.t 8), none⟩, 
    ⟨some 58, .move false (.t 3), none⟩, 
    ⟨some 59, .call true F.slices_siftDownCmpFunc_Cell [(.t 54), (.t 55), (.t 56), (.t 57), (.t 58)], none⟩]))) (
  .region [
    ⟨some 34, .move false (.t 12), none⟩, 
    ⟨some 35, .bin .sub (.t 34) (.c (.int .i64 1)), none⟩, 
    ⟨some 12, .move false (.t 35), none⟩])))))))))
def R.slices_heapSortCmpFunc_Cell : List ARes := []
set_option maxRecDepth 100000 in
theorem K.slices_heapSortCmpFunc_Cell : ckFun Try.prog Try.f220 C.slices_heapSortCmpFunc_Cell R.slices_heapSortCmpFunc_Cell = true := by kernel_rfl
/-- slices.order2CmpFunc[gantry/api.Cell] -/
def C.slices_order2CmpFunc_Cell : ACode :=
  .seq (.region [
    ⟨some 10, .move false (.c (.int .i64 0)), none⟩, 
    ⟨some 11, .move false (.c (.int .i64 0)), none⟩]) (
  .seq (.seq (.drawn [0, 1, 2, 3, 4, 5, 6, 7, 8, 9, 10] [0, 0, 0, 6, 14, 0, 0, 96, 224, 511, 1023] [
    ⟨some 12, .move false (.t 4), none⟩, 
    ⟨some 13, .move false (.t 0), none⟩, 
    ⟨some 14, .move false (.t 2), none⟩, 
    ⟨some 15, .iaddr 2 (.t 13) (.t 14), none⟩, 
    ⟨some 16, .load 2 true 2 (.t 15), none⟩, 
    ⟨some 17, .move false (.t 0), none⟩, 
    ⟨some 18, .move false (.t 1), none⟩, 
    ⟨some 19, .iaddr 2 (.t 17) (.t 18), none⟩, 
    ⟨some 20, .load 2 true 2 (.t 19), none⟩, 
    ⟨some 21, .hop (.callvq (.t 12) [(.t 16), (.t 20)]), none⟩, 
    ⟨some 22, .bin .lss (.t 21) (.c (.int .i64 0)), none⟩]) (
  .cond (.t 22) (.seq (.region [
    ⟨some 23, .move false (.t 3), none⟩, 
    ⟨some 24, .nilck (.t 23), none⟩, 
    ⟨some 25, .load 2 false 1 (.t 24), none⟩, 
    ⟨some 26, .bin .add (.t 25) (.c (.int .i64 1)), none⟩, 
    ⟨some 27, .nilck (.t 23), none⟩, 
    ⟨none, .store 1 (.t 27) (.t 26), none⟩]) (
  .seq (.region [
    ⟨some 28, .move false (.t 2), none⟩, 
    ⟨some 29, .move false (.t 1), none⟩, 
    ⟨some 10, .move false (.t 28), none⟩, 
    ⟨some 11, .move false (.t 29), none⟩]) (
  .ret))) (.skip))) (
  .seq (.region [
    ⟨some 30, .move false (.t 1), none⟩, 
    ⟨some 31, .move false (.t 2), none⟩, 
    ⟨some 10, .move false (.t 30), none⟩, 
    ⟨some 11, .move false (.t 31), none⟩]) (
  .ret)))
def R.slices_order2CmpFunc_Cell : List ARes := [.t 10, .t 11]
set_option maxRecDepth 100000 in
theorem K.slices_order2CmpFunc_Cell : ckFun Try.prog Try.f240 C.slices_order2CmpFunc_Cell R.slices_order2CmpFunc_Cell = true := by kernel_rfl
/-- slices.medianCmpFunc[gantry/api.Cell] -/
def C.slices_medianCmpFunc_Cell : ACode :=
  .seq (.region [
    ⟨some 12, .move false (.c (.int .i64 0)), none⟩]) (
  .seq (.region [
    ⟨some 14, .move false (.t 0), none⟩, 
    ⟨some 15, .move false (.t 1), none⟩, 
    ⟨some 16, .move false (.t 2), none⟩, 
    ⟨some 17, .move false (.t 4), none⟩, 
    ⟨some 18, .move false (.t 5), none⟩, 
    ⟨some 19, .call true F.slices_order2CmpFunc_Cell [(.t 14), (.t 15), (.t 16), (.t 17), (.t 18)], none⟩, 
    ⟨some 13, .move false (.t 19), none⟩, 
    ⟨some 20, .ext 0 (.t 13), none⟩, 
    ⟨some 21, .ext 1 (.t 13), none⟩, 
    ⟨some 1, .move false (.t 20), none⟩, 
    ⟨some 2, .move false (.t 21), none⟩]) (
  .seq (.region [
    ⟨some 23, .move false (.t 0), none⟩, 
    ⟨some 24, .move false (.t 2), none⟩, 
    ⟨some 25, .move false (.t 3), none⟩, 
    ⟨some 26, .move false (.t 4), none⟩, 
    ⟨some 27, .move false (.t 5), none⟩, 
    ⟨some 28, .call true F.slices_order2CmpFunc_Cell [(.t 23), (.t 24), (.t 25), (.t 26), (.t 27)], none⟩, 
    ⟨some 22, .move false (.t 28), none⟩, 
    ⟨some 29, .ext 0 (.t 22), none⟩, 
    ⟨some 30, .ext 1 (.t 22), none⟩, 
    ⟨some 2, .move false (.t 29), none⟩, 
    ⟨some 3, .move false (.t 30), none⟩]) (
  .seq (.region [
    ⟨some 32, .move false (.t 0), none⟩, 
    ⟨some 33, .move false (.t 1), none⟩, 
    ⟨some 34, .move false (.t 2), none⟩, 
    ⟨some 35, .move false (.t 4), none⟩, 
    ⟨some 36, .move false (.t 5), none⟩, 
    ⟨some 37, .call true F.slices_order2CmpFunc_Cell [(.t 32), (.t 33), (.t 34), (.t 35), (.t 36)], none⟩, 
    ⟨some 31, .move false (.t 37), none⟩, 
    ⟨some 38, .ext 0 (.t 31), none⟩, 
    ⟨some 39, .ext 1 (.t 31), none⟩, 
    ⟨some 1, .move false (.t 38), none⟩, 
    ⟨some 2, .move false (.t 39), none⟩]) (
  .seq (.region [
    ⟨some 40, .move false (.t 2), none⟩, 
    ⟨some 12, .move false (.t 40), none⟩]) (
  .ret)))))
def R.slices_medianCmpFunc_Cell : List ARes := [.t 12]
set_option maxRecDepth 100000 in
theorem K.slices_medianCmpFunc_Cell : ckFun Try.prog Try.f238 C.slices_medianCmpFunc_Cell R.slices_medianCmpFunc_Cell = true := by kernel_rfl
/-- slices.medianAdjacentCmpFunc[gantry/api.Cell] -/
def C.slices_medianAdjacentCmpFunc_Cell : ACode :=
  .seq (.region [
    ⟨some 8, .move false (.c (.int .i64 0)), none⟩]) (
  .seq (.region [
    ⟨some 9, .move false (.t 0), none⟩, 
    ⟨some 10, .move false (.t 1), none⟩, 
    ⟨some 11, .bin .sub (.t 10) (.c (.int .i64 1)), none⟩, 
    ⟨some 12, .move false (.t 1), none⟩, 
    ⟨some 13, .move false (.t 1), none⟩, 
    ⟨some 14, .bin .add (.t 13) (.c (.int .i64 1)), none⟩, 
    ⟨some 15, .move false (.t 2), none⟩, 
    ⟨some 16, .move false (.t 3), none⟩, 
    ⟨some 17, .call true F.slices_medianCmpFunc_Cell [(.t 9), (.t 11), (.t 12), (.t 14), (.t 15), (.t 16)], none⟩, 
    ⟨some 8, .move false (.t 17), none⟩]) (
  .ret))
def R.slices_medianAdjacentCmpFunc_Cell : List ARes := [.t 8]
set_option maxRecDepth 100000 in
theorem K.slices_medianAdjacentCmpFunc_Cell : ckFun Try.prog Try.f237 C.slices_medianAdjacentCmpFunc_Cell R.slices_medianAdjacentCmpFunc_Cell = true := by kernel_rfl
/-- slices.choosePivotCmpFunc[gantry/api.Cell] -/
def C.slices_choosePivotCmpFunc_Cell : ACode :=
  .seq (.region [
    ⟨some 8, .move false (.c (.int .i64 0)), none⟩, 
    ⟨some 9, .move false (.c (.int .i64 0)), none⟩]) (
  .seq (.region [
    ⟨some 15, .move false (.t 2), none⟩, 
    ⟨some 16, .move false (.t 1), none⟩, 
    ⟨some 17, .bin .sub (.t 15) (.t 16), none⟩, 
    ⟨some 10, .move false (.t 17), none⟩]) (
  .seq (.region [
    ⟨some 11, .alloc false [(.int .i64 0)], none⟩]) (
  .seq (.prom 11 (.region [
    ⟨some 18, .move false (.t 1), none⟩, 
    ⟨some 19, .move false (.t 10), none⟩, 
    ⟨some 20, .bin .quo (.t 19) (.c (.int .i64 4)), none⟩, 
    ⟨some 21, .bin .mul (.t 20) (.c (.int .i64 1)), none⟩, 
    ⟨some 22, .bin .add (.t 18) (.t 21), none⟩, 
    ⟨some 12, .move false (.t 22), none⟩])) (
  .seq (.region [
    ⟨some 23, .move false (.t 1), none⟩, 
    ⟨some 24, .move false (.t 10), none⟩, 
    ⟨some 25, .bin .quo (.t 24) (.c (.int .i64 4)), none⟩, 
    ⟨some 26, .bin .mul (.t 25) (.c (.int .i64 2)), none⟩, 
    ⟨some 27, .bin .add (.t 23) (.t 26), none⟩, 
    ⟨some 13, .move false (.t 27), none⟩]) (
  .seq (.region [
    ⟨some 28, .move false (.t 1), none⟩, 
    ⟨some 29, .move false (.t 10), none⟩, 
    ⟨some 30, .bin .quo (.t 29) (.c (.int .i64 4)), none⟩, 
    ⟨some 31, .bin .mul (.t 30) (.c (.int .i64 3)), none⟩, 
    ⟨some 32, .bin .add (.t 28) (.t 31), none⟩, 
    ⟨some 14, .move false (.t 32), none⟩]) (
  .seq (.seq (.region [
    ⟨some 33, .move false (.t 10), none⟩, 
    ⟨some 34, .bin .geq (.t 33) (.c (.int .i64 8)), none⟩]) (
  .cond (.t 34) (.seq (.seq (.region [
    ⟨some 35, .move false (.t 10), none⟩, 
    ⟨some 36, .bin .geq (.t 35) (.c (.int .i64 50)), none⟩]) (
  .cond (.t 36) (.seq (.region [
    ⟨some 37, .move false (.t 0), none⟩, 
    ⟨some 38, .move false (.t 12), none⟩, 
    ⟨some 39, .move false (.t 3), none⟩, 
    ⟨some 40, .call true F.slices_medianAdjacentCmpFunc_Cell [(.t 37), (.t 38), (.t 11), (.t 39)], none⟩, 
    ⟨some 12, .move false (.t 40), none⟩]) (
  .seq (.region [
    ⟨some 41, .move false (.t 0), none⟩, 
    ⟨some 42, .move false (.t 13), none⟩, 
    ⟨some 43, .move false (.t 3), none⟩, 
    ⟨some 44, .call true F.slices_medianAdjacentCmpFunc_Cell [(.t 41), (.t 42), (.t 11), (.t 43)], none⟩, 
    ⟨some 13, .move false (.t 44), none⟩]) (
  .region [
    ⟨some 45, .move false (.t 0), none⟩, 
    ⟨some 46, .move false (.t 14), none⟩, 
    ⟨some 47, .move false (.t 3), none⟩, 
    ⟨some 48, .call true F.slices_medianAdjacentCmpFunc_Cell [(.t 45), (.t 46), (.t 11), (.t 47)], none⟩, 
    ⟨some 14, .move false (.t 48), none⟩]))) (.skip))) (
  .region [
    ⟨some 49, .move false (.t 0), none⟩, 
    ⟨some 50, .move false (.t 12), none⟩, 
    ⟨some 51, .move false (.t 13), none⟩, 
    ⟨some 52, .move false (.t 14), none⟩, 
    ⟨some 53, .move false (.t 3), none⟩, 
    ⟨some 54, .call true F.slices_medianCmpFunc_Cell [(.t 49), (.t 50), (.t 51), (.t 52), (.t 11), (.t 53)], none⟩, 
    ⟨some 13, .move false (.t 54), none⟩])) (.skip))) (
  .seq (.region [
    ⟨some 55, .load 2 false 1 (.t 11), none⟩]) (
  .block 0 (.seq (.region [
    ⟨some 58, .bin .eql (.t 55) (.c (.int .i64 0)), none⟩, 
    ⟨some 57, .move false (.t 58), none⟩]) (
  .cond (.t 57) (.seq (.region [
    ⟨some 59, .move false (.t 13), none⟩, 
    ⟨some 8, .move false (.t 59), none⟩, 
    ⟨some 9, .move false (.c (.int .i64 1)), none⟩]) (
  .ret)) (.seq (.region [
    ⟨some 61, .bin .eql (.t 55) (.c (.int .i64 12)), none⟩, 
    ⟨some 60, .move false (.t 61), none⟩]) (
  .cond (.t 60) (.seq (.region [
    ⟨some 62, .move false (.t 13), none⟩, 
    ⟨some 8, .move false (.t 62), none⟩, 
    ⟨some 9, .move false (.c (.int .i64 2)), none⟩]) (
  .ret)) (.seq (.region [
    ⟨some 56, .move false (.t 13), none⟩, 
    ⟨some 8, .move false (.t 56), none⟩, 
    ⟨some 9, .move false (.c (.int .i64 0)), none⟩]) (
  .ret))))))))))))))
def R.slices_choosePivotCmpFunc_Cell : List ARes := [.t 8, .t 9]
set_option maxRecDepth 100000 in
theorem K.slices_choosePivotCmpFunc_Cell : ckFun Try.prog Try.f222 C.slices_choosePivotCmpFunc_Cell R.slices_choosePivotCmpFunc_Cell = true := by kernel_rfl
/-- slices.reverseRangeCmpFunc[gantry/api.Cell] -/
def C.slices_reverseRangeCmpFunc_Cell : ACode :=
  .seq (.region [
    ⟨some 10, .move false (.t 1), none⟩, 
    ⟨some 8, .move false (.t 10), none⟩]) (
  .seq (.region [
    ⟨some 11, .move false (.t 2), none⟩, 
    ⟨some 12, .bin .sub (.t 11) (.c (.int .i64 1)), none⟩, 
    ⟨some 9, .move false (.t 12), none⟩]) (
  .block 0 (.loop (.seq (.seq (.region [
    ⟨some 13, .move false (.t 8), none⟩, 
    ⟨some 14, .move false (.t 9), none⟩, 
    ⟨some 15, .bin .lss (.t 13) (.t 14), none⟩]) (
  .cond (.t 15) (.skip) (.exit 0))) (
  .block 1 (.seq (.drawn [0, 1, 2, 3, 4, 5, 6, 7, 8, 9, 10, 11, 12, 13, 14, 15] [0, 0, 0, 0, 0, 0, 48, 112, 0, 0, 768, 1792, 4083, 8179, 16383, 32767] [
    ⟨some 16, .move false (.t 0), none⟩, 
    ⟨some 17, .move false (.t 8), none⟩, 
    ⟨some 18, .move false (.t 0), none⟩, 
    ⟨some 19, .move false (.t 9), none⟩, 
    ⟨some 20, .move false (.t 0), none⟩, 
    ⟨some 21, .move false (.t 9), none⟩, 
    ⟨some 22, .iaddr 2 (.t 20) (.t 21), none⟩, 
    ⟨some 23, .load 2 true 2 (.t 22), none⟩, 
    ⟨some 24, .move false (.t 0), none⟩, 
    ⟨some 25, .move false (.t 8), none⟩, 
    ⟨some 26, .iaddr 2 (.t 24) (.t 25), none⟩, 
    ⟨some 27, .load 2 true 2 (.t 26), none⟩, 
    ⟨some 28, .iaddr 2 (.t 16) (.t 17), none⟩, 
    ⟨none, .store 2 (.t 28) (.t 23), none⟩, 
    ⟨some 29, .iaddr 2 (.t 18) (.t 19), none⟩, 
    ⟨none, .store 2 (.t 29) (.t 27), none⟩]) (
  .seq (.region [
    ⟨some 30, .move false (.t 8), none⟩, 
    ⟨some 31, .bin .add (.t 30) (.c (.int .i64 1)), none⟩, 
    ⟨some 8, .move false (.t 31), none⟩]) (
  .region [
    ⟨some 32, .move false (.t 9), none⟩, 
    ⟨some 33, .bin .sub (.t 32) (.c (.int .i64 1)), none⟩, 
    ⟨some 9, .move false (.t 33), none⟩]))))))))
def R.slices_reverseRangeCmpFunc_Cell : List ARes := []
set_option maxRecDepth 100000 in
theorem K.slices_reverseRangeCmpFunc_Cell : ckFun Try.prog Try.f223 C.slices_reverseRangeCmpFunc_Cell R.slices_reverseRangeCmpFunc_Cell = true := by kernel_rfl
/-- (*slices.xorshift).Next -/
def C.slices_xorshift_Next : ACode :=
  .seq (.region [
    ⟨some 2, .move false (.c (.int .u64 0)), none⟩]) (
  .seq (.drawn [0, 1, 2, 3, 4, 5, 6, 7, 8, 9] [0, 1, 3, 0, 8, 24, 56, 127, 255, 511] [
    ⟨some 3, .move false (.t 0), none⟩, 
    ⟨some 4, .nilck (.t 3), none⟩, 
    ⟨some 5, .load 2 false 1 (.t 4), none⟩, 
    ⟨some 6, .move false (.t 0), none⟩, 
    ⟨some 7, .nilck (.t 6), none⟩, 
    ⟨some 8, .load 2 false 1 (.t 7), none⟩, 
    ⟨some 9, .bin .shl (.t 8) (.c (.int .u64 13)), none⟩, 
    ⟨some 10, .bin .xor (.t 5) (.t 9), none⟩, 
    ⟨some 11, .nilck (.t 3), none⟩, 
    ⟨none, .store 1 (.t 11) (.t 10), none⟩]) (
  .seq (.drawn [0, 1, 2, 3, 4, 5, 6, 7, 8, 9] [0, 1, 3, 0, 8, 24, 56, 127, 255, 511] [
    ⟨some 12, .move false (.t 0), none⟩, 
    ⟨some 13, .nilck (.t 12), none⟩, 
    ⟨some 14, .load 2 false 1 (.t 13), none⟩, 
    ⟨some 15, .move false (.t 0), none⟩, 
    ⟨some 16, .nilck (.t 15), none⟩, 
    ⟨some 17, .load 2 false 1 (.t 16), none⟩, 
    ⟨some 18, .bin .shr (.t 17) (.c (.int .u64 7)), none⟩, 
    ⟨some 19, .bin .xor (.t 14) (.t 18), none⟩, 
    ⟨some 20, .nilck (.t 12), none⟩, 
    ⟨none, .store 1 (.t 20) (.t 19), none⟩]) (
  .seq (.drawn [0, 1, 2, 3, 4, 5, 6, 7, 8, 9] [0, 1, 3, 0, 8, 24, 56, 127, 255, 511] [
    ⟨some 21, .move false (.t 0), none⟩, 
    ⟨some 22, .nilck (.t 21), none⟩, 
    ⟨some 23, .load 2 false 1 (.t 22), none⟩, 
    ⟨some 24, .move false (.t 0), none⟩, 
    ⟨some 25, .nilck (.t 24), none⟩, 
    ⟨some 26, .load 2 false 1 (.t 25), none⟩, 
    ⟨some 27, .bin .shl (.t 26) (.c (.int .u64 17)), none⟩, 
    ⟨some 28, .bin .xor (.t 23) (.t 27), none⟩, 
    ⟨some 29, .nilck (.t 21), none⟩, 
    ⟨none, .store 1 (.t 29) (.t 28), none⟩]) (
  .seq (.region [
    ⟨some 30, .move false (.t 0), none⟩, 
    ⟨some 31, .nilck (.t 30), none⟩, 
    ⟨some 32, .load 2 false 1 (.t 31), none⟩, 
    ⟨some 2, .move false (.t 32), none⟩]) (
  .ret)))))
def R.slices_xorshift_Next : List ARes := [.t 2]
set_option maxRecDepth 100000 in
theorem K.slices_xorshift_Next : ckFun Try.prog Try.f236 C.slices_xorshift_Next R.slices_xorshift_Next = true := by kernel_rfl
/-- slices.nextPowerOfTwo -/
def C.slices_nextPowerOfTwo : ACode :=
  .seq (.region [
    ⟨some 2, .move false (.c (.int .u64 0)), none⟩]) (
  .seq (.region [
    ⟨some 3, .move false (.t 0), none⟩, 
    ⟨some 4, .conv .u64 (.t 3), none⟩, 
    ⟨some 5, .call true F.bits_Len [(.t 4)], none⟩, 
    ⟨some 6, .bin .shl (.c (.int .u64 1)) (.t 5), none⟩, 
    ⟨some 2, .move false (.t 6), none⟩]) (
  .ret))
def R.slices_nextPowerOfTwo : List ARes := [.t 2]
set_option maxRecDepth 100000 in
theorem K.slices_nextPowerOfTwo : ckFun Try.prog Try.f235 C.slices_nextPowerOfTwo R.slices_nextPowerOfTwo = true := by kernel_rfl
/-- slices.breakPatternsCmpFunc[gantry/api.Cell] -/
def C.slices_breakPatternsCmpFunc_Cell : ACode :=
  .seq (.region [
    ⟨some 13, .move false (.t 2), none⟩, 
    ⟨some 14, .move false (.t 1), none⟩, 
    ⟨some 15, .bin .sub (.t 13) (.t 14), none⟩, 
    ⟨some 8, .move false (.t 15), none⟩]) (
  .seq (.region [
    ⟨some 16, .move false (.t 8), none⟩, 
    ⟨some 17, .bin .geq (.t 16) (.c (.int .i64 8)), none⟩]) (
  .cond (.t 17) (.seq (.region [
    ⟨some 18, .move false (.t 8), none⟩, 
    ⟨some 19, .conv .u64 (.t 18), none⟩, 
    ⟨some 9, .alloc false [(.int .u64 0)], none⟩, 
    ⟨none, .store 1 (.t 9) (.t 19), none⟩]) (
  .seq (.prom 9 (.region [
    ⟨some 20, .move false (.t 8), none⟩, 
    ⟨some 21, .call true F.slices_nextPowerOfTwo [(.t 20)], none⟩, 
    ⟨some 10, .move false (.t 21), none⟩])) (
  .seq (.region [
    ⟨some 22, .move false (.t 1), none⟩, 
    ⟨some 23, .move false (.t 8), none⟩, 
    ⟨some 24, .bin .quo (.t 23) (.c (.int .i64 4)), none⟩, 
    ⟨some 25, .bin .mul (.t 24) (.c (.int .i64 2)), none⟩, 
    ⟨some 26, .bin .add (.t 22) (.t 25), none⟩, 
    ⟨some 27, .bin .sub (.t 26) (.c (.int .i64 1)), none⟩, 
    ⟨some 11, .move false (.t 27), none⟩]) (
  .block 0 (.loop (.seq (.seq (.region [
    ⟨some 28, .move false (.t 11), none⟩, 
    ⟨some 29, .move false (.t 1), none⟩, 
    ⟨some 30, .move false (.t 8), none⟩, 
    ⟨some 31, .bin .quo (.t 30) (.c (.int .i64 4)), none⟩, 
    ⟨some 32, .bin .mul (.t 31) (.c (.int .i64 2)), none⟩, 
    ⟨some 33, .bin .add (.t 29) (.t 32), none⟩, 
    ⟨some 34, .bin .add (.t 33) (.c (.int .i64 1)), none⟩, 
    ⟨some 35, .bin .leq (.t 28) (.t 34), none⟩]) (
  .cond (.t 35) (.skip) (.exit 0))) (
  .seq (.block 1 (.seq (.region [
    ⟨some 38, .call true F.slices_xorshift_Next [(.t 9)], none⟩, 
    ⟨some 39, .move false (.t 10), none⟩, 
    ⟨some 40, .bin .sub (.t 39) (.c (.int .u64 1)), none⟩, 
    ⟨some 41, .bin .and (.t 38) (.t 40), none⟩, 
    ⟨some 42, .conv .i64 (.t 41), none⟩, 
    ⟨some 12, .move false (.t 42), none⟩]) (
  .seq (.seq (.region [
    ⟨some 43, .move false (.t 12), none⟩, 
    ⟨some 44, .move false (.t 8), none⟩, 
    ⟨some 45, .bin .geq (.t 43) (.t 44), none⟩]) (
  .cond (.t 45) (.region [
    ⟨some 46, .move false (.t 12), none⟩, 
    ⟨some 47, .move false (.t 8), none⟩, 
    ⟨some 48, .bin .sub (.t 46) (.t 47), none⟩, 
    ⟨some 12, .move false (.t 48), none⟩]) (.skip))) (
  .drawn [0, 1, 2, 3, 4, 5, 6, 7, 8, 9, 10, 11, 12, 13, 14, 15, 16, 17, 18, 19] [0, 0, 0, 0, 0, 24, 0, 0, 0, 384, 960, 1984, 0, 0, 12288, 28672, 65475, 131011, 262143, 524287] [
    ⟨some 49, .move false (.t 0), none⟩, 
    ⟨some 50, .move false (.t 11), none⟩, 
    ⟨some 51, .move false (.t 0), none⟩, 
    ⟨some 52, .move false (.t 1), none⟩, 
    ⟨some 53, .move false (.t 12), none⟩, 
    ⟨some 54, .bin .add (.t 52) (.t 53), none⟩, 
    ⟨some 55, .move false (.t 0), none⟩, 
    ⟨some 56, .move false (.t 1), none⟩, 
    ⟨some 57, .move false (.t 12), none⟩, 
    ⟨some 58, .bin .add (.t 56) (.t 57), none⟩, 
    ⟨some 59, .iaddr 2 (.t 55) (.t 58), none⟩, 
    ⟨some 60, .load 2 true 2 (.t 59), none⟩, 
    ⟨some 61, .move false (.t 0), none⟩, 
    ⟨some 62, .move false (.t 11), none⟩, 
    ⟨some 63, .iaddr 2 (.t 61) (.t 62), none⟩, 
    ⟨some 64, .load 2 true 2 (.t 63), none⟩, 
    ⟨some 65, .iaddr 2 (.t 49) (.t 50), none⟩, 
    ⟨none, .store 2 (.t 65) (.t 60), none⟩, 
    ⟨some 66, .iaddr 2 (.t 51) (.t 54), none⟩, 
    ⟨none, .store 2 (.t 66) (.t 64), none⟩])))) (
  .region [
    ⟨some 36, .move false (.t 11), none⟩, 
    ⟨some 37, .bin .add (.t 36) (.c (.int .i64 1)), none⟩, 
    ⟨some 11, .move false (.t 37), none⟩])))))))) (.skip)))
def R.slices_breakPatternsCmpFunc_Cell : List ARes := []
set_option maxRecDepth 100000 in
theorem K.slices_breakPatternsCmpFunc_Cell : ckFun Try.prog Try.f221 C.slices_breakPatternsCmpFunc_Cell R.slices_breakPatternsCmpFunc_Cell = true := by kernel_rfl
/-- slices.partialInsertionSortCmpFunc[gantry/api.Cell] -/
def C.slices_partialInsertionSortCmpFunc_Cell : ACode :=
  .seq (.region [
    ⟨some 8, .move false (.c (.bool false)), none⟩]) (
  .seq (.region [
    ⟨some 13, .move false (.t 1), none⟩, 
    ⟨some 14, .bin .add (.t 13) (.c (.int .i64 1)), none⟩, 
    ⟨some 9, .move false (.t 14), none⟩]) (
  .seq (.seq (.region [
    ⟨some 10, .move false (.c (.int .i64 0)), none⟩]) (
  .block 0 (.loop (.seq (.seq (.region [
    ⟨some 15, .move false (.t 10), none⟩, 
    ⟨some 16, .bin .lss (.t 15) (.c (.int .i64 5)), none⟩]) (
  .cond (.t 16) (.skip) (.exit 0))) (
  .seq (.block 1 (.seq (.block 2 (.loop (.seq (.seq (.drawn [0, 1, 2, 3, 4, 5, 6, 7, 8, 9, 10, 11, 12, 13, 14, 15, 16, 17] [0, 0, 3, 7, 15, 15, 15, 111, 239, 15, 15, 1039, 3599, 7695, 16383, 32767, 65535, 131071] [
    ⟨some 19, .move false (.t 9), none⟩, 
    ⟨some 20, .move false (.t 2), none⟩, 
    ⟨some 21, .bin .lss (.t 19) (.t 20), none⟩, 
    ⟨some 22, .move false (.t 21), none⟩, 
    ⟨some 23, .move false (.t 3), (some (22, true))⟩, 
    ⟨some 24, .move false (.t 0), (some (22, true))⟩, 
    ⟨some 25, .move false (.t 9), (some (22, true))⟩, 
    ⟨some 26, .iaddr 2 (.t 24) (.t 25), (some (22, true))⟩, 
    ⟨some 27, .load 2 true 2 (.t 26), (some (22, true))⟩, 
    ⟨some 28, .move false (.t 0), (some (22, true))⟩, 
    ⟨some 29, .move false (.t 9), (some (22, true))⟩, 
    ⟨some 30, .bin .sub (.t 29) (.c (.int .i64 1)), (some (22, true))⟩, 
    ⟨some 31, .iaddr 2 (.t 28) (.t 30), (some (22, true))⟩, 
    ⟨some 32, .load 2 true 2 (.t 31), (some (22, true))⟩, 
    ⟨some 33, .hop (.callvq (.t 23) [(.t 27), (.t 32)]), (some (22, true))⟩, 
    ⟨some 34, .bin .lss (.t 33) (.c (.int .i64 0)), (some (22, true))⟩, 
    ⟨some 35, .un .not (.t 34), (some (22, true))⟩, 
    ⟨some 36, .pick (.t 22) (.t 35) (.c (.bool false)), none⟩]) (
  .cond (.t 36) (.skip) (.exit 2))) (
  .block 3 (.region [
    ⟨some 37, .move false (.t 9), none⟩, 
    ⟨some 38, .bin .add (.t 37) (.c (.int .i64 1)), none⟩, 
    ⟨some 9, .move false (.t 38), none⟩]))))) (
  .seq (.seq (.region [
    ⟨some 39, .move false (.t 9), none⟩, 
    ⟨some 40, .move false (.t 2), none⟩, 
    ⟨some 41, .bin .eql (.t 39) (.t 40), none⟩]) (
  .cond (.t 41) (.seq (.region [
    ⟨some 8, .move false (.c (.bool true)), none⟩]) (
  .ret)) (.skip))) (
  .seq (.seq (.region [
    ⟨some 42, .move false (.t 2), none⟩, 
    ⟨some 43, .move false (.t 1), none⟩, 
    ⟨some 44, .bin .sub (.t 42) (.t 43), none⟩, 
    ⟨some 45, .bin .lss (.t 44) (.c (.int .i64 50)), none⟩]) (
  .cond (.t 45) (.seq (.region [
    ⟨some 8, .move false (.c (.bool false)), none⟩]) (
  .ret)) (.skip))) (
  .seq (.drawn [0, 1, 2, 3, 4, 5, 6, 7, 8, 9, 10, 11, 12, 13, 14, 15, 16, 17] [0, 0, 0, 0, 8, 0, 0, 64, 224, 480, 0, 0, 3072, 7168, 16355, 32739, 65535, 131071] [
    ⟨some 46, .move false (.t 0), none⟩, 
    ⟨some 47, .move false (.t 9), none⟩, 
    ⟨some 48, .move false (.t 0), none⟩, 
    ⟨some 49, .move false (.t 9), none⟩, 
    ⟨some 50, .bin .sub (.t 49) (.c (.int .i64 1)), none⟩, 
    ⟨some 51, .move false (.t 0), none⟩, 
    ⟨some 52, .move false (.t 9), none⟩, 
    ⟨some 53, .bin .sub (.t 52) (.c (.int .i64 1)), none⟩, 
    ⟨some 54, .iaddr 2 (.t 51) (.t 53), none⟩, 
    ⟨some 55, .load 2 true 2 (.t 54), none⟩, 
    ⟨some 56, .move false (.t 0), none⟩, 
    ⟨some 57, .move false (.t 9), none⟩, 
    ⟨some 58, .iaddr 2 (.t 56) (.t 57), none⟩, 
    ⟨some 59, .load 2 true 2 (.t 58), none⟩, 
    ⟨some 60, .iaddr 2 (.t 46) (.t 47), none⟩, 
    ⟨none, .store 2 (.t 60) (.t 55), none⟩, 
    ⟨some 61, .iaddr 2 (.t 48) (.t 50), none⟩, 
    ⟨none, .store 2 (.t 61) (.t 59), none⟩]) (
  .seq (.seq (.region [
    ⟨some 62, .move false (.t 9), none⟩, 
    ⟨some 63, .move false (.t 1), none⟩, 
    ⟨some 64, .bin .sub (.t 62) (.t 63), none⟩, 
    ⟨some 65, .bin .geq (.t 64) (.c (.int .i64 2)), none⟩]) (
  .cond (.t 65) (.seq (.region [
    ⟨some 66, .move false (.t 9), none⟩, 
    ⟨some 67, .bin .sub (.t 66) (.c (.int .i64 1)), none⟩, 
    ⟨some 11, .move false (.t 67), none⟩]) (
  .block 4 (.loop (.seq (.seq (.region [
    ⟨some 68, .move false (.t 11), none⟩, 
    ⟨some 69, .bin .geq (.t 68) (.c (.int .i64 1)), none⟩]) (
  .cond (.t 69) (.skip) (.exit 4))) (
  .seq (.block 5 (.seq (.seq (.drawn [0, 1, 2, 3, 4, 5, 6, 7, 8, 9, 10, 11, 12] [0, 0, 0, 6, 14, 0, 0, 64, 224, 480, 1023, 2047, 4095] [
    ⟨some 72, .move false (.t 3), none⟩, 
    ⟨some 73, .move false (.t 0), none⟩, 
    ⟨some 74, .move false (.t 11), none⟩, 
    ⟨some 75, .iaddr 2 (.t 73) (.t 74), none⟩, 
    ⟨some 76, .load 2 true 2 (.t 75), none⟩, 
    ⟨some 77, .move false (.t 0), none⟩, 
    ⟨some 78, .move false (.t 11), none⟩, 
    ⟨some 79, .bin .sub (.t 78) (.c (.int .i64 1)), none⟩, 
    ⟨some 80, .iaddr 2 (.t 77) (.t 79), none⟩, 
    ⟨some 81, .load 2 true 2 (.t 80), none⟩, 
    ⟨some 82, .hop (.callvq (.t 72) [(.t 76), (.t 81)]), none⟩, 
    ⟨some 83, .bin .lss (.t 82) (.c (.int .i64 0)), none⟩, 
    ⟨some 84, .un .not (.t 83), none⟩]) (
  .cond (.t 84) (.exit 4) (.skip))) (
  .drawn [0, 1, 2, 3, 4, 5, 6, 7, 8, 9, 10, 11, 12, 13, 14, 15, 16, 17] [0, 0, 0, 0, 8, 0, 0, 64, 224, 480, 0, 0, 3072, 7168, 16355, 32739, 65535, 131071] [
    ⟨some 85, .move false (.t 0), none⟩, 
    ⟨some 86, .move false (.t 11), none⟩, 
    ⟨some 87, .move false (.t 0), none⟩, 
    ⟨some 88, .move false (.t 11), none⟩, 
    ⟨some 89, .bin .sub (.t 88) (.c (.int .i64 1)), none⟩, 
    ⟨some 90, .move false (.t 0), none⟩, 
    ⟨some 91, .move false (.t 11), none⟩, 
    ⟨some 92, .bin .sub (.t 91) (.c (.int .i64 1)), none⟩, 
    ⟨some 93, .iaddr 2 (.t 90) (.t 92), none⟩, 
    ⟨some 94, .load 2 true 2 (.t 93), none⟩, 
    ⟨some 95, .move false (.t 0), none⟩, 
    ⟨some 96, .move false (.t 11), none⟩, 
    ⟨some 97, .iaddr 2 (.t 95) (.t 96), none⟩, 
    ⟨some 98, .load 2 true 2 (.t 97), none⟩, 
    ⟨some 99, .iaddr 2 (.t 85) (.t 86), none⟩, 
    ⟨none, .store 2 (.t 99) (.t 94), none⟩, 
    ⟨some 100, .iaddr 2 (.t 87) (.t 89), none⟩, 
    ⟨none, .store 2 (.t 100) (.t 98), none⟩]))) (
  .region [
    ⟨some 70, .move false (.t 11), none⟩, 
    ⟨some 71, .bin .sub (.t 70) (.c (.int .i64 1)), none⟩, 
    ⟨some 11, .move false (.t 71), none⟩])))))) (.skip))) (
  .seq (.region [
    ⟨some 101, .move false (.t 2), none⟩, 
    ⟨some 102, .move false (.t 9), none⟩, 
    ⟨some 103, .bin .sub (.t 101) (.t 102), none⟩, 
    ⟨some 104, .bin .geq (.t 103) (.c (.int .i64 2)), none⟩]) (
  .cond (.t 104) (.seq (.region [
    ⟨some 105, .move false (.t 9), none⟩, 
    ⟨some 106, .bin .add (.t 105) (.c (.int .i64 1)), none⟩, 
    ⟨some 12, .move false (.t 106), none⟩]) (
  .block 6 (.loop (.seq (.seq (.region [
    ⟨some 107, .move false (.t 12), none⟩, 
    ⟨some 108, .move false (.t 2), none⟩, 
    ⟨some 109, .bin .lss (.t 107) (.t 108), none⟩]) (
  .cond (.t 109) (.skip) (.exit 6))) (
  .seq (.block 7 (.seq (.seq (.drawn [0, 1, 2, 3, 4, 5, 6, 7, 8, 9, 10, 11, 12] [0, 0, 0, 6, 14, 0, 0, 64, 224, 480, 1023, 2047, 4095] [
    ⟨some 112, .move false (.t 3), none⟩, 
    ⟨some 113, .move false (.t 0), none⟩, 
    ⟨some 114, .move false (.t 12), none⟩, 
    ⟨some 115, .iaddr 2 (.t 113) (.t 114), none⟩, 
    ⟨some 116, .load 2 true 2 (.t 115), none⟩, 
    ⟨some 117, .move false (.t 0), none⟩, 
    ⟨some 118, .move false (.t 12), none⟩, 
    ⟨some 119, .bin .sub (.t 118) (.c (.int .i64 1)), none⟩, 
    ⟨some 120, .iaddr 2 (.t 117) (.t 119), none⟩, 
    ⟨some 121, .load 2 true 2 (.t 120), none⟩, 
    ⟨some 122, .hop (.callvq (.t 112) [(.t 116), (.t 121)]), none⟩, 
    ⟨some 123, .bin .lss (.t 122) (.c (.int .i64 0)), none⟩, 
    ⟨some 124, .un .not (.t 123), none⟩]) (
  .cond (.t 124) (.exit 6) (.skip))) (
  .drawn [0, 1, 2, 3, 4, 5, 6, 7, 8, 9, 10, 11, 12, 13, 14, 15, 16, 17] [0, 0, 0, 0, 8, 0, 0, 64, 224, 480, 0, 0, 3072, 7168, 16355, 32739, 65535, 131071] [
    ⟨some 125, .move false (.t 0), none⟩, 
    ⟨some 126, .move false (.t 12), none⟩, 
    ⟨some 127, .move false (.t 0), none⟩, 
    ⟨some 128, .move false (.t 12), none⟩, 
    ⟨some 129, .bin .sub (.t 128) (.c (.int .i64 1)), none⟩, 
    ⟨some 130, .move false (.t 0), none⟩, 
    ⟨some 131, .move false (.t 12), none⟩, 
    ⟨some 132, .bin .sub (.t 131) (.c (.int .i64 1)), none⟩, 
    ⟨some 133, .iaddr 2 (.t 130) (.t 132), none⟩, 
    ⟨some 134, .load 2 true 2 (.t 133), none⟩, 
    ⟨some 135, .move false (.t 0), none⟩, 
    ⟨some 136, .move false (.t 12), none⟩, 
    ⟨some 137, .iaddr 2 (.t 135) (.t 136), none⟩, 
    ⟨some 138, .load 2 true 2 (.t 137), none⟩, 
    ⟨some 139, .iaddr 2 (.t 125) (.t 126), none⟩, 
    ⟨none, .store 2 (.t 139) (.t 134), none⟩, 
    ⟨some 140, .iaddr 2 (.t 127) (.t 129), none⟩, 
    ⟨none, .store 2 (.t 140) (.t 138), none⟩]))) (
  .region [
    ⟨some 110, .move false (.t 12), none⟩, 
    ⟨some 111, .bin .add (.t 110) (.c (.int .i64 1)), none⟩, 
    ⟨some 12, .move false (.t 111), none⟩])))))) (.skip))))))))) (
  .region [
    ⟨some 17, .move false (.t 10), none⟩, 
    ⟨some 18, .bin .add (.t 17) (.c (.int .i64 1)), none⟩, 
    ⟨some 10, .move false (.t 18), none⟩])))))) (
  .seq (.region [
    ⟨some 8, .move false (.c (.bool false)), none⟩]) (
  .ret))))
def R.slices_partialInsertionSortCmpFunc_Cell : List ARes := [.t 8]
set_option maxRecDepth 100000 in
theorem K.slices_partialInsertionSortCmpFunc_Cell : ckFun Try.prog Try.f224 C.slices_partialInsertionSortCmpFunc_Cell R.slices_partialInsertionSortCmpFunc_Cell = true := by kernel_rfl
/-- slices.partitionEqualCmpFunc[gantry/api.Cell] -/
def C.slices_partitionEqualCmpFunc_Cell : ACode :=
  .seq (.region [
    ⟨some 10, .move false (.c (.int .i64 0)), none⟩]) (
  .seq (.drawn [0, 1, 2, 3, 4, 5, 6, 7, 8, 9, 10, 11, 12, 13, 14, 15] [0, 0, 0, 0, 0, 0, 48, 112, 0, 0, 768, 1792, 4083, 8179, 16383, 32767] [
    ⟨some 13, .move false (.t 0), none⟩, 
    ⟨some 14, .move false (.t 1), none⟩, 
    ⟨some 15, .move false (.t 0), none⟩, 
    ⟨some 16, .move false (.t 3), none⟩, 
    ⟨some 17, .move false (.t 0), none⟩, 
    ⟨some 18, .move false (.t 3), none⟩, 
    ⟨some 19, .iaddr 2 (.t 17) (.t 18), none⟩, 
    ⟨some 20, .load 2 true 2 (.t 19), none⟩, 
    ⟨some 21, .move false (.t 0), none⟩, 
    ⟨some 22, .move false (.t 1), none⟩, 
    ⟨some 23, .iaddr 2 (.t 21) (.t 22), none⟩, 
    ⟨some 24, .load 2 true 2 (.t 23), none⟩, 
    ⟨some 25, .iaddr 2 (.t 13) (.t 14), none⟩, 
    ⟨none, .store 2 (.t 25) (.t 20), none⟩, 
    ⟨some 26, .iaddr 2 (.t 15) (.t 16), none⟩, 
    ⟨none, .store 2 (.t 26) (.t 24), none⟩]) (
  .seq (.region [
    ⟨some 27, .move false (.t 1), none⟩, 
    ⟨some 28, .bin .add (.t 27) (.c (.int .i64 1)), none⟩, 
    ⟨some 29, .move false (.t 2), none⟩, 
    ⟨some 30, .bin .sub (.t 29) (.c (.int .i64 1)), none⟩, 
    ⟨some 11, .move false (.t 28), none⟩, 
    ⟨some 12, .move false (.t 30), none⟩]) (
  .seq (.block 0 (.loop (.block 1 (.seq (.block 2 (.loop (.seq (.seq (.drawn [0, 1, 2, 3, 4, 5, 6, 7, 8, 9, 10, 11, 12, 13, 14, 15, 16] [0, 0, 3, 7, 15, 15, 15, 111, 239, 15, 15, 1551, 3599, 8191, 16383, 32767, 65535] [
    ⟨some 31, .move false (.t 11), none⟩, 
    ⟨some 32, .move false (.t 12), none⟩, 
    ⟨some 33, .bin .leq (.t 31) (.t 32), none⟩, 
    ⟨some 34, .move false (.t 33), none⟩, 
    ⟨some 35, .move false (.t 4), (some (34, true))⟩, 
    ⟨some 36, .move false (.t 0), (some (34, true))⟩, 
    ⟨some 37, .move false (.t 1), (some (34, true))⟩, 
    ⟨some 38, .iaddr 2 (.t 36) (.t 37), (some (34, true))⟩, 
    ⟨some 39, .load 2 true 2 (.t 38), (some (34, true))⟩, 
    ⟨some 40, .move false (.t 0), (some (34, true))⟩, 
    ⟨some 41, .move false (.t 11), (some (34, true))⟩, 
    ⟨some 42, .iaddr 2 (.t 40) (.t 41), (some (34, true))⟩, 
    ⟨some 43, .load 2 true 2 (.t 42), (some (34, true))⟩, 
    ⟨some 44, .hop (.callvq (.t 35) [(.t 39), (.t 43)]), (some (34, true))⟩, 
    ⟨some 45, .bin .lss (.t 44) (.c (.int .i64 0)), (some (34, true))⟩, 
    ⟨some 46, .un .not (.t 45), (some (34, true))⟩, 
    ⟨some 47, .pick (.t 34) (.t 46) (.c (.bool false)), none⟩]) (
  .cond (.t 47) (.skip) (.exit 2))) (
  .block 3 (.region [
    ⟨some 48, .move false (.t 11), none⟩, 
    ⟨some 49, .bin .add (.t 48) (.c (.int .i64 1)), none⟩, 
    ⟨some 11, .move false (.t 49), none⟩]))))) (
  .seq (.block 4 (.loop (.seq (.seq (.drawn [0, 1, 2, 3, 4, 5, 6, 7, 8, 9, 10, 11, 12, 13, 14, 15] [0, 0, 3, 7, 15, 15, 15, 111, 239, 15, 15, 1551, 3599, 8191, 16383, 32767] [
    ⟨some 50, .move false (.t 11), none⟩, 
    ⟨some 51, .move false (.t 12), none⟩, 
    ⟨some 52, .bin .leq (.t 50) (.t 51), none⟩, 
    ⟨some 53, .move false (.t 52), none⟩, 
    ⟨some 54, .move false (.t 4), (some (53, true))⟩, 
    ⟨some 55, .move false (.t 0), (some (53, true))⟩, 
    ⟨some 56, .move false (.t 1), (some (53, true))⟩, 
    ⟨some 57, .iaddr 2 (.t 55) (.t 56), (some (53, true))⟩, 
    ⟨some 58, .load 2 true 2 (.t 57), (some (53, true))⟩, 
    ⟨some 59, .move false (.t 0), (some (53, true))⟩, 
    ⟨some 60, .move false (.t 12), (some (53, true))⟩, 
    ⟨some 61, .iaddr 2 (.t 59) (.t 60), (some (53, true))⟩, 
    ⟨some 62, .load 2 true 2 (.t 61), (some (53, true))⟩, 
    ⟨some 63, .hop (.callvq (.t 54) [(.t 58), (.t 62)]), (some (53, true))⟩, 
    ⟨some 64, .bin .lss (.t 63) (.c (.int .i64 0)), (some (53, true))⟩, 
    ⟨some 65, .pick (.t 53) (.t 64) (.c (.bool false)), none⟩]) (
  .cond (.t 65) (.skip) (.exit 4))) (
  .block 5 (.region [
    ⟨some 66, .move false (.t 12), none⟩, 
    ⟨some 67, .bin .sub (.t 66) (.c (.int .i64 1)), none⟩, 
    ⟨some 12, .move false (.t 67), none⟩]))))) (
  .seq (.seq (.region [
    ⟨some 68, .move false (.t 11), none⟩, 
    ⟨some 69, .move false (.t 12), none⟩, 
    ⟨some 70, .bin .gtr (.t 68) (.t 69), none⟩]) (
  .cond (.t 70) (.exit 0) (.skip))) (
  .seq (.drawn [0, 1, 2, 3, 4, 5, 6, 7, 8, 9, 10, 11, 12, 13, 14, 15] [0, 0, 0, 0, 0, 0, 48, 112, 0, 0, 768, 1792, 4083, 8179, 16383, 32767] [
    ⟨some 71, .move false (.t 0), none⟩, 
    ⟨some 72, .move false (.t 11), none⟩, 
    ⟨some 73, .move false (.t 0), none⟩, 
    ⟨some 74, .move false (.t 12), none⟩, 
    ⟨some 75, .move false (.t 0), none⟩, 
    ⟨some 76, .move false (.t 12), none⟩, 
    ⟨some 77, .iaddr 2 (.t 75) (.t 76), none⟩, 
    ⟨some 78, .load 2 true 2 (.t 77), none⟩, 
    ⟨some 79, .move false (.t 0), none⟩, 
    ⟨some 80, .move false (.t 11), none⟩, 
    ⟨some 81, .iaddr 2 (.t 79) (.t 80), none⟩, 
    ⟨some 82, .load 2 true 2 (.t 81), none⟩, 
    ⟨some 83, .iaddr 2 (.t 71) (.t 72), none⟩, 
    ⟨none, .store 2 (.t 83) (.t 78), none⟩, 
    ⟨some 84, .iaddr 2 (.t 73) (.t 74), none⟩, 
    ⟨none, .store 2 (.t 84) (.t 82), none⟩]) (
  .seq (.region [
    ⟨some 85, .move false (.t 11), none⟩, 
    ⟨some 86, .bin .add (.t 85) (.c (.int .i64 1)), none⟩, 
    ⟨some 11, .move false (.t 86), none⟩]) (
  .region [
    ⟨some 87, .move false (.t 12), none⟩, 
    ⟨some 88, .bin .sub (.t 87) (.c (.int .i64 1)), none⟩, 
    ⟨some 12, .move false (.t 88), none⟩]))))))))) (
  .seq (.region [
    ⟨some 89, .move false (.t 11), none⟩, 
    ⟨some 10, .move false (.t 89), none⟩]) (
  .ret)))))
def R.slices_partitionEqualCmpFunc_Cell : List ARes := [.t 10]
set_option maxRecDepth 100000 in
theorem K.slices_partitionEqualCmpFunc_Cell : ckFun Try.prog Try.f225 C.slices_partitionEqualCmpFunc_Cell R.slices_partitionEqualCmpFunc_Cell = true := by kernel_rfl
/-- slices.partitionCmpFunc[gantry/api.Cell] -/
def C.slices_partitionCmpFunc_Cell : ACode :=
  .seq (.region [
    ⟨some 10, .move false (.c (.int .i64 0)), none⟩, 
    ⟨some 11, .move false (.c (.bool false)), none⟩]) (
  .seq (.drawn [0, 1, 2, 3, 4, 5, 6, 7, 8, 9, 10, 11, 12, 13, 14, 15] [0, 0, 0, 0, 0, 0, 48, 112, 0, 0, 768, 1792, 4083, 8179, 16383, 32767] [
    ⟨some 14, .move false (.t 0), none⟩, 
    ⟨some 15, .move false (.t 1), none⟩, 
    ⟨some 16, .move false (.t 0), none⟩, 
    ⟨some 17, .move false (.t 3), none⟩, 
    ⟨some 18, .move false (.t 0), none⟩, 
    ⟨some 19, .move false (.t 3), none⟩, 
    ⟨some 20, .iaddr 2 (.t 18) (.t 19), none⟩, 
    ⟨some 21, .load 2 true 2 (.t 20), none⟩, 
    ⟨some 22, .move false (.t 0), none⟩, 
    ⟨some 23, .move false (.t 1), none⟩, 
    ⟨some 24, .iaddr 2 (.t 22) (.t 23), none⟩, 
    ⟨some 25, .load 2 true 2 (.t 24), none⟩, 
    ⟨some 26, .iaddr 2 (.t 14) (.t 15), none⟩, 
    ⟨none, .store 2 (.t 26) (.t 21), none⟩, 
    ⟨some 27, .iaddr 2 (.t 16) (.t 17), none⟩, 
    ⟨none, .store 2 (.t 27) (.t 25), none⟩]) (
  .seq (.region [
    ⟨some 28, .move false (.t 1), none⟩, 
    ⟨some 29, .bin .add (.t 28) (.c (.int .i64 1)), none⟩, 
    ⟨some 30, .move false (.t 2), none⟩, 
    ⟨some 31, .bin .sub (.t 30) (.c (.int .i64 1)), none⟩, 
    ⟨some 12, .move false (.t 29), none⟩, 
    ⟨some 13, .move false (.t 31), none⟩]) (
  .seq (.block 0 (.loop (.seq (.seq (.drawn [0, 1, 2, 3, 4, 5, 6, 7, 8, 9, 10, 11, 12, 13, 14, 15] [0, 0, 3, 7, 15, 15, 15, 111, 239, 15, 15, 1551, 3599, 8191, 16383, 32767] [
    ⟨some 32, .move false (.t 12), none⟩, 
    ⟨some 33, .move false (.t 13), none⟩, 
    ⟨some 34, .bin .leq (.t 32) (.t 33), none⟩, 
    ⟨some 35, .move false (.t 34), none⟩, 
    ⟨some 36, .move false (.t 4), (some (35, true))⟩, 
    ⟨some 37, .move false (.t 0), (some (35, true))⟩, 
    ⟨some 38, .move false (.t 12), (some (35, true))⟩, 
    ⟨some 39, .iaddr 2 (.t 37) (.t 38), (some (35, true))⟩, 
    ⟨some 40, .load 2 true 2 (.t 39), (some (35, true))⟩, 
    ⟨some 41, .move false (.t 0), (some (35, true))⟩, 
    ⟨some 42, .move false (.t 1), (some (35, true))⟩, 
    ⟨some 43, .iaddr 2 (.t 41) (.t 42), (some (35, true))⟩, 
    ⟨some 44, .load 2 true 2 (.t 43), (some (35, true))⟩, 
    ⟨some 45, .hop (.callvq (.t 36) [(.t 40), (.t 44)]), (some (35, true))⟩, 
    ⟨some 46, .bin .lss (.t 45) (.c (.int .i64 0)), (some (35, true))⟩, 
    ⟨some 47, .pick (.t 35) (.t 46) (.c (.bool false)), none⟩]) (
  .cond (.t 47) (.skip) (.exit 0))) (
  .block 1 (.region [
    ⟨some 48, .move false (.t 12), none⟩, 
    ⟨some 49, .bin .add (.t 48) (.c (.int .i64 1)), none⟩, 
    ⟨some 12, .move false (.t 49), none⟩]))))) (
  .seq (.block 2 (.loop (.seq (.seq (.drawn [0, 1, 2, 3, 4, 5, 6, 7, 8, 9, 10, 11, 12, 13, 14, 15, 16] [0, 0, 3, 7, 15, 15, 15, 111, 239, 15, 15, 1551, 3599, 8191, 16383, 32767, 65535] [
    ⟨some 50, .move false (.t 12), none⟩, 
    ⟨some 51, .move false (.t 13), none⟩, 
    ⟨some 52, .bin .leq (.t 50) (.t 51), none⟩, 
    ⟨some 53, .move false (.t 52), none⟩, 
    ⟨some 54, .move false (.t 4), (some (53, true))⟩, 
    ⟨some 55, .move false (.t 0), (some (53, true))⟩, 
    ⟨some 56, .move false (.t 13), (some (53, true))⟩, 
    ⟨some 57, .iaddr 2 (.t 55) (.t 56), (some (53, true))⟩, 
    ⟨some 58, .load 2 true 2 (.t 57), (some (53, true))⟩, 
    ⟨some 59, .move false (.t 0), (some (53, true))⟩, 
    ⟨some 60, .move false (.t 1), (some (53, true))⟩, 
    ⟨some 61, .iaddr 2 (.t 59) (.t 60), (some (53, true))⟩, 
    ⟨some 62, .load 2 true 2 (.t 61), (some (53, true))⟩, 
    ⟨some 63, .hop (.callvq (.t 54) [(.t 58), (.t 62)]), (some (53, true))⟩, 
    ⟨some 64, .bin .lss (.t 63) (.c (.int .i64 0)), (some (53, true))⟩, 
    ⟨some 65, .un .not (.t 64), (some (53, true))⟩, 
    ⟨some 66, .pick (.t 53) (.t 65) (.c (.bool false)), none⟩]) (
  .cond (.t 66) (.skip) (.exit 2))) (
  .block 3 (.region [
    ⟨some 67, .move false (.t 13), none⟩, 
    ⟨some 68, .bin .sub (.t 67) (.c (.int .i64 1)), none⟩, 
    ⟨some 13, .move false (.t 68), none⟩]))))) (
  .seq (.seq (.region [
    ⟨some 69, .move false (.t 12), none⟩, 
    ⟨some 70, .move false (.t 13), none⟩, 
    ⟨some 71, .bin .gtr (.t 69) (.t 70), none⟩]) (
  .cond (.t 71) (.seq (.drawn [0, 1, 2, 3, 4, 5, 6, 7, 8, 9, 10, 11, 12, 13, 14, 15] [0, 0, 0, 0, 0, 0, 48, 112, 0, 0, 768, 1792, 4083, 8179, 16383, 32767] [
    ⟨some 72, .move false (.t 0), none⟩, 
    ⟨some 73, .move false (.t 13), none⟩, 
    ⟨some 74, .move false (.t 0), none⟩, 
    ⟨some 75, .move false (.t 1), none⟩, 
    ⟨some 76, .move false (.t 0), none⟩, 
    ⟨some 77, .move false (.t 1), none⟩, 
    ⟨some 78, .iaddr 2 (.t 76) (.t 77), none⟩, 
    ⟨some 79, .load 2 true 2 (.t 78), none⟩, 
    ⟨some 80, .move false (.t 0), none⟩, 
    ⟨some 81, .move false (.t 13), none⟩, 
    ⟨some 82, .iaddr 2 (.t 80) (.t 81), none⟩, 
    ⟨some 83, .load 2 true 2 (.t 82), none⟩, 
    ⟨some 84, .iaddr 2 (.t 72) (.t 73), none⟩, 
    ⟨none, .store 2 (.t 84) (.t 79), none⟩, 
    ⟨some 85, .iaddr 2 (.t 74) (.t 75), none⟩, 
    ⟨none, .store 2 (.t 85) (.t 83), none⟩]) (
  .seq (.region [
    ⟨some 86, .move false (.t 13), none⟩, 
    ⟨some 10, .move false (.t 86), none⟩, 
    ⟨some 11, .move false (.c (.bool true)), none⟩]) (
  .ret))) (.skip))) (
  .seq (.drawn [0, 1, 2, 3, 4, 5, 6, 7, 8, 9, 10, 11, 12, 13, 14, 15] [0, 0, 0, 0, 0, 0, 48, 112, 0, 0, 768, 1792, 4083, 8179, 16383, 32767] [
    ⟨some 87, .move false (.t 0), none⟩, 
    ⟨some 88, .move false (.t 12), none⟩, 
    ⟨some 89, .move false (.t 0), none⟩, 
    ⟨some 90, .move false (.t 13), none⟩, 
    ⟨some 91, .move false (.t 0), none⟩, 
    ⟨some 92, .move false (.t 13), none⟩, 
    ⟨some 93, .iaddr 2 (.t 91) (.t 92), none⟩, 
    ⟨some 94, .load 2 true 2 (.t 93), none⟩, 
    ⟨some 95, .move false (.t 0), none⟩, 
    ⟨some 96, .move false (.t 12), none⟩, 
    ⟨some 97, .iaddr 2 (.t 95) (.t 96), none⟩, 
    ⟨some 98, .load 2 true 2 (.t 97), none⟩, 
    ⟨some 99, .iaddr 2 (.t 87) (.t 88), none⟩, 
    ⟨none, .store 2 (.t 99) (.t 94), none⟩, 
    ⟨some 100, .iaddr 2 (.t 89) (.t 90), none⟩, 
    ⟨none, .store 2 (.t 100) (.t 98), none⟩]) (
  .seq (.region [
    ⟨some 101, .move false (.t 12), none⟩, 
    ⟨some 102, .bin .add (.t 101) (.c (.int .i64 1)), none⟩, 
    ⟨some 12, .move false (.t 102), none⟩]) (
  .seq (.region [
    ⟨some 103, .move false (.t 13), none⟩, 
    ⟨some 104, .bin .sub (.t 103) (.c (.int .i64 1)), none⟩, 
    ⟨some 13, .move false (.t 104), none⟩]) (
  .seq (.block 4 (.loop (.block 5 (.seq (.block 6 (.loop (.seq (.seq (.drawn [0, 1, 2, 3, 4, 5, 6, 7, 8, 9, 10, 11, 12, 13, 14, 15] [0, 0, 3, 7, 15, 15, 15, 111, 239, 15, 15, 1551, 3599, 8191, 16383, 32767] [
    ⟨some 105, .move false (.t 12), none⟩, 
    ⟨some 106, .move false (.t 13), none⟩, 
    ⟨some 107, .bin .leq (.t 105) (.t 106), none⟩, 
    ⟨some 108, .move false (.t 107), none⟩, 
    ⟨some 109, .move false (.t 4), (some (108, true))⟩, 
    ⟨some 110, .move false (.t 0), (some (108, true))⟩, 
    ⟨some 111, .move false (.t 12), (some (108, true))⟩, 
    ⟨some 112, .iaddr 2 (.t 110) (.t 111), (some (108, true))⟩, 
    ⟨some 113, .load 2 true 2 (.t 112), (some (108, true))⟩, 
    ⟨some 114, .move false (.t 0), (some (108, true))⟩, 
    ⟨some 115, .move false (.t 1), (some (108, true))⟩, 
    ⟨some 116, .iaddr 2 (.t 114) (.t 115), (some (108, true))⟩, 
    ⟨some 117, .load 2 true 2 (.t 116), (some (108, true))⟩, 
    ⟨some 118, .hop (.callvq (.t 109) [(.t 113), (.t 117)]), (some (108, true))⟩, 
    ⟨some 119, .bin .lss (.t 118) (.c (.int .i64 0)), (some (108, true))⟩, 
    ⟨some 120, .pick (.t 108) (.t 119) (.c (.bool false)), none⟩]) (
  .cond (.t 120) (.skip) (.exit 6))) (
  .block 7 (.region [
    ⟨some 121, .move false (.t 12), none⟩, 
    ⟨some 122, .bin .add (.t 121) (.c (.int .i64 1)), none⟩, 
    ⟨some 12, .move false (.t 122), none⟩]))))) (
  .seq (.block 8 (.loop (.seq (.seq (.drawn [0, 1, 2, 3, 4, 5, 6, 7, 8, 9, 10, 11, 12, 13, 14, 15, 16] [0, 0, 3, 7, 15, 15, 15, 111, 239, 15, 15, 1551, 3599, 8191, 16383, 32767, 65535] [
    ⟨some 123, .move false (.t 12), none⟩, 
    ⟨some 124, .move false (.t 13), none⟩, 
    ⟨some 125, .bin .leq (.t 123) (.t 124), none⟩, 
    ⟨some 126, .move false (.t 125), none⟩, 
    ⟨some 127, .move false (.t 4), (some (126, true))⟩, 
    ⟨some 128, .move false (.t 0), (some (126, true))⟩, 
    ⟨some 129, .move false (.t 13), (some (126, true))⟩, 
    ⟨some 130, .iaddr 2 (.t 128) (.t 129), (some (126, true))⟩, 
    ⟨some 131, .load 2 true 2 (.t 130), (some (126, true))⟩, 
    ⟨some 132, .move false (.t 0), (some (126, true))⟩, 
    ⟨some 133, .move false (.t 1), (some (126, true))⟩, 
    ⟨some 134, .iaddr 2 (.t 132) (.t 133), (some (126, true))⟩, 
    ⟨some 135, .load 2 true 2 (.t 134), (some (126, true))⟩, 
    ⟨some 136, .hop (.callvq (.t 127) [(.t 131), (.t 135)]), (some (126, true))⟩, 
    ⟨some 137, .bin .lss (.t 136) (.c (.int .i64 0)), (some (126, true))⟩, 
    ⟨some 138, .un .not (.t 137), (some (126, true))⟩, 
    ⟨some 139, .pick (.t 126) (.t 138) (.c (.bool false)), none⟩]) (
  .cond (.t 139) (.skip) (.exit 8))) (
  .block 9 (.region [
    ⟨some 140, .move false (.t 13), none⟩, 
    ⟨some 141, .bin .sub (.t 140) (.c (.int .i64 1)), none⟩, 
    ⟨some 13, .move false (.t 141), none⟩]))))) (
  .seq (.seq (.region [
    ⟨some 142, .move false (.t 12), none⟩, 
    ⟨some 143, .move false (.t 13), none⟩, 
    ⟨some 144, .bin .gtr (.t 142) (.t 143), none⟩]) (
  .cond (.t 144) (.exit 4) (.skip))) (
  .seq (.drawn [0, 1, 2, 3, 4, 5, 6, 7, 8, 9, 10, 11, 12, 13, 14, 15] [0, 0, 0, 0, 0, 0, 48, 112, 0, 0, 768, 1792, 4083, 8179, 16383, 32767] [
    ⟨some 145, .move false (.t 0), none⟩, 
    ⟨some 146, .move false (.t 12), none⟩, 
    ⟨some 147, .move false (.t 0), none⟩, 
    ⟨some 148, .move false (.t 13), none⟩, 
    ⟨some 149, .move false (.t 0), none⟩, 
    ⟨some 150, .move false (.t 13), none⟩, 
    ⟨some 151, .iaddr 2 (.t 149) (.t 150), none⟩, 
    ⟨some 152, .load 2 true 2 (.t 151), none⟩, 
    ⟨some 153, .move false (.t 0), none⟩, 
    ⟨some 154, .move false (.t 12), none⟩, 
    ⟨some 155, .iaddr 2 (.t 153) (.t 154), none⟩, 
    ⟨some 156, .load 2 true 2 (.t 155), none⟩, 
    ⟨some 157, .iaddr 2 (.t 145) (.t 146), none⟩, 
    ⟨none, .store 2 (.t 157) (.t 152), none⟩, 
    ⟨some 158, .iaddr 2 (.t 147) (.t 148), none⟩, 
    ⟨none, .store 2 (.t 158) (.t 156), none⟩]) (
  .seq (.region [
    ⟨some 159, .move false (.t 12), none⟩, 
    ⟨some 160, .bin .add (.t 159) (.c (.int .i64 1)), none⟩, 
    ⟨some 12, .move false (.t 160), none⟩]) (
  .region [
    ⟨some 161, .move false (.t 13), none⟩, 
    ⟨some 162, .bin .sub (.t 161) (.c (.int .i64 1)), none⟩, 
    ⟨some 13, .move false (.t 162), none⟩]))))))))) (
  .seq (.drawn [0, 1, 2, 3, 4, 5, 6, 7, 8, 9, 10, 11, 12, 13, 14, 15] [0, 0, 0, 0, 0, 0, 48, 112, 0, 0, 768, 1792, 4083, 8179, 16383, 32767] [
    ⟨some 163, .move false (.t 0), none⟩, 
    ⟨some 164, .move false (.t 13), none⟩, 
    ⟨some 165, .move false (.t 0), none⟩, 
    ⟨some 166, .move false (.t 1), none⟩, 
    ⟨some 167, .move false (.t 0), none⟩, 
    ⟨some 168, .move false (.t 1), none⟩, 
    ⟨some 169, .iaddr 2 (.t 167) (.t 168), none⟩, 
    ⟨some 170, .load 2 true 2 (.t 169), none⟩, 
    ⟨some 171, .move false (.t 0), none⟩, 
    ⟨some 172, .move false (.t 13), none⟩, 
    ⟨some 173, .iaddr 2 (.t 171) (.t 172), none⟩, 
    ⟨some 174, .load 2 true 2 (.t 173), none⟩, 
    ⟨some 175, .iaddr 2 (.t 163) (.t 164), none⟩, 
    ⟨none, .store 2 (.t 175) (.t 170), none⟩, 
    ⟨some 176, .iaddr 2 (.t 165) (.t 166), none⟩, 
    ⟨none, .store 2 (.t 176) (.t 174), none⟩]) (
  .seq (.region [
    ⟨some 177, .move false (.t 13), none⟩, 
    ⟨some 10, .move false (.t 177), none⟩, 
    ⟨some 11, .move false (.c (.bool false)), none⟩]) (
  .ret))))))))))))
def R.slices_partitionCmpFunc_Cell : List ARes := [.t 10, .t 11]
set_option maxRecDepth 100000 in
theorem K.slices_partitionCmpFunc_Cell : ckFun Try.prog Try.f226 C.slices_partitionCmpFunc_Cell R.slices_partitionCmpFunc_Cell = true := by kernel_rfl
/-- slices.pdqsortCmpFunc[gantry/api.Cell] -/
def C.slices_pdqsortCmpFunc_CellF : ACode :=
  .seq (.region [
    ⟨some 10, .move false (.c (.bool true)), none⟩]) (
  .seq (.region [
    ⟨some 11, .move false (.c (.bool true)), none⟩]) (
  .block 0 (.loop (.block 1 (.seq (.region [
    ⟨some 21, .move false (.t 2), none⟩, 
    ⟨some 22, .move false (.t 1), none⟩, 
    ⟨some 23, .bin .sub (.t 21) (.t 22), none⟩, 
    ⟨some 12, .move false (.t 23), none⟩]) (
  .seq (.seq (.region [
    ⟨some 24, .move false (.t 12), none⟩, 
    ⟨some 25, .bin .leq (.t 24) (.c (.int .i64 12)), none⟩]) (
  .cond (.t 25) (.seq (.region [
    ⟨some 26, .move false (.t 0), none⟩, 
    ⟨some 27, .move false (.t 1), none⟩, 
    ⟨some 28, .move false (.t 2), none⟩, 
    ⟨some 29, .move false (.t 4), none⟩, 
    ⟨some 30, .call true F.slices_insertionSortCmpFunc_Cell [(.t 26), (.t 27), (.t 28), (.t 29)], none⟩]) (
  .ret)) (.skip))) (
  .seq (.seq (.region [
    ⟨some 31, .move false (.t 3), none⟩, 
    ⟨some 32, .bin .eql (.t 31) (.c (.int .i64 0)), none⟩]) (
  .cond (.t 32) (.seq (.region [
    ⟨some 33, .move false (.t 0), none⟩, 
    ⟨some 34, .move false (.t 1), none⟩, 
    ⟨some 35, .move false (.t 2), none⟩, 
    ⟨some 36, .move false (.t 4), none⟩, 
    ⟨some 37, .call true F.slices_heapSortCmpFunc_Cell [(.t 33), (.t 34), (.t 35), (.t 36)], none⟩]) (
  .ret)) (.skip))) (
  .seq (.seq (.region [
    ⟨some 38, .move false (.t 10), none⟩, 
    ⟨some 39, .un .not (.t 38), none⟩]) (
  .cond (.t 39) (.seq (.region [
    ⟨some 40, .move false (.t 0), none⟩, 
    ⟨some 41, .move false (.t 1), none⟩, 
    ⟨some 42, .move false (.t 2), none⟩, 
    ⟨some 43, .move false (.t 4), none⟩, 
    ⟨some 44, .call true F.slices_breakPatternsCmpFunc_Cell [(.t 40), (.t 41), (.t 42), (.t 43)], none⟩]) (
  .region [
    ⟨some 45, .move false (.t 3), none⟩, 
    ⟨some 46, .bin .sub (.t 45) (.c (.int .i64 1)), none⟩, 
    ⟨some 3, .move false (.t 46), none⟩])) (.skip))) (
  .seq (.region [
    ⟨some 48, .move false (.t 0), none⟩, 
    ⟨some 49, .move false (.t 1), none⟩, 
    ⟨some 50, .move false (.t 2), none⟩, 
    ⟨some 51, .move false (.t 4), none⟩, 
    ⟨some 52, .call true F.slices_choosePivotCmpFunc_Cell [(.t 48), (.t 49), (.t 50), (.t 51)], none⟩, 
    ⟨some 47, .move false (.t 52), none⟩, 
    ⟨some 53, .ext 0 (.t 47), none⟩, 
    ⟨some 54, .ext 1 (.t 47), none⟩, 
    ⟨some 13, .move false (.t 53), none⟩, 
    ⟨some 14, .move false (.t 54), none⟩]) (
  .seq (.seq (.region [
    ⟨some 55, .move false (.t 14), none⟩, 
    ⟨some 56, .bin .eql (.t 55) (.c (.int .i64 2)), none⟩]) (
  .cond (.t 56) (.seq (.region [
    ⟨some 57, .move false (.t 0), none⟩, 
    ⟨some 58, .move false (.t 1), none⟩, 
    ⟨some 59, .move false (.t 2), none⟩, 
    ⟨some 60, .move false (.t 4), none⟩, 
    ⟨some 61, .call true F.slices_reverseRangeCmpFunc_Cell [(.t 57), (.t 58), (.t 59), (.t 60)], none⟩]) (
  .seq (.region [
    ⟨some 62, .move false (.t 2), none⟩, 
    ⟨some 63, .bin .sub (.t 62) (.c (.int .i64 1)), none⟩, 
    ⟨some 64, .move false (.t 13), none⟩, 
    ⟨some 65, .move false (.t 1), none⟩, 
    ⟨some 66, .bin .sub (.t 64) (.t 65), none⟩, 
    ⟨some 67, .bin .sub (.t 63) (.t 66), none⟩, 
    ⟨some 13, .move false (.t 67), none⟩]) (
  .region [
    ⟨some 14, .move false (.c (.int .i64 1)), none⟩]))) (.skip))) (
  .seq (.seq (.region [
    ⟨some 68, .move false (.t 10), none⟩, 
    ⟨some 69, .move false (.t 68), none⟩, 
    ⟨some 70, .move false (.t 11), (some (69, true))⟩, 
    ⟨some 71, .pick (.t 69) (.t 70) (.c (.bool false)), none⟩, 
    ⟨some 72, .move false (.t 71), none⟩, 
    ⟨some 73, .move false (.t 14), (some (72, true))⟩, 
    ⟨some 74, .bin .eql (.t 73) (.c (.int .i64 1)), (some (72, true))⟩, 
    ⟨some 75, .pick (.t 72) (.t 74) (.c (.bool false)), none⟩]) (
  .cond (.t 75) (.seq (.region [
    ⟨some 76, .move false (.t 0), none⟩, 
    ⟨some 77, .move false (.t 1), none⟩, 
    ⟨some 78, .move false (.t 2), none⟩, 
    ⟨some 79, .move false (.t 4), none⟩, 
    ⟨some 80, .call true F.slices_partialInsertionSortCmpFunc_Cell [(.t 76), (.t 77), (.t 78), (.t 79)], none⟩]) (
  .cond (.t 80) (.ret) (.skip))) (.skip))) (
  .seq (.seq (.drawn [0, 1, 2, 3, 4, 5, 6, 7, 8, 9, 10, 11, 12, 13, 14, 15, 16] [0, 1, 3, 7, 7, 7, 39, 119, 247, 7, 7, 1543, 3591, 8191, 16383, 32767, 65535] [
    ⟨some 81, .move false (.t 1), none⟩, 
    ⟨some 82, .bin .gtr (.t 81) (.c (.int .i64 0)), none⟩, 
    ⟨some 83, .move false (.t 82), none⟩, 
    ⟨some 84, .move false (.t 4), (some (83, true))⟩, 
    ⟨some 85, .move false (.t 0), (some (83, true))⟩, 
    ⟨some 86, .move false (.t 1), (some (83, true))⟩, 
    ⟨some 87, .bin .sub (.t 86) (.c (.int .i64 1)), (some (83, true))⟩, 
    ⟨some 88, .iaddr 2 (.t 85) (.t 87), (some (83, true))⟩, 
    ⟨some 89, .load 2 true 2 (.t 88), (some (83, true))⟩, 
    ⟨some 90, .move false (.t 0), (some (83, true))⟩, 
    ⟨some 91, .move false (.t 13), (some (83, true))⟩, 
    ⟨some 92, .iaddr 2 (.t 90) (.t 91), (some (83, true))⟩, 
    ⟨some 93, .load 2 true 2 (.t 92), (some (83, true))⟩, 
    ⟨some 94, .hop (.callvq (.t 84) [(.t 89), (.t 93)]), (some (83, true))⟩, 
    ⟨some 95, .bin .lss (.t 94) (.c (.int .i64 0)), (some (83, true))⟩, 
    ⟨some 96, .un .not (.t 95), (some (83, true))⟩, 
    ⟨some 97, .pick (.t 83) (.t 96) (.c (.bool false)), none⟩]) (
  .cond (.t 97) (.seq (.region [
    ⟨some 98, .move false (.t 0), none⟩, 
    ⟨some 99, .move false (.t 1), none⟩, 
    ⟨some 100, .move false (.t 2), none⟩, 
    ⟨some 101, .move false (.t 13), none⟩, 
    ⟨some 102, .move false (.t 4), none⟩, 
    ⟨some 103, .call true F.slices_partitionEqualCmpFunc_Cell [(.t 98), (.t 99), (.t 100), (.t 101), (.t 102)], none⟩, 
    ⟨some 15, .move false (.t 103), none⟩]) (
  .seq (.region [
    ⟨some 104, .move false (.t 15), none⟩, 
    ⟨some 1, .move false (.t 104), none⟩]) (
  .exit 1))) (.skip))) (
  .seq (.region [
    ⟨some 106, .move false (.t 0), none⟩, 
    ⟨some 107, .move false (.t 1), none⟩, 
    ⟨some 108, .move false (.t 2), none⟩, 
    ⟨some 109, .move false (.t 13), none⟩, 
    ⟨some 110, .move false (.t 4), none⟩, 
    ⟨some 111, .call true F.slices_partitionCmpFunc_Cell [(.t 106), (.t 107), (.t 108), (.t 109), (.t 110)], none⟩, 
    ⟨some 105, .move false (.t 111), none⟩, 
    ⟨some 112, .ext 0 (.t 105), none⟩, 
    ⟨some 113, .ext 1 (.t 105), none⟩, 
    ⟨some 16, .move false (.t 112), none⟩, 
    ⟨some 17, .move false (.t 113), none⟩]) (
  .seq (.region [
    ⟨some 114, .move false (.t 17), none⟩, 
    ⟨some 11, .move false (.t 114), none⟩]) (
  .seq (.region [
    ⟨some 115, .move false (.t 16), none⟩, 
    ⟨some 116, .move false (.t 1), none⟩, 
    ⟨some 117, .bin .sub (.t 115) (.t 116), none⟩, 
    ⟨some 118, .move false (.t 2), none⟩, 
    ⟨some 119, .move false (.t 16), none⟩, 
    ⟨some 120, .bin .sub (.t 118) (.t 119), none⟩, 
    ⟨some 18, .move false (.t 117), none⟩, 
    ⟨some 19, .move false (.t 120), none⟩]) (
  .seq (.region [
    ⟨some 121, .move false (.t 12), none⟩, 
    ⟨some 122, .bin .quo (.t 121) (.c (.int .i64 8)), none⟩, 
    ⟨some 20, .move false (.t 122), none⟩]) (
  .seq (.region [
    ⟨some 123, .move false (.t 18), none⟩, 
    ⟨some 124, .move false (.t 19), none⟩, 
    ⟨some 125, .bin .lss (.t 123) (.t 124), none⟩]) (
  .cond (.t 125) (.seq (.region [
    ⟨some 126, .move false (.t 18), none⟩, 
    ⟨some 127, .move false (.t 20), none⟩, 
    ⟨some 128, .bin .geq (.t 126) (.t 127), none⟩, 
    ⟨some 10, .move false (.t 128), none⟩]) (
  .seq (.region [
    ⟨some 129, .move false (.t 0), none⟩, 
    ⟨some 130, .move false (.t 1), none⟩, 
    ⟨some 131, .move false (.t 16), none⟩, 
    ⟨some 132, .move false (.t 3), none⟩, 
    ⟨some 133, .move false (.t 4), none⟩, 
    ⟨some 134, .call true F.slices_pdqsortCmpFunc_Cell [(.t 129), (.t 130), (.t 131), (.t 132), (.t 133)], none⟩]) (
  .region [
    ⟨some 135, .move false (.t 16), none⟩, 
    ⟨some 136, .bin .add (.t 135) (.c (.int .i64 1)), none⟩, 
    ⟨some 1, .move false (.t 136), none⟩]))) (.seq (.region [
    ⟨some 137, .move false (.t 19), none⟩, 
    ⟨some 138, .move false (.t 20), none⟩, 
    ⟨some 139, .bin .geq (.t 137) (.t 138), none⟩, 
    ⟨some 10, .move false (.t 139), none⟩]) (
  .seq (.region [
    ⟨some 140, .move false (.t 0), none⟩, 
    ⟨some 141, .move false (.t 16), none⟩, 
    ⟨some 142, .bin .add (.t 141) (.c (.int .i64 1)), none⟩, 
    ⟨some 143, .move false (.t 2), none⟩, 
    ⟨some 144, .move false (.t 3), none⟩, 
    ⟨some 145, .move false (.t 4), none⟩, 
    ⟨some 146, .call true F.slices_pdqsortCmpFunc_Cell [(.t 140), (.t 142), (.t 143), (.t 144), (.t 145)], none⟩]) (
  .region [
    ⟨some 147, .move false (.t 16), none⟩, 
    ⟨some 2, .move false (.t 147), none⟩])))))))))))))))))))))
def R.slices_pdqsortCmpFunc_CellF : List ARes := []
set_option maxRecDepth 100000 in
theorem K.slices_pdqsortCmpFunc_CellF : ckFun Try.prog Try.f203 C.slices_pdqsortCmpFunc_CellF R.slices_pdqsortCmpFunc_CellF = true := by kernel_rfl
end Go.Proofs.Ytpdajkbfemcdlaa
/- Slices over heap objects: elements of any kind. -/
set_option linter.unusedSimpArgs false
set_option linter.unusedVariables false
set_option maxRecDepth 10000
namespace Go.Proofs.Ytpdajkbfemcdlaa
open Go.Ge
/-- What is so after a part is enough for what follows. -/
theorem aw_cut {P : Program} {a : ACode} {K Pm : AState → Prop} {Q : AExit → AState → Prop} {S : AState} (h : aw (ACalls P) a (AExit.then Pm Q) S) (hk : ∀ S', Pm S' → K S') : aw (ACalls P) a (AExit.then K Q) S :=
  aw_mono (CMono_ACalls P) a (fun e S' h => by cases e <;> first | exact hk _ h | exact h) h
theorem condG_cut {P : Program} {v : AVal} {a b : ACode} {K : AState → Prop} {Q : AExit → AState → Prop} {S : AState} (Pm : AState → Prop) (h : condG (ACalls P) v a b (AExit.then Pm Q) S) (hk : ∀ S', Pm S' → K S') : condG (ACalls P) v a b (AExit.then K Q) S := by
  unfold condG at h ⊢
  cases v <;> first | exact ⟨fun e => aw_cut (h.1 e) hk, fun e => aw_cut (h.2 e) hk⟩ | exact h
theorem aopsG_cut {P : Program} {d : Option Nat} {op : AOp} {want : Bool} {v : AVal} {os : List AO} {c : ACode} {K : AState → Prop} {Q Q' : AExit → AState → Prop} {S : AState} (Pm : AState → Prop)
    (h : aopsG (ACalls P) d op want v os S (AExit.then (aw (ACalls P) c (AExit.then Pm Q)) Q' .normal)) (hk : ∀ S', Pm S' → K S') : aopsG (ACalls P) d op want v os S (AExit.then (aw (ACalls P) c (AExit.then K Q)) Q' .normal) := by
  have key : ∀ os S, aops (ACalls P) os S (AExit.then (aw (ACalls P) c (AExit.then Pm Q)) Q' .normal) → aops (ACalls P) os S (AExit.then (aw (ACalls P) c (AExit.then K Q)) Q' .normal) :=
    fun os S h => aops_mono (CMono_ACalls P) os (fun S' h => aw_cut h hk) h
  unfold aopsG at h ⊢
  split at h
  · exact ⟨fun e => key _ _ (h.1 e), fun e => key _ _ (h.2 e)⟩
  · exact key _ _ h
  · exact h.elim
section
variable {α : Type} {f : α → List AVal} {sz : Nat}
/-- A slice over a heap object that is written in place: nil, or a row in object id. -/
def SlR (f : α → List AVal) (sz : Nat) (h : List HObj) (id : Nat) (w : AVal) (L : List α) : Prop :=
  w = .lst .nil [] ∧ L = [] ∨ ∃ off cap pre rest, w = .ref id off L.length cap ∧ L.length ≤ cap ∧ h[id]? = some (.cells (pre ++ L.flatMap f ++ rest)) ∧ pre.length = off ∧ rest.length = (cap - L.length) * sz
/-- The first element goes. -/
theorem SlR.tail (hf : ∀ a, (f a).length = sz) {h : List HObj} {id off len cap : Nat} {a : α} {L : List α} (hs : SlR f sz h id (.ref id off len cap) (a :: L)) : SlR f sz h id (.ref id (off + sz) (len - 1) (cap - 1)) L ∧ len = L.length + 1 ∧ 1 ≤ cap := by
  rcases hs with ⟨e, _⟩ | ⟨off', cap', pre, rest, e, hc, hh, hpre, hrest⟩
  · cases e
  · cases e
    refine ⟨.inr ⟨off + sz, cap - 1, pre ++ f a, rest, by simp, by simp at hc; omega, ?_, by rw [List.length_append, hpre, hf], ?_⟩, by simp, by simp at hc; omega⟩
    · rw [hh]; simp [List.append_assoc]
    · rw [hrest]; congr 1; simp; omega
theorem SlR.cons {h : List HObj} {id : Nat} {w : AVal} {a : α} {L : List α} (hs : SlR f sz h id w (a :: L)) : ∃ off cap, w = .ref id off (L.length + 1) cap := by
  rcases hs with ⟨_, e⟩ | ⟨off', cap', pre, rest, e, hc, hh, hpre, hrest⟩
  · cases e
  · exact ⟨off', cap', by simpa using e⟩
/-- What a slice of the kind is, by its length. -/
theorem SlR.cases {h : List HObj} {id : Nat} {w : AVal} {L : List α} (hs : SlR f sz h id w L) : w = .lst .nil [] ∧ L = [] ∨ ∃ off cap, w = .ref id off L.length cap ∧ L.length ≤ cap := by
  rcases hs with hs | ⟨off', cap', pre, rest, e, hc, hh, hpre, hrest⟩
  · exact .inl hs
  · exact .inr ⟨_, _, e, hc⟩
/-- A slice whose object, if it has one, is among those of own. -/
def SlO (f : α → List AVal) (sz : Nat) (h : List HObj) (own : List Nat) (w : AVal) (L : List α) : Prop := ∃ id, SlR f sz h id w L ∧ (w = .lst .nil [] ∨ id ∈ own)
theorem SlO.nil {h : List HObj} {own : List Nat} : SlO f sz h own (.lst .nil []) ([] : List α) := ⟨0, .inl ⟨rfl, rfl⟩, .inl rfl⟩
theorem SlO.cases {h : List HObj} {own : List Nat} {w : AVal} {L : List α} (hs : SlO f sz h own w L) : w = .lst .nil [] ∧ L = [] ∨ ∃ id off cap, w = .ref id off L.length cap ∧ L.length ≤ cap ∧ id ∈ own ∧ SlR f sz h id w L := by
  obtain ⟨id, h1, h2⟩ := hs
  rcases h1.cases with ⟨rfl, h3⟩ | ⟨off, cap, rfl, h3⟩
  · exact .inl ⟨rfl, h3⟩
  · exact .inr ⟨id, off, cap, rfl, h3, h2.elim (fun e => by cases e) (fun h => h), h1⟩
end
end Go.Proofs.Ytpdajkbfemcdlaa
/- Annotated code of functions, checked against the program. -/
namespace Go.Proofs.Ytpdajkbfemcdlaa
open Go.Ge
/-- slices.Grow[[]gantry/api.Cell,gantry/api.Cell] -/
def C.slices_Grow_Cell : ACode :=
  .seq (.region [
    ⟨some 4, .move false (.c (.lst .nil [])), none⟩]) (
  .seq (.seq (.region [
    ⟨some 5, .move false (.t 1), none⟩, 
    ⟨some 6, .bin .lss (.t 5) (.c (.int .i64 0)), none⟩]) (
  .cond (.t 6) (.region [
    ⟨some 7, .refuse, none⟩, 
    ⟨none, .refuse, none⟩]) (.skip))) (
  .seq (.seq (.region [
    ⟨some 8, .move false (.t 1), none⟩, 
    ⟨some 9, .move false (.t 0), none⟩, 
    ⟨some 10, .capR (.t 9), none⟩, 
    ⟨some 11, .move false (.t 0), none⟩, 
    ⟨some 12, .len (.t 11), none⟩, 
    ⟨some 13, .bin .sub (.t 10) (.t 12), none⟩, 
    ⟨some 14, .bin .sub (.t 8) (.t 13), none⟩, 
    ⟨some 1, .move false (.t 14), none⟩]) (
  .seq (.region [
    ⟨some 15, .move false (.t 1), none⟩, 
    ⟨some 16, .bin .gtr (.t 15) (.c (.int .i64 0)), none⟩]) (
  .cond (.t 16) (.region [
    ⟨some 17, .move false (.t 0), none⟩, 
    ⟨some 18, .move false (.t 0), none⟩, 
    ⟨some 19, .capR (.t 18), none⟩, 
    ⟨some 20, .slnil (.t 17) (.t 19), none⟩, 
    ⟨some 21, .move false (.t 1), none⟩, 
    ⟨some 22, .hop (.appendZ 2 16 (.t 20) (.t 21)), none⟩, 
    ⟨some 23, .move false (.t 0), none⟩, 
    ⟨some 24, .len (.t 23), none⟩, 
    ⟨some 25, .slice 2 (.t 22) none (some (.t 24)) none, none⟩, 
    ⟨some 0, .move false (.t 25), none⟩]) (.skip)))) (
  .seq (.region [
    ⟨some 26, .move false (.t 0), none⟩, 
    ⟨some 4, .move false (.t 26), none⟩]) (
  .own 4 true 2 (.ret)))))
def R.slices_Grow_Cell : List ARes := [.t 4]
set_option maxRecDepth 100000 in
theorem K.slices_Grow_Cell : ckFun Try.prog Try.f229 C.slices_Grow_Cell R.slices_Grow_Cell = true := by kernel_rfl
/-- slices.Concat[[]gantry/api.Cell,gantry/api.Cell] -/
def C.slices_Concat_Cell : ACode :=
  .seq (.region [
    ⟨some 2, .move false (.c (.lst .nil [])), none⟩]) (
  .seq (.region [
    ⟨some 3, .move false (.c (.int .i64 0)), none⟩]) (
  .seq (.seq (.region [
    ⟨some 9, .move false (.t 0), none⟩, 
    ⟨some 10, .len (.t 9), none⟩, 
    ⟨some 11, .move false (.c (.int .i64 0)), none⟩]) (
  .block 0 (.loop (.seq (.region [
    ⟨some 12, .bin .lss (.t 11) (.t 10), none⟩]) (
  .seq (.cond (.t 12) (.skip) (.exit 0)) (
  .seq (.block 1 (.seq (.region [
    ⟨some 13, .iaddr 1 (.t 9) (.t 11), none⟩, 
    ⟨some 14, .load 2 false 1 (.t 13), none⟩, 
    ⟨some 5, .move false (.t 14), none⟩]) (
  .seq (.region [
    ⟨some 15, .move false (.t 3), none⟩, 
    ⟨some 16, .move false (.t 5), none⟩, 
    ⟨some 17, .len (.t 16), none⟩, 
    ⟨some 18, .bin .add (.t 15) (.t 17), none⟩, 
    ⟨some 3, .move false (.t 18), none⟩]) (
  .seq (.region [
    ⟨some 19, .move false (.t 3), none⟩, 
    ⟨some 20, .bin .lss (.t 19) (.c (.int .i64 0)), none⟩]) (
  .cond (.t 20) (.region [
    ⟨some 21, .refuse, none⟩, 
    ⟨none, .refuse, none⟩]) (.skip)))))) (
  .region [
    ⟨some 22, .bin .add (.t 11) (.c (.int .i64 1)), none⟩, 
    ⟨some 11, .move false (.t 22), none⟩]))))))) (
  .seq (.region [
    ⟨some 23, .move false (.t 3), none⟩, 
    ⟨some 24, .call true F.slices_Grow_Cell [(.c (.lst .nil [])), (.t 23)], none⟩, 
    ⟨some 6, .move true (.t 24), none⟩]) (
  .seq (.seq (.thaw 6 (.region [
    ⟨some 25, .move false (.t 0), none⟩, 
    ⟨some 26, .len (.t 25), none⟩, 
    ⟨some 27, .move false (.c (.int .i64 0)), none⟩])) (
  .block 2 (.loop (.seq (.region [
    ⟨some 28, .bin .lss (.t 27) (.t 26), none⟩]) (
  .seq (.cond (.t 28) (.skip) (.exit 2)) (
  .seq (.block 3 (.seq (.region [
    ⟨some 29, .iaddr 1 (.t 25) (.t 27), none⟩, 
    ⟨some 30, .load 2 false 1 (.t 29), none⟩, 
    ⟨some 8, .move false (.t 30), none⟩]) (
  .region [
    ⟨some 31, .move true (.t 6), none⟩, 
    ⟨some 32, .move false (.t 8), none⟩, 
    ⟨some 33, .hop (.appendR 2 16 (.t 31) (.t 32)), none⟩, 
    ⟨some 6, .move true (.t 33), none⟩]))) (
  .region [
    ⟨some 34, .bin .add (.t 27) (.c (.int .i64 1)), none⟩, 
    ⟨some 27, .move false (.t 34), none⟩]))))))) (
  .seq (.region [
    ⟨some 35, .move true (.t 6), none⟩, 
    ⟨some 2, .move true (.t 35), none⟩]) (
  .ret))))))
def R.slices_Concat_Cell : List ARes := [.t 2]
set_option maxRecDepth 100000 in
theorem K.slices_Concat_Cell : ckFun Try.prog Try.f205 C.slices_Concat_Cell R.slices_Concat_Cell = true := by kernel_rfl
/-- gantry/grid.sorted -/
def C.grid_sorted : ACode :=
  .seq (.region [
    ⟨some 2, .move false (.c (.lst .nil [])), none⟩]) (
  .seq (.region [
    ⟨some 4, .move false (.t 0), none⟩, 
    ⟨some 5, .call true F.slices_Concat_Cell [(.t 4)], none⟩, 
    ⟨some 3, .move false (.t 5), none⟩]) (
  .seq (.region [
    ⟨some 6, .move false (.t 3), none⟩, 
    ⟨some 7, .call true F.slices_SortFunc_Cell [(.t 6), (.c (.func 198 []))], none⟩]) (
  .seq (.region [
    ⟨some 8, .move false (.t 3), none⟩, 
    ⟨some 9, .call true F.slices_Compact_Cell [(.t 8)], none⟩, 
    ⟨some 2, .move true (.t 9), none⟩]) (
  .ret))))
def R.grid_sorted : List ARes := [.t 2]
set_option maxRecDepth 100000 in
theorem K.grid_sorted : ckFun Try.prog Try.f182 C.grid_sorted R.grid_sorted = true := by kernel_rfl
/-- gantry/grid.sorted -/
def C.grid_sortedA : ACode :=
  .seq (.region [
    ⟨some 2, .move false (.c (.lst .nil [])), none⟩]) (
  .seq (.region [
    ⟨some 4, .move false (.t 0), none⟩, 
    ⟨some 5, .call true F.slices_Concat_Cell [(.t 4)], none⟩, 
    ⟨some 3, .move false (.t 5), none⟩]) (
  .seq (.region [
    ⟨some 6, .move false (.t 3), none⟩, 
    ⟨some 7, .call true F.slices_SortFunc_Cell [(.t 6), (.c (.func 198 []))], none⟩]) (
  .seq (.region [
    ⟨some 8, .move false (.t 3), none⟩, 
    ⟨some 9, .call true F.slices_Compact_Cell [(.t 8)], none⟩, 
    ⟨some 2, .move false (.t 9), none⟩]) (
  .own 2 true 2 (.grab 2 (.ret))))))
def R.grid_sortedA : List ARes := [.t 2]
set_option maxRecDepth 100000 in
theorem K.grid_sortedA : ckFun Try.prog Try.f182 C.grid_sortedA R.grid_sortedA = true := by kernel_rfl
/-- slices.Compact[[]gantry/api.Cell,gantry/api.Cell] -/
def C.slices_Compact_Cell : ACode :=
  .seq (.region [
    ⟨some 2, .move false (.c (.lst .nil [])), none⟩]) (
  .seq (.seq (.region [
    ⟨some 6, .move false (.t 0), none⟩, 
    ⟨some 7, .len (.t 6), none⟩, 
    ⟨some 8, .bin .lss (.t 7) (.c (.int .i64 2)), none⟩]) (
  .cond (.t 8) (.seq (.region [
    ⟨some 9, .move true (.t 0), none⟩, 
    ⟨some 2, .move true (.t 9), none⟩]) (
  .ret)) (.skip))) (
  .seq (.seq (.region [
    ⟨some 3, .move false (.c (.int .i64 1)), none⟩]) (
  .block 0 (.loop (.seq (.seq (.region [
    ⟨some 10, .move false (.t 3), none⟩, 
    ⟨some 11, .move false (.t 0), none⟩, 
    ⟨some 12, .len (.t 11), none⟩, 
    ⟨some 13, .bin .lss (.t 10) (.t 12), none⟩]) (
  .cond (.t 13) (.skip) (.exit 0))) (
  .seq (.block 1 (.seq (.drawn [0, 1, 2, 3, 4, 5, 6, 7, 8, 9] [0, 0, 3, 7, 0, 0, 32, 112, 240, 511] [
    ⟨some 16, .move false (.t 0), none⟩, 
    ⟨some 17, .move false (.t 3), none⟩, 
    ⟨some 18, .iaddr 2 (.t 16) (.t 17), none⟩, 
    ⟨some 19, .load 2 true 2 (.t 18), none⟩, 
    ⟨some 20, .move false (.t 0), none⟩, 
    ⟨some 21, .move false (.t 3), none⟩, 
    ⟨some 22, .bin .sub (.t 21) (.c (.int .i64 1)), none⟩, 
    ⟨some 23, .iaddr 2 (.t 20) (.t 22), none⟩, 
    ⟨some 24, .load 2 true 2 (.t 23), none⟩, 
    ⟨some 25, .eqs false [.i .i64, .i .i64] (.t 19) (.t 24), none⟩]) (
  .cond (.t 25) (.seq (.region [
    ⟨some 26, .move false (.t 0), none⟩, 
    ⟨some 27, .move false (.t 3), none⟩, 
    ⟨some 28, .slice 2 (.t 26) (some (.t 27)) none none, none⟩, 
    ⟨some 4, .move false (.t 28), none⟩]) (
  .seq (.seq (.region [
    ⟨some 5, .move false (.c (.int .i64 1)), none⟩]) (
  .block 2 (.loop (.seq (.seq (.region [
    ⟨some 29, .move false (.t 5), none⟩, 
    ⟨some 30, .move false (.t 4), none⟩, 
    ⟨some 31, .len (.t 30), none⟩, 
    ⟨some 32, .bin .lss (.t 29) (.t 31), none⟩]) (
  .cond (.t 32) (.skip) (.exit 2))) (
  .seq (.block 3 (.seq (.drawn [0, 1, 2, 3, 4, 5, 6, 7, 8, 9] [0, 0, 3, 7, 0, 0, 32, 112, 240, 511] [
    ⟨some 35, .move false (.t 4), none⟩, 
    ⟨some 36, .move false (.t 5), none⟩, 
    ⟨some 37, .iaddr 2 (.t 35) (.t 36), none⟩, 
    ⟨some 38, .load 2 true 2 (.t 37), none⟩, 
    ⟨some 39, .move false (.t 4), none⟩, 
    ⟨some 40, .move false (.t 5), none⟩, 
    ⟨some 41, .bin .sub (.t 40) (.c (.int .i64 1)), none⟩, 
    ⟨some 42, .iaddr 2 (.t 39) (.t 41), none⟩, 
    ⟨some 43, .load 2 true 2 (.t 42), none⟩, 
    ⟨some 44, .eqs true [.i .i64, .i .i64] (.t 38) (.t 43), none⟩]) (
  .cond (.t 44) (.seq (.region [
    ⟨some 45, .move false (.t 0), none⟩, 
    ⟨some 46, .move false (.t 3), none⟩, 
    ⟨some 47, .move false (.t 4), none⟩, 
    ⟨some 48, .move false (.t 5), none⟩, 
    ⟨some 49, .iaddr 2 (.t 47) (.t 48), none⟩, 
    ⟨some 50, .load 2 true 2 (.t 49), none⟩, 
    ⟨some 51, .iaddr 2 (.t 45) (.t 46), none⟩, 
    ⟨none, .store 2 (.t 51) (.t 50), none⟩]) (
  .region [
    ⟨some 52, .move false (.t 3), none⟩, 
    ⟨some 53, .bin .add (.t 52) (.c (.int .i64 1)), none⟩, 
    ⟨some 3, .move false (.t 53), none⟩])) (.skip)))) (
  .region [
    ⟨some 33, .move false (.t 5), none⟩, 
    ⟨some 34, .bin .add (.t 33) (.c (.int .i64 1)), none⟩, 
    ⟨some 5, .move false (.t 34), none⟩])))))) (
  .seq (.region [
    ⟨some 54, .move false (.t 0), none⟩, 
    ⟨some 55, .move false (.t 3), none⟩, 
    ⟨some 56, .slice 2 (.t 54) (some (.t 55)) none none, none⟩, 
    ⟨none, .hop (.clearR 2 (.agg [(.int .i64 0), (.int .i64 0)]) (.t 56)), none⟩]) (
  .seq (.region [
    ⟨some 57, .move false (.t 0), none⟩, 
    ⟨some 58, .move false (.t 3), none⟩, 
    ⟨some 59, .slice 2 (.t 57) none (some (.t 58)) none, none⟩, 
    ⟨some 2, .move true (.t 59), none⟩]) (
  .ret))))) (.skip)))) (
  .region [
    ⟨some 14, .move false (.t 3), none⟩, 
    ⟨some 15, .bin .add (.t 14) (.c (.int .i64 1)), none⟩, 
    ⟨some 3, .move false (.t 15), none⟩])))))) (
  .seq (.region [
    ⟨some 60, .move true (.t 0), none⟩, 
    ⟨some 2, .move true (.t 60), none⟩]) (
  .ret))))
def R.slices_Compact_Cell : List ARes := [.t 2]
set_option maxRecDepth 100000 in
theorem K.slices_Compact_Cell : ckFun Try.prog Try.f206 C.slices_Compact_Cell R.slices_Compact_Cell = true := by kernel_rfl
/-- slices.DeleteFunc[[]gantry/api.Cell,gantry/api.Cell] -/
def C.slices_DeleteFunc_Cell : ACode :=
  .seq (.region [
    ⟨some 4, .move false (.c (.lst .nil [])), none⟩]) (
  .seq (.region [
    ⟨some 8, .move false (.t 0), none⟩, 
    ⟨some 9, .move false (.t 1), none⟩, 
    ⟨some 10, .call true F.slices_IndexFunc_Cell [(.t 8), (.t 9)], none⟩, 
    ⟨some 5, .move false (.t 10), none⟩]) (
  .seq (.seq (.region [
    ⟨some 11, .move false (.t 5), none⟩, 
    ⟨some 12, .bin .eql (.t 11) (.c (.int .i64 (-1))), none⟩]) (
  .cond (.t 12) (.seq (.region [
    ⟨some 13, .move true (.t 0), none⟩, 
    ⟨some 4, .move true (.t 13), none⟩]) (
  .ret)) (.skip))) (
  .seq (.seq (.region [
    ⟨some 14, .move false (.t 5), none⟩, 
    ⟨some 15, .bin .add (.t 14) (.c (.int .i64 1)), none⟩, 
    ⟨some 6, .move false (.t 15), none⟩]) (
  .block 0 (.loop (.seq (.seq (.region [
    ⟨some 16, .move false (.t 6), none⟩, 
    ⟨some 17, .move false (.t 0), none⟩, 
    ⟨some 18, .len (.t 17), none⟩, 
    ⟨some 19, .bin .lss (.t 16) (.t 18), none⟩]) (
  .cond (.t 19) (.skip) (.exit 0))) (
  .seq (.block 1 (.seq (.region [
    ⟨some 22, .move false (.t 0), none⟩, 
    ⟨some 23, .move false (.t 6), none⟩, 
    ⟨some 24, .iaddr 2 (.t 22) (.t 23), none⟩, 
    ⟨some 25, .load 2 true 2 (.t 24), none⟩, 
    ⟨some 7, .alloc false [(.int .i64 0), (.int .i64 0)], none⟩, 
    ⟨none, .store 2 (.t 7) (.t 25), none⟩]) (
  .seq (.region [
    ⟨some 26, .move false (.t 1), none⟩, 
    ⟨some 27, .load 2 true 2 (.t 7), none⟩, 
    ⟨some 28, .hop (.callvq (.t 26) [(.t 27)]), none⟩, 
    ⟨some 29, .un .not (.t 28), none⟩]) (
  .cond (.t 29) (.seq (.region [
    ⟨some 30, .move false (.t 0), none⟩, 
    ⟨some 31, .move false (.t 5), none⟩, 
    ⟨some 32, .load 2 true 2 (.t 7), none⟩, 
    ⟨some 33, .iaddr 2 (.t 30) (.t 31), none⟩, 
    ⟨none, .store 2 (.t 33) (.t 32), none⟩]) (
  .region [
    ⟨some 34, .move false (.t 5), none⟩, 
    ⟨some 35, .bin .add (.t 34) (.c (.int .i64 1)), none⟩, 
    ⟨some 5, .move false (.t 35), none⟩])) (.skip))))) (
  .region [
    ⟨some 20, .move false (.t 6), none⟩, 
    ⟨some 21, .bin .add (.t 20) (.c (.int .i64 1)), none⟩, 
    ⟨some 6, .move false (.t 21), none⟩])))))) (
  .seq (.region [
    ⟨some 36, .move false (.t 0), none⟩, 
    ⟨some 37, .move false (.t 5), none⟩, 
    ⟨some 38, .slice 2 (.t 36) (some (.t 37)) none none, none⟩, 
    ⟨none, .hop (.clearR 2 (.agg [(.int .i64 0), (.int .i64 0)]) (.t 38)), none⟩]) (
  .seq (.region [
    ⟨some 39, .move false (.t 0), none⟩, 
    ⟨some 40, .move false (.t 5), none⟩, 
    ⟨some 41, .slice 2 (.t 39) none (some (.t 40)) none, none⟩, 
    ⟨some 4, .move true (.t 41), none⟩]) (
  .ret))))))
def R.slices_DeleteFunc_Cell : List ARes := [.t 4]
set_option maxRecDepth 100000 in
theorem K.slices_DeleteFunc_Cell : ckFun Try.prog Try.f183 C.slices_DeleteFunc_Cell R.slices_DeleteFunc_Cell = true := by kernel_rfl
/-- slices.IndexFunc[[]gantry/api.Cell,gantry/api.Cell] -/
def C.slices_IndexFunc_Cell : ACode :=
  .seq (.region [
    ⟨some 4, .move false (.c (.int .i64 0)), none⟩]) (
  .seq (.seq (.region [
    ⟨some 6, .move false (.t 0), none⟩, 
    ⟨some 7, .len (.t 6), none⟩, 
    ⟨some 8, .move false (.c (.int .i64 0)), none⟩]) (
  .block 0 (.loop (.seq (.region [
    ⟨some 9, .bin .lss (.t 8) (.t 7), none⟩]) (
  .seq (.cond (.t 9) (.skip) (.exit 0)) (
  .seq (.block 1 (.seq (.region [
    ⟨some 10, .move false (.t 8), none⟩, 
    ⟨some 5, .move false (.t 10), none⟩]) (
  .seq (.region [
    ⟨some 11, .move false (.t 1), none⟩, 
    ⟨some 12, .move false (.t 0), none⟩, 
    ⟨some 13, .move false (.t 5), none⟩, 
    ⟨some 14, .iaddr 2 (.t 12) (.t 13), none⟩, 
    ⟨some 15, .load 2 true 2 (.t 14), none⟩, 
    ⟨some 16, .hop (.callvq (.t 11) [(.t 15)]), none⟩]) (
  .cond (.t 16) (.seq (.region [
    ⟨some 17, .move false (.t 5), none⟩, 
    ⟨some 4, .move false (.t 17), none⟩]) (
  .ret)) (.skip))))) (
  .region [
    ⟨some 18, .bin .add (.t 8) (.c (.int .i64 1)), none⟩, 
    ⟨some 8, .move false (.t 18), none⟩]))))))) (
  .seq (.region [
    ⟨some 4, .move false (.c (.int .i64 (-1))), none⟩]) (
  .ret)))
def R.slices_IndexFunc_Cell : List ARes := [.t 4]
set_option maxRecDepth 100000 in
theorem K.slices_IndexFunc_Cell : ckFun Try.prog Try.f207 C.slices_IndexFunc_Cell R.slices_IndexFunc_Cell = true := by kernel_rfl
/-- slices.BinarySearchFunc[[]gantry/api.Cell,gantry/api.Cell,gantry/api.Cell] -/
def C.slices_BinarySearchFunc_Cell : ACode :=
  .seq (.region [
    ⟨some 4, .bx false (.t 1), none⟩, 
    ⟨some 6, .move false (.c (.int .i64 0)), none⟩, 
    ⟨some 7, .move false (.c (.bool false)), none⟩]) (
  .seq (.region [
    ⟨some 12, .move false (.t 0), none⟩, 
    ⟨some 13, .len (.t 12), none⟩, 
    ⟨some 8, .move false (.t 13), none⟩]) (
  .seq (.region [
    ⟨some 14, .move false (.t 8), none⟩, 
    ⟨some 9, .move false (.c (.int .i64 0)), none⟩, 
    ⟨some 10, .move false (.t 14), none⟩]) (
  .seq (.block 0 (.loop (.seq (.seq (.region [
    ⟨some 15, .move false (.t 9), none⟩, 
    ⟨some 16, .move false (.t 10), none⟩, 
    ⟨some 17, .bin .lss (.t 15) (.t 16), none⟩]) (
  .cond (.t 17) (.skip) (.exit 0))) (
  .block 1 (.seq (.region [
    ⟨some 18, .move false (.t 9), none⟩, 
    ⟨some 19, .move false (.t 10), none⟩, 
    ⟨some 20, .bin .add (.t 18) (.t 19), none⟩, 
    ⟨some 21, .conv .u64 (.t 20), none⟩, 
    ⟨some 22, .bin .shr (.t 21) (.c (.int .u64 1)), none⟩, 
    ⟨some 23, .conv .i64 (.t 22), none⟩, 
    ⟨some 11, .move false (.t 23), none⟩]) (
  .seq (.drawn [0, 1, 2, 3, 4, 5, 6, 7] [0, 0, 0, 6, 14, 0, 63, 127] [
    ⟨some 24, .move false (.t 2), none⟩, 
    ⟨some 25, .move false (.t 0), none⟩, 
    ⟨some 26, .move false (.t 11), none⟩, 
    ⟨some 27, .iaddr 2 (.t 25) (.t 26), none⟩, 
    ⟨some 28, .load 0 true 2 (.t 27), none⟩, 
    ⟨some 29, .load 1 true 2 (.t 4), none⟩, 
    ⟨some 30, .hop (.callvq (.t 24) [(.t 28), (.t 29)]), none⟩, 
    ⟨some 31, .bin .lss (.t 30) (.c (.int .i64 0)), none⟩]) (
  .cond (.t 31) (.region [
    ⟨some 32, .move false (.t 11), none⟩, 
    ⟨some 33, .bin .add (.t 32) (.c (.int .i64 1)), none⟩, 
    ⟨some 9, .move false (.t 33), none⟩]) (.region [
    ⟨some 34, .move false (.t 11), none⟩, 
    ⟨some 10, .move false (.t 34), none⟩])))))))) (
  .seq (.drawn [0, 1, 2, 3, 4, 5, 6, 7, 8, 9, 10, 11, 12, 13, 14, 15] [0, 0, 0, 6, 14, 30, 30, 30, 222, 478, 30, 2046, 4094, 8190, 4095, 32767] [
    ⟨some 35, .move false (.t 9), none⟩, 
    ⟨some 36, .move false (.t 9), none⟩, 
    ⟨some 37, .move false (.t 8), none⟩, 
    ⟨some 38, .bin .lss (.t 36) (.t 37), none⟩, 
    ⟨some 39, .move false (.t 38), none⟩, 
    ⟨some 40, .move false (.t 2), (some (39, true))⟩, 
    ⟨some 41, .move false (.t 0), (some (39, true))⟩, 
    ⟨some 42, .move false (.t 9), (some (39, true))⟩, 
    ⟨some 43, .iaddr 2 (.t 41) (.t 42), (some (39, true))⟩, 
    ⟨some 44, .load 0 true 2 (.t 43), (some (39, true))⟩, 
    ⟨some 45, .load 1 true 2 (.t 4), (some (39, true))⟩, 
    ⟨some 46, .hop (.callvq (.t 40) [(.t 44), (.t 45)]), (some (39, true))⟩, 
    ⟨some 47, .bin .eql (.t 46) (.c (.int .i64 0)), (some (39, true))⟩, 
    ⟨some 48, .pick (.t 39) (.t 47) (.c (.bool false)), none⟩, 
    ⟨some 6, .move false (.t 35), none⟩, 
    ⟨some 7, .move false (.t 48), none⟩]) (
  .ret)))))
def R.slices_BinarySearchFunc_Cell : List ARes := [.t 6, .t 7]
set_option maxRecDepth 100000 in
theorem K.slices_BinarySearchFunc_Cell : ckFun Try.prog Try.f208 C.slices_BinarySearchFunc_Cell R.slices_BinarySearchFunc_Cell = true := by kernel_rfl
/-- slices.ContainsFunc[[]gantry/api.Cell,gantry/api.Cell] -/
def C.slices_ContainsFunc_Cell : ACode :=
  .seq (.region [
    ⟨some 4, .move false (.c (.bool false)), none⟩]) (
  .seq (.region [
    ⟨some 5, .move false (.t 0), none⟩, 
    ⟨some 6, .move false (.t 1), none⟩, 
    ⟨some 7, .call true F.slices_IndexFunc_Cell [(.t 5), (.t 6)], none⟩, 
    ⟨some 8, .bin .geq (.t 7) (.c (.int .i64 0)), none⟩, 
    ⟨some 4, .move false (.t 8), none⟩]) (
  .ret))
def R.slices_ContainsFunc_Cell : List ARes := [.t 4]
set_option maxRecDepth 100000 in
theorem K.slices_ContainsFunc_Cell : ckFun Try.prog Try.f195 C.slices_ContainsFunc_Cell R.slices_ContainsFunc_Cell = true := by kernel_rfl
/-- gantry/grid.has -/
def C.grid_has : ACode :=
  .seq (.region [
    ⟨some 3, .bx false (.t 1), none⟩, 
    ⟨some 4, .move false (.c (.bool false)), none⟩]) (
  .seq (.region [
    ⟨some 8, .move false (.t 0), none⟩, 
    ⟨some 9, .load 2 true 2 (.t 3), none⟩, 
    ⟨some 10, .call true F.slices_BinarySearchFunc_Cell [(.t 8), (.t 9), (.c (.func 198 []))], none⟩, 
    ⟨some 7, .move false (.t 10), none⟩, 
    ⟨some 11, .ext 0 (.t 7), none⟩, 
    ⟨some 12, .ext 1 (.t 7), none⟩, 
    ⟨some 5, .move false (.t 11), none⟩, 
    ⟨some 6, .move false (.t 12), none⟩]) (
  .seq (.region [
    ⟨some 13, .move false (.t 6), none⟩, 
    ⟨some 4, .move false (.t 13), none⟩]) (
  .ret)))
def R.grid_has : List ARes := [.t 4]
set_option maxRecDepth 100000 in
theorem K.grid_has : ckFun Try.prog Try.f185 C.grid_has R.grid_has = true := by kernel_rfl
/-- gantry/grid.Join -/
def C.grid_Join : ACode :=
  .seq (.region [
    ⟨some 4, .move false (.c (.lst .nil [])), none⟩]) (
  .seq (.region [
    ⟨some 5, .move false (.t 0), none⟩, 
    ⟨some 6, .move false (.t 1), none⟩, 
    ⟨some 7, .buildS false 1 [(.t 5), (.t 6)], none⟩, 
    ⟨some 8, .call true F.grid_sorted [(.t 7)], none⟩, 
    ⟨some 4, .move true (.t 8), none⟩]) (
  .ret))
def R.grid_Join : List ARes := [.t 4]
set_option maxRecDepth 100000 in
theorem K.grid_Join : ckFun Try.prog Try.f178 C.grid_Join R.grid_Join = true := by kernel_rfl
/-- gantry/grid.Minus -/
def C.grid_Minus : ACode :=
  .seq (.region [
    ⟨some 3, .bx true (.t 1), none⟩, 
    ⟨some 4, .move false (.c (.lst .nil [])), none⟩]) (
  .seq (.prom 3 (.region [
    ⟨some 5, .load 2 false 1 (.t 3), none⟩, 
    ⟨some 6, .buildS false 1 [(.t 5)], none⟩, 
    ⟨some 7, .call true F.grid_sorted [(.t 6)], none⟩, 
    ⟨none, .store 1 (.t 3) (.t 7), none⟩])) (
  .seq (.region [
    ⟨some 8, .move false (.t 0), none⟩, 
    ⟨some 9, .buildS false 1 [(.t 8)], none⟩, 
    ⟨some 10, .call true F.grid_sorted [(.t 9)], none⟩, 
    ⟨some 11, .mkf F.grid_Minus_1 [(.t 3)], none⟩, 
    ⟨some 12, .call true F.slices_DeleteFunc_Cell [(.t 10), (.t 11)], none⟩, 
    ⟨some 4, .move false (.t 12), none⟩]) (
  .own 4 true 2 (.grab 4 (.ret)))))
def R.grid_Minus : List ARes := [.t 4]
set_option maxRecDepth 100000 in
theorem K.grid_Minus : ckFun Try.prog Try.f143 C.grid_Minus R.grid_Minus = true := by kernel_rfl
/-- gantry/grid.Minus$1 -/
def C.grid_Minus_1 : ACode :=
  .seq (.region [
    ⟨some 2, .bx false (.t 0), none⟩, 
    ⟨some 3, .move false (.c (.bool false)), none⟩]) (
  .seq (.region [
    ⟨some 4, .load 2 false 1 (.t 1), none⟩, 
    ⟨some 5, .load 2 true 2 (.t 2), none⟩, 
    ⟨some 6, .call true F.grid_has [(.t 4), (.t 5)], none⟩, 
    ⟨some 3, .move false (.t 6), none⟩]) (
  .ret))
def R.grid_Minus_1 : List ARes := [.t 3]
set_option maxRecDepth 100000 in
theorem K.grid_Minus_1 : ckFun Try.prog Try.f193 C.grid_Minus_1 R.grid_Minus_1 = true := by kernel_rfl
/-- gantry/grid.Within -/
def C.grid_Within : ACode :=
  .seq (.region [
    ⟨some 3, .bx true (.t 1), none⟩, 
    ⟨some 4, .move false (.c (.bool false)), none⟩]) (
  .seq (.prom 3 (.region [
    ⟨some 5, .load 2 false 1 (.t 3), none⟩, 
    ⟨some 6, .buildS false 1 [(.t 5)], none⟩, 
    ⟨some 7, .call true F.grid_sorted [(.t 6)], none⟩, 
    ⟨none, .store 1 (.t 3) (.t 7), none⟩])) (
  .seq (.region [
    ⟨some 8, .move false (.t 0), none⟩, 
    ⟨some 9, .mkf F.grid_Within_1 [(.t 3)], none⟩, 
    ⟨some 10, .call true F.slices_ContainsFunc_Cell [(.t 8), (.t 9)], none⟩, 
    ⟨some 11, .un .not (.t 10), none⟩, 
    ⟨some 4, .move false (.t 11), none⟩]) (
  .ret)))
def R.grid_Within : List ARes := [.t 4]
set_option maxRecDepth 100000 in
theorem K.grid_Within : ckFun Try.prog Try.f147 C.grid_Within R.grid_Within = true := by kernel_rfl
/-- gantry/grid.Within$1 -/
def C.grid_Within_1 : ACode :=
  .seq (.region [
    ⟨some 2, .bx false (.t 0), none⟩, 
    ⟨some 3, .move false (.c (.bool false)), none⟩]) (
  .seq (.region [
    ⟨some 4, .load 2 false 1 (.t 1), none⟩, 
    ⟨some 5, .load 2 true 2 (.t 2), none⟩, 
    ⟨some 6, .call true F.grid_has [(.t 4), (.t 5)], none⟩, 
    ⟨some 7, .un .not (.t 6), none⟩, 
    ⟨some 3, .move false (.t 7), none⟩]) (
  .ret))
def R.grid_Within_1 : List ARes := [.t 3]
set_option maxRecDepth 100000 in
theorem K.grid_Within_1 : ckFun Try.prog Try.f196 C.grid_Within_1 R.grid_Within_1 = true := by kernel_rfl
end Go.Proofs.Ytpdajkbfemcdlaa
/- Annotated code of functions, checked against the program. -/
namespace Go.Proofs.Ytpdajkbfemcdlaa
open Go.Ge
/-- gantry/fall.Check -/
def C.fall_Check : ACode :=
  .seq (.region [
    ⟨some 1, .bx true (.t 0), none⟩, 
    ⟨some 2, .move false (.c (.int .i64 0)), none⟩]) (
  .seq (.seq (.region [
    ⟨some 3, .faddr 0 (.t 1), none⟩, 
    ⟨some 4, .load 2 false 1 (.t 3), none⟩, 
    ⟨some 5, .bin .lss (.t 4) (.c (.int .i64 1)), none⟩, 
    ⟨some 6, .move false (.t 5), none⟩, 
    ⟨some 7, .faddr 0 (.t 1), (some (6, false))⟩, 
    ⟨some 8, .load 2 false 1 (.t 7), (some (6, false))⟩, 
    ⟨some 9, .bin .gtr (.t 8) (.c (.int .i64 6)), (some (6, false))⟩, 
    ⟨some 10, .pick (.t 6) (.c (.bool true)) (.t 9), none⟩]) (
  .cond (.t 10) (.seq (.region [
    ⟨some 2, .move false (.c (.int .i64 1)), none⟩]) (
  .ret)) (.skip))) (
  .seq (.seq (.region [
    ⟨some 11, .faddr 0 (.t 1), none⟩, 
    ⟨some 12, .load 2 false 1 (.t 11), none⟩, 
    ⟨some 13, .bin .eql (.t 12) (.c (.int .i64 1)), none⟩, 
    ⟨some 14, .move false (.t 13), none⟩, 
    ⟨some 15, .faddr 1 (.t 1), (some (14, true))⟩, 
    ⟨some 16, .load 2 false 1 (.t 15), (some (14, true))⟩, 
    ⟨some 17, .bin .lss (.t 16) (.c (.int .i64 0)), (some (14, true))⟩, 
    ⟨some 18, .move false (.t 17), (some (14, true))⟩, 
    ⟨some 19, .faddr 1 (.t 1), (some (18, false))⟩, 
    ⟨some 20, .load 2 false 1 (.t 19), (some (18, false))⟩, 
    ⟨some 21, .bin .gtr (.t 20) (.c (.int .i64 2147483647)), (some (18, false))⟩, 
    ⟨some 22, .pick (.t 18) (.c (.bool true)) (.t 21), (some (14, true))⟩, 
    ⟨some 23, .pick (.t 14) (.t 22) (.c (.bool false)), none⟩, 
    ⟨some 24, .move false (.t 23), none⟩, 
    ⟨some 25, .faddr 0 (.t 1), (some (24, false))⟩, 
    ⟨some 26, .load 2 false 1 (.t 25), (some (24, false))⟩, 
    ⟨some 27, .bin .neq (.t 26) (.c (.int .i64 1)), (some (24, false))⟩, 
    ⟨some 28, .move false (.t 27), (some (24, false))⟩, 
    ⟨some 29, .faddr 1 (.t 1), (some (28, true))⟩, 
    ⟨some 30, .load 2 false 1 (.t 29), (some (28, true))⟩, 
    ⟨some 31, .bin .neq (.t 30) (.c (.int .i64 0)), (some (28, true))⟩, 
    ⟨some 32, .pick (.t 28) (.t 31) (.c (.bool false)), (some (24, false))⟩, 
    ⟨some 33, .pick (.t 24) (.c (.bool true)) (.t 32), none⟩]) (
  .cond (.t 33) (.seq (.region [
    ⟨some 2, .move false (.c (.int .i64 2)), none⟩]) (
  .ret)) (.skip))) (
  .seq (.seq (.region [
    ⟨some 34, .faddr 0 (.t 1), none⟩, 
    ⟨some 35, .load 2 false 1 (.t 34), none⟩, 
    ⟨some 36, .bin .neq (.t 35) (.c (.int .i64 3)), none⟩, 
    ⟨some 37, .move false (.t 36), none⟩, 
    ⟨some 38, .faddr 0 (.t 1), (some (37, true))⟩, 
    ⟨some 39, .load 2 false 1 (.t 38), (some (37, true))⟩, 
    ⟨some 40, .bin .neq (.t 39) (.c (.int .i64 5)), (some (37, true))⟩, 
    ⟨some 41, .pick (.t 37) (.t 40) (.c (.bool false)), none⟩, 
    ⟨some 42, .move false (.t 41), none⟩, 
    ⟨some 43, .faddr 2 (.t 1), (some (42, true))⟩, 
    ⟨some 44, .load 2 false 1 (.t 43), (some (42, true))⟩, 
    ⟨some 45, .len (.t 44), (some (42, true))⟩, 
    ⟨some 46, .bin .gtr (.t 45) (.c (.int .i64 0)), (some (42, true))⟩, 
    ⟨some 47, .pick (.t 42) (.t 46) (.c (.bool false)), none⟩]) (
  .cond (.t 47) (.seq (.region [
    ⟨some 2, .move false (.c (.int .i64 3)), none⟩]) (
  .ret)) (.skip))) (
  .seq (.region [
    ⟨some 48, .faddr 2 (.t 1), none⟩, 
    ⟨some 49, .load 2 false 1 (.t 48), none⟩, 
    ⟨some 50, .call true F.grid_Check [(.t 49)], none⟩, 
    ⟨some 2, .move false (.t 50), none⟩]) (
  .ret)))))
def R.fall_Check : List ARes := [.t 2]
set_option maxRecDepth 100000 in
theorem K.fall_Check : ckFun Try.prog Try.f117 C.fall_Check R.fall_Check = true := by kernel_rfl
/-- gantry/fall.Right -/
def C.fall_Right : ACode :=
  .seq (.region [
    ⟨some 1, .bx true (.t 0), none⟩, 
    ⟨some 2, .move false (.c (.int .i64 0)), none⟩]) (
  .seq (.seq (.region [
    ⟨some 4, .faddr 0 (.t 1), none⟩, 
    ⟨some 5, .load 2 false 1 (.t 4), none⟩, 
    ⟨some 6, .faddr 1 (.t 1), none⟩, 
    ⟨some 7, .load 2 false 1 (.t 6), none⟩, 
    ⟨some 8, .faddr 4 (.t 1), none⟩, 
    ⟨some 9, .load 2 false 1 (.t 8), none⟩, 
    ⟨some 10, .mn (.t 5) [(.t 7), (.t 9)], none⟩, 
    ⟨some 11, .bin .lss (.t 10) (.c (.int .i64 0)), none⟩]) (
  .cond (.t 11) (.seq (.region [
    ⟨some 2, .move false (.c (.int .i64 1)), none⟩]) (
  .ret)) (.skip))) (
  .seq (.seq (.region [
    ⟨some 12, .faddr 2 (.t 1), none⟩, 
    ⟨some 13, .load 2 false 1 (.t 12), none⟩, 
    ⟨some 14, .call true F.grid_Check [(.t 13)], none⟩, 
    ⟨some 3, .move false (.t 14), none⟩]) (
  .seq (.region [
    ⟨some 15, .move false (.t 3), none⟩, 
    ⟨some 16, .bin .neq (.t 15) (.c (.int .i64 0)), none⟩]) (
  .cond (.t 16) (.seq (.region [
    ⟨some 17, .move false (.t 3), none⟩, 
    ⟨some 2, .move false (.t 17), none⟩]) (
  .ret)) (.skip)))) (
  .seq (.region [
    ⟨some 18, .faddr 3 (.t 1), none⟩, 
    ⟨some 19, .load 2 false 1 (.t 18), none⟩, 
    ⟨some 20, .call true F.grid_Check [(.t 19)], none⟩, 
    ⟨some 2, .move false (.t 20), none⟩]) (
  .ret))))
def R.fall_Right : List ARes := [.t 2]
set_option maxRecDepth 100000 in
theorem K.fall_Right : ckFun Try.prog Try.f120 C.fall_Right R.fall_Right = true := by kernel_rfl
/-- gantry/fall.Do -/
def C.fall_Do : ACode :=
  .seq (.region [
    ⟨some 2, .bx true (.t 0), none⟩, 
    ⟨some 3, .bx true (.t 1), none⟩, 
    ⟨some 4, .alloc false [(.int .i64 0), (.int .i64 0), (.lst .nil []), (.lst .nil []), (.int .i64 0)], none⟩, 
    ⟨some 5, .move false (.c (.int .i64 0)), none⟩]) (
  .seq (.seq (.region [
    ⟨some 9, .load 2 true 3 (.t 3), none⟩, 
    ⟨some 10, .call true F.fall_Check [(.t 9)], none⟩, 
    ⟨some 6, .move false (.t 10), none⟩]) (
  .seq (.region [
    ⟨some 11, .move false (.t 6), none⟩, 
    ⟨some 12, .bin .neq (.t 11) (.c (.int .i64 0)), none⟩]) (
  .cond (.t 12) (.seq (.region [
    ⟨some 13, .build [(.int .i64 0), (.int .i64 0), (.lst .nil []), (.lst .nil []), (.int .i64 0)] [], none⟩, 
    ⟨some 14, .move false (.t 6), none⟩, 
    ⟨none, .store 5 (.t 4) (.t 13), none⟩, 
    ⟨some 5, .move false (.t 14), none⟩]) (
  .ret)) (.skip)))) (
  .seq (.seq (.region [
    ⟨some 15, .load 2 true 5 (.t 2), none⟩, 
    ⟨some 16, .call true F.fall_Right [(.t 15)], none⟩, 
    ⟨some 7, .move false (.t 16), none⟩]) (
  .seq (.region [
    ⟨some 17, .move false (.t 7), none⟩, 
    ⟨some 18, .bin .neq (.t 17) (.c (.int .i64 0)), none⟩]) (
  .cond (.t 18) (.seq (.region [
    ⟨some 19, .build [(.int .i64 0), (.int .i64 0), (.lst .nil []), (.lst .nil []), (.int .i64 0)] [], none⟩, 
    ⟨some 20, .move false (.t 7), none⟩, 
    ⟨none, .store 5 (.t 4) (.t 19), none⟩, 
    ⟨some 5, .move false (.t 20), none⟩]) (
  .ret)) (.skip)))) (
  .seq (.drawn [0, 1, 3, 4, 2, 6, 5, 7, 8, 9] [0, 1, 3, 0, 8, 31, 31, 127, 255, 511] [
    ⟨some 21, .faddr 2 (.t 2), none⟩, 
    ⟨some 22, .load 1 false 1 (.t 21), none⟩, 
    ⟨some 24, .faddr 3 (.t 2), none⟩, 
    ⟨some 25, .load 1 false 1 (.t 24), none⟩, 
    ⟨some 23, .call false F.slices_Clone_Cell [(.t 22)], none⟩, 
    ⟨some 27, .faddr 2 (.t 2), none⟩, 
    ⟨some 26, .call false F.slices_Clone_Cell [(.t 25)], none⟩, 
    ⟨none, .store 1 (.t 27) (.t 23), none⟩, 
    ⟨some 28, .faddr 3 (.t 2), none⟩, 
    ⟨none, .store 1 (.t 28) (.t 26), none⟩]) (
  .seq (.seq (.region [
    ⟨some 29, .faddr 0 (.t 3), none⟩, 
    ⟨some 30, .load 2 false 1 (.t 29), none⟩]) (
  .block 0 (.seq (.region [
    ⟨some 32, .bin .eql (.t 30) (.c (.int .i64 1)), none⟩, 
    ⟨some 31, .move false (.t 32), none⟩]) (
  .cond (.t 31) (.region [
    ⟨some 33, .faddr 1 (.t 3), none⟩, 
    ⟨some 34, .load 2 false 1 (.t 33), none⟩, 
    ⟨some 35, .faddr 0 (.t 2), none⟩, 
    ⟨none, .store 1 (.t 35) (.t 34), none⟩, 
    ⟨some 36, .faddr 1 (.t 2), none⟩, 
    ⟨none, .store 1 (.t 36) (.c (.int .i64 0)), none⟩]) (.seq (.region [
    ⟨some 38, .bin .eql (.t 30) (.c (.int .i64 2)), none⟩, 
    ⟨some 37, .move false (.t 38), none⟩]) (
  .cond (.t 37) (.seq (.seq (.region [
    ⟨some 39, .faddr 1 (.t 2), none⟩, 
    ⟨some 40, .load 2 false 1 (.t 39), none⟩, 
    ⟨some 41, .bin .geq (.t 40) (.c (.int .i64 2000)), none⟩]) (
  .cond (.t 41) (.seq (.region [
    ⟨some 42, .build [(.int .i64 0), (.int .i64 0), (.lst .nil []), (.lst .nil []), (.int .i64 0)] [], none⟩, 
    ⟨none, .store 5 (.t 4) (.t 42), none⟩, 
    ⟨some 5, .move false (.c (.int .i64 19)), none⟩]) (
  .ret)) (.skip))) (
  .region [
    ⟨some 43, .faddr 1 (.t 2), none⟩, 
    ⟨some 44, .load 2 false 1 (.t 43), none⟩, 
    ⟨some 45, .bin .add (.t 44) (.c (.int .i64 1)), none⟩, 
    ⟨some 46, .faddr 1 (.t 2), none⟩, 
    ⟨none, .store 1 (.t 46) (.t 45), none⟩])) (.seq (.region [
    ⟨some 48, .bin .eql (.t 30) (.c (.int .i64 3)), none⟩, 
    ⟨some 47, .move false (.t 48), none⟩]) (
  .cond (.t 47) (.seq (.seq (.region [
    ⟨some 49, .faddr 2 (.t 2), none⟩, 
    ⟨some 50, .load 2 false 1 (.t 49), none⟩, 
    ⟨some 51, .len (.t 50), none⟩, 
    ⟨some 52, .bin .gtr (.t 51) (.c (.int .i64 0)), none⟩]) (
  .cond (.t 52) (.seq (.region [
    ⟨some 53, .build [(.int .i64 0), (.int .i64 0), (.lst .nil []), (.lst .nil []), (.int .i64 0)] [], none⟩, 
    ⟨none, .store 5 (.t 4) (.t 53), none⟩, 
    ⟨some 5, .move false (.c (.int .i64 7)), none⟩]) (
  .ret)) (.skip))) (
  .region [
    ⟨some 54, .faddr 2 (.t 3), none⟩, 
    ⟨some 55, .load 2 false 1 (.t 54), none⟩, 
    ⟨some 56, .faddr 3 (.t 2), none⟩, 
    ⟨some 57, .load 2 false 1 (.t 56), none⟩, 
    ⟨some 58, .call true F.grid_Minus [(.t 55), (.t 57)], none⟩, 
    ⟨some 59, .faddr 2 (.t 2), none⟩, 
    ⟨none, .store 1 (.t 59) (.t 58), none⟩])) (.seq (.region [
    ⟨some 61, .bin .eql (.t 30) (.c (.int .i64 4)), none⟩, 
    ⟨some 60, .move false (.t 61), none⟩]) (
  .cond (.t 60) (.seq (.region [
    ⟨some 62, .faddr 3 (.t 2), none⟩, 
    ⟨some 63, .load 2 false 1 (.t 62), none⟩, 
    ⟨some 64, .faddr 2 (.t 2), none⟩, 
    ⟨some 65, .load 2 false 1 (.t 64), none⟩, 
    ⟨some 66, .call true F.grid_Join [(.t 63), (.t 65)], none⟩, 
    ⟨some 8, .move true (.t 66), none⟩]) (
  .seq (.seq (.region [
    ⟨some 67, .move false (.t 8), none⟩, 
    ⟨some 68, .call true F.grid_Check [(.t 67)], none⟩, 
    ⟨some 69, .bin .neq (.t 68) (.c (.int .i64 0)), none⟩]) (
  .cond (.t 69) (.seq (.region [
    ⟨some 70, .build [(.int .i64 0), (.int .i64 0), (.lst .nil []), (.lst .nil []), (.int .i64 0)] [], none⟩, 
    ⟨none, .store 5 (.t 4) (.t 70), none⟩, 
    ⟨some 5, .move false (.c (.int .i64 6)), none⟩]) (
  .ret)) (.skip))) (
  .region [
    ⟨some 71, .move true (.t 8), none⟩, 
    ⟨some 72, .faddr 3 (.t 2), none⟩, 
    ⟨none, .store 1 (.t 72) (.t 71), none⟩, 
    ⟨some 73, .faddr 2 (.t 2), none⟩, 
    ⟨none, .store 1 (.t 73) (.c (.lst .nil [])), none⟩]))) (.seq (.region [
    ⟨some 75, .bin .eql (.t 30) (.c (.int .i64 5)), none⟩, 
    ⟨some 74, .move false (.t 75), none⟩]) (
  .cond (.t 74) (.seq (.seq (.region [
    ⟨some 76, .faddr 2 (.t 3), none⟩, 
    ⟨some 77, .load 2 false 1 (.t 76), none⟩, 
    ⟨some 78, .faddr 3 (.t 2), none⟩, 
    ⟨some 79, .load 2 false 1 (.t 78), none⟩, 
    ⟨some 80, .call true F.grid_Within [(.t 77), (.t 79)], none⟩, 
    ⟨some 81, .un .not (.t 80), none⟩]) (
  .cond (.t 81) (.seq (.region [
    ⟨some 82, .build [(.int .i64 0), (.int .i64 0), (.lst .nil []), (.lst .nil []), (.int .i64 0)] [], none⟩, 
    ⟨none, .store 5 (.t 4) (.t 82), none⟩, 
    ⟨some 5, .move false (.c (.int .i64 4)), none⟩]) (
  .ret)) (.skip))) (
  .region [
    ⟨some 83, .faddr 3 (.t 2), none⟩, 
    ⟨some 84, .load 2 false 1 (.t 83), none⟩, 
    ⟨some 85, .faddr 2 (.t 3), none⟩, 
    ⟨some 86, .load 2 false 1 (.t 85), none⟩, 
    ⟨some 87, .call true F.grid_Minus [(.t 84), (.t 86)], none⟩, 
    ⟨some 88, .faddr 3 (.t 2), none⟩, 
    ⟨none, .store 1 (.t 88) (.t 87), none⟩])) (.seq (.region [
    ⟨some 90, .bin .eql (.t 30) (.c (.int .i64 6)), none⟩, 
    ⟨some 89, .move false (.t 90), none⟩]) (
  .cond (.t 89) (.region [
    ⟨some 91, .faddr 4 (.t 2), none⟩, 
    ⟨some 92, .load 2 false 1 (.t 91), none⟩, 
    ⟨some 93, .bin .add (.t 92) (.c (.int .i64 1)), none⟩, 
    ⟨some 94, .faddr 4 (.t 2), none⟩, 
    ⟨none, .store 1 (.t 94) (.t 93), none⟩]) (.skip))))))))))))))) (
  .seq (.region [
    ⟨some 95, .load 2 true 5 (.t 2), none⟩, 
    ⟨none, .store 5 (.t 4) (.t 95), none⟩, 
    ⟨some 5, .move false (.c (.int .i64 0)), none⟩]) (
  .ret))))))
def R.fall_Do : List ARes := [.c 4 true 5, .t 5]
set_option maxRecDepth 100000 in
theorem K.fall_Do : ckFun Try.prog Try.f110 C.fall_Do R.fall_Do = true := by kernel_rfl
/-- gantry/fall.Same -/
def C.fall_Same : ACode :=
  .seq (.region [
    ⟨some 2, .bx true (.t 0), none⟩, 
    ⟨some 3, .bx true (.t 1), none⟩, 
    ⟨some 4, .move false (.c (.bool false)), none⟩]) (
  .seq (.region [
    ⟨some 5, .faddr 0 (.t 2), none⟩, 
    ⟨some 6, .load 2 false 1 (.t 5), none⟩, 
    ⟨some 7, .faddr 0 (.t 3), none⟩, 
    ⟨some 8, .load 2 false 1 (.t 7), none⟩, 
    ⟨some 9, .bin .eql (.t 6) (.t 8), none⟩, 
    ⟨some 10, .move false (.t 9), none⟩, 
    ⟨some 11, .faddr 1 (.t 2), (some (10, true))⟩, 
    ⟨some 12, .load 2 false 1 (.t 11), (some (10, true))⟩, 
    ⟨some 13, .faddr 1 (.t 3), (some (10, true))⟩, 
    ⟨some 14, .load 2 false 1 (.t 13), (some (10, true))⟩, 
    ⟨some 15, .bin .eql (.t 12) (.t 14), (some (10, true))⟩, 
    ⟨some 16, .pick (.t 10) (.t 15) (.c (.bool false)), none⟩, 
    ⟨some 17, .move false (.t 16), none⟩, 
    ⟨some 18, .faddr 4 (.t 2), (some (17, true))⟩, 
    ⟨some 19, .load 2 false 1 (.t 18), (some (17, true))⟩, 
    ⟨some 20, .faddr 4 (.t 3), (some (17, true))⟩, 
    ⟨some 21, .load 2 false 1 (.t 20), (some (17, true))⟩, 
    ⟨some 22, .bin .eql (.t 19) (.t 21), (some (17, true))⟩, 
    ⟨some 23, .pick (.t 17) (.t 22) (.c (.bool false)), none⟩, 
    ⟨some 24, .move false (.t 23), none⟩, 
    ⟨some 25, .faddr 2 (.t 2), (some (24, true))⟩, 
    ⟨some 26, .load 2 false 1 (.t 25), (some (24, true))⟩, 
    ⟨some 27, .faddr 2 (.t 3), (some (24, true))⟩, 
    ⟨some 28, .load 2 false 1 (.t 27), (some (24, true))⟩, 
    ⟨some 29, .call true F.slices_Equal_Cell [(.t 26), (.t 28)], (some (24, true))⟩, 
    ⟨some 30, .pick (.t 24) (.t 29) (.c (.bool false)), none⟩, 
    ⟨some 31, .move false (.t 30), none⟩, 
    ⟨some 32, .faddr 3 (.t 2), (some (31, true))⟩, 
    ⟨some 33, .load 2 false 1 (.t 32), (some (31, true))⟩, 
    ⟨some 34, .faddr 3 (.t 3), (some (31, true))⟩, 
    ⟨some 35, .load 2 false 1 (.t 34), (some (31, true))⟩, 
    ⟨some 36, .call true F.slices_Equal_Cell [(.t 33), (.t 35)], (some (31, true))⟩, 
    ⟨some 37, .pick (.t 31) (.t 36) (.c (.bool false)), none⟩, 
    ⟨some 4, .move false (.t 37), none⟩]) (
  .ret))
def R.fall_Same : List ARes := [.t 4]
set_option maxRecDepth 100000 in
theorem K.fall_Same : ckFun Try.prog Try.f115 C.fall_Same R.fall_Same = true := by kernel_rfl
/-- gantry/fall.Write -/
def C.fall_Write : ACode :=
  .seq (.region [
    ⟨some 1, .bx true (.t 0), none⟩, 
    ⟨some 2, .move false (.c (.lst .nil [])), none⟩, 
    ⟨some 3, .move false (.c (.int .i64 0)), none⟩]) (
  .seq (.seq (.region [
    ⟨some 8, .load 2 true 3 (.t 1), none⟩, 
    ⟨some 9, .call true F.fall_Check [(.t 8)], none⟩, 
    ⟨some 4, .move false (.t 9), none⟩]) (
  .seq (.region [
    ⟨some 10, .move false (.t 4), none⟩, 
    ⟨some 11, .bin .neq (.t 10) (.c (.int .i64 0)), none⟩]) (
  .cond (.t 11) (.seq (.region [
    ⟨some 12, .move false (.t 4), none⟩, 
    ⟨some 2, .move false (.c (.lst .nil [])), none⟩, 
    ⟨some 3, .move false (.t 12), none⟩]) (
  .ret)) (.skip)))) (
  .seq (.region [
    ⟨some 13, .faddr 0 (.t 1), none⟩, 
    ⟨some 14, .load 2 false 1 (.t 13), none⟩, 
    ⟨some 15, .conv .u8 (.t 14), none⟩, 
    ⟨some 16, .faddr 1 (.t 1), none⟩, 
    ⟨some 17, .load 2 false 1 (.t 16), none⟩, 
    ⟨some 18, .bin .shr (.t 17) (.c (.int .u64 24)), none⟩, 
    ⟨some 19, .conv .u8 (.t 18), none⟩, 
    ⟨some 20, .faddr 1 (.t 1), none⟩, 
    ⟨some 21, .load 2 false 1 (.t 20), none⟩, 
    ⟨some 22, .bin .shr (.t 21) (.c (.int .u64 16)), none⟩, 
    ⟨some 23, .conv .u8 (.t 22), none⟩, 
    ⟨some 24, .faddr 1 (.t 1), none⟩, 
    ⟨some 25, .load 2 false 1 (.t 24), none⟩, 
    ⟨some 26, .bin .shr (.t 25) (.c (.int .u64 8)), none⟩, 
    ⟨some 27, .conv .u8 (.t 26), none⟩, 
    ⟨some 28, .faddr 1 (.t 1), none⟩, 
    ⟨some 29, .load 2 false 1 (.t 28), none⟩, 
    ⟨some 30, .conv .u8 (.t 29), none⟩, 
    ⟨some 31, .buildS false 1 [(.t 15), (.t 19), (.t 23), (.t 27), (.t 30)], none⟩, 
    ⟨some 5, .move true (.t 31), none⟩]) (
  .seq (.seq (.region [
    ⟨some 32, .faddr 2 (.t 1), none⟩, 
    ⟨some 33, .load 2 false 1 (.t 32), none⟩, 
    ⟨some 34, .len (.t 33), none⟩, 
    ⟨some 35, .move false (.c (.int .i64 0)), none⟩]) (
  .block 0 (.loop (.seq (.region [
    ⟨some 36, .bin .lss (.t 35) (.t 34), none⟩]) (
  .seq (.cond (.t 36) (.skip) (.exit 0)) (
  .seq (.block 1 (.seq (.region [
    ⟨some 37, .iaddr 2 (.t 33) (.t 35), none⟩, 
    ⟨some 38, .load 2 true 2 (.t 37), none⟩, 
    ⟨some 7, .alloc false [(.int .i64 0), (.int .i64 0)], none⟩, 
    ⟨none, .store 2 (.t 7) (.t 38), none⟩]) (
  .region [
    ⟨some 39, .move true (.t 5), none⟩, 
    ⟨some 40, .faddr 0 (.t 7), none⟩, 
    ⟨some 41, .load 2 false 1 (.t 40), none⟩, 
    ⟨some 42, .bin .add (.t 41) (.c (.int .i64 64)), none⟩, 
    ⟨some 43, .conv .u8 (.t 42), none⟩, 
    ⟨some 44, .faddr 1 (.t 7), none⟩, 
    ⟨some 45, .load 2 false 1 (.t 44), none⟩, 
    ⟨some 46, .bin .add (.t 45) (.c (.int .i64 64)), none⟩, 
    ⟨some 47, .conv .u8 (.t 46), none⟩, 
    ⟨some 48, .buildS false 1 [(.t 43), (.t 47)], none⟩, 
    ⟨some 49, .append 1 1 (.t 39) (.t 48), none⟩, 
    ⟨some 5, .move true (.t 49), none⟩]))) (
  .region [
    ⟨some 50, .bin .add (.t 35) (.c (.int .i64 1)), none⟩, 
    ⟨some 35, .move false (.t 50), none⟩]))))))) (
  .seq (.region [
    ⟨some 51, .move true (.t 5), none⟩, 
    ⟨some 2, .move true (.t 51), none⟩, 
    ⟨some 3, .move false (.c (.int .i64 0)), none⟩]) (
  .ret)))))
def R.fall_Write : List ARes := [.t 2, .t 3]
set_option maxRecDepth 100000 in
theorem K.fall_Write : ckFun Try.prog Try.f118 C.fall_Write R.fall_Write = true := by kernel_rfl
/-- gantry/fall.Read -/
def C.fall_Read : ACode :=
  .seq (.region [
    ⟨some 2, .alloc false [(.int .i64 0), (.int .i64 0), (.lst .nil [])], none⟩, 
    ⟨some 3, .move false (.c (.int .i64 0)), none⟩]) (
  .seq (.seq (.region [
    ⟨some 7, .move false (.t 0), none⟩, 
    ⟨some 8, .len (.t 7), none⟩, 
    ⟨some 9, .bin .lss (.t 8) (.c (.int .i64 5)), none⟩]) (
  .cond (.t 9) (.seq (.region [
    ⟨some 10, .build [(.int .i64 0), (.int .i64 0), (.lst .nil [])] [], none⟩, 
    ⟨none, .store 3 (.t 2) (.t 10), none⟩, 
    ⟨some 3, .move false (.c (.int .i64 14)), none⟩]) (
  .ret)) (.skip))) (
  .seq (.seq (.region [
    ⟨some 11, .move false (.t 0), none⟩, 
    ⟨some 12, .len (.t 11), none⟩, 
    ⟨some 13, .bin .rem (.t 12) (.c (.int .i64 2)), none⟩, 
    ⟨some 14, .bin .eql (.t 13) (.c (.int .i64 0)), none⟩]) (
  .cond (.t 14) (.seq (.region [
    ⟨some 15, .build [(.int .i64 0), (.int .i64 0), (.lst .nil [])] [], none⟩, 
    ⟨none, .store 3 (.t 2) (.t 15), none⟩, 
    ⟨some 3, .move false (.c (.int .i64 3)), none⟩]) (
  .ret)) (.skip))) (
  .seq (.drawn [0, 1, 2, 3, 4, 5, 6, 7, 8, 9, 10, 11, 12, 13, 14, 15, 16, 17, 18, 19, 20, 21, 22, 23, 24, 25, 26, 27, 28] [0, 1, 3, 7, 0, 16, 48, 112, 240, 0, 512, 1536, 3584, 7680, 16368, 0, 32768, 98304, 229376, 491520, 1048560, 0, 2097152, 6291456, 14680064, 33554416, 67108863, 0, 268435455] [
    ⟨some 16, .move false (.t 0), none⟩, 
    ⟨some 17, .iaddr 1 (.t 16) (.c (.int .i64 0)), none⟩, 
    ⟨some 18, .load 0 false 1 (.t 17), none⟩, 
    ⟨some 19, .conv .i64 (.t 18), none⟩, 
    ⟨some 20, .move false (.t 0), none⟩, 
    ⟨some 21, .iaddr 1 (.t 20) (.c (.int .i64 1)), none⟩, 
    ⟨some 22, .load 0 false 1 (.t 21), none⟩, 
    ⟨some 23, .conv .i64 (.t 22), none⟩, 
    ⟨some 24, .bin .shl (.t 23) (.c (.int .u64 24)), none⟩, 
    ⟨some 25, .move false (.t 0), none⟩, 
    ⟨some 26, .iaddr 1 (.t 25) (.c (.int .i64 2)), none⟩, 
    ⟨some 27, .load 0 false 1 (.t 26), none⟩, 
    ⟨some 28, .conv .i64 (.t 27), none⟩, 
    ⟨some 29, .bin .shl (.t 28) (.c (.int .u64 16)), none⟩, 
    ⟨some 30, .bin .or (.t 24) (.t 29), none⟩, 
    ⟨some 31, .move false (.t 0), none⟩, 
    ⟨some 32, .iaddr 1 (.t 31) (.c (.int .i64 3)), none⟩, 
    ⟨some 33, .load 0 false 1 (.t 32), none⟩, 
    ⟨some 34, .conv .i64 (.t 33), none⟩, 
    ⟨some 35, .bin .shl (.t 34) (.c (.int .u64 8)), none⟩, 
    ⟨some 36, .bin .or (.t 30) (.t 35), none⟩, 
    ⟨some 37, .move false (.t 0), none⟩, 
    ⟨some 38, .iaddr 1 (.t 37) (.c (.int .i64 4)), none⟩, 
    ⟨some 39, .load 0 false 1 (.t 38), none⟩, 
    ⟨some 40, .conv .i64 (.t 39), none⟩, 
    ⟨some 41, .bin .or (.t 36) (.t 40), none⟩, 
    ⟨some 42, .build [(.int .i64 0), (.int .i64 0), (.lst .nil [])] [(0, 1, (.t 19)), (1, 1, (.t 41))], none⟩, 
    ⟨some 4, .alloc true [(.int .i64 0), (.int .i64 0), (.lst .nil [])], none⟩, 
    ⟨none, .store 3 (.t 4) (.t 42), none⟩]) (
  .seq (.seq (.region [
    ⟨some 5, .move false (.c (.int .i64 5)), none⟩]) (
  .block 0 (.loop (.seq (.seq (.region [
    ⟨some 43, .move false (.t 5), none⟩, 
    ⟨some 44, .move false (.t 0), none⟩, 
    ⟨some 45, .len (.t 44), none⟩, 
    ⟨some 46, .bin .lss (.t 43) (.t 45), none⟩]) (
  .cond (.t 46) (.skip) (.exit 0))) (
  .seq (.block 1 (.drawn [0, 2, 3, 4, 5, 6, 7, 8, 9, 10, 11, 12, 13, 14, 15, 16, 1, 17, 18, 19] [0, 1, 0, 0, 12, 28, 60, 124, 0, 0, 512, 1792, 3840, 7936, 16128, 32764, 65532, 131071, 262143, 524287] [
    ⟨some 49, .faddr 2 (.t 4), none⟩, 
    ⟨some 51, .move false (.t 0), none⟩, 
    ⟨some 52, .move false (.t 5), none⟩, 
    ⟨some 53, .iaddr 1 (.t 51) (.t 52), none⟩, 
    ⟨some 54, .load 0 false 1 (.t 53), none⟩, 
    ⟨some 55, .conv .i64 (.t 54), none⟩, 
    ⟨some 56, .bin .sub (.t 55) (.c (.int .i64 64)), none⟩, 
    ⟨some 57, .move false (.t 0), none⟩, 
    ⟨some 58, .move false (.t 5), none⟩, 
    ⟨some 59, .bin .add (.t 58) (.c (.int .i64 1)), none⟩, 
    ⟨some 60, .iaddr 1 (.t 57) (.t 59), none⟩, 
    ⟨some 61, .load 0 false 1 (.t 60), none⟩, 
    ⟨some 62, .conv .i64 (.t 61), none⟩, 
    ⟨some 63, .bin .sub (.t 62) (.c (.int .i64 64)), none⟩, 
    ⟨some 64, .build [(.int .i64 0), (.int .i64 0)] [(0, 1, (.t 56)), (1, 1, (.t 63))], none⟩, 
    ⟨some 65, .buildS false 2 [(.t 64)], none⟩, 
    ⟨some 50, .loadT (.t 49), none⟩, 
    ⟨some 66, .append 2 16 (.t 50) (.t 65), none⟩, 
    ⟨some 67, .faddr 2 (.t 4), none⟩, 
    ⟨none, .store 1 (.t 67) (.t 66), none⟩])) (
  .region [
    ⟨some 47, .move false (.t 5), none⟩, 
    ⟨some 48, .bin .add (.t 47) (.c (.int .i64 2)), none⟩, 
    ⟨some 5, .move false (.t 48), none⟩])))))) (
  .seq (.seq (.region [
    ⟨some 68, .load 2 true 3 (.t 4), none⟩, 
    ⟨some 69, .call true F.fall_Check [(.t 68)], none⟩, 
    ⟨some 6, .move false (.t 69), none⟩]) (
  .seq (.region [
    ⟨some 70, .move false (.t 6), none⟩, 
    ⟨some 71, .bin .neq (.t 70) (.c (.int .i64 0)), none⟩]) (
  .cond (.t 71) (.seq (.region [
    ⟨some 72, .build [(.int .i64 0), (.int .i64 0), (.lst .nil [])] [], none⟩, 
    ⟨some 73, .move false (.t 6), none⟩, 
    ⟨none, .store 3 (.t 2) (.t 72), none⟩, 
    ⟨some 3, .move false (.t 73), none⟩]) (
  .ret)) (.skip)))) (
  .seq (.region [
    ⟨some 74, .load 2 true 3 (.t 4), none⟩, 
    ⟨none, .store 3 (.t 2) (.t 74), none⟩, 
    ⟨some 3, .move false (.c (.int .i64 0)), none⟩]) (
  .ret)))))))
def R.fall_Read : List ARes := [.c 2 true 3, .t 3]
set_option maxRecDepth 100000 in
theorem K.fall_Read : ckFun Try.prog Try.f125 C.fall_Read R.fall_Read = true := by kernel_rfl
end Go.Proofs.Ytpdajkbfemcdlaa
/- Annotated code of functions, checked against the program. -/
namespace Go.Proofs.Ytpdajkbfemcdlaa
open Go.Ge
/-- gantry/gantref5.MemFault -/
def C.gantref5_MemFault : ACode :=
  .seq (.region [
    ⟨some 1, .bx true (.t 0), none⟩, 
    ⟨some 2, .move false (.c (.int .i64 0)), none⟩]) (
  .seq (.seq (.region [
    ⟨some 4, .faddr 0 (.t 1), none⟩, 
    ⟨some 5, .load 2 false 1 (.t 4), none⟩, 
    ⟨some 6, .bin .lss (.t 5) (.c (.int .i64 0)), none⟩, 
    ⟨some 7, .move false (.t 6), none⟩, 
    ⟨some 8, .faddr 1 (.t 1), (some (7, false))⟩, 
    ⟨some 9, .load 2 false 1 (.t 8), (some (7, false))⟩, 
    ⟨some 10, .bin .lss (.t 9) (.c (.int .i64 0)), (some (7, false))⟩, 
    ⟨some 11, .pick (.t 7) (.c (.bool true)) (.t 10), none⟩, 
    ⟨some 12, .move false (.t 11), none⟩, 
    ⟨some 13, .faddr 2 (.t 1), (some (12, false))⟩, 
    ⟨some 14, .load 2 false 1 (.t 13), (some (12, false))⟩, 
    ⟨some 15, .bin .lss (.t 14) (.c (.int .i64 0)), (some (12, false))⟩, 
    ⟨some 16, .pick (.t 12) (.c (.bool true)) (.t 15), none⟩]) (
  .cond (.t 16) (.seq (.region [
    ⟨some 2, .move false (.c (.int .i64 1)), none⟩]) (
  .ret)) (.skip))) (
  .seq (.seq (.region [
    ⟨some 17, .faddr 3 (.t 1), none⟩, 
    ⟨some 18, .load 2 false 1 (.t 17), none⟩, 
    ⟨some 19, .call true F.gantref5_CellsFault [(.t 18)], none⟩, 
    ⟨some 3, .move false (.t 19), none⟩]) (
  .seq (.region [
    ⟨some 20, .move false (.t 3), none⟩, 
    ⟨some 21, .bin .neq (.t 20) (.c (.int .i64 0)), none⟩]) (
  .cond (.t 21) (.seq (.region [
    ⟨some 22, .move false (.t 3), none⟩, 
    ⟨some 2, .move false (.t 22), none⟩]) (
  .ret)) (.skip)))) (
  .seq (.region [
    ⟨some 23, .faddr 4 (.t 1), none⟩, 
    ⟨some 24, .load 2 false 1 (.t 23), none⟩, 
    ⟨some 25, .call true F.gantref5_CellsFault [(.t 24)], none⟩, 
    ⟨some 2, .move false (.t 25), none⟩]) (
  .ret))))
def R.gantref5_MemFault : List ARes := [.t 2]
set_option maxRecDepth 100000 in
theorem K.gantref5_MemFault : ckFun Try.prog Try.f121 C.gantref5_MemFault R.gantref5_MemFault = true := by kernel_rfl
/-- gantry/gantref5.EventFault -/
def C.gantref5_EventFault : ACode :=
  .seq (.region [
    ⟨some 6, .move false (.c (.int .i64 0)), none⟩]) (
  .seq (.block 0 (.seq (.region [
    ⟨some 8, .move false (.t 0), none⟩, 
    ⟨some 9, .bin .lss (.t 8) (.c (.int .i64 1)), none⟩, 
    ⟨some 10, .move false (.t 9), none⟩, 
    ⟨some 11, .move false (.t 0), (some (10, false))⟩, 
    ⟨some 12, .bin .gtr (.t 11) (.c (.int .i64 6)), (some (10, false))⟩, 
    ⟨some 13, .pick (.t 10) (.c (.bool true)) (.t 12), none⟩, 
    ⟨some 7, .move false (.t 13), none⟩]) (
  .cond (.t 7) (.seq (.region [
    ⟨some 6, .move false (.c (.int .i64 1)), none⟩]) (
  .ret)) (.seq (.seq (.region [
    ⟨some 15, .move false (.t 0), none⟩, 
    ⟨some 16, .bin .eql (.t 15) (.c (.int .i64 1)), none⟩, 
    ⟨some 17, .move false (.t 16), none⟩, 
    ⟨some 18, .move false (.t 1), (some (17, true))⟩, 
    ⟨some 19, .bin .lss (.t 18) (.c (.int .i64 0)), (some (17, true))⟩, 
    ⟨some 20, .move false (.t 19), (some (17, true))⟩, 
    ⟨some 21, .move false (.t 1), (some (20, false))⟩, 
    ⟨some 22, .bin .geq (.t 21) (.c (.int .i64 2147483648)), (some (20, false))⟩, 
    ⟨some 23, .pick (.t 20) (.c (.bool true)) (.t 22), (some (17, true))⟩, 
    ⟨some 24, .pick (.t 17) (.t 23) (.c (.bool false)), none⟩, 
    ⟨some 14, .move false (.t 24), none⟩]) (
  .cond (.t 14) (.skip) (.region [
    ⟨some 25, .move false (.t 0), none⟩, 
    ⟨some 26, .bin .gtr (.t 25) (.c (.int .i64 1)), none⟩, 
    ⟨some 27, .move false (.t 26), none⟩, 
    ⟨some 28, .move false (.t 1), (some (27, true))⟩, 
    ⟨some 29, .bin .neq (.t 28) (.c (.int .i64 0)), (some (27, true))⟩, 
    ⟨some 30, .pick (.t 27) (.t 29) (.c (.bool false)), none⟩, 
    ⟨some 14, .move false (.t 30), none⟩]))) (
  .cond (.t 14) (.seq (.region [
    ⟨some 6, .move false (.c (.int .i64 2)), none⟩]) (
  .ret)) (.seq (.region [
    ⟨some 32, .move false (.t 0), none⟩, 
    ⟨some 33, .bin .neq (.t 32) (.c (.int .i64 3)), none⟩, 
    ⟨some 34, .move false (.t 33), none⟩, 
    ⟨some 35, .move false (.t 0), (some (34, true))⟩, 
    ⟨some 36, .bin .neq (.t 35) (.c (.int .i64 5)), (some (34, true))⟩, 
    ⟨some 37, .pick (.t 34) (.t 36) (.c (.bool false)), none⟩, 
    ⟨some 38, .move false (.t 37), none⟩, 
    ⟨some 39, .move false (.t 2), (some (38, true))⟩, 
    ⟨some 40, .len (.t 39), (some (38, true))⟩, 
    ⟨some 41, .bin .neq (.t 40) (.c (.int .i64 0)), (some (38, true))⟩, 
    ⟨some 42, .pick (.t 38) (.t 41) (.c (.bool false)), none⟩, 
    ⟨some 31, .move false (.t 42), none⟩]) (
  .cond (.t 31) (.seq (.region [
    ⟨some 6, .move false (.c (.int .i64 3)), none⟩]) (
  .ret)) (.skip)))))))) (
  .seq (.region [
    ⟨some 43, .move false (.t 2), none⟩, 
    ⟨some 44, .call true F.gantref5_CellsFault [(.t 43)], none⟩, 
    ⟨some 6, .move false (.t 44), none⟩]) (
  .ret)))
def R.gantref5_EventFault : List ARes := [.t 6]
set_option maxRecDepth 100000 in
theorem K.gantref5_EventFault : ckFun Try.prog Try.f116 C.gantref5_EventFault R.gantref5_EventFault = true := by kernel_rfl
/-- gantry/gantref5.SetOf -/
def C.gantref5_SetOf : ACode :=
  .seq (.region [
    ⟨some 2, .move false (.c .nilmap), none⟩]) (
  .seq (.region [
    ⟨some 6, .hop .mkmap, none⟩, 
    ⟨some 3, .move false (.t 6), none⟩]) (
  .seq (.seq (.region [
    ⟨some 7, .move false (.t 0), none⟩, 
    ⟨some 8, .len (.t 7), none⟩, 
    ⟨some 9, .move false (.c (.int .i64 0)), none⟩]) (
  .block 0 (.loop (.seq (.region [
    ⟨some 10, .bin .lss (.t 9) (.t 8), none⟩]) (
  .seq (.cond (.t 10) (.skip) (.exit 0)) (
  .seq (.block 1 (.seq (.region [
    ⟨some 11, .iaddr 2 (.t 7) (.t 9), none⟩, 
    ⟨some 12, .load 2 true 2 (.t 11), none⟩, 
    ⟨some 5, .alloc false [(.int .i64 0), (.int .i64 0)], none⟩, 
    ⟨none, .store 2 (.t 5) (.t 12), none⟩]) (
  .region [
    ⟨some 13, .move false (.t 3), none⟩, 
    ⟨some 14, .load 2 true 2 (.t 5), none⟩, 
    ⟨none, .hop (.mapset true [.i .i64, .i .i64] (.t 13) (.t 14) (.c (.bool true))), none⟩]))) (
  .region [
    ⟨some 15, .bin .add (.t 9) (.c (.int .i64 1)), none⟩, 
    ⟨some 9, .move false (.t 15), none⟩]))))))) (
  .seq (.region [
    ⟨some 16, .move false (.t 3), none⟩, 
    ⟨some 2, .move false (.t 16), none⟩]) (
  .ret))))
def R.gantref5_SetOf : List ARes := [.t 2]
set_option maxRecDepth 100000 in
theorem K.gantref5_SetOf : ckFun Try.prog Try.f107 C.gantref5_SetOf R.gantref5_SetOf = true := by kernel_rfl
/-- (gantry/gantref5.Set).List -/
def C.gantref5_Set_List : ACode :=
  .seq (.region [
    ⟨some 2, .move false (.c (.lst .nil [])), none⟩]) (
  .seq (.region [
    ⟨some 3, .move false (.c (.lst .nil [])), none⟩]) (
  .seq (.seq (.region [
    ⟨some 4, .move false (.c (.int .i64 (-64))), none⟩]) (
  .block 0 (.loop (.seq (.seq (.region [
    ⟨some 6, .move false (.t 4), none⟩, 
    ⟨some 7, .bin .lss (.t 6) (.c (.int .i64 64)), none⟩]) (
  .cond (.t 7) (.skip) (.exit 0))) (
  .seq (.block 1 (.seq (.region [
    ⟨some 5, .move false (.c (.int .i64 (-64))), none⟩]) (
  .block 2 (.loop (.seq (.seq (.region [
    ⟨some 10, .move false (.t 5), none⟩, 
    ⟨some 11, .bin .lss (.t 10) (.c (.int .i64 64)), none⟩]) (
  .cond (.t 11) (.skip) (.exit 2))) (
  .seq (.block 3 (.seq (.region [
    ⟨some 14, .move false (.t 0), none⟩, 
    ⟨some 15, .move false (.t 5), none⟩, 
    ⟨some 16, .move false (.t 4), none⟩, 
    ⟨some 17, .build [(.int .i64 0), (.int .i64 0)] [(0, 1, (.t 15)), (1, 1, (.t 16))], none⟩, 
    ⟨some 18, .mlook false true [.i .i64, .i .i64] (.bool false) (.t 14) (.t 17), none⟩]) (
  .cond (.t 18) (.region [
    ⟨some 19, .move true (.t 3), none⟩, 
    ⟨some 20, .move false (.t 5), none⟩, 
    ⟨some 21, .move false (.t 4), none⟩, 
    ⟨some 22, .build [(.int .i64 0), (.int .i64 0)] [(0, 1, (.t 20)), (1, 1, (.t 21))], none⟩, 
    ⟨some 23, .buildS false 2 [(.t 22)], none⟩, 
    ⟨some 24, .append 2 16 (.t 19) (.t 23), none⟩, 
    ⟨some 3, .move true (.t 24), none⟩]) (.skip)))) (
  .region [
    ⟨some 12, .move false (.t 5), none⟩, 
    ⟨some 13, .bin .add (.t 12) (.c (.int .i64 1)), none⟩, 
    ⟨some 5, .move false (.t 13), none⟩]))))))) (
  .region [
    ⟨some 8, .move false (.t 4), none⟩, 
    ⟨some 9, .bin .add (.t 8) (.c (.int .i64 1)), none⟩, 
    ⟨some 4, .move false (.t 9), none⟩])))))) (
  .seq (.region [
    ⟨some 25, .move true (.t 3), none⟩, 
    ⟨some 2, .move true (.t 25), none⟩]) (
  .ret))))
def R.gantref5_Set_List : List ARes := [.t 2]
set_option maxRecDepth 100000 in
theorem K.gantref5_Set_List : ckFun Try.prog Try.f141 C.gantref5_Set_List R.gantref5_Set_List = true := by kernel_rfl
/-- gantry/gantref5.Happens -/
def C.gantref5_Happens : ACode :=
  .seq (.region [
    ⟨some 4, .bx true (.t 0), none⟩, 
    ⟨some 8, .alloc false [(.int .i64 0), (.int .i64 0), (.int .i64 0), (.lst .nil []), (.lst .nil [])], none⟩, 
    ⟨some 9, .move false (.c (.int .i64 0)), none⟩]) (
  .seq (.seq (.region [
    ⟨some 18, .load 2 true 5 (.t 4), none⟩, 
    ⟨some 19, .call true F.gantref5_MemFault [(.t 18)], none⟩, 
    ⟨some 10, .move false (.t 19), none⟩]) (
  .seq (.region [
    ⟨some 20, .move false (.t 10), none⟩, 
    ⟨some 21, .bin .neq (.t 20) (.c (.int .i64 0)), none⟩]) (
  .cond (.t 21) (.seq (.region [
    ⟨some 22, .build [(.int .i64 0), (.int .i64 0), (.int .i64 0), (.lst .nil []), (.lst .nil [])] [], none⟩, 
    ⟨some 23, .move false (.t 10), none⟩, 
    ⟨none, .store 5 (.t 8) (.t 22), none⟩, 
    ⟨some 9, .move false (.t 23), none⟩]) (
  .ret)) (.skip)))) (
  .seq (.region [
    ⟨some 24, .faddr 4 (.t 4), none⟩, 
    ⟨some 25, .load 2 false 1 (.t 24), none⟩, 
    ⟨some 26, .call true F.gantref5_SetOf [(.t 25)], none⟩, 
    ⟨some 11, .move false (.t 26), none⟩]) (
  .seq (.seq (.region [
    ⟨some 27, .move false (.t 1), none⟩]) (
  .block 0 (.seq (.region [
    ⟨some 29, .bin .eql (.t 27) (.c (.int .i64 1)), none⟩, 
    ⟨some 28, .move false (.t 29), none⟩]) (
  .cond (.t 28) (.region [
    ⟨some 30, .move false (.t 2), none⟩, 
    ⟨some 31, .faddr 0 (.t 4), none⟩, 
    ⟨none, .store 1 (.t 31) (.t 30), none⟩, 
    ⟨some 32, .faddr 1 (.t 4), none⟩, 
    ⟨none, .store 1 (.t 32) (.c (.int .i64 0)), none⟩]) (.seq (.region [
    ⟨some 34, .bin .eql (.t 27) (.c (.int .i64 2)), none⟩, 
    ⟨some 33, .move false (.t 34), none⟩]) (
  .cond (.t 33) (.seq (.seq (.region [
    ⟨some 35, .faddr 1 (.t 4), none⟩, 
    ⟨some 36, .load 2 false 1 (.t 35), none⟩, 
    ⟨some 37, .bin .gtr (.t 36) (.c (.int .i64 1999)), none⟩]) (
  .cond (.t 37) (.seq (.region [
    ⟨some 38, .build [(.int .i64 0), (.int .i64 0), (.int .i64 0), (.lst .nil []), (.lst .nil [])] [], none⟩, 
    ⟨none, .store 5 (.t 8) (.t 38), none⟩, 
    ⟨some 9, .move false (.c (.int .i64 19)), none⟩]) (
  .ret)) (.skip))) (
  .region [
    ⟨some 39, .faddr 1 (.t 4), none⟩, 
    ⟨some 40, .load 2 false 1 (.t 39), none⟩, 
    ⟨some 41, .bin .add (.t 40) (.c (.int .i64 1)), none⟩, 
    ⟨some 42, .faddr 1 (.t 4), none⟩, 
    ⟨none, .store 1 (.t 42) (.t 41), none⟩])) (.seq (.region [
    ⟨some 44, .bin .eql (.t 27) (.c (.int .i64 3)), none⟩, 
    ⟨some 43, .move false (.t 44), none⟩]) (
  .cond (.t 43) (.seq (.seq (.region [
    ⟨some 45, .faddr 3 (.t 4), none⟩, 
    ⟨some 46, .load 2 false 1 (.t 45), none⟩, 
    ⟨some 47, .len (.t 46), none⟩, 
    ⟨some 48, .bin .neq (.t 47) (.c (.int .i64 0)), none⟩]) (
  .cond (.t 48) (.seq (.region [
    ⟨some 49, .build [(.int .i64 0), (.int .i64 0), (.int .i64 0), (.lst .nil []), (.lst .nil [])] [], none⟩, 
    ⟨none, .store 5 (.t 8) (.t 49), none⟩, 
    ⟨some 9, .move false (.c (.int .i64 7)), none⟩]) (
  .ret)) (.skip))) (
  .seq (.region [
    ⟨some 50, .move false (.t 3), none⟩, 
    ⟨some 51, .call true F.gantref5_SetOf [(.t 50)], none⟩, 
    ⟨some 12, .move false (.t 51), none⟩]) (
  .seq (.seq (.region [
    ⟨some 52, .move false (.t 11), none⟩, 
    ⟨some 53, .hop (.mrange (.t 52)), none⟩]) (
  .block 1 (.loop (.seq (.region [
    ⟨some 54, .hop (.mnext (.t 53)), none⟩, 
    ⟨some 55, .ext 0 (.t 54), none⟩]) (
  .seq (.cond (.t 55) (.skip) (.exit 1)) (
  .block 2 (.seq (.region [
    ⟨some 56, .hop (.mentry (.t 53)), none⟩, 
    ⟨some 57, .extT 0 56, none⟩, 
    ⟨some 13, .alloc false [(.int .i64 0), (.int .i64 0)], none⟩, 
    ⟨none, .store 2 (.t 13) (.t 57), none⟩]) (
  .region [
    ⟨some 58, .move false (.t 12), none⟩, 
    ⟨some 59, .load 2 true 2 (.t 13), none⟩, 
    ⟨none, .hop (.mapdel true [.i .i64, .i .i64] (.t 58) (.t 59)), none⟩])))))))) (
  .region [
    ⟨some 60, .move false (.t 12), none⟩, 
    ⟨some 61, .call true F.gantref5_Set_List [(.t 60)], none⟩, 
    ⟨some 62, .faddr 3 (.t 4), none⟩, 
    ⟨none, .store 1 (.t 62) (.t 61), none⟩])))) (.seq (.region [
    ⟨some 64, .bin .eql (.t 27) (.c (.int .i64 4)), none⟩, 
    ⟨some 63, .move false (.t 64), none⟩]) (
  .cond (.t 63) (.seq (.seq (.region [
    ⟨some 65, .faddr 3 (.t 4), none⟩, 
    ⟨some 66, .load 2 false 1 (.t 65), none⟩, 
    ⟨some 67, .len (.t 66), none⟩, 
    ⟨some 68, .move false (.c (.int .i64 0)), none⟩]) (
  .block 3 (.loop (.seq (.region [
    ⟨some 69, .bin .lss (.t 68) (.t 67), none⟩]) (
  .seq (.cond (.t 69) (.skip) (.exit 3)) (
  .seq (.block 4 (.seq (.region [
    ⟨some 70, .iaddr 2 (.t 66) (.t 68), none⟩, 
    ⟨some 71, .load 2 true 2 (.t 70), none⟩, 
    ⟨some 15, .alloc false [(.int .i64 0), (.int .i64 0)], none⟩, 
    ⟨none, .store 2 (.t 15) (.t 71), none⟩]) (
  .region [
    ⟨some 72, .move false (.t 11), none⟩, 
    ⟨some 73, .load 2 true 2 (.t 15), none⟩, 
    ⟨none, .hop (.mapset true [.i .i64, .i .i64] (.t 72) (.t 73) (.c (.bool true))), none⟩]))) (
  .region [
    ⟨some 74, .bin .add (.t 68) (.c (.int .i64 1)), none⟩, 
    ⟨some 68, .move false (.t 74), none⟩]))))))) (
  .seq (.seq (.region [
    ⟨some 75, .move false (.t 11), none⟩, 
    ⟨some 76, .mlen (.t 75), none⟩, 
    ⟨some 77, .bin .gtr (.t 76) (.c (.int .i64 400)), none⟩]) (
  .cond (.t 77) (.seq (.region [
    ⟨some 78, .build [(.int .i64 0), (.int .i64 0), (.int .i64 0), (.lst .nil []), (.lst .nil [])] [], none⟩, 
    ⟨none, .store 5 (.t 8) (.t 78), none⟩, 
    ⟨some 9, .move false (.c (.int .i64 6)), none⟩]) (
  .ret)) (.skip))) (
  .region [
    ⟨some 79, .move false (.t 11), none⟩, 
    ⟨some 80, .call true F.gantref5_Set_List [(.t 79)], none⟩, 
    ⟨some 81, .faddr 4 (.t 4), none⟩, 
    ⟨none, .store 1 (.t 81) (.t 80), none⟩, 
    ⟨some 82, .faddr 3 (.t 4), none⟩, 
    ⟨none, .store 1 (.t 82) (.c (.lst .nil [])), none⟩]))) (.seq (.region [
    ⟨some 84, .bin .eql (.t 27) (.c (.int .i64 5)), none⟩, 
    ⟨some 83, .move false (.t 84), none⟩]) (
  .cond (.t 83) (.seq (.seq (.region [
    ⟨some 85, .move false (.t 3), none⟩, 
    ⟨some 86, .len (.t 85), none⟩, 
    ⟨some 87, .move false (.c (.int .i64 0)), none⟩]) (
  .block 5 (.loop (.seq (.region [
    ⟨some 88, .bin .lss (.t 87) (.t 86), none⟩]) (
  .seq (.cond (.t 88) (.skip) (.exit 5)) (
  .seq (.block 6 (.seq (.region [
    ⟨some 89, .iaddr 2 (.t 85) (.t 87), none⟩, 
    ⟨some 90, .load 2 true 2 (.t 89), none⟩, 
    ⟨some 17, .alloc false [(.int .i64 0), (.int .i64 0)], none⟩, 
    ⟨none, .store 2 (.t 17) (.t 90), none⟩]) (
  .seq (.seq (.region [
    ⟨some 91, .move false (.t 11), none⟩, 
    ⟨some 92, .load 2 true 2 (.t 17), none⟩, 
    ⟨some 93, .mlook false true [.i .i64, .i .i64] (.bool false) (.t 91) (.t 92), none⟩, 
    ⟨some 94, .un .not (.t 93), none⟩]) (
  .cond (.t 94) (.seq (.region [
    ⟨some 95, .build [(.int .i64 0), (.int .i64 0), (.int .i64 0), (.lst .nil []), (.lst .nil [])] [], none⟩, 
    ⟨none, .store 5 (.t 8) (.t 95), none⟩, 
    ⟨some 9, .move false (.c (.int .i64 4)), none⟩]) (
  .ret)) (.skip))) (
  .region [
    ⟨some 96, .move false (.t 11), none⟩, 
    ⟨some 97, .load 2 true 2 (.t 17), none⟩, 
    ⟨none, .hop (.mapdel true [.i .i64, .i .i64] (.t 96) (.t 97)), none⟩])))) (
  .region [
    ⟨some 98, .bin .add (.t 87) (.c (.int .i64 1)), none⟩, 
    ⟨some 87, .move false (.t 98), none⟩]))))))) (
  .region [
    ⟨some 99, .move false (.t 11), none⟩, 
    ⟨some 100, .call true F.gantref5_Set_List [(.t 99)], none⟩, 
    ⟨some 101, .faddr 4 (.t 4), none⟩, 
    ⟨none, .store 1 (.t 101) (.t 100), none⟩])) (.seq (.region [
    ⟨some 103, .bin .eql (.t 27) (.c (.int .i64 6)), none⟩, 
    ⟨some 102, .move false (.t 103), none⟩]) (
  .cond (.t 102) (.region [
    ⟨some 104, .faddr 2 (.t 4), none⟩, 
    ⟨some 105, .load 2 false 1 (.t 104), none⟩, 
    ⟨some 106, .bin .add (.t 105) (.c (.int .i64 1)), none⟩, 
    ⟨some 107, .faddr 2 (.t 4), none⟩, 
    ⟨none, .store 1 (.t 107) (.t 106), none⟩]) (.skip))))))))))))))) (
  .seq (.region [
    ⟨some 108, .load 2 true 5 (.t 4), none⟩, 
    ⟨none, .store 5 (.t 8) (.t 108), none⟩, 
    ⟨some 9, .move false (.c (.int .i64 0)), none⟩]) (
  .ret)))))
def R.gantref5_Happens : List ARes := [.c 8 true 5, .t 9]
set_option maxRecDepth 100000 in
theorem K.gantref5_Happens : ckFun Try.prog Try.f122 C.gantref5_Happens R.gantref5_Happens = true := by kernel_rfl
/-- gantry/gantref5.EventBytes -/
def C.gantref5_EventBytes : ACode :=
  .seq (.region [
    ⟨some 6, .move false (.c (.lst .nil [])), none⟩]) (
  .seq (.region [
    ⟨some 10, .move false (.t 0), none⟩, 
    ⟨some 11, .conv .u8 (.t 10), none⟩, 
    ⟨some 12, .buildS false 1 [(.t 11)], none⟩, 
    ⟨some 13, .move false (.t 1), none⟩, 
    ⟨some 14, .conv .u64 (.t 13), none⟩, 
    ⟨some 15, .call true F.gantref5_Bytes [(.t 14), (.c (.int .i64 4))], none⟩, 
    ⟨some 16, .append 1 1 (.t 12) (.t 15), none⟩, 
    ⟨some 7, .move true (.t 16), none⟩]) (
  .seq (.seq (.region [
    ⟨some 17, .move false (.t 2), none⟩, 
    ⟨some 18, .len (.t 17), none⟩, 
    ⟨some 19, .move false (.c (.int .i64 0)), none⟩]) (
  .block 0 (.loop (.seq (.region [
    ⟨some 20, .bin .lss (.t 19) (.t 18), none⟩]) (
  .seq (.cond (.t 20) (.skip) (.exit 0)) (
  .seq (.block 1 (.seq (.region [
    ⟨some 21, .iaddr 2 (.t 17) (.t 19), none⟩, 
    ⟨some 22, .load 2 true 2 (.t 21), none⟩, 
    ⟨some 9, .alloc false [(.int .i64 0), (.int .i64 0)], none⟩, 
    ⟨none, .store 2 (.t 9) (.t 22), none⟩]) (
  .region [
    ⟨some 23, .move true (.t 7), none⟩, 
    ⟨some 24, .faddr 0 (.t 9), none⟩, 
    ⟨some 25, .load 2 false 1 (.t 24), none⟩, 
    ⟨some 26, .bin .add (.t 25) (.c (.int .i64 64)), none⟩, 
    ⟨some 27, .conv .u8 (.t 26), none⟩, 
    ⟨some 28, .faddr 1 (.t 9), none⟩, 
    ⟨some 29, .load 2 false 1 (.t 28), none⟩, 
    ⟨some 30, .bin .add (.t 29) (.c (.int .i64 64)), none⟩, 
    ⟨some 31, .conv .u8 (.t 30), none⟩, 
    ⟨some 32, .buildS false 1 [(.t 27), (.t 31)], none⟩, 
    ⟨some 33, .append 1 1 (.t 23) (.t 32), none⟩, 
    ⟨some 7, .move true (.t 33), none⟩]))) (
  .region [
    ⟨some 34, .bin .add (.t 19) (.c (.int .i64 1)), none⟩, 
    ⟨some 19, .move false (.t 34), none⟩]))))))) (
  .seq (.region [
    ⟨some 35, .move true (.t 7), none⟩, 
    ⟨some 6, .move true (.t 35), none⟩]) (
  .ret))))
def R.gantref5_EventBytes : List ARes := [.t 6]
set_option maxRecDepth 100000 in
theorem K.gantref5_EventBytes : ckFun Try.prog Try.f119 C.gantref5_EventBytes R.gantref5_EventBytes = true := by kernel_rfl
/-- gantry/gantref5.EventOf -/
def C.gantref5_EventOf : ACode :=
  .seq (.region [
    ⟨some 2, .move false (.c (.int .i64 0)), none⟩, 
    ⟨some 3, .move false (.c (.int .i64 0)), none⟩, 
    ⟨some 4, .move false (.c (.lst .nil [])), none⟩, 
    ⟨some 5, .move false (.c (.int .i64 0)), none⟩]) (
  .seq (.seq (.region [
    ⟨some 7, .move false (.t 0), none⟩, 
    ⟨some 8, .len (.t 7), none⟩, 
    ⟨some 9, .bin .lss (.t 8) (.c (.int .i64 5)), none⟩]) (
  .cond (.t 9) (.seq (.region [
    ⟨some 2, .move false (.c (.int .i64 0)), none⟩, 
    ⟨some 3, .move false (.c (.int .i64 0)), none⟩, 
    ⟨some 4, .move false (.c (.lst .nil [])), none⟩, 
    ⟨some 5, .move false (.c (.int .i64 14)), none⟩]) (
  .ret)) (.skip))) (
  .seq (.seq (.region [
    ⟨some 10, .move false (.t 0), none⟩, 
    ⟨some 11, .len (.t 10), none⟩, 
    ⟨some 12, .bin .rem (.t 11) (.c (.int .i64 2)), none⟩, 
    ⟨some 13, .bin .neq (.t 12) (.c (.int .i64 1)), none⟩]) (
  .cond (.t 13) (.seq (.region [
    ⟨some 2, .move false (.c (.int .i64 0)), none⟩, 
    ⟨some 3, .move false (.c (.int .i64 0)), none⟩, 
    ⟨some 4, .move false (.c (.lst .nil [])), none⟩, 
    ⟨some 5, .move false (.c (.int .i64 3)), none⟩]) (
  .ret)) (.skip))) (
  .seq (.seq (.region [
    ⟨some 14, .move false (.t 0), none⟩, 
    ⟨some 15, .slice 1 (.t 14) (some (.c (.int .i64 5))) none none, none⟩, 
    ⟨some 6, .move false (.t 15), none⟩]) (
  .block 0 (.loop (.seq (.seq (.region [
    ⟨some 16, .move false (.t 6), none⟩, 
    ⟨some 17, .len (.t 16), none⟩, 
    ⟨some 18, .bin .gtr (.t 17) (.c (.int .i64 1)), none⟩]) (
  .cond (.t 18) (.skip) (.exit 0))) (
  .seq (.block 1 (.drawn [1, 2, 3, 4, 5, 6, 7, 8, 9, 10, 11, 12, 0, 13, 14] [0, 0, 2, 6, 14, 30, 0, 64, 192, 448, 960, 2046, 4094, 8191, 16383] [
    ⟨some 22, .move false (.t 6), none⟩, 
    ⟨some 23, .iaddr 1 (.t 22) (.c (.int .i64 0)), none⟩, 
    ⟨some 24, .load 0 false 1 (.t 23), none⟩, 
    ⟨some 25, .conv .i64 (.t 24), none⟩, 
    ⟨some 26, .bin .sub (.t 25) (.c (.int .i64 64)), none⟩, 
    ⟨some 27, .move false (.t 6), none⟩, 
    ⟨some 28, .iaddr 1 (.t 27) (.c (.int .i64 1)), none⟩, 
    ⟨some 29, .load 0 false 1 (.t 28), none⟩, 
    ⟨some 30, .conv .i64 (.t 29), none⟩, 
    ⟨some 31, .bin .sub (.t 30) (.c (.int .i64 64)), none⟩, 
    ⟨some 32, .build [(.int .i64 0), (.int .i64 0)] [(0, 1, (.t 26)), (1, 1, (.t 31))], none⟩, 
    ⟨some 33, .buildS false 2 [(.t 32)], none⟩, 
    ⟨some 21, .move true (.t 4), none⟩, 
    ⟨some 34, .append 2 16 (.t 21) (.t 33), none⟩, 
    ⟨some 4, .move true (.t 34), none⟩])) (
  .region [
    ⟨some 19, .move false (.t 6), none⟩, 
    ⟨some 20, .slice 1 (.t 19) (some (.c (.int .i64 2))) none none, none⟩, 
    ⟨some 6, .move false (.t 20), none⟩])))))) (
  .seq (.drawn [0, 1, 2, 3, 4, 5, 7, 6, 8, 9, 10, 11] [0, 1, 3, 7, 0, 16, 48, 0, 127, 383, 1023, 2047] [
    ⟨some 35, .move false (.t 0), none⟩, 
    ⟨some 36, .iaddr 1 (.t 35) (.c (.int .i64 0)), none⟩, 
    ⟨some 37, .load 0 false 1 (.t 36), none⟩, 
    ⟨some 38, .conv .i64 (.t 37), none⟩, 
    ⟨some 39, .move false (.t 0), none⟩, 
    ⟨some 40, .slice 1 (.t 39) (some (.c (.int .i64 1))) (some (.c (.int .i64 5))) none, none⟩, 
    ⟨some 42, .move false (.t 4), none⟩, 
    ⟨some 41, .hop (.callp F.gantref5_Value [(.t 40)]), none⟩, 
    ⟨some 2, .move false (.t 38), none⟩, 
    ⟨some 3, .move false (.t 41), none⟩, 
    ⟨some 4, .move true (.t 42), none⟩, 
    ⟨some 5, .move false (.c (.int .i64 0)), none⟩]) (
  .ret)))))
def R.gantref5_EventOf : List ARes := [.t 2, .t 3, .t 4, .t 5]
set_option maxRecDepth 100000 in
theorem K.gantref5_EventOf : ckFun Try.prog Try.f124 C.gantref5_EventOf R.gantref5_EventOf = true := by kernel_rfl
end Go.Proofs.Ytpdajkbfemcdlaa
/- Annotated code of functions, checked against the program. -/
namespace Go.Proofs.Ytpdajkbfemcdlaa
open Go.Ge
/-- gantry/gantlaw5.FallTells -/
def C.gantlaw5_FallTells : ACode :=
  .seq (.region [
    ⟨some 3, .bx true (.t 0), none⟩, 
    ⟨some 4, .bx true (.t 1), none⟩, 
    ⟨some 6, .move false (.c (.bool false)), none⟩]) (
  .seq (.seq (.region [
    ⟨some 23, .build [(.int .i64 0), (.int .i64 0), (.lst .nil []), (.lst .nil []), (.int .i64 0)] [], none⟩, 
    ⟨some 24, .build [(.int .i64 0), (.int .i64 0), (.lst .nil [])] [(0, 1, (.c (.int .i64 1))), (1, 1, (.c (.int .i64 7)))], none⟩, 
    ⟨some 25, .call true F.fall_Do [(.t 23), (.t 24)], none⟩, 
    ⟨some 22, .moveX 25, none⟩, 
    ⟨some 26, .extT 0 22, none⟩, 
    ⟨some 27, .ext 1 (.t 22), none⟩, 
    ⟨some 7, .alloc false [(.int .i64 0), (.int .i64 0), (.lst .nil []), (.lst .nil []), (.int .i64 0)], none⟩, 
    ⟨none, .store 5 (.t 7) (.t 26), none⟩, 
    ⟨some 8, .move false (.t 27), none⟩]) (
  .seq (.region [
    ⟨some 28, .move false (.t 8), none⟩, 
    ⟨some 29, .bin .neq (.t 28) (.c (.int .i64 0)), none⟩, 
    ⟨some 30, .move false (.t 29), none⟩, 
    ⟨some 31, .faddr 0 (.t 7), (some (30, false))⟩, 
    ⟨some 32, .load 2 false 1 (.t 31), (some (30, false))⟩, 
    ⟨some 33, .bin .neq (.t 32) (.c (.int .i64 7)), (some (30, false))⟩, 
    ⟨some 34, .pick (.t 30) (.c (.bool true)) (.t 33), none⟩]) (
  .cond (.t 34) (.seq (.region [
    ⟨some 6, .move false (.c (.bool false)), none⟩]) (
  .ret)) (.skip)))) (
  .seq (.region [
    ⟨some 35, .faddr 0 (.t 4), none⟩, 
    ⟨some 36, .load 2 false 1 (.t 35), none⟩, 
    ⟨some 37, .faddr 1 (.t 4), none⟩, 
    ⟨some 38, .load 2 false 1 (.t 37), none⟩, 
    ⟨some 39, .faddr 2 (.t 4), none⟩, 
    ⟨some 40, .load 2 false 1 (.t 39), none⟩, 
    ⟨some 41, .call true F.gantref5_EventFault [(.t 36), (.t 38), (.t 40)], none⟩, 
    ⟨some 9, .move false (.t 41), none⟩]) (
  .seq (.seq (.region [
    ⟨some 42, .load 2 true 3 (.t 4), none⟩, 
    ⟨some 43, .call true F.fall_Check [(.t 42)], none⟩, 
    ⟨some 44, .move false (.t 9), none⟩, 
    ⟨some 45, .bin .neq (.t 43) (.t 44), none⟩]) (
  .cond (.t 45) (.seq (.region [
    ⟨some 6, .move false (.c (.bool false)), none⟩]) (
  .ret)) (.skip))) (
  .seq (.region [
    ⟨some 47, .load 2 true 5 (.t 3), none⟩, 
    ⟨some 48, .load 2 true 3 (.t 4), none⟩, 
    ⟨some 49, .call true F.fall_Do [(.t 47), (.t 48)], none⟩, 
    ⟨some 46, .moveX 49, none⟩, 
    ⟨some 50, .extT 0 46, none⟩, 
    ⟨some 51, .ext 1 (.t 46), none⟩, 
    ⟨some 10, .alloc false [(.int .i64 0), (.int .i64 0), (.lst .nil []), (.lst .nil []), (.int .i64 0)], none⟩, 
    ⟨none, .store 5 (.t 10) (.t 50), none⟩, 
    ⟨some 11, .move false (.t 51), none⟩]) (
  .seq (.region [
    ⟨some 53, .load 2 true 3 (.t 4), none⟩, 
    ⟨some 54, .call true F.fall_Write [(.t 53)], none⟩, 
    ⟨some 52, .move false (.t 54), none⟩, 
    ⟨some 55, .ext 0 (.t 52), none⟩, 
    ⟨some 56, .ext 1 (.t 52), none⟩, 
    ⟨some 12, .move false (.t 55), none⟩, 
    ⟨some 13, .move false (.t 56), none⟩]) (
  .seq (.seq (.region [
    ⟨some 57, .move false (.t 9), none⟩, 
    ⟨some 58, .bin .neq (.t 57) (.c (.int .i64 0)), none⟩]) (
  .cond (.t 58) (.seq (.region [
    ⟨some 59, .move false (.t 11), none⟩, 
    ⟨some 60, .move false (.t 9), none⟩, 
    ⟨some 61, .bin .eql (.t 59) (.t 60), none⟩, 
    ⟨some 62, .move false (.t 61), none⟩, 
    ⟨some 63, .load 2 true 5 (.t 10), (some (62, true))⟩, 
    ⟨some 64, .build [(.int .i64 0), (.int .i64 0), (.lst .nil []), (.lst .nil []), (.int .i64 0)] [], (some (62, true))⟩, 
    ⟨some 65, .call true F.fall_Same [(.t 63), (.t 64)], (some (62, true))⟩, 
    ⟨some 66, .pick (.t 62) (.t 65) (.c (.bool false)), none⟩, 
    ⟨some 67, .move false (.t 66), none⟩, 
    ⟨some 68, .move false (.t 13), (some (67, true))⟩, 
    ⟨some 69, .move false (.t 9), (some (67, true))⟩, 
    ⟨some 70, .bin .eql (.t 68) (.t 69), (some (67, true))⟩, 
    ⟨some 71, .pick (.t 67) (.t 70) (.c (.bool false)), none⟩, 
    ⟨some 72, .move false (.t 71), none⟩, 
    ⟨some 73, .move false (.t 12), (some (72, true))⟩, 
    ⟨some 74, .len (.t 73), (some (72, true))⟩, 
    ⟨some 75, .bin .eql (.t 74) (.c (.int .i64 0)), (some (72, true))⟩, 
    ⟨some 76, .pick (.t 72) (.t 75) (.c (.bool false)), none⟩, 
    ⟨some 6, .move false (.t 76), none⟩]) (
  .ret)) (.skip))) (
  .seq (.seq (.region [
    ⟨some 77, .move false (.t 13), none⟩, 
    ⟨some 78, .bin .neq (.t 77) (.c (.int .i64 0)), none⟩, 
    ⟨some 79, .move false (.t 78), none⟩, 
    ⟨some 80, .move false (.t 12), (some (79, false))⟩, 
    ⟨some 81, .faddr 0 (.t 4), (some (79, false))⟩, 
    ⟨some 82, .load 2 false 1 (.t 81), (some (79, false))⟩, 
    ⟨some 83, .faddr 1 (.t 4), (some (79, false))⟩, 
    ⟨some 84, .load 2 false 1 (.t 83), (some (79, false))⟩, 
    ⟨some 85, .faddr 2 (.t 4), (some (79, false))⟩, 
    ⟨some 86, .load 2 false 1 (.t 85), (some (79, false))⟩, 
    ⟨some 87, .call true F.gantref5_EventBytes [(.t 82), (.t 84), (.t 86)], (some (79, false))⟩, 
    ⟨some 88, .call true F.slices_Equal_byte [(.t 80), (.t 87)], (some (79, false))⟩, 
    ⟨some 89, .un .not (.t 88), (some (79, false))⟩, 
    ⟨some 90, .pick (.t 79) (.c (.bool true)) (.t 89), none⟩]) (
  .cond (.t 90) (.seq (.region [
    ⟨some 6, .move false (.c (.bool false)), none⟩]) (
  .ret)) (.skip))) (
  .seq (.seq (.drawn [0, 2, 3, 4, 5, 6, 7, 8, 9, 10, 11, 12, 1, 13, 14] [0, 1, 0, 4, 0, 16, 0, 64, 0, 256, 0, 1024, 4092, 8191, 16383] [
    ⟨some 91, .load 1 true 5 (.t 3), none⟩, 
    ⟨some 93, .faddr 0 (.t 3), none⟩, 
    ⟨some 94, .load 1 false 1 (.t 93), none⟩, 
    ⟨some 95, .faddr 1 (.t 3), none⟩, 
    ⟨some 96, .load 1 false 1 (.t 95), none⟩, 
    ⟨some 97, .faddr 4 (.t 3), none⟩, 
    ⟨some 98, .load 1 false 1 (.t 97), none⟩, 
    ⟨some 99, .faddr 2 (.t 3), none⟩, 
    ⟨some 100, .load 1 false 1 (.t 99), none⟩, 
    ⟨some 101, .faddr 3 (.t 3), none⟩, 
    ⟨some 102, .load 1 false 1 (.t 101), none⟩, 
    ⟨some 103, .build [(.int .i64 0), (.int .i64 0), (.int .i64 0), (.lst .nil []), (.lst .nil [])] [(0, 1, (.t 94)), (1, 1, (.t 96)), (2, 1, (.t 98)), (3, 1, (.t 100)), (4, 1, (.t 102))], none⟩, 
    ⟨some 92, .call false F.fall_Right [(.t 91)], none⟩, 
    ⟨some 104, .call false F.gantref5_MemFault [(.t 103)], none⟩, 
    ⟨some 105, .bin .neq (.t 92) (.t 104), none⟩]) (
  .cond (.t 105) (.seq (.region [
    ⟨some 6, .move false (.c (.bool false)), none⟩]) (
  .ret)) (.skip))) (
  .seq (.region [
    ⟨some 107, .faddr 0 (.t 3), none⟩, 
    ⟨some 108, .load 2 false 1 (.t 107), none⟩, 
    ⟨some 109, .faddr 1 (.t 3), none⟩, 
    ⟨some 110, .load 2 false 1 (.t 109), none⟩, 
    ⟨some 111, .faddr 4 (.t 3), none⟩, 
    ⟨some 112, .load 2 false 1 (.t 111), none⟩, 
    ⟨some 113, .faddr 2 (.t 3), none⟩, 
    ⟨some 114, .load 2 false 1 (.t 113), none⟩, 
    ⟨some 115, .faddr 3 (.t 3), none⟩, 
    ⟨some 116, .load 2 false 1 (.t 115), none⟩, 
    ⟨some 117, .build [(.int .i64 0), (.int .i64 0), (.int .i64 0), (.lst .nil []), (.lst .nil [])] [(0, 1, (.t 108)), (1, 1, (.t 110)), (2, 1, (.t 112)), (3, 1, (.t 114)), (4, 1, (.t 116))], none⟩, 
    ⟨some 118, .faddr 0 (.t 4), none⟩, 
    ⟨some 119, .load 2 false 1 (.t 118), none⟩, 
    ⟨some 120, .faddr 1 (.t 4), none⟩, 
    ⟨some 121, .load 2 false 1 (.t 120), none⟩, 
    ⟨some 122, .faddr 2 (.t 4), none⟩, 
    ⟨some 123, .load 2 false 1 (.t 122), none⟩, 
    ⟨some 124, .call true F.gantref5_Happens [(.t 117), (.t 119), (.t 121), (.t 123)], none⟩, 
    ⟨some 106, .moveX 124, none⟩, 
    ⟨some 125, .extT 0 106, none⟩, 
    ⟨some 126, .ext 1 (.t 106), none⟩, 
    ⟨some 14, .alloc false [(.int .i64 0), (.int .i64 0), (.int .i64 0), (.lst .nil []), (.lst .nil [])], none⟩, 
    ⟨none, .store 5 (.t 14) (.t 125), none⟩, 
    ⟨some 15, .move false (.t 126), none⟩]) (
  .seq (.seq (.region [
    ⟨some 127, .move false (.t 11), none⟩, 
    ⟨some 128, .move false (.t 15), none⟩, 
    ⟨some 129, .bin .neq (.t 127) (.t 128), none⟩, 
    ⟨some 130, .move false (.t 129), none⟩, 
    ⟨some 131, .faddr 0 (.t 10), (some (130, false))⟩, 
    ⟨some 132, .load 2 false 1 (.t 131), (some (130, false))⟩, 
    ⟨some 133, .faddr 0 (.t 14), (some (130, false))⟩, 
    ⟨some 134, .load 2 false 1 (.t 133), (some (130, false))⟩, 
    ⟨some 135, .bin .neq (.t 132) (.t 134), (some (130, false))⟩, 
    ⟨some 136, .pick (.t 130) (.c (.bool true)) (.t 135), none⟩, 
    ⟨some 137, .move false (.t 136), none⟩, 
    ⟨some 138, .faddr 1 (.t 10), (some (137, false))⟩, 
    ⟨some 139, .load 2 false 1 (.t 138), (some (137, false))⟩, 
    ⟨some 140, .faddr 1 (.t 14), (some (137, false))⟩, 
    ⟨some 141, .load 2 false 1 (.t 140), (some (137, false))⟩, 
    ⟨some 142, .bin .neq (.t 139) (.t 141), (some (137, false))⟩, 
    ⟨some 143, .pick (.t 137) (.c (.bool true)) (.t 142), none⟩, 
    ⟨some 144, .move false (.t 143), none⟩, 
    ⟨some 145, .faddr 4 (.t 10), (some (144, false))⟩, 
    ⟨some 146, .load 2 false 1 (.t 145), (some (144, false))⟩, 
    ⟨some 147, .faddr 2 (.t 14), (some (144, false))⟩, 
    ⟨some 148, .load 2 false 1 (.t 147), (some (144, false))⟩, 
    ⟨some 149, .bin .neq (.t 146) (.t 148), (some (144, false))⟩, 
    ⟨some 150, .pick (.t 144) (.c (.bool true)) (.t 149), none⟩, 
    ⟨some 151, .move false (.t 150), none⟩, 
    ⟨some 152, .faddr 2 (.t 10), (some (151, false))⟩, 
    ⟨some 153, .load 2 false 1 (.t 152), (some (151, false))⟩, 
    ⟨some 154, .faddr 3 (.t 14), (some (151, false))⟩, 
    ⟨some 155, .load 2 false 1 (.t 154), (some (151, false))⟩, 
    ⟨some 156, .call true F.slices_Equal_Cell [(.t 153), (.t 155)], (some (151, false))⟩, 
    ⟨some 157, .un .not (.t 156), (some (151, false))⟩, 
    ⟨some 158, .pick (.t 151) (.c (.bool true)) (.t 157), none⟩, 
    ⟨some 159, .move false (.t 158), none⟩, 
    ⟨some 160, .faddr 3 (.t 10), (some (159, false))⟩, 
    ⟨some 161, .load 2 false 1 (.t 160), (some (159, false))⟩, 
    ⟨some 162, .faddr 4 (.t 14), (some (159, false))⟩, 
    ⟨some 163, .load 2 false 1 (.t 162), (some (159, false))⟩, 
    ⟨some 164, .call true F.slices_Equal_Cell [(.t 161), (.t 163)], (some (159, false))⟩, 
    ⟨some 165, .un .not (.t 164), (some (159, false))⟩, 
    ⟨some 166, .pick (.t 159) (.c (.bool true)) (.t 165), none⟩]) (
  .cond (.t 166) (.seq (.region [
    ⟨some 6, .move false (.c (.bool false)), none⟩]) (
  .ret)) (.skip))) (
  .seq (.region [
    ⟨some 168, .move false (.t 2), none⟩, 
    ⟨some 169, .call true F.gantref5_EventOf [(.t 168)], none⟩, 
    ⟨some 167, .move false (.t 169), none⟩, 
    ⟨some 170, .ext 0 (.t 167), none⟩, 
    ⟨some 171, .ext 1 (.t 167), none⟩, 
    ⟨some 172, .ext 2 (.t 167), none⟩, 
    ⟨some 173, .ext 3 (.t 167), none⟩, 
    ⟨some 16, .move false (.t 170), none⟩, 
    ⟨some 17, .move false (.t 171), none⟩, 
    ⟨some 18, .move false (.t 172), none⟩, 
    ⟨some 19, .move false (.t 173), none⟩]) (
  .seq (.region [
    ⟨some 175, .move false (.t 2), none⟩, 
    ⟨some 176, .call true F.fall_Read [(.t 175)], none⟩, 
    ⟨some 174, .moveX 176, none⟩, 
    ⟨some 177, .extT 0 174, none⟩, 
    ⟨some 178, .ext 1 (.t 174), none⟩, 
    ⟨some 20, .alloc false [(.int .i64 0), (.int .i64 0), (.lst .nil [])], none⟩, 
    ⟨none, .store 3 (.t 20) (.t 177), none⟩, 
    ⟨some 21, .move false (.t 178), none⟩]) (
  .seq (.seq (.region [
    ⟨some 179, .move false (.t 19), none⟩, 
    ⟨some 180, .bin .eql (.t 179) (.c (.int .i64 0)), none⟩]) (
  .cond (.t 180) (.region [
    ⟨some 181, .move false (.t 16), none⟩, 
    ⟨some 182, .move false (.t 17), none⟩, 
    ⟨some 183, .move false (.t 18), none⟩, 
    ⟨some 184, .call true F.gantref5_EventFault [(.t 181), (.t 182), (.t 183)], none⟩, 
    ⟨some 19, .move false (.t 184), none⟩]) (.skip))) (
  .seq (.seq (.region [
    ⟨some 185, .move false (.t 19), none⟩, 
    ⟨some 186, .bin .neq (.t 185) (.c (.int .i64 0)), none⟩]) (
  .cond (.t 186) (.seq (.region [
    ⟨some 187, .move false (.t 21), none⟩, 
    ⟨some 188, .move false (.t 19), none⟩, 
    ⟨some 189, .bin .eql (.t 187) (.t 188), none⟩, 
    ⟨some 190, .move false (.t 189), none⟩, 
    ⟨some 191, .faddr 0 (.t 20), (some (190, true))⟩, 
    ⟨some 192, .load 2 false 1 (.t 191), (some (190, true))⟩, 
    ⟨some 193, .bin .eql (.t 192) (.c (.int .i64 0)), (some (190, true))⟩, 
    ⟨some 194, .pick (.t 190) (.t 193) (.c (.bool false)), none⟩, 
    ⟨some 195, .move false (.t 194), none⟩, 
    ⟨some 196, .faddr 1 (.t 20), (some (195, true))⟩, 
    ⟨some 197, .load 2 false 1 (.t 196), (some (195, true))⟩, 
    ⟨some 198, .bin .eql (.t 197) (.c (.int .i64 0)), (some (195, true))⟩, 
    ⟨some 199, .pick (.t 195) (.t 198) (.c (.bool false)), none⟩, 
    ⟨some 200, .move false (.t 199), none⟩, 
    ⟨some 201, .faddr 2 (.t 20), (some (200, true))⟩, 
    ⟨some 202, .load 2 false 1 (.t 201), (some (200, true))⟩, 
    ⟨some 203, .len (.t 202), (some (200, true))⟩, 
    ⟨some 204, .bin .eql (.t 203) (.c (.int .i64 0)), (some (200, true))⟩, 
    ⟨some 205, .pick (.t 200) (.t 204) (.c (.bool false)), none⟩, 
    ⟨some 6, .move false (.t 205), none⟩]) (
  .ret)) (.skip))) (
  .seq (.region [
    ⟨some 206, .move false (.t 21), none⟩, 
    ⟨some 207, .bin .eql (.t 206) (.c (.int .i64 0)), none⟩, 
    ⟨some 208, .move false (.t 207), none⟩, 
    ⟨some 209, .faddr 0 (.t 20), (some (208, true))⟩, 
    ⟨some 210, .load 2 false 1 (.t 209), (some (208, true))⟩, 
    ⟨some 211, .move false (.t 16), (some (208, true))⟩, 
    ⟨some 212, .bin .eql (.t 210) (.t 211), (some (208, true))⟩, 
    ⟨some 213, .pick (.t 208) (.t 212) (.c (.bool false)), none⟩, 
    ⟨some 214, .move false (.t 213), none⟩, 
    ⟨some 215, .faddr 1 (.t 20), (some (214, true))⟩, 
    ⟨some 216, .load 2 false 1 (.t 215), (some (214, true))⟩, 
    ⟨some 217, .move false (.t 17), (some (214, true))⟩, 
    ⟨some 218, .bin .eql (.t 216) (.t 217), (some (214, true))⟩, 
    ⟨some 219, .pick (.t 214) (.t 218) (.c (.bool false)), none⟩, 
    ⟨some 220, .move false (.t 219), none⟩, 
    ⟨some 221, .faddr 2 (.t 20), (some (220, true))⟩, 
    ⟨some 222, .load 2 false 1 (.t 221), (some (220, true))⟩, 
    ⟨some 223, .move false (.t 18), (some (220, true))⟩, 
    ⟨some 224, .call true F.slices_Equal_Cell [(.t 222), (.t 223)], (some (220, true))⟩, 
    ⟨some 225, .pick (.t 220) (.t 224) (.c (.bool false)), none⟩, 
    ⟨some 6, .move false (.t 225), none⟩]) (
  .ret))))))))))))))))
def R.gantlaw5_FallTells : List ARes := [.t 6]
set_option maxRecDepth 100000 in
theorem K.gantlaw5_FallTells : ckFun Try.prog Try.f27 C.gantlaw5_FallTells R.gantlaw5_FallTells = true := by kernel_rfl
end Go.Proofs.Ytpdajkbfemcdlaa
