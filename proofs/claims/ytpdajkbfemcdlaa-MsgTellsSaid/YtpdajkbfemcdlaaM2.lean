/- Contracts: sums of bytes by a table. -/
import Derived.Test.YtpdajkbfemcdlaaM1
set_option linter.unusedSimpArgs false
set_option linter.unusedVariables false
set_option maxRecDepth 10000
namespace Go.Proofs.Ytpdajkbfemcdlaa
open Go.Ge
def tab (i : Nat) : List Int := (List.range i).map (fun k => iv (entry k)) ++ List.replicate (256 - i) 0
theorem tab_length (i : Nat) (h : i ≤ 256) : (tab i).length = 256 := by simp [tab]; omega
theorem tab_set (i : Nat) (h : i < 256) : (tab i).set i (iv (entry i)) = tab (i + 1) := by
  unfold tab
  rw [List.set_append_right _ _ (by simp)]
  simp only [List.length_map, List.length_range, Nat.sub_self]
  rw [show 256 - i = (256 - (i + 1)) + 1 from by omega, List.replicate_succ, List.set_cons_zero, List.range_succ, List.map_append]
  simp
theorem tab_get (i : Nat) (h : i < 256) : (tab 256).getD i 0 = iv (entry i) := by
  unfold tab
  simp [List.getD_eq_getElem?_getD, h]
theorem table_ok (h : List HObj) : ACalls Try.prog F.gantref5_table [] h (fun r h' => r = .agg (ints .u32 (tab 256)) ∧ h' = h) := by
  refine ACalls.of_aw Try.func149 K.gantref5_table (by simp [Try.f149]) ?_
  generalize hQ : retQ R.gantref5_table _ = Q
  simp (disch := first | assumption | omega) only [C.gantref5_table, go_sem, ↓reduceIte, Nat.reduceEqDiff, reduceCtorEq, Nat.reduceAdd, Nat.reduceLeDiff, Nat.reduceLT, wrapU32, reduceIte, Int.natCast_nonneg, Int.ofNat_lt, Int.ofNat_le, cond_true, cond_false, Int.reduceBEq, Int.reduceBNe, Int.reduceLT, Int.reduceLE, Int.reduceAdd, Int.reduceSub, Int.reduceMul, Int.reduceNeg, Int.reduceEq, Int.reduceNe, Nat.reduceMul, Nat.reduceSub, decide_true, decide_false, not_true_eq_false, not_false_eq_true, Bool.true_and, Bool.false_and, Bool.and_false]
  refine aw_count (fun d S => ∃ (i : Nat), i + d = 256 ∧ S.env 4 = .int .i64 i ∧ S.boxes 1 = some (ints .u32 (tab i)) ∧ S.boxes 0 = some (ints .u32 (List.replicate 256 0)) ∧ S.env 1 = .box 1 0 ∧ S.env 0 = .box 0 0 ∧ S.heap = h) (n := 256) ⟨0, by simp [go_sem, tab, ints]⟩ ?_
  rintro d S ⟨i, hi, e4, e1, e0, x1, x0, eh⟩
  simp (disch := first | assumption | omega) only [e4, e1, e0, x1, x0, eh, go_sem, ↓reduceIte, Nat.reduceEqDiff, reduceCtorEq, Nat.reduceAdd, Nat.reduceLeDiff, Nat.reduceLT, wrapU32, reduceIte, Int.natCast_nonneg, Int.ofNat_lt, Int.ofNat_le, cond_true, cond_false, Int.reduceBEq, Int.reduceBNe, Int.reduceLT, Int.reduceLE, Int.reduceAdd, Int.reduceSub, Int.reduceMul, Int.reduceNeg, Int.reduceEq, Int.reduceNe, Nat.reduceMul, Nat.reduceSub, decide_true, decide_false, not_true_eq_false, not_false_eq_true, Bool.true_and, Bool.false_and, Bool.and_false]
  refine condG_if (fun hlt => ?_) fun hge => ?_
  · have hlt : i < 256 := by omega
    simp (disch := first | assumption | omega) only [e4, e1, e0, x1, x0, eh, go_sem, ↓reduceIte, Nat.reduceEqDiff, reduceCtorEq, Nat.reduceAdd, Nat.reduceLeDiff, Nat.reduceLT, wrapU32, reduceIte, Int.natCast_nonneg, Int.ofNat_lt, Int.ofNat_le, cond_true, cond_false, Int.reduceBEq, Int.reduceBNe, Int.reduceLT, Int.reduceLE, Int.reduceAdd, Int.reduceSub, Int.reduceMul, Int.reduceNeg, Int.reduceEq, Int.reduceNe, Nat.reduceMul, Nat.reduceSub, decide_true, decide_false, not_true_eq_false, not_false_eq_true, Bool.true_and, Bool.false_and, Bool.and_false]
    refine aw_count (fun d' S' => ∃ (j : Nat), j + d' = 8 ∧ S'.env 9 = .int .i64 j ∧ S'.env 4 = .int .i64 i ∧ S'.env 2 = .int .i64 i ∧ S'.boxes 1 = some (ints .u32 (tab i)) ∧ S'.boxes 0 = some (ints .u32 (List.replicate 256 0)) ∧
      S'.env 3 = .int .u32 (iv (rnds j (BitVec.ofNat 32 i))) ∧ S'.env 1 = .box 1 0 ∧ S'.env 0 = .box 0 0 ∧ S'.heap = h) (n := 8) ⟨0, by simp [go_sem, rnds, *]; unfold iv; rw [BitVec.toNat_ofNat]; omega⟩ ?_
    clear e4 e1 e0 x1 x0 eh
    rintro d' S' ⟨j, hj, e9, e4, e2, e1, e0, e3, x1, x0, eh⟩
    simp (disch := first | assumption | omega) only [e4, e1, e0, x1, x0, eh, e9, e2, e3, go_sem, ↓reduceIte, Nat.reduceEqDiff, reduceCtorEq, Nat.reduceAdd, Nat.reduceLeDiff, Nat.reduceLT, wrapU32, reduceIte, Int.natCast_nonneg, Int.ofNat_lt, Int.ofNat_le, cond_true, cond_false, Int.reduceBEq, Int.reduceBNe, Int.reduceLT, Int.reduceLE, Int.reduceAdd, Int.reduceSub, Int.reduceMul, Int.reduceNeg, Int.reduceEq, Int.reduceNe, Nat.reduceMul, Nat.reduceSub, decide_true, decide_false, not_true_eq_false, not_false_eq_true, Bool.true_and, Bool.false_and, Bool.and_false]
    refine condG_if (fun hlt2 => ?_) fun hge2 => ?_
    · have h0 := (iv_bd (rnds j (BitVec.ofNat 32 i))).1
      have h1 := iv_bd (rnds j (BitVec.ofNat 32 i) >>> 1)
      have h2 := half_iv (rnds j (BitVec.ofNat 32 i))
      simp (disch := first | assumption | omega) only [e4, e1, e0, x1, x0, eh, e9, e2, e3, go_sem, ↓reduceIte, Nat.reduceEqDiff, reduceCtorEq, Nat.reduceAdd, Nat.reduceLeDiff, Nat.reduceLT, reduceIte, Int.natCast_nonneg, Int.ofNat_lt, Int.ofNat_le, cond_true, cond_false, Int.reduceBEq, Int.reduceBNe, Int.reduceLT, Int.reduceLE, Int.reduceAdd, Int.reduceSub, Int.reduceMul, Int.reduceNeg, Int.reduceEq, Int.reduceNe, Nat.reduceMul, Nat.reduceSub, decide_true, decide_false, not_true_eq_false, not_false_eq_true, Bool.true_and, Bool.false_and, Bool.and_false]
      refine condG_split (fun hb => ?_) fun hb => ?_
      · simp (disch := first | assumption | omega) only [e4, e1, e0, x1, x0, eh, e9, e2, e3, h2, wrap_iv, xor32, bv_iv, go_sem, ↓reduceIte, Nat.reduceEqDiff, reduceCtorEq, Nat.reduceAdd, Nat.reduceLeDiff, Nat.reduceLT, wrapU32, reduceIte, Int.natCast_nonneg, Int.ofNat_lt, Int.ofNat_le, cond_true, cond_false, Int.reduceBEq, Int.reduceBNe, Int.reduceLT, Int.reduceLE, Int.reduceAdd, Int.reduceSub, Int.reduceMul, Int.reduceNeg, Int.reduceEq, Int.reduceNe, Nat.reduceMul, Nat.reduceSub, decide_true, decide_false, not_true_eq_false, not_false_eq_true, Bool.true_and, Bool.false_and, Bool.and_false]
        refine ⟨d' - 1, by omega, j + 1, by omega, by simp, ?_⟩
        rw [rnds_succ, rnd_odd hb]; rfl
      · simp (disch := first | assumption | omega) only [e4, e1, e0, x1, x0, eh, e9, e2, e3, h2, wrap_iv, go_sem, ↓reduceIte, Nat.reduceEqDiff, reduceCtorEq, Nat.reduceAdd, Nat.reduceLeDiff, Nat.reduceLT, wrapU32, reduceIte, Int.natCast_nonneg, Int.ofNat_lt, Int.ofNat_le, cond_true, cond_false, Int.reduceBEq, Int.reduceBNe, Int.reduceLT, Int.reduceLE, Int.reduceAdd, Int.reduceSub, Int.reduceMul, Int.reduceNeg, Int.reduceEq, Int.reduceNe, Nat.reduceMul, Nat.reduceSub, decide_true, decide_false, not_true_eq_false, not_false_eq_true, Bool.true_and, Bool.false_and, Bool.and_false]
        refine ⟨d' - 1, by omega, j + 1, by omega, by simp, ?_⟩
        rw [rnds_succ, rnd_even hb]
    · obtain rfl : j = 8 := by omega
      simp (disch := first | assumption | omega) only [e4, e1, e0, x1, x0, eh, e9, e2, e3, ints_length, tab_length, go_sem, ↓reduceIte, Nat.reduceEqDiff, reduceCtorEq, Nat.reduceAdd, Nat.reduceLeDiff, Nat.reduceLT, wrapU32, reduceIte, Int.natCast_nonneg, Int.ofNat_lt, Int.ofNat_le, cond_true, cond_false, Int.reduceBEq, Int.reduceBNe, Int.reduceLT, Int.reduceLE, Int.reduceAdd, Int.reduceSub, Int.reduceMul, Int.reduceNeg, Int.reduceEq, Int.reduceNe, Nat.reduceMul, Nat.reduceSub, decide_true, decide_false, not_true_eq_false, not_false_eq_true, Bool.true_and, Bool.false_and, Bool.and_false]
      refine ⟨hlt, by omega, d - 1, by omega, i + 1, by omega, by simp, ?_⟩
      have hl := tab_length i (by omega)
      rw [Nat.mul_one, ints_set _ _ _ (by omega), ← tab_set i hlt]
      rfl
  · obtain rfl : i = 256 := by omega
    have hl := tab_length 256 (by omega)
    have e5 : (ints .u32 (tab 256)).take 256 = ints .u32 (tab 256) := List.take_of_length_le (by simp [ints, hl])
    have e6 := ints_storC (k := .u32) (tab 256)
    have e7 : fillV (ints .u32 (List.replicate 256 0)) 0 (ints .u32 (tab 256)) = ints .u32 (tab 256) := by
      simp [fillV, ints, hl]
    rw [List.all_eq_true] at e6
    have e8 : (ints .u32 (tab 256)).all storC = true := by rw [List.all_eq_true]; intro v hv; obtain ⟨n, _, rfl⟩ := List.mem_map.1 hv; rfl
    simp (disch := first | assumption | omega) only [e4, e1, e0, x1, x0, eh, e5, ints_rdc, ints_length, hl, List.length_replicate, e8, e7, go_sem, ↓reduceIte, Nat.reduceEqDiff, reduceCtorEq, Nat.reduceAdd, Nat.reduceLeDiff, Nat.reduceLT, wrapU32, reduceIte, Int.natCast_nonneg, Int.ofNat_lt, Int.ofNat_le, cond_true, cond_false, Int.reduceBEq, Int.reduceBNe, Int.reduceLT, Int.reduceLE, Int.reduceAdd, Int.reduceSub, Int.reduceMul, Int.reduceNeg, Int.reduceEq, Int.reduceNe, Nat.reduceMul, Nat.reduceSub, decide_true, decide_false, not_true_eq_false, not_false_eq_true, Bool.true_and, Bool.false_and, Bool.and_false]
    subst hQ
    simp (disch := first | assumption | omega) only [R.gantref5_table, e4, e1, e0, x1, x0, eh, ints_length, hl, go_sem, ↓reduceIte, Nat.reduceEqDiff, reduceCtorEq, Nat.reduceAdd, Nat.reduceLeDiff, Nat.reduceLT, wrapU32, reduceIte, Int.natCast_nonneg, Int.ofNat_lt, Int.ofNat_le, cond_true, cond_false, Int.reduceBEq, Int.reduceBNe, Int.reduceLT, Int.reduceLE, Int.reduceAdd, Int.reduceSub, Int.reduceMul, Int.reduceNeg, Int.reduceEq, Int.reduceNe, Nat.reduceMul, Nat.reduceSub, decide_true, decide_false, not_true_eq_false, not_false_eq_true, Bool.true_and, Bool.false_and, Bool.and_false]
theorem xor8 (x y : Int) : bitsV .xor .u8 x y = ((BitVec.ofInt 8 x ^^^ BitVec.ofInt 8 y).toNat : Int) := by
  show IntKind.u8.wrap _ = _
  exact wrapU8 (by omega) (by have := (BitVec.ofInt 8 x ^^^ BitVec.ofInt 8 y).isLt; exact Int.ofNat_lt.2 this)
theorem tab_index (b : BitVec 32) (x : Int) (h1 : 0 ≤ x) (h2 : x < 256) : (BitVec.ofInt 8 (iv b % 256) ^^^ BitVec.ofInt 8 x).toNat = (b.toNat % 256) ^^^ x.toNat := by
  rw [BitVec.toNat_xor, BitVec.toNat_ofInt, BitVec.toNat_ofInt]
  unfold iv
  congr 1 <;> omega
theorem index_lt (b : BitVec 32) (x : Int) (h1 : 0 ≤ x) (h2 : x < 256) : (b.toNat % 256) ^^^ x.toNat < 256 :=
  Nat.xor_lt_two_pow (n := 8) (by omega) (by omega)
theorem Crc_ok (o : Own) (l : List Int) (ho : Rdo o) (hb : ∀ x ∈ l, inU8 x) (hl : l.length < 4611686018427387904) (h : List HObj) :
    ACalls Try.prog F.gantref5_Crc [.lst o (ints .u8 l)] h (fun r h' => r = .int .u32 (iv (crc l)) ∧ h' = h) := by
  refine ACalls.of_aw Try.func50 K.gantref5_Crc (by simp [Try.f50]) ?_
  generalize hQ : retQ R.gantref5_Crc _ = Q
  simp (disch := first | assumption | omega) only [C.gantref5_Crc, go_sem, ↓reduceIte, Nat.reduceEqDiff, reduceCtorEq, Nat.reduceAdd, Nat.reduceLeDiff, Nat.reduceLT, wrapU32, reduceIte, Int.natCast_nonneg, Int.ofNat_lt, Int.ofNat_le, cond_true, cond_false, Int.reduceBEq, Int.reduceBNe, Int.reduceLT, Int.reduceLE, Int.reduceAdd, Int.reduceSub, Int.reduceMul, Int.reduceNeg, Int.reduceEq, Int.reduceNe, Nat.reduceMul, Nat.reduceSub, decide_true, decide_false, not_true_eq_false, not_false_eq_true, Bool.true_and, Bool.false_and, Bool.and_false]
  have hl256 := tab_length 256 (by omega)
  have e8 : (ints .u32 (tab 256)).all storC = true := by rw [List.all_eq_true]; intro v hv; obtain ⟨n, _, rfl⟩ := List.mem_map.1 hv; rfl
  have e7 : fillV (List.replicate 256 (AVal.int .u32 0)) 0 (ints .u32 (tab 256)) = ints .u32 (tab 256) := by
    simp [fillV, ints, hl256]
  refine callG_ok (table_ok _) (by simp (disch := first | assumption | omega) only [go_sem, ↓reduceIte, Nat.reduceEqDiff, reduceCtorEq, Nat.reduceAdd, Nat.reduceLeDiff, Nat.reduceLT, wrapU32, reduceIte, Int.natCast_nonneg, Int.ofNat_lt, Int.ofNat_le, cond_true, cond_false, Int.reduceBEq, Int.reduceBNe, Int.reduceLT, Int.reduceLE, Int.reduceAdd, Int.reduceSub, Int.reduceMul, Int.reduceNeg, Int.reduceEq, Int.reduceNe, Nat.reduceMul, Nat.reduceSub, decide_true, decide_false, not_true_eq_false, not_false_eq_true, Bool.true_and, Bool.false_and, Bool.and_false]) ?_
  rintro _ _ ⟨rfl, hhh⟩
  try rw [hhh]
  clear hhh
  simp (disch := first | assumption | omega) only [ints_length, hl256, e8, e7, ints_rdc, List.length_replicate, go_sem, ↓reduceIte, Nat.reduceEqDiff, reduceCtorEq, Nat.reduceAdd, Nat.reduceLeDiff, Nat.reduceLT, wrapU32, reduceIte, Int.natCast_nonneg, Int.ofNat_lt, Int.ofNat_le, cond_true, cond_false, Int.reduceBEq, Int.reduceBNe, Int.reduceLT, Int.reduceLE, Int.reduceAdd, Int.reduceSub, Int.reduceMul, Int.reduceNeg, Int.reduceEq, Int.reduceNe, Nat.reduceMul, Nat.reduceSub, decide_true, decide_false, not_true_eq_false, not_false_eq_true, Bool.true_and, Bool.false_and, Bool.and_false]
  refine aw_count (fun d S => ∃ (i : Nat), i + d = l.length ∧ S.env 10 = .int .i64 i ∧ S.env 9 = .int .i64 l.length ∧ S.env 8 = .lst o (ints .u8 l) ∧ S.env 3 = .box 3 0 ∧ S.boxes 3 = some (ints .u32 (tab 256)) ∧
    S.env 4 = .int .u32 (iv (sumFrom (bv 4294967295) (l.take i))) ∧ S.heap = h) (n := l.length) ⟨0, by simp [go_sem, sumFrom]; rfl⟩ ?_
  rintro d S ⟨i, hi, e10, e9, e8, e3, b3, e4, eh⟩
  simp (disch := first | assumption | omega) only [e10, e9, e8, e3, b3, e4, eh, go_sem, ↓reduceIte, Nat.reduceEqDiff, reduceCtorEq, Nat.reduceAdd, Nat.reduceLeDiff, Nat.reduceLT, wrapU32, reduceIte, Int.natCast_nonneg, Int.ofNat_lt, Int.ofNat_le, cond_true, cond_false, Int.reduceBEq, Int.reduceBNe, Int.reduceLT, Int.reduceLE, Int.reduceAdd, Int.reduceSub, Int.reduceMul, Int.reduceNeg, Int.reduceEq, Int.reduceNe, Nat.reduceMul, Nat.reduceSub, decide_true, decide_false, not_true_eq_false, not_false_eq_true, Bool.true_and, Bool.false_and, Bool.and_false]
  refine condG_if (fun hlt => ?_) fun hge => ?_
  · have hlt : i < l.length := by omega
    have hx := hb _ (List.getElem_mem hlt)
    unfold inU8 at hx
    have hstep := sumFrom_take (bv 4294967295) l i hlt
    have hat := at_ints' (k := .u8) l i hlt
    rw [show l.getD i 0 = l[i] from by simp [List.getD_eq_getElem?_getD, hlt]] at hat
    generalize sumFrom (bv 4294967295) (l.take i) = s at *
    generalize l[i] = x at *
    have h0 := (iv_bd s).1
    have hJ := index_lt s x hx.1 hx.2
    have hget : (ints .u32 (tab 256)).getD ((s.toNat % 256) ^^^ x.toNat) .junk = .int .u32 (iv (entry ((s.toNat % 256) ^^^ x.toNat))) := by
      rw [getD_ints _ _ (by omega), tab_get _ hJ]
    have hq : iv s / (256 : Int) = iv (s >>> 8) := by
      unfold iv; rw [BitVec.toNat_ushiftRight, Nat.shiftRight_eq_div_pow]; omega
    simp (disch := first | assumption | omega) only [e10, e9, e8, e3, b3, e4, eh, hat, hlt, wrapU8_mod, xor8, tab_index s x hx.1 hx.2, Nat.mul_one, hget, hq, wrap_iv, xor32, bv_iv, go_sem, ↓reduceIte, Nat.reduceEqDiff, reduceCtorEq, Nat.reduceAdd, Nat.reduceLeDiff, Nat.reduceLT, wrapU32, reduceIte, Int.natCast_nonneg, Int.ofNat_lt, Int.ofNat_le, cond_true, cond_false, Int.reduceBEq, Int.reduceBNe, Int.reduceLT, Int.reduceLE, Int.reduceAdd, Int.reduceSub, Int.reduceMul, Int.reduceNeg, Int.reduceEq, Int.reduceNe, Nat.reduceMul, Nat.reduceSub, decide_true, decide_false, not_true_eq_false, not_false_eq_true, Bool.true_and, Bool.false_and, Bool.and_false]
    refine ⟨by omega, by omega, d - 1, by omega, i + 1, by omega, by simp, ?_⟩
    rw [hstep, tab_step s x hx.1 hx.2]
  · obtain rfl : i = l.length := by omega
    simp (disch := first | assumption | omega) only [e10, e9, e8, e3, b3, e4, eh, go_sem, ↓reduceIte, Nat.reduceEqDiff, reduceCtorEq, Nat.reduceAdd, Nat.reduceLeDiff, Nat.reduceLT, wrapU32, reduceIte, Int.natCast_nonneg, Int.ofNat_lt, Int.ofNat_le, cond_true, cond_false, Int.reduceBEq, Int.reduceBNe, Int.reduceLT, Int.reduceLE, Int.reduceAdd, Int.reduceSub, Int.reduceMul, Int.reduceNeg, Int.reduceEq, Int.reduceNe, Nat.reduceMul, Nat.reduceSub, decide_true, decide_false, not_true_eq_false, not_false_eq_true, Bool.true_and, Bool.false_and, Bool.and_false]
    subst hQ
    simp (disch := first | assumption | omega) only [R.gantref5_Crc, go_sem, ↓reduceIte, Nat.reduceEqDiff, reduceCtorEq, Nat.reduceAdd, Nat.reduceLeDiff, Nat.reduceLT, wrapU32, reduceIte, Int.natCast_nonneg, Int.ofNat_lt, Int.ofNat_le, cond_true, cond_false, Int.reduceBEq, Int.reduceBNe, Int.reduceLT, Int.reduceLE, Int.reduceAdd, Int.reduceSub, Int.reduceMul, Int.reduceNeg, Int.reduceEq, Int.reduceNe, Nat.reduceMul, Nat.reduceSub, decide_true, decide_false, not_true_eq_false, not_false_eq_true, Bool.true_and, Bool.false_and, Bool.and_false]
    rw [List.take_length]
    simp only [xor32, bv_iv]
    exact ⟨rfl, eh⟩
end Go.Proofs.Ytpdajkbfemcdlaa
