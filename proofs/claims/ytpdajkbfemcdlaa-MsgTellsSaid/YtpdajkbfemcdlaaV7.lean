/- Contracts: messages by the second implementation. -/
import Derived.Test.YtpdajkbfemcdlaaV6
set_option linter.unusedSimpArgs false
set_option linter.unusedVariables false
set_option maxRecDepth 10000
namespace Go.Proofs.Ytpdajkbfemcdlaa
open Go.Ge
theorem Frame_ok (o : Own) (m : Msg) (ho : Rdo o) (hw : inU32 m.Clock) (hc : checkF m = 0) (h : List HObj) :
    ACalls Try.prog F.gantref5_Frame [msgA o m] h (fun v h' => v = .lst (.app 1) (ints .u8 (frame m)) ∧ h' = h) := by
  obtain ⟨k1, k2, k3, k4, k5, k6⟩ := fine_of hc
  unfold inU32 at hw
  have hbl := bodyB_length m
  refine ACalls.of_aw Try.func75 K.gantref5_Frame (by simp [Try.f75]) ?_
  generalize hQ : retQ R.gantref5_Frame _ = Q
  simp (disch := first | assumption | omega) only [C.gantref5_Frame, go_sem, ↓reduceIte, Nat.reduceEqDiff, reduceCtorEq, Nat.reduceAdd, Nat.reduceLeDiff, Nat.reduceLT, reduceIte, Int.reduceBEq, Int.reduceBNe, Int.reduceLT, Int.reduceLE, Int.reduceAdd, Int.reduceSub, Int.reduceMul, Int.reduceNeg, Int.reduceEq, Int.reduceNe, Nat.reduceMul, Nat.reduceSub]
  simp (disch := first | assumption | omega) only [msgA, msgC, wrapU8_mod, go_sem, ↓reduceIte, Nat.reduceEqDiff, reduceCtorEq, Nat.reduceAdd, Nat.reduceLeDiff, Nat.reduceLT, reduceIte, Int.reduceBEq, Int.reduceBNe, Int.reduceLT, Int.reduceLE, Int.reduceAdd, Int.reduceSub, Int.reduceMul, Int.reduceNeg, Int.reduceEq, Int.reduceNe, Nat.reduceMul, Nat.reduceSub]
  refine callG_ok (Bytes_app m.Seq 4 (by omega) (by omega) (by omega) _) (by simp (disch := first | assumption | omega) only [go_sem, ↓reduceIte, Nat.reduceEqDiff, reduceCtorEq, Nat.reduceAdd, Nat.reduceLeDiff, Nat.reduceLT, reduceIte, Int.reduceBEq, Int.reduceBNe, Int.reduceLT, Int.reduceLE, Int.reduceAdd, Int.reduceSub, Int.reduceMul, Int.reduceNeg, Int.reduceEq, Int.reduceNe, Nat.reduceMul, Nat.reduceSub]) ?_
  rintro _ _ ⟨rfl, hhh⟩
  rw [hhh]
  clear hhh
  simp (disch := first | assumption | omega) only [msgC, wrapU8_mod, go_sem, ↓reduceIte, Nat.reduceEqDiff, reduceCtorEq, Nat.reduceAdd, Nat.reduceLeDiff, Nat.reduceLT, reduceIte, Int.reduceBEq, Int.reduceBNe, Int.reduceLT, Int.reduceLE, Int.reduceAdd, Int.reduceSub, Int.reduceMul, Int.reduceNeg, Int.reduceEq, Int.reduceNe, Nat.reduceMul, Nat.reduceSub]
  refine callG_ok (Bytes_app m.Clock 4 (by omega) (by omega) (by omega) _) (by simp (disch := first | assumption | omega) only [go_sem, ↓reduceIte, Nat.reduceEqDiff, reduceCtorEq, Nat.reduceAdd, Nat.reduceLeDiff, Nat.reduceLT, reduceIte, Int.reduceBEq, Int.reduceBNe, Int.reduceLT, Int.reduceLE, Int.reduceAdd, Int.reduceSub, Int.reduceMul, Int.reduceNeg, Int.reduceEq, Int.reduceNe, Nat.reduceMul, Nat.reduceSub]) ?_
  rintro _ _ ⟨rfl, hhh⟩
  rw [hhh]
  clear hhh
  simp (disch := first | assumption | omega) only [msgC, wrapU8_mod, go_sem, ↓reduceIte, Nat.reduceEqDiff, reduceCtorEq, Nat.reduceAdd, Nat.reduceLeDiff, Nat.reduceLT, reduceIte, Int.reduceBEq, Int.reduceBNe, Int.reduceLT, Int.reduceLE, Int.reduceAdd, Int.reduceSub, Int.reduceMul, Int.reduceNeg, Int.reduceEq, Int.reduceNe, Nat.reduceMul, Nat.reduceSub]
  refine callG_ok (Bytes_app (m.Cells.length : Nat) 2 (by omega) (by omega) (by omega) _) (by simp (disch := first | assumption | omega) only [go_sem, ↓reduceIte, Nat.reduceEqDiff, reduceCtorEq, Nat.reduceAdd, Nat.reduceLeDiff, Nat.reduceLT, reduceIte, Int.reduceBEq, Int.reduceBNe, Int.reduceLT, Int.reduceLE, Int.reduceAdd, Int.reduceSub, Int.reduceMul, Int.reduceNeg, Int.reduceEq, Int.reduceNe, Nat.reduceMul, Nat.reduceSub]) ?_
  rintro _ _ ⟨rfl, hhh⟩
  rw [hhh]
  clear hhh
  simp (disch := first | assumption | omega) only [msgC, wrapU8_mod, go_sem, ↓reduceIte, Nat.reduceEqDiff, reduceCtorEq, Nat.reduceAdd, Nat.reduceLeDiff, Nat.reduceLT, reduceIte, Int.reduceBEq, Int.reduceBNe, Int.reduceLT, Int.reduceLE, Int.reduceAdd, Int.reduceSub, Int.reduceMul, Int.reduceNeg, Int.reduceEq, Int.reduceNe, Nat.reduceMul, Nat.reduceSub]
  refine callG_ok (Concat_byte_ok .sh [[m.Kind % 256, m.From % 256, m.To % 256], beBytes m.Seq 4, beBytes m.Clock 4, beBytes m.Cells.length 2] _ (.inl rfl) ⟨_, _, rfl, RecOk.sh _, _, _, rfl, RecOk.sh _, _, _, rfl, RecOk.sh _, _, _, rfl, RecOk.sh _, rfl⟩ (by simp) (by simp) (by simp [lenSum, beBytes_length]) _) (by simp (disch := first | assumption | omega) only [go_sem, ↓reduceIte, Nat.reduceEqDiff, reduceCtorEq, Nat.reduceAdd, Nat.reduceLeDiff, Nat.reduceLT, reduceIte, Int.reduceBEq, Int.reduceBNe, Int.reduceLT, Int.reduceLE, Int.reduceAdd, Int.reduceSub, Int.reduceMul, Int.reduceNeg, Int.reduceEq, Int.reduceNe, Nat.reduceMul, Nat.reduceSub]) ?_
  rintro _ _ ⟨rfl, hhh⟩
  rw [hhh]
  clear hhh
  have hfl : [[m.Kind % 256, m.From % 256, m.To % 256], beBytes m.Seq 4, beBytes m.Clock 4, beBytes m.Cells.length 2].flatten = headB m := by simp [headB]
  rw [hfl]
  simp (disch := first | assumption | omega) only [msgC, go_sem, ↓reduceIte, Nat.reduceEqDiff, reduceCtorEq, Nat.reduceAdd, Nat.reduceLeDiff, Nat.reduceLT, reduceIte, Int.reduceBEq, Int.reduceBNe, Int.reduceLT, Int.reduceLE, Int.reduceAdd, Int.reduceSub, Int.reduceMul, Int.reduceNeg, Int.reduceEq, Int.reduceNe, Nat.reduceMul, Nat.reduceSub]
  refine aw_count (fun d S => ∃ (i : Nat), i + d = m.Cells.length ∧ S.env 35 = .int .i64 i ∧ S.env 34 = .int .i64 m.Cells.length ∧ S.env 33 = .lst o (cellsA m.Cells) ∧ S.env 3 = .lst (.app 1) (ints .u8 (headB m ++ cellsB (m.Cells.take i))) ∧ S.heap = h) (n := m.Cells.length)
    ⟨0, by omega, by simp (disch := first | assumption | omega) only [go_sem, ↓reduceIte, Nat.reduceEqDiff, reduceCtorEq, Nat.reduceAdd, Nat.reduceLeDiff, Nat.reduceLT, reduceIte, Int.reduceBEq, Int.reduceBNe, Int.reduceLT, Int.reduceLE, Int.reduceAdd, Int.reduceSub, Int.reduceMul, Int.reduceNeg, Int.reduceEq, Int.reduceNe, Nat.reduceMul, Nat.reduceSub], by simp (disch := first | assumption | omega) only [go_sem, ↓reduceIte, Nat.reduceEqDiff, reduceCtorEq, Nat.reduceAdd, Nat.reduceLeDiff, Nat.reduceLT, reduceIte, Int.reduceBEq, Int.reduceBNe, Int.reduceLT, Int.reduceLE, Int.reduceAdd, Int.reduceSub, Int.reduceMul, Int.reduceNeg, Int.reduceEq, Int.reduceNe, Nat.reduceMul, Nat.reduceSub], by simp (disch := first | assumption | omega) only [msgC, go_sem, ↓reduceIte, Nat.reduceEqDiff, reduceCtorEq, Nat.reduceAdd, Nat.reduceLeDiff, Nat.reduceLT, reduceIte, Int.reduceBEq, Int.reduceBNe, Int.reduceLT, Int.reduceLE, Int.reduceAdd, Int.reduceSub, Int.reduceMul, Int.reduceNeg, Int.reduceEq, Int.reduceNe, Nat.reduceMul, Nat.reduceSub], by simp (disch := first | assumption | omega) only [cellsB, List.flatMap_nil, go_sem, ↓reduceIte, Nat.reduceEqDiff, reduceCtorEq, Nat.reduceAdd, Nat.reduceLeDiff, Nat.reduceLT, reduceIte, Int.reduceBEq, Int.reduceBNe, Int.reduceLT, Int.reduceLE, Int.reduceAdd, Int.reduceSub, Int.reduceMul, Int.reduceNeg, Int.reduceEq, Int.reduceNe, Nat.reduceMul, Nat.reduceSub], by simp (disch := first | assumption | omega) only [go_sem, ↓reduceIte, Nat.reduceEqDiff, reduceCtorEq, Nat.reduceAdd, Nat.reduceLeDiff, Nat.reduceLT, reduceIte, Int.reduceBEq, Int.reduceBNe, Int.reduceLT, Int.reduceLE, Int.reduceAdd, Int.reduceSub, Int.reduceMul, Int.reduceNeg, Int.reduceEq, Int.reduceNe, Nat.reduceMul, Nat.reduceSub]⟩ ?_
  rintro d S ⟨i, hi, e35, e34, e33, e3, eh⟩
  simp (disch := first | assumption | omega) only [e35, e34, e33, e3, eh, go_sem, ↓reduceIte, Nat.reduceEqDiff, reduceCtorEq, Nat.reduceAdd, Nat.reduceLeDiff, Nat.reduceLT, reduceIte, Int.reduceBEq, Int.reduceBNe, Int.reduceLT, Int.reduceLE, Int.reduceAdd, Int.reduceSub, Int.reduceMul, Int.reduceNeg, Int.reduceEq, Int.reduceNe, Nat.reduceMul, Nat.reduceSub]
  refine condG_if (fun hlt => ?_) fun hge => ?_
  · have hlt : i < m.Cells.length := by omega
    have hat := at_cells hlt
    have hon := k6 _ (List.getElem_mem hlt)
    unfold onG at hon
    have hst := take_snoc hlt
    have hcl : (headB m).length + (cellsB (m.Cells.take i)).length ≤ 813 := by
      rw [headB_length, cellsB_length, List.length_take]; omega
    simp (disch := first | assumption | omega) only [e35, e34, e33, e3, eh, hat, cellA, hlt, wrapU8_mod, go_sem, ↓reduceIte, Nat.reduceEqDiff, reduceCtorEq, Nat.reduceAdd, Nat.reduceLeDiff, Nat.reduceLT, reduceIte, Int.reduceBEq, Int.reduceBNe, Int.reduceLT, Int.reduceLE, Int.reduceAdd, Int.reduceSub, Int.reduceMul, Int.reduceNeg, Int.reduceEq, Int.reduceNe, Nat.reduceMul, Nat.reduceSub]
    refine ⟨by omega, by omega, d - 1, by omega, i + 1, by omega, by simp, ?_⟩
    rw [hst, cellsB_snoc, ← List.append_assoc, ← ints_append _ (cellB _)]
    rfl
  · obtain rfl : i = m.Cells.length := by omega
    rw [List.take_length, ← bodyB_head] at e3
    simp (disch := first | assumption | omega) only [e35, e34, e33, e3, eh, go_sem, ↓reduceIte, Nat.reduceEqDiff, reduceCtorEq, Nat.reduceAdd, Nat.reduceLeDiff, Nat.reduceLT, reduceIte, Int.reduceBEq, Int.reduceBNe, Int.reduceLT, Int.reduceLE, Int.reduceAdd, Int.reduceSub, Int.reduceMul, Int.reduceNeg, Int.reduceEq, Int.reduceNe, Nat.reduceMul, Nat.reduceSub]
    refine callG_ok (Crc_ok .sh (bodyB m) (.inl rfl) (bodyB_u8 m) (by omega) _) (by simp (disch := first | assumption | omega) only [go_sem, ↓reduceIte, Nat.reduceEqDiff, reduceCtorEq, Nat.reduceAdd, Nat.reduceLeDiff, Nat.reduceLT, reduceIte, Int.reduceBEq, Int.reduceBNe, Int.reduceLT, Int.reduceLE, Int.reduceAdd, Int.reduceSub, Int.reduceMul, Int.reduceNeg, Int.reduceEq, Int.reduceNe, Nat.reduceMul, Nat.reduceSub]) ?_
    rintro _ _ ⟨rfl, hhh⟩
    rw [hhh]
    clear hhh
    have hib := iv_bd (crc (bodyB m))
    simp (disch := first | assumption | omega) only [e35, e34, e33, e3, eh, go_sem, ↓reduceIte, Nat.reduceEqDiff, reduceCtorEq, Nat.reduceAdd, Nat.reduceLeDiff, Nat.reduceLT, reduceIte, Int.reduceBEq, Int.reduceBNe, Int.reduceLT, Int.reduceLE, Int.reduceAdd, Int.reduceSub, Int.reduceMul, Int.reduceNeg, Int.reduceEq, Int.reduceNe, Nat.reduceMul, Nat.reduceSub]
    refine callG_ok (Bytes_app (iv (crc (bodyB m))) 4 hib.1 (by omega) (by omega) _) (by simp (disch := first | assumption | omega) only [go_sem, ↓reduceIte, Nat.reduceEqDiff, reduceCtorEq, Nat.reduceAdd, Nat.reduceLeDiff, Nat.reduceLT, reduceIte, Int.reduceBEq, Int.reduceBNe, Int.reduceLT, Int.reduceLE, Int.reduceAdd, Int.reduceSub, Int.reduceMul, Int.reduceNeg, Int.reduceEq, Int.reduceNe, Nat.reduceMul, Nat.reduceSub]) ?_
    rintro _ _ ⟨rfl, hhh⟩
    rw [hhh]
    clear hhh
    simp (disch := first | assumption | omega) only [e35, e34, e33, e3, eh, go_sem, ↓reduceIte, Nat.reduceEqDiff, reduceCtorEq, Nat.reduceAdd, Nat.reduceLeDiff, Nat.reduceLT, reduceIte, Int.reduceBEq, Int.reduceBNe, Int.reduceLT, Int.reduceLE, Int.reduceAdd, Int.reduceSub, Int.reduceMul, Int.reduceNeg, Int.reduceEq, Int.reduceNe, Nat.reduceMul, Nat.reduceSub]
    refine callG_ok (Concat_byte_ok .sh [bodyB m, beBytes (iv (crc (bodyB m))) 4] _ (.inl rfl) ⟨_, _, rfl, RecOk.sh _, _, _, rfl, RecOk.sh _, rfl⟩ (by simp) (by simp) (by simp [lenSum, beBytes_length]; omega) _) (by simp (disch := first | assumption | omega) only [go_sem, ↓reduceIte, Nat.reduceEqDiff, reduceCtorEq, Nat.reduceAdd, Nat.reduceLeDiff, Nat.reduceLT, reduceIte, Int.reduceBEq, Int.reduceBNe, Int.reduceLT, Int.reduceLE, Int.reduceAdd, Int.reduceSub, Int.reduceMul, Int.reduceNeg, Int.reduceEq, Int.reduceNe, Nat.reduceMul, Nat.reduceSub]) ?_
    rintro _ _ ⟨rfl, hhh⟩
    rw [hhh]
    clear hhh
    have hfl : [bodyB m, beBytes (iv (crc (bodyB m))) 4].flatten = frame m := by simp [frame, four]
    rw [hfl]
    simp (disch := first | assumption | omega) only [e35, e34, e33, e3, eh, go_sem, ↓reduceIte, Nat.reduceEqDiff, reduceCtorEq, Nat.reduceAdd, Nat.reduceLeDiff, Nat.reduceLT, reduceIte, Int.reduceBEq, Int.reduceBNe, Int.reduceLT, Int.reduceLE, Int.reduceAdd, Int.reduceSub, Int.reduceMul, Int.reduceNeg, Int.reduceEq, Int.reduceNe, Nat.reduceMul, Nat.reduceSub]
    subst hQ
    simp (disch := first | assumption | omega) only [R.gantref5_Frame, e35, e34, e33, e3, eh, go_sem, ↓reduceIte, Nat.reduceEqDiff, reduceCtorEq, Nat.reduceAdd, Nat.reduceLeDiff, Nat.reduceLT, reduceIte, Int.reduceBEq, Int.reduceBNe, Int.reduceLT, Int.reduceLE, Int.reduceAdd, Int.reduceSub, Int.reduceMul, Int.reduceNeg, Int.reduceEq, Int.reduceNe, Nat.reduceMul, Nat.reduceSub]
theorem cells_step : ∀ (i : Nat) (l : List Int), 2 * i + 1 < l.length → cellsOf (l.take (2 * (i + 1))) = cellsOf (l.take (2 * i)) ++ [⟨l.getD (2 * i) 0 - 64, l.getD (2 * i + 1) 0 - 64⟩]
  | 0, x :: y :: l, _ => by simp [cellsOf]
  | i + 1, x :: y :: l, h => by
    have ih := cells_step i l (by simp at h; omega)
    rw [show 2 * (i + 1 + 1) = 2 * (i + 1) + 1 + 1 from by omega, List.take_succ_cons, List.take_succ_cons, show 2 * (i + 1) = 2 * i + 1 + 1 from by omega, List.take_succ_cons, List.take_succ_cons]
    rw [show 2 * (i + 1) = 2 * i + 1 + 1 from by omega] at ih
    simp only [cellsOf, ih, List.cons_append, List.getD_cons_succ]
  | 0, [], h => by simp at h
  | 0, [_], h => by simp at h
  | i + 1, [], h => by simp at h
  | i + 1, [_], h => by simp at h
/-- What comes of bytes that are taken apart. -/
def UnfQ (b : List Int) (v : AVal) : Prop :=
  unfE b ≠ 0 ∧ v = .tup [msgA .nil msg0, .int .i64 (unfE b)] ∨ unfE b = 0 ∧ ∃ q, v = .tup [msgA q (msgOf b), .int .i64 0] ∧ Rdn q (msgOf b).Cells
theorem Unframe_ok (o : Own) (b : List Int) (ho : Rdo o) (hb : ∀ x ∈ b, inU8 x) (hl : b.length ≤ 140737488351232) (h : List HObj) :
    ACalls Try.prog F.gantref5_Unframe [.lst o (ints .u8 b)] h (fun v h' => UnfQ b v ∧ h' = h) := by
  refine ACalls.of_aw Try.func76 K.gantref5_Unframe (by simp [Try.f76]) ?_
  generalize hQ : retQ R.gantref5_Unframe _ = Q
  simp (disch := first | assumption | omega) only [C.gantref5_Unframe, go_sem, ↓reduceIte, Nat.reduceEqDiff, reduceCtorEq, Nat.reduceAdd, Nat.reduceLeDiff, Nat.reduceLT, reduceIte, Int.reduceBEq, Int.reduceBNe, Int.reduceLT, Int.reduceLE, Int.reduceAdd, Int.reduceSub, Int.reduceMul, Int.reduceNeg, Int.reduceEq, Int.reduceNe, Nat.reduceMul, Nat.reduceSub]
  by_cases h17 : b.length < 17
  · have h17' : (b.length : Int) < 17 := by omega
    have hE : unfE b = 14 := by unfold unfE; rw [if_pos h17]
    simp (disch := first | assumption | omega) only [h17', go_sem, ↓reduceIte, Nat.reduceEqDiff, reduceCtorEq, Nat.reduceAdd, Nat.reduceLeDiff, Nat.reduceLT, reduceIte, Int.reduceBEq, Int.reduceBNe, Int.reduceLT, Int.reduceLE, Int.reduceAdd, Int.reduceSub, Int.reduceMul, Int.reduceNeg, Int.reduceEq, Int.reduceNe, Nat.reduceMul, Nat.reduceSub]
    subst hQ
    simp (disch := first | assumption | omega) only [R.gantref5_Unframe, go_sem, ↓reduceIte, Nat.reduceEqDiff, reduceCtorEq, Nat.reduceAdd, Nat.reduceLeDiff, Nat.reduceLT, reduceIte, Int.reduceBEq, Int.reduceBNe, Int.reduceLT, Int.reduceLE, Int.reduceAdd, Int.reduceSub, Int.reduceMul, Int.reduceNeg, Int.reduceEq, Int.reduceNe, Nat.reduceMul, Nat.reduceSub]
    exact .inl ⟨by rw [hE]; decide, by rw [hE]; rfl⟩
  have h17' : ¬ (b.length : Int) < 17 := by omega
  have hs1 : List.take (Int.toNat 13 - Int.toNat 11) (List.drop (Int.toNat 11) (ints .u8 b)) = ints .u8 ((b.drop 11).take 2) := by
    rw [ints_drop, ints_take]; rfl
  have hu : ∀ (i n : Nat), ∀ x ∈ (b.drop i).take n, inU8 x := fun i n x hx => hb x (List.mem_of_mem_drop (List.mem_of_mem_take hx))
  have hv1 := val_bd _ (hu 11 2)
  have hl1 : ((b.drop 11).take 2).length = 2 := by simp; omega
  have hcv : val ((b.drop 11).take 2) = (cnt b : Int) := by unfold cnt; omega
  rw [hl1, hcv] at hv1
  have hc2 : cnt b < 65536 := by omega
  simp (disch := first | assumption | omega) only [h17', hs1, go_sem, ↓reduceIte, Nat.reduceEqDiff, reduceCtorEq, Nat.reduceAdd, Nat.reduceLeDiff, Nat.reduceLT, reduceIte, Int.reduceBEq, Int.reduceBNe, Int.reduceLT, Int.reduceLE, Int.reduceAdd, Int.reduceSub, Int.reduceMul, Int.reduceNeg, Int.reduceEq, Int.reduceNe, Nat.reduceMul, Nat.reduceSub]
  refine ⟨⟨by omega, ints_width b⟩, ?_⟩
  refine callG_ok (Value_ok .sh ((b.drop 11).take 2) (.inl rfl) (hu 11 2) (by omega) _) (by simp (disch := first | assumption | omega) only [go_sem, ↓reduceIte, Nat.reduceEqDiff, reduceCtorEq, Nat.reduceAdd, Nat.reduceLeDiff, Nat.reduceLT, reduceIte, Int.reduceBEq, Int.reduceBNe, Int.reduceLT, Int.reduceLE, Int.reduceAdd, Int.reduceSub, Int.reduceMul, Int.reduceNeg, Int.reduceEq, Int.reduceNe, Nat.reduceMul, Nat.reduceSub]) ?_
  rintro _ _ ⟨rfl, hhh⟩
  rw [hhh, hcv]
  clear hhh
  by_cases hs : b.length < 17 + 2 * cnt b
  · have hs' : (b.length : Int) < 17 + 2 * (cnt b : Int) := by omega
    have hE : unfE b = 14 := by unfold unfE; rw [if_neg h17, if_pos hs]
    simp (disch := first | assumption | omega) only [h17', hs', hs1, go_sem, ↓reduceIte, Nat.reduceEqDiff, reduceCtorEq, Nat.reduceAdd, Nat.reduceLeDiff, Nat.reduceLT, reduceIte, Int.reduceBEq, Int.reduceBNe, Int.reduceLT, Int.reduceLE, Int.reduceAdd, Int.reduceSub, Int.reduceMul, Int.reduceNeg, Int.reduceEq, Int.reduceNe, Nat.reduceMul, Nat.reduceSub]
    subst hQ
    simp (disch := first | assumption | omega) only [R.gantref5_Unframe, go_sem, ↓reduceIte, Nat.reduceEqDiff, reduceCtorEq, Nat.reduceAdd, Nat.reduceLeDiff, Nat.reduceLT, reduceIte, Int.reduceBEq, Int.reduceBNe, Int.reduceLT, Int.reduceLE, Int.reduceAdd, Int.reduceSub, Int.reduceMul, Int.reduceNeg, Int.reduceEq, Int.reduceNe, Nat.reduceMul, Nat.reduceSub]
    exact .inl ⟨by rw [hE]; decide, by rw [hE]; rfl⟩
  have hs' : ¬ (b.length : Int) < 17 + 2 * (cnt b : Int) := by omega
  simp (disch := first | assumption | omega) only [h17', hs', hs1, go_sem, ↓reduceIte, Nat.reduceEqDiff, reduceCtorEq, Nat.reduceAdd, Nat.reduceLeDiff, Nat.reduceLT, reduceIte, Int.reduceBEq, Int.reduceBNe, Int.reduceLT, Int.reduceLE, Int.reduceAdd, Int.reduceSub, Int.reduceMul, Int.reduceNeg, Int.reduceEq, Int.reduceNe, Nat.reduceMul, Nat.reduceSub]
  refine ⟨⟨by omega, ints_width b⟩, ?_⟩
  refine callG_ok (Value_ok .sh ((b.drop 11).take 2) (.inl rfl) (hu 11 2) (by omega) _) (by simp (disch := first | assumption | omega) only [go_sem, ↓reduceIte, Nat.reduceEqDiff, reduceCtorEq, Nat.reduceAdd, Nat.reduceLeDiff, Nat.reduceLT, reduceIte, Int.reduceBEq, Int.reduceBNe, Int.reduceLT, Int.reduceLE, Int.reduceAdd, Int.reduceSub, Int.reduceMul, Int.reduceNeg, Int.reduceEq, Int.reduceNe, Nat.reduceMul, Nat.reduceSub]) ?_
  rintro _ _ ⟨rfl, hhh⟩
  rw [hhh, hcv]
  clear hhh
  by_cases hg : b.length > 17 + 2 * cnt b
  · have hg' : ¬ (b.length : Int) = 17 + 2 * (cnt b : Int) := by omega
    have hE : unfE b = 3 := by unfold unfE; rw [if_neg h17, if_neg hs, if_pos hg]
    simp (disch := first | assumption | omega) only [hg', hs1, go_sem, ↓reduceIte, Nat.reduceEqDiff, reduceCtorEq, Nat.reduceAdd, Nat.reduceLeDiff, Nat.reduceLT, reduceIte, Int.reduceBEq, Int.reduceBNe, Int.reduceLT, Int.reduceLE, Int.reduceAdd, Int.reduceSub, Int.reduceMul, Int.reduceNeg, Int.reduceEq, Int.reduceNe, Nat.reduceMul, Nat.reduceSub]
    subst hQ
    simp (disch := first | assumption | omega) only [R.gantref5_Unframe, go_sem, ↓reduceIte, Nat.reduceEqDiff, reduceCtorEq, Nat.reduceAdd, Nat.reduceLeDiff, Nat.reduceLT, reduceIte, Int.reduceBEq, Int.reduceBNe, Int.reduceLT, Int.reduceLE, Int.reduceAdd, Int.reduceSub, Int.reduceMul, Int.reduceNeg, Int.reduceEq, Int.reduceNe, Nat.reduceMul, Nat.reduceSub]
    exact .inl ⟨by rw [hE]; decide, by rw [hE]; rfl⟩
  have hbl : b.length = 17 + 2 * cnt b := by omega
  have hg' : (b.length : Int) = 17 + 2 * (cnt b : Int) := by omega
  have h4 : ((b.length : Int) - 4).toNat = 13 + 2 * cnt b := by omega
  have hs2 : List.take (b.length - (13 + 2 * cnt b)) (List.drop (13 + 2 * cnt b) (ints .u8 b)) = ints .u8 (b.drop (13 + 2 * cnt b)) := by
    have := take_all (ints .u8 b) (13 + 2 * cnt b)
    rw [← ints_drop]; rwa [ints_length] at this
  have hs3 : List.take (13 + 2 * cnt b) (ints .u8 b) = ints .u8 (b.take (13 + 2 * cnt b)) := by rw [ints_take]
  have hl2 : (b.drop (13 + 2 * cnt b)).length ≤ 4 := by simp; omega
  have hl3 : (b.take (13 + 2 * cnt b)).length ≤ 1099511627776 := by simp; omega
  have hu2 : ∀ x ∈ b.drop (13 + 2 * cnt b), inU8 x := fun x hx => hb x (List.mem_of_mem_drop hx)
  have hu3 : ∀ x ∈ b.take (13 + 2 * cnt b), inU8 x := fun x hx => hb x (List.mem_of_mem_take hx)
  simp (disch := first | assumption | omega) only [eq_true hg', hs1, h4, hs2, hs3, go_sem, ↓reduceIte, Nat.reduceEqDiff, reduceCtorEq, Nat.reduceAdd, Nat.reduceLeDiff, Nat.reduceLT, reduceIte, Int.reduceBEq, Int.reduceBNe, Int.reduceLT, Int.reduceLE, Int.reduceAdd, Int.reduceSub, Int.reduceMul, Int.reduceNeg, Int.reduceEq, Int.reduceNe, Nat.reduceMul, Nat.reduceSub]
  refine ⟨⟨by omega, by omega, by omega, ints_width b⟩, ⟨by omega, by omega, ints_width b⟩, ?_⟩
  refine callG_ok (Value_ok .sh (b.drop (13 + 2 * cnt b)) (.inl rfl) hu2 hl2 _) (by simp (disch := first | assumption | omega) only [go_sem, ↓reduceIte, Nat.reduceEqDiff, reduceCtorEq, Nat.reduceAdd, Nat.reduceLeDiff, Nat.reduceLT, reduceIte, Int.reduceBEq, Int.reduceBNe, Int.reduceLT, Int.reduceLE, Int.reduceAdd, Int.reduceSub, Int.reduceMul, Int.reduceNeg, Int.reduceEq, Int.reduceNe, Nat.reduceMul, Nat.reduceSub]) ?_
  rintro _ _ ⟨rfl, hhh⟩
  rw [hhh]
  clear hhh
  simp (disch := first | assumption | omega) only [eq_true hg', hs1, h4, hs2, hs3, go_sem, ↓reduceIte, Nat.reduceEqDiff, reduceCtorEq, Nat.reduceAdd, Nat.reduceLeDiff, Nat.reduceLT, reduceIte, Int.reduceBEq, Int.reduceBNe, Int.reduceLT, Int.reduceLE, Int.reduceAdd, Int.reduceSub, Int.reduceMul, Int.reduceNeg, Int.reduceEq, Int.reduceNe, Nat.reduceMul, Nat.reduceSub]
  refine callG_ok (Crc_ok .sh (b.take (13 + 2 * cnt b)) (.inl rfl) hu3 (by omega) _) (by simp (disch := first | assumption | omega) only [go_sem, ↓reduceIte, Nat.reduceEqDiff, reduceCtorEq, Nat.reduceAdd, Nat.reduceLeDiff, Nat.reduceLT, reduceIte, Int.reduceBEq, Int.reduceBNe, Int.reduceLT, Int.reduceLE, Int.reduceAdd, Int.reduceSub, Int.reduceMul, Int.reduceNeg, Int.reduceEq, Int.reduceNe, Nat.reduceMul, Nat.reduceSub]) ?_
  rintro _ _ ⟨rfl, hhh⟩
  rw [hhh]
  clear hhh
  have hib := iv_bd (crc (b.take (13 + 2 * cnt b)))
  by_cases heq : val (b.drop (13 + 2 * cnt b)) = iv (crc (b.take (13 + 2 * cnt b)))
  case neg =>
    have hE : unfE b = 13 := by unfold unfE; rw [if_neg h17, if_neg hs, if_neg hg, if_pos heq]
    simp (disch := first | assumption | omega) only [heq, go_sem, ↓reduceIte, Nat.reduceEqDiff, reduceCtorEq, Nat.reduceAdd, Nat.reduceLeDiff, Nat.reduceLT, reduceIte, Int.reduceBEq, Int.reduceBNe, Int.reduceLT, Int.reduceLE, Int.reduceAdd, Int.reduceSub, Int.reduceMul, Int.reduceNeg, Int.reduceEq, Int.reduceNe, Nat.reduceMul, Nat.reduceSub]
    subst hQ
    simp (disch := first | assumption | omega) only [R.gantref5_Unframe, go_sem, ↓reduceIte, Nat.reduceEqDiff, reduceCtorEq, Nat.reduceAdd, Nat.reduceLeDiff, Nat.reduceLT, reduceIte, Int.reduceBEq, Int.reduceBNe, Int.reduceLT, Int.reduceLE, Int.reduceAdd, Int.reduceSub, Int.reduceMul, Int.reduceNeg, Int.reduceEq, Int.reduceNe, Nat.reduceMul, Nat.reduceSub]
    exact .inl ⟨by rw [hE]; decide, by rw [hE]; rfl⟩
  have hE : unfE b = 0 := by unfold unfE; rw [if_neg h17, if_neg hs, if_neg hg, if_neg (by simp [heq])]
  have hs4 : List.take (Int.toNat 7 - Int.toNat 3) (List.drop (Int.toNat 3) (ints .u8 b)) = ints .u8 ((b.drop 3).take 4) := by
    rw [ints_drop, ints_take]; rfl
  have hs5 : List.take (Int.toNat 11 - Int.toNat 7) (List.drop (Int.toNat 7) (ints .u8 b)) = ints .u8 ((b.drop 7).take 4) := by
    rw [ints_drop, ints_take]; rfl
  have a0 : at_ (ints .u8 b) 0 = .int .u8 (b.getD 0 0) := at_ints' b 0 (by omega)
  have a1 : at_ (ints .u8 b) 1 = .int .u8 (b.getD 1 0) := at_ints' b 1 (by omega)
  have a2 : at_ (ints .u8 b) 2 = .int .u8 (b.getD 2 0) := at_ints' b 2 (by omega)
  have u0 : inU8 (b.getD 0 0) := by rw [getD_get (by omega)]; exact hb _ (List.getElem_mem _)
  have u1 : inU8 (b.getD 1 0) := by rw [getD_get (by omega)]; exact hb _ (List.getElem_mem _)
  have u2 : inU8 (b.getD 2 0) := by rw [getD_get (by omega)]; exact hb _ (List.getElem_mem _)
  unfold inU8 at u0 u1 u2
  have b4 := val_bd4 (hu 3 4) (by simp; omega)
  have b5 := val_bd4 (hu 7 4) (by simp; omega)
  have l0 : (0 : Int) < b.length := by omega
  have l1 : (1 : Int) < b.length := by omega
  have l2 : (2 : Int) < b.length := by omega
  have l3 : (3 : Int) ≤ b.length := by omega
  have l7 : (7 : Int) ≤ b.length := by omega
  have l11 : (11 : Int) ≤ b.length := by omega
  simp (disch := first | assumption | omega) only [eq_true heq, hs4, hs5, a0, a1, a2, l0, l1, l2, l3, l7, l11, go_sem, ↓reduceIte, Nat.reduceEqDiff, reduceCtorEq, Nat.reduceAdd, Nat.reduceLeDiff, Nat.reduceLT, reduceIte, Int.reduceBEq, Int.reduceBNe, Int.reduceLT, Int.reduceLE, Int.reduceAdd, Int.reduceSub, Int.reduceMul, Int.reduceNeg, Int.reduceEq, Int.reduceNe, Nat.reduceMul, Nat.reduceSub]
  refine ⟨ints_width b, ints_width b, ?_⟩
  refine callG_ok (Value_ok .sh ((b.drop 3).take 4) (.inl rfl) (hu 3 4) (by simp; omega) _) (by simp (disch := first | assumption | omega) only [go_sem, ↓reduceIte, Nat.reduceEqDiff, reduceCtorEq, Nat.reduceAdd, Nat.reduceLeDiff, Nat.reduceLT, reduceIte, Int.reduceBEq, Int.reduceBNe, Int.reduceLT, Int.reduceLE, Int.reduceAdd, Int.reduceSub, Int.reduceMul, Int.reduceNeg, Int.reduceEq, Int.reduceNe, Nat.reduceMul, Nat.reduceSub]) ?_
  rintro _ _ ⟨rfl, hhh⟩
  rw [hhh]
  clear hhh
  simp (disch := first | assumption | omega) only [go_sem, ↓reduceIte, Nat.reduceEqDiff, reduceCtorEq, Nat.reduceAdd, Nat.reduceLeDiff, Nat.reduceLT, reduceIte, Int.reduceBEq, Int.reduceBNe, Int.reduceLT, Int.reduceLE, Int.reduceAdd, Int.reduceSub, Int.reduceMul, Int.reduceNeg, Int.reduceEq, Int.reduceNe, Nat.reduceMul, Nat.reduceSub]
  refine callG_ok (Value_ok .sh ((b.drop 7).take 4) (.inl rfl) (hu 7 4) (by simp; omega) _) (by simp (disch := first | assumption | omega) only [go_sem, ↓reduceIte, Nat.reduceEqDiff, reduceCtorEq, Nat.reduceAdd, Nat.reduceLeDiff, Nat.reduceLT, reduceIte, Int.reduceBEq, Int.reduceBNe, Int.reduceLT, Int.reduceLE, Int.reduceAdd, Int.reduceSub, Int.reduceMul, Int.reduceNeg, Int.reduceEq, Int.reduceNe, Nat.reduceMul, Nat.reduceSub]) ?_
  rintro _ _ ⟨rfl, hhh⟩
  rw [hhh]
  clear hhh
  have hs6 : List.take (13 + 2 * cnt b - Int.toNat 13) (List.drop (Int.toNat 13) (ints .u8 b)) = ints .u8 ((b.drop 13).take (2 * cnt b)) := by
    rw [show 13 + 2 * cnt b - Int.toNat 13 = 2 * cnt b from by show 13 + 2 * cnt b - 13 = _; omega, ints_drop, ints_take]; rfl
  have hm : msgOf b = ⟨b.getD 0 0, b.getD 1 0, b.getD 2 0, val ((b.drop 3).take 4), val ((b.drop 7).take 4), cellsOf ((b.drop 13).take (2 * cnt b))⟩ := rfl
  have hCl : ((b.drop 13).take (2 * cnt b)).length = 2 * cnt b := by simp; omega
  have hCu := hu 13 (2 * cnt b)
  generalize (b.drop 13).take (2 * cnt b) = C at *
  simp (disch := first | assumption | omega) only [h4, hs6, go_sem, ↓reduceIte, Nat.reduceEqDiff, reduceCtorEq, Nat.reduceAdd, Nat.reduceLeDiff, Nat.reduceLT, reduceIte, Int.reduceBEq, Int.reduceBNe, Int.reduceLT, Int.reduceLE, Int.reduceAdd, Int.reduceSub, Int.reduceMul, Int.reduceNeg, Int.reduceEq, Int.reduceNe, Nat.reduceMul, Nat.reduceSub]
  refine ⟨⟨by omega, by omega, ints_width b⟩, ?_⟩
  refine aw_count (fun d S => ∃ (i : Nat) (q : Own), i + d = cnt b ∧ S.env 5 = .lst .sh (ints .u8 (C.drop (2 * i))) ∧ S.env 4 = .box 4 0 ∧ S.boxes 4 = some [.int .i64 (b.getD 0 0), .int .i64 (b.getD 1 0), .int .i64 (b.getD 2 0), .int .i64 (val ((b.drop 3).take 4)), .int .u32 (val ((b.drop 7).take 4)), .lst q (cellsA (cellsOf (C.take (2 * i))))] ∧ (q = .nil ∧ i = 0 ∨ q = .app 2) ∧ S.env 2 = .box 2 0 ∧ S.boxes 2 = some [.int .i64 0, .int .i64 0, .int .i64 0, .int .i64 0, .int .u32 0, .lst .nil []] ∧ S.heap = h) (n := cnt b)
    ⟨0, .nil, by omega, by simp (disch := first | assumption | omega) only [Nat.mul_zero, go_sem, ↓reduceIte, Nat.reduceEqDiff, reduceCtorEq, Nat.reduceAdd, Nat.reduceLeDiff, Nat.reduceLT, reduceIte, Int.reduceBEq, Int.reduceBNe, Int.reduceLT, Int.reduceLE, Int.reduceAdd, Int.reduceSub, Int.reduceMul, Int.reduceNeg, Int.reduceEq, Int.reduceNe, Nat.reduceMul, Nat.reduceSub], by simp (disch := first | assumption | omega) only [go_sem, ↓reduceIte, Nat.reduceEqDiff, reduceCtorEq, Nat.reduceAdd, Nat.reduceLeDiff, Nat.reduceLT, reduceIte, Int.reduceBEq, Int.reduceBNe, Int.reduceLT, Int.reduceLE, Int.reduceAdd, Int.reduceSub, Int.reduceMul, Int.reduceNeg, Int.reduceEq, Int.reduceNe, Nat.reduceMul, Nat.reduceSub], by simp (disch := first | assumption | omega) only [Nat.mul_zero, cellsOf, cellsA, go_sem, ↓reduceIte, Nat.reduceEqDiff, reduceCtorEq, Nat.reduceAdd, Nat.reduceLeDiff, Nat.reduceLT, reduceIte, Int.reduceBEq, Int.reduceBNe, Int.reduceLT, Int.reduceLE, Int.reduceAdd, Int.reduceSub, Int.reduceMul, Int.reduceNeg, Int.reduceEq, Int.reduceNe, Nat.reduceMul, Nat.reduceSub], .inl ⟨rfl, rfl⟩, by simp (disch := first | assumption | omega) only [go_sem, ↓reduceIte, Nat.reduceEqDiff, reduceCtorEq, Nat.reduceAdd, Nat.reduceLeDiff, Nat.reduceLT, reduceIte, Int.reduceBEq, Int.reduceBNe, Int.reduceLT, Int.reduceLE, Int.reduceAdd, Int.reduceSub, Int.reduceMul, Int.reduceNeg, Int.reduceEq, Int.reduceNe, Nat.reduceMul, Nat.reduceSub], by simp (disch := first | assumption | omega) only [go_sem, ↓reduceIte, Nat.reduceEqDiff, reduceCtorEq, Nat.reduceAdd, Nat.reduceLeDiff, Nat.reduceLT, reduceIte, Int.reduceBEq, Int.reduceBNe, Int.reduceLT, Int.reduceLE, Int.reduceAdd, Int.reduceSub, Int.reduceMul, Int.reduceNeg, Int.reduceEq, Int.reduceNe, Nat.reduceMul, Nat.reduceSub], by simp (disch := first | assumption | omega) only [go_sem, ↓reduceIte, Nat.reduceEqDiff, reduceCtorEq, Nat.reduceAdd, Nat.reduceLeDiff, Nat.reduceLT, reduceIte, Int.reduceBEq, Int.reduceBNe, Int.reduceLT, Int.reduceLE, Int.reduceAdd, Int.reduceSub, Int.reduceMul, Int.reduceNeg, Int.reduceEq, Int.reduceNe, Nat.reduceMul, Nat.reduceSub]⟩ ?_
  rintro d S ⟨i, q, hi, e5, e4, x4, hq, e2, x2, eh⟩
  have hDl : (C.drop (2 * i)).length = 2 * cnt b - 2 * i := by rw [List.length_drop, hCl]
  have hDu : ∀ x ∈ C.drop (2 * i), inU8 x := fun x hx => hCu x (List.mem_of_mem_drop hx)
  have hD0 : (C.drop (2 * i)).getD 0 0 = C.getD (2 * i) 0 := by simp [List.getD_eq_getElem?_getD, List.getElem?_drop]
  have hD1 : (C.drop (2 * i)).getD 1 0 = C.getD (2 * i + 1) 0 := by simp [List.getD_eq_getElem?_getD, List.getElem?_drop]
  have hD2 : (C.drop (2 * i)).drop 2 = C.drop (2 * (i + 1)) := by rw [List.drop_drop]; rfl
  have hcl : (cellsOf (C.take (2 * i))).length = i := cellsOf_length i _ (by rw [List.length_take]; omega)
  have hcs := cells_step i C
  generalize C.drop (2 * i) = D at *
  simp (disch := first | assumption | omega) only [e5, e4, x4, e2, x2, eh, go_sem, ↓reduceIte, Nat.reduceEqDiff, reduceCtorEq, Nat.reduceAdd, Nat.reduceLeDiff, Nat.reduceLT, reduceIte, Int.reduceBEq, Int.reduceBNe, Int.reduceLT, Int.reduceLE, Int.reduceAdd, Int.reduceSub, Int.reduceMul, Int.reduceNeg, Int.reduceEq, Int.reduceNe, Nat.reduceMul, Nat.reduceSub]
  refine condG_if (fun hlt => ?_) fun hge => ?_
  · have hlt1 : i < cnt b := by omega
    have c0 : at_ (ints .u8 D) 0 = .int .u8 (D.getD 0 0) := at_ints' D 0 (by omega)
    have c1 : at_ (ints .u8 D) 1 = .int .u8 (D.getD 1 0) := at_ints' D 1 (by omega)
    have w0 : inU8 (D.getD 0 0) := by rw [getD_get (by omega)]; exact hDu _ (List.getElem_mem _)
    have w1 : inU8 (D.getD 1 0) := by rw [getD_get (by omega)]; exact hDu _ (List.getElem_mem _)
    unfold inU8 at w0 w1
    have l1' : (1 : Int) < D.length := by omega
    have l2' : (2 : Int) ≤ D.length := by omega
    have hs7 : List.take (D.length - Int.toNat 2) (List.drop (Int.toNat 2) (ints .u8 D)) = ints .u8 (D.drop 2) := by
      have := take_all (ints .u8 D) (Int.toNat 2)
      rw [← ints_drop]; rwa [ints_length] at this
    have hcs := hcs (by omega)
    rw [hD2] at hs7
    have hcell : cellsA (cellsOf (C.take (2 * i))) ++ [AVal.agg [.int .i64 (D.getD 0 0 - 64), .int .i64 (D.getD 1 0 - 64)]] = cellsA (cellsOf (C.take (2 * (i + 1)))) := by
      rw [hcs, hD0, hD1]; simp [cellsA, cellA]
    have hnil : i = 0 → cellsA (cellsOf (C.take (2 * i))) = [] := fun e => by rw [e]; rfl
    rcases hq with ⟨rfl, h0⟩ | rfl
    case' inl =>
      simp (disch := first | assumption | omega) only [e5, e4, x4, e2, x2, eh, c0, c1, hlt, l1', l2', hs7, go_sem, ↓reduceIte, Nat.reduceEqDiff, reduceCtorEq, Nat.reduceAdd, Nat.reduceLeDiff, Nat.reduceLT, reduceIte, Int.reduceBEq, Int.reduceBNe, Int.reduceLT, Int.reduceLE, Int.reduceAdd, Int.reduceSub, Int.reduceMul, Int.reduceNeg, Int.reduceEq, Int.reduceNe, Nat.reduceMul, Nat.reduceSub]
      refine ⟨hnil h0, ?_⟩
    case' inr =>
      simp (disch := first | assumption | omega) only [e5, e4, x4, e2, x2, eh, c0, c1, hlt, l1', l2', hs7, go_sem, ↓reduceIte, Nat.reduceEqDiff, reduceCtorEq, Nat.reduceAdd, Nat.reduceLeDiff, Nat.reduceLT, reduceIte, Int.reduceBEq, Int.reduceBNe, Int.reduceLT, Int.reduceLE, Int.reduceAdd, Int.reduceSub, Int.reduceMul, Int.reduceNeg, Int.reduceEq, Int.reduceNe, Nat.reduceMul, Nat.reduceSub]
    all_goals
      refine ⟨by omega, by omega, ⟨by omega, ints_width _⟩, d - 1, by omega, i + 1, .app 2, by omega, rfl, by rw [hcell], .inr rfl⟩
  · obtain rfl : i = cnt b := by omega
    have hge' : ¬ (0 : Int) < D.length := by omega
    rw [show C.take (2 * cnt b) = C from by rw [← hCl, List.take_length]] at x4
    have hq' : ∃ q', Rdn q' (msgOf b).Cells ∧ Ge.rdc (.lst q (cellsA (cellsOf C))) = .lst q' (cellsA (cellsOf C)) := by
      rw [hm]
      rcases hq with ⟨rfl, h0⟩ | rfl
      · exact ⟨.nil, ⟨.inr rfl, fun _ => List.eq_nil_of_length_eq_zero (by show (cellsOf C).length = 0; rw [cellsOf_length (cnt b) C hCl]; exact h0)⟩, rfl⟩
      · exact ⟨.sh, ⟨.inl rfl, fun e => by cases e⟩, rfl⟩
    obtain ⟨q', hq1, hq2⟩ := hq'
    simp (disch := first | assumption | omega) only [e5, e4, x4, e2, x2, eh, hq2, go_sem, ↓reduceIte, Nat.reduceEqDiff, reduceCtorEq, Nat.reduceAdd, Nat.reduceLeDiff, Nat.reduceLT, reduceIte, Int.reduceBEq, Int.reduceBNe, Int.reduceLT, Int.reduceLE, Int.reduceAdd, Int.reduceSub, Int.reduceMul, Int.reduceNeg, Int.reduceEq, Int.reduceNe, Nat.reduceMul, Nat.reduceSub]
    subst hQ
    simp (disch := first | assumption | omega) only [R.gantref5_Unframe, e5, e4, x4, e2, x2, eh, go_sem, ↓reduceIte, Nat.reduceEqDiff, reduceCtorEq, Nat.reduceAdd, Nat.reduceLeDiff, Nat.reduceLT, reduceIte, Int.reduceBEq, Int.reduceBNe, Int.reduceLT, Int.reduceLE, Int.reduceAdd, Int.reduceSub, Int.reduceMul, Int.reduceNeg, Int.reduceEq, Int.reduceNe, Nat.reduceMul, Nat.reduceSub]
    exact .inr ⟨hE, q', by rw [hm]; rfl, hq1⟩
end Go.Proofs.Ytpdajkbfemcdlaa
