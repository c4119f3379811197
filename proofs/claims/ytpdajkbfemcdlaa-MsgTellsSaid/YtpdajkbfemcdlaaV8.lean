/- Contracts: messages are read. -/
import Derived.Test.YtpdajkbfemcdlaaV7
set_option linter.unusedSimpArgs false
set_option linter.unusedVariables false
set_option maxRecDepth 10000
namespace Go.Proofs.Ytpdajkbfemcdlaa
open Go.Ge
/-- What comes of bytes that are read. -/
def ReadQ (b : List Int) (v : AVal) : Prop :=
  readE b ≠ 0 ∧ v = .tup [msgA .nil msg0, .int .i64 (readE b)] ∨ readE b = 0 ∧ ∃ q, v = .tup [msgA q (msgOf b), .int .i64 0] ∧ Rdn q (msgOf b).Cells
theorem readE_of {b : List Int} {e : Int} (h : unfE b = e) (hne : e ≠ 0) : readE b = e := by unfold readE; rw [h, if_pos hne]
theorem MRead_ok (o : Own) (b : List Int) (ho : Rdo o) (hb : ∀ x ∈ b, inU8 x) (hl : b.length ≤ 140737488351232) (h : List HObj) :
    ACalls Try.prog F.msg_Read [.lst o (ints .u8 b)] h (fun v h' => ReadQ b v ∧ h' = h) := by
  refine ACalls.of_aw Try.func77 K.msg_Read (by simp [Try.f77]) ?_
  generalize hQ : retQ R.msg_Read _ = Q
  simp (disch := first | assumption | omega) only [C.msg_Read, go_sem, ↓reduceIte, Nat.reduceEqDiff, reduceCtorEq, Nat.reduceAdd, Nat.reduceLeDiff, Nat.reduceLT, reduceIte, Int.reduceBEq, Int.reduceBNe, Int.reduceLT, Int.reduceLE, Int.reduceAdd, Int.reduceSub, Int.reduceMul, Int.reduceNeg, Int.reduceEq, Int.reduceNe, Nat.reduceMul, Nat.reduceSub]
  by_cases h17 : b.length < 17
  · have h17' : (b.length : Int) < 17 := by omega
    have hE : readE b = 14 := readE_of (by unfold unfE; rw [if_pos h17]) (by decide)
    simp (disch := first | assumption | omega) only [h17', go_sem, ↓reduceIte, Nat.reduceEqDiff, reduceCtorEq, Nat.reduceAdd, Nat.reduceLeDiff, Nat.reduceLT, reduceIte, Int.reduceBEq, Int.reduceBNe, Int.reduceLT, Int.reduceLE, Int.reduceAdd, Int.reduceSub, Int.reduceMul, Int.reduceNeg, Int.reduceEq, Int.reduceNe, Nat.reduceMul, Nat.reduceSub]
    subst hQ
    simp (disch := first | assumption | omega) only [R.msg_Read, go_sem, ↓reduceIte, Nat.reduceEqDiff, reduceCtorEq, Nat.reduceAdd, Nat.reduceLeDiff, Nat.reduceLT, reduceIte, Int.reduceBEq, Int.reduceBNe, Int.reduceLT, Int.reduceLE, Int.reduceAdd, Int.reduceSub, Int.reduceMul, Int.reduceNeg, Int.reduceEq, Int.reduceNe, Nat.reduceMul, Nat.reduceSub]
    exact .inl ⟨by rw [hE]; decide, by rw [hE]; rfl⟩
  have h17' : ¬ (b.length : Int) < 17 := by omega
  have hs1 : List.take (Int.toNat 13 - Int.toNat 11) (List.drop (Int.toNat 11) (ints .u8 b)) = ints .u8 ((b.drop 11).take 2) := by
    rw [ints_drop, ints_take]; rfl
  have hu : ∀ (i n : Nat), ∀ x ∈ (b.drop i).take n, inU8 x := fun i n x hx => hb x (List.mem_of_mem_drop (List.mem_of_mem_take hx))
  have hv1 := val_bd _ (hu 11 2)
  have hl1 : ((b.drop 11).take 2).length = 2 := by simp; omega
  have hcv : val ((b.drop 11).take 2) = (cnt b : Int) := by unfold cnt; omega
  rw [hl1, hcv] at hv1
  have hc2 : cnt b < 65536 := by omega
  simp (disch := first | assumption | omega) only [h17', hs1, go_sem, ↓reduceIte, Nat.reduceEqDiff, reduceCtorEq, Nat.reduceAdd, Nat.reduceLeDiff, Nat.reduceLT, reduceIte, Int.reduceBEq, Int.reduceBNe, Int.reduceLT, Int.reduceLE, Int.reduceAdd, Int.reduceSub, Int.reduceMul, Int.reduceNeg, Int.reduceEq, Int.reduceNe, Nat.reduceMul, Nat.reduceSub]
  refine ⟨⟨by omega, ints_width b⟩, ?_⟩
  refine callG_ok (number_ok .sh ((b.drop 11).take 2) (.inl rfl) (hu 11 2) (by omega) _) (by simp (disch := first | assumption | omega) only [go_sem, ↓reduceIte, Nat.reduceEqDiff, reduceCtorEq, Nat.reduceAdd, Nat.reduceLeDiff, Nat.reduceLT, reduceIte, Int.reduceBEq, Int.reduceBNe, Int.reduceLT, Int.reduceLE, Int.reduceAdd, Int.reduceSub, Int.reduceMul, Int.reduceNeg, Int.reduceEq, Int.reduceNe, Nat.reduceMul, Nat.reduceSub]) ?_
  rintro _ _ ⟨rfl, hhh⟩
  rw [hhh, hcv]
  clear hhh
  by_cases hs : b.length < 17 + 2 * cnt b
  · have hs' : (b.length : Int) < 17 + 2 * (cnt b : Int) := by omega
    have hE : readE b = 14 := readE_of (by unfold unfE; rw [if_neg h17, if_pos hs]) (by decide)
    simp (disch := first | assumption | omega) only [h17', hs', hs1, go_sem, ↓reduceIte, Nat.reduceEqDiff, reduceCtorEq, Nat.reduceAdd, Nat.reduceLeDiff, Nat.reduceLT, reduceIte, Int.reduceBEq, Int.reduceBNe, Int.reduceLT, Int.reduceLE, Int.reduceAdd, Int.reduceSub, Int.reduceMul, Int.reduceNeg, Int.reduceEq, Int.reduceNe, Nat.reduceMul, Nat.reduceSub]
    subst hQ
    simp (disch := first | assumption | omega) only [R.msg_Read, go_sem, ↓reduceIte, Nat.reduceEqDiff, reduceCtorEq, Nat.reduceAdd, Nat.reduceLeDiff, Nat.reduceLT, reduceIte, Int.reduceBEq, Int.reduceBNe, Int.reduceLT, Int.reduceLE, Int.reduceAdd, Int.reduceSub, Int.reduceMul, Int.reduceNeg, Int.reduceEq, Int.reduceNe, Nat.reduceMul, Nat.reduceSub]
    exact .inl ⟨by rw [hE]; decide, by rw [hE]; rfl⟩
  have hs' : ¬ (b.length : Int) < 17 + 2 * (cnt b : Int) := by omega
  by_cases hg : b.length > 17 + 2 * cnt b
  · have hg' : 17 + 2 * (cnt b : Int) < (b.length : Int) := by omega
    have hE : readE b = 3 := readE_of (by unfold unfE; rw [if_neg h17, if_neg hs, if_pos hg]) (by decide)
    simp (disch := first | assumption | omega) only [h17', hs', hg', hs1, go_sem, ↓reduceIte, Nat.reduceEqDiff, reduceCtorEq, Nat.reduceAdd, Nat.reduceLeDiff, Nat.reduceLT, reduceIte, Int.reduceBEq, Int.reduceBNe, Int.reduceLT, Int.reduceLE, Int.reduceAdd, Int.reduceSub, Int.reduceMul, Int.reduceNeg, Int.reduceEq, Int.reduceNe, Nat.reduceMul, Nat.reduceSub]
    subst hQ
    simp (disch := first | assumption | omega) only [R.msg_Read, go_sem, ↓reduceIte, Nat.reduceEqDiff, reduceCtorEq, Nat.reduceAdd, Nat.reduceLeDiff, Nat.reduceLT, reduceIte, Int.reduceBEq, Int.reduceBNe, Int.reduceLT, Int.reduceLE, Int.reduceAdd, Int.reduceSub, Int.reduceMul, Int.reduceNeg, Int.reduceEq, Int.reduceNe, Nat.reduceMul, Nat.reduceSub]
    exact .inl ⟨by rw [hE]; decide, by rw [hE]; rfl⟩
  have hg' : ¬ 17 + 2 * (cnt b : Int) < (b.length : Int) := by omega
  have hbl : b.length = 17 + 2 * cnt b := by omega
  have h4 : (13 + 2 * (cnt b : Int)).toNat = 13 + 2 * cnt b := by omega
  have hs2 : List.take (b.length - (13 + 2 * cnt b)) (List.drop (13 + 2 * cnt b) (ints .u8 b)) = ints .u8 (b.drop (13 + 2 * cnt b)) := by
    have := take_all (ints .u8 b) (13 + 2 * cnt b)
    rw [← ints_drop]; rwa [ints_length] at this
  have hs3 : List.take (13 + 2 * cnt b) (ints .u8 b) = ints .u8 (b.take (13 + 2 * cnt b)) := by rw [ints_take]
  have hl2 : (b.drop (13 + 2 * cnt b)).length ≤ 4 := by simp; omega
  have hl3 : (b.take (13 + 2 * cnt b)).length ≤ 1099511627776 := by simp; omega
  have hu2 : ∀ x ∈ b.drop (13 + 2 * cnt b), inU8 x := fun x hx => hb x (List.mem_of_mem_drop hx)
  have hu3 : ∀ x ∈ b.take (13 + 2 * cnt b), inU8 x := fun x hx => hb x (List.mem_of_mem_take hx)
  simp (disch := first | assumption | omega) only [h17', hs', hg', hs1, h4, hs2, hs3, go_sem, ↓reduceIte, Nat.reduceEqDiff, reduceCtorEq, Nat.reduceAdd, Nat.reduceLeDiff, Nat.reduceLT, reduceIte, Int.reduceBEq, Int.reduceBNe, Int.reduceLT, Int.reduceLE, Int.reduceAdd, Int.reduceSub, Int.reduceMul, Int.reduceNeg, Int.reduceEq, Int.reduceNe, Nat.reduceMul, Nat.reduceSub]
  refine ⟨⟨by omega, by omega, by omega, ints_width b⟩, ⟨by omega, by omega, ints_width b⟩, ?_⟩
  refine callG_ok (number_ok .sh (b.drop (13 + 2 * cnt b)) (.inl rfl) hu2 hl2 _) (by simp (disch := first | assumption | omega) only [go_sem, ↓reduceIte, Nat.reduceEqDiff, reduceCtorEq, Nat.reduceAdd, Nat.reduceLeDiff, Nat.reduceLT, reduceIte, Int.reduceBEq, Int.reduceBNe, Int.reduceLT, Int.reduceLE, Int.reduceAdd, Int.reduceSub, Int.reduceMul, Int.reduceNeg, Int.reduceEq, Int.reduceNe, Nat.reduceMul, Nat.reduceSub]) ?_
  rintro _ _ ⟨rfl, hhh⟩
  rw [hhh]
  clear hhh
  simp (disch := first | assumption | omega) only [h17', hs', hg', hs1, h4, hs2, hs3, go_sem, ↓reduceIte, Nat.reduceEqDiff, reduceCtorEq, Nat.reduceAdd, Nat.reduceLeDiff, Nat.reduceLT, reduceIte, Int.reduceBEq, Int.reduceBNe, Int.reduceLT, Int.reduceLE, Int.reduceAdd, Int.reduceSub, Int.reduceMul, Int.reduceNeg, Int.reduceEq, Int.reduceNe, Nat.reduceMul, Nat.reduceSub]
  refine callG_ok (Sum_ok .sh (b.take (13 + 2 * cnt b)) (.inl rfl) hu3 (by omega) _) (by simp (disch := first | assumption | omega) only [go_sem, ↓reduceIte, Nat.reduceEqDiff, reduceCtorEq, Nat.reduceAdd, Nat.reduceLeDiff, Nat.reduceLT, reduceIte, Int.reduceBEq, Int.reduceBNe, Int.reduceLT, Int.reduceLE, Int.reduceAdd, Int.reduceSub, Int.reduceMul, Int.reduceNeg, Int.reduceEq, Int.reduceNe, Nat.reduceMul, Nat.reduceSub]) ?_
  rintro _ _ ⟨rfl, hhh⟩
  rw [hhh]
  clear hhh
  have hib := iv_bd (crc (b.take (13 + 2 * cnt b)))
  by_cases heq : val (b.drop (13 + 2 * cnt b)) = iv (crc (b.take (13 + 2 * cnt b)))
  case neg =>
    have hE : readE b = 13 := readE_of (by unfold unfE; rw [if_neg h17, if_neg hs, if_neg hg, if_pos heq]) (by decide)
    simp (disch := first | assumption | omega) only [heq, go_sem, ↓reduceIte, Nat.reduceEqDiff, reduceCtorEq, Nat.reduceAdd, Nat.reduceLeDiff, Nat.reduceLT, reduceIte, Int.reduceBEq, Int.reduceBNe, Int.reduceLT, Int.reduceLE, Int.reduceAdd, Int.reduceSub, Int.reduceMul, Int.reduceNeg, Int.reduceEq, Int.reduceNe, Nat.reduceMul, Nat.reduceSub]
    subst hQ
    simp (disch := first | assumption | omega) only [R.msg_Read, go_sem, ↓reduceIte, Nat.reduceEqDiff, reduceCtorEq, Nat.reduceAdd, Nat.reduceLeDiff, Nat.reduceLT, reduceIte, Int.reduceBEq, Int.reduceBNe, Int.reduceLT, Int.reduceLE, Int.reduceAdd, Int.reduceSub, Int.reduceMul, Int.reduceNeg, Int.reduceEq, Int.reduceNe, Nat.reduceMul, Nat.reduceSub]
    exact .inl ⟨by rw [hE]; decide, by rw [hE]; rfl⟩
  have hE : unfE b = 0 := by unfold unfE; rw [if_neg h17, if_neg hs, if_neg hg, if_neg (by simp [heq])]
  have hE' : readE b = checkF (msgOf b) := by unfold readE; rw [hE, if_neg (by simp)]
  have hs4 : List.take (Int.toNat 7 - Int.toNat 3) (List.drop (Int.toNat 3) (ints .u8 b)) = ints .u8 ((b.drop 3).take 4) := by
    rw [ints_drop, ints_take]; rfl
  have hs5 : List.take (Int.toNat 11 - Int.toNat 7) (List.drop (Int.toNat 7) (ints .u8 b)) = ints .u8 ((b.drop 7).take 4) := by
    rw [ints_drop, ints_take]; rfl
  have a0 : at_ (ints .u8 b) 0 = .int .u8 (b.getD 0 0) := at_ints' b 0 (by omega)
  have a1 : at_ (ints .u8 b) 1 = .int .u8 (b.getD 1 0) := at_ints' b 1 (by omega)
  have a2 : at_ (ints .u8 b) 2 = .int .u8 (b.getD 2 0) := at_ints' b 2 (by omega)
  have u0 : inU8 (b.getD 0 0) := by rw [getD_get (by omega)]; exact hb _ (List.getElem_mem _)
  have u1 : inU8 (b.getD 1 0) := by rw [getD_get (by omega)]; exact hb _ (List.getElem_mem _)
  have u2 : inU8 (b.getD 2 0) := by rw [getD_get (by omega)]; exact hb _ (List.getElem_mem _)
  unfold inU8 at u0 u1 u2
  have b4 := val_bd4 (hu 3 4) (by simp; omega)
  have b5 := val_bd4 (hu 7 4) (by simp; omega)
  have l0 : (0 : Int) < b.length := by omega
  have l1 : (1 : Int) < b.length := by omega
  have l2 : (2 : Int) < b.length := by omega
  have l3 : (3 : Int) ≤ b.length := by omega
  have l7 : (7 : Int) ≤ b.length := by omega
  have l11 : (11 : Int) ≤ b.length := by omega
  simp (disch := first | assumption | omega) only [eq_true heq, hs4, hs5, a0, a1, a2, l0, l1, l2, l3, l7, l11, go_sem, ↓reduceIte, Nat.reduceEqDiff, reduceCtorEq, Nat.reduceAdd, Nat.reduceLeDiff, Nat.reduceLT, reduceIte, Int.reduceBEq, Int.reduceBNe, Int.reduceLT, Int.reduceLE, Int.reduceAdd, Int.reduceSub, Int.reduceMul, Int.reduceNeg, Int.reduceEq, Int.reduceNe, Nat.reduceMul, Nat.reduceSub]
  refine ⟨ints_width b, ints_width b, ?_⟩
  refine callG_ok (number_ok .sh ((b.drop 3).take 4) (.inl rfl) (hu 3 4) (by simp; omega) _) (by simp (disch := first | assumption | omega) only [go_sem, ↓reduceIte, Nat.reduceEqDiff, reduceCtorEq, Nat.reduceAdd, Nat.reduceLeDiff, Nat.reduceLT, reduceIte, Int.reduceBEq, Int.reduceBNe, Int.reduceLT, Int.reduceLE, Int.reduceAdd, Int.reduceSub, Int.reduceMul, Int.reduceNeg, Int.reduceEq, Int.reduceNe, Nat.reduceMul, Nat.reduceSub]) ?_
  rintro _ _ ⟨rfl, hhh⟩
  rw [hhh]
  clear hhh
  simp (disch := first | assumption | omega) only [go_sem, ↓reduceIte, Nat.reduceEqDiff, reduceCtorEq, Nat.reduceAdd, Nat.reduceLeDiff, Nat.reduceLT, reduceIte, Int.reduceBEq, Int.reduceBNe, Int.reduceLT, Int.reduceLE, Int.reduceAdd, Int.reduceSub, Int.reduceMul, Int.reduceNeg, Int.reduceEq, Int.reduceNe, Nat.reduceMul, Nat.reduceSub]
  refine callG_ok (number_ok .sh ((b.drop 7).take 4) (.inl rfl) (hu 7 4) (by simp; omega) _) (by simp (disch := first | assumption | omega) only [go_sem, ↓reduceIte, Nat.reduceEqDiff, reduceCtorEq, Nat.reduceAdd, Nat.reduceLeDiff, Nat.reduceLT, reduceIte, Int.reduceBEq, Int.reduceBNe, Int.reduceLT, Int.reduceLE, Int.reduceAdd, Int.reduceSub, Int.reduceMul, Int.reduceNeg, Int.reduceEq, Int.reduceNe, Nat.reduceMul, Nat.reduceSub]) ?_
  rintro _ _ ⟨rfl, hhh⟩
  rw [hhh]
  clear hhh
  have hm : msgOf b = ⟨b.getD 0 0, b.getD 1 0, b.getD 2 0, val ((b.drop 3).take 4), val ((b.drop 7).take 4), cellsOf ((b.drop 13).take (2 * cnt b))⟩ := rfl
  have hCl : ((b.drop 13).take (2 * cnt b)).length = 2 * cnt b := by simp; omega
  have hCg : ∀ i, i < 2 * cnt b → ((b.drop 13).take (2 * cnt b)).getD i 0 = b.getD (13 + i) 0 := by
    intro i hi
    simp [List.getD_eq_getElem?_getD, List.getElem?_take, List.getElem?_drop, hi]
  generalize (b.drop 13).take (2 * cnt b) = C at *
  simp (disch := first | assumption | omega) only [go_sem, ↓reduceIte, Nat.reduceEqDiff, reduceCtorEq, Nat.reduceAdd, Nat.reduceLeDiff, Nat.reduceLT, reduceIte, Int.reduceBEq, Int.reduceBNe, Int.reduceLT, Int.reduceLE, Int.reduceAdd, Int.reduceSub, Int.reduceMul, Int.reduceNeg, Int.reduceEq, Int.reduceNe, Nat.reduceMul, Nat.reduceSub]
  refine aw_count (fun d S => ∃ (i : Nat) (q : Own), i + d = cnt b ∧ S.env 68 = .int .i64 i ∧ S.env 67 = .int .i64 (cnt b) ∧ S.env 0 = .lst o (ints .u8 b) ∧ S.env 5 = .box 5 0 ∧ S.boxes 5 = some [.int .i64 (b.getD 0 0), .int .i64 (b.getD 1 0), .int .i64 (b.getD 2 0), .int .i64 (val ((b.drop 3).take 4)), .int .u32 (val ((b.drop 7).take 4)), .lst q (cellsA (cellsOf (C.take (2 * i))))] ∧ (q = .nil ∧ i = 0 ∨ q = .app 2) ∧ S.env 2 = .box 2 0 ∧ S.boxes 2 = some [.int .i64 0, .int .i64 0, .int .i64 0, .int .i64 0, .int .u32 0, .lst .nil []] ∧ S.heap = h) (n := cnt b)
    ⟨0, .nil, by omega, by simp (disch := first | assumption | omega) only [go_sem, ↓reduceIte, Nat.reduceEqDiff, reduceCtorEq, Nat.reduceAdd, Nat.reduceLeDiff, Nat.reduceLT, reduceIte, Int.reduceBEq, Int.reduceBNe, Int.reduceLT, Int.reduceLE, Int.reduceAdd, Int.reduceSub, Int.reduceMul, Int.reduceNeg, Int.reduceEq, Int.reduceNe, Nat.reduceMul, Nat.reduceSub], by simp (disch := first | assumption | omega) only [go_sem, ↓reduceIte, Nat.reduceEqDiff, reduceCtorEq, Nat.reduceAdd, Nat.reduceLeDiff, Nat.reduceLT, reduceIte, Int.reduceBEq, Int.reduceBNe, Int.reduceLT, Int.reduceLE, Int.reduceAdd, Int.reduceSub, Int.reduceMul, Int.reduceNeg, Int.reduceEq, Int.reduceNe, Nat.reduceMul, Nat.reduceSub], by simp (disch := first | assumption | omega) only [go_sem, ↓reduceIte, Nat.reduceEqDiff, reduceCtorEq, Nat.reduceAdd, Nat.reduceLeDiff, Nat.reduceLT, reduceIte, Int.reduceBEq, Int.reduceBNe, Int.reduceLT, Int.reduceLE, Int.reduceAdd, Int.reduceSub, Int.reduceMul, Int.reduceNeg, Int.reduceEq, Int.reduceNe, Nat.reduceMul, Nat.reduceSub], by simp (disch := first | assumption | omega) only [go_sem, ↓reduceIte, Nat.reduceEqDiff, reduceCtorEq, Nat.reduceAdd, Nat.reduceLeDiff, Nat.reduceLT, reduceIte, Int.reduceBEq, Int.reduceBNe, Int.reduceLT, Int.reduceLE, Int.reduceAdd, Int.reduceSub, Int.reduceMul, Int.reduceNeg, Int.reduceEq, Int.reduceNe, Nat.reduceMul, Nat.reduceSub], by simp (disch := first | assumption | omega) only [Nat.mul_zero, cellsOf, cellsA, go_sem, ↓reduceIte, Nat.reduceEqDiff, reduceCtorEq, Nat.reduceAdd, Nat.reduceLeDiff, Nat.reduceLT, reduceIte, Int.reduceBEq, Int.reduceBNe, Int.reduceLT, Int.reduceLE, Int.reduceAdd, Int.reduceSub, Int.reduceMul, Int.reduceNeg, Int.reduceEq, Int.reduceNe, Nat.reduceMul, Nat.reduceSub], .inl ⟨rfl, rfl⟩, by simp (disch := first | assumption | omega) only [go_sem, ↓reduceIte, Nat.reduceEqDiff, reduceCtorEq, Nat.reduceAdd, Nat.reduceLeDiff, Nat.reduceLT, reduceIte, Int.reduceBEq, Int.reduceBNe, Int.reduceLT, Int.reduceLE, Int.reduceAdd, Int.reduceSub, Int.reduceMul, Int.reduceNeg, Int.reduceEq, Int.reduceNe, Nat.reduceMul, Nat.reduceSub], by simp (disch := first | assumption | omega) only [go_sem, ↓reduceIte, Nat.reduceEqDiff, reduceCtorEq, Nat.reduceAdd, Nat.reduceLeDiff, Nat.reduceLT, reduceIte, Int.reduceBEq, Int.reduceBNe, Int.reduceLT, Int.reduceLE, Int.reduceAdd, Int.reduceSub, Int.reduceMul, Int.reduceNeg, Int.reduceEq, Int.reduceNe, Nat.reduceMul, Nat.reduceSub], by simp (disch := first | assumption | omega) only [go_sem, ↓reduceIte, Nat.reduceEqDiff, reduceCtorEq, Nat.reduceAdd, Nat.reduceLeDiff, Nat.reduceLT, reduceIte, Int.reduceBEq, Int.reduceBNe, Int.reduceLT, Int.reduceLE, Int.reduceAdd, Int.reduceSub, Int.reduceMul, Int.reduceNeg, Int.reduceEq, Int.reduceNe, Nat.reduceMul, Nat.reduceSub]⟩ ?_
  rintro d S ⟨i, q, hi, e68, e67, e0, e5, x5, hq, e2, x2, eh⟩
  have hcl : (cellsOf (C.take (2 * i))).length = i := cellsOf_length i _ (by rw [List.length_take]; omega)
  have hcs := cells_step i C
  simp (disch := first | assumption | omega) only [e68, e67, e0, e5, x5, e2, x2, eh, go_sem, ↓reduceIte, Nat.reduceEqDiff, reduceCtorEq, Nat.reduceAdd, Nat.reduceLeDiff, Nat.reduceLT, reduceIte, Int.reduceBEq, Int.reduceBNe, Int.reduceLT, Int.reduceLE, Int.reduceAdd, Int.reduceSub, Int.reduceMul, Int.reduceNeg, Int.reduceEq, Int.reduceNe, Nat.reduceMul, Nat.reduceSub]
  refine condG_if (fun hlt => ?_) fun hge => ?_
  · have hlt1 : i < cnt b := by omega
    have c0 : at_ (ints .u8 b) (13 + 2 * (i : Int)) = .int .u8 (b.getD (13 + 2 * i) 0) := by
      have := at_ints' (k := .u8) b (13 + 2 * i) (by omega)
      rwa [show ((13 + 2 * i : Nat) : Int) = 13 + 2 * (i : Int) from by omega] at this
    have c1 : at_ (ints .u8 b) (14 + 2 * (i : Int)) = .int .u8 (b.getD (14 + 2 * i) 0) := by
      have := at_ints' (k := .u8) b (14 + 2 * i) (by omega)
      rwa [show ((14 + 2 * i : Nat) : Int) = 14 + 2 * (i : Int) from by omega] at this
    have w0 : inU8 (b.getD (13 + 2 * i) 0) := by rw [getD_get (by omega)]; exact hb _ (List.getElem_mem _)
    have w1 : inU8 (b.getD (14 + 2 * i) 0) := by rw [getD_get (by omega)]; exact hb _ (List.getElem_mem _)
    unfold inU8 at w0 w1
    have m1 : (0 : Int) ≤ 13 + 2 * (i : Int) := by omega
    have m2 : 13 + 2 * (i : Int) < b.length := by omega
    have m3 : (0 : Int) ≤ 14 + 2 * (i : Int) := by omega
    have m4 : 14 + 2 * (i : Int) < b.length := by omega
    have hcell : cellsA (cellsOf (C.take (2 * i))) ++ [AVal.agg [.int .i64 (b.getD (13 + 2 * i) 0 - 64), .int .i64 (b.getD (14 + 2 * i) 0 - 64)]] = cellsA (cellsOf (C.take (2 * (i + 1)))) := by
      rw [hcs (by omega), hCg _ (by omega), hCg _ (by omega), show 13 + (2 * i + 1) = 14 + 2 * i from by omega]; simp [cellsA, cellA]
    have hnil : i = 0 → cellsA (cellsOf (C.take (2 * i))) = [] := fun e => by rw [e]; rfl
    rcases hq with ⟨rfl, h0⟩ | rfl
    case' inl =>
      simp (disch := first | assumption | omega) only [e68, e67, e0, e5, x5, e2, x2, eh, c0, c1, m1, m2, m3, m4, go_sem, ↓reduceIte, Nat.reduceEqDiff, reduceCtorEq, Nat.reduceAdd, Nat.reduceLeDiff, Nat.reduceLT, reduceIte, Int.reduceBEq, Int.reduceBNe, Int.reduceLT, Int.reduceLE, Int.reduceAdd, Int.reduceSub, Int.reduceMul, Int.reduceNeg, Int.reduceEq, Int.reduceNe, Nat.reduceMul, Nat.reduceSub]
      refine ⟨hnil h0, ?_⟩
    case' inr =>
      simp (disch := first | assumption | omega) only [e68, e67, e0, e5, x5, e2, x2, eh, c0, c1, m1, m2, m3, m4, go_sem, ↓reduceIte, Nat.reduceEqDiff, reduceCtorEq, Nat.reduceAdd, Nat.reduceLeDiff, Nat.reduceLT, reduceIte, Int.reduceBEq, Int.reduceBNe, Int.reduceLT, Int.reduceLE, Int.reduceAdd, Int.reduceSub, Int.reduceMul, Int.reduceNeg, Int.reduceEq, Int.reduceNe, Nat.reduceMul, Nat.reduceSub]
    all_goals
      refine ⟨by omega, by omega, d - 1, by omega, i + 1, .app 2, by omega, by simp, by rw [hcell], .inr rfl⟩
  · obtain rfl : i = cnt b := by omega
    rw [show C.take (2 * cnt b) = C from by rw [← hCl, List.take_length]] at x5
    have hq' : ∃ q', Rdn q' (msgOf b).Cells ∧ Ge.rdc (.lst q (cellsA (cellsOf C))) = .lst q' (cellsA (cellsOf C)) := by
      rw [hm]
      rcases hq with ⟨rfl, h0⟩ | rfl
      · exact ⟨.nil, ⟨.inr rfl, fun _ => List.eq_nil_of_length_eq_zero (by show (cellsOf C).length = 0; rw [cellsOf_length (cnt b) C hCl]; exact h0)⟩, rfl⟩
      · exact ⟨.sh, ⟨.inl rfl, fun e => by cases e⟩, rfl⟩
    obtain ⟨q', hq1, hq2⟩ := hq'
    have hq3 : Ge.rdc (.lst q' (cellsA (cellsOf C))) = .lst q' (cellsA (cellsOf C)) := by rcases hq1.1 with e | e <;> rw [e] <;> rfl
    have hlc : (msgOf b).Cells.length < 4611686018427387904 := by rw [hm]; show (cellsOf C).length < _; rw [cellsOf_length (cnt b) C hCl]; omega
    simp (disch := first | assumption | omega) only [e68, e67, e0, e5, x5, e2, x2, eh, hq2, hq3, go_sem, ↓reduceIte, Nat.reduceEqDiff, reduceCtorEq, Nat.reduceAdd, Nat.reduceLeDiff, Nat.reduceLT, reduceIte, Int.reduceBEq, Int.reduceBNe, Int.reduceLT, Int.reduceLE, Int.reduceAdd, Int.reduceSub, Int.reduceMul, Int.reduceNeg, Int.reduceEq, Int.reduceNe, Nat.reduceMul, Nat.reduceSub]
    have hme : msgA q' (msgOf b) = .agg [.int .i64 (b.getD 0 0), .int .i64 (b.getD 1 0), .int .i64 (b.getD 2 0), .int .i64 (val ((b.drop 3).take 4)), .int .u32 (val ((b.drop 7).take 4)), .lst q' (cellsA (cellsOf C))] := by rw [hm]; rfl
    have hck := fun hp => Check_ok q' (msgOf b) hq1.1 hlc hp
    rw [hme] at hck
    refine callG_ok (hck _) (by simp (disch := first | assumption | omega) only [go_sem, ↓reduceIte, Nat.reduceEqDiff, reduceCtorEq, Nat.reduceAdd, Nat.reduceLeDiff, Nat.reduceLT, reduceIte, Int.reduceBEq, Int.reduceBNe, Int.reduceLT, Int.reduceLE, Int.reduceAdd, Int.reduceSub, Int.reduceMul, Int.reduceNeg, Int.reduceEq, Int.reduceNe, Nat.reduceMul, Nat.reduceSub]) ?_
    rintro _ _ ⟨rfl, hhh⟩
    rw [hhh]
    clear hhh
    by_cases hc : checkF (msgOf b) = 0
    · simp (disch := first | assumption | omega) only [e68, e67, e0, e5, x5, e2, x2, eh, hc, hq2, hq3, go_sem, ↓reduceIte, Nat.reduceEqDiff, reduceCtorEq, Nat.reduceAdd, Nat.reduceLeDiff, Nat.reduceLT, reduceIte, Int.reduceBEq, Int.reduceBNe, Int.reduceLT, Int.reduceLE, Int.reduceAdd, Int.reduceSub, Int.reduceMul, Int.reduceNeg, Int.reduceEq, Int.reduceNe, Nat.reduceMul, Nat.reduceSub]
      subst hQ
      simp (disch := first | assumption | omega) only [R.msg_Read, e68, e67, e0, e5, x5, e2, x2, eh, go_sem, ↓reduceIte, Nat.reduceEqDiff, reduceCtorEq, Nat.reduceAdd, Nat.reduceLeDiff, Nat.reduceLT, reduceIte, Int.reduceBEq, Int.reduceBNe, Int.reduceLT, Int.reduceLE, Int.reduceAdd, Int.reduceSub, Int.reduceMul, Int.reduceNeg, Int.reduceEq, Int.reduceNe, Nat.reduceMul, Nat.reduceSub]
      exact .inr ⟨by rw [hE', hc], q', by rw [hm]; rfl, hq1⟩
    · simp (disch := first | assumption | omega) only [e68, e67, e0, e5, x5, e2, x2, eh, hc, hq2, hq3, go_sem, ↓reduceIte, Nat.reduceEqDiff, reduceCtorEq, Nat.reduceAdd, Nat.reduceLeDiff, Nat.reduceLT, reduceIte, Int.reduceBEq, Int.reduceBNe, Int.reduceLT, Int.reduceLE, Int.reduceAdd, Int.reduceSub, Int.reduceMul, Int.reduceNeg, Int.reduceEq, Int.reduceNe, Nat.reduceMul, Nat.reduceSub]
      subst hQ
      simp (disch := first | assumption | omega) only [R.msg_Read, e68, e67, e0, e5, x5, e2, x2, eh, go_sem, ↓reduceIte, Nat.reduceEqDiff, reduceCtorEq, Nat.reduceAdd, Nat.reduceLeDiff, Nat.reduceLT, reduceIte, Int.reduceBEq, Int.reduceBNe, Int.reduceLT, Int.reduceLE, Int.reduceAdd, Int.reduceSub, Int.reduceMul, Int.reduceNeg, Int.reduceEq, Int.reduceNe, Nat.reduceMul, Nat.reduceSub]
      exact .inl ⟨by rw [hE']; exact hc, by rw [hE']; rfl⟩
end Go.Proofs.Ytpdajkbfemcdlaa
