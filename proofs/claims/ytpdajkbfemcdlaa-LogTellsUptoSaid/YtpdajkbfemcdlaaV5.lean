/- Contracts: the second implementation reads logs. -/
import Derived.Test.YtpdajkbfemcdlaaV4
set_option linter.unusedSimpArgs false
set_option linter.unusedVariables false
set_option maxRecDepth 10000
namespace Go.Proofs.Ytpdajkbfemcdlaa
open Go.Ge
theorem Records_ok (o : Own) (b : List Int) (ho : Rdo o) (hb : ∀ x ∈ b, inU8 x) (hl : b.length ≤ 1099511627776) (h : List HObj) :
    ACalls Try.prog F.gantref5_Records [.lst o (ints .u8 b)] h (fun v h' => (∃ rs x, v = .tup [x, .int .i64 (book 0 rs).length] ∧ Recs rs x ∧ IsScan b rs) ∧ h' = h) := by
  refine ACalls.of_aw Try.func67 K.gantref5_Records (by simp [Try.f67]) ?_
  generalize hQ : retQ R.gantref5_Records _ = Q
  simp (disch := first | assumption | omega) only [C.gantref5_Records, go_sem, ↓reduceIte, Nat.reduceEqDiff, reduceCtorEq, Nat.reduceAdd, Nat.reduceLeDiff, Nat.reduceLT, reduceIte, Int.reduceBEq, Int.reduceBNe, Int.reduceLT, Int.reduceLE, Int.reduceAdd, Int.reduceSub, Int.reduceMul, Int.reduceNeg, Int.reduceEq, Int.reduceNe, Nat.reduceMul, Nat.reduceSub]
  refine aw_count (fun d S => ∃ (rs : List (List Int)) (x : AVal), (book 0 rs).length + d = b.length ∧ S.env 0 = .lst o (ints .u8 b) ∧ S.env 4 = x ∧ S.env 5 = .int .i64 (book 0 rs).length ∧ S.env 6 = .lst .sh (ints .u8 (four (lastOf 0 rs))) ∧ Recs rs x ∧ (∀ r ∈ rs, r.length ≤ 2000) ∧ book 0 rs <+: b ∧ S.heap = h) (n := b.length)
    ⟨[], .lst .nil [], by simp [book], by simp (disch := first | assumption | omega) only [go_sem, ↓reduceIte, Nat.reduceEqDiff, reduceCtorEq, Nat.reduceAdd, Nat.reduceLeDiff, Nat.reduceLT, reduceIte, Int.reduceBEq, Int.reduceBNe, Int.reduceLT, Int.reduceLE, Int.reduceAdd, Int.reduceSub, Int.reduceMul, Int.reduceNeg, Int.reduceEq, Int.reduceNe, Nat.reduceMul, Nat.reduceSub], by simp (disch := first | assumption | omega) only [go_sem, ↓reduceIte, Nat.reduceEqDiff, reduceCtorEq, Nat.reduceAdd, Nat.reduceLeDiff, Nat.reduceLT, reduceIte, Int.reduceBEq, Int.reduceBNe, Int.reduceLT, Int.reduceLE, Int.reduceAdd, Int.reduceSub, Int.reduceMul, Int.reduceNeg, Int.reduceEq, Int.reduceNe, Nat.reduceMul, Nat.reduceSub], by simp (disch := first | assumption | omega) only [book, go_sem, ↓reduceIte, Nat.reduceEqDiff, reduceCtorEq, Nat.reduceAdd, Nat.reduceLeDiff, Nat.reduceLT, reduceIte, Int.reduceBEq, Int.reduceBNe, Int.reduceLT, Int.reduceLE, Int.reduceAdd, Int.reduceSub, Int.reduceMul, Int.reduceNeg, Int.reduceEq, Int.reduceNe, Nat.reduceMul, Nat.reduceSub], by simp (disch := first | assumption | omega) only [lastOf, four, be4, go_sem, ↓reduceIte, Nat.reduceEqDiff, reduceCtorEq, Nat.reduceAdd, Nat.reduceLeDiff, Nat.reduceLT, reduceIte, Int.reduceBEq, Int.reduceBNe, Int.reduceLT, Int.reduceLE, Int.reduceAdd, Int.reduceSub, Int.reduceMul, Int.reduceNeg, Int.reduceEq, Int.reduceNe, Nat.reduceMul, Nat.reduceSub]; rfl, ⟨.nil, [], rfl, rfl, .inl ⟨rfl, rfl⟩⟩, by simp, by simp [book], by simp (disch := first | assumption | omega) only [go_sem, ↓reduceIte, Nat.reduceEqDiff, reduceCtorEq, Nat.reduceAdd, Nat.reduceLeDiff, Nat.reduceLT, reduceIte, Int.reduceBEq, Int.reduceBNe, Int.reduceLT, Int.reduceLE, Int.reduceAdd, Int.reduceSub, Int.reduceMul, Int.reduceNeg, Int.reduceEq, Int.reduceNe, Nat.reduceMul, Nat.reduceSub]⟩ ?_
  rintro d S ⟨rs, x, hi, e0, e4, e5, e6, hR, hS, hP, eh⟩
  obtain ⟨q, xs, rfl, hE, hq⟩ := hR
  have hlast := lastOf_bd 0 rs (by omega) (by omega)
  have hz : (List.take (b.length - (book 0 rs).length) (List.drop (book 0 rs).length (ints IntKind.u8 b))) = ints .u8 (b.drop (book 0 rs).length) := by
    rw [← ints_drop]
    have := take_all (ints .u8 b) (book 0 rs).length
    rwa [ints_length] at this
  have hzl : (b.drop (book 0 rs).length).length = b.length - (book 0 rs).length := by simp
  have hzu : ∀ x ∈ b.drop (book 0 rs).length, inU8 x := fun x hx => hb x (List.mem_of_mem_drop hx)
  have hno : ∀ r : List Int, book 0 (rs ++ [r]) <+: b → recB (lastOf 0 rs) r <+: b.drop (book 0 rs).length := fun r hr => next_rec hr
  have hyes : ∀ r : List Int, recB (lastOf 0 rs) r <+: b.drop (book 0 rs).length → book 0 (rs ++ [r]) <+: b := fun r hr => next_of hP hr
  generalize hbk : (book 0 rs).length = k at *
  generalize hla : lastOf 0 rs = last at *
  generalize hzd : b.drop k = z at *
  have hb1 := hlast.1
  simp (disch := first | assumption | omega) only [e0, e4, e5, e6, eh, hz, go_sem, ↓reduceIte, Nat.reduceEqDiff, reduceCtorEq, Nat.reduceAdd, Nat.reduceLeDiff, Nat.reduceLT, reduceIte, Int.reduceBEq, Int.reduceBNe, Int.reduceLT, Int.reduceLE, Int.reduceAdd, Int.reduceSub, Int.reduceMul, Int.reduceNeg, Int.reduceEq, Int.reduceNe, Nat.reduceMul, Nat.reduceSub]
  refine ⟨⟨by omega, by omega, ints_width b⟩, ?_⟩
  have fin : ∀ S' : AState, (∀ r : List Int, r.length ≤ 2000 → ¬ recB last r <+: z) → S'.env 2 = .lst q xs → S'.env 3 = .int .i64 k → S'.heap = h → Q AExit.ret S' := by
    intro S' hmax f2 f3 fh
    subst hQ
    simp only [retQ_ret, R.gantref5_Records, ress2, resV_t, f2, f3, fh, plainV, true_and, and_true]
    exact ⟨rs, _, by rw [hbk], ⟨q, xs, rfl, hE, hq⟩, hS, hP, fun r hr hp => hmax r hr (hno r hp)⟩
  refine condG_if (fun hlt => ?_) fun hge => ?_
  · have hlt : z.length < 2 := by omega
    rcases hq with ⟨rfl, rfl⟩ | rfl
    · simp (disch := first | assumption | omega) only [e0, e4, e5, e6, eh, hz, go_sem, ↓reduceIte, Nat.reduceEqDiff, reduceCtorEq, Nat.reduceAdd, Nat.reduceLeDiff, Nat.reduceLT, reduceIte, Int.reduceBEq, Int.reduceBNe, Int.reduceLT, Int.reduceLE, Int.reduceAdd, Int.reduceSub, Int.reduceMul, Int.reduceNeg, Int.reduceEq, Int.reduceNe, Nat.reduceMul, Nat.reduceSub]
      refine fin _ (fun r _ hp => ?_) (by simp (disch := first | assumption | omega) only [e0, e4, e5, e6, eh, go_sem, ↓reduceIte, Nat.reduceEqDiff, reduceCtorEq, Nat.reduceAdd, Nat.reduceLeDiff, Nat.reduceLT, reduceIte, Int.reduceBEq, Int.reduceBNe, Int.reduceLT, Int.reduceLE, Int.reduceAdd, Int.reduceSub, Int.reduceMul, Int.reduceNeg, Int.reduceEq, Int.reduceNe, Nat.reduceMul, Nat.reduceSub]) (by simp (disch := first | assumption | omega) only [e0, e4, e5, e6, eh, go_sem, ↓reduceIte, Nat.reduceEqDiff, reduceCtorEq, Nat.reduceAdd, Nat.reduceLeDiff, Nat.reduceLT, reduceIte, Int.reduceBEq, Int.reduceBNe, Int.reduceLT, Int.reduceLE, Int.reduceAdd, Int.reduceSub, Int.reduceMul, Int.reduceNeg, Int.reduceEq, Int.reduceNe, Nat.reduceMul, Nat.reduceSub]) (by simp (disch := first | assumption | omega) only [e0, e4, e5, e6, eh, go_sem, ↓reduceIte, Nat.reduceEqDiff, reduceCtorEq, Nat.reduceAdd, Nat.reduceLeDiff, Nat.reduceLT, reduceIte, Int.reduceBEq, Int.reduceBNe, Int.reduceLT, Int.reduceLE, Int.reduceAdd, Int.reduceSub, Int.reduceMul, Int.reduceNeg, Int.reduceEq, Int.reduceNe, Nat.reduceMul, Nat.reduceSub])
      have := (recB_prefix hp).2.2.2
      omega
    · simp (disch := first | assumption | omega) only [e0, e4, e5, e6, eh, hz, go_sem, ↓reduceIte, Nat.reduceEqDiff, reduceCtorEq, Nat.reduceAdd, Nat.reduceLeDiff, Nat.reduceLT, reduceIte, Int.reduceBEq, Int.reduceBNe, Int.reduceLT, Int.reduceLE, Int.reduceAdd, Int.reduceSub, Int.reduceMul, Int.reduceNeg, Int.reduceEq, Int.reduceNe, Nat.reduceMul, Nat.reduceSub]
      refine fin _ (fun r _ hp => ?_) (by simp (disch := first | assumption | omega) only [e0, e4, e5, e6, eh, go_sem, ↓reduceIte, Nat.reduceEqDiff, reduceCtorEq, Nat.reduceAdd, Nat.reduceLeDiff, Nat.reduceLT, reduceIte, Int.reduceBEq, Int.reduceBNe, Int.reduceLT, Int.reduceLE, Int.reduceAdd, Int.reduceSub, Int.reduceMul, Int.reduceNeg, Int.reduceEq, Int.reduceNe, Nat.reduceMul, Nat.reduceSub]) (by simp (disch := first | assumption | omega) only [e0, e4, e5, e6, eh, go_sem, ↓reduceIte, Nat.reduceEqDiff, reduceCtorEq, Nat.reduceAdd, Nat.reduceLeDiff, Nat.reduceLT, reduceIte, Int.reduceBEq, Int.reduceBNe, Int.reduceLT, Int.reduceLE, Int.reduceAdd, Int.reduceSub, Int.reduceMul, Int.reduceNeg, Int.reduceEq, Int.reduceNe, Nat.reduceMul, Nat.reduceSub]) (by simp (disch := first | assumption | omega) only [e0, e4, e5, e6, eh, go_sem, ↓reduceIte, Nat.reduceEqDiff, reduceCtorEq, Nat.reduceAdd, Nat.reduceLeDiff, Nat.reduceLT, reduceIte, Int.reduceBEq, Int.reduceBNe, Int.reduceLT, Int.reduceLE, Int.reduceAdd, Int.reduceSub, Int.reduceMul, Int.reduceNeg, Int.reduceEq, Int.reduceNe, Nat.reduceMul, Nat.reduceSub])
      have := (recB_prefix hp).2.2.2
      omega
  · have hge : 2 ≤ z.length := by omega
    have hz2 : (z.take 2).length = 2 := by simp; omega
    have hzu2 : ∀ x ∈ z.take 2, inU8 x := fun x hx => hzu x (List.mem_of_mem_take hx)
    have hvb := val_bd4 hzu2 (by omega)
    have ht2 : z.take 2 = beBytes (val (z.take 2)) 2 := (be2_val hz2 hzu2).symm
    have hv2 : val (z.take 2) < 65536 := by
      have := (val_bd _ hzu2).2
      rw [hz2] at this
      exact this
    obtain ⟨n, hn⟩ : ∃ n : Nat, val (z.take 2) = (n : Int) := ⟨(val (z.take 2)).toNat, by omega⟩
    have hn2 : n < 65536 := by omega
    rw [hn] at ht2
    have hrl : ∀ r : List Int, r.length ≤ 2000 → recB last r <+: z → r.length = n := by
      intro r hr hp
      have := be2_inj (m := r.length) (n := n) (by omega) (by omega) (by omega) (by omega) ((recB_prefix hp).1.symm.trans ht2)
      omega
    have htk : List.take (Int.toNat 2) (ints .u8 z) = ints .u8 (z.take 2) := by rw [ints_take]; rfl
    simp (disch := first | assumption | omega) only [e0, e4, e5, e6, eh, hz, htk, go_sem, ↓reduceIte, Nat.reduceEqDiff, reduceCtorEq, Nat.reduceAdd, Nat.reduceLeDiff, Nat.reduceLT, reduceIte, Int.reduceBEq, Int.reduceBNe, Int.reduceLT, Int.reduceLE, Int.reduceAdd, Int.reduceSub, Int.reduceMul, Int.reduceNeg, Int.reduceEq, Int.reduceNe, Nat.reduceMul, Nat.reduceSub]
    refine ⟨⟨by omega, ints_width z⟩, ?_⟩
    refine callG_ok (Value_ok .sh (z.take 2) (.inl rfl) hzu2 (by omega) _) (by simp (disch := first | assumption | omega) only [go_sem, ↓reduceIte, Nat.reduceEqDiff, reduceCtorEq, Nat.reduceAdd, Nat.reduceLeDiff, Nat.reduceLT, reduceIte, Int.reduceBEq, Int.reduceBNe, Int.reduceLT, Int.reduceLE, Int.reduceAdd, Int.reduceSub, Int.reduceMul, Int.reduceNeg, Int.reduceEq, Int.reduceNe, Nat.reduceMul, Nat.reduceSub]) ?_
    rintro _ _ ⟨rfl, hhh⟩
    rw [hhh]
    clear hhh
    rw [hn]
    by_cases hbig : 2000 < (n : Int)
    · rcases hq with ⟨rfl, rfl⟩ | rfl
      · simp (disch := first | assumption | omega) only [e0, e4, e5, e6, eh, hbig, go_sem, ↓reduceIte, Nat.reduceEqDiff, reduceCtorEq, Nat.reduceAdd, Nat.reduceLeDiff, Nat.reduceLT, reduceIte, Int.reduceBEq, Int.reduceBNe, Int.reduceLT, Int.reduceLE, Int.reduceAdd, Int.reduceSub, Int.reduceMul, Int.reduceNeg, Int.reduceEq, Int.reduceNe, Nat.reduceMul, Nat.reduceSub]
        refine fin _ (fun r hr hp => ?_) (by simp (disch := first | assumption | omega) only [e0, e4, e5, e6, eh, go_sem, ↓reduceIte, Nat.reduceEqDiff, reduceCtorEq, Nat.reduceAdd, Nat.reduceLeDiff, Nat.reduceLT, reduceIte, Int.reduceBEq, Int.reduceBNe, Int.reduceLT, Int.reduceLE, Int.reduceAdd, Int.reduceSub, Int.reduceMul, Int.reduceNeg, Int.reduceEq, Int.reduceNe, Nat.reduceMul, Nat.reduceSub]) (by simp (disch := first | assumption | omega) only [e0, e4, e5, e6, eh, go_sem, ↓reduceIte, Nat.reduceEqDiff, reduceCtorEq, Nat.reduceAdd, Nat.reduceLeDiff, Nat.reduceLT, reduceIte, Int.reduceBEq, Int.reduceBNe, Int.reduceLT, Int.reduceLE, Int.reduceAdd, Int.reduceSub, Int.reduceMul, Int.reduceNeg, Int.reduceEq, Int.reduceNe, Nat.reduceMul, Nat.reduceSub]) (by simp (disch := first | assumption | omega) only [e0, e4, e5, e6, eh, go_sem, ↓reduceIte, Nat.reduceEqDiff, reduceCtorEq, Nat.reduceAdd, Nat.reduceLeDiff, Nat.reduceLT, reduceIte, Int.reduceBEq, Int.reduceBNe, Int.reduceLT, Int.reduceLE, Int.reduceAdd, Int.reduceSub, Int.reduceMul, Int.reduceNeg, Int.reduceEq, Int.reduceNe, Nat.reduceMul, Nat.reduceSub])
        have := hrl r hr hp
        omega
      · simp (disch := first | assumption | omega) only [e0, e4, e5, e6, eh, hbig, go_sem, ↓reduceIte, Nat.reduceEqDiff, reduceCtorEq, Nat.reduceAdd, Nat.reduceLeDiff, Nat.reduceLT, reduceIte, Int.reduceBEq, Int.reduceBNe, Int.reduceLT, Int.reduceLE, Int.reduceAdd, Int.reduceSub, Int.reduceMul, Int.reduceNeg, Int.reduceEq, Int.reduceNe, Nat.reduceMul, Nat.reduceSub]
        refine fin _ (fun r hr hp => ?_) (by simp (disch := first | assumption | omega) only [e0, e4, e5, e6, eh, go_sem, ↓reduceIte, Nat.reduceEqDiff, reduceCtorEq, Nat.reduceAdd, Nat.reduceLeDiff, Nat.reduceLT, reduceIte, Int.reduceBEq, Int.reduceBNe, Int.reduceLT, Int.reduceLE, Int.reduceAdd, Int.reduceSub, Int.reduceMul, Int.reduceNeg, Int.reduceEq, Int.reduceNe, Nat.reduceMul, Nat.reduceSub]) (by simp (disch := first | assumption | omega) only [e0, e4, e5, e6, eh, go_sem, ↓reduceIte, Nat.reduceEqDiff, reduceCtorEq, Nat.reduceAdd, Nat.reduceLeDiff, Nat.reduceLT, reduceIte, Int.reduceBEq, Int.reduceBNe, Int.reduceLT, Int.reduceLE, Int.reduceAdd, Int.reduceSub, Int.reduceMul, Int.reduceNeg, Int.reduceEq, Int.reduceNe, Nat.reduceMul, Nat.reduceSub]) (by simp (disch := first | assumption | omega) only [e0, e4, e5, e6, eh, go_sem, ↓reduceIte, Nat.reduceEqDiff, reduceCtorEq, Nat.reduceAdd, Nat.reduceLeDiff, Nat.reduceLT, reduceIte, Int.reduceBEq, Int.reduceBNe, Int.reduceLT, Int.reduceLE, Int.reduceAdd, Int.reduceSub, Int.reduceMul, Int.reduceNeg, Int.reduceEq, Int.reduceNe, Nat.reduceMul, Nat.reduceSub])
        have := hrl r hr hp
        omega
    by_cases hsh : (z.length : Int) < (n : Int) + 6
    · rcases hq with ⟨rfl, rfl⟩ | rfl
      · simp (disch := first | assumption | omega) only [e0, e4, e5, e6, eh, hbig, hsh, go_sem, ↓reduceIte, Nat.reduceEqDiff, reduceCtorEq, Nat.reduceAdd, Nat.reduceLeDiff, Nat.reduceLT, reduceIte, Int.reduceBEq, Int.reduceBNe, Int.reduceLT, Int.reduceLE, Int.reduceAdd, Int.reduceSub, Int.reduceMul, Int.reduceNeg, Int.reduceEq, Int.reduceNe, Nat.reduceMul, Nat.reduceSub]
        refine fin _ (fun r hr hp => ?_) (by simp (disch := first | assumption | omega) only [e0, e4, e5, e6, eh, go_sem, ↓reduceIte, Nat.reduceEqDiff, reduceCtorEq, Nat.reduceAdd, Nat.reduceLeDiff, Nat.reduceLT, reduceIte, Int.reduceBEq, Int.reduceBNe, Int.reduceLT, Int.reduceLE, Int.reduceAdd, Int.reduceSub, Int.reduceMul, Int.reduceNeg, Int.reduceEq, Int.reduceNe, Nat.reduceMul, Nat.reduceSub]) (by simp (disch := first | assumption | omega) only [e0, e4, e5, e6, eh, go_sem, ↓reduceIte, Nat.reduceEqDiff, reduceCtorEq, Nat.reduceAdd, Nat.reduceLeDiff, Nat.reduceLT, reduceIte, Int.reduceBEq, Int.reduceBNe, Int.reduceLT, Int.reduceLE, Int.reduceAdd, Int.reduceSub, Int.reduceMul, Int.reduceNeg, Int.reduceEq, Int.reduceNe, Nat.reduceMul, Nat.reduceSub]) (by simp (disch := first | assumption | omega) only [e0, e4, e5, e6, eh, go_sem, ↓reduceIte, Nat.reduceEqDiff, reduceCtorEq, Nat.reduceAdd, Nat.reduceLeDiff, Nat.reduceLT, reduceIte, Int.reduceBEq, Int.reduceBNe, Int.reduceLT, Int.reduceLE, Int.reduceAdd, Int.reduceSub, Int.reduceMul, Int.reduceNeg, Int.reduceEq, Int.reduceNe, Nat.reduceMul, Nat.reduceSub])
        have := hrl r hr hp
        have := (recB_prefix hp).2.2.2
        omega
      · simp (disch := first | assumption | omega) only [e0, e4, e5, e6, eh, hbig, hsh, go_sem, ↓reduceIte, Nat.reduceEqDiff, reduceCtorEq, Nat.reduceAdd, Nat.reduceLeDiff, Nat.reduceLT, reduceIte, Int.reduceBEq, Int.reduceBNe, Int.reduceLT, Int.reduceLE, Int.reduceAdd, Int.reduceSub, Int.reduceMul, Int.reduceNeg, Int.reduceEq, Int.reduceNe, Nat.reduceMul, Nat.reduceSub]
        refine fin _ (fun r hr hp => ?_) (by simp (disch := first | assumption | omega) only [e0, e4, e5, e6, eh, go_sem, ↓reduceIte, Nat.reduceEqDiff, reduceCtorEq, Nat.reduceAdd, Nat.reduceLeDiff, Nat.reduceLT, reduceIte, Int.reduceBEq, Int.reduceBNe, Int.reduceLT, Int.reduceLE, Int.reduceAdd, Int.reduceSub, Int.reduceMul, Int.reduceNeg, Int.reduceEq, Int.reduceNe, Nat.reduceMul, Nat.reduceSub]) (by simp (disch := first | assumption | omega) only [e0, e4, e5, e6, eh, go_sem, ↓reduceIte, Nat.reduceEqDiff, reduceCtorEq, Nat.reduceAdd, Nat.reduceLeDiff, Nat.reduceLT, reduceIte, Int.reduceBEq, Int.reduceBNe, Int.reduceLT, Int.reduceLE, Int.reduceAdd, Int.reduceSub, Int.reduceMul, Int.reduceNeg, Int.reduceEq, Int.reduceNe, Nat.reduceMul, Nat.reduceSub]) (by simp (disch := first | assumption | omega) only [e0, e4, e5, e6, eh, go_sem, ↓reduceIte, Nat.reduceEqDiff, reduceCtorEq, Nat.reduceAdd, Nat.reduceLeDiff, Nat.reduceLT, reduceIte, Int.reduceBEq, Int.reduceBNe, Int.reduceLT, Int.reduceLE, Int.reduceAdd, Int.reduceSub, Int.reduceMul, Int.reduceNeg, Int.reduceEq, Int.reduceNe, Nat.reduceMul, Nat.reduceSub])
        have := hrl r hr hp
        have := (recB_prefix hp).2.2.2
        omega
    have hhd : List.take (2 + (n : Int)).toNat (ints IntKind.u8 z) = ints .u8 (z.take (2 + n)) := by
      rw [ints_take]; congr 2
    have hrd : List.take ((2 + (n : Int)).toNat - Int.toNat 2) (List.drop (Int.toNat 2) (ints IntKind.u8 z)) = ints .u8 ((z.drop 2).take n) := by
      rw [ints_drop, ints_take]; congr 2; omega
    have hsd : List.take ((6 + (n : Int)).toNat - (2 + (n : Int)).toNat) (List.drop (2 + (n : Int)).toNat (ints IntKind.u8 z)) = ints .u8 ((z.drop (2 + n)).take 4) := by
      rw [ints_drop, ints_take]
      have a1 : (2 + (n : Int)).toNat = 2 + n := by omega
      have a2 : (6 + (n : Int)).toNat - (2 + n) = 4 := by omega
      rw [a1, a2]
    have hsplit : z.take (2 + n) = beBytes n 2 ++ (z.drop 2).take n := by rw [List.take_add, ← ht2]
    have hru : ∀ x ∈ (z.drop 2).take n, inU8 x := fun x hx => hzu x (List.mem_of_mem_drop (List.mem_of_mem_take hx))
    have hs4u : ∀ x ∈ (z.drop (2 + n)).take 4, inU8 x := fun x hx => hzu x (List.mem_of_mem_drop (List.mem_of_mem_take hx))
    have hrlen : ((z.drop 2).take n).length = n := by simp; omega
    have hnext : (z.drop (2 + n)).take 4 = four (logSum last ((z.drop 2).take n)) → recB last ((z.drop 2).take n) <+: z := fun e => recB_of ht2 hn2 (by omega) e
    have hstop : ¬ (z.drop (2 + n)).take 4 = four (logSum last ((z.drop 2).take n)) → ∀ r : List Int, r.length ≤ 2000 → ¬ recB last r <+: z := by
      intro hne r hr hp
      obtain ⟨p1, p2, p3, _⟩ := recB_prefix hp
      rw [hrl r hr hp] at p2 p3
      rw [p2] at hne
      exact hne p3
    have hzt : (z.take (2 + n)).length = 2 + n := by simp; omega
    generalize hrr : (z.drop 2).take n = r at *
    generalize hs4 : (z.drop (2 + n)).take 4 = s4 at *
    generalize hzz : z.take (2 + n) = zz at *
    have hsb := logSum_bd last r
    simp (disch := first | assumption | omega) only [e0, e4, e5, e6, eh, hbig, hsh, hhd, go_sem, ↓reduceIte, Nat.reduceEqDiff, reduceCtorEq, Nat.reduceAdd, Nat.reduceLeDiff, Nat.reduceLT, reduceIte, Int.reduceBEq, Int.reduceBNe, Int.reduceLT, Int.reduceLE, Int.reduceAdd, Int.reduceSub, Int.reduceMul, Int.reduceNeg, Int.reduceEq, Int.reduceNe, Nat.reduceMul, Nat.reduceSub]
    refine ⟨⟨by omega, by omega, ints_width z⟩, ?_⟩
    refine callG_ok (Concat_byte_ok .sh [four last, zz] _ (.inl rfl) ⟨_, _, rfl, RecOk.sh _, _, _, rfl, RecOk.sh _, rfl⟩ (by simp) (by simp) (by simp [lenSum, four_length]; omega) _) (by simp (disch := first | assumption | omega) only [go_sem, ↓reduceIte, Nat.reduceEqDiff, reduceCtorEq, Nat.reduceAdd, Nat.reduceLeDiff, Nat.reduceLT, reduceIte, Int.reduceBEq, Int.reduceBNe, Int.reduceLT, Int.reduceLE, Int.reduceAdd, Int.reduceSub, Int.reduceMul, Int.reduceNeg, Int.reduceEq, Int.reduceNe, Nat.reduceMul, Nat.reduceSub]) ?_
    rintro _ _ ⟨rfl, hhh⟩
    rw [hhh]
    clear hhh
    have hf2 : [four last, zz].flatten = four last ++ (beBytes r.length 2 ++ r) := by rw [hsplit, hrlen]; simp
    rw [hf2]
    have hu2 : ∀ x ∈ four last ++ (beBytes r.length 2 ++ r), inU8 x := by
      intro x hx
      simp only [List.mem_append] at hx
      rcases hx with hx | hx | hx
      · exact beBytes_u8 _ _ x hx
      · exact beBytes_u8 _ _ x hx
      · exact hru x hx
    simp (disch := first | assumption | omega) only [e0, e4, e5, e6, eh, go_sem, ↓reduceIte, Nat.reduceEqDiff, reduceCtorEq, Nat.reduceAdd, Nat.reduceLeDiff, Nat.reduceLT, reduceIte, Int.reduceBEq, Int.reduceBNe, Int.reduceLT, Int.reduceLE, Int.reduceAdd, Int.reduceSub, Int.reduceMul, Int.reduceNeg, Int.reduceEq, Int.reduceNe, Nat.reduceMul, Nat.reduceSub]
    refine callG_ok (Crc_ok .sh (four last ++ (beBytes r.length 2 ++ r)) (.inl rfl) hu2 (by simp [four_length, beBytes_length]; omega) _) (by simp (disch := first | assumption | omega) only [go_sem, ↓reduceIte, Nat.reduceEqDiff, reduceCtorEq, Nat.reduceAdd, Nat.reduceLeDiff, Nat.reduceLT, reduceIte, Int.reduceBEq, Int.reduceBNe, Int.reduceLT, Int.reduceLE, Int.reduceAdd, Int.reduceSub, Int.reduceMul, Int.reduceNeg, Int.reduceEq, Int.reduceNe, Nat.reduceMul, Nat.reduceSub]) ?_
    rintro _ _ ⟨rfl, hhh⟩
    try rw [hhh]
    clear hhh
    simp (disch := first | assumption | omega) only [e0, e4, e5, e6, eh, go_sem, ↓reduceIte, Nat.reduceEqDiff, reduceCtorEq, Nat.reduceAdd, Nat.reduceLeDiff, Nat.reduceLT, reduceIte, Int.reduceBEq, Int.reduceBNe, Int.reduceLT, Int.reduceLE, Int.reduceAdd, Int.reduceSub, Int.reduceMul, Int.reduceNeg, Int.reduceEq, Int.reduceNe, Nat.reduceMul, Nat.reduceSub]
    have hlse : iv (crc (four last ++ (beBytes r.length 2 ++ r))) = logSum last r := rfl
    rw [hlse]
    simp (disch := first | assumption | omega) only [e0, e4, e5, e6, eh, go_sem, ↓reduceIte, Nat.reduceEqDiff, reduceCtorEq, Nat.reduceAdd, Nat.reduceLeDiff, Nat.reduceLT, reduceIte, Int.reduceBEq, Int.reduceBNe, Int.reduceLT, Int.reduceLE, Int.reduceAdd, Int.reduceSub, Int.reduceMul, Int.reduceNeg, Int.reduceEq, Int.reduceNe, Nat.reduceMul, Nat.reduceSub]
    refine callG_ok (Bytes_app (logSum last r) 4 hsb.1 (by omega) (by omega) _) (by simp (disch := first | assumption | omega) only [go_sem, ↓reduceIte, Nat.reduceEqDiff, reduceCtorEq, Nat.reduceAdd, Nat.reduceLeDiff, Nat.reduceLT, reduceIte, Int.reduceBEq, Int.reduceBNe, Int.reduceLT, Int.reduceLE, Int.reduceAdd, Int.reduceSub, Int.reduceMul, Int.reduceNeg, Int.reduceEq, Int.reduceNe, Nat.reduceMul, Nat.reduceSub]) ?_
    rintro _ _ ⟨rfl, hhh⟩
    rw [hhh]
    clear hhh
    have hseq := str_eq (beBytes_u8 (logSum last r) 4) hs4u
    simp (disch := first | assumption | omega) only [e0, e4, e5, e6, eh, hsd, hseq, go_sem, ↓reduceIte, Nat.reduceEqDiff, reduceCtorEq, Nat.reduceAdd, Nat.reduceLeDiff, Nat.reduceLT, reduceIte, Int.reduceBEq, Int.reduceBNe, Int.reduceLT, Int.reduceLE, Int.reduceAdd, Int.reduceSub, Int.reduceMul, Int.reduceNeg, Int.reduceEq, Int.reduceNe, Nat.reduceMul, Nat.reduceSub]
    refine ⟨isByte_ints _, ⟨by omega, by omega, by omega, ints_width z⟩, isByte_ints _, ?_⟩
    by_cases heq : beBytes (logSum last r) 4 = s4
    · have hpre := hyes r (hnext heq.symm)
      have hxl := hE.length
      have hcs := count_size rs
      rw [← book_length 0 rs, hbk] at hcs
      rcases hq with ⟨rfl, rfl⟩ | rfl
      case' inl =>
        have hxs : xs = [] := by simpa [Each2] using hE
        simp (disch := first | assumption | omega) only [e0, e4, e5, e6, eh, heq, hrd, go_sem, ↓reduceIte, Nat.reduceEqDiff, reduceCtorEq, Nat.reduceAdd, Nat.reduceLeDiff, Nat.reduceLT, reduceIte, Int.reduceBEq, Int.reduceBNe, Int.reduceLT, Int.reduceLE, Int.reduceAdd, Int.reduceSub, Int.reduceMul, Int.reduceNeg, Int.reduceEq, Int.reduceNe, Nat.reduceMul, Nat.reduceSub]
        refine ⟨⟨by omega, by omega, ints_width z⟩, hxs, by omega, by omega, ?_⟩
      case' inr =>
        simp (disch := first | assumption | omega) only [e0, e4, e5, e6, eh, heq, hrd, go_sem, ↓reduceIte, Nat.reduceEqDiff, reduceCtorEq, Nat.reduceAdd, Nat.reduceLeDiff, Nat.reduceLT, reduceIte, Int.reduceBEq, Int.reduceBNe, Int.reduceLT, Int.reduceLE, Int.reduceAdd, Int.reduceSub, Int.reduceMul, Int.reduceNeg, Int.reduceEq, Int.reduceNe, Nat.reduceMul, Nat.reduceSub]
        refine ⟨⟨by omega, by omega, ints_width z⟩, by omega, by omega, ?_⟩
      all_goals
        refine ⟨d - (6 + n), by omega, _, _, ?_, rfl, ?_, ?_, Recs.add hE (RecOk.sh r), ?_, hpre⟩
        · rw [book_snoc, List.length_append, recB_length, hbk]; omega
        · rw [book_snoc, List.length_append, recB_length, hbk, hrlen]; congr 1; omega
        · rw [lastOf_snoc, hla]; rw [four, heq]
        · intro r' hr'
          rcases List.mem_append.1 hr' with hr' | hr'
          · exact hS r' hr'
          · simp at hr'; subst hr'; omega
    · have hne : ¬ s4 = four (logSum last r) := fun e => heq e.symm
      rcases hq with ⟨rfl, rfl⟩ | rfl
      · simp (disch := first | assumption | omega) only [e0, e4, e5, e6, eh, heq, go_sem, ↓reduceIte, Nat.reduceEqDiff, reduceCtorEq, Nat.reduceAdd, Nat.reduceLeDiff, Nat.reduceLT, reduceIte, Int.reduceBEq, Int.reduceBNe, Int.reduceLT, Int.reduceLE, Int.reduceAdd, Int.reduceSub, Int.reduceMul, Int.reduceNeg, Int.reduceEq, Int.reduceNe, Nat.reduceMul, Nat.reduceSub]
        refine fin _ (hstop hne) (by simp (disch := first | assumption | omega) only [e0, e4, e5, e6, eh, go_sem, ↓reduceIte, Nat.reduceEqDiff, reduceCtorEq, Nat.reduceAdd, Nat.reduceLeDiff, Nat.reduceLT, reduceIte, Int.reduceBEq, Int.reduceBNe, Int.reduceLT, Int.reduceLE, Int.reduceAdd, Int.reduceSub, Int.reduceMul, Int.reduceNeg, Int.reduceEq, Int.reduceNe, Nat.reduceMul, Nat.reduceSub]) (by simp (disch := first | assumption | omega) only [e0, e4, e5, e6, eh, go_sem, ↓reduceIte, Nat.reduceEqDiff, reduceCtorEq, Nat.reduceAdd, Nat.reduceLeDiff, Nat.reduceLT, reduceIte, Int.reduceBEq, Int.reduceBNe, Int.reduceLT, Int.reduceLE, Int.reduceAdd, Int.reduceSub, Int.reduceMul, Int.reduceNeg, Int.reduceEq, Int.reduceNe, Nat.reduceMul, Nat.reduceSub]) (by simp (disch := first | assumption | omega) only [e0, e4, e5, e6, eh, go_sem, ↓reduceIte, Nat.reduceEqDiff, reduceCtorEq, Nat.reduceAdd, Nat.reduceLeDiff, Nat.reduceLT, reduceIte, Int.reduceBEq, Int.reduceBNe, Int.reduceLT, Int.reduceLE, Int.reduceAdd, Int.reduceSub, Int.reduceMul, Int.reduceNeg, Int.reduceEq, Int.reduceNe, Nat.reduceMul, Nat.reduceSub])
      · simp (disch := first | assumption | omega) only [e0, e4, e5, e6, eh, heq, go_sem, ↓reduceIte, Nat.reduceEqDiff, reduceCtorEq, Nat.reduceAdd, Nat.reduceLeDiff, Nat.reduceLT, reduceIte, Int.reduceBEq, Int.reduceBNe, Int.reduceLT, Int.reduceLE, Int.reduceAdd, Int.reduceSub, Int.reduceMul, Int.reduceNeg, Int.reduceEq, Int.reduceNe, Nat.reduceMul, Nat.reduceSub]
        refine fin _ (hstop hne) (by simp (disch := first | assumption | omega) only [e0, e4, e5, e6, eh, go_sem, ↓reduceIte, Nat.reduceEqDiff, reduceCtorEq, Nat.reduceAdd, Nat.reduceLeDiff, Nat.reduceLT, reduceIte, Int.reduceBEq, Int.reduceBNe, Int.reduceLT, Int.reduceLE, Int.reduceAdd, Int.reduceSub, Int.reduceMul, Int.reduceNeg, Int.reduceEq, Int.reduceNe, Nat.reduceMul, Nat.reduceSub]) (by simp (disch := first | assumption | omega) only [e0, e4, e5, e6, eh, go_sem, ↓reduceIte, Nat.reduceEqDiff, reduceCtorEq, Nat.reduceAdd, Nat.reduceLeDiff, Nat.reduceLT, reduceIte, Int.reduceBEq, Int.reduceBNe, Int.reduceLT, Int.reduceLE, Int.reduceAdd, Int.reduceSub, Int.reduceMul, Int.reduceNeg, Int.reduceEq, Int.reduceNe, Nat.reduceMul, Nat.reduceSub]) (by simp (disch := first | assumption | omega) only [e0, e4, e5, e6, eh, go_sem, ↓reduceIte, Nat.reduceEqDiff, reduceCtorEq, Nat.reduceAdd, Nat.reduceLeDiff, Nat.reduceLT, reduceIte, Int.reduceBEq, Int.reduceBNe, Int.reduceLT, Int.reduceLE, Int.reduceAdd, Int.reduceSub, Int.reduceMul, Int.reduceNeg, Int.reduceEq, Int.reduceNe, Nat.reduceMul, Nat.reduceSub])
end Go.Proofs.Ytpdajkbfemcdlaa
