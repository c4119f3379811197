/- Contracts: bytes joined, compared; records. -/
import Derived.Test.YtpdajkbfemcdlaaU1
import Derived.Test.YtpdajkbfemcdlaaM2
import Derived.Test.YtpdajkbfemcdlaaCe
set_option linter.unusedSimpArgs false
set_option linter.unusedVariables false
set_option maxRecDepth 10000
namespace Go.Proofs.Ytpdajkbfemcdlaa
open Go.Ge
/-- What a slice, held to be read or to append, is to a reader. -/
theorem own_rd {q : Own} (xs : List AVal) (h : q = .nil ∨ q = .sh ∨ ∃ z, q = .app z) : ∃ q', Rdo q' ∧ (q' = .nil → q = .nil) ∧ rdv (.lst q xs) = .lst q' xs ∧ rd1 (.lst q xs) = .lst q' xs ∧ Ge.rdc (.lst q xs) = .lst q' xs := by
  rcases h with rfl | rfl | ⟨z, rfl⟩
  · exact ⟨.nil, .inr rfl, fun _ => rfl, rfl, rfl, rfl⟩
  · exact ⟨.sh, .inl rfl, (fun e => by cases e), rfl, rfl, rfl⟩
  · exact ⟨.sh, .inl rfl, (fun e => by cases e), rfl, rfl, rfl⟩
theorem Grow_byte_ok (n : Nat) (hn : n ≤ 140737488355328) (h : List HObj) :
    ACalls Try.prog F.slices_Grow_byte [.lst .nil [], .int .i64 n] h (fun r h' => (r = .lst .nil [] ∧ n = 0 ∨ ∃ cap, r = .lst (.uniq 1 cap) []) ∧ h' = h) := by
  refine ACalls.gcn (ACalls.of_aw Try.func160 K.slices_Grow_byte (by simp [Try.f160]) ?_)
  generalize hQ : retQ R.slices_Grow_byte _ = Q
  simp (disch := first | assumption | omega) only [C.slices_Grow_byte, go_sem, ↓reduceIte, Nat.reduceEqDiff, reduceCtorEq, Nat.reduceAdd, Nat.reduceLeDiff, Nat.reduceLT, reduceIte, Int.reduceBEq, Int.reduceBNe, Int.reduceLT, Int.reduceLE, Int.reduceAdd, Int.reduceSub, Int.reduceMul, Int.reduceNeg, Int.reduceEq, Int.reduceNe, Nat.reduceMul, Nat.reduceSub]
  have h0 : ¬ ((n : Int) < 0) := by omega
  simp (disch := first | assumption | omega) only [h0, go_sem, ↓reduceIte, Nat.reduceEqDiff, reduceCtorEq, Nat.reduceAdd, Nat.reduceLeDiff, Nat.reduceLT, reduceIte, Int.reduceBEq, Int.reduceBNe, Int.reduceLT, Int.reduceLE, Int.reduceAdd, Int.reduceSub, Int.reduceMul, Int.reduceNeg, Int.reduceEq, Int.reduceNe, Nat.reduceMul, Nat.reduceSub]
  refine condG_if (fun hgt => ?_) fun hle => ?_
  · have hn0 : ¬ (n : Int) = 0 := by omega
    simp (disch := first | assumption | omega) only [hn0, go_sem, ↓reduceIte, Nat.reduceEqDiff, reduceCtorEq, Nat.reduceAdd, Nat.reduceLeDiff, Nat.reduceLT, reduceIte, Int.reduceBEq, Int.reduceBNe, Int.reduceLT, Int.reduceLE, Int.reduceAdd, Int.reduceSub, Int.reduceMul, Int.reduceNeg, Int.reduceEq, Int.reduceNe, Nat.reduceMul, Nat.reduceSub]
    refine ⟨by omega, by omega, fun _ cap hc => ?_⟩
    refine own_empty (id := h.length) (off := 0) (cap := cap) (by simp (disch := first | assumption | omega) only [go_sem, ↓reduceIte, Nat.reduceEqDiff, reduceCtorEq, Nat.reduceAdd, Nat.reduceLeDiff, Nat.reduceLT, reduceIte, Int.reduceBEq, Int.reduceBNe, Int.reduceLT, Int.reduceLE, Int.reduceAdd, Int.reduceSub, Int.reduceMul, Int.reduceNeg, Int.reduceEq, Int.reduceNe, Nat.reduceMul, Nat.reduceSub]) (fun _ => ⟨List.replicate (cap * 1) .junk, by simp (disch := first | assumption | omega) only [go_sem, ↓reduceIte, Nat.reduceEqDiff, reduceCtorEq, Nat.reduceAdd, Nat.reduceLeDiff, Nat.reduceLT, reduceIte, Int.reduceBEq, Int.reduceBNe, Int.reduceLT, Int.reduceLE, Int.reduceAdd, Int.reduceSub, Int.reduceMul, Int.reduceNeg, Int.reduceEq, Int.reduceNe, Nat.reduceMul, Nat.reduceSub], by simp⟩) (fun _ => rfl) (by omega) ?_
    rintro hp hhp
    simp (disch := first | assumption | omega) only [go_sem, ↓reduceIte, Nat.reduceEqDiff, reduceCtorEq, Nat.reduceAdd, Nat.reduceLeDiff, Nat.reduceLT, reduceIte, Int.reduceBEq, Int.reduceBNe, Int.reduceLT, Int.reduceLE, Int.reduceAdd, Int.reduceSub, Int.reduceMul, Int.reduceNeg, Int.reduceEq, Int.reduceNe, Nat.reduceMul, Nat.reduceSub]
    subst hQ
    simp (disch := first | assumption | omega) only [R.slices_Grow_byte, go_sem, ↓reduceIte, Nat.reduceEqDiff, reduceCtorEq, Nat.reduceAdd, Nat.reduceLeDiff, Nat.reduceLT, reduceIte, Int.reduceBEq, Int.reduceBNe, Int.reduceLT, Int.reduceLE, Int.reduceAdd, Int.reduceSub, Int.reduceMul, Int.reduceNeg, Int.reduceEq, Int.reduceNe, Nat.reduceMul, Nat.reduceSub]
    rcases hhp with ⟨rfl, _⟩ | ⟨rfl, _⟩
    · exact ⟨[.cells (List.replicate (cap * 1) .junk)], by simp (disch := first | assumption | omega) only [go_sem, ↓reduceIte, Nat.reduceEqDiff, reduceCtorEq, Nat.reduceAdd, Nat.reduceLeDiff, Nat.reduceLT, reduceIte, Int.reduceBEq, Int.reduceBNe, Int.reduceLT, Int.reduceLE, Int.reduceAdd, Int.reduceSub, Int.reduceMul, Int.reduceNeg, Int.reduceEq, Int.reduceNe, Nat.reduceMul, Nat.reduceSub], by simp [AVal.ids, idsL], .inr ⟨cap, rfl⟩⟩
    · exact ⟨[.dead], by simp (disch := first | assumption | omega) only [go_sem, ↓reduceIte, Nat.reduceEqDiff, reduceCtorEq, Nat.reduceAdd, Nat.reduceLeDiff, Nat.reduceLT, reduceIte, Int.reduceBEq, Int.reduceBNe, Int.reduceLT, Int.reduceLE, Int.reduceAdd, Int.reduceSub, Int.reduceMul, Int.reduceNeg, Int.reduceEq, Int.reduceNe, Nat.reduceMul, Nat.reduceSub], by simp [AVal.ids, idsL], .inr ⟨cap, rfl⟩⟩
  · simp (disch := first | assumption | omega) only [go_sem, ↓reduceIte, Nat.reduceEqDiff, reduceCtorEq, Nat.reduceAdd, Nat.reduceLeDiff, Nat.reduceLT, reduceIte, Int.reduceBEq, Int.reduceBNe, Int.reduceLT, Int.reduceLE, Int.reduceAdd, Int.reduceSub, Int.reduceMul, Int.reduceNeg, Int.reduceEq, Int.reduceNe, Nat.reduceMul, Nat.reduceSub]
    refine own_nil (xs := []) (by simp (disch := first | assumption | omega) only [go_sem, ↓reduceIte, Nat.reduceEqDiff, reduceCtorEq, Nat.reduceAdd, Nat.reduceLeDiff, Nat.reduceLT, reduceIte, Int.reduceBEq, Int.reduceBNe, Int.reduceLT, Int.reduceLE, Int.reduceAdd, Int.reduceSub, Int.reduceMul, Int.reduceNeg, Int.reduceEq, Int.reduceNe, Nat.reduceMul, Nat.reduceSub]) ?_
    simp (disch := first | assumption | omega) only [go_sem, ↓reduceIte, Nat.reduceEqDiff, reduceCtorEq, Nat.reduceAdd, Nat.reduceLeDiff, Nat.reduceLT, reduceIte, Int.reduceBEq, Int.reduceBNe, Int.reduceLT, Int.reduceLE, Int.reduceAdd, Int.reduceSub, Int.reduceMul, Int.reduceNeg, Int.reduceEq, Int.reduceNe, Nat.reduceMul, Nat.reduceSub]
    subst hQ
    simp (disch := first | assumption | omega) only [R.slices_Grow_byte, go_sem, ↓reduceIte, Nat.reduceEqDiff, reduceCtorEq, Nat.reduceAdd, Nat.reduceLeDiff, Nat.reduceLT, reduceIte, Int.reduceBEq, Int.reduceBNe, Int.reduceLT, Int.reduceLE, Int.reduceAdd, Int.reduceSub, Int.reduceMul, Int.reduceNeg, Int.reduceEq, Int.reduceNe, Nat.reduceMul, Nat.reduceSub]
    exact ⟨[], by simp, by simp [AVal.ids, idsL], .inl (by omega)⟩
def lenSum (L : List (List Int)) : Nat := (L.map List.length).sum
theorem lenSum_take {L : List (List Int)} {i : Nat} (h : i < L.length) : lenSum (L.take (i + 1)) = lenSum (L.take i) + L[i].length := by
  unfold lenSum; rw [List.take_add_one, List.getElem?_eq_getElem h, List.map_append, List.sum_append]; rfl
theorem lenSum_le {L : List (List Int)} {i : Nat} : lenSum (L.take i) ≤ lenSum L := by
  have := congrArg lenSum (List.take_append_drop i L)
  unfold lenSum at *
  rw [List.map_append, List.sum_append] at this
  omega
theorem lenSum_flat (L : List (List Int)) : L.flatten.length = lenSum L := by simp [lenSum, List.length_flatten]
theorem Concat_byte_ok (o : Own) (L : List (List Int)) (xs : List AVal) (ho : Rdo o) (hx : Each2 RecOk L xs) (hne : 0 < L.length) (hl : L.length ≤ 140737488355328) (hb : lenSum L ≤ 140737488355328) (h : List HObj) :
    ACalls Try.prog F.slices_Concat_byte [.lst o xs] h (fun r h' => r = .lst (.app 1) (ints .u8 L.flatten) ∧ h' = h) := by
  have lx := hx.length
  refine ACalls.of_aw Try.func79 K.slices_Concat_byte (by simp [Try.f79]) ?_
  generalize hQ : retQ R.slices_Concat_byte _ = Q
  simp (disch := first | assumption | omega) only [C.slices_Concat_byte, go_sem, ↓reduceIte, Nat.reduceEqDiff, reduceCtorEq, Nat.reduceAdd, Nat.reduceLeDiff, Nat.reduceLT, reduceIte, Int.reduceBEq, Int.reduceBNe, Int.reduceLT, Int.reduceLE, Int.reduceAdd, Int.reduceSub, Int.reduceMul, Int.reduceNeg, Int.reduceEq, Int.reduceNe, Nat.reduceMul, Nat.reduceSub]
  refine aw_count (fun d S => ∃ (i : Nat), i + d = L.length ∧ S.env 11 = .int .i64 i ∧ S.env 10 = .int .i64 L.length ∧ S.env 9 = .lst o xs ∧ S.env 0 = .lst o xs ∧ S.env 3 = .int .i64 (lenSum (L.take i)) ∧ S.heap = h) (n := L.length) ⟨0, by simp [go_sem, lenSum, lx, rdv_o ho]⟩ ?_
  rintro d S ⟨i, hi, e11, e10, e9, e0, e3, eh⟩
  simp (disch := first | assumption | omega) only [e11, e10, e9, e0, e3, eh, go_sem, ↓reduceIte, Nat.reduceEqDiff, reduceCtorEq, Nat.reduceAdd, Nat.reduceLeDiff, Nat.reduceLT, reduceIte, Int.reduceBEq, Int.reduceBNe, Int.reduceLT, Int.reduceLE, Int.reduceAdd, Int.reduceSub, Int.reduceMul, Int.reduceNeg, Int.reduceEq, Int.reduceNe, Nat.reduceMul, Nat.reduceSub]
  have hle := @lenSum_le L i
  refine condG_if (fun hlt => ?_) fun hge => ?_
  · have hlt1 : i < L.length := by omega
    have hlt2 : i < xs.length := by omega
    have hs := lenSum_take hlt1
    have hle2 := @lenSum_le L (i + 1)
    obtain ⟨q, hq, hxi⟩ := hx.at i hlt1
    have hq1 := hq.1
    simp (disch := first | assumption | omega) only [e11, e10, e9, e0, e3, eh, hlt2, hxi, go_sem, ↓reduceIte, Nat.reduceEqDiff, reduceCtorEq, Nat.reduceAdd, Nat.reduceLeDiff, Nat.reduceLT, reduceIte, Int.reduceBEq, Int.reduceBNe, Int.reduceLT, Int.reduceLE, Int.reduceAdd, Int.reduceSub, Int.reduceMul, Int.reduceNeg, Int.reduceEq, Int.reduceNe, Nat.reduceMul, Nat.reduceSub]
    have h0 : ¬ ((lenSum (L.take i) : Int) + (L[i].length : Int) < 0) := by omega
    simp (disch := first | assumption | omega) only [e11, e10, e9, e0, e3, eh, h0, go_sem, ↓reduceIte, Nat.reduceEqDiff, reduceCtorEq, Nat.reduceAdd, Nat.reduceLeDiff, Nat.reduceLT, reduceIte, Int.reduceBEq, Int.reduceBNe, Int.reduceLT, Int.reduceLE, Int.reduceAdd, Int.reduceSub, Int.reduceMul, Int.reduceNeg, Int.reduceEq, Int.reduceNe, Nat.reduceMul, Nat.reduceSub]
    exact ⟨d - 1, by omega, i + 1, by omega, by simp, by rw [hs]; simp⟩
  · obtain rfl : i = L.length := by omega
    rw [List.take_length] at e3
    simp (disch := first | assumption | omega) only [e11, e10, e9, e0, e3, eh, go_sem, ↓reduceIte, Nat.reduceEqDiff, reduceCtorEq, Nat.reduceAdd, Nat.reduceLeDiff, Nat.reduceLT, reduceIte, Int.reduceBEq, Int.reduceBNe, Int.reduceLT, Int.reduceLE, Int.reduceAdd, Int.reduceSub, Int.reduceMul, Int.reduceNeg, Int.reduceEq, Int.reduceNe, Nat.reduceMul, Nat.reduceSub]
    refine callG_ok (Grow_byte_ok (lenSum L) hb _) (by simp (disch := first | assumption | omega) only [go_sem, ↓reduceIte, Nat.reduceEqDiff, reduceCtorEq, Nat.reduceAdd, Nat.reduceLeDiff, Nat.reduceLT, reduceIte, Int.reduceBEq, Int.reduceBNe, Int.reduceLT, Int.reduceLE, Int.reduceAdd, Int.reduceSub, Int.reduceMul, Int.reduceNeg, Int.reduceEq, Int.reduceNe, Nat.reduceMul, Nat.reduceSub]) ?_
    rintro r _ ⟨hr, hhh⟩
    rw [hhh]
    clear hhh
    have hr' : ∃ q, r = .lst q [] ∧ (q = .nil ∨ (∃ c, q = .uniq 1 c) ∨ q = .app 1) := by
      rcases hr with ⟨rfl, _⟩ | ⟨c, rfl⟩
      · exact ⟨_, rfl, .inl rfl⟩
      · exact ⟨_, rfl, .inr (.inl ⟨c, rfl⟩)⟩
    obtain ⟨q, rfl, hq⟩ := hr'
    have rt : remV (.lst q []) = remV (.lst q []) := rfl
    simp (disch := first | assumption | omega) only [e11, e10, e9, e0, e3, eh, go_sem, ↓reduceIte, Nat.reduceEqDiff, reduceCtorEq, Nat.reduceAdd, Nat.reduceLeDiff, Nat.reduceLT, reduceIte, Int.reduceBEq, Int.reduceBNe, Int.reduceLT, Int.reduceLE, Int.reduceAdd, Int.reduceSub, Int.reduceMul, Int.reduceNeg, Int.reduceEq, Int.reduceNe, Nat.reduceMul, Nat.reduceSub]
    refine aw_count (fun d S => ∃ (i : Nat) (q : Own), i + d = L.length ∧ S.env 27 = .int .i64 i ∧ S.env 26 = .int .i64 L.length ∧ S.env 25 = .lst o xs ∧ S.env 6 = .lst q (ints .u8 (L.take i).flatten) ∧ (q = .nil ∧ i = 0 ∨ (∃ c, q = .uniq 1 c) ∧ i = 0 ∨ q = .app 1) ∧ S.heap = h) (n := L.length) ?_ ?_
    · refine ⟨0, q, by omega, ?_⟩
      simp (disch := first | assumption | omega) only [e11, e10, e9, e0, e3, eh, lx, List.flatten_nil, ints_nil, go_sem, ↓reduceIte, Nat.reduceEqDiff, reduceCtorEq, Nat.reduceAdd, Nat.reduceLeDiff, Nat.reduceLT, reduceIte, Int.reduceBEq, Int.reduceBNe, Int.reduceLT, Int.reduceLE, Int.reduceAdd, Int.reduceSub, Int.reduceMul, Int.reduceNeg, Int.reduceEq, Int.reduceNe, Nat.reduceMul, Nat.reduceSub]
      rcases hq with rfl | ⟨c, rfl⟩ | rfl <;> simp
    clear e11 e10 e9 e0 e3 eh hq rt
    rintro d S ⟨i, q, hi, e27, e26, e25, e6, hq, eh⟩
    simp (disch := first | assumption | omega) only [e27, e26, e25, e6, eh, go_sem, ↓reduceIte, Nat.reduceEqDiff, reduceCtorEq, Nat.reduceAdd, Nat.reduceLeDiff, Nat.reduceLT, reduceIte, Int.reduceBEq, Int.reduceBNe, Int.reduceLT, Int.reduceLE, Int.reduceAdd, Int.reduceSub, Int.reduceMul, Int.reduceNeg, Int.reduceEq, Int.reduceNe, Nat.reduceMul, Nat.reduceSub]
    have hle := @lenSum_le L i
    refine condG_if (fun hlt => ?_) fun hge => ?_
    · have hlt1 : i < L.length := by omega
      have hlt2 : i < xs.length := by omega
      have hs := lenSum_take hlt1
      have hle2 := @lenSum_le L (i + 1)
      have hfl := lenSum_flat (L.take i)
      obtain ⟨p, hp, hxi⟩ := hx.at i hlt1
      have hp1 := hp.1
      have hst : (L.take (i + 1)).flatten = (L.take i).flatten ++ L[i] := by
        rw [List.take_add_one, List.getElem?_eq_getElem hlt1, List.flatten_append]; simp only [Option.toList, List.flatten_cons, List.flatten_nil, List.append_nil]
      rcases hq with ⟨rfl, h0⟩ | ⟨⟨c, rfl⟩, h0⟩ | rfl
      · simp (disch := first | assumption | omega) only [e27, e26, e25, e6, eh, hlt2, hxi, go_sem, ↓reduceIte, Nat.reduceEqDiff, reduceCtorEq, Nat.reduceAdd, Nat.reduceLeDiff, Nat.reduceLT, reduceIte, Int.reduceBEq, Int.reduceBNe, Int.reduceLT, Int.reduceLE, Int.reduceAdd, Int.reduceSub, Int.reduceMul, Int.reduceNeg, Int.reduceEq, Int.reduceNe, Nat.reduceMul, Nat.reduceSub]
        exact ⟨by rw [h0]; rfl, ints_width _, by omega, by omega, d - 1, by omega, i + 1, .app 1, by omega, by simp, by rw [hst, ints_append], .inr (.inr rfl)⟩
      · simp (disch := first | assumption | omega) only [e27, e26, e25, e6, eh, hlt2, hxi, go_sem, ↓reduceIte, Nat.reduceEqDiff, reduceCtorEq, Nat.reduceAdd, Nat.reduceLeDiff, Nat.reduceLT, reduceIte, Int.reduceBEq, Int.reduceBNe, Int.reduceLT, Int.reduceLE, Int.reduceAdd, Int.reduceSub, Int.reduceMul, Int.reduceNeg, Int.reduceEq, Int.reduceNe, Nat.reduceMul, Nat.reduceSub]
        exact ⟨ints_width _, by omega, by omega, d - 1, by omega, i + 1, .app 1, by omega, by simp, by rw [hst, ints_append], .inr (.inr rfl)⟩
      · simp (disch := first | assumption | omega) only [e27, e26, e25, e6, eh, hlt2, hxi, go_sem, ↓reduceIte, Nat.reduceEqDiff, reduceCtorEq, Nat.reduceAdd, Nat.reduceLeDiff, Nat.reduceLT, reduceIte, Int.reduceBEq, Int.reduceBNe, Int.reduceLT, Int.reduceLE, Int.reduceAdd, Int.reduceSub, Int.reduceMul, Int.reduceNeg, Int.reduceEq, Int.reduceNe, Nat.reduceMul, Nat.reduceSub]
        exact ⟨ints_width _, by omega, by omega, d - 1, by omega, i + 1, .app 1, by omega, by simp, by rw [hst, ints_append], .inr (.inr rfl)⟩
    · obtain rfl : i = L.length := by omega
      rw [List.take_length] at e6
      rcases hq with ⟨rfl, h0⟩ | ⟨⟨c, rfl⟩, h0⟩ | rfl
      · omega
      · omega
      · simp (disch := first | assumption | omega) only [e27, e26, e25, e6, eh, go_sem, ↓reduceIte, Nat.reduceEqDiff, reduceCtorEq, Nat.reduceAdd, Nat.reduceLeDiff, Nat.reduceLT, reduceIte, Int.reduceBEq, Int.reduceBNe, Int.reduceLT, Int.reduceLE, Int.reduceAdd, Int.reduceSub, Int.reduceMul, Int.reduceNeg, Int.reduceEq, Int.reduceNe, Nat.reduceMul, Nat.reduceSub]
        subst hQ
        simp (disch := first | assumption | omega) only [R.slices_Concat_byte, e27, e26, e25, e6, eh, go_sem, ↓reduceIte, Nat.reduceEqDiff, reduceCtorEq, Nat.reduceAdd, Nat.reduceLeDiff, Nat.reduceLT, reduceIte, Int.reduceBEq, Int.reduceBNe, Int.reduceLT, Int.reduceLE, Int.reduceAdd, Int.reduceSub, Int.reduceMul, Int.reduceNeg, Int.reduceEq, Int.reduceNe, Nat.reduceMul, Nat.reduceSub]
end Go.Proofs.Ytpdajkbfemcdlaa
