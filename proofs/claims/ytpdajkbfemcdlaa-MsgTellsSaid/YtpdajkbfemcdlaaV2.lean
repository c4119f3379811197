/- Contracts: bytes compared, copied; sums of records. -/
import Derived.Test.YtpdajkbfemcdlaaV1
set_option linter.unusedSimpArgs false
set_option linter.unusedVariables false
set_option maxRecDepth 10000
namespace Go.Proofs.Ytpdajkbfemcdlaa
open Go.Ge
theorem EqualByte_ok (o1 o2 : Own) (a b : List Int) (h1 : Rdo o1) (h2 : Rdo o2) (hl : a.length < 4611686018427387904) (hl2 : b.length < 4611686018427387904) (h : List HObj) :
    ACalls Try.prog F.slices_Equal_byte [.lst o1 (ints .u8 a), .lst o2 (ints .u8 b)] h (fun r h' => r = .bool (decide (a = b)) ∧ h' = h) := by
  refine ACalls.of_aw Try.func65 K.slices_Equal_byte (by simp [Try.f65]) ?_
  generalize hQ : retQ R.slices_Equal_byte _ = Q
  simp (disch := first | assumption | omega) only [C.slices_Equal_byte, go_sem, ↓reduceIte, Nat.reduceEqDiff, reduceCtorEq, Nat.reduceAdd, Nat.reduceLeDiff, Nat.reduceLT, reduceIte, Int.reduceBEq, Int.reduceBNe, Int.reduceLT, Int.reduceLE, Int.reduceAdd, Int.reduceSub, Int.reduceMul, Int.reduceNeg, Int.reduceEq, Int.reduceNe, Nat.reduceMul, Nat.reduceSub]
  refine condG_ifn (fun hne => ?_) fun heq => ?_
  · simp (disch := first | assumption | omega) only [go_sem, ↓reduceIte, Nat.reduceEqDiff, reduceCtorEq, Nat.reduceAdd, Nat.reduceLeDiff, Nat.reduceLT, reduceIte, Int.reduceBEq, Int.reduceBNe, Int.reduceLT, Int.reduceLE, Int.reduceAdd, Int.reduceSub, Int.reduceMul, Int.reduceNeg, Int.reduceEq, Int.reduceNe, Nat.reduceMul, Nat.reduceSub]
    subst hQ
    simp (disch := first | assumption | omega) only [R.slices_Equal_byte, go_sem, ↓reduceIte, Nat.reduceEqDiff, reduceCtorEq, Nat.reduceAdd, Nat.reduceLeDiff, Nat.reduceLT, reduceIte, Int.reduceBEq, Int.reduceBNe, Int.reduceLT, Int.reduceLE, Int.reduceAdd, Int.reduceSub, Int.reduceMul, Int.reduceNeg, Int.reduceEq, Int.reduceNe, Nat.reduceMul, Nat.reduceSub]
    have : a ≠ b := by rintro rfl; omega
    simp [this]
  · have he : a.length = b.length := by omega
    simp (disch := first | assumption | omega) only [go_sem, ↓reduceIte, Nat.reduceEqDiff, reduceCtorEq, Nat.reduceAdd, Nat.reduceLeDiff, Nat.reduceLT, reduceIte, Int.reduceBEq, Int.reduceBNe, Int.reduceLT, Int.reduceLE, Int.reduceAdd, Int.reduceSub, Int.reduceMul, Int.reduceNeg, Int.reduceEq, Int.reduceNe, Nat.reduceMul, Nat.reduceSub]
    refine aw_count (fun d S => ∃ (i : Nat), i + d = a.length ∧ S.env 13 = .int .i64 i ∧ S.env 12 = .int .i64 a.length ∧ S.env 0 = .lst o1 (ints .u8 a) ∧ S.env 1 = .lst o2 (ints .u8 b) ∧ a.take i = b.take i ∧ S.heap = h) (n := a.length) ⟨0, by simp [go_sem]⟩ ?_
    rintro d S ⟨i, hi, e13, e12, e0, e1, ht, eh⟩
    simp (disch := first | assumption | omega) only [e13, e12, e0, e1, eh, go_sem, ↓reduceIte, Nat.reduceEqDiff, reduceCtorEq, Nat.reduceAdd, Nat.reduceLeDiff, Nat.reduceLT, reduceIte, Int.reduceBEq, Int.reduceBNe, Int.reduceLT, Int.reduceLE, Int.reduceAdd, Int.reduceSub, Int.reduceMul, Int.reduceNeg, Int.reduceEq, Int.reduceNe, Nat.reduceMul, Nat.reduceSub]
    refine condG_if (fun hlt => ?_) fun hge => ?_
    · have hlt1 : i < a.length := by omega
      have hlt2 : i < b.length := by omega
      have hat1 := at_ints' (k := .u8) a i hlt1
      have hat2 := at_ints' (k := .u8) b i hlt2
      rw [show a.getD i 0 = a[i] from by simp [List.getD_eq_getElem?_getD, hlt1]] at hat1
      rw [show b.getD i 0 = b[i] from by simp [List.getD_eq_getElem?_getD, hlt2]] at hat2
      simp (disch := first | assumption | omega) only [e13, e12, e0, e1, eh, hat1, hat2, hlt1, hlt2, go_sem, ↓reduceIte, Nat.reduceEqDiff, reduceCtorEq, Nat.reduceAdd, Nat.reduceLeDiff, Nat.reduceLT, reduceIte, Int.reduceBEq, Int.reduceBNe, Int.reduceLT, Int.reduceLE, Int.reduceAdd, Int.reduceSub, Int.reduceMul, Int.reduceNeg, Int.reduceEq, Int.reduceNe, Nat.reduceMul, Nat.reduceSub]
      refine condG_ifn (fun hb => ?_) fun hb => ?_
      · simp (disch := first | assumption | omega) only [e13, e12, e0, e1, eh, go_sem, ↓reduceIte, Nat.reduceEqDiff, reduceCtorEq, Nat.reduceAdd, Nat.reduceLeDiff, Nat.reduceLT, reduceIte, Int.reduceBEq, Int.reduceBNe, Int.reduceLT, Int.reduceLE, Int.reduceAdd, Int.reduceSub, Int.reduceMul, Int.reduceNeg, Int.reduceEq, Int.reduceNe, Nat.reduceMul, Nat.reduceSub]
        subst hQ
        simp (disch := first | assumption | omega) only [R.slices_Equal_byte, e13, e12, e0, e1, eh, go_sem, ↓reduceIte, Nat.reduceEqDiff, reduceCtorEq, Nat.reduceAdd, Nat.reduceLeDiff, Nat.reduceLT, reduceIte, Int.reduceBEq, Int.reduceBNe, Int.reduceLT, Int.reduceLE, Int.reduceAdd, Int.reduceSub, Int.reduceMul, Int.reduceNeg, Int.reduceEq, Int.reduceNe, Nat.reduceMul, Nat.reduceSub]
        have : a ≠ b := by rintro rfl; exact hb rfl
        simp [this, eh]
      · simp (disch := first | assumption | omega) only [e13, e12, e0, e1, eh, go_sem, ↓reduceIte, Nat.reduceEqDiff, reduceCtorEq, Nat.reduceAdd, Nat.reduceLeDiff, Nat.reduceLT, reduceIte, Int.reduceBEq, Int.reduceBNe, Int.reduceLT, Int.reduceLE, Int.reduceAdd, Int.reduceSub, Int.reduceMul, Int.reduceNeg, Int.reduceEq, Int.reduceNe, Nat.reduceMul, Nat.reduceSub]
        refine ⟨d - 1, by omega, i + 1, by omega, by simp, ?_⟩
        rw [List.take_add_one, List.take_add_one, ht, List.getElem?_eq_getElem hlt1, List.getElem?_eq_getElem hlt2, hb]
    · obtain rfl : i = a.length := by omega
      simp (disch := first | assumption | omega) only [e13, e12, e0, e1, eh, go_sem, ↓reduceIte, Nat.reduceEqDiff, reduceCtorEq, Nat.reduceAdd, Nat.reduceLeDiff, Nat.reduceLT, reduceIte, Int.reduceBEq, Int.reduceBNe, Int.reduceLT, Int.reduceLE, Int.reduceAdd, Int.reduceSub, Int.reduceMul, Int.reduceNeg, Int.reduceEq, Int.reduceNe, Nat.reduceMul, Nat.reduceSub]
      subst hQ
      simp (disch := first | assumption | omega) only [R.slices_Equal_byte, go_sem, ↓reduceIte, Nat.reduceEqDiff, reduceCtorEq, Nat.reduceAdd, Nat.reduceLeDiff, Nat.reduceLT, reduceIte, Int.reduceBEq, Int.reduceBNe, Int.reduceLT, Int.reduceLE, Int.reduceAdd, Int.reduceSub, Int.reduceMul, Int.reduceNeg, Int.reduceEq, Int.reduceNe, Nat.reduceMul, Nat.reduceSub]
      rw [List.take_length, he, List.take_length] at ht
      simp [ht, eh]
theorem EqualRecs_ok (o1 o2 : Own) (a b : List (List Int)) (xs ys : List AVal) (h1 : Rdo o1) (h2 : Rdo o2) (ha : Each2 RecOk a xs) (hb : Each2 RecOk b ys) (hla : ∀ r ∈ a, r.length < 4611686018427387904) (hlb : ∀ r ∈ b, r.length < 4611686018427387904) (hl : a.length < 4611686018427387904) (hl2 : b.length < 4611686018427387904) (h : List HObj) :
    ACalls Try.prog F.slices_EqualFunc_bs [.lst o1 xs, .lst o2 ys, .func F.slices_Equal_byte []] h (fun r h' => r = .bool (decide (a = b)) ∧ h' = h) := by
  have la := ha.length
  have lb := hb.length
  refine ACalls.of_aw Try.func68 K.slices_EqualFunc_bs (by simp [Try.f68]) ?_
  generalize hQ : retQ R.slices_EqualFunc_bs _ = Q
  simp (disch := first | assumption | omega) only [C.slices_EqualFunc_bs, go_sem, ↓reduceIte, Nat.reduceEqDiff, reduceCtorEq, Nat.reduceAdd, Nat.reduceLeDiff, Nat.reduceLT, reduceIte, Int.reduceBEq, Int.reduceBNe, Int.reduceLT, Int.reduceLE, Int.reduceAdd, Int.reduceSub, Int.reduceMul, Int.reduceNeg, Int.reduceEq, Int.reduceNe, Nat.reduceMul, Nat.reduceSub]
  refine condG_ifn (fun hne => ?_) fun heq => ?_
  · simp (disch := first | assumption | omega) only [go_sem, ↓reduceIte, Nat.reduceEqDiff, reduceCtorEq, Nat.reduceAdd, Nat.reduceLeDiff, Nat.reduceLT, reduceIte, Int.reduceBEq, Int.reduceBNe, Int.reduceLT, Int.reduceLE, Int.reduceAdd, Int.reduceSub, Int.reduceMul, Int.reduceNeg, Int.reduceEq, Int.reduceNe, Nat.reduceMul, Nat.reduceSub]
    subst hQ
    simp (disch := first | assumption | omega) only [R.slices_EqualFunc_bs, go_sem, ↓reduceIte, Nat.reduceEqDiff, reduceCtorEq, Nat.reduceAdd, Nat.reduceLeDiff, Nat.reduceLT, reduceIte, Int.reduceBEq, Int.reduceBNe, Int.reduceLT, Int.reduceLE, Int.reduceAdd, Int.reduceSub, Int.reduceMul, Int.reduceNeg, Int.reduceEq, Int.reduceNe, Nat.reduceMul, Nat.reduceSub]
    have : a ≠ b := by rintro rfl; omega
    simp [this]
  · have he : a.length = b.length := by omega
    simp (disch := first | assumption | omega) only [go_sem, ↓reduceIte, Nat.reduceEqDiff, reduceCtorEq, Nat.reduceAdd, Nat.reduceLeDiff, Nat.reduceLT, reduceIte, Int.reduceBEq, Int.reduceBNe, Int.reduceLT, Int.reduceLE, Int.reduceAdd, Int.reduceSub, Int.reduceMul, Int.reduceNeg, Int.reduceEq, Int.reduceNe, Nat.reduceMul, Nat.reduceSub]
    refine aw_count (fun d S => ∃ (i : Nat), i + d = a.length ∧ S.env 17 = .int .i64 i ∧ S.env 16 = .int .i64 xs.length ∧ S.env 15 = .lst o1 xs ∧ S.env 1 = .lst o2 ys ∧ S.env 2 = .func F.slices_Equal_byte [] ∧ a.take i = b.take i ∧ S.heap = h) (n := a.length) ⟨0, by simp [go_sem]⟩ ?_
    rintro d S ⟨i, hi, e17, e16, e15, e1, e2, ht, eh⟩
    simp (disch := first | assumption | omega) only [e17, e16, e15, e1, e2, eh, go_sem, ↓reduceIte, Nat.reduceEqDiff, reduceCtorEq, Nat.reduceAdd, Nat.reduceLeDiff, Nat.reduceLT, reduceIte, Int.reduceBEq, Int.reduceBNe, Int.reduceLT, Int.reduceLE, Int.reduceAdd, Int.reduceSub, Int.reduceMul, Int.reduceNeg, Int.reduceEq, Int.reduceNe, Nat.reduceMul, Nat.reduceSub]
    refine condG_if (fun hlt => ?_) fun hge => ?_
    · have hlt1 : i < a.length := by omega
      have hlt2 : i < b.length := by omega
      have hlt3 : i < xs.length := by omega
      have hlt4 : i < ys.length := by omega
      obtain ⟨p, hp, hx⟩ := ha.at i hlt1
      obtain ⟨q, hq, hy⟩ := hb.at i hlt2
      have hp1 := hp.1
      have hq1 := hq.1
      have hpl := hla _ (List.getElem_mem hlt1)
      have hql := hlb _ (List.getElem_mem hlt2)
      simp (disch := first | assumption | omega) only [e17, e16, e15, e1, e2, eh, hx, hy, hlt3, hlt4, go_sem, ↓reduceIte, Nat.reduceEqDiff, reduceCtorEq, Nat.reduceAdd, Nat.reduceLeDiff, Nat.reduceLT, reduceIte, Int.reduceBEq, Int.reduceBNe, Int.reduceLT, Int.reduceLE, Int.reduceAdd, Int.reduceSub, Int.reduceMul, Int.reduceNeg, Int.reduceEq, Int.reduceNe, Nat.reduceMul, Nat.reduceSub]
      refine callvG_ok (EqualByte_ok p q a[i] b[i] hp1 hq1 hpl hql _) (by simp (disch := first | assumption | omega) only [go_sem, ↓reduceIte, Nat.reduceEqDiff, reduceCtorEq, Nat.reduceAdd, Nat.reduceLeDiff, Nat.reduceLT, reduceIte, Int.reduceBEq, Int.reduceBNe, Int.reduceLT, Int.reduceLE, Int.reduceAdd, Int.reduceSub, Int.reduceMul, Int.reduceNeg, Int.reduceEq, Int.reduceNe, Nat.reduceMul, Nat.reduceSub]) ?_
      rintro _ _ ⟨rfl, hhh⟩
      rw [hhh]
      clear hhh
      by_cases hab : a[i] = b[i]
      · simp (disch := first | assumption | omega) only [e17, e16, e15, e1, e2, eh, hab, go_sem, ↓reduceIte, Nat.reduceEqDiff, reduceCtorEq, Nat.reduceAdd, Nat.reduceLeDiff, Nat.reduceLT, reduceIte, Int.reduceBEq, Int.reduceBNe, Int.reduceLT, Int.reduceLE, Int.reduceAdd, Int.reduceSub, Int.reduceMul, Int.reduceNeg, Int.reduceEq, Int.reduceNe, Nat.reduceMul, Nat.reduceSub]
        refine ⟨d - 1, by omega, i + 1, by omega, by simp, ?_⟩
        rw [List.take_add_one, List.take_add_one, ht, List.getElem?_eq_getElem hlt1, List.getElem?_eq_getElem hlt2, hab]
      · simp (disch := first | assumption | omega) only [e17, e16, e15, e1, e2, eh, hab, go_sem, ↓reduceIte, Nat.reduceEqDiff, reduceCtorEq, Nat.reduceAdd, Nat.reduceLeDiff, Nat.reduceLT, reduceIte, Int.reduceBEq, Int.reduceBNe, Int.reduceLT, Int.reduceLE, Int.reduceAdd, Int.reduceSub, Int.reduceMul, Int.reduceNeg, Int.reduceEq, Int.reduceNe, Nat.reduceMul, Nat.reduceSub]
        subst hQ
        simp (disch := first | assumption | omega) only [R.slices_EqualFunc_bs, go_sem, ↓reduceIte, Nat.reduceEqDiff, reduceCtorEq, Nat.reduceAdd, Nat.reduceLeDiff, Nat.reduceLT, reduceIte, Int.reduceBEq, Int.reduceBNe, Int.reduceLT, Int.reduceLE, Int.reduceAdd, Int.reduceSub, Int.reduceMul, Int.reduceNeg, Int.reduceEq, Int.reduceNe, Nat.reduceMul, Nat.reduceSub]
        have : a ≠ b := by rintro rfl; exact hab rfl
        simp [this, eh]
    · obtain rfl : i = a.length := by omega
      simp (disch := first | assumption | omega) only [e17, e16, e15, e1, e2, eh, go_sem, ↓reduceIte, Nat.reduceEqDiff, reduceCtorEq, Nat.reduceAdd, Nat.reduceLeDiff, Nat.reduceLT, reduceIte, Int.reduceBEq, Int.reduceBNe, Int.reduceLT, Int.reduceLE, Int.reduceAdd, Int.reduceSub, Int.reduceMul, Int.reduceNeg, Int.reduceEq, Int.reduceNe, Nat.reduceMul, Nat.reduceSub]
      subst hQ
      simp (disch := first | assumption | omega) only [R.slices_EqualFunc_bs, go_sem, ↓reduceIte, Nat.reduceEqDiff, reduceCtorEq, Nat.reduceAdd, Nat.reduceLeDiff, Nat.reduceLT, reduceIte, Int.reduceBEq, Int.reduceBNe, Int.reduceLT, Int.reduceLE, Int.reduceAdd, Int.reduceSub, Int.reduceMul, Int.reduceNeg, Int.reduceEq, Int.reduceNe, Nat.reduceMul, Nat.reduceSub]
      rw [List.take_length, he, List.take_length] at ht
      simp [ht, eh]
theorem CloneByteU_ok (o : Own) (l : List Int) (ho : Rdn o l) (hl : l.length ≤ 70368744177664) (h : List HObj) :
    ACalls Try.prog F.slices_Clone_byte [.lst o (ints .u8 l)] h (fun r h' => (r = .lst .nil [] ∧ l = [] ∨ ∃ c, r = .lst (.uniq 1 c) (ints .u8 l) ∧ l.length ≤ c) ∧ h' = h) := by
  have h1 := ho.1
  refine ACalls.gcn (ACalls.of_aw Try.func72 K.slices_Clone_byte (by simp [Try.f72]) ?_)
  generalize hQ : retQ R.slices_Clone_byte _ = Q
  simp (disch := first | assumption | omega) only [C.slices_Clone_byte, go_sem, ↓reduceIte, Nat.reduceEqDiff, reduceCtorEq, Nat.reduceAdd, Nat.reduceLeDiff, Nat.reduceLT, reduceIte, Int.reduceBEq, Int.reduceBNe, Int.reduceLT, Int.reduceLE, Int.reduceAdd, Int.reduceSub, Int.reduceMul, Int.reduceNeg, Int.reduceEq, Int.reduceNe, Nat.reduceMul, Nat.reduceSub]
  refine aops_isnilR (o := o) (xs := ints .u8 l) (by simp (disch := first | assumption | omega) only [go_sem, ↓reduceIte, Nat.reduceEqDiff, reduceCtorEq, Nat.reduceAdd, Nat.reduceLeDiff, Nat.reduceLT, reduceIte, Int.reduceBEq, Int.reduceBNe, Int.reduceLT, Int.reduceLE, Int.reduceAdd, Int.reduceSub, Int.reduceMul, Int.reduceNeg, Int.reduceEq, Int.reduceNe, Nat.reduceMul, Nat.reduceSub]) h1 (fun e => by rw [ho.2 e]; rfl) fun b hb => ?_
  cases b
  · simp (disch := first | assumption | omega) only [aops_hop, hstep, srcH, srcW, ints_flat, ints_rdc, go_sem, ↓reduceIte, Nat.reduceEqDiff, reduceCtorEq, Nat.reduceAdd, Nat.reduceLeDiff, Nat.reduceLT, reduceIte, Int.reduceBEq, Int.reduceBNe, Int.reduceLT, Int.reduceLE, Int.reduceAdd, Int.reduceSub, Int.reduceMul, Int.reduceNeg, Int.reduceEq, Int.reduceNe, Nat.reduceMul, Nat.reduceSub]
    refine ⟨ints_width l, by omega, by omega, fun h0 => ?_, fun _ _ => by omega, fun h0 _ cap hc _ => ?_⟩
    · have : l = [] := List.eq_nil_of_length_eq_zero h0
      subst this
      refine own_empty (id := 0) (off := 0) (cap := 0) (by simp (disch := first | assumption | omega) only [go_sem, ↓reduceIte, Nat.reduceEqDiff, reduceCtorEq, Nat.reduceAdd, Nat.reduceLeDiff, Nat.reduceLT, reduceIte, Int.reduceBEq, Int.reduceBNe, Int.reduceLT, Int.reduceLE, Int.reduceAdd, Int.reduceSub, Int.reduceMul, Int.reduceNeg, Int.reduceEq, Int.reduceNe, Nat.reduceMul, Nat.reduceSub]) (fun h => absurd rfl h) (fun _ => rfl) (by omega) ?_
      rintro hp hhp
      simp (disch := first | assumption | omega) only [go_sem, ↓reduceIte, Nat.reduceEqDiff, reduceCtorEq, Nat.reduceAdd, Nat.reduceLeDiff, Nat.reduceLT, reduceIte, Int.reduceBEq, Int.reduceBNe, Int.reduceLT, Int.reduceLE, Int.reduceAdd, Int.reduceSub, Int.reduceMul, Int.reduceNeg, Int.reduceEq, Int.reduceNe, Nat.reduceMul, Nat.reduceSub]
      subst hQ
      simp (disch := first | assumption | omega) only [R.slices_Clone_byte, go_sem, ↓reduceIte, Nat.reduceEqDiff, reduceCtorEq, Nat.reduceAdd, Nat.reduceLeDiff, Nat.reduceLT, reduceIte, Int.reduceBEq, Int.reduceBNe, Int.reduceLT, Int.reduceLE, Int.reduceAdd, Int.reduceSub, Int.reduceMul, Int.reduceNeg, Int.reduceEq, Int.reduceNe, Nat.reduceMul, Nat.reduceSub]
      rcases hhp with ⟨rfl, _⟩ | ⟨_, h9⟩
      · exact ⟨[], by simp (disch := first | assumption | omega) only [go_sem, ↓reduceIte, Nat.reduceEqDiff, reduceCtorEq, Nat.reduceAdd, Nat.reduceLeDiff, Nat.reduceLT, reduceIte, Int.reduceBEq, Int.reduceBNe, Int.reduceLT, Int.reduceLE, Int.reduceAdd, Int.reduceSub, Int.reduceMul, Int.reduceNeg, Int.reduceEq, Int.reduceNe, Nat.reduceMul, Nat.reduceSub], by simp [AVal.ids, idsL], .inr ⟨0, rfl, Nat.le_refl _⟩⟩
      · exact absurd rfl h9
    · simp (disch := first | assumption | omega) only [ints_flat, ints_rdc, go_sem, ↓reduceIte, Nat.reduceEqDiff, reduceCtorEq, Nat.reduceAdd, Nat.reduceLeDiff, Nat.reduceLT, reduceIte, Int.reduceBEq, Int.reduceBNe, Int.reduceLT, Int.reduceLE, Int.reduceAdd, Int.reduceSub, Int.reduceMul, Int.reduceNeg, Int.reduceEq, Int.reduceNe, Nat.reduceMul, Nat.reduceSub]
      refine own_flat (id := h.length) (cap := cap) (xs := ints .u8 l) (rest := List.replicate ((cap - l.length) * 1) .junk) (by simp (disch := first | assumption | omega) only [ints_length, go_sem, ↓reduceIte, Nat.reduceEqDiff, reduceCtorEq, Nat.reduceAdd, Nat.reduceLeDiff, Nat.reduceLT, reduceIte, Int.reduceBEq, Int.reduceBNe, Int.reduceLT, Int.reduceLE, Int.reduceAdd, Int.reduceSub, Int.reduceMul, Int.reduceNeg, Int.reduceEq, Int.reduceNe, Nat.reduceMul, Nat.reduceSub]) (by simp (disch := first | assumption | omega) only [ints_flat, ints_length, go_sem, ↓reduceIte, Nat.reduceEqDiff, reduceCtorEq, Nat.reduceAdd, Nat.reduceLeDiff, Nat.reduceLT, reduceIte, Int.reduceBEq, Int.reduceBNe, Int.reduceLT, Int.reduceLE, Int.reduceAdd, Int.reduceSub, Int.reduceMul, Int.reduceNeg, Int.reduceEq, Int.reduceNe, Nat.reduceMul, Nat.reduceSub]) (by simp (disch := first | assumption | omega) only [ints_length, go_sem, ↓reduceIte, Nat.reduceEqDiff, reduceCtorEq, Nat.reduceAdd, Nat.reduceLeDiff, Nat.reduceLT, reduceIte, Int.reduceBEq, Int.reduceBNe, Int.reduceLT, Int.reduceLE, Int.reduceAdd, Int.reduceSub, Int.reduceMul, Int.reduceNeg, Int.reduceEq, Int.reduceNe, Nat.reduceMul, Nat.reduceSub]; omega) (by simp [ints_length]) (by omega) (ints_width l) (fun e => by cases e) (fun _ x hx => by obtain ⟨n, _, rfl⟩ := List.mem_map.1 hx; rfl) (fun _ => rfl) (fun x hx c hc => by obtain ⟨n, _, rfl⟩ := List.mem_map.1 hx; simp only [AVal.cells, List.mem_singleton] at hc; subst hc; exact ⟨rfl, rfl⟩) ?_
      rintro hp hhp
      simp (disch := first | assumption | omega) only [go_sem, ↓reduceIte, Nat.reduceEqDiff, reduceCtorEq, Nat.reduceAdd, Nat.reduceLeDiff, Nat.reduceLT, reduceIte, Int.reduceBEq, Int.reduceBNe, Int.reduceLT, Int.reduceLE, Int.reduceAdd, Int.reduceSub, Int.reduceMul, Int.reduceNeg, Int.reduceEq, Int.reduceNe, Nat.reduceMul, Nat.reduceSub]
      subst hQ
      simp (disch := first | assumption | omega) only [R.slices_Clone_byte, go_sem, ↓reduceIte, Nat.reduceEqDiff, reduceCtorEq, Nat.reduceAdd, Nat.reduceLeDiff, Nat.reduceLT, reduceIte, Int.reduceBEq, Int.reduceBNe, Int.reduceLT, Int.reduceLE, Int.reduceAdd, Int.reduceSub, Int.reduceMul, Int.reduceNeg, Int.reduceEq, Int.reduceNe, Nat.reduceMul, Nat.reduceSub]
      rcases hhp with ⟨rfl, _⟩ | ⟨rfl, _⟩
      · exact ⟨_, by simp (disch := first | assumption | omega) only [go_sem, ↓reduceIte, Nat.reduceEqDiff, reduceCtorEq, Nat.reduceAdd, Nat.reduceLeDiff, Nat.reduceLT, reduceIte, Int.reduceBEq, Int.reduceBNe, Int.reduceLT, Int.reduceLE, Int.reduceAdd, Int.reduceSub, Int.reduceMul, Int.reduceNeg, Int.reduceEq, Int.reduceNe, Nat.reduceMul, Nat.reduceSub]; rfl, by simp [AVal.ids, ints_ids], .inr ⟨cap, rfl, hc⟩⟩
      · exact ⟨_, by simp (disch := first | assumption | omega) only [go_sem, ↓reduceIte, Nat.reduceEqDiff, reduceCtorEq, Nat.reduceAdd, Nat.reduceLeDiff, Nat.reduceLT, reduceIte, Int.reduceBEq, Int.reduceBNe, Int.reduceLT, Int.reduceLE, Int.reduceAdd, Int.reduceSub, Int.reduceMul, Int.reduceNeg, Int.reduceEq, Int.reduceNe, Nat.reduceMul, Nat.reduceSub]; rfl, by simp [AVal.ids, ints_ids], .inr ⟨cap, rfl, hc⟩⟩
  · have : l = [] := by
      refine Classical.byContradiction fun h0 => ?_
      have := hb (by simpa [ints] using h0)
      cases this
    subst this
    simp (disch := first | assumption | omega) only [go_sem, ↓reduceIte, Nat.reduceEqDiff, reduceCtorEq, Nat.reduceAdd, Nat.reduceLeDiff, Nat.reduceLT, reduceIte, Int.reduceBEq, Int.reduceBNe, Int.reduceLT, Int.reduceLE, Int.reduceAdd, Int.reduceSub, Int.reduceMul, Int.reduceNeg, Int.reduceEq, Int.reduceNe, Nat.reduceMul, Nat.reduceSub]
    subst hQ
    simp (disch := first | assumption | omega) only [R.slices_Clone_byte, go_sem, ↓reduceIte, Nat.reduceEqDiff, reduceCtorEq, Nat.reduceAdd, Nat.reduceLeDiff, Nat.reduceLT, reduceIte, Int.reduceBEq, Int.reduceBNe, Int.reduceLT, Int.reduceLE, Int.reduceAdd, Int.reduceSub, Int.reduceMul, Int.reduceNeg, Int.reduceEq, Int.reduceNe, Nat.reduceMul, Nat.reduceSub]
    exact ⟨[], by simp, by simp [AVal.ids, idsL], by simp [ints]⟩
theorem CloneByte_ok (o : Own) (l : List Int) (ho : Rdn o l) (hl : l.length ≤ 70368744177664) (h : List HObj) :
    ACalls Try.prog F.slices_Clone_byte [.lst o (ints .u8 l)] h (fun r h' => (∃ o', r = .lst o' (ints .u8 l) ∧ (o' = .nil ∧ l = [] ∨ o' = .app 1)) ∧ h' = h) :=
  ACalls.gr (ACalls.mono (CloneByteU_ok o l ho hl h) fun r h' ⟨e1, e2⟩ => by
    refine ⟨?_, e2⟩
    rcases e1 with ⟨rfl, rfl⟩ | ⟨c, rfl, _⟩
    · exact ⟨.nil, rfl, .inl ⟨rfl, rfl⟩⟩
    · exact ⟨.app 1, rfl, .inr rfl⟩)
theorem CloneRecs_ok (o : Own) (l : List (List Int)) (xs : List AVal) (ho : Rdn o l) (hx : Each2 RecOk l xs) (hl : l.length ≤ 2932031007402) (h : List HObj) :
    ACalls Try.prog F.slices_Clone_bs [.lst o xs] h (fun r h' => (∃ o', r = .lst o' xs ∧ (o' = .nil ∧ l = [] ∨ o' = .app 1)) ∧ h' = h) := by
  have h1 := ho.1
  have lx := hx.length
  refine ACalls.of_aw Try.func64 K.slices_Clone_bs (by simp [Try.f64]) ?_
  generalize hQ : retQ R.slices_Clone_bs _ = Q
  simp (disch := first | assumption | omega) only [C.slices_Clone_bs, go_sem, ↓reduceIte, Nat.reduceEqDiff, reduceCtorEq, Nat.reduceAdd, Nat.reduceLeDiff, Nat.reduceLT, reduceIte, Int.reduceBEq, Int.reduceBNe, Int.reduceLT, Int.reduceLE, Int.reduceAdd, Int.reduceSub, Int.reduceMul, Int.reduceNeg, Int.reduceEq, Int.reduceNe, Nat.reduceMul, Nat.reduceSub]
  refine aops_isnilR (o := o) (xs := xs) (by simp (disch := first | assumption | omega) only [go_sem, ↓reduceIte, Nat.reduceEqDiff, reduceCtorEq, Nat.reduceAdd, Nat.reduceLeDiff, Nat.reduceLT, reduceIte, Int.reduceBEq, Int.reduceBNe, Int.reduceLT, Int.reduceLE, Int.reduceAdd, Int.reduceSub, Int.reduceMul, Int.reduceNeg, Int.reduceEq, Int.reduceNe, Nat.reduceMul, Nat.reduceSub]) h1 (fun e => by have := ho.2 e; subst this; exact List.eq_nil_of_length_eq_zero lx) fun b hb => ?_
  cases b
  · simp (disch := first | assumption | omega) only [go_sem, ↓reduceIte, Nat.reduceEqDiff, reduceCtorEq, Nat.reduceAdd, Nat.reduceLeDiff, Nat.reduceLT, reduceIte, Int.reduceBEq, Int.reduceBNe, Int.reduceLT, Int.reduceLE, Int.reduceAdd, Int.reduceSub, Int.reduceMul, Int.reduceNeg, Int.reduceEq, Int.reduceNe, Nat.reduceMul, Nat.reduceSub]
    refine ⟨hx.all (fun r _ x hr => by obtain ⟨q, _, rfl⟩ := hr; rfl), by omega, by omega, ?_⟩
    subst hQ
    simp (disch := first | assumption | omega) only [R.slices_Clone_bs, go_sem, ↓reduceIte, Nat.reduceEqDiff, reduceCtorEq, Nat.reduceAdd, Nat.reduceLeDiff, Nat.reduceLT, reduceIte, Int.reduceBEq, Int.reduceBNe, Int.reduceLT, Int.reduceLE, Int.reduceAdd, Int.reduceSub, Int.reduceMul, Int.reduceNeg, Int.reduceEq, Int.reduceNe, Nat.reduceMul, Nat.reduceSub]
    exact ⟨_, rfl, .inr rfl⟩
  · have : xs = [] := by
      refine Classical.byContradiction fun h0 => ?_
      have := hb h0
      cases this
    subst this
    simp (disch := first | assumption | omega) only [go_sem, ↓reduceIte, Nat.reduceEqDiff, reduceCtorEq, Nat.reduceAdd, Nat.reduceLeDiff, Nat.reduceLT, reduceIte, Int.reduceBEq, Int.reduceBNe, Int.reduceLT, Int.reduceLE, Int.reduceAdd, Int.reduceSub, Int.reduceMul, Int.reduceNeg, Int.reduceEq, Int.reduceNe, Nat.reduceMul, Nat.reduceSub]
    subst hQ
    simp (disch := first | assumption | omega) only [R.slices_Clone_bs, go_sem, ↓reduceIte, Nat.reduceEqDiff, reduceCtorEq, Nat.reduceAdd, Nat.reduceLeDiff, Nat.reduceLT, reduceIte, Int.reduceBEq, Int.reduceBNe, Int.reduceLT, Int.reduceLE, Int.reduceAdd, Int.reduceSub, Int.reduceMul, Int.reduceNeg, Int.reduceEq, Int.reduceNe, Nat.reduceMul, Nat.reduceSub]
    exact ⟨.nil, rfl, .inl ⟨rfl, List.eq_nil_of_length_eq_zero lx.symm⟩⟩
theorem fdiv_pow {n : Int} (h0 : 0 ≤ n) (k : Nat) : n.fdiv (2 ^ k) = n / 2 ^ k := Int.fdiv_eq_ediv_of_nonneg _ (by exact Int.pow_nonneg (by omega))
theorem shr24 {n : Int} (h0 : 0 ≤ n) : n.fdiv (2 ^ min (Int.toNat 24) 32) = n / 256 / 256 / 256 := by
  rw [show min (Int.toNat 24) 32 = 24 from rfl, fdiv_pow h0]; omega
theorem shr16 {n : Int} (h0 : 0 ≤ n) : n.fdiv (2 ^ min (Int.toNat 16) 32) = n / 256 / 256 := by
  rw [show min (Int.toNat 16) 32 = 16 from rfl, fdiv_pow h0]; omega
theorem shr8 {n : Int} (h0 : 0 ≤ n) : n.fdiv (2 ^ min (Int.toNat 8) 32) = n / 256 := by
  rw [show min (Int.toNat 8) 32 = 8 from rfl, fdiv_pow h0]; omega
theorem shr8' {n : Int} (h0 : 0 ≤ n) : n.fdiv (2 ^ min (Int.toNat 8) 64) = n / 256 := by
  rw [show min (Int.toNat 8) 64 = 8 from rfl, fdiv_pow h0]; omega
theorem four_ok (n : Int) (h0 : 0 ≤ n) (h1 : n < 4294967296) (h : List HObj) :
    ACalls Try.prog F.log_four [.int .u32 n] h (fun r h' => r = .lst (.app 1) (ints .u8 (four n)) ∧ h' = h) := by
  refine ACalls.of_aw Try.func152 K.log_four (by simp [Try.f152]) ?_
  generalize hQ : retQ R.log_four _ = Q
  simp (disch := first | assumption | omega) only [C.log_four, go_sem, ↓reduceIte, Nat.reduceEqDiff, reduceCtorEq, Nat.reduceAdd, Nat.reduceLeDiff, Nat.reduceLT, reduceIte, Int.reduceBEq, Int.reduceBNe, Int.reduceLT, Int.reduceLE, Int.reduceAdd, Int.reduceSub, Int.reduceMul, Int.reduceNeg, Int.reduceEq, Int.reduceNe, Nat.reduceMul, Nat.reduceSub]
  subst hQ
  simp (disch := first | assumption | omega) only [R.log_four, shr24 h0, shr16 h0, shr8 h0, wrapU8_mod, go_sem, ↓reduceIte, Nat.reduceEqDiff, reduceCtorEq, Nat.reduceAdd, Nat.reduceLeDiff, Nat.reduceLT, reduceIte, Int.reduceBEq, Int.reduceBNe, Int.reduceLT, Int.reduceLE, Int.reduceAdd, Int.reduceSub, Int.reduceMul, Int.reduceNeg, Int.reduceEq, Int.reduceNe, Nat.reduceMul, Nat.reduceSub]
  simp [four, be4, ints]
theorem sum_ok (last : Int) (o : Own) (r : List Int) (ho : Rdn o r) (h0 : 0 ≤ last) (h1 : last < 4294967296) (hr : ∀ x ∈ r, inU8 x) (hl : r.length ≤ 70368744177664) (h : List HObj) :
    ACalls Try.prog F.log_sum [.int .u32 last, .lst o (ints .u8 r)] h (fun v h' => v = .int .u32 (logSum last r) ∧ h' = h) := by
  have ho1 := ho.1
  refine ACalls.of_aw Try.func153 K.log_sum (by simp [Try.f153]) ?_
  generalize hQ : retQ R.log_sum _ = Q
  simp (disch := first | assumption | omega) only [C.log_sum, go_sem, ↓reduceIte, Nat.reduceEqDiff, reduceCtorEq, Nat.reduceAdd, Nat.reduceLeDiff, Nat.reduceLT, reduceIte, Int.reduceBEq, Int.reduceBNe, Int.reduceLT, Int.reduceLE, Int.reduceAdd, Int.reduceSub, Int.reduceMul, Int.reduceNeg, Int.reduceEq, Int.reduceNe, Nat.reduceMul, Nat.reduceSub]
  refine callG_ok (four_ok last h0 h1 _) (by simp (disch := first | assumption | omega) only [go_sem, ↓reduceIte, Nat.reduceEqDiff, reduceCtorEq, Nat.reduceAdd, Nat.reduceLeDiff, Nat.reduceLT, reduceIte, Int.reduceBEq, Int.reduceBNe, Int.reduceLT, Int.reduceLE, Int.reduceAdd, Int.reduceSub, Int.reduceMul, Int.reduceNeg, Int.reduceEq, Int.reduceNe, Nat.reduceMul, Nat.reduceSub]) ?_
  rintro _ _ ⟨rfl, hhh⟩
  try rw [hhh]
  clear hhh
  simp (disch := first | assumption | omega) only [shr8' (Int.natCast_nonneg r.length), go_sem, ↓reduceIte, Nat.reduceEqDiff, reduceCtorEq, Nat.reduceAdd, Nat.reduceLeDiff, Nat.reduceLT, reduceIte, Int.reduceBEq, Int.reduceBNe, Int.reduceLT, Int.reduceLE, Int.reduceAdd, Int.reduceSub, Int.reduceMul, Int.reduceNeg, Int.reduceEq, Int.reduceNe, Nat.reduceMul, Nat.reduceSub]
  refine callG_ok (Concat_byte_ok .sh [four last, beBytes r.length 2, r] [.lst .sh (ints .u8 (four last)), .lst .sh (ints .u8 (beBytes r.length 2)), .lst o (ints .u8 r)] (.inl rfl) ?_ (by simp) (by simp) ?_ _) (by simp (disch := first | assumption | omega) only [go_sem, ↓reduceIte, Nat.reduceEqDiff, reduceCtorEq, Nat.reduceAdd, Nat.reduceLeDiff, Nat.reduceLT, reduceIte, Int.reduceBEq, Int.reduceBNe, Int.reduceLT, Int.reduceLE, Int.reduceAdd, Int.reduceSub, Int.reduceMul, Int.reduceNeg, Int.reduceEq, Int.reduceNe, Nat.reduceMul, Nat.reduceSub]) ?_
  · exact ⟨_, _, rfl, ⟨.sh, ⟨.inl rfl, fun e => by cases e⟩, rfl⟩, _, _, rfl, ⟨.sh, ⟨.inl rfl, fun e => by cases e⟩, rfl⟩, _, _, rfl, ⟨o, ho, rfl⟩, rfl⟩
  · simp [lenSum, four_length, beBytes_length]; omega
  rintro _ _ ⟨rfl, hhh⟩
  rw [hhh]
  clear hhh
  have e1 : [four last, beBytes r.length 2, r].flatten = four last ++ (beBytes r.length 2 ++ r) := by simp
  have hu : ∀ x ∈ four last ++ (beBytes r.length 2 ++ r), inU8 x := by
    intro x hx
    simp only [List.mem_append] at hx
    rcases hx with hx | hx | hx
    · exact beBytes_u8 _ _ x hx
    · exact beBytes_u8 _ _ x hx
    · exact hr x hx
  rw [e1]
  simp (disch := first | assumption | omega) only [go_sem, ↓reduceIte, Nat.reduceEqDiff, reduceCtorEq, Nat.reduceAdd, Nat.reduceLeDiff, Nat.reduceLT, reduceIte, Int.reduceBEq, Int.reduceBNe, Int.reduceLT, Int.reduceLE, Int.reduceAdd, Int.reduceSub, Int.reduceMul, Int.reduceNeg, Int.reduceEq, Int.reduceNe, Nat.reduceMul, Nat.reduceSub]
  refine callG_ok (Sum_ok .sh (four last ++ (beBytes r.length 2 ++ r)) (.inl rfl) hu (by simp [four_length, beBytes_length]; omega) _) (by simp (disch := first | assumption | omega) only [go_sem, ↓reduceIte, Nat.reduceEqDiff, reduceCtorEq, Nat.reduceAdd, Nat.reduceLeDiff, Nat.reduceLT, reduceIte, Int.reduceBEq, Int.reduceBNe, Int.reduceLT, Int.reduceLE, Int.reduceAdd, Int.reduceSub, Int.reduceMul, Int.reduceNeg, Int.reduceEq, Int.reduceNe, Nat.reduceMul, Nat.reduceSub]) ?_
  rintro _ _ ⟨rfl, hhh⟩
  try rw [hhh]
  clear hhh
  simp (disch := first | assumption | omega) only [go_sem, ↓reduceIte, Nat.reduceEqDiff, reduceCtorEq, Nat.reduceAdd, Nat.reduceLeDiff, Nat.reduceLT, reduceIte, Int.reduceBEq, Int.reduceBNe, Int.reduceLT, Int.reduceLE, Int.reduceAdd, Int.reduceSub, Int.reduceMul, Int.reduceNeg, Int.reduceEq, Int.reduceNe, Nat.reduceMul, Nat.reduceSub]
  subst hQ
  simp (disch := first | assumption | omega) only [R.log_sum, go_sem, ↓reduceIte, Nat.reduceEqDiff, reduceCtorEq, Nat.reduceAdd, Nat.reduceLeDiff, Nat.reduceLT, reduceIte, Int.reduceBEq, Int.reduceBNe, Int.reduceLT, Int.reduceLE, Int.reduceAdd, Int.reduceSub, Int.reduceMul, Int.reduceNeg, Int.reduceEq, Int.reduceNe, Nat.reduceMul, Nat.reduceSub]
  rfl
/-- Records that were read: held so that more may be added. -/
def Recs (rs : List (List Int)) (x : AVal) : Prop := ∃ q xs, x = .lst q xs ∧ Each2 RecOk rs xs ∧ (q = .nil ∧ rs = [] ∨ q = .app 1)
theorem or_shl (x y : Int) (h0 : 0 ≤ x) (h1 : x < 256) (k0 : 0 ≤ y) (k1 : y < 256) : bitsV .or .i64 (IntKind.i64.wrap (x * 2 ^ min (Int.toNat 8) 64)) y = 256 * x + y := by
  obtain ⟨x, rfl⟩ := Int.eq_ofNat_of_zero_le h0
  obtain ⟨y, rfl⟩ := Int.eq_ofNat_of_zero_le k0
  have e : IntKind.i64.wrap ((x : Int) * 2 ^ min (Int.toNat 8) 64) = ((x * 256 : Nat) : Int) := by
    rw [show min (Int.toNat 8) 64 = 8 from rfl, wrapI64 (by omega) (by omega)]; omega
  rw [e]
  show IntKind.i64.wrap ((BitVec.ofInt 64 ((x * 256 : Nat) : Int) ||| BitVec.ofInt 64 (y : Int)).toNat : Int) = _
  rw [BitVec.ofInt_natCast, BitVec.ofInt_natCast, BitVec.toNat_or, BitVec.toNat_ofNat, BitVec.toNat_ofNat, Nat.mod_eq_of_lt (by omega), Nat.mod_eq_of_lt (by omega)]
  have e2 : x * 256 ||| y = x * 256 + y := by
    rw [show x * 256 = 2 ^ 8 * x from by omega, Nat.two_pow_add_eq_or_of_lt (by omega)]
  rw [e2, wrapI64 (by omega) (by omega)]; omega
theorem take_all {α : Type} (l : List α) (n : Nat) : (l.drop n).take (l.length - n) = l.drop n := List.take_of_length_le (by simp)
theorem getD_get {l : List Int} {i : Nat} (h : i < l.length) : l.getD i 0 = l[i] := by simp [List.getD_eq_getElem?_getD, h]
theorem Recs.add {rs : List (List Int)} {xs : List AVal} {r : List Int} {x : AVal} (h : Each2 RecOk rs xs) (hr : RecOk r x) : Recs (rs ++ [r]) (.lst (.app 1) (xs ++ [x])) := ⟨_, _, rfl, h.append (Each2.one hr), .inr rfl⟩
/-- The first bytes of what is left say how long the next record is. -/
theorem next_rec {b : List Int} {rs : List (List Int)} {r : List Int} (h : book 0 (rs ++ [r]) <+: b) : recB (lastOf 0 rs) r <+: b.drop (book 0 rs).length := by
  rw [book_snoc] at h
  obtain ⟨t, ht⟩ := h
  refine ⟨t, ?_⟩
  rw [← ht, List.append_assoc, List.drop_append_of_le_length (Nat.le_refl _), List.drop_length, List.nil_append]
theorem next_of {b : List Int} {rs : List (List Int)} {r : List Int} (hp : book 0 rs <+: b) (h : recB (lastOf 0 rs) r <+: b.drop (book 0 rs).length) : book 0 (rs ++ [r]) <+: b := by
  rw [book_snoc]
  obtain ⟨t, rfl⟩ := hp
  rw [List.drop_append_of_le_length (Nat.le_refl _), List.drop_length, List.nil_append] at h
  exact (List.prefix_append_right_inj _).2 h
theorem scan_ok (o : Own) (b : List Int) (ho : Rdo o) (hb : ∀ x ∈ b, inU8 x) (hl : b.length ≤ 1099511627776) (h : List HObj) :
    ACalls Try.prog F.log_scan [.lst o (ints .u8 b)] h (fun v h' => (∃ rs x, v = .tup [x, .int .i64 (book 0 rs).length, .int .u32 (lastOf 0 rs)] ∧ Recs rs x ∧ IsScan b rs) ∧ h' = h) := by
  refine ACalls.of_aw Try.func151 K.log_scan (by simp [Try.f151]) ?_
  generalize hQ : retQ R.log_scan _ = Q
  simp (disch := first | assumption | omega) only [C.log_scan, go_sem, ↓reduceIte, Nat.reduceEqDiff, reduceCtorEq, Nat.reduceAdd, Nat.reduceLeDiff, Nat.reduceLT, reduceIte, Int.reduceBEq, Int.reduceBNe, Int.reduceLT, Int.reduceLE, Int.reduceAdd, Int.reduceSub, Int.reduceMul, Int.reduceNeg, Int.reduceEq, Int.reduceNe, Nat.reduceMul, Nat.reduceSub]
  refine aw_count (fun d S => ∃ (rs : List (List Int)) (x : AVal), (book 0 rs).length + d = b.length ∧ S.env 0 = .lst o (ints .u8 b) ∧ S.env 2 = x ∧ S.env 3 = .int .i64 (book 0 rs).length ∧ S.env 4 = .int .u32 (lastOf 0 rs) ∧ Recs rs x ∧ (∀ r ∈ rs, r.length ≤ 2000) ∧ book 0 rs <+: b ∧ S.heap = h) (n := b.length) ⟨[], .lst .nil [], by simp [go_sem, book, lastOf], rfl, by simp [go_sem], by simp [go_sem, book], by simp [go_sem, lastOf], ⟨.nil, [], rfl, rfl, .inl ⟨rfl, rfl⟩⟩, by simp, by simp [book], rfl⟩ ?_
  rintro d S ⟨rs, x, hi, e0, e2, e3, e4, hR, hS, hP, eh⟩
  obtain ⟨q, xs, rfl, hE, hq⟩ := hR
  have hlast := lastOf_bd 0 rs (by omega) (by omega)
  have hz : (List.take (b.length - (book 0 rs).length) (List.drop (book 0 rs).length (ints IntKind.u8 b))) = ints .u8 (b.drop (book 0 rs).length) := by
    rw [← ints_drop]
    have := take_all (ints .u8 b) (book 0 rs).length
    rwa [ints_length] at this
  have hzl : (b.drop (book 0 rs).length).length = b.length - (book 0 rs).length := by simp
  have hzu : ∀ x ∈ b.drop (book 0 rs).length, inU8 x := fun x hx => hb x (List.mem_of_mem_drop hx)
  have hno : ∀ r : List Int, book 0 (rs ++ [r]) <+: b → recB (lastOf 0 rs) r <+: b.drop (book 0 rs).length := fun r hr => next_rec hr
  have hyes : ∀ r : List Int, recB (lastOf 0 rs) r <+: b.drop (book 0 rs).length → book 0 (rs ++ [r]) <+: b := fun r hr => next_of hP hr
  have hrem : remV (.lst q xs) = remV (.lst q xs) := rfl
  generalize hbk : (book 0 rs).length = k at *
  generalize hla : lastOf 0 rs = last at *
  generalize hzd : b.drop k = z at *
  have hb1 := hlast.1
  simp (disch := first | assumption | omega) only [e0, e2, e3, e4, eh, hz, go_sem, ↓reduceIte, Nat.reduceEqDiff, reduceCtorEq, Nat.reduceAdd, Nat.reduceLeDiff, Nat.reduceLT, reduceIte, Int.reduceBEq, Int.reduceBNe, Int.reduceLT, Int.reduceLE, Int.reduceAdd, Int.reduceSub, Int.reduceMul, Int.reduceNeg, Int.reduceEq, Int.reduceNe, Nat.reduceMul, Nat.reduceSub]
  refine ⟨⟨by omega, by omega, ints_width b⟩, ?_⟩
  have fin : ∀ S' : AState, (∀ r : List Int, r.length ≤ 2000 → ¬ recB last r <+: z) → S'.env 2 = .lst q xs → S'.env 3 = .int .i64 k → S'.env 4 = .int .u32 last → S'.heap = h → Q AExit.ret S' := by
    intro S' hmax f2 f3 f4 fh
    subst hQ
    simp only [retQ_ret, R.log_scan, ress3, resV_t, f2, f3, f4, fh, plainV, true_and, and_true]
    exact ⟨rs, _, by rw [hbk, hla], ⟨q, xs, rfl, hE, hq⟩, hS, hP, fun r hr hp => hmax r hr (hno r hp)⟩
  refine condG_if (fun hlt => ?_) fun hge => ?_
  · have hlt : z.length < 6 := by omega
    rcases hq with ⟨rfl, rfl⟩ | rfl
    · simp (disch := first | assumption | omega) only [e0, e2, e3, e4, eh, hz, go_sem, ↓reduceIte, Nat.reduceEqDiff, reduceCtorEq, Nat.reduceAdd, Nat.reduceLeDiff, Nat.reduceLT, reduceIte, Int.reduceBEq, Int.reduceBNe, Int.reduceLT, Int.reduceLE, Int.reduceAdd, Int.reduceSub, Int.reduceMul, Int.reduceNeg, Int.reduceEq, Int.reduceNe, Nat.reduceMul, Nat.reduceSub]
      refine fin _ (fun r _ hp => ?_) (by simp (disch := first | assumption | omega) only [e0, e2, e3, e4, eh, go_sem, ↓reduceIte, Nat.reduceEqDiff, reduceCtorEq, Nat.reduceAdd, Nat.reduceLeDiff, Nat.reduceLT, reduceIte, Int.reduceBEq, Int.reduceBNe, Int.reduceLT, Int.reduceLE, Int.reduceAdd, Int.reduceSub, Int.reduceMul, Int.reduceNeg, Int.reduceEq, Int.reduceNe, Nat.reduceMul, Nat.reduceSub]) (by simp (disch := first | assumption | omega) only [e0, e2, e3, e4, eh, go_sem, ↓reduceIte, Nat.reduceEqDiff, reduceCtorEq, Nat.reduceAdd, Nat.reduceLeDiff, Nat.reduceLT, reduceIte, Int.reduceBEq, Int.reduceBNe, Int.reduceLT, Int.reduceLE, Int.reduceAdd, Int.reduceSub, Int.reduceMul, Int.reduceNeg, Int.reduceEq, Int.reduceNe, Nat.reduceMul, Nat.reduceSub]) (by simp (disch := first | assumption | omega) only [e0, e2, e3, e4, eh, go_sem, ↓reduceIte, Nat.reduceEqDiff, reduceCtorEq, Nat.reduceAdd, Nat.reduceLeDiff, Nat.reduceLT, reduceIte, Int.reduceBEq, Int.reduceBNe, Int.reduceLT, Int.reduceLE, Int.reduceAdd, Int.reduceSub, Int.reduceMul, Int.reduceNeg, Int.reduceEq, Int.reduceNe, Nat.reduceMul, Nat.reduceSub]) (by simp (disch := first | assumption | omega) only [e0, e2, e3, e4, eh, go_sem, ↓reduceIte, Nat.reduceEqDiff, reduceCtorEq, Nat.reduceAdd, Nat.reduceLeDiff, Nat.reduceLT, reduceIte, Int.reduceBEq, Int.reduceBNe, Int.reduceLT, Int.reduceLE, Int.reduceAdd, Int.reduceSub, Int.reduceMul, Int.reduceNeg, Int.reduceEq, Int.reduceNe, Nat.reduceMul, Nat.reduceSub])
      have := (recB_prefix hp).2.2.2
      omega
    · simp (disch := first | assumption | omega) only [e0, e2, e3, e4, eh, hz, go_sem, ↓reduceIte, Nat.reduceEqDiff, reduceCtorEq, Nat.reduceAdd, Nat.reduceLeDiff, Nat.reduceLT, reduceIte, Int.reduceBEq, Int.reduceBNe, Int.reduceLT, Int.reduceLE, Int.reduceAdd, Int.reduceSub, Int.reduceMul, Int.reduceNeg, Int.reduceEq, Int.reduceNe, Nat.reduceMul, Nat.reduceSub]
      refine fin _ (fun r _ hp => ?_) (by simp (disch := first | assumption | omega) only [e0, e2, e3, e4, eh, go_sem, ↓reduceIte, Nat.reduceEqDiff, reduceCtorEq, Nat.reduceAdd, Nat.reduceLeDiff, Nat.reduceLT, reduceIte, Int.reduceBEq, Int.reduceBNe, Int.reduceLT, Int.reduceLE, Int.reduceAdd, Int.reduceSub, Int.reduceMul, Int.reduceNeg, Int.reduceEq, Int.reduceNe, Nat.reduceMul, Nat.reduceSub]) (by simp (disch := first | assumption | omega) only [e0, e2, e3, e4, eh, go_sem, ↓reduceIte, Nat.reduceEqDiff, reduceCtorEq, Nat.reduceAdd, Nat.reduceLeDiff, Nat.reduceLT, reduceIte, Int.reduceBEq, Int.reduceBNe, Int.reduceLT, Int.reduceLE, Int.reduceAdd, Int.reduceSub, Int.reduceMul, Int.reduceNeg, Int.reduceEq, Int.reduceNe, Nat.reduceMul, Nat.reduceSub]) (by simp (disch := first | assumption | omega) only [e0, e2, e3, e4, eh, go_sem, ↓reduceIte, Nat.reduceEqDiff, reduceCtorEq, Nat.reduceAdd, Nat.reduceLeDiff, Nat.reduceLT, reduceIte, Int.reduceBEq, Int.reduceBNe, Int.reduceLT, Int.reduceLE, Int.reduceAdd, Int.reduceSub, Int.reduceMul, Int.reduceNeg, Int.reduceEq, Int.reduceNe, Nat.reduceMul, Nat.reduceSub]) (by simp (disch := first | assumption | omega) only [e0, e2, e3, e4, eh, go_sem, ↓reduceIte, Nat.reduceEqDiff, reduceCtorEq, Nat.reduceAdd, Nat.reduceLeDiff, Nat.reduceLT, reduceIte, Int.reduceBEq, Int.reduceBNe, Int.reduceLT, Int.reduceLE, Int.reduceAdd, Int.reduceSub, Int.reduceMul, Int.reduceNeg, Int.reduceEq, Int.reduceNe, Nat.reduceMul, Nat.reduceSub])
      have := (recB_prefix hp).2.2.2
      omega
  · have hge : 6 ≤ z.length := by omega
    have h0 : 0 < z.length := by omega
    have h1 : 1 < z.length := by omega
    have hat0 : at_ (ints .u8 z) 0 = .int .u8 (z.getD 0 0) := at_ints' (k := .u8) z 0 h0
    have hat1 : at_ (ints .u8 z) 1 = .int .u8 (z.getD 1 0) := at_ints' (k := .u8) z 1 h1
    have h0' : (0 : Int) < z.length := by omega
    have h1' : (1 : Int) < z.length := by omega
    rw [getD_get h0] at hat0
    rw [getD_get h1] at hat1
    have hx0 := hzu _ (List.getElem_mem h0)
    have hx1 := hzu _ (List.getElem_mem h1)
    unfold inU8 at hx0 hx1
    have hor := or_shl z[0] z[1] hx0.1 hx0.2 hx1.1 hx1.2
    generalize hx : z[0] = x0 at *
    generalize hy : z[1] = x1 at *
    obtain ⟨n, hn⟩ : ∃ n : Nat, 256 * x0 + x1 = (n : Int) := ⟨(256 * x0 + x1).toNat, by omega⟩
    rw [hn] at hor
    have hn2 : n < 65536 := by omega
    have ht2 : z.take 2 = beBytes n 2 := by
      rw [be2]
      have : z.take 2 = [x0, x1] := by
        have q0 := List.drop_eq_getElem_cons h0
        have q1 := List.drop_eq_getElem_cons h1
        rw [List.drop_zero, q1, hx, hy] at q0
        rw [q0]; rfl
      rw [this]; simp only [List.cons.injEq, and_true]; omega
    have hrl : ∀ r : List Int, r.length ≤ 2000 → recB last r <+: z → r.length = n := by
      intro r hr hp
      have := be2_inj (m := r.length) (n := n) (by omega) (by omega) (by omega) (by omega) ((recB_prefix hp).1.symm.trans ht2)
      omega
    by_cases hbig : 2000 < (n : Int)
    · rcases hq with ⟨rfl, rfl⟩ | rfl
      · simp (disch := first | assumption | omega) only [e0, e2, e3, e4, eh, hz, hat0, hat1, hor, h0', h1', hbig, go_sem, ↓reduceIte, Nat.reduceEqDiff, reduceCtorEq, Nat.reduceAdd, Nat.reduceLeDiff, Nat.reduceLT, reduceIte, Int.reduceBEq, Int.reduceBNe, Int.reduceLT, Int.reduceLE, Int.reduceAdd, Int.reduceSub, Int.reduceMul, Int.reduceNeg, Int.reduceEq, Int.reduceNe, Nat.reduceMul, Nat.reduceSub]
        refine fin _ (fun r hr hp => ?_) (by simp (disch := first | assumption | omega) only [e0, e2, e3, e4, eh, go_sem, ↓reduceIte, Nat.reduceEqDiff, reduceCtorEq, Nat.reduceAdd, Nat.reduceLeDiff, Nat.reduceLT, reduceIte, Int.reduceBEq, Int.reduceBNe, Int.reduceLT, Int.reduceLE, Int.reduceAdd, Int.reduceSub, Int.reduceMul, Int.reduceNeg, Int.reduceEq, Int.reduceNe, Nat.reduceMul, Nat.reduceSub]) (by simp (disch := first | assumption | omega) only [e0, e2, e3, e4, eh, go_sem, ↓reduceIte, Nat.reduceEqDiff, reduceCtorEq, Nat.reduceAdd, Nat.reduceLeDiff, Nat.reduceLT, reduceIte, Int.reduceBEq, Int.reduceBNe, Int.reduceLT, Int.reduceLE, Int.reduceAdd, Int.reduceSub, Int.reduceMul, Int.reduceNeg, Int.reduceEq, Int.reduceNe, Nat.reduceMul, Nat.reduceSub]) (by simp (disch := first | assumption | omega) only [e0, e2, e3, e4, eh, go_sem, ↓reduceIte, Nat.reduceEqDiff, reduceCtorEq, Nat.reduceAdd, Nat.reduceLeDiff, Nat.reduceLT, reduceIte, Int.reduceBEq, Int.reduceBNe, Int.reduceLT, Int.reduceLE, Int.reduceAdd, Int.reduceSub, Int.reduceMul, Int.reduceNeg, Int.reduceEq, Int.reduceNe, Nat.reduceMul, Nat.reduceSub]) (by simp (disch := first | assumption | omega) only [e0, e2, e3, e4, eh, go_sem, ↓reduceIte, Nat.reduceEqDiff, reduceCtorEq, Nat.reduceAdd, Nat.reduceLeDiff, Nat.reduceLT, reduceIte, Int.reduceBEq, Int.reduceBNe, Int.reduceLT, Int.reduceLE, Int.reduceAdd, Int.reduceSub, Int.reduceMul, Int.reduceNeg, Int.reduceEq, Int.reduceNe, Nat.reduceMul, Nat.reduceSub])
        have := hrl r hr hp
        omega
      · simp (disch := first | assumption | omega) only [e0, e2, e3, e4, eh, hz, hat0, hat1, hor, h0', h1', hbig, go_sem, ↓reduceIte, Nat.reduceEqDiff, reduceCtorEq, Nat.reduceAdd, Nat.reduceLeDiff, Nat.reduceLT, reduceIte, Int.reduceBEq, Int.reduceBNe, Int.reduceLT, Int.reduceLE, Int.reduceAdd, Int.reduceSub, Int.reduceMul, Int.reduceNeg, Int.reduceEq, Int.reduceNe, Nat.reduceMul, Nat.reduceSub]
        refine fin _ (fun r hr hp => ?_) (by simp (disch := first | assumption | omega) only [e0, e2, e3, e4, eh, go_sem, ↓reduceIte, Nat.reduceEqDiff, reduceCtorEq, Nat.reduceAdd, Nat.reduceLeDiff, Nat.reduceLT, reduceIte, Int.reduceBEq, Int.reduceBNe, Int.reduceLT, Int.reduceLE, Int.reduceAdd, Int.reduceSub, Int.reduceMul, Int.reduceNeg, Int.reduceEq, Int.reduceNe, Nat.reduceMul, Nat.reduceSub]) (by simp (disch := first | assumption | omega) only [e0, e2, e3, e4, eh, go_sem, ↓reduceIte, Nat.reduceEqDiff, reduceCtorEq, Nat.reduceAdd, Nat.reduceLeDiff, Nat.reduceLT, reduceIte, Int.reduceBEq, Int.reduceBNe, Int.reduceLT, Int.reduceLE, Int.reduceAdd, Int.reduceSub, Int.reduceMul, Int.reduceNeg, Int.reduceEq, Int.reduceNe, Nat.reduceMul, Nat.reduceSub]) (by simp (disch := first | assumption | omega) only [e0, e2, e3, e4, eh, go_sem, ↓reduceIte, Nat.reduceEqDiff, reduceCtorEq, Nat.reduceAdd, Nat.reduceLeDiff, Nat.reduceLT, reduceIte, Int.reduceBEq, Int.reduceBNe, Int.reduceLT, Int.reduceLE, Int.reduceAdd, Int.reduceSub, Int.reduceMul, Int.reduceNeg, Int.reduceEq, Int.reduceNe, Nat.reduceMul, Nat.reduceSub]) (by simp (disch := first | assumption | omega) only [e0, e2, e3, e4, eh, go_sem, ↓reduceIte, Nat.reduceEqDiff, reduceCtorEq, Nat.reduceAdd, Nat.reduceLeDiff, Nat.reduceLT, reduceIte, Int.reduceBEq, Int.reduceBNe, Int.reduceLT, Int.reduceLE, Int.reduceAdd, Int.reduceSub, Int.reduceMul, Int.reduceNeg, Int.reduceEq, Int.reduceNe, Nat.reduceMul, Nat.reduceSub])
        have := hrl r hr hp
        omega
    by_cases hsh : (z.length : Int) < 6 + (n : Int)
    · rcases hq with ⟨rfl, rfl⟩ | rfl
      · simp (disch := first | assumption | omega) only [e0, e2, e3, e4, eh, hz, hat0, hat1, hor, h0', h1', hbig, hsh, go_sem, ↓reduceIte, Nat.reduceEqDiff, reduceCtorEq, Nat.reduceAdd, Nat.reduceLeDiff, Nat.reduceLT, reduceIte, Int.reduceBEq, Int.reduceBNe, Int.reduceLT, Int.reduceLE, Int.reduceAdd, Int.reduceSub, Int.reduceMul, Int.reduceNeg, Int.reduceEq, Int.reduceNe, Nat.reduceMul, Nat.reduceSub]
        refine fin _ (fun r hr hp => ?_) (by simp (disch := first | assumption | omega) only [e0, e2, e3, e4, eh, go_sem, ↓reduceIte, Nat.reduceEqDiff, reduceCtorEq, Nat.reduceAdd, Nat.reduceLeDiff, Nat.reduceLT, reduceIte, Int.reduceBEq, Int.reduceBNe, Int.reduceLT, Int.reduceLE, Int.reduceAdd, Int.reduceSub, Int.reduceMul, Int.reduceNeg, Int.reduceEq, Int.reduceNe, Nat.reduceMul, Nat.reduceSub]) (by simp (disch := first | assumption | omega) only [e0, e2, e3, e4, eh, go_sem, ↓reduceIte, Nat.reduceEqDiff, reduceCtorEq, Nat.reduceAdd, Nat.reduceLeDiff, Nat.reduceLT, reduceIte, Int.reduceBEq, Int.reduceBNe, Int.reduceLT, Int.reduceLE, Int.reduceAdd, Int.reduceSub, Int.reduceMul, Int.reduceNeg, Int.reduceEq, Int.reduceNe, Nat.reduceMul, Nat.reduceSub]) (by simp (disch := first | assumption | omega) only [e0, e2, e3, e4, eh, go_sem, ↓reduceIte, Nat.reduceEqDiff, reduceCtorEq, Nat.reduceAdd, Nat.reduceLeDiff, Nat.reduceLT, reduceIte, Int.reduceBEq, Int.reduceBNe, Int.reduceLT, Int.reduceLE, Int.reduceAdd, Int.reduceSub, Int.reduceMul, Int.reduceNeg, Int.reduceEq, Int.reduceNe, Nat.reduceMul, Nat.reduceSub]) (by simp (disch := first | assumption | omega) only [e0, e2, e3, e4, eh, go_sem, ↓reduceIte, Nat.reduceEqDiff, reduceCtorEq, Nat.reduceAdd, Nat.reduceLeDiff, Nat.reduceLT, reduceIte, Int.reduceBEq, Int.reduceBNe, Int.reduceLT, Int.reduceLE, Int.reduceAdd, Int.reduceSub, Int.reduceMul, Int.reduceNeg, Int.reduceEq, Int.reduceNe, Nat.reduceMul, Nat.reduceSub])
        have := hrl r hr hp
        have := (recB_prefix hp).2.2.2
        omega
      · simp (disch := first | assumption | omega) only [e0, e2, e3, e4, eh, hz, hat0, hat1, hor, h0', h1', hbig, hsh, go_sem, ↓reduceIte, Nat.reduceEqDiff, reduceCtorEq, Nat.reduceAdd, Nat.reduceLeDiff, Nat.reduceLT, reduceIte, Int.reduceBEq, Int.reduceBNe, Int.reduceLT, Int.reduceLE, Int.reduceAdd, Int.reduceSub, Int.reduceMul, Int.reduceNeg, Int.reduceEq, Int.reduceNe, Nat.reduceMul, Nat.reduceSub]
        refine fin _ (fun r hr hp => ?_) (by simp (disch := first | assumption | omega) only [e0, e2, e3, e4, eh, go_sem, ↓reduceIte, Nat.reduceEqDiff, reduceCtorEq, Nat.reduceAdd, Nat.reduceLeDiff, Nat.reduceLT, reduceIte, Int.reduceBEq, Int.reduceBNe, Int.reduceLT, Int.reduceLE, Int.reduceAdd, Int.reduceSub, Int.reduceMul, Int.reduceNeg, Int.reduceEq, Int.reduceNe, Nat.reduceMul, Nat.reduceSub]) (by simp (disch := first | assumption | omega) only [e0, e2, e3, e4, eh, go_sem, ↓reduceIte, Nat.reduceEqDiff, reduceCtorEq, Nat.reduceAdd, Nat.reduceLeDiff, Nat.reduceLT, reduceIte, Int.reduceBEq, Int.reduceBNe, Int.reduceLT, Int.reduceLE, Int.reduceAdd, Int.reduceSub, Int.reduceMul, Int.reduceNeg, Int.reduceEq, Int.reduceNe, Nat.reduceMul, Nat.reduceSub]) (by simp (disch := first | assumption | omega) only [e0, e2, e3, e4, eh, go_sem, ↓reduceIte, Nat.reduceEqDiff, reduceCtorEq, Nat.reduceAdd, Nat.reduceLeDiff, Nat.reduceLT, reduceIte, Int.reduceBEq, Int.reduceBNe, Int.reduceLT, Int.reduceLE, Int.reduceAdd, Int.reduceSub, Int.reduceMul, Int.reduceNeg, Int.reduceEq, Int.reduceNe, Nat.reduceMul, Nat.reduceSub]) (by simp (disch := first | assumption | omega) only [e0, e2, e3, e4, eh, go_sem, ↓reduceIte, Nat.reduceEqDiff, reduceCtorEq, Nat.reduceAdd, Nat.reduceLeDiff, Nat.reduceLT, reduceIte, Int.reduceBEq, Int.reduceBNe, Int.reduceLT, Int.reduceLE, Int.reduceAdd, Int.reduceSub, Int.reduceMul, Int.reduceNeg, Int.reduceEq, Int.reduceNe, Nat.reduceMul, Nat.reduceSub])
        have := hrl r hr hp
        have := (recB_prefix hp).2.2.2
        omega
    have hrd : List.take ((2 + (n : Int)).toNat - Int.toNat 2) (List.drop (Int.toNat 2) (ints IntKind.u8 z)) = ints .u8 ((z.drop 2).take n) := by
      rw [ints_drop, ints_take]; congr 2; omega
    have hsd : List.take ((6 + (n : Int)).toNat - (2 + (n : Int)).toNat) (List.drop (2 + (n : Int)).toNat (ints IntKind.u8 z)) = ints .u8 ((z.drop (2 + n)).take 4) := by
      rw [ints_drop, ints_take]
      have a1 : (2 + (n : Int)).toNat = 2 + n := by omega
      have a2 : (6 + (n : Int)).toNat - (2 + n) = 4 := by omega
      rw [a1, a2]
    have hru : ∀ x ∈ (z.drop 2).take n, inU8 x := fun x hx => hzu x (List.mem_of_mem_drop (List.mem_of_mem_take hx))
    have hrlen : ((z.drop 2).take n).length = n := by simp; omega
    have hnext : (z.drop (2 + n)).take 4 = four (logSum last ((z.drop 2).take n)) → recB last ((z.drop 2).take n) <+: z := fun e => recB_of ht2 hn2 (by omega) e
    have hstop : ¬ (z.drop (2 + n)).take 4 = four (logSum last ((z.drop 2).take n)) → ∀ r : List Int, r.length ≤ 2000 → ¬ recB last r <+: z := by
      intro hne r hr hp
      obtain ⟨p1, p2, p3, _⟩ := recB_prefix hp
      rw [hrl r hr hp] at p2 p3
      rw [p2] at hne
      exact hne p3
    generalize hrr : (z.drop 2).take n = r at *
    generalize hs4 : (z.drop (2 + n)).take 4 = s4 at *
    have hsb := logSum_bd last r
    simp (disch := first | assumption | omega) only [e0, e2, e3, e4, eh, hz, hat0, hat1, hor, h0', h1', hbig, hsh, hrd, go_sem, ↓reduceIte, Nat.reduceEqDiff, reduceCtorEq, Nat.reduceAdd, Nat.reduceLeDiff, Nat.reduceLT, reduceIte, Int.reduceBEq, Int.reduceBNe, Int.reduceLT, Int.reduceLE, Int.reduceAdd, Int.reduceSub, Int.reduceMul, Int.reduceNeg, Int.reduceEq, Int.reduceNe, Nat.reduceMul, Nat.reduceSub]
    refine ⟨⟨by omega, by omega, ints_width z⟩, ?_⟩
    refine callG_ok (sum_ok last .sh r ⟨.inl rfl, fun e => by cases e⟩ hlast.1 hlast.2 hru (by omega) _) (by simp (disch := first | assumption | omega) only [go_sem, ↓reduceIte, Nat.reduceEqDiff, reduceCtorEq, Nat.reduceAdd, Nat.reduceLeDiff, Nat.reduceLT, reduceIte, Int.reduceBEq, Int.reduceBNe, Int.reduceLT, Int.reduceLE, Int.reduceAdd, Int.reduceSub, Int.reduceMul, Int.reduceNeg, Int.reduceEq, Int.reduceNe, Nat.reduceMul, Nat.reduceSub]) ?_
    rintro _ _ ⟨rfl, hhh⟩
    rw [hhh]
    clear hhh
    simp (disch := first | assumption | omega) only [e0, e2, e3, e4, eh, hsd, go_sem, ↓reduceIte, Nat.reduceEqDiff, reduceCtorEq, Nat.reduceAdd, Nat.reduceLeDiff, Nat.reduceLT, reduceIte, Int.reduceBEq, Int.reduceBNe, Int.reduceLT, Int.reduceLE, Int.reduceAdd, Int.reduceSub, Int.reduceMul, Int.reduceNeg, Int.reduceEq, Int.reduceNe, Nat.reduceMul, Nat.reduceSub]
    refine ⟨⟨by omega, by omega, by omega, ints_width z⟩, ?_⟩
    refine callG_ok (four_ok (logSum last r) hsb.1 hsb.2 _) (by simp (disch := first | assumption | omega) only [go_sem, ↓reduceIte, Nat.reduceEqDiff, reduceCtorEq, Nat.reduceAdd, Nat.reduceLeDiff, Nat.reduceLT, reduceIte, Int.reduceBEq, Int.reduceBNe, Int.reduceLT, Int.reduceLE, Int.reduceAdd, Int.reduceSub, Int.reduceMul, Int.reduceNeg, Int.reduceEq, Int.reduceNe, Nat.reduceMul, Nat.reduceSub]) ?_
    rintro _ _ ⟨rfl, hhh⟩
    try rw [hhh]
    clear hhh
    simp (disch := first | assumption | omega) only [e0, e2, e3, e4, eh, go_sem, ↓reduceIte, Nat.reduceEqDiff, reduceCtorEq, Nat.reduceAdd, Nat.reduceLeDiff, Nat.reduceLT, reduceIte, Int.reduceBEq, Int.reduceBNe, Int.reduceLT, Int.reduceLE, Int.reduceAdd, Int.reduceSub, Int.reduceMul, Int.reduceNeg, Int.reduceEq, Int.reduceNe, Nat.reduceMul, Nat.reduceSub]
    have h4 : s4.length ≤ 4 := by rw [← hs4]; simp; omega
    refine callG_ok (EqualByte_ok .sh .sh s4 (four (logSum last r)) (.inl rfl) (.inl rfl) (by omega) (by rw [four_length]; omega) _) (by simp (disch := first | assumption | omega) only [go_sem, ↓reduceIte, Nat.reduceEqDiff, reduceCtorEq, Nat.reduceAdd, Nat.reduceLeDiff, Nat.reduceLT, reduceIte, Int.reduceBEq, Int.reduceBNe, Int.reduceLT, Int.reduceLE, Int.reduceAdd, Int.reduceSub, Int.reduceMul, Int.reduceNeg, Int.reduceEq, Int.reduceNe, Nat.reduceMul, Nat.reduceSub]) ?_
    rintro _ _ ⟨rfl, hhh⟩
    try rw [hhh]
    clear hhh
    simp (disch := first | assumption | omega) only [e0, e2, e3, e4, eh, go_sem, ↓reduceIte, Nat.reduceEqDiff, reduceCtorEq, Nat.reduceAdd, Nat.reduceLeDiff, Nat.reduceLT, reduceIte, Int.reduceBEq, Int.reduceBNe, Int.reduceLT, Int.reduceLE, Int.reduceAdd, Int.reduceSub, Int.reduceMul, Int.reduceNeg, Int.reduceEq, Int.reduceNe, Nat.reduceMul, Nat.reduceSub]
    by_cases heq : s4 = four (logSum last r)
    · have hpre := hyes r (hnext heq)
      rcases hq with ⟨rfl, rfl⟩ | rfl
      · simp (disch := first | assumption | omega) only [e0, e2, e3, e4, eh, heq, go_sem, ↓reduceIte, Nat.reduceEqDiff, reduceCtorEq, Nat.reduceAdd, Nat.reduceLeDiff, Nat.reduceLT, reduceIte, Int.reduceBEq, Int.reduceBNe, Int.reduceLT, Int.reduceLE, Int.reduceAdd, Int.reduceSub, Int.reduceMul, Int.reduceNeg, Int.reduceEq, Int.reduceNe, Nat.reduceMul, Nat.reduceSub]
        refine ⟨ints_width r, by omega, by omega, ?_⟩
        have hxs : xs = [] := by simpa [Each2] using hE
        refine ⟨hxs, by subst hxs; simp, by subst hxs; simp, d - (6 + n), by omega, _, _, ?_, rfl, ?_, ?_, Recs.add hE ⟨.sh, ⟨.inl rfl, fun e => by cases e⟩, rfl⟩, ?_, hpre⟩
        · rw [book_snoc, List.length_append, recB_length, hbk]; omega
        · rw [book_snoc, List.length_append, recB_length, hbk, hrlen]; congr 1; omega
        · rw [lastOf_snoc, hla]
        · intro r' hr'
          rcases List.mem_append.1 hr' with hr' | hr'
          · exact hS r' hr'
          · simp at hr'; subst hr'; omega
      · simp (disch := first | assumption | omega) only [e0, e2, e3, e4, eh, heq, go_sem, ↓reduceIte, Nat.reduceEqDiff, reduceCtorEq, Nat.reduceAdd, Nat.reduceLeDiff, Nat.reduceLT, reduceIte, Int.reduceBEq, Int.reduceBNe, Int.reduceLT, Int.reduceLE, Int.reduceAdd, Int.reduceSub, Int.reduceMul, Int.reduceNeg, Int.reduceEq, Int.reduceNe, Nat.reduceMul, Nat.reduceSub]
        refine ⟨ints_width r, by omega, by omega, ?_⟩
        have hxl := hE.length
        have hcount : 6 * rs.length ≤ k := by
          rw [← hbk, book_length]
          clear hE hS hP hno hyes fin hbk hpre hxl hla
          induction rs with
          | nil => simp
          | cons a rs ih => simp only [sizeOf', List.map_cons, List.sum_cons, List.length_cons] at ih ⊢; omega
        refine ⟨by omega, by omega, d - (6 + n), by omega, _, _, ?_, rfl, ?_, ?_, Recs.add hE ⟨.sh, ⟨.inl rfl, fun e => by cases e⟩, rfl⟩, ?_, hpre⟩
        · rw [book_snoc, List.length_append, recB_length, hbk]; omega
        · rw [book_snoc, List.length_append, recB_length, hbk, hrlen]; congr 1; omega
        · rw [lastOf_snoc, hla]
        · intro r' hr'
          rcases List.mem_append.1 hr' with hr' | hr'
          · exact hS r' hr'
          · simp at hr'; subst hr'; omega
    · rcases hq with ⟨rfl, rfl⟩ | rfl
      · simp (disch := first | assumption | omega) only [e0, e2, e3, e4, eh, heq, go_sem, ↓reduceIte, Nat.reduceEqDiff, reduceCtorEq, Nat.reduceAdd, Nat.reduceLeDiff, Nat.reduceLT, reduceIte, Int.reduceBEq, Int.reduceBNe, Int.reduceLT, Int.reduceLE, Int.reduceAdd, Int.reduceSub, Int.reduceMul, Int.reduceNeg, Int.reduceEq, Int.reduceNe, Nat.reduceMul, Nat.reduceSub]
        refine fin _ (hstop heq) (by simp (disch := first | assumption | omega) only [e0, e2, e3, e4, eh, go_sem, ↓reduceIte, Nat.reduceEqDiff, reduceCtorEq, Nat.reduceAdd, Nat.reduceLeDiff, Nat.reduceLT, reduceIte, Int.reduceBEq, Int.reduceBNe, Int.reduceLT, Int.reduceLE, Int.reduceAdd, Int.reduceSub, Int.reduceMul, Int.reduceNeg, Int.reduceEq, Int.reduceNe, Nat.reduceMul, Nat.reduceSub]) (by simp (disch := first | assumption | omega) only [e0, e2, e3, e4, eh, go_sem, ↓reduceIte, Nat.reduceEqDiff, reduceCtorEq, Nat.reduceAdd, Nat.reduceLeDiff, Nat.reduceLT, reduceIte, Int.reduceBEq, Int.reduceBNe, Int.reduceLT, Int.reduceLE, Int.reduceAdd, Int.reduceSub, Int.reduceMul, Int.reduceNeg, Int.reduceEq, Int.reduceNe, Nat.reduceMul, Nat.reduceSub]) (by simp (disch := first | assumption | omega) only [e0, e2, e3, e4, eh, go_sem, ↓reduceIte, Nat.reduceEqDiff, reduceCtorEq, Nat.reduceAdd, Nat.reduceLeDiff, Nat.reduceLT, reduceIte, Int.reduceBEq, Int.reduceBNe, Int.reduceLT, Int.reduceLE, Int.reduceAdd, Int.reduceSub, Int.reduceMul, Int.reduceNeg, Int.reduceEq, Int.reduceNe, Nat.reduceMul, Nat.reduceSub]) (by simp (disch := first | assumption | omega) only [e0, e2, e3, e4, eh, go_sem, ↓reduceIte, Nat.reduceEqDiff, reduceCtorEq, Nat.reduceAdd, Nat.reduceLeDiff, Nat.reduceLT, reduceIte, Int.reduceBEq, Int.reduceBNe, Int.reduceLT, Int.reduceLE, Int.reduceAdd, Int.reduceSub, Int.reduceMul, Int.reduceNeg, Int.reduceEq, Int.reduceNe, Nat.reduceMul, Nat.reduceSub])
      · simp (disch := first | assumption | omega) only [e0, e2, e3, e4, eh, heq, go_sem, ↓reduceIte, Nat.reduceEqDiff, reduceCtorEq, Nat.reduceAdd, Nat.reduceLeDiff, Nat.reduceLT, reduceIte, Int.reduceBEq, Int.reduceBNe, Int.reduceLT, Int.reduceLE, Int.reduceAdd, Int.reduceSub, Int.reduceMul, Int.reduceNeg, Int.reduceEq, Int.reduceNe, Nat.reduceMul, Nat.reduceSub]
        refine fin _ (hstop heq) (by simp (disch := first | assumption | omega) only [e0, e2, e3, e4, eh, go_sem, ↓reduceIte, Nat.reduceEqDiff, reduceCtorEq, Nat.reduceAdd, Nat.reduceLeDiff, Nat.reduceLT, reduceIte, Int.reduceBEq, Int.reduceBNe, Int.reduceLT, Int.reduceLE, Int.reduceAdd, Int.reduceSub, Int.reduceMul, Int.reduceNeg, Int.reduceEq, Int.reduceNe, Nat.reduceMul, Nat.reduceSub]) (by simp (disch := first | assumption | omega) only [e0, e2, e3, e4, eh, go_sem, ↓reduceIte, Nat.reduceEqDiff, reduceCtorEq, Nat.reduceAdd, Nat.reduceLeDiff, Nat.reduceLT, reduceIte, Int.reduceBEq, Int.reduceBNe, Int.reduceLT, Int.reduceLE, Int.reduceAdd, Int.reduceSub, Int.reduceMul, Int.reduceNeg, Int.reduceEq, Int.reduceNe, Nat.reduceMul, Nat.reduceSub]) (by simp (disch := first | assumption | omega) only [e0, e2, e3, e4, eh, go_sem, ↓reduceIte, Nat.reduceEqDiff, reduceCtorEq, Nat.reduceAdd, Nat.reduceLeDiff, Nat.reduceLT, reduceIte, Int.reduceBEq, Int.reduceBNe, Int.reduceLT, Int.reduceLE, Int.reduceAdd, Int.reduceSub, Int.reduceMul, Int.reduceNeg, Int.reduceEq, Int.reduceNe, Nat.reduceMul, Nat.reduceSub]) (by simp (disch := first | assumption | omega) only [e0, e2, e3, e4, eh, go_sem, ↓reduceIte, Nat.reduceEqDiff, reduceCtorEq, Nat.reduceAdd, Nat.reduceLeDiff, Nat.reduceLT, reduceIte, Int.reduceBEq, Int.reduceBNe, Int.reduceLT, Int.reduceLE, Int.reduceAdd, Int.reduceSub, Int.reduceMul, Int.reduceNeg, Int.reduceEq, Int.reduceNe, Nat.reduceMul, Nat.reduceSub])
end Go.Proofs.Ytpdajkbfemcdlaa
