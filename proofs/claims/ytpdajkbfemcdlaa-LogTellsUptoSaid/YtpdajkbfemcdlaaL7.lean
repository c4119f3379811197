/- The law LogTells. -/
import Derived.Test.YtpdajkbfemcdlaaV5
import Derived.Test.YtpdajkbfemcdlaaL5
set_option linter.unusedSimpArgs false
set_option linter.unusedVariables false
set_option maxRecDepth 10000
namespace Go.Proofs.Ytpdajkbfemcdlaa
open Go.Ge
theorem sizeOf'_cons (r : List Int) (L : List (List Int)) : sizeOf' (r :: L) = 6 + r.length + sizeOf' L := by simp [sizeOf']
theorem bulk_recs : ∀ {L : List (List Int)} {xs : List AVal}, Each2 RecOk L xs → sizeOf' L ≤ 6 * bulkVs xs
  | [], _, _ => by simp [sizeOf']
  | r :: L, _, ⟨_, _, rfl, ⟨_, _, rfl⟩, h⟩ => by
    have h1 := bulk_recs h
    have h2 := bulk_ints (k := .u8) r
    rw [sizeOf'_cons]
    simp only [bulkVs, bulkV]; omega
theorem size_mem : ∀ {L : List (List Int)} {r : List Int}, r ∈ L → r.length + 6 ≤ sizeOf' L
  | [], _, h => by cases h
  | x :: L, r, h => by
    rw [sizeOf'_cons]
    rcases List.mem_cons.1 h with rfl | h
    · omega
    · have := size_mem h; omega
theorem AllQ.both {L : List (List Int)} {v : AVal} (h : AllQ L v) : ∃ q B, v = .tup [.lst q (ints .u8 B), .int .i64 (allE L 0)] ∧ (allE L 0 ≠ 0 → B = []) ∧ (allE L 0 = 0 → B = book 0 L) ∧ (q = .nil ∧ B = [] ∨ q = .app 1) := by
  rcases h with ⟨h1, rfl⟩ | ⟨h1, q, rfl, hq⟩
  · exact ⟨.nil, [], rfl, fun _ => rfl, fun h => absurd h h1, .inl ⟨rfl, rfl⟩⟩
  · refine ⟨q, book 0 L, by rw [h1], fun h => absurd h1 h, fun _ => rfl, ?_⟩
    rcases hq with ⟨rfl, rfl⟩ | rfl
    · exact .inl ⟨rfl, rfl⟩
    · exact .inr rfl
theorem LogTells_law (o p q : Own) (b r : List Int) (L : List (List Int)) (xs : List AVal) (ho : Rdn o b) (hp : Rdn p r) (hq : Rdn q L) (hx : Each2 RecOk L xs) (hb : ∀ c ∈ b, inU8 c) (hr : ∀ c ∈ r, inU8 c) (hu : ∀ r ∈ L, ∀ c ∈ r, inU8 c) (hbl : b.length ≤ 1048576) (hrl : r.length ≤ 1048576) (hll : sizeOf' L ≤ 6291456) :
    ACalls Try.prog F.gantlaw5_LogTells [.lst o (ints .u8 b), .lst p (ints .u8 r), .lst q xs] [] (fun r _ => r = .bool true) := by
  have ho1 := ho.1
  have hp1 := hp.1
  have hq1 := hq.1
  have lx := hx.length
  have hLn := count_size L
  have hlm : ∀ r ∈ L, r.length + 6 ≤ 6291456 := fun r hr => Nat.le_trans (size_mem hr) hll
  refine ACalls.of_aw Try.func8 K.gantlaw5_LogTells (by simp [Try.f8]) ?_
  generalize hQ : retQ R.gantlaw5_LogTells _ = Q
  simp (disch := first | assumption | omega) only [C.gantlaw5_LogTells, go_sem, ↓reduceIte, Nat.reduceEqDiff, reduceCtorEq, Nat.reduceAdd, Nat.reduceLeDiff, Nat.reduceLT, reduceIte, Int.reduceBEq, Int.reduceBNe, Int.reduceLT, Int.reduceLE, Int.reduceAdd, Int.reduceSub, Int.reduceMul, Int.reduceNeg, Int.reduceEq, Int.reduceNe, Nat.reduceMul, Nat.reduceSub]
  refine callG_ok (Add_ok .nil .nil [] [] ⟨.inr rfl, fun _ => rfl⟩ ⟨.inr rfl, fun _ => rfl⟩ (by simp) (by simp) (by simp) (by simp) _) (by simp (disch := first | assumption | omega) only [ints, go_sem, ↓reduceIte, Nat.reduceEqDiff, reduceCtorEq, Nat.reduceAdd, Nat.reduceLeDiff, Nat.reduceLT, reduceIte, Int.reduceBEq, Int.reduceBNe, Int.reduceLT, Int.reduceLE, Int.reduceAdd, Int.reduceSub, Int.reduceMul, Int.reduceNeg, Int.reduceEq, Int.reduceNe, Nat.reduceMul, Nat.reduceSub]) ?_
  rintro _ _ ⟨hv, hhh⟩
  rw [hhh]
  clear hhh
  obtain rfl := hv.first (by simp)
  clear hv
  have h6 : (book 0 [[]]).length = 6 := by rw [book_length]; rfl
  have h6' : ((book 0 [[]]).length : Int) = 6 := by rw [h6]; rfl
  simp (disch := first | assumption | omega) only [h6', go_sem, ↓reduceIte, Nat.reduceEqDiff, reduceCtorEq, Nat.reduceAdd, Nat.reduceLeDiff, Nat.reduceLT, reduceIte, Int.reduceBEq, Int.reduceBNe, Int.reduceLT, Int.reduceLE, Int.reduceAdd, Int.reduceSub, Int.reduceMul, Int.reduceNeg, Int.reduceEq, Int.reduceNe, Nat.reduceMul, Nat.reduceSub]
  refine callG_ok (Records_ok o b ho1 hb (by omega) _) (by simp (disch := first | assumption | omega) only [go_sem, ↓reduceIte, Nat.reduceEqDiff, reduceCtorEq, Nat.reduceAdd, Nat.reduceLeDiff, Nat.reduceLT, reduceIte, Int.reduceBEq, Int.reduceBNe, Int.reduceLT, Int.reduceLE, Int.reduceAdd, Int.reduceSub, Int.reduceMul, Int.reduceNeg, Int.reduceEq, Int.reduceNe, Nat.reduceMul, Nat.reduceSub]) ?_
  rintro _ _ ⟨⟨rs, x1, rfl, ⟨q1, ws1, rfl, hE1, hq1'⟩, hS1⟩, hhh⟩
  rw [hhh]
  clear hhh
  obtain ⟨q1', hq1r, hq1n, hr11, hr12, hr13⟩ := own_rd (q := q1) ws1 (by rcases hq1' with ⟨rfl, _⟩ | rfl <;> simp)
  simp (disch := first | assumption | omega) only [h6', hr11, hr12, go_sem, ↓reduceIte, Nat.reduceEqDiff, reduceCtorEq, Nat.reduceAdd, Nat.reduceLeDiff, Nat.reduceLT, reduceIte, Int.reduceBEq, Int.reduceBNe, Int.reduceLT, Int.reduceLE, Int.reduceAdd, Int.reduceSub, Int.reduceMul, Int.reduceNeg, Int.reduceEq, Int.reduceNe, Nat.reduceMul, Nat.reduceSub]
  refine callG_ok (Read_ok o b ho1 hb (by omega) _) (by simp (disch := first | assumption | omega) only [go_sem, ↓reduceIte, Nat.reduceEqDiff, reduceCtorEq, Nat.reduceAdd, Nat.reduceLeDiff, Nat.reduceLT, reduceIte, Int.reduceBEq, Int.reduceBNe, Int.reduceLT, Int.reduceLE, Int.reduceAdd, Int.reduceSub, Int.reduceMul, Int.reduceNeg, Int.reduceEq, Int.reduceNe, Nat.reduceMul, Nat.reduceSub]) ?_
  rintro _ _ ⟨⟨rs2, x2, rfl, ⟨q2, ws2, rfl, hE2, hq2'⟩, hS2⟩, hhh⟩
  rw [hhh]
  clear hhh
  obtain rfl := hS1.unique hS2
  obtain ⟨q2', hq2r, hq2n, hr21, hr22, hr23⟩ := own_rd (q := q2) ws2 (by rcases hq2' with ⟨rfl, _⟩ | rfl <;> simp)
  have hbk := hS1.pre.length_le
  have hq1e : q1' = .nil → rs = [] := fun e => by rcases hq1' with ⟨_, h⟩ | h; exact h; rw [hq1n e] at h; cases h
  have hrn := count_size rs
  rw [← book_length 0 rs] at hrn
  have hrm : ∀ r ∈ rs, r.length < 4611686018427387904 := fun r hr => by have := hS1.1 r hr; omega
  simp (disch := first | assumption | omega) only [h6', hr11, hr12, hr21, hr22, go_sem, ↓reduceIte, Nat.reduceEqDiff, reduceCtorEq, Nat.reduceAdd, Nat.reduceLeDiff, Nat.reduceLT, reduceIte, Int.reduceBEq, Int.reduceBNe, Int.reduceLT, Int.reduceLE, Int.reduceAdd, Int.reduceSub, Int.reduceMul, Int.reduceNeg, Int.reduceEq, Int.reduceNe, Nat.reduceMul, Nat.reduceSub]
  refine callG_ok (EqualRecs_ok q2' q1' rs rs ws2 ws1 hq2r hq1r hE2 hE1 hrm hrm (by omega) (by omega) _) (by simp (disch := first | assumption | omega) only [go_sem, ↓reduceIte, Nat.reduceEqDiff, reduceCtorEq, Nat.reduceAdd, Nat.reduceLeDiff, Nat.reduceLT, reduceIte, Int.reduceBEq, Int.reduceBNe, Int.reduceLT, Int.reduceLE, Int.reduceAdd, Int.reduceSub, Int.reduceMul, Int.reduceNeg, Int.reduceEq, Int.reduceNe, Nat.reduceMul, Nat.reduceSub]) ?_
  rintro _ _ ⟨rfl, hhh⟩
  rw [hhh]
  clear hhh
  rw [decide_eq_true rfl]
  simp (disch := first | assumption | omega) only [h6', hr11, hr12, hr21, hr22, go_sem, ↓reduceIte, Nat.reduceEqDiff, reduceCtorEq, Nat.reduceAdd, Nat.reduceLeDiff, Nat.reduceLT, reduceIte, Int.reduceBEq, Int.reduceBNe, Int.reduceLT, Int.reduceLE, Int.reduceAdd, Int.reduceSub, Int.reduceMul, Int.reduceNeg, Int.reduceEq, Int.reduceNe, Nat.reduceMul, Nat.reduceSub]
  refine callG_ok (Whole_ok o b ho1 hb (by omega) _) (by simp (disch := first | assumption | omega) only [go_sem, ↓reduceIte, Nat.reduceEqDiff, reduceCtorEq, Nat.reduceAdd, Nat.reduceLeDiff, Nat.reduceLT, reduceIte, Int.reduceBEq, Int.reduceBNe, Int.reduceLT, Int.reduceLE, Int.reduceAdd, Int.reduceSub, Int.reduceMul, Int.reduceNeg, Int.reduceEq, Int.reduceNe, Nat.reduceMul, Nat.reduceSub]) ?_
  rintro _ _ ⟨⟨rs3, rfl, hS3⟩, hhh⟩
  rw [hhh]
  clear hhh
  obtain rfl := hS1.unique hS3
  have e1 : (((book 0 rs).length : Int) = b.length) = ((book 0 rs).length = b.length) := propext ⟨fun h => by omega, fun h => by omega⟩
  simp (disch := first | assumption | omega) only [h6', hr11, hr12, hr21, hr22, e1, beq_self_eq_true, go_sem, ↓reduceIte, Nat.reduceEqDiff, reduceCtorEq, Nat.reduceAdd, Nat.reduceLeDiff, Nat.reduceLT, reduceIte, Int.reduceBEq, Int.reduceBNe, Int.reduceLT, Int.reduceLE, Int.reduceAdd, Int.reduceSub, Int.reduceMul, Int.reduceNeg, Int.reduceEq, Int.reduceNe, Nat.reduceMul, Nat.reduceSub]
  refine callG_ok (Add_ok o p b r ho hp hb hr (by omega) (by omega) _) (by simp (disch := first | assumption | omega) only [go_sem, ↓reduceIte, Nat.reduceEqDiff, reduceCtorEq, Nat.reduceAdd, Nat.reduceLeDiff, Nat.reduceLT, reduceIte, Int.reduceBEq, Int.reduceBNe, Int.reduceLT, Int.reduceLE, Int.reduceAdd, Int.reduceSub, Int.reduceMul, Int.reduceNeg, Int.reduceEq, Int.reduceNe, Nat.reduceMul, Nat.reduceSub]) ?_
  rintro _ _ ⟨hv, hhh⟩
  rw [hhh]
  clear hhh
  rcases hv with ⟨g1, rfl⟩ | ⟨g1, rs4, hS4, hv⟩
  · have g1' : (2000 : Int) < r.length := by omega
    simp (disch := first | assumption | omega) only [g1', go_sem, ↓reduceIte, Nat.reduceEqDiff, reduceCtorEq, Nat.reduceAdd, Nat.reduceLeDiff, Nat.reduceLT, reduceIte, Int.reduceBEq, Int.reduceBNe, Int.reduceLT, Int.reduceLE, Int.reduceAdd, Int.reduceSub, Int.reduceMul, Int.reduceNeg, Int.reduceEq, Int.reduceNe, Nat.reduceMul, Nat.reduceSub]
    subst hQ
    simp (disch := first | assumption | omega) only [R.gantlaw5_LogTells, go_sem, ↓reduceIte, Nat.reduceEqDiff, reduceCtorEq, Nat.reduceAdd, Nat.reduceLeDiff, Nat.reduceLT, reduceIte, Int.reduceBEq, Int.reduceBNe, Int.reduceLT, Int.reduceLE, Int.reduceAdd, Int.reduceSub, Int.reduceMul, Int.reduceNeg, Int.reduceEq, Int.reduceNe, Nat.reduceMul, Nat.reduceSub]
  obtain rfl := hS1.unique hS4
  have g1' : ¬ (2000 : Int) < r.length := by omega
  rcases hv with ⟨g2, rfl⟩ | ⟨g2, rfl⟩
  · have g2' : (100000 : Int) < (book 0 rs).length + 6 + r.length := by omega
    simp (disch := first | assumption | omega) only [g1', g2', go_sem, ↓reduceIte, Nat.reduceEqDiff, reduceCtorEq, Nat.reduceAdd, Nat.reduceLeDiff, Nat.reduceLT, reduceIte, Int.reduceBEq, Int.reduceBNe, Int.reduceLT, Int.reduceLE, Int.reduceAdd, Int.reduceSub, Int.reduceMul, Int.reduceNeg, Int.reduceEq, Int.reduceNe, Nat.reduceMul, Nat.reduceSub]
    subst hQ
    simp (disch := first | assumption | omega) only [R.gantlaw5_LogTells, go_sem, ↓reduceIte, Nat.reduceEqDiff, reduceCtorEq, Nat.reduceAdd, Nat.reduceLeDiff, Nat.reduceLT, reduceIte, Int.reduceBEq, Int.reduceBNe, Int.reduceLT, Int.reduceLE, Int.reduceAdd, Int.reduceSub, Int.reduceMul, Int.reduceNeg, Int.reduceEq, Int.reduceNe, Nat.reduceMul, Nat.reduceSub]
  have g2' : ¬ (100000 : Int) < (book 0 rs).length + 6 + r.length := by omega
  simp (disch := first | assumption | omega) only [g1', g2', hr11, hr12, go_sem, ↓reduceIte, Nat.reduceEqDiff, reduceCtorEq, Nat.reduceAdd, Nat.reduceLeDiff, Nat.reduceLT, reduceIte, Int.reduceBEq, Int.reduceBNe, Int.reduceLT, Int.reduceLE, Int.reduceAdd, Int.reduceSub, Int.reduceMul, Int.reduceNeg, Int.reduceEq, Int.reduceNe, Nat.reduceMul, Nat.reduceSub]
  refine callG_ok (CloneRecs_ok q1' rs ws1 ⟨hq1r, hq1e⟩ hE1 (by omega) _) (by simp (disch := first | assumption | omega) only [go_sem, ↓reduceIte, Nat.reduceEqDiff, reduceCtorEq, Nat.reduceAdd, Nat.reduceLeDiff, Nat.reduceLT, reduceIte, Int.reduceBEq, Int.reduceBNe, Int.reduceLT, Int.reduceLE, Int.reduceAdd, Int.reduceSub, Int.reduceMul, Int.reduceNeg, Int.reduceEq, Int.reduceNe, Nat.reduceMul, Nat.reduceSub]) ?_
  rintro _ _ ⟨⟨q5, rfl, hq5⟩, hhh⟩
  rw [hhh]
  clear hhh
  have hE5 : Each2 RecOk (rs ++ [r]) (ws1 ++ [.lst p (ints .u8 r)]) := hE1.append (Each2.one ⟨p, hp, rfl⟩)
  have hul : ∀ c ∈ rs ++ [r], ∀ x ∈ c, inU8 x := by
    intro c hc
    rcases List.mem_append.1 hc with hc | hc
    · exact hS1.u8 hb c hc
    · simp at hc; subst hc; exact hr
  have hsz5 : sizeOf' (rs ++ [r]) ≤ 1099511627776 := by
    rw [← book_length 0, book_snoc, List.length_append, recB_length]; omega
  have hbl5 : (book 0 (rs ++ [r])).length < 4611686018427387904 := by rw [book_length]; omega
  have hwl := hE1.length
  rcases hq5 with ⟨rfl, h0⟩ | rfl
  case' inl =>
    have hw0 : ws1 = [] := by rw [h0] at hwl; exact List.eq_nil_of_length_eq_zero hwl
    simp (disch := first | assumption | omega) only [g1', g2', hr11, hr12, go_sem, ↓reduceIte, Nat.reduceEqDiff, reduceCtorEq, Nat.reduceAdd, Nat.reduceLeDiff, Nat.reduceLT, reduceIte, Int.reduceBEq, Int.reduceBNe, Int.reduceLT, Int.reduceLE, Int.reduceAdd, Int.reduceSub, Int.reduceMul, Int.reduceNeg, Int.reduceEq, Int.reduceNe, Nat.reduceMul, Nat.reduceSub]
    refine ⟨hw0, ?_⟩
  case' inr =>
    simp (disch := first | assumption | omega) only [g1', g2', hr11, hr12, go_sem, ↓reduceIte, Nat.reduceEqDiff, reduceCtorEq, Nat.reduceAdd, Nat.reduceLeDiff, Nat.reduceLT, reduceIte, Int.reduceBEq, Int.reduceBNe, Int.reduceLT, Int.reduceLE, Int.reduceAdd, Int.reduceSub, Int.reduceMul, Int.reduceNeg, Int.reduceEq, Int.reduceNe, Nat.reduceMul, Nat.reduceSub]
  all_goals
    refine ⟨by omega, by omega, ?_⟩
    refine callG_ok (Book_ok .sh (rs ++ [r]) _ ⟨.inl rfl, fun e => by cases e⟩ hE5 hul hsz5 _) (by simp (disch := first | assumption | omega) only [go_sem, ↓reduceIte, Nat.reduceEqDiff, reduceCtorEq, Nat.reduceAdd, Nat.reduceLeDiff, Nat.reduceLT, reduceIte, Int.reduceBEq, Int.reduceBNe, Int.reduceLT, Int.reduceLE, Int.reduceAdd, Int.reduceSub, Int.reduceMul, Int.reduceNeg, Int.reduceEq, Int.reduceNe, Nat.reduceMul, Nat.reduceSub]) ?_
    rintro _ _ ⟨⟨q6, rfl, hq6⟩, hhh⟩
    rw [hhh]
    clear hhh
    obtain ⟨q6', hq6r, hq6n, hr61, hr62, hr63⟩ := own_rd (q := q6) (ints .u8 (book 0 (rs ++ [r]))) (by rcases hq6 with ⟨rfl, _⟩ | rfl <;> simp)
    simp (disch := first | assumption | omega) only [g1', g2', hr61, hr62, go_sem, ↓reduceIte, Nat.reduceEqDiff, reduceCtorEq, Nat.reduceAdd, Nat.reduceLeDiff, Nat.reduceLT, reduceIte, Int.reduceBEq, Int.reduceBNe, Int.reduceLT, Int.reduceLE, Int.reduceAdd, Int.reduceSub, Int.reduceMul, Int.reduceNeg, Int.reduceEq, Int.reduceNe, Nat.reduceMul, Nat.reduceSub]
    refine callG_ok (EqualByte_ok .sh q6' _ _ (.inl rfl) hq6r hbl5 hbl5 _) (by simp (disch := first | assumption | omega) only [go_sem, ↓reduceIte, Nat.reduceEqDiff, reduceCtorEq, Nat.reduceAdd, Nat.reduceLeDiff, Nat.reduceLT, reduceIte, Int.reduceBEq, Int.reduceBNe, Int.reduceLT, Int.reduceLE, Int.reduceAdd, Int.reduceSub, Int.reduceMul, Int.reduceNeg, Int.reduceEq, Int.reduceNe, Nat.reduceMul, Nat.reduceSub]) ?_
    rintro _ _ ⟨rfl, hhh⟩
    rw [hhh]
    clear hhh
    rw [decide_eq_true rfl]
    simp (disch := first | assumption | omega) only [go_sem, ↓reduceIte, Nat.reduceEqDiff, reduceCtorEq, Nat.reduceAdd, Nat.reduceLeDiff, Nat.reduceLT, reduceIte, Int.reduceBEq, Int.reduceBNe, Int.reduceLT, Int.reduceLE, Int.reduceAdd, Int.reduceSub, Int.reduceMul, Int.reduceNeg, Int.reduceEq, Int.reduceNe, Nat.reduceMul, Nat.reduceSub]
    refine callG_ok (All_ok q L xs hq hx hu (fun r hr => by have := hlm r hr; omega) (by omega) _) (by simp (disch := first | assumption | omega) only [go_sem, ↓reduceIte, Nat.reduceEqDiff, reduceCtorEq, Nat.reduceAdd, Nat.reduceLeDiff, Nat.reduceLT, reduceIte, Int.reduceBEq, Int.reduceBNe, Int.reduceLT, Int.reduceLE, Int.reduceAdd, Int.reduceSub, Int.reduceMul, Int.reduceNeg, Int.reduceEq, Int.reduceNe, Nat.reduceMul, Nat.reduceSub]) ?_
    rintro _ _ ⟨hv, hhh⟩
    rw [hhh]
    clear hhh
    obtain ⟨q7, B, rfl, hB1, hB2, hq7⟩ := hv.both
    clear hv
    obtain ⟨q7', hq7r, hq7n, hr71, hr72, hr73⟩ := own_rd (q := q7) (ints .u8 B) (by rcases hq7 with ⟨rfl, _⟩ | rfl <;> simp)
    simp (disch := first | assumption | omega) only [hr71, hr72, go_sem, ↓reduceIte, Nat.reduceEqDiff, reduceCtorEq, Nat.reduceAdd, Nat.reduceLeDiff, Nat.reduceLT, reduceIte, Int.reduceBEq, Int.reduceBNe, Int.reduceLT, Int.reduceLE, Int.reduceAdd, Int.reduceSub, Int.reduceMul, Int.reduceNeg, Int.reduceEq, Int.reduceNe, Nat.reduceMul, Nat.reduceSub]
    refine aw_count (fun d S => ∃ (i : Nat) (e : Int), i + d = L.length ∧ S.env 112 = .int .i64 i ∧ S.env 111 = .int .i64 L.length ∧ S.env 110 = .lst q xs ∧ S.env 17 = .int .i64 (sizeOf' (L.take i)) ∧ S.env 18 = .int .i64 e ∧ (e ≠ 0 → allE L 0 = e) ∧ (e = 0 → allE L 0 = allE (L.drop i) (sizeOf' (L.take i))) ∧ S.env 15 = .lst q7' (ints .u8 B) ∧ S.env 16 = .int .i64 (allE L 0) ∧ S.env 2 = .lst q xs ∧ S.heap = []) (n := L.length)
      ⟨0, 0, by simp [go_sem, lx, sizeOf', rdv_o hq1]⟩ ?_
    rintro d S ⟨i, e, hi, e112, e111, e110, e17, e18, hA1, hA2, e15, e16, e2, eh⟩
    simp (disch := first | assumption | omega) only [e112, e111, e110, e17, e18, e15, e16, e2, eh, go_sem, ↓reduceIte, Nat.reduceEqDiff, reduceCtorEq, Nat.reduceAdd, Nat.reduceLeDiff, Nat.reduceLT, reduceIte, Int.reduceBEq, Int.reduceBNe, Int.reduceLT, Int.reduceLE, Int.reduceAdd, Int.reduceSub, Int.reduceMul, Int.reduceNeg, Int.reduceEq, Int.reduceNe, Nat.reduceMul, Nat.reduceSub]
    refine condG_if (fun hlt => ?_) fun hge => ?_
    · have hlt1 : i < L.length := by omega
      have hlt2 : i < xs.length := by omega
      obtain ⟨p', hp', hxi⟩ := hx.at i hlt1
      have hp1' := hp'.1
      have hri := hlm _ (List.getElem_mem hlt1)
      have hsg := sizeOf'_get hlt1
      have hst := sizeOf'_take (L := L) (i := i)
      have hae := allE_step hlt1 (sizeOf' (L.take i))
      have hsum : ((sizeOf' (L.take i) : Int) + (6 + L[i].length)) = (sizeOf' (L.take (i + 1)) : Int) := by rw [hsg]; omega
      have hsz := sizeOf'_take (L := L) (i := i + 1)
      by_cases he : e = 0
      · subst he
        by_cases g3 : (2000 : Int) < L[i].length
        · rw [if_pos (by omega)] at hae
          simp (disch := first | assumption | omega) only [e112, e111, e110, e17, e18, e15, e16, e2, eh, hlt2, hxi, hsum, g3, go_sem, ↓reduceIte, Nat.reduceEqDiff, reduceCtorEq, Nat.reduceAdd, Nat.reduceLeDiff, Nat.reduceLT, reduceIte, Int.reduceBEq, Int.reduceBNe, Int.reduceLT, Int.reduceLE, Int.reduceAdd, Int.reduceSub, Int.reduceMul, Int.reduceNeg, Int.reduceEq, Int.reduceNe, Nat.reduceMul, Nat.reduceSub]
          refine ⟨d - 1, by omega, i + 1, 2, by omega, by simp, by rfl, by rfl, fun _ => by rw [hA2 rfl, hae], fun h => by omega⟩
        rw [if_neg (by omega)] at hae
        by_cases g4 : (100000 : Int) < (sizeOf' (L.take (i + 1)) : Int)
        · rw [if_pos (by omega)] at hae
          simp (disch := first | assumption | omega) only [e112, e111, e110, e17, e18, e15, e16, e2, eh, hlt2, hxi, hsum, g3, g4, go_sem, ↓reduceIte, Nat.reduceEqDiff, reduceCtorEq, Nat.reduceAdd, Nat.reduceLeDiff, Nat.reduceLT, reduceIte, Int.reduceBEq, Int.reduceBNe, Int.reduceLT, Int.reduceLE, Int.reduceAdd, Int.reduceSub, Int.reduceMul, Int.reduceNeg, Int.reduceEq, Int.reduceNe, Nat.reduceMul, Nat.reduceSub]
          refine ⟨d - 1, by omega, i + 1, 6, by omega, by simp, by rfl, by rfl, fun _ => by rw [hA2 rfl, hae], fun h => by omega⟩
        · rw [if_neg (by omega)] at hae
          simp (disch := first | assumption | omega) only [e112, e111, e110, e17, e18, e15, e16, e2, eh, hlt2, hxi, hsum, g3, g4, go_sem, ↓reduceIte, Nat.reduceEqDiff, reduceCtorEq, Nat.reduceAdd, Nat.reduceLeDiff, Nat.reduceLT, reduceIte, Int.reduceBEq, Int.reduceBNe, Int.reduceLT, Int.reduceLE, Int.reduceAdd, Int.reduceSub, Int.reduceMul, Int.reduceNeg, Int.reduceEq, Int.reduceNe, Nat.reduceMul, Nat.reduceSub]
          refine ⟨d - 1, by omega, i + 1, 0, by omega, by simp, by rfl, by rfl, fun h => absurd rfl h, fun _ => by rw [hA2 rfl, hae, hsg]⟩
      · simp (disch := first | assumption | omega) only [e112, e111, e110, e17, e18, e15, e16, e2, eh, hlt2, hxi, hsum, he, go_sem, ↓reduceIte, Nat.reduceEqDiff, reduceCtorEq, Nat.reduceAdd, Nat.reduceLeDiff, Nat.reduceLT, reduceIte, Int.reduceBEq, Int.reduceBNe, Int.reduceLT, Int.reduceLE, Int.reduceAdd, Int.reduceSub, Int.reduceMul, Int.reduceNeg, Int.reduceEq, Int.reduceNe, Nat.reduceMul, Nat.reduceSub]
        refine ⟨d - 1, by omega, i + 1, e, by omega, by simp, by rfl, by rfl, hA1, fun h => absurd h he⟩
    · obtain rfl : i = L.length := by omega
      rw [List.drop_length, allE] at hA2
      by_cases he : e = 0
      · have hA := hA2 he
        subst he
        have hBB := hB2 hA
        have hsh := (allE_ok L 0).1 hA
        simp (disch := first | assumption | omega) only [e112, e111, e110, e17, e18, e15, e16, e2, eh, hA, go_sem, ↓reduceIte, Nat.reduceEqDiff, reduceCtorEq, Nat.reduceAdd, Nat.reduceLeDiff, Nat.reduceLT, reduceIte, Int.reduceBEq, Int.reduceBNe, Int.reduceLT, Int.reduceLE, Int.reduceAdd, Int.reduceSub, Int.reduceMul, Int.reduceNeg, Int.reduceEq, Int.reduceNe, Nat.reduceMul, Nat.reduceSub]
        refine callG_ok (Book_ok q L xs hq hx hu (by omega) _) (by simp (disch := first | assumption | omega) only [go_sem, ↓reduceIte, Nat.reduceEqDiff, reduceCtorEq, Nat.reduceAdd, Nat.reduceLeDiff, Nat.reduceLT, reduceIte, Int.reduceBEq, Int.reduceBNe, Int.reduceLT, Int.reduceLE, Int.reduceAdd, Int.reduceSub, Int.reduceMul, Int.reduceNeg, Int.reduceEq, Int.reduceNe, Nat.reduceMul, Nat.reduceSub]) ?_
        rintro _ _ ⟨⟨q8, rfl, hq8⟩, hhh⟩
        rw [hhh]
        clear hhh
        obtain ⟨q8', hq8r, hq8n, hr81, hr82, hr83⟩ := own_rd (q := q8) (ints .u8 (book 0 L)) (by rcases hq8 with ⟨rfl, _⟩ | rfl <;> simp)
        have hbl8 : (book 0 L).length < 4611686018427387904 := by rw [book_length]; omega
        simp (disch := first | assumption | omega) only [e112, e111, e110, e17, e18, e15, e16, e2, eh, hr81, hr82, go_sem, ↓reduceIte, Nat.reduceEqDiff, reduceCtorEq, Nat.reduceAdd, Nat.reduceLeDiff, Nat.reduceLT, reduceIte, Int.reduceBEq, Int.reduceBNe, Int.reduceLT, Int.reduceLE, Int.reduceAdd, Int.reduceSub, Int.reduceMul, Int.reduceNeg, Int.reduceEq, Int.reduceNe, Nat.reduceMul, Nat.reduceSub]
        refine callG_ok (EqualByte_ok q7' q8' B _ hq7r hq8r (by rw [hBB]; exact hbl8) hbl8 _) (by simp (disch := first | assumption | omega) only [go_sem, ↓reduceIte, Nat.reduceEqDiff, reduceCtorEq, Nat.reduceAdd, Nat.reduceLeDiff, Nat.reduceLT, reduceIte, Int.reduceBEq, Int.reduceBNe, Int.reduceLT, Int.reduceLE, Int.reduceAdd, Int.reduceSub, Int.reduceMul, Int.reduceNeg, Int.reduceEq, Int.reduceNe, Nat.reduceMul, Nat.reduceSub]) ?_
        rintro _ _ ⟨rfl, hhh⟩
        rw [hhh]
        clear hhh
        rw [decide_eq_true hBB]
        simp (disch := first | assumption | omega) only [go_sem, ↓reduceIte, Nat.reduceEqDiff, reduceCtorEq, Nat.reduceAdd, Nat.reduceLeDiff, Nat.reduceLT, reduceIte, Int.reduceBEq, Int.reduceBNe, Int.reduceLT, Int.reduceLE, Int.reduceAdd, Int.reduceSub, Int.reduceMul, Int.reduceNeg, Int.reduceEq, Int.reduceNe, Nat.reduceMul, Nat.reduceSub]
        subst hQ
        simp (disch := first | assumption | omega) only [R.gantlaw5_LogTells, go_sem, ↓reduceIte, Nat.reduceEqDiff, reduceCtorEq, Nat.reduceAdd, Nat.reduceLeDiff, Nat.reduceLT, reduceIte, Int.reduceBEq, Int.reduceBNe, Int.reduceLT, Int.reduceLE, Int.reduceAdd, Int.reduceSub, Int.reduceMul, Int.reduceNeg, Int.reduceEq, Int.reduceNe, Nat.reduceMul, Nat.reduceSub]
      · have hA := hA1 he
        have hne : allE L 0 ≠ 0 := by rw [hA]; exact he
        obtain rfl := hB1 hne
        simp (disch := first | assumption | omega) only [e112, e111, e110, e17, e18, e15, e16, e2, eh, hA, he, go_sem, ↓reduceIte, Nat.reduceEqDiff, reduceCtorEq, Nat.reduceAdd, Nat.reduceLeDiff, Nat.reduceLT, reduceIte, Int.reduceBEq, Int.reduceBNe, Int.reduceLT, Int.reduceLE, Int.reduceAdd, Int.reduceSub, Int.reduceMul, Int.reduceNeg, Int.reduceEq, Int.reduceNe, Nat.reduceMul, Nat.reduceSub]
        subst hQ
        simp (disch := first | assumption | omega) only [R.gantlaw5_LogTells, go_sem, ↓reduceIte, Nat.reduceEqDiff, reduceCtorEq, Nat.reduceAdd, Nat.reduceLeDiff, Nat.reduceLT, reduceIte, Int.reduceBEq, Int.reduceBNe, Int.reduceLT, Int.reduceLE, Int.reduceAdd, Int.reduceSub, Int.reduceMul, Int.reduceNeg, Int.reduceEq, Int.reduceNe, Nat.reduceMul, Nat.reduceSub]
end Go.Proofs.Ytpdajkbfemcdlaa
