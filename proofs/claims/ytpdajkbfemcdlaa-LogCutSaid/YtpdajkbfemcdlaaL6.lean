/- The law LogCut. -/
import Derived.Test.YtpdajkbfemcdlaaV4
import Derived.Test.YtpdajkbfemcdlaaU3
import Derived.Test.YtpdajkbfemcdlaaP1
set_option linter.unusedSimpArgs false
set_option linter.unusedVariables false
set_option maxRecDepth 10000
namespace Go.Proofs.Ytpdajkbfemcdlaa
open Go.Ge
theorem LogCut1_ok (o : Own) (r : List Int) (ho : Rdo o) (h : List HObj) : ACalls Try.prog F.gantkeep5_LogCut_1 [.lst o (ints .u8 r)] h (fun v h' => v = .bool (decide ((2000 : Int) < r.length)) ∧ h' = h) := by
  refine ACalls.of_aw Try.func71 K.gantkeep5_LogCut_1 (by simp [Try.f71]) ?_
  generalize hQ : retQ R.gantkeep5_LogCut_1 _ = Q
  simp (disch := first | assumption | omega) only [C.gantkeep5_LogCut_1, go_sem, ↓reduceIte, Nat.reduceEqDiff, reduceCtorEq, Nat.reduceAdd, Nat.reduceLeDiff, Nat.reduceLT, reduceIte, Int.reduceBEq, Int.reduceBNe, Int.reduceLT, Int.reduceLE, Int.reduceAdd, Int.reduceSub, Int.reduceMul, Int.reduceNeg, Int.reduceEq, Int.reduceNe, Nat.reduceMul, Nat.reduceSub]
  subst hQ
  simp (disch := first | assumption | omega) only [R.gantkeep5_LogCut_1, go_sem, ↓reduceIte, Nat.reduceEqDiff, reduceCtorEq, Nat.reduceAdd, Nat.reduceLeDiff, Nat.reduceLT, reduceIte, Int.reduceBEq, Int.reduceBNe, Int.reduceLT, Int.reduceLE, Int.reduceAdd, Int.reduceSub, Int.reduceMul, Int.reduceNeg, Int.reduceEq, Int.reduceNe, Nat.reduceMul, Nat.reduceSub]
theorem IndexLong_ok (o : Own) (L : List (List Int)) (xs : List AVal) (ho : Rdo o) (hx : Each2 RecOk L xs) (hn : L.length ≤ 1099511627776) (h : List HObj) :
    ACalls Try.prog F.slices_IndexFunc_bs [.lst o xs, .func F.gantkeep5_LogCut_1 []] h (fun v h' => (∃ i, v = .int .i64 i ∧ ((∀ r ∈ L, r.length ≤ 2000) ∧ i = -1 ∨ ¬ (∀ r ∈ L, r.length ≤ 2000) ∧ 0 ≤ i)) ∧ h' = h) := by
  have lx := hx.length
  refine ACalls.of_aw Try.func156 K.slices_IndexFunc_bs (by simp [Try.f156]) ?_
  generalize hQ : retQ R.slices_IndexFunc_bs _ = Q
  simp (disch := first | assumption | omega) only [C.slices_IndexFunc_bs, go_sem, ↓reduceIte, Nat.reduceEqDiff, reduceCtorEq, Nat.reduceAdd, Nat.reduceLeDiff, Nat.reduceLT, reduceIte, Int.reduceBEq, Int.reduceBNe, Int.reduceLT, Int.reduceLE, Int.reduceAdd, Int.reduceSub, Int.reduceMul, Int.reduceNeg, Int.reduceEq, Int.reduceNe, Nat.reduceMul, Nat.reduceSub]
  refine aw_count (fun d S => ∃ (i : Nat), i + d = L.length ∧ S.env 8 = .int .i64 i ∧ S.env 7 = .int .i64 L.length ∧ S.env 0 = .lst o xs ∧ S.env 1 = .func F.gantkeep5_LogCut_1 [] ∧ (∀ r ∈ L.take i, r.length ≤ 2000) ∧ S.heap = h) (n := L.length) ⟨0, by simp [go_sem, lx]⟩ ?_
  rintro d S ⟨i, hi, e8, e7, e0, e1, hS, eh⟩
  simp (disch := first | assumption | omega) only [e8, e7, e0, e1, eh, go_sem, ↓reduceIte, Nat.reduceEqDiff, reduceCtorEq, Nat.reduceAdd, Nat.reduceLeDiff, Nat.reduceLT, reduceIte, Int.reduceBEq, Int.reduceBNe, Int.reduceLT, Int.reduceLE, Int.reduceAdd, Int.reduceSub, Int.reduceMul, Int.reduceNeg, Int.reduceEq, Int.reduceNe, Nat.reduceMul, Nat.reduceSub]
  refine condG_if (fun hlt => ?_) fun hge => ?_
  · have hlt1 : i < L.length := by omega
    have hlt2 : i < xs.length := by omega
    obtain ⟨p, hp, hxi⟩ := hx.at i hlt1
    have hp1 := hp.1
    have hst := take_snoc hlt1
    simp (disch := first | assumption | omega) only [e8, e7, e0, e1, eh, hlt2, hxi, go_sem, ↓reduceIte, Nat.reduceEqDiff, reduceCtorEq, Nat.reduceAdd, Nat.reduceLeDiff, Nat.reduceLT, reduceIte, Int.reduceBEq, Int.reduceBNe, Int.reduceLT, Int.reduceLE, Int.reduceAdd, Int.reduceSub, Int.reduceMul, Int.reduceNeg, Int.reduceEq, Int.reduceNe, Nat.reduceMul, Nat.reduceSub]
    refine callvG_ok (LogCut1_ok p L[i] hp1 _) (by simp (disch := first | assumption | omega) only [go_sem, ↓reduceIte, Nat.reduceEqDiff, reduceCtorEq, Nat.reduceAdd, Nat.reduceLeDiff, Nat.reduceLT, reduceIte, Int.reduceBEq, Int.reduceBNe, Int.reduceLT, Int.reduceLE, Int.reduceAdd, Int.reduceSub, Int.reduceMul, Int.reduceNeg, Int.reduceEq, Int.reduceNe, Nat.reduceMul, Nat.reduceSub]) ?_
    rintro _ _ ⟨rfl, hhh⟩
    rw [hhh]
    clear hhh
    by_cases hb : (2000 : Int) < L[i].length
    · simp (disch := first | assumption | omega) only [e8, e7, e0, e1, eh, hb, go_sem, ↓reduceIte, Nat.reduceEqDiff, reduceCtorEq, Nat.reduceAdd, Nat.reduceLeDiff, Nat.reduceLT, reduceIte, Int.reduceBEq, Int.reduceBNe, Int.reduceLT, Int.reduceLE, Int.reduceAdd, Int.reduceSub, Int.reduceMul, Int.reduceNeg, Int.reduceEq, Int.reduceNe, Nat.reduceMul, Nat.reduceSub]
      subst hQ
      simp (disch := first | assumption | omega) only [R.slices_IndexFunc_bs, e8, e7, e0, e1, eh, go_sem, ↓reduceIte, Nat.reduceEqDiff, reduceCtorEq, Nat.reduceAdd, Nat.reduceLeDiff, Nat.reduceLT, reduceIte, Int.reduceBEq, Int.reduceBNe, Int.reduceLT, Int.reduceLE, Int.reduceAdd, Int.reduceSub, Int.reduceMul, Int.reduceNeg, Int.reduceEq, Int.reduceNe, Nat.reduceMul, Nat.reduceSub]
      exact ⟨i, rfl, .inr ⟨fun hall => by have := hall _ (List.getElem_mem hlt1); omega, by omega⟩⟩
    · simp (disch := first | assumption | omega) only [e8, e7, e0, e1, eh, hb, go_sem, ↓reduceIte, Nat.reduceEqDiff, reduceCtorEq, Nat.reduceAdd, Nat.reduceLeDiff, Nat.reduceLT, reduceIte, Int.reduceBEq, Int.reduceBNe, Int.reduceLT, Int.reduceLE, Int.reduceAdd, Int.reduceSub, Int.reduceMul, Int.reduceNeg, Int.reduceEq, Int.reduceNe, Nat.reduceMul, Nat.reduceSub]
      refine ⟨d - 1, by omega, i + 1, by omega, by simp, fun r hr => ?_⟩
      rw [hst] at hr
      rcases List.mem_append.1 hr with hr | hr
      · exact hS r hr
      · simp at hr; subst hr; omega
  · obtain rfl : i = L.length := by omega
    rw [List.take_length] at hS
    simp (disch := first | assumption | omega) only [e8, e7, e0, e1, eh, go_sem, ↓reduceIte, Nat.reduceEqDiff, reduceCtorEq, Nat.reduceAdd, Nat.reduceLeDiff, Nat.reduceLT, reduceIte, Int.reduceBEq, Int.reduceBNe, Int.reduceLT, Int.reduceLE, Int.reduceAdd, Int.reduceSub, Int.reduceMul, Int.reduceNeg, Int.reduceEq, Int.reduceNe, Nat.reduceMul, Nat.reduceSub]
    subst hQ
    simp (disch := first | assumption | omega) only [R.slices_IndexFunc_bs, e8, e7, e0, e1, eh, go_sem, ↓reduceIte, Nat.reduceEqDiff, reduceCtorEq, Nat.reduceAdd, Nat.reduceLeDiff, Nat.reduceLT, reduceIte, Int.reduceBEq, Int.reduceBNe, Int.reduceLT, Int.reduceLE, Int.reduceAdd, Int.reduceSub, Int.reduceMul, Int.reduceNeg, Int.reduceEq, Int.reduceNe, Nat.reduceMul, Nat.reduceSub]
    exact ⟨-1, rfl, .inl ⟨hS, rfl⟩⟩
theorem ContainsLong_ok (o : Own) (L : List (List Int)) (xs : List AVal) (ho : Rdo o) (hx : Each2 RecOk L xs) (hn : L.length ≤ 1099511627776) (h : List HObj) :
    ACalls Try.prog F.slices_ContainsFunc_bs [.lst o xs, .func F.gantkeep5_LogCut_1 []] h (fun v h' => (∃ b, v = .bool b ∧ (b = false ↔ ∀ r ∈ L, r.length ≤ 2000)) ∧ h' = h) := by
  refine ACalls.of_aw Try.func70 K.slices_ContainsFunc_bs (by simp [Try.f70]) ?_
  generalize hQ : retQ R.slices_ContainsFunc_bs _ = Q
  simp (disch := first | assumption | omega) only [C.slices_ContainsFunc_bs, go_sem, ↓reduceIte, Nat.reduceEqDiff, reduceCtorEq, Nat.reduceAdd, Nat.reduceLeDiff, Nat.reduceLT, reduceIte, Int.reduceBEq, Int.reduceBNe, Int.reduceLT, Int.reduceLE, Int.reduceAdd, Int.reduceSub, Int.reduceMul, Int.reduceNeg, Int.reduceEq, Int.reduceNe, Nat.reduceMul, Nat.reduceSub]
  refine callG_ok (IndexLong_ok o L xs ho hx hn _) (by simp (disch := first | assumption | omega) only [go_sem, ↓reduceIte, Nat.reduceEqDiff, reduceCtorEq, Nat.reduceAdd, Nat.reduceLeDiff, Nat.reduceLT, reduceIte, Int.reduceBEq, Int.reduceBNe, Int.reduceLT, Int.reduceLE, Int.reduceAdd, Int.reduceSub, Int.reduceMul, Int.reduceNeg, Int.reduceEq, Int.reduceNe, Nat.reduceMul, Nat.reduceSub]) ?_
  rintro _ _ ⟨⟨i, rfl, hi⟩, hhh⟩
  rw [hhh]
  clear hhh
  simp (disch := first | assumption | omega) only [go_sem, ↓reduceIte, Nat.reduceEqDiff, reduceCtorEq, Nat.reduceAdd, Nat.reduceLeDiff, Nat.reduceLT, reduceIte, Int.reduceBEq, Int.reduceBNe, Int.reduceLT, Int.reduceLE, Int.reduceAdd, Int.reduceSub, Int.reduceMul, Int.reduceNeg, Int.reduceEq, Int.reduceNe, Nat.reduceMul, Nat.reduceSub]
  subst hQ
  simp (disch := first | assumption | omega) only [R.slices_ContainsFunc_bs, go_sem, ↓reduceIte, Nat.reduceEqDiff, reduceCtorEq, Nat.reduceAdd, Nat.reduceLeDiff, Nat.reduceLT, reduceIte, Int.reduceBEq, Int.reduceBNe, Int.reduceLT, Int.reduceLE, Int.reduceAdd, Int.reduceSub, Int.reduceMul, Int.reduceNeg, Int.reduceEq, Int.reduceNe, Nat.reduceMul, Nat.reduceSub]
  refine ⟨_, rfl, ?_⟩
  rcases hi with ⟨h1, rfl⟩ | ⟨h1, h2⟩
  · exact ⟨fun _ => h1, fun _ => by decide⟩
  · exact ⟨fun h => by simp [h2] at h, fun h => absurd h h1⟩
theorem xor_u8 (x y : Int) (hx : inU8 x) (hy : inU8 y) : inU8 (bitsV .xor .u8 x y) ∧ (y ≠ 0 → bitsV .xor .u8 x y ≠ x) := by
  have e : bitsV .xor .u8 x y = ((BitVec.ofInt 8 x ^^^ BitVec.ofInt 8 y).toNat : Int) := xor8 x y
  rw [e]
  unfold inU8 at hx hy ⊢
  have hb := (BitVec.ofInt 8 x ^^^ BitVec.ofInt 8 y).isLt
  refine ⟨by omega, fun hne he => hne ?_⟩
  have h1 : (BitVec.ofInt 8 x ^^^ BitVec.ofInt 8 y).toNat = x.toNat := by omega
  have h2 : BitVec.ofInt 8 x ^^^ BitVec.ofInt 8 y = BitVec.ofInt 8 x := by
    apply BitVec.eq_of_toNat_eq
    rw [h1, BitVec.toNat_ofInt]; omega
  have h3 : BitVec.ofInt 8 y = 0#8 := by
    have : BitVec.ofInt 8 x ^^^ (BitVec.ofInt 8 x ^^^ BitVec.ofInt 8 y) = BitVec.ofInt 8 x ^^^ BitVec.ofInt 8 x := by rw [h2]
    rwa [← BitVec.xor_assoc, BitVec.xor_self, BitVec.zero_xor] at this
  have h4 := congrArg BitVec.toNat h3
  rw [BitVec.toNat_ofInt] at h4
  simp at h4; omega
theorem LogCut_law (o : Own) (recs : List (List Int)) (xs : List AVal) (n b : Int) (ho : Rdn o recs) (hx : Each2 RecOk recs xs) (hn : inI64 n) (hb : inU8 b) (hu : ∀ r ∈ recs, (∀ c ∈ r, inU8 c) ∧ r.length ≤ reachBytes) (hl : recs.length * 24 ≤ reachBytes) :
    ACalls Try.prog F.gantkeep5_LogCut [.lst o xs, .int .i64 n, .int .u8 b] [] (fun r _ => r = .bool true) := by
  have ho1 := ho.1
  unfold reachBytes at hl hu
  have lx := hx.length
  have hIS0 : IsScan [] [] := IsScan.book (rs := []) (by simp)
  have hIS00 : IsScan [0, 0] [] := ⟨by simp, by simp [book], fun r _ hp => by have := hp.length_le; rw [List.nil_append, book_length] at this; simp [sizeOf'] at this; omega⟩
  refine ACalls.of_aw Try.func9 K.gantkeep5_LogCut (by simp [Try.f9]) ?_
  generalize hQ : retQ R.gantkeep5_LogCut _ = Q
  simp (disch := first | assumption | omega) only [C.gantkeep5_LogCut, go_sem, ↓reduceIte, Nat.reduceEqDiff, reduceCtorEq, Nat.reduceAdd, Nat.reduceLeDiff, Nat.reduceLT, reduceIte, Int.reduceBEq, Int.reduceBNe, Int.reduceLT, Int.reduceLE, Int.reduceAdd, Int.reduceSub, Int.reduceMul, Int.reduceNeg, Int.reduceEq, Int.reduceNe, Nat.reduceMul, Nat.reduceSub]
  refine callG_ok (Read_ok .sh [0, 0] (.inl rfl) (by simp [inU8]) (by simp) _) (by simp (disch := first | assumption | omega) only [go_sem, ↓reduceIte, Nat.reduceEqDiff, reduceCtorEq, Nat.reduceAdd, Nat.reduceLeDiff, Nat.reduceLT, reduceIte, Int.reduceBEq, Int.reduceBNe, Int.reduceLT, Int.reduceLE, Int.reduceAdd, Int.reduceSub, Int.reduceMul, Int.reduceNeg, Int.reduceEq, Int.reduceNe, Nat.reduceMul, Nat.reduceSub]) ?_
  rintro _ _ ⟨⟨rs, x, rfl, ⟨q1, ys, rfl, hE1, hq1⟩, hS1⟩, hhh⟩
  rw [hhh]
  clear hhh
  obtain rfl := hIS00.unique hS1
  have hys : ys = [] := by simpa [Each2] using hE1
  subst hys
  obtain ⟨q1', hq1', hn1, hr4, hr5, hr6⟩ := own_rd (q := q1) [] (by rcases hq1 with ⟨rfl, _⟩ | rfl <;> simp)
  have hb0 : (book 0 []).length = 0 := rfl
  simp (disch := first | assumption | omega) only [hr4, hr5, hb0, go_sem, ↓reduceIte, Nat.reduceEqDiff, reduceCtorEq, Nat.reduceAdd, Nat.reduceLeDiff, Nat.reduceLT, reduceIte, Int.reduceBEq, Int.reduceBNe, Int.reduceLT, Int.reduceLE, Int.reduceAdd, Int.reduceSub, Int.reduceMul, Int.reduceNeg, Int.reduceEq, Int.reduceNe, Nat.reduceMul, Nat.reduceSub]
  refine callG_ok (Whole_ok .nil [] (.inr rfl) (by simp) (by simp) _) (by simp (disch := first | assumption | omega) only [go_sem, ↓reduceIte, Nat.reduceEqDiff, reduceCtorEq, Nat.reduceAdd, Nat.reduceLeDiff, Nat.reduceLT, reduceIte, Int.reduceBEq, Int.reduceBNe, Int.reduceLT, Int.reduceLE, Int.reduceAdd, Int.reduceSub, Int.reduceMul, Int.reduceNeg, Int.reduceEq, Int.reduceNe, Nat.reduceMul, Nat.reduceSub]) ?_
  rintro _ _ ⟨⟨rs4, rfl, hS4⟩, hhh⟩
  rw [hhh]
  clear hhh
  obtain rfl := hIS0.unique hS4
  obtain ⟨m, hm1, hm2, hm3⟩ : ∃ m : Nat, (if (20 : Int) < xs.length then 20 else (xs.length : Int)) = (m : Int) ∧ m ≤ 20 ∧ m ≤ recs.length := by
    split
    · exact ⟨20, rfl, by omega, by omega⟩
    · exact ⟨xs.length, rfl, by omega, by omega⟩
  simp (disch := first | assumption | omega) only [hb0, hm1, go_sem, ↓reduceIte, Nat.reduceEqDiff, reduceCtorEq, Nat.reduceAdd, Nat.reduceLeDiff, Nat.reduceLT, reduceIte, Int.reduceBEq, Int.reduceBNe, Int.reduceLT, Int.reduceLE, Int.reduceAdd, Int.reduceSub, Int.reduceMul, Int.reduceNeg, Int.reduceEq, Int.reduceNe, Nat.reduceMul, Nat.reduceSub]
  refine ⟨⟨by omega, hx.all (fun r _ x hr => by obtain ⟨q, _, rfl⟩ := hr; rfl)⟩, ?_⟩
  have hL := hx.take m
  have hLlen : (recs.take m).length = m := by simp; omega
  have hLu : ∀ r ∈ recs.take m, (∀ c ∈ r, inU8 c) ∧ r.length ≤ 140737488351232 := fun r hr => hu r (List.mem_of_mem_take hr)
  have hXlen : (xs.take m).length = m := by simp; omega
  generalize recs.take m = L at *
  generalize xs.take m = XS at *
  refine callG_ok (All_ok .sh L XS ⟨.inl rfl, fun e => by cases e⟩ hL (fun r hr => (hLu r hr).1) (fun r hr => (hLu r hr).2) (by omega) _) (by simp (disch := first | assumption | omega) only [go_sem, ↓reduceIte, Nat.reduceEqDiff, reduceCtorEq, Nat.reduceAdd, Nat.reduceLeDiff, Nat.reduceLT, reduceIte, Int.reduceBEq, Int.reduceBNe, Int.reduceLT, Int.reduceLE, Int.reduceAdd, Int.reduceSub, Int.reduceMul, Int.reduceNeg, Int.reduceEq, Int.reduceNe, Nat.reduceMul, Nat.reduceSub]) ?_
  rintro _ _ ⟨hv, hhh⟩
  rw [hhh]
  clear hhh
  rcases hv with ⟨h0, rfl⟩ | ⟨h0, q, rfl, hq⟩
  · simp (disch := first | assumption | omega) only [h0, go_sem, ↓reduceIte, Nat.reduceEqDiff, reduceCtorEq, Nat.reduceAdd, Nat.reduceLeDiff, Nat.reduceLT, reduceIte, Int.reduceBEq, Int.reduceBNe, Int.reduceLT, Int.reduceLE, Int.reduceAdd, Int.reduceSub, Int.reduceMul, Int.reduceNeg, Int.reduceEq, Int.reduceNe, Nat.reduceMul, Nat.reduceSub]
    refine callG_ok (ContainsLong_ok .sh L XS (.inl rfl) hL (by omega) _) (by simp (disch := first | assumption | omega) only [go_sem, ↓reduceIte, Nat.reduceEqDiff, reduceCtorEq, Nat.reduceAdd, Nat.reduceLeDiff, Nat.reduceLT, reduceIte, Int.reduceBEq, Int.reduceBNe, Int.reduceLT, Int.reduceLE, Int.reduceAdd, Int.reduceSub, Int.reduceMul, Int.reduceNeg, Int.reduceEq, Int.reduceNe, Nat.reduceMul, Nat.reduceSub]) ?_
    rintro _ _ ⟨⟨bb, rfl, hbb⟩, hhh⟩
    rw [hhh]
    clear hhh
    simp (disch := first | assumption | omega) only [go_sem, ↓reduceIte, Nat.reduceEqDiff, reduceCtorEq, Nat.reduceAdd, Nat.reduceLeDiff, Nat.reduceLT, reduceIte, Int.reduceBEq, Int.reduceBNe, Int.reduceLT, Int.reduceLE, Int.reduceAdd, Int.reduceSub, Int.reduceMul, Int.reduceNeg, Int.reduceEq, Int.reduceNe, Nat.reduceMul, Nat.reduceSub]
    subst hQ
    simp (disch := first | assumption | omega) only [R.gantkeep5_LogCut, go_sem, ↓reduceIte, Nat.reduceEqDiff, reduceCtorEq, Nat.reduceAdd, Nat.reduceLeDiff, Nat.reduceLT, reduceIte, Int.reduceBEq, Int.reduceBNe, Int.reduceLT, Int.reduceLE, Int.reduceAdd, Int.reduceSub, Int.reduceMul, Int.reduceNeg, Int.reduceEq, Int.reduceNe, Nat.reduceMul, Nat.reduceSub]
    cases bb with
    | true => rfl
    | false =>
      exfalso
      have hall := hbb.1 rfl
      have := size_short hall
      exact h0 ((allE_ok L 0).2 ⟨hall, fun _ => by omega⟩)
  have hshort := ((allE_ok L 0).1 h0).1
  have hsz := size_short hshort
  obtain ⟨q', hq', _, hr1, hr2, hr3⟩ := own_rd (q := q) (ints .u8 (book 0 L)) (by rcases hq with ⟨rfl, _⟩ | rfl <;> simp)
  have hqn : Rdn q' (book 0 L) := ⟨hq', fun e => by
    rcases hq with ⟨_, h⟩ | h
    · rw [h]; rfl
    · rename_i hh; rw [hh e] at h; cases h⟩
  have hbl := book_length 0 L
  have hbu : ∀ x ∈ book 0 L, inU8 x := book_u8 0 L (fun r hr => (hLu r hr).1)
  have hIS := IsScan.book hshort
  have hLu1 : ∀ r ∈ L, ∀ x ∈ r, inU8 x := fun r hr => (hLu r hr).1
  have hll : ∀ r ∈ L, r.length < 4611686018427387904 := fun r hr => by have := hshort r hr; omega
  have hch := fun (c : Nat) (x y : Int) => cut_changed hshort hLu1 (c := c) (x := x) (y := y)
  generalize hB : book 0 L = B at *
  simp (disch := first | assumption | omega) only [h0, hr1, hr2, go_sem, ↓reduceIte, Nat.reduceEqDiff, reduceCtorEq, Nat.reduceAdd, Nat.reduceLeDiff, Nat.reduceLT, reduceIte, Int.reduceBEq, Int.reduceBNe, Int.reduceLT, Int.reduceLE, Int.reduceAdd, Int.reduceSub, Int.reduceMul, Int.reduceNeg, Int.reduceEq, Int.reduceNe, Nat.reduceMul, Nat.reduceSub]
  refine callG_ok (Read_ok q' B hq' hbu (by omega) _) (by simp (disch := first | assumption | omega) only [go_sem, ↓reduceIte, Nat.reduceEqDiff, reduceCtorEq, Nat.reduceAdd, Nat.reduceLeDiff, Nat.reduceLT, reduceIte, Int.reduceBEq, Int.reduceBNe, Int.reduceLT, Int.reduceLE, Int.reduceAdd, Int.reduceSub, Int.reduceMul, Int.reduceNeg, Int.reduceEq, Int.reduceNe, Nat.reduceMul, Nat.reduceSub]) ?_
  rintro _ _ ⟨⟨rs, x, rfl, ⟨q2, zs, rfl, hE2, hq2⟩, hS2⟩, hhh⟩
  rw [hhh]
  clear hhh
  obtain rfl := hIS.unique hS2
  rw [hB]
  obtain ⟨q2', hq2', hn2, hr7, hr8, hr9⟩ := own_rd (q := q2) zs (by rcases hq2 with ⟨rfl, _⟩ | rfl <;> simp)
  simp (disch := first | assumption | omega) only [hr7, hr8, go_sem, ↓reduceIte, Nat.reduceEqDiff, reduceCtorEq, Nat.reduceAdd, Nat.reduceLeDiff, Nat.reduceLT, reduceIte, Int.reduceBEq, Int.reduceBNe, Int.reduceLT, Int.reduceLE, Int.reduceAdd, Int.reduceSub, Int.reduceMul, Int.reduceNeg, Int.reduceEq, Int.reduceNe, Nat.reduceMul, Nat.reduceSub]
  refine callG_ok (Whole_ok q' B hq' hbu (by omega) _) (by simp (disch := first | assumption | omega) only [go_sem, ↓reduceIte, Nat.reduceEqDiff, reduceCtorEq, Nat.reduceAdd, Nat.reduceLeDiff, Nat.reduceLT, reduceIte, Int.reduceBEq, Int.reduceBNe, Int.reduceLT, Int.reduceLE, Int.reduceAdd, Int.reduceSub, Int.reduceMul, Int.reduceNeg, Int.reduceEq, Int.reduceNe, Nat.reduceMul, Nat.reduceSub]) ?_
  rintro _ _ ⟨⟨rs4, rfl, hS4⟩, hhh⟩
  rw [hhh]
  clear hhh
  obtain rfl := hIS.unique hS4
  rw [hB, decide_eq_true rfl]
  simp (disch := first | assumption | omega) only [hr7, hr8, go_sem, ↓reduceIte, Nat.reduceEqDiff, reduceCtorEq, Nat.reduceAdd, Nat.reduceLeDiff, Nat.reduceLT, reduceIte, Int.reduceBEq, Int.reduceBNe, Int.reduceLT, Int.reduceLE, Int.reduceAdd, Int.reduceSub, Int.reduceMul, Int.reduceNeg, Int.reduceEq, Int.reduceNe, Nat.reduceMul, Nat.reduceSub]
  refine callG_ok (EqualRecs_ok q2' .sh L L zs XS hq2' (.inl rfl) hE2 hL hll hll (by omega) (by omega) _) (by simp (disch := first | assumption | omega) only [go_sem, ↓reduceIte, Nat.reduceEqDiff, reduceCtorEq, Nat.reduceAdd, Nat.reduceLeDiff, Nat.reduceLT, reduceIte, Int.reduceBEq, Int.reduceBNe, Int.reduceLT, Int.reduceLE, Int.reduceAdd, Int.reduceSub, Int.reduceMul, Int.reduceNeg, Int.reduceEq, Int.reduceNe, Nat.reduceMul, Nat.reduceSub]) ?_
  rintro _ _ ⟨rfl, hhh⟩
  rw [hhh]
  clear hhh
  rw [decide_eq_true rfl]
  simp (disch := first | assumption | omega) only [go_sem, ↓reduceIte, Nat.reduceEqDiff, reduceCtorEq, Nat.reduceAdd, Nat.reduceLeDiff, Nat.reduceLT, reduceIte, Int.reduceBEq, Int.reduceBNe, Int.reduceLT, Int.reduceLE, Int.reduceAdd, Int.reduceSub, Int.reduceMul, Int.reduceNeg, Int.reduceEq, Int.reduceNe, Nat.reduceMul, Nat.reduceSub]
  have hBl : B.length ≤ 100000 := by omega
  refine callG_ok (Below_ok n (B.length + 1) hn (by omega) (by omega) _) (by simp (disch := first | assumption | omega) only [go_sem, ↓reduceIte, Nat.reduceEqDiff, reduceCtorEq, Nat.reduceAdd, Nat.reduceLeDiff, Nat.reduceLT, reduceIte, Int.reduceBEq, Int.reduceBNe, Int.reduceLT, Int.reduceLE, Int.reduceAdd, Int.reduceSub, Int.reduceMul, Int.reduceNeg, Int.reduceEq, Int.reduceNe, Nat.reduceMul, Nat.reduceSub]) ?_
  rintro _ _ ⟨rfl, hhh⟩
  rw [hhh]
  clear hhh
  have hm0 := Int.emod_nonneg n (b := B.length + 1) (by omega)
  have hm1' := Int.emod_lt_of_pos n (b := B.length + 1) (by omega)
  obtain ⟨c, hc⟩ : ∃ c : Nat, n % (B.length + 1) = (c : Int) := ⟨(n % (B.length + 1)).toNat, by omega⟩
  have hcle : c ≤ B.length := by omega
  rw [hc]
  have htk : List.take c (ints .u8 B) = ints .u8 (B.take c) := by rw [ints_take]
  simp (disch := first | assumption | omega) only [htk, go_sem, ↓reduceIte, Nat.reduceEqDiff, reduceCtorEq, Nat.reduceAdd, Nat.reduceLeDiff, Nat.reduceLT, reduceIte, Int.reduceBEq, Int.reduceBNe, Int.reduceLT, Int.reduceLE, Int.reduceAdd, Int.reduceSub, Int.reduceMul, Int.reduceNeg, Int.reduceEq, Int.reduceNe, Nat.reduceMul, Nat.reduceSub]
  refine ⟨⟨by omega, ints_width _⟩, ?_⟩
  have hcu : ∀ x ∈ B.take c, inU8 x := fun x hx => hbu x (List.mem_of_mem_take hx)
  have hcl : (B.take c).length = c := by simp; omega
  have hcp : B.take c <+: book 0 L := by rw [hB]; exact List.take_prefix _ _
  generalize B.take c = cut at *
  refine callG_ok (Read_ok .sh cut (.inl rfl) hcu (by omega) _) (by simp (disch := first | assumption | omega) only [go_sem, ↓reduceIte, Nat.reduceEqDiff, reduceCtorEq, Nat.reduceAdd, Nat.reduceLeDiff, Nat.reduceLT, reduceIte, Int.reduceBEq, Int.reduceBNe, Int.reduceLT, Int.reduceLE, Int.reduceAdd, Int.reduceSub, Int.reduceMul, Int.reduceNeg, Int.reduceEq, Int.reduceNe, Nat.reduceMul, Nat.reduceSub]) ?_
  rintro _ _ ⟨⟨rs, x, rfl, ⟨q3, ws, rfl, hE3, hq3⟩, hS3⟩, hhh⟩
  rw [hhh]
  clear hhh
  obtain ⟨q3', hq3', hn3, hr10, hr11, hr12⟩ := own_rd (q := q3) ws (by rcases hq3 with ⟨rfl, _⟩ | rfl <;> simp)
  have hpre := hS3.cut hcp hshort
  have hrl := hpre.length_le
  have hrp := hS3.pre.length_le
  have hlE3 := hE3.length
  have hLt : L.take rs.length = rs := (List.prefix_iff_eq_take.1 hpre).symm
  have hXt : Each2 RecOk rs (XS.take ws.length) := by
    have := hL.take rs.length
    rwa [hLt, ← hlE3] at this
  have hrll : ∀ r ∈ rs, r.length < 4611686018427387904 := fun r hr => by have := hS3.short r hr; omega
  have hk1 : ¬ (c : Int) < (book 0 rs).length := by omega
  have hk2 : ¬ (XS.length : Int) < ws.length := by omega
  simp (disch := first | assumption | omega) only [hr10, hr11, hk1, hk2, go_sem, ↓reduceIte, Nat.reduceEqDiff, reduceCtorEq, Nat.reduceAdd, Nat.reduceLeDiff, Nat.reduceLT, reduceIte, Int.reduceBEq, Int.reduceBNe, Int.reduceLT, Int.reduceLE, Int.reduceAdd, Int.reduceSub, Int.reduceMul, Int.reduceNeg, Int.reduceEq, Int.reduceNe, Nat.reduceMul, Nat.reduceSub]
  refine ⟨⟨by omega, hL.all (fun r _ x hr => by obtain ⟨q, _, rfl⟩ := hr; rfl)⟩, ?_⟩
  refine callG_ok (EqualRecs_ok q3' .sh rs rs ws _ hq3' (.inl rfl) hE3 hXt hrll hrll (by omega) (by omega) _) (by simp (disch := first | assumption | omega) only [go_sem, ↓reduceIte, Nat.reduceEqDiff, reduceCtorEq, Nat.reduceAdd, Nat.reduceLeDiff, Nat.reduceLT, reduceIte, Int.reduceBEq, Int.reduceBNe, Int.reduceLT, Int.reduceLE, Int.reduceAdd, Int.reduceSub, Int.reduceMul, Int.reduceNeg, Int.reduceEq, Int.reduceNe, Nat.reduceMul, Nat.reduceSub]) ?_
  rintro _ _ ⟨rfl, hhh⟩
  rw [hhh]
  clear hhh
  rw [decide_eq_true rfl]
  by_cases hce : c = B.length
  · have hce' : (c : Int) = B.length := by omega
    simp (disch := first | assumption | omega) only [hce', go_sem, ↓reduceIte, Nat.reduceEqDiff, reduceCtorEq, Nat.reduceAdd, Nat.reduceLeDiff, Nat.reduceLT, reduceIte, Int.reduceBEq, Int.reduceBNe, Int.reduceLT, Int.reduceLE, Int.reduceAdd, Int.reduceSub, Int.reduceMul, Int.reduceNeg, Int.reduceEq, Int.reduceNe, Nat.reduceMul, Nat.reduceSub]
    subst hQ
    simp (disch := first | assumption | omega) only [R.gantkeep5_LogCut, go_sem, ↓reduceIte, Nat.reduceEqDiff, reduceCtorEq, Nat.reduceAdd, Nat.reduceLeDiff, Nat.reduceLT, reduceIte, Int.reduceBEq, Int.reduceBNe, Int.reduceLT, Int.reduceLE, Int.reduceAdd, Int.reduceSub, Int.reduceMul, Int.reduceNeg, Int.reduceEq, Int.reduceNe, Nat.reduceMul, Nat.reduceSub]
  have hce' : ¬ (c : Int) = B.length := by omega
  by_cases hbz : b = 0
  · subst hbz
    simp (disch := first | assumption | omega) only [hce', go_sem, ↓reduceIte, Nat.reduceEqDiff, reduceCtorEq, Nat.reduceAdd, Nat.reduceLeDiff, Nat.reduceLT, reduceIte, Int.reduceBEq, Int.reduceBNe, Int.reduceLT, Int.reduceLE, Int.reduceAdd, Int.reduceSub, Int.reduceMul, Int.reduceNeg, Int.reduceEq, Int.reduceNe, Nat.reduceMul, Nat.reduceSub]
    subst hQ
    simp (disch := first | assumption | omega) only [R.gantkeep5_LogCut, go_sem, ↓reduceIte, Nat.reduceEqDiff, reduceCtorEq, Nat.reduceAdd, Nat.reduceLeDiff, Nat.reduceLT, reduceIte, Int.reduceBEq, Int.reduceBNe, Int.reduceLT, Int.reduceLE, Int.reduceAdd, Int.reduceSub, Int.reduceMul, Int.reduceNeg, Int.reduceEq, Int.reduceNe, Nat.reduceMul, Nat.reduceSub]
  have hlE := hL.length
  simp (disch := first | assumption | omega) only [hce', hbz, go_sem, ↓reduceIte, Nat.reduceEqDiff, reduceCtorEq, Nat.reduceAdd, Nat.reduceLeDiff, Nat.reduceLT, reduceIte, Int.reduceBEq, Int.reduceBNe, Int.reduceLT, Int.reduceLE, Int.reduceAdd, Int.reduceSub, Int.reduceMul, Int.reduceNeg, Int.reduceEq, Int.reduceNe, Nat.reduceMul, Nat.reduceSub]
  refine aw_count (fun d S => ∃ (i : Nat), i + d = L.length ∧ S.env 109 = .int .i64 i ∧ S.env 108 = .int .i64 L.length ∧ S.env 107 = .lst .sh XS ∧ S.env 0 = .lst .sh XS ∧ S.env 2 = .int .u8 b ∧ S.env 9 = .lst q' (ints .u8 B) ∧ S.env 13 = .int .i64 c ∧ S.env 14 = .int .i64 (sizeOf' (L.take i)) ∧ (∀ j, j < i → c ≠ sizeOf' (L.take j) ∧ c ≠ sizeOf' (L.take j) + 1) ∧ S.heap = []) (n := L.length)
    ⟨0, by omega, by simp (disch := first | assumption | omega) only [go_sem, ↓reduceIte, Nat.reduceEqDiff, reduceCtorEq, Nat.reduceAdd, Nat.reduceLeDiff, Nat.reduceLT, reduceIte, Int.reduceBEq, Int.reduceBNe, Int.reduceLT, Int.reduceLE, Int.reduceAdd, Int.reduceSub, Int.reduceMul, Int.reduceNeg, Int.reduceEq, Int.reduceNe, Nat.reduceMul, Nat.reduceSub], by simp (disch := first | assumption | omega) only [hlE, go_sem, ↓reduceIte, Nat.reduceEqDiff, reduceCtorEq, Nat.reduceAdd, Nat.reduceLeDiff, Nat.reduceLT, reduceIte, Int.reduceBEq, Int.reduceBNe, Int.reduceLT, Int.reduceLE, Int.reduceAdd, Int.reduceSub, Int.reduceMul, Int.reduceNeg, Int.reduceEq, Int.reduceNe, Nat.reduceMul, Nat.reduceSub], by simp (disch := first | assumption | omega) only [go_sem, ↓reduceIte, Nat.reduceEqDiff, reduceCtorEq, Nat.reduceAdd, Nat.reduceLeDiff, Nat.reduceLT, reduceIte, Int.reduceBEq, Int.reduceBNe, Int.reduceLT, Int.reduceLE, Int.reduceAdd, Int.reduceSub, Int.reduceMul, Int.reduceNeg, Int.reduceEq, Int.reduceNe, Nat.reduceMul, Nat.reduceSub], by simp (disch := first | assumption | omega) only [go_sem, ↓reduceIte, Nat.reduceEqDiff, reduceCtorEq, Nat.reduceAdd, Nat.reduceLeDiff, Nat.reduceLT, reduceIte, Int.reduceBEq, Int.reduceBNe, Int.reduceLT, Int.reduceLE, Int.reduceAdd, Int.reduceSub, Int.reduceMul, Int.reduceNeg, Int.reduceEq, Int.reduceNe, Nat.reduceMul, Nat.reduceSub], by simp (disch := first | assumption | omega) only [go_sem, ↓reduceIte, Nat.reduceEqDiff, reduceCtorEq, Nat.reduceAdd, Nat.reduceLeDiff, Nat.reduceLT, reduceIte, Int.reduceBEq, Int.reduceBNe, Int.reduceLT, Int.reduceLE, Int.reduceAdd, Int.reduceSub, Int.reduceMul, Int.reduceNeg, Int.reduceEq, Int.reduceNe, Nat.reduceMul, Nat.reduceSub], by simp (disch := first | assumption | omega) only [hr1, hr2, go_sem, ↓reduceIte, Nat.reduceEqDiff, reduceCtorEq, Nat.reduceAdd, Nat.reduceLeDiff, Nat.reduceLT, reduceIte, Int.reduceBEq, Int.reduceBNe, Int.reduceLT, Int.reduceLE, Int.reduceAdd, Int.reduceSub, Int.reduceMul, Int.reduceNeg, Int.reduceEq, Int.reduceNe, Nat.reduceMul, Nat.reduceSub], by simp (disch := first | assumption | omega) only [go_sem, ↓reduceIte, Nat.reduceEqDiff, reduceCtorEq, Nat.reduceAdd, Nat.reduceLeDiff, Nat.reduceLT, reduceIte, Int.reduceBEq, Int.reduceBNe, Int.reduceLT, Int.reduceLE, Int.reduceAdd, Int.reduceSub, Int.reduceMul, Int.reduceNeg, Int.reduceEq, Int.reduceNe, Nat.reduceMul, Nat.reduceSub], by simp (disch := first | assumption | omega) only [List.take_zero, go_sem, ↓reduceIte, Nat.reduceEqDiff, reduceCtorEq, Nat.reduceAdd, Nat.reduceLeDiff, Nat.reduceLT, reduceIte, Int.reduceBEq, Int.reduceBNe, Int.reduceLT, Int.reduceLE, Int.reduceAdd, Int.reduceSub, Int.reduceMul, Int.reduceNeg, Int.reduceEq, Int.reduceNe, Nat.reduceMul, Nat.reduceSub]; rfl, by omega, by simp (disch := first | assumption | omega) only [go_sem, ↓reduceIte, Nat.reduceEqDiff, reduceCtorEq, Nat.reduceAdd, Nat.reduceLeDiff, Nat.reduceLT, reduceIte, Int.reduceBEq, Int.reduceBNe, Int.reduceLT, Int.reduceLE, Int.reduceAdd, Int.reduceSub, Int.reduceMul, Int.reduceNeg, Int.reduceEq, Int.reduceNe, Nat.reduceMul, Nat.reduceSub]⟩ ?_
  rintro d S ⟨i, hi, e109, e108, e107, e0, e2, e9, e13, e14, hno, eh⟩
  simp (disch := first | assumption | omega) only [e109, e108, e107, e0, e2, e9, e13, e14, eh, go_sem, ↓reduceIte, Nat.reduceEqDiff, reduceCtorEq, Nat.reduceAdd, Nat.reduceLeDiff, Nat.reduceLT, reduceIte, Int.reduceBEq, Int.reduceBNe, Int.reduceLT, Int.reduceLE, Int.reduceAdd, Int.reduceSub, Int.reduceMul, Int.reduceNeg, Int.reduceEq, Int.reduceNe, Nat.reduceMul, Nat.reduceSub]
  refine condG_if (fun hlt => ?_) fun hge => ?_
  · have hlt1 : i < L.length := by omega
    have hlt2 : i < XS.length := by omega
    obtain ⟨p, hp, hxi⟩ := hL.at i hlt1
    have hp1 := hp.1
    have hsi := sizeOf'_get hlt1
    have hst := @sizeOf'_take L i
    have hst1 := @sizeOf'_take L (i + 1)
    by_cases ha : c = sizeOf' (L.take i)
    · have ha' : (c : Int) = sizeOf' (L.take i) := by omega
      simp (disch := first | assumption | omega) only [e109, e108, e107, e0, e2, e9, e13, e14, eh, hlt2, hxi, ha', go_sem, ↓reduceIte, Nat.reduceEqDiff, reduceCtorEq, Nat.reduceAdd, Nat.reduceLeDiff, Nat.reduceLT, reduceIte, Int.reduceBEq, Int.reduceBNe, Int.reduceLT, Int.reduceLE, Int.reduceAdd, Int.reduceSub, Int.reduceMul, Int.reduceNeg, Int.reduceEq, Int.reduceNe, Nat.reduceMul, Nat.reduceSub]
      subst hQ
      simp (disch := first | assumption | omega) only [R.gantkeep5_LogCut, go_sem, ↓reduceIte, Nat.reduceEqDiff, reduceCtorEq, Nat.reduceAdd, Nat.reduceLeDiff, Nat.reduceLT, reduceIte, Int.reduceBEq, Int.reduceBNe, Int.reduceLT, Int.reduceLE, Int.reduceAdd, Int.reduceSub, Int.reduceMul, Int.reduceNeg, Int.reduceEq, Int.reduceNe, Nat.reduceMul, Nat.reduceSub]
    have ha' : ¬ (c : Int) = sizeOf' (L.take i) := by omega
    by_cases ha2 : c = sizeOf' (L.take i) + 1
    · have ha2' : (c : Int) = sizeOf' (L.take i) + 1 := by omega
      simp (disch := first | assumption | omega) only [e109, e108, e107, e0, e2, e9, e13, e14, eh, hlt2, hxi, ha', eq_true ha2', go_sem, ↓reduceIte, Nat.reduceEqDiff, reduceCtorEq, Nat.reduceAdd, Nat.reduceLeDiff, Nat.reduceLT, reduceIte, Int.reduceBEq, Int.reduceBNe, Int.reduceLT, Int.reduceLE, Int.reduceAdd, Int.reduceSub, Int.reduceMul, Int.reduceNeg, Int.reduceEq, Int.reduceNe, Nat.reduceMul, Nat.reduceSub]
      subst hQ
      simp (disch := first | assumption | omega) only [R.gantkeep5_LogCut, go_sem, ↓reduceIte, Nat.reduceEqDiff, reduceCtorEq, Nat.reduceAdd, Nat.reduceLeDiff, Nat.reduceLT, reduceIte, Int.reduceBEq, Int.reduceBNe, Int.reduceLT, Int.reduceLE, Int.reduceAdd, Int.reduceSub, Int.reduceMul, Int.reduceNeg, Int.reduceEq, Int.reduceNe, Nat.reduceMul, Nat.reduceSub]
    have ha2' : ¬ (c : Int) = sizeOf' (L.take i) + 1 := by omega
    simp (disch := first | assumption | omega) only [e109, e108, e107, e0, e2, e9, e13, e14, eh, hlt2, hxi, ha', ha2', go_sem, ↓reduceIte, Nat.reduceEqDiff, reduceCtorEq, Nat.reduceAdd, Nat.reduceLeDiff, Nat.reduceLT, reduceIte, Int.reduceBEq, Int.reduceBNe, Int.reduceLT, Int.reduceLE, Int.reduceAdd, Int.reduceSub, Int.reduceMul, Int.reduceNeg, Int.reduceEq, Int.reduceNe, Nat.reduceMul, Nat.reduceSub]
    refine ⟨d - 1, by omega, i + 1, by omega, by simp, by rw [hsi]; congr 1; omega, fun j hj => ?_⟩
    rcases Nat.lt_or_ge j i with h | h
    · exact hno j h
    · obtain rfl : j = i := by omega
      exact ⟨ha, ha2⟩
  · obtain rfl : i = L.length := by omega
    simp (disch := first | assumption | omega) only [e109, e108, e107, e0, e2, e9, e13, e14, eh, go_sem, ↓reduceIte, Nat.reduceEqDiff, reduceCtorEq, Nat.reduceAdd, Nat.reduceLeDiff, Nat.reduceLT, reduceIte, Int.reduceBEq, Int.reduceBNe, Int.reduceLT, Int.reduceLE, Int.reduceAdd, Int.reduceSub, Int.reduceMul, Int.reduceNeg, Int.reduceEq, Int.reduceNe, Nat.reduceMul, Nat.reduceSub]
    have hclt : c < B.length := by omega
    refine callG_ok (CloneByteU_ok q' B hqn (by omega) _) (by simp (disch := first | assumption | omega) only [go_sem, ↓reduceIte, Nat.reduceEqDiff, reduceCtorEq, Nat.reduceAdd, Nat.reduceLeDiff, Nat.reduceLT, reduceIte, Int.reduceBEq, Int.reduceBNe, Int.reduceLT, Int.reduceLE, Int.reduceAdd, Int.reduceSub, Int.reduceMul, Int.reduceNeg, Int.reduceEq, Int.reduceNe, Nat.reduceMul, Nat.reduceSub]) ?_
    rintro _ _ ⟨hcl1, hhh⟩
    rw [hhh]
    clear hhh
    rcases hcl1 with ⟨_, hnil⟩ | ⟨cap, rfl, hcap⟩
    · rw [hnil] at hclt; simp at hclt
    simp (disch := first | assumption | omega) only [go_sem, ↓reduceIte, Nat.reduceEqDiff, reduceCtorEq, Nat.reduceAdd, Nat.reduceLeDiff, Nat.reduceLT, reduceIte, Int.reduceBEq, Int.reduceBNe, Int.reduceLT, Int.reduceLE, Int.reduceAdd, Int.reduceSub, Int.reduceMul, Int.reduceNeg, Int.reduceEq, Int.reduceNe, Nat.reduceMul, Nat.reduceSub]
    refine thaw_ints' (k := .u8) (ns := B) (cap := cap) (by simp (disch := first | assumption | omega) only [go_sem, ↓reduceIte, Nat.reduceEqDiff, reduceCtorEq, Nat.reduceAdd, Nat.reduceLeDiff, Nat.reduceLT, reduceIte, Int.reduceBEq, Int.reduceBNe, Int.reduceLT, Int.reduceLE, Int.reduceAdd, Int.reduceSub, Int.reduceMul, Int.reduceNeg, Int.reduceEq, Int.reduceNe, Nat.reduceMul, Nat.reduceSub]) hcap ?_
    have hget : (ints .u8 B ++ List.replicate (cap - B.length) AVal.junk).getD c .junk = .int .u8 B[c] := by
      rw [List.getD_eq_getElem?_getD, List.getElem?_append_left (by rw [ints_length]; exact hclt), ← List.getD_eq_getElem?_getD, getD_ints _ _ hclt, getD_get hclt]
    have hxb := hbu _ (List.getElem_mem hclt)
    have hy := xor_u8 B[c] b hxb hb
    have hci : (c : Int) < B.length := by omega
    have hset := ints_set' (k := .u8) B (List.replicate (cap - B.length) AVal.junk) c (bitsV .xor .u8 B[c] b) hclt
    have hBc : B[c]? = some B[c] := List.getElem?_eq_getElem hclt
    obtain ⟨i, hi1, hi2, hi3⟩ := hch c B[c] (bitsV .xor .u8 B[c] b) hBc hno hy.1 (hy.2 hbz)
    have hCu : ∀ x ∈ B.set c (bitsV .xor .u8 B[c] b), inU8 x := by
      intro x hx
      rcases List.mem_or_eq_of_mem_set hx with hx | rfl
      · exact hbu x hx
      · exact hy.1
    have hCl : (B.set c (bitsV .xor .u8 B[c] b)).length = B.length := List.length_set ..
    generalize hyy : bitsV .xor .u8 B[c] b = y at *
    generalize hCC : B.set c y = CC at *
    simp (disch := first | assumption | omega) only [e109, e108, e107, e0, e2, e9, e13, e14, eh, Nat.mul_one, hget, hyy, go_sem, ↓reduceIte, Nat.reduceEqDiff, reduceCtorEq, Nat.reduceAdd, Nat.reduceLeDiff, Nat.reduceLT, reduceIte, Int.reduceBEq, Int.reduceBNe, Int.reduceLT, Int.reduceLE, Int.reduceAdd, Int.reduceSub, Int.reduceMul, Int.reduceNeg, Int.reduceEq, Int.reduceNe, Nat.reduceMul, Nat.reduceSub]
    refine ⟨by omega, by omega, by omega, by omega, ?_⟩
    refine own_ints' (k := .u8) (ns := CC) (rest := List.replicate (cap - B.length) AVal.junk) (cap := cap) (id := 0) (by simp (disch := first | assumption | omega) only [hCl, go_sem, ↓reduceIte, Nat.reduceEqDiff, reduceCtorEq, Nat.reduceAdd, Nat.reduceLeDiff, Nat.reduceLT, reduceIte, Int.reduceBEq, Int.reduceBNe, Int.reduceLT, Int.reduceLE, Int.reduceAdd, Int.reduceSub, Int.reduceMul, Int.reduceNeg, Int.reduceEq, Int.reduceNe, Nat.reduceMul, Nat.reduceSub]) (by simp (disch := first | assumption | omega) only [hset, eh, hyy, go_sem, ↓reduceIte, Nat.reduceEqDiff, reduceCtorEq, Nat.reduceAdd, Nat.reduceLeDiff, Nat.reduceLT, reduceIte, Int.reduceBEq, Int.reduceBNe, Int.reduceLT, Int.reduceLE, Int.reduceAdd, Int.reduceSub, Int.reduceMul, Int.reduceNeg, Int.reduceEq, Int.reduceNe, Nat.reduceMul, Nat.reduceSub]) (by omega) (by simp [hCl]) ?_
    rintro hp hhp
    clear hhp
    rw [aw_grab]
    simp (disch := first | assumption | omega) only [go_sem, ↓reduceIte, Nat.reduceEqDiff, reduceCtorEq, Nat.reduceAdd, Nat.reduceLeDiff, Nat.reduceLT, reduceIte, Int.reduceBEq, Int.reduceBNe, Int.reduceLT, Int.reduceLE, Int.reduceAdd, Int.reduceSub, Int.reduceMul, Int.reduceNeg, Int.reduceEq, Int.reduceNe, Nat.reduceMul, Nat.reduceSub]
    refine callG_ok (Read_ok .sh CC (.inl rfl) hCu (by omega) _) (by simp (disch := first | assumption | omega) only [go_sem, ↓reduceIte, Nat.reduceEqDiff, reduceCtorEq, Nat.reduceAdd, Nat.reduceLeDiff, Nat.reduceLT, reduceIte, Int.reduceBEq, Int.reduceBNe, Int.reduceLT, Int.reduceLE, Int.reduceAdd, Int.reduceSub, Int.reduceMul, Int.reduceNeg, Int.reduceEq, Int.reduceNe, Nat.reduceMul, Nat.reduceSub]) ?_
    rintro _ _ ⟨⟨rs9, x, rfl, ⟨q9, ws9, rfl, hE9, hq9⟩, hS9⟩, hhh⟩
    rw [hhh]
    clear hhh
    obtain rfl := hi3.unique hS9
    obtain ⟨q9', hq9', hn9, hr13, hr14, hr15⟩ := own_rd (q := q9) ws9 (by rcases hq9 with ⟨rfl, _⟩ | rfl <;> simp)
    have hlE9 := hE9.length
    rw [List.length_take, Nat.min_eq_left (by omega)] at hlE9
    have hbl9 := book_length 0 (L.take i)
    have hk9 : ((book 0 (L.take i)).length : Int) ≤ c := by omega
    have hk8 : (ws9.length : Int) < XS.length := by omega
    have hXt9 : Each2 RecOk (L.take i) (XS.take ws9.length) := by
      have := hL.take i
      rwa [← hlE9] at this ⊢
    have hll9 : ∀ r ∈ L.take i, r.length < 4611686018427387904 := fun r hr => hll r (List.mem_of_mem_take hr)
    have hlt9 : (L.take i).length < 4611686018427387904 := by simp; omega
    simp (disch := first | assumption | omega) only [e109, e108, e107, e0, e2, e9, e13, e14, eh, hr13, hr14, hk9, hk8, go_sem, ↓reduceIte, Nat.reduceEqDiff, reduceCtorEq, Nat.reduceAdd, Nat.reduceLeDiff, Nat.reduceLT, reduceIte, Int.reduceBEq, Int.reduceBNe, Int.reduceLT, Int.reduceLE, Int.reduceAdd, Int.reduceSub, Int.reduceMul, Int.reduceNeg, Int.reduceEq, Int.reduceNe, Nat.reduceMul, Nat.reduceSub]
    refine ⟨⟨by omega, hL.all (fun r _ x hr => by obtain ⟨q, _, rfl⟩ := hr; rfl)⟩, ?_⟩
    refine callG_ok (EqualRecs_ok q9' .sh (L.take i) (L.take i) ws9 _ hq9' (.inl rfl) hE9 hXt9 hll9 hll9 hlt9 hlt9 _) (by simp (disch := first | assumption | omega) only [go_sem, ↓reduceIte, Nat.reduceEqDiff, reduceCtorEq, Nat.reduceAdd, Nat.reduceLeDiff, Nat.reduceLT, reduceIte, Int.reduceBEq, Int.reduceBNe, Int.reduceLT, Int.reduceLE, Int.reduceAdd, Int.reduceSub, Int.reduceMul, Int.reduceNeg, Int.reduceEq, Int.reduceNe, Nat.reduceMul, Nat.reduceSub]) ?_
    rintro _ _ ⟨rfl, hhh⟩
    rw [hhh]
    clear hhh
    rw [decide_eq_true rfl]
    simp (disch := first | assumption | omega) only [go_sem, ↓reduceIte, Nat.reduceEqDiff, reduceCtorEq, Nat.reduceAdd, Nat.reduceLeDiff, Nat.reduceLT, reduceIte, Int.reduceBEq, Int.reduceBNe, Int.reduceLT, Int.reduceLE, Int.reduceAdd, Int.reduceSub, Int.reduceMul, Int.reduceNeg, Int.reduceEq, Int.reduceNe, Nat.reduceMul, Nat.reduceSub]
    subst hQ
    simp (disch := first | assumption | omega) only [R.gantkeep5_LogCut, go_sem, ↓reduceIte, Nat.reduceEqDiff, reduceCtorEq, Nat.reduceAdd, Nat.reduceLeDiff, Nat.reduceLT, reduceIte, Int.reduceBEq, Int.reduceBNe, Int.reduceLT, Int.reduceLE, Int.reduceAdd, Int.reduceSub, Int.reduceMul, Int.reduceNeg, Int.reduceEq, Int.reduceNe, Nat.reduceMul, Nat.reduceSub]
end Go.Proofs.Ytpdajkbfemcdlaa
