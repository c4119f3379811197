/- The law LogGoes. -/
import Derived.Test.YtpdajkbfemcdlaaV4
import Derived.Test.YtpdajkbfemcdlaaP1
set_option linter.unusedSimpArgs false
set_option linter.unusedVariables false
set_option maxRecDepth 10000
namespace Go.Proofs.Ytpdajkbfemcdlaa
open Go.Ge
theorem AddQ.first {v : AVal} {r : List Int} (h : AddQ [] r v) (hr : r.length ≤ 2000) : v = .tup [.lst (.app 1) (ints .u8 (book 0 [r])), .int .i64 0] := by
  rcases h with ⟨h, _⟩ | ⟨_, rs, h1, h2⟩
  · omega
  · have e : rs = [] := h1.unique (IsScan.book (rs := []) (by simp))
    subst e
    rcases h2 with ⟨h3, _⟩ | ⟨_, rfl⟩
    · simp [book] at h3; omega
    · rfl
theorem LogGoes_law (o p : Own) (recs : List (List Int)) (xs : List AVal) (n : Int) (more : List Int) (ho : Rdn o recs) (hx : Each2 RecOk recs xs) (hp : Rdn p more) (hn : inI64 n) (hu : ∀ r ∈ recs, (∀ c ∈ r, inU8 c) ∧ r.length ≤ reachBytes) (hum : ∀ c ∈ more, inU8 c) (hlm : more.length ≤ reachBytes) (hl : recs.length * 24 ≤ reachBytes) :
    ACalls Try.prog F.gantkeep5_LogGoes [.lst o xs, .int .i64 n, .lst p (ints .u8 more)] [] (fun r _ => r = .bool true) := by
  have ho1 := ho.1
  have hp1 := hp.1
  unfold reachBytes at hlm hl hu
  have lx := hx.length
  refine ACalls.of_aw Try.func7 K.gantkeep5_LogGoes (by simp [Try.f7]) ?_
  generalize hQ : retQ R.gantkeep5_LogGoes _ = Q
  simp (disch := first | assumption | omega) only [C.gantkeep5_LogGoes, go_sem, ↓reduceIte, Nat.reduceEqDiff, reduceCtorEq, Nat.reduceAdd, Nat.reduceLeDiff, Nat.reduceLT, reduceIte, Int.reduceBEq, Int.reduceBNe, Int.reduceLT, Int.reduceLE, Int.reduceAdd, Int.reduceSub, Int.reduceMul, Int.reduceNeg, Int.reduceEq, Int.reduceNe, Nat.reduceMul, Nat.reduceSub]
  refine callG_ok (Add_ok .nil .sh [] [7] ⟨.inr rfl, fun _ => rfl⟩ ⟨.inl rfl, fun e => by cases e⟩ (by simp) (by simp [inU8]) (by simp) (by simp) _) (by simp (disch := first | assumption | omega) only [go_sem, ↓reduceIte, Nat.reduceEqDiff, reduceCtorEq, Nat.reduceAdd, Nat.reduceLeDiff, Nat.reduceLT, reduceIte, Int.reduceBEq, Int.reduceBNe, Int.reduceLT, Int.reduceLE, Int.reduceAdd, Int.reduceSub, Int.reduceMul, Int.reduceNeg, Int.reduceEq, Int.reduceNe, Nat.reduceMul, Nat.reduceSub]) ?_
  rintro _ _ ⟨hv, hhh⟩
  rw [hhh]
  clear hhh
  obtain rfl := hv.first (by simp)
  have h7 : (book 0 [[7]]).length = 7 := by rw [book_length]; rfl
  have h7' : ((book 0 [[7]]).length : Int) = 7 := by rw [h7]; rfl
  obtain ⟨m, hm1, hm2, hm3⟩ : ∃ m : Nat, (if (20 : Int) < xs.length then 20 else (xs.length : Int)) = (m : Int) ∧ m ≤ 20 ∧ m ≤ recs.length := by
    split
    · exact ⟨20, rfl, by omega, by omega⟩
    · exact ⟨xs.length, rfl, by omega, by omega⟩
  simp (disch := first | assumption | omega) only [h7', hm1, go_sem, ↓reduceIte, Nat.reduceEqDiff, reduceCtorEq, Nat.reduceAdd, Nat.reduceLeDiff, Nat.reduceLT, reduceIte, Int.reduceBEq, Int.reduceBNe, Int.reduceLT, Int.reduceLE, Int.reduceAdd, Int.reduceSub, Int.reduceMul, Int.reduceNeg, Int.reduceEq, Int.reduceNe, Nat.reduceMul, Nat.reduceSub]
  refine ⟨⟨by omega, hx.all (fun r _ x hr => by obtain ⟨q, _, rfl⟩ := hr; rfl)⟩, ?_⟩
  have hL := hx.take m
  have hLlen : (recs.take m).length = m := by simp; omega
  have hLu : ∀ r ∈ recs.take m, (∀ c ∈ r, inU8 c) ∧ r.length ≤ 140737488351232 := fun r hr => hu r (List.mem_of_mem_take hr)
  generalize recs.take m = L at *
  generalize xs.take m = XS at *
  refine callG_ok (All_ok .sh L XS ⟨.inl rfl, fun e => by cases e⟩ hL (fun r hr => (hLu r hr).1) (fun r hr => (hLu r hr).2) (by omega) _) (by simp (disch := first | assumption | omega) only [go_sem, ↓reduceIte, Nat.reduceEqDiff, reduceCtorEq, Nat.reduceAdd, Nat.reduceLeDiff, Nat.reduceLT, reduceIte, Int.reduceBEq, Int.reduceBNe, Int.reduceLT, Int.reduceLE, Int.reduceAdd, Int.reduceSub, Int.reduceMul, Int.reduceNeg, Int.reduceEq, Int.reduceNe, Nat.reduceMul, Nat.reduceSub]) ?_
  rintro _ _ ⟨hv, hhh⟩
  rw [hhh]
  clear hhh
  rcases hv with ⟨h0, rfl⟩ | ⟨h0, q, rfl, hq⟩
  · simp (disch := first | assumption | omega) only [h7', hm1, h0, go_sem, ↓reduceIte, Nat.reduceEqDiff, reduceCtorEq, Nat.reduceAdd, Nat.reduceLeDiff, Nat.reduceLT, reduceIte, Int.reduceBEq, Int.reduceBNe, Int.reduceLT, Int.reduceLE, Int.reduceAdd, Int.reduceSub, Int.reduceMul, Int.reduceNeg, Int.reduceEq, Int.reduceNe, Nat.reduceMul, Nat.reduceSub]
    subst hQ
    simp (disch := first | assumption | omega) only [R.gantkeep5_LogGoes, go_sem, ↓reduceIte, Nat.reduceEqDiff, reduceCtorEq, Nat.reduceAdd, Nat.reduceLeDiff, Nat.reduceLT, reduceIte, Int.reduceBEq, Int.reduceBNe, Int.reduceLT, Int.reduceLE, Int.reduceAdd, Int.reduceSub, Int.reduceMul, Int.reduceNeg, Int.reduceEq, Int.reduceNe, Nat.reduceMul, Nat.reduceSub]
  have hshort := (allE_ok L 0).1 h0
  have hsz := size_short hshort.1
  obtain ⟨q', hq', _, hr1, hr2, hr3⟩ := own_rd (q := q) (ints .u8 (book 0 L)) (by rcases hq with ⟨rfl, _⟩ | rfl <;> simp)
  have hbl := book_length 0 L
  have hbu : ∀ x ∈ book 0 L, inU8 x := book_u8 0 L (fun r hr => (hLu r hr).1)
  by_cases hbig : 2000 < more.length
  · have hbig' : (2000 : Int) < more.length := by omega
    simp (disch := first | assumption | omega) only [h7', hm1, h0, hbig', hr1, hr2, go_sem, ↓reduceIte, Nat.reduceEqDiff, reduceCtorEq, Nat.reduceAdd, Nat.reduceLeDiff, Nat.reduceLT, reduceIte, Int.reduceBEq, Int.reduceBNe, Int.reduceLT, Int.reduceLE, Int.reduceAdd, Int.reduceSub, Int.reduceMul, Int.reduceNeg, Int.reduceEq, Int.reduceNe, Nat.reduceMul, Nat.reduceSub]
    subst hQ
    simp (disch := first | assumption | omega) only [R.gantkeep5_LogGoes, go_sem, ↓reduceIte, Nat.reduceEqDiff, reduceCtorEq, Nat.reduceAdd, Nat.reduceLeDiff, Nat.reduceLT, reduceIte, Int.reduceBEq, Int.reduceBNe, Int.reduceLT, Int.reduceLE, Int.reduceAdd, Int.reduceSub, Int.reduceMul, Int.reduceNeg, Int.reduceEq, Int.reduceNe, Nat.reduceMul, Nat.reduceSub]
  have hbig' : ¬ (2000 : Int) < more.length := by omega
  simp (disch := first | assumption | omega) only [h7', hm1, h0, hbig', hr1, hr2, go_sem, ↓reduceIte, Nat.reduceEqDiff, reduceCtorEq, Nat.reduceAdd, Nat.reduceLeDiff, Nat.reduceLT, reduceIte, Int.reduceBEq, Int.reduceBNe, Int.reduceLT, Int.reduceLE, Int.reduceAdd, Int.reduceSub, Int.reduceMul, Int.reduceNeg, Int.reduceEq, Int.reduceNe, Nat.reduceMul, Nat.reduceSub]
  have hBl : (book 0 L).length ≤ 100000 := by omega
  refine callG_ok (Below_ok n ((book 0 L).length + 1) hn (by omega) (by omega) _) (by simp (disch := first | assumption | omega) only [go_sem, ↓reduceIte, Nat.reduceEqDiff, reduceCtorEq, Nat.reduceAdd, Nat.reduceLeDiff, Nat.reduceLT, reduceIte, Int.reduceBEq, Int.reduceBNe, Int.reduceLT, Int.reduceLE, Int.reduceAdd, Int.reduceSub, Int.reduceMul, Int.reduceNeg, Int.reduceEq, Int.reduceNe, Nat.reduceMul, Nat.reduceSub]) ?_
  rintro _ _ ⟨rfl, hhh⟩
  rw [hhh]
  clear hhh
  have hm0 := Int.emod_nonneg n (b := (book 0 L).length + 1) (by omega)
  have hm1' := Int.emod_lt_of_pos n (b := (book 0 L).length + 1) (by omega)
  obtain ⟨c, hc⟩ : ∃ c : Nat, n % ((book 0 L).length + 1) = (c : Int) := ⟨(n % ((book 0 L).length + 1)).toNat, by omega⟩
  have hcle : c ≤ (book 0 L).length := by omega
  rw [hc]
  have htk : List.take c (ints .u8 (book 0 L)) = ints .u8 ((book 0 L).take c) := by rw [ints_take]
  simp (disch := first | assumption | omega) only [htk, go_sem, ↓reduceIte, Nat.reduceEqDiff, reduceCtorEq, Nat.reduceAdd, Nat.reduceLeDiff, Nat.reduceLT, reduceIte, Int.reduceBEq, Int.reduceBNe, Int.reduceLT, Int.reduceLE, Int.reduceAdd, Int.reduceSub, Int.reduceMul, Int.reduceNeg, Int.reduceEq, Int.reduceNe, Nat.reduceMul, Nat.reduceSub]
  refine ⟨⟨by omega, ints_width _⟩, ?_⟩
  have hcu : ∀ x ∈ (book 0 L).take c, inU8 x := fun x hx => hbu x (List.mem_of_mem_take hx)
  have hcl : ((book 0 L).take c).length ≤ 100000 := by simp; omega
  have hcp : (book 0 L).take c <+: book 0 L := List.take_prefix _ _
  generalize (book 0 L).take c = cut at *
  refine callG_ok (Read_ok .sh cut (.inl rfl) hcu (by omega) _) (by simp (disch := first | assumption | omega) only [go_sem, ↓reduceIte, Nat.reduceEqDiff, reduceCtorEq, Nat.reduceAdd, Nat.reduceLeDiff, Nat.reduceLT, reduceIte, Int.reduceBEq, Int.reduceBNe, Int.reduceLT, Int.reduceLE, Int.reduceAdd, Int.reduceSub, Int.reduceMul, Int.reduceNeg, Int.reduceEq, Int.reduceNe, Nat.reduceMul, Nat.reduceSub]) ?_
  rintro _ _ ⟨⟨rs, x, rfl, ⟨q1, ys, rfl, hE1, hq1⟩, hS1⟩, hhh⟩
  rw [hhh]
  clear hhh
  obtain ⟨q1', hq1', hn1, hr4, hr5, hr6⟩ := own_rd (q := q1) ys (by rcases hq1 with ⟨rfl, _⟩ | rfl <;> simp)
  have hd1 : Rdn q1' rs := ⟨hq1', fun e => by rcases hq1 with ⟨_, h⟩ | h; exact h; rw [hn1 e] at h; cases h⟩
  simp (disch := first | assumption | omega) only [hr4, hr5, go_sem, ↓reduceIte, Nat.reduceEqDiff, reduceCtorEq, Nat.reduceAdd, Nat.reduceLeDiff, Nat.reduceLT, reduceIte, Int.reduceBEq, Int.reduceBNe, Int.reduceLT, Int.reduceLE, Int.reduceAdd, Int.reduceSub, Int.reduceMul, Int.reduceNeg, Int.reduceEq, Int.reduceNe, Nat.reduceMul, Nat.reduceSub]
  refine callG_ok (Add_ok .sh p cut more ⟨.inl rfl, fun e => by cases e⟩ hp hcu hum (by omega) (by omega) _) (by simp (disch := first | assumption | omega) only [go_sem, ↓reduceIte, Nat.reduceEqDiff, reduceCtorEq, Nat.reduceAdd, Nat.reduceLeDiff, Nat.reduceLT, reduceIte, Int.reduceBEq, Int.reduceBNe, Int.reduceLT, Int.reduceLE, Int.reduceAdd, Int.reduceSub, Int.reduceMul, Int.reduceNeg, Int.reduceEq, Int.reduceNe, Nat.reduceMul, Nat.reduceSub]) ?_
  rintro _ _ ⟨hv2, hhh⟩
  rw [hhh]
  clear hhh
  have hpre := hS1.cut hcp hshort.1
  have hrlen : rs.length ≤ 20 := by have := hpre.length_le; omega
  have hrs2 := size_short hS1.short
  have hbl1 := book_length 0 rs
  rcases hv2 with ⟨h9, _⟩ | ⟨_, rs', h8, h9⟩
  · omega
  obtain rfl := hS1.unique h8
  rcases h9 with ⟨h9, _⟩ | ⟨h9, rfl⟩
  · omega
  have hru : ∀ r ∈ rs, ∀ x ∈ r, inU8 x := hS1.u8 hcu
  have hNu : ∀ r ∈ rs ++ [more], ∀ x ∈ r, inU8 x := by
    intro r hr
    rcases List.mem_append.1 hr with hr | hr
    · exact hru r hr
    · simp at hr; subst hr; exact hum
  have hNs : ∀ r ∈ rs ++ [more], r.length ≤ 2000 := by
    intro r hr
    rcases List.mem_append.1 hr with hr | hr
    · exact hS1.short r hr
    · simp at hr; subst hr; omega
  have hBu : ∀ x ∈ book 0 (rs ++ [more]), inU8 x := book_u8 0 _ hNu
  have hBlen : (book 0 (rs ++ [more])).length ≤ 100000 := by
    rw [book_snoc, List.length_append, recB_length]; omega
  have hIS := IsScan.book hNs
  have hBeq : ∀ q : Own, q = .nil ∧ rs ++ [more] = [] ∨ q = .app 1 → q = .app 1 := by
    rintro q (⟨_, h⟩ | h)
    · simp at h
    · exact h
  generalize hB : book 0 (rs ++ [more]) = B at *
  simp (disch := first | assumption | omega) only [go_sem, ↓reduceIte, Nat.reduceEqDiff, reduceCtorEq, Nat.reduceAdd, Nat.reduceLeDiff, Nat.reduceLT, reduceIte, Int.reduceBEq, Int.reduceBNe, Int.reduceLT, Int.reduceLE, Int.reduceAdd, Int.reduceSub, Int.reduceMul, Int.reduceNeg, Int.reduceEq, Int.reduceNe, Nat.reduceMul, Nat.reduceSub]
  refine callG_ok (Read_ok .sh B (.inl rfl) hBu (by omega) _) (by simp (disch := first | assumption | omega) only [go_sem, ↓reduceIte, Nat.reduceEqDiff, reduceCtorEq, Nat.reduceAdd, Nat.reduceLeDiff, Nat.reduceLT, reduceIte, Int.reduceBEq, Int.reduceBNe, Int.reduceLT, Int.reduceLE, Int.reduceAdd, Int.reduceSub, Int.reduceMul, Int.reduceNeg, Int.reduceEq, Int.reduceNe, Nat.reduceMul, Nat.reduceSub]) ?_
  rintro _ _ ⟨⟨rs2, x, rfl, ⟨q2, zs, rfl, hE2, hq2⟩, hS2⟩, hhh⟩
  rw [hhh]
  clear hhh
  obtain rfl := hIS.unique hS2
  obtain rfl := hBeq q2 hq2
  rw [hB]
  simp (disch := first | assumption | omega) only [hr4, go_sem, ↓reduceIte, Nat.reduceEqDiff, reduceCtorEq, Nat.reduceAdd, Nat.reduceLeDiff, Nat.reduceLT, reduceIte, Int.reduceBEq, Int.reduceBNe, Int.reduceLT, Int.reduceLE, Int.reduceAdd, Int.reduceSub, Int.reduceMul, Int.reduceNeg, Int.reduceEq, Int.reduceNe, Nat.reduceMul, Nat.reduceSub]
  refine callG_ok (CloneRecs_ok q1' rs ys hd1 hE1 (by omega) _) (by simp (disch := first | assumption | omega) only [go_sem, ↓reduceIte, Nat.reduceEqDiff, reduceCtorEq, Nat.reduceAdd, Nat.reduceLeDiff, Nat.reduceLT, reduceIte, Int.reduceBEq, Int.reduceBNe, Int.reduceLT, Int.reduceLE, Int.reduceAdd, Int.reduceSub, Int.reduceMul, Int.reduceNeg, Int.reduceEq, Int.reduceNe, Nat.reduceMul, Nat.reduceSub]) ?_
  rintro _ _ ⟨⟨q3, rfl, hq3⟩, hhh⟩
  rw [hhh]
  clear hhh
  have hal : allE (rs ++ [more]) 0 = 0 := by
    rw [allE_ok]
    refine ⟨hNs, fun _ => ?_⟩
    rw [← book_length 0, hB]; omega
  have hlE2 := hE2.length
  have hlE1 := hE1.length
  have hlz : (zs.length : Int) = (ys.length : Int) + 1 := by rw [hlE2, hlE1]; simp
  rcases hq3 with ⟨rfl, rfl⟩ | rfl
  case' inl =>
    have hys : ys = [] := by simpa [Each2] using hE1
    subst hys
    simp (disch := first | assumption | omega) only [go_sem, ↓reduceIte, Nat.reduceEqDiff, reduceCtorEq, Nat.reduceAdd, Nat.reduceLeDiff, Nat.reduceLT, reduceIte, Int.reduceBEq, Int.reduceBNe, Int.reduceLT, Int.reduceLE, Int.reduceAdd, Int.reduceSub, Int.reduceMul, Int.reduceNeg, Int.reduceEq, Int.reduceNe, Nat.reduceMul, Nat.reduceSub]
  case' inr =>
    simp (disch := first | assumption | omega) only [go_sem, ↓reduceIte, Nat.reduceEqDiff, reduceCtorEq, Nat.reduceAdd, Nat.reduceLeDiff, Nat.reduceLT, reduceIte, Int.reduceBEq, Int.reduceBNe, Int.reduceLT, Int.reduceLE, Int.reduceAdd, Int.reduceSub, Int.reduceMul, Int.reduceNeg, Int.reduceEq, Int.reduceNe, Nat.reduceMul, Nat.reduceSub]
    refine ⟨by omega, by omega, ?_⟩
  all_goals
    refine callG_ok (All_ok .sh _ _ ⟨.inl rfl, fun e => by cases e⟩ (hE1.append (Each2.one (RecOk.of hp))) hNu (fun r hr => by have := hNs r hr; omega) (by simp <;> omega) _) (by simp (disch := first | assumption | omega) only [go_sem, ↓reduceIte, Nat.reduceEqDiff, reduceCtorEq, Nat.reduceAdd, Nat.reduceLeDiff, Nat.reduceLT, reduceIte, Int.reduceBEq, Int.reduceBNe, Int.reduceLT, Int.reduceLE, Int.reduceAdd, Int.reduceSub, Int.reduceMul, Int.reduceNeg, Int.reduceEq, Int.reduceNe, Nat.reduceMul, Nat.reduceSub]) ?_
    rintro _ _ ⟨hv, hhh⟩
    rw [hhh]
    clear hhh
    rcases hv with ⟨h6, _⟩ | ⟨_, q4, rfl, hq4⟩
    · exact absurd hal h6
    obtain rfl := hBeq q4 hq4
    rw [hB]
    try simp only [List.length_nil, Int.natCast_zero, Int.zero_add] at hlz
    simp (disch := first | assumption | omega) only [hlz, hr4, go_sem, ↓reduceIte, Nat.reduceEqDiff, reduceCtorEq, Nat.reduceAdd, Nat.reduceLeDiff, Nat.reduceLT, reduceIte, Int.reduceBEq, Int.reduceBNe, Int.reduceLT, Int.reduceLE, Int.reduceAdd, Int.reduceSub, Int.reduceMul, Int.reduceNeg, Int.reduceEq, Int.reduceNe, Nat.reduceMul, Nat.reduceSub]
    refine callG_ok (EqualByte_ok .sh .sh B B (.inl rfl) (.inl rfl) (by omega) (by omega) _) (by simp (disch := first | assumption | omega) only [go_sem, ↓reduceIte, Nat.reduceEqDiff, reduceCtorEq, Nat.reduceAdd, Nat.reduceLeDiff, Nat.reduceLT, reduceIte, Int.reduceBEq, Int.reduceBNe, Int.reduceLT, Int.reduceLE, Int.reduceAdd, Int.reduceSub, Int.reduceMul, Int.reduceNeg, Int.reduceEq, Int.reduceNe, Nat.reduceMul, Nat.reduceSub]) ?_
    rintro _ _ ⟨rfl, hhh⟩
    rw [hhh]
    clear hhh
    rw [decide_eq_true rfl]
    simp (disch := first | assumption | omega) only [go_sem, ↓reduceIte, Nat.reduceEqDiff, reduceCtorEq, Nat.reduceAdd, Nat.reduceLeDiff, Nat.reduceLT, reduceIte, Int.reduceBEq, Int.reduceBNe, Int.reduceLT, Int.reduceLE, Int.reduceAdd, Int.reduceSub, Int.reduceMul, Int.reduceNeg, Int.reduceEq, Int.reduceNe, Nat.reduceMul, Nat.reduceSub]
    refine callG_ok (Whole_ok .sh B (.inl rfl) hBu (by omega) _) (by simp (disch := first | assumption | omega) only [go_sem, ↓reduceIte, Nat.reduceEqDiff, reduceCtorEq, Nat.reduceAdd, Nat.reduceLeDiff, Nat.reduceLT, reduceIte, Int.reduceBEq, Int.reduceBNe, Int.reduceLT, Int.reduceLE, Int.reduceAdd, Int.reduceSub, Int.reduceMul, Int.reduceNeg, Int.reduceEq, Int.reduceNe, Nat.reduceMul, Nat.reduceSub]) ?_
    rintro _ _ ⟨⟨rs4, rfl, hS4⟩, hhh⟩
    rw [hhh]
    clear hhh
    obtain rfl := hIS.unique hS4
    rw [hB, decide_eq_true rfl]
    simp (disch := first | assumption | omega) only [go_sem, ↓reduceIte, Nat.reduceEqDiff, reduceCtorEq, Nat.reduceAdd, Nat.reduceLeDiff, Nat.reduceLT, reduceIte, Int.reduceBEq, Int.reduceBNe, Int.reduceLT, Int.reduceLE, Int.reduceAdd, Int.reduceSub, Int.reduceMul, Int.reduceNeg, Int.reduceEq, Int.reduceNe, Nat.reduceMul, Nat.reduceSub]
    subst hQ
    simp (disch := first | assumption | omega) only [R.gantkeep5_LogGoes, go_sem, ↓reduceIte, Nat.reduceEqDiff, reduceCtorEq, Nat.reduceAdd, Nat.reduceLeDiff, Nat.reduceLT, reduceIte, Int.reduceBEq, Int.reduceBNe, Int.reduceLT, Int.reduceLE, Int.reduceAdd, Int.reduceSub, Int.reduceMul, Int.reduceNeg, Int.reduceEq, Int.reduceNe, Nat.reduceMul, Nat.reduceSub]
end Go.Proofs.Ytpdajkbfemcdlaa
