import Derived.Test.YtpdajkbfemcdlaaGeSet
import Derived.Test.YtpdajkbfemcdlaaZA1
/- Logs as lists of numbers; sums that differ. -/
set_option linter.unusedSimpArgs false
set_option linter.unusedVariables false
namespace Go.Proofs.Ytpdajkbfemcdlaa
open Go.Ge
/-! ### Sums -/
/-! ### Bytes of numbers -/
theorem be2 (n : Int) : beBytes n 2 = [n / 256 % 256, n % 256] := by simp [beBytes]
theorem be4 (n : Int) : beBytes n 4 = [n / 256 / 256 / 256 % 256, n / 256 / 256 % 256, n / 256 % 256, n % 256] := by simp [beBytes]
theorem be2_inj {m n : Int} (h0 : 0 ≤ m) (h1 : m < 65536) (k0 : 0 ≤ n) (k1 : n < 65536) (h : beBytes m 2 = beBytes n 2) : m = n := by
  rw [be2, be2] at h
  simp only [List.cons.injEq, and_true] at h
  omega
theorem beBytes_u8 (n : Int) : ∀ (m : Nat), ∀ x ∈ beBytes n m, inU8 x := by
  intro m
  induction m generalizing n with
  | zero => simp [beBytes]
  | succ m ih =>
    intro x hx
    simp only [beBytes, List.mem_append, List.mem_singleton] at hx
    rcases hx with hx | rfl
    · exact ih _ x hx
    · unfold inU8; omega
/-! ### Logs -/
def four (n : Int) : List Int := beBytes n 4
theorem four_length (n : Int) : (four n).length = 4 := beBytes_length n 4
def logSum (last : Int) (r : List Int) : Int := iv (crc (four last ++ (beBytes r.length 2 ++ r)))
theorem logSum_bd (last : Int) (r : List Int) : 0 ≤ logSum last r ∧ logSum last r < 4294967296 := iv_bd _
def recB (last : Int) (r : List Int) : List Int := beBytes r.length 2 ++ r ++ four (logSum last r)
theorem recB_length (last : Int) (r : List Int) : (recB last r).length = 6 + r.length := by
  simp [recB, beBytes_length, four_length]; omega
def book : Int → List (List Int) → List Int
  | _, [] => []
  | last, r :: rs => recB last r ++ book (logSum last r) rs
def lastOf : Int → List (List Int) → Int
  | last, [] => last
  | last, r :: rs => lastOf (logSum last r) rs
theorem book_append : ∀ (last : Int) (a b : List (List Int)), book last (a ++ b) = book last a ++ book (lastOf last a) b
  | _, [], _ => rfl
  | last, r :: a, b => by simp [book, lastOf, book_append (logSum last r) a b]
theorem lastOf_append : ∀ (last : Int) (a b : List (List Int)), lastOf last (a ++ b) = lastOf (lastOf last a) b
  | _, [], _ => rfl
  | last, r :: a, b => by simp [lastOf, lastOf_append (logSum last r) a b]
theorem book_snoc (last : Int) (a : List (List Int)) (r : List Int) : book last (a ++ [r]) = book last a ++ recB (lastOf last a) r := by
  rw [book_append]; simp [book]
theorem lastOf_snoc (last : Int) (a : List (List Int)) (r : List Int) : lastOf last (a ++ [r]) = logSum (lastOf last a) r := by
  rw [lastOf_append]; rfl
theorem lastOf_bd : ∀ (last : Int) (a : List (List Int)), 0 ≤ last → last < 4294967296 → 0 ≤ lastOf last a ∧ lastOf last a < 4294967296
  | _, [], h0, h1 => ⟨h0, h1⟩
  | last, r :: a, _, _ => lastOf_bd _ a (logSum_bd last r).1 (logSum_bd last r).2
def sizeOf' (rs : List (List Int)) : Nat := (rs.map fun r => 6 + r.length).sum
theorem book_length : ∀ (last : Int) (rs : List (List Int)), (book last rs).length = sizeOf' rs
  | _, [] => rfl
  | last, r :: rs => by simp [book, sizeOf', recB_length, book_length]
theorem recB_u8 {last : Int} {r : List Int} (h : ∀ x ∈ r, inU8 x) : ∀ x ∈ recB last r, inU8 x := by
  intro x hx
  simp only [recB, four, List.mem_append] at hx
  rcases hx with (hx | hx) | hx
  · exact beBytes_u8 _ _ x hx
  · exact h x hx
  · exact beBytes_u8 _ _ x hx
theorem book_u8 : ∀ (last : Int) (rs : List (List Int)), (∀ r ∈ rs, ∀ x ∈ r, inU8 x) → ∀ x ∈ book last rs, inU8 x
  | _, [], _ => by simp [book]
  | last, r :: rs, h => by
    intro x hx
    simp only [book, List.mem_append] at hx
    rcases hx with hx | hx
    · exact recB_u8 (h r (by simp)) x hx
    · exact book_u8 _ rs (fun r hr => h r (by simp [hr])) x hx
/-- Bytes that begin with a record tell which. -/
theorem recB_prefix {last : Int} {r z : List Int} (h : recB last r <+: z) : z.take 2 = beBytes r.length 2 ∧ (z.drop 2).take r.length = r ∧ (z.drop (2 + r.length)).take 4 = four (logSum last r) ∧ 6 + r.length ≤ z.length := by
  obtain ⟨t, rfl⟩ := h
  have hl : (beBytes (r.length : Int) 2).length = 2 := beBytes_length _ _
  simp only [recB, List.append_assoc]
  refine ⟨?_, ?_, ?_, ?_⟩
  · rw [List.take_append_of_le_length (by omega)]; exact List.take_of_length_le (by omega)
  · rw [List.drop_append_of_le_length (by omega), List.drop_of_length_le (by omega), List.nil_append]
    simp
  · rw [List.drop_append, List.drop_of_length_le (by omega), List.nil_append, hl]
    rw [show 2 + r.length - 2 = r.length from by omega, List.drop_append_of_le_length (by omega), List.drop_length, List.nil_append]
    rw [List.take_append_of_le_length (by rw [four_length]; omega)]
    exact List.take_of_length_le (by rw [four_length]; omega)
  · simp [hl, four_length]; omega
theorem recB_of {last : Int} {z : List Int} {n : Nat} (h1 : z.take 2 = beBytes n 2) (hn : n < 65536) (hz : 6 + n ≤ z.length) (hs : (z.drop (2 + n)).take 4 = four (logSum last ((z.drop 2).take n))) :
    recB last ((z.drop 2).take n) <+: z := by
  have hl : ((z.drop 2).take n).length = n := by simp; omega
  refine ⟨z.drop (6 + n), ?_⟩
  have e1 : recB last ((z.drop 2).take n) = z.take 2 ++ (z.drop 2).take n ++ (z.drop (2 + n)).take 4 := by
    unfold recB; rw [hl, h1, hs]
  rw [e1]
  have e2 : z.drop (2 + n) = (z.drop 2).drop n := by rw [List.drop_drop]
  have e3 : z.drop (6 + n) = ((z.drop 2).drop n).drop 4 := by rw [List.drop_drop, List.drop_drop]; congr 1; omega
  rw [e2, e3]
  simp only [List.append_assoc, List.take_append_drop]
theorem recB_unique {l : Int} {r r' z : List Int} (h : recB l r <+: z) (h' : recB l r' <+: z) (hr : r.length < 65536) (hr' : r'.length < 65536) : r = r' := by
  obtain ⟨a1, a2, _⟩ := recB_prefix h
  obtain ⟨b1, b2, _⟩ := recB_prefix h'
  have : (r.length : Int) = r'.length := be2_inj (by omega) (by omega) (by omega) (by omega) (a1.symm.trans b1)
  have e : r.length = r'.length := by omega
  rw [← a2, ← b2, e]
theorem prefix_cases : ∀ (rs rs' : List (List Int)) (l : Int) (z : List Int), (∀ r ∈ rs, r.length < 65536) → (∀ r ∈ rs', r.length < 65536) → book l rs <+: z → book l rs' <+: z → rs <+: rs' ∨ rs' <+: rs
  | [], rs', _, _, _, _, _, _ => .inl (List.nil_prefix)
  | rs, [], _, _, _, _, _, _ => .inr (List.nil_prefix)
  | r :: rs, r' :: rs', l, z, h1, h2, k1, k2 => by
    simp only [book] at k1 k2
    have q1 : recB l r <+: z := (List.prefix_append _ _).trans k1
    have q2 : recB l r' <+: z := (List.prefix_append _ _).trans k2
    obtain rfl := recB_unique q1 q2 (h1 r (by simp)) (h2 r' (by simp))
    obtain ⟨t, rfl⟩ := q1
    rw [List.prefix_append_right_inj] at k1 k2
    rcases prefix_cases rs rs' _ t (fun r hr => h1 r (by simp [hr])) (fun r hr => h2 r (by simp [hr])) k1 k2 with h | h
    · exact .inl ((List.cons_prefix_cons).2 ⟨rfl, h⟩)
    · exact .inr ((List.cons_prefix_cons).2 ⟨rfl, h⟩)
/-- The records that bytes begin with, all of them. -/
structure IsScan (b : List Int) (rs : List (List Int)) : Prop where
  short : ∀ r ∈ rs, r.length ≤ 2000
  pre : book 0 rs <+: b
  max : ∀ r : List Int, r.length ≤ 2000 → ¬ book 0 (rs ++ [r]) <+: b
theorem IsScan.unique {b : List Int} {rs rs' : List (List Int)} (h : IsScan b rs) (h' : IsScan b rs') : rs = rs' := by
  have key : ∀ {rs rs' : List (List Int)}, IsScan b rs → IsScan b rs' → rs <+: rs' → rs = rs' := by
    rintro rs rs' h h' ⟨t, rfl⟩
    cases t with
    | nil => simp
    | cons r t =>
      exfalso
      refine h.max r (h'.short r (by simp)) ?_
      refine List.IsPrefix.trans ?_ h'.pre
      have e : book 0 (rs ++ r :: t) = book 0 (rs ++ [r]) ++ book (lastOf 0 (rs ++ [r])) t := by rw [← book_append]; simp
      rw [e]
      exact List.prefix_append _ _
  rcases prefix_cases rs rs' 0 b (fun r hr => by have := h.short r hr; omega) (fun r hr => by have := h'.short r hr; omega) h.pre h'.pre with hp | hp
  · exact key h h' hp
  · exact (key h' h hp).symm
theorem IsScan.book {rs : List (List Int)} (h : ∀ r ∈ rs, r.length ≤ 2000) : IsScan (book 0 rs) rs := by
  refine ⟨h, List.prefix_refl _, fun r _ hp => ?_⟩
  have := hp.length_le
  rw [book_snoc, List.length_append, recB_length] at this
  omega
/-- What begins with a log's beginning begins with some of its records. -/
theorem IsScan.cut {b : List Int} {rs rs' : List (List Int)} (h : IsScan b rs) (hb : b <+: Go.Proofs.Ytpdajkbfemcdlaa.book 0 rs') (h' : ∀ r ∈ rs', r.length ≤ 2000) : rs <+: rs' := by
  rcases prefix_cases rs rs' 0 (Go.Proofs.Ytpdajkbfemcdlaa.book 0 rs') (fun r hr => by have := h.short r hr; omega) (fun r hr => by have := h' r hr; omega) (h.pre.trans hb) (List.prefix_refl _) with hp | hp
  · exact hp
  · obtain ⟨t, rfl⟩ := hp
    cases t with
    | nil => simp
    | cons r t =>
      exfalso
      have := (h.pre.trans hb).length_le
      rw [book_append] at this
      simp only [Go.Proofs.Ytpdajkbfemcdlaa.book, List.length_append, recB_length] at this
      omega
theorem IsScan.u8 {b : List Int} {rs : List (List Int)} (h : IsScan b rs) (hb : ∀ x ∈ b, inU8 x) : ∀ r ∈ rs, ∀ x ∈ r, inU8 x := by
  have key : ∀ (l : Int) (rs : List (List Int)) (b : List Int), Go.Proofs.Ytpdajkbfemcdlaa.book l rs <+: b → (∀ x ∈ b, inU8 x) → ∀ r ∈ rs, ∀ x ∈ r, inU8 x := by
    intro l rs
    induction rs generalizing l with
    | nil => intro b _ _ r hr; cases hr
    | cons r rs ih =>
      intro b hp hb r' hr' x hx
      simp only [Go.Proofs.Ytpdajkbfemcdlaa.book] at hp
      obtain ⟨t, rfl⟩ := hp
      rcases List.mem_cons.1 hr' with rfl | hr'
      · exact hb x (by simp [recB, hx])
      · exact ih _ (Go.Proofs.Ytpdajkbfemcdlaa.book (logSum l r) rs) (List.prefix_refl _) (fun y hy => hb y (by simp [hy])) r' hr' x hx
  exact key 0 rs b h.pre hb
end Go.Proofs.Ytpdajkbfemcdlaa
/- Contracts: bytes joined, compared; records. -/
set_option linter.unusedSimpArgs false
set_option linter.unusedVariables false
set_option maxRecDepth 10000
namespace Go.Proofs.Ytpdajkbfemcdlaa
open Go.Ge
/-- What a slice, held to be read or to append, is to a reader. -/
theorem own_rd {q : Own} (xs : List AVal) (h : q = .nil ∨ q = .sh ∨ ∃ z, q = .app z) : ∃ q', Rdo q' ∧ (q' = .nil → q = .nil) ∧ rdv (.lst q xs) = .lst q' xs ∧ rd1 (.lst q xs) = .lst q' xs ∧ Ge.rdc (.lst q xs) = .lst q' xs := by
  rcases h with rfl | rfl | ⟨z, rfl⟩
  · exact ⟨.nil, .inr rfl, fun _ => rfl, rfl, rfl, rfl⟩
  · exact ⟨.sh, .inl rfl, (fun e => by cases e), rfl, rfl, rfl⟩
  · exact ⟨.sh, .inl rfl, (fun e => by cases e), rfl, rfl, rfl⟩
theorem Grow_byte_ok (n : Nat) (hn : n ≤ 140737488355328) (h : List HObj) :
    ACalls Try.prog F.slices_Grow_byte [.lst .nil [], .int .i64 n] h (fun r h' => (r = .lst .nil [] ∧ n = 0 ∨ ∃ cap, r = .lst (.uniq 1 cap) []) ∧ h' = h) := by
  refine ACalls.gcn (ACalls.of_aw Try.func160 K.slices_Grow_byte (by simp [Try.f160]) ?_)
  generalize hQ : retQ R.slices_Grow_byte _ = Q
  simp (disch := first | assumption | omega) only [C.slices_Grow_byte, go_sem, ↓reduceIte, Nat.reduceEqDiff, reduceCtorEq, Nat.reduceAdd, Nat.reduceLeDiff, Nat.reduceLT, reduceIte, Int.reduceBEq, Int.reduceBNe, Int.reduceLT, Int.reduceLE, Int.reduceAdd, Int.reduceSub, Int.reduceMul, Int.reduceNeg, Int.reduceEq, Int.reduceNe, Nat.reduceMul, Nat.reduceSub]
  have h0 : ¬ ((n : Int) < 0) := by omega
  simp (disch := first | assumption | omega) only [h0, go_sem, ↓reduceIte, Nat.reduceEqDiff, reduceCtorEq, Nat.reduceAdd, Nat.reduceLeDiff, Nat.reduceLT, reduceIte, Int.reduceBEq, Int.reduceBNe, Int.reduceLT, Int.reduceLE, Int.reduceAdd, Int.reduceSub, Int.reduceMul, Int.reduceNeg, Int.reduceEq, Int.reduceNe, Nat.reduceMul, Nat.reduceSub]
  refine condG_if (fun hgt => ?_) fun hle => ?_
  · have hn0 : ¬ (n : Int) = 0 := by omega
    simp (disch := first | assumption | omega) only [hn0, go_sem, ↓reduceIte, Nat.reduceEqDiff, reduceCtorEq, Nat.reduceAdd, Nat.reduceLeDiff, Nat.reduceLT, reduceIte, Int.reduceBEq, Int.reduceBNe, Int.reduceLT, Int.reduceLE, Int.reduceAdd, Int.reduceSub, Int.reduceMul, Int.reduceNeg, Int.reduceEq, Int.reduceNe, Nat.reduceMul, Nat.reduceSub]
    refine ⟨by omega, by omega, fun _ cap hc => ?_⟩
    refine own_empty (id := h.length) (off := 0) (cap := cap) (by simp (disch := first | assumption | omega) only [go_sem, ↓reduceIte, Nat.reduceEqDiff, reduceCtorEq, Nat.reduceAdd, Nat.reduceLeDiff, Nat.reduceLT, reduceIte, Int.reduceBEq, Int.reduceBNe, Int.reduceLT, Int.reduceLE, Int.reduceAdd, Int.reduceSub, Int.reduceMul, Int.reduceNeg, Int.reduceEq, Int.reduceNe, Nat.reduceMul, Nat.reduceSub]) (fun _ => ⟨List.replicate (cap * 1) .junk, by simp (disch := first | assumption | omega) only [go_sem, ↓reduceIte, Nat.reduceEqDiff, reduceCtorEq, Nat.reduceAdd, Nat.reduceLeDiff, Nat.reduceLT, reduceIte, Int.reduceBEq, Int.reduceBNe, Int.reduceLT, Int.reduceLE, Int.reduceAdd, Int.reduceSub, Int.reduceMul, Int.reduceNeg, Int.reduceEq, Int.reduceNe, Nat.reduceMul, Nat.reduceSub], by simp⟩) (fun _ => rfl) (by omega) ?_
    rintro hp hhp
    simp (disch := first | assumption | omega) only [go_sem, ↓reduceIte, Nat.reduceEqDiff, reduceCtorEq, Nat.reduceAdd, Nat.reduceLeDiff, Nat.reduceLT, reduceIte, Int.reduceBEq, Int.reduceBNe, Int.reduceLT, Int.reduceLE, Int.reduceAdd, Int.reduceSub, Int.reduceMul, Int.reduceNeg, Int.reduceEq, Int.reduceNe, Nat.reduceMul, Nat.reduceSub]
    subst hQ
    simp (disch := first | assumption | omega) only [R.slices_Grow_byte, go_sem, ↓reduceIte, Nat.reduceEqDiff, reduceCtorEq, Nat.reduceAdd, Nat.reduceLeDiff, Nat.reduceLT, reduceIte, Int.reduceBEq, Int.reduceBNe, Int.reduceLT, Int.reduceLE, Int.reduceAdd, Int.reduceSub, Int.reduceMul, Int.reduceNeg, Int.reduceEq, Int.reduceNe, Nat.reduceMul, Nat.reduceSub]
    rcases hhp with ⟨rfl, _⟩ | ⟨rfl, _⟩
    · exact ⟨[.cells (List.replicate (cap * 1) .junk)], by simp (disch := first | assumption | omega) only [go_sem, ↓reduceIte, Nat.reduceEqDiff, reduceCtorEq, Nat.reduceAdd, Nat.reduceLeDiff, Nat.reduceLT, reduceIte, Int.reduceBEq, Int.reduceBNe, Int.reduceLT, Int.reduceLE, Int.reduceAdd, Int.reduceSub, Int.reduceMul, Int.reduceNeg, Int.reduceEq, Int.reduceNe, Nat.reduceMul, Nat.reduceSub], by simp [AVal.ids, idsL], .inr ⟨cap, rfl⟩⟩
    · exact ⟨[.dead], by simp (disch := first | assumption | omega) only [go_sem, ↓reduceIte, Nat.reduceEqDiff, reduceCtorEq, Nat.reduceAdd, Nat.reduceLeDiff, Nat.reduceLT, reduceIte, Int.reduceBEq, Int.reduceBNe, Int.reduceLT, Int.reduceLE, Int.reduceAdd, Int.reduceSub, Int.reduceMul, Int.reduceNeg, Int.reduceEq, Int.reduceNe, Nat.reduceMul, Nat.reduceSub], by simp [AVal.ids, idsL], .inr ⟨cap, rfl⟩⟩
  · simp (disch := first | assumption | omega) only [go_sem, ↓reduceIte, Nat.reduceEqDiff, reduceCtorEq, Nat.reduceAdd, Nat.reduceLeDiff, Nat.reduceLT, reduceIte, Int.reduceBEq, Int.reduceBNe, Int.reduceLT, Int.reduceLE, Int.reduceAdd, Int.reduceSub, Int.reduceMul, Int.reduceNeg, Int.reduceEq, Int.reduceNe, Nat.reduceMul, Nat.reduceSub]
    refine own_nil (xs := []) (by simp (disch := first | assumption | omega) only [go_sem, ↓reduceIte, Nat.reduceEqDiff, reduceCtorEq, Nat.reduceAdd, Nat.reduceLeDiff, Nat.reduceLT, reduceIte, Int.reduceBEq, Int.reduceBNe, Int.reduceLT, Int.reduceLE, Int.reduceAdd, Int.reduceSub, Int.reduceMul, Int.reduceNeg, Int.reduceEq, Int.reduceNe, Nat.reduceMul, Nat.reduceSub]) ?_
    simp (disch := first | assumption | omega) only [go_sem, ↓reduceIte, Nat.reduceEqDiff, reduceCtorEq, Nat.reduceAdd, Nat.reduceLeDiff, Nat.reduceLT, reduceIte, Int.reduceBEq, Int.reduceBNe, Int.reduceLT, Int.reduceLE, Int.reduceAdd, Int.reduceSub, Int.reduceMul, Int.reduceNeg, Int.reduceEq, Int.reduceNe, Nat.reduceMul, Nat.reduceSub]
    subst hQ
    simp (disch := first | assumption | omega) only [R.slices_Grow_byte, go_sem, ↓reduceIte, Nat.reduceEqDiff, reduceCtorEq, Nat.reduceAdd, Nat.reduceLeDiff, Nat.reduceLT, reduceIte, Int.reduceBEq, Int.reduceBNe, Int.reduceLT, Int.reduceLE, Int.reduceAdd, Int.reduceSub, Int.reduceMul, Int.reduceNeg, Int.reduceEq, Int.reduceNe, Nat.reduceMul, Nat.reduceSub]
    exact ⟨[], by simp, by simp [AVal.ids, idsL], .inl (by omega)⟩
def lenSum (L : List (List Int)) : Nat := (L.map List.length).sum
theorem lenSum_take {L : List (List Int)} {i : Nat} (h : i < L.length) : lenSum (L.take (i + 1)) = lenSum (L.take i) + L[i].length := by
  unfold lenSum; rw [List.take_add_one, List.getElem?_eq_getElem h, List.map_append, List.sum_append]; rfl
theorem lenSum_le {L : List (List Int)} {i : Nat} : lenSum (L.take i) ≤ lenSum L := by
  have := congrArg lenSum (List.take_append_drop i L)
  unfold lenSum at *
  rw [List.map_append, List.sum_append] at this
  omega
theorem lenSum_flat (L : List (List Int)) : L.flatten.length = lenSum L := by simp [lenSum, List.length_flatten]
theorem Concat_byte_ok (o : Own) (L : List (List Int)) (xs : List AVal) (ho : Rdo o) (hx : Each2 RecOk L xs) (hne : 0 < L.length) (hl : L.length ≤ 140737488355328) (hb : lenSum L ≤ 140737488355328) (h : List HObj) :
    ACalls Try.prog F.slices_Concat_byte [.lst o xs] h (fun r h' => r = .lst (.app 1) (ints .u8 L.flatten) ∧ h' = h) := by
  have lx := hx.length
  refine ACalls.of_aw Try.func79 K.slices_Concat_byte (by simp [Try.f79]) ?_
  generalize hQ : retQ R.slices_Concat_byte _ = Q
  simp (disch := first | assumption | omega) only [C.slices_Concat_byte, go_sem, ↓reduceIte, Nat.reduceEqDiff, reduceCtorEq, Nat.reduceAdd, Nat.reduceLeDiff, Nat.reduceLT, reduceIte, Int.reduceBEq, Int.reduceBNe, Int.reduceLT, Int.reduceLE, Int.reduceAdd, Int.reduceSub, Int.reduceMul, Int.reduceNeg, Int.reduceEq, Int.reduceNe, Nat.reduceMul, Nat.reduceSub]
  refine aw_count (fun d S => ∃ (i : Nat), i + d = L.length ∧ S.env 11 = .int .i64 i ∧ S.env 10 = .int .i64 L.length ∧ S.env 9 = .lst o xs ∧ S.env 0 = .lst o xs ∧ S.env 3 = .int .i64 (lenSum (L.take i)) ∧ S.heap = h) (n := L.length) ⟨0, by simp [go_sem, lenSum, lx, rdv_o ho]⟩ ?_
  rintro d S ⟨i, hi, e11, e10, e9, e0, e3, eh⟩
  simp (disch := first | assumption | omega) only [e11, e10, e9, e0, e3, eh, go_sem, ↓reduceIte, Nat.reduceEqDiff, reduceCtorEq, Nat.reduceAdd, Nat.reduceLeDiff, Nat.reduceLT, reduceIte, Int.reduceBEq, Int.reduceBNe, Int.reduceLT, Int.reduceLE, Int.reduceAdd, Int.reduceSub, Int.reduceMul, Int.reduceNeg, Int.reduceEq, Int.reduceNe, Nat.reduceMul, Nat.reduceSub]
  have hle := @lenSum_le L i
  refine condG_if (fun hlt => ?_) fun hge => ?_
  · have hlt1 : i < L.length := by omega
    have hlt2 : i < xs.length := by omega
    have hs := lenSum_take hlt1
    have hle2 := @lenSum_le L (i + 1)
    obtain ⟨q, hq, hxi⟩ := hx.at i hlt1
    have hq1 := hq.1
    simp (disch := first | assumption | omega) only [e11, e10, e9, e0, e3, eh, hlt2, hxi, go_sem, ↓reduceIte, Nat.reduceEqDiff, reduceCtorEq, Nat.reduceAdd, Nat.reduceLeDiff, Nat.reduceLT, reduceIte, Int.reduceBEq, Int.reduceBNe, Int.reduceLT, Int.reduceLE, Int.reduceAdd, Int.reduceSub, Int.reduceMul, Int.reduceNeg, Int.reduceEq, Int.reduceNe, Nat.reduceMul, Nat.reduceSub]
    have h0 : ¬ ((lenSum (L.take i) : Int) + (L[i].length : Int) < 0) := by omega
    simp (disch := first | assumption | omega) only [e11, e10, e9, e0, e3, eh, h0, go_sem, ↓reduceIte, Nat.reduceEqDiff, reduceCtorEq, Nat.reduceAdd, Nat.reduceLeDiff, Nat.reduceLT, reduceIte, Int.reduceBEq, Int.reduceBNe, Int.reduceLT, Int.reduceLE, Int.reduceAdd, Int.reduceSub, Int.reduceMul, Int.reduceNeg, Int.reduceEq, Int.reduceNe, Nat.reduceMul, Nat.reduceSub]
    exact ⟨d - 1, by omega, i + 1, by omega, by simp, by rw [hs]; simp⟩
  · obtain rfl : i = L.length := by omega
    rw [List.take_length] at e3
    simp (disch := first | assumption | omega) only [e11, e10, e9, e0, e3, eh, go_sem, ↓reduceIte, Nat.reduceEqDiff, reduceCtorEq, Nat.reduceAdd, Nat.reduceLeDiff, Nat.reduceLT, reduceIte, Int.reduceBEq, Int.reduceBNe, Int.reduceLT, Int.reduceLE, Int.reduceAdd, Int.reduceSub, Int.reduceMul, Int.reduceNeg, Int.reduceEq, Int.reduceNe, Nat.reduceMul, Nat.reduceSub]
    refine callG_ok (Grow_byte_ok (lenSum L) hb _) (by simp (disch := first | assumption | omega) only [go_sem, ↓reduceIte, Nat.reduceEqDiff, reduceCtorEq, Nat.reduceAdd, Nat.reduceLeDiff, Nat.reduceLT, reduceIte, Int.reduceBEq, Int.reduceBNe, Int.reduceLT, Int.reduceLE, Int.reduceAdd, Int.reduceSub, Int.reduceMul, Int.reduceNeg, Int.reduceEq, Int.reduceNe, Nat.reduceMul, Nat.reduceSub]) ?_
    rintro r _ ⟨hr, hhh⟩
    rw [hhh]
    clear hhh
    have hr' : ∃ q, r = .lst q [] ∧ (q = .nil ∨ (∃ c, q = .uniq 1 c) ∨ q = .app 1) := by
      rcases hr with ⟨rfl, _⟩ | ⟨c, rfl⟩
      · exact ⟨_, rfl, .inl rfl⟩
      · exact ⟨_, rfl, .inr (.inl ⟨c, rfl⟩)⟩
    obtain ⟨q, rfl, hq⟩ := hr'
    have rt : remV (.lst q []) = remV (.lst q []) := rfl
    simp (disch := first | assumption | omega) only [e11, e10, e9, e0, e3, eh, go_sem, ↓reduceIte, Nat.reduceEqDiff, reduceCtorEq, Nat.reduceAdd, Nat.reduceLeDiff, Nat.reduceLT, reduceIte, Int.reduceBEq, Int.reduceBNe, Int.reduceLT, Int.reduceLE, Int.reduceAdd, Int.reduceSub, Int.reduceMul, Int.reduceNeg, Int.reduceEq, Int.reduceNe, Nat.reduceMul, Nat.reduceSub]
    refine aw_count (fun d S => ∃ (i : Nat) (q : Own), i + d = L.length ∧ S.env 27 = .int .i64 i ∧ S.env 26 = .int .i64 L.length ∧ S.env 25 = .lst o xs ∧ S.env 6 = .lst q (ints .u8 (L.take i).flatten) ∧ (q = .nil ∧ i = 0 ∨ (∃ c, q = .uniq 1 c) ∧ i = 0 ∨ q = .app 1) ∧ S.heap = h) (n := L.length) ?_ ?_
    · refine ⟨0, q, by omega, ?_⟩
      simp (disch := first | assumption | omega) only [e11, e10, e9, e0, e3, eh, lx, List.flatten_nil, ints_nil, go_sem, ↓reduceIte, Nat.reduceEqDiff, reduceCtorEq, Nat.reduceAdd, Nat.reduceLeDiff, Nat.reduceLT, reduceIte, Int.reduceBEq, Int.reduceBNe, Int.reduceLT, Int.reduceLE, Int.reduceAdd, Int.reduceSub, Int.reduceMul, Int.reduceNeg, Int.reduceEq, Int.reduceNe, Nat.reduceMul, Nat.reduceSub]
      rcases hq with rfl | ⟨c, rfl⟩ | rfl <;> simp
    clear e11 e10 e9 e0 e3 eh hq rt
    rintro d S ⟨i, q, hi, e27, e26, e25, e6, hq, eh⟩
    simp (disch := first | assumption | omega) only [e27, e26, e25, e6, eh, go_sem, ↓reduceIte, Nat.reduceEqDiff, reduceCtorEq, Nat.reduceAdd, Nat.reduceLeDiff, Nat.reduceLT, reduceIte, Int.reduceBEq, Int.reduceBNe, Int.reduceLT, Int.reduceLE, Int.reduceAdd, Int.reduceSub, Int.reduceMul, Int.reduceNeg, Int.reduceEq, Int.reduceNe, Nat.reduceMul, Nat.reduceSub]
    have hle := @lenSum_le L i
    refine condG_if (fun hlt => ?_) fun hge => ?_
    · have hlt1 : i < L.length := by omega
      have hlt2 : i < xs.length := by omega
      have hs := lenSum_take hlt1
      have hle2 := @lenSum_le L (i + 1)
      have hfl := lenSum_flat (L.take i)
      obtain ⟨p, hp, hxi⟩ := hx.at i hlt1
      have hp1 := hp.1
      have hst : (L.take (i + 1)).flatten = (L.take i).flatten ++ L[i] := by
        rw [List.take_add_one, List.getElem?_eq_getElem hlt1, List.flatten_append]; simp only [Option.toList, List.flatten_cons, List.flatten_nil, List.append_nil]
      rcases hq with ⟨rfl, h0⟩ | ⟨⟨c, rfl⟩, h0⟩ | rfl
      · simp (disch := first | assumption | omega) only [e27, e26, e25, e6, eh, hlt2, hxi, go_sem, ↓reduceIte, Nat.reduceEqDiff, reduceCtorEq, Nat.reduceAdd, Nat.reduceLeDiff, Nat.reduceLT, reduceIte, Int.reduceBEq, Int.reduceBNe, Int.reduceLT, Int.reduceLE, Int.reduceAdd, Int.reduceSub, Int.reduceMul, Int.reduceNeg, Int.reduceEq, Int.reduceNe, Nat.reduceMul, Nat.reduceSub]
        exact ⟨by rw [h0]; rfl, ints_width _, by omega, by omega, d - 1, by omega, i + 1, .app 1, by omega, by simp, by rw [hst, ints_append], .inr (.inr rfl)⟩
      · simp (disch := first | assumption | omega) only [e27, e26, e25, e6, eh, hlt2, hxi, go_sem, ↓reduceIte, Nat.reduceEqDiff, reduceCtorEq, Nat.reduceAdd, Nat.reduceLeDiff, Nat.reduceLT, reduceIte, Int.reduceBEq, Int.reduceBNe, Int.reduceLT, Int.reduceLE, Int.reduceAdd, Int.reduceSub, Int.reduceMul, Int.reduceNeg, Int.reduceEq, Int.reduceNe, Nat.reduceMul, Nat.reduceSub]
        exact ⟨ints_width _, by omega, by omega, d - 1, by omega, i + 1, .app 1, by omega, by simp, by rw [hst, ints_append], .inr (.inr rfl)⟩
      · simp (disch := first | assumption | omega) only [e27, e26, e25, e6, eh, hlt2, hxi, go_sem, ↓reduceIte, Nat.reduceEqDiff, reduceCtorEq, Nat.reduceAdd, Nat.reduceLeDiff, Nat.reduceLT, reduceIte, Int.reduceBEq, Int.reduceBNe, Int.reduceLT, Int.reduceLE, Int.reduceAdd, Int.reduceSub, Int.reduceMul, Int.reduceNeg, Int.reduceEq, Int.reduceNe, Nat.reduceMul, Nat.reduceSub]
        exact ⟨ints_width _, by omega, by omega, d - 1, by omega, i + 1, .app 1, by omega, by simp, by rw [hst, ints_append], .inr (.inr rfl)⟩
    · obtain rfl : i = L.length := by omega
      rw [List.take_length] at e6
      rcases hq with ⟨rfl, h0⟩ | ⟨⟨c, rfl⟩, h0⟩ | rfl
      · omega
      · omega
      · simp (disch := first | assumption | omega) only [e27, e26, e25, e6, eh, go_sem, ↓reduceIte, Nat.reduceEqDiff, reduceCtorEq, Nat.reduceAdd, Nat.reduceLeDiff, Nat.reduceLT, reduceIte, Int.reduceBEq, Int.reduceBNe, Int.reduceLT, Int.reduceLE, Int.reduceAdd, Int.reduceSub, Int.reduceMul, Int.reduceNeg, Int.reduceEq, Int.reduceNe, Nat.reduceMul, Nat.reduceSub]
        subst hQ
        simp (disch := first | assumption | omega) only [R.slices_Concat_byte, e27, e26, e25, e6, eh, go_sem, ↓reduceIte, Nat.reduceEqDiff, reduceCtorEq, Nat.reduceAdd, Nat.reduceLeDiff, Nat.reduceLT, reduceIte, Int.reduceBEq, Int.reduceBNe, Int.reduceLT, Int.reduceLE, Int.reduceAdd, Int.reduceSub, Int.reduceMul, Int.reduceNeg, Int.reduceEq, Int.reduceNe, Nat.reduceMul, Nat.reduceSub]
end Go.Proofs.Ytpdajkbfemcdlaa
/- Contracts: bytes compared, copied; sums of records. -/
set_option linter.unusedSimpArgs false
set_option linter.unusedVariables false
set_option maxRecDepth 10000
namespace Go.Proofs.Ytpdajkbfemcdlaa
open Go.Ge
theorem EqualByte_ok (o1 o2 : Own) (a b : List Int) (h1 : Rdo o1) (h2 : Rdo o2) (hl : a.length < 4611686018427387904) (hl2 : b.length < 4611686018427387904) (h : List HObj) :
    ACalls Try.prog F.slices_Equal_byte [.lst o1 (ints .u8 a), .lst o2 (ints .u8 b)] h (fun r h' => r = .bool (decide (a = b)) ∧ h' = h) := by
  refine ACalls.of_aw Try.func65 K.slices_Equal_byte (by simp [Try.f65]) ?_
  generalize hQ : retQ R.slices_Equal_byte _ = Q
  simp (disch := first | assumption | omega) only [C.slices_Equal_byte, go_sem, ↓reduceIte, Nat.reduceEqDiff, reduceCtorEq, Nat.reduceAdd, Nat.reduceLeDiff, Nat.reduceLT, reduceIte, Int.reduceBEq, Int.reduceBNe, Int.reduceLT, Int.reduceLE, Int.reduceAdd, Int.reduceSub, Int.reduceMul, Int.reduceNeg, Int.reduceEq, Int.reduceNe, Nat.reduceMul, Nat.reduceSub]
  refine condG_ifn (fun hne => ?_) fun heq => ?_
  · simp (disch := first | assumption | omega) only [go_sem, ↓reduceIte, Nat.reduceEqDiff, reduceCtorEq, Nat.reduceAdd, Nat.reduceLeDiff, Nat.reduceLT, reduceIte, Int.reduceBEq, Int.reduceBNe, Int.reduceLT, Int.reduceLE, Int.reduceAdd, Int.reduceSub, Int.reduceMul, Int.reduceNeg, Int.reduceEq, Int.reduceNe, Nat.reduceMul, Nat.reduceSub]
    subst hQ
    simp (disch := first | assumption | omega) only [R.slices_Equal_byte, go_sem, ↓reduceIte, Nat.reduceEqDiff, reduceCtorEq, Nat.reduceAdd, Nat.reduceLeDiff, Nat.reduceLT, reduceIte, Int.reduceBEq, Int.reduceBNe, Int.reduceLT, Int.reduceLE, Int.reduceAdd, Int.reduceSub, Int.reduceMul, Int.reduceNeg, Int.reduceEq, Int.reduceNe, Nat.reduceMul, Nat.reduceSub]
    have : a ≠ b := by rintro rfl; omega
    simp [this]
  · have he : a.length = b.length := by omega
    simp (disch := first | assumption | omega) only [go_sem, ↓reduceIte, Nat.reduceEqDiff, reduceCtorEq, Nat.reduceAdd, Nat.reduceLeDiff, Nat.reduceLT, reduceIte, Int.reduceBEq, Int.reduceBNe, Int.reduceLT, Int.reduceLE, Int.reduceAdd, Int.reduceSub, Int.reduceMul, Int.reduceNeg, Int.reduceEq, Int.reduceNe, Nat.reduceMul, Nat.reduceSub]
    refine aw_count (fun d S => ∃ (i : Nat), i + d = a.length ∧ S.env 13 = .int .i64 i ∧ S.env 12 = .int .i64 a.length ∧ S.env 0 = .lst o1 (ints .u8 a) ∧ S.env 1 = .lst o2 (ints .u8 b) ∧ a.take i = b.take i ∧ S.heap = h) (n := a.length) ⟨0, by simp [go_sem]⟩ ?_
    rintro d S ⟨i, hi, e13, e12, e0, e1, ht, eh⟩
    simp (disch := first | assumption | omega) only [e13, e12, e0, e1, eh, go_sem, ↓reduceIte, Nat.reduceEqDiff, reduceCtorEq, Nat.reduceAdd, Nat.reduceLeDiff, Nat.reduceLT, reduceIte, Int.reduceBEq, Int.reduceBNe, Int.reduceLT, Int.reduceLE, Int.reduceAdd, Int.reduceSub, Int.reduceMul, Int.reduceNeg, Int.reduceEq, Int.reduceNe, Nat.reduceMul, Nat.reduceSub]
    refine condG_if (fun hlt => ?_) fun hge => ?_
    · have hlt1 : i < a.length := by omega
      have hlt2 : i < b.length := by omega
      have hat1 := at_ints' (k := .u8) a i hlt1
      have hat2 := at_ints' (k := .u8) b i hlt2
      rw [show a.getD i 0 = a[i] from by simp [List.getD_eq_getElem?_getD, hlt1]] at hat1
      rw [show b.getD i 0 = b[i] from by simp [List.getD_eq_getElem?_getD, hlt2]] at hat2
      simp (disch := first | assumption | omega) only [e13, e12, e0, e1, eh, hat1, hat2, hlt1, hlt2, go_sem, ↓reduceIte, Nat.reduceEqDiff, reduceCtorEq, Nat.reduceAdd, Nat.reduceLeDiff, Nat.reduceLT, reduceIte, Int.reduceBEq, Int.reduceBNe, Int.reduceLT, Int.reduceLE, Int.reduceAdd, Int.reduceSub, Int.reduceMul, Int.reduceNeg, Int.reduceEq, Int.reduceNe, Nat.reduceMul, Nat.reduceSub]
      refine condG_ifn (fun hb => ?_) fun hb => ?_
      · simp (disch := first | assumption | omega) only [e13, e12, e0, e1, eh, go_sem, ↓reduceIte, Nat.reduceEqDiff, reduceCtorEq, Nat.reduceAdd, Nat.reduceLeDiff, Nat.reduceLT, reduceIte, Int.reduceBEq, Int.reduceBNe, Int.reduceLT, Int.reduceLE, Int.reduceAdd, Int.reduceSub, Int.reduceMul, Int.reduceNeg, Int.reduceEq, Int.reduceNe, Nat.reduceMul, Nat.reduceSub]
        subst hQ
        simp (disch := first | assumption | omega) only [R.slices_Equal_byte, e13, e12, e0, e1, eh, go_sem, ↓reduceIte, Nat.reduceEqDiff, reduceCtorEq, Nat.reduceAdd, Nat.reduceLeDiff, Nat.reduceLT, reduceIte, Int.reduceBEq, Int.reduceBNe, Int.reduceLT, Int.reduceLE, Int.reduceAdd, Int.reduceSub, Int.reduceMul, Int.reduceNeg, Int.reduceEq, Int.reduceNe, Nat.reduceMul, Nat.reduceSub]
        have : a ≠ b := by rintro rfl; exact hb rfl
        simp [this, eh]
      · simp (disch := first | assumption | omega) only [e13, e12, e0, e1, eh, go_sem, ↓reduceIte, Nat.reduceEqDiff, reduceCtorEq, Nat.reduceAdd, Nat.reduceLeDiff, Nat.reduceLT, reduceIte, Int.reduceBEq, Int.reduceBNe, Int.reduceLT, Int.reduceLE, Int.reduceAdd, Int.reduceSub, Int.reduceMul, Int.reduceNeg, Int.reduceEq, Int.reduceNe, Nat.reduceMul, Nat.reduceSub]
        refine ⟨d - 1, by omega, i + 1, by omega, by simp, ?_⟩
        rw [List.take_add_one, List.take_add_one, ht, List.getElem?_eq_getElem hlt1, List.getElem?_eq_getElem hlt2, hb]
    · obtain rfl : i = a.length := by omega
      simp (disch := first | assumption | omega) only [e13, e12, e0, e1, eh, go_sem, ↓reduceIte, Nat.reduceEqDiff, reduceCtorEq, Nat.reduceAdd, Nat.reduceLeDiff, Nat.reduceLT, reduceIte, Int.reduceBEq, Int.reduceBNe, Int.reduceLT, Int.reduceLE, Int.reduceAdd, Int.reduceSub, Int.reduceMul, Int.reduceNeg, Int.reduceEq, Int.reduceNe, Nat.reduceMul, Nat.reduceSub]
      subst hQ
      simp (disch := first | assumption | omega) only [R.slices_Equal_byte, go_sem, ↓reduceIte, Nat.reduceEqDiff, reduceCtorEq, Nat.reduceAdd, Nat.reduceLeDiff, Nat.reduceLT, reduceIte, Int.reduceBEq, Int.reduceBNe, Int.reduceLT, Int.reduceLE, Int.reduceAdd, Int.reduceSub, Int.reduceMul, Int.reduceNeg, Int.reduceEq, Int.reduceNe, Nat.reduceMul, Nat.reduceSub]
      rw [List.take_length, he, List.take_length] at ht
      simp [ht, eh]
theorem fdiv_pow {n : Int} (h0 : 0 ≤ n) (k : Nat) : n.fdiv (2 ^ k) = n / 2 ^ k := Int.fdiv_eq_ediv_of_nonneg _ (by exact Int.pow_nonneg (by omega))
theorem shr24 {n : Int} (h0 : 0 ≤ n) : n.fdiv (2 ^ min (Int.toNat 24) 32) = n / 256 / 256 / 256 := by
  rw [show min (Int.toNat 24) 32 = 24 from rfl, fdiv_pow h0]; omega
theorem shr16 {n : Int} (h0 : 0 ≤ n) : n.fdiv (2 ^ min (Int.toNat 16) 32) = n / 256 / 256 := by
  rw [show min (Int.toNat 16) 32 = 16 from rfl, fdiv_pow h0]; omega
theorem shr8 {n : Int} (h0 : 0 ≤ n) : n.fdiv (2 ^ min (Int.toNat 8) 32) = n / 256 := by
  rw [show min (Int.toNat 8) 32 = 8 from rfl, fdiv_pow h0]; omega
theorem shr8' {n : Int} (h0 : 0 ≤ n) : n.fdiv (2 ^ min (Int.toNat 8) 64) = n / 256 := by
  rw [show min (Int.toNat 8) 64 = 8 from rfl, fdiv_pow h0]; omega
theorem four_ok (n : Int) (h0 : 0 ≤ n) (h1 : n < 4294967296) (h : List HObj) :
    ACalls Try.prog F.log_four [.int .u32 n] h (fun r h' => r = .lst (.app 1) (ints .u8 (four n)) ∧ h' = h) := by
  refine ACalls.of_aw Try.func152 K.log_four (by simp [Try.f152]) ?_
  generalize hQ : retQ R.log_four _ = Q
  simp (disch := first | assumption | omega) only [C.log_four, go_sem, ↓reduceIte, Nat.reduceEqDiff, reduceCtorEq, Nat.reduceAdd, Nat.reduceLeDiff, Nat.reduceLT, reduceIte, Int.reduceBEq, Int.reduceBNe, Int.reduceLT, Int.reduceLE, Int.reduceAdd, Int.reduceSub, Int.reduceMul, Int.reduceNeg, Int.reduceEq, Int.reduceNe, Nat.reduceMul, Nat.reduceSub]
  subst hQ
  simp (disch := first | assumption | omega) only [R.log_four, shr24 h0, shr16 h0, shr8 h0, wrapU8_mod, go_sem, ↓reduceIte, Nat.reduceEqDiff, reduceCtorEq, Nat.reduceAdd, Nat.reduceLeDiff, Nat.reduceLT, reduceIte, Int.reduceBEq, Int.reduceBNe, Int.reduceLT, Int.reduceLE, Int.reduceAdd, Int.reduceSub, Int.reduceMul, Int.reduceNeg, Int.reduceEq, Int.reduceNe, Nat.reduceMul, Nat.reduceSub]
  simp [four, be4, ints]
theorem sum_ok (last : Int) (o : Own) (r : List Int) (ho : Rdn o r) (h0 : 0 ≤ last) (h1 : last < 4294967296) (hr : ∀ x ∈ r, inU8 x) (hl : r.length ≤ 70368744177664) (h : List HObj) :
    ACalls Try.prog F.log_sum [.int .u32 last, .lst o (ints .u8 r)] h (fun v h' => v = .int .u32 (logSum last r) ∧ h' = h) := by
  have ho1 := ho.1
  refine ACalls.of_aw Try.func153 K.log_sum (by simp [Try.f153]) ?_
  generalize hQ : retQ R.log_sum _ = Q
  simp (disch := first | assumption | omega) only [C.log_sum, go_sem, ↓reduceIte, Nat.reduceEqDiff, reduceCtorEq, Nat.reduceAdd, Nat.reduceLeDiff, Nat.reduceLT, reduceIte, Int.reduceBEq, Int.reduceBNe, Int.reduceLT, Int.reduceLE, Int.reduceAdd, Int.reduceSub, Int.reduceMul, Int.reduceNeg, Int.reduceEq, Int.reduceNe, Nat.reduceMul, Nat.reduceSub]
  refine callG_ok (four_ok last h0 h1 _) (by simp (disch := first | assumption | omega) only [go_sem, ↓reduceIte, Nat.reduceEqDiff, reduceCtorEq, Nat.reduceAdd, Nat.reduceLeDiff, Nat.reduceLT, reduceIte, Int.reduceBEq, Int.reduceBNe, Int.reduceLT, Int.reduceLE, Int.reduceAdd, Int.reduceSub, Int.reduceMul, Int.reduceNeg, Int.reduceEq, Int.reduceNe, Nat.reduceMul, Nat.reduceSub]) ?_
  rintro _ _ ⟨rfl, hhh⟩
  try rw [hhh]
  clear hhh
  simp (disch := first | assumption | omega) only [shr8' (Int.natCast_nonneg r.length), go_sem, ↓reduceIte, Nat.reduceEqDiff, reduceCtorEq, Nat.reduceAdd, Nat.reduceLeDiff, Nat.reduceLT, reduceIte, Int.reduceBEq, Int.reduceBNe, Int.reduceLT, Int.reduceLE, Int.reduceAdd, Int.reduceSub, Int.reduceMul, Int.reduceNeg, Int.reduceEq, Int.reduceNe, Nat.reduceMul, Nat.reduceSub]
  refine callG_ok (Concat_byte_ok .sh [four last, beBytes r.length 2, r] [.lst .sh (ints .u8 (four last)), .lst .sh (ints .u8 (beBytes r.length 2)), .lst o (ints .u8 r)] (.inl rfl) ?_ (by simp) (by simp) ?_ _) (by simp (disch := first | assumption | omega) only [go_sem, ↓reduceIte, Nat.reduceEqDiff, reduceCtorEq, Nat.reduceAdd, Nat.reduceLeDiff, Nat.reduceLT, reduceIte, Int.reduceBEq, Int.reduceBNe, Int.reduceLT, Int.reduceLE, Int.reduceAdd, Int.reduceSub, Int.reduceMul, Int.reduceNeg, Int.reduceEq, Int.reduceNe, Nat.reduceMul, Nat.reduceSub]) ?_
  · exact ⟨_, _, rfl, ⟨.sh, ⟨.inl rfl, fun e => by cases e⟩, rfl⟩, _, _, rfl, ⟨.sh, ⟨.inl rfl, fun e => by cases e⟩, rfl⟩, _, _, rfl, ⟨o, ho, rfl⟩, rfl⟩
  · simp [lenSum, four_length, beBytes_length]; omega
  rintro _ _ ⟨rfl, hhh⟩
  rw [hhh]
  clear hhh
  have e1 : [four last, beBytes r.length 2, r].flatten = four last ++ (beBytes r.length 2 ++ r) := by simp
  have hu : ∀ x ∈ four last ++ (beBytes r.length 2 ++ r), inU8 x := by
    intro x hx
    simp only [List.mem_append] at hx
    rcases hx with hx | hx | hx
    · exact beBytes_u8 _ _ x hx
    · exact beBytes_u8 _ _ x hx
    · exact hr x hx
  rw [e1]
  simp (disch := first | assumption | omega) only [go_sem, ↓reduceIte, Nat.reduceEqDiff, reduceCtorEq, Nat.reduceAdd, Nat.reduceLeDiff, Nat.reduceLT, reduceIte, Int.reduceBEq, Int.reduceBNe, Int.reduceLT, Int.reduceLE, Int.reduceAdd, Int.reduceSub, Int.reduceMul, Int.reduceNeg, Int.reduceEq, Int.reduceNe, Nat.reduceMul, Nat.reduceSub]
  refine callG_ok (Sum_ok .sh (four last ++ (beBytes r.length 2 ++ r)) (.inl rfl) hu (by simp [four_length, beBytes_length]; omega) _) (by simp (disch := first | assumption | omega) only [go_sem, ↓reduceIte, Nat.reduceEqDiff, reduceCtorEq, Nat.reduceAdd, Nat.reduceLeDiff, Nat.reduceLT, reduceIte, Int.reduceBEq, Int.reduceBNe, Int.reduceLT, Int.reduceLE, Int.reduceAdd, Int.reduceSub, Int.reduceMul, Int.reduceNeg, Int.reduceEq, Int.reduceNe, Nat.reduceMul, Nat.reduceSub]) ?_
  rintro _ _ ⟨rfl, hhh⟩
  try rw [hhh]
  clear hhh
  simp (disch := first | assumption | omega) only [go_sem, ↓reduceIte, Nat.reduceEqDiff, reduceCtorEq, Nat.reduceAdd, Nat.reduceLeDiff, Nat.reduceLT, reduceIte, Int.reduceBEq, Int.reduceBNe, Int.reduceLT, Int.reduceLE, Int.reduceAdd, Int.reduceSub, Int.reduceMul, Int.reduceNeg, Int.reduceEq, Int.reduceNe, Nat.reduceMul, Nat.reduceSub]
  subst hQ
  simp (disch := first | assumption | omega) only [R.log_sum, go_sem, ↓reduceIte, Nat.reduceEqDiff, reduceCtorEq, Nat.reduceAdd, Nat.reduceLeDiff, Nat.reduceLT, reduceIte, Int.reduceBEq, Int.reduceBNe, Int.reduceLT, Int.reduceLE, Int.reduceAdd, Int.reduceSub, Int.reduceMul, Int.reduceNeg, Int.reduceEq, Int.reduceNe, Nat.reduceMul, Nat.reduceSub]
  rfl
/-- Records that were read: held so that more may be added. -/
def Recs (rs : List (List Int)) (x : AVal) : Prop := ∃ q xs, x = .lst q xs ∧ Each2 RecOk rs xs ∧ (q = .nil ∧ rs = [] ∨ q = .app 1)
theorem or_shl (x y : Int) (h0 : 0 ≤ x) (h1 : x < 256) (k0 : 0 ≤ y) (k1 : y < 256) : bitsV .or .i64 (IntKind.i64.wrap (x * 2 ^ min (Int.toNat 8) 64)) y = 256 * x + y := by
  obtain ⟨x, rfl⟩ := Int.eq_ofNat_of_zero_le h0
  obtain ⟨y, rfl⟩ := Int.eq_ofNat_of_zero_le k0
  have e : IntKind.i64.wrap ((x : Int) * 2 ^ min (Int.toNat 8) 64) = ((x * 256 : Nat) : Int) := by
    rw [show min (Int.toNat 8) 64 = 8 from rfl, wrapI64 (by omega) (by omega)]; omega
  rw [e]
  show IntKind.i64.wrap ((BitVec.ofInt 64 ((x * 256 : Nat) : Int) ||| BitVec.ofInt 64 (y : Int)).toNat : Int) = _
  rw [BitVec.ofInt_natCast, BitVec.ofInt_natCast, BitVec.toNat_or, BitVec.toNat_ofNat, BitVec.toNat_ofNat, Nat.mod_eq_of_lt (by omega), Nat.mod_eq_of_lt (by omega)]
  have e2 : x * 256 ||| y = x * 256 + y := by
    rw [show x * 256 = 2 ^ 8 * x from by omega, Nat.two_pow_add_eq_or_of_lt (by omega)]
  rw [e2, wrapI64 (by omega) (by omega)]; omega
theorem take_all {α : Type} (l : List α) (n : Nat) : (l.drop n).take (l.length - n) = l.drop n := List.take_of_length_le (by simp)
theorem getD_get {l : List Int} {i : Nat} (h : i < l.length) : l.getD i 0 = l[i] := by simp [List.getD_eq_getElem?_getD, h]
theorem Recs.add {rs : List (List Int)} {xs : List AVal} {r : List Int} {x : AVal} (h : Each2 RecOk rs xs) (hr : RecOk r x) : Recs (rs ++ [r]) (.lst (.app 1) (xs ++ [x])) := ⟨_, _, rfl, h.append (Each2.one hr), .inr rfl⟩
/-- The first bytes of what is left say how long the next record is. -/
theorem next_rec {b : List Int} {rs : List (List Int)} {r : List Int} (h : book 0 (rs ++ [r]) <+: b) : recB (lastOf 0 rs) r <+: b.drop (book 0 rs).length := by
  rw [book_snoc] at h
  obtain ⟨t, ht⟩ := h
  refine ⟨t, ?_⟩
  rw [← ht, List.append_assoc, List.drop_append_of_le_length (Nat.le_refl _), List.drop_length, List.nil_append]
theorem next_of {b : List Int} {rs : List (List Int)} {r : List Int} (hp : book 0 rs <+: b) (h : recB (lastOf 0 rs) r <+: b.drop (book 0 rs).length) : book 0 (rs ++ [r]) <+: b := by
  rw [book_snoc]
  obtain ⟨t, rfl⟩ := hp
  rw [List.drop_append_of_le_length (Nat.le_refl _), List.drop_length, List.nil_append] at h
  exact (List.prefix_append_right_inj _).2 h
theorem scan_ok (o : Own) (b : List Int) (ho : Rdo o) (hb : ∀ x ∈ b, inU8 x) (hl : b.length ≤ 1099511627776) (h : List HObj) :
    ACalls Try.prog F.log_scan [.lst o (ints .u8 b)] h (fun v h' => (∃ rs x, v = .tup [x, .int .i64 (book 0 rs).length, .int .u32 (lastOf 0 rs)] ∧ Recs rs x ∧ IsScan b rs) ∧ h' = h) := by
  refine ACalls.of_aw Try.func151 K.log_scan (by simp [Try.f151]) ?_
  generalize hQ : retQ R.log_scan _ = Q
  simp (disch := first | assumption | omega) only [C.log_scan, go_sem, ↓reduceIte, Nat.reduceEqDiff, reduceCtorEq, Nat.reduceAdd, Nat.reduceLeDiff, Nat.reduceLT, reduceIte, Int.reduceBEq, Int.reduceBNe, Int.reduceLT, Int.reduceLE, Int.reduceAdd, Int.reduceSub, Int.reduceMul, Int.reduceNeg, Int.reduceEq, Int.reduceNe, Nat.reduceMul, Nat.reduceSub]
  refine aw_count (fun d S => ∃ (rs : List (List Int)) (x : AVal), (book 0 rs).length + d = b.length ∧ S.env 0 = .lst o (ints .u8 b) ∧ S.env 2 = x ∧ S.env 3 = .int .i64 (book 0 rs).length ∧ S.env 4 = .int .u32 (lastOf 0 rs) ∧ Recs rs x ∧ (∀ r ∈ rs, r.length ≤ 2000) ∧ book 0 rs <+: b ∧ S.heap = h) (n := b.length) ⟨[], .lst .nil [], by simp [go_sem, book, lastOf], rfl, by simp [go_sem], by simp [go_sem, book], by simp [go_sem, lastOf], ⟨.nil, [], rfl, rfl, .inl ⟨rfl, rfl⟩⟩, by simp, by simp [book], rfl⟩ ?_
  rintro d S ⟨rs, x, hi, e0, e2, e3, e4, hR, hS, hP, eh⟩
  obtain ⟨q, xs, rfl, hE, hq⟩ := hR
  have hlast := lastOf_bd 0 rs (by omega) (by omega)
  have hz : (List.take (b.length - (book 0 rs).length) (List.drop (book 0 rs).length (ints IntKind.u8 b))) = ints .u8 (b.drop (book 0 rs).length) := by
    rw [← ints_drop]
    have := take_all (ints .u8 b) (book 0 rs).length
    rwa [ints_length] at this
  have hzl : (b.drop (book 0 rs).length).length = b.length - (book 0 rs).length := by simp
  have hzu : ∀ x ∈ b.drop (book 0 rs).length, inU8 x := fun x hx => hb x (List.mem_of_mem_drop hx)
  have hno : ∀ r : List Int, book 0 (rs ++ [r]) <+: b → recB (lastOf 0 rs) r <+: b.drop (book 0 rs).length := fun r hr => next_rec hr
  have hyes : ∀ r : List Int, recB (lastOf 0 rs) r <+: b.drop (book 0 rs).length → book 0 (rs ++ [r]) <+: b := fun r hr => next_of hP hr
  have hrem : remV (.lst q xs) = remV (.lst q xs) := rfl
  generalize hbk : (book 0 rs).length = k at *
  generalize hla : lastOf 0 rs = last at *
  generalize hzd : b.drop k = z at *
  have hb1 := hlast.1
  simp (disch := first | assumption | omega) only [e0, e2, e3, e4, eh, hz, go_sem, ↓reduceIte, Nat.reduceEqDiff, reduceCtorEq, Nat.reduceAdd, Nat.reduceLeDiff, Nat.reduceLT, reduceIte, Int.reduceBEq, Int.reduceBNe, Int.reduceLT, Int.reduceLE, Int.reduceAdd, Int.reduceSub, Int.reduceMul, Int.reduceNeg, Int.reduceEq, Int.reduceNe, Nat.reduceMul, Nat.reduceSub]
  refine ⟨⟨by omega, by omega, ints_width b⟩, ?_⟩
  have fin : ∀ S' : AState, (∀ r : List Int, r.length ≤ 2000 → ¬ recB last r <+: z) → S'.env 2 = .lst q xs → S'.env 3 = .int .i64 k → S'.env 4 = .int .u32 last → S'.heap = h → Q AExit.ret S' := by
    intro S' hmax f2 f3 f4 fh
    subst hQ
    simp only [retQ_ret, R.log_scan, ress3, resV_t, f2, f3, f4, fh, plainV, true_and, and_true]
    exact ⟨rs, _, by rw [hbk, hla], ⟨q, xs, rfl, hE, hq⟩, hS, hP, fun r hr hp => hmax r hr (hno r hp)⟩
  refine condG_if (fun hlt => ?_) fun hge => ?_
  · have hlt : z.length < 6 := by omega
    rcases hq with ⟨rfl, rfl⟩ | rfl
    · simp (disch := first | assumption | omega) only [e0, e2, e3, e4, eh, hz, go_sem, ↓reduceIte, Nat.reduceEqDiff, reduceCtorEq, Nat.reduceAdd, Nat.reduceLeDiff, Nat.reduceLT, reduceIte, Int.reduceBEq, Int.reduceBNe, Int.reduceLT, Int.reduceLE, Int.reduceAdd, Int.reduceSub, Int.reduceMul, Int.reduceNeg, Int.reduceEq, Int.reduceNe, Nat.reduceMul, Nat.reduceSub]
      refine fin _ (fun r _ hp => ?_) (by simp (disch := first | assumption | omega) only [e0, e2, e3, e4, eh, go_sem, ↓reduceIte, Nat.reduceEqDiff, reduceCtorEq, Nat.reduceAdd, Nat.reduceLeDiff, Nat.reduceLT, reduceIte, Int.reduceBEq, Int.reduceBNe, Int.reduceLT, Int.reduceLE, Int.reduceAdd, Int.reduceSub, Int.reduceMul, Int.reduceNeg, Int.reduceEq, Int.reduceNe, Nat.reduceMul, Nat.reduceSub]) (by simp (disch := first | assumption | omega) only [e0, e2, e3, e4, eh, go_sem, ↓reduceIte, Nat.reduceEqDiff, reduceCtorEq, Nat.reduceAdd, Nat.reduceLeDiff, Nat.reduceLT, reduceIte, Int.reduceBEq, Int.reduceBNe, Int.reduceLT, Int.reduceLE, Int.reduceAdd, Int.reduceSub, Int.reduceMul, Int.reduceNeg, Int.reduceEq, Int.reduceNe, Nat.reduceMul, Nat.reduceSub]) (by simp (disch := first | assumption | omega) only [e0, e2, e3, e4, eh, go_sem, ↓reduceIte, Nat.reduceEqDiff, reduceCtorEq, Nat.reduceAdd, Nat.reduceLeDiff, Nat.reduceLT, reduceIte, Int.reduceBEq, Int.reduceBNe, Int.reduceLT, Int.reduceLE, Int.reduceAdd, Int.reduceSub, Int.reduceMul, Int.reduceNeg, Int.reduceEq, Int.reduceNe, Nat.reduceMul, Nat.reduceSub]) (by simp (disch := first | assumption | omega) only [e0, e2, e3, e4, eh, go_sem, ↓reduceIte, Nat.reduceEqDiff, reduceCtorEq, Nat.reduceAdd, Nat.reduceLeDiff, Nat.reduceLT, reduceIte, Int.reduceBEq, Int.reduceBNe, Int.reduceLT, Int.reduceLE, Int.reduceAdd, Int.reduceSub, Int.reduceMul, Int.reduceNeg, Int.reduceEq, Int.reduceNe, Nat.reduceMul, Nat.reduceSub])
      have := (recB_prefix hp).2.2.2
      omega
    · simp (disch := first | assumption | omega) only [e0, e2, e3, e4, eh, hz, go_sem, ↓reduceIte, Nat.reduceEqDiff, reduceCtorEq, Nat.reduceAdd, Nat.reduceLeDiff, Nat.reduceLT, reduceIte, Int.reduceBEq, Int.reduceBNe, Int.reduceLT, Int.reduceLE, Int.reduceAdd, Int.reduceSub, Int.reduceMul, Int.reduceNeg, Int.reduceEq, Int.reduceNe, Nat.reduceMul, Nat.reduceSub]
      refine fin _ (fun r _ hp => ?_) (by simp (disch := first | assumption | omega) only [e0, e2, e3, e4, eh, go_sem, ↓reduceIte, Nat.reduceEqDiff, reduceCtorEq, Nat.reduceAdd, Nat.reduceLeDiff, Nat.reduceLT, reduceIte, Int.reduceBEq, Int.reduceBNe, Int.reduceLT, Int.reduceLE, Int.reduceAdd, Int.reduceSub, Int.reduceMul, Int.reduceNeg, Int.reduceEq, Int.reduceNe, Nat.reduceMul, Nat.reduceSub]) (by simp (disch := first | assumption | omega) only [e0, e2, e3, e4, eh, go_sem, ↓reduceIte, Nat.reduceEqDiff, reduceCtorEq, Nat.reduceAdd, Nat.reduceLeDiff, Nat.reduceLT, reduceIte, Int.reduceBEq, Int.reduceBNe, Int.reduceLT, Int.reduceLE, Int.reduceAdd, Int.reduceSub, Int.reduceMul, Int.reduceNeg, Int.reduceEq, Int.reduceNe, Nat.reduceMul, Nat.reduceSub]) (by simp (disch := first | assumption | omega) only [e0, e2, e3, e4, eh, go_sem, ↓reduceIte, Nat.reduceEqDiff, reduceCtorEq, Nat.reduceAdd, Nat.reduceLeDiff, Nat.reduceLT, reduceIte, Int.reduceBEq, Int.reduceBNe, Int.reduceLT, Int.reduceLE, Int.reduceAdd, Int.reduceSub, Int.reduceMul, Int.reduceNeg, Int.reduceEq, Int.reduceNe, Nat.reduceMul, Nat.reduceSub]) (by simp (disch := first | assumption | omega) only [e0, e2, e3, e4, eh, go_sem, ↓reduceIte, Nat.reduceEqDiff, reduceCtorEq, Nat.reduceAdd, Nat.reduceLeDiff, Nat.reduceLT, reduceIte, Int.reduceBEq, Int.reduceBNe, Int.reduceLT, Int.reduceLE, Int.reduceAdd, Int.reduceSub, Int.reduceMul, Int.reduceNeg, Int.reduceEq, Int.reduceNe, Nat.reduceMul, Nat.reduceSub])
      have := (recB_prefix hp).2.2.2
      omega
  · have hge : 6 ≤ z.length := by omega
    have h0 : 0 < z.length := by omega
    have h1 : 1 < z.length := by omega
    have hat0 : at_ (ints .u8 z) 0 = .int .u8 (z.getD 0 0) := at_ints' (k := .u8) z 0 h0
    have hat1 : at_ (ints .u8 z) 1 = .int .u8 (z.getD 1 0) := at_ints' (k := .u8) z 1 h1
    have h0' : (0 : Int) < z.length := by omega
    have h1' : (1 : Int) < z.length := by omega
    rw [getD_get h0] at hat0
    rw [getD_get h1] at hat1
    have hx0 := hzu _ (List.getElem_mem h0)
    have hx1 := hzu _ (List.getElem_mem h1)
    unfold inU8 at hx0 hx1
    have hor := or_shl z[0] z[1] hx0.1 hx0.2 hx1.1 hx1.2
    generalize hx : z[0] = x0 at *
    generalize hy : z[1] = x1 at *
    obtain ⟨n, hn⟩ : ∃ n : Nat, 256 * x0 + x1 = (n : Int) := ⟨(256 * x0 + x1).toNat, by omega⟩
    rw [hn] at hor
    have hn2 : n < 65536 := by omega
    have ht2 : z.take 2 = beBytes n 2 := by
      rw [be2]
      have : z.take 2 = [x0, x1] := by
        have q0 := List.drop_eq_getElem_cons h0
        have q1 := List.drop_eq_getElem_cons h1
        rw [List.drop_zero, q1, hx, hy] at q0
        rw [q0]; rfl
      rw [this]; simp only [List.cons.injEq, and_true]; omega
    have hrl : ∀ r : List Int, r.length ≤ 2000 → recB last r <+: z → r.length = n := by
      intro r hr hp
      have := be2_inj (m := r.length) (n := n) (by omega) (by omega) (by omega) (by omega) ((recB_prefix hp).1.symm.trans ht2)
      omega
    by_cases hbig : 2000 < (n : Int)
    · rcases hq with ⟨rfl, rfl⟩ | rfl
      · simp (disch := first | assumption | omega) only [e0, e2, e3, e4, eh, hz, hat0, hat1, hor, h0', h1', hbig, go_sem, ↓reduceIte, Nat.reduceEqDiff, reduceCtorEq, Nat.reduceAdd, Nat.reduceLeDiff, Nat.reduceLT, reduceIte, Int.reduceBEq, Int.reduceBNe, Int.reduceLT, Int.reduceLE, Int.reduceAdd, Int.reduceSub, Int.reduceMul, Int.reduceNeg, Int.reduceEq, Int.reduceNe, Nat.reduceMul, Nat.reduceSub]
        refine fin _ (fun r hr hp => ?_) (by simp (disch := first | assumption | omega) only [e0, e2, e3, e4, eh, go_sem, ↓reduceIte, Nat.reduceEqDiff, reduceCtorEq, Nat.reduceAdd, Nat.reduceLeDiff, Nat.reduceLT, reduceIte, Int.reduceBEq, Int.reduceBNe, Int.reduceLT, Int.reduceLE, Int.reduceAdd, Int.reduceSub, Int.reduceMul, Int.reduceNeg, Int.reduceEq, Int.reduceNe, Nat.reduceMul, Nat.reduceSub]) (by simp (disch := first | assumption | omega) only [e0, e2, e3, e4, eh, go_sem, ↓reduceIte, Nat.reduceEqDiff, reduceCtorEq, Nat.reduceAdd, Nat.reduceLeDiff, Nat.reduceLT, reduceIte, Int.reduceBEq, Int.reduceBNe, Int.reduceLT, Int.reduceLE, Int.reduceAdd, Int.reduceSub, Int.reduceMul, Int.reduceNeg, Int.reduceEq, Int.reduceNe, Nat.reduceMul, Nat.reduceSub]) (by simp (disch := first | assumption | omega) only [e0, e2, e3, e4, eh, go_sem, ↓reduceIte, Nat.reduceEqDiff, reduceCtorEq, Nat.reduceAdd, Nat.reduceLeDiff, Nat.reduceLT, reduceIte, Int.reduceBEq, Int.reduceBNe, Int.reduceLT, Int.reduceLE, Int.reduceAdd, Int.reduceSub, Int.reduceMul, Int.reduceNeg, Int.reduceEq, Int.reduceNe, Nat.reduceMul, Nat.reduceSub]) (by simp (disch := first | assumption | omega) only [e0, e2, e3, e4, eh, go_sem, ↓reduceIte, Nat.reduceEqDiff, reduceCtorEq, Nat.reduceAdd, Nat.reduceLeDiff, Nat.reduceLT, reduceIte, Int.reduceBEq, Int.reduceBNe, Int.reduceLT, Int.reduceLE, Int.reduceAdd, Int.reduceSub, Int.reduceMul, Int.reduceNeg, Int.reduceEq, Int.reduceNe, Nat.reduceMul, Nat.reduceSub])
        have := hrl r hr hp
        omega
      · simp (disch := first | assumption | omega) only [e0, e2, e3, e4, eh, hz, hat0, hat1, hor, h0', h1', hbig, go_sem, ↓reduceIte, Nat.reduceEqDiff, reduceCtorEq, Nat.reduceAdd, Nat.reduceLeDiff, Nat.reduceLT, reduceIte, Int.reduceBEq, Int.reduceBNe, Int.reduceLT, Int.reduceLE, Int.reduceAdd, Int.reduceSub, Int.reduceMul, Int.reduceNeg, Int.reduceEq, Int.reduceNe, Nat.reduceMul, Nat.reduceSub]
        refine fin _ (fun r hr hp => ?_) (by simp (disch := first | assumption | omega) only [e0, e2, e3, e4, eh, go_sem, ↓reduceIte, Nat.reduceEqDiff, reduceCtorEq, Nat.reduceAdd, Nat.reduceLeDiff, Nat.reduceLT, reduceIte, Int.reduceBEq, Int.reduceBNe, Int.reduceLT, Int.reduceLE, Int.reduceAdd, Int.reduceSub, Int.reduceMul, Int.reduceNeg, Int.reduceEq, Int.reduceNe, Nat.reduceMul, Nat.reduceSub]) (by simp (disch := first | assumption | omega) only [e0, e2, e3, e4, eh, go_sem, ↓reduceIte, Nat.reduceEqDiff, reduceCtorEq, Nat.reduceAdd, Nat.reduceLeDiff, Nat.reduceLT, reduceIte, Int.reduceBEq, Int.reduceBNe, Int.reduceLT, Int.reduceLE, Int.reduceAdd, Int.reduceSub, Int.reduceMul, Int.reduceNeg, Int.reduceEq, Int.reduceNe, Nat.reduceMul, Nat.reduceSub]) (by simp (disch := first | assumption | omega) only [e0, e2, e3, e4, eh, go_sem, ↓reduceIte, Nat.reduceEqDiff, reduceCtorEq, Nat.reduceAdd, Nat.reduceLeDiff, Nat.reduceLT, reduceIte, Int.reduceBEq, Int.reduceBNe, Int.reduceLT, Int.reduceLE, Int.reduceAdd, Int.reduceSub, Int.reduceMul, Int.reduceNeg, Int.reduceEq, Int.reduceNe, Nat.reduceMul, Nat.reduceSub]) (by simp (disch := first | assumption | omega) only [e0, e2, e3, e4, eh, go_sem, ↓reduceIte, Nat.reduceEqDiff, reduceCtorEq, Nat.reduceAdd, Nat.reduceLeDiff, Nat.reduceLT, reduceIte, Int.reduceBEq, Int.reduceBNe, Int.reduceLT, Int.reduceLE, Int.reduceAdd, Int.reduceSub, Int.reduceMul, Int.reduceNeg, Int.reduceEq, Int.reduceNe, Nat.reduceMul, Nat.reduceSub])
        have := hrl r hr hp
        omega
    by_cases hsh : (z.length : Int) < 6 + (n : Int)
    · rcases hq with ⟨rfl, rfl⟩ | rfl
      · simp (disch := first | assumption | omega) only [e0, e2, e3, e4, eh, hz, hat0, hat1, hor, h0', h1', hbig, hsh, go_sem, ↓reduceIte, Nat.reduceEqDiff, reduceCtorEq, Nat.reduceAdd, Nat.reduceLeDiff, Nat.reduceLT, reduceIte, Int.reduceBEq, Int.reduceBNe, Int.reduceLT, Int.reduceLE, Int.reduceAdd, Int.reduceSub, Int.reduceMul, Int.reduceNeg, Int.reduceEq, Int.reduceNe, Nat.reduceMul, Nat.reduceSub]
        refine fin _ (fun r hr hp => ?_) (by simp (disch := first | assumption | omega) only [e0, e2, e3, e4, eh, go_sem, ↓reduceIte, Nat.reduceEqDiff, reduceCtorEq, Nat.reduceAdd, Nat.reduceLeDiff, Nat.reduceLT, reduceIte, Int.reduceBEq, Int.reduceBNe, Int.reduceLT, Int.reduceLE, Int.reduceAdd, Int.reduceSub, Int.reduceMul, Int.reduceNeg, Int.reduceEq, Int.reduceNe, Nat.reduceMul, Nat.reduceSub]) (by simp (disch := first | assumption | omega) only [e0, e2, e3, e4, eh, go_sem, ↓reduceIte, Nat.reduceEqDiff, reduceCtorEq, Nat.reduceAdd, Nat.reduceLeDiff, Nat.reduceLT, reduceIte, Int.reduceBEq, Int.reduceBNe, Int.reduceLT, Int.reduceLE, Int.reduceAdd, Int.reduceSub, Int.reduceMul, Int.reduceNeg, Int.reduceEq, Int.reduceNe, Nat.reduceMul, Nat.reduceSub]) (by simp (disch := first | assumption | omega) only [e0, e2, e3, e4, eh, go_sem, ↓reduceIte, Nat.reduceEqDiff, reduceCtorEq, Nat.reduceAdd, Nat.reduceLeDiff, Nat.reduceLT, reduceIte, Int.reduceBEq, Int.reduceBNe, Int.reduceLT, Int.reduceLE, Int.reduceAdd, Int.reduceSub, Int.reduceMul, Int.reduceNeg, Int.reduceEq, Int.reduceNe, Nat.reduceMul, Nat.reduceSub]) (by simp (disch := first | assumption | omega) only [e0, e2, e3, e4, eh, go_sem, ↓reduceIte, Nat.reduceEqDiff, reduceCtorEq, Nat.reduceAdd, Nat.reduceLeDiff, Nat.reduceLT, reduceIte, Int.reduceBEq, Int.reduceBNe, Int.reduceLT, Int.reduceLE, Int.reduceAdd, Int.reduceSub, Int.reduceMul, Int.reduceNeg, Int.reduceEq, Int.reduceNe, Nat.reduceMul, Nat.reduceSub])
        have := hrl r hr hp
        have := (recB_prefix hp).2.2.2
        omega
      · simp (disch := first | assumption | omega) only [e0, e2, e3, e4, eh, hz, hat0, hat1, hor, h0', h1', hbig, hsh, go_sem, ↓reduceIte, Nat.reduceEqDiff, reduceCtorEq, Nat.reduceAdd, Nat.reduceLeDiff, Nat.reduceLT, reduceIte, Int.reduceBEq, Int.reduceBNe, Int.reduceLT, Int.reduceLE, Int.reduceAdd, Int.reduceSub, Int.reduceMul, Int.reduceNeg, Int.reduceEq, Int.reduceNe, Nat.reduceMul, Nat.reduceSub]
        refine fin _ (fun r hr hp => ?_) (by simp (disch := first | assumption | omega) only [e0, e2, e3, e4, eh, go_sem, ↓reduceIte, Nat.reduceEqDiff, reduceCtorEq, Nat.reduceAdd, Nat.reduceLeDiff, Nat.reduceLT, reduceIte, Int.reduceBEq, Int.reduceBNe, Int.reduceLT, Int.reduceLE, Int.reduceAdd, Int.reduceSub, Int.reduceMul, Int.reduceNeg, Int.reduceEq, Int.reduceNe, Nat.reduceMul, Nat.reduceSub]) (by simp (disch := first | assumption | omega) only [e0, e2, e3, e4, eh, go_sem, ↓reduceIte, Nat.reduceEqDiff, reduceCtorEq, Nat.reduceAdd, Nat.reduceLeDiff, Nat.reduceLT, reduceIte, Int.reduceBEq, Int.reduceBNe, Int.reduceLT, Int.reduceLE, Int.reduceAdd, Int.reduceSub, Int.reduceMul, Int.reduceNeg, Int.reduceEq, Int.reduceNe, Nat.reduceMul, Nat.reduceSub]) (by simp (disch := first | assumption | omega) only [e0, e2, e3, e4, eh, go_sem, ↓reduceIte, Nat.reduceEqDiff, reduceCtorEq, Nat.reduceAdd, Nat.reduceLeDiff, Nat.reduceLT, reduceIte, Int.reduceBEq, Int.reduceBNe, Int.reduceLT, Int.reduceLE, Int.reduceAdd, Int.reduceSub, Int.reduceMul, Int.reduceNeg, Int.reduceEq, Int.reduceNe, Nat.reduceMul, Nat.reduceSub]) (by simp (disch := first | assumption | omega) only [e0, e2, e3, e4, eh, go_sem, ↓reduceIte, Nat.reduceEqDiff, reduceCtorEq, Nat.reduceAdd, Nat.reduceLeDiff, Nat.reduceLT, reduceIte, Int.reduceBEq, Int.reduceBNe, Int.reduceLT, Int.reduceLE, Int.reduceAdd, Int.reduceSub, Int.reduceMul, Int.reduceNeg, Int.reduceEq, Int.reduceNe, Nat.reduceMul, Nat.reduceSub])
        have := hrl r hr hp
        have := (recB_prefix hp).2.2.2
        omega
    have hrd : List.take ((2 + (n : Int)).toNat - Int.toNat 2) (List.drop (Int.toNat 2) (ints IntKind.u8 z)) = ints .u8 ((z.drop 2).take n) := by
      rw [ints_drop, ints_take]; congr 2; omega
    have hsd : List.take ((6 + (n : Int)).toNat - (2 + (n : Int)).toNat) (List.drop (2 + (n : Int)).toNat (ints IntKind.u8 z)) = ints .u8 ((z.drop (2 + n)).take 4) := by
      rw [ints_drop, ints_take]
      have a1 : (2 + (n : Int)).toNat = 2 + n := by omega
      have a2 : (6 + (n : Int)).toNat - (2 + n) = 4 := by omega
      rw [a1, a2]
    have hru : ∀ x ∈ (z.drop 2).take n, inU8 x := fun x hx => hzu x (List.mem_of_mem_drop (List.mem_of_mem_take hx))
    have hrlen : ((z.drop 2).take n).length = n := by simp; omega
    have hnext : (z.drop (2 + n)).take 4 = four (logSum last ((z.drop 2).take n)) → recB last ((z.drop 2).take n) <+: z := fun e => recB_of ht2 hn2 (by omega) e
    have hstop : ¬ (z.drop (2 + n)).take 4 = four (logSum last ((z.drop 2).take n)) → ∀ r : List Int, r.length ≤ 2000 → ¬ recB last r <+: z := by
      intro hne r hr hp
      obtain ⟨p1, p2, p3, _⟩ := recB_prefix hp
      rw [hrl r hr hp] at p2 p3
      rw [p2] at hne
      exact hne p3
    generalize hrr : (z.drop 2).take n = r at *
    generalize hs4 : (z.drop (2 + n)).take 4 = s4 at *
    have hsb := logSum_bd last r
    simp (disch := first | assumption | omega) only [e0, e2, e3, e4, eh, hz, hat0, hat1, hor, h0', h1', hbig, hsh, hrd, go_sem, ↓reduceIte, Nat.reduceEqDiff, reduceCtorEq, Nat.reduceAdd, Nat.reduceLeDiff, Nat.reduceLT, reduceIte, Int.reduceBEq, Int.reduceBNe, Int.reduceLT, Int.reduceLE, Int.reduceAdd, Int.reduceSub, Int.reduceMul, Int.reduceNeg, Int.reduceEq, Int.reduceNe, Nat.reduceMul, Nat.reduceSub]
    refine ⟨⟨by omega, by omega, ints_width z⟩, ?_⟩
    refine callG_ok (sum_ok last .sh r ⟨.inl rfl, fun e => by cases e⟩ hlast.1 hlast.2 hru (by omega) _) (by simp (disch := first | assumption | omega) only [go_sem, ↓reduceIte, Nat.reduceEqDiff, reduceCtorEq, Nat.reduceAdd, Nat.reduceLeDiff, Nat.reduceLT, reduceIte, Int.reduceBEq, Int.reduceBNe, Int.reduceLT, Int.reduceLE, Int.reduceAdd, Int.reduceSub, Int.reduceMul, Int.reduceNeg, Int.reduceEq, Int.reduceNe, Nat.reduceMul, Nat.reduceSub]) ?_
    rintro _ _ ⟨rfl, hhh⟩
    rw [hhh]
    clear hhh
    simp (disch := first | assumption | omega) only [e0, e2, e3, e4, eh, hsd, go_sem, ↓reduceIte, Nat.reduceEqDiff, reduceCtorEq, Nat.reduceAdd, Nat.reduceLeDiff, Nat.reduceLT, reduceIte, Int.reduceBEq, Int.reduceBNe, Int.reduceLT, Int.reduceLE, Int.reduceAdd, Int.reduceSub, Int.reduceMul, Int.reduceNeg, Int.reduceEq, Int.reduceNe, Nat.reduceMul, Nat.reduceSub]
    refine ⟨⟨by omega, by omega, by omega, ints_width z⟩, ?_⟩
    refine callG_ok (four_ok (logSum last r) hsb.1 hsb.2 _) (by simp (disch := first | assumption | omega) only [go_sem, ↓reduceIte, Nat.reduceEqDiff, reduceCtorEq, Nat.reduceAdd, Nat.reduceLeDiff, Nat.reduceLT, reduceIte, Int.reduceBEq, Int.reduceBNe, Int.reduceLT, Int.reduceLE, Int.reduceAdd, Int.reduceSub, Int.reduceMul, Int.reduceNeg, Int.reduceEq, Int.reduceNe, Nat.reduceMul, Nat.reduceSub]) ?_
    rintro _ _ ⟨rfl, hhh⟩
    try rw [hhh]
    clear hhh
    simp (disch := first | assumption | omega) only [e0, e2, e3, e4, eh, go_sem, ↓reduceIte, Nat.reduceEqDiff, reduceCtorEq, Nat.reduceAdd, Nat.reduceLeDiff, Nat.reduceLT, reduceIte, Int.reduceBEq, Int.reduceBNe, Int.reduceLT, Int.reduceLE, Int.reduceAdd, Int.reduceSub, Int.reduceMul, Int.reduceNeg, Int.reduceEq, Int.reduceNe, Nat.reduceMul, Nat.reduceSub]
    have h4 : s4.length ≤ 4 := by rw [← hs4]; simp; omega
    refine callG_ok (EqualByte_ok .sh .sh s4 (four (logSum last r)) (.inl rfl) (.inl rfl) (by omega) (by rw [four_length]; omega) _) (by simp (disch := first | assumption | omega) only [go_sem, ↓reduceIte, Nat.reduceEqDiff, reduceCtorEq, Nat.reduceAdd, Nat.reduceLeDiff, Nat.reduceLT, reduceIte, Int.reduceBEq, Int.reduceBNe, Int.reduceLT, Int.reduceLE, Int.reduceAdd, Int.reduceSub, Int.reduceMul, Int.reduceNeg, Int.reduceEq, Int.reduceNe, Nat.reduceMul, Nat.reduceSub]) ?_
    rintro _ _ ⟨rfl, hhh⟩
    try rw [hhh]
    clear hhh
    simp (disch := first | assumption | omega) only [e0, e2, e3, e4, eh, go_sem, ↓reduceIte, Nat.reduceEqDiff, reduceCtorEq, Nat.reduceAdd, Nat.reduceLeDiff, Nat.reduceLT, reduceIte, Int.reduceBEq, Int.reduceBNe, Int.reduceLT, Int.reduceLE, Int.reduceAdd, Int.reduceSub, Int.reduceMul, Int.reduceNeg, Int.reduceEq, Int.reduceNe, Nat.reduceMul, Nat.reduceSub]
    by_cases heq : s4 = four (logSum last r)
    · have hpre := hyes r (hnext heq)
      rcases hq with ⟨rfl, rfl⟩ | rfl
      · simp (disch := first | assumption | omega) only [e0, e2, e3, e4, eh, heq, go_sem, ↓reduceIte, Nat.reduceEqDiff, reduceCtorEq, Nat.reduceAdd, Nat.reduceLeDiff, Nat.reduceLT, reduceIte, Int.reduceBEq, Int.reduceBNe, Int.reduceLT, Int.reduceLE, Int.reduceAdd, Int.reduceSub, Int.reduceMul, Int.reduceNeg, Int.reduceEq, Int.reduceNe, Nat.reduceMul, Nat.reduceSub]
        refine ⟨ints_width r, by omega, by omega, ?_⟩
        have hxs : xs = [] := by simpa [Each2] using hE
        refine ⟨hxs, by subst hxs; simp, by subst hxs; simp, d - (6 + n), by omega, _, _, ?_, rfl, ?_, ?_, Recs.add hE ⟨.sh, ⟨.inl rfl, fun e => by cases e⟩, rfl⟩, ?_, hpre⟩
        · rw [book_snoc, List.length_append, recB_length, hbk]; omega
        · rw [book_snoc, List.length_append, recB_length, hbk, hrlen]; congr 1; omega
        · rw [lastOf_snoc, hla]
        · intro r' hr'
          rcases List.mem_append.1 hr' with hr' | hr'
          · exact hS r' hr'
          · simp at hr'; subst hr'; omega
      · simp (disch := first | assumption | omega) only [e0, e2, e3, e4, eh, heq, go_sem, ↓reduceIte, Nat.reduceEqDiff, reduceCtorEq, Nat.reduceAdd, Nat.reduceLeDiff, Nat.reduceLT, reduceIte, Int.reduceBEq, Int.reduceBNe, Int.reduceLT, Int.reduceLE, Int.reduceAdd, Int.reduceSub, Int.reduceMul, Int.reduceNeg, Int.reduceEq, Int.reduceNe, Nat.reduceMul, Nat.reduceSub]
        refine ⟨ints_width r, by omega, by omega, ?_⟩
        have hxl := hE.length
        have hcount : 6 * rs.length ≤ k := by
          rw [← hbk, book_length]
          clear hE hS hP hno hyes fin hbk hpre hxl hla
          induction rs with
          | nil => simp
          | cons a rs ih => simp only [sizeOf', List.map_cons, List.sum_cons, List.length_cons] at ih ⊢; omega
        refine ⟨by omega, by omega, d - (6 + n), by omega, _, _, ?_, rfl, ?_, ?_, Recs.add hE ⟨.sh, ⟨.inl rfl, fun e => by cases e⟩, rfl⟩, ?_, hpre⟩
        · rw [book_snoc, List.length_append, recB_length, hbk]; omega
        · rw [book_snoc, List.length_append, recB_length, hbk, hrlen]; congr 1; omega
        · rw [lastOf_snoc, hla]
        · intro r' hr'
          rcases List.mem_append.1 hr' with hr' | hr'
          · exact hS r' hr'
          · simp at hr'; subst hr'; omega
    · rcases hq with ⟨rfl, rfl⟩ | rfl
      · simp (disch := first | assumption | omega) only [e0, e2, e3, e4, eh, heq, go_sem, ↓reduceIte, Nat.reduceEqDiff, reduceCtorEq, Nat.reduceAdd, Nat.reduceLeDiff, Nat.reduceLT, reduceIte, Int.reduceBEq, Int.reduceBNe, Int.reduceLT, Int.reduceLE, Int.reduceAdd, Int.reduceSub, Int.reduceMul, Int.reduceNeg, Int.reduceEq, Int.reduceNe, Nat.reduceMul, Nat.reduceSub]
        refine fin _ (hstop heq) (by simp (disch := first | assumption | omega) only [e0, e2, e3, e4, eh, go_sem, ↓reduceIte, Nat.reduceEqDiff, reduceCtorEq, Nat.reduceAdd, Nat.reduceLeDiff, Nat.reduceLT, reduceIte, Int.reduceBEq, Int.reduceBNe, Int.reduceLT, Int.reduceLE, Int.reduceAdd, Int.reduceSub, Int.reduceMul, Int.reduceNeg, Int.reduceEq, Int.reduceNe, Nat.reduceMul, Nat.reduceSub]) (by simp (disch := first | assumption | omega) only [e0, e2, e3, e4, eh, go_sem, ↓reduceIte, Nat.reduceEqDiff, reduceCtorEq, Nat.reduceAdd, Nat.reduceLeDiff, Nat.reduceLT, reduceIte, Int.reduceBEq, Int.reduceBNe, Int.reduceLT, Int.reduceLE, Int.reduceAdd, Int.reduceSub, Int.reduceMul, Int.reduceNeg, Int.reduceEq, Int.reduceNe, Nat.reduceMul, Nat.reduceSub]) (by simp (disch := first | assumption | omega) only [e0, e2, e3, e4, eh, go_sem, ↓reduceIte, Nat.reduceEqDiff, reduceCtorEq, Nat.reduceAdd, Nat.reduceLeDiff, Nat.reduceLT, reduceIte, Int.reduceBEq, Int.reduceBNe, Int.reduceLT, Int.reduceLE, Int.reduceAdd, Int.reduceSub, Int.reduceMul, Int.reduceNeg, Int.reduceEq, Int.reduceNe, Nat.reduceMul, Nat.reduceSub]) (by simp (disch := first | assumption | omega) only [e0, e2, e3, e4, eh, go_sem, ↓reduceIte, Nat.reduceEqDiff, reduceCtorEq, Nat.reduceAdd, Nat.reduceLeDiff, Nat.reduceLT, reduceIte, Int.reduceBEq, Int.reduceBNe, Int.reduceLT, Int.reduceLE, Int.reduceAdd, Int.reduceSub, Int.reduceMul, Int.reduceNeg, Int.reduceEq, Int.reduceNe, Nat.reduceMul, Nat.reduceSub])
      · simp (disch := first | assumption | omega) only [e0, e2, e3, e4, eh, heq, go_sem, ↓reduceIte, Nat.reduceEqDiff, reduceCtorEq, Nat.reduceAdd, Nat.reduceLeDiff, Nat.reduceLT, reduceIte, Int.reduceBEq, Int.reduceBNe, Int.reduceLT, Int.reduceLE, Int.reduceAdd, Int.reduceSub, Int.reduceMul, Int.reduceNeg, Int.reduceEq, Int.reduceNe, Nat.reduceMul, Nat.reduceSub]
        refine fin _ (hstop heq) (by simp (disch := first | assumption | omega) only [e0, e2, e3, e4, eh, go_sem, ↓reduceIte, Nat.reduceEqDiff, reduceCtorEq, Nat.reduceAdd, Nat.reduceLeDiff, Nat.reduceLT, reduceIte, Int.reduceBEq, Int.reduceBNe, Int.reduceLT, Int.reduceLE, Int.reduceAdd, Int.reduceSub, Int.reduceMul, Int.reduceNeg, Int.reduceEq, Int.reduceNe, Nat.reduceMul, Nat.reduceSub]) (by simp (disch := first | assumption | omega) only [e0, e2, e3, e4, eh, go_sem, ↓reduceIte, Nat.reduceEqDiff, reduceCtorEq, Nat.reduceAdd, Nat.reduceLeDiff, Nat.reduceLT, reduceIte, Int.reduceBEq, Int.reduceBNe, Int.reduceLT, Int.reduceLE, Int.reduceAdd, Int.reduceSub, Int.reduceMul, Int.reduceNeg, Int.reduceEq, Int.reduceNe, Nat.reduceMul, Nat.reduceSub]) (by simp (disch := first | assumption | omega) only [e0, e2, e3, e4, eh, go_sem, ↓reduceIte, Nat.reduceEqDiff, reduceCtorEq, Nat.reduceAdd, Nat.reduceLeDiff, Nat.reduceLT, reduceIte, Int.reduceBEq, Int.reduceBNe, Int.reduceLT, Int.reduceLE, Int.reduceAdd, Int.reduceSub, Int.reduceMul, Int.reduceNeg, Int.reduceEq, Int.reduceNe, Nat.reduceMul, Nat.reduceSub]) (by simp (disch := first | assumption | omega) only [e0, e2, e3, e4, eh, go_sem, ↓reduceIte, Nat.reduceEqDiff, reduceCtorEq, Nat.reduceAdd, Nat.reduceLeDiff, Nat.reduceLT, reduceIte, Int.reduceBEq, Int.reduceBNe, Int.reduceLT, Int.reduceLE, Int.reduceAdd, Int.reduceSub, Int.reduceMul, Int.reduceNeg, Int.reduceEq, Int.reduceNe, Nat.reduceMul, Nat.reduceSub])
end Go.Proofs.Ytpdajkbfemcdlaa
/- Messages as lists of numbers. -/
set_option linter.unusedSimpArgs false
set_option linter.unusedVariables false
namespace Go.Proofs.Ytpdajkbfemcdlaa
open Go.Ge
/-- The number in bytes, the most significant first. -/
def val (l : List Int) : Int := l.foldl (fun n x => 256 * n + x) 0
theorem val_snoc (l : List Int) (x : Int) : val (l ++ [x]) = 256 * val l + x := by simp [val, List.foldl_append]
theorem val_take (l : List Int) (i : Nat) (h : i < l.length) : val (l.take (i + 1)) = 256 * val (l.take i) + l[i] := by
  rw [List.take_add_one, List.getElem?_eq_getElem h]; exact val_snoc _ _
theorem val_bd : ∀ (l : List Int), (∀ x ∈ l, inU8 x) → 0 ≤ val l ∧ val l < 256 ^ l.length := by
  intro l
  induction h : l.length generalizing l with
  | zero =>
    intro _
    obtain rfl := List.eq_nil_of_length_eq_zero h
    simp [val]
  | succ n ih =>
    intro hb
    have hne : l ≠ [] := by rintro rfl; simp at h
    obtain ⟨l', x, rfl⟩ : ∃ l' x, l = l' ++ [x] := ⟨l.dropLast, l.getLast hne, (List.dropLast_concat_getLast hne).symm⟩
    have hl : l'.length = n := by simpa using h
    obtain ⟨h1, h2⟩ := ih l' hl (fun y hy => hb y (by simp [hy]))
    have hx := hb x (by simp)
    unfold inU8 at hx
    rw [val_snoc, Int.pow_succ]
    omega
theorem val_bd4 {l : List Int} (hb : ∀ x ∈ l, inU8 x) (h : l.length ≤ 4) : 0 ≤ val l ∧ val l < 4294967296 := by
  obtain ⟨h1, h2⟩ := val_bd l hb
  refine ⟨h1, Int.lt_of_lt_of_le h2 ?_⟩
  have : ∀ n : Nat, n ≤ 4 → (256 : Int) ^ n ≤ 4294967296 := by
    intro n hn
    match n, hn with
    | 0, _ | 1, _ | 2, _ | 3, _ | 4, _ => decide
  exact this _ h
theorem val_be4 {n : Int} (h0 : 0 ≤ n) (h1 : n < 4294967296) : val (beBytes n 4) = n := by
  rw [be4]; simp only [val, List.foldl_cons, List.foldl_nil]; omega
theorem val_be2 {n : Int} (h0 : 0 ≤ n) (h1 : n < 65536) : val (beBytes n 2) = n := by
  rw [be2]; simp only [val, List.foldl_cons, List.foldl_nil]; omega
/-! ### What is written -/
def cellB (c : Cell) : List Int := [(c.X + 64) % 256, (c.Y + 64) % 256]
def cellsB (l : List Cell) : List Int := l.flatMap cellB
theorem cellsB_length (l : List Cell) : (cellsB l).length = 2 * l.length := by
  induction l with
  | nil => rfl
  | cons c l ih =>
    have e : cellsB (c :: l) = cellB c ++ cellsB l := rfl
    rw [e, List.length_append, ih, List.length_cons]
    simp only [cellB, List.length_cons, List.length_nil]; omega
theorem cellsB_snoc (l : List Cell) (c : Cell) : cellsB (l ++ [c]) = cellsB l ++ cellB c := by simp [cellsB]
def bodyB (m : Msg) : List Int := [m.Kind % 256, m.From % 256, m.To % 256] ++ beBytes m.Seq 4 ++ beBytes m.Clock 4 ++ beBytes m.Cells.length 2 ++ cellsB m.Cells
def frame (m : Msg) : List Int := bodyB m ++ four (iv (crc (bodyB m)))
theorem bodyB_length (m : Msg) : (bodyB m).length = 13 + 2 * m.Cells.length := by simp [bodyB, beBytes_length, cellsB_length]; omega
theorem frame_length (m : Msg) : (frame m).length = 17 + 2 * m.Cells.length := by simp [frame, bodyB_length, four_length]; omega
theorem cellsB_u8 (l : List Cell) : ∀ x ∈ cellsB l, inU8 x := by
  intro x hx
  simp only [cellsB, List.mem_flatMap, cellB, List.mem_cons, List.not_mem_nil, or_false] at hx
  obtain ⟨c, _, rfl | rfl⟩ := hx <;> unfold inU8 <;> omega
theorem bodyB_u8 (m : Msg) : ∀ x ∈ bodyB m, inU8 x := by
  intro x hx
  simp only [bodyB, List.mem_append, List.mem_cons, List.not_mem_nil, or_false] at hx
  rcases hx with (((hx | hx) | hx) | hx) | hx
  · rcases hx with rfl | rfl | rfl <;> unfold inU8 <;> omega
  · exact beBytes_u8 _ _ x hx
  · exact beBytes_u8 _ _ x hx
  · exact beBytes_u8 _ _ x hx
  · exact cellsB_u8 _ x hx
theorem frame_u8 (m : Msg) : ∀ x ∈ frame m, inU8 x := by
  intro x hx
  rcases List.mem_append.1 hx with hx | hx
  · exact bodyB_u8 m x hx
  · exact beBytes_u8 _ _ x hx
/-! ### What is read -/
def cellsOf : List Int → List Cell
  | x :: y :: l => ⟨x - 64, y - 64⟩ :: cellsOf l
  | _ => []
def msg0 : Msg := ⟨0, 0, 0, 0, 0, []⟩
def cnt (b : List Int) : Nat := (val ((b.drop 11).take 2)).toNat
def msgOf (b : List Int) : Msg := ⟨b.getD 0 0, b.getD 1 0, b.getD 2 0, val ((b.drop 3).take 4), val ((b.drop 7).take 4), cellsOf ((b.drop 13).take (2 * cnt b))⟩
/-- The error of bytes, or 0. -/
def unfE (b : List Int) : Int :=
  if b.length < 17 then 14 else if b.length < 17 + 2 * cnt b then 14 else if b.length > 17 + 2 * cnt b then 3
  else if val (b.drop (13 + 2 * cnt b)) ≠ iv (crc (b.take (13 + 2 * cnt b))) then 13 else 0
def readE (b : List Int) : Int := if unfE b ≠ 0 then unfE b else checkF (msgOf b)
theorem cellsOf_length : ∀ (n : Nat) (l : List Int), l.length = 2 * n → (cellsOf l).length = n
  | 0, [], _ => rfl
  | n + 1, x :: y :: l, h => by simp [cellsOf, cellsOf_length n l (by simpa using by simp at h; omega)]
  | n + 1, [_], h => by simp at h; omega
  | n + 1, [], h => by simp at h
  | 0, _ :: _, h => by simp at h
theorem cellsOf_B : ∀ (l : List Cell), (∀ c ∈ l, onG c.X ∧ onG c.Y) → cellsOf (cellsB l) = l
  | [], _ => rfl
  | c :: l, h => by
    have hc := h c (by simp)
    unfold onG at hc
    have ih := cellsOf_B l (fun c hc => h c (by simp [hc]))
    simp only [cellsB, List.flatMap_cons, cellB, List.cons_append, List.nil_append, cellsOf] at ih ⊢
    rw [ih]
    congr 1
    cases c; simp only [Cell.mk.injEq] at hc ⊢; omega
end Go.Proofs.Ytpdajkbfemcdlaa
/- Contracts: logs, read and written. -/
set_option linter.unusedSimpArgs false
set_option linter.unusedVariables false
set_option maxRecDepth 10000
namespace Go.Proofs.Ytpdajkbfemcdlaa
open Go.Ge
theorem Read_ok (o : Own) (b : List Int) (ho : Rdo o) (hb : ∀ x ∈ b, inU8 x) (hl : b.length ≤ 1099511627776) (h : List HObj) :
    ACalls Try.prog F.log_Read [.lst o (ints .u8 b)] h (fun v h' => (∃ rs x, v = .tup [x, .int .i64 (book 0 rs).length] ∧ Recs rs x ∧ IsScan b rs) ∧ h' = h) := by
  refine ACalls.of_aw Try.func63 K.log_Read (by simp [Try.f63]) ?_
  generalize hQ : retQ R.log_Read _ = Q
  simp (disch := first | assumption | omega) only [C.log_Read, go_sem, ↓reduceIte, Nat.reduceEqDiff, reduceCtorEq, Nat.reduceAdd, Nat.reduceLeDiff, Nat.reduceLT, reduceIte, Int.reduceBEq, Int.reduceBNe, Int.reduceLT, Int.reduceLE, Int.reduceAdd, Int.reduceSub, Int.reduceMul, Int.reduceNeg, Int.reduceEq, Int.reduceNe, Nat.reduceMul, Nat.reduceSub]
  refine callG_ok (scan_ok o b ho hb hl _) (by simp (disch := first | assumption | omega) only [go_sem, ↓reduceIte, Nat.reduceEqDiff, reduceCtorEq, Nat.reduceAdd, Nat.reduceLeDiff, Nat.reduceLT, reduceIte, Int.reduceBEq, Int.reduceBNe, Int.reduceLT, Int.reduceLE, Int.reduceAdd, Int.reduceSub, Int.reduceMul, Int.reduceNeg, Int.reduceEq, Int.reduceNe, Nat.reduceMul, Nat.reduceSub]) ?_
  rintro _ _ ⟨⟨rs, x, rfl, ⟨q, xs, rfl, hE, hq⟩, hS⟩, hhh⟩
  rw [hhh]
  clear hhh
  rcases hq with ⟨rfl, rfl⟩ | rfl
  · simp (disch := first | assumption | omega) only [go_sem, ↓reduceIte, Nat.reduceEqDiff, reduceCtorEq, Nat.reduceAdd, Nat.reduceLeDiff, Nat.reduceLT, reduceIte, Int.reduceBEq, Int.reduceBNe, Int.reduceLT, Int.reduceLE, Int.reduceAdd, Int.reduceSub, Int.reduceMul, Int.reduceNeg, Int.reduceEq, Int.reduceNe, Nat.reduceMul, Nat.reduceSub]
    subst hQ
    simp (disch := first | assumption | omega) only [R.log_Read, go_sem, ↓reduceIte, Nat.reduceEqDiff, reduceCtorEq, Nat.reduceAdd, Nat.reduceLeDiff, Nat.reduceLT, reduceIte, Int.reduceBEq, Int.reduceBNe, Int.reduceLT, Int.reduceLE, Int.reduceAdd, Int.reduceSub, Int.reduceMul, Int.reduceNeg, Int.reduceEq, Int.reduceNe, Nat.reduceMul, Nat.reduceSub]
    exact ⟨[], _, rfl, ⟨.nil, xs, rfl, hE, .inl ⟨rfl, rfl⟩⟩, hS⟩
  · simp (disch := first | assumption | omega) only [go_sem, ↓reduceIte, Nat.reduceEqDiff, reduceCtorEq, Nat.reduceAdd, Nat.reduceLeDiff, Nat.reduceLT, reduceIte, Int.reduceBEq, Int.reduceBNe, Int.reduceLT, Int.reduceLE, Int.reduceAdd, Int.reduceSub, Int.reduceMul, Int.reduceNeg, Int.reduceEq, Int.reduceNe, Nat.reduceMul, Nat.reduceSub]
    subst hQ
    simp (disch := first | assumption | omega) only [R.log_Read, go_sem, ↓reduceIte, Nat.reduceEqDiff, reduceCtorEq, Nat.reduceAdd, Nat.reduceLeDiff, Nat.reduceLT, reduceIte, Int.reduceBEq, Int.reduceBNe, Int.reduceLT, Int.reduceLE, Int.reduceAdd, Int.reduceSub, Int.reduceMul, Int.reduceNeg, Int.reduceEq, Int.reduceNe, Nat.reduceMul, Nat.reduceSub]
    exact ⟨rs, _, rfl, ⟨.app 1, xs, rfl, hE, .inr rfl⟩, hS⟩
/-- What comes of a record that is added. -/
def AddQ (b r : List Int) (v : AVal) : Prop :=
  2000 < r.length ∧ v = .tup [.lst .nil [], .int .i64 2] ∨ r.length ≤ 2000 ∧ ∃ rs, IsScan b rs ∧
    (100000 < (book 0 rs).length + 6 + r.length ∧ v = .tup [.lst .nil [], .int .i64 6] ∨ (book 0 rs).length + 6 + r.length ≤ 100000 ∧ v = .tup [.lst (.app 1) (ints .u8 (book 0 (rs ++ [r]))), .int .i64 0])
theorem Add_ok (o p : Own) (b r : List Int) (ho : Rdn o b) (hp : Rdn p r) (hb : ∀ x ∈ b, inU8 x) (hr : ∀ x ∈ r, inU8 x) (hl : b.length ≤ 1099511627776) (hrl : r.length ≤ 140737488351232) (h : List HObj) :
    ACalls Try.prog F.log_Add [.lst o (ints .u8 b), .lst p (ints .u8 r)] h (fun v h' => AddQ b r v ∧ h' = h) := by
  have ho1 := ho.1
  have hp1 := hp.1
  refine ACalls.of_aw Try.func61 K.log_Add (by simp [Try.f61]) ?_
  generalize hQ : retQ R.log_Add _ = Q
  simp (disch := first | assumption | omega) only [C.log_Add, go_sem, ↓reduceIte, Nat.reduceEqDiff, reduceCtorEq, Nat.reduceAdd, Nat.reduceLeDiff, Nat.reduceLT, reduceIte, Int.reduceBEq, Int.reduceBNe, Int.reduceLT, Int.reduceLE, Int.reduceAdd, Int.reduceSub, Int.reduceMul, Int.reduceNeg, Int.reduceEq, Int.reduceNe, Nat.reduceMul, Nat.reduceSub]
  by_cases hbig : 2000 < r.length
  · have hbig' : (2000 : Int) < r.length := by omega
    simp (disch := first | assumption | omega) only [hbig', go_sem, ↓reduceIte, Nat.reduceEqDiff, reduceCtorEq, Nat.reduceAdd, Nat.reduceLeDiff, Nat.reduceLT, reduceIte, Int.reduceBEq, Int.reduceBNe, Int.reduceLT, Int.reduceLE, Int.reduceAdd, Int.reduceSub, Int.reduceMul, Int.reduceNeg, Int.reduceEq, Int.reduceNe, Nat.reduceMul, Nat.reduceSub]
    subst hQ
    simp (disch := first | assumption | omega) only [R.log_Add, go_sem, ↓reduceIte, Nat.reduceEqDiff, reduceCtorEq, Nat.reduceAdd, Nat.reduceLeDiff, Nat.reduceLT, reduceIte, Int.reduceBEq, Int.reduceBNe, Int.reduceLT, Int.reduceLE, Int.reduceAdd, Int.reduceSub, Int.reduceMul, Int.reduceNeg, Int.reduceEq, Int.reduceNe, Nat.reduceMul, Nat.reduceSub]
    exact .inl ⟨hbig, rfl⟩
  have hbig' : ¬ (2000 : Int) < r.length := by omega
  simp (disch := first | assumption | omega) only [hbig', go_sem, ↓reduceIte, Nat.reduceEqDiff, reduceCtorEq, Nat.reduceAdd, Nat.reduceLeDiff, Nat.reduceLT, reduceIte, Int.reduceBEq, Int.reduceBNe, Int.reduceLT, Int.reduceLE, Int.reduceAdd, Int.reduceSub, Int.reduceMul, Int.reduceNeg, Int.reduceEq, Int.reduceNe, Nat.reduceMul, Nat.reduceSub]
  refine callG_ok (scan_ok o b ho.1 hb hl _) (by simp (disch := first | assumption | omega) only [go_sem, ↓reduceIte, Nat.reduceEqDiff, reduceCtorEq, Nat.reduceAdd, Nat.reduceLeDiff, Nat.reduceLT, reduceIte, Int.reduceBEq, Int.reduceBNe, Int.reduceLT, Int.reduceLE, Int.reduceAdd, Int.reduceSub, Int.reduceMul, Int.reduceNeg, Int.reduceEq, Int.reduceNe, Nat.reduceMul, Nat.reduceSub]) ?_
  rintro _ _ ⟨⟨rs, x, rfl, ⟨q, xs, rfl, hE, hq⟩, hS⟩, hhh⟩
  rw [hhh]
  clear hhh
  have hlast := lastOf_bd 0 rs (by omega) (by omega)
  have hpl := hS.pre.length_le
  rcases Nat.lt_or_ge 100000 ((book 0 rs).length + 6 + r.length) with e2 | e2
  · have hfull : (100000 : Int) < (book 0 rs).length + 6 + r.length := by omega
    rcases hq with ⟨rfl, rfl⟩ | rfl
    · simp (disch := first | assumption | omega) only [hfull, go_sem, ↓reduceIte, Nat.reduceEqDiff, reduceCtorEq, Nat.reduceAdd, Nat.reduceLeDiff, Nat.reduceLT, reduceIte, Int.reduceBEq, Int.reduceBNe, Int.reduceLT, Int.reduceLE, Int.reduceAdd, Int.reduceSub, Int.reduceMul, Int.reduceNeg, Int.reduceEq, Int.reduceNe, Nat.reduceMul, Nat.reduceSub]
      subst hQ
      simp (disch := first | assumption | omega) only [R.log_Add, go_sem, ↓reduceIte, Nat.reduceEqDiff, reduceCtorEq, Nat.reduceAdd, Nat.reduceLeDiff, Nat.reduceLT, reduceIte, Int.reduceBEq, Int.reduceBNe, Int.reduceLT, Int.reduceLE, Int.reduceAdd, Int.reduceSub, Int.reduceMul, Int.reduceNeg, Int.reduceEq, Int.reduceNe, Nat.reduceMul, Nat.reduceSub]
      exact .inr ⟨by omega, [], hS, .inl ⟨e2, rfl⟩⟩
    · simp (disch := first | assumption | omega) only [hfull, go_sem, ↓reduceIte, Nat.reduceEqDiff, reduceCtorEq, Nat.reduceAdd, Nat.reduceLeDiff, Nat.reduceLT, reduceIte, Int.reduceBEq, Int.reduceBNe, Int.reduceLT, Int.reduceLE, Int.reduceAdd, Int.reduceSub, Int.reduceMul, Int.reduceNeg, Int.reduceEq, Int.reduceNe, Nat.reduceMul, Nat.reduceSub]
      subst hQ
      simp (disch := first | assumption | omega) only [R.log_Add, go_sem, ↓reduceIte, Nat.reduceEqDiff, reduceCtorEq, Nat.reduceAdd, Nat.reduceLeDiff, Nat.reduceLT, reduceIte, Int.reduceBEq, Int.reduceBNe, Int.reduceLT, Int.reduceLE, Int.reduceAdd, Int.reduceSub, Int.reduceMul, Int.reduceNeg, Int.reduceEq, Int.reduceNe, Nat.reduceMul, Nat.reduceSub]
      exact .inr ⟨by omega, rs, hS, .inl ⟨e2, rfl⟩⟩
  · have hfull : ¬ (100000 : Int) < (book 0 rs).length + 6 + r.length := by omega
    have htk : List.take ((book 0 rs).length) (ints .u8 b) = ints .u8 (book 0 rs) := by
      rw [ints_take]; congr 1; exact (List.prefix_iff_eq_take.1 hS.pre).symm
    have hs := logSum_bd (lastOf 0 rs) r
    have hlen : (book 0 (rs ++ [r])).length = (book 0 rs).length + 6 + r.length := by rw [book_snoc, List.length_append, recB_length]; omega
    have hbk : ints .u8 (book 0 (rs ++ [r])) = ints .u8 (book 0 rs) ++ (AVal.int .u8 (IntKind.u8.wrap ((r.length : Int) / 256)) :: AVal.int .u8 (IntKind.u8.wrap (r.length : Int)) :: (ints .u8 r ++ ints .u8 (four (logSum (lastOf 0 rs) r)))) := by
      rw [book_snoc, recB, be2]
      simp [ints, wrapU8_mod]
    rcases hq with ⟨e0, e3⟩ | e3 <;> subst e3
    case' inr =>
      simp (disch := first | assumption | omega) only [hfull, htk, shr8' (Int.natCast_nonneg r.length), go_sem, ↓reduceIte, Nat.reduceEqDiff, reduceCtorEq, Nat.reduceAdd, Nat.reduceLeDiff, Nat.reduceLT, reduceIte, Int.reduceBEq, Int.reduceBNe, Int.reduceLT, Int.reduceLE, Int.reduceAdd, Int.reduceSub, Int.reduceMul, Int.reduceNeg, Int.reduceEq, Int.reduceNe, Nat.reduceMul, Nat.reduceSub]
    case' inl =>
      subst e0
      simp (disch := first | assumption | omega) only [hfull, htk, shr8' (Int.natCast_nonneg r.length), go_sem, ↓reduceIte, Nat.reduceEqDiff, reduceCtorEq, Nat.reduceAdd, Nat.reduceLeDiff, Nat.reduceLT, reduceIte, Int.reduceBEq, Int.reduceBNe, Int.reduceLT, Int.reduceLE, Int.reduceAdd, Int.reduceSub, Int.reduceMul, Int.reduceNeg, Int.reduceEq, Int.reduceNe, Nat.reduceMul, Nat.reduceSub]
    all_goals
      refine ⟨⟨by omega, ints_width b⟩, ints_width _, by omega, by omega, by omega, by omega, ints_width _, by omega, by omega, ?_⟩
      refine callG_ok (sum_ok _ p r hp hlast.1 hlast.2 hr (by omega) _) (by simp (disch := first | assumption | omega) only [go_sem, ↓reduceIte, Nat.reduceEqDiff, reduceCtorEq, Nat.reduceAdd, Nat.reduceLeDiff, Nat.reduceLT, reduceIte, Int.reduceBEq, Int.reduceBNe, Int.reduceLT, Int.reduceLE, Int.reduceAdd, Int.reduceSub, Int.reduceMul, Int.reduceNeg, Int.reduceEq, Int.reduceNe, Nat.reduceMul, Nat.reduceSub]) ?_
      rintro _ _ ⟨rfl, hhh⟩
      rw [hhh]
      clear hhh
      simp (disch := first | assumption | omega) only [go_sem, ↓reduceIte, Nat.reduceEqDiff, reduceCtorEq, Nat.reduceAdd, Nat.reduceLeDiff, Nat.reduceLT, reduceIte, Int.reduceBEq, Int.reduceBNe, Int.reduceLT, Int.reduceLE, Int.reduceAdd, Int.reduceSub, Int.reduceMul, Int.reduceNeg, Int.reduceEq, Int.reduceNe, Nat.reduceMul, Nat.reduceSub]
      refine callG_ok (four_ok _ hs.1 hs.2 _) (by simp (disch := first | assumption | omega) only [go_sem, ↓reduceIte, Nat.reduceEqDiff, reduceCtorEq, Nat.reduceAdd, Nat.reduceLeDiff, Nat.reduceLT, reduceIte, Int.reduceBEq, Int.reduceBNe, Int.reduceLT, Int.reduceLE, Int.reduceAdd, Int.reduceSub, Int.reduceMul, Int.reduceNeg, Int.reduceEq, Int.reduceNe, Nat.reduceMul, Nat.reduceSub]) ?_
      rintro _ _ ⟨rfl, hhh⟩
      rw [hhh]
      clear hhh
      simp (disch := first | assumption | omega) only [four_length, go_sem, ↓reduceIte, Nat.reduceEqDiff, reduceCtorEq, Nat.reduceAdd, Nat.reduceLeDiff, Nat.reduceLT, reduceIte, Int.reduceBEq, Int.reduceBNe, Int.reduceLT, Int.reduceLE, Int.reduceAdd, Int.reduceSub, Int.reduceMul, Int.reduceNeg, Int.reduceEq, Int.reduceNe, Nat.reduceMul, Nat.reduceSub]
      refine ⟨ints_width _, by omega, by omega, ?_⟩
      subst hQ
      simp (disch := first | assumption | omega) only [R.log_Add, go_sem, ↓reduceIte, Nat.reduceEqDiff, reduceCtorEq, Nat.reduceAdd, Nat.reduceLeDiff, Nat.reduceLT, reduceIte, Int.reduceBEq, Int.reduceBNe, Int.reduceLT, Int.reduceLE, Int.reduceAdd, Int.reduceSub, Int.reduceMul, Int.reduceNeg, Int.reduceEq, Int.reduceNe, Nat.reduceMul, Nat.reduceSub]
      refine .inr ⟨by omega, _, hS, .inr ⟨by omega, ?_⟩⟩
      rw [hbk]
theorem take_snoc {α : Type} {l : List α} {i : Nat} (h : i < l.length) : l.take (i + 1) = l.take i ++ [l[i]] := by
  rw [List.take_add_one, List.getElem?_eq_getElem h]; rfl
end Go.Proofs.Ytpdajkbfemcdlaa
/- Contracts: the second implementation's logs. -/
set_option linter.unusedSimpArgs false
set_option linter.unusedVariables false
set_option maxRecDepth 10000
namespace Go.Proofs.Ytpdajkbfemcdlaa
open Go.Ge
theorem RecOk.sh (l : List Int) : RecOk l (.lst .sh (ints .u8 l)) := ⟨.sh, ⟨.inl rfl, fun e => by cases e⟩, rfl⟩
theorem RecOk.of {o : Own} {l : List Int} (h : Rdn o l) : RecOk l (.lst o (ints .u8 l)) := ⟨o, h, rfl⟩
end Go.Proofs.Ytpdajkbfemcdlaa
/- Contracts: small sorts of cells. -/
set_option linter.unusedSimpArgs false
set_option linter.unusedVariables false
set_option maxRecDepth 10000
namespace Go.Proofs.Ytpdajkbfemcdlaa
open Go.Ge
/-- The cells of cells. -/
def flatC (l : List Cell) : List AVal := l.flatMap fun c => [.int .i64 c.X, .int .i64 c.Y]
theorem flatC_length (l : List Cell) : (flatC l).length = l.length * 2 := by
  induction l with
  | nil => rfl
  | cons c l ih =>
    have e : flatC (c :: l) = [.int .i64 c.X, .int .i64 c.Y] ++ flatC l := rfl
    rw [e, List.length_append, ih, List.length_cons]; simp; omega
theorem flatC_append (a b : List Cell) : flatC (a ++ b) = flatC a ++ flatC b := by simp [flatC]
theorem flatC_cells (l : List Cell) : (cellsA l).flatMap AVal.cells = flatC l := by
  induction l with
  | nil => rfl
  | cons c l ih =>
    have e : cellsA (c :: l) = cellA c :: cellsA l := rfl
    rw [e, List.flatMap_cons, ih]; rfl
theorem flatC_split {l : List Cell} {j : Nat} (h : j < l.length) : flatC l = flatC (l.take j) ++ ([.int .i64 l[j].X, .int .i64 l[j].Y] ++ flatC (l.drop (j + 1))) := by
  conv => lhs; rw [← List.take_append_drop j l, List.drop_eq_getElem_cons h]
  rw [flatC_append]; rfl
theorem flatC_get {l : List Cell} {j : Nat} {rest : List AVal} (h : j < l.length) : ((flatC l ++ rest).drop (j * 2)).take 2 = [.int .i64 l[j].X, .int .i64 l[j].Y] := by
  rw [flatC_split h, List.append_assoc, List.drop_append_of_le_length (by rw [flatC_length, List.length_take]; omega)]
  rw [List.drop_of_length_le (by rw [flatC_length, List.length_take]; omega)]
  rfl
theorem flatC_set {l : List Cell} {j : Nat} {rest : List AVal} {c : Cell} (h : j < l.length) : fillV (flatC l ++ rest) (j * 2) [.int .i64 c.X, .int .i64 c.Y] = flatC (l.set j c) ++ rest := by
  have hl : (flatC (l.take j)).length = j * 2 := by rw [flatC_length, List.length_take]; omega
  have e1 : flatC (l.set j c) = flatC (l.take j) ++ ([.int .i64 c.X, .int .i64 c.Y] ++ flatC (l.drop (j + 1))) := by
    rw [List.set_eq_take_append_cons_drop, if_pos h, flatC_append]; rfl
  rw [e1, flatC_split h]
  generalize flatC (l.take j) = A at *
  generalize flatC (l.drop (j + 1)) = B at *
  unfold fillV
  have e2 : A ++ ([AVal.int .i64 l[j].X, AVal.int .i64 l[j].Y] ++ B) ++ rest = A ++ ([AVal.int .i64 l[j].X, AVal.int .i64 l[j].Y] ++ (B ++ rest)) := by simp
  have e3 : A ++ ([AVal.int .i64 l[j].X, AVal.int .i64 l[j].Y] ++ B) ++ rest = (A ++ [AVal.int .i64 l[j].X, AVal.int .i64 l[j].Y]) ++ (B ++ rest) := by simp
  have t1 : (A ++ ([AVal.int .i64 l[j].X, AVal.int .i64 l[j].Y] ++ B) ++ rest).take (j * 2) = A := by rw [e2, List.take_left' hl]
  have t2 : (A ++ ([AVal.int .i64 l[j].X, AVal.int .i64 l[j].Y] ++ B) ++ rest).drop (j * 2 + [AVal.int .i64 c.X, AVal.int .i64 c.Y].length) = B ++ rest := by rw [e3, List.drop_left' (by simp [hl])]
  rw [t1, t2]
  simp
theorem set_same {h : List HObj} {id : Nat} {x : HObj} (e : h[id]? = some x) : h.set id x = h := by
  obtain ⟨hl, e⟩ := List.getElem?_eq_some_iff.1 e
  rw [← e]; exact List.set_getElem_self _
theorem insSort_ok (f : Nat) (l : List Cell) (id cap : Nat) (rest : List AVal) (h : List HObj) (hid : h[id]? = some (.cells (flatC l ++ rest))) (hn : l.length ≤ 1099511627776)
    (hf : ∀ (a b : Cell) (h : List HObj), ACalls Try.prog f [cellA a, cellA b] h (fun v h' => (∃ x, v = .int .i64 x) ∧ h' = h)) :
    ACalls Try.prog F.slices_insertionSortCmpFunc_Cell [.ref id 0 l.length cap, .int .i64 0, .int .i64 l.length, .func f []] h
      (fun v h' => v = .tup [] ∧ ∃ l', l'.length = l.length ∧ (∀ c ∈ l', c ∈ l) ∧ h' = h.set id (.cells (flatC l' ++ rest))) := by
  have hidl : id < h.length := (List.getElem?_eq_some_iff.1 hid).1
  refine ACalls.of_aw Try.func219 K.slices_insertionSortCmpFunc_Cell (by simp [Try.f219]) ?_
  generalize hQ : retQ R.slices_insertionSortCmpFunc_Cell _ = Q
  simp (disch := first | assumption | omega) only [C.slices_insertionSortCmpFunc_Cell, go_sem, ↓reduceIte, Nat.reduceEqDiff, reduceCtorEq, Nat.reduceAdd, Nat.reduceLeDiff, Nat.reduceLT, reduceIte, Int.reduceBEq, Int.reduceBNe, Int.reduceLT, Int.reduceLE, Int.reduceAdd, Int.reduceSub, Int.reduceMul, Int.reduceNeg, Int.reduceEq, Int.reduceNe, Nat.reduceMul, Nat.reduceSub]
  refine aw_count (fun d S => ∃ (i : Nat) (l' : List Cell), i + d = l.length + 1 ∧ 1 ≤ i ∧ S.env 8 = .int .i64 i ∧ S.env 0 = .ref id 0 l.length cap ∧ S.env 1 = .int .i64 0 ∧ S.env 2 = .int .i64 l.length ∧ S.env 3 = .func f [] ∧ l'.length = l.length ∧ (∀ c ∈ l', c ∈ l) ∧ S.heap = h.set id (.cells (flatC l' ++ rest))) (n := l.length)
    ⟨1, l, by omega, by omega, by simp (disch := first | assumption | omega) only [go_sem, ↓reduceIte, Nat.reduceEqDiff, reduceCtorEq, Nat.reduceAdd, Nat.reduceLeDiff, Nat.reduceLT, reduceIte, Int.reduceBEq, Int.reduceBNe, Int.reduceLT, Int.reduceLE, Int.reduceAdd, Int.reduceSub, Int.reduceMul, Int.reduceNeg, Int.reduceEq, Int.reduceNe, Nat.reduceMul, Nat.reduceSub]; rfl, by simp (disch := first | assumption | omega) only [go_sem, ↓reduceIte, Nat.reduceEqDiff, reduceCtorEq, Nat.reduceAdd, Nat.reduceLeDiff, Nat.reduceLT, reduceIte, Int.reduceBEq, Int.reduceBNe, Int.reduceLT, Int.reduceLE, Int.reduceAdd, Int.reduceSub, Int.reduceMul, Int.reduceNeg, Int.reduceEq, Int.reduceNe, Nat.reduceMul, Nat.reduceSub], by simp (disch := first | assumption | omega) only [go_sem, ↓reduceIte, Nat.reduceEqDiff, reduceCtorEq, Nat.reduceAdd, Nat.reduceLeDiff, Nat.reduceLT, reduceIte, Int.reduceBEq, Int.reduceBNe, Int.reduceLT, Int.reduceLE, Int.reduceAdd, Int.reduceSub, Int.reduceMul, Int.reduceNeg, Int.reduceEq, Int.reduceNe, Nat.reduceMul, Nat.reduceSub], by simp (disch := first | assumption | omega) only [go_sem, ↓reduceIte, Nat.reduceEqDiff, reduceCtorEq, Nat.reduceAdd, Nat.reduceLeDiff, Nat.reduceLT, reduceIte, Int.reduceBEq, Int.reduceBNe, Int.reduceLT, Int.reduceLE, Int.reduceAdd, Int.reduceSub, Int.reduceMul, Int.reduceNeg, Int.reduceEq, Int.reduceNe, Nat.reduceMul, Nat.reduceSub], by simp (disch := first | assumption | omega) only [go_sem, ↓reduceIte, Nat.reduceEqDiff, reduceCtorEq, Nat.reduceAdd, Nat.reduceLeDiff, Nat.reduceLT, reduceIte, Int.reduceBEq, Int.reduceBNe, Int.reduceLT, Int.reduceLE, Int.reduceAdd, Int.reduceSub, Int.reduceMul, Int.reduceNeg, Int.reduceEq, Int.reduceNe, Nat.reduceMul, Nat.reduceSub], rfl, fun c hc => hc, ?_⟩ ?_
  · simp (disch := first | assumption | omega) only [go_sem, ↓reduceIte, Nat.reduceEqDiff, reduceCtorEq, Nat.reduceAdd, Nat.reduceLeDiff, Nat.reduceLT, reduceIte, Int.reduceBEq, Int.reduceBNe, Int.reduceLT, Int.reduceLE, Int.reduceAdd, Int.reduceSub, Int.reduceMul, Int.reduceNeg, Int.reduceEq, Int.reduceNe, Nat.reduceMul, Nat.reduceSub]
    rw [set_same hid]
  rintro d S ⟨i, l', hi, hi1, e8, e0, e1, e2, e3, hl', hm, eh⟩
  simp (disch := first | assumption | omega) only [e8, e0, e1, e2, e3, eh, go_sem, ↓reduceIte, Nat.reduceEqDiff, reduceCtorEq, Nat.reduceAdd, Nat.reduceLeDiff, Nat.reduceLT, reduceIte, Int.reduceBEq, Int.reduceBNe, Int.reduceLT, Int.reduceLE, Int.reduceAdd, Int.reduceSub, Int.reduceMul, Int.reduceNeg, Int.reduceEq, Int.reduceNe, Nat.reduceMul, Nat.reduceSub]
  refine condG_if (fun hlt => ?_) fun hge => ?_
  · have hil : i < l.length := by omega
    simp (disch := first | assumption | omega) only [e8, e0, e1, e2, e3, eh, go_sem, ↓reduceIte, Nat.reduceEqDiff, reduceCtorEq, Nat.reduceAdd, Nat.reduceLeDiff, Nat.reduceLT, reduceIte, Int.reduceBEq, Int.reduceBNe, Int.reduceLT, Int.reduceLE, Int.reduceAdd, Int.reduceSub, Int.reduceMul, Int.reduceNeg, Int.reduceEq, Int.reduceNe, Nat.reduceMul, Nat.reduceSub]
    refine aw_count (fun d' S' => ∃ (l'' : List Cell), d' < l.length ∧ S'.env 9 = .int .i64 d' ∧ S'.env 8 = .int .i64 i ∧ S'.env 0 = .ref id 0 l.length cap ∧ S'.env 1 = .int .i64 0 ∧ S'.env 2 = .int .i64 l.length ∧ S'.env 3 = .func f [] ∧ l''.length = l.length ∧ (∀ c ∈ l'', c ∈ l) ∧ S'.heap = h.set id (.cells (flatC l'' ++ rest))) (n := i)
      ⟨l', hil, by simp (disch := first | assumption | omega) only [e8, e0, e1, e2, e3, eh, go_sem, ↓reduceIte, Nat.reduceEqDiff, reduceCtorEq, Nat.reduceAdd, Nat.reduceLeDiff, Nat.reduceLT, reduceIte, Int.reduceBEq, Int.reduceBNe, Int.reduceLT, Int.reduceLE, Int.reduceAdd, Int.reduceSub, Int.reduceMul, Int.reduceNeg, Int.reduceEq, Int.reduceNe, Nat.reduceMul, Nat.reduceSub], by simp (disch := first | assumption | omega) only [e8, e0, e1, e2, e3, eh, go_sem, ↓reduceIte, Nat.reduceEqDiff, reduceCtorEq, Nat.reduceAdd, Nat.reduceLeDiff, Nat.reduceLT, reduceIte, Int.reduceBEq, Int.reduceBNe, Int.reduceLT, Int.reduceLE, Int.reduceAdd, Int.reduceSub, Int.reduceMul, Int.reduceNeg, Int.reduceEq, Int.reduceNe, Nat.reduceMul, Nat.reduceSub], by simp (disch := first | assumption | omega) only [e8, e0, e1, e2, e3, eh, go_sem, ↓reduceIte, Nat.reduceEqDiff, reduceCtorEq, Nat.reduceAdd, Nat.reduceLeDiff, Nat.reduceLT, reduceIte, Int.reduceBEq, Int.reduceBNe, Int.reduceLT, Int.reduceLE, Int.reduceAdd, Int.reduceSub, Int.reduceMul, Int.reduceNeg, Int.reduceEq, Int.reduceNe, Nat.reduceMul, Nat.reduceSub], by simp (disch := first | assumption | omega) only [e8, e0, e1, e2, e3, eh, go_sem, ↓reduceIte, Nat.reduceEqDiff, reduceCtorEq, Nat.reduceAdd, Nat.reduceLeDiff, Nat.reduceLT, reduceIte, Int.reduceBEq, Int.reduceBNe, Int.reduceLT, Int.reduceLE, Int.reduceAdd, Int.reduceSub, Int.reduceMul, Int.reduceNeg, Int.reduceEq, Int.reduceNe, Nat.reduceMul, Nat.reduceSub], by simp (disch := first | assumption | omega) only [e8, e0, e1, e2, e3, eh, go_sem, ↓reduceIte, Nat.reduceEqDiff, reduceCtorEq, Nat.reduceAdd, Nat.reduceLeDiff, Nat.reduceLT, reduceIte, Int.reduceBEq, Int.reduceBNe, Int.reduceLT, Int.reduceLE, Int.reduceAdd, Int.reduceSub, Int.reduceMul, Int.reduceNeg, Int.reduceEq, Int.reduceNe, Nat.reduceMul, Nat.reduceSub], by simp (disch := first | assumption | omega) only [e8, e0, e1, e2, e3, eh, go_sem, ↓reduceIte, Nat.reduceEqDiff, reduceCtorEq, Nat.reduceAdd, Nat.reduceLeDiff, Nat.reduceLT, reduceIte, Int.reduceBEq, Int.reduceBNe, Int.reduceLT, Int.reduceLE, Int.reduceAdd, Int.reduceSub, Int.reduceMul, Int.reduceNeg, Int.reduceEq, Int.reduceNe, Nat.reduceMul, Nat.reduceSub], hl', hm, by simp (disch := first | assumption | omega) only [e8, e0, e1, e2, e3, eh, go_sem, ↓reduceIte, Nat.reduceEqDiff, reduceCtorEq, Nat.reduceAdd, Nat.reduceLeDiff, Nat.reduceLT, reduceIte, Int.reduceBEq, Int.reduceBNe, Int.reduceLT, Int.reduceLE, Int.reduceAdd, Int.reduceSub, Int.reduceMul, Int.reduceNeg, Int.reduceEq, Int.reduceNe, Nat.reduceMul, Nat.reduceSub]⟩ ?_
    rintro d' S' ⟨l'', hd, g9, g8, g0, g1, g2, g3, hl'', hm'', gh⟩
    have hget : (h.set id (.cells (flatC l'' ++ rest)))[id]? = some (.cells (flatC l'' ++ rest)) := List.getElem?_set_self hidl
    by_cases hj : 0 < d'
    · have hj' : (0 : Int) < d' := by omega
      have hj1 : ((d' : Int) - 1).toNat = d' - 1 := by omega
      have q1 := flatC_get (l := l'') (j := d') (rest := rest) (by omega)
      have q2 := flatC_get (l := l'') (j := d' - 1) (rest := rest) (by omega)
      simp (disch := first | assumption | omega) only [g9, g8, g0, g1, g2, g3, gh, hj', hj1, hget, q1, q2, go_sem, ↓reduceIte, Nat.reduceEqDiff, reduceCtorEq, Nat.reduceAdd, Nat.reduceLeDiff, Nat.reduceLT, reduceIte, Int.reduceBEq, Int.reduceBNe, Int.reduceLT, Int.reduceLE, Int.reduceAdd, Int.reduceSub, Int.reduceMul, Int.reduceNeg, Int.reduceEq, Int.reduceNe, Nat.reduceMul, Nat.reduceSub]
      refine ⟨by omega, by rw [flatC_length]; omega, ⟨by omega, by omega⟩, by rw [flatC_length]; omega, ?_⟩
      refine callvqG_ok (hf l''[d'] l''[d' - 1] _) (by simp (disch := first | assumption | omega) only [go_sem, ↓reduceIte, Nat.reduceEqDiff, reduceCtorEq, Nat.reduceAdd, Nat.reduceLeDiff, Nat.reduceLT, reduceIte, Int.reduceBEq, Int.reduceBNe, Int.reduceLT, Int.reduceLE, Int.reduceAdd, Int.reduceSub, Int.reduceMul, Int.reduceNeg, Int.reduceEq, Int.reduceNe, Nat.reduceMul, Nat.reduceSub]) ?_
      rintro _ _ ⟨⟨x, rfl⟩, hhh⟩
      rw [hhh]
      clear hhh
      refine ⟨rfl, ?_⟩
      by_cases hx : x < 0
      · have s1 := flatC_set (l := l'') (j := d') (rest := rest) (c := l''[d' - 1]) (by omega)
        have s2 := flatC_set (l := l''.set d' l''[d' - 1]) (j := d' - 1) (rest := rest) (c := l''[d']) (by simp; omega)
        have hget2 : (h.set id (.cells (flatC (l''.set d' l''[d' - 1]) ++ rest)))[id]? = some (.cells (flatC (l''.set d' l''[d' - 1]) ++ rest)) := List.getElem?_set_self hidl
        simp (disch := first | assumption | omega) only [g9, g8, g0, g1, g2, g3, gh, hj', hj1, hget, q1, q2, hx, s1, s2, hget2, List.set_set, go_sem, ↓reduceIte, Nat.reduceEqDiff, reduceCtorEq, Nat.reduceAdd, Nat.reduceLeDiff, Nat.reduceLT, reduceIte, Int.reduceBEq, Int.reduceBNe, Int.reduceLT, Int.reduceLE, Int.reduceAdd, Int.reduceSub, Int.reduceMul, Int.reduceNeg, Int.reduceEq, Int.reduceNe, Nat.reduceMul, Nat.reduceSub]
        refine ⟨⟨by omega, by omega⟩, by rw [flatC_length]; omega, by omega, by rw [flatC_length]; omega, by omega, by rw [flatC_length]; omega, ⟨by omega, by omega⟩, by rw [flatC_length, List.length_set]; omega, d' - 1, by omega, (l''.set d' l''[d' - 1]).set (d' - 1) l''[d'], by omega, by congr 1; omega, by rw [List.length_set, List.length_set]; exact hl'', ?_, rfl⟩
        intro c hc
        rcases List.mem_or_eq_of_mem_set hc with hc | rfl
        · rcases List.mem_or_eq_of_mem_set hc with hc | rfl
          · exact hm'' c hc
          · exact hm'' _ (List.getElem_mem _)
        · exact hm'' _ (List.getElem_mem _)
      · simp (disch := first | assumption | omega) only [g9, g8, g0, g1, g2, g3, gh, hj', hj1, hget, q1, q2, hx, go_sem, ↓reduceIte, Nat.reduceEqDiff, reduceCtorEq, Nat.reduceAdd, Nat.reduceLeDiff, Nat.reduceLT, reduceIte, Int.reduceBEq, Int.reduceBNe, Int.reduceLT, Int.reduceLE, Int.reduceAdd, Int.reduceSub, Int.reduceMul, Int.reduceNeg, Int.reduceEq, Int.reduceNe, Nat.reduceMul, Nat.reduceSub]
        refine ⟨d - 1, by omega, i + 1, l'', by omega, by omega, by simp, hl'', hm'', rfl⟩
    · have hj' : ¬ (0 : Int) < d' := by omega
      simp (disch := first | assumption | omega) only [g9, g8, g0, g1, g2, g3, gh, hj', go_sem, ↓reduceIte, Nat.reduceEqDiff, reduceCtorEq, Nat.reduceAdd, Nat.reduceLeDiff, Nat.reduceLT, reduceIte, Int.reduceBEq, Int.reduceBNe, Int.reduceLT, Int.reduceLE, Int.reduceAdd, Int.reduceSub, Int.reduceMul, Int.reduceNeg, Int.reduceEq, Int.reduceNe, Nat.reduceMul, Nat.reduceSub]
      refine ⟨d - 1, by omega, i + 1, l'', by omega, by omega, by simp, hl'', hm'', rfl⟩
  · simp (disch := first | assumption | omega) only [e8, e0, e1, e2, e3, eh, go_sem, ↓reduceIte, Nat.reduceEqDiff, reduceCtorEq, Nat.reduceAdd, Nat.reduceLeDiff, Nat.reduceLT, reduceIte, Int.reduceBEq, Int.reduceBNe, Int.reduceLT, Int.reduceLE, Int.reduceAdd, Int.reduceSub, Int.reduceMul, Int.reduceNeg, Int.reduceEq, Int.reduceNe, Nat.reduceMul, Nat.reduceSub]
    subst hQ
    simp (disch := first | assumption | omega) only [R.slices_insertionSortCmpFunc_Cell, e8, e0, e1, e2, e3, eh, go_sem, ↓reduceIte, Nat.reduceEqDiff, reduceCtorEq, Nat.reduceAdd, Nat.reduceLeDiff, Nat.reduceLT, reduceIte, Int.reduceBEq, Int.reduceBNe, Int.reduceLT, Int.reduceLE, Int.reduceAdd, Int.reduceSub, Int.reduceMul, Int.reduceNeg, Int.reduceEq, Int.reduceNe, Nat.reduceMul, Nat.reduceSub]
    exact ⟨l', hl', hm, rfl⟩
theorem pdqSmall_ok (f : Nat) (l : List Cell) (id cap : Nat) (rest : List AVal) (lim : Int) (h : List HObj) (hid : h[id]? = some (.cells (flatC l ++ rest))) (hn : l.length ≤ 12)
    (hf : ∀ (a b : Cell) (h : List HObj), ACalls Try.prog f [cellA a, cellA b] h (fun v h' => (∃ x, v = .int .i64 x) ∧ h' = h)) :
    ACalls Try.prog F.slices_pdqsortCmpFunc_Cell [.ref id 0 l.length cap, .int .i64 0, .int .i64 l.length, .int .i64 lim, .func f []] h
      (fun v h' => v = .tup [] ∧ ∃ l', l'.length = l.length ∧ (∀ c ∈ l', c ∈ l) ∧ h' = h.set id (.cells (flatC l' ++ rest))) := by
  refine ACalls.of_aw Try.func203 K.slices_pdqsortCmpFunc_Cell (by simp [Try.f203]) ?_
  generalize hQ : retQ R.slices_pdqsortCmpFunc_Cell _ = Q
  simp (disch := first | assumption | omega) only [C.slices_pdqsortCmpFunc_Cell, go_sem, ↓reduceIte, Nat.reduceEqDiff, reduceCtorEq, Nat.reduceAdd, Nat.reduceLeDiff, Nat.reduceLT, reduceIte, Int.reduceBEq, Int.reduceBNe, Int.reduceLT, Int.reduceLE, Int.reduceAdd, Int.reduceSub, Int.reduceMul, Int.reduceNeg, Int.reduceEq, Int.reduceNe, Nat.reduceMul, Nat.reduceSub]
  refine aw_count (fun d S => S.env 0 = .ref id 0 l.length cap ∧ S.env 1 = .int .i64 0 ∧ S.env 2 = .int .i64 l.length ∧ S.env 4 = .func f [] ∧ S.heap = h) (n := 0) ⟨by simp (disch := first | assumption | omega) only [go_sem, ↓reduceIte, Nat.reduceEqDiff, reduceCtorEq, Nat.reduceAdd, Nat.reduceLeDiff, Nat.reduceLT, reduceIte, Int.reduceBEq, Int.reduceBNe, Int.reduceLT, Int.reduceLE, Int.reduceAdd, Int.reduceSub, Int.reduceMul, Int.reduceNeg, Int.reduceEq, Int.reduceNe, Nat.reduceMul, Nat.reduceSub], by simp (disch := first | assumption | omega) only [go_sem, ↓reduceIte, Nat.reduceEqDiff, reduceCtorEq, Nat.reduceAdd, Nat.reduceLeDiff, Nat.reduceLT, reduceIte, Int.reduceBEq, Int.reduceBNe, Int.reduceLT, Int.reduceLE, Int.reduceAdd, Int.reduceSub, Int.reduceMul, Int.reduceNeg, Int.reduceEq, Int.reduceNe, Nat.reduceMul, Nat.reduceSub], by simp (disch := first | assumption | omega) only [go_sem, ↓reduceIte, Nat.reduceEqDiff, reduceCtorEq, Nat.reduceAdd, Nat.reduceLeDiff, Nat.reduceLT, reduceIte, Int.reduceBEq, Int.reduceBNe, Int.reduceLT, Int.reduceLE, Int.reduceAdd, Int.reduceSub, Int.reduceMul, Int.reduceNeg, Int.reduceEq, Int.reduceNe, Nat.reduceMul, Nat.reduceSub], by simp (disch := first | assumption | omega) only [go_sem, ↓reduceIte, Nat.reduceEqDiff, reduceCtorEq, Nat.reduceAdd, Nat.reduceLeDiff, Nat.reduceLT, reduceIte, Int.reduceBEq, Int.reduceBNe, Int.reduceLT, Int.reduceLE, Int.reduceAdd, Int.reduceSub, Int.reduceMul, Int.reduceNeg, Int.reduceEq, Int.reduceNe, Nat.reduceMul, Nat.reduceSub], by simp (disch := first | assumption | omega) only [go_sem, ↓reduceIte, Nat.reduceEqDiff, reduceCtorEq, Nat.reduceAdd, Nat.reduceLeDiff, Nat.reduceLT, reduceIte, Int.reduceBEq, Int.reduceBNe, Int.reduceLT, Int.reduceLE, Int.reduceAdd, Int.reduceSub, Int.reduceMul, Int.reduceNeg, Int.reduceEq, Int.reduceNe, Nat.reduceMul, Nat.reduceSub]⟩ ?_
  rintro d S ⟨e0, e1, e2, e4, eh⟩
  have hn' : (l.length : Int) ≤ 12 := by omega
  simp (disch := first | assumption | omega) only [e0, e1, e2, e4, eh, hn', go_sem, ↓reduceIte, Nat.reduceEqDiff, reduceCtorEq, Nat.reduceAdd, Nat.reduceLeDiff, Nat.reduceLT, reduceIte, Int.reduceBEq, Int.reduceBNe, Int.reduceLT, Int.reduceLE, Int.reduceAdd, Int.reduceSub, Int.reduceMul, Int.reduceNeg, Int.reduceEq, Int.reduceNe, Nat.reduceMul, Nat.reduceSub]
  refine callG_ok (insSort_ok f l id cap rest _ (by simp (disch := first | assumption | omega) only [e0, e1, e2, e4, eh, hid, go_sem, ↓reduceIte, Nat.reduceEqDiff, reduceCtorEq, Nat.reduceAdd, Nat.reduceLeDiff, Nat.reduceLT, reduceIte, Int.reduceBEq, Int.reduceBNe, Int.reduceLT, Int.reduceLE, Int.reduceAdd, Int.reduceSub, Int.reduceMul, Int.reduceNeg, Int.reduceEq, Int.reduceNe, Nat.reduceMul, Nat.reduceSub]) (by omega) hf) (by simp (disch := first | assumption | omega) only [go_sem, ↓reduceIte, Nat.reduceEqDiff, reduceCtorEq, Nat.reduceAdd, Nat.reduceLeDiff, Nat.reduceLT, reduceIte, Int.reduceBEq, Int.reduceBNe, Int.reduceLT, Int.reduceLE, Int.reduceAdd, Int.reduceSub, Int.reduceMul, Int.reduceNeg, Int.reduceEq, Int.reduceNe, Nat.reduceMul, Nat.reduceSub]) ?_
  rintro _ _ ⟨rfl, l', h1, h2, rfl⟩
  simp (disch := first | assumption | omega) only [e0, e1, e2, e4, eh, go_sem, ↓reduceIte, Nat.reduceEqDiff, reduceCtorEq, Nat.reduceAdd, Nat.reduceLeDiff, Nat.reduceLT, reduceIte, Int.reduceBEq, Int.reduceBNe, Int.reduceLT, Int.reduceLE, Int.reduceAdd, Int.reduceSub, Int.reduceMul, Int.reduceNeg, Int.reduceEq, Int.reduceNe, Nat.reduceMul, Nat.reduceSub]
  subst hQ
  simp (disch := first | assumption | omega) only [R.slices_pdqsortCmpFunc_Cell, e0, e1, e2, e4, eh, go_sem, ↓reduceIte, Nat.reduceEqDiff, reduceCtorEq, Nat.reduceAdd, Nat.reduceLeDiff, Nat.reduceLT, reduceIte, Int.reduceBEq, Int.reduceBNe, Int.reduceLT, Int.reduceLE, Int.reduceAdd, Int.reduceSub, Int.reduceMul, Int.reduceNeg, Int.reduceEq, Int.reduceNe, Nat.reduceMul, Nat.reduceSub]
  exact ⟨l', h1, h2, rfl⟩
theorem Len_ok (x : Nat) (hx : x < 256) (h : List HObj) : ACalls Try.prog F.bits_Len64 [.int .u64 x] h (fun v h' => (∃ r, v = .int .i64 r) ∧ h' = h) := by
  refine ACalls.of_aw Try.func228 K.bits_Len64 (by simp [Try.f228]) ?_
  generalize hQ : retQ R.bits_Len64 _ = Q
  simp (disch := first | assumption | omega) only [C.bits_Len64, go_sem, ↓reduceIte, Nat.reduceEqDiff, reduceCtorEq, Nat.reduceAdd, Nat.reduceLeDiff, Nat.reduceLT, reduceIte, Int.reduceBEq, Int.reduceBNe, Int.reduceLT, Int.reduceLE, Int.reduceAdd, Int.reduceSub, Int.reduceMul, Int.reduceNeg, Int.reduceEq, Int.reduceNe, Nat.reduceMul, Nat.reduceSub]
  have h1 : ¬ ((4294967296 : Int) ≤ x) := by omega
  have h2 : ¬ ((65536 : Int) ≤ x) := by omega
  have h3 : ¬ ((256 : Int) ≤ x) := by omega
  simp (disch := first | assumption | omega) only [h1, h2, h3, wrapU8_mod, go_sem, ↓reduceIte, Nat.reduceEqDiff, reduceCtorEq, Nat.reduceAdd, Nat.reduceLeDiff, Nat.reduceLT, reduceIte, Int.reduceBEq, Int.reduceBNe, Int.reduceLT, Int.reduceLE, Int.reduceAdd, Int.reduceSub, Int.reduceMul, Int.reduceNeg, Int.reduceEq, Int.reduceNe, Nat.reduceMul, Nat.reduceSub]
  refine ⟨?_, ?_⟩
  · refine ⟨by omega, ?_⟩
    show (x : Int) % 256 < ((256 : Nat) : Int); omega
  subst hQ
  simp (disch := first | assumption | omega) only [R.bits_Len64, go_sem, ↓reduceIte, Nat.reduceEqDiff, reduceCtorEq, Nat.reduceAdd, Nat.reduceLeDiff, Nat.reduceLT, reduceIte, Int.reduceBEq, Int.reduceBNe, Int.reduceLT, Int.reduceLE, Int.reduceAdd, Int.reduceSub, Int.reduceMul, Int.reduceNeg, Int.reduceEq, Int.reduceNe, Nat.reduceMul, Nat.reduceSub]
  exact ⟨_, rfl⟩
theorem BLen_ok (x : Nat) (hx : x < 256) (h : List HObj) : ACalls Try.prog F.bits_Len [.int .u64 x] h (fun v h' => (∃ r, v = .int .i64 r) ∧ h' = h) := by
  refine ACalls.of_aw Try.func204 K.bits_Len (by simp [Try.f204]) ?_
  generalize hQ : retQ R.bits_Len _ = Q
  simp (disch := first | assumption | omega) only [C.bits_Len, go_sem, ↓reduceIte, Nat.reduceEqDiff, reduceCtorEq, Nat.reduceAdd, Nat.reduceLeDiff, Nat.reduceLT, reduceIte, Int.reduceBEq, Int.reduceBNe, Int.reduceLT, Int.reduceLE, Int.reduceAdd, Int.reduceSub, Int.reduceMul, Int.reduceNeg, Int.reduceEq, Int.reduceNe, Nat.reduceMul, Nat.reduceSub]
  refine callG_ok (Len_ok x hx _) (by simp (disch := first | assumption | omega) only [go_sem, ↓reduceIte, Nat.reduceEqDiff, reduceCtorEq, Nat.reduceAdd, Nat.reduceLeDiff, Nat.reduceLT, reduceIte, Int.reduceBEq, Int.reduceBNe, Int.reduceLT, Int.reduceLE, Int.reduceAdd, Int.reduceSub, Int.reduceMul, Int.reduceNeg, Int.reduceEq, Int.reduceNe, Nat.reduceMul, Nat.reduceSub]) ?_
  rintro _ _ ⟨⟨r, rfl⟩, hhh⟩
  rw [hhh]
  clear hhh
  simp (disch := first | assumption | omega) only [go_sem, ↓reduceIte, Nat.reduceEqDiff, reduceCtorEq, Nat.reduceAdd, Nat.reduceLeDiff, Nat.reduceLT, reduceIte, Int.reduceBEq, Int.reduceBNe, Int.reduceLT, Int.reduceLE, Int.reduceAdd, Int.reduceSub, Int.reduceMul, Int.reduceNeg, Int.reduceEq, Int.reduceNe, Nat.reduceMul, Nat.reduceSub]
  subst hQ
  simp (disch := first | assumption | omega) only [R.bits_Len, go_sem, ↓reduceIte, Nat.reduceEqDiff, reduceCtorEq, Nat.reduceAdd, Nat.reduceLeDiff, Nat.reduceLT, reduceIte, Int.reduceBEq, Int.reduceBNe, Int.reduceLT, Int.reduceLE, Int.reduceAdd, Int.reduceSub, Int.reduceMul, Int.reduceNeg, Int.reduceEq, Int.reduceNe, Nat.reduceMul, Nat.reduceSub]
  exact ⟨_, rfl⟩
theorem SortSmall_ok (f : Nat) (l : List Cell) (id cap : Nat) (rest : List AVal) (h : List HObj) (hid : h[id]? = some (.cells (flatC l ++ rest))) (hn : l.length ≤ 12)
    (hf : ∀ (a b : Cell) (h : List HObj), ACalls Try.prog f [cellA a, cellA b] h (fun v h' => (∃ x, v = .int .i64 x) ∧ h' = h)) :
    ACalls Try.prog F.slices_SortFunc_Cell [.ref id 0 l.length cap, .func f []] h
      (fun v h' => v = .tup [] ∧ ∃ l', l'.length = l.length ∧ (∀ c ∈ l', c ∈ l) ∧ h' = h.set id (.cells (flatC l' ++ rest))) := by
  refine ACalls.of_aw Try.func180 K.slices_SortFunc_Cell (by simp [Try.f180]) ?_
  generalize hQ : retQ R.slices_SortFunc_Cell _ = Q
  simp (disch := first | assumption | omega) only [C.slices_SortFunc_Cell, go_sem, ↓reduceIte, Nat.reduceEqDiff, reduceCtorEq, Nat.reduceAdd, Nat.reduceLeDiff, Nat.reduceLT, reduceIte, Int.reduceBEq, Int.reduceBNe, Int.reduceLT, Int.reduceLE, Int.reduceAdd, Int.reduceSub, Int.reduceMul, Int.reduceNeg, Int.reduceEq, Int.reduceNe, Nat.reduceMul, Nat.reduceSub]
  refine callG_ok (BLen_ok l.length (by omega) _) (by simp (disch := first | assumption | omega) only [go_sem, ↓reduceIte, Nat.reduceEqDiff, reduceCtorEq, Nat.reduceAdd, Nat.reduceLeDiff, Nat.reduceLT, reduceIte, Int.reduceBEq, Int.reduceBNe, Int.reduceLT, Int.reduceLE, Int.reduceAdd, Int.reduceSub, Int.reduceMul, Int.reduceNeg, Int.reduceEq, Int.reduceNe, Nat.reduceMul, Nat.reduceSub]) ?_
  rintro _ _ ⟨⟨r, rfl⟩, hhh⟩
  rw [hhh]
  clear hhh
  simp (disch := first | assumption | omega) only [go_sem, ↓reduceIte, Nat.reduceEqDiff, reduceCtorEq, Nat.reduceAdd, Nat.reduceLeDiff, Nat.reduceLT, reduceIte, Int.reduceBEq, Int.reduceBNe, Int.reduceLT, Int.reduceLE, Int.reduceAdd, Int.reduceSub, Int.reduceMul, Int.reduceNeg, Int.reduceEq, Int.reduceNe, Nat.reduceMul, Nat.reduceSub]
  refine callG_ok (pdqSmall_ok f l id cap rest r _ (by simp (disch := first | assumption | omega) only [hid, go_sem, ↓reduceIte, Nat.reduceEqDiff, reduceCtorEq, Nat.reduceAdd, Nat.reduceLeDiff, Nat.reduceLT, reduceIte, Int.reduceBEq, Int.reduceBNe, Int.reduceLT, Int.reduceLE, Int.reduceAdd, Int.reduceSub, Int.reduceMul, Int.reduceNeg, Int.reduceEq, Int.reduceNe, Nat.reduceMul, Nat.reduceSub]) hn hf) (by simp (disch := first | assumption | omega) only [go_sem, ↓reduceIte, Nat.reduceEqDiff, reduceCtorEq, Nat.reduceAdd, Nat.reduceLeDiff, Nat.reduceLT, reduceIte, Int.reduceBEq, Int.reduceBNe, Int.reduceLT, Int.reduceLE, Int.reduceAdd, Int.reduceSub, Int.reduceMul, Int.reduceNeg, Int.reduceEq, Int.reduceNe, Nat.reduceMul, Nat.reduceSub]) ?_
  rintro _ _ ⟨rfl, l', h1, h2, rfl⟩
  simp (disch := first | assumption | omega) only [go_sem, ↓reduceIte, Nat.reduceEqDiff, reduceCtorEq, Nat.reduceAdd, Nat.reduceLeDiff, Nat.reduceLT, reduceIte, Int.reduceBEq, Int.reduceBNe, Int.reduceLT, Int.reduceLE, Int.reduceAdd, Int.reduceSub, Int.reduceMul, Int.reduceNeg, Int.reduceEq, Int.reduceNe, Nat.reduceMul, Nat.reduceSub]
  subst hQ
  simp (disch := first | assumption | omega) only [R.slices_SortFunc_Cell, go_sem, ↓reduceIte, Nat.reduceEqDiff, reduceCtorEq, Nat.reduceAdd, Nat.reduceLeDiff, Nat.reduceLT, reduceIte, Int.reduceBEq, Int.reduceBNe, Int.reduceLT, Int.reduceLE, Int.reduceAdd, Int.reduceSub, Int.reduceMul, Int.reduceNeg, Int.reduceEq, Int.reduceNe, Nat.reduceMul, Nat.reduceSub]
  exact ⟨l', h1, h2, rfl⟩
theorem insNil_ok (f : Nat) (h : List HObj) : ACalls Try.prog F.slices_insertionSortCmpFunc_Cell [.lst .nil [], .int .i64 0, .int .i64 0, .func f []] h (fun v h' => v = .tup [] ∧ h' = h) := by
  refine ACalls.of_aw Try.func219 K.slices_insertionSortCmpFunc_Cell (by simp [Try.f219]) ?_
  generalize hQ : retQ R.slices_insertionSortCmpFunc_Cell _ = Q
  simp (disch := first | assumption | omega) only [C.slices_insertionSortCmpFunc_Cell, go_sem, ↓reduceIte, Nat.reduceEqDiff, reduceCtorEq, Nat.reduceAdd, Nat.reduceLeDiff, Nat.reduceLT, reduceIte, Int.reduceBEq, Int.reduceBNe, Int.reduceLT, Int.reduceLE, Int.reduceAdd, Int.reduceSub, Int.reduceMul, Int.reduceNeg, Int.reduceEq, Int.reduceNe, Nat.reduceMul, Nat.reduceSub]
  refine aw_count (fun d S => S.env 8 = .int .i64 1 ∧ S.env 2 = .int .i64 0 ∧ S.heap = h) (n := 0) ⟨by simp (disch := first | assumption | omega) only [go_sem, ↓reduceIte, Nat.reduceEqDiff, reduceCtorEq, Nat.reduceAdd, Nat.reduceLeDiff, Nat.reduceLT, reduceIte, Int.reduceBEq, Int.reduceBNe, Int.reduceLT, Int.reduceLE, Int.reduceAdd, Int.reduceSub, Int.reduceMul, Int.reduceNeg, Int.reduceEq, Int.reduceNe, Nat.reduceMul, Nat.reduceSub], by simp (disch := first | assumption | omega) only [go_sem, ↓reduceIte, Nat.reduceEqDiff, reduceCtorEq, Nat.reduceAdd, Nat.reduceLeDiff, Nat.reduceLT, reduceIte, Int.reduceBEq, Int.reduceBNe, Int.reduceLT, Int.reduceLE, Int.reduceAdd, Int.reduceSub, Int.reduceMul, Int.reduceNeg, Int.reduceEq, Int.reduceNe, Nat.reduceMul, Nat.reduceSub], by simp (disch := first | assumption | omega) only [go_sem, ↓reduceIte, Nat.reduceEqDiff, reduceCtorEq, Nat.reduceAdd, Nat.reduceLeDiff, Nat.reduceLT, reduceIte, Int.reduceBEq, Int.reduceBNe, Int.reduceLT, Int.reduceLE, Int.reduceAdd, Int.reduceSub, Int.reduceMul, Int.reduceNeg, Int.reduceEq, Int.reduceNe, Nat.reduceMul, Nat.reduceSub]⟩ ?_
  rintro d S ⟨e8, e2, eh⟩
  simp (disch := first | assumption | omega) only [e8, e2, eh, go_sem, ↓reduceIte, Nat.reduceEqDiff, reduceCtorEq, Nat.reduceAdd, Nat.reduceLeDiff, Nat.reduceLT, reduceIte, Int.reduceBEq, Int.reduceBNe, Int.reduceLT, Int.reduceLE, Int.reduceAdd, Int.reduceSub, Int.reduceMul, Int.reduceNeg, Int.reduceEq, Int.reduceNe, Nat.reduceMul, Nat.reduceSub]
  subst hQ
  simp (disch := first | assumption | omega) only [R.slices_insertionSortCmpFunc_Cell, eh, go_sem, ↓reduceIte, Nat.reduceEqDiff, reduceCtorEq, Nat.reduceAdd, Nat.reduceLeDiff, Nat.reduceLT, reduceIte, Int.reduceBEq, Int.reduceBNe, Int.reduceLT, Int.reduceLE, Int.reduceAdd, Int.reduceSub, Int.reduceMul, Int.reduceNeg, Int.reduceEq, Int.reduceNe, Nat.reduceMul, Nat.reduceSub]
theorem pdqNil_ok (f : Nat) (lim : Int) (h : List HObj) : ACalls Try.prog F.slices_pdqsortCmpFunc_Cell [.lst .nil [], .int .i64 0, .int .i64 0, .int .i64 lim, .func f []] h (fun v h' => v = .tup [] ∧ h' = h) := by
  refine ACalls.of_aw Try.func203 K.slices_pdqsortCmpFunc_Cell (by simp [Try.f203]) ?_
  generalize hQ : retQ R.slices_pdqsortCmpFunc_Cell _ = Q
  simp (disch := first | assumption | omega) only [C.slices_pdqsortCmpFunc_Cell, go_sem, ↓reduceIte, Nat.reduceEqDiff, reduceCtorEq, Nat.reduceAdd, Nat.reduceLeDiff, Nat.reduceLT, reduceIte, Int.reduceBEq, Int.reduceBNe, Int.reduceLT, Int.reduceLE, Int.reduceAdd, Int.reduceSub, Int.reduceMul, Int.reduceNeg, Int.reduceEq, Int.reduceNe, Nat.reduceMul, Nat.reduceSub]
  refine aw_count (fun d S => S.env 0 = .lst .nil [] ∧ S.env 1 = .int .i64 0 ∧ S.env 2 = .int .i64 0 ∧ S.env 4 = .func f [] ∧ S.heap = h) (n := 0) ⟨by simp (disch := first | assumption | omega) only [go_sem, ↓reduceIte, Nat.reduceEqDiff, reduceCtorEq, Nat.reduceAdd, Nat.reduceLeDiff, Nat.reduceLT, reduceIte, Int.reduceBEq, Int.reduceBNe, Int.reduceLT, Int.reduceLE, Int.reduceAdd, Int.reduceSub, Int.reduceMul, Int.reduceNeg, Int.reduceEq, Int.reduceNe, Nat.reduceMul, Nat.reduceSub], by simp (disch := first | assumption | omega) only [go_sem, ↓reduceIte, Nat.reduceEqDiff, reduceCtorEq, Nat.reduceAdd, Nat.reduceLeDiff, Nat.reduceLT, reduceIte, Int.reduceBEq, Int.reduceBNe, Int.reduceLT, Int.reduceLE, Int.reduceAdd, Int.reduceSub, Int.reduceMul, Int.reduceNeg, Int.reduceEq, Int.reduceNe, Nat.reduceMul, Nat.reduceSub], by simp (disch := first | assumption | omega) only [go_sem, ↓reduceIte, Nat.reduceEqDiff, reduceCtorEq, Nat.reduceAdd, Nat.reduceLeDiff, Nat.reduceLT, reduceIte, Int.reduceBEq, Int.reduceBNe, Int.reduceLT, Int.reduceLE, Int.reduceAdd, Int.reduceSub, Int.reduceMul, Int.reduceNeg, Int.reduceEq, Int.reduceNe, Nat.reduceMul, Nat.reduceSub], by simp (disch := first | assumption | omega) only [go_sem, ↓reduceIte, Nat.reduceEqDiff, reduceCtorEq, Nat.reduceAdd, Nat.reduceLeDiff, Nat.reduceLT, reduceIte, Int.reduceBEq, Int.reduceBNe, Int.reduceLT, Int.reduceLE, Int.reduceAdd, Int.reduceSub, Int.reduceMul, Int.reduceNeg, Int.reduceEq, Int.reduceNe, Nat.reduceMul, Nat.reduceSub], by simp (disch := first | assumption | omega) only [go_sem, ↓reduceIte, Nat.reduceEqDiff, reduceCtorEq, Nat.reduceAdd, Nat.reduceLeDiff, Nat.reduceLT, reduceIte, Int.reduceBEq, Int.reduceBNe, Int.reduceLT, Int.reduceLE, Int.reduceAdd, Int.reduceSub, Int.reduceMul, Int.reduceNeg, Int.reduceEq, Int.reduceNe, Nat.reduceMul, Nat.reduceSub]⟩ ?_
  rintro d S ⟨e0, e1, e2, e4, eh⟩
  simp (disch := first | assumption | omega) only [e0, e1, e2, e4, eh, go_sem, ↓reduceIte, Nat.reduceEqDiff, reduceCtorEq, Nat.reduceAdd, Nat.reduceLeDiff, Nat.reduceLT, reduceIte, Int.reduceBEq, Int.reduceBNe, Int.reduceLT, Int.reduceLE, Int.reduceAdd, Int.reduceSub, Int.reduceMul, Int.reduceNeg, Int.reduceEq, Int.reduceNe, Nat.reduceMul, Nat.reduceSub]
  refine callG_ok (insNil_ok f _) (by simp (disch := first | assumption | omega) only [go_sem, ↓reduceIte, Nat.reduceEqDiff, reduceCtorEq, Nat.reduceAdd, Nat.reduceLeDiff, Nat.reduceLT, reduceIte, Int.reduceBEq, Int.reduceBNe, Int.reduceLT, Int.reduceLE, Int.reduceAdd, Int.reduceSub, Int.reduceMul, Int.reduceNeg, Int.reduceEq, Int.reduceNe, Nat.reduceMul, Nat.reduceSub]) ?_
  rintro _ _ ⟨rfl, hhh⟩
  rw [hhh]
  clear hhh
  simp (disch := first | assumption | omega) only [e0, e1, e2, e4, eh, go_sem, ↓reduceIte, Nat.reduceEqDiff, reduceCtorEq, Nat.reduceAdd, Nat.reduceLeDiff, Nat.reduceLT, reduceIte, Int.reduceBEq, Int.reduceBNe, Int.reduceLT, Int.reduceLE, Int.reduceAdd, Int.reduceSub, Int.reduceMul, Int.reduceNeg, Int.reduceEq, Int.reduceNe, Nat.reduceMul, Nat.reduceSub]
  subst hQ
  simp (disch := first | assumption | omega) only [R.slices_pdqsortCmpFunc_Cell, e0, e1, e2, e4, eh, go_sem, ↓reduceIte, Nat.reduceEqDiff, reduceCtorEq, Nat.reduceAdd, Nat.reduceLeDiff, Nat.reduceLT, reduceIte, Int.reduceBEq, Int.reduceBNe, Int.reduceLT, Int.reduceLE, Int.reduceAdd, Int.reduceSub, Int.reduceMul, Int.reduceNeg, Int.reduceEq, Int.reduceNe, Nat.reduceMul, Nat.reduceSub]
theorem SortNil_ok (f : Nat) (h : List HObj) : ACalls Try.prog F.slices_SortFunc_Cell [.lst .nil [], .func f []] h (fun v h' => v = .tup [] ∧ h' = h) := by
  refine ACalls.of_aw Try.func180 K.slices_SortFunc_Cell (by simp [Try.f180]) ?_
  generalize hQ : retQ R.slices_SortFunc_Cell _ = Q
  simp (disch := first | assumption | omega) only [C.slices_SortFunc_Cell, go_sem, ↓reduceIte, Nat.reduceEqDiff, reduceCtorEq, Nat.reduceAdd, Nat.reduceLeDiff, Nat.reduceLT, reduceIte, Int.reduceBEq, Int.reduceBNe, Int.reduceLT, Int.reduceLE, Int.reduceAdd, Int.reduceSub, Int.reduceMul, Int.reduceNeg, Int.reduceEq, Int.reduceNe, Nat.reduceMul, Nat.reduceSub]
  refine callG_ok (BLen_ok 0 (by omega) _) (by simp (disch := first | assumption | omega) only [go_sem, ↓reduceIte, Nat.reduceEqDiff, reduceCtorEq, Nat.reduceAdd, Nat.reduceLeDiff, Nat.reduceLT, reduceIte, Int.reduceBEq, Int.reduceBNe, Int.reduceLT, Int.reduceLE, Int.reduceAdd, Int.reduceSub, Int.reduceMul, Int.reduceNeg, Int.reduceEq, Int.reduceNe, Nat.reduceMul, Nat.reduceSub]) ?_
  rintro _ _ ⟨⟨r, rfl⟩, hhh⟩
  rw [hhh]
  clear hhh
  simp (disch := first | assumption | omega) only [go_sem, ↓reduceIte, Nat.reduceEqDiff, reduceCtorEq, Nat.reduceAdd, Nat.reduceLeDiff, Nat.reduceLT, reduceIte, Int.reduceBEq, Int.reduceBNe, Int.reduceLT, Int.reduceLE, Int.reduceAdd, Int.reduceSub, Int.reduceMul, Int.reduceNeg, Int.reduceEq, Int.reduceNe, Nat.reduceMul, Nat.reduceSub]
  refine callG_ok (pdqNil_ok f r _) (by simp (disch := first | assumption | omega) only [go_sem, ↓reduceIte, Nat.reduceEqDiff, reduceCtorEq, Nat.reduceAdd, Nat.reduceLeDiff, Nat.reduceLT, reduceIte, Int.reduceBEq, Int.reduceBNe, Int.reduceLT, Int.reduceLE, Int.reduceAdd, Int.reduceSub, Int.reduceMul, Int.reduceNeg, Int.reduceEq, Int.reduceNe, Nat.reduceMul, Nat.reduceSub]) ?_
  rintro _ _ ⟨rfl, hhh⟩
  rw [hhh]
  clear hhh
  simp (disch := first | assumption | omega) only [go_sem, ↓reduceIte, Nat.reduceEqDiff, reduceCtorEq, Nat.reduceAdd, Nat.reduceLeDiff, Nat.reduceLT, reduceIte, Int.reduceBEq, Int.reduceBNe, Int.reduceLT, Int.reduceLE, Int.reduceAdd, Int.reduceSub, Int.reduceMul, Int.reduceNeg, Int.reduceEq, Int.reduceNe, Nat.reduceMul, Nat.reduceSub]
  subst hQ
  simp (disch := first | assumption | omega) only [R.slices_SortFunc_Cell, go_sem, ↓reduceIte, Nat.reduceEqDiff, reduceCtorEq, Nat.reduceAdd, Nat.reduceLeDiff, Nat.reduceLT, reduceIte, Int.reduceBEq, Int.reduceBNe, Int.reduceLT, Int.reduceLE, Int.reduceAdd, Int.reduceSub, Int.reduceMul, Int.reduceNeg, Int.reduceEq, Int.reduceNe, Nat.reduceMul, Nat.reduceSub]
theorem cmpMade_ok (a b : Cell) (h : List HObj) : ACalls Try.prog F.gantmake_Cells_1 [cellA a, cellA b] h (fun v h' => (∃ x, v = .int .i64 x) ∧ h' = h) := by
  refine ACalls.of_aw Try.func181 K.gantmake_Cells_1 (by simp [Try.f181]) ?_
  generalize hQ : retQ R.gantmake_Cells_1 _ = Q
  simp (disch := first | assumption | omega) only [C.gantmake_Cells_1, go_sem, ↓reduceIte, Nat.reduceEqDiff, reduceCtorEq, Nat.reduceAdd, Nat.reduceLeDiff, Nat.reduceLT, reduceIte, Int.reduceBEq, Int.reduceBNe, Int.reduceLT, Int.reduceLE, Int.reduceAdd, Int.reduceSub, Int.reduceMul, Int.reduceNeg, Int.reduceEq, Int.reduceNe, Nat.reduceMul, Nat.reduceSub]
  simp (disch := first | assumption | omega) only [cellA, go_sem, ↓reduceIte, Nat.reduceEqDiff, reduceCtorEq, Nat.reduceAdd, Nat.reduceLeDiff, Nat.reduceLT, reduceIte, Int.reduceBEq, Int.reduceBNe, Int.reduceLT, Int.reduceLE, Int.reduceAdd, Int.reduceSub, Int.reduceMul, Int.reduceNeg, Int.reduceEq, Int.reduceNe, Nat.reduceMul, Nat.reduceSub]
  refine condG_ifn (fun hc => ?_) fun hc => ?_
  · simp (disch := first | assumption | omega) only [go_sem, ↓reduceIte, Nat.reduceEqDiff, reduceCtorEq, Nat.reduceAdd, Nat.reduceLeDiff, Nat.reduceLT, reduceIte, Int.reduceBEq, Int.reduceBNe, Int.reduceLT, Int.reduceLE, Int.reduceAdd, Int.reduceSub, Int.reduceMul, Int.reduceNeg, Int.reduceEq, Int.reduceNe, Nat.reduceMul, Nat.reduceSub]
    subst hQ
    simp (disch := first | assumption | omega) only [R.gantmake_Cells_1, go_sem, ↓reduceIte, Nat.reduceEqDiff, reduceCtorEq, Nat.reduceAdd, Nat.reduceLeDiff, Nat.reduceLT, reduceIte, Int.reduceBEq, Int.reduceBNe, Int.reduceLT, Int.reduceLE, Int.reduceAdd, Int.reduceSub, Int.reduceMul, Int.reduceNeg, Int.reduceEq, Int.reduceNe, Nat.reduceMul, Nat.reduceSub]
    exact ⟨_, rfl⟩
  · simp (disch := first | assumption | omega) only [go_sem, ↓reduceIte, Nat.reduceEqDiff, reduceCtorEq, Nat.reduceAdd, Nat.reduceLeDiff, Nat.reduceLT, reduceIte, Int.reduceBEq, Int.reduceBNe, Int.reduceLT, Int.reduceLE, Int.reduceAdd, Int.reduceSub, Int.reduceMul, Int.reduceNeg, Int.reduceEq, Int.reduceNe, Nat.reduceMul, Nat.reduceSub]
    subst hQ
    simp (disch := first | assumption | omega) only [R.gantmake_Cells_1, go_sem, ↓reduceIte, Nat.reduceEqDiff, reduceCtorEq, Nat.reduceAdd, Nat.reduceLeDiff, Nat.reduceLT, reduceIte, Int.reduceBEq, Int.reduceBNe, Int.reduceLT, Int.reduceLE, Int.reduceAdd, Int.reduceSub, Int.reduceMul, Int.reduceNeg, Int.reduceEq, Int.reduceNe, Nat.reduceMul, Nat.reduceSub]
    exact ⟨_, rfl⟩
/-- Where a cell is, or -1. -/
theorem IndexCell_ok (o : Own) (l : List Cell) (c : Cell) (ho : Rdo o) (hl : l.length < 4611686018427387904) (h : List HObj) :
    ACalls Try.prog F.slices_Index_Cell [.lst o (cellsA l), cellA c] h (fun v h' => (∃ r : Int, v = .int .i64 r ∧ (r = -1 ∧ c ∉ l ∨ 0 ≤ r ∧ c ∈ l)) ∧ h' = h) := by
  refine ACalls.of_aw Try.func202 K.slices_Index_Cell (by simp [Try.f202]) ?_
  generalize hQ : retQ R.slices_Index_Cell _ = Q
  simp (disch := first | assumption | omega) only [C.slices_Index_Cell, go_sem, ↓reduceIte, Nat.reduceEqDiff, reduceCtorEq, Nat.reduceAdd, Nat.reduceLeDiff, Nat.reduceLT, reduceIte, Int.reduceBEq, Int.reduceBNe, Int.reduceLT, Int.reduceLE, Int.reduceAdd, Int.reduceSub, Int.reduceMul, Int.reduceNeg, Int.reduceEq, Int.reduceNe, Nat.reduceMul, Nat.reduceSub]
  simp (disch := first | assumption | omega) only [cellA, go_sem, ↓reduceIte, Nat.reduceEqDiff, reduceCtorEq, Nat.reduceAdd, Nat.reduceLeDiff, Nat.reduceLT, reduceIte, Int.reduceBEq, Int.reduceBNe, Int.reduceLT, Int.reduceLE, Int.reduceAdd, Int.reduceSub, Int.reduceMul, Int.reduceNeg, Int.reduceEq, Int.reduceNe, Nat.reduceMul, Nat.reduceSub]
  refine aw_count (fun d S => ∃ i : Nat, i + d = l.length ∧ S.env 8 = .int .i64 i ∧ S.env 7 = .int .i64 l.length ∧ S.env 0 = .lst o (cellsA l) ∧ S.env 3 = .box 3 0 ∧ S.boxes 3 = some [.int .i64 c.X, .int .i64 c.Y] ∧ c ∉ l.take i ∧ S.heap = h) (n := l.length)
    ⟨0, by omega, by simp (disch := first | assumption | omega) only [go_sem, ↓reduceIte, Nat.reduceEqDiff, reduceCtorEq, Nat.reduceAdd, Nat.reduceLeDiff, Nat.reduceLT, reduceIte, Int.reduceBEq, Int.reduceBNe, Int.reduceLT, Int.reduceLE, Int.reduceAdd, Int.reduceSub, Int.reduceMul, Int.reduceNeg, Int.reduceEq, Int.reduceNe, Nat.reduceMul, Nat.reduceSub], by simp (disch := first | assumption | omega) only [go_sem, ↓reduceIte, Nat.reduceEqDiff, reduceCtorEq, Nat.reduceAdd, Nat.reduceLeDiff, Nat.reduceLT, reduceIte, Int.reduceBEq, Int.reduceBNe, Int.reduceLT, Int.reduceLE, Int.reduceAdd, Int.reduceSub, Int.reduceMul, Int.reduceNeg, Int.reduceEq, Int.reduceNe, Nat.reduceMul, Nat.reduceSub], by simp (disch := first | assumption | omega) only [go_sem, ↓reduceIte, Nat.reduceEqDiff, reduceCtorEq, Nat.reduceAdd, Nat.reduceLeDiff, Nat.reduceLT, reduceIte, Int.reduceBEq, Int.reduceBNe, Int.reduceLT, Int.reduceLE, Int.reduceAdd, Int.reduceSub, Int.reduceMul, Int.reduceNeg, Int.reduceEq, Int.reduceNe, Nat.reduceMul, Nat.reduceSub], by simp (disch := first | assumption | omega) only [go_sem, ↓reduceIte, Nat.reduceEqDiff, reduceCtorEq, Nat.reduceAdd, Nat.reduceLeDiff, Nat.reduceLT, reduceIte, Int.reduceBEq, Int.reduceBNe, Int.reduceLT, Int.reduceLE, Int.reduceAdd, Int.reduceSub, Int.reduceMul, Int.reduceNeg, Int.reduceEq, Int.reduceNe, Nat.reduceMul, Nat.reduceSub], by simp (disch := first | assumption | omega) only [go_sem, ↓reduceIte, Nat.reduceEqDiff, reduceCtorEq, Nat.reduceAdd, Nat.reduceLeDiff, Nat.reduceLT, reduceIte, Int.reduceBEq, Int.reduceBNe, Int.reduceLT, Int.reduceLE, Int.reduceAdd, Int.reduceSub, Int.reduceMul, Int.reduceNeg, Int.reduceEq, Int.reduceNe, Nat.reduceMul, Nat.reduceSub], by simp, by simp (disch := first | assumption | omega) only [go_sem, ↓reduceIte, Nat.reduceEqDiff, reduceCtorEq, Nat.reduceAdd, Nat.reduceLeDiff, Nat.reduceLT, reduceIte, Int.reduceBEq, Int.reduceBNe, Int.reduceLT, Int.reduceLE, Int.reduceAdd, Int.reduceSub, Int.reduceMul, Int.reduceNeg, Int.reduceEq, Int.reduceNe, Nat.reduceMul, Nat.reduceSub]⟩ ?_
  rintro d S ⟨i, hi, e8, e7, e0, e3, x3, hm, eh⟩
  simp (disch := first | assumption | omega) only [e8, e7, e0, e3, x3, eh, go_sem, ↓reduceIte, Nat.reduceEqDiff, reduceCtorEq, Nat.reduceAdd, Nat.reduceLeDiff, Nat.reduceLT, reduceIte, Int.reduceBEq, Int.reduceBNe, Int.reduceLT, Int.reduceLE, Int.reduceAdd, Int.reduceSub, Int.reduceMul, Int.reduceNeg, Int.reduceEq, Int.reduceNe, Nat.reduceMul, Nat.reduceSub]
  refine condG_if (fun hlt => ?_) fun hge => ?_
  · have hlt : i < l.length := by omega
    have hat := at_cells hlt
    have hst := take_snoc hlt
    by_cases he : c = l[i]
    · have hx : c.X = l[i].X := by rw [← he]
      have hy : c.Y = l[i].Y := by rw [← he]
      simp (disch := first | assumption | omega) only [e8, e7, e0, e3, x3, eh, hat, cellA, hlt, hx, hy, go_sem, ↓reduceIte, Nat.reduceEqDiff, reduceCtorEq, Nat.reduceAdd, Nat.reduceLeDiff, Nat.reduceLT, reduceIte, Int.reduceBEq, Int.reduceBNe, Int.reduceLT, Int.reduceLE, Int.reduceAdd, Int.reduceSub, Int.reduceMul, Int.reduceNeg, Int.reduceEq, Int.reduceNe, Nat.reduceMul, Nat.reduceSub]
      subst hQ
      simp (disch := first | assumption | omega) only [R.slices_Index_Cell, e8, e7, e0, e3, x3, eh, go_sem, ↓reduceIte, Nat.reduceEqDiff, reduceCtorEq, Nat.reduceAdd, Nat.reduceLeDiff, Nat.reduceLT, reduceIte, Int.reduceBEq, Int.reduceBNe, Int.reduceLT, Int.reduceLE, Int.reduceAdd, Int.reduceSub, Int.reduceMul, Int.reduceNeg, Int.reduceEq, Int.reduceNe, Nat.reduceMul, Nat.reduceSub]
      exact ⟨_, rfl, .inr ⟨by omega, by rw [he]; exact List.getElem_mem _⟩⟩
    · have hce : (decide (c.X = l[i].X) && decide (c.Y = l[i].Y)) = false := by
        rw [Bool.and_eq_false_iff, decide_eq_false_iff_not, decide_eq_false_iff_not]
        refine Classical.byContradiction fun hh => he ?_
        have h1 : c.X = l[i].X := Classical.byContradiction fun h => hh (.inl h)
        have h2 : c.Y = l[i].Y := Classical.byContradiction fun h => hh (.inr h)
        cases c; simp only at h1 h2; rw [h1, h2]
      simp (disch := first | assumption | omega) only [e8, e7, e0, e3, x3, eh, hat, cellA, hlt, hce, go_sem, ↓reduceIte, Nat.reduceEqDiff, reduceCtorEq, Nat.reduceAdd, Nat.reduceLeDiff, Nat.reduceLT, reduceIte, Int.reduceBEq, Int.reduceBNe, Int.reduceLT, Int.reduceLE, Int.reduceAdd, Int.reduceSub, Int.reduceMul, Int.reduceNeg, Int.reduceEq, Int.reduceNe, Nat.reduceMul, Nat.reduceSub]
      exact ⟨d - 1, by omega, i + 1, by omega, by simp, fun hc => by rw [hst] at hc; rcases List.mem_append.1 hc with hc | hc; exact hm hc; exact he (List.mem_singleton.1 hc)⟩
  · obtain rfl : i = l.length := by omega
    rw [List.take_length] at hm
    simp (disch := first | assumption | omega) only [e8, e7, e0, e3, x3, eh, go_sem, ↓reduceIte, Nat.reduceEqDiff, reduceCtorEq, Nat.reduceAdd, Nat.reduceLeDiff, Nat.reduceLT, reduceIte, Int.reduceBEq, Int.reduceBNe, Int.reduceLT, Int.reduceLE, Int.reduceAdd, Int.reduceSub, Int.reduceMul, Int.reduceNeg, Int.reduceEq, Int.reduceNe, Nat.reduceMul, Nat.reduceSub]
    subst hQ
    simp (disch := first | assumption | omega) only [R.slices_Index_Cell, e8, e7, e0, e3, x3, eh, go_sem, ↓reduceIte, Nat.reduceEqDiff, reduceCtorEq, Nat.reduceAdd, Nat.reduceLeDiff, Nat.reduceLT, reduceIte, Int.reduceBEq, Int.reduceBNe, Int.reduceLT, Int.reduceLE, Int.reduceAdd, Int.reduceSub, Int.reduceMul, Int.reduceNeg, Int.reduceEq, Int.reduceNe, Nat.reduceMul, Nat.reduceSub]
    exact ⟨_, rfl, .inl ⟨rfl, hm⟩⟩
theorem ContainsCell_ok (o : Own) (l : List Cell) (c : Cell) (ho : Rdo o) (hl : l.length < 4611686018427387904) (h : List HObj) :
    ACalls Try.prog F.slices_Contains_Cell [.lst o (cellsA l), cellA c] h (fun v h' => v = .bool (decide (c ∈ l)) ∧ h' = h) := by
  refine ACalls.of_aw Try.func179 K.slices_Contains_Cell (by simp [Try.f179]) ?_
  generalize hQ : retQ R.slices_Contains_Cell _ = Q
  simp (disch := first | assumption | omega) only [C.slices_Contains_Cell, go_sem, ↓reduceIte, Nat.reduceEqDiff, reduceCtorEq, Nat.reduceAdd, Nat.reduceLeDiff, Nat.reduceLT, reduceIte, Int.reduceBEq, Int.reduceBNe, Int.reduceLT, Int.reduceLE, Int.reduceAdd, Int.reduceSub, Int.reduceMul, Int.reduceNeg, Int.reduceEq, Int.reduceNe, Nat.reduceMul, Nat.reduceSub]
  simp (disch := first | assumption | omega) only [cellA, go_sem, ↓reduceIte, Nat.reduceEqDiff, reduceCtorEq, Nat.reduceAdd, Nat.reduceLeDiff, Nat.reduceLT, reduceIte, Int.reduceBEq, Int.reduceBNe, Int.reduceLT, Int.reduceLE, Int.reduceAdd, Int.reduceSub, Int.reduceMul, Int.reduceNeg, Int.reduceEq, Int.reduceNe, Nat.reduceMul, Nat.reduceSub]
  refine callG_ok (IndexCell_ok o l c ho hl _) (by simp (disch := first | assumption | omega) only [cellA, go_sem, ↓reduceIte, Nat.reduceEqDiff, reduceCtorEq, Nat.reduceAdd, Nat.reduceLeDiff, Nat.reduceLT, reduceIte, Int.reduceBEq, Int.reduceBNe, Int.reduceLT, Int.reduceLE, Int.reduceAdd, Int.reduceSub, Int.reduceMul, Int.reduceNeg, Int.reduceEq, Int.reduceNe, Nat.reduceMul, Nat.reduceSub]) ?_
  rintro _ _ ⟨⟨r, rfl, hr⟩, hhh⟩
  rw [hhh]
  clear hhh
  simp (disch := first | assumption | omega) only [go_sem, ↓reduceIte, Nat.reduceEqDiff, reduceCtorEq, Nat.reduceAdd, Nat.reduceLeDiff, Nat.reduceLT, reduceIte, Int.reduceBEq, Int.reduceBNe, Int.reduceLT, Int.reduceLE, Int.reduceAdd, Int.reduceSub, Int.reduceMul, Int.reduceNeg, Int.reduceEq, Int.reduceNe, Nat.reduceMul, Nat.reduceSub]
  subst hQ
  simp (disch := first | assumption | omega) only [R.slices_Contains_Cell, go_sem, ↓reduceIte, Nat.reduceEqDiff, reduceCtorEq, Nat.reduceAdd, Nat.reduceLeDiff, Nat.reduceLT, reduceIte, Int.reduceBEq, Int.reduceBNe, Int.reduceLT, Int.reduceLE, Int.reduceAdd, Int.reduceSub, Int.reduceMul, Int.reduceNeg, Int.reduceEq, Int.reduceNe, Nat.reduceMul, Nat.reduceSub]
  rcases hr with ⟨rfl, hr⟩ | ⟨h0, hr⟩
  · rw [decide_eq_false hr]; rfl
  · rw [decide_eq_true hr, decide_eq_true h0]
theorem drV_ref {s id off len cap : Nat} : drV s (.ref id off len cap) = .ref id off len cap := rfl
theorem IndexCellR_ok (l : List Cell) (c : Cell) (id cap : Nat) (rest : List AVal) (h : List HObj) (hid : h[id]? = some (.cells (flatC l ++ rest))) (hl : l.length < 4611686018427387904) :
    ACalls Try.prog F.slices_Index_Cell [.ref id 0 l.length cap, cellA c] h (fun v h' => (∃ r : Int, v = .int .i64 r ∧ (r = -1 ∧ c ∉ l ∨ 0 ≤ r ∧ c ∈ l)) ∧ h' = h) := by
  refine ACalls.of_aw Try.func202 K.slices_Index_Cell (by simp [Try.f202]) ?_
  generalize hQ : retQ R.slices_Index_Cell _ = Q
  simp (disch := first | assumption | omega) only [C.slices_Index_Cell, go_sem, ↓reduceIte, Nat.reduceEqDiff, reduceCtorEq, Nat.reduceAdd, Nat.reduceLeDiff, Nat.reduceLT, reduceIte, Int.reduceBEq, Int.reduceBNe, Int.reduceLT, Int.reduceLE, Int.reduceAdd, Int.reduceSub, Int.reduceMul, Int.reduceNeg, Int.reduceEq, Int.reduceNe, Nat.reduceMul, Nat.reduceSub]
  simp (disch := first | assumption | omega) only [cellA, drV_ref, go_sem, ↓reduceIte, Nat.reduceEqDiff, reduceCtorEq, Nat.reduceAdd, Nat.reduceLeDiff, Nat.reduceLT, reduceIte, Int.reduceBEq, Int.reduceBNe, Int.reduceLT, Int.reduceLE, Int.reduceAdd, Int.reduceSub, Int.reduceMul, Int.reduceNeg, Int.reduceEq, Int.reduceNe, Nat.reduceMul, Nat.reduceSub]
  refine aw_count (fun d S => ∃ i : Nat, i + d = l.length ∧ S.env 8 = .int .i64 i ∧ S.env 7 = .int .i64 l.length ∧ S.env 0 = .ref id 0 l.length cap ∧ S.env 3 = .box 3 0 ∧ S.boxes 3 = some [.int .i64 c.X, .int .i64 c.Y] ∧ c ∉ l.take i ∧ S.heap = h) (n := l.length)
    ⟨0, by omega, by simp (disch := first | assumption | omega) only [drV_ref, go_sem, ↓reduceIte, Nat.reduceEqDiff, reduceCtorEq, Nat.reduceAdd, Nat.reduceLeDiff, Nat.reduceLT, reduceIte, Int.reduceBEq, Int.reduceBNe, Int.reduceLT, Int.reduceLE, Int.reduceAdd, Int.reduceSub, Int.reduceMul, Int.reduceNeg, Int.reduceEq, Int.reduceNe, Nat.reduceMul, Nat.reduceSub], by simp (disch := first | assumption | omega) only [drV_ref, go_sem, ↓reduceIte, Nat.reduceEqDiff, reduceCtorEq, Nat.reduceAdd, Nat.reduceLeDiff, Nat.reduceLT, reduceIte, Int.reduceBEq, Int.reduceBNe, Int.reduceLT, Int.reduceLE, Int.reduceAdd, Int.reduceSub, Int.reduceMul, Int.reduceNeg, Int.reduceEq, Int.reduceNe, Nat.reduceMul, Nat.reduceSub], by simp (disch := first | assumption | omega) only [drV_ref, go_sem, ↓reduceIte, Nat.reduceEqDiff, reduceCtorEq, Nat.reduceAdd, Nat.reduceLeDiff, Nat.reduceLT, reduceIte, Int.reduceBEq, Int.reduceBNe, Int.reduceLT, Int.reduceLE, Int.reduceAdd, Int.reduceSub, Int.reduceMul, Int.reduceNeg, Int.reduceEq, Int.reduceNe, Nat.reduceMul, Nat.reduceSub], by simp (disch := first | assumption | omega) only [drV_ref, go_sem, ↓reduceIte, Nat.reduceEqDiff, reduceCtorEq, Nat.reduceAdd, Nat.reduceLeDiff, Nat.reduceLT, reduceIte, Int.reduceBEq, Int.reduceBNe, Int.reduceLT, Int.reduceLE, Int.reduceAdd, Int.reduceSub, Int.reduceMul, Int.reduceNeg, Int.reduceEq, Int.reduceNe, Nat.reduceMul, Nat.reduceSub], by simp (disch := first | assumption | omega) only [drV_ref, go_sem, ↓reduceIte, Nat.reduceEqDiff, reduceCtorEq, Nat.reduceAdd, Nat.reduceLeDiff, Nat.reduceLT, reduceIte, Int.reduceBEq, Int.reduceBNe, Int.reduceLT, Int.reduceLE, Int.reduceAdd, Int.reduceSub, Int.reduceMul, Int.reduceNeg, Int.reduceEq, Int.reduceNe, Nat.reduceMul, Nat.reduceSub], by simp, by simp (disch := first | assumption | omega) only [drV_ref, go_sem, ↓reduceIte, Nat.reduceEqDiff, reduceCtorEq, Nat.reduceAdd, Nat.reduceLeDiff, Nat.reduceLT, reduceIte, Int.reduceBEq, Int.reduceBNe, Int.reduceLT, Int.reduceLE, Int.reduceAdd, Int.reduceSub, Int.reduceMul, Int.reduceNeg, Int.reduceEq, Int.reduceNe, Nat.reduceMul, Nat.reduceSub]⟩ ?_
  rintro d S ⟨i, hi, e8, e7, e0, e3, x3, hm, eh⟩
  simp (disch := first | assumption | omega) only [e8, e7, e0, e3, x3, eh, go_sem, ↓reduceIte, Nat.reduceEqDiff, reduceCtorEq, Nat.reduceAdd, Nat.reduceLeDiff, Nat.reduceLT, reduceIte, Int.reduceBEq, Int.reduceBNe, Int.reduceLT, Int.reduceLE, Int.reduceAdd, Int.reduceSub, Int.reduceMul, Int.reduceNeg, Int.reduceEq, Int.reduceNe, Nat.reduceMul, Nat.reduceSub]
  refine condG_if (fun hlt => ?_) fun hge => ?_
  · have hlt : i < l.length := by omega
    have q1 := flatC_get (l := l) (j := i) (rest := rest) hlt
    have hst := take_snoc hlt
    by_cases he : c = l[i]
    · have hx : c.X = l[i].X := by rw [← he]
      have hy : c.Y = l[i].Y := by rw [← he]
      simp (disch := first | assumption | omega) only [e8, e7, e0, e3, x3, eh, q1, hlt, hx, hy, hid, go_sem, ↓reduceIte, Nat.reduceEqDiff, reduceCtorEq, Nat.reduceAdd, Nat.reduceLeDiff, Nat.reduceLT, reduceIte, Int.reduceBEq, Int.reduceBNe, Int.reduceLT, Int.reduceLE, Int.reduceAdd, Int.reduceSub, Int.reduceMul, Int.reduceNeg, Int.reduceEq, Int.reduceNe, Nat.reduceMul, Nat.reduceSub]
      refine ⟨by rw [flatC_length]; omega, ?_⟩
      subst hQ
      simp (disch := first | assumption | omega) only [R.slices_Index_Cell, e8, e7, e0, e3, x3, eh, go_sem, ↓reduceIte, Nat.reduceEqDiff, reduceCtorEq, Nat.reduceAdd, Nat.reduceLeDiff, Nat.reduceLT, reduceIte, Int.reduceBEq, Int.reduceBNe, Int.reduceLT, Int.reduceLE, Int.reduceAdd, Int.reduceSub, Int.reduceMul, Int.reduceNeg, Int.reduceEq, Int.reduceNe, Nat.reduceMul, Nat.reduceSub]
      exact ⟨_, rfl, .inr ⟨by omega, by rw [he]; exact List.getElem_mem _⟩⟩
    · have hce : (decide (c.X = l[i].X) && decide (c.Y = l[i].Y)) = false := by
        rw [Bool.and_eq_false_iff, decide_eq_false_iff_not, decide_eq_false_iff_not]
        refine Classical.byContradiction fun hh => he ?_
        have h1 : c.X = l[i].X := Classical.byContradiction fun h => hh (.inl h)
        have h2 : c.Y = l[i].Y := Classical.byContradiction fun h => hh (.inr h)
        cases c; simp only at h1 h2; rw [h1, h2]
      simp (disch := first | assumption | omega) only [e8, e7, e0, e3, x3, eh, q1, hlt, hce, hid, go_sem, ↓reduceIte, Nat.reduceEqDiff, reduceCtorEq, Nat.reduceAdd, Nat.reduceLeDiff, Nat.reduceLT, reduceIte, Int.reduceBEq, Int.reduceBNe, Int.reduceLT, Int.reduceLE, Int.reduceAdd, Int.reduceSub, Int.reduceMul, Int.reduceNeg, Int.reduceEq, Int.reduceNe, Nat.reduceMul, Nat.reduceSub]
      refine ⟨by rw [flatC_length]; omega, ?_⟩
      exact ⟨d - 1, by omega, i + 1, by omega, by simp, fun hc => by rw [hst] at hc; rcases List.mem_append.1 hc with hc | hc; exact hm hc; exact he (List.mem_singleton.1 hc)⟩
  · obtain rfl : i = l.length := by omega
    rw [List.take_length] at hm
    simp (disch := first | assumption | omega) only [e8, e7, e0, e3, x3, eh, go_sem, ↓reduceIte, Nat.reduceEqDiff, reduceCtorEq, Nat.reduceAdd, Nat.reduceLeDiff, Nat.reduceLT, reduceIte, Int.reduceBEq, Int.reduceBNe, Int.reduceLT, Int.reduceLE, Int.reduceAdd, Int.reduceSub, Int.reduceMul, Int.reduceNeg, Int.reduceEq, Int.reduceNe, Nat.reduceMul, Nat.reduceSub]
    subst hQ
    simp (disch := first | assumption | omega) only [R.slices_Index_Cell, e8, e7, e0, e3, x3, eh, go_sem, ↓reduceIte, Nat.reduceEqDiff, reduceCtorEq, Nat.reduceAdd, Nat.reduceLeDiff, Nat.reduceLT, reduceIte, Int.reduceBEq, Int.reduceBNe, Int.reduceLT, Int.reduceLE, Int.reduceAdd, Int.reduceSub, Int.reduceMul, Int.reduceNeg, Int.reduceEq, Int.reduceNe, Nat.reduceMul, Nat.reduceSub]
    exact ⟨_, rfl, .inl ⟨rfl, hm⟩⟩
theorem ContainsCellR_ok (l : List Cell) (c : Cell) (id cap : Nat) (rest : List AVal) (h : List HObj) (hid : h[id]? = some (.cells (flatC l ++ rest))) (hl : l.length < 4611686018427387904) :
    ACalls Try.prog F.slices_Contains_Cell [.ref id 0 l.length cap, cellA c] h (fun v h' => v = .bool (decide (c ∈ l)) ∧ h' = h) := by
  refine ACalls.of_aw Try.func179 K.slices_Contains_Cell (by simp [Try.f179]) ?_
  generalize hQ : retQ R.slices_Contains_Cell _ = Q
  simp (disch := first | assumption | omega) only [C.slices_Contains_Cell, go_sem, ↓reduceIte, Nat.reduceEqDiff, reduceCtorEq, Nat.reduceAdd, Nat.reduceLeDiff, Nat.reduceLT, reduceIte, Int.reduceBEq, Int.reduceBNe, Int.reduceLT, Int.reduceLE, Int.reduceAdd, Int.reduceSub, Int.reduceMul, Int.reduceNeg, Int.reduceEq, Int.reduceNe, Nat.reduceMul, Nat.reduceSub]
  simp (disch := first | assumption | omega) only [cellA, drV_ref, go_sem, ↓reduceIte, Nat.reduceEqDiff, reduceCtorEq, Nat.reduceAdd, Nat.reduceLeDiff, Nat.reduceLT, reduceIte, Int.reduceBEq, Int.reduceBNe, Int.reduceLT, Int.reduceLE, Int.reduceAdd, Int.reduceSub, Int.reduceMul, Int.reduceNeg, Int.reduceEq, Int.reduceNe, Nat.reduceMul, Nat.reduceSub]
  refine callG_ok (IndexCellR_ok l c id cap rest h hid hl) (by simp (disch := first | assumption | omega) only [cellA, go_sem, ↓reduceIte, Nat.reduceEqDiff, reduceCtorEq, Nat.reduceAdd, Nat.reduceLeDiff, Nat.reduceLT, reduceIte, Int.reduceBEq, Int.reduceBNe, Int.reduceLT, Int.reduceLE, Int.reduceAdd, Int.reduceSub, Int.reduceMul, Int.reduceNeg, Int.reduceEq, Int.reduceNe, Nat.reduceMul, Nat.reduceSub]) ?_
  rintro _ _ ⟨⟨r, rfl, hr⟩, hhh⟩
  rw [hhh]
  clear hhh
  simp (disch := first | assumption | omega) only [go_sem, ↓reduceIte, Nat.reduceEqDiff, reduceCtorEq, Nat.reduceAdd, Nat.reduceLeDiff, Nat.reduceLT, reduceIte, Int.reduceBEq, Int.reduceBNe, Int.reduceLT, Int.reduceLE, Int.reduceAdd, Int.reduceSub, Int.reduceMul, Int.reduceNeg, Int.reduceEq, Int.reduceNe, Nat.reduceMul, Nat.reduceSub]
  subst hQ
  simp (disch := first | assumption | omega) only [R.slices_Contains_Cell, go_sem, ↓reduceIte, Nat.reduceEqDiff, reduceCtorEq, Nat.reduceAdd, Nat.reduceLeDiff, Nat.reduceLT, reduceIte, Int.reduceBEq, Int.reduceBNe, Int.reduceLT, Int.reduceLE, Int.reduceAdd, Int.reduceSub, Int.reduceMul, Int.reduceNeg, Int.reduceEq, Int.reduceNe, Nat.reduceMul, Nat.reduceSub]
  rcases hr with ⟨rfl, hr⟩ | ⟨h0, hr⟩
  · rw [decide_eq_false hr]; rfl
  · rw [decide_eq_true hr, decide_eq_true h0]
end Go.Proofs.Ytpdajkbfemcdlaa
/- Contracts: streams; cells that are made. -/
set_option linter.unusedSimpArgs false
set_option linter.unusedVariables false
set_option maxRecDepth 10000
namespace Go.Proofs.Ytpdajkbfemcdlaa
open Go.Ge
theorem Next_ok (id : Nat) (o : Own) (l : List Int) (n : Int) (ho : Rdo o) (hl : ∀ c ∈ l, inI64 c) (hn : inI64 n) (h : List HObj) (hid : h[id]? = some (.cells [.lst o (ints .i64 l)])) :
    ACalls Try.prog F.gantmake_Stream_Next [.hp id 0, .int .i64 n] h (fun v h' => ∃ (x : Int) (o' : Own) (l' : List Int), v = .int .i64 x ∧ 0 ≤ x ∧ (1 ≤ n → x < n) ∧ Rdo o' ∧ (∀ c ∈ l', inI64 c) ∧ h' = h.set id (.cells [.lst o' (ints .i64 l')])) := by
  have hidl : id < h.length := (List.getElem?_eq_some_iff.1 hid).1
  unfold inI64 at hn
  refine ACalls.of_aw Try.func161 K.gantmake_Stream_Next (by simp [Try.f161]) ?_
  generalize hQ : retQ R.gantmake_Stream_Next _ = Q
  simp (disch := first | assumption | omega) only [C.gantmake_Stream_Next, go_sem, ↓reduceIte, Nat.reduceEqDiff, reduceCtorEq, Nat.reduceAdd, Nat.reduceLeDiff, Nat.reduceLT, reduceIte, Int.reduceBEq, Int.reduceBNe, Int.reduceLT, Int.reduceLE, Int.reduceAdd, Int.reduceSub, Int.reduceMul, Int.reduceNeg, Int.reduceEq, Int.reduceNe, Nat.reduceMul, Nat.reduceSub]
  by_cases h0 : l.length = 0
  · have h0' : ((l.length : Nat) : Int) = 0 := by omega
    simp (disch := first | assumption | omega) only [hid, eq_true h0', go_sem, ↓reduceIte, Nat.reduceEqDiff, reduceCtorEq, Nat.reduceAdd, Nat.reduceLeDiff, Nat.reduceLT, reduceIte, Int.reduceBEq, Int.reduceBNe, Int.reduceLT, Int.reduceLE, Int.reduceAdd, Int.reduceSub, Int.reduceMul, Int.reduceNeg, Int.reduceEq, Int.reduceNe, Nat.reduceMul, Nat.reduceSub]
    subst hQ
    simp (disch := first | assumption | omega) only [R.gantmake_Stream_Next, go_sem, ↓reduceIte, Nat.reduceEqDiff, reduceCtorEq, Nat.reduceAdd, Nat.reduceLeDiff, Nat.reduceLT, reduceIte, Int.reduceBEq, Int.reduceBNe, Int.reduceLT, Int.reduceLE, Int.reduceAdd, Int.reduceSub, Int.reduceMul, Int.reduceNeg, Int.reduceEq, Int.reduceNe, Nat.reduceMul, Nat.reduceSub]
    exact ⟨0, o, l, rfl, by omega, fun h => by omega, ho, hl, (set_same hid).symm⟩
  have h0' : ¬ ((l.length : Nat) : Int) = 0 := by omega
  by_cases h1 : n < 1
  · simp (disch := first | assumption | omega) only [hid, h0', h1, go_sem, ↓reduceIte, Nat.reduceEqDiff, reduceCtorEq, Nat.reduceAdd, Nat.reduceLeDiff, Nat.reduceLT, reduceIte, Int.reduceBEq, Int.reduceBNe, Int.reduceLT, Int.reduceLE, Int.reduceAdd, Int.reduceSub, Int.reduceMul, Int.reduceNeg, Int.reduceEq, Int.reduceNe, Nat.reduceMul, Nat.reduceSub]
    subst hQ
    simp (disch := first | assumption | omega) only [R.gantmake_Stream_Next, go_sem, ↓reduceIte, Nat.reduceEqDiff, reduceCtorEq, Nat.reduceAdd, Nat.reduceLeDiff, Nat.reduceLT, reduceIte, Int.reduceBEq, Int.reduceBNe, Int.reduceLT, Int.reduceLE, Int.reduceAdd, Int.reduceSub, Int.reduceMul, Int.reduceNeg, Int.reduceEq, Int.reduceNe, Nat.reduceMul, Nat.reduceSub]
    exact ⟨0, o, l, rfl, by omega, fun h => by omega, ho, hl, (set_same hid).symm⟩
  have c0 : at_ (ints .i64 l) 0 = .int .i64 (l.getD 0 0) := at_ints' l 0 (by omega)
  have hx : inI64 (l.getD 0 0) := by rw [getD_get (by omega)]; exact hl _ (List.getElem_mem _)
  have l0 : (0 : Int) < l.length := by omega
  have l1 : (1 : Int) ≤ l.length := by omega
  have hs : List.take (l.length - Int.toNat 1) (List.drop (Int.toNat 1) (ints .i64 l)) = ints .i64 (l.drop 1) := by
    have := take_all (ints .i64 l) (Int.toNat 1)
    rw [← ints_drop]; rwa [ints_length] at this
  have hset : ∀ x, (h.set id x)[id]? = some x := fun x => List.getElem?_set_self hidl
  rcases ho with rfl | rfl
  all_goals
    simp (disch := first | assumption | omega) only [hid, h0', h1, c0, l0, l1, hs, hset, List.set_set, go_sem, ↓reduceIte, Nat.reduceEqDiff, reduceCtorEq, Nat.reduceAdd, Nat.reduceLeDiff, Nat.reduceLT, reduceIte, Int.reduceBEq, Int.reduceBNe, Int.reduceLT, Int.reduceLE, Int.reduceAdd, Int.reduceSub, Int.reduceMul, Int.reduceNeg, Int.reduceEq, Int.reduceNe, Nat.reduceMul, Nat.reduceSub]
    refine ⟨⟨Nat.le_refl _, ints_width l⟩, ?_⟩
    refine callG_ok (Below_ok (l.getD 0 0) n hx (by omega) (by omega) _) (by simp (disch := first | assumption | omega) only [go_sem, ↓reduceIte, Nat.reduceEqDiff, reduceCtorEq, Nat.reduceAdd, Nat.reduceLeDiff, Nat.reduceLT, reduceIte, Int.reduceBEq, Int.reduceBNe, Int.reduceLT, Int.reduceLE, Int.reduceAdd, Int.reduceSub, Int.reduceMul, Int.reduceNeg, Int.reduceEq, Int.reduceNe, Nat.reduceMul, Nat.reduceSub]) ?_
    rintro _ _ ⟨rfl, hhh⟩
    rw [hhh]
    clear hhh
    have m1 := Int.emod_nonneg (l.getD 0 0) (b := n) (by omega)
    have m2 := Int.emod_lt_of_pos (l.getD 0 0) (b := n) (by omega)
    simp (disch := first | assumption | omega) only [go_sem, ↓reduceIte, Nat.reduceEqDiff, reduceCtorEq, Nat.reduceAdd, Nat.reduceLeDiff, Nat.reduceLT, reduceIte, Int.reduceBEq, Int.reduceBNe, Int.reduceLT, Int.reduceLE, Int.reduceAdd, Int.reduceSub, Int.reduceMul, Int.reduceNeg, Int.reduceEq, Int.reduceNe, Nat.reduceMul, Nat.reduceSub]
    subst hQ
    simp (disch := first | assumption | omega) only [R.gantmake_Stream_Next, go_sem, ↓reduceIte, Nat.reduceEqDiff, reduceCtorEq, Nat.reduceAdd, Nat.reduceLeDiff, Nat.reduceLT, reduceIte, Int.reduceBEq, Int.reduceBNe, Int.reduceLT, Int.reduceLE, Int.reduceAdd, Int.reduceSub, Int.reduceMul, Int.reduceNeg, Int.reduceEq, Int.reduceNe, Nat.reduceMul, Nat.reduceSub]
    exact ⟨_, _, l.drop 1, rfl, m1, fun _ => m2, .inl rfl, fun c hc => hl c (List.mem_of_mem_drop hc), rfl⟩
theorem cellsA_width (l : List Cell) : ∀ x ∈ cellsA l, x.width = 2 := by
  intro x hx; obtain ⟨c, _, rfl⟩ := List.mem_map.1 hx; rfl
theorem thaw_cells {C : CallS} {Q : AExit → AState → Prop} {S : AState} {a : ACode} {s cap : Nat} {cs : List Cell} (he : S.env s = .lst (.uniq 2 cap) (cellsA cs)) (hn : cs.length ≤ cap)
    (hK : aw C a Q (({ S with heap := S.heap ++ [.cells (flatC cs ++ List.replicate ((cap - cs.length) * 2) .junk)] } : AState).set s (.ref S.heap.length 0 cs.length cap))) : aw C (.thaw s a) Q S := by
  rw [aw_thaw, he]
  have e : (cellsA cs).length = cs.length := by simp [cellsA]
  simp only [e, flatC_cells]
  refine ⟨by omega, fun x hx => ⟨cellsA_width cs x hx, ?_⟩, hn, hK⟩
  obtain ⟨c, _, rfl⟩ := List.mem_map.1 hx; rfl
theorem thaw_nil {C : CallS} {Q : AExit → AState → Prop} {S : AState} {a : ACode} {s : Nat} {xs : List AVal} (he : S.env s = .lst .nil xs) (hK : aw C a Q S) : aw C (.thaw s a) Q S := by
  rw [aw_thaw, he]; exact hK
theorem own_cells {C : CallS} {Q : AExit → AState → Prop} {S : AState} {a : ACode} {s id cap : Nat} {cs : List Cell} {rest : List AVal} (he : S.env s = .ref id 0 cs.length cap) (hh : S.heap[id]? = some (.cells (flatC cs ++ rest))) (hc : cs.length ≤ cap) (h0 : cap ≠ 0) (hr : rest.length = (cap - cs.length) * 2)
    (hK : aw C a Q (({ S with heap := S.heap.set id .dead } : AState).set s (.lst (.uniq 2 cap) (cellsA cs)))) : aw C (.own s true 2 a) Q S := by
  have e : (cellsA cs).length = cs.length := by simp [cellsA]
  refine own_flat (id := id) (cap := cap) (xs := cellsA cs) (rest := rest) (by rw [e]; exact he) (by rw [flatC_cells]; exact hh) (by rw [e]; exact hc) (by rw [e]; exact hr) (by omega) (cellsA_width cs) (fun _ x hx => ?_) (fun h => by cases h) (fun h => by cases h) (fun x hx c hc => ?_) ?_
  · obtain ⟨c, _, rfl⟩ := List.mem_map.1 hx; exact ⟨_, rfl⟩
  · obtain ⟨y, _, rfl⟩ := List.mem_map.1 hx
    simp only [cellA, AVal.cells, List.mem_cons, List.not_mem_nil, or_false] at hc
    rcases hc with rfl | rfl <;> exact ⟨rfl, rfl⟩
  · rintro hp (⟨_, h⟩ | ⟨rfl, _⟩)
    · exact absurd h h0
    · exact hK
theorem rdcInt {k : IntKind} {n : Int} : Ge.rdc (.int k n) = .int k n := rfl
theorem flatC_rdc (cs : List Cell) : (flatC cs).map Ge.rdc = flatC cs := by
  induction cs with
  | nil => rfl
  | cons c l ih =>
    have e : flatC (c :: l) = [.int .i64 c.X, .int .i64 c.Y] ++ flatC l := rfl
    rw [e, List.map_append, ih]; rfl
theorem flatC_take {cs : List Cell} {rest : List AVal} : (flatC cs ++ rest).take (cs.length * 2) = flatC cs := by
  rw [← flatC_length, List.take_left]
theorem flatC_push {cs : List Cell} {cap : Nat} {c : Cell} (h : cs.length < cap) : fillV (flatC cs ++ List.replicate ((cap - cs.length) * 2) .junk) (cs.length * 2) [.int .i64 c.X, .int .i64 c.Y] = flatC (cs ++ [c]) ++ List.replicate ((cap - (cs.length + 1)) * 2) .junk := by
  unfold fillV
  rw [flatC_take, flatC_append]
  have e : (flatC cs ++ List.replicate ((cap - cs.length) * 2) AVal.junk).drop (cs.length * 2 + [AVal.int .i64 c.X, AVal.int .i64 c.Y].length) = List.replicate ((cap - (cs.length + 1)) * 2) .junk := by
    rw [← List.drop_drop, ← flatC_length, List.drop_left, List.drop_replicate]; congr 1; simp; omega
  rw [e]; rfl
theorem hb1 (cs : List Cell) (h : ∀ c ∈ cs, -4 ≤ c.X ∧ c.X ≤ 3 ∧ -4 ≤ c.Y ∧ c.Y ≤ 3) {x y : Int} (u : Unit) (x0 : 0 ≤ x) (x8 : x < 8) (y0 : 0 ≤ y) (y8 : y < 8) : ∀ c ∈ cs ++ [⟨x - 4, y - 4⟩], -4 ≤ c.X ∧ c.X ≤ 3 ∧ -4 ≤ c.Y ∧ c.Y ≤ 3 := by
  intro c hc
  rcases List.mem_append.1 hc with hc | hc
  · exact h c hc
  · have := List.mem_singleton.1 hc
    subst this
    exact ⟨by show -4 ≤ x - 4; omega, by show x - 4 ≤ 3; omega, by show -4 ≤ y - 4; omega, by show y - 4 ≤ 3; omega⟩
theorem cells_ids (l : List Cell) : idsL (cellsA l) = 0 := by
  induction l with
  | nil => rfl
  | cons c l ih =>
    have e : cellsA (c :: l) = cellA c :: cellsA l := rfl
    rw [e]; simp [idsL, ih, cellA, AVal.ids]
/-- Cells that are held alone, or none. -/
def Held (v : AVal) (cs : List Cell) : Prop := v = .lst .nil [] ∧ cs = [] ∨ ∃ cap, v = .lst (.uniq 2 cap) (cellsA cs) ∧ cs.length ≤ cap ∧ 0 < cap
theorem MadeCells_ok (o : Own) (l : List Int) (ho : Rdo o) (hl : ∀ c ∈ l, inI64 c) (h : List HObj) :
    ACalls Try.prog F.gantmake_Cells [.lst o (ints .i64 l)] h (fun v h' => (∃ cs : List Cell, cs.length ≤ 8 ∧ (∀ c ∈ cs, -4 ≤ c.X ∧ c.X ≤ 3 ∧ -4 ≤ c.Y ∧ c.Y ≤ 3) ∧ (v = .lst .nil [] ∧ cs = [] ∨ v = .lst (.app 2) (cellsA cs))) ∧ h' = h) := by
  refine ACalls.gcn (ACalls.of_aw Try.func111 K.gantmake_Cells (by simp [Try.f111]) ?_)
  generalize hQ : retQ R.gantmake_Cells _ = Q
  simp (disch := first | assumption | omega) only [C.gantmake_Cells, go_sem, ↓reduceIte, Nat.reduceEqDiff, reduceCtorEq, Nat.reduceAdd, Nat.reduceLeDiff, Nat.reduceLT, reduceIte, Int.reduceBEq, Int.reduceBNe, Int.reduceLT, Int.reduceLE, Int.reduceAdd, Int.reduceSub, Int.reduceMul, Int.reduceNeg, Int.reduceEq, Int.reduceNe, Nat.reduceMul, Nat.reduceSub]
  refine callG_ok (Next_ok h.length o l 9 ho hl (by simp [inI64]) _ (by simp (disch := first | assumption | omega) only [go_sem, ↓reduceIte, Nat.reduceEqDiff, reduceCtorEq, Nat.reduceAdd, Nat.reduceLeDiff, Nat.reduceLT, reduceIte, Int.reduceBEq, Int.reduceBNe, Int.reduceLT, Int.reduceLE, Int.reduceAdd, Int.reduceSub, Int.reduceMul, Int.reduceNeg, Int.reduceEq, Int.reduceNe, Nat.reduceMul, Nat.reduceSub])) (by simp (disch := first | assumption | omega) only [go_sem, ↓reduceIte, Nat.reduceEqDiff, reduceCtorEq, Nat.reduceAdd, Nat.reduceLeDiff, Nat.reduceLT, reduceIte, Int.reduceBEq, Int.reduceBNe, Int.reduceLT, Int.reduceLE, Int.reduceAdd, Int.reduceSub, Int.reduceMul, Int.reduceNeg, Int.reduceEq, Int.reduceNe, Nat.reduceMul, Nat.reduceSub]) ?_
  rintro _ _ ⟨n, o1, l1, rfl, n0, n9, ho1, hl1, rfl⟩
  have n9 := n9 (by omega)
  obtain ⟨m, rfl⟩ := Int.eq_ofNat_of_zero_le n0
  simp (disch := first | assumption | omega) only [go_sem, ↓reduceIte, Nat.reduceEqDiff, reduceCtorEq, Nat.reduceAdd, Nat.reduceLeDiff, Nat.reduceLT, reduceIte, Int.reduceBEq, Int.reduceBNe, Int.reduceLT, Int.reduceLE, Int.reduceAdd, Int.reduceSub, Int.reduceMul, Int.reduceNeg, Int.reduceEq, Int.reduceNe, Nat.reduceMul, Nat.reduceSub]
  refine aw_count (fun d S => ∃ (k : Nat) (o' : Own) (l' : List Int) (cs : List Cell) (ext : List HObj), k + d = m ∧ S.env 11 = .int .i64 k ∧ S.env 10 = .int .i64 m ∧ S.env 3 = .hp h.length 0 ∧ Held (S.env 4) cs ∧ cs.length ≤ k ∧ (∀ c ∈ cs, -4 ≤ c.X ∧ c.X ≤ 3 ∧ -4 ≤ c.Y ∧ c.Y ≤ 3) ∧ Rdo o' ∧ (∀ c ∈ l', inI64 c) ∧ S.heap = h ++ .cells [.lst o' (ints .i64 l')] :: ext) (n := m)
    ⟨0, o1, l1, [], [], by omega, by simp (disch := first | assumption | omega) only [go_sem, ↓reduceIte, Nat.reduceEqDiff, reduceCtorEq, Nat.reduceAdd, Nat.reduceLeDiff, Nat.reduceLT, reduceIte, Int.reduceBEq, Int.reduceBNe, Int.reduceLT, Int.reduceLE, Int.reduceAdd, Int.reduceSub, Int.reduceMul, Int.reduceNeg, Int.reduceEq, Int.reduceNe, Nat.reduceMul, Nat.reduceSub], by simp (disch := first | assumption | omega) only [go_sem, ↓reduceIte, Nat.reduceEqDiff, reduceCtorEq, Nat.reduceAdd, Nat.reduceLeDiff, Nat.reduceLT, reduceIte, Int.reduceBEq, Int.reduceBNe, Int.reduceLT, Int.reduceLE, Int.reduceAdd, Int.reduceSub, Int.reduceMul, Int.reduceNeg, Int.reduceEq, Int.reduceNe, Nat.reduceMul, Nat.reduceSub], by simp (disch := first | assumption | omega) only [go_sem, ↓reduceIte, Nat.reduceEqDiff, reduceCtorEq, Nat.reduceAdd, Nat.reduceLeDiff, Nat.reduceLT, reduceIte, Int.reduceBEq, Int.reduceBNe, Int.reduceLT, Int.reduceLE, Int.reduceAdd, Int.reduceSub, Int.reduceMul, Int.reduceNeg, Int.reduceEq, Int.reduceNe, Nat.reduceMul, Nat.reduceSub], .inl ⟨by simp (disch := first | assumption | omega) only [go_sem, ↓reduceIte, Nat.reduceEqDiff, reduceCtorEq, Nat.reduceAdd, Nat.reduceLeDiff, Nat.reduceLT, reduceIte, Int.reduceBEq, Int.reduceBNe, Int.reduceLT, Int.reduceLE, Int.reduceAdd, Int.reduceSub, Int.reduceMul, Int.reduceNeg, Int.reduceEq, Int.reduceNe, Nat.reduceMul, Nat.reduceSub], rfl⟩, by simp, by simp, ho1, hl1, by simp (disch := first | assumption | omega) only [go_sem, ↓reduceIte, Nat.reduceEqDiff, reduceCtorEq, Nat.reduceAdd, Nat.reduceLeDiff, Nat.reduceLT, reduceIte, Int.reduceBEq, Int.reduceBNe, Int.reduceLT, Int.reduceLE, Int.reduceAdd, Int.reduceSub, Int.reduceMul, Int.reduceNeg, Int.reduceEq, Int.reduceNe, Nat.reduceMul, Nat.reduceSub]⟩ ?_
  rintro d S ⟨k, o', l', cs, ext, hk, e11, e10, e3, e4, hcs, hcb, ho', hl', eh⟩
  simp (disch := first | assumption | omega) only [e11, e10, e3, eh, go_sem, ↓reduceIte, Nat.reduceEqDiff, reduceCtorEq, Nat.reduceAdd, Nat.reduceLeDiff, Nat.reduceLT, reduceIte, Int.reduceBEq, Int.reduceBNe, Int.reduceLT, Int.reduceLE, Int.reduceAdd, Int.reduceSub, Int.reduceMul, Int.reduceNeg, Int.reduceEq, Int.reduceNe, Nat.reduceMul, Nat.reduceSub]
  refine condG_if (fun hlt => ?_) fun hge => ?_
  · simp (disch := first | assumption | omega) only [e11, e10, e3, eh, go_sem, ↓reduceIte, Nat.reduceEqDiff, reduceCtorEq, Nat.reduceAdd, Nat.reduceLeDiff, Nat.reduceLT, reduceIte, Int.reduceBEq, Int.reduceBNe, Int.reduceLT, Int.reduceLE, Int.reduceAdd, Int.reduceSub, Int.reduceMul, Int.reduceNeg, Int.reduceEq, Int.reduceNe, Nat.reduceMul, Nat.reduceSub]
    refine callG_ok (Next_ok h.length o' l' 8 ho' hl' (by simp [inI64]) _ (by simp (disch := first | assumption | omega) only [e11, e10, e3, eh, go_sem, ↓reduceIte, Nat.reduceEqDiff, reduceCtorEq, Nat.reduceAdd, Nat.reduceLeDiff, Nat.reduceLT, reduceIte, Int.reduceBEq, Int.reduceBNe, Int.reduceLT, Int.reduceLE, Int.reduceAdd, Int.reduceSub, Int.reduceMul, Int.reduceNeg, Int.reduceEq, Int.reduceNe, Nat.reduceMul, Nat.reduceSub])) (by simp (disch := first | assumption | omega) only [go_sem, ↓reduceIte, Nat.reduceEqDiff, reduceCtorEq, Nat.reduceAdd, Nat.reduceLeDiff, Nat.reduceLT, reduceIte, Int.reduceBEq, Int.reduceBNe, Int.reduceLT, Int.reduceLE, Int.reduceAdd, Int.reduceSub, Int.reduceMul, Int.reduceNeg, Int.reduceEq, Int.reduceNe, Nat.reduceMul, Nat.reduceSub]) ?_
    rintro _ _ ⟨x, o2, l2, rfl, x0, x8, ho2, hl2, rfl⟩
    have x8 := x8 (by omega)
    simp (disch := first | assumption | omega) only [e11, e10, e3, eh, go_sem, ↓reduceIte, Nat.reduceEqDiff, reduceCtorEq, Nat.reduceAdd, Nat.reduceLeDiff, Nat.reduceLT, reduceIte, Int.reduceBEq, Int.reduceBNe, Int.reduceLT, Int.reduceLE, Int.reduceAdd, Int.reduceSub, Int.reduceMul, Int.reduceNeg, Int.reduceEq, Int.reduceNe, Nat.reduceMul, Nat.reduceSub]
    refine callG_ok (Next_ok h.length o2 l2 8 ho2 hl2 (by simp [inI64]) _ (by simp (disch := first | assumption | omega) only [e11, e10, e3, eh, go_sem, ↓reduceIte, Nat.reduceEqDiff, reduceCtorEq, Nat.reduceAdd, Nat.reduceLeDiff, Nat.reduceLT, reduceIte, Int.reduceBEq, Int.reduceBNe, Int.reduceLT, Int.reduceLE, Int.reduceAdd, Int.reduceSub, Int.reduceMul, Int.reduceNeg, Int.reduceEq, Int.reduceNe, Nat.reduceMul, Nat.reduceSub])) (by simp (disch := first | assumption | omega) only [go_sem, ↓reduceIte, Nat.reduceEqDiff, reduceCtorEq, Nat.reduceAdd, Nat.reduceLeDiff, Nat.reduceLT, reduceIte, Int.reduceBEq, Int.reduceBNe, Int.reduceLT, Int.reduceLE, Int.reduceAdd, Int.reduceSub, Int.reduceMul, Int.reduceNeg, Int.reduceEq, Int.reduceNe, Nat.reduceMul, Nat.reduceSub]) ?_
    rintro _ _ ⟨y, o3, l3, rfl, y0, y8, ho3, hl3, rfl⟩
    have y8 := y8 (by omega)
    simp (disch := first | assumption | omega) only [e11, e10, e3, eh, go_sem, ↓reduceIte, Nat.reduceEqDiff, reduceCtorEq, Nat.reduceAdd, Nat.reduceLeDiff, Nat.reduceLT, reduceIte, Int.reduceBEq, Int.reduceBNe, Int.reduceLT, Int.reduceLE, Int.reduceAdd, Int.reduceSub, Int.reduceMul, Int.reduceNeg, Int.reduceEq, Int.reduceNe, Nat.reduceMul, Nat.reduceSub]
    rcases e4 with ⟨e4, rfl⟩ | ⟨cap, e4, hcap, h0⟩
    · refine thaw_nil (xs := []) (by simp (disch := first | assumption | omega) only [e4, go_sem, ↓reduceIte, Nat.reduceEqDiff, reduceCtorEq, Nat.reduceAdd, Nat.reduceLeDiff, Nat.reduceLT, reduceIte, Int.reduceBEq, Int.reduceBNe, Int.reduceLT, Int.reduceLE, Int.reduceAdd, Int.reduceSub, Int.reduceMul, Int.reduceNeg, Int.reduceEq, Int.reduceNe, Nat.reduceMul, Nat.reduceSub]) ?_
      simp (disch := first | assumption | omega) only [e11, e10, e3, eh, e4, go_sem, ↓reduceIte, Nat.reduceEqDiff, reduceCtorEq, Nat.reduceAdd, Nat.reduceLeDiff, Nat.reduceLT, reduceIte, Int.reduceBEq, Int.reduceBNe, Int.reduceLT, Int.reduceLE, Int.reduceAdd, Int.reduceSub, Int.reduceMul, Int.reduceNeg, Int.reduceEq, Int.reduceNe, Nat.reduceMul, Nat.reduceSub]
      refine callG_ok (ContainsCell_ok .nil [] ⟨x - 4, y - 4⟩ (.inr rfl) (by simp) _) (by simp (disch := first | assumption | omega) only [go_sem, ↓reduceIte, Nat.reduceEqDiff, reduceCtorEq, Nat.reduceAdd, Nat.reduceLeDiff, Nat.reduceLT, reduceIte, Int.reduceBEq, Int.reduceBNe, Int.reduceLT, Int.reduceLE, Int.reduceAdd, Int.reduceSub, Int.reduceMul, Int.reduceNeg, Int.reduceEq, Int.reduceNe, Nat.reduceMul, Nat.reduceSub]) ?_
      rintro _ _ ⟨rfl, hhh⟩
      rw [hhh]
      clear hhh
      rw [show decide ((⟨x - 4, y - 4⟩ : Cell) ∈ ([] : List Cell)) = false from by simp]
      simp (disch := first | assumption | omega) only [e11, e10, e3, eh, e4, aops_hop, hstep, srcH, srcW, growV, List.flatMap_cons, List.flatMap_nil, AVal.cells, rdcInt, go_sem, ↓reduceIte, Nat.reduceEqDiff, reduceCtorEq, Nat.reduceAdd, Nat.reduceLeDiff, Nat.reduceLT, reduceIte, Int.reduceBEq, Int.reduceBNe, Int.reduceLT, Int.reduceLE, Int.reduceAdd, Int.reduceSub, Int.reduceMul, Int.reduceNeg, Int.reduceEq, Int.reduceNe, Nat.reduceMul, Nat.reduceSub]
      refine fun _ cap hc => ?_
      refine own_cells (cs := [⟨x - 4, y - 4⟩]) (cap := cap) (rest := List.replicate ((cap - 1) * 2) .junk) (id := h.length + (ext.length + 1)) (by simp (disch := first | assumption | omega) only [go_sem, ↓reduceIte, Nat.reduceEqDiff, reduceCtorEq, Nat.reduceAdd, Nat.reduceLeDiff, Nat.reduceLT, reduceIte, Int.reduceBEq, Int.reduceBNe, Int.reduceLT, Int.reduceLE, Int.reduceAdd, Int.reduceSub, Int.reduceMul, Int.reduceNeg, Int.reduceEq, Int.reduceNe, Nat.reduceMul, Nat.reduceSub]) (by simp (disch := first | assumption | omega) only [go_sem, ↓reduceIte, Nat.reduceEqDiff, reduceCtorEq, Nat.reduceAdd, Nat.reduceLeDiff, Nat.reduceLT, reduceIte, Int.reduceBEq, Int.reduceBNe, Int.reduceLT, Int.reduceLE, Int.reduceAdd, Int.reduceSub, Int.reduceMul, Int.reduceNeg, Int.reduceEq, Int.reduceNe, Nat.reduceMul, Nat.reduceSub]; rfl) (by simp; omega) (by omega) (by simp) ?_
      simp (disch := first | assumption | omega) only [e11, e10, e3, eh, go_sem, ↓reduceIte, Nat.reduceEqDiff, reduceCtorEq, Nat.reduceAdd, Nat.reduceLeDiff, Nat.reduceLT, reduceIte, Int.reduceBEq, Int.reduceBNe, Int.reduceLT, Int.reduceLE, Int.reduceAdd, Int.reduceSub, Int.reduceMul, Int.reduceNeg, Int.reduceEq, Int.reduceNe, Nat.reduceMul, Nat.reduceSub]
      refine ⟨d - 1, by omega, k + 1, o3, l3, [⟨x - 4, y - 4⟩], ext ++ [.dead], by omega, by simp, .inr ⟨cap, rfl, by simp; omega, by omega⟩, by simp, hb1 [] (by simp) () x0 x8 y0 y8, ho3, hl3, rfl⟩
    · refine thaw_cells (cs := cs) (cap := cap) (by simp (disch := first | assumption | omega) only [e4, go_sem, ↓reduceIte, Nat.reduceEqDiff, reduceCtorEq, Nat.reduceAdd, Nat.reduceLeDiff, Nat.reduceLT, reduceIte, Int.reduceBEq, Int.reduceBNe, Int.reduceLT, Int.reduceLE, Int.reduceAdd, Int.reduceSub, Int.reduceMul, Int.reduceNeg, Int.reduceEq, Int.reduceNe, Nat.reduceMul, Nat.reduceSub]) hcap ?_
      simp (disch := first | assumption | omega) only [e11, e10, e3, eh, e4, go_sem, ↓reduceIte, Nat.reduceEqDiff, reduceCtorEq, Nat.reduceAdd, Nat.reduceLeDiff, Nat.reduceLT, reduceIte, Int.reduceBEq, Int.reduceBNe, Int.reduceLT, Int.reduceLE, Int.reduceAdd, Int.reduceSub, Int.reduceMul, Int.reduceNeg, Int.reduceEq, Int.reduceNe, Nat.reduceMul, Nat.reduceSub]
      refine callG_ok (ContainsCellR_ok cs ⟨x - 4, y - 4⟩ _ cap _ _ (by simp (disch := first | assumption | omega) only [e11, e10, e3, eh, go_sem, ↓reduceIte, Nat.reduceEqDiff, reduceCtorEq, Nat.reduceAdd, Nat.reduceLeDiff, Nat.reduceLT, reduceIte, Int.reduceBEq, Int.reduceBNe, Int.reduceLT, Int.reduceLE, Int.reduceAdd, Int.reduceSub, Int.reduceMul, Int.reduceNeg, Int.reduceEq, Int.reduceNe, Nat.reduceMul, Nat.reduceSub]; rfl) (by omega)) (by simp (disch := first | assumption | omega) only [go_sem, ↓reduceIte, Nat.reduceEqDiff, reduceCtorEq, Nat.reduceAdd, Nat.reduceLeDiff, Nat.reduceLT, reduceIte, Int.reduceBEq, Int.reduceBNe, Int.reduceLT, Int.reduceLE, Int.reduceAdd, Int.reduceSub, Int.reduceMul, Int.reduceNeg, Int.reduceEq, Int.reduceNe, Nat.reduceMul, Nat.reduceSub]) ?_
      rintro _ _ ⟨rfl, hhh⟩
      rw [hhh]
      clear hhh
      by_cases hin : (⟨x - 4, y - 4⟩ : Cell) ∈ cs
      · rw [decide_eq_true hin]
        simp (disch := first | assumption | omega) only [e11, e10, e3, eh, e4, go_sem, ↓reduceIte, Nat.reduceEqDiff, reduceCtorEq, Nat.reduceAdd, Nat.reduceLeDiff, Nat.reduceLT, reduceIte, Int.reduceBEq, Int.reduceBNe, Int.reduceLT, Int.reduceLE, Int.reduceAdd, Int.reduceSub, Int.reduceMul, Int.reduceNeg, Int.reduceEq, Int.reduceNe, Nat.reduceMul, Nat.reduceSub]
        refine own_cells (cs := cs) (cap := cap) (rest := List.replicate ((cap - cs.length) * 2) .junk) (id := h.length + (ext.length + 1)) (by simp (disch := first | assumption | omega) only [go_sem, ↓reduceIte, Nat.reduceEqDiff, reduceCtorEq, Nat.reduceAdd, Nat.reduceLeDiff, Nat.reduceLT, reduceIte, Int.reduceBEq, Int.reduceBNe, Int.reduceLT, Int.reduceLE, Int.reduceAdd, Int.reduceSub, Int.reduceMul, Int.reduceNeg, Int.reduceEq, Int.reduceNe, Nat.reduceMul, Nat.reduceSub]) (by simp (disch := first | assumption | omega) only [go_sem, ↓reduceIte, Nat.reduceEqDiff, reduceCtorEq, Nat.reduceAdd, Nat.reduceLeDiff, Nat.reduceLT, reduceIte, Int.reduceBEq, Int.reduceBNe, Int.reduceLT, Int.reduceLE, Int.reduceAdd, Int.reduceSub, Int.reduceMul, Int.reduceNeg, Int.reduceEq, Int.reduceNe, Nat.reduceMul, Nat.reduceSub]) hcap (by omega) (by simp) ?_
        simp (disch := first | assumption | omega) only [e11, e10, e3, eh, go_sem, ↓reduceIte, Nat.reduceEqDiff, reduceCtorEq, Nat.reduceAdd, Nat.reduceLeDiff, Nat.reduceLT, reduceIte, Int.reduceBEq, Int.reduceBNe, Int.reduceLT, Int.reduceLE, Int.reduceAdd, Int.reduceSub, Int.reduceMul, Int.reduceNeg, Int.reduceEq, Int.reduceNe, Nat.reduceMul, Nat.reduceSub]
        refine ⟨d - 1, by omega, k + 1, o3, l3, cs, ext ++ [.dead], by omega, by simp, .inr ⟨cap, rfl, hcap, h0⟩, by omega, hcb, ho3, hl3, rfl⟩
      · rw [decide_eq_false hin]
        have hpush := fun h1 => flatC_push (cs := cs) (cap := cap) (c := ⟨x - 4, y - 4⟩) h1
        simp (disch := first | assumption | omega) only [e11, e10, e3, eh, e4, aops_hop, hstep, srcH, srcW, growV, List.flatMap_cons, List.flatMap_nil, AVal.cells, rdcInt, flatC_take, go_sem, ↓reduceIte, Nat.reduceEqDiff, reduceCtorEq, Nat.reduceAdd, Nat.reduceLeDiff, Nat.reduceLT, reduceIte, Int.reduceBEq, Int.reduceBNe, Int.reduceLT, Int.reduceLE, Int.reduceAdd, Int.reduceSub, Int.reduceMul, Int.reduceNeg, Int.reduceEq, Int.reduceNe, Nat.reduceMul, Nat.reduceSub]
        refine ⟨by omega, by omega, fun _ h1 => ⟨by rw [flatC_length, List.length_replicate]; omega, ?_⟩, fun _ h1 => ?_⟩
        · rw [hpush (by omega)]
          refine own_cells (cs := cs ++ [⟨x - 4, y - 4⟩]) (cap := cap) (rest := List.replicate ((cap - (cs.length + 1)) * 2) .junk) (id := h.length + (ext.length + 1)) (by simp (disch := first | assumption | omega) only [go_sem, ↓reduceIte, Nat.reduceEqDiff, reduceCtorEq, Nat.reduceAdd, Nat.reduceLeDiff, Nat.reduceLT, reduceIte, Int.reduceBEq, Int.reduceBNe, Int.reduceLT, Int.reduceLE, Int.reduceAdd, Int.reduceSub, Int.reduceMul, Int.reduceNeg, Int.reduceEq, Int.reduceNe, Nat.reduceMul, Nat.reduceSub]) (by simp (disch := first | assumption | omega) only [go_sem, ↓reduceIte, Nat.reduceEqDiff, reduceCtorEq, Nat.reduceAdd, Nat.reduceLeDiff, Nat.reduceLT, reduceIte, Int.reduceBEq, Int.reduceBNe, Int.reduceLT, Int.reduceLE, Int.reduceAdd, Int.reduceSub, Int.reduceMul, Int.reduceNeg, Int.reduceEq, Int.reduceNe, Nat.reduceMul, Nat.reduceSub]) (by simp; omega) (by omega) (by simp) ?_
          simp (disch := first | assumption | omega) only [e11, e10, e3, eh, go_sem, ↓reduceIte, Nat.reduceEqDiff, reduceCtorEq, Nat.reduceAdd, Nat.reduceLeDiff, Nat.reduceLT, reduceIte, Int.reduceBEq, Int.reduceBNe, Int.reduceLT, Int.reduceLE, Int.reduceAdd, Int.reduceSub, Int.reduceMul, Int.reduceNeg, Int.reduceEq, Int.reduceNe, Nat.reduceMul, Nat.reduceSub]
          refine ⟨d - 1, by omega, k + 1, o3, l3, cs ++ [⟨x - 4, y - 4⟩], ext ++ [.dead], by omega, by simp, .inr ⟨cap, rfl, by simp; omega, h0⟩, by simp; omega, hb1 cs hcb () x0 x8 y0 y8, ho3, hl3, rfl⟩
        · have hsr : (if cs.length = 0 then some (0, []) else if cs.length * 2 ≤ (flatC cs).length + (List.replicate ((cap - cs.length) * 2) AVal.junk).length then some (cs.length, List.map Ge.rdc (flatC cs)) else none) = some (cs.length, flatC cs) := by
            by_cases hz : cs.length = 0
            · rw [if_pos hz, List.eq_nil_of_length_eq_zero hz]; rfl
            · rw [if_neg hz, if_pos (by rw [flatC_length]; omega), flatC_rdc]
          rw [hsr]
          refine fun cap2 hc2 => ?_
          refine own_cells (cs := cs ++ [⟨x - 4, y - 4⟩]) (cap := cap2) (rest := List.replicate ((cap2 - (cs.length + 1)) * 2) .junk) (id := h.length + (ext.length + 1 + 1)) (by simp (disch := first | assumption | omega) only [go_sem, ↓reduceIte, Nat.reduceEqDiff, reduceCtorEq, Nat.reduceAdd, Nat.reduceLeDiff, Nat.reduceLT, reduceIte, Int.reduceBEq, Int.reduceBNe, Int.reduceLT, Int.reduceLE, Int.reduceAdd, Int.reduceSub, Int.reduceMul, Int.reduceNeg, Int.reduceEq, Int.reduceNe, Nat.reduceMul, Nat.reduceSub]) (by simp (disch := first | assumption | omega) only [flatC_append, go_sem, ↓reduceIte, Nat.reduceEqDiff, reduceCtorEq, Nat.reduceAdd, Nat.reduceLeDiff, Nat.reduceLT, reduceIte, Int.reduceBEq, Int.reduceBNe, Int.reduceLT, Int.reduceLE, Int.reduceAdd, Int.reduceSub, Int.reduceMul, Int.reduceNeg, Int.reduceEq, Int.reduceNe, Nat.reduceMul, Nat.reduceSub]; rfl) (by simp; omega) (by omega) (by simp) ?_
          simp (disch := first | assumption | omega) only [e11, e10, e3, eh, go_sem, ↓reduceIte, Nat.reduceEqDiff, reduceCtorEq, Nat.reduceAdd, Nat.reduceLeDiff, Nat.reduceLT, reduceIte, Int.reduceBEq, Int.reduceBNe, Int.reduceLT, Int.reduceLE, Int.reduceAdd, Int.reduceSub, Int.reduceMul, Int.reduceNeg, Int.reduceEq, Int.reduceNe, Nat.reduceMul, Nat.reduceSub]
          refine ⟨d - 1, by omega, k + 1, o3, l3, cs ++ [⟨x - 4, y - 4⟩], _, by omega, by simp, .inr ⟨cap2, rfl, by simp; omega, by omega⟩, by simp; omega, hb1 cs hcb () x0 x8 y0 y8, ho3, hl3, rfl⟩
  · rcases e4 with ⟨e4, rfl⟩ | ⟨cap, e4, hcap, h0⟩
    · refine thaw_nil (xs := []) (by simp (disch := first | assumption | omega) only [e4, go_sem, ↓reduceIte, Nat.reduceEqDiff, reduceCtorEq, Nat.reduceAdd, Nat.reduceLeDiff, Nat.reduceLT, reduceIte, Int.reduceBEq, Int.reduceBNe, Int.reduceLT, Int.reduceLE, Int.reduceAdd, Int.reduceSub, Int.reduceMul, Int.reduceNeg, Int.reduceEq, Int.reduceNe, Nat.reduceMul, Nat.reduceSub]) ?_
      simp (disch := first | assumption | omega) only [e11, e10, e3, eh, e4, go_sem, ↓reduceIte, Nat.reduceEqDiff, reduceCtorEq, Nat.reduceAdd, Nat.reduceLeDiff, Nat.reduceLT, reduceIte, Int.reduceBEq, Int.reduceBNe, Int.reduceLT, Int.reduceLE, Int.reduceAdd, Int.reduceSub, Int.reduceMul, Int.reduceNeg, Int.reduceEq, Int.reduceNe, Nat.reduceMul, Nat.reduceSub]
      refine callG_ok (SortNil_ok F.gantmake_Cells_1 _) (by simp (disch := first | assumption | omega) only [go_sem, ↓reduceIte, Nat.reduceEqDiff, reduceCtorEq, Nat.reduceAdd, Nat.reduceLeDiff, Nat.reduceLT, reduceIte, Int.reduceBEq, Int.reduceBNe, Int.reduceLT, Int.reduceLE, Int.reduceAdd, Int.reduceSub, Int.reduceMul, Int.reduceNeg, Int.reduceEq, Int.reduceNe, Nat.reduceMul, Nat.reduceSub]) ?_
      rintro _ _ ⟨rfl, hhh⟩
      rw [hhh]
      clear hhh
      simp (disch := first | assumption | omega) only [e11, e10, e3, eh, e4, go_sem, ↓reduceIte, Nat.reduceEqDiff, reduceCtorEq, Nat.reduceAdd, Nat.reduceLeDiff, Nat.reduceLT, reduceIte, Int.reduceBEq, Int.reduceBNe, Int.reduceLT, Int.reduceLE, Int.reduceAdd, Int.reduceSub, Int.reduceMul, Int.reduceNeg, Int.reduceEq, Int.reduceNe, Nat.reduceMul, Nat.reduceSub]
      refine own_nil (xs := []) (by simp (disch := first | assumption | omega) only [e11, e10, e3, eh, e4, go_sem, ↓reduceIte, Nat.reduceEqDiff, reduceCtorEq, Nat.reduceAdd, Nat.reduceLeDiff, Nat.reduceLT, reduceIte, Int.reduceBEq, Int.reduceBNe, Int.reduceLT, Int.reduceLE, Int.reduceAdd, Int.reduceSub, Int.reduceMul, Int.reduceNeg, Int.reduceEq, Int.reduceNe, Nat.reduceMul, Nat.reduceSub]) ?_
      rw [aw_grab]
      simp (disch := first | assumption | omega) only [e11, e10, e3, eh, e4, go_sem, ↓reduceIte, Nat.reduceEqDiff, reduceCtorEq, Nat.reduceAdd, Nat.reduceLeDiff, Nat.reduceLT, reduceIte, Int.reduceBEq, Int.reduceBNe, Int.reduceLT, Int.reduceLE, Int.reduceAdd, Int.reduceSub, Int.reduceMul, Int.reduceNeg, Int.reduceEq, Int.reduceNe, Nat.reduceMul, Nat.reduceSub]
      subst hQ
      simp (disch := first | assumption | omega) only [R.gantmake_Cells, e11, e10, e3, eh, e4, go_sem, ↓reduceIte, Nat.reduceEqDiff, reduceCtorEq, Nat.reduceAdd, Nat.reduceLeDiff, Nat.reduceLT, reduceIte, Int.reduceBEq, Int.reduceBNe, Int.reduceLT, Int.reduceLE, Int.reduceAdd, Int.reduceSub, Int.reduceMul, Int.reduceNeg, Int.reduceEq, Int.reduceNe, Nat.reduceMul, Nat.reduceSub]
      exact ⟨.cells [.lst o' (ints .i64 l')] :: ext, rfl, by simp [AVal.ids, idsL], [], by simp, by simp, .inl rfl⟩
    · refine thaw_cells (cs := cs) (cap := cap) (by simp (disch := first | assumption | omega) only [e4, go_sem, ↓reduceIte, Nat.reduceEqDiff, reduceCtorEq, Nat.reduceAdd, Nat.reduceLeDiff, Nat.reduceLT, reduceIte, Int.reduceBEq, Int.reduceBNe, Int.reduceLT, Int.reduceLE, Int.reduceAdd, Int.reduceSub, Int.reduceMul, Int.reduceNeg, Int.reduceEq, Int.reduceNe, Nat.reduceMul, Nat.reduceSub]) hcap ?_
      simp (disch := first | assumption | omega) only [e11, e10, e3, eh, e4, go_sem, ↓reduceIte, Nat.reduceEqDiff, reduceCtorEq, Nat.reduceAdd, Nat.reduceLeDiff, Nat.reduceLT, reduceIte, Int.reduceBEq, Int.reduceBNe, Int.reduceLT, Int.reduceLE, Int.reduceAdd, Int.reduceSub, Int.reduceMul, Int.reduceNeg, Int.reduceEq, Int.reduceNe, Nat.reduceMul, Nat.reduceSub]
      refine callG_ok (SortSmall_ok F.gantmake_Cells_1 cs _ cap (List.replicate ((cap - cs.length) * 2) .junk) _ (by simp (disch := first | assumption | omega) only [e11, e10, e3, eh, go_sem, ↓reduceIte, Nat.reduceEqDiff, reduceCtorEq, Nat.reduceAdd, Nat.reduceLeDiff, Nat.reduceLT, reduceIte, Int.reduceBEq, Int.reduceBNe, Int.reduceLT, Int.reduceLE, Int.reduceAdd, Int.reduceSub, Int.reduceMul, Int.reduceNeg, Int.reduceEq, Int.reduceNe, Nat.reduceMul, Nat.reduceSub]) (by omega) cmpMade_ok) (by simp (disch := first | assumption | omega) only [go_sem, ↓reduceIte, Nat.reduceEqDiff, reduceCtorEq, Nat.reduceAdd, Nat.reduceLeDiff, Nat.reduceLT, reduceIte, Int.reduceBEq, Int.reduceBNe, Int.reduceLT, Int.reduceLE, Int.reduceAdd, Int.reduceSub, Int.reduceMul, Int.reduceNeg, Int.reduceEq, Int.reduceNe, Nat.reduceMul, Nat.reduceSub]) ?_
      rintro _ _ ⟨rfl, cs', hc1, hc2, rfl⟩
      simp (disch := first | assumption | omega) only [e11, e10, e3, eh, e4, go_sem, ↓reduceIte, Nat.reduceEqDiff, reduceCtorEq, Nat.reduceAdd, Nat.reduceLeDiff, Nat.reduceLT, reduceIte, Int.reduceBEq, Int.reduceBNe, Int.reduceLT, Int.reduceLE, Int.reduceAdd, Int.reduceSub, Int.reduceMul, Int.reduceNeg, Int.reduceEq, Int.reduceNe, Nat.reduceMul, Nat.reduceSub]
      rw [← hc1]
      refine own_cells (cs := cs') (cap := cap) (rest := List.replicate ((cap - cs'.length) * 2) .junk) (id := h.length + (ext.length + 1)) (by simp (disch := first | assumption | omega) only [go_sem, ↓reduceIte, Nat.reduceEqDiff, reduceCtorEq, Nat.reduceAdd, Nat.reduceLeDiff, Nat.reduceLT, reduceIte, Int.reduceBEq, Int.reduceBNe, Int.reduceLT, Int.reduceLE, Int.reduceAdd, Int.reduceSub, Int.reduceMul, Int.reduceNeg, Int.reduceEq, Int.reduceNe, Nat.reduceMul, Nat.reduceSub]) (by simp (disch := first | assumption | omega) only [go_sem, ↓reduceIte, Nat.reduceEqDiff, reduceCtorEq, Nat.reduceAdd, Nat.reduceLeDiff, Nat.reduceLT, reduceIte, Int.reduceBEq, Int.reduceBNe, Int.reduceLT, Int.reduceLE, Int.reduceAdd, Int.reduceSub, Int.reduceMul, Int.reduceNeg, Int.reduceEq, Int.reduceNe, Nat.reduceMul, Nat.reduceSub]) (by omega) (by omega) (by simp) ?_
      rw [aw_grab]
      simp (disch := first | assumption | omega) only [e11, e10, e3, eh, e4, go_sem, ↓reduceIte, Nat.reduceEqDiff, reduceCtorEq, Nat.reduceAdd, Nat.reduceLeDiff, Nat.reduceLT, reduceIte, Int.reduceBEq, Int.reduceBNe, Int.reduceLT, Int.reduceLE, Int.reduceAdd, Int.reduceSub, Int.reduceMul, Int.reduceNeg, Int.reduceEq, Int.reduceNe, Nat.reduceMul, Nat.reduceSub]
      subst hQ
      simp (disch := first | assumption | omega) only [R.gantmake_Cells, e11, e10, e3, eh, e4, go_sem, ↓reduceIte, Nat.reduceEqDiff, reduceCtorEq, Nat.reduceAdd, Nat.reduceLeDiff, Nat.reduceLT, reduceIte, Int.reduceBEq, Int.reduceBNe, Int.reduceLT, Int.reduceLE, Int.reduceAdd, Int.reduceSub, Int.reduceMul, Int.reduceNeg, Int.reduceEq, Int.reduceNe, Nat.reduceMul, Nat.reduceSub]
      exact ⟨.cells [.lst o' (ints .i64 l')] :: (ext ++ [.dead]), rfl, by simp [AVal.ids, cells_ids], cs', by omega, fun c hc => hcb c (hc2 c hc), .inr rfl⟩
end Go.Proofs.Ytpdajkbfemcdlaa
/- Contracts: messages are written. -/
set_option linter.unusedSimpArgs false
set_option linter.unusedVariables false
set_option maxRecDepth 10000
namespace Go.Proofs.Ytpdajkbfemcdlaa
open Go.Ge
theorem val_bd3 {l : List Int} (hb : ∀ x ∈ l, inU8 x) (h : l.length ≤ 3) : 0 ≤ val l ∧ val l < 16777216 := by
  obtain ⟨h1, h2⟩ := val_bd l hb
  refine ⟨h1, Int.lt_of_lt_of_le h2 ?_⟩
  have : ∀ n : Nat, n ≤ 3 → (256 : Int) ^ n ≤ 16777216 := by
    intro n hn
    match n, hn with
    | 0, _ | 1, _ | 2, _ | 3, _ => decide
  exact this _ h
theorem or_shl32 (x y : Int) (h0 : 0 ≤ x) (h1 : x < 16777216) (k0 : 0 ≤ y) (k1 : y < 256) : bitsV .or .u32 (IntKind.u32.wrap (x * 2 ^ min (Int.toNat 8) 32)) y = 256 * x + y := by
  obtain ⟨x, rfl⟩ := Int.eq_ofNat_of_zero_le h0
  obtain ⟨y, rfl⟩ := Int.eq_ofNat_of_zero_le k0
  have e : IntKind.u32.wrap ((x : Int) * 2 ^ min (Int.toNat 8) 32) = ((x * 256 : Nat) : Int) := by
    rw [show min (Int.toNat 8) 32 = 8 from rfl, wrapU32 (by omega) (by omega)]; omega
  rw [e]
  show IntKind.u32.wrap ((BitVec.ofInt 32 ((x * 256 : Nat) : Int) ||| BitVec.ofInt 32 (y : Int)).toNat : Int) = _
  rw [BitVec.ofInt_natCast, BitVec.ofInt_natCast, BitVec.toNat_or, BitVec.toNat_ofNat, BitVec.toNat_ofNat, Nat.mod_eq_of_lt (by omega), Nat.mod_eq_of_lt (by omega)]
  have e2 : x * 256 ||| y = x * 256 + y := by
    rw [show x * 256 = 2 ^ 8 * x from by omega, Nat.two_pow_add_eq_or_of_lt (by omega)]
  rw [e2, wrapU32 (by omega) (by omega)]; omega
theorem number_ok (o : Own) (l : List Int) (ho : Rdo o) (hb : ∀ x ∈ l, inU8 x) (hl : l.length ≤ 4) (h : List HObj) :
    ACalls Try.prog F.msg_number [.lst o (ints .u8 l)] h (fun r h' => r = .int .u32 (val l) ∧ h' = h) := by
  refine ACalls.of_aw Try.func159 K.msg_number (by simp [Try.f159]) ?_
  generalize hQ : retQ R.msg_number _ = Q
  simp (disch := first | assumption | omega) only [C.msg_number, go_sem, ↓reduceIte, Nat.reduceEqDiff, reduceCtorEq, Nat.reduceAdd, Nat.reduceLeDiff, Nat.reduceLT, reduceIte, Int.reduceBEq, Int.reduceBNe, Int.reduceLT, Int.reduceLE, Int.reduceAdd, Int.reduceSub, Int.reduceMul, Int.reduceNeg, Int.reduceEq, Int.reduceNe, Nat.reduceMul, Nat.reduceSub]
  refine aw_count (fun d S => ∃ (i : Nat), i + d = l.length ∧ S.env 8 = .int .i64 i ∧ S.env 7 = .int .i64 l.length ∧ S.env 6 = .lst o (ints .u8 l) ∧ S.env 3 = .int .u32 (val (l.take i)) ∧ S.heap = h) (n := l.length) ⟨0, by simp [go_sem, val]⟩ ?_
  rintro d S ⟨i, hi, e8, e7, e6, e3, eh⟩
  simp (disch := first | assumption | omega) only [e8, e7, e6, e3, eh, go_sem, ↓reduceIte, Nat.reduceEqDiff, reduceCtorEq, Nat.reduceAdd, Nat.reduceLeDiff, Nat.reduceLT, reduceIte, Int.reduceBEq, Int.reduceBNe, Int.reduceLT, Int.reduceLE, Int.reduceAdd, Int.reduceSub, Int.reduceMul, Int.reduceNeg, Int.reduceEq, Int.reduceNe, Nat.reduceMul, Nat.reduceSub]
  refine condG_if (fun hlt => ?_) fun hge => ?_
  · have hlt1 : i < l.length := by omega
    have hx := hb _ (List.getElem_mem hlt1)
    unfold inU8 at hx
    have hat := at_ints' (k := .u8) l i hlt1
    rw [getD_get hlt1] at hat
    have hv := val_bd3 (l := l.take i) (fun x hx => hb x (List.mem_of_mem_take hx)) (by simp; omega)
    have hst := val_take l i hlt1
    have hor := or_shl32 (val (l.take i)) l[i] hv.1 hv.2 hx.1 (by omega)
    generalize l[i] = x at *
    simp (disch := first | assumption | omega) only [e8, e7, e6, e3, eh, hat, hlt1, hor, go_sem, ↓reduceIte, Nat.reduceEqDiff, reduceCtorEq, Nat.reduceAdd, Nat.reduceLeDiff, Nat.reduceLT, reduceIte, Int.reduceBEq, Int.reduceBNe, Int.reduceLT, Int.reduceLE, Int.reduceAdd, Int.reduceSub, Int.reduceMul, Int.reduceNeg, Int.reduceEq, Int.reduceNe, Nat.reduceMul, Nat.reduceSub]
    exact ⟨d - 1, by omega, i + 1, by omega, by simp, by rw [hst]⟩
  · obtain rfl : i = l.length := by omega
    rw [List.take_length] at e3
    simp (disch := first | assumption | omega) only [e8, e7, e6, e3, eh, go_sem, ↓reduceIte, Nat.reduceEqDiff, reduceCtorEq, Nat.reduceAdd, Nat.reduceLeDiff, Nat.reduceLT, reduceIte, Int.reduceBEq, Int.reduceBNe, Int.reduceLT, Int.reduceLE, Int.reduceAdd, Int.reduceSub, Int.reduceMul, Int.reduceNeg, Int.reduceEq, Int.reduceNe, Nat.reduceMul, Nat.reduceSub]
    subst hQ
    simp (disch := first | assumption | omega) only [R.msg_number, e8, e7, e6, e3, eh, go_sem, ↓reduceIte, Nat.reduceEqDiff, reduceCtorEq, Nat.reduceAdd, Nat.reduceLeDiff, Nat.reduceLT, reduceIte, Int.reduceBEq, Int.reduceBNe, Int.reduceLT, Int.reduceLE, Int.reduceAdd, Int.reduceSub, Int.reduceMul, Int.reduceNeg, Int.reduceEq, Int.reduceNe, Nat.reduceMul, Nat.reduceSub]
theorem mfour_ok (n : Int) (h0 : 0 ≤ n) (h1 : n < 4294967296) (h : List HObj) :
    ACalls Try.prog F.msg_four [.int .u32 n] h (fun r h' => r = .lst (.app 1) (ints .u8 (four n)) ∧ h' = h) := by
  refine ACalls.of_aw Try.func157 K.msg_four (by simp [Try.f157]) ?_
  generalize hQ : retQ R.msg_four _ = Q
  simp (disch := first | assumption | omega) only [C.msg_four, go_sem, ↓reduceIte, Nat.reduceEqDiff, reduceCtorEq, Nat.reduceAdd, Nat.reduceLeDiff, Nat.reduceLT, reduceIte, Int.reduceBEq, Int.reduceBNe, Int.reduceLT, Int.reduceLE, Int.reduceAdd, Int.reduceSub, Int.reduceMul, Int.reduceNeg, Int.reduceEq, Int.reduceNe, Nat.reduceMul, Nat.reduceSub]
  subst hQ
  simp (disch := first | assumption | omega) only [R.msg_four, shr24 h0, shr16 h0, shr8 h0, wrapU8_mod, go_sem, ↓reduceIte, Nat.reduceEqDiff, reduceCtorEq, Nat.reduceAdd, Nat.reduceLeDiff, Nat.reduceLT, reduceIte, Int.reduceBEq, Int.reduceBNe, Int.reduceLT, Int.reduceLE, Int.reduceAdd, Int.reduceSub, Int.reduceMul, Int.reduceNeg, Int.reduceEq, Int.reduceNe, Nat.reduceMul, Nat.reduceSub]
  simp [four, be4, ints]
theorem cellsF_ok : ∀ (l : List Cell) (p : Option Cell), cellsF p l = 0 → ∀ c ∈ l, onG c.X ∧ onG c.Y
  | [], _, _ => by simp
  | c :: l, p, h => by
    rw [cellsF] at h
    split at h
    · omega
    · rename_i hon
      split at h
      · omega
      · intro x hx
        rcases List.mem_cons.1 hx with rfl | hx
        · unfold onG at *; omega
        · exact cellsF_ok l _ h x hx
theorem cellsFault_ok {l : List Cell} (h : cellsFault l = 0) : l.length ≤ 400 ∧ ∀ c ∈ l, onG c.X ∧ onG c.Y := by
  unfold cellsFault at h
  split at h
  · omega
  · exact ⟨by omega, cellsF_ok l none h⟩
structure Fine (m : Msg) : Prop where
  kind : 0 ≤ m.Kind ∧ m.Kind ≤ 3
  frm : 0 ≤ m.From ∧ m.From ≤ 4
  to : 0 ≤ m.To ∧ m.To ≤ 4
  seq : 0 ≤ m.Seq ∧ m.Seq ≤ 2147483647
  few : m.Cells.length ≤ 400
  on : ∀ c ∈ m.Cells, onG c.X ∧ onG c.Y
theorem fine_of {m : Msg} (h : checkF m = 0) : Fine m := by
  unfold checkF at h
  have h1 : msgFault m = 0 := Classical.byContradiction fun h' => by rw [if_pos h'] at h; exact h' h
  rw [if_neg (by simp [h1])] at h
  obtain ⟨h2, h3⟩ := cellsFault_ok h
  unfold msgFault at h1
  split at h1
  · omega
  · split at h1
    · omega
    · split at h1
      · omega
      · exact ⟨by omega, by omega, by omega, by omega, h2, h3⟩
def headB (m : Msg) : List Int := [m.Kind % 256, m.From % 256, m.To % 256] ++ beBytes m.Seq 4 ++ beBytes m.Clock 4 ++ beBytes m.Cells.length 2
theorem headB_length (m : Msg) : (headB m).length = 13 := by simp [headB, beBytes_length]
theorem bodyB_head (m : Msg) : bodyB m = headB m ++ cellsB m.Cells := rfl
/-- What comes of a message that is written. -/
def WriteQ (m : Msg) (v : AVal) : Prop :=
  checkF m ≠ 0 ∧ v = .tup [.lst .nil [], .int .i64 (checkF m)] ∨ checkF m = 0 ∧ v = .tup [.lst (.app 1) (ints .u8 (frame m)), .int .i64 0]
theorem Write_ok (o : Own) (m : Msg) (ho : Rdo o) (hw : inU32 m.Clock) (hl : m.Cells.length < 4611686018427387904) (h : List HObj) :
    ACalls Try.prog F.msg_Write [msgA o m] h (fun v h' => WriteQ m v ∧ h' = h) := by
  refine ACalls.of_aw Try.func73 K.msg_Write (by simp [Try.f73]) ?_
  generalize hQ : retQ R.msg_Write _ = Q
  simp (disch := first | assumption | omega) only [C.msg_Write, go_sem, ↓reduceIte, Nat.reduceEqDiff, reduceCtorEq, Nat.reduceAdd, Nat.reduceLeDiff, Nat.reduceLT, reduceIte, Int.reduceBEq, Int.reduceBNe, Int.reduceLT, Int.reduceLE, Int.reduceAdd, Int.reduceSub, Int.reduceMul, Int.reduceNeg, Int.reduceEq, Int.reduceNe, Nat.reduceMul, Nat.reduceSub]
  simp (disch := first | assumption | omega) only [msgA, msgC, go_sem, ↓reduceIte, Nat.reduceEqDiff, reduceCtorEq, Nat.reduceAdd, Nat.reduceLeDiff, Nat.reduceLT, reduceIte, Int.reduceBEq, Int.reduceBNe, Int.reduceLT, Int.reduceLE, Int.reduceAdd, Int.reduceSub, Int.reduceMul, Int.reduceNeg, Int.reduceEq, Int.reduceNe, Nat.reduceMul, Nat.reduceSub]
  refine callG_ok (Check_ok o m ho hl _) (by simp (disch := first | assumption | omega) only [msgC, go_sem, ↓reduceIte, Nat.reduceEqDiff, reduceCtorEq, Nat.reduceAdd, Nat.reduceLeDiff, Nat.reduceLT, reduceIte, Int.reduceBEq, Int.reduceBNe, Int.reduceLT, Int.reduceLE, Int.reduceAdd, Int.reduceSub, Int.reduceMul, Int.reduceNeg, Int.reduceEq, Int.reduceNe, Nat.reduceMul, Nat.reduceSub]) ?_
  rintro _ _ ⟨rfl, hhh⟩
  rw [hhh]
  clear hhh
  by_cases hc : checkF m = 0
  · have hf := fine_of hc
    obtain ⟨k1, k2, k3, k4, k5, k6⟩ := hf
    unfold inU32 at hw
    simp (disch := first | assumption | omega) only [hc, msgC, wrapU8_mod, go_sem, ↓reduceIte, Nat.reduceEqDiff, reduceCtorEq, Nat.reduceAdd, Nat.reduceLeDiff, Nat.reduceLT, reduceIte, Int.reduceBEq, Int.reduceBNe, Int.reduceLT, Int.reduceLE, Int.reduceAdd, Int.reduceSub, Int.reduceMul, Int.reduceNeg, Int.reduceEq, Int.reduceNe, Nat.reduceMul, Nat.reduceSub]
    refine callG_ok (mfour_ok m.Seq (by omega) (by omega) _) (by simp (disch := first | assumption | omega) only [go_sem, ↓reduceIte, Nat.reduceEqDiff, reduceCtorEq, Nat.reduceAdd, Nat.reduceLeDiff, Nat.reduceLT, reduceIte, Int.reduceBEq, Int.reduceBNe, Int.reduceLT, Int.reduceLE, Int.reduceAdd, Int.reduceSub, Int.reduceMul, Int.reduceNeg, Int.reduceEq, Int.reduceNe, Nat.reduceMul, Nat.reduceSub]) ?_
    rintro _ _ ⟨rfl, hhh⟩
    rw [hhh]
    clear hhh
    simp (disch := first | assumption | omega) only [hc, msgC, wrapU8_mod, four_length, go_sem, ↓reduceIte, Nat.reduceEqDiff, reduceCtorEq, Nat.reduceAdd, Nat.reduceLeDiff, Nat.reduceLT, reduceIte, Int.reduceBEq, Int.reduceBNe, Int.reduceLT, Int.reduceLE, Int.reduceAdd, Int.reduceSub, Int.reduceMul, Int.reduceNeg, Int.reduceEq, Int.reduceNe, Nat.reduceMul, Nat.reduceSub]
    refine ⟨ints_width _, ?_⟩
    refine callG_ok (mfour_ok m.Clock (by omega) (by omega) _) (by simp (disch := first | assumption | omega) only [go_sem, ↓reduceIte, Nat.reduceEqDiff, reduceCtorEq, Nat.reduceAdd, Nat.reduceLeDiff, Nat.reduceLT, reduceIte, Int.reduceBEq, Int.reduceBNe, Int.reduceLT, Int.reduceLE, Int.reduceAdd, Int.reduceSub, Int.reduceMul, Int.reduceNeg, Int.reduceEq, Int.reduceNe, Nat.reduceMul, Nat.reduceSub]) ?_
    rintro _ _ ⟨rfl, hhh⟩
    rw [hhh]
    clear hhh
    simp (disch := first | assumption | omega) only [hc, msgC, wrapU8_mod, four_length, shr8' (Int.natCast_nonneg m.Cells.length), go_sem, ↓reduceIte, Nat.reduceEqDiff, reduceCtorEq, Nat.reduceAdd, Nat.reduceLeDiff, Nat.reduceLT, reduceIte, Int.reduceBEq, Int.reduceBNe, Int.reduceLT, Int.reduceLE, Int.reduceAdd, Int.reduceSub, Int.reduceMul, Int.reduceNeg, Int.reduceEq, Int.reduceNe, Nat.reduceMul, Nat.reduceSub]
    refine ⟨ints_width _, ?_⟩
    refine aw_count (fun d S => ∃ (i : Nat), i + d = m.Cells.length ∧ S.env 48 = .int .i64 i ∧ S.env 47 = .int .i64 m.Cells.length ∧ S.env 46 = .lst o (cellsA m.Cells) ∧ S.env 5 = .lst (.app 1) (ints .u8 (headB m ++ cellsB (m.Cells.take i))) ∧ S.heap = h) (n := m.Cells.length)
      ⟨0, by omega, by simp (disch := first | assumption | omega) only [go_sem, ↓reduceIte, Nat.reduceEqDiff, reduceCtorEq, Nat.reduceAdd, Nat.reduceLeDiff, Nat.reduceLT, reduceIte, Int.reduceBEq, Int.reduceBNe, Int.reduceLT, Int.reduceLE, Int.reduceAdd, Int.reduceSub, Int.reduceMul, Int.reduceNeg, Int.reduceEq, Int.reduceNe, Nat.reduceMul, Nat.reduceSub], by simp (disch := first | assumption | omega) only [go_sem, ↓reduceIte, Nat.reduceEqDiff, reduceCtorEq, Nat.reduceAdd, Nat.reduceLeDiff, Nat.reduceLT, reduceIte, Int.reduceBEq, Int.reduceBNe, Int.reduceLT, Int.reduceLE, Int.reduceAdd, Int.reduceSub, Int.reduceMul, Int.reduceNeg, Int.reduceEq, Int.reduceNe, Nat.reduceMul, Nat.reduceSub], by simp (disch := first | assumption | omega) only [msgC, go_sem, ↓reduceIte, Nat.reduceEqDiff, reduceCtorEq, Nat.reduceAdd, Nat.reduceLeDiff, Nat.reduceLT, reduceIte, Int.reduceBEq, Int.reduceBNe, Int.reduceLT, Int.reduceLE, Int.reduceAdd, Int.reduceSub, Int.reduceMul, Int.reduceNeg, Int.reduceEq, Int.reduceNe, Nat.reduceMul, Nat.reduceSub], by simp (disch := first | assumption | omega) only [headB, cellsB, four, be4, be2, ints, List.map_append, List.flatMap_nil, go_sem, ↓reduceIte, Nat.reduceEqDiff, reduceCtorEq, Nat.reduceAdd, Nat.reduceLeDiff, Nat.reduceLT, reduceIte, Int.reduceBEq, Int.reduceBNe, Int.reduceLT, Int.reduceLE, Int.reduceAdd, Int.reduceSub, Int.reduceMul, Int.reduceNeg, Int.reduceEq, Int.reduceNe, Nat.reduceMul, Nat.reduceSub], by simp (disch := first | assumption | omega) only [go_sem, ↓reduceIte, Nat.reduceEqDiff, reduceCtorEq, Nat.reduceAdd, Nat.reduceLeDiff, Nat.reduceLT, reduceIte, Int.reduceBEq, Int.reduceBNe, Int.reduceLT, Int.reduceLE, Int.reduceAdd, Int.reduceSub, Int.reduceMul, Int.reduceNeg, Int.reduceEq, Int.reduceNe, Nat.reduceMul, Nat.reduceSub]⟩ ?_
    rintro d S ⟨i, hi, e48, e47, e46, e5, eh⟩
    simp (disch := first | assumption | omega) only [e48, e47, e46, e5, eh, go_sem, ↓reduceIte, Nat.reduceEqDiff, reduceCtorEq, Nat.reduceAdd, Nat.reduceLeDiff, Nat.reduceLT, reduceIte, Int.reduceBEq, Int.reduceBNe, Int.reduceLT, Int.reduceLE, Int.reduceAdd, Int.reduceSub, Int.reduceMul, Int.reduceNeg, Int.reduceEq, Int.reduceNe, Nat.reduceMul, Nat.reduceSub]
    refine condG_if (fun hlt => ?_) fun hge => ?_
    · have hlt : i < m.Cells.length := by omega
      have hat := at_cells hlt
      have hon := k6 _ (List.getElem_mem hlt)
      unfold onG at hon
      have hst := take_snoc hlt
      have hcl : (headB m).length + (cellsB (m.Cells.take i)).length ≤ 813 := by
        rw [headB_length, cellsB_length, List.length_take]; omega
      simp (disch := first | assumption | omega) only [e48, e47, e46, e5, eh, hat, cellA, hlt, wrapU8_mod, go_sem, ↓reduceIte, Nat.reduceEqDiff, reduceCtorEq, Nat.reduceAdd, Nat.reduceLeDiff, Nat.reduceLT, reduceIte, Int.reduceBEq, Int.reduceBNe, Int.reduceLT, Int.reduceLE, Int.reduceAdd, Int.reduceSub, Int.reduceMul, Int.reduceNeg, Int.reduceEq, Int.reduceNe, Nat.reduceMul, Nat.reduceSub]
      refine ⟨by omega, by omega, d - 1, by omega, i + 1, by omega, by simp, ?_⟩
      rw [hst, cellsB_snoc, ← List.append_assoc, ← ints_append _ (cellB _)]
      rfl
    · obtain rfl : i = m.Cells.length := by omega
      rw [List.take_length, ← bodyB_head] at e5
      have hbl := bodyB_length m
      simp (disch := first | assumption | omega) only [e48, e47, e46, e5, eh, go_sem, ↓reduceIte, Nat.reduceEqDiff, reduceCtorEq, Nat.reduceAdd, Nat.reduceLeDiff, Nat.reduceLT, reduceIte, Int.reduceBEq, Int.reduceBNe, Int.reduceLT, Int.reduceLE, Int.reduceAdd, Int.reduceSub, Int.reduceMul, Int.reduceNeg, Int.reduceEq, Int.reduceNe, Nat.reduceMul, Nat.reduceSub]
      refine callG_ok (Sum_ok .sh (bodyB m) (.inl rfl) (bodyB_u8 m) (by omega) _) (by simp (disch := first | assumption | omega) only [go_sem, ↓reduceIte, Nat.reduceEqDiff, reduceCtorEq, Nat.reduceAdd, Nat.reduceLeDiff, Nat.reduceLT, reduceIte, Int.reduceBEq, Int.reduceBNe, Int.reduceLT, Int.reduceLE, Int.reduceAdd, Int.reduceSub, Int.reduceMul, Int.reduceNeg, Int.reduceEq, Int.reduceNe, Nat.reduceMul, Nat.reduceSub]) ?_
      rintro _ _ ⟨rfl, hhh⟩
      rw [hhh]
      clear hhh
      have hib := iv_bd (crc (bodyB m))
      simp (disch := first | assumption | omega) only [e48, e47, e46, e5, eh, go_sem, ↓reduceIte, Nat.reduceEqDiff, reduceCtorEq, Nat.reduceAdd, Nat.reduceLeDiff, Nat.reduceLT, reduceIte, Int.reduceBEq, Int.reduceBNe, Int.reduceLT, Int.reduceLE, Int.reduceAdd, Int.reduceSub, Int.reduceMul, Int.reduceNeg, Int.reduceEq, Int.reduceNe, Nat.reduceMul, Nat.reduceSub]
      refine callG_ok (mfour_ok (iv (crc (bodyB m))) hib.1 hib.2 _) (by simp (disch := first | assumption | omega) only [go_sem, ↓reduceIte, Nat.reduceEqDiff, reduceCtorEq, Nat.reduceAdd, Nat.reduceLeDiff, Nat.reduceLT, reduceIte, Int.reduceBEq, Int.reduceBNe, Int.reduceLT, Int.reduceLE, Int.reduceAdd, Int.reduceSub, Int.reduceMul, Int.reduceNeg, Int.reduceEq, Int.reduceNe, Nat.reduceMul, Nat.reduceSub]) ?_
      rintro _ _ ⟨rfl, hhh⟩
      rw [hhh]
      clear hhh
      simp (disch := first | assumption | omega) only [e48, e47, e46, e5, eh, four_length, go_sem, ↓reduceIte, Nat.reduceEqDiff, reduceCtorEq, Nat.reduceAdd, Nat.reduceLeDiff, Nat.reduceLT, reduceIte, Int.reduceBEq, Int.reduceBNe, Int.reduceLT, Int.reduceLE, Int.reduceAdd, Int.reduceSub, Int.reduceMul, Int.reduceNeg, Int.reduceEq, Int.reduceNe, Nat.reduceMul, Nat.reduceSub]
      refine ⟨ints_width _, by omega, by omega, ?_⟩
      subst hQ
      simp (disch := first | assumption | omega) only [R.msg_Write, e48, e47, e46, e5, eh, go_sem, ↓reduceIte, Nat.reduceEqDiff, reduceCtorEq, Nat.reduceAdd, Nat.reduceLeDiff, Nat.reduceLT, reduceIte, Int.reduceBEq, Int.reduceBNe, Int.reduceLT, Int.reduceLE, Int.reduceAdd, Int.reduceSub, Int.reduceMul, Int.reduceNeg, Int.reduceEq, Int.reduceNe, Nat.reduceMul, Nat.reduceSub]
      rw [ints_append]
      exact .inr ⟨hc, rfl⟩
  · simp (disch := first | assumption | omega) only [hc, go_sem, ↓reduceIte, Nat.reduceEqDiff, reduceCtorEq, Nat.reduceAdd, Nat.reduceLeDiff, Nat.reduceLT, reduceIte, Int.reduceBEq, Int.reduceBNe, Int.reduceLT, Int.reduceLE, Int.reduceAdd, Int.reduceSub, Int.reduceMul, Int.reduceNeg, Int.reduceEq, Int.reduceNe, Nat.reduceMul, Nat.reduceSub]
    subst hQ
    simp (disch := first | assumption | omega) only [R.msg_Write, go_sem, ↓reduceIte, Nat.reduceEqDiff, reduceCtorEq, Nat.reduceAdd, Nat.reduceLeDiff, Nat.reduceLT, reduceIte, Int.reduceBEq, Int.reduceBNe, Int.reduceLT, Int.reduceLE, Int.reduceAdd, Int.reduceSub, Int.reduceMul, Int.reduceNeg, Int.reduceEq, Int.reduceNe, Nat.reduceMul, Nat.reduceSub]
    exact .inl ⟨hc, rfl⟩
end Go.Proofs.Ytpdajkbfemcdlaa
/- Contracts: messages by the second implementation. -/
set_option linter.unusedSimpArgs false
set_option linter.unusedVariables false
set_option maxRecDepth 10000
namespace Go.Proofs.Ytpdajkbfemcdlaa
open Go.Ge
theorem cells_step : ∀ (i : Nat) (l : List Int), 2 * i + 1 < l.length → cellsOf (l.take (2 * (i + 1))) = cellsOf (l.take (2 * i)) ++ [⟨l.getD (2 * i) 0 - 64, l.getD (2 * i + 1) 0 - 64⟩]
  | 0, x :: y :: l, _ => by simp [cellsOf]
  | i + 1, x :: y :: l, h => by
    have ih := cells_step i l (by simp at h; omega)
    rw [show 2 * (i + 1 + 1) = 2 * (i + 1) + 1 + 1 from by omega, List.take_succ_cons, List.take_succ_cons, show 2 * (i + 1) = 2 * i + 1 + 1 from by omega, List.take_succ_cons, List.take_succ_cons]
    rw [show 2 * (i + 1) = 2 * i + 1 + 1 from by omega] at ih
    simp only [cellsOf, ih, List.cons_append, List.getD_cons_succ]
  | 0, [], h => by simp at h
  | 0, [_], h => by simp at h
  | i + 1, [], h => by simp at h
  | i + 1, [_], h => by simp at h
end Go.Proofs.Ytpdajkbfemcdlaa
/- Contracts: messages are read. -/
set_option linter.unusedSimpArgs false
set_option linter.unusedVariables false
set_option maxRecDepth 10000
namespace Go.Proofs.Ytpdajkbfemcdlaa
open Go.Ge
/-- What comes of bytes that are read. -/
def ReadQ (b : List Int) (v : AVal) : Prop :=
  readE b ≠ 0 ∧ v = .tup [msgA .nil msg0, .int .i64 (readE b)] ∨ readE b = 0 ∧ ∃ q, v = .tup [msgA q (msgOf b), .int .i64 0] ∧ Rdn q (msgOf b).Cells
theorem readE_of {b : List Int} {e : Int} (h : unfE b = e) (hne : e ≠ 0) : readE b = e := by unfold readE; rw [h, if_pos hne]
theorem MRead_ok (o : Own) (b : List Int) (ho : Rdo o) (hb : ∀ x ∈ b, inU8 x) (hl : b.length ≤ 140737488355328) (h : List HObj) :
    ACalls Try.prog F.msg_Read [.lst o (ints .u8 b)] h (fun v h' => ReadQ b v ∧ h' = h) := by
  refine ACalls.of_aw Try.func77 K.msg_Read (by simp [Try.f77]) ?_
  generalize hQ : retQ R.msg_Read _ = Q
  simp (disch := first | assumption | omega) only [C.msg_Read, go_sem, ↓reduceIte, Nat.reduceEqDiff, reduceCtorEq, Nat.reduceAdd, Nat.reduceLeDiff, Nat.reduceLT, reduceIte, Int.reduceBEq, Int.reduceBNe, Int.reduceLT, Int.reduceLE, Int.reduceAdd, Int.reduceSub, Int.reduceMul, Int.reduceNeg, Int.reduceEq, Int.reduceNe, Nat.reduceMul, Nat.reduceSub]
  by_cases h17 : b.length < 17
  · have h17' : (b.length : Int) < 17 := by omega
    have hE : readE b = 14 := readE_of (by unfold unfE; rw [if_pos h17]) (by decide)
    simp (disch := first | assumption | omega) only [h17', go_sem, ↓reduceIte, Nat.reduceEqDiff, reduceCtorEq, Nat.reduceAdd, Nat.reduceLeDiff, Nat.reduceLT, reduceIte, Int.reduceBEq, Int.reduceBNe, Int.reduceLT, Int.reduceLE, Int.reduceAdd, Int.reduceSub, Int.reduceMul, Int.reduceNeg, Int.reduceEq, Int.reduceNe, Nat.reduceMul, Nat.reduceSub]
    subst hQ
    simp (disch := first | assumption | omega) only [R.msg_Read, go_sem, ↓reduceIte, Nat.reduceEqDiff, reduceCtorEq, Nat.reduceAdd, Nat.reduceLeDiff, Nat.reduceLT, reduceIte, Int.reduceBEq, Int.reduceBNe, Int.reduceLT, Int.reduceLE, Int.reduceAdd, Int.reduceSub, Int.reduceMul, Int.reduceNeg, Int.reduceEq, Int.reduceNe, Nat.reduceMul, Nat.reduceSub]
    exact .inl ⟨by rw [hE]; decide, by rw [hE]; rfl⟩
  have h17' : ¬ (b.length : Int) < 17 := by omega
  have hs1 : List.take (Int.toNat 13 - Int.toNat 11) (List.drop (Int.toNat 11) (ints .u8 b)) = ints .u8 ((b.drop 11).take 2) := by
    rw [ints_drop, ints_take]; rfl
  have hu : ∀ (i n : Nat), ∀ x ∈ (b.drop i).take n, inU8 x := fun i n x hx => hb x (List.mem_of_mem_drop (List.mem_of_mem_take hx))
  have hv1 := val_bd _ (hu 11 2)
  have hl1 : ((b.drop 11).take 2).length = 2 := by simp; omega
  have hcv : val ((b.drop 11).take 2) = (cnt b : Int) := by unfold cnt; omega
  rw [hl1, hcv] at hv1
  have hc2 : cnt b < 65536 := by omega
  simp (disch := first | assumption | omega) only [h17', hs1, go_sem, ↓reduceIte, Nat.reduceEqDiff, reduceCtorEq, Nat.reduceAdd, Nat.reduceLeDiff, Nat.reduceLT, reduceIte, Int.reduceBEq, Int.reduceBNe, Int.reduceLT, Int.reduceLE, Int.reduceAdd, Int.reduceSub, Int.reduceMul, Int.reduceNeg, Int.reduceEq, Int.reduceNe, Nat.reduceMul, Nat.reduceSub]
  refine ⟨⟨by omega, ints_width b⟩, ?_⟩
  refine callG_ok (number_ok .sh ((b.drop 11).take 2) (.inl rfl) (hu 11 2) (by omega) _) (by simp (disch := first | assumption | omega) only [go_sem, ↓reduceIte, Nat.reduceEqDiff, reduceCtorEq, Nat.reduceAdd, Nat.reduceLeDiff, Nat.reduceLT, reduceIte, Int.reduceBEq, Int.reduceBNe, Int.reduceLT, Int.reduceLE, Int.reduceAdd, Int.reduceSub, Int.reduceMul, Int.reduceNeg, Int.reduceEq, Int.reduceNe, Nat.reduceMul, Nat.reduceSub]) ?_
  rintro _ _ ⟨rfl, hhh⟩
  rw [hhh, hcv]
  clear hhh
  by_cases hs : b.length < 17 + 2 * cnt b
  · have hs' : (b.length : Int) < 17 + 2 * (cnt b : Int) := by omega
    have hE : readE b = 14 := readE_of (by unfold unfE; rw [if_neg h17, if_pos hs]) (by decide)
    simp (disch := first | assumption | omega) only [h17', hs', hs1, go_sem, ↓reduceIte, Nat.reduceEqDiff, reduceCtorEq, Nat.reduceAdd, Nat.reduceLeDiff, Nat.reduceLT, reduceIte, Int.reduceBEq, Int.reduceBNe, Int.reduceLT, Int.reduceLE, Int.reduceAdd, Int.reduceSub, Int.reduceMul, Int.reduceNeg, Int.reduceEq, Int.reduceNe, Nat.reduceMul, Nat.reduceSub]
    subst hQ
    simp (disch := first | assumption | omega) only [R.msg_Read, go_sem, ↓reduceIte, Nat.reduceEqDiff, reduceCtorEq, Nat.reduceAdd, Nat.reduceLeDiff, Nat.reduceLT, reduceIte, Int.reduceBEq, Int.reduceBNe, Int.reduceLT, Int.reduceLE, Int.reduceAdd, Int.reduceSub, Int.reduceMul, Int.reduceNeg, Int.reduceEq, Int.reduceNe, Nat.reduceMul, Nat.reduceSub]
    exact .inl ⟨by rw [hE]; decide, by rw [hE]; rfl⟩
  have hs' : ¬ (b.length : Int) < 17 + 2 * (cnt b : Int) := by omega
  by_cases hg : b.length > 17 + 2 * cnt b
  · have hg' : 17 + 2 * (cnt b : Int) < (b.length : Int) := by omega
    have hE : readE b = 3 := readE_of (by unfold unfE; rw [if_neg h17, if_neg hs, if_pos hg]) (by decide)
    simp (disch := first | assumption | omega) only [h17', hs', hg', hs1, go_sem, ↓reduceIte, Nat.reduceEqDiff, reduceCtorEq, Nat.reduceAdd, Nat.reduceLeDiff, Nat.reduceLT, reduceIte, Int.reduceBEq, Int.reduceBNe, Int.reduceLT, Int.reduceLE, Int.reduceAdd, Int.reduceSub, Int.reduceMul, Int.reduceNeg, Int.reduceEq, Int.reduceNe, Nat.reduceMul, Nat.reduceSub]
    subst hQ
    simp (disch := first | assumption | omega) only [R.msg_Read, go_sem, ↓reduceIte, Nat.reduceEqDiff, reduceCtorEq, Nat.reduceAdd, Nat.reduceLeDiff, Nat.reduceLT, reduceIte, Int.reduceBEq, Int.reduceBNe, Int.reduceLT, Int.reduceLE, Int.reduceAdd, Int.reduceSub, Int.reduceMul, Int.reduceNeg, Int.reduceEq, Int.reduceNe, Nat.reduceMul, Nat.reduceSub]
    exact .inl ⟨by rw [hE]; decide, by rw [hE]; rfl⟩
  have hg' : ¬ 17 + 2 * (cnt b : Int) < (b.length : Int) := by omega
  have hbl : b.length = 17 + 2 * cnt b := by omega
  have h4 : (13 + 2 * (cnt b : Int)).toNat = 13 + 2 * cnt b := by omega
  have hs2 : List.take (b.length - (13 + 2 * cnt b)) (List.drop (13 + 2 * cnt b) (ints .u8 b)) = ints .u8 (b.drop (13 + 2 * cnt b)) := by
    have := take_all (ints .u8 b) (13 + 2 * cnt b)
    rw [← ints_drop]; rwa [ints_length] at this
  have hs3 : List.take (13 + 2 * cnt b) (ints .u8 b) = ints .u8 (b.take (13 + 2 * cnt b)) := by rw [ints_take]
  have hl2 : (b.drop (13 + 2 * cnt b)).length ≤ 4 := by simp; omega
  have hl3 : (b.take (13 + 2 * cnt b)).length ≤ 1099511627776 := by simp; omega
  have hu2 : ∀ x ∈ b.drop (13 + 2 * cnt b), inU8 x := fun x hx => hb x (List.mem_of_mem_drop hx)
  have hu3 : ∀ x ∈ b.take (13 + 2 * cnt b), inU8 x := fun x hx => hb x (List.mem_of_mem_take hx)
  simp (disch := first | assumption | omega) only [h17', hs', hg', hs1, h4, hs2, hs3, go_sem, ↓reduceIte, Nat.reduceEqDiff, reduceCtorEq, Nat.reduceAdd, Nat.reduceLeDiff, Nat.reduceLT, reduceIte, Int.reduceBEq, Int.reduceBNe, Int.reduceLT, Int.reduceLE, Int.reduceAdd, Int.reduceSub, Int.reduceMul, Int.reduceNeg, Int.reduceEq, Int.reduceNe, Nat.reduceMul, Nat.reduceSub]
  refine ⟨⟨by omega, by omega, by omega, ints_width b⟩, ⟨by omega, by omega, ints_width b⟩, ?_⟩
  refine callG_ok (number_ok .sh (b.drop (13 + 2 * cnt b)) (.inl rfl) hu2 hl2 _) (by simp (disch := first | assumption | omega) only [go_sem, ↓reduceIte, Nat.reduceEqDiff, reduceCtorEq, Nat.reduceAdd, Nat.reduceLeDiff, Nat.reduceLT, reduceIte, Int.reduceBEq, Int.reduceBNe, Int.reduceLT, Int.reduceLE, Int.reduceAdd, Int.reduceSub, Int.reduceMul, Int.reduceNeg, Int.reduceEq, Int.reduceNe, Nat.reduceMul, Nat.reduceSub]) ?_
  rintro _ _ ⟨rfl, hhh⟩
  rw [hhh]
  clear hhh
  simp (disch := first | assumption | omega) only [h17', hs', hg', hs1, h4, hs2, hs3, go_sem, ↓reduceIte, Nat.reduceEqDiff, reduceCtorEq, Nat.reduceAdd, Nat.reduceLeDiff, Nat.reduceLT, reduceIte, Int.reduceBEq, Int.reduceBNe, Int.reduceLT, Int.reduceLE, Int.reduceAdd, Int.reduceSub, Int.reduceMul, Int.reduceNeg, Int.reduceEq, Int.reduceNe, Nat.reduceMul, Nat.reduceSub]
  refine callG_ok (Sum_ok .sh (b.take (13 + 2 * cnt b)) (.inl rfl) hu3 (by omega) _) (by simp (disch := first | assumption | omega) only [go_sem, ↓reduceIte, Nat.reduceEqDiff, reduceCtorEq, Nat.reduceAdd, Nat.reduceLeDiff, Nat.reduceLT, reduceIte, Int.reduceBEq, Int.reduceBNe, Int.reduceLT, Int.reduceLE, Int.reduceAdd, Int.reduceSub, Int.reduceMul, Int.reduceNeg, Int.reduceEq, Int.reduceNe, Nat.reduceMul, Nat.reduceSub]) ?_
  rintro _ _ ⟨rfl, hhh⟩
  rw [hhh]
  clear hhh
  have hib := iv_bd (crc (b.take (13 + 2 * cnt b)))
  by_cases heq : val (b.drop (13 + 2 * cnt b)) = iv (crc (b.take (13 + 2 * cnt b)))
  case neg =>
    have hE : readE b = 13 := readE_of (by unfold unfE; rw [if_neg h17, if_neg hs, if_neg hg, if_pos heq]) (by decide)
    simp (disch := first | assumption | omega) only [heq, go_sem, ↓reduceIte, Nat.reduceEqDiff, reduceCtorEq, Nat.reduceAdd, Nat.reduceLeDiff, Nat.reduceLT, reduceIte, Int.reduceBEq, Int.reduceBNe, Int.reduceLT, Int.reduceLE, Int.reduceAdd, Int.reduceSub, Int.reduceMul, Int.reduceNeg, Int.reduceEq, Int.reduceNe, Nat.reduceMul, Nat.reduceSub]
    subst hQ
    simp (disch := first | assumption | omega) only [R.msg_Read, go_sem, ↓reduceIte, Nat.reduceEqDiff, reduceCtorEq, Nat.reduceAdd, Nat.reduceLeDiff, Nat.reduceLT, reduceIte, Int.reduceBEq, Int.reduceBNe, Int.reduceLT, Int.reduceLE, Int.reduceAdd, Int.reduceSub, Int.reduceMul, Int.reduceNeg, Int.reduceEq, Int.reduceNe, Nat.reduceMul, Nat.reduceSub]
    exact .inl ⟨by rw [hE]; decide, by rw [hE]; rfl⟩
  have hE : unfE b = 0 := by unfold unfE; rw [if_neg h17, if_neg hs, if_neg hg, if_neg (by simp [heq])]
  have hE' : readE b = checkF (msgOf b) := by unfold readE; rw [hE, if_neg (by simp)]
  have hs4 : List.take (Int.toNat 7 - Int.toNat 3) (List.drop (Int.toNat 3) (ints .u8 b)) = ints .u8 ((b.drop 3).take 4) := by
    rw [ints_drop, ints_take]; rfl
  have hs5 : List.take (Int.toNat 11 - Int.toNat 7) (List.drop (Int.toNat 7) (ints .u8 b)) = ints .u8 ((b.drop 7).take 4) := by
    rw [ints_drop, ints_take]; rfl
  have a0 : at_ (ints .u8 b) 0 = .int .u8 (b.getD 0 0) := at_ints' b 0 (by omega)
  have a1 : at_ (ints .u8 b) 1 = .int .u8 (b.getD 1 0) := at_ints' b 1 (by omega)
  have a2 : at_ (ints .u8 b) 2 = .int .u8 (b.getD 2 0) := at_ints' b 2 (by omega)
  have u0 : inU8 (b.getD 0 0) := by rw [getD_get (by omega)]; exact hb _ (List.getElem_mem _)
  have u1 : inU8 (b.getD 1 0) := by rw [getD_get (by omega)]; exact hb _ (List.getElem_mem _)
  have u2 : inU8 (b.getD 2 0) := by rw [getD_get (by omega)]; exact hb _ (List.getElem_mem _)
  unfold inU8 at u0 u1 u2
  have b4 := val_bd4 (hu 3 4) (by simp; omega)
  have b5 := val_bd4 (hu 7 4) (by simp; omega)
  have l0 : (0 : Int) < b.length := by omega
  have l1 : (1 : Int) < b.length := by omega
  have l2 : (2 : Int) < b.length := by omega
  have l3 : (3 : Int) ≤ b.length := by omega
  have l7 : (7 : Int) ≤ b.length := by omega
  have l11 : (11 : Int) ≤ b.length := by omega
  simp (disch := first | assumption | omega) only [eq_true heq, hs4, hs5, a0, a1, a2, l0, l1, l2, l3, l7, l11, go_sem, ↓reduceIte, Nat.reduceEqDiff, reduceCtorEq, Nat.reduceAdd, Nat.reduceLeDiff, Nat.reduceLT, reduceIte, Int.reduceBEq, Int.reduceBNe, Int.reduceLT, Int.reduceLE, Int.reduceAdd, Int.reduceSub, Int.reduceMul, Int.reduceNeg, Int.reduceEq, Int.reduceNe, Nat.reduceMul, Nat.reduceSub]
  refine ⟨ints_width b, ints_width b, ?_⟩
  refine callG_ok (number_ok .sh ((b.drop 3).take 4) (.inl rfl) (hu 3 4) (by simp; omega) _) (by simp (disch := first | assumption | omega) only [go_sem, ↓reduceIte, Nat.reduceEqDiff, reduceCtorEq, Nat.reduceAdd, Nat.reduceLeDiff, Nat.reduceLT, reduceIte, Int.reduceBEq, Int.reduceBNe, Int.reduceLT, Int.reduceLE, Int.reduceAdd, Int.reduceSub, Int.reduceMul, Int.reduceNeg, Int.reduceEq, Int.reduceNe, Nat.reduceMul, Nat.reduceSub]) ?_
  rintro _ _ ⟨rfl, hhh⟩
  rw [hhh]
  clear hhh
  simp (disch := first | assumption | omega) only [go_sem, ↓reduceIte, Nat.reduceEqDiff, reduceCtorEq, Nat.reduceAdd, Nat.reduceLeDiff, Nat.reduceLT, reduceIte, Int.reduceBEq, Int.reduceBNe, Int.reduceLT, Int.reduceLE, Int.reduceAdd, Int.reduceSub, Int.reduceMul, Int.reduceNeg, Int.reduceEq, Int.reduceNe, Nat.reduceMul, Nat.reduceSub]
  refine callG_ok (number_ok .sh ((b.drop 7).take 4) (.inl rfl) (hu 7 4) (by simp; omega) _) (by simp (disch := first | assumption | omega) only [go_sem, ↓reduceIte, Nat.reduceEqDiff, reduceCtorEq, Nat.reduceAdd, Nat.reduceLeDiff, Nat.reduceLT, reduceIte, Int.reduceBEq, Int.reduceBNe, Int.reduceLT, Int.reduceLE, Int.reduceAdd, Int.reduceSub, Int.reduceMul, Int.reduceNeg, Int.reduceEq, Int.reduceNe, Nat.reduceMul, Nat.reduceSub]) ?_
  rintro _ _ ⟨rfl, hhh⟩
  rw [hhh]
  clear hhh
  have hm : msgOf b = ⟨b.getD 0 0, b.getD 1 0, b.getD 2 0, val ((b.drop 3).take 4), val ((b.drop 7).take 4), cellsOf ((b.drop 13).take (2 * cnt b))⟩ := rfl
  have hCl : ((b.drop 13).take (2 * cnt b)).length = 2 * cnt b := by simp; omega
  have hCg : ∀ i, i < 2 * cnt b → ((b.drop 13).take (2 * cnt b)).getD i 0 = b.getD (13 + i) 0 := by
    intro i hi
    simp [List.getD_eq_getElem?_getD, List.getElem?_take, List.getElem?_drop, hi]
  generalize (b.drop 13).take (2 * cnt b) = C at *
  simp (disch := first | assumption | omega) only [go_sem, ↓reduceIte, Nat.reduceEqDiff, reduceCtorEq, Nat.reduceAdd, Nat.reduceLeDiff, Nat.reduceLT, reduceIte, Int.reduceBEq, Int.reduceBNe, Int.reduceLT, Int.reduceLE, Int.reduceAdd, Int.reduceSub, Int.reduceMul, Int.reduceNeg, Int.reduceEq, Int.reduceNe, Nat.reduceMul, Nat.reduceSub]
  refine aw_count (fun d S => ∃ (i : Nat) (q : Own), i + d = cnt b ∧ S.env 68 = .int .i64 i ∧ S.env 67 = .int .i64 (cnt b) ∧ S.env 0 = .lst o (ints .u8 b) ∧ S.env 5 = .box 5 0 ∧ S.boxes 5 = some [.int .i64 (b.getD 0 0), .int .i64 (b.getD 1 0), .int .i64 (b.getD 2 0), .int .i64 (val ((b.drop 3).take 4)), .int .u32 (val ((b.drop 7).take 4)), .lst q (cellsA (cellsOf (C.take (2 * i))))] ∧ (q = .nil ∧ i = 0 ∨ q = .app 2) ∧ S.env 2 = .box 2 0 ∧ S.boxes 2 = some [.int .i64 0, .int .i64 0, .int .i64 0, .int .i64 0, .int .u32 0, .lst .nil []] ∧ S.heap = h) (n := cnt b)
    ⟨0, .nil, by omega, by simp (disch := first | assumption | omega) only [go_sem, ↓reduceIte, Nat.reduceEqDiff, reduceCtorEq, Nat.reduceAdd, Nat.reduceLeDiff, Nat.reduceLT, reduceIte, Int.reduceBEq, Int.reduceBNe, Int.reduceLT, Int.reduceLE, Int.reduceAdd, Int.reduceSub, Int.reduceMul, Int.reduceNeg, Int.reduceEq, Int.reduceNe, Nat.reduceMul, Nat.reduceSub], by simp (disch := first | assumption | omega) only [go_sem, ↓reduceIte, Nat.reduceEqDiff, reduceCtorEq, Nat.reduceAdd, Nat.reduceLeDiff, Nat.reduceLT, reduceIte, Int.reduceBEq, Int.reduceBNe, Int.reduceLT, Int.reduceLE, Int.reduceAdd, Int.reduceSub, Int.reduceMul, Int.reduceNeg, Int.reduceEq, Int.reduceNe, Nat.reduceMul, Nat.reduceSub], by simp (disch := first | assumption | omega) only [go_sem, ↓reduceIte, Nat.reduceEqDiff, reduceCtorEq, Nat.reduceAdd, Nat.reduceLeDiff, Nat.reduceLT, reduceIte, Int.reduceBEq, Int.reduceBNe, Int.reduceLT, Int.reduceLE, Int.reduceAdd, Int.reduceSub, Int.reduceMul, Int.reduceNeg, Int.reduceEq, Int.reduceNe, Nat.reduceMul, Nat.reduceSub], by simp (disch := first | assumption | omega) only [go_sem, ↓reduceIte, Nat.reduceEqDiff, reduceCtorEq, Nat.reduceAdd, Nat.reduceLeDiff, Nat.reduceLT, reduceIte, Int.reduceBEq, Int.reduceBNe, Int.reduceLT, Int.reduceLE, Int.reduceAdd, Int.reduceSub, Int.reduceMul, Int.reduceNeg, Int.reduceEq, Int.reduceNe, Nat.reduceMul, Nat.reduceSub], by simp (disch := first | assumption | omega) only [Nat.mul_zero, cellsOf, cellsA, go_sem, ↓reduceIte, Nat.reduceEqDiff, reduceCtorEq, Nat.reduceAdd, Nat.reduceLeDiff, Nat.reduceLT, reduceIte, Int.reduceBEq, Int.reduceBNe, Int.reduceLT, Int.reduceLE, Int.reduceAdd, Int.reduceSub, Int.reduceMul, Int.reduceNeg, Int.reduceEq, Int.reduceNe, Nat.reduceMul, Nat.reduceSub], .inl ⟨rfl, rfl⟩, by simp (disch := first | assumption | omega) only [go_sem, ↓reduceIte, Nat.reduceEqDiff, reduceCtorEq, Nat.reduceAdd, Nat.reduceLeDiff, Nat.reduceLT, reduceIte, Int.reduceBEq, Int.reduceBNe, Int.reduceLT, Int.reduceLE, Int.reduceAdd, Int.reduceSub, Int.reduceMul, Int.reduceNeg, Int.reduceEq, Int.reduceNe, Nat.reduceMul, Nat.reduceSub], by simp (disch := first | assumption | omega) only [go_sem, ↓reduceIte, Nat.reduceEqDiff, reduceCtorEq, Nat.reduceAdd, Nat.reduceLeDiff, Nat.reduceLT, reduceIte, Int.reduceBEq, Int.reduceBNe, Int.reduceLT, Int.reduceLE, Int.reduceAdd, Int.reduceSub, Int.reduceMul, Int.reduceNeg, Int.reduceEq, Int.reduceNe, Nat.reduceMul, Nat.reduceSub], by simp (disch := first | assumption | omega) only [go_sem, ↓reduceIte, Nat.reduceEqDiff, reduceCtorEq, Nat.reduceAdd, Nat.reduceLeDiff, Nat.reduceLT, reduceIte, Int.reduceBEq, Int.reduceBNe, Int.reduceLT, Int.reduceLE, Int.reduceAdd, Int.reduceSub, Int.reduceMul, Int.reduceNeg, Int.reduceEq, Int.reduceNe, Nat.reduceMul, Nat.reduceSub]⟩ ?_
  rintro d S ⟨i, q, hi, e68, e67, e0, e5, x5, hq, e2, x2, eh⟩
  have hcl : (cellsOf (C.take (2 * i))).length = i := cellsOf_length i _ (by rw [List.length_take]; omega)
  have hcs := cells_step i C
  simp (disch := first | assumption | omega) only [e68, e67, e0, e5, x5, e2, x2, eh, go_sem, ↓reduceIte, Nat.reduceEqDiff, reduceCtorEq, Nat.reduceAdd, Nat.reduceLeDiff, Nat.reduceLT, reduceIte, Int.reduceBEq, Int.reduceBNe, Int.reduceLT, Int.reduceLE, Int.reduceAdd, Int.reduceSub, Int.reduceMul, Int.reduceNeg, Int.reduceEq, Int.reduceNe, Nat.reduceMul, Nat.reduceSub]
  refine condG_if (fun hlt => ?_) fun hge => ?_
  · have hlt1 : i < cnt b := by omega
    have c0 : at_ (ints .u8 b) (13 + 2 * (i : Int)) = .int .u8 (b.getD (13 + 2 * i) 0) := by
      have := at_ints' (k := .u8) b (13 + 2 * i) (by omega)
      rwa [show ((13 + 2 * i : Nat) : Int) = 13 + 2 * (i : Int) from by omega] at this
    have c1 : at_ (ints .u8 b) (14 + 2 * (i : Int)) = .int .u8 (b.getD (14 + 2 * i) 0) := by
      have := at_ints' (k := .u8) b (14 + 2 * i) (by omega)
      rwa [show ((14 + 2 * i : Nat) : Int) = 14 + 2 * (i : Int) from by omega] at this
    have w0 : inU8 (b.getD (13 + 2 * i) 0) := by rw [getD_get (by omega)]; exact hb _ (List.getElem_mem _)
    have w1 : inU8 (b.getD (14 + 2 * i) 0) := by rw [getD_get (by omega)]; exact hb _ (List.getElem_mem _)
    unfold inU8 at w0 w1
    have m1 : (0 : Int) ≤ 13 + 2 * (i : Int) := by omega
    have m2 : 13 + 2 * (i : Int) < b.length := by omega
    have m3 : (0 : Int) ≤ 14 + 2 * (i : Int) := by omega
    have m4 : 14 + 2 * (i : Int) < b.length := by omega
    have hcell : cellsA (cellsOf (C.take (2 * i))) ++ [AVal.agg [.int .i64 (b.getD (13 + 2 * i) 0 - 64), .int .i64 (b.getD (14 + 2 * i) 0 - 64)]] = cellsA (cellsOf (C.take (2 * (i + 1)))) := by
      rw [hcs (by omega), hCg _ (by omega), hCg _ (by omega), show 13 + (2 * i + 1) = 14 + 2 * i from by omega]; simp [cellsA, cellA]
    have hnil : i = 0 → cellsA (cellsOf (C.take (2 * i))) = [] := fun e => by rw [e]; rfl
    rcases hq with ⟨rfl, h0⟩ | rfl
    case' inl =>
      simp (disch := first | assumption | omega) only [e68, e67, e0, e5, x5, e2, x2, eh, c0, c1, m1, m2, m3, m4, go_sem, ↓reduceIte, Nat.reduceEqDiff, reduceCtorEq, Nat.reduceAdd, Nat.reduceLeDiff, Nat.reduceLT, reduceIte, Int.reduceBEq, Int.reduceBNe, Int.reduceLT, Int.reduceLE, Int.reduceAdd, Int.reduceSub, Int.reduceMul, Int.reduceNeg, Int.reduceEq, Int.reduceNe, Nat.reduceMul, Nat.reduceSub]
      refine ⟨hnil h0, ?_⟩
    case' inr =>
      simp (disch := first | assumption | omega) only [e68, e67, e0, e5, x5, e2, x2, eh, c0, c1, m1, m2, m3, m4, go_sem, ↓reduceIte, Nat.reduceEqDiff, reduceCtorEq, Nat.reduceAdd, Nat.reduceLeDiff, Nat.reduceLT, reduceIte, Int.reduceBEq, Int.reduceBNe, Int.reduceLT, Int.reduceLE, Int.reduceAdd, Int.reduceSub, Int.reduceMul, Int.reduceNeg, Int.reduceEq, Int.reduceNe, Nat.reduceMul, Nat.reduceSub]
    all_goals
      refine ⟨by omega, by omega, d - 1, by omega, i + 1, .app 2, by omega, by simp, by rw [hcell], .inr rfl⟩
  · obtain rfl : i = cnt b := by omega
    rw [show C.take (2 * cnt b) = C from by rw [← hCl, List.take_length]] at x5
    have hq' : ∃ q', Rdn q' (msgOf b).Cells ∧ Ge.rdc (.lst q (cellsA (cellsOf C))) = .lst q' (cellsA (cellsOf C)) := by
      rw [hm]
      rcases hq with ⟨rfl, h0⟩ | rfl
      · exact ⟨.nil, ⟨.inr rfl, fun _ => List.eq_nil_of_length_eq_zero (by show (cellsOf C).length = 0; rw [cellsOf_length (cnt b) C hCl]; exact h0)⟩, rfl⟩
      · exact ⟨.sh, ⟨.inl rfl, fun e => by cases e⟩, rfl⟩
    obtain ⟨q', hq1, hq2⟩ := hq'
    have hq3 : Ge.rdc (.lst q' (cellsA (cellsOf C))) = .lst q' (cellsA (cellsOf C)) := by rcases hq1.1 with e | e <;> rw [e] <;> rfl
    have hlc : (msgOf b).Cells.length < 4611686018427387904 := by rw [hm]; show (cellsOf C).length < _; rw [cellsOf_length (cnt b) C hCl]; omega
    simp (disch := first | assumption | omega) only [e68, e67, e0, e5, x5, e2, x2, eh, hq2, hq3, go_sem, ↓reduceIte, Nat.reduceEqDiff, reduceCtorEq, Nat.reduceAdd, Nat.reduceLeDiff, Nat.reduceLT, reduceIte, Int.reduceBEq, Int.reduceBNe, Int.reduceLT, Int.reduceLE, Int.reduceAdd, Int.reduceSub, Int.reduceMul, Int.reduceNeg, Int.reduceEq, Int.reduceNe, Nat.reduceMul, Nat.reduceSub]
    have hme : msgA q' (msgOf b) = .agg [.int .i64 (b.getD 0 0), .int .i64 (b.getD 1 0), .int .i64 (b.getD 2 0), .int .i64 (val ((b.drop 3).take 4)), .int .u32 (val ((b.drop 7).take 4)), .lst q' (cellsA (cellsOf C))] := by rw [hm]; rfl
    have hck := fun hp => Check_ok q' (msgOf b) hq1.1 hlc hp
    rw [hme] at hck
    refine callG_ok (hck _) (by simp (disch := first | assumption | omega) only [go_sem, ↓reduceIte, Nat.reduceEqDiff, reduceCtorEq, Nat.reduceAdd, Nat.reduceLeDiff, Nat.reduceLT, reduceIte, Int.reduceBEq, Int.reduceBNe, Int.reduceLT, Int.reduceLE, Int.reduceAdd, Int.reduceSub, Int.reduceMul, Int.reduceNeg, Int.reduceEq, Int.reduceNe, Nat.reduceMul, Nat.reduceSub]) ?_
    rintro _ _ ⟨rfl, hhh⟩
    rw [hhh]
    clear hhh
    by_cases hc : checkF (msgOf b) = 0
    · simp (disch := first | assumption | omega) only [e68, e67, e0, e5, x5, e2, x2, eh, hc, hq2, hq3, go_sem, ↓reduceIte, Nat.reduceEqDiff, reduceCtorEq, Nat.reduceAdd, Nat.reduceLeDiff, Nat.reduceLT, reduceIte, Int.reduceBEq, Int.reduceBNe, Int.reduceLT, Int.reduceLE, Int.reduceAdd, Int.reduceSub, Int.reduceMul, Int.reduceNeg, Int.reduceEq, Int.reduceNe, Nat.reduceMul, Nat.reduceSub]
      subst hQ
      simp (disch := first | assumption | omega) only [R.msg_Read, e68, e67, e0, e5, x5, e2, x2, eh, go_sem, ↓reduceIte, Nat.reduceEqDiff, reduceCtorEq, Nat.reduceAdd, Nat.reduceLeDiff, Nat.reduceLT, reduceIte, Int.reduceBEq, Int.reduceBNe, Int.reduceLT, Int.reduceLE, Int.reduceAdd, Int.reduceSub, Int.reduceMul, Int.reduceNeg, Int.reduceEq, Int.reduceNe, Nat.reduceMul, Nat.reduceSub]
      exact .inr ⟨by rw [hE', hc], q', by rw [hm]; rfl, hq1⟩
    · simp (disch := first | assumption | omega) only [e68, e67, e0, e5, x5, e2, x2, eh, hc, hq2, hq3, go_sem, ↓reduceIte, Nat.reduceEqDiff, reduceCtorEq, Nat.reduceAdd, Nat.reduceLeDiff, Nat.reduceLT, reduceIte, Int.reduceBEq, Int.reduceBNe, Int.reduceLT, Int.reduceLE, Int.reduceAdd, Int.reduceSub, Int.reduceMul, Int.reduceNeg, Int.reduceEq, Int.reduceNe, Nat.reduceMul, Nat.reduceSub]
      subst hQ
      simp (disch := first | assumption | omega) only [R.msg_Read, e68, e67, e0, e5, x5, e2, x2, eh, go_sem, ↓reduceIte, Nat.reduceEqDiff, reduceCtorEq, Nat.reduceAdd, Nat.reduceLeDiff, Nat.reduceLT, reduceIte, Int.reduceBEq, Int.reduceBNe, Int.reduceLT, Int.reduceLE, Int.reduceAdd, Int.reduceSub, Int.reduceMul, Int.reduceNeg, Int.reduceEq, Int.reduceNe, Nat.reduceMul, Nat.reduceSub]
      exact .inl ⟨by rw [hE']; exact hc, by rw [hE']; rfl⟩
end Go.Proofs.Ytpdajkbfemcdlaa
/- Contracts: messages that are made. -/
set_option linter.unusedSimpArgs false
set_option linter.unusedVariables false
set_option maxRecDepth 10000
namespace Go.Proofs.Ytpdajkbfemcdlaa
open Go.Ge
/-- A message that was made. -/
def MadeMsg (v : AVal) : Prop := ∃ (q : Own) (m : Msg), v = msgA q m ∧ (q = .nil ∧ m.Cells = [] ∨ q = .sh) ∧ m.Cells.length ≤ 8 ∧ inU32 m.Clock ∧ ∀ c ∈ m.Cells, -4 ≤ c.X ∧ c.X ≤ 3 ∧ -4 ≤ c.Y ∧ c.Y ≤ 3
theorem MadeMsg_ok (o : Own) (l : List Int) (ho : Rdo o) (hl : ∀ c ∈ l, inI64 c) (h : List HObj) :
    ACalls Try.prog F.gantmake_Msg [.lst o (ints .i64 l)] h (fun v h' => MadeMsg v ∧ h' = h) := by
  refine ACalls.gcn (ACalls.of_aw Try.func80 K.gantmake_Msg (by simp [Try.f80]) ?_)
  generalize hQ : retQ R.gantmake_Msg _ = Q
  simp (disch := first | assumption | omega) only [C.gantmake_Msg, go_sem, ↓reduceIte, Nat.reduceEqDiff, reduceCtorEq, Nat.reduceAdd, Nat.reduceLeDiff, Nat.reduceLT, reduceIte, Int.reduceBEq, Int.reduceBNe, Int.reduceLT, Int.reduceLE, Int.reduceAdd, Int.reduceSub, Int.reduceMul, Int.reduceNeg, Int.reduceEq, Int.reduceNe, Nat.reduceMul, Nat.reduceSub]
  refine callG_ok (Next_ok h.length o l 4 ho hl (by simp [inI64]) _ (by simp (disch := first | assumption | omega) only [go_sem, ↓reduceIte, Nat.reduceEqDiff, reduceCtorEq, Nat.reduceAdd, Nat.reduceLeDiff, Nat.reduceLT, reduceIte, Int.reduceBEq, Int.reduceBNe, Int.reduceLT, Int.reduceLE, Int.reduceAdd, Int.reduceSub, Int.reduceMul, Int.reduceNeg, Int.reduceEq, Int.reduceNe, Nat.reduceMul, Nat.reduceSub])) (by simp (disch := first | assumption | omega) only [go_sem, ↓reduceIte, Nat.reduceEqDiff, reduceCtorEq, Nat.reduceAdd, Nat.reduceLeDiff, Nat.reduceLT, reduceIte, Int.reduceBEq, Int.reduceBNe, Int.reduceLT, Int.reduceLE, Int.reduceAdd, Int.reduceSub, Int.reduceMul, Int.reduceNeg, Int.reduceEq, Int.reduceNe, Nat.reduceMul, Nat.reduceSub]) ?_
  rintro _ _ ⟨k, o1, l1, rfl, k0, k8, ho1, hl1, rfl⟩
  simp (disch := first | assumption | omega) only [go_sem, ↓reduceIte, Nat.reduceEqDiff, reduceCtorEq, Nat.reduceAdd, Nat.reduceLeDiff, Nat.reduceLT, reduceIte, Int.reduceBEq, Int.reduceBNe, Int.reduceLT, Int.reduceLE, Int.reduceAdd, Int.reduceSub, Int.reduceMul, Int.reduceNeg, Int.reduceEq, Int.reduceNe, Nat.reduceMul, Nat.reduceSub]
  refine callG_ok (Next_ok h.length o1 l1 4 ho1 hl1 (by simp [inI64]) _ (by simp (disch := first | assumption | omega) only [go_sem, ↓reduceIte, Nat.reduceEqDiff, reduceCtorEq, Nat.reduceAdd, Nat.reduceLeDiff, Nat.reduceLT, reduceIte, Int.reduceBEq, Int.reduceBNe, Int.reduceLT, Int.reduceLE, Int.reduceAdd, Int.reduceSub, Int.reduceMul, Int.reduceNeg, Int.reduceEq, Int.reduceNe, Nat.reduceMul, Nat.reduceSub])) (by simp (disch := first | assumption | omega) only [go_sem, ↓reduceIte, Nat.reduceEqDiff, reduceCtorEq, Nat.reduceAdd, Nat.reduceLeDiff, Nat.reduceLT, reduceIte, Int.reduceBEq, Int.reduceBNe, Int.reduceLT, Int.reduceLE, Int.reduceAdd, Int.reduceSub, Int.reduceMul, Int.reduceNeg, Int.reduceEq, Int.reduceNe, Nat.reduceMul, Nat.reduceSub]) ?_
  rintro _ _ ⟨f, o2, l2, rfl, f0, f8, ho2, hl2, rfl⟩
  simp (disch := first | assumption | omega) only [go_sem, ↓reduceIte, Nat.reduceEqDiff, reduceCtorEq, Nat.reduceAdd, Nat.reduceLeDiff, Nat.reduceLT, reduceIte, Int.reduceBEq, Int.reduceBNe, Int.reduceLT, Int.reduceLE, Int.reduceAdd, Int.reduceSub, Int.reduceMul, Int.reduceNeg, Int.reduceEq, Int.reduceNe, Nat.reduceMul, Nat.reduceSub]
  refine callG_ok (Next_ok h.length o2 l2 4 ho2 hl2 (by simp [inI64]) _ (by simp (disch := first | assumption | omega) only [go_sem, ↓reduceIte, Nat.reduceEqDiff, reduceCtorEq, Nat.reduceAdd, Nat.reduceLeDiff, Nat.reduceLT, reduceIte, Int.reduceBEq, Int.reduceBNe, Int.reduceLT, Int.reduceLE, Int.reduceAdd, Int.reduceSub, Int.reduceMul, Int.reduceNeg, Int.reduceEq, Int.reduceNe, Nat.reduceMul, Nat.reduceSub])) (by simp (disch := first | assumption | omega) only [go_sem, ↓reduceIte, Nat.reduceEqDiff, reduceCtorEq, Nat.reduceAdd, Nat.reduceLeDiff, Nat.reduceLT, reduceIte, Int.reduceBEq, Int.reduceBNe, Int.reduceLT, Int.reduceLE, Int.reduceAdd, Int.reduceSub, Int.reduceMul, Int.reduceNeg, Int.reduceEq, Int.reduceNe, Nat.reduceMul, Nat.reduceSub]) ?_
  rintro _ _ ⟨t, o3, l3, rfl, t0, t8, ho3, hl3, rfl⟩
  simp (disch := first | assumption | omega) only [go_sem, ↓reduceIte, Nat.reduceEqDiff, reduceCtorEq, Nat.reduceAdd, Nat.reduceLeDiff, Nat.reduceLT, reduceIte, Int.reduceBEq, Int.reduceBNe, Int.reduceLT, Int.reduceLE, Int.reduceAdd, Int.reduceSub, Int.reduceMul, Int.reduceNeg, Int.reduceEq, Int.reduceNe, Nat.reduceMul, Nat.reduceSub]
  refine callG_ok (Next_ok h.length o3 l3 1000 ho3 hl3 (by simp [inI64]) _ (by simp (disch := first | assumption | omega) only [go_sem, ↓reduceIte, Nat.reduceEqDiff, reduceCtorEq, Nat.reduceAdd, Nat.reduceLeDiff, Nat.reduceLT, reduceIte, Int.reduceBEq, Int.reduceBNe, Int.reduceLT, Int.reduceLE, Int.reduceAdd, Int.reduceSub, Int.reduceMul, Int.reduceNeg, Int.reduceEq, Int.reduceNe, Nat.reduceMul, Nat.reduceSub])) (by simp (disch := first | assumption | omega) only [go_sem, ↓reduceIte, Nat.reduceEqDiff, reduceCtorEq, Nat.reduceAdd, Nat.reduceLeDiff, Nat.reduceLT, reduceIte, Int.reduceBEq, Int.reduceBNe, Int.reduceLT, Int.reduceLE, Int.reduceAdd, Int.reduceSub, Int.reduceMul, Int.reduceNeg, Int.reduceEq, Int.reduceNe, Nat.reduceMul, Nat.reduceSub]) ?_
  rintro _ _ ⟨s, o4, l4, rfl, s0, s8, ho4, hl4, rfl⟩
  simp (disch := first | assumption | omega) only [go_sem, ↓reduceIte, Nat.reduceEqDiff, reduceCtorEq, Nat.reduceAdd, Nat.reduceLeDiff, Nat.reduceLT, reduceIte, Int.reduceBEq, Int.reduceBNe, Int.reduceLT, Int.reduceLE, Int.reduceAdd, Int.reduceSub, Int.reduceMul, Int.reduceNeg, Int.reduceEq, Int.reduceNe, Nat.reduceMul, Nat.reduceSub]
  refine callG_ok (Next_ok h.length o4 l4 4294967296 ho4 hl4 (by simp [inI64]) _ (by simp (disch := first | assumption | omega) only [go_sem, ↓reduceIte, Nat.reduceEqDiff, reduceCtorEq, Nat.reduceAdd, Nat.reduceLeDiff, Nat.reduceLT, reduceIte, Int.reduceBEq, Int.reduceBNe, Int.reduceLT, Int.reduceLE, Int.reduceAdd, Int.reduceSub, Int.reduceMul, Int.reduceNeg, Int.reduceEq, Int.reduceNe, Nat.reduceMul, Nat.reduceSub])) (by simp (disch := first | assumption | omega) only [go_sem, ↓reduceIte, Nat.reduceEqDiff, reduceCtorEq, Nat.reduceAdd, Nat.reduceLeDiff, Nat.reduceLT, reduceIte, Int.reduceBEq, Int.reduceBNe, Int.reduceLT, Int.reduceLE, Int.reduceAdd, Int.reduceSub, Int.reduceMul, Int.reduceNeg, Int.reduceEq, Int.reduceNe, Nat.reduceMul, Nat.reduceSub]) ?_
  rintro _ _ ⟨c, o5, l5, rfl, c0, c8, ho5, hl5, rfl⟩
  have c8 := c8 (by omega)
  by_cases hk : k = 3
  · simp (disch := first | assumption | omega) only [eq_true hk, go_sem, ↓reduceIte, Nat.reduceEqDiff, reduceCtorEq, Nat.reduceAdd, Nat.reduceLeDiff, Nat.reduceLT, reduceIte, Int.reduceBEq, Int.reduceBNe, Int.reduceLT, Int.reduceLE, Int.reduceAdd, Int.reduceSub, Int.reduceMul, Int.reduceNeg, Int.reduceEq, Int.reduceNe, Nat.reduceMul, Nat.reduceSub]
    subst hQ
    simp (disch := first | assumption | omega) only [R.gantmake_Msg, go_sem, ↓reduceIte, Nat.reduceEqDiff, reduceCtorEq, Nat.reduceAdd, Nat.reduceLeDiff, Nat.reduceLT, reduceIte, Int.reduceBEq, Int.reduceBNe, Int.reduceLT, Int.reduceLE, Int.reduceAdd, Int.reduceSub, Int.reduceMul, Int.reduceNeg, Int.reduceEq, Int.reduceNe, Nat.reduceMul, Nat.reduceSub]
    exact ⟨[_], rfl, by simp [AVal.ids, idsL], .nil, ⟨k, f, t, s, c, []⟩, rfl, .inl ⟨rfl, rfl⟩, by simp, ⟨c0, c8⟩, by simp⟩
  · simp (disch := first | assumption | omega) only [hk, go_sem, ↓reduceIte, Nat.reduceEqDiff, reduceCtorEq, Nat.reduceAdd, Nat.reduceLeDiff, Nat.reduceLT, reduceIte, Int.reduceBEq, Int.reduceBNe, Int.reduceLT, Int.reduceLE, Int.reduceAdd, Int.reduceSub, Int.reduceMul, Int.reduceNeg, Int.reduceEq, Int.reduceNe, Nat.reduceMul, Nat.reduceSub]
    refine callG_ok (MadeCells_ok o5 l5 ho5 hl5 _) (by simp (disch := first | assumption | omega) only [go_sem, ↓reduceIte, Nat.reduceEqDiff, reduceCtorEq, Nat.reduceAdd, Nat.reduceLeDiff, Nat.reduceLT, reduceIte, Int.reduceBEq, Int.reduceBNe, Int.reduceLT, Int.reduceLE, Int.reduceAdd, Int.reduceSub, Int.reduceMul, Int.reduceNeg, Int.reduceEq, Int.reduceNe, Nat.reduceMul, Nat.reduceSub]) ?_
    rintro _ _ ⟨⟨cs, h1, h2, hcs⟩, hhh⟩
    rw [hhh]
    clear hhh
    rcases hcs with ⟨rfl, h3⟩ | rfl
    · simp (disch := first | assumption | omega) only [go_sem, ↓reduceIte, Nat.reduceEqDiff, reduceCtorEq, Nat.reduceAdd, Nat.reduceLeDiff, Nat.reduceLT, reduceIte, Int.reduceBEq, Int.reduceBNe, Int.reduceLT, Int.reduceLE, Int.reduceAdd, Int.reduceSub, Int.reduceMul, Int.reduceNeg, Int.reduceEq, Int.reduceNe, Nat.reduceMul, Nat.reduceSub]
      subst hQ
      simp (disch := first | assumption | omega) only [R.gantmake_Msg, go_sem, ↓reduceIte, Nat.reduceEqDiff, reduceCtorEq, Nat.reduceAdd, Nat.reduceLeDiff, Nat.reduceLT, reduceIte, Int.reduceBEq, Int.reduceBNe, Int.reduceLT, Int.reduceLE, Int.reduceAdd, Int.reduceSub, Int.reduceMul, Int.reduceNeg, Int.reduceEq, Int.reduceNe, Nat.reduceMul, Nat.reduceSub]
      exact ⟨[_], rfl, by simp [AVal.ids, idsL], .nil, ⟨k, f, t, s, c, []⟩, rfl, .inl ⟨rfl, rfl⟩, by simp, ⟨c0, c8⟩, by simp⟩
    · simp (disch := first | assumption | omega) only [go_sem, ↓reduceIte, Nat.reduceEqDiff, reduceCtorEq, Nat.reduceAdd, Nat.reduceLeDiff, Nat.reduceLT, reduceIte, Int.reduceBEq, Int.reduceBNe, Int.reduceLT, Int.reduceLE, Int.reduceAdd, Int.reduceSub, Int.reduceMul, Int.reduceNeg, Int.reduceEq, Int.reduceNe, Nat.reduceMul, Nat.reduceSub]
      subst hQ
      simp (disch := first | assumption | omega) only [R.gantmake_Msg, go_sem, ↓reduceIte, Nat.reduceEqDiff, reduceCtorEq, Nat.reduceAdd, Nat.reduceLeDiff, Nat.reduceLT, reduceIte, Int.reduceBEq, Int.reduceBNe, Int.reduceLT, Int.reduceLE, Int.reduceAdd, Int.reduceSub, Int.reduceMul, Int.reduceNeg, Int.reduceEq, Int.reduceNe, Nat.reduceMul, Nat.reduceSub]
      exact ⟨[_], rfl, by simp [AVal.ids, idsL, cells_ids], .sh, ⟨k, f, t, s, c, cs⟩, rfl, .inr rfl, h1, ⟨c0, c8⟩, h2⟩
end Go.Proofs.Ytpdajkbfemcdlaa
/- What is written is read, and nothing else. -/
set_option linter.unusedSimpArgs false
set_option linter.unusedVariables false
namespace Go.Proofs.Ytpdajkbfemcdlaa
open Go.Ge
/-- What stands behind the head. -/
def tailB (m : Msg) : List Int := cellsB m.Cells ++ four (iv (crc (bodyB m)))
theorem frame_eq (m : Msg) : frame m = (m.Kind % 256) :: (m.From % 256) :: (m.To % 256) :: (beBytes m.Seq 4 ++ (beBytes m.Clock 4 ++ (beBytes m.Cells.length 2 ++ tailB m))) := by simp [frame, bodyB, tailB]
theorem frame_d3 (m : Msg) : (frame m).drop 3 = beBytes m.Seq 4 ++ (beBytes m.Clock 4 ++ (beBytes m.Cells.length 2 ++ tailB m)) := by rw [frame_eq]; rfl
theorem frame_d7 (m : Msg) : (frame m).drop 7 = beBytes m.Clock 4 ++ (beBytes m.Cells.length 2 ++ tailB m) := by
  rw [show (7 : Nat) = 3 + 4 from rfl, ← List.drop_drop, frame_d3, List.drop_left' (beBytes_length _ _)]
theorem frame_d11 (m : Msg) : (frame m).drop 11 = beBytes m.Cells.length 2 ++ tailB m := by
  rw [show (11 : Nat) = 7 + 4 from rfl, ← List.drop_drop, frame_d7, List.drop_left' (beBytes_length _ _)]
theorem frame_d13 (m : Msg) : (frame m).drop 13 = tailB m := by
  rw [show (13 : Nat) = 11 + 2 from rfl, ← List.drop_drop, frame_d11, List.drop_left' (beBytes_length _ _)]
theorem frame_cnt {m : Msg} (h : m.Cells.length < 65536) : cnt (frame m) = m.Cells.length := by
  unfold cnt
  rw [frame_d11, List.take_left' (beBytes_length _ _), val_be2 (by omega) (by omega)]; omega
theorem frame_take (m : Msg) : (frame m).take (13 + 2 * m.Cells.length) = bodyB m := by
  unfold frame; rw [List.take_left' (bodyB_length m)]
theorem frame_drop (m : Msg) : (frame m).drop (13 + 2 * m.Cells.length) = four (iv (crc (bodyB m))) := by
  unfold frame; rw [List.drop_left' (bodyB_length m)]
theorem msgOf_frame {m : Msg} (h : Fine m) (hc : inU32 m.Clock) : msgOf (frame m) = m := by
  obtain ⟨k1, k2, k3, k4, k5, k6⟩ := h
  unfold inU32 at hc
  unfold msgOf
  rw [frame_cnt (by omega), frame_d3, frame_d7, frame_d13, List.take_left' (beBytes_length _ _), List.take_left' (beBytes_length _ _), val_be4 (by omega) (by omega), val_be4 (by omega) (by omega)]
  have e1 : (tailB m).take (2 * m.Cells.length) = cellsB m.Cells := by unfold tailB; rw [List.take_left' (cellsB_length _)]
  rw [e1, cellsOf_B _ k6, frame_eq]
  cases m
  simp only [List.getD_cons_zero, List.getD_cons_succ, Msg.mk.injEq, and_true] at *
  omega
theorem unfE_frame {m : Msg} (h : m.Cells.length < 65536) : unfE (frame m) = 0 := by
  unfold unfE
  have hb := iv_bd (crc (bodyB m))
  rw [frame_cnt h, frame_length, if_neg (by omega), if_neg (by omega), if_neg (by omega), frame_drop, frame_take, four, val_be4 hb.1 hb.2, if_neg (by simp)]
theorem readE_frame {m : Msg} (h : checkF m = 0) (hc : inU32 m.Clock) : readE (frame m) = 0 := by
  have hf := fine_of h
  unfold readE
  rw [unfE_frame (by have := hf.few; omega), if_neg (by simp), msgOf_frame hf hc, h]
end Go.Proofs.Ytpdajkbfemcdlaa
