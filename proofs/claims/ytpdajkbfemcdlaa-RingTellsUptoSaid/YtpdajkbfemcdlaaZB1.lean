import Derived.Test.YtpdajkbfemcdlaaGeSet
import Derived.Test.YtpdajkbfemcdlaaZA1
/- Logs as lists of numbers; sums that differ. -/
set_option linter.unusedSimpArgs false
set_option linter.unusedVariables false
namespace Go.Proofs.Ytpdajkbfemcdlaa
open Go.Ge
/-! ### Sums -/
/-! ### Bytes of numbers -/
theorem be2 (n : Int) : beBytes n 2 = [n / 256 % 256, n % 256] := by simp [beBytes]
theorem be2_inj {m n : Int} (h0 : 0 ≤ m) (h1 : m < 65536) (k0 : 0 ≤ n) (k1 : n < 65536) (h : beBytes m 2 = beBytes n 2) : m = n := by
  rw [be2, be2] at h
  simp only [List.cons.injEq, and_true] at h
  omega
/-! ### Logs -/
def four (n : Int) : List Int := beBytes n 4
theorem four_length (n : Int) : (four n).length = 4 := beBytes_length n 4
def logSum (last : Int) (r : List Int) : Int := iv (crc (four last ++ (beBytes r.length 2 ++ r)))
def recB (last : Int) (r : List Int) : List Int := beBytes r.length 2 ++ r ++ four (logSum last r)
theorem recB_length (last : Int) (r : List Int) : (recB last r).length = 6 + r.length := by
  simp [recB, beBytes_length, four_length]; omega
def book : Int → List (List Int) → List Int
  | _, [] => []
  | last, r :: rs => recB last r ++ book (logSum last r) rs
def lastOf : Int → List (List Int) → Int
  | last, [] => last
  | last, r :: rs => lastOf (logSum last r) rs
theorem book_append : ∀ (last : Int) (a b : List (List Int)), book last (a ++ b) = book last a ++ book (lastOf last a) b
  | _, [], _ => rfl
  | last, r :: a, b => by simp [book, lastOf, book_append (logSum last r) a b]
theorem book_snoc (last : Int) (a : List (List Int)) (r : List Int) : book last (a ++ [r]) = book last a ++ recB (lastOf last a) r := by
  rw [book_append]; simp [book]
/-- Bytes that begin with a record tell which. -/
theorem recB_prefix {last : Int} {r z : List Int} (h : recB last r <+: z) : z.take 2 = beBytes r.length 2 ∧ (z.drop 2).take r.length = r ∧ (z.drop (2 + r.length)).take 4 = four (logSum last r) ∧ 6 + r.length ≤ z.length := by
  obtain ⟨t, rfl⟩ := h
  have hl : (beBytes (r.length : Int) 2).length = 2 := beBytes_length _ _
  simp only [recB, List.append_assoc]
  refine ⟨?_, ?_, ?_, ?_⟩
  · rw [List.take_append_of_le_length (by omega)]; exact List.take_of_length_le (by omega)
  · rw [List.drop_append_of_le_length (by omega), List.drop_of_length_le (by omega), List.nil_append]
    simp
  · rw [List.drop_append, List.drop_of_length_le (by omega), List.nil_append, hl]
    rw [show 2 + r.length - 2 = r.length from by omega, List.drop_append_of_le_length (by omega), List.drop_length, List.nil_append]
    rw [List.take_append_of_le_length (by rw [four_length]; omega)]
    exact List.take_of_length_le (by rw [four_length]; omega)
  · simp [hl, four_length]; omega
theorem recB_unique {l : Int} {r r' z : List Int} (h : recB l r <+: z) (h' : recB l r' <+: z) (hr : r.length < 65536) (hr' : r'.length < 65536) : r = r' := by
  obtain ⟨a1, a2, _⟩ := recB_prefix h
  obtain ⟨b1, b2, _⟩ := recB_prefix h'
  have : (r.length : Int) = r'.length := be2_inj (by omega) (by omega) (by omega) (by omega) (a1.symm.trans b1)
  have e : r.length = r'.length := by omega
  rw [← a2, ← b2, e]
theorem prefix_cases : ∀ (rs rs' : List (List Int)) (l : Int) (z : List Int), (∀ r ∈ rs, r.length < 65536) → (∀ r ∈ rs', r.length < 65536) → book l rs <+: z → book l rs' <+: z → rs <+: rs' ∨ rs' <+: rs
  | [], rs', _, _, _, _, _, _ => .inl (List.nil_prefix)
  | rs, [], _, _, _, _, _, _ => .inr (List.nil_prefix)
  | r :: rs, r' :: rs', l, z, h1, h2, k1, k2 => by
    simp only [book] at k1 k2
    have q1 : recB l r <+: z := (List.prefix_append _ _).trans k1
    have q2 : recB l r' <+: z := (List.prefix_append _ _).trans k2
    obtain rfl := recB_unique q1 q2 (h1 r (by simp)) (h2 r' (by simp))
    obtain ⟨t, rfl⟩ := q1
    rw [List.prefix_append_right_inj] at k1 k2
    rcases prefix_cases rs rs' _ t (fun r hr => h1 r (by simp [hr])) (fun r hr => h2 r (by simp [hr])) k1 k2 with h | h
    · exact .inl ((List.cons_prefix_cons).2 ⟨rfl, h⟩)
    · exact .inr ((List.cons_prefix_cons).2 ⟨rfl, h⟩)
/-- The records that bytes begin with, all of them. -/
structure IsScan (b : List Int) (rs : List (List Int)) : Prop where
  short : ∀ r ∈ rs, r.length ≤ 2000
  pre : book 0 rs <+: b
  max : ∀ r : List Int, r.length ≤ 2000 → ¬ book 0 (rs ++ [r]) <+: b
theorem IsScan.book {rs : List (List Int)} (h : ∀ r ∈ rs, r.length ≤ 2000) : IsScan (book 0 rs) rs := by
  refine ⟨h, List.prefix_refl _, fun r _ hp => ?_⟩
  have := hp.length_le
  rw [book_snoc, List.length_append, recB_length] at this
  omega
/-- What begins with a log's beginning begins with some of its records. -/
theorem IsScan.cut {b : List Int} {rs rs' : List (List Int)} (h : IsScan b rs) (hb : b <+: Go.Proofs.Ytpdajkbfemcdlaa.book 0 rs') (h' : ∀ r ∈ rs', r.length ≤ 2000) : rs <+: rs' := by
  rcases prefix_cases rs rs' 0 (Go.Proofs.Ytpdajkbfemcdlaa.book 0 rs') (fun r hr => by have := h.short r hr; omega) (fun r hr => by have := h' r hr; omega) (h.pre.trans hb) (List.prefix_refl _) with hp | hp
  · exact hp
  · obtain ⟨t, rfl⟩ := hp
    cases t with
    | nil => simp
    | cons r t =>
      exfalso
      have := (h.pre.trans hb).length_le
      rw [book_append] at this
      simp only [Go.Proofs.Ytpdajkbfemcdlaa.book, List.length_append, recB_length] at this
      omega
end Go.Proofs.Ytpdajkbfemcdlaa
/- Contracts: bytes compared, copied; sums of records. -/
set_option linter.unusedSimpArgs false
set_option linter.unusedVariables false
set_option maxRecDepth 10000
namespace Go.Proofs.Ytpdajkbfemcdlaa
open Go.Ge
/-- Records that were read: held so that more may be added. -/
def Recs (rs : List (List Int)) (x : AVal) : Prop := ∃ q xs, x = .lst q xs ∧ Each2 RecOk rs xs ∧ (q = .nil ∧ rs = [] ∨ q = .app 1)
theorem Recs.add {rs : List (List Int)} {xs : List AVal} {r : List Int} {x : AVal} (h : Each2 RecOk rs xs) (hr : RecOk r x) : Recs (rs ++ [r]) (.lst (.app 1) (xs ++ [x])) := ⟨_, _, rfl, h.append (Each2.one hr), .inr rfl⟩
end Go.Proofs.Ytpdajkbfemcdlaa
/- Contracts: lists of numbers. -/
set_option linter.unusedSimpArgs false
set_option linter.unusedVariables false
set_option maxRecDepth 10000
namespace Go.Proofs.Ytpdajkbfemcdlaa
open Go.Ge
theorem at_int {l : List Int} {i : Nat} (h : i < l.length) : at_ (ints .i64 l) (i : Int) = .int .i64 l[i] := by
  rw [at_ints' l i h]; simp [List.getD_eq_getElem?_getD, h]
theorem IndexInt_ok (o : Own) (l : List Int) (v : Int) (ho : Rdo o) (hl : l.length < 4611686018427387904) (h : List HObj) :
    ACalls Try.prog F.slices_Index_int [.lst o (ints .i64 l), .int .i64 v] h (fun r h' => (∃ i, r = .int .i64 i ∧ (0 ≤ i ↔ v ∈ l)) ∧ h' = h) := by
  refine ACalls.of_aw Try.func172 K.slices_Index_int (by simp [Try.f172]) ?_
  generalize hQ : retQ R.slices_Index_int _ = Q
  simp (disch := first | assumption | omega) only [C.slices_Index_int, go_sem, ↓reduceIte, Nat.reduceEqDiff, reduceCtorEq, Nat.reduceAdd, Nat.reduceLeDiff, Nat.reduceLT, reduceIte, Int.reduceBEq, Int.reduceBNe, Int.reduceLT, Int.reduceLE, Int.reduceAdd, Int.reduceSub, Int.reduceMul, Int.reduceNeg, Int.reduceEq, Int.reduceNe, Nat.reduceMul, Nat.reduceSub]
  refine aw_count (fun d S => ∃ (i : Nat), i + d = l.length ∧ S.env 8 = .int .i64 i ∧ S.env 7 = .int .i64 l.length ∧ S.env 0 = .lst o (ints .i64 l) ∧ S.env 1 = .int .i64 v ∧ v ∉ l.take i ∧ S.heap = h) (n := l.length) ⟨0, by simp [go_sem]⟩ ?_
  rintro d S ⟨i, hi, e8, e7, e0, e1, hn, eh⟩
  simp (disch := first | assumption | omega) only [e8, e7, e0, e1, eh, go_sem, ↓reduceIte, Nat.reduceEqDiff, reduceCtorEq, Nat.reduceAdd, Nat.reduceLeDiff, Nat.reduceLT, reduceIte, Int.reduceBEq, Int.reduceBNe, Int.reduceLT, Int.reduceLE, Int.reduceAdd, Int.reduceSub, Int.reduceMul, Int.reduceNeg, Int.reduceEq, Int.reduceNe, Nat.reduceMul, Nat.reduceSub]
  refine condG_if (fun hlt => ?_) fun hge => ?_
  · have hlt1 : i < l.length := by omega
    have hat := at_int hlt1
    by_cases hc : v = l[i]
    · simp (disch := first | assumption | omega) only [e8, e7, e0, e1, eh, hat, hlt1, eq_true hc, go_sem, ↓reduceIte, Nat.reduceEqDiff, reduceCtorEq, Nat.reduceAdd, Nat.reduceLeDiff, Nat.reduceLT, reduceIte, Int.reduceBEq, Int.reduceBNe, Int.reduceLT, Int.reduceLE, Int.reduceAdd, Int.reduceSub, Int.reduceMul, Int.reduceNeg, Int.reduceEq, Int.reduceNe, Nat.reduceMul, Nat.reduceSub]
      subst hQ
      simp (disch := first | assumption | omega) only [R.slices_Index_int, e8, e7, e0, e1, eh, go_sem, ↓reduceIte, Nat.reduceEqDiff, reduceCtorEq, Nat.reduceAdd, Nat.reduceLeDiff, Nat.reduceLT, reduceIte, Int.reduceBEq, Int.reduceBNe, Int.reduceLT, Int.reduceLE, Int.reduceAdd, Int.reduceSub, Int.reduceMul, Int.reduceNeg, Int.reduceEq, Int.reduceNe, Nat.reduceMul, Nat.reduceSub]
      exact ⟨i, rfl, fun _ => hc ▸ List.getElem_mem hlt1, fun _ => by omega⟩
    · simp (disch := first | assumption | omega) only [e8, e7, e0, e1, eh, hat, hlt1, hc, go_sem, ↓reduceIte, Nat.reduceEqDiff, reduceCtorEq, Nat.reduceAdd, Nat.reduceLeDiff, Nat.reduceLT, reduceIte, Int.reduceBEq, Int.reduceBNe, Int.reduceLT, Int.reduceLE, Int.reduceAdd, Int.reduceSub, Int.reduceMul, Int.reduceNeg, Int.reduceEq, Int.reduceNe, Nat.reduceMul, Nat.reduceSub]
      refine ⟨d - 1, by omega, i + 1, by omega, by simp, fun hm => ?_⟩
      rw [List.take_add_one, List.getElem?_eq_getElem hlt1] at hm
      rcases List.mem_append.1 hm with hm | hm
      · exact hn hm
      · simp at hm; exact hc hm
  · obtain rfl : i = l.length := by omega
    rw [List.take_length] at hn
    simp (disch := first | assumption | omega) only [e8, e7, e0, e1, eh, go_sem, ↓reduceIte, Nat.reduceEqDiff, reduceCtorEq, Nat.reduceAdd, Nat.reduceLeDiff, Nat.reduceLT, reduceIte, Int.reduceBEq, Int.reduceBNe, Int.reduceLT, Int.reduceLE, Int.reduceAdd, Int.reduceSub, Int.reduceMul, Int.reduceNeg, Int.reduceEq, Int.reduceNe, Nat.reduceMul, Nat.reduceSub]
    subst hQ
    simp (disch := first | assumption | omega) only [R.slices_Index_int, e8, e7, e0, e1, eh, go_sem, ↓reduceIte, Nat.reduceEqDiff, reduceCtorEq, Nat.reduceAdd, Nat.reduceLeDiff, Nat.reduceLT, reduceIte, Int.reduceBEq, Int.reduceBNe, Int.reduceLT, Int.reduceLE, Int.reduceAdd, Int.reduceSub, Int.reduceMul, Int.reduceNeg, Int.reduceEq, Int.reduceNe, Nat.reduceMul, Nat.reduceSub]
    exact ⟨-1, rfl, fun h => by omega, fun h => absurd h hn⟩
theorem ContainsInt_ok (o : Own) (l : List Int) (v : Int) (ho : Rdo o) (hl : l.length < 4611686018427387904) (h : List HObj) :
    ACalls Try.prog F.slices_Contains_int [.lst o (ints .i64 l), .int .i64 v] h (fun r h' => r = .bool (decide (v ∈ l)) ∧ h' = h) := by
  refine ACalls.of_aw Try.func97 K.slices_Contains_int (by simp [Try.f97]) ?_
  generalize hQ : retQ R.slices_Contains_int _ = Q
  simp (disch := first | assumption | omega) only [C.slices_Contains_int, go_sem, ↓reduceIte, Nat.reduceEqDiff, reduceCtorEq, Nat.reduceAdd, Nat.reduceLeDiff, Nat.reduceLT, reduceIte, Int.reduceBEq, Int.reduceBNe, Int.reduceLT, Int.reduceLE, Int.reduceAdd, Int.reduceSub, Int.reduceMul, Int.reduceNeg, Int.reduceEq, Int.reduceNe, Nat.reduceMul, Nat.reduceSub]
  refine callG_ok (IndexInt_ok o l v ho hl _) (by simp (disch := first | assumption | omega) only [go_sem, ↓reduceIte, Nat.reduceEqDiff, reduceCtorEq, Nat.reduceAdd, Nat.reduceLeDiff, Nat.reduceLT, reduceIte, Int.reduceBEq, Int.reduceBNe, Int.reduceLT, Int.reduceLE, Int.reduceAdd, Int.reduceSub, Int.reduceMul, Int.reduceNeg, Int.reduceEq, Int.reduceNe, Nat.reduceMul, Nat.reduceSub]) ?_
  rintro _ _ ⟨⟨i, rfl, hi⟩, hhh⟩
  rw [hhh]
  clear hhh
  simp (disch := first | assumption | omega) only [go_sem, ↓reduceIte, Nat.reduceEqDiff, reduceCtorEq, Nat.reduceAdd, Nat.reduceLeDiff, Nat.reduceLT, reduceIte, Int.reduceBEq, Int.reduceBNe, Int.reduceLT, Int.reduceLE, Int.reduceAdd, Int.reduceSub, Int.reduceMul, Int.reduceNeg, Int.reduceEq, Int.reduceNe, Nat.reduceMul, Nat.reduceSub]
  subst hQ
  simp (disch := first | assumption | omega) only [R.slices_Contains_int, go_sem, ↓reduceIte, Nat.reduceEqDiff, reduceCtorEq, Nat.reduceAdd, Nat.reduceLeDiff, Nat.reduceLT, reduceIte, Int.reduceBEq, Int.reduceBNe, Int.reduceLT, Int.reduceLE, Int.reduceAdd, Int.reduceSub, Int.reduceMul, Int.reduceNeg, Int.reduceEq, Int.reduceNe, Nat.reduceMul, Nat.reduceSub]
  by_cases hm : v ∈ l
  · rw [decide_eq_true hm, decide_eq_true (hi.2 hm)]
  · rw [decide_eq_false hm, decide_eq_false (fun h => hm (hi.1 h))]
theorem IndexFuncInt_ok (o : Own) (l : List Int) (f : Nat) (caps : List AVal) (p : Int → Bool) (ho : Rdo o) (hl : l.length < 4611686018427387904) (h : List HObj)
    (hf : ∀ x ∈ l, ACalls Try.prog f (.int .i64 x :: caps.map Ge.rdc) h (fun r h' => r = .bool (p x) ∧ h' = h)) :
    ACalls Try.prog F.slices_IndexFunc_int [.lst o (ints .i64 l), .func f caps] h (fun r h' => (∃ i, r = .int .i64 i ∧ (0 ≤ i ↔ ∃ x ∈ l, p x = true)) ∧ h' = h) := by
  refine ACalls.of_aw Try.func173 K.slices_IndexFunc_int (by simp [Try.f173]) ?_
  generalize hQ : retQ R.slices_IndexFunc_int _ = Q
  simp (disch := first | assumption | omega) only [C.slices_IndexFunc_int, go_sem, ↓reduceIte, Nat.reduceEqDiff, reduceCtorEq, Nat.reduceAdd, Nat.reduceLeDiff, Nat.reduceLT, reduceIte, Int.reduceBEq, Int.reduceBNe, Int.reduceLT, Int.reduceLE, Int.reduceAdd, Int.reduceSub, Int.reduceMul, Int.reduceNeg, Int.reduceEq, Int.reduceNe, Nat.reduceMul, Nat.reduceSub]
  refine aw_count (fun d S => ∃ (i : Nat), i + d = l.length ∧ S.env 8 = .int .i64 i ∧ S.env 7 = .int .i64 l.length ∧ S.env 0 = .lst o (ints .i64 l) ∧ S.env 1 = .func f caps ∧ (∀ x ∈ l.take i, p x = false) ∧ S.heap = h) (n := l.length) ⟨0, by simp [go_sem]⟩ ?_
  rintro d S ⟨i, hi, e8, e7, e0, e1, hn, eh⟩
  subst eh
  simp (disch := first | assumption | omega) only [e8, e7, e0, e1, go_sem, ↓reduceIte, Nat.reduceEqDiff, reduceCtorEq, Nat.reduceAdd, Nat.reduceLeDiff, Nat.reduceLT, reduceIte, Int.reduceBEq, Int.reduceBNe, Int.reduceLT, Int.reduceLE, Int.reduceAdd, Int.reduceSub, Int.reduceMul, Int.reduceNeg, Int.reduceEq, Int.reduceNe, Nat.reduceMul, Nat.reduceSub]
  refine condG_if (fun hlt => ?_) fun hge => ?_
  · have hlt1 : i < l.length := by omega
    have hat := at_int hlt1
    simp (disch := first | assumption | omega) only [e8, e7, e0, e1, hat, hlt1, go_sem, ↓reduceIte, Nat.reduceEqDiff, reduceCtorEq, Nat.reduceAdd, Nat.reduceLeDiff, Nat.reduceLT, reduceIte, Int.reduceBEq, Int.reduceBNe, Int.reduceLT, Int.reduceLE, Int.reduceAdd, Int.reduceSub, Int.reduceMul, Int.reduceNeg, Int.reduceEq, Int.reduceNe, Nat.reduceMul, Nat.reduceSub]
    refine callvG_ok (hf l[i] (List.getElem_mem hlt1)) (by simp (disch := first | assumption | omega) only [go_sem, ↓reduceIte, Nat.reduceEqDiff, reduceCtorEq, Nat.reduceAdd, Nat.reduceLeDiff, Nat.reduceLT, reduceIte, Int.reduceBEq, Int.reduceBNe, Int.reduceLT, Int.reduceLE, Int.reduceAdd, Int.reduceSub, Int.reduceMul, Int.reduceNeg, Int.reduceEq, Int.reduceNe, Nat.reduceMul, Nat.reduceSub]) ?_
    rintro _ _ ⟨rfl, hhh⟩
    rw [hhh]
    clear hhh
    cases hp : p l[i]
    · simp (disch := first | assumption | omega) only [e8, e7, e0, e1, go_sem, ↓reduceIte, Nat.reduceEqDiff, reduceCtorEq, Nat.reduceAdd, Nat.reduceLeDiff, Nat.reduceLT, reduceIte, Int.reduceBEq, Int.reduceBNe, Int.reduceLT, Int.reduceLE, Int.reduceAdd, Int.reduceSub, Int.reduceMul, Int.reduceNeg, Int.reduceEq, Int.reduceNe, Nat.reduceMul, Nat.reduceSub]
      refine ⟨d - 1, by omega, i + 1, by omega, by simp, fun x hx => ?_⟩
      rw [List.take_add_one, List.getElem?_eq_getElem hlt1] at hx
      rcases List.mem_append.1 hx with hx | hx
      · exact hn x hx
      · simp at hx; subst hx; exact hp
    · simp (disch := first | assumption | omega) only [e8, e7, e0, e1, go_sem, ↓reduceIte, Nat.reduceEqDiff, reduceCtorEq, Nat.reduceAdd, Nat.reduceLeDiff, Nat.reduceLT, reduceIte, Int.reduceBEq, Int.reduceBNe, Int.reduceLT, Int.reduceLE, Int.reduceAdd, Int.reduceSub, Int.reduceMul, Int.reduceNeg, Int.reduceEq, Int.reduceNe, Nat.reduceMul, Nat.reduceSub]
      subst hQ
      simp (disch := first | assumption | omega) only [R.slices_IndexFunc_int, e8, e7, e0, e1, go_sem, ↓reduceIte, Nat.reduceEqDiff, reduceCtorEq, Nat.reduceAdd, Nat.reduceLeDiff, Nat.reduceLT, reduceIte, Int.reduceBEq, Int.reduceBNe, Int.reduceLT, Int.reduceLE, Int.reduceAdd, Int.reduceSub, Int.reduceMul, Int.reduceNeg, Int.reduceEq, Int.reduceNe, Nat.reduceMul, Nat.reduceSub]
      exact ⟨i, rfl, fun _ => ⟨_, List.getElem_mem hlt1, hp⟩, fun _ => by omega⟩
  · obtain rfl : i = l.length := by omega
    rw [List.take_length] at hn
    simp (disch := first | assumption | omega) only [e8, e7, e0, e1, go_sem, ↓reduceIte, Nat.reduceEqDiff, reduceCtorEq, Nat.reduceAdd, Nat.reduceLeDiff, Nat.reduceLT, reduceIte, Int.reduceBEq, Int.reduceBNe, Int.reduceLT, Int.reduceLE, Int.reduceAdd, Int.reduceSub, Int.reduceMul, Int.reduceNeg, Int.reduceEq, Int.reduceNe, Nat.reduceMul, Nat.reduceSub]
    subst hQ
    simp (disch := first | assumption | omega) only [R.slices_IndexFunc_int, e8, e7, e0, e1, go_sem, ↓reduceIte, Nat.reduceEqDiff, reduceCtorEq, Nat.reduceAdd, Nat.reduceLeDiff, Nat.reduceLT, reduceIte, Int.reduceBEq, Int.reduceBNe, Int.reduceLT, Int.reduceLE, Int.reduceAdd, Int.reduceSub, Int.reduceMul, Int.reduceNeg, Int.reduceEq, Int.reduceNe, Nat.reduceMul, Nat.reduceSub]
    exact ⟨-1, rfl, fun h => by omega, fun ⟨x, hx, hp⟩ => by rw [hn x hx] at hp; cases hp⟩
theorem ContainsFuncInt_ok (o : Own) (l : List Int) (f : Nat) (caps : List AVal) (p : Int → Bool) (ho : Rdo o) (hl : l.length < 4611686018427387904) (hcap : ∀ c ∈ caps, storC c = true) (h : List HObj)
    (hf : ∀ x ∈ l, ACalls Try.prog f (.int .i64 x :: caps.map Ge.rdc) h (fun r h' => r = .bool (p x) ∧ h' = h)) :
    ACalls Try.prog F.slices_ContainsFunc_int [.lst o (ints .i64 l), .func f caps] h (fun r h' => r = .bool (l.any p) ∧ h' = h) := by
  refine ACalls.of_aw Try.func99 K.slices_ContainsFunc_int (by simp [Try.f99]) ?_
  generalize hQ : retQ R.slices_ContainsFunc_int _ = Q
  simp (disch := first | assumption | omega) only [C.slices_ContainsFunc_int, go_sem, ↓reduceIte, Nat.reduceEqDiff, reduceCtorEq, Nat.reduceAdd, Nat.reduceLeDiff, Nat.reduceLT, reduceIte, Int.reduceBEq, Int.reduceBNe, Int.reduceLT, Int.reduceLE, Int.reduceAdd, Int.reduceSub, Int.reduceMul, Int.reduceNeg, Int.reduceEq, Int.reduceNe, Nat.reduceMul, Nat.reduceSub]
  refine callG_ok (IndexFuncInt_ok o l f caps p ho hl _ hf) (by simp (disch := first | assumption | omega) only [go_sem, ↓reduceIte, Nat.reduceEqDiff, reduceCtorEq, Nat.reduceAdd, Nat.reduceLeDiff, Nat.reduceLT, reduceIte, Int.reduceBEq, Int.reduceBNe, Int.reduceLT, Int.reduceLE, Int.reduceAdd, Int.reduceSub, Int.reduceMul, Int.reduceNeg, Int.reduceEq, Int.reduceNe, Nat.reduceMul, Nat.reduceSub]) ?_
  rintro _ _ ⟨⟨i, rfl, hi⟩, hhh⟩
  rw [hhh]
  clear hhh
  simp (disch := first | assumption | omega) only [go_sem, ↓reduceIte, Nat.reduceEqDiff, reduceCtorEq, Nat.reduceAdd, Nat.reduceLeDiff, Nat.reduceLT, reduceIte, Int.reduceBEq, Int.reduceBNe, Int.reduceLT, Int.reduceLE, Int.reduceAdd, Int.reduceSub, Int.reduceMul, Int.reduceNeg, Int.reduceEq, Int.reduceNe, Nat.reduceMul, Nat.reduceSub]
  subst hQ
  simp (disch := first | assumption | omega) only [R.slices_ContainsFunc_int, go_sem, ↓reduceIte, Nat.reduceEqDiff, reduceCtorEq, Nat.reduceAdd, Nat.reduceLeDiff, Nat.reduceLT, reduceIte, Int.reduceBEq, Int.reduceBNe, Int.reduceLT, Int.reduceLE, Int.reduceAdd, Int.reduceSub, Int.reduceMul, Int.reduceNeg, Int.reduceEq, Int.reduceNe, Nat.reduceMul, Nat.reduceSub]
  cases ha : l.any p
  · rw [decide_eq_false (fun h => by rw [← List.any_eq_true] at hi; rw [hi.1 h] at ha; cases ha)]
  · rw [decide_eq_true (hi.2 (List.any_eq_true.1 ha))]
theorem EqualInt_ok (o1 o2 : Own) (a b : List Int) (h1 : Rdo o1) (h2 : Rdo o2) (hl : a.length < 4611686018427387904) (hl2 : b.length < 4611686018427387904) (h : List HObj) :
    ACalls Try.prog F.slices_Equal_int [.lst o1 (ints .i64 a), .lst o2 (ints .i64 b)] h (fun r h' => r = .bool (decide (a = b)) ∧ h' = h) := by
  refine ACalls.of_aw Try.func94 K.slices_Equal_int (by simp [Try.f94]) ?_
  generalize hQ : retQ R.slices_Equal_int _ = Q
  simp (disch := first | assumption | omega) only [C.slices_Equal_int, go_sem, ↓reduceIte, Nat.reduceEqDiff, reduceCtorEq, Nat.reduceAdd, Nat.reduceLeDiff, Nat.reduceLT, reduceIte, Int.reduceBEq, Int.reduceBNe, Int.reduceLT, Int.reduceLE, Int.reduceAdd, Int.reduceSub, Int.reduceMul, Int.reduceNeg, Int.reduceEq, Int.reduceNe, Nat.reduceMul, Nat.reduceSub]
  refine condG_ifn (fun hne => ?_) fun heq => ?_
  · simp (disch := first | assumption | omega) only [go_sem, ↓reduceIte, Nat.reduceEqDiff, reduceCtorEq, Nat.reduceAdd, Nat.reduceLeDiff, Nat.reduceLT, reduceIte, Int.reduceBEq, Int.reduceBNe, Int.reduceLT, Int.reduceLE, Int.reduceAdd, Int.reduceSub, Int.reduceMul, Int.reduceNeg, Int.reduceEq, Int.reduceNe, Nat.reduceMul, Nat.reduceSub]
    subst hQ
    simp (disch := first | assumption | omega) only [R.slices_Equal_int, go_sem, ↓reduceIte, Nat.reduceEqDiff, reduceCtorEq, Nat.reduceAdd, Nat.reduceLeDiff, Nat.reduceLT, reduceIte, Int.reduceBEq, Int.reduceBNe, Int.reduceLT, Int.reduceLE, Int.reduceAdd, Int.reduceSub, Int.reduceMul, Int.reduceNeg, Int.reduceEq, Int.reduceNe, Nat.reduceMul, Nat.reduceSub]
    have : a ≠ b := by rintro rfl; omega
    simp [this]
  · have he : a.length = b.length := by omega
    simp (disch := first | assumption | omega) only [go_sem, ↓reduceIte, Nat.reduceEqDiff, reduceCtorEq, Nat.reduceAdd, Nat.reduceLeDiff, Nat.reduceLT, reduceIte, Int.reduceBEq, Int.reduceBNe, Int.reduceLT, Int.reduceLE, Int.reduceAdd, Int.reduceSub, Int.reduceMul, Int.reduceNeg, Int.reduceEq, Int.reduceNe, Nat.reduceMul, Nat.reduceSub]
    refine aw_count (fun d S => ∃ (i : Nat), i + d = a.length ∧ S.env 13 = .int .i64 i ∧ S.env 12 = .int .i64 a.length ∧ S.env 0 = .lst o1 (ints .i64 a) ∧ S.env 1 = .lst o2 (ints .i64 b) ∧ a.take i = b.take i ∧ S.heap = h) (n := a.length) ⟨0, by simp [go_sem]⟩ ?_
    rintro d S ⟨i, hi, e13, e12, e0, e1, ht, eh⟩
    simp (disch := first | assumption | omega) only [e13, e12, e0, e1, eh, go_sem, ↓reduceIte, Nat.reduceEqDiff, reduceCtorEq, Nat.reduceAdd, Nat.reduceLeDiff, Nat.reduceLT, reduceIte, Int.reduceBEq, Int.reduceBNe, Int.reduceLT, Int.reduceLE, Int.reduceAdd, Int.reduceSub, Int.reduceMul, Int.reduceNeg, Int.reduceEq, Int.reduceNe, Nat.reduceMul, Nat.reduceSub]
    refine condG_if (fun hlt => ?_) fun hge => ?_
    · have hlt1 : i < a.length := by omega
      have hlt2 : i < b.length := by omega
      have hat1 := at_int hlt1
      have hat2 := at_int hlt2
      simp (disch := first | assumption | omega) only [e13, e12, e0, e1, eh, hat1, hat2, hlt1, hlt2, go_sem, ↓reduceIte, Nat.reduceEqDiff, reduceCtorEq, Nat.reduceAdd, Nat.reduceLeDiff, Nat.reduceLT, reduceIte, Int.reduceBEq, Int.reduceBNe, Int.reduceLT, Int.reduceLE, Int.reduceAdd, Int.reduceSub, Int.reduceMul, Int.reduceNeg, Int.reduceEq, Int.reduceNe, Nat.reduceMul, Nat.reduceSub]
      refine condG_ifn (fun hb => ?_) fun hb => ?_
      · simp (disch := first | assumption | omega) only [e13, e12, e0, e1, eh, go_sem, ↓reduceIte, Nat.reduceEqDiff, reduceCtorEq, Nat.reduceAdd, Nat.reduceLeDiff, Nat.reduceLT, reduceIte, Int.reduceBEq, Int.reduceBNe, Int.reduceLT, Int.reduceLE, Int.reduceAdd, Int.reduceSub, Int.reduceMul, Int.reduceNeg, Int.reduceEq, Int.reduceNe, Nat.reduceMul, Nat.reduceSub]
        subst hQ
        simp (disch := first | assumption | omega) only [R.slices_Equal_int, e13, e12, e0, e1, eh, go_sem, ↓reduceIte, Nat.reduceEqDiff, reduceCtorEq, Nat.reduceAdd, Nat.reduceLeDiff, Nat.reduceLT, reduceIte, Int.reduceBEq, Int.reduceBNe, Int.reduceLT, Int.reduceLE, Int.reduceAdd, Int.reduceSub, Int.reduceMul, Int.reduceNeg, Int.reduceEq, Int.reduceNe, Nat.reduceMul, Nat.reduceSub]
        have : a ≠ b := by rintro rfl; exact hb rfl
        simp [this, eh]
      · simp (disch := first | assumption | omega) only [e13, e12, e0, e1, eh, go_sem, ↓reduceIte, Nat.reduceEqDiff, reduceCtorEq, Nat.reduceAdd, Nat.reduceLeDiff, Nat.reduceLT, reduceIte, Int.reduceBEq, Int.reduceBNe, Int.reduceLT, Int.reduceLE, Int.reduceAdd, Int.reduceSub, Int.reduceMul, Int.reduceNeg, Int.reduceEq, Int.reduceNe, Nat.reduceMul, Nat.reduceSub]
        refine ⟨d - 1, by omega, i + 1, by omega, by simp, ?_⟩
        rw [List.take_add_one, List.take_add_one, ht, List.getElem?_eq_getElem hlt1, List.getElem?_eq_getElem hlt2, hb]
    · obtain rfl : i = a.length := by omega
      simp (disch := first | assumption | omega) only [e13, e12, e0, e1, eh, go_sem, ↓reduceIte, Nat.reduceEqDiff, reduceCtorEq, Nat.reduceAdd, Nat.reduceLeDiff, Nat.reduceLT, reduceIte, Int.reduceBEq, Int.reduceBNe, Int.reduceLT, Int.reduceLE, Int.reduceAdd, Int.reduceSub, Int.reduceMul, Int.reduceNeg, Int.reduceEq, Int.reduceNe, Nat.reduceMul, Nat.reduceSub]
      subst hQ
      simp (disch := first | assumption | omega) only [R.slices_Equal_int, go_sem, ↓reduceIte, Nat.reduceEqDiff, reduceCtorEq, Nat.reduceAdd, Nat.reduceLeDiff, Nat.reduceLT, reduceIte, Int.reduceBEq, Int.reduceBNe, Int.reduceLT, Int.reduceLE, Int.reduceAdd, Int.reduceSub, Int.reduceMul, Int.reduceNeg, Int.reduceEq, Int.reduceNe, Nat.reduceMul, Nat.reduceSub]
      rw [List.take_length, he, List.take_length] at ht
      simp [ht, eh]
theorem CloneIntU_ok (o : Own) (l : List Int) (ho : Rdn o l) (hl : l.length ≤ 8796093022208) (h : List HObj) :
    ACalls Try.prog F.slices_Clone_int [.lst o (ints .i64 l)] h (fun r h' => (r = .lst .nil [] ∧ l = [] ∨ ∃ c, r = .lst (.uniq 1 c) (ints .i64 l) ∧ l.length ≤ c) ∧ h' = h) := by
  have h1 := ho.1
  refine ACalls.gcn (ACalls.of_aw Try.func177 K.slices_Clone_int (by simp [Try.f177]) ?_)
  generalize hQ : retQ R.slices_Clone_int _ = Q
  simp (disch := first | assumption | omega) only [C.slices_Clone_int, go_sem, ↓reduceIte, Nat.reduceEqDiff, reduceCtorEq, Nat.reduceAdd, Nat.reduceLeDiff, Nat.reduceLT, reduceIte, Int.reduceBEq, Int.reduceBNe, Int.reduceLT, Int.reduceLE, Int.reduceAdd, Int.reduceSub, Int.reduceMul, Int.reduceNeg, Int.reduceEq, Int.reduceNe, Nat.reduceMul, Nat.reduceSub]
  refine aops_isnilR (o := o) (xs := ints .i64 l) (by simp (disch := first | assumption | omega) only [go_sem, ↓reduceIte, Nat.reduceEqDiff, reduceCtorEq, Nat.reduceAdd, Nat.reduceLeDiff, Nat.reduceLT, reduceIte, Int.reduceBEq, Int.reduceBNe, Int.reduceLT, Int.reduceLE, Int.reduceAdd, Int.reduceSub, Int.reduceMul, Int.reduceNeg, Int.reduceEq, Int.reduceNe, Nat.reduceMul, Nat.reduceSub]) h1 (fun e => by rw [ho.2 e]; rfl) fun b hb => ?_
  cases b
  · simp (disch := first | assumption | omega) only [aops_hop, hstep, srcH, srcW, ints_flat, ints_rdc, go_sem, ↓reduceIte, Nat.reduceEqDiff, reduceCtorEq, Nat.reduceAdd, Nat.reduceLeDiff, Nat.reduceLT, reduceIte, Int.reduceBEq, Int.reduceBNe, Int.reduceLT, Int.reduceLE, Int.reduceAdd, Int.reduceSub, Int.reduceMul, Int.reduceNeg, Int.reduceEq, Int.reduceNe, Nat.reduceMul, Nat.reduceSub]
    refine ⟨ints_width l, by omega, by omega, fun h0 => ?_, fun _ _ => by omega, fun h0 _ cap hc _ => ?_⟩
    · have : l = [] := List.eq_nil_of_length_eq_zero h0
      subst this
      refine own_empty (id := 0) (off := 0) (cap := 0) (by simp (disch := first | assumption | omega) only [go_sem, ↓reduceIte, Nat.reduceEqDiff, reduceCtorEq, Nat.reduceAdd, Nat.reduceLeDiff, Nat.reduceLT, reduceIte, Int.reduceBEq, Int.reduceBNe, Int.reduceLT, Int.reduceLE, Int.reduceAdd, Int.reduceSub, Int.reduceMul, Int.reduceNeg, Int.reduceEq, Int.reduceNe, Nat.reduceMul, Nat.reduceSub]) (fun h => absurd rfl h) (fun _ => rfl) (by omega) ?_
      rintro hp hhp
      simp (disch := first | assumption | omega) only [go_sem, ↓reduceIte, Nat.reduceEqDiff, reduceCtorEq, Nat.reduceAdd, Nat.reduceLeDiff, Nat.reduceLT, reduceIte, Int.reduceBEq, Int.reduceBNe, Int.reduceLT, Int.reduceLE, Int.reduceAdd, Int.reduceSub, Int.reduceMul, Int.reduceNeg, Int.reduceEq, Int.reduceNe, Nat.reduceMul, Nat.reduceSub]
      subst hQ
      simp (disch := first | assumption | omega) only [R.slices_Clone_int, go_sem, ↓reduceIte, Nat.reduceEqDiff, reduceCtorEq, Nat.reduceAdd, Nat.reduceLeDiff, Nat.reduceLT, reduceIte, Int.reduceBEq, Int.reduceBNe, Int.reduceLT, Int.reduceLE, Int.reduceAdd, Int.reduceSub, Int.reduceMul, Int.reduceNeg, Int.reduceEq, Int.reduceNe, Nat.reduceMul, Nat.reduceSub]
      rcases hhp with ⟨rfl, _⟩ | ⟨_, h9⟩
      · exact ⟨[], by simp (disch := first | assumption | omega) only [go_sem, ↓reduceIte, Nat.reduceEqDiff, reduceCtorEq, Nat.reduceAdd, Nat.reduceLeDiff, Nat.reduceLT, reduceIte, Int.reduceBEq, Int.reduceBNe, Int.reduceLT, Int.reduceLE, Int.reduceAdd, Int.reduceSub, Int.reduceMul, Int.reduceNeg, Int.reduceEq, Int.reduceNe, Nat.reduceMul, Nat.reduceSub], by simp [AVal.ids, idsL], .inr ⟨0, rfl, Nat.le_refl _⟩⟩
      · exact absurd rfl h9
    · simp (disch := first | assumption | omega) only [ints_flat, ints_rdc, go_sem, ↓reduceIte, Nat.reduceEqDiff, reduceCtorEq, Nat.reduceAdd, Nat.reduceLeDiff, Nat.reduceLT, reduceIte, Int.reduceBEq, Int.reduceBNe, Int.reduceLT, Int.reduceLE, Int.reduceAdd, Int.reduceSub, Int.reduceMul, Int.reduceNeg, Int.reduceEq, Int.reduceNe, Nat.reduceMul, Nat.reduceSub]
      refine own_flat (id := h.length) (cap := cap) (xs := ints .i64 l) (rest := List.replicate ((cap - l.length) * 1) .junk) (by simp (disch := first | assumption | omega) only [ints_length, go_sem, ↓reduceIte, Nat.reduceEqDiff, reduceCtorEq, Nat.reduceAdd, Nat.reduceLeDiff, Nat.reduceLT, reduceIte, Int.reduceBEq, Int.reduceBNe, Int.reduceLT, Int.reduceLE, Int.reduceAdd, Int.reduceSub, Int.reduceMul, Int.reduceNeg, Int.reduceEq, Int.reduceNe, Nat.reduceMul, Nat.reduceSub]) (by simp (disch := first | assumption | omega) only [ints_flat, ints_length, go_sem, ↓reduceIte, Nat.reduceEqDiff, reduceCtorEq, Nat.reduceAdd, Nat.reduceLeDiff, Nat.reduceLT, reduceIte, Int.reduceBEq, Int.reduceBNe, Int.reduceLT, Int.reduceLE, Int.reduceAdd, Int.reduceSub, Int.reduceMul, Int.reduceNeg, Int.reduceEq, Int.reduceNe, Nat.reduceMul, Nat.reduceSub]) (by simp (disch := first | assumption | omega) only [ints_length, go_sem, ↓reduceIte, Nat.reduceEqDiff, reduceCtorEq, Nat.reduceAdd, Nat.reduceLeDiff, Nat.reduceLT, reduceIte, Int.reduceBEq, Int.reduceBNe, Int.reduceLT, Int.reduceLE, Int.reduceAdd, Int.reduceSub, Int.reduceMul, Int.reduceNeg, Int.reduceEq, Int.reduceNe, Nat.reduceMul, Nat.reduceSub]; omega) (by simp [ints_length]) (by omega) (ints_width l) (fun e => by cases e) (fun _ x hx => by obtain ⟨n, _, rfl⟩ := List.mem_map.1 hx; rfl) (fun _ => rfl) (fun x hx c hc => by obtain ⟨n, _, rfl⟩ := List.mem_map.1 hx; simp only [AVal.cells, List.mem_singleton] at hc; subst hc; exact ⟨rfl, rfl⟩) ?_
      rintro hp hhp
      simp (disch := first | assumption | omega) only [go_sem, ↓reduceIte, Nat.reduceEqDiff, reduceCtorEq, Nat.reduceAdd, Nat.reduceLeDiff, Nat.reduceLT, reduceIte, Int.reduceBEq, Int.reduceBNe, Int.reduceLT, Int.reduceLE, Int.reduceAdd, Int.reduceSub, Int.reduceMul, Int.reduceNeg, Int.reduceEq, Int.reduceNe, Nat.reduceMul, Nat.reduceSub]
      subst hQ
      simp (disch := first | assumption | omega) only [R.slices_Clone_int, go_sem, ↓reduceIte, Nat.reduceEqDiff, reduceCtorEq, Nat.reduceAdd, Nat.reduceLeDiff, Nat.reduceLT, reduceIte, Int.reduceBEq, Int.reduceBNe, Int.reduceLT, Int.reduceLE, Int.reduceAdd, Int.reduceSub, Int.reduceMul, Int.reduceNeg, Int.reduceEq, Int.reduceNe, Nat.reduceMul, Nat.reduceSub]
      rcases hhp with ⟨rfl, _⟩ | ⟨rfl, _⟩
      · exact ⟨_, by simp (disch := first | assumption | omega) only [go_sem, ↓reduceIte, Nat.reduceEqDiff, reduceCtorEq, Nat.reduceAdd, Nat.reduceLeDiff, Nat.reduceLT, reduceIte, Int.reduceBEq, Int.reduceBNe, Int.reduceLT, Int.reduceLE, Int.reduceAdd, Int.reduceSub, Int.reduceMul, Int.reduceNeg, Int.reduceEq, Int.reduceNe, Nat.reduceMul, Nat.reduceSub]; rfl, by simp [AVal.ids, ints_ids], .inr ⟨cap, rfl, hc⟩⟩
      · exact ⟨_, by simp (disch := first | assumption | omega) only [go_sem, ↓reduceIte, Nat.reduceEqDiff, reduceCtorEq, Nat.reduceAdd, Nat.reduceLeDiff, Nat.reduceLT, reduceIte, Int.reduceBEq, Int.reduceBNe, Int.reduceLT, Int.reduceLE, Int.reduceAdd, Int.reduceSub, Int.reduceMul, Int.reduceNeg, Int.reduceEq, Int.reduceNe, Nat.reduceMul, Nat.reduceSub]; rfl, by simp [AVal.ids, ints_ids], .inr ⟨cap, rfl, hc⟩⟩
  · have : l = [] := by
      refine Classical.byContradiction fun h0 => ?_
      have := hb (by simpa [ints] using h0)
      cases this
    subst this
    simp (disch := first | assumption | omega) only [go_sem, ↓reduceIte, Nat.reduceEqDiff, reduceCtorEq, Nat.reduceAdd, Nat.reduceLeDiff, Nat.reduceLT, reduceIte, Int.reduceBEq, Int.reduceBNe, Int.reduceLT, Int.reduceLE, Int.reduceAdd, Int.reduceSub, Int.reduceMul, Int.reduceNeg, Int.reduceEq, Int.reduceNe, Nat.reduceMul, Nat.reduceSub]
    subst hQ
    simp (disch := first | assumption | omega) only [R.slices_Clone_int, go_sem, ↓reduceIte, Nat.reduceEqDiff, reduceCtorEq, Nat.reduceAdd, Nat.reduceLeDiff, Nat.reduceLT, reduceIte, Int.reduceBEq, Int.reduceBNe, Int.reduceLT, Int.reduceLE, Int.reduceAdd, Int.reduceSub, Int.reduceMul, Int.reduceNeg, Int.reduceEq, Int.reduceNe, Nat.reduceMul, Nat.reduceSub]
    exact ⟨[], by simp, by simp [AVal.ids, idsL], by simp [ints]⟩
theorem CloneInt_ok (o : Own) (l : List Int) (ho : Rdn o l) (hl : l.length ≤ 8796093022208) (h : List HObj) :
    ACalls Try.prog F.slices_Clone_int [.lst o (ints .i64 l)] h (fun r h' => (∃ o', r = .lst o' (ints .i64 l) ∧ (o' = .nil ∧ l = [] ∨ o' = .app 1)) ∧ h' = h) :=
  ACalls.gr (ACalls.mono (CloneIntU_ok o l ho hl h) fun r h' ⟨e1, e2⟩ => by
    refine ⟨?_, e2⟩
    rcases e1 with ⟨rfl, rfl⟩ | ⟨c, rfl, _⟩
    · exact ⟨.nil, rfl, .inl ⟨rfl, rfl⟩⟩
    · exact ⟨.app 1, rfl, .inr rfl⟩)
end Go.Proofs.Ytpdajkbfemcdlaa
/- Contracts: graphs: check, what can be reached, what is in rings. -/
set_option linter.unusedSimpArgs false
set_option linter.unusedVariables false
set_option maxRecDepth 10000
namespace Go.Proofs.Ytpdajkbfemcdlaa
open Go.Ge
/-- A row of a graph. -/
def RowOk (r : List Int) (x : AVal) : Prop := ∃ q, Rdn q r ∧ x = .lst q (ints .i64 r)
def ni (l : List Nat) : List Int := l.map fun n : Nat => (n : Int)
def toI (g : Gr) : List (List Int) := g.map ni
theorem ni_length (l : List Nat) : (ni l).length = l.length := by simp [ni]
theorem ni_get {l : List Nat} {i : Nat} (h : i < (ni l).length) : (ni l)[i] = ((l[i]'(by simpa [ni] using h) : Nat) : Int) := by simp [ni]
theorem toI_length (g : Gr) : (toI g).length = g.length := by simp [toI]
theorem toI_get {g : Gr} {i : Nat} (h : i < (toI g).length) : (toI g)[i] = ni (nx g i) := by
  have : i < g.length := by simpa [toI] using h
  simp [toI, nx, List.getD_eq_getElem?_getD, this]
theorem ni_append (a b : List Nat) : ni (a ++ b) = ni a ++ ni b := by simp [ni]
/-- Fault of a graph. -/
def badI (n : Nat) (k : Int) : Bool := decide (k < 0) || decide ((n : Int) ≤ k)
def graphE (G : List (List Int)) : Int := if 64 < G.length then 2 else if (G.any fun r => r.any (badI G.length)) then 1 else 0
theorem Check_ring_ok (o : Own) (G : List (List Int)) (xs : List AVal) (ho : Rdo o) (hx : Each2 RowOk G xs) (hl : ∀ r ∈ G, r.length ≤ 1152921504606846976) (hn : G.length ≤ 1152921504606846976) (h : List HObj) :
    ACalls Try.prog F.ring_Check [.lst o xs] h (fun r h' => r = .int .i64 (graphE G) ∧ h' = h) := by
  have lx := hx.length
  refine ACalls.of_aw Try.func102 K.ring_Check (by simp [Try.f102]) ?_
  generalize hQ : retQ R.ring_Check _ = Q
  simp (disch := first | assumption | omega) only [C.ring_Check, go_sem, ↓reduceIte, Nat.reduceEqDiff, reduceCtorEq, Nat.reduceAdd, Nat.reduceLeDiff, Nat.reduceLT, reduceIte, Int.reduceBEq, Int.reduceBNe, Int.reduceLT, Int.reduceLE, Int.reduceAdd, Int.reduceSub, Int.reduceMul, Int.reduceNeg, Int.reduceEq, Int.reduceNe, Nat.reduceMul, Nat.reduceSub]
  by_cases h64 : (64 : Int) < xs.length
  · have : graphE G = 2 := by unfold graphE; rw [if_pos (by omega)]
    simp (disch := first | assumption | omega) only [h64, go_sem, ↓reduceIte, Nat.reduceEqDiff, reduceCtorEq, Nat.reduceAdd, Nat.reduceLeDiff, Nat.reduceLT, reduceIte, Int.reduceBEq, Int.reduceBNe, Int.reduceLT, Int.reduceLE, Int.reduceAdd, Int.reduceSub, Int.reduceMul, Int.reduceNeg, Int.reduceEq, Int.reduceNe, Nat.reduceMul, Nat.reduceSub]
    subst hQ
    simp (disch := first | assumption | omega) only [R.ring_Check, this, go_sem, ↓reduceIte, Nat.reduceEqDiff, reduceCtorEq, Nat.reduceAdd, Nat.reduceLeDiff, Nat.reduceLT, reduceIte, Int.reduceBEq, Int.reduceBNe, Int.reduceLT, Int.reduceLE, Int.reduceAdd, Int.reduceSub, Int.reduceMul, Int.reduceNeg, Int.reduceEq, Int.reduceNe, Nat.reduceMul, Nat.reduceSub]
  · have h64' : ¬64 < G.length := by omega
    simp (disch := first | assumption | omega) only [h64, go_sem, ↓reduceIte, Nat.reduceEqDiff, reduceCtorEq, Nat.reduceAdd, Nat.reduceLeDiff, Nat.reduceLT, reduceIte, Int.reduceBEq, Int.reduceBNe, Int.reduceLT, Int.reduceLE, Int.reduceAdd, Int.reduceSub, Int.reduceMul, Int.reduceNeg, Int.reduceEq, Int.reduceNe, Nat.reduceMul, Nat.reduceSub]
    refine aw_count (fun d S => ∃ (i : Nat), i + d = G.length ∧ S.env 12 = .int .i64 i ∧ S.env 11 = .int .i64 G.length ∧ S.env 10 = .lst o xs ∧ S.env 0 = .lst o xs ∧ (G.take i).any (fun r => r.any (badI G.length)) = false ∧ S.heap = h) (n := G.length)
      ⟨0, by omega, by simp (disch := first | assumption | omega) only [go_sem, ↓reduceIte, Nat.reduceEqDiff, reduceCtorEq, Nat.reduceAdd, Nat.reduceLeDiff, Nat.reduceLT, reduceIte, Int.reduceBEq, Int.reduceBNe, Int.reduceLT, Int.reduceLE, Int.reduceAdd, Int.reduceSub, Int.reduceMul, Int.reduceNeg, Int.reduceEq, Int.reduceNe, Nat.reduceMul, Nat.reduceSub], by simp (disch := first | assumption | omega) only [lx, go_sem, ↓reduceIte, Nat.reduceEqDiff, reduceCtorEq, Nat.reduceAdd, Nat.reduceLeDiff, Nat.reduceLT, reduceIte, Int.reduceBEq, Int.reduceBNe, Int.reduceLT, Int.reduceLE, Int.reduceAdd, Int.reduceSub, Int.reduceMul, Int.reduceNeg, Int.reduceEq, Int.reduceNe, Nat.reduceMul, Nat.reduceSub], by simp (disch := first | assumption | omega) only [go_sem, ↓reduceIte, Nat.reduceEqDiff, reduceCtorEq, Nat.reduceAdd, Nat.reduceLeDiff, Nat.reduceLT, reduceIte, Int.reduceBEq, Int.reduceBNe, Int.reduceLT, Int.reduceLE, Int.reduceAdd, Int.reduceSub, Int.reduceMul, Int.reduceNeg, Int.reduceEq, Int.reduceNe, Nat.reduceMul, Nat.reduceSub], by simp (disch := first | assumption | omega) only [go_sem, ↓reduceIte, Nat.reduceEqDiff, reduceCtorEq, Nat.reduceAdd, Nat.reduceLeDiff, Nat.reduceLT, reduceIte, Int.reduceBEq, Int.reduceBNe, Int.reduceLT, Int.reduceLE, Int.reduceAdd, Int.reduceSub, Int.reduceMul, Int.reduceNeg, Int.reduceEq, Int.reduceNe, Nat.reduceMul, Nat.reduceSub], rfl, by simp (disch := first | assumption | omega) only [go_sem, ↓reduceIte, Nat.reduceEqDiff, reduceCtorEq, Nat.reduceAdd, Nat.reduceLeDiff, Nat.reduceLT, reduceIte, Int.reduceBEq, Int.reduceBNe, Int.reduceLT, Int.reduceLE, Int.reduceAdd, Int.reduceSub, Int.reduceMul, Int.reduceNeg, Int.reduceEq, Int.reduceNe, Nat.reduceMul, Nat.reduceSub]⟩ ?_
    rintro d S ⟨i, hi, e12, e11, e10, e0, hg, eh⟩
    by_cases hlt : (i : Int) < G.length
    · have hi1 : i < G.length := by omega
      have hi2 : (i : Int) < xs.length := by omega
      obtain ⟨q, hq, hxi⟩ := hx.at i hi1
      have hq1 := hq.1
      have hrl := hl _ (List.getElem_mem hi1)
      simp (disch := first | assumption | omega) only [e12, e11, e10, e0, eh, hlt, hi2, hxi, go_sem, ↓reduceIte, Nat.reduceEqDiff, reduceCtorEq, Nat.reduceAdd, Nat.reduceLeDiff, Nat.reduceLT, reduceIte, Int.reduceBEq, Int.reduceBNe, Int.reduceLT, Int.reduceLE, Int.reduceAdd, Int.reduceSub, Int.reduceMul, Int.reduceNeg, Int.reduceEq, Int.reduceNe, Nat.reduceMul, Nat.reduceSub]
      refine aw_count (fun d' S => ∃ (j : Nat), j + d' = G[i].length ∧ S.env 18 = .int .i64 j ∧ S.env 17 = .int .i64 G[i].length ∧ S.env 16 = .lst q (ints .i64 G[i]) ∧ S.env 12 = .int .i64 i ∧ S.env 11 = .int .i64 G.length ∧ S.env 10 = .lst o xs ∧ S.env 0 = .lst o xs ∧ (G[i].take j).any (badI G.length) = false ∧ S.heap = h) (n := G[i].length)
        ⟨0, by omega, by simp (disch := first | assumption | omega) only [go_sem, ↓reduceIte, Nat.reduceEqDiff, reduceCtorEq, Nat.reduceAdd, Nat.reduceLeDiff, Nat.reduceLT, reduceIte, Int.reduceBEq, Int.reduceBNe, Int.reduceLT, Int.reduceLE, Int.reduceAdd, Int.reduceSub, Int.reduceMul, Int.reduceNeg, Int.reduceEq, Int.reduceNe, Nat.reduceMul, Nat.reduceSub], by simp (disch := first | assumption | omega) only [go_sem, ↓reduceIte, Nat.reduceEqDiff, reduceCtorEq, Nat.reduceAdd, Nat.reduceLeDiff, Nat.reduceLT, reduceIte, Int.reduceBEq, Int.reduceBNe, Int.reduceLT, Int.reduceLE, Int.reduceAdd, Int.reduceSub, Int.reduceMul, Int.reduceNeg, Int.reduceEq, Int.reduceNe, Nat.reduceMul, Nat.reduceSub], by simp (disch := first | assumption | omega) only [go_sem, ↓reduceIte, Nat.reduceEqDiff, reduceCtorEq, Nat.reduceAdd, Nat.reduceLeDiff, Nat.reduceLT, reduceIte, Int.reduceBEq, Int.reduceBNe, Int.reduceLT, Int.reduceLE, Int.reduceAdd, Int.reduceSub, Int.reduceMul, Int.reduceNeg, Int.reduceEq, Int.reduceNe, Nat.reduceMul, Nat.reduceSub], by simp (disch := first | assumption | omega) only [e12, e11, e10, e0, eh, go_sem, ↓reduceIte, Nat.reduceEqDiff, reduceCtorEq, Nat.reduceAdd, Nat.reduceLeDiff, Nat.reduceLT, reduceIte, Int.reduceBEq, Int.reduceBNe, Int.reduceLT, Int.reduceLE, Int.reduceAdd, Int.reduceSub, Int.reduceMul, Int.reduceNeg, Int.reduceEq, Int.reduceNe, Nat.reduceMul, Nat.reduceSub], by simp (disch := first | assumption | omega) only [e12, e11, e10, e0, eh, go_sem, ↓reduceIte, Nat.reduceEqDiff, reduceCtorEq, Nat.reduceAdd, Nat.reduceLeDiff, Nat.reduceLT, reduceIte, Int.reduceBEq, Int.reduceBNe, Int.reduceLT, Int.reduceLE, Int.reduceAdd, Int.reduceSub, Int.reduceMul, Int.reduceNeg, Int.reduceEq, Int.reduceNe, Nat.reduceMul, Nat.reduceSub], by simp (disch := first | assumption | omega) only [e12, e11, e10, e0, eh, go_sem, ↓reduceIte, Nat.reduceEqDiff, reduceCtorEq, Nat.reduceAdd, Nat.reduceLeDiff, Nat.reduceLT, reduceIte, Int.reduceBEq, Int.reduceBNe, Int.reduceLT, Int.reduceLE, Int.reduceAdd, Int.reduceSub, Int.reduceMul, Int.reduceNeg, Int.reduceEq, Int.reduceNe, Nat.reduceMul, Nat.reduceSub], by simp (disch := first | assumption | omega) only [e12, e11, e10, e0, eh, go_sem, ↓reduceIte, Nat.reduceEqDiff, reduceCtorEq, Nat.reduceAdd, Nat.reduceLeDiff, Nat.reduceLT, reduceIte, Int.reduceBEq, Int.reduceBNe, Int.reduceLT, Int.reduceLE, Int.reduceAdd, Int.reduceSub, Int.reduceMul, Int.reduceNeg, Int.reduceEq, Int.reduceNe, Nat.reduceMul, Nat.reduceSub], rfl, by simp (disch := first | assumption | omega) only [e12, e11, e10, e0, eh, go_sem, ↓reduceIte, Nat.reduceEqDiff, reduceCtorEq, Nat.reduceAdd, Nat.reduceLeDiff, Nat.reduceLT, reduceIte, Int.reduceBEq, Int.reduceBNe, Int.reduceLT, Int.reduceLE, Int.reduceAdd, Int.reduceSub, Int.reduceMul, Int.reduceNeg, Int.reduceEq, Int.reduceNe, Nat.reduceMul, Nat.reduceSub]⟩ ?_
      clear e12 e11 e10 e0 eh
      rintro d' S ⟨j, hj, e18, e17, e16, e12, e11, e10, e0, hr, eh⟩
      by_cases hlj : (j : Int) < G[i].length
      · have hj1 : j < G[i].length := by omega
        have hat := at_int hj1
        by_cases hb0 : G[i][j] < 0
        · have : graphE G = 1 := by
            unfold graphE
            rw [if_neg h64', if_pos]
            rw [List.any_eq_true]
            refine ⟨_, List.getElem_mem hi1, ?_⟩
            rw [List.any_eq_true]
            exact ⟨_, List.getElem_mem hj1, by simp [badI, hb0]⟩
          simp (disch := first | assumption | omega) only [e18, e17, e16, e12, e11, e10, e0, eh, hlj, hat, hb0, go_sem, ↓reduceIte, Nat.reduceEqDiff, reduceCtorEq, Nat.reduceAdd, Nat.reduceLeDiff, Nat.reduceLT, reduceIte, Int.reduceBEq, Int.reduceBNe, Int.reduceLT, Int.reduceLE, Int.reduceAdd, Int.reduceSub, Int.reduceMul, Int.reduceNeg, Int.reduceEq, Int.reduceNe, Nat.reduceMul, Nat.reduceSub]
          subst hQ
          simp (disch := first | assumption | omega) only [R.ring_Check, e18, e17, e16, e12, e11, e10, e0, eh, this, go_sem, ↓reduceIte, Nat.reduceEqDiff, reduceCtorEq, Nat.reduceAdd, Nat.reduceLeDiff, Nat.reduceLT, reduceIte, Int.reduceBEq, Int.reduceBNe, Int.reduceLT, Int.reduceLE, Int.reduceAdd, Int.reduceSub, Int.reduceMul, Int.reduceNeg, Int.reduceEq, Int.reduceNe, Nat.reduceMul, Nat.reduceSub]
        by_cases hb1 : (xs.length : Int) ≤ G[i][j]
        · have : graphE G = 1 := by
            unfold graphE
            rw [if_neg h64', if_pos]
            rw [List.any_eq_true]
            refine ⟨_, List.getElem_mem hi1, ?_⟩
            rw [List.any_eq_true]
            refine ⟨_, List.getElem_mem hj1, ?_⟩
            have : (G.length : Int) ≤ G[i][j] := by omega
            simp [badI, this]
          simp (disch := first | assumption | omega) only [e18, e17, e16, e12, e11, e10, e0, eh, hlj, hat, hb0, hb1, go_sem, ↓reduceIte, Nat.reduceEqDiff, reduceCtorEq, Nat.reduceAdd, Nat.reduceLeDiff, Nat.reduceLT, reduceIte, Int.reduceBEq, Int.reduceBNe, Int.reduceLT, Int.reduceLE, Int.reduceAdd, Int.reduceSub, Int.reduceMul, Int.reduceNeg, Int.reduceEq, Int.reduceNe, Nat.reduceMul, Nat.reduceSub]
          subst hQ
          simp (disch := first | assumption | omega) only [R.ring_Check, e18, e17, e16, e12, e11, e10, e0, eh, this, go_sem, ↓reduceIte, Nat.reduceEqDiff, reduceCtorEq, Nat.reduceAdd, Nat.reduceLeDiff, Nat.reduceLT, reduceIte, Int.reduceBEq, Int.reduceBNe, Int.reduceLT, Int.reduceLE, Int.reduceAdd, Int.reduceSub, Int.reduceMul, Int.reduceNeg, Int.reduceEq, Int.reduceNe, Nat.reduceMul, Nat.reduceSub]
        · simp (disch := first | assumption | omega) only [e18, e17, e16, e12, e11, e10, e0, eh, hlj, hat, hb0, hb1, go_sem, ↓reduceIte, Nat.reduceEqDiff, reduceCtorEq, Nat.reduceAdd, Nat.reduceLeDiff, Nat.reduceLT, reduceIte, Int.reduceBEq, Int.reduceBNe, Int.reduceLT, Int.reduceLE, Int.reduceAdd, Int.reduceSub, Int.reduceMul, Int.reduceNeg, Int.reduceEq, Int.reduceNe, Nat.reduceMul, Nat.reduceSub]
          refine ⟨d' - 1, by omega, j + 1, by omega, by simp, ?_⟩
          rw [List.take_add_one, List.getElem?_eq_getElem hj1]
          have : ¬(G.length : Int) ≤ G[i][j] := by omega
          simp only [Option.toList_some, List.any_append, hr, List.any_cons, List.any_nil, badI, decide_eq_false hb0, decide_eq_false this, Bool.or_self]
      · obtain rfl : j = G[i].length := by omega
        rw [List.take_length] at hr
        simp (disch := first | assumption | omega) only [e18, e17, e16, e12, e11, e10, e0, eh, hlj, go_sem, ↓reduceIte, Nat.reduceEqDiff, reduceCtorEq, Nat.reduceAdd, Nat.reduceLeDiff, Nat.reduceLT, reduceIte, Int.reduceBEq, Int.reduceBNe, Int.reduceLT, Int.reduceLE, Int.reduceAdd, Int.reduceSub, Int.reduceMul, Int.reduceNeg, Int.reduceEq, Int.reduceNe, Nat.reduceMul, Nat.reduceSub]
        refine ⟨d - 1, by omega, i + 1, by omega, by simp, ?_⟩
        rw [List.take_add_one, List.getElem?_eq_getElem hi1]
        simp only [Option.toList_some, List.any_append, hg, List.any_cons, List.any_nil, hr, Bool.or_self]
    · obtain rfl : i = G.length := by omega
      rw [List.take_length] at hg
      have : graphE G = 0 := by unfold graphE; rw [if_neg h64', hg]; rfl
      simp (disch := first | assumption | omega) only [e12, e11, e10, e0, eh, hlt, go_sem, ↓reduceIte, Nat.reduceEqDiff, reduceCtorEq, Nat.reduceAdd, Nat.reduceLeDiff, Nat.reduceLT, reduceIte, Int.reduceBEq, Int.reduceBNe, Int.reduceLT, Int.reduceLE, Int.reduceAdd, Int.reduceSub, Int.reduceMul, Int.reduceNeg, Int.reduceEq, Int.reduceNe, Nat.reduceMul, Nat.reduceSub]
      subst hQ
      simp (disch := first | assumption | omega) only [R.ring_Check, e12, e11, e10, e0, eh, this, go_sem, ↓reduceIte, Nat.reduceEqDiff, reduceCtorEq, Nat.reduceAdd, Nat.reduceLeDiff, Nat.reduceLT, reduceIte, Int.reduceBEq, Int.reduceBNe, Int.reduceLT, Int.reduceLE, Int.reduceAdd, Int.reduceSub, Int.reduceMul, Int.reduceNeg, Int.reduceEq, Int.reduceNe, Nat.reduceMul, Nat.reduceSub]
def bls (s : List Bool) : List AVal := s.map AVal.bool
theorem bls_length (s : List Bool) : (bls s).length = s.length := by simp [bls]
theorem bls_getD {s : List Bool} {k : Nat} (h : k < s.length) : (bls s).getD k .junk = .bool (s.getD k false) := by
  simp [bls, List.getD_eq_getElem?_getD, h]
theorem bls_set {s : List Bool} {k : Nat} (h : k < s.length) (b : Bool) : fillV (bls s) k [.bool b] = bls (s.set k b) := by
  simp only [fillV, bls, List.length_singleton]
  rw [← List.map_take, ← List.map_drop, List.set_eq_take_append_cons_drop, if_pos h]
  simp
theorem bls_flat (s : List Bool) : (bls s).flatMap AVal.cells = bls s := by
  induction s with
  | nil => rfl
  | cons b s ih => simp only [bls, List.map_cons, List.flatMap_cons] at ih ⊢; rw [ih]; rfl
theorem bls_w (s : List Bool) : ∀ x ∈ bls s, x.width = 1 ∧ x.cells.all flC = true := by
  intro x hx; obtain ⟨b, _, rfl⟩ := List.mem_map.1 hx; exact ⟨rfl, rfl⟩
theorem at_bls {s : List Bool} {k : Nat} (h : k < s.length) : at_ (bls s) (k : Int) = .bool (s.getD k false) := by
  simp [at_, bls, List.getD_eq_getElem?_getD, h]
theorem bls_rep (n : Nat) : List.replicate n (AVal.bool false) = bls (List.replicate n false) := by simp [bls]
section
variable {C : CallS} {Q : AExit → AState → Prop} {S : AState} {a : ACode} {t n : Nat} {s : List Bool}
theorem thaw_bls (he : S.env t = .lst (.uniq 1 n) (bls s)) (hn : s.length = n) (hK : aw C a Q (({ S with heap := S.heap ++ [.cells (bls s)] } : AState).set t (.ref S.heap.length 0 n n))) : aw C (.thaw t a) Q S := by
  rw [aw_thaw, he]
  simp only [bls_length, bls_flat, hn, Nat.sub_self, Nat.zero_mul, List.replicate_zero, List.append_nil]
  exact ⟨by omega, bls_w s, Nat.le_refl _, hK⟩
theorem own_bls {id : Nat} (he : S.env t = .ref id 0 n n) (hh : S.heap[id]? = some (.cells (bls s))) (hn : s.length = n)
    (hK : ∀ hp, (hp = S.heap ∧ n = 0 ∨ hp = S.heap.set id .dead ∧ n ≠ 0) → aw C a Q (({ S with heap := hp } : AState).set t (.lst (.uniq 1 n) (bls s)))) : aw C (.own t false 1 a) Q S := by
  subst hn
  refine own_flat (xs := bls s) (rest := []) (by rw [he, bls_length]) (by rw [hh, bls_flat, List.append_nil]) (by rw [bls_length]; exact Nat.le_refl _) (by simp [bls_length]) (by omega) (fun x hx => (bls_w s x hx).1) (fun e => by cases e) (fun _ x hx => by obtain ⟨b, _, rfl⟩ := List.mem_map.1 hx; rfl) (fun _ => rfl) (fun x hx c hc => by obtain ⟨b, _, rfl⟩ := List.mem_map.1 hx; simp only [AVal.cells, List.mem_singleton] at hc; subst hc; exact ⟨rfl, rfl⟩) hK
end
theorem bls_ids (s : List Bool) : idsL (bls s) = 0 := by
  induction s with
  | nil => rfl
  | cons x l ih => simp only [bls, List.map_cons, idsL, AVal.ids] at ih ⊢; simp [ih]
/-- All that is still to be looked at. -/
theorem pend_row {g : Gr} {i : Nat} (hi : i < g.length) : (nx g i).length ≤ pend g (List.replicate g.length false) := by
  have h := pend_set (g := g) (s := List.replicate g.length false) hi (by simp) (by rw [List.getD_eq_getElem?_getD, List.getElem?_replicate, if_pos hi]; rfl)
  omega
theorem steps_ok (o : Own) (g : Gr) (xs : List AVal) (ho : Rdo o) (hg : Gok g) (hx : Each2 RowOk (toI g) xs) (i : Nat) (hi : i < g.length) (hn : g.length ≤ 1099511627776) (hp : pend g (List.replicate g.length false) ≤ 1099511627776) (h : List HObj) :
    ACalls Try.prog F.ring_steps [.lst o xs, .int .i64 i] h (fun r h' => (∃ s : List Bool, r = .lst (.app 1) (bls s) ∧ s.length = g.length ∧ ∀ k, s.getD k false = true ↔ Rch g i k) ∧ h' = h) := by
  have lx := hx.length
  rw [toI_length] at lx
  have hi1 : i < (toI g).length := by rw [toI_length]; exact hi
  have hi2 : (i : Int) < xs.length := by omega
  obtain ⟨q, hq, hxi⟩ := hx.at i hi1
  rw [toI_get hi1] at hq hxi
  have hq1 := hq.1
  have hrow := pend_row hi
  have hrn : Rdn q (ni (nx g i)) := hq
  refine ACalls.gcn (ACalls.of_aw Try.func171 K.ring_steps (by simp [Try.f171]) ?_)
  generalize hQ : retQ R.ring_steps _ = Q
  simp (disch := first | assumption | omega) only [C.ring_steps, go_sem, ↓reduceIte, Nat.reduceEqDiff, reduceCtorEq, Nat.reduceAdd, Nat.reduceLeDiff, Nat.reduceLT, reduceIte, Int.reduceBEq, Int.reduceBNe, Int.reduceLT, Int.reduceLE, Int.reduceAdd, Int.reduceSub, Int.reduceMul, Int.reduceNeg, Int.reduceEq, Int.reduceNe, Nat.reduceMul, Nat.reduceSub]
  simp (disch := first | assumption | omega) only [lx, bls_rep, go_sem, ↓reduceIte, Nat.reduceEqDiff, reduceCtorEq, Nat.reduceAdd, Nat.reduceLeDiff, Nat.reduceLT, reduceIte, Int.reduceBEq, Int.reduceBNe, Int.reduceLT, Int.reduceLE, Int.reduceAdd, Int.reduceSub, Int.reduceMul, Int.reduceNeg, Int.reduceEq, Int.reduceNe, Nat.reduceMul, Nat.reduceSub]
  refine ⟨by omega, ?_⟩
  refine thaw_bls (s := List.replicate g.length false) (n := g.length) (by simp (disch := first | assumption | omega) only [bls_rep, go_sem, ↓reduceIte, Nat.reduceEqDiff, reduceCtorEq, Nat.reduceAdd, Nat.reduceLeDiff, Nat.reduceLT, reduceIte, Int.reduceBEq, Int.reduceBNe, Int.reduceLT, Int.reduceLE, Int.reduceAdd, Int.reduceSub, Int.reduceMul, Int.reduceNeg, Int.reduceEq, Int.reduceNe, Nat.reduceMul, Nat.reduceSub]) (by simp) ?_
  simp (disch := first | assumption | omega) only [hxi, hi2, go_sem, ↓reduceIte, Nat.reduceEqDiff, reduceCtorEq, Nat.reduceAdd, Nat.reduceLeDiff, Nat.reduceLT, reduceIte, Int.reduceBEq, Int.reduceBNe, Int.reduceLT, Int.reduceLE, Int.reduceAdd, Int.reduceSub, Int.reduceMul, Int.reduceNeg, Int.reduceEq, Int.reduceNe, Nat.reduceMul, Nat.reduceSub]
  refine callG_ok (CloneInt_ok q (ni (nx g i)) hq (by rw [ni_length]; omega) _) (by simp (disch := first | assumption | omega) only [go_sem, ↓reduceIte, Nat.reduceEqDiff, reduceCtorEq, Nat.reduceAdd, Nat.reduceLeDiff, Nat.reduceLT, reduceIte, Int.reduceBEq, Int.reduceBNe, Int.reduceLT, Int.reduceLE, Int.reduceAdd, Int.reduceSub, Int.reduceMul, Int.reduceNeg, Int.reduceEq, Int.reduceNe, Nat.reduceMul, Nat.reduceSub]) ?_
  rintro _ _ ⟨⟨o', rfl, ho'⟩, hhh⟩
  rw [hhh]
  clear hhh
  have hod : ∀ l : List Int, o' = .nil ∧ nx g i = [] ∨ o' = .app 1 := fun _ => ho'.imp (fun h => ⟨h.1, by simpa [ni] using h.2⟩) id
  have hst := Srch.start hg i
  have hB : (nx g i).length + pend g (List.replicate g.length false) ≤ 2199023255552 := by omega
  have fin : ∀ (S : AState) (s : List Bool), Srch g i s [] → S.env 5 = .ref h.length 0 g.length g.length → S.heap = h ++ [.cells (bls s)] → True := fun _ _ _ _ _ => trivial
  have hni : ni ([] : List Nat) = [] := rfl
  rcases hod [] with ⟨rfl, hnil⟩ | rfl
  · simp (disch := first | assumption | omega) only [lx, go_sem, ↓reduceIte, Nat.reduceEqDiff, reduceCtorEq, Nat.reduceAdd, Nat.reduceLeDiff, Nat.reduceLT, reduceIte, Int.reduceBEq, Int.reduceBNe, Int.reduceLT, Int.reduceLE, Int.reduceAdd, Int.reduceSub, Int.reduceMul, Int.reduceNeg, Int.reduceEq, Int.reduceNe, Nat.reduceMul, Nat.reduceSub]
    refine aw_count (fun d S => ∃ (s : List Bool) (todo : List Nat) (q' : Own), todo.length + pend g s = d ∧ d ≤ (nx g i).length + pend g (List.replicate g.length false) ∧ Srch g i s todo ∧ (q' = .nil ∧ todo = [] ∨ q' = .app 1) ∧ S.env 6 = .lst q' (ints .i64 (ni todo)) ∧ S.env 5 = .ref h.length 0 g.length g.length ∧ S.env 0 = .lst o xs ∧ S.heap = h ++ [.cells (bls s)]) (n := (nx g i).length + pend g (List.replicate g.length false))
      ⟨List.replicate g.length false, nx g i, .nil, rfl, Nat.le_refl _, hst, .inl ⟨rfl, hnil⟩, by simp (disch := first | assumption | omega) only [go_sem, ↓reduceIte, Nat.reduceEqDiff, reduceCtorEq, Nat.reduceAdd, Nat.reduceLeDiff, Nat.reduceLT, reduceIte, Int.reduceBEq, Int.reduceBNe, Int.reduceLT, Int.reduceLE, Int.reduceAdd, Int.reduceSub, Int.reduceMul, Int.reduceNeg, Int.reduceEq, Int.reduceNe, Nat.reduceMul, Nat.reduceSub], by simp (disch := first | assumption | omega) only [go_sem, ↓reduceIte, Nat.reduceEqDiff, reduceCtorEq, Nat.reduceAdd, Nat.reduceLeDiff, Nat.reduceLT, reduceIte, Int.reduceBEq, Int.reduceBNe, Int.reduceLT, Int.reduceLE, Int.reduceAdd, Int.reduceSub, Int.reduceMul, Int.reduceNeg, Int.reduceEq, Int.reduceNe, Nat.reduceMul, Nat.reduceSub], by simp (disch := first | assumption | omega) only [go_sem, ↓reduceIte, Nat.reduceEqDiff, reduceCtorEq, Nat.reduceAdd, Nat.reduceLeDiff, Nat.reduceLT, reduceIte, Int.reduceBEq, Int.reduceBNe, Int.reduceLT, Int.reduceLE, Int.reduceAdd, Int.reduceSub, Int.reduceMul, Int.reduceNeg, Int.reduceEq, Int.reduceNe, Nat.reduceMul, Nat.reduceSub], by simp (disch := first | assumption | omega) only [go_sem, ↓reduceIte, Nat.reduceEqDiff, reduceCtorEq, Nat.reduceAdd, Nat.reduceLeDiff, Nat.reduceLT, reduceIte, Int.reduceBEq, Int.reduceBNe, Int.reduceLT, Int.reduceLE, Int.reduceAdd, Int.reduceSub, Int.reduceMul, Int.reduceNeg, Int.reduceEq, Int.reduceNe, Nat.reduceMul, Nat.reduceSub]⟩ ?_
    rintro d S ⟨s, todo, q', hd, hdN, hS, hq', e6, e5, e0, eh⟩
    have hge : S.heap[h.length]? = some (.cells (bls s)) := by rw [eh, hpx_get0]; rfl
    have hsl := hS.len
    have hbl := bls_length s
    cases todo with
    | nil =>
      have e6' : ∃ q'', S.env 6 = .lst q'' [] ∧ (q'' = .nil ∨ q'' = .app 1) := ⟨q', e6, hq'.imp (fun h => h.1) id⟩
      obtain ⟨q'', e6', hq''⟩ := e6'
      rcases hq'' with rfl | rfl
      all_goals (
        simp (disch := first | assumption | omega) only [e6', e5, e0, hge, go_sem, ↓reduceIte, Nat.reduceEqDiff, reduceCtorEq, Nat.reduceAdd, Nat.reduceLeDiff, Nat.reduceLT, reduceIte, Int.reduceBEq, Int.reduceBNe, Int.reduceLT, Int.reduceLE, Int.reduceAdd, Int.reduceSub, Int.reduceMul, Int.reduceNeg, Int.reduceEq, Int.reduceNe, Nat.reduceMul, Nat.reduceSub]
        refine own_bls (s := s) (n := g.length) (id := h.length) (by simp (disch := first | assumption | omega) only [e5, go_sem, ↓reduceIte, Nat.reduceEqDiff, reduceCtorEq, Nat.reduceAdd, Nat.reduceLeDiff, Nat.reduceLT, reduceIte, Int.reduceBEq, Int.reduceBNe, Int.reduceLT, Int.reduceLE, Int.reduceAdd, Int.reduceSub, Int.reduceMul, Int.reduceNeg, Int.reduceEq, Int.reduceNe, Nat.reduceMul, Nat.reduceSub]) (by simp (disch := first | assumption | omega) only [hge, go_sem, ↓reduceIte, Nat.reduceEqDiff, reduceCtorEq, Nat.reduceAdd, Nat.reduceLeDiff, Nat.reduceLT, reduceIte, Int.reduceBEq, Int.reduceBNe, Int.reduceLT, Int.reduceLE, Int.reduceAdd, Int.reduceSub, Int.reduceMul, Int.reduceNeg, Int.reduceEq, Int.reduceNe, Nat.reduceMul, Nat.reduceSub]) hsl ?_
        rintro hp hhp
        rw [aw_grab]
        simp (disch := first | assumption | omega) only [go_sem, ↓reduceIte, Nat.reduceEqDiff, reduceCtorEq, Nat.reduceAdd, Nat.reduceLeDiff, Nat.reduceLT, reduceIte, Int.reduceBEq, Int.reduceBNe, Int.reduceLT, Int.reduceLE, Int.reduceAdd, Int.reduceSub, Int.reduceMul, Int.reduceNeg, Int.reduceEq, Int.reduceNe, Nat.reduceMul, Nat.reduceSub]
        subst hQ
        simp (disch := first | assumption | omega) only [R.ring_steps, go_sem, ↓reduceIte, Nat.reduceEqDiff, reduceCtorEq, Nat.reduceAdd, Nat.reduceLeDiff, Nat.reduceLT, reduceIte, Int.reduceBEq, Int.reduceBNe, Int.reduceLT, Int.reduceLE, Int.reduceAdd, Int.reduceSub, Int.reduceMul, Int.reduceNeg, Int.reduceEq, Int.reduceNe, Nat.reduceMul, Nat.reduceSub]
        have hs1 : ∃ s', AVal.lst (.app 1) (bls s) = .lst (.app 1) (bls s') ∧ s'.length = g.length ∧ ∀ k, s'.getD k false = true ↔ Rch g i k := ⟨s, rfl, hsl, hS.done⟩
        rcases hhp with ⟨rfl, _⟩ | ⟨rfl, _⟩
        · exact ⟨_, eh, by simp [AVal.ids, bls_ids], hs1⟩
        · exact ⟨_, by show S.heap.set h.length .dead = _; rw [eh, hpx_set0], by simp [AVal.ids, bls_ids], hs1⟩)
    | cons k todo =>
      have hq'' : q' = .app 1 := hq'.elim (fun h => by cases h.2) id
      subst hq''
      have hk := (hS.tsound k (by simp)).2
      have hnk : ni (k :: todo) = (k : Int) :: ni todo := rfl
      rw [hnk, ints_cons] at e6
      have hlen : ((.int .i64 (k : Int)) :: ints .i64 (ni todo)).length = todo.length + 1 := by simp [ni_length, ints_length]
      have hp1 : (0 : Int) < ((todo.length + 1 : Nat) : Int) := by omega
      have hat0 : at_ ((.int .i64 (k : Int)) :: ints .i64 (ni todo)) 0 = .int .i64 k := rfl
      have hgk := bls_getD (s := s) (k := k) (by omega)
      have hdr : List.drop (Int.toNat 1) ((AVal.int .i64 (k : Int)) :: ints .i64 (ni todo)) = ints .i64 (ni todo) := rfl
      have hkx : (k : Int) < g.length := by omega
      simp only [List.length_cons] at hd
      by_cases hsk : s.getD k false = true
      · rw [hsk] at hgk
        simp (disch := first | assumption | omega) only [e6, e5, e0, hge, hlen, hp1, hat0, hgk, hkx, hbl, hsl, Nat.mul_one, hdr, go_sem, ↓reduceIte, Nat.reduceEqDiff, reduceCtorEq, Nat.reduceAdd, Nat.reduceLeDiff, Nat.reduceLT, reduceIte, Int.reduceBEq, Int.reduceBNe, Int.reduceLT, Int.reduceLE, Int.reduceAdd, Int.reduceSub, Int.reduceMul, Int.reduceNeg, Int.reduceEq, Int.reduceNe, Nat.reduceMul, Nat.reduceSub]
        exact ⟨by omega, hk, d - 1, by omega, s, todo, _, by omega, by omega, hS.old hsk, .inr rfl, rfl, eh⟩
      · have hsk : s.getD k false = false := by simpa using hsk
        rw [hsk] at hgk
        obtain ⟨hS2, hpd⟩ := hS.new hg hsk
        have hk1 : k < (toI g).length := by rw [toI_length]; exact hk
        have hk2 : (k : Int) < xs.length := by omega
        have hk3 : k < xs.length := by omega
        obtain ⟨qk, hqk, hxk⟩ := hx.at k hk1
        rw [toI_get hk1] at hqk hxk
        have hqk1 := hqk.1
        have hbs := bls_set (s := s) (k := k) (by omega) true
        have hst2 : h.length < S.heap.length := by rw [eh]; simp
        simp (disch := first | assumption | omega) only [e6, e5, e0, hge, hlen, hp1, hat0, hgk, hkx, hbl, hsl, Nat.mul_one, hdr, hk2, hk3, hxk, hbs, ni_length, go_sem, ↓reduceIte, Nat.reduceEqDiff, reduceCtorEq, Nat.reduceAdd, Nat.reduceLeDiff, Nat.reduceLT, reduceIte, Int.reduceBEq, Int.reduceBNe, Int.reduceLT, Int.reduceLE, Int.reduceAdd, Int.reduceSub, Int.reduceMul, Int.reduceNeg, Int.reduceEq, Int.reduceNe, Nat.reduceMul, Nat.reduceSub]
        refine ⟨by omega, hk, by omega, ints_width _, by omega, by omega, d - 1, by omega, s.set k true, todo ++ nx g k, _, by rw [List.length_append]; omega, by omega, hS2, .inr rfl, by rw [ints_append, ← ni_append], by rw [eh, hpx_set0]; rfl⟩
  · simp (disch := first | assumption | omega) only [lx, go_sem, ↓reduceIte, Nat.reduceEqDiff, reduceCtorEq, Nat.reduceAdd, Nat.reduceLeDiff, Nat.reduceLT, reduceIte, Int.reduceBEq, Int.reduceBNe, Int.reduceLT, Int.reduceLE, Int.reduceAdd, Int.reduceSub, Int.reduceMul, Int.reduceNeg, Int.reduceEq, Int.reduceNe, Nat.reduceMul, Nat.reduceSub]
    refine aw_count (fun d S => ∃ (s : List Bool) (todo : List Nat) (q' : Own), todo.length + pend g s = d ∧ d ≤ (nx g i).length + pend g (List.replicate g.length false) ∧ Srch g i s todo ∧ (q' = .nil ∧ todo = [] ∨ q' = .app 1) ∧ S.env 6 = .lst q' (ints .i64 (ni todo)) ∧ S.env 5 = .ref h.length 0 g.length g.length ∧ S.env 0 = .lst o xs ∧ S.heap = h ++ [.cells (bls s)]) (n := (nx g i).length + pend g (List.replicate g.length false))
      ⟨List.replicate g.length false, nx g i, .app 1, rfl, Nat.le_refl _, hst, .inr rfl, by simp (disch := first | assumption | omega) only [go_sem, ↓reduceIte, Nat.reduceEqDiff, reduceCtorEq, Nat.reduceAdd, Nat.reduceLeDiff, Nat.reduceLT, reduceIte, Int.reduceBEq, Int.reduceBNe, Int.reduceLT, Int.reduceLE, Int.reduceAdd, Int.reduceSub, Int.reduceMul, Int.reduceNeg, Int.reduceEq, Int.reduceNe, Nat.reduceMul, Nat.reduceSub], by simp (disch := first | assumption | omega) only [go_sem, ↓reduceIte, Nat.reduceEqDiff, reduceCtorEq, Nat.reduceAdd, Nat.reduceLeDiff, Nat.reduceLT, reduceIte, Int.reduceBEq, Int.reduceBNe, Int.reduceLT, Int.reduceLE, Int.reduceAdd, Int.reduceSub, Int.reduceMul, Int.reduceNeg, Int.reduceEq, Int.reduceNe, Nat.reduceMul, Nat.reduceSub], by simp (disch := first | assumption | omega) only [go_sem, ↓reduceIte, Nat.reduceEqDiff, reduceCtorEq, Nat.reduceAdd, Nat.reduceLeDiff, Nat.reduceLT, reduceIte, Int.reduceBEq, Int.reduceBNe, Int.reduceLT, Int.reduceLE, Int.reduceAdd, Int.reduceSub, Int.reduceMul, Int.reduceNeg, Int.reduceEq, Int.reduceNe, Nat.reduceMul, Nat.reduceSub], by simp (disch := first | assumption | omega) only [go_sem, ↓reduceIte, Nat.reduceEqDiff, reduceCtorEq, Nat.reduceAdd, Nat.reduceLeDiff, Nat.reduceLT, reduceIte, Int.reduceBEq, Int.reduceBNe, Int.reduceLT, Int.reduceLE, Int.reduceAdd, Int.reduceSub, Int.reduceMul, Int.reduceNeg, Int.reduceEq, Int.reduceNe, Nat.reduceMul, Nat.reduceSub]⟩ ?_
    rintro d S ⟨s, todo, q', hd, hdN, hS, hq', e6, e5, e0, eh⟩
    have hge : S.heap[h.length]? = some (.cells (bls s)) := by rw [eh, hpx_get0]; rfl
    have hsl := hS.len
    have hbl := bls_length s
    cases todo with
    | nil =>
      have e6' : ∃ q'', S.env 6 = .lst q'' [] ∧ (q'' = .nil ∨ q'' = .app 1) := ⟨q', e6, hq'.imp (fun h => h.1) id⟩
      obtain ⟨q'', e6', hq''⟩ := e6'
      rcases hq'' with rfl | rfl
      all_goals (
        simp (disch := first | assumption | omega) only [e6', e5, e0, hge, go_sem, ↓reduceIte, Nat.reduceEqDiff, reduceCtorEq, Nat.reduceAdd, Nat.reduceLeDiff, Nat.reduceLT, reduceIte, Int.reduceBEq, Int.reduceBNe, Int.reduceLT, Int.reduceLE, Int.reduceAdd, Int.reduceSub, Int.reduceMul, Int.reduceNeg, Int.reduceEq, Int.reduceNe, Nat.reduceMul, Nat.reduceSub]
        refine own_bls (s := s) (n := g.length) (id := h.length) (by simp (disch := first | assumption | omega) only [e5, go_sem, ↓reduceIte, Nat.reduceEqDiff, reduceCtorEq, Nat.reduceAdd, Nat.reduceLeDiff, Nat.reduceLT, reduceIte, Int.reduceBEq, Int.reduceBNe, Int.reduceLT, Int.reduceLE, Int.reduceAdd, Int.reduceSub, Int.reduceMul, Int.reduceNeg, Int.reduceEq, Int.reduceNe, Nat.reduceMul, Nat.reduceSub]) (by simp (disch := first | assumption | omega) only [hge, go_sem, ↓reduceIte, Nat.reduceEqDiff, reduceCtorEq, Nat.reduceAdd, Nat.reduceLeDiff, Nat.reduceLT, reduceIte, Int.reduceBEq, Int.reduceBNe, Int.reduceLT, Int.reduceLE, Int.reduceAdd, Int.reduceSub, Int.reduceMul, Int.reduceNeg, Int.reduceEq, Int.reduceNe, Nat.reduceMul, Nat.reduceSub]) hsl ?_
        rintro hp hhp
        rw [aw_grab]
        simp (disch := first | assumption | omega) only [go_sem, ↓reduceIte, Nat.reduceEqDiff, reduceCtorEq, Nat.reduceAdd, Nat.reduceLeDiff, Nat.reduceLT, reduceIte, Int.reduceBEq, Int.reduceBNe, Int.reduceLT, Int.reduceLE, Int.reduceAdd, Int.reduceSub, Int.reduceMul, Int.reduceNeg, Int.reduceEq, Int.reduceNe, Nat.reduceMul, Nat.reduceSub]
        subst hQ
        simp (disch := first | assumption | omega) only [R.ring_steps, go_sem, ↓reduceIte, Nat.reduceEqDiff, reduceCtorEq, Nat.reduceAdd, Nat.reduceLeDiff, Nat.reduceLT, reduceIte, Int.reduceBEq, Int.reduceBNe, Int.reduceLT, Int.reduceLE, Int.reduceAdd, Int.reduceSub, Int.reduceMul, Int.reduceNeg, Int.reduceEq, Int.reduceNe, Nat.reduceMul, Nat.reduceSub]
        have hs1 : ∃ s', AVal.lst (.app 1) (bls s) = .lst (.app 1) (bls s') ∧ s'.length = g.length ∧ ∀ k, s'.getD k false = true ↔ Rch g i k := ⟨s, rfl, hsl, hS.done⟩
        rcases hhp with ⟨rfl, _⟩ | ⟨rfl, _⟩
        · exact ⟨_, eh, by simp [AVal.ids, bls_ids], hs1⟩
        · exact ⟨_, by show S.heap.set h.length .dead = _; rw [eh, hpx_set0], by simp [AVal.ids, bls_ids], hs1⟩)
    | cons k todo =>
      have hq'' : q' = .app 1 := hq'.elim (fun h => by cases h.2) id
      subst hq''
      have hk := (hS.tsound k (by simp)).2
      have hnk : ni (k :: todo) = (k : Int) :: ni todo := rfl
      rw [hnk, ints_cons] at e6
      have hlen : ((.int .i64 (k : Int)) :: ints .i64 (ni todo)).length = todo.length + 1 := by simp [ni_length, ints_length]
      have hp1 : (0 : Int) < ((todo.length + 1 : Nat) : Int) := by omega
      have hat0 : at_ ((.int .i64 (k : Int)) :: ints .i64 (ni todo)) 0 = .int .i64 k := rfl
      have hgk := bls_getD (s := s) (k := k) (by omega)
      have hdr : List.drop (Int.toNat 1) ((AVal.int .i64 (k : Int)) :: ints .i64 (ni todo)) = ints .i64 (ni todo) := rfl
      have hkx : (k : Int) < g.length := by omega
      simp only [List.length_cons] at hd
      by_cases hsk : s.getD k false = true
      · rw [hsk] at hgk
        simp (disch := first | assumption | omega) only [e6, e5, e0, hge, hlen, hp1, hat0, hgk, hkx, hbl, hsl, Nat.mul_one, hdr, go_sem, ↓reduceIte, Nat.reduceEqDiff, reduceCtorEq, Nat.reduceAdd, Nat.reduceLeDiff, Nat.reduceLT, reduceIte, Int.reduceBEq, Int.reduceBNe, Int.reduceLT, Int.reduceLE, Int.reduceAdd, Int.reduceSub, Int.reduceMul, Int.reduceNeg, Int.reduceEq, Int.reduceNe, Nat.reduceMul, Nat.reduceSub]
        exact ⟨by omega, hk, d - 1, by omega, s, todo, _, by omega, by omega, hS.old hsk, .inr rfl, rfl, eh⟩
      · have hsk : s.getD k false = false := by simpa using hsk
        rw [hsk] at hgk
        obtain ⟨hS2, hpd⟩ := hS.new hg hsk
        have hk1 : k < (toI g).length := by rw [toI_length]; exact hk
        have hk2 : (k : Int) < xs.length := by omega
        have hk3 : k < xs.length := by omega
        obtain ⟨qk, hqk, hxk⟩ := hx.at k hk1
        rw [toI_get hk1] at hqk hxk
        have hqk1 := hqk.1
        have hbs := bls_set (s := s) (k := k) (by omega) true
        have hst2 : h.length < S.heap.length := by rw [eh]; simp
        simp (disch := first | assumption | omega) only [e6, e5, e0, hge, hlen, hp1, hat0, hgk, hkx, hbl, hsl, Nat.mul_one, hdr, hk2, hk3, hxk, hbs, ni_length, go_sem, ↓reduceIte, Nat.reduceEqDiff, reduceCtorEq, Nat.reduceAdd, Nat.reduceLeDiff, Nat.reduceLT, reduceIte, Int.reduceBEq, Int.reduceBNe, Int.reduceLT, Int.reduceLE, Int.reduceAdd, Int.reduceSub, Int.reduceMul, Int.reduceNeg, Int.reduceEq, Int.reduceNe, Nat.reduceMul, Nat.reduceSub]
        refine ⟨by omega, hk, by omega, ints_width _, by omega, by omega, d - 1, by omega, s.set k true, todo ++ nx g k, _, by rw [List.length_append]; omega, by omega, hS2, .inr rfl, by rw [ints_append, ← ni_append], by rw [eh, hpx_set0]; rfl⟩
end Go.Proofs.Ytpdajkbfemcdlaa
/- Contracts: a number, repeated. -/
set_option linter.unusedSimpArgs false
set_option linter.unusedVariables false
set_option maxRecDepth 10000
namespace Go.Proofs.Ytpdajkbfemcdlaa
open Go.Ge
theorem mask32 {n : Int} (h0 : 0 ≤ n) (h1 : n < 4294967296) : bitsV .and .u64 n 4294967295 = n := by
  obtain ⟨n, rfl⟩ := Int.eq_ofNat_of_zero_le h0
  have e : (BitVec.ofInt 64 (n : Int) &&& BitVec.ofInt 64 4294967295).toNat = n := by
    rw [BitVec.toNat_and, BitVec.toNat_ofInt, BitVec.toNat_ofInt]
    have e1 : ((n : Int) % ((2 ^ 64 : Nat) : Int)).toNat = n := by omega
    have e2 : ((4294967295 : Int) % ((2 ^ 64 : Nat) : Int)).toNat = 2 ^ 32 - 1 := by decide
    rw [e1, e2, Nat.and_two_pow_sub_one_eq_mod]
    omega
  show IntKind.u64.wrap ((BitVec.ofInt 64 (n : Int) &&& BitVec.ofInt 64 4294967295).toNat : Int) = n
  rw [e, wrapU64 (by omega) (by omega)]
theorem shr32_0 {n : Int} (h0 : 0 ≤ n) (h1 : n < 4294967296) : n.fdiv (2 ^ min (Int.toNat 32) 64) = 0 := by
  rw [show min (Int.toNat 32) 64 = 32 from rfl, Int.fdiv_eq_ediv_of_nonneg _ (by decide)]; omega
theorem Mul64_ok (n : Int) (h0 : 0 ≤ n) (h1 : n < 4294967296) (h : List HObj) :
    ACalls Try.prog F.bits_Mul64 [.int .u64 1, .int .u64 n] h (fun r h' => r = .tup [.int .u64 0, .int .u64 n] ∧ h' = h) := by
  have m1 : bitsV .and .u64 1 4294967295 = 1 := mask32 (by omega) (by omega)
  have mn := mask32 h0 h1
  have s1 : (1 : Int).fdiv (2 ^ min (Int.toNat 32) 64) = 0 := shr32_0 (by omega) (by omega)
  have s0 : (0 : Int).fdiv (2 ^ min (Int.toNat 32) 64) = 0 := shr32_0 (by omega) (by omega)
  have sn := shr32_0 h0 h1
  have wn : IntKind.u64.wrap n = n := wrapU64 h0 (by omega)
  have m0 : bitsV .and .u64 0 4294967295 = 0 := mask32 (by omega) (by omega)
  have w0 : IntKind.u64.wrap 0 = 0 := rfl
  refine ACalls.of_aw Try.func233 K.bits_Mul64 (by simp [Try.f233]) ?_
  generalize hQ : retQ R.bits_Mul64 _ = Q
  simp (disch := first | assumption | omega) only [C.bits_Mul64, go_sem, ↓reduceIte, Nat.reduceEqDiff, reduceCtorEq, Nat.reduceAdd, Nat.reduceLeDiff, Nat.reduceLT, reduceIte, Int.reduceBEq, Int.reduceBNe, Int.reduceLT, Int.reduceLE, Int.reduceAdd, Int.reduceSub, Int.reduceMul, Int.reduceNeg, Int.reduceEq, Int.reduceNe, Nat.reduceMul, Nat.reduceSub]
  subst hQ
  simp (disch := first | assumption | omega) only [R.bits_Mul64, m1, mn, s1, s0, sn, wn, m0, w0, Int.zero_mul, Int.one_mul, Int.mul_zero, Int.zero_add, Int.add_zero, go_sem, ↓reduceIte, Nat.reduceEqDiff, reduceCtorEq, Nat.reduceAdd, Nat.reduceLeDiff, Nat.reduceLT, reduceIte, Int.reduceBEq, Int.reduceBNe, Int.reduceLT, Int.reduceLE, Int.reduceAdd, Int.reduceSub, Int.reduceMul, Int.reduceNeg, Int.reduceEq, Int.reduceNe, Nat.reduceMul, Nat.reduceSub]
theorem Mul_ok (n : Int) (h0 : 0 ≤ n) (h1 : n < 4294967296) (h : List HObj) :
    ACalls Try.prog F.bits_Mul [.int .u64 1, .int .u64 n] h (fun r h' => r = .tup [.int .u64 0, .int .u64 n] ∧ h' = h) := by
  refine ACalls.of_aw Try.func218 K.bits_Mul (by simp [Try.f218]) ?_
  generalize hQ : retQ R.bits_Mul _ = Q
  simp (disch := first | assumption | omega) only [C.bits_Mul, go_sem, ↓reduceIte, Nat.reduceEqDiff, reduceCtorEq, Nat.reduceAdd, Nat.reduceLeDiff, Nat.reduceLT, reduceIte, Int.reduceBEq, Int.reduceBNe, Int.reduceLT, Int.reduceLE, Int.reduceAdd, Int.reduceSub, Int.reduceMul, Int.reduceNeg, Int.reduceEq, Int.reduceNe, Nat.reduceMul, Nat.reduceSub]
  refine callG_ok (Mul64_ok n h0 h1 _) (by simp (disch := first | assumption | omega) only [go_sem, ↓reduceIte, Nat.reduceEqDiff, reduceCtorEq, Nat.reduceAdd, Nat.reduceLeDiff, Nat.reduceLT, reduceIte, Int.reduceBEq, Int.reduceBNe, Int.reduceLT, Int.reduceLE, Int.reduceAdd, Int.reduceSub, Int.reduceMul, Int.reduceNeg, Int.reduceEq, Int.reduceNe, Nat.reduceMul, Nat.reduceSub]) ?_
  rintro _ _ ⟨rfl, hhh⟩
  try rw [hhh]
  clear hhh
  simp (disch := first | assumption | omega) only [go_sem, ↓reduceIte, Nat.reduceEqDiff, reduceCtorEq, Nat.reduceAdd, Nat.reduceLeDiff, Nat.reduceLT, reduceIte, Int.reduceBEq, Int.reduceBNe, Int.reduceLT, Int.reduceLE, Int.reduceAdd, Int.reduceSub, Int.reduceMul, Int.reduceNeg, Int.reduceEq, Int.reduceNe, Nat.reduceMul, Nat.reduceSub]
  subst hQ
  simp (disch := first | assumption | omega) only [R.bits_Mul, go_sem, ↓reduceIte, Nat.reduceEqDiff, reduceCtorEq, Nat.reduceAdd, Nat.reduceLeDiff, Nat.reduceLT, reduceIte, Int.reduceBEq, Int.reduceBNe, Int.reduceLT, Int.reduceLE, Int.reduceAdd, Int.reduceSub, Int.reduceMul, Int.reduceNeg, Int.reduceEq, Int.reduceNe, Nat.reduceMul, Nat.reduceSub]
theorem copyInts {C : CallS} {r : AOpn → AVal} {hp : List HObj} {K : AVal → List HObj → Prop} {x y : AOpn} {id o1 len1 cap1 o2 k cap2 : Nat} {L : List Int} (hx : r x = .ref id o1 len1 cap1) (hy : r y = .ref id o2 k cap2) (hh : hp[id]? = some (.cells (ints .i64 L)))
    (h1 : o1 + len1 ≤ L.length) (h2 : o2 + k ≤ L.length) (hl : len1 ≠ 0) (hk : k ≠ 0)
    (hK : K (.int .i64 ((min k len1 : Nat) : Int)) (hp.set id (.cells (ints .i64 (L.take o1 ++ ((L.drop o2).take k).take (min k len1) ++ L.drop (o1 + min k len1)))))) : hstep C r hp (.copyR 1 x y) K := by
  have hsrc : srcH 1 hp (.ref id o2 k cap2) = some (k, ints .i64 ((L.drop o2).take k)) := by
    simp only [srcH, if_neg hk, hh, Nat.mul_one]
    rw [if_pos (by rw [ints_length]; exact h2), ints_drop, ints_take, ints_rdc]
  simp only [hstep, hx, hy, hsrc]
  refine ⟨?_, fun h => by omega, fun _ _ => ?_⟩
  · intro p hp' c hc
    rw [hsrc] at hp'
    cases hp'
    obtain ⟨n, _, rfl⟩ := List.mem_map.1 hc
    rfl
  · simp only [hh, Nat.mul_one]
    refine ⟨by rw [ints_length]; omega, ?_⟩
    have e : fillV (ints .i64 L) o1 ((ints .i64 ((L.drop o2).take k)).take (min k len1)) = ints .i64 (L.take o1 ++ ((L.drop o2).take k).take (min k len1) ++ L.drop (o1 + min k len1)) := by
      unfold fillV
      rw [ints_take, ints_take, ints_append, ints_length, ints_drop, ints_append]
      congr 3
      simp only [List.length_take, List.length_drop]
      congr 1; omega
    rw [e]; exact hK
theorem rep_fill (z : Int) (n k : Nat) (hk : k ≤ n) (m : Nat) (hm : m ≤ k) (hm2 : k + m ≤ n) :
    (List.replicate k z ++ List.replicate (n - k) 0).take k ++ (((List.replicate k z ++ List.replicate (n - k) (0 : Int)).drop 0).take k).take m ++ (List.replicate k z ++ List.replicate (n - k) 0).drop (k + m) = List.replicate (k + m) z ++ List.replicate (n - (k + m)) 0 := by
  have e1 : (List.replicate k z ++ List.replicate (n - k) (0 : Int)).take k = List.replicate k z := by rw [List.take_left' (by simp)]
  rw [List.drop_zero, e1, List.take_replicate, Nat.min_eq_left hm, List.replicate_append_replicate]
  congr 1
  rw [List.drop_append, List.drop_of_length_le (by simp), List.nil_append, List.length_replicate, List.drop_replicate]
  congr 1; omega
theorem Repeat_ok (o : Own) (z : Int) (n : Nat) (ho : Rdo o) (h0 : 1 ≤ n) (h1 : n ≤ 1048576) (h : List HObj) :
    ACalls Try.prog F.slices_Repeat_int [.lst o (ints .i64 [z]), .int .i64 n] h (fun r h' => r = .lst (.app 1) (ints .i64 (List.replicate n z)) ∧ h' = h) := by
  have wn : IntKind.u64.wrap n = n := wrapU64 (by omega) (by omega)
  have wn2 : IntKind.i64.wrap n = n := wrapI64 (by omega) (by omega)
  have hn0 : ¬(n : Int) < 0 := by omega
  have hn1 : ¬(9223372036854775807 : Int) < n := by omega
  have w1 : IntKind.u64.wrap ((1 : Nat) : Int) = 1 := rfl
  have w1' : IntKind.u64.wrap 1 = 1 := rfl
  have hlz : (ints .i64 [z]).length = 1 := rfl
  refine ACalls.gcn (ACalls.of_aw Try.func200 K.slices_Repeat_int (by simp [Try.f200]) ?_)
  generalize hQ : retQ R.slices_Repeat_int _ = Q
  simp (disch := first | assumption | omega) only [C.slices_Repeat_int, go_sem, ↓reduceIte, Nat.reduceEqDiff, reduceCtorEq, Nat.reduceAdd, Nat.reduceLeDiff, Nat.reduceLT, reduceIte, Int.reduceBEq, Int.reduceBNe, Int.reduceLT, Int.reduceLE, Int.reduceAdd, Int.reduceSub, Int.reduceMul, Int.reduceNeg, Int.reduceEq, Int.reduceNe, Nat.reduceMul, Nat.reduceSub]
  simp (disch := first | assumption | omega) only [hn0, wn, w1, w1', hlz, go_sem, ↓reduceIte, Nat.reduceEqDiff, reduceCtorEq, Nat.reduceAdd, Nat.reduceLeDiff, Nat.reduceLT, reduceIte, Int.reduceBEq, Int.reduceBNe, Int.reduceLT, Int.reduceLE, Int.reduceAdd, Int.reduceSub, Int.reduceMul, Int.reduceNeg, Int.reduceEq, Int.reduceNe, Nat.reduceMul, Nat.reduceSub]
  refine callG_ok (Mul_ok n (by omega) (by omega) _) (by simp (disch := first | assumption | omega) only [go_sem, ↓reduceIte, Nat.reduceEqDiff, reduceCtorEq, Nat.reduceAdd, Nat.reduceLeDiff, Nat.reduceLT, reduceIte, Int.reduceBEq, Int.reduceBNe, Int.reduceLT, Int.reduceLE, Int.reduceAdd, Int.reduceSub, Int.reduceMul, Int.reduceNeg, Int.reduceEq, Int.reduceNe, Nat.reduceMul, Nat.reduceSub]) ?_
  rintro _ _ ⟨rfl, hhh⟩
  rw [hhh]
  clear hhh
  simp (disch := first | assumption | omega) only [hn1, wn2, hn0, ints_rep, go_sem, ↓reduceIte, Nat.reduceEqDiff, reduceCtorEq, Nat.reduceAdd, Nat.reduceLeDiff, Nat.reduceLT, reduceIte, Int.reduceBEq, Int.reduceBNe, Int.reduceLT, Int.reduceLE, Int.reduceAdd, Int.reduceSub, Int.reduceMul, Int.reduceNeg, Int.reduceEq, Int.reduceNe, Nat.reduceMul, Nat.reduceSub]
  refine ⟨by omega, ?_⟩
  refine thaw_ints (k := .i64) (ns := List.replicate n 0) (n := n) (by simp (disch := first | assumption | omega) only [ints_rep, go_sem, ↓reduceIte, Nat.reduceEqDiff, reduceCtorEq, Nat.reduceAdd, Nat.reduceLeDiff, Nat.reduceLT, reduceIte, Int.reduceBEq, Int.reduceBNe, Int.reduceLT, Int.reduceLE, Int.reduceAdd, Int.reduceSub, Int.reduceMul, Int.reduceNeg, Int.reduceEq, Int.reduceNe, Nat.reduceMul, Nat.reduceSub]) (by simp) ?_
  simp (disch := first | assumption | omega) only [aops_hop, hstep, srcH, srcW, ints_flat, ints_rdc, hlz, go_sem, ↓reduceIte, Nat.reduceEqDiff, reduceCtorEq, Nat.reduceAdd, Nat.reduceLeDiff, Nat.reduceLT, reduceIte, Int.reduceBEq, Int.reduceBNe, Int.reduceLT, Int.reduceLE, Int.reduceAdd, Int.reduceSub, Int.reduceMul, Int.reduceNeg, Int.reduceEq, Int.reduceNe, Nat.reduceMul, Nat.reduceSub]
  refine ⟨ints_width _, fun h => by omega, fun _ => ?_⟩
  have hz1 : (ints .i64 [z]).take (min 1 n) = [.int .i64 z] := List.take_of_length_le (by rw [ints_length]; simp; omega)
  have hf := ints_set (k := .i64) (List.replicate n 0) 0 z (by simp; omega)
  simp (disch := first | assumption | omega) only [hz1, hf, hpx_get0, hpx_set0, ints_length, Nat.mul_one, go_sem, ↓reduceIte, Nat.reduceEqDiff, reduceCtorEq, Nat.reduceAdd, Nat.reduceLeDiff, Nat.reduceLT, reduceIte, Int.reduceBEq, Int.reduceBNe, Int.reduceLT, Int.reduceLE, Int.reduceAdd, Int.reduceSub, Int.reduceMul, Int.reduceNeg, Int.reduceEq, Int.reduceNe, Nat.reduceMul, Nat.reduceSub]
  have hmin : min 1 n = 1 := by omega
  have hinit : (List.replicate n (0 : Int)).set 0 z = List.replicate 1 z ++ List.replicate (n - 1) 0 := by
    obtain ⟨m, rfl⟩ : ∃ m, n = m + 1 := ⟨n - 1, by omega⟩
    rfl
  refine fun _ => ⟨by simp; omega, ?_⟩
  refine aw_count (fun d S => ∃ (k : Nat), k + d = n ∧ 1 ≤ k ∧ S.env 8 = .int .i64 k ∧ S.env 7 = .ref h.length 0 n n ∧ S.heap = h ++ [.cells (ints .i64 (List.replicate k z ++ List.replicate (n - k) 0))]) (n := n - 1)
    ⟨1, by omega, by omega, by simp (disch := first | assumption | omega) only [hmin, go_sem, ↓reduceIte, Nat.reduceEqDiff, reduceCtorEq, Nat.reduceAdd, Nat.reduceLeDiff, Nat.reduceLT, reduceIte, Int.reduceBEq, Int.reduceBNe, Int.reduceLT, Int.reduceLE, Int.reduceAdd, Int.reduceSub, Int.reduceMul, Int.reduceNeg, Int.reduceEq, Int.reduceNe, Nat.reduceMul, Nat.reduceSub]; try rfl, by simp (disch := first | assumption | omega) only [go_sem, ↓reduceIte, Nat.reduceEqDiff, reduceCtorEq, Nat.reduceAdd, Nat.reduceLeDiff, Nat.reduceLT, reduceIte, Int.reduceBEq, Int.reduceBNe, Int.reduceLT, Int.reduceLE, Int.reduceAdd, Int.reduceSub, Int.reduceMul, Int.reduceNeg, Int.reduceEq, Int.reduceNe, Nat.reduceMul, Nat.reduceSub], by simp (disch := first | assumption | omega) only [hinit, go_sem, ↓reduceIte, Nat.reduceEqDiff, reduceCtorEq, Nat.reduceAdd, Nat.reduceLeDiff, Nat.reduceLT, reduceIte, Int.reduceBEq, Int.reduceBNe, Int.reduceLT, Int.reduceLE, Int.reduceAdd, Int.reduceSub, Int.reduceMul, Int.reduceNeg, Int.reduceEq, Int.reduceNe, Nat.reduceMul, Nat.reduceSub]⟩ ?_
  rintro d S ⟨k, hkd, hk1, e8, e7, eh⟩
  have hge : S.heap[h.length]? = some (.cells (ints .i64 (List.replicate k z ++ List.replicate (n - k) 0))) := by rw [eh, hpx_get0]; rfl
  have hll : (List.replicate k z ++ List.replicate (n - k) (0 : Int)).length = n := by simp; omega
  by_cases hlt : (k : Int) < n
  · simp (disch := first | assumption | omega) only [e8, e7, hlt, aops_hop, go_sem, ↓reduceIte, Nat.reduceEqDiff, reduceCtorEq, Nat.reduceAdd, Nat.reduceLeDiff, Nat.reduceLT, reduceIte, Int.reduceBEq, Int.reduceBNe, Int.reduceLT, Int.reduceLE, Int.reduceAdd, Int.reduceSub, Int.reduceMul, Int.reduceNeg, Int.reduceEq, Int.reduceNe, Nat.reduceMul, Nat.reduceSub]
    refine ⟨⟨by omega, by omega⟩, by omega, ?_⟩
    refine copyInts (id := h.length) (o1 := k) (len1 := n - k) (cap1 := n - k) (o2 := 0) (k := k) (cap2 := n) (by simp (disch := first | assumption | omega) only [Nat.mul_one, go_sem, ↓reduceIte, Nat.reduceEqDiff, reduceCtorEq, Nat.reduceAdd, Nat.reduceLeDiff, Nat.reduceLT, reduceIte, Int.reduceBEq, Int.reduceBNe, Int.reduceLT, Int.reduceLE, Int.reduceAdd, Int.reduceSub, Int.reduceMul, Int.reduceNeg, Int.reduceEq, Int.reduceNe, Nat.reduceMul, Nat.reduceSub]) (by simp (disch := first | assumption | omega) only [go_sem, ↓reduceIte, Nat.reduceEqDiff, reduceCtorEq, Nat.reduceAdd, Nat.reduceLeDiff, Nat.reduceLT, reduceIte, Int.reduceBEq, Int.reduceBNe, Int.reduceLT, Int.reduceLE, Int.reduceAdd, Int.reduceSub, Int.reduceMul, Int.reduceNeg, Int.reduceEq, Int.reduceNe, Nat.reduceMul, Nat.reduceSub]) hge (by omega) (by omega) (by omega) (by omega) ?_
    rw [rep_fill z n k (by omega) (min k (n - k)) (by omega) (by omega), eh, hpx_set0]
    intro _
    have hw : IntKind.i64.wrap ((k : Int) + ((min k (n - k) : Nat) : Int)) = ((k + min k (n - k) : Nat) : Int) := by rw [wrapI64 (by omega) (by omega)]; omega
    simp (disch := first | assumption | omega) only [e8, e7, hw, go_sem, ↓reduceIte, Nat.reduceEqDiff, reduceCtorEq, Nat.reduceAdd, Nat.reduceLeDiff, Nat.reduceLT, reduceIte, Int.reduceBEq, Int.reduceBNe, Int.reduceLT, Int.reduceLE, Int.reduceAdd, Int.reduceSub, Int.reduceMul, Int.reduceNeg, Int.reduceEq, Int.reduceNe, Nat.reduceMul, Nat.reduceSub]
    exact ⟨n - (k + min k (n - k)), by omega, k + min k (n - k), by omega, by omega, rfl, rfl⟩
  · obtain rfl : k = n := by omega
    simp (disch := first | assumption | omega) only [e8, e7, hlt, go_sem, ↓reduceIte, Nat.reduceEqDiff, reduceCtorEq, Nat.reduceAdd, Nat.reduceLeDiff, Nat.reduceLT, reduceIte, Int.reduceBEq, Int.reduceBNe, Int.reduceLT, Int.reduceLE, Int.reduceAdd, Int.reduceSub, Int.reduceMul, Int.reduceNeg, Int.reduceEq, Int.reduceNe, Nat.reduceMul, Nat.reduceSub]
    refine own_ints' (k := .i64) (ns := List.replicate k z) (rest := []) (cap := k) (id := h.length) (by simp (disch := first | assumption | omega) only [e7, List.length_replicate, go_sem, ↓reduceIte, Nat.reduceEqDiff, reduceCtorEq, Nat.reduceAdd, Nat.reduceLeDiff, Nat.reduceLT, reduceIte, Int.reduceBEq, Int.reduceBNe, Int.reduceLT, Int.reduceLE, Int.reduceAdd, Int.reduceSub, Int.reduceMul, Int.reduceNeg, Int.reduceEq, Int.reduceNe, Nat.reduceMul, Nat.reduceSub]) (by rw [List.append_nil]; simp (disch := first | assumption | omega) only [hge, go_sem, ↓reduceIte, Nat.reduceEqDiff, reduceCtorEq, Nat.reduceAdd, Nat.reduceLeDiff, Nat.reduceLT, reduceIte, Int.reduceBEq, Int.reduceBNe, Int.reduceLT, Int.reduceLE, Int.reduceAdd, Int.reduceSub, Int.reduceMul, Int.reduceNeg, Int.reduceEq, Int.reduceNe, Nat.reduceMul, Nat.reduceSub]; simp) (by simp) (by simp) ?_
    rintro hp hhp
    rw [aw_grab]
    simp (disch := first | assumption | omega) only [go_sem, ↓reduceIte, Nat.reduceEqDiff, reduceCtorEq, Nat.reduceAdd, Nat.reduceLeDiff, Nat.reduceLT, reduceIte, Int.reduceBEq, Int.reduceBNe, Int.reduceLT, Int.reduceLE, Int.reduceAdd, Int.reduceSub, Int.reduceMul, Int.reduceNeg, Int.reduceEq, Int.reduceNe, Nat.reduceMul, Nat.reduceSub]
    subst hQ
    simp (disch := first | assumption | omega) only [R.slices_Repeat_int, go_sem, ↓reduceIte, Nat.reduceEqDiff, reduceCtorEq, Nat.reduceAdd, Nat.reduceLeDiff, Nat.reduceLT, reduceIte, Int.reduceBEq, Int.reduceBNe, Int.reduceLT, Int.reduceLE, Int.reduceAdd, Int.reduceSub, Int.reduceMul, Int.reduceNeg, Int.reduceEq, Int.reduceNe, Nat.reduceMul, Nat.reduceSub]
    rcases hhp with ⟨rfl, _⟩ | ⟨rfl, _⟩
    · exact ⟨_, eh, by simp [AVal.ids, ints_ids]⟩
    · exact ⟨_, by show S.heap.set h.length .dead = _; rw [eh, hpx_set0], by simp [AVal.ids, ints_ids]⟩
end Go.Proofs.Ytpdajkbfemcdlaa
/- Contracts: what is in rings. -/
set_option linter.unusedSimpArgs false
set_option linter.unusedVariables false
set_option maxRecDepth 10000
namespace Go.Proofs.Ytpdajkbfemcdlaa
open Go.Ge
open Classical in
/-- The first n nodes' part of those that wait for themselves. -/
noncomputable def stuckN (g : Gr) (n : Nat) : List Nat := (List.range n).filter fun i => decide (Rch g i i)
noncomputable def stuckL (g : Gr) : List Nat := stuckN g g.length
theorem stuckN_succ (g : Gr) (n : Nat) : (Rch g n n → stuckN g (n + 1) = stuckN g n ++ [n]) ∧ (¬Rch g n n → stuckN g (n + 1) = stuckN g n) := by
  unfold stuckN
  rw [List.range_succ, List.filter_append]
  exact ⟨fun h => by simp [h], fun h => by simp [h]⟩
theorem stuckN_length (g : Gr) (n : Nat) : (stuckN g n).length ≤ n := by
  unfold stuckN
  exact Nat.le_trans (List.length_filter_le _ _) (by simp)
theorem mem_stuckL {g : Gr} {k : Nat} : k ∈ stuckL g ↔ k < g.length ∧ Rch g k k := by
  simp [stuckL, stuckN]
/-- A graph that may be asked about. -/
structure Gfine (g : Gr) : Prop where
  ok : Gok g
  n64 : g.length ≤ 64
  few : pend g (List.replicate g.length false) ≤ 1099511627776
theorem Gfine.row {g : Gr} (h : Gfine g) (i : Nat) : (nx g i).length ≤ 1099511627776 := by
  by_cases hi : i < g.length
  · exact Nat.le_trans (pend_row hi) h.few
  · simp [nx, List.getD_eq_getElem?_getD, List.getElem?_eq_none (show g.length ≤ i by omega)]
theorem Gfine.rows {g : Gr} (h : Gfine g) : ∀ r ∈ toI g, r.length ≤ 1152921504606846976 := by
  intro r hr
  obtain ⟨i, hi, rfl⟩ := List.getElem_of_mem hr
  rw [toI_get hi, ni_length]
  exact Nat.le_trans (h.row i) (by omega)
theorem Gfine.graphE {g : Gr} (h : Gfine g) : graphE (toI g) = 0 := by
  unfold Go.Proofs.Ytpdajkbfemcdlaa.graphE
  rw [if_neg (by rw [toI_length]; have := h.n64; omega), if_neg]
  rw [List.any_eq_true]
  rintro ⟨r, hr, hb⟩
  obtain ⟨i, hi, rfl⟩ := List.getElem_of_mem hr
  rw [toI_get hi, List.any_eq_true] at hb
  obtain ⟨k, hk, hb⟩ := hb
  obtain ⟨n, hn, rfl⟩ := List.mem_map.1 hk
  have := h.ok i n hn
  simp only [badI, toI_length, Bool.or_eq_true, decide_eq_true_eq] at hb
  omega
theorem Stuck_bad (o : Own) (G : List (List Int)) (xs : List AVal) (ho : Rdo o) (hx : Each2 RowOk G xs) (hl : ∀ r ∈ G, r.length ≤ 1152921504606846976) (hn : G.length ≤ 1152921504606846976) (he : graphE G ≠ 0) (h : List HObj) :
    ACalls Try.prog F.ring_Stuck [.lst o xs] h (fun r h' => r = .tup [.lst .nil [], .int .i64 (graphE G)] ∧ h' = h) := by
  refine ACalls.of_aw Try.func96 K.ring_Stuck (by simp [Try.f96]) ?_
  generalize hQ : retQ R.ring_Stuck _ = Q
  simp (disch := first | assumption | omega) only [C.ring_Stuck, go_sem, ↓reduceIte, Nat.reduceEqDiff, reduceCtorEq, Nat.reduceAdd, Nat.reduceLeDiff, Nat.reduceLT, reduceIte, Int.reduceBEq, Int.reduceBNe, Int.reduceLT, Int.reduceLE, Int.reduceAdd, Int.reduceSub, Int.reduceMul, Int.reduceNeg, Int.reduceEq, Int.reduceNe, Nat.reduceMul, Nat.reduceSub]
  refine callG_ok (Check_ring_ok o G xs ho hx hl hn _) (by simp (disch := first | assumption | omega) only [go_sem, ↓reduceIte, Nat.reduceEqDiff, reduceCtorEq, Nat.reduceAdd, Nat.reduceLeDiff, Nat.reduceLT, reduceIte, Int.reduceBEq, Int.reduceBNe, Int.reduceLT, Int.reduceLE, Int.reduceAdd, Int.reduceSub, Int.reduceMul, Int.reduceNeg, Int.reduceEq, Int.reduceNe, Nat.reduceMul, Nat.reduceSub]) ?_
  rintro _ _ ⟨rfl, hhh⟩
  rw [hhh]
  clear hhh
  simp (disch := first | assumption | omega) only [he, go_sem, ↓reduceIte, Nat.reduceEqDiff, reduceCtorEq, Nat.reduceAdd, Nat.reduceLeDiff, Nat.reduceLT, reduceIte, Int.reduceBEq, Int.reduceBNe, Int.reduceLT, Int.reduceLE, Int.reduceAdd, Int.reduceSub, Int.reduceMul, Int.reduceNeg, Int.reduceEq, Int.reduceNe, Nat.reduceMul, Nat.reduceSub]
  subst hQ
  simp (disch := first | assumption | omega) only [R.ring_Stuck, go_sem, ↓reduceIte, Nat.reduceEqDiff, reduceCtorEq, Nat.reduceAdd, Nat.reduceLeDiff, Nat.reduceLT, reduceIte, Int.reduceBEq, Int.reduceBNe, Int.reduceLT, Int.reduceLE, Int.reduceAdd, Int.reduceSub, Int.reduceMul, Int.reduceNeg, Int.reduceEq, Int.reduceNe, Nat.reduceMul, Nat.reduceSub]
theorem Stuck_ok (o : Own) (g : Gr) (xs : List AVal) (ho : Rdo o) (hg : Gfine g) (hx : Each2 RowOk (toI g) xs) (h : List HObj) :
    ACalls Try.prog F.ring_Stuck [.lst o xs] h (fun r h' => (∃ q, r = .tup [.lst q (ints .i64 (ni (stuckL g))), .int .i64 0] ∧ (q = .nil ∧ stuckL g = [] ∨ q = .app 1)) ∧ h' = h) := by
  have lx := hx.length
  rw [toI_length] at lx
  have n64 := hg.n64
  have hE := hg.graphE
  refine ACalls.of_aw Try.func96 K.ring_Stuck (by simp [Try.f96]) ?_
  generalize hQ : retQ R.ring_Stuck _ = Q
  simp (disch := first | assumption | omega) only [C.ring_Stuck, go_sem, ↓reduceIte, Nat.reduceEqDiff, reduceCtorEq, Nat.reduceAdd, Nat.reduceLeDiff, Nat.reduceLT, reduceIte, Int.reduceBEq, Int.reduceBNe, Int.reduceLT, Int.reduceLE, Int.reduceAdd, Int.reduceSub, Int.reduceMul, Int.reduceNeg, Int.reduceEq, Int.reduceNe, Nat.reduceMul, Nat.reduceSub]
  refine callG_ok (Check_ring_ok o (toI g) xs ho hx hg.rows (by rw [toI_length]; omega) _) (by simp (disch := first | assumption | omega) only [go_sem, ↓reduceIte, Nat.reduceEqDiff, reduceCtorEq, Nat.reduceAdd, Nat.reduceLeDiff, Nat.reduceLT, reduceIte, Int.reduceBEq, Int.reduceBNe, Int.reduceLT, Int.reduceLE, Int.reduceAdd, Int.reduceSub, Int.reduceMul, Int.reduceNeg, Int.reduceEq, Int.reduceNe, Nat.reduceMul, Nat.reduceSub]) ?_
  rintro _ _ ⟨rfl, hhh⟩
  rw [hhh, hE]
  clear hhh
  simp (disch := first | assumption | omega) only [lx, go_sem, ↓reduceIte, Nat.reduceEqDiff, reduceCtorEq, Nat.reduceAdd, Nat.reduceLeDiff, Nat.reduceLT, reduceIte, Int.reduceBEq, Int.reduceBNe, Int.reduceLT, Int.reduceLE, Int.reduceAdd, Int.reduceSub, Int.reduceMul, Int.reduceNeg, Int.reduceEq, Int.reduceNe, Nat.reduceMul, Nat.reduceSub]
  refine aw_count (fun d S => ∃ (i : Nat) (q : Own), i + d = g.length ∧ S.env 14 = .int .i64 i ∧ S.env 13 = .int .i64 g.length ∧ S.env 0 = .lst o xs ∧ S.env 5 = .lst q (ints .i64 (ni (stuckN g i))) ∧ (q = .nil ∧ stuckN g i = [] ∨ q = .app 1) ∧ S.heap = h) (n := g.length)
    ⟨0, .nil, by omega, by simp (disch := first | assumption | omega) only [go_sem, ↓reduceIte, Nat.reduceEqDiff, reduceCtorEq, Nat.reduceAdd, Nat.reduceLeDiff, Nat.reduceLT, reduceIte, Int.reduceBEq, Int.reduceBNe, Int.reduceLT, Int.reduceLE, Int.reduceAdd, Int.reduceSub, Int.reduceMul, Int.reduceNeg, Int.reduceEq, Int.reduceNe, Nat.reduceMul, Nat.reduceSub], by simp (disch := first | assumption | omega) only [go_sem, ↓reduceIte, Nat.reduceEqDiff, reduceCtorEq, Nat.reduceAdd, Nat.reduceLeDiff, Nat.reduceLT, reduceIte, Int.reduceBEq, Int.reduceBNe, Int.reduceLT, Int.reduceLE, Int.reduceAdd, Int.reduceSub, Int.reduceMul, Int.reduceNeg, Int.reduceEq, Int.reduceNe, Nat.reduceMul, Nat.reduceSub], by simp (disch := first | assumption | omega) only [go_sem, ↓reduceIte, Nat.reduceEqDiff, reduceCtorEq, Nat.reduceAdd, Nat.reduceLeDiff, Nat.reduceLT, reduceIte, Int.reduceBEq, Int.reduceBNe, Int.reduceLT, Int.reduceLE, Int.reduceAdd, Int.reduceSub, Int.reduceMul, Int.reduceNeg, Int.reduceEq, Int.reduceNe, Nat.reduceMul, Nat.reduceSub], by simp (disch := first | assumption | omega) only [go_sem, ↓reduceIte, Nat.reduceEqDiff, reduceCtorEq, Nat.reduceAdd, Nat.reduceLeDiff, Nat.reduceLT, reduceIte, Int.reduceBEq, Int.reduceBNe, Int.reduceLT, Int.reduceLE, Int.reduceAdd, Int.reduceSub, Int.reduceMul, Int.reduceNeg, Int.reduceEq, Int.reduceNe, Nat.reduceMul, Nat.reduceSub]; rfl, .inl ⟨rfl, rfl⟩, by simp (disch := first | assumption | omega) only [go_sem, ↓reduceIte, Nat.reduceEqDiff, reduceCtorEq, Nat.reduceAdd, Nat.reduceLeDiff, Nat.reduceLT, reduceIte, Int.reduceBEq, Int.reduceBNe, Int.reduceLT, Int.reduceLE, Int.reduceAdd, Int.reduceSub, Int.reduceMul, Int.reduceNeg, Int.reduceEq, Int.reduceNe, Nat.reduceMul, Nat.reduceSub]⟩ ?_
  rintro d S ⟨i, q, hi, e14, e13, e0, e5, hq, eh⟩
  have hsl := stuckN_length g i
  have hs1 := stuckN_succ g i
  by_cases hlt : (i : Int) < g.length
  · have hi1 : i < g.length := by omega
    have hn1 : ∀ l : List Nat, ints .i64 (ni l) ++ [AVal.int .i64 i] = ints .i64 (ni (l ++ [i])) := fun l => by rw [ni_append, ← ints_append]; rfl
    rcases hq with ⟨rfl, hnil⟩ | rfl
    · rw [hnil] at e5 hs1
      simp (disch := first | assumption | omega) only [e14, e13, e0, e5, eh, hlt, go_sem, ↓reduceIte, Nat.reduceEqDiff, reduceCtorEq, Nat.reduceAdd, Nat.reduceLeDiff, Nat.reduceLT, reduceIte, Int.reduceBEq, Int.reduceBNe, Int.reduceLT, Int.reduceLE, Int.reduceAdd, Int.reduceSub, Int.reduceMul, Int.reduceNeg, Int.reduceEq, Int.reduceNe, Nat.reduceMul, Nat.reduceSub]
      refine callG_ok (steps_ok o g xs ho hg.ok hx i hi1 (by omega) hg.few _) (by simp (disch := first | assumption | omega) only [go_sem, ↓reduceIte, Nat.reduceEqDiff, reduceCtorEq, Nat.reduceAdd, Nat.reduceLeDiff, Nat.reduceLT, reduceIte, Int.reduceBEq, Int.reduceBNe, Int.reduceLT, Int.reduceLE, Int.reduceAdd, Int.reduceSub, Int.reduceMul, Int.reduceNeg, Int.reduceEq, Int.reduceNe, Nat.reduceMul, Nat.reduceSub]) ?_
      rintro _ _ ⟨⟨s, rfl, hs, hsr⟩, hhh⟩
      rw [hhh]
      clear hhh
      have hat := at_bls (s := s) (k := i) (by omega)
      have hbl := bls_length s
      by_cases hr : Rch g i i
      · rw [(hsr i).2 hr] at hat
        simp (disch := first | assumption | omega) only [e14, e13, e0, e5, eh, hat, hbl, hs, hlt, go_sem, ↓reduceIte, Nat.reduceEqDiff, reduceCtorEq, Nat.reduceAdd, Nat.reduceLeDiff, Nat.reduceLT, reduceIte, Int.reduceBEq, Int.reduceBNe, Int.reduceLT, Int.reduceLE, Int.reduceAdd, Int.reduceSub, Int.reduceMul, Int.reduceNeg, Int.reduceEq, Int.reduceNe, Nat.reduceMul, Nat.reduceSub]
        exact ⟨rfl, by simp [ni], by simp [ni], d - 1, by omega, i + 1, _, by omega, by simp, by rw [hs1.1 hr, hn1], .inr rfl⟩
      · rw [show s.getD i false = false by rw [← Bool.not_eq_true, hsr i]; exact hr] at hat
        simp (disch := first | assumption | omega) only [e14, e13, e0, e5, eh, hat, hbl, hs, hlt, go_sem, ↓reduceIte, Nat.reduceEqDiff, reduceCtorEq, Nat.reduceAdd, Nat.reduceLeDiff, Nat.reduceLT, reduceIte, Int.reduceBEq, Int.reduceBNe, Int.reduceLT, Int.reduceLE, Int.reduceAdd, Int.reduceSub, Int.reduceMul, Int.reduceNeg, Int.reduceEq, Int.reduceNe, Nat.reduceMul, Nat.reduceSub]
        exact ⟨d - 1, by omega, i + 1, _, by omega, by simp, by rw [hs1.2 hr], .inl ⟨rfl, hs1.2 hr⟩⟩
    · skip
      simp (disch := first | assumption | omega) only [e14, e13, e0, e5, eh, hlt, go_sem, ↓reduceIte, Nat.reduceEqDiff, reduceCtorEq, Nat.reduceAdd, Nat.reduceLeDiff, Nat.reduceLT, reduceIte, Int.reduceBEq, Int.reduceBNe, Int.reduceLT, Int.reduceLE, Int.reduceAdd, Int.reduceSub, Int.reduceMul, Int.reduceNeg, Int.reduceEq, Int.reduceNe, Nat.reduceMul, Nat.reduceSub]
      refine callG_ok (steps_ok o g xs ho hg.ok hx i hi1 (by omega) hg.few _) (by simp (disch := first | assumption | omega) only [go_sem, ↓reduceIte, Nat.reduceEqDiff, reduceCtorEq, Nat.reduceAdd, Nat.reduceLeDiff, Nat.reduceLT, reduceIte, Int.reduceBEq, Int.reduceBNe, Int.reduceLT, Int.reduceLE, Int.reduceAdd, Int.reduceSub, Int.reduceMul, Int.reduceNeg, Int.reduceEq, Int.reduceNe, Nat.reduceMul, Nat.reduceSub]) ?_
      rintro _ _ ⟨⟨s, rfl, hs, hsr⟩, hhh⟩
      rw [hhh]
      clear hhh
      have hat := at_bls (s := s) (k := i) (by omega)
      have hbl := bls_length s
      by_cases hr : Rch g i i
      · rw [(hsr i).2 hr] at hat
        simp (disch := first | assumption | omega) only [e14, e13, e0, e5, eh, hat, hbl, hs, hlt, ni_length, go_sem, ↓reduceIte, Nat.reduceEqDiff, reduceCtorEq, Nat.reduceAdd, Nat.reduceLeDiff, Nat.reduceLT, reduceIte, Int.reduceBEq, Int.reduceBNe, Int.reduceLT, Int.reduceLE, Int.reduceAdd, Int.reduceSub, Int.reduceMul, Int.reduceNeg, Int.reduceEq, Int.reduceNe, Nat.reduceMul, Nat.reduceSub]
        exact ⟨by omega, by omega, d - 1, by omega, i + 1, _, by omega, by simp, by rw [hs1.1 hr, hn1], .inr rfl⟩
      · rw [show s.getD i false = false by rw [← Bool.not_eq_true, hsr i]; exact hr] at hat
        simp (disch := first | assumption | omega) only [e14, e13, e0, e5, eh, hat, hbl, hs, hlt, go_sem, ↓reduceIte, Nat.reduceEqDiff, reduceCtorEq, Nat.reduceAdd, Nat.reduceLeDiff, Nat.reduceLT, reduceIte, Int.reduceBEq, Int.reduceBNe, Int.reduceLT, Int.reduceLE, Int.reduceAdd, Int.reduceSub, Int.reduceMul, Int.reduceNeg, Int.reduceEq, Int.reduceNe, Nat.reduceMul, Nat.reduceSub]
        exact ⟨d - 1, by omega, i + 1, _, by omega, by simp, by rw [hs1.2 hr], .inr rfl⟩
  · obtain rfl : i = g.length := by omega
    rcases hq with ⟨rfl, hnil⟩ | rfl
    · simp (disch := first | assumption | omega) only [e14, e13, e0, e5, eh, hlt, go_sem, ↓reduceIte, Nat.reduceEqDiff, reduceCtorEq, Nat.reduceAdd, Nat.reduceLeDiff, Nat.reduceLT, reduceIte, Int.reduceBEq, Int.reduceBNe, Int.reduceLT, Int.reduceLE, Int.reduceAdd, Int.reduceSub, Int.reduceMul, Int.reduceNeg, Int.reduceEq, Int.reduceNe, Nat.reduceMul, Nat.reduceSub]
      subst hQ
      simp (disch := first | assumption | omega) only [R.ring_Stuck, go_sem, ↓reduceIte, Nat.reduceEqDiff, reduceCtorEq, Nat.reduceAdd, Nat.reduceLeDiff, Nat.reduceLT, reduceIte, Int.reduceBEq, Int.reduceBNe, Int.reduceLT, Int.reduceLE, Int.reduceAdd, Int.reduceSub, Int.reduceMul, Int.reduceNeg, Int.reduceEq, Int.reduceNe, Nat.reduceMul, Nat.reduceSub]
      exact ⟨⟨.nil, rfl, .inl ⟨rfl, hnil⟩⟩, eh⟩
    · simp (disch := first | assumption | omega) only [e14, e13, e0, e5, eh, hlt, go_sem, ↓reduceIte, Nat.reduceEqDiff, reduceCtorEq, Nat.reduceAdd, Nat.reduceLeDiff, Nat.reduceLT, reduceIte, Int.reduceBEq, Int.reduceBNe, Int.reduceLT, Int.reduceLE, Int.reduceAdd, Int.reduceSub, Int.reduceMul, Int.reduceNeg, Int.reduceEq, Int.reduceNe, Nat.reduceMul, Nat.reduceSub]
      subst hQ
      simp (disch := first | assumption | omega) only [R.ring_Stuck, go_sem, ↓reduceIte, Nat.reduceEqDiff, reduceCtorEq, Nat.reduceAdd, Nat.reduceLeDiff, Nat.reduceLT, reduceIte, Int.reduceBEq, Int.reduceBNe, Int.reduceLT, Int.reduceLE, Int.reduceAdd, Int.reduceSub, Int.reduceMul, Int.reduceNeg, Int.reduceEq, Int.reduceNe, Nat.reduceMul, Nat.reduceSub]
      exact ⟨⟨.app 1, rfl, .inr rfl⟩, eh⟩
end Go.Proofs.Ytpdajkbfemcdlaa
/- Contracts: shortest rings. -/
set_option linter.unusedSimpArgs false
set_option linter.unusedVariables false
set_option maxRecDepth 10000
namespace Go.Proofs.Ytpdajkbfemcdlaa
open Go.Ge
/-- May node k be the next one? -/
def hitC (t n : Nat) (F : List Int) (k : Nat) : Prop := n = 1 ∧ k = t ∨ 1 < n ∧ F.getD k 0 = (n : Int) - 1
theorem hitB_nil {g : Gr} {t n : Nat} {F : List Int} : hitB g t n F [] = false := by simp [hitB]
theorem hitB_snoc {g : Gr} {t n : Nat} {F : List Int} {l : List Nat} {k : Nat} : (hitC t n F k → hitB g t n F (l ++ [k]) = true) ∧ (¬hitC t n F k → hitB g t n F (l ++ [k]) = hitB g t n F l) := by
  unfold hitB hitC
  constructor
  · intro h
    exact decide_eq_true ⟨k, by simp, h⟩
  · intro h
    have : (∃ k_1 ∈ l ++ [k], n = 1 ∧ k_1 = t ∨ 1 < n ∧ F.getD k_1 0 = (n : Int) - 1) ↔ (∃ k_1 ∈ l, n = 1 ∧ k_1 = t ∨ 1 < n ∧ F.getD k_1 0 = (n : Int) - 1) := by
      constructor
      · rintro ⟨a, ha, hc⟩
        rcases List.mem_append.1 ha with ha | ha
        · exact ⟨a, ha, hc⟩
        · simp at ha; subst ha; exact absurd hc h
      · rintro ⟨a, ha, hc⟩; exact ⟨a, by simp [ha], hc⟩
    by_cases h1 : ∃ k_1 ∈ l, n = 1 ∧ k_1 = t ∨ 1 < n ∧ F.getD k_1 0 = (n : Int) - 1
    · rw [decide_eq_true h1, decide_eq_true (this.2 h1)]
    · rw [decide_eq_false h1, decide_eq_false (fun h => h1 (this.1 h))]
open Classical in
/-- After r rows, and j elements of the next one. -/
def PartF (g : Gr) (t n : Nat) (F : List Int) (r j : Nat) (now : List Int) : Prop :=
  now.length = g.length ∧ ∀ a, a < g.length → now.getD a 0 = if a < r then (stepF g t n F).getD a 0 else if a = r ∧ F.getD a 0 < 0 ∧ hitB g t n F ((nx g r).take j) = true then (n : Int) else F.getD a 0
theorem PartF.start {g : Gr} {t n : Nat} {F : List Int} (hF : F.length = g.length) : PartF g t n F 0 0 F := by
  refine ⟨hF, fun a _ => ?_⟩
  rw [if_neg (by omega), if_neg (by rw [List.take_zero, hitB_nil]; simp)]
theorem PartF.row {g : Gr} {t n r : Nat} {F now : List Int} (h : PartF g t n F r (nx g r).length now) : PartF g t n F (r + 1) 0 now := by
  refine ⟨h.1, fun a ha => ?_⟩
  rw [h.2 a ha, List.take_length]
  rw [if_neg (c := a = r + 1 ∧ _ ∧ _) (by rw [List.take_zero, hitB_nil]; simp)]
  by_cases e : a = r
  · subst e
    rw [if_neg (Nat.lt_irrefl a), if_pos (Nat.lt_succ_self a), stepF_get ha]
    simp
  · by_cases hl : a < r
    · rw [if_pos hl, if_pos (by omega)]
    · rw [if_neg hl, if_neg (fun h => e h.1), if_neg (by omega)]
theorem PartF.skip {g : Gr} {t n r j : Nat} {F now : List Int} (h : PartF g t n F r j now) (hj : j < (nx g r).length) (hn : ¬F.getD r 0 < 0 ∨ ¬hitC t n F (nx g r)[j]) : PartF g t n F r (j + 1) now := by
  refine ⟨h.1, fun a ha => ?_⟩
  rw [h.2 a ha, List.take_add_one, List.getElem?_eq_getElem hj]
  rcases hn with hn | hn
  · by_cases e : a = r
    · subst e
      rw [if_neg (c := a = a ∧ _ ∧ _) (fun h => hn h.2.1), if_neg (c := a = a ∧ _ ∧ _) (fun h => hn h.2.1)]
    · rw [if_neg (c := a = r ∧ _ ∧ _) (fun h => e h.1), if_neg (c := a = r ∧ _ ∧ _) (fun h => e h.1)]
  · rw [Option.toList_some, hitB_snoc.2 hn]
theorem PartF.hit {g : Gr} {t n r j : Nat} {F now : List Int} (h : PartF g t n F r j now) (hr : r < g.length) (hj : j < (nx g r).length) (hf : F.getD r 0 < 0) (hc : hitC t n F (nx g r)[j]) : PartF g t n F r (j + 1) (now.set r n) := by
  refine ⟨by rw [List.length_set]; exact h.1, fun a ha => ?_⟩
  have hl := h.1
  rw [List.take_add_one, List.getElem?_eq_getElem hj, Option.toList_some, hitB_snoc.1 hc]
  by_cases e : a = r
  · subst e
    rw [if_neg (Nat.lt_irrefl a), if_pos ⟨rfl, hf, rfl⟩, List.getD_eq_getElem?_getD, List.getElem?_set_self (by omega)]; rfl
  · have h2 := h.2 a ha
    rw [List.getD_eq_getElem?_getD] at h2
    rw [List.getD_eq_getElem?_getD, List.getElem?_set_ne (fun h => e h.symm), h2]
    by_cases hla : a < r
    · rw [if_pos hla, if_pos hla]
    · rw [if_neg hla, if_neg hla, if_neg (fun h => e h.1), if_neg (fun h => e h.1)]
theorem PartF.done {g : Gr} {t n : Nat} {F now : List Int} (h : PartF g t n F g.length 0 now) : now = stepF g t n F := by
  apply List.ext_getElem
  · rw [h.1]; simp [stepF]
  · intro a h1 h2
    have ha : a < g.length := by rw [← h.1]; exact h1
    have := h.2 a ha
    rw [if_pos ha, List.getD_eq_getElem?_getD, List.getD_eq_getElem?_getD, List.getElem?_eq_getElem h1, List.getElem?_eq_getElem h2] at this
    simpa using this
theorem bestN_snoc {F : List Int} {d : Int} (k : Nat) : ∀ (l : List Nat) (b : Int), bestN F d (l ++ [k]) b = if F.getD k 0 = d ∧ (bestN F d l b < 0 ∨ (k : Int) < bestN F d l b) then (k : Int) else bestN F d l b
  | [], b => by simp [bestN]
  | x :: l, b => by rw [List.cons_append, bestN, bestN_snoc k l, bestN]
theorem best_ok {g : Gr} (hg : Gok g) {t n : Nat} {F : List Int} (hF : FarOk g t n F) {d i : Nat} (hdn : d + 2 ≤ n) (h : Ld g t (d + 2) i) : ∃ m : Nat, bestN F ((d : Int) + 1) (nx g i) (-1) = m ∧ m ∈ nx g i ∧ Ld g t (d + 1) m := by
  obtain ⟨k, hk, hkd⟩ := h.next
  rcases bestN_spec (F := F) (d := (d : Int) + 1) (nx g i) (-1) (.inl rfl) with ⟨_, _, h3⟩ | ⟨m, h1, h2, _, h4⟩
  · refine absurd ?_ (h3 k hk)
    rcases hF.2 k (hg i k hk) with ⟨_, e⟩ | ⟨d', e, _, hd'⟩
    · exact absurd hkd.1 (e _ (by omega))
    · rw [e, ← hkd.uniq hd']; omega
  · have h2 : m ∈ nx g i ∧ F.getD m 0 = (d : Int) + 1 := h2.elim (fun e => by omega) id
    refine ⟨m, h1, h2.1, ?_⟩
    rcases hF.2 m (hg i m h2.1) with ⟨e, _⟩ | ⟨d', e, _, hd'⟩
    · omega
    · obtain rfl : d' = d + 1 := by omega
      exact hd'
theorem FarOk.at {g : Gr} {t n d i : Nat} {F : List Int} (h : FarOk g t n F) (hi : i < g.length) (hd : Ld g t d i) : (d ≤ n → F.getD i 0 = d) ∧ (n < d → F.getD i 0 = -1) := by
  rcases h.2 i hi with ⟨e, hn⟩ | ⟨d', e, hd', hl⟩
  · exact ⟨fun hdn => absurd hd.1 (hn d hdn), fun _ => e⟩
  · have := hl.uniq hd
    subst this
    exact ⟨fun _ => e, fun h => by omega⟩
theorem shortest_ok (o : Own) (g : Gr) (xs : List AVal) (ho : Rdo o) (hg : Gfine g) (hx : Each2 RowOk (toI g) xs) (i : Nat) (hi : i < g.length) (hr : Rch g i i) (h : List HObj) :
    ACalls Try.prog F.ring_shortest [.lst o xs, .int .i64 i] h (fun r h' => (∃ d F, Ld g i d i ∧ FarOk g i d F ∧ r = .lst (.app 1) (ints .i64 (ni (wayF g F d i)))) ∧ h' = h) := by
  have lx := hx.length
  rw [toI_length] at lx
  have n64 := hg.n64
  obtain ⟨D, hD⟩ := hr.ld
  have hDs := hD.short
  have hD1 := hD.1.pos
  refine ACalls.gcn (ACalls.of_aw Try.func170 K.ring_shortest (by simp [Try.f170]) ?_)
  generalize hQ : retQ R.ring_shortest _ = Q
  simp (disch := first | assumption | omega) only [C.ring_shortest, go_sem, ↓reduceIte, Nat.reduceEqDiff, reduceCtorEq, Nat.reduceAdd, Nat.reduceLeDiff, Nat.reduceLT, reduceIte, Int.reduceBEq, Int.reduceBNe, Int.reduceLT, Int.reduceLE, Int.reduceAdd, Int.reduceSub, Int.reduceMul, Int.reduceNeg, Int.reduceEq, Int.reduceNe, Nat.reduceMul, Nat.reduceSub]
  simp (disch := first | assumption | omega) only [lx, go_sem, ↓reduceIte, Nat.reduceEqDiff, reduceCtorEq, Nat.reduceAdd, Nat.reduceLeDiff, Nat.reduceLT, reduceIte, Int.reduceBEq, Int.reduceBNe, Int.reduceLT, Int.reduceLE, Int.reduceAdd, Int.reduceSub, Int.reduceMul, Int.reduceNeg, Int.reduceEq, Int.reduceNe, Nat.reduceMul, Nat.reduceSub]
  refine callG_ok (Repeat_ok .sh (-1) g.length (.inl rfl) (by omega) (by omega) _) (by simp (disch := first | assumption | omega) only [go_sem, ↓reduceIte, Nat.reduceEqDiff, reduceCtorEq, Nat.reduceAdd, Nat.reduceLeDiff, Nat.reduceLT, reduceIte, Int.reduceBEq, Int.reduceBNe, Int.reduceLT, Int.reduceLE, Int.reduceAdd, Int.reduceSub, Int.reduceMul, Int.reduceNeg, Int.reduceEq, Int.reduceNe, Nat.reduceMul, Nat.reduceSub]; try rfl) ?_
  rintro _ _ ⟨rfl, hhh⟩
  rw [hhh]
  clear hhh
  simp (disch := first | assumption | omega) only [go_sem, ↓reduceIte, Nat.reduceEqDiff, reduceCtorEq, Nat.reduceAdd, Nat.reduceLeDiff, Nat.reduceLT, reduceIte, Int.reduceBEq, Int.reduceBNe, Int.reduceLT, Int.reduceLE, Int.reduceAdd, Int.reduceSub, Int.reduceMul, Int.reduceNeg, Int.reduceEq, Int.reduceNe, Nat.reduceMul, Nat.reduceSub]
  refine aw_count (fun d S => ∃ (n : Nat) (F : List Int) (ext : List HObj), n + d = D + 1 ∧ 1 ≤ n ∧ S.env 6 = .int .i64 n ∧ S.env 5 = .lst .sh (ints .i64 F) ∧ FarOk g i (n - 1) F ∧ S.env 0 = .lst o xs ∧ S.env 1 = .int .i64 i ∧ S.heap = h ++ ext) (n := D)
    ⟨1, List.replicate g.length (-1), [], by omega, by omega, by simp (disch := first | assumption | omega) only [go_sem, ↓reduceIte, Nat.reduceEqDiff, reduceCtorEq, Nat.reduceAdd, Nat.reduceLeDiff, Nat.reduceLT, reduceIte, Int.reduceBEq, Int.reduceBNe, Int.reduceLT, Int.reduceLE, Int.reduceAdd, Int.reduceSub, Int.reduceMul, Int.reduceNeg, Int.reduceEq, Int.reduceNe, Nat.reduceMul, Nat.reduceSub]; rfl, by simp (disch := first | assumption | omega) only [go_sem, ↓reduceIte, Nat.reduceEqDiff, reduceCtorEq, Nat.reduceAdd, Nat.reduceLeDiff, Nat.reduceLT, reduceIte, Int.reduceBEq, Int.reduceBNe, Int.reduceLT, Int.reduceLE, Int.reduceAdd, Int.reduceSub, Int.reduceMul, Int.reduceNeg, Int.reduceEq, Int.reduceNe, Nat.reduceMul, Nat.reduceSub], FarOk.start g i, by simp (disch := first | assumption | omega) only [go_sem, ↓reduceIte, Nat.reduceEqDiff, reduceCtorEq, Nat.reduceAdd, Nat.reduceLeDiff, Nat.reduceLT, reduceIte, Int.reduceBEq, Int.reduceBNe, Int.reduceLT, Int.reduceLE, Int.reduceAdd, Int.reduceSub, Int.reduceMul, Int.reduceNeg, Int.reduceEq, Int.reduceNe, Nat.reduceMul, Nat.reduceSub], by simp (disch := first | assumption | omega) only [go_sem, ↓reduceIte, Nat.reduceEqDiff, reduceCtorEq, Nat.reduceAdd, Nat.reduceLeDiff, Nat.reduceLT, reduceIte, Int.reduceBEq, Int.reduceBNe, Int.reduceLT, Int.reduceLE, Int.reduceAdd, Int.reduceSub, Int.reduceMul, Int.reduceNeg, Int.reduceEq, Int.reduceNe, Nat.reduceMul, Nat.reduceSub], by simp (disch := first | assumption | omega) only [go_sem, ↓reduceIte, Nat.reduceEqDiff, reduceCtorEq, Nat.reduceAdd, Nat.reduceLeDiff, Nat.reduceLT, reduceIte, Int.reduceBEq, Int.reduceBNe, Int.reduceLT, Int.reduceLE, Int.reduceAdd, Int.reduceSub, Int.reduceMul, Int.reduceNeg, Int.reduceEq, Int.reduceNe, Nat.reduceMul, Nat.reduceSub]⟩ ?_
  rintro d S ⟨n, F, ext, hnd, hn1, e6, e5, hF, e0, e1, eh⟩
  have hFl := hF.1
  have hFi := hF.at hi hD
  have hati : at_ (ints .i64 F) (i : Int) = .int .i64 (F.getD i 0) := at_ints' F i (by omega)
  have hil : (i : Int) < F.length := by omega
  by_cases hnD : n ≤ D
  · have hneg : F.getD i 0 < 0 := by rw [hFi.2 (by omega)]; omega
    simp (disch := first | assumption | omega) only [e6, e5, e0, e1, hati, hil, hneg, go_sem, ↓reduceIte, Nat.reduceEqDiff, reduceCtorEq, Nat.reduceAdd, Nat.reduceLeDiff, Nat.reduceLT, reduceIte, Int.reduceBEq, Int.reduceBNe, Int.reduceLT, Int.reduceLE, Int.reduceAdd, Int.reduceSub, Int.reduceMul, Int.reduceNeg, Int.reduceEq, Int.reduceNe, Nat.reduceMul, Nat.reduceSub]
    obtain ⟨H, hH⟩ : ∃ H, H = h ++ ext := ⟨_, rfl⟩
    rw [← hH] at eh
    refine callG_ok (CloneIntU_ok .sh F ⟨.inl rfl, fun e => by cases e⟩ (by omega) _) (by simp (disch := first | assumption | omega) only [go_sem, ↓reduceIte, Nat.reduceEqDiff, reduceCtorEq, Nat.reduceAdd, Nat.reduceLeDiff, Nat.reduceLT, reduceIte, Int.reduceBEq, Int.reduceBNe, Int.reduceLT, Int.reduceLE, Int.reduceAdd, Int.reduceSub, Int.reduceMul, Int.reduceNeg, Int.reduceEq, Int.reduceNe, Nat.reduceMul, Nat.reduceSub]) ?_
    rintro _ _ ⟨hcl, hhh⟩
    rw [hhh]
    clear hhh
    rcases hcl with ⟨_, hcl⟩ | ⟨c, rfl, hc⟩
    · rw [hcl] at hFl; simp at hFl; omega
    simp (disch := first | assumption | omega) only [go_sem, ↓reduceIte, Nat.reduceEqDiff, reduceCtorEq, Nat.reduceAdd, Nat.reduceLeDiff, Nat.reduceLT, reduceIte, Int.reduceBEq, Int.reduceBNe, Int.reduceLT, Int.reduceLE, Int.reduceAdd, Int.reduceSub, Int.reduceMul, Int.reduceNeg, Int.reduceEq, Int.reduceNe, Nat.reduceMul, Nat.reduceSub]
    refine thaw_ints' (k := .i64) (ns := F) (cap := c) (by simp (disch := first | assumption | omega) only [go_sem, ↓reduceIte, Nat.reduceEqDiff, reduceCtorEq, Nat.reduceAdd, Nat.reduceLeDiff, Nat.reduceLT, reduceIte, Int.reduceBEq, Int.reduceBNe, Int.reduceLT, Int.reduceLE, Int.reduceAdd, Int.reduceSub, Int.reduceMul, Int.reduceNeg, Int.reduceEq, Int.reduceNe, Nat.reduceMul, Nat.reduceSub]) hc ?_
    have hid : S.heap.length = H.length := by rw [eh]
    simp (disch := first | assumption | omega) only [e0, lx, go_sem, ↓reduceIte, Nat.reduceEqDiff, reduceCtorEq, Nat.reduceAdd, Nat.reduceLeDiff, Nat.reduceLT, reduceIte, Int.reduceBEq, Int.reduceBNe, Int.reduceLT, Int.reduceLE, Int.reduceAdd, Int.reduceSub, Int.reduceMul, Int.reduceNeg, Int.reduceEq, Int.reduceNe, Nat.reduceMul, Nat.reduceSub]
    have hn0 : n - 1 + 1 = n := by omega
    refine aw_count (fun d' S' => ∃ (r : Nat) (now : List Int), r + d' = g.length ∧ S'.env 33 = .int .i64 r ∧ S'.env 32 = .int .i64 g.length ∧ S'.env 31 = .lst o xs ∧ S'.env 7 = .ref H.length 0 F.length c ∧ S'.env 6 = .int .i64 n ∧ S'.env 5 = .lst .sh (ints .i64 F) ∧ S'.env 0 = .lst o xs ∧ S'.env 1 = .int .i64 i ∧ PartF g i n F r 0 now ∧ S'.heap = H ++ [.cells (ints .i64 now ++ List.replicate (c - F.length) .junk)]) (n := g.length)
      ⟨0, F, by omega, by simp (disch := first | assumption | omega) only [go_sem, ↓reduceIte, Nat.reduceEqDiff, reduceCtorEq, Nat.reduceAdd, Nat.reduceLeDiff, Nat.reduceLT, reduceIte, Int.reduceBEq, Int.reduceBNe, Int.reduceLT, Int.reduceLE, Int.reduceAdd, Int.reduceSub, Int.reduceMul, Int.reduceNeg, Int.reduceEq, Int.reduceNe, Nat.reduceMul, Nat.reduceSub], by simp (disch := first | assumption | omega) only [go_sem, ↓reduceIte, Nat.reduceEqDiff, reduceCtorEq, Nat.reduceAdd, Nat.reduceLeDiff, Nat.reduceLT, reduceIte, Int.reduceBEq, Int.reduceBNe, Int.reduceLT, Int.reduceLE, Int.reduceAdd, Int.reduceSub, Int.reduceMul, Int.reduceNeg, Int.reduceEq, Int.reduceNe, Nat.reduceMul, Nat.reduceSub], by simp (disch := first | assumption | omega) only [go_sem, ↓reduceIte, Nat.reduceEqDiff, reduceCtorEq, Nat.reduceAdd, Nat.reduceLeDiff, Nat.reduceLT, reduceIte, Int.reduceBEq, Int.reduceBNe, Int.reduceLT, Int.reduceLE, Int.reduceAdd, Int.reduceSub, Int.reduceMul, Int.reduceNeg, Int.reduceEq, Int.reduceNe, Nat.reduceMul, Nat.reduceSub], by simp (disch := first | assumption | omega) only [hid, go_sem, ↓reduceIte, Nat.reduceEqDiff, reduceCtorEq, Nat.reduceAdd, Nat.reduceLeDiff, Nat.reduceLT, reduceIte, Int.reduceBEq, Int.reduceBNe, Int.reduceLT, Int.reduceLE, Int.reduceAdd, Int.reduceSub, Int.reduceMul, Int.reduceNeg, Int.reduceEq, Int.reduceNe, Nat.reduceMul, Nat.reduceSub], by simp (disch := first | assumption | omega) only [e6, go_sem, ↓reduceIte, Nat.reduceEqDiff, reduceCtorEq, Nat.reduceAdd, Nat.reduceLeDiff, Nat.reduceLT, reduceIte, Int.reduceBEq, Int.reduceBNe, Int.reduceLT, Int.reduceLE, Int.reduceAdd, Int.reduceSub, Int.reduceMul, Int.reduceNeg, Int.reduceEq, Int.reduceNe, Nat.reduceMul, Nat.reduceSub], by simp (disch := first | assumption | omega) only [e5, go_sem, ↓reduceIte, Nat.reduceEqDiff, reduceCtorEq, Nat.reduceAdd, Nat.reduceLeDiff, Nat.reduceLT, reduceIte, Int.reduceBEq, Int.reduceBNe, Int.reduceLT, Int.reduceLE, Int.reduceAdd, Int.reduceSub, Int.reduceMul, Int.reduceNeg, Int.reduceEq, Int.reduceNe, Nat.reduceMul, Nat.reduceSub], by simp (disch := first | assumption | omega) only [e0, go_sem, ↓reduceIte, Nat.reduceEqDiff, reduceCtorEq, Nat.reduceAdd, Nat.reduceLeDiff, Nat.reduceLT, reduceIte, Int.reduceBEq, Int.reduceBNe, Int.reduceLT, Int.reduceLE, Int.reduceAdd, Int.reduceSub, Int.reduceMul, Int.reduceNeg, Int.reduceEq, Int.reduceNe, Nat.reduceMul, Nat.reduceSub], by simp (disch := first | assumption | omega) only [e1, go_sem, ↓reduceIte, Nat.reduceEqDiff, reduceCtorEq, Nat.reduceAdd, Nat.reduceLeDiff, Nat.reduceLT, reduceIte, Int.reduceBEq, Int.reduceBNe, Int.reduceLT, Int.reduceLE, Int.reduceAdd, Int.reduceSub, Int.reduceMul, Int.reduceNeg, Int.reduceEq, Int.reduceNe, Nat.reduceMul, Nat.reduceSub], PartF.start hFl, by simp (disch := first | assumption | omega) only [eh, go_sem, ↓reduceIte, Nat.reduceEqDiff, reduceCtorEq, Nat.reduceAdd, Nat.reduceLeDiff, Nat.reduceLT, reduceIte, Int.reduceBEq, Int.reduceBNe, Int.reduceLT, Int.reduceLE, Int.reduceAdd, Int.reduceSub, Int.reduceMul, Int.reduceNeg, Int.reduceEq, Int.reduceNe, Nat.reduceMul, Nat.reduceSub]⟩ ?_
    clear e6 e5 e0 e1 eh hid
    rintro d' S' ⟨r, now, hrd, e33, e32, e31, e7, e6, e5, e0, e1, hP, eh⟩
    have hge : S'.heap[H.length]? = some (.cells (ints .i64 now ++ List.replicate (c - F.length) .junk)) := by rw [eh, hpx_get0]; rfl
    have hnl := hP.1
    by_cases hrl : (r : Int) < g.length
    · have hr1 : r < g.length := by omega
      have hr2 : r < (toI g).length := by rw [toI_length]; exact hr1
      have hr3 : (r : Int) < xs.length := by omega
      have hr4 : r < xs.length := by omega
      obtain ⟨q, hq, hxr⟩ := hx.at r hr2
      rw [toI_get hr2] at hq hxr
      have hq1 := hq.1
      have hrow := hg.row r
      simp (disch := first | assumption | omega) only [e33, e32, e31, e7, e6, e5, e0, e1, hrl, hr3, hr4, hxr, ni_length, go_sem, ↓reduceIte, Nat.reduceEqDiff, reduceCtorEq, Nat.reduceAdd, Nat.reduceLeDiff, Nat.reduceLT, reduceIte, Int.reduceBEq, Int.reduceBNe, Int.reduceLT, Int.reduceLE, Int.reduceAdd, Int.reduceSub, Int.reduceMul, Int.reduceNeg, Int.reduceEq, Int.reduceNe, Nat.reduceMul, Nat.reduceSub]
      refine aw_count (fun d'' S' => ∃ (j : Nat) (now : List Int), j + d'' = (nx g r).length ∧ S'.env 40 = .int .i64 j ∧ S'.env 39 = .int .i64 (nx g r).length ∧ S'.env 38 = .lst q (ints .i64 (ni (nx g r))) ∧ S'.env 8 = .int .i64 r ∧ S'.env 33 = .int .i64 r ∧ S'.env 32 = .int .i64 g.length ∧ S'.env 31 = .lst o xs ∧ S'.env 7 = .ref H.length 0 F.length c ∧ S'.env 6 = .int .i64 n ∧ S'.env 5 = .lst .sh (ints .i64 F) ∧ S'.env 0 = .lst o xs ∧ S'.env 1 = .int .i64 i ∧ PartF g i n F r j now ∧ S'.heap = H ++ [.cells (ints .i64 now ++ List.replicate (c - F.length) .junk)]) (n := (nx g r).length)
        ⟨0, now, by omega, by simp (disch := first | assumption | omega) only [go_sem, ↓reduceIte, Nat.reduceEqDiff, reduceCtorEq, Nat.reduceAdd, Nat.reduceLeDiff, Nat.reduceLT, reduceIte, Int.reduceBEq, Int.reduceBNe, Int.reduceLT, Int.reduceLE, Int.reduceAdd, Int.reduceSub, Int.reduceMul, Int.reduceNeg, Int.reduceEq, Int.reduceNe, Nat.reduceMul, Nat.reduceSub], by simp (disch := first | assumption | omega) only [ni_length, go_sem, ↓reduceIte, Nat.reduceEqDiff, reduceCtorEq, Nat.reduceAdd, Nat.reduceLeDiff, Nat.reduceLT, reduceIte, Int.reduceBEq, Int.reduceBNe, Int.reduceLT, Int.reduceLE, Int.reduceAdd, Int.reduceSub, Int.reduceMul, Int.reduceNeg, Int.reduceEq, Int.reduceNe, Nat.reduceMul, Nat.reduceSub], by simp (disch := first | assumption | omega) only [go_sem, ↓reduceIte, Nat.reduceEqDiff, reduceCtorEq, Nat.reduceAdd, Nat.reduceLeDiff, Nat.reduceLT, reduceIte, Int.reduceBEq, Int.reduceBNe, Int.reduceLT, Int.reduceLE, Int.reduceAdd, Int.reduceSub, Int.reduceMul, Int.reduceNeg, Int.reduceEq, Int.reduceNe, Nat.reduceMul, Nat.reduceSub], by simp (disch := first | assumption | omega) only [go_sem, ↓reduceIte, Nat.reduceEqDiff, reduceCtorEq, Nat.reduceAdd, Nat.reduceLeDiff, Nat.reduceLT, reduceIte, Int.reduceBEq, Int.reduceBNe, Int.reduceLT, Int.reduceLE, Int.reduceAdd, Int.reduceSub, Int.reduceMul, Int.reduceNeg, Int.reduceEq, Int.reduceNe, Nat.reduceMul, Nat.reduceSub], by simp (disch := first | assumption | omega) only [e33, go_sem, ↓reduceIte, Nat.reduceEqDiff, reduceCtorEq, Nat.reduceAdd, Nat.reduceLeDiff, Nat.reduceLT, reduceIte, Int.reduceBEq, Int.reduceBNe, Int.reduceLT, Int.reduceLE, Int.reduceAdd, Int.reduceSub, Int.reduceMul, Int.reduceNeg, Int.reduceEq, Int.reduceNe, Nat.reduceMul, Nat.reduceSub], by simp (disch := first | assumption | omega) only [e32, go_sem, ↓reduceIte, Nat.reduceEqDiff, reduceCtorEq, Nat.reduceAdd, Nat.reduceLeDiff, Nat.reduceLT, reduceIte, Int.reduceBEq, Int.reduceBNe, Int.reduceLT, Int.reduceLE, Int.reduceAdd, Int.reduceSub, Int.reduceMul, Int.reduceNeg, Int.reduceEq, Int.reduceNe, Nat.reduceMul, Nat.reduceSub], by simp (disch := first | assumption | omega) only [e31, go_sem, ↓reduceIte, Nat.reduceEqDiff, reduceCtorEq, Nat.reduceAdd, Nat.reduceLeDiff, Nat.reduceLT, reduceIte, Int.reduceBEq, Int.reduceBNe, Int.reduceLT, Int.reduceLE, Int.reduceAdd, Int.reduceSub, Int.reduceMul, Int.reduceNeg, Int.reduceEq, Int.reduceNe, Nat.reduceMul, Nat.reduceSub], by simp (disch := first | assumption | omega) only [e7, go_sem, ↓reduceIte, Nat.reduceEqDiff, reduceCtorEq, Nat.reduceAdd, Nat.reduceLeDiff, Nat.reduceLT, reduceIte, Int.reduceBEq, Int.reduceBNe, Int.reduceLT, Int.reduceLE, Int.reduceAdd, Int.reduceSub, Int.reduceMul, Int.reduceNeg, Int.reduceEq, Int.reduceNe, Nat.reduceMul, Nat.reduceSub], by simp (disch := first | assumption | omega) only [e6, go_sem, ↓reduceIte, Nat.reduceEqDiff, reduceCtorEq, Nat.reduceAdd, Nat.reduceLeDiff, Nat.reduceLT, reduceIte, Int.reduceBEq, Int.reduceBNe, Int.reduceLT, Int.reduceLE, Int.reduceAdd, Int.reduceSub, Int.reduceMul, Int.reduceNeg, Int.reduceEq, Int.reduceNe, Nat.reduceMul, Nat.reduceSub], by simp (disch := first | assumption | omega) only [e5, go_sem, ↓reduceIte, Nat.reduceEqDiff, reduceCtorEq, Nat.reduceAdd, Nat.reduceLeDiff, Nat.reduceLT, reduceIte, Int.reduceBEq, Int.reduceBNe, Int.reduceLT, Int.reduceLE, Int.reduceAdd, Int.reduceSub, Int.reduceMul, Int.reduceNeg, Int.reduceEq, Int.reduceNe, Nat.reduceMul, Nat.reduceSub], by simp (disch := first | assumption | omega) only [e0, go_sem, ↓reduceIte, Nat.reduceEqDiff, reduceCtorEq, Nat.reduceAdd, Nat.reduceLeDiff, Nat.reduceLT, reduceIte, Int.reduceBEq, Int.reduceBNe, Int.reduceLT, Int.reduceLE, Int.reduceAdd, Int.reduceSub, Int.reduceMul, Int.reduceNeg, Int.reduceEq, Int.reduceNe, Nat.reduceMul, Nat.reduceSub], by simp (disch := first | assumption | omega) only [e1, go_sem, ↓reduceIte, Nat.reduceEqDiff, reduceCtorEq, Nat.reduceAdd, Nat.reduceLeDiff, Nat.reduceLT, reduceIte, Int.reduceBEq, Int.reduceBNe, Int.reduceLT, Int.reduceLE, Int.reduceAdd, Int.reduceSub, Int.reduceMul, Int.reduceNeg, Int.reduceEq, Int.reduceNe, Nat.reduceMul, Nat.reduceSub], hP, by simp (disch := first | assumption | omega) only [eh, go_sem, ↓reduceIte, Nat.reduceEqDiff, reduceCtorEq, Nat.reduceAdd, Nat.reduceLeDiff, Nat.reduceLT, reduceIte, Int.reduceBEq, Int.reduceBNe, Int.reduceLT, Int.reduceLE, Int.reduceAdd, Int.reduceSub, Int.reduceMul, Int.reduceNeg, Int.reduceEq, Int.reduceNe, Nat.reduceMul, Nat.reduceSub]⟩ ?_
      clear e33 e32 e31 e7 e6 e5 e0 e1 eh hge hP hnl
      rintro d'' S' ⟨j, now, hjd, e40, e39, e38, e8, e33, e32, e31, e7, e6, e5, e0, e1, hP, eh⟩
      have hge : S'.heap[H.length]? = some (.cells (ints .i64 now ++ List.replicate (c - F.length) .junk)) := by rw [eh, hpx_get0]; rfl
      have hnl := hP.1
      by_cases hjl : (j : Int) < (nx g r).length
      · have hj1 : j < (nx g r).length := by omega
        have hj2 : j < (ni (nx g r)).length := by rw [ni_length]; exact hj1
        have hatj := at_int hj2
        rw [ni_get hj2] at hatj
        have hkl := hg.ok r _ (List.getElem_mem hj1)
        generalize hk : (nx g r)[j] = k at *
        have hatk : at_ (ints .i64 F) (k : Int) = .int .i64 (F.getD k 0) := at_ints' F k (by omega)
        have hatr : at_ (ints .i64 F) (r : Int) = .int .i64 (F.getD r 0) := at_ints' F r (by omega)
        have hrF : (r : Int) < F.length := by omega
        have hkF : (k : Int) < F.length := by omega
        have hset := ints_set' (k := .i64) now (List.replicate (c - F.length) .junk) r n (by omega)
        have hnw : IntKind.i64.wrap ((n : Int) - 1) = n - 1 := wrapI64 (by omega) (by omega)
        by_cases c1 : F.getD r 0 < 0
        case neg =>
          simp (disch := first | assumption | omega) only [e40, e39, e38, e8, e33, e32, e31, e7, e6, e5, e0, e1, hjl, hatj, hatr, hrF, c1, ni_length, go_sem, ↓reduceIte, Nat.reduceEqDiff, reduceCtorEq, Nat.reduceAdd, Nat.reduceLeDiff, Nat.reduceLT, reduceIte, Int.reduceBEq, Int.reduceBNe, Int.reduceLT, Int.reduceLE, Int.reduceAdd, Int.reduceSub, Int.reduceMul, Int.reduceNeg, Int.reduceEq, Int.reduceNe, Nat.reduceMul, Nat.reduceSub]
          exact ⟨d'' - 1, by omega, j + 1, now, by omega, by simp, hP.skip hj1 (.inl c1), eh⟩
        by_cases c2 : (n : Int) = 1
        · by_cases c3 : (k : Int) = i
          · simp (disch := first | assumption | omega) only [e40, e39, e38, e8, e33, e32, e31, e7, e6, e5, e0, e1, hjl, hatj, hatr, hrF, c1, eq_true c2, eq_true c3, ni_length, hge, Nat.mul_one, hset, go_sem, ↓reduceIte, Nat.reduceEqDiff, reduceCtorEq, Nat.reduceAdd, Nat.reduceLeDiff, Nat.reduceLT, reduceIte, Int.reduceBEq, Int.reduceBNe, Int.reduceLT, Int.reduceLE, Int.reduceAdd, Int.reduceSub, Int.reduceMul, Int.reduceNeg, Int.reduceEq, Int.reduceNe, Nat.reduceMul, Nat.reduceSub]
            exact ⟨by omega, d'' - 1, by omega, j + 1, _, by omega, by simp, hP.hit hr1 hj1 c1 (by rw [hk]; exact .inl ⟨by omega, by omega⟩), by rw [eh, hpx_set0]; rfl⟩
          · have c4 : ¬(1 : Int) < n := by omega
            simp (disch := first | assumption | omega) only [e40, e39, e38, e8, e33, e32, e31, e7, e6, e5, e0, e1, hjl, hatj, hatr, hrF, c1, eq_true c2, c3, c4, ni_length, go_sem, ↓reduceIte, Nat.reduceEqDiff, reduceCtorEq, Nat.reduceAdd, Nat.reduceLeDiff, Nat.reduceLT, reduceIte, Int.reduceBEq, Int.reduceBNe, Int.reduceLT, Int.reduceLE, Int.reduceAdd, Int.reduceSub, Int.reduceMul, Int.reduceNeg, Int.reduceEq, Int.reduceNe, Nat.reduceMul, Nat.reduceSub]
            exact ⟨d'' - 1, by omega, j + 1, now, by omega, by simp, hP.skip hj1 (.inr (by rw [hk]; rintro (⟨_, h⟩ | ⟨h, _⟩) <;> omega)), eh⟩
        · have c4 : (1 : Int) < n := by omega
          by_cases c5 : F.getD k 0 = (n : Int) - 1
          · simp (disch := first | assumption | omega) only [e40, e39, e38, e8, e33, e32, e31, e7, e6, e5, e0, e1, hjl, hatj, hatr, hrF, c1, c2, c4, hatk, hkF, hnw, eq_true c5, ni_length, hge, Nat.mul_one, hset, go_sem, ↓reduceIte, Nat.reduceEqDiff, reduceCtorEq, Nat.reduceAdd, Nat.reduceLeDiff, Nat.reduceLT, reduceIte, Int.reduceBEq, Int.reduceBNe, Int.reduceLT, Int.reduceLE, Int.reduceAdd, Int.reduceSub, Int.reduceMul, Int.reduceNeg, Int.reduceEq, Int.reduceNe, Nat.reduceMul, Nat.reduceSub]
            exact ⟨by omega, d'' - 1, by omega, j + 1, _, by omega, by simp, hP.hit hr1 hj1 c1 (by rw [hk]; exact .inr ⟨by omega, c5⟩), by rw [eh, hpx_set0]; rfl⟩
          · simp (disch := first | assumption | omega) only [e40, e39, e38, e8, e33, e32, e31, e7, e6, e5, e0, e1, hjl, hatj, hatr, hrF, c1, c2, c4, hatk, hkF, hnw, c5, ni_length, go_sem, ↓reduceIte, Nat.reduceEqDiff, reduceCtorEq, Nat.reduceAdd, Nat.reduceLeDiff, Nat.reduceLT, reduceIte, Int.reduceBEq, Int.reduceBNe, Int.reduceLT, Int.reduceLE, Int.reduceAdd, Int.reduceSub, Int.reduceMul, Int.reduceNeg, Int.reduceEq, Int.reduceNe, Nat.reduceMul, Nat.reduceSub]
            exact ⟨d'' - 1, by omega, j + 1, now, by omega, by simp, hP.skip hj1 (.inr (by rw [hk]; rintro (⟨h, _⟩ | ⟨_, h⟩) <;> omega)), eh⟩
      · obtain rfl : j = (nx g r).length := by omega
        simp (disch := first | assumption | omega) only [e40, e39, e38, e8, e33, e32, e31, e7, e6, e5, e0, e1, hjl, go_sem, ↓reduceIte, Nat.reduceEqDiff, reduceCtorEq, Nat.reduceAdd, Nat.reduceLeDiff, Nat.reduceLT, reduceIte, Int.reduceBEq, Int.reduceBNe, Int.reduceLT, Int.reduceLE, Int.reduceAdd, Int.reduceSub, Int.reduceMul, Int.reduceNeg, Int.reduceEq, Int.reduceNe, Nat.reduceMul, Nat.reduceSub]
        exact ⟨d' - 1, by omega, r + 1, now, by omega, by simp, hP.row, eh⟩
    · obtain rfl : r = g.length := by omega
      have hnow := hP.done
      simp (disch := first | assumption | omega) only [e33, e32, e31, e7, e6, e5, e0, e1, hrl, go_sem, ↓reduceIte, Nat.reduceEqDiff, reduceCtorEq, Nat.reduceAdd, Nat.reduceLeDiff, Nat.reduceLT, reduceIte, Int.reduceBEq, Int.reduceBNe, Int.reduceLT, Int.reduceLE, Int.reduceAdd, Int.reduceSub, Int.reduceMul, Int.reduceNeg, Int.reduceEq, Int.reduceNe, Nat.reduceMul, Nat.reduceSub]
      refine own_ints' (k := .i64) (ns := now) (rest := List.replicate (c - F.length) .junk) (cap := c) (id := H.length) (by simp (disch := first | assumption | omega) only [e7, hnl, hFl, go_sem, ↓reduceIte, Nat.reduceEqDiff, reduceCtorEq, Nat.reduceAdd, Nat.reduceLeDiff, Nat.reduceLT, reduceIte, Int.reduceBEq, Int.reduceBNe, Int.reduceLT, Int.reduceLE, Int.reduceAdd, Int.reduceSub, Int.reduceMul, Int.reduceNeg, Int.reduceEq, Int.reduceNe, Nat.reduceMul, Nat.reduceSub]) (by simp (disch := first | assumption | omega) only [hge, go_sem, ↓reduceIte, Nat.reduceEqDiff, reduceCtorEq, Nat.reduceAdd, Nat.reduceLeDiff, Nat.reduceLT, reduceIte, Int.reduceBEq, Int.reduceBNe, Int.reduceLT, Int.reduceLE, Int.reduceAdd, Int.reduceSub, Int.reduceMul, Int.reduceNeg, Int.reduceEq, Int.reduceNe, Nat.reduceMul, Nat.reduceSub]) (by omega) (by simp; omega) ?_
      rintro hp hhp
      rw [aw_grab]
      simp (disch := first | assumption | omega) only [e6, go_sem, ↓reduceIte, Nat.reduceEqDiff, reduceCtorEq, Nat.reduceAdd, Nat.reduceLeDiff, Nat.reduceLT, reduceIte, Int.reduceBEq, Int.reduceBNe, Int.reduceLT, Int.reduceLE, Int.reduceAdd, Int.reduceSub, Int.reduceMul, Int.reduceNeg, Int.reduceEq, Int.reduceNe, Nat.reduceMul, Nat.reduceSub]
      have hF2 := hF.step hg.ok
      rw [hn0, ← hnow] at hF2
      rcases hhp with ⟨rfl, _⟩ | ⟨rfl, _⟩
      · exact ⟨d - 1, by omega, n + 1, now, _, by omega, by omega, by simp, rfl, hF2, e0, e1, by show S'.heap = _; rw [eh, hH, List.append_assoc]⟩
      · exact ⟨d - 1, by omega, n + 1, now, _, by omega, by omega, by simp, rfl, hF2, e0, e1, by show S'.heap.set H.length .dead = _; rw [eh, hpx_set0, hH, List.append_assoc]⟩
  · obtain rfl : n = D + 1 := by omega
    have hFD : F.getD i 0 = D := hFi.1 (by omega)
    have hneg : ¬F.getD i 0 < 0 := by omega
    simp (disch := first | assumption | omega) only [e6, e5, e0, e1, hati, hil, hneg, go_sem, ↓reduceIte, Nat.reduceEqDiff, reduceCtorEq, Nat.reduceAdd, Nat.reduceLeDiff, Nat.reduceLT, reduceIte, Int.reduceBEq, Int.reduceBNe, Int.reduceLT, Int.reduceLE, Int.reduceAdd, Int.reduceSub, Int.reduceMul, Int.reduceNeg, Int.reduceEq, Int.reduceNe, Nat.reduceMul, Nat.reduceSub]
    have hF' : FarOk g i D F := by simpa using hF
    rw [hFD] at hati
    have hni1 : ∀ (l : List Nat) (k : Nat), ints .i64 (ni l) ++ [AVal.int .i64 k] = ints .i64 (ni (l ++ [k])) := fun l k => by rw [ni_append, ← ints_append]; rfl
    refine aw_count (fun d' S' => ∃ (left a : Nat) (pre : List Nat), left = d' + 1 ∧ left ≤ D ∧ S'.env 14 = .int .i64 left ∧ S'.env 13 = .int .i64 a ∧ S'.env 12 = .lst (.app 1) (ints .i64 (ni (pre ++ [a]))) ∧ pre ++ wayF g F left a = wayF g F D i ∧ pre.length + left = D ∧ Ld g i left a ∧ S'.env 5 = .lst .sh (ints .i64 F) ∧ S'.env 0 = .lst o xs ∧ S'.heap = h ++ ext) (n := D - 1)
      ⟨D, i, [], by omega, Nat.le_refl _, by simp (disch := first | assumption | omega) only [hFD, go_sem, ↓reduceIte, Nat.reduceEqDiff, reduceCtorEq, Nat.reduceAdd, Nat.reduceLeDiff, Nat.reduceLT, reduceIte, Int.reduceBEq, Int.reduceBNe, Int.reduceLT, Int.reduceLE, Int.reduceAdd, Int.reduceSub, Int.reduceMul, Int.reduceNeg, Int.reduceEq, Int.reduceNe, Nat.reduceMul, Nat.reduceSub], by simp (disch := first | assumption | omega) only [go_sem, ↓reduceIte, Nat.reduceEqDiff, reduceCtorEq, Nat.reduceAdd, Nat.reduceLeDiff, Nat.reduceLT, reduceIte, Int.reduceBEq, Int.reduceBNe, Int.reduceLT, Int.reduceLE, Int.reduceAdd, Int.reduceSub, Int.reduceMul, Int.reduceNeg, Int.reduceEq, Int.reduceNe, Nat.reduceMul, Nat.reduceSub], by simp (disch := first | assumption | omega) only [go_sem, ↓reduceIte, Nat.reduceEqDiff, reduceCtorEq, Nat.reduceAdd, Nat.reduceLeDiff, Nat.reduceLT, reduceIte, Int.reduceBEq, Int.reduceBNe, Int.reduceLT, Int.reduceLE, Int.reduceAdd, Int.reduceSub, Int.reduceMul, Int.reduceNeg, Int.reduceEq, Int.reduceNe, Nat.reduceMul, Nat.reduceSub]; rfl, rfl, by simp, hD, by simp (disch := first | assumption | omega) only [e5, go_sem, ↓reduceIte, Nat.reduceEqDiff, reduceCtorEq, Nat.reduceAdd, Nat.reduceLeDiff, Nat.reduceLT, reduceIte, Int.reduceBEq, Int.reduceBNe, Int.reduceLT, Int.reduceLE, Int.reduceAdd, Int.reduceSub, Int.reduceMul, Int.reduceNeg, Int.reduceEq, Int.reduceNe, Nat.reduceMul, Nat.reduceSub], by simp (disch := first | assumption | omega) only [e0, go_sem, ↓reduceIte, Nat.reduceEqDiff, reduceCtorEq, Nat.reduceAdd, Nat.reduceLeDiff, Nat.reduceLT, reduceIte, Int.reduceBEq, Int.reduceBNe, Int.reduceLT, Int.reduceLE, Int.reduceAdd, Int.reduceSub, Int.reduceMul, Int.reduceNeg, Int.reduceEq, Int.reduceNe, Nat.reduceMul, Nat.reduceSub], by simp (disch := first | assumption | omega) only [eh, go_sem, ↓reduceIte, Nat.reduceEqDiff, reduceCtorEq, Nat.reduceAdd, Nat.reduceLeDiff, Nat.reduceLT, reduceIte, Int.reduceBEq, Int.reduceBNe, Int.reduceLT, Int.reduceLE, Int.reduceAdd, Int.reduceSub, Int.reduceMul, Int.reduceNeg, Int.reduceEq, Int.reduceNe, Nat.reduceMul, Nat.reduceSub]⟩ ?_
    clear e6 e0 e1 hnd
    rintro d' S' ⟨left, a, pre, hld, hlD, e14, e13, e12, hpre, hpl, hLd, e5', e0, eh'⟩
    by_cases h1 : (1 : Int) < left
    · obtain ⟨l2, rfl⟩ : ∃ l2, left = l2 + 2 := ⟨left - 2, by omega⟩
      have ha := hLd.1.lt
      have ha2 : a < (toI g).length := by rw [toI_length]; exact ha
      have ha3 : (a : Int) < xs.length := by omega
      have ha4 : a < xs.length := by omega
      obtain ⟨q, hq, hxa⟩ := hx.at a ha2
      rw [toI_get ha2] at hq hxa
      have hq1 := hq.1
      have hrow := hg.row a
      simp (disch := first | assumption | omega) only [e14, e13, e12, e5', e0, h1, ha3, ha4, hxa, go_sem, ↓reduceIte, Nat.reduceEqDiff, reduceCtorEq, Nat.reduceAdd, Nat.reduceLeDiff, Nat.reduceLT, reduceIte, Int.reduceBEq, Int.reduceBNe, Int.reduceLT, Int.reduceLE, Int.reduceAdd, Int.reduceSub, Int.reduceMul, Int.reduceNeg, Int.reduceEq, Int.reduceNe, Nat.reduceMul, Nat.reduceSub]
      refine aw_count (fun d'' S' => ∃ (j : Nat), j + d'' = (nx g a).length ∧ S'.env 94 = .int .i64 j ∧ S'.env 93 = .int .i64 (nx g a).length ∧ S'.env 92 = .lst q (ints .i64 (ni (nx g a))) ∧ S'.env 15 = .int .i64 (bestN F ((l2 : Int) + 1) ((nx g a).take j) (-1)) ∧ S'.env 14 = .int .i64 (l2 + 2 : Nat) ∧ S'.env 13 = .int .i64 a ∧ S'.env 12 = .lst (.app 1) (ints .i64 (ni (pre ++ [a]))) ∧ S'.env 5 = .lst .sh (ints .i64 F) ∧ S'.env 0 = .lst o xs ∧ S'.heap = h ++ ext) (n := (nx g a).length)
        ⟨0, by omega, by simp (disch := first | assumption | omega) only [go_sem, ↓reduceIte, Nat.reduceEqDiff, reduceCtorEq, Nat.reduceAdd, Nat.reduceLeDiff, Nat.reduceLT, reduceIte, Int.reduceBEq, Int.reduceBNe, Int.reduceLT, Int.reduceLE, Int.reduceAdd, Int.reduceSub, Int.reduceMul, Int.reduceNeg, Int.reduceEq, Int.reduceNe, Nat.reduceMul, Nat.reduceSub], by simp (disch := first | assumption | omega) only [ni_length, go_sem, ↓reduceIte, Nat.reduceEqDiff, reduceCtorEq, Nat.reduceAdd, Nat.reduceLeDiff, Nat.reduceLT, reduceIte, Int.reduceBEq, Int.reduceBNe, Int.reduceLT, Int.reduceLE, Int.reduceAdd, Int.reduceSub, Int.reduceMul, Int.reduceNeg, Int.reduceEq, Int.reduceNe, Nat.reduceMul, Nat.reduceSub], by simp (disch := first | assumption | omega) only [go_sem, ↓reduceIte, Nat.reduceEqDiff, reduceCtorEq, Nat.reduceAdd, Nat.reduceLeDiff, Nat.reduceLT, reduceIte, Int.reduceBEq, Int.reduceBNe, Int.reduceLT, Int.reduceLE, Int.reduceAdd, Int.reduceSub, Int.reduceMul, Int.reduceNeg, Int.reduceEq, Int.reduceNe, Nat.reduceMul, Nat.reduceSub], by simp (disch := first | assumption | omega) only [go_sem, ↓reduceIte, Nat.reduceEqDiff, reduceCtorEq, Nat.reduceAdd, Nat.reduceLeDiff, Nat.reduceLT, reduceIte, Int.reduceBEq, Int.reduceBNe, Int.reduceLT, Int.reduceLE, Int.reduceAdd, Int.reduceSub, Int.reduceMul, Int.reduceNeg, Int.reduceEq, Int.reduceNe, Nat.reduceMul, Nat.reduceSub]; rfl, by simp (disch := first | assumption | omega) only [e14, go_sem, ↓reduceIte, Nat.reduceEqDiff, reduceCtorEq, Nat.reduceAdd, Nat.reduceLeDiff, Nat.reduceLT, reduceIte, Int.reduceBEq, Int.reduceBNe, Int.reduceLT, Int.reduceLE, Int.reduceAdd, Int.reduceSub, Int.reduceMul, Int.reduceNeg, Int.reduceEq, Int.reduceNe, Nat.reduceMul, Nat.reduceSub], by simp (disch := first | assumption | omega) only [e13, go_sem, ↓reduceIte, Nat.reduceEqDiff, reduceCtorEq, Nat.reduceAdd, Nat.reduceLeDiff, Nat.reduceLT, reduceIte, Int.reduceBEq, Int.reduceBNe, Int.reduceLT, Int.reduceLE, Int.reduceAdd, Int.reduceSub, Int.reduceMul, Int.reduceNeg, Int.reduceEq, Int.reduceNe, Nat.reduceMul, Nat.reduceSub], by simp (disch := first | assumption | omega) only [e12, go_sem, ↓reduceIte, Nat.reduceEqDiff, reduceCtorEq, Nat.reduceAdd, Nat.reduceLeDiff, Nat.reduceLT, reduceIte, Int.reduceBEq, Int.reduceBNe, Int.reduceLT, Int.reduceLE, Int.reduceAdd, Int.reduceSub, Int.reduceMul, Int.reduceNeg, Int.reduceEq, Int.reduceNe, Nat.reduceMul, Nat.reduceSub], by simp (disch := first | assumption | omega) only [e5', go_sem, ↓reduceIte, Nat.reduceEqDiff, reduceCtorEq, Nat.reduceAdd, Nat.reduceLeDiff, Nat.reduceLT, reduceIte, Int.reduceBEq, Int.reduceBNe, Int.reduceLT, Int.reduceLE, Int.reduceAdd, Int.reduceSub, Int.reduceMul, Int.reduceNeg, Int.reduceEq, Int.reduceNe, Nat.reduceMul, Nat.reduceSub], by simp (disch := first | assumption | omega) only [e0, go_sem, ↓reduceIte, Nat.reduceEqDiff, reduceCtorEq, Nat.reduceAdd, Nat.reduceLeDiff, Nat.reduceLT, reduceIte, Int.reduceBEq, Int.reduceBNe, Int.reduceLT, Int.reduceLE, Int.reduceAdd, Int.reduceSub, Int.reduceMul, Int.reduceNeg, Int.reduceEq, Int.reduceNe, Nat.reduceMul, Nat.reduceSub], by simp (disch := first | assumption | omega) only [eh', go_sem, ↓reduceIte, Nat.reduceEqDiff, reduceCtorEq, Nat.reduceAdd, Nat.reduceLeDiff, Nat.reduceLT, reduceIte, Int.reduceBEq, Int.reduceBNe, Int.reduceLT, Int.reduceLE, Int.reduceAdd, Int.reduceSub, Int.reduceMul, Int.reduceNeg, Int.reduceEq, Int.reduceNe, Nat.reduceMul, Nat.reduceSub]⟩ ?_
      clear e14 e13 e12 e5' e0 eh'
      rintro d'' S' ⟨j, hjd, e94, e93, e92, e15, e14, e13, e12, e5', e0, eh'⟩
      have hw : IntKind.i64.wrap (((l2 + 2 : Nat) : Int) - 1) = (l2 : Int) + 1 := by rw [wrapI64 (by omega) (by omega)]; omega
      have hwn : ((l2 : Int) + 1) = ((l2 + 1 : Nat) : Int) := by omega
      by_cases hjl : (j : Int) < (nx g a).length
      · have hj1 : j < (nx g a).length := by omega
        have hj2 : j < (ni (nx g a)).length := by rw [ni_length]; exact hj1
        have hatj := at_int hj2
        rw [ni_get hj2] at hatj
        have hkl := hg.ok a _ (List.getElem_mem hj1)
        have hsn := bestN_snoc (F := F) (d := (l2 : Int) + 1) (nx g a)[j] ((nx g a).take j) (-1)
        have htk : (nx g a).take (j + 1) = (nx g a).take j ++ [(nx g a)[j]] := by rw [List.take_add_one, List.getElem?_eq_getElem hj1]; rfl
        rw [← htk] at hsn
        generalize (nx g a)[j] = k at *
        generalize bestN F ((l2 : Int) + 1) ((nx g a).take j) (-1) = b at *
        have hatk : at_ (ints .i64 F) (k : Int) = .int .i64 (F.getD k 0) := at_ints' F k (by omega)
        have hkF : (k : Int) < F.length := by omega
        by_cases c5 : F.getD k 0 = (l2 : Int) + 1
        · by_cases c6 : b < 0
          · rw [if_pos ⟨c5, .inl c6⟩] at hsn
            simp (disch := first | assumption | omega) only [e94, e93, e92, e15, e14, e13, e12, e5', e0, hjl, hatj, hatk, hkF, hw, eq_true c5, c6, ni_length, go_sem, ↓reduceIte, Nat.reduceEqDiff, reduceCtorEq, Nat.reduceAdd, Nat.reduceLeDiff, Nat.reduceLT, reduceIte, Int.reduceBEq, Int.reduceBNe, Int.reduceLT, Int.reduceLE, Int.reduceAdd, Int.reduceSub, Int.reduceMul, Int.reduceNeg, Int.reduceEq, Int.reduceNe, Nat.reduceMul, Nat.reduceSub]
            exact ⟨d'' - 1, by omega, j + 1, by omega, by simp, by rw [hsn], eh'⟩
          · by_cases c7 : (k : Int) < b
            · rw [if_pos ⟨c5, .inr c7⟩] at hsn
              simp (disch := first | assumption | omega) only [e94, e93, e92, e15, e14, e13, e12, e5', e0, hjl, hatj, hatk, hkF, hw, eq_true c5, c6, c7, ni_length, go_sem, ↓reduceIte, Nat.reduceEqDiff, reduceCtorEq, Nat.reduceAdd, Nat.reduceLeDiff, Nat.reduceLT, reduceIte, Int.reduceBEq, Int.reduceBNe, Int.reduceLT, Int.reduceLE, Int.reduceAdd, Int.reduceSub, Int.reduceMul, Int.reduceNeg, Int.reduceEq, Int.reduceNe, Nat.reduceMul, Nat.reduceSub]
              exact ⟨d'' - 1, by omega, j + 1, by omega, by simp, by rw [hsn], eh'⟩
            · rw [if_neg (fun h => h.2.elim c6 c7)] at hsn
              simp (disch := first | assumption | omega) only [e94, e93, e92, e15, e14, e13, e12, e5', e0, hjl, hatj, hatk, hkF, hw, eq_true c5, c6, c7, ni_length, go_sem, ↓reduceIte, Nat.reduceEqDiff, reduceCtorEq, Nat.reduceAdd, Nat.reduceLeDiff, Nat.reduceLT, reduceIte, Int.reduceBEq, Int.reduceBNe, Int.reduceLT, Int.reduceLE, Int.reduceAdd, Int.reduceSub, Int.reduceMul, Int.reduceNeg, Int.reduceEq, Int.reduceNe, Nat.reduceMul, Nat.reduceSub]
              exact ⟨d'' - 1, by omega, j + 1, by omega, by simp, by rw [hsn], eh'⟩
        · rw [if_neg (fun h => c5 h.1)] at hsn
          simp (disch := first | assumption | omega) only [e94, e93, e92, e15, e14, e13, e12, e5', e0, hjl, hatj, hatk, hkF, hw, c5, ni_length, go_sem, ↓reduceIte, Nat.reduceEqDiff, reduceCtorEq, Nat.reduceAdd, Nat.reduceLeDiff, Nat.reduceLT, reduceIte, Int.reduceBEq, Int.reduceBNe, Int.reduceLT, Int.reduceLE, Int.reduceAdd, Int.reduceSub, Int.reduceMul, Int.reduceNeg, Int.reduceEq, Int.reduceNe, Nat.reduceMul, Nat.reduceSub]
          exact ⟨d'' - 1, by omega, j + 1, by omega, by simp, by rw [hsn], eh'⟩
      · obtain rfl : j = (nx g a).length := by omega
        rw [List.take_length] at e15
        obtain ⟨b, hb1, hb2, hb3⟩ := best_ok hg.ok hF' (by omega) hLd
        rw [hb1] at e15
        have hwF : wayF g F (l2 + 2) a = a :: wayF g F (l2 + 1) b := by rw [wayF, hb1]; simp
        simp (disch := first | assumption | omega) only [e94, e93, e92, e15, e14, e13, e12, e5', e0, hjl, hw, hni1, ni_length, go_sem, ↓reduceIte, Nat.reduceEqDiff, reduceCtorEq, Nat.reduceAdd, Nat.reduceLeDiff, Nat.reduceLT, reduceIte, Int.reduceBEq, Int.reduceBNe, Int.reduceLT, Int.reduceLE, Int.reduceAdd, Int.reduceSub, Int.reduceMul, Int.reduceNeg, Int.reduceEq, Int.reduceNe, Nat.reduceMul, Nat.reduceSub]
        exact ⟨by omega, by omega, d' - 1, by omega, l2 + 1, b, pre ++ [a], by omega, by omega, by simp, rfl, by simp, by rw [← hpre, hwF]; simp, by simp; omega, hb3, eh'⟩
    · obtain rfl : left = 1 := by omega
      simp (disch := first | assumption | omega) only [e14, e13, e12, e5', e0, h1, go_sem, ↓reduceIte, Nat.reduceEqDiff, reduceCtorEq, Nat.reduceAdd, Nat.reduceLeDiff, Nat.reduceLT, reduceIte, Int.reduceBEq, Int.reduceBNe, Int.reduceLT, Int.reduceLE, Int.reduceAdd, Int.reduceSub, Int.reduceMul, Int.reduceNeg, Int.reduceEq, Int.reduceNe, Nat.reduceMul, Nat.reduceSub]
      subst hQ
      simp (disch := first | assumption | omega) only [R.ring_shortest, go_sem, ↓reduceIte, Nat.reduceEqDiff, reduceCtorEq, Nat.reduceAdd, Nat.reduceLeDiff, Nat.reduceLT, reduceIte, Int.reduceBEq, Int.reduceBNe, Int.reduceLT, Int.reduceLE, Int.reduceAdd, Int.reduceSub, Int.reduceMul, Int.reduceNeg, Int.reduceEq, Int.reduceNe, Nat.reduceMul, Nat.reduceSub]
      have hpa : pre ++ [a] = wayF g F D i := hpre
      exact ⟨ext, eh', by simp [AVal.ids, ints_ids], D, F, hD, hF', by rw [hpa]⟩
end Go.Proofs.Ytpdajkbfemcdlaa
/- Contracts: rings that are found; graphs that are made. -/
set_option linter.unusedSimpArgs false
set_option linter.unusedVariables false
set_option maxRecDepth 10000
namespace Go.Proofs.Ytpdajkbfemcdlaa
open Go.Ge
theorem Find_bad (o : Own) (G : List (List Int)) (xs : List AVal) (ho : Rdo o) (hx : Each2 RowOk G xs) (hl : ∀ r ∈ G, r.length ≤ 1152921504606846976) (hn : G.length ≤ 1152921504606846976) (he : graphE G ≠ 0) (h : List HObj) :
    ACalls Try.prog F.ring_Find [.lst o xs] h (fun r h' => r = .tup [.lst .nil [], .int .i64 (graphE G)] ∧ h' = h) := by
  refine ACalls.of_aw Try.func93 K.ring_Find (by simp [Try.f93]) ?_
  generalize hQ : retQ R.ring_Find _ = Q
  simp (disch := first | assumption | omega) only [C.ring_Find, go_sem, ↓reduceIte, Nat.reduceEqDiff, reduceCtorEq, Nat.reduceAdd, Nat.reduceLeDiff, Nat.reduceLT, reduceIte, Int.reduceBEq, Int.reduceBNe, Int.reduceLT, Int.reduceLE, Int.reduceAdd, Int.reduceSub, Int.reduceMul, Int.reduceNeg, Int.reduceEq, Int.reduceNe, Nat.reduceMul, Nat.reduceSub]
  refine callG_ok (Stuck_bad o G xs ho hx hl hn he _) (by simp (disch := first | assumption | omega) only [go_sem, ↓reduceIte, Nat.reduceEqDiff, reduceCtorEq, Nat.reduceAdd, Nat.reduceLeDiff, Nat.reduceLT, reduceIte, Int.reduceBEq, Int.reduceBNe, Int.reduceLT, Int.reduceLE, Int.reduceAdd, Int.reduceSub, Int.reduceMul, Int.reduceNeg, Int.reduceEq, Int.reduceNe, Nat.reduceMul, Nat.reduceSub]) ?_
  rintro _ _ ⟨rfl, hhh⟩
  rw [hhh]
  clear hhh
  simp (disch := first | assumption | omega) only [he, go_sem, ↓reduceIte, Nat.reduceEqDiff, reduceCtorEq, Nat.reduceAdd, Nat.reduceLeDiff, Nat.reduceLT, reduceIte, Int.reduceBEq, Int.reduceBNe, Int.reduceLT, Int.reduceLE, Int.reduceAdd, Int.reduceSub, Int.reduceMul, Int.reduceNeg, Int.reduceEq, Int.reduceNe, Nat.reduceMul, Nat.reduceSub]
  subst hQ
  simp (disch := first | assumption | omega) only [R.ring_Find, go_sem, ↓reduceIte, Nat.reduceEqDiff, reduceCtorEq, Nat.reduceAdd, Nat.reduceLeDiff, Nat.reduceLT, reduceIte, Int.reduceBEq, Int.reduceBNe, Int.reduceLT, Int.reduceLE, Int.reduceAdd, Int.reduceSub, Int.reduceMul, Int.reduceNeg, Int.reduceEq, Int.reduceNe, Nat.reduceMul, Nat.reduceSub]
/-- What Find says of a graph. -/
def FindQ (g : Gr) (r : AVal) : Prop :=
  stuckL g = [] ∧ r = .tup [.lst .nil [], .int .i64 4] ∨ ∃ i l d F, stuckL g = i :: l ∧ Ld g i d i ∧ FarOk g i d F ∧ r = .tup [.lst (.app 1) (ints .i64 (ni (wayF g F d i))), .int .i64 0]
theorem Find_ok (o : Own) (g : Gr) (xs : List AVal) (ho : Rdo o) (hg : Gfine g) (hx : Each2 RowOk (toI g) xs) (h : List HObj) :
    ACalls Try.prog F.ring_Find [.lst o xs] h (fun r h' => FindQ g r ∧ h' = h) := by
  have hsl := stuckN_length g g.length
  have n64 := hg.n64
  refine ACalls.of_aw Try.func93 K.ring_Find (by simp [Try.f93]) ?_
  generalize hQ : retQ R.ring_Find _ = Q
  simp (disch := first | assumption | omega) only [C.ring_Find, go_sem, ↓reduceIte, Nat.reduceEqDiff, reduceCtorEq, Nat.reduceAdd, Nat.reduceLeDiff, Nat.reduceLT, reduceIte, Int.reduceBEq, Int.reduceBNe, Int.reduceLT, Int.reduceLE, Int.reduceAdd, Int.reduceSub, Int.reduceMul, Int.reduceNeg, Int.reduceEq, Int.reduceNe, Nat.reduceMul, Nat.reduceSub]
  refine callG_ok (Stuck_ok o g xs ho hg hx _) (by simp (disch := first | assumption | omega) only [go_sem, ↓reduceIte, Nat.reduceEqDiff, reduceCtorEq, Nat.reduceAdd, Nat.reduceLeDiff, Nat.reduceLT, reduceIte, Int.reduceBEq, Int.reduceBNe, Int.reduceLT, Int.reduceLE, Int.reduceAdd, Int.reduceSub, Int.reduceMul, Int.reduceNeg, Int.reduceEq, Int.reduceNe, Nat.reduceMul, Nat.reduceSub]) ?_
  rintro _ _ ⟨⟨q, rfl, hq⟩, hhh⟩
  rw [hhh]
  clear hhh
  cases hS : stuckL g with
  | nil =>
    rw [hS] at hq
    rcases hq with ⟨rfl, _⟩ | rfl
    · have e : ints .i64 (ni ([] : List Nat)) = [] := rfl
      simp (disch := first | assumption | omega) only [e, go_sem, ↓reduceIte, Nat.reduceEqDiff, reduceCtorEq, Nat.reduceAdd, Nat.reduceLeDiff, Nat.reduceLT, reduceIte, Int.reduceBEq, Int.reduceBNe, Int.reduceLT, Int.reduceLE, Int.reduceAdd, Int.reduceSub, Int.reduceMul, Int.reduceNeg, Int.reduceEq, Int.reduceNe, Nat.reduceMul, Nat.reduceSub]
      subst hQ
      simp (disch := first | assumption | omega) only [R.ring_Find, go_sem, ↓reduceIte, Nat.reduceEqDiff, reduceCtorEq, Nat.reduceAdd, Nat.reduceLeDiff, Nat.reduceLT, reduceIte, Int.reduceBEq, Int.reduceBNe, Int.reduceLT, Int.reduceLE, Int.reduceAdd, Int.reduceSub, Int.reduceMul, Int.reduceNeg, Int.reduceEq, Int.reduceNe, Nat.reduceMul, Nat.reduceSub]
      exact .inl ⟨hS, rfl⟩
    · have e : ints .i64 (ni ([] : List Nat)) = [] := rfl
      simp (disch := first | assumption | omega) only [e, go_sem, ↓reduceIte, Nat.reduceEqDiff, reduceCtorEq, Nat.reduceAdd, Nat.reduceLeDiff, Nat.reduceLT, reduceIte, Int.reduceBEq, Int.reduceBNe, Int.reduceLT, Int.reduceLE, Int.reduceAdd, Int.reduceSub, Int.reduceMul, Int.reduceNeg, Int.reduceEq, Int.reduceNe, Nat.reduceMul, Nat.reduceSub]
      subst hQ
      simp (disch := first | assumption | omega) only [R.ring_Find, go_sem, ↓reduceIte, Nat.reduceEqDiff, reduceCtorEq, Nat.reduceAdd, Nat.reduceLeDiff, Nat.reduceLT, reduceIte, Int.reduceBEq, Int.reduceBNe, Int.reduceLT, Int.reduceLE, Int.reduceAdd, Int.reduceSub, Int.reduceMul, Int.reduceNeg, Int.reduceEq, Int.reduceNe, Nat.reduceMul, Nat.reduceSub]
      exact .inl ⟨hS, rfl⟩
  | cons i l =>
    rw [hS] at hq
    have hq : q = .app 1 := hq.elim (fun h => by cases h.2) id
    subst hq
    have hmi : i ∈ stuckL g := by rw [hS]; simp
    obtain ⟨hi, hr⟩ := mem_stuckL.1 hmi
    have hat : at_ (ints .i64 (ni (i :: l))) 0 = .int .i64 i := rfl
    have hlen : (ni (i :: l)).length = l.length + 1 := by simp [ni]
    have hl0 : ¬((l.length + 1 : Nat) : Int) = 0 := by omega
    have hl1 : (0 : Int) < ((l.length + 1 : Nat) : Int) := by omega
    simp (disch := first | assumption | omega) only [hlen, hl0, hat, hl1, go_sem, ↓reduceIte, Nat.reduceEqDiff, reduceCtorEq, Nat.reduceAdd, Nat.reduceLeDiff, Nat.reduceLT, reduceIte, Int.reduceBEq, Int.reduceBNe, Int.reduceLT, Int.reduceLE, Int.reduceAdd, Int.reduceSub, Int.reduceMul, Int.reduceNeg, Int.reduceEq, Int.reduceNe, Nat.reduceMul, Nat.reduceSub]
    refine callG_ok (shortest_ok o g xs ho hg hx i hi hr _) (by simp (disch := first | assumption | omega) only [go_sem, ↓reduceIte, Nat.reduceEqDiff, reduceCtorEq, Nat.reduceAdd, Nat.reduceLeDiff, Nat.reduceLT, reduceIte, Int.reduceBEq, Int.reduceBNe, Int.reduceLT, Int.reduceLE, Int.reduceAdd, Int.reduceSub, Int.reduceMul, Int.reduceNeg, Int.reduceEq, Int.reduceNe, Nat.reduceMul, Nat.reduceSub]) ?_
    rintro _ _ ⟨⟨d, F, hd, hF, rfl⟩, hhh⟩
    rw [hhh]
    clear hhh
    simp (disch := first | assumption | omega) only [go_sem, ↓reduceIte, Nat.reduceEqDiff, reduceCtorEq, Nat.reduceAdd, Nat.reduceLeDiff, Nat.reduceLT, reduceIte, Int.reduceBEq, Int.reduceBNe, Int.reduceLT, Int.reduceLE, Int.reduceAdd, Int.reduceSub, Int.reduceMul, Int.reduceNeg, Int.reduceEq, Int.reduceNe, Nat.reduceMul, Nat.reduceSub]
    subst hQ
    simp (disch := first | assumption | omega) only [R.ring_Find, go_sem, ↓reduceIte, Nat.reduceEqDiff, reduceCtorEq, Nat.reduceAdd, Nat.reduceLeDiff, Nat.reduceLT, reduceIte, Int.reduceBEq, Int.reduceBNe, Int.reduceLT, Int.reduceLE, Int.reduceAdd, Int.reduceSub, Int.reduceMul, Int.reduceNeg, Int.reduceEq, Int.reduceNe, Nat.reduceMul, Nat.reduceSub]
    exact .inr ⟨i, l, d, F, hS, hd, hF, rfl⟩
/-- A row as it is held while the graph is made. -/
def rawRow : List Nat → AVal
  | [] => .lst .nil []
  | a :: l => .lst (.app 1) (ints .i64 (ni (a :: l)))
theorem pend_le {g : Gr} {M : Nat} (h : ∀ i, (nx g i).length ≤ M) (s : List Bool) : pend g s ≤ g.length * M := by
  unfold pend
  have key : ∀ n, ((List.range n).map fun k => if s.getD k false then 0 else (nx g k).length).sum ≤ n * M := by
    intro n
    induction n with
    | zero => simp
    | succ n ih =>
      rw [List.range_succ, List.map_append, List.sum_append]
      simp only [List.map_cons, List.map_nil, List.sum_cons, List.sum_nil, Nat.add_zero, Nat.add_mul]
      have := h n
      split <;> omega
  exact key _
theorem rdc_raw (r : List Nat) : Ge.rdc (rawRow r) = .lst (if r = [] then .nil else .sh) (ints .i64 (ni r)) := by cases r <;> rfl
end Go.Proofs.Ytpdajkbfemcdlaa
/- The law RingFound. -/
set_option linter.unusedSimpArgs false
set_option linter.unusedVariables false
set_option maxRecDepth 10000
namespace Go.Proofs.Ytpdajkbfemcdlaa
open Go.Ge
theorem mem_ni {k : Nat} {l : List Nat} : (k : Int) ∈ ni l ↔ k ∈ l := by
  simp only [ni, List.mem_map]
  constructor
  · rintro ⟨a, ha, e⟩
    have : a = k := by omega
    exact this ▸ ha
  · intro h; exact ⟨k, h, rfl⟩
end Go.Proofs.Ytpdajkbfemcdlaa
/- Contracts: orders. -/
set_option linter.unusedSimpArgs false
set_option linter.unusedVariables false
set_option maxRecDepth 10000
namespace Go.Proofs.Ytpdajkbfemcdlaa
open Go.Ge
/-- How a list that is held is read. -/
def rdO (l : List Nat) : Own := if l = [] then .nil else .sh
theorem rdO_rdo (l : List Nat) : Rdo (rdO l) := by unfold rdO; split; exact .inr rfl; exact .inl rfl
theorem rdc_raw' (r : List Nat) : Ge.rdc (rawRow r) = .lst (rdO r) (ints .i64 (ni r)) := rdc_raw r
theorem Order1_ok (k : Int) (id : Nat) (L : List Nat) (hl : L.length < 4611686018427387904) (h : List HObj) (hh : h[id]? = some (.cells [rawRow L])) :
    ACalls Try.prog F.ring_Order_1 [.int .i64 k, .hp id 0] h (fun r h' => r = .bool (!decide (k ∈ ni L)) ∧ h' = h) := by
  have hr := rdO_rdo L
  have hgd : ∀ n : Nat, [rawRow L].getD 0 .junk = rawRow L := fun _ => rfl
  refine ACalls.of_aw Try.func174 K.ring_Order_1 (by simp [Try.f174]) ?_
  generalize hQ : retQ R.ring_Order_1 _ = Q
  simp (disch := first | assumption | omega) only [C.ring_Order_1, go_sem, ↓reduceIte, Nat.reduceEqDiff, reduceCtorEq, Nat.reduceAdd, Nat.reduceLeDiff, Nat.reduceLT, reduceIte, Int.reduceBEq, Int.reduceBNe, Int.reduceLT, Int.reduceLE, Int.reduceAdd, Int.reduceSub, Int.reduceMul, Int.reduceNeg, Int.reduceEq, Int.reduceNe, Nat.reduceMul, Nat.reduceSub]
  simp (disch := first | assumption | omega) only [hh, rdc_raw', go_sem, ↓reduceIte, Nat.reduceEqDiff, reduceCtorEq, Nat.reduceAdd, Nat.reduceLeDiff, Nat.reduceLT, reduceIte, Int.reduceBEq, Int.reduceBNe, Int.reduceLT, Int.reduceLE, Int.reduceAdd, Int.reduceSub, Int.reduceMul, Int.reduceNeg, Int.reduceEq, Int.reduceNe, Nat.reduceMul, Nat.reduceSub]
  refine callG_ok (ContainsInt_ok (rdO L) (ni L) k hr (by rw [ni_length]; exact hl) _) (by simp (disch := first | assumption | omega) only [go_sem, ↓reduceIte, Nat.reduceEqDiff, reduceCtorEq, Nat.reduceAdd, Nat.reduceLeDiff, Nat.reduceLT, reduceIte, Int.reduceBEq, Int.reduceBNe, Int.reduceLT, Int.reduceLE, Int.reduceAdd, Int.reduceSub, Int.reduceMul, Int.reduceNeg, Int.reduceEq, Int.reduceNe, Nat.reduceMul, Nat.reduceSub]) ?_
  rintro _ _ ⟨rfl, hhh⟩
  rw [hhh]
  clear hhh
  simp (disch := first | assumption | omega) only [go_sem, ↓reduceIte, Nat.reduceEqDiff, reduceCtorEq, Nat.reduceAdd, Nat.reduceLeDiff, Nat.reduceLT, reduceIte, Int.reduceBEq, Int.reduceBNe, Int.reduceLT, Int.reduceLE, Int.reduceAdd, Int.reduceSub, Int.reduceMul, Int.reduceNeg, Int.reduceEq, Int.reduceNe, Nat.reduceMul, Nat.reduceSub]
  subst hQ
  simp (disch := first | assumption | omega) only [R.ring_Order_1, go_sem, ↓reduceIte, Nat.reduceEqDiff, reduceCtorEq, Nat.reduceAdd, Nat.reduceLeDiff, Nat.reduceLT, reduceIte, Int.reduceBEq, Int.reduceBNe, Int.reduceLT, Int.reduceLE, Int.reduceAdd, Int.reduceSub, Int.reduceMul, Int.reduceNeg, Int.reduceEq, Int.reduceNe, Nat.reduceMul, Nat.reduceSub]
theorem pick_least {g : Gr} {out : List Nat} {i : Nat} (hi : i < g.length) (hr : rdyB g out i = true) (hl : ∀ j, j < i → rdyB g out j = false) : pick g out = some i := by
  unfold pick
  rw [List.find?_range_eq_some]
  exact ⟨hr, List.mem_range.2 hi, fun j hj => by rw [hl j hj]; rfl⟩
theorem order_more {g : Gr} (hg : Gok g) (ha : Acyc g) {m : Nat} (hm : m < g.length) : ∃ k, pick g (orderL g m) = some k ∧ orderL g (m + 1) = orderL g m ++ [k] := by
  have h1 := (orderL_ok hg ha m (by omega)).1
  have h2 := (orderL_ok hg ha (m + 1) (by omega)).1
  cases hp : pick g (orderL g m) with
  | none => rw [orderL, hp] at h2; simp at h2; omega
  | some k => exact ⟨k, rfl, by rw [orderL, hp]; rfl⟩
theorem rdy_in {g : Gr} {out : List Nat} {i : Nat} (h : i ∈ out) : rdyB g out i = false := by simp [rdyB, h]
theorem any_ni (l out : List Nat) : (ni l).any (fun x => !decide (x ∈ ni out)) = !(l.all fun k => out.contains k) := by
  induction l with
  | nil => rfl
  | cons a l ih =>
    have e : ni (a :: l) = (a : Int) :: ni l := rfl
    rw [e, List.any_cons, ih, List.all_cons, Bool.not_and]
    congr 1
    by_cases h : a ∈ out
    · rw [decide_eq_true (mem_ni.2 h)]; simp [h]
    · rw [decide_eq_false (fun h' => h (mem_ni.1 h'))]; simp [h]
theorem acyc_of {g : Gr} (h : stuckL g = []) : Acyc g := by
  intro i hr
  have : i ∈ stuckL g := mem_stuckL.2 ⟨hr.choose_spec.lt, hr⟩
  rw [h] at this; cases this
theorem Order_bad (o : Own) (G : List (List Int)) (xs : List AVal) (ho : Rdo o) (hx : Each2 RowOk G xs) (hl : ∀ r ∈ G, r.length ≤ 1152921504606846976) (hn : G.length ≤ 1152921504606846976) (he : graphE G ≠ 0) (h : List HObj) :
    ACalls Try.prog F.ring_Order [.lst o xs] h (fun r h' => r = .tup [.lst .nil [], .int .i64 (graphE G)] ∧ h' = h) := by
  refine ACalls.of_aw Try.func101 K.ring_Order (by simp [Try.f101]) ?_
  generalize hQ : retQ R.ring_Order _ = Q
  simp (disch := first | assumption | omega) only [C.ring_Order, go_sem, ↓reduceIte, Nat.reduceEqDiff, reduceCtorEq, Nat.reduceAdd, Nat.reduceLeDiff, Nat.reduceLT, reduceIte, Int.reduceBEq, Int.reduceBNe, Int.reduceLT, Int.reduceLE, Int.reduceAdd, Int.reduceSub, Int.reduceMul, Int.reduceNeg, Int.reduceEq, Int.reduceNe, Nat.reduceMul, Nat.reduceSub]
  refine callG_ok (Stuck_bad o G xs ho hx hl hn he _) (by simp (disch := first | assumption | omega) only [go_sem, ↓reduceIte, Nat.reduceEqDiff, reduceCtorEq, Nat.reduceAdd, Nat.reduceLeDiff, Nat.reduceLT, reduceIte, Int.reduceBEq, Int.reduceBNe, Int.reduceLT, Int.reduceLE, Int.reduceAdd, Int.reduceSub, Int.reduceMul, Int.reduceNeg, Int.reduceEq, Int.reduceNe, Nat.reduceMul, Nat.reduceSub]) ?_
  rintro _ _ ⟨rfl, hhh⟩
  rw [hhh]
  clear hhh
  simp (disch := first | assumption | omega) only [he, go_sem, ↓reduceIte, Nat.reduceEqDiff, reduceCtorEq, Nat.reduceAdd, Nat.reduceLeDiff, Nat.reduceLT, reduceIte, Int.reduceBEq, Int.reduceBNe, Int.reduceLT, Int.reduceLE, Int.reduceAdd, Int.reduceSub, Int.reduceMul, Int.reduceNeg, Int.reduceEq, Int.reduceNe, Nat.reduceMul, Nat.reduceSub]
  subst hQ
  simp (disch := first | assumption | omega) only [R.ring_Order, go_sem, ↓reduceIte, Nat.reduceEqDiff, reduceCtorEq, Nat.reduceAdd, Nat.reduceLeDiff, Nat.reduceLT, reduceIte, Int.reduceBEq, Int.reduceBNe, Int.reduceLT, Int.reduceLE, Int.reduceAdd, Int.reduceSub, Int.reduceMul, Int.reduceNeg, Int.reduceEq, Int.reduceNe, Nat.reduceMul, Nat.reduceSub]
theorem Order_loop (o : Own) (g : Gr) (xs : List AVal) (ho : Rdo o) (hg : Gfine g) (hx : Each2 RowOk (toI g) xs) (h : List HObj) (hS : stuckL g ≠ []) :
    ACalls Try.prog F.ring_Order [.lst o xs] h (fun r h' => r = .tup [.lst .nil [], .int .i64 11] ∧ h' = h) := by
  have hsl := stuckN_length g g.length
  have n64 := hg.n64
  refine ACalls.of_aw Try.func101 K.ring_Order (by simp [Try.f101]) ?_
  generalize hQ : retQ R.ring_Order _ = Q
  simp (disch := first | assumption | omega) only [C.ring_Order, go_sem, ↓reduceIte, Nat.reduceEqDiff, reduceCtorEq, Nat.reduceAdd, Nat.reduceLeDiff, Nat.reduceLT, reduceIte, Int.reduceBEq, Int.reduceBNe, Int.reduceLT, Int.reduceLE, Int.reduceAdd, Int.reduceSub, Int.reduceMul, Int.reduceNeg, Int.reduceEq, Int.reduceNe, Nat.reduceMul, Nat.reduceSub]
  refine callG_ok (Stuck_ok o g xs ho hg hx _) (by simp (disch := first | assumption | omega) only [go_sem, ↓reduceIte, Nat.reduceEqDiff, reduceCtorEq, Nat.reduceAdd, Nat.reduceLeDiff, Nat.reduceLT, reduceIte, Int.reduceBEq, Int.reduceBNe, Int.reduceLT, Int.reduceLE, Int.reduceAdd, Int.reduceSub, Int.reduceMul, Int.reduceNeg, Int.reduceEq, Int.reduceNe, Nat.reduceMul, Nat.reduceSub]) ?_
  rintro _ _ ⟨⟨q, rfl, hq⟩, hhh⟩
  rw [hhh]
  clear hhh
  have hq : q = .app 1 := hq.elim (fun h => absurd h.2 hS) id
  subst hq
  have hl0 : (0 : Int) < (stuckL g).length := by have := List.length_pos_iff.2 hS; omega
  simp (disch := first | assumption | omega) only [ni_length, hl0, go_sem, ↓reduceIte, Nat.reduceEqDiff, reduceCtorEq, Nat.reduceAdd, Nat.reduceLeDiff, Nat.reduceLT, reduceIte, Int.reduceBEq, Int.reduceBNe, Int.reduceLT, Int.reduceLE, Int.reduceAdd, Int.reduceSub, Int.reduceMul, Int.reduceNeg, Int.reduceEq, Int.reduceNe, Nat.reduceMul, Nat.reduceSub]
  subst hQ
  simp (disch := first | assumption | omega) only [R.ring_Order, go_sem, ↓reduceIte, Nat.reduceEqDiff, reduceCtorEq, Nat.reduceAdd, Nat.reduceLeDiff, Nat.reduceLT, reduceIte, Int.reduceBEq, Int.reduceBNe, Int.reduceLT, Int.reduceLE, Int.reduceAdd, Int.reduceSub, Int.reduceMul, Int.reduceNeg, Int.reduceEq, Int.reduceNe, Nat.reduceMul, Nat.reduceSub]
theorem Order_ok (o : Own) (g : Gr) (xs : List AVal) (ho : Rdo o) (hg : Gfine g) (hx : Each2 RowOk (toI g) xs) (h : List HObj) (hS : stuckL g = []) :
    ACalls Try.prog F.ring_Order [.lst o xs] h (fun r h' => r = .tup [rawRow (orderL g g.length), .int .i64 0] ∧ h' = h) := by
  have n64 := hg.n64
  have lx := hx.length
  rw [toI_length] at lx
  have ha := acyc_of hS
  refine ACalls.gcn (ACalls.of_aw Try.func101 K.ring_Order (by simp [Try.f101]) ?_)
  generalize hQ : retQ R.ring_Order _ = Q
  simp (disch := first | assumption | omega) only [C.ring_Order, go_sem, ↓reduceIte, Nat.reduceEqDiff, reduceCtorEq, Nat.reduceAdd, Nat.reduceLeDiff, Nat.reduceLT, reduceIte, Int.reduceBEq, Int.reduceBNe, Int.reduceLT, Int.reduceLE, Int.reduceAdd, Int.reduceSub, Int.reduceMul, Int.reduceNeg, Int.reduceEq, Int.reduceNe, Nat.reduceMul, Nat.reduceSub]
  refine callG_ok (Stuck_ok o g xs ho hg hx _) (by simp (disch := first | assumption | omega) only [go_sem, ↓reduceIte, Nat.reduceEqDiff, reduceCtorEq, Nat.reduceAdd, Nat.reduceLeDiff, Nat.reduceLT, reduceIte, Int.reduceBEq, Int.reduceBNe, Int.reduceLT, Int.reduceLE, Int.reduceAdd, Int.reduceSub, Int.reduceMul, Int.reduceNeg, Int.reduceEq, Int.reduceNe, Nat.reduceMul, Nat.reduceSub]) ?_
  rintro _ _ ⟨⟨q, rfl, hq⟩, hhh⟩
  rw [hhh, hS]
  clear hhh
  have e : ints .i64 (ni ([] : List Nat)) = [] := rfl
  have hqq : q = .nil ∨ q = .app 1 := by rcases hq with ⟨h, _⟩ | h; exact .inl h; exact .inr h
  clear hq
  rcases hqq with rfl | rfl
  all_goals (
    simp (disch := first | assumption | omega) only [e, go_sem, ↓reduceIte, Nat.reduceEqDiff, reduceCtorEq, Nat.reduceAdd, Nat.reduceLeDiff, Nat.reduceLT, reduceIte, Int.reduceBEq, Int.reduceBNe, Int.reduceLT, Int.reduceLE, Int.reduceAdd, Int.reduceSub, Int.reduceMul, Int.reduceNeg, Int.reduceEq, Int.reduceNe, Nat.reduceMul, Nat.reduceSub]
    refine aw_count (fun d S => ∃ (m : Nat), m + d = g.length ∧ S.env 6 = .hp h.length 0 ∧ S.env 0 = .lst o xs ∧ S.heap = h ++ [.cells [rawRow (orderL g m)]]) (n := g.length)
      ⟨0, by omega, by simp (disch := first | assumption | omega) only [go_sem, ↓reduceIte, Nat.reduceEqDiff, reduceCtorEq, Nat.reduceAdd, Nat.reduceLeDiff, Nat.reduceLT, reduceIte, Int.reduceBEq, Int.reduceBNe, Int.reduceLT, Int.reduceLE, Int.reduceAdd, Int.reduceSub, Int.reduceMul, Int.reduceNeg, Int.reduceEq, Int.reduceNe, Nat.reduceMul, Nat.reduceSub], by simp (disch := first | assumption | omega) only [go_sem, ↓reduceIte, Nat.reduceEqDiff, reduceCtorEq, Nat.reduceAdd, Nat.reduceLeDiff, Nat.reduceLT, reduceIte, Int.reduceBEq, Int.reduceBNe, Int.reduceLT, Int.reduceLE, Int.reduceAdd, Int.reduceSub, Int.reduceMul, Int.reduceNeg, Int.reduceEq, Int.reduceNe, Nat.reduceMul, Nat.reduceSub], by simp (disch := first | assumption | omega) only [go_sem, ↓reduceIte, Nat.reduceEqDiff, reduceCtorEq, Nat.reduceAdd, Nat.reduceLeDiff, Nat.reduceLT, reduceIte, Int.reduceBEq, Int.reduceBNe, Int.reduceLT, Int.reduceLE, Int.reduceAdd, Int.reduceSub, Int.reduceMul, Int.reduceNeg, Int.reduceEq, Int.reduceNe, Nat.reduceMul, Nat.reduceSub]; rfl⟩ ?_
    rintro d S ⟨m, hmd, e6, e0, eh⟩
    have hge : S.heap[h.length]? = some (.cells [rawRow (orderL g m)]) := by rw [eh, hpx_get0]; rfl
    have hgeL : ∀ n : Nat, [rawRow (orderL g m)].length = 1 := fun _ => rfl
    obtain ⟨o1, o2, o3, o4⟩ := orderL_ok hg.ok ha m (by omega)
    have hrO := rdO_rdo (orderL g m)
    by_cases hlt : (m : Int) < g.length
    · obtain ⟨k, hk, hk'⟩ := order_more hg.ok ha (m := m) (by omega)
      simp (disch := first | assumption | omega) only [e6, e0, hge, rdc_raw', ni_length, o1, lx, hlt, go_sem, ↓reduceIte, Nat.reduceEqDiff, reduceCtorEq, Nat.reduceAdd, Nat.reduceLeDiff, Nat.reduceLT, reduceIte, Int.reduceBEq, Int.reduceBNe, Int.reduceLT, Int.reduceLE, Int.reduceAdd, Int.reduceSub, Int.reduceMul, Int.reduceNeg, Int.reduceEq, Int.reduceNe, Nat.reduceMul, Nat.reduceSub]
      refine aw_count (fun d' S' => ∃ (i : Nat), i + d' = g.length ∧ S'.env 27 = .int .i64 i ∧ S'.env 26 = .int .i64 g.length ∧ S'.env 25 = .lst o xs ∧ S'.env 6 = .hp h.length 0 ∧ S'.env 0 = .lst o xs ∧ (∀ j, j < i → rdyB g (orderL g m) j = false) ∧ S'.heap = h ++ [.cells [rawRow (orderL g m)]]) (n := g.length)
        ⟨0, by omega, by simp (disch := first | assumption | omega) only [go_sem, ↓reduceIte, Nat.reduceEqDiff, reduceCtorEq, Nat.reduceAdd, Nat.reduceLeDiff, Nat.reduceLT, reduceIte, Int.reduceBEq, Int.reduceBNe, Int.reduceLT, Int.reduceLE, Int.reduceAdd, Int.reduceSub, Int.reduceMul, Int.reduceNeg, Int.reduceEq, Int.reduceNe, Nat.reduceMul, Nat.reduceSub], by simp (disch := first | assumption | omega) only [lx, go_sem, ↓reduceIte, Nat.reduceEqDiff, reduceCtorEq, Nat.reduceAdd, Nat.reduceLeDiff, Nat.reduceLT, reduceIte, Int.reduceBEq, Int.reduceBNe, Int.reduceLT, Int.reduceLE, Int.reduceAdd, Int.reduceSub, Int.reduceMul, Int.reduceNeg, Int.reduceEq, Int.reduceNe, Nat.reduceMul, Nat.reduceSub], by simp (disch := first | assumption | omega) only [go_sem, ↓reduceIte, Nat.reduceEqDiff, reduceCtorEq, Nat.reduceAdd, Nat.reduceLeDiff, Nat.reduceLT, reduceIte, Int.reduceBEq, Int.reduceBNe, Int.reduceLT, Int.reduceLE, Int.reduceAdd, Int.reduceSub, Int.reduceMul, Int.reduceNeg, Int.reduceEq, Int.reduceNe, Nat.reduceMul, Nat.reduceSub], by simp (disch := first | assumption | omega) only [e6, go_sem, ↓reduceIte, Nat.reduceEqDiff, reduceCtorEq, Nat.reduceAdd, Nat.reduceLeDiff, Nat.reduceLT, reduceIte, Int.reduceBEq, Int.reduceBNe, Int.reduceLT, Int.reduceLE, Int.reduceAdd, Int.reduceSub, Int.reduceMul, Int.reduceNeg, Int.reduceEq, Int.reduceNe, Nat.reduceMul, Nat.reduceSub], by simp (disch := first | assumption | omega) only [e0, go_sem, ↓reduceIte, Nat.reduceEqDiff, reduceCtorEq, Nat.reduceAdd, Nat.reduceLeDiff, Nat.reduceLT, reduceIte, Int.reduceBEq, Int.reduceBNe, Int.reduceLT, Int.reduceLE, Int.reduceAdd, Int.reduceSub, Int.reduceMul, Int.reduceNeg, Int.reduceEq, Int.reduceNe, Nat.reduceMul, Nat.reduceSub], (fun j hj => by omega), by simp (disch := first | assumption | omega) only [eh, go_sem, ↓reduceIte, Nat.reduceEqDiff, reduceCtorEq, Nat.reduceAdd, Nat.reduceLeDiff, Nat.reduceLT, reduceIte, Int.reduceBEq, Int.reduceBNe, Int.reduceLT, Int.reduceLE, Int.reduceAdd, Int.reduceSub, Int.reduceMul, Int.reduceNeg, Int.reduceEq, Int.reduceNe, Nat.reduceMul, Nat.reduceSub]⟩ ?_
      clear e6 e0 eh hge
      rintro d' S' ⟨i, hid, e27, e26, e25, e6, e0, hnone, eh⟩
      have hge : S'.heap[h.length]? = some (.cells [rawRow (orderL g m)]) := by rw [eh, hpx_get0]; rfl
      by_cases hil : (i : Int) < g.length
      · have hi : i < g.length := by omega
        have hi2 : i < (toI g).length := by rw [toI_length]; exact hi
        have hi3 : (i : Int) < xs.length := by omega
        have hi4 : i < xs.length := by omega
        obtain ⟨q, hq, hxi⟩ := hx.at i hi2
        rw [toI_get hi2] at hq hxi
        have hq1 := hq.1
        have hrl := hg.row i
        simp (disch := first | assumption | omega) only [e27, e26, e25, e6, e0, hil, hi3, hi4, hxi, hge, rdc_raw', go_sem, ↓reduceIte, Nat.reduceEqDiff, reduceCtorEq, Nat.reduceAdd, Nat.reduceLeDiff, Nat.reduceLT, reduceIte, Int.reduceBEq, Int.reduceBNe, Int.reduceLT, Int.reduceLE, Int.reduceAdd, Int.reduceSub, Int.reduceMul, Int.reduceNeg, Int.reduceEq, Int.reduceNe, Nat.reduceMul, Nat.reduceSub]
        refine callG_ok (ContainsInt_ok (rdO (orderL g m)) (ni (orderL g m)) i hrO (by rw [ni_length]; omega) _) (by simp (disch := first | assumption | omega) only [go_sem, ↓reduceIte, Nat.reduceEqDiff, reduceCtorEq, Nat.reduceAdd, Nat.reduceLeDiff, Nat.reduceLT, reduceIte, Int.reduceBEq, Int.reduceBNe, Int.reduceLT, Int.reduceLE, Int.reduceAdd, Int.reduceSub, Int.reduceMul, Int.reduceNeg, Int.reduceEq, Int.reduceNe, Nat.reduceMul, Nat.reduceSub]) ?_
        rintro _ _ ⟨rfl, hhh⟩
        rw [hhh]
        clear hhh
        by_cases hc : i ∈ orderL g m
        · rw [decide_eq_true (mem_ni.2 hc)]
          simp (disch := first | assumption | omega) only [e27, e26, e25, e6, e0, go_sem, ↓reduceIte, Nat.reduceEqDiff, reduceCtorEq, Nat.reduceAdd, Nat.reduceLeDiff, Nat.reduceLT, reduceIte, Int.reduceBEq, Int.reduceBNe, Int.reduceLT, Int.reduceLE, Int.reduceAdd, Int.reduceSub, Int.reduceMul, Int.reduceNeg, Int.reduceEq, Int.reduceNe, Nat.reduceMul, Nat.reduceSub]
          exact ⟨d' - 1, by omega, i + 1, by omega, by simp, fun j hj => by
            rcases Nat.lt_or_ge j i with h1 | h1
            · exact hnone j h1
            · obtain rfl : j = i := by omega
              exact rdy_in hc, eh⟩
        · rw [decide_eq_false (fun h => hc (mem_ni.1 h))]
          simp (disch := first | assumption | omega) only [e27, e26, e25, e6, e0, go_sem, ↓reduceIte, Nat.reduceEqDiff, reduceCtorEq, Nat.reduceAdd, Nat.reduceLeDiff, Nat.reduceLT, reduceIte, Int.reduceBEq, Int.reduceBNe, Int.reduceLT, Int.reduceLE, Int.reduceAdd, Int.reduceSub, Int.reduceMul, Int.reduceNeg, Int.reduceEq, Int.reduceNe, Nat.reduceMul, Nat.reduceSub]
          refine callG_ok (ContainsFuncInt_ok q (ni (nx g i)) F.ring_Order_1 [.hp h.length 0] (fun x => !decide (x ∈ ni (orderL g m))) hq1 (by rw [ni_length]; omega) (by simp [storC]) _ (fun x _ => Order1_ok x h.length (orderL g m) (by omega) _ hge)) (by simp (disch := first | assumption | omega) only [go_sem, ↓reduceIte, Nat.reduceEqDiff, reduceCtorEq, Nat.reduceAdd, Nat.reduceLeDiff, Nat.reduceLT, reduceIte, Int.reduceBEq, Int.reduceBNe, Int.reduceLT, Int.reduceLE, Int.reduceAdd, Int.reduceSub, Int.reduceMul, Int.reduceNeg, Int.reduceEq, Int.reduceNe, Nat.reduceMul, Nat.reduceSub]) ?_
          rintro _ _ ⟨rfl, hhh⟩
          rw [hhh, any_ni]
          clear hhh
          cases hall : (nx g i).all fun k => (orderL g m).contains k
          · simp (disch := first | assumption | omega) only [e27, e26, e25, e6, e0, go_sem, ↓reduceIte, Nat.reduceEqDiff, reduceCtorEq, Nat.reduceAdd, Nat.reduceLeDiff, Nat.reduceLT, reduceIte, Int.reduceBEq, Int.reduceBNe, Int.reduceLT, Int.reduceLE, Int.reduceAdd, Int.reduceSub, Int.reduceMul, Int.reduceNeg, Int.reduceEq, Int.reduceNe, Nat.reduceMul, Nat.reduceSub]
            exact ⟨d' - 1, by omega, i + 1, by omega, by simp, fun j hj => by
              rcases Nat.lt_or_ge j i with h1 | h1
              · exact hnone j h1
              · obtain rfl : j = i := by omega
                unfold rdyB; rw [hall]; simp, eh⟩
          · have hrd : rdyB g (orderL g m) i = true := by unfold rdyB; rw [hall]; simp [hc]
            have hp := pick_least hi hrd hnone
            have hki : i = k := by rw [hp] at hk; exact Option.some.inj hk
            rw [← hki] at hk'
            have hne : ni (orderL g m ++ [i]) = ni (orderL g m) ++ [(i : Int)] := by rw [ni_append]; rfl
            have hraw : rawRow (orderL g m ++ [i]) = .lst (.app 1) (ints .i64 (ni (orderL g m)) ++ [.int .i64 i]) := by
              have : ∀ L : List Nat, rawRow (L ++ [i]) = .lst (.app 1) (ints .i64 (ni L) ++ [.int .i64 i]) := fun L => by cases L <;> simp [rawRow, ni, ints]
              exact this _
            have hfin : ∀ v, v = rawRow (orderL g m ++ [i]) → S'.heap.set h.length (.cells [v]) = h ++ [.cells [rawRow (orderL g (m + 1))]] := by
              rintro v rfl
              rw [eh, hpx_set0, hk']; rfl
            cases hL : orderL g m with
            | nil =>
              rw [hL] at hge hraw hfin o1
              simp only [rawRow] at hge
              simp (disch := first | assumption | omega) only [e27, e26, e25, e6, e0, hge, get_set hge, List.set_set, go_sem, ↓reduceIte, Nat.reduceEqDiff, reduceCtorEq, Nat.reduceAdd, Nat.reduceLeDiff, Nat.reduceLT, reduceIte, Int.reduceBEq, Int.reduceBNe, Int.reduceLT, Int.reduceLE, Int.reduceAdd, Int.reduceSub, Int.reduceMul, Int.reduceNeg, Int.reduceEq, Int.reduceNe, Nat.reduceMul, Nat.reduceSub]
              exact ⟨d - 1, by omega, m + 1, by omega, hfin _ (by rw [hraw]; rfl)⟩
            | cons b r =>
              rw [hL] at hge hraw hfin o1
              simp only [rawRow] at hge
              simp only [List.length_cons] at o1
              simp (disch := first | assumption | omega) only [e27, e26, e25, e6, e0, hge, get_set hge, List.set_set, ni_length, go_sem, ↓reduceIte, Nat.reduceEqDiff, reduceCtorEq, Nat.reduceAdd, Nat.reduceLeDiff, Nat.reduceLT, reduceIte, Int.reduceBEq, Int.reduceBNe, Int.reduceLT, Int.reduceLE, Int.reduceAdd, Int.reduceSub, Int.reduceMul, Int.reduceNeg, Int.reduceEq, Int.reduceNe, Nat.reduceMul, Nat.reduceSub]
              exact ⟨by omega, by omega, d - 1, by omega, m + 1, by omega, hfin _ (by rw [hraw])⟩
      · exfalso
        have h1 := pick_some hk
        have h2 := hnone k (by omega)
        have h3 := List.find?_some hk
        rw [h2] at h3; cases h3
    · obtain rfl : m = g.length := by omega
      simp (disch := first | assumption | omega) only [e6, e0, hge, rdc_raw', ni_length, o1, lx, hlt, go_sem, ↓reduceIte, Nat.reduceEqDiff, reduceCtorEq, Nat.reduceAdd, Nat.reduceLeDiff, Nat.reduceLT, reduceIte, Int.reduceBEq, Int.reduceBNe, Int.reduceLT, Int.reduceLE, Int.reduceAdd, Int.reduceSub, Int.reduceMul, Int.reduceNeg, Int.reduceEq, Int.reduceNe, Nat.reduceMul, Nat.reduceSub]
      subst hQ
      simp (disch := first | assumption | omega) only [R.ring_Order, go_sem, ↓reduceIte, Nat.reduceEqDiff, reduceCtorEq, Nat.reduceAdd, Nat.reduceLeDiff, Nat.reduceLT, reduceIte, Int.reduceBEq, Int.reduceBNe, Int.reduceLT, Int.reduceLE, Int.reduceAdd, Int.reduceSub, Int.reduceMul, Int.reduceNeg, Int.reduceEq, Int.reduceNe, Nat.reduceMul, Nat.reduceSub]
      have hids : ∀ L : List Nat, (rawRow L).ids = 0 := fun L => by cases L <;> simp [rawRow, AVal.ids, idsL, ints_ids]
      have hset : S.heap.set h.length (.cells [remc (rawRow (orderL g g.length))]) = h ++ [.cells [remc (rawRow (orderL g g.length))]] := by rw [eh, hpx_set0]; rfl
      have hid2 := hids (orderL g g.length)
      cases hL : orderL g g.length <;> rw [hL] at hset hid2 <;> exact ⟨rfl, rfl, _, hset, by simp [rawRow, AVal.ids, idsL, ints_ids], rfl⟩)
end Go.Proofs.Ytpdajkbfemcdlaa
/- Contracts: the references of graphs. -/
set_option linter.unusedSimpArgs false
set_option linter.unusedVariables false
set_option maxRecDepth 10000
namespace Go.Proofs.Ytpdajkbfemcdlaa
open Go.Ge
theorem Reached_ok (o : Own) (g : Gr) (xs : List AVal) (ho : Rdo o) (hg : Gfine g) (hx : Each2 RowOk (toI g) xs) (a : Nat) (ha : a < g.length) (h : List HObj) :
    ACalls Try.prog F.gantref5_Reached [.lst o xs, .int .i64 a] h (fun r h' => (∃ s : List Bool, r = .lst (.app 1) (bls s) ∧ s.length = g.length ∧ ∀ k, s.getD k false = true ↔ Rch g a k) ∧ h' = h) := by
  have lx := hx.length
  rw [toI_length] at lx
  have n64 := hg.n64
  have hw1 : IntKind.i64.wrap ((g.length : Int) + 1) = ((g.length + 1 : Nat) : Int) := by rw [wrapI64 (by omega) (by omega)]; omega
  refine ACalls.gcn (ACalls.of_aw Try.func103 K.gantref5_Reached (by simp [Try.f103]) ?_)
  generalize hQ : retQ R.gantref5_Reached _ = Q
  simp (disch := first | assumption | omega) only [C.gantref5_Reached, go_sem, ↓reduceIte, Nat.reduceEqDiff, reduceCtorEq, Nat.reduceAdd, Nat.reduceLeDiff, Nat.reduceLT, reduceIte, Int.reduceBEq, Int.reduceBNe, Int.reduceLT, Int.reduceLE, Int.reduceAdd, Int.reduceSub, Int.reduceMul, Int.reduceNeg, Int.reduceEq, Int.reduceNe, Nat.reduceMul, Nat.reduceSub]
  simp (disch := first | assumption | omega) only [lx, bls_rep, go_sem, ↓reduceIte, Nat.reduceEqDiff, reduceCtorEq, Nat.reduceAdd, Nat.reduceLeDiff, Nat.reduceLT, reduceIte, Int.reduceBEq, Int.reduceBNe, Int.reduceLT, Int.reduceLE, Int.reduceAdd, Int.reduceSub, Int.reduceMul, Int.reduceNeg, Int.reduceEq, Int.reduceNe, Nat.reduceMul, Nat.reduceSub]
  refine ⟨by omega, ?_⟩
  refine thaw_bls (s := List.replicate g.length false) (n := g.length) (by simp (disch := first | assumption | omega) only [bls_rep, go_sem, ↓reduceIte, Nat.reduceEqDiff, reduceCtorEq, Nat.reduceAdd, Nat.reduceLeDiff, Nat.reduceLT, reduceIte, Int.reduceBEq, Int.reduceBNe, Int.reduceLT, Int.reduceLE, Int.reduceAdd, Int.reduceSub, Int.reduceMul, Int.reduceNeg, Int.reduceEq, Int.reduceNe, Nat.reduceMul, Nat.reduceSub]) (by simp) ?_
  simp (disch := first | assumption | omega) only [lx, hw1, go_sem, ↓reduceIte, Nat.reduceEqDiff, reduceCtorEq, Nat.reduceAdd, Nat.reduceLeDiff, Nat.reduceLT, reduceIte, Int.reduceBEq, Int.reduceBNe, Int.reduceLT, Int.reduceLE, Int.reduceAdd, Int.reduceSub, Int.reduceMul, Int.reduceNeg, Int.reduceEq, Int.reduceNe, Nat.reduceMul, Nat.reduceSub]
  refine aw_count (fun d S => ∃ (r : Nat) (s : List Bool), r + d = g.length + 1 ∧ S.env 16 = .int .i64 r ∧ S.env 15 = .int .i64 (g.length + 1 : Nat) ∧ S.env 5 = .ref h.length 0 g.length g.length ∧ S.env 0 = .lst o xs ∧ S.env 1 = .int .i64 a ∧ Rd g a r 0 s ∧ S.heap = h ++ [.cells (bls s)]) (n := g.length + 1)
    ⟨0, List.replicate g.length false, by omega, by simp (disch := first | assumption | omega) only [go_sem, ↓reduceIte, Nat.reduceEqDiff, reduceCtorEq, Nat.reduceAdd, Nat.reduceLeDiff, Nat.reduceLT, reduceIte, Int.reduceBEq, Int.reduceBNe, Int.reduceLT, Int.reduceLE, Int.reduceAdd, Int.reduceSub, Int.reduceMul, Int.reduceNeg, Int.reduceEq, Int.reduceNe, Nat.reduceMul, Nat.reduceSub], by simp (disch := first | assumption | omega) only [go_sem, ↓reduceIte, Nat.reduceEqDiff, reduceCtorEq, Nat.reduceAdd, Nat.reduceLeDiff, Nat.reduceLT, reduceIte, Int.reduceBEq, Int.reduceBNe, Int.reduceLT, Int.reduceLE, Int.reduceAdd, Int.reduceSub, Int.reduceMul, Int.reduceNeg, Int.reduceEq, Int.reduceNe, Nat.reduceMul, Nat.reduceSub], by simp (disch := first | assumption | omega) only [go_sem, ↓reduceIte, Nat.reduceEqDiff, reduceCtorEq, Nat.reduceAdd, Nat.reduceLeDiff, Nat.reduceLT, reduceIte, Int.reduceBEq, Int.reduceBNe, Int.reduceLT, Int.reduceLE, Int.reduceAdd, Int.reduceSub, Int.reduceMul, Int.reduceNeg, Int.reduceEq, Int.reduceNe, Nat.reduceMul, Nat.reduceSub], by simp (disch := first | assumption | omega) only [go_sem, ↓reduceIte, Nat.reduceEqDiff, reduceCtorEq, Nat.reduceAdd, Nat.reduceLeDiff, Nat.reduceLT, reduceIte, Int.reduceBEq, Int.reduceBNe, Int.reduceLT, Int.reduceLE, Int.reduceAdd, Int.reduceSub, Int.reduceMul, Int.reduceNeg, Int.reduceEq, Int.reduceNe, Nat.reduceMul, Nat.reduceSub], by simp (disch := first | assumption | omega) only [go_sem, ↓reduceIte, Nat.reduceEqDiff, reduceCtorEq, Nat.reduceAdd, Nat.reduceLeDiff, Nat.reduceLT, reduceIte, Int.reduceBEq, Int.reduceBNe, Int.reduceLT, Int.reduceLE, Int.reduceAdd, Int.reduceSub, Int.reduceMul, Int.reduceNeg, Int.reduceEq, Int.reduceNe, Nat.reduceMul, Nat.reduceSub], Rd.start g a, by simp (disch := first | assumption | omega) only [go_sem, ↓reduceIte, Nat.reduceEqDiff, reduceCtorEq, Nat.reduceAdd, Nat.reduceLeDiff, Nat.reduceLT, reduceIte, Int.reduceBEq, Int.reduceBNe, Int.reduceLT, Int.reduceLE, Int.reduceAdd, Int.reduceSub, Int.reduceMul, Int.reduceNeg, Int.reduceEq, Int.reduceNe, Nat.reduceMul, Nat.reduceSub]⟩ ?_
  rintro d S ⟨r, s, hrd, e16, e15, e5, e0, e1, hR, eh⟩
  have hge : S.heap[h.length]? = some (.cells (bls s)) := by rw [eh, hpx_get0]; rfl
  by_cases hlt : (r : Int) < ((g.length + 1 : Nat) : Int)
  · simp (disch := first | assumption | omega) only [e16, e15, e5, e0, e1, hlt, lx, go_sem, ↓reduceIte, Nat.reduceEqDiff, reduceCtorEq, Nat.reduceAdd, Nat.reduceLeDiff, Nat.reduceLT, reduceIte, Int.reduceBEq, Int.reduceBNe, Int.reduceLT, Int.reduceLE, Int.reduceAdd, Int.reduceSub, Int.reduceMul, Int.reduceNeg, Int.reduceEq, Int.reduceNe, Nat.reduceMul, Nat.reduceSub]
    refine aw_count (fun d' S => ∃ (i : Nat) (s : List Bool), i + d' = g.length ∧ S.env 20 = .int .i64 i ∧ S.env 19 = .int .i64 g.length ∧ S.env 18 = .lst o xs ∧ S.env 16 = .int .i64 r ∧ S.env 15 = .int .i64 (g.length + 1 : Nat) ∧ S.env 5 = .ref h.length 0 g.length g.length ∧ S.env 0 = .lst o xs ∧ S.env 1 = .int .i64 a ∧ Rd g a r i s ∧ S.heap = h ++ [.cells (bls s)]) (n := g.length)
      ⟨0, s, by omega, by simp (disch := first | assumption | omega) only [go_sem, ↓reduceIte, Nat.reduceEqDiff, reduceCtorEq, Nat.reduceAdd, Nat.reduceLeDiff, Nat.reduceLT, reduceIte, Int.reduceBEq, Int.reduceBNe, Int.reduceLT, Int.reduceLE, Int.reduceAdd, Int.reduceSub, Int.reduceMul, Int.reduceNeg, Int.reduceEq, Int.reduceNe, Nat.reduceMul, Nat.reduceSub], by simp (disch := first | assumption | omega) only [go_sem, ↓reduceIte, Nat.reduceEqDiff, reduceCtorEq, Nat.reduceAdd, Nat.reduceLeDiff, Nat.reduceLT, reduceIte, Int.reduceBEq, Int.reduceBNe, Int.reduceLT, Int.reduceLE, Int.reduceAdd, Int.reduceSub, Int.reduceMul, Int.reduceNeg, Int.reduceEq, Int.reduceNe, Nat.reduceMul, Nat.reduceSub], by simp (disch := first | assumption | omega) only [go_sem, ↓reduceIte, Nat.reduceEqDiff, reduceCtorEq, Nat.reduceAdd, Nat.reduceLeDiff, Nat.reduceLT, reduceIte, Int.reduceBEq, Int.reduceBNe, Int.reduceLT, Int.reduceLE, Int.reduceAdd, Int.reduceSub, Int.reduceMul, Int.reduceNeg, Int.reduceEq, Int.reduceNe, Nat.reduceMul, Nat.reduceSub], by simp (disch := first | assumption | omega) only [e16, go_sem, ↓reduceIte, Nat.reduceEqDiff, reduceCtorEq, Nat.reduceAdd, Nat.reduceLeDiff, Nat.reduceLT, reduceIte, Int.reduceBEq, Int.reduceBNe, Int.reduceLT, Int.reduceLE, Int.reduceAdd, Int.reduceSub, Int.reduceMul, Int.reduceNeg, Int.reduceEq, Int.reduceNe, Nat.reduceMul, Nat.reduceSub], by simp (disch := first | assumption | omega) only [e15, go_sem, ↓reduceIte, Nat.reduceEqDiff, reduceCtorEq, Nat.reduceAdd, Nat.reduceLeDiff, Nat.reduceLT, reduceIte, Int.reduceBEq, Int.reduceBNe, Int.reduceLT, Int.reduceLE, Int.reduceAdd, Int.reduceSub, Int.reduceMul, Int.reduceNeg, Int.reduceEq, Int.reduceNe, Nat.reduceMul, Nat.reduceSub], by simp (disch := first | assumption | omega) only [e5, go_sem, ↓reduceIte, Nat.reduceEqDiff, reduceCtorEq, Nat.reduceAdd, Nat.reduceLeDiff, Nat.reduceLT, reduceIte, Int.reduceBEq, Int.reduceBNe, Int.reduceLT, Int.reduceLE, Int.reduceAdd, Int.reduceSub, Int.reduceMul, Int.reduceNeg, Int.reduceEq, Int.reduceNe, Nat.reduceMul, Nat.reduceSub], by simp (disch := first | assumption | omega) only [e0, go_sem, ↓reduceIte, Nat.reduceEqDiff, reduceCtorEq, Nat.reduceAdd, Nat.reduceLeDiff, Nat.reduceLT, reduceIte, Int.reduceBEq, Int.reduceBNe, Int.reduceLT, Int.reduceLE, Int.reduceAdd, Int.reduceSub, Int.reduceMul, Int.reduceNeg, Int.reduceEq, Int.reduceNe, Nat.reduceMul, Nat.reduceSub], by simp (disch := first | assumption | omega) only [e1, go_sem, ↓reduceIte, Nat.reduceEqDiff, reduceCtorEq, Nat.reduceAdd, Nat.reduceLeDiff, Nat.reduceLT, reduceIte, Int.reduceBEq, Int.reduceBNe, Int.reduceLT, Int.reduceLE, Int.reduceAdd, Int.reduceSub, Int.reduceMul, Int.reduceNeg, Int.reduceEq, Int.reduceNe, Nat.reduceMul, Nat.reduceSub], hR, by simp (disch := first | assumption | omega) only [eh, go_sem, ↓reduceIte, Nat.reduceEqDiff, reduceCtorEq, Nat.reduceAdd, Nat.reduceLeDiff, Nat.reduceLT, reduceIte, Int.reduceBEq, Int.reduceBNe, Int.reduceLT, Int.reduceLE, Int.reduceAdd, Int.reduceSub, Int.reduceMul, Int.reduceNeg, Int.reduceEq, Int.reduceNe, Nat.reduceMul, Nat.reduceSub]⟩ ?_
    clear e16 e15 e5 e0 e1 eh hR hge
    clear s
    rintro d' S ⟨i, s, hid, e20, e19, e18, e16, e15, e5, e0, e1, hR, eh⟩
    have hge : S.heap[h.length]? = some (.cells (bls s)) := by rw [eh, hpx_get0]; rfl
    have hsl := hR.len
    have hbl := bls_length s
    by_cases hil : (i : Int) < g.length
    · have hi : i < g.length := by omega
      have hi2 : i < (toI g).length := by rw [toI_length]; exact hi
      have hi3 : (i : Int) < xs.length := by omega
      have hi4 : i < xs.length := by omega
      obtain ⟨q, hq, hxi⟩ := hx.at i hi2
      rw [toI_get hi2] at hq hxi
      have hq1 := hq.1
      have hrl := hg.row i
      have hgi := bls_getD (s := s) (k := i) (by omega)
      have hor : ((i : Int) = a ∧ (i = a ∨ Rch g a i)) ∨ (¬(i : Int) = a ∧ s.getD i false = true ∧ (i = a ∨ Rch g a i)) ∨ (¬(i : Int) = a ∧ s.getD i false = false) := by
        by_cases c1 : (i : Int) = a
        · exact .inl ⟨c1, .inl (by omega)⟩
        · cases hs : s.getD i false
          · exact .inr (.inr ⟨c1, rfl⟩)
          · exact .inr (.inl ⟨c1, rfl, .inr (hR.sound i hs)⟩)
      have hIN : ∀ (s : List Bool), True := fun _ => trivial
      rcases hor with ⟨c1, hr⟩ | ⟨c1, c2, hr⟩ | ⟨c1, c2⟩
      · simp (disch := first | assumption | omega) only [e20, e19, e18, e16, e15, e5, e0, e1, hge, hil, hi3, hi4, hxi, hgi, hbl, hsl, Nat.mul_one, ni_length, eq_true c1, go_sem, ↓reduceIte, Nat.reduceEqDiff, reduceCtorEq, Nat.reduceAdd, Nat.reduceLeDiff, Nat.reduceLT, reduceIte, Int.reduceBEq, Int.reduceBNe, Int.reduceLT, Int.reduceLE, Int.reduceAdd, Int.reduceSub, Int.reduceMul, Int.reduceNeg, Int.reduceEq, Int.reduceNe, Nat.reduceMul, Nat.reduceSub]
        refine aw_count (fun d'' S => ∃ (n : Nat) (s : List Bool), n + d'' = (nx g i).length ∧ S.env 37 = .int .i64 n ∧ S.env 36 = .int .i64 (nx g i).length ∧ S.env 35 = .lst q (ints .i64 (ni (nx g i))) ∧ S.env 20 = .int .i64 i ∧ S.env 19 = .int .i64 g.length ∧ S.env 18 = .lst o xs ∧ S.env 16 = .int .i64 r ∧ S.env 15 = .int .i64 (g.length + 1 : Nat) ∧ S.env 5 = .ref h.length 0 g.length g.length ∧ S.env 0 = .lst o xs ∧ S.env 1 = .int .i64 a ∧ Rr g a r i n s ∧ S.heap = h ++ [.cells (bls s)]) (n := (nx g i).length)
          ⟨0, s, by omega, by simp (disch := first | assumption | omega) only [go_sem, ↓reduceIte, Nat.reduceEqDiff, reduceCtorEq, Nat.reduceAdd, Nat.reduceLeDiff, Nat.reduceLT, reduceIte, Int.reduceBEq, Int.reduceBNe, Int.reduceLT, Int.reduceLE, Int.reduceAdd, Int.reduceSub, Int.reduceMul, Int.reduceNeg, Int.reduceEq, Int.reduceNe, Nat.reduceMul, Nat.reduceSub], by simp (disch := first | assumption | omega) only [ni_length, go_sem, ↓reduceIte, Nat.reduceEqDiff, reduceCtorEq, Nat.reduceAdd, Nat.reduceLeDiff, Nat.reduceLT, reduceIte, Int.reduceBEq, Int.reduceBNe, Int.reduceLT, Int.reduceLE, Int.reduceAdd, Int.reduceSub, Int.reduceMul, Int.reduceNeg, Int.reduceEq, Int.reduceNe, Nat.reduceMul, Nat.reduceSub], by simp (disch := first | assumption | omega) only [go_sem, ↓reduceIte, Nat.reduceEqDiff, reduceCtorEq, Nat.reduceAdd, Nat.reduceLeDiff, Nat.reduceLT, reduceIte, Int.reduceBEq, Int.reduceBNe, Int.reduceLT, Int.reduceLE, Int.reduceAdd, Int.reduceSub, Int.reduceMul, Int.reduceNeg, Int.reduceEq, Int.reduceNe, Nat.reduceMul, Nat.reduceSub], by simp (disch := first | assumption | omega) only [e20, go_sem, ↓reduceIte, Nat.reduceEqDiff, reduceCtorEq, Nat.reduceAdd, Nat.reduceLeDiff, Nat.reduceLT, reduceIte, Int.reduceBEq, Int.reduceBNe, Int.reduceLT, Int.reduceLE, Int.reduceAdd, Int.reduceSub, Int.reduceMul, Int.reduceNeg, Int.reduceEq, Int.reduceNe, Nat.reduceMul, Nat.reduceSub], by simp (disch := first | assumption | omega) only [e19, go_sem, ↓reduceIte, Nat.reduceEqDiff, reduceCtorEq, Nat.reduceAdd, Nat.reduceLeDiff, Nat.reduceLT, reduceIte, Int.reduceBEq, Int.reduceBNe, Int.reduceLT, Int.reduceLE, Int.reduceAdd, Int.reduceSub, Int.reduceMul, Int.reduceNeg, Int.reduceEq, Int.reduceNe, Nat.reduceMul, Nat.reduceSub], by simp (disch := first | assumption | omega) only [e18, go_sem, ↓reduceIte, Nat.reduceEqDiff, reduceCtorEq, Nat.reduceAdd, Nat.reduceLeDiff, Nat.reduceLT, reduceIte, Int.reduceBEq, Int.reduceBNe, Int.reduceLT, Int.reduceLE, Int.reduceAdd, Int.reduceSub, Int.reduceMul, Int.reduceNeg, Int.reduceEq, Int.reduceNe, Nat.reduceMul, Nat.reduceSub], by simp (disch := first | assumption | omega) only [e16, go_sem, ↓reduceIte, Nat.reduceEqDiff, reduceCtorEq, Nat.reduceAdd, Nat.reduceLeDiff, Nat.reduceLT, reduceIte, Int.reduceBEq, Int.reduceBNe, Int.reduceLT, Int.reduceLE, Int.reduceAdd, Int.reduceSub, Int.reduceMul, Int.reduceNeg, Int.reduceEq, Int.reduceNe, Nat.reduceMul, Nat.reduceSub], by simp (disch := first | assumption | omega) only [e15, go_sem, ↓reduceIte, Nat.reduceEqDiff, reduceCtorEq, Nat.reduceAdd, Nat.reduceLeDiff, Nat.reduceLT, reduceIte, Int.reduceBEq, Int.reduceBNe, Int.reduceLT, Int.reduceLE, Int.reduceAdd, Int.reduceSub, Int.reduceMul, Int.reduceNeg, Int.reduceEq, Int.reduceNe, Nat.reduceMul, Nat.reduceSub], by simp (disch := first | assumption | omega) only [e5, go_sem, ↓reduceIte, Nat.reduceEqDiff, reduceCtorEq, Nat.reduceAdd, Nat.reduceLeDiff, Nat.reduceLT, reduceIte, Int.reduceBEq, Int.reduceBNe, Int.reduceLT, Int.reduceLE, Int.reduceAdd, Int.reduceSub, Int.reduceMul, Int.reduceNeg, Int.reduceEq, Int.reduceNe, Nat.reduceMul, Nat.reduceSub], by simp (disch := first | assumption | omega) only [e0, go_sem, ↓reduceIte, Nat.reduceEqDiff, reduceCtorEq, Nat.reduceAdd, Nat.reduceLeDiff, Nat.reduceLT, reduceIte, Int.reduceBEq, Int.reduceBNe, Int.reduceLT, Int.reduceLE, Int.reduceAdd, Int.reduceSub, Int.reduceMul, Int.reduceNeg, Int.reduceEq, Int.reduceNe, Nat.reduceMul, Nat.reduceSub], by simp (disch := first | assumption | omega) only [e1, go_sem, ↓reduceIte, Nat.reduceEqDiff, reduceCtorEq, Nat.reduceAdd, Nat.reduceLeDiff, Nat.reduceLT, reduceIte, Int.reduceBEq, Int.reduceBNe, Int.reduceLT, Int.reduceLE, Int.reduceAdd, Int.reduceSub, Int.reduceMul, Int.reduceNeg, Int.reduceEq, Int.reduceNe, Nat.reduceMul, Nat.reduceSub], ⟨hR, by simp⟩, by simp (disch := first | assumption | omega) only [eh, go_sem, ↓reduceIte, Nat.reduceEqDiff, reduceCtorEq, Nat.reduceAdd, Nat.reduceLeDiff, Nat.reduceLT, reduceIte, Int.reduceBEq, Int.reduceBNe, Int.reduceLT, Int.reduceLE, Int.reduceAdd, Int.reduceSub, Int.reduceMul, Int.reduceNeg, Int.reduceEq, Int.reduceNe, Nat.reduceMul, Nat.reduceSub]⟩ ?_
        clear e20 e19 e18 e16 e15 e5 e0 e1 eh hR hge hsl hbl hgi
        clear s
        rintro d'' S ⟨n, s, hnd, e37, e36, e35, e20, e19, e18, e16, e15, e5, e0, e1, hR, eh⟩
        have hge : S.heap[h.length]? = some (.cells (bls s)) := by rw [eh, hpx_get0]; rfl
        have hsl := hR.rd.len
        have hbl := bls_length s
        by_cases hnl : (n : Int) < (nx g i).length
        · have hn : n < (nx g i).length := by omega
          have hn2 : n < (ni (nx g i)).length := by rw [ni_length]; exact hn
          have hat := at_int hn2
          rw [ni_get hn2] at hat
          have hkl := hg.ok i _ (List.getElem_mem hn)
          have hR' := hR.step hg.ok hr hn
          have hbs := bls_set (s := s) (k := (nx g i)[n]) (by omega) true
          generalize (nx g i)[n] = k at *
          have hkl2 : (k : Int) < g.length := by omega
          simp (disch := first | assumption | omega) only [e37, e36, e35, e20, e19, e18, e16, e15, e5, e0, e1, hge, hnl, hat, ni_length, hkl2, hbl, hsl, hbs, Nat.mul_one, go_sem, ↓reduceIte, Nat.reduceEqDiff, reduceCtorEq, Nat.reduceAdd, Nat.reduceLeDiff, Nat.reduceLT, reduceIte, Int.reduceBEq, Int.reduceBNe, Int.reduceLT, Int.reduceLE, Int.reduceAdd, Int.reduceSub, Int.reduceMul, Int.reduceNeg, Int.reduceEq, Int.reduceNe, Nat.reduceMul, Nat.reduceSub]
          exact ⟨by omega, d'' - 1, by omega, n + 1, _, by omega, by simp, hR', by rw [eh, hpx_set0]; rfl⟩
        · obtain rfl : n = (nx g i).length := by omega
          simp (disch := first | assumption | omega) only [e37, e36, e35, e20, e19, e18, e16, e15, e5, e0, e1, hnl, go_sem, ↓reduceIte, Nat.reduceEqDiff, reduceCtorEq, Nat.reduceAdd, Nat.reduceLeDiff, Nat.reduceLT, reduceIte, Int.reduceBEq, Int.reduceBNe, Int.reduceLT, Int.reduceLE, Int.reduceAdd, Int.reduceSub, Int.reduceMul, Int.reduceNeg, Int.reduceEq, Int.reduceNe, Nat.reduceMul, Nat.reduceSub]
          exact ⟨d' - 1, by omega, i + 1, s, by omega, by simp, hR.done, eh⟩
      · rw [c2] at hgi
        simp (disch := first | assumption | omega) only [e20, e19, e18, e16, e15, e5, e0, e1, hge, hil, hi3, hi4, hxi, hgi, hbl, hsl, Nat.mul_one, ni_length, c1, go_sem, ↓reduceIte, Nat.reduceEqDiff, reduceCtorEq, Nat.reduceAdd, Nat.reduceLeDiff, Nat.reduceLT, reduceIte, Int.reduceBEq, Int.reduceBNe, Int.reduceLT, Int.reduceLE, Int.reduceAdd, Int.reduceSub, Int.reduceMul, Int.reduceNeg, Int.reduceEq, Int.reduceNe, Nat.reduceMul, Nat.reduceSub]
        refine ⟨by omega, ?_⟩
        refine aw_count (fun d'' S => ∃ (n : Nat) (s : List Bool), n + d'' = (nx g i).length ∧ S.env 37 = .int .i64 n ∧ S.env 36 = .int .i64 (nx g i).length ∧ S.env 35 = .lst q (ints .i64 (ni (nx g i))) ∧ S.env 20 = .int .i64 i ∧ S.env 19 = .int .i64 g.length ∧ S.env 18 = .lst o xs ∧ S.env 16 = .int .i64 r ∧ S.env 15 = .int .i64 (g.length + 1 : Nat) ∧ S.env 5 = .ref h.length 0 g.length g.length ∧ S.env 0 = .lst o xs ∧ S.env 1 = .int .i64 a ∧ Rr g a r i n s ∧ S.heap = h ++ [.cells (bls s)]) (n := (nx g i).length)
          ⟨0, s, by omega, by simp (disch := first | assumption | omega) only [go_sem, ↓reduceIte, Nat.reduceEqDiff, reduceCtorEq, Nat.reduceAdd, Nat.reduceLeDiff, Nat.reduceLT, reduceIte, Int.reduceBEq, Int.reduceBNe, Int.reduceLT, Int.reduceLE, Int.reduceAdd, Int.reduceSub, Int.reduceMul, Int.reduceNeg, Int.reduceEq, Int.reduceNe, Nat.reduceMul, Nat.reduceSub], by simp (disch := first | assumption | omega) only [ni_length, go_sem, ↓reduceIte, Nat.reduceEqDiff, reduceCtorEq, Nat.reduceAdd, Nat.reduceLeDiff, Nat.reduceLT, reduceIte, Int.reduceBEq, Int.reduceBNe, Int.reduceLT, Int.reduceLE, Int.reduceAdd, Int.reduceSub, Int.reduceMul, Int.reduceNeg, Int.reduceEq, Int.reduceNe, Nat.reduceMul, Nat.reduceSub], by simp (disch := first | assumption | omega) only [go_sem, ↓reduceIte, Nat.reduceEqDiff, reduceCtorEq, Nat.reduceAdd, Nat.reduceLeDiff, Nat.reduceLT, reduceIte, Int.reduceBEq, Int.reduceBNe, Int.reduceLT, Int.reduceLE, Int.reduceAdd, Int.reduceSub, Int.reduceMul, Int.reduceNeg, Int.reduceEq, Int.reduceNe, Nat.reduceMul, Nat.reduceSub], by simp (disch := first | assumption | omega) only [e20, go_sem, ↓reduceIte, Nat.reduceEqDiff, reduceCtorEq, Nat.reduceAdd, Nat.reduceLeDiff, Nat.reduceLT, reduceIte, Int.reduceBEq, Int.reduceBNe, Int.reduceLT, Int.reduceLE, Int.reduceAdd, Int.reduceSub, Int.reduceMul, Int.reduceNeg, Int.reduceEq, Int.reduceNe, Nat.reduceMul, Nat.reduceSub], by simp (disch := first | assumption | omega) only [e19, go_sem, ↓reduceIte, Nat.reduceEqDiff, reduceCtorEq, Nat.reduceAdd, Nat.reduceLeDiff, Nat.reduceLT, reduceIte, Int.reduceBEq, Int.reduceBNe, Int.reduceLT, Int.reduceLE, Int.reduceAdd, Int.reduceSub, Int.reduceMul, Int.reduceNeg, Int.reduceEq, Int.reduceNe, Nat.reduceMul, Nat.reduceSub], by simp (disch := first | assumption | omega) only [e18, go_sem, ↓reduceIte, Nat.reduceEqDiff, reduceCtorEq, Nat.reduceAdd, Nat.reduceLeDiff, Nat.reduceLT, reduceIte, Int.reduceBEq, Int.reduceBNe, Int.reduceLT, Int.reduceLE, Int.reduceAdd, Int.reduceSub, Int.reduceMul, Int.reduceNeg, Int.reduceEq, Int.reduceNe, Nat.reduceMul, Nat.reduceSub], by simp (disch := first | assumption | omega) only [e16, go_sem, ↓reduceIte, Nat.reduceEqDiff, reduceCtorEq, Nat.reduceAdd, Nat.reduceLeDiff, Nat.reduceLT, reduceIte, Int.reduceBEq, Int.reduceBNe, Int.reduceLT, Int.reduceLE, Int.reduceAdd, Int.reduceSub, Int.reduceMul, Int.reduceNeg, Int.reduceEq, Int.reduceNe, Nat.reduceMul, Nat.reduceSub], by simp (disch := first | assumption | omega) only [e15, go_sem, ↓reduceIte, Nat.reduceEqDiff, reduceCtorEq, Nat.reduceAdd, Nat.reduceLeDiff, Nat.reduceLT, reduceIte, Int.reduceBEq, Int.reduceBNe, Int.reduceLT, Int.reduceLE, Int.reduceAdd, Int.reduceSub, Int.reduceMul, Int.reduceNeg, Int.reduceEq, Int.reduceNe, Nat.reduceMul, Nat.reduceSub], by simp (disch := first | assumption | omega) only [e5, go_sem, ↓reduceIte, Nat.reduceEqDiff, reduceCtorEq, Nat.reduceAdd, Nat.reduceLeDiff, Nat.reduceLT, reduceIte, Int.reduceBEq, Int.reduceBNe, Int.reduceLT, Int.reduceLE, Int.reduceAdd, Int.reduceSub, Int.reduceMul, Int.reduceNeg, Int.reduceEq, Int.reduceNe, Nat.reduceMul, Nat.reduceSub], by simp (disch := first | assumption | omega) only [e0, go_sem, ↓reduceIte, Nat.reduceEqDiff, reduceCtorEq, Nat.reduceAdd, Nat.reduceLeDiff, Nat.reduceLT, reduceIte, Int.reduceBEq, Int.reduceBNe, Int.reduceLT, Int.reduceLE, Int.reduceAdd, Int.reduceSub, Int.reduceMul, Int.reduceNeg, Int.reduceEq, Int.reduceNe, Nat.reduceMul, Nat.reduceSub], by simp (disch := first | assumption | omega) only [e1, go_sem, ↓reduceIte, Nat.reduceEqDiff, reduceCtorEq, Nat.reduceAdd, Nat.reduceLeDiff, Nat.reduceLT, reduceIte, Int.reduceBEq, Int.reduceBNe, Int.reduceLT, Int.reduceLE, Int.reduceAdd, Int.reduceSub, Int.reduceMul, Int.reduceNeg, Int.reduceEq, Int.reduceNe, Nat.reduceMul, Nat.reduceSub], ⟨hR, by simp⟩, by simp (disch := first | assumption | omega) only [eh, go_sem, ↓reduceIte, Nat.reduceEqDiff, reduceCtorEq, Nat.reduceAdd, Nat.reduceLeDiff, Nat.reduceLT, reduceIte, Int.reduceBEq, Int.reduceBNe, Int.reduceLT, Int.reduceLE, Int.reduceAdd, Int.reduceSub, Int.reduceMul, Int.reduceNeg, Int.reduceEq, Int.reduceNe, Nat.reduceMul, Nat.reduceSub]⟩ ?_
        clear e20 e19 e18 e16 e15 e5 e0 e1 eh hR hge hsl hbl hgi
        clear c2 s
        rintro d'' S ⟨n, s, hnd, e37, e36, e35, e20, e19, e18, e16, e15, e5, e0, e1, hR, eh⟩
        have hge : S.heap[h.length]? = some (.cells (bls s)) := by rw [eh, hpx_get0]; rfl
        have hsl := hR.rd.len
        have hbl := bls_length s
        by_cases hnl : (n : Int) < (nx g i).length
        · have hn : n < (nx g i).length := by omega
          have hn2 : n < (ni (nx g i)).length := by rw [ni_length]; exact hn
          have hat := at_int hn2
          rw [ni_get hn2] at hat
          have hkl := hg.ok i _ (List.getElem_mem hn)
          have hR' := hR.step hg.ok hr hn
          have hbs := bls_set (s := s) (k := (nx g i)[n]) (by omega) true
          generalize (nx g i)[n] = k at *
          have hkl2 : (k : Int) < g.length := by omega
          simp (disch := first | assumption | omega) only [e37, e36, e35, e20, e19, e18, e16, e15, e5, e0, e1, hge, hnl, hat, ni_length, hkl2, hbl, hsl, hbs, Nat.mul_one, go_sem, ↓reduceIte, Nat.reduceEqDiff, reduceCtorEq, Nat.reduceAdd, Nat.reduceLeDiff, Nat.reduceLT, reduceIte, Int.reduceBEq, Int.reduceBNe, Int.reduceLT, Int.reduceLE, Int.reduceAdd, Int.reduceSub, Int.reduceMul, Int.reduceNeg, Int.reduceEq, Int.reduceNe, Nat.reduceMul, Nat.reduceSub]
          exact ⟨by omega, d'' - 1, by omega, n + 1, _, by omega, by simp, hR', by rw [eh, hpx_set0]; rfl⟩
        · obtain rfl : n = (nx g i).length := by omega
          simp (disch := first | assumption | omega) only [e37, e36, e35, e20, e19, e18, e16, e15, e5, e0, e1, hnl, go_sem, ↓reduceIte, Nat.reduceEqDiff, reduceCtorEq, Nat.reduceAdd, Nat.reduceLeDiff, Nat.reduceLT, reduceIte, Int.reduceBEq, Int.reduceBNe, Int.reduceLT, Int.reduceLE, Int.reduceAdd, Int.reduceSub, Int.reduceMul, Int.reduceNeg, Int.reduceEq, Int.reduceNe, Nat.reduceMul, Nat.reduceSub]
          exact ⟨d' - 1, by omega, i + 1, s, by omega, by simp, hR.done, eh⟩
      · rw [c2] at hgi
        simp (disch := first | assumption | omega) only [e20, e19, e18, e16, e15, e5, e0, e1, hge, hil, hi3, hi4, hxi, hgi, hbl, hsl, Nat.mul_one, ni_length, c1, go_sem, ↓reduceIte, Nat.reduceEqDiff, reduceCtorEq, Nat.reduceAdd, Nat.reduceLeDiff, Nat.reduceLT, reduceIte, Int.reduceBEq, Int.reduceBNe, Int.reduceLT, Int.reduceLE, Int.reduceAdd, Int.reduceSub, Int.reduceMul, Int.reduceNeg, Int.reduceEq, Int.reduceNe, Nat.reduceMul, Nat.reduceSub]
        exact ⟨by omega, d' - 1, by omega, i + 1, s, by omega, by simp, hR.skip (fun e => c1 (by omega)) c2, eh⟩
    · obtain rfl : i = g.length := by omega
      simp (disch := first | assumption | omega) only [e20, e19, e18, e16, e15, e5, e0, e1, hil, go_sem, ↓reduceIte, Nat.reduceEqDiff, reduceCtorEq, Nat.reduceAdd, Nat.reduceLeDiff, Nat.reduceLT, reduceIte, Int.reduceBEq, Int.reduceBNe, Int.reduceLT, Int.reduceLE, Int.reduceAdd, Int.reduceSub, Int.reduceMul, Int.reduceNeg, Int.reduceEq, Int.reduceNe, Nat.reduceMul, Nat.reduceSub]
      exact ⟨d - 1, by omega, r + 1, s, by omega, by simp, hR.next, eh⟩
  · obtain rfl : r = g.length + 1 := by omega
    have hsl := hR.len
    simp (disch := first | assumption | omega) only [e16, e15, e5, e0, e1, hlt, go_sem, ↓reduceIte, Nat.reduceEqDiff, reduceCtorEq, Nat.reduceAdd, Nat.reduceLeDiff, Nat.reduceLT, reduceIte, Int.reduceBEq, Int.reduceBNe, Int.reduceLT, Int.reduceLE, Int.reduceAdd, Int.reduceSub, Int.reduceMul, Int.reduceNeg, Int.reduceEq, Int.reduceNe, Nat.reduceMul, Nat.reduceSub]
    refine own_bls (s := s) (n := g.length) (id := h.length) (by simp (disch := first | assumption | omega) only [e5, go_sem, ↓reduceIte, Nat.reduceEqDiff, reduceCtorEq, Nat.reduceAdd, Nat.reduceLeDiff, Nat.reduceLT, reduceIte, Int.reduceBEq, Int.reduceBNe, Int.reduceLT, Int.reduceLE, Int.reduceAdd, Int.reduceSub, Int.reduceMul, Int.reduceNeg, Int.reduceEq, Int.reduceNe, Nat.reduceMul, Nat.reduceSub]) (by simp (disch := first | assumption | omega) only [hge, go_sem, ↓reduceIte, Nat.reduceEqDiff, reduceCtorEq, Nat.reduceAdd, Nat.reduceLeDiff, Nat.reduceLT, reduceIte, Int.reduceBEq, Int.reduceBNe, Int.reduceLT, Int.reduceLE, Int.reduceAdd, Int.reduceSub, Int.reduceMul, Int.reduceNeg, Int.reduceEq, Int.reduceNe, Nat.reduceMul, Nat.reduceSub]) hsl ?_
    rintro hp hhp
    rw [aw_grab]
    simp (disch := first | assumption | omega) only [go_sem, ↓reduceIte, Nat.reduceEqDiff, reduceCtorEq, Nat.reduceAdd, Nat.reduceLeDiff, Nat.reduceLT, reduceIte, Int.reduceBEq, Int.reduceBNe, Int.reduceLT, Int.reduceLE, Int.reduceAdd, Int.reduceSub, Int.reduceMul, Int.reduceNeg, Int.reduceEq, Int.reduceNe, Nat.reduceMul, Nat.reduceSub]
    subst hQ
    simp (disch := first | assumption | omega) only [R.gantref5_Reached, go_sem, ↓reduceIte, Nat.reduceEqDiff, reduceCtorEq, Nat.reduceAdd, Nat.reduceLeDiff, Nat.reduceLT, reduceIte, Int.reduceBEq, Int.reduceBNe, Int.reduceLT, Int.reduceLE, Int.reduceAdd, Int.reduceSub, Int.reduceMul, Int.reduceNeg, Int.reduceEq, Int.reduceNe, Nat.reduceMul, Nat.reduceSub]
    have hs1 : ∃ s', AVal.lst (.app 1) (bls s) = .lst (.app 1) (bls s') ∧ s'.length = g.length ∧ ∀ k, s'.getD k false = true ↔ Rch g a k := ⟨s, rfl, hsl, hR.done⟩
    rcases hhp with ⟨rfl, _⟩ | ⟨rfl, _⟩
    · exact ⟨_, eh, by simp [AVal.ids, bls_ids], hs1⟩
    · exact ⟨_, by show S.heap.set h.length .dead = _; rw [eh, hpx_set0], by simp [AVal.ids, bls_ids], hs1⟩
end Go.Proofs.Ytpdajkbfemcdlaa
/- Contracts: the second implementation's steps. -/
set_option linter.unusedSimpArgs false
set_option linter.unusedVariables false
set_option maxRecDepth 10000
namespace Go.Proofs.Ytpdajkbfemcdlaa
open Go.Ge
/-- How many steps it takes, or 1000. -/
def StepsQ (g : Gr) (t k : Nat) (v : Int) : Prop := (∃ d, Ld g t d k ∧ v = (d : Int)) ∨ ((∀ n, ¬Wk g t n k) ∧ v = 1000)
theorem bls_append (s : List Bool) (b : Bool) : bls s ++ [AVal.bool b] = bls (s ++ [b]) := by simp [bls]
/-- Which node is it? -/
def isN (k n : Nat) : List Bool := (List.range n).map fun i => decide (i = k)
theorem isN_succ (k n : Nat) : isN k (n + 1) = isN k n ++ [decide (n = k)] := by simp [isN, List.range_succ]
theorem isN_len (k n : Nat) : (isN k n).length = n := by simp [isN]
theorem isN_get {g : Gr} {k n : Nat} (hk : k < n) (j : Nat) : (isN k n).getD j false = true ↔ Fw g k 0 j := by
  simp only [isN, Fw, List.getD_eq_getElem?_getD, List.getElem?_map]
  by_cases hj : j < n
  · rw [List.getElem?_range hj]; simp
  · rw [List.getElem?_eq_none (by simp; omega)]
    simp; omega
theorem steps2_ok (o : Own) (g : Gr) (xs : List AVal) (ho : Rdo o) (hg : Gfine g) (hx : Each2 RowOk (toI g) xs) (k t : Nat) (hk : k < g.length) (ht : t < g.length) (h : List HObj) :
    ACalls Try.prog F.gantlaw5_steps [.lst o xs, .int .i64 k, .int .i64 t] h (fun r h' => (∃ v, r = .int .i64 v ∧ StepsQ g t k v) ∧ h' = h) := by
  have lx := hx.length
  rw [toI_length] at lx
  have n64 := hg.n64
  refine ACalls.gcn (ACalls.of_aw Try.func201 K.gantlaw5_steps (by simp [Try.f201]) ?_)
  generalize hQ : retQ R.gantlaw5_steps _ = Q
  simp (disch := first | assumption | omega) only [C.gantlaw5_steps, go_sem, ↓reduceIte, Nat.reduceEqDiff, reduceCtorEq, Nat.reduceAdd, Nat.reduceLeDiff, Nat.reduceLT, reduceIte, Int.reduceBEq, Int.reduceBNe, Int.reduceLT, Int.reduceLE, Int.reduceAdd, Int.reduceSub, Int.reduceMul, Int.reduceNeg, Int.reduceEq, Int.reduceNe, Nat.reduceMul, Nat.reduceSub]
  simp (disch := first | assumption | omega) only [lx, go_sem, ↓reduceIte, Nat.reduceEqDiff, reduceCtorEq, Nat.reduceAdd, Nat.reduceLeDiff, Nat.reduceLT, reduceIte, Int.reduceBEq, Int.reduceBNe, Int.reduceLT, Int.reduceLE, Int.reduceAdd, Int.reduceSub, Int.reduceMul, Int.reduceNeg, Int.reduceEq, Int.reduceNe, Nat.reduceMul, Nat.reduceSub]
  refine aw_count (fun d S => ∃ (i : Nat), i + d = g.length ∧ S.env 18 = .int .i64 i ∧ S.env 17 = .int .i64 g.length ∧ S.env 7 = .lst (.app 1) (bls (isN k i)) ∧ S.env 0 = .lst o xs ∧ S.env 1 = .int .i64 k ∧ S.env 2 = .int .i64 t ∧ S.heap = h) (n := g.length)
    ⟨0, by omega, by simp (disch := first | assumption | omega) only [go_sem, ↓reduceIte, Nat.reduceEqDiff, reduceCtorEq, Nat.reduceAdd, Nat.reduceLeDiff, Nat.reduceLT, reduceIte, Int.reduceBEq, Int.reduceBNe, Int.reduceLT, Int.reduceLE, Int.reduceAdd, Int.reduceSub, Int.reduceMul, Int.reduceNeg, Int.reduceEq, Int.reduceNe, Nat.reduceMul, Nat.reduceSub], by simp (disch := first | assumption | omega) only [go_sem, ↓reduceIte, Nat.reduceEqDiff, reduceCtorEq, Nat.reduceAdd, Nat.reduceLeDiff, Nat.reduceLT, reduceIte, Int.reduceBEq, Int.reduceBNe, Int.reduceLT, Int.reduceLE, Int.reduceAdd, Int.reduceSub, Int.reduceMul, Int.reduceNeg, Int.reduceEq, Int.reduceNe, Nat.reduceMul, Nat.reduceSub], by simp (disch := first | assumption | omega) only [go_sem, ↓reduceIte, Nat.reduceEqDiff, reduceCtorEq, Nat.reduceAdd, Nat.reduceLeDiff, Nat.reduceLT, reduceIte, Int.reduceBEq, Int.reduceBNe, Int.reduceLT, Int.reduceLE, Int.reduceAdd, Int.reduceSub, Int.reduceMul, Int.reduceNeg, Int.reduceEq, Int.reduceNe, Nat.reduceMul, Nat.reduceSub]; rfl, by simp (disch := first | assumption | omega) only [go_sem, ↓reduceIte, Nat.reduceEqDiff, reduceCtorEq, Nat.reduceAdd, Nat.reduceLeDiff, Nat.reduceLT, reduceIte, Int.reduceBEq, Int.reduceBNe, Int.reduceLT, Int.reduceLE, Int.reduceAdd, Int.reduceSub, Int.reduceMul, Int.reduceNeg, Int.reduceEq, Int.reduceNe, Nat.reduceMul, Nat.reduceSub], by simp (disch := first | assumption | omega) only [go_sem, ↓reduceIte, Nat.reduceEqDiff, reduceCtorEq, Nat.reduceAdd, Nat.reduceLeDiff, Nat.reduceLT, reduceIte, Int.reduceBEq, Int.reduceBNe, Int.reduceLT, Int.reduceLE, Int.reduceAdd, Int.reduceSub, Int.reduceMul, Int.reduceNeg, Int.reduceEq, Int.reduceNe, Nat.reduceMul, Nat.reduceSub], by simp (disch := first | assumption | omega) only [go_sem, ↓reduceIte, Nat.reduceEqDiff, reduceCtorEq, Nat.reduceAdd, Nat.reduceLeDiff, Nat.reduceLT, reduceIte, Int.reduceBEq, Int.reduceBNe, Int.reduceLT, Int.reduceLE, Int.reduceAdd, Int.reduceSub, Int.reduceMul, Int.reduceNeg, Int.reduceEq, Int.reduceNe, Nat.reduceMul, Nat.reduceSub], by simp (disch := first | assumption | omega) only [go_sem, ↓reduceIte, Nat.reduceEqDiff, reduceCtorEq, Nat.reduceAdd, Nat.reduceLeDiff, Nat.reduceLT, reduceIte, Int.reduceBEq, Int.reduceBNe, Int.reduceLT, Int.reduceLE, Int.reduceAdd, Int.reduceSub, Int.reduceMul, Int.reduceNeg, Int.reduceEq, Int.reduceNe, Nat.reduceMul, Nat.reduceSub]⟩ ?_
  rintro d S ⟨i, hid, e18, e17, e7, e0, e1, e2, eh⟩
  have hil := isN_len k i
  have hbl := bls_length (isN k i)
  by_cases hlt : (i : Int) < g.length
  · by_cases hik : (i : Int) = k
    · have hs : isN k (i + 1) = isN k i ++ [true] := by rw [isN_succ, decide_eq_true (show i = k by omega)]
      simp (disch := first | assumption | omega) only [e18, e17, e7, e0, e1, e2, hlt, eq_true hik, hbl, hil, bls_append, go_sem, ↓reduceIte, Nat.reduceEqDiff, reduceCtorEq, Nat.reduceAdd, Nat.reduceLeDiff, Nat.reduceLT, reduceIte, Int.reduceBEq, Int.reduceBNe, Int.reduceLT, Int.reduceLE, Int.reduceAdd, Int.reduceSub, Int.reduceMul, Int.reduceNeg, Int.reduceEq, Int.reduceNe, Nat.reduceMul, Nat.reduceSub]
      exact ⟨by omega, by omega, d - 1, by omega, i + 1, by omega, by simp, by rw [hs], eh⟩
    · have hs : isN k (i + 1) = isN k i ++ [false] := by rw [isN_succ, decide_eq_false (show ¬i = k by omega)]
      simp (disch := first | assumption | omega) only [e18, e17, e7, e0, e1, e2, hlt, hik, hbl, hil, bls_append, go_sem, ↓reduceIte, Nat.reduceEqDiff, reduceCtorEq, Nat.reduceAdd, Nat.reduceLeDiff, Nat.reduceLT, reduceIte, Int.reduceBEq, Int.reduceBNe, Int.reduceLT, Int.reduceLE, Int.reduceAdd, Int.reduceSub, Int.reduceMul, Int.reduceNeg, Int.reduceEq, Int.reduceNe, Nat.reduceMul, Nat.reduceSub]
      exact ⟨by omega, by omega, d - 1, by omega, i + 1, by omega, by simp, by rw [hs], eh⟩
  · obtain rfl : i = g.length := by omega
    simp (disch := first | assumption | omega) only [e18, e17, e7, e0, e1, e2, hlt, go_sem, ↓reduceIte, Nat.reduceEqDiff, reduceCtorEq, Nat.reduceAdd, Nat.reduceLeDiff, Nat.reduceLT, reduceIte, Int.reduceBEq, Int.reduceBNe, Int.reduceLT, Int.reduceLE, Int.reduceAdd, Int.reduceSub, Int.reduceMul, Int.reduceNeg, Int.reduceEq, Int.reduceNe, Nat.reduceMul, Nat.reduceSub]
    refine aw_count (fun d S => ∃ (n : Nat) (s : List Bool) (ext : List HObj), n + d = g.length + 1 ∧ 1 ≤ n ∧ S.env 9 = .int .i64 n ∧ rdv (S.env 7) = .lst .sh (bls s) ∧ S.env 0 = .lst o xs ∧ S.env 1 = .int .i64 k ∧ S.env 2 = .int .i64 t ∧ s.length = g.length ∧ (∀ j, s.getD j false = true ↔ Fw g k (n - 1) j) ∧ (∀ m, m < n → ¬Wk g t m k) ∧ S.heap = h ++ ext) (n := g.length)
      ⟨1, isN k g.length, [], by omega, by omega, by simp (disch := first | assumption | omega) only [go_sem, ↓reduceIte, Nat.reduceEqDiff, reduceCtorEq, Nat.reduceAdd, Nat.reduceLeDiff, Nat.reduceLT, reduceIte, Int.reduceBEq, Int.reduceBNe, Int.reduceLT, Int.reduceLE, Int.reduceAdd, Int.reduceSub, Int.reduceMul, Int.reduceNeg, Int.reduceEq, Int.reduceNe, Nat.reduceMul, Nat.reduceSub]; rfl, by simp (disch := first | assumption | omega) only [e7, go_sem, ↓reduceIte, Nat.reduceEqDiff, reduceCtorEq, Nat.reduceAdd, Nat.reduceLeDiff, Nat.reduceLT, reduceIte, Int.reduceBEq, Int.reduceBNe, Int.reduceLT, Int.reduceLE, Int.reduceAdd, Int.reduceSub, Int.reduceMul, Int.reduceNeg, Int.reduceEq, Int.reduceNe, Nat.reduceMul, Nat.reduceSub], by simp (disch := first | assumption | omega) only [e0, go_sem, ↓reduceIte, Nat.reduceEqDiff, reduceCtorEq, Nat.reduceAdd, Nat.reduceLeDiff, Nat.reduceLT, reduceIte, Int.reduceBEq, Int.reduceBNe, Int.reduceLT, Int.reduceLE, Int.reduceAdd, Int.reduceSub, Int.reduceMul, Int.reduceNeg, Int.reduceEq, Int.reduceNe, Nat.reduceMul, Nat.reduceSub], by simp (disch := first | assumption | omega) only [e1, go_sem, ↓reduceIte, Nat.reduceEqDiff, reduceCtorEq, Nat.reduceAdd, Nat.reduceLeDiff, Nat.reduceLT, reduceIte, Int.reduceBEq, Int.reduceBNe, Int.reduceLT, Int.reduceLE, Int.reduceAdd, Int.reduceSub, Int.reduceMul, Int.reduceNeg, Int.reduceEq, Int.reduceNe, Nat.reduceMul, Nat.reduceSub], by simp (disch := first | assumption | omega) only [e2, go_sem, ↓reduceIte, Nat.reduceEqDiff, reduceCtorEq, Nat.reduceAdd, Nat.reduceLeDiff, Nat.reduceLT, reduceIte, Int.reduceBEq, Int.reduceBNe, Int.reduceLT, Int.reduceLE, Int.reduceAdd, Int.reduceSub, Int.reduceMul, Int.reduceNeg, Int.reduceEq, Int.reduceNe, Nat.reduceMul, Nat.reduceSub], hil, isN_get hk, fun m hm hw => by have := hw.pos; omega, by simp (disch := first | assumption | omega) only [eh, go_sem, ↓reduceIte, Nat.reduceEqDiff, reduceCtorEq, Nat.reduceAdd, Nat.reduceLeDiff, Nat.reduceLT, reduceIte, Int.reduceBEq, Int.reduceBNe, Int.reduceLT, Int.reduceLE, Int.reduceAdd, Int.reduceSub, Int.reduceMul, Int.reduceNeg, Int.reduceEq, Int.reduceNe, Nat.reduceMul, Nat.reduceSub]⟩ ?_
    clear e18 e17 e7 e0 e1 e2 eh hlt hil hbl hid
    rintro d S ⟨n, s, ext, hnd, hn1, e9, e7, e0, e1, e2, hsl, hfw, hno, eh⟩
    have hbl := bls_length s
    by_cases hlt : (n : Int) ≤ g.length
    · obtain ⟨H, hH⟩ : ∃ H, H = h ++ ext := ⟨_, rfl⟩
      rw [← hH] at eh
      simp (disch := first | assumption | omega) only [e9, e7, e0, e1, e2, lx, hlt, bls_rep, go_sem, ↓reduceIte, Nat.reduceEqDiff, reduceCtorEq, Nat.reduceAdd, Nat.reduceLeDiff, Nat.reduceLT, reduceIte, Int.reduceBEq, Int.reduceBNe, Int.reduceLT, Int.reduceLE, Int.reduceAdd, Int.reduceSub, Int.reduceMul, Int.reduceNeg, Int.reduceEq, Int.reduceNe, Nat.reduceMul, Nat.reduceSub]
      refine ⟨by omega, ?_⟩
      refine thaw_bls (s := List.replicate g.length false) (n := g.length) (by simp (disch := first | assumption | omega) only [bls_rep, go_sem, ↓reduceIte, Nat.reduceEqDiff, reduceCtorEq, Nat.reduceAdd, Nat.reduceLeDiff, Nat.reduceLT, reduceIte, Int.reduceBEq, Int.reduceBNe, Int.reduceLT, Int.reduceLE, Int.reduceAdd, Int.reduceSub, Int.reduceMul, Int.reduceNeg, Int.reduceEq, Int.reduceNe, Nat.reduceMul, Nat.reduceSub]) (by simp) ?_
      have hid : S.heap.length = H.length := by rw [eh]
      simp (disch := first | assumption | omega) only [e7, hbl, hsl, go_sem, ↓reduceIte, Nat.reduceEqDiff, reduceCtorEq, Nat.reduceAdd, Nat.reduceLeDiff, Nat.reduceLT, reduceIte, Int.reduceBEq, Int.reduceBNe, Int.reduceLT, Int.reduceLE, Int.reduceAdd, Int.reduceSub, Int.reduceMul, Int.reduceNeg, Int.reduceEq, Int.reduceNe, Nat.reduceMul, Nat.reduceSub]
      refine aw_count (fun d' S => ∃ (i : Nat) (now : List Bool), i + d' = g.length ∧ S.env 39 = .int .i64 i ∧ S.env 38 = .int .i64 g.length ∧ S.env 37 = .lst .sh (bls s) ∧ S.env 10 = .ref H.length 0 g.length g.length ∧ S.env 9 = .int .i64 n ∧ S.env 0 = .lst o xs ∧ S.env 1 = .int .i64 k ∧ S.env 2 = .int .i64 t ∧ Sw g s i 0 now ∧ S.heap = H ++ [.cells (bls now)]) (n := g.length)
        ⟨0, List.replicate g.length false, by omega, by simp (disch := first | assumption | omega) only [go_sem, ↓reduceIte, Nat.reduceEqDiff, reduceCtorEq, Nat.reduceAdd, Nat.reduceLeDiff, Nat.reduceLT, reduceIte, Int.reduceBEq, Int.reduceBNe, Int.reduceLT, Int.reduceLE, Int.reduceAdd, Int.reduceSub, Int.reduceMul, Int.reduceNeg, Int.reduceEq, Int.reduceNe, Nat.reduceMul, Nat.reduceSub], by simp (disch := first | assumption | omega) only [go_sem, ↓reduceIte, Nat.reduceEqDiff, reduceCtorEq, Nat.reduceAdd, Nat.reduceLeDiff, Nat.reduceLT, reduceIte, Int.reduceBEq, Int.reduceBNe, Int.reduceLT, Int.reduceLE, Int.reduceAdd, Int.reduceSub, Int.reduceMul, Int.reduceNeg, Int.reduceEq, Int.reduceNe, Nat.reduceMul, Nat.reduceSub], by simp (disch := first | assumption | omega) only [go_sem, ↓reduceIte, Nat.reduceEqDiff, reduceCtorEq, Nat.reduceAdd, Nat.reduceLeDiff, Nat.reduceLT, reduceIte, Int.reduceBEq, Int.reduceBNe, Int.reduceLT, Int.reduceLE, Int.reduceAdd, Int.reduceSub, Int.reduceMul, Int.reduceNeg, Int.reduceEq, Int.reduceNe, Nat.reduceMul, Nat.reduceSub], by simp (disch := first | assumption | omega) only [hid, go_sem, ↓reduceIte, Nat.reduceEqDiff, reduceCtorEq, Nat.reduceAdd, Nat.reduceLeDiff, Nat.reduceLT, reduceIte, Int.reduceBEq, Int.reduceBNe, Int.reduceLT, Int.reduceLE, Int.reduceAdd, Int.reduceSub, Int.reduceMul, Int.reduceNeg, Int.reduceEq, Int.reduceNe, Nat.reduceMul, Nat.reduceSub], by simp (disch := first | assumption | omega) only [e9, go_sem, ↓reduceIte, Nat.reduceEqDiff, reduceCtorEq, Nat.reduceAdd, Nat.reduceLeDiff, Nat.reduceLT, reduceIte, Int.reduceBEq, Int.reduceBNe, Int.reduceLT, Int.reduceLE, Int.reduceAdd, Int.reduceSub, Int.reduceMul, Int.reduceNeg, Int.reduceEq, Int.reduceNe, Nat.reduceMul, Nat.reduceSub], by simp (disch := first | assumption | omega) only [e0, go_sem, ↓reduceIte, Nat.reduceEqDiff, reduceCtorEq, Nat.reduceAdd, Nat.reduceLeDiff, Nat.reduceLT, reduceIte, Int.reduceBEq, Int.reduceBNe, Int.reduceLT, Int.reduceLE, Int.reduceAdd, Int.reduceSub, Int.reduceMul, Int.reduceNeg, Int.reduceEq, Int.reduceNe, Nat.reduceMul, Nat.reduceSub], by simp (disch := first | assumption | omega) only [e1, go_sem, ↓reduceIte, Nat.reduceEqDiff, reduceCtorEq, Nat.reduceAdd, Nat.reduceLeDiff, Nat.reduceLT, reduceIte, Int.reduceBEq, Int.reduceBNe, Int.reduceLT, Int.reduceLE, Int.reduceAdd, Int.reduceSub, Int.reduceMul, Int.reduceNeg, Int.reduceEq, Int.reduceNe, Nat.reduceMul, Nat.reduceSub], by simp (disch := first | assumption | omega) only [e2, go_sem, ↓reduceIte, Nat.reduceEqDiff, reduceCtorEq, Nat.reduceAdd, Nat.reduceLeDiff, Nat.reduceLT, reduceIte, Int.reduceBEq, Int.reduceBNe, Int.reduceLT, Int.reduceLE, Int.reduceAdd, Int.reduceSub, Int.reduceMul, Int.reduceNeg, Int.reduceEq, Int.reduceNe, Nat.reduceMul, Nat.reduceSub], Sw.start g s, by simp (disch := first | assumption | omega) only [eh, go_sem, ↓reduceIte, Nat.reduceEqDiff, reduceCtorEq, Nat.reduceAdd, Nat.reduceLeDiff, Nat.reduceLT, reduceIte, Int.reduceBEq, Int.reduceBNe, Int.reduceLT, Int.reduceLE, Int.reduceAdd, Int.reduceSub, Int.reduceMul, Int.reduceNeg, Int.reduceEq, Int.reduceNe, Nat.reduceMul, Nat.reduceSub]⟩ ?_
      clear e9 e7 e0 e1 e2 eh hid
      rintro d' S ⟨i, now, hid, e39, e38, e37, e10, e9, e0, e1, e2, hW, eh⟩
      have hge : S.heap[H.length]? = some (.cells (bls now)) := by rw [eh, hpx_get0]; rfl
      have hnl := hW.len
      have hbn := bls_length now
      by_cases hil : (i : Int) < g.length
      · have hi : i < g.length := by omega
        have hi2 : i < (toI g).length := by rw [toI_length]; exact hi
        have hi3 : (i : Int) < xs.length := by omega
        have hi4 : i < xs.length := by omega
        obtain ⟨q, hq, hxi⟩ := hx.at i hi2
        rw [toI_get hi2] at hq hxi
        have hq1 := hq.1
        have hrl := hg.row i
        have hat := at_bls (s := s) (k := i) (by omega)
        cases hsi : s.getD i false
        · rw [hsi] at hat
          simp (disch := first | assumption | omega) only [e39, e38, e37, e10, e9, e0, e1, e2, hil, hat, hbl, hsl, go_sem, ↓reduceIte, Nat.reduceEqDiff, reduceCtorEq, Nat.reduceAdd, Nat.reduceLeDiff, Nat.reduceLT, reduceIte, Int.reduceBEq, Int.reduceBNe, Int.reduceLT, Int.reduceLE, Int.reduceAdd, Int.reduceSub, Int.reduceMul, Int.reduceNeg, Int.reduceEq, Int.reduceNe, Nat.reduceMul, Nat.reduceSub]
          exact ⟨d' - 1, by omega, i + 1, now, by omega, by simp, hW.skip hsi, eh⟩
        · rw [hsi] at hat
          simp (disch := first | assumption | omega) only [e39, e38, e37, e10, e9, e0, e1, e2, hil, hat, hbl, hsl, hi3, hi4, hxi, ni_length, go_sem, ↓reduceIte, Nat.reduceEqDiff, reduceCtorEq, Nat.reduceAdd, Nat.reduceLeDiff, Nat.reduceLT, reduceIte, Int.reduceBEq, Int.reduceBNe, Int.reduceLT, Int.reduceLE, Int.reduceAdd, Int.reduceSub, Int.reduceMul, Int.reduceNeg, Int.reduceEq, Int.reduceNe, Nat.reduceMul, Nat.reduceSub]
          refine aw_count (fun d'' S => ∃ (j : Nat) (now : List Bool), j + d'' = (nx g i).length ∧ S.env 50 = .int .i64 j ∧ S.env 49 = .int .i64 (nx g i).length ∧ S.env 48 = .lst q (ints .i64 (ni (nx g i))) ∧ S.env 39 = .int .i64 i ∧ S.env 38 = .int .i64 g.length ∧ S.env 37 = .lst .sh (bls s) ∧ S.env 10 = .ref H.length 0 g.length g.length ∧ S.env 9 = .int .i64 n ∧ S.env 0 = .lst o xs ∧ S.env 1 = .int .i64 k ∧ S.env 2 = .int .i64 t ∧ Sw g s i j now ∧ S.heap = H ++ [.cells (bls now)]) (n := (nx g i).length)
            ⟨0, now, by omega, by simp (disch := first | assumption | omega) only [go_sem, ↓reduceIte, Nat.reduceEqDiff, reduceCtorEq, Nat.reduceAdd, Nat.reduceLeDiff, Nat.reduceLT, reduceIte, Int.reduceBEq, Int.reduceBNe, Int.reduceLT, Int.reduceLE, Int.reduceAdd, Int.reduceSub, Int.reduceMul, Int.reduceNeg, Int.reduceEq, Int.reduceNe, Nat.reduceMul, Nat.reduceSub], by simp (disch := first | assumption | omega) only [ni_length, go_sem, ↓reduceIte, Nat.reduceEqDiff, reduceCtorEq, Nat.reduceAdd, Nat.reduceLeDiff, Nat.reduceLT, reduceIte, Int.reduceBEq, Int.reduceBNe, Int.reduceLT, Int.reduceLE, Int.reduceAdd, Int.reduceSub, Int.reduceMul, Int.reduceNeg, Int.reduceEq, Int.reduceNe, Nat.reduceMul, Nat.reduceSub], by simp (disch := first | assumption | omega) only [go_sem, ↓reduceIte, Nat.reduceEqDiff, reduceCtorEq, Nat.reduceAdd, Nat.reduceLeDiff, Nat.reduceLT, reduceIte, Int.reduceBEq, Int.reduceBNe, Int.reduceLT, Int.reduceLE, Int.reduceAdd, Int.reduceSub, Int.reduceMul, Int.reduceNeg, Int.reduceEq, Int.reduceNe, Nat.reduceMul, Nat.reduceSub], by simp (disch := first | assumption | omega) only [e39, go_sem, ↓reduceIte, Nat.reduceEqDiff, reduceCtorEq, Nat.reduceAdd, Nat.reduceLeDiff, Nat.reduceLT, reduceIte, Int.reduceBEq, Int.reduceBNe, Int.reduceLT, Int.reduceLE, Int.reduceAdd, Int.reduceSub, Int.reduceMul, Int.reduceNeg, Int.reduceEq, Int.reduceNe, Nat.reduceMul, Nat.reduceSub], by simp (disch := first | assumption | omega) only [e38, go_sem, ↓reduceIte, Nat.reduceEqDiff, reduceCtorEq, Nat.reduceAdd, Nat.reduceLeDiff, Nat.reduceLT, reduceIte, Int.reduceBEq, Int.reduceBNe, Int.reduceLT, Int.reduceLE, Int.reduceAdd, Int.reduceSub, Int.reduceMul, Int.reduceNeg, Int.reduceEq, Int.reduceNe, Nat.reduceMul, Nat.reduceSub], by simp (disch := first | assumption | omega) only [e37, go_sem, ↓reduceIte, Nat.reduceEqDiff, reduceCtorEq, Nat.reduceAdd, Nat.reduceLeDiff, Nat.reduceLT, reduceIte, Int.reduceBEq, Int.reduceBNe, Int.reduceLT, Int.reduceLE, Int.reduceAdd, Int.reduceSub, Int.reduceMul, Int.reduceNeg, Int.reduceEq, Int.reduceNe, Nat.reduceMul, Nat.reduceSub], by simp (disch := first | assumption | omega) only [e10, go_sem, ↓reduceIte, Nat.reduceEqDiff, reduceCtorEq, Nat.reduceAdd, Nat.reduceLeDiff, Nat.reduceLT, reduceIte, Int.reduceBEq, Int.reduceBNe, Int.reduceLT, Int.reduceLE, Int.reduceAdd, Int.reduceSub, Int.reduceMul, Int.reduceNeg, Int.reduceEq, Int.reduceNe, Nat.reduceMul, Nat.reduceSub], by simp (disch := first | assumption | omega) only [e9, go_sem, ↓reduceIte, Nat.reduceEqDiff, reduceCtorEq, Nat.reduceAdd, Nat.reduceLeDiff, Nat.reduceLT, reduceIte, Int.reduceBEq, Int.reduceBNe, Int.reduceLT, Int.reduceLE, Int.reduceAdd, Int.reduceSub, Int.reduceMul, Int.reduceNeg, Int.reduceEq, Int.reduceNe, Nat.reduceMul, Nat.reduceSub], by simp (disch := first | assumption | omega) only [e0, go_sem, ↓reduceIte, Nat.reduceEqDiff, reduceCtorEq, Nat.reduceAdd, Nat.reduceLeDiff, Nat.reduceLT, reduceIte, Int.reduceBEq, Int.reduceBNe, Int.reduceLT, Int.reduceLE, Int.reduceAdd, Int.reduceSub, Int.reduceMul, Int.reduceNeg, Int.reduceEq, Int.reduceNe, Nat.reduceMul, Nat.reduceSub], by simp (disch := first | assumption | omega) only [e1, go_sem, ↓reduceIte, Nat.reduceEqDiff, reduceCtorEq, Nat.reduceAdd, Nat.reduceLeDiff, Nat.reduceLT, reduceIte, Int.reduceBEq, Int.reduceBNe, Int.reduceLT, Int.reduceLE, Int.reduceAdd, Int.reduceSub, Int.reduceMul, Int.reduceNeg, Int.reduceEq, Int.reduceNe, Nat.reduceMul, Nat.reduceSub], by simp (disch := first | assumption | omega) only [e2, go_sem, ↓reduceIte, Nat.reduceEqDiff, reduceCtorEq, Nat.reduceAdd, Nat.reduceLeDiff, Nat.reduceLT, reduceIte, Int.reduceBEq, Int.reduceBNe, Int.reduceLT, Int.reduceLE, Int.reduceAdd, Int.reduceSub, Int.reduceMul, Int.reduceNeg, Int.reduceEq, Int.reduceNe, Nat.reduceMul, Nat.reduceSub], hW, by simp (disch := first | assumption | omega) only [eh, go_sem, ↓reduceIte, Nat.reduceEqDiff, reduceCtorEq, Nat.reduceAdd, Nat.reduceLeDiff, Nat.reduceLT, reduceIte, Int.reduceBEq, Int.reduceBNe, Int.reduceLT, Int.reduceLE, Int.reduceAdd, Int.reduceSub, Int.reduceMul, Int.reduceNeg, Int.reduceEq, Int.reduceNe, Nat.reduceMul, Nat.reduceSub]⟩ ?_
          clear e39 e38 e37 e10 e9 e0 e1 e2 eh hW hge hnl hbn
          clear now
          rintro d'' S ⟨j, now, hjd, e50, e49, e48, e39, e38, e37, e10, e9, e0, e1, e2, hW, eh⟩
          have hge : S.heap[H.length]? = some (.cells (bls now)) := by rw [eh, hpx_get0]; rfl
          have hnl := hW.len
          have hbn := bls_length now
          by_cases hjl : (j : Int) < (nx g i).length
          · have hj : j < (nx g i).length := by omega
            have hj2 : j < (ni (nx g i)).length := by rw [ni_length]; exact hj
            have hatj := at_int hj2
            rw [ni_get hj2] at hatj
            have hkl := hg.ok i _ (List.getElem_mem hj)
            have hW' := hW.step hg.ok hsi hj
            have hbs := bls_set (s := now) (k := (nx g i)[j]) (by omega) true
            generalize (nx g i)[j] = b at *
            have hkl2 : (b : Int) < g.length := by omega
            simp (disch := first | assumption | omega) only [e50, e49, e48, e39, e38, e37, e10, e9, e0, e1, e2, hge, hjl, hatj, ni_length, hkl2, hbn, hnl, hbs, Nat.mul_one, go_sem, ↓reduceIte, Nat.reduceEqDiff, reduceCtorEq, Nat.reduceAdd, Nat.reduceLeDiff, Nat.reduceLT, reduceIte, Int.reduceBEq, Int.reduceBNe, Int.reduceLT, Int.reduceLE, Int.reduceAdd, Int.reduceSub, Int.reduceMul, Int.reduceNeg, Int.reduceEq, Int.reduceNe, Nat.reduceMul, Nat.reduceSub]
            exact ⟨by omega, d'' - 1, by omega, j + 1, _, by omega, by simp, hW', by rw [eh, hpx_set0]; rfl⟩
          · obtain rfl : j = (nx g i).length := by omega
            simp (disch := first | assumption | omega) only [e50, e49, e48, e39, e38, e37, e10, e9, e0, e1, e2, hjl, go_sem, ↓reduceIte, Nat.reduceEqDiff, reduceCtorEq, Nat.reduceAdd, Nat.reduceLeDiff, Nat.reduceLT, reduceIte, Int.reduceBEq, Int.reduceBNe, Int.reduceLT, Int.reduceLE, Int.reduceAdd, Int.reduceSub, Int.reduceMul, Int.reduceNeg, Int.reduceEq, Int.reduceNe, Nat.reduceMul, Nat.reduceSub]
            exact ⟨d' - 1, by omega, i + 1, now, by omega, by simp, hW.row, eh⟩
      · obtain rfl : i = g.length := by omega
        have hfw' := hW.fw hfw
        have hn0 : n - 1 + 1 = n := by omega
        rw [hn0] at hfw'
        have hgt := bls_getD (s := now) (k := t) (by omega)
        have ht2 : (t : Int) < g.length := by omega
        cases hnt : now.getD t false
        · rw [hnt] at hgt
          have hnw : ¬Wk g t n k := by
            intro hw
            obtain ⟨n', rfl⟩ : ∃ n', n = n' + 1 := ⟨n - 1, by omega⟩
            have := (hfw' t).2 hw.fw
            rw [hnt] at this; cases this
          simp (disch := first | assumption | omega) only [e39, e38, e37, e10, e9, e0, e1, e2, hil, hge, hgt, ht2, hbn, hnl, Nat.mul_one, go_sem, ↓reduceIte, Nat.reduceEqDiff, reduceCtorEq, Nat.reduceAdd, Nat.reduceLeDiff, Nat.reduceLT, reduceIte, Int.reduceBEq, Int.reduceBNe, Int.reduceLT, Int.reduceLE, Int.reduceAdd, Int.reduceSub, Int.reduceMul, Int.reduceNeg, Int.reduceEq, Int.reduceNe, Nat.reduceMul, Nat.reduceSub]
          refine ⟨by omega, ?_⟩
          refine own_bls (s := now) (n := g.length) (id := H.length) (by simp (disch := first | assumption | omega) only [e10, go_sem, ↓reduceIte, Nat.reduceEqDiff, reduceCtorEq, Nat.reduceAdd, Nat.reduceLeDiff, Nat.reduceLT, reduceIte, Int.reduceBEq, Int.reduceBNe, Int.reduceLT, Int.reduceLE, Int.reduceAdd, Int.reduceSub, Int.reduceMul, Int.reduceNeg, Int.reduceEq, Int.reduceNe, Nat.reduceMul, Nat.reduceSub]) (by simp (disch := first | assumption | omega) only [hge, go_sem, ↓reduceIte, Nat.reduceEqDiff, reduceCtorEq, Nat.reduceAdd, Nat.reduceLeDiff, Nat.reduceLT, reduceIte, Int.reduceBEq, Int.reduceBNe, Int.reduceLT, Int.reduceLE, Int.reduceAdd, Int.reduceSub, Int.reduceMul, Int.reduceNeg, Int.reduceEq, Int.reduceNe, Nat.reduceMul, Nat.reduceSub]) hnl ?_
          rintro hp hhp
          rw [aw_grab]
          simp (disch := first | assumption | omega) only [e9, go_sem, ↓reduceIte, Nat.reduceEqDiff, reduceCtorEq, Nat.reduceAdd, Nat.reduceLeDiff, Nat.reduceLT, reduceIte, Int.reduceBEq, Int.reduceBNe, Int.reduceLT, Int.reduceLE, Int.reduceAdd, Int.reduceSub, Int.reduceMul, Int.reduceNeg, Int.reduceEq, Int.reduceNe, Nat.reduceMul, Nat.reduceSub]
          have hno' : ∀ m, m < n + 1 → ¬Wk g t m k := fun m hm => by
            rcases Nat.lt_or_ge m n with h1 | h1
            · exact hno m h1
            · obtain rfl : m = n := by omega
              exact hnw
          rcases hhp with ⟨rfl, _⟩ | ⟨rfl, _⟩
          · exact ⟨d - 1, by omega, n + 1, now, _, by omega, by omega, by simp, rfl, e0, e1, e2, hnl, hfw', hno', by show S.heap = _; rw [eh, hH, List.append_assoc]⟩
          · exact ⟨d - 1, by omega, n + 1, now, _, by omega, by omega, by simp, rfl, e0, e1, e2, hnl, hfw', hno', by show S.heap.set H.length .dead = _; rw [eh, hpx_set0, hH, List.append_assoc]⟩
        · rw [hnt] at hgt
          have hw : Wk g t n k := by
            obtain ⟨n', rfl⟩ : ∃ n', n = n' + 1 := ⟨n - 1, by omega⟩
            exact ((hfw' t).1 hnt).wk
          simp (disch := first | assumption | omega) only [e39, e38, e37, e10, e9, e0, e1, e2, hil, hge, hgt, ht2, hbn, hnl, Nat.mul_one, go_sem, ↓reduceIte, Nat.reduceEqDiff, reduceCtorEq, Nat.reduceAdd, Nat.reduceLeDiff, Nat.reduceLT, reduceIte, Int.reduceBEq, Int.reduceBNe, Int.reduceLT, Int.reduceLE, Int.reduceAdd, Int.reduceSub, Int.reduceMul, Int.reduceNeg, Int.reduceEq, Int.reduceNe, Nat.reduceMul, Nat.reduceSub]
          refine ⟨by omega, ?_⟩
          subst hQ
          simp (disch := first | assumption | omega) only [R.gantlaw5_steps, go_sem, ↓reduceIte, Nat.reduceEqDiff, reduceCtorEq, Nat.reduceAdd, Nat.reduceLeDiff, Nat.reduceLT, reduceIte, Int.reduceBEq, Int.reduceBNe, Int.reduceLT, Int.reduceLE, Int.reduceAdd, Int.reduceSub, Int.reduceMul, Int.reduceNeg, Int.reduceEq, Int.reduceNe, Nat.reduceMul, Nat.reduceSub]
          exact ⟨_, by rw [eh, hH, List.append_assoc], by simp [AVal.ids], _, rfl, .inl ⟨n, ⟨hw, hno⟩, rfl⟩⟩
    · obtain rfl : n = g.length + 1 := by omega
      simp (disch := first | assumption | omega) only [e9, e7, e0, e1, e2, lx, hlt, go_sem, ↓reduceIte, Nat.reduceEqDiff, reduceCtorEq, Nat.reduceAdd, Nat.reduceLeDiff, Nat.reduceLT, reduceIte, Int.reduceBEq, Int.reduceBNe, Int.reduceLT, Int.reduceLE, Int.reduceAdd, Int.reduceSub, Int.reduceMul, Int.reduceNeg, Int.reduceEq, Int.reduceNe, Nat.reduceMul, Nat.reduceSub]
      subst hQ
      simp (disch := first | assumption | omega) only [R.gantlaw5_steps, go_sem, ↓reduceIte, Nat.reduceEqDiff, reduceCtorEq, Nat.reduceAdd, Nat.reduceLeDiff, Nat.reduceLT, reduceIte, Int.reduceBEq, Int.reduceBNe, Int.reduceLT, Int.reduceLE, Int.reduceAdd, Int.reduceSub, Int.reduceMul, Int.reduceNeg, Int.reduceEq, Int.reduceNe, Nat.reduceMul, Nat.reduceSub]
      refine ⟨_, eh, by simp [AVal.ids], 1000, rfl, .inr ⟨?_, rfl⟩⟩
      intro m hw
      obtain ⟨d', hd'⟩ := Rch.ld ⟨m, hw⟩
      have := hd'.short
      exact hno d' (by omega) hd'.1
end Go.Proofs.Ytpdajkbfemcdlaa
