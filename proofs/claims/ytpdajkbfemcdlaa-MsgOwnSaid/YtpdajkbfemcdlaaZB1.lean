import Derived.Test.YtpdajkbfemcdlaaGeSet
import Derived.Test.YtpdajkbfemcdlaaZA1
/- Logs as lists of numbers; sums that differ. -/
set_option linter.unusedSimpArgs false
set_option linter.unusedVariables false
namespace Go.Proofs.Ytpdajkbfemcdlaa
open Go.Ge
/-! ### Sums -/
/-! ### Bytes of numbers -/
theorem be2 (n : Int) : beBytes n 2 = [n / 256 % 256, n % 256] := by simp [beBytes]
theorem be2_inj {m n : Int} (h0 : 0 ≤ m) (h1 : m < 65536) (k0 : 0 ≤ n) (k1 : n < 65536) (h : beBytes m 2 = beBytes n 2) : m = n := by
  rw [be2, be2] at h
  simp only [List.cons.injEq, and_true] at h
  omega
/-! ### Logs -/
def four (n : Int) : List Int := beBytes n 4
theorem four_length (n : Int) : (four n).length = 4 := beBytes_length n 4
def logSum (last : Int) (r : List Int) : Int := iv (crc (four last ++ (beBytes r.length 2 ++ r)))
def recB (last : Int) (r : List Int) : List Int := beBytes r.length 2 ++ r ++ four (logSum last r)
theorem recB_length (last : Int) (r : List Int) : (recB last r).length = 6 + r.length := by
  simp [recB, beBytes_length, four_length]; omega
def book : Int → List (List Int) → List Int
  | _, [] => []
  | last, r :: rs => recB last r ++ book (logSum last r) rs
def lastOf : Int → List (List Int) → Int
  | last, [] => last
  | last, r :: rs => lastOf (logSum last r) rs
theorem book_append : ∀ (last : Int) (a b : List (List Int)), book last (a ++ b) = book last a ++ book (lastOf last a) b
  | _, [], _ => rfl
  | last, r :: a, b => by simp [book, lastOf, book_append (logSum last r) a b]
theorem book_snoc (last : Int) (a : List (List Int)) (r : List Int) : book last (a ++ [r]) = book last a ++ recB (lastOf last a) r := by
  rw [book_append]; simp [book]
/-- Bytes that begin with a record tell which. -/
theorem recB_prefix {last : Int} {r z : List Int} (h : recB last r <+: z) : z.take 2 = beBytes r.length 2 ∧ (z.drop 2).take r.length = r ∧ (z.drop (2 + r.length)).take 4 = four (logSum last r) ∧ 6 + r.length ≤ z.length := by
  obtain ⟨t, rfl⟩ := h
  have hl : (beBytes (r.length : Int) 2).length = 2 := beBytes_length _ _
  simp only [recB, List.append_assoc]
  refine ⟨?_, ?_, ?_, ?_⟩
  · rw [List.take_append_of_le_length (by omega)]; exact List.take_of_length_le (by omega)
  · rw [List.drop_append_of_le_length (by omega), List.drop_of_length_le (by omega), List.nil_append]
    simp
  · rw [List.drop_append, List.drop_of_length_le (by omega), List.nil_append, hl]
    rw [show 2 + r.length - 2 = r.length from by omega, List.drop_append_of_le_length (by omega), List.drop_length, List.nil_append]
    rw [List.take_append_of_le_length (by rw [four_length]; omega)]
    exact List.take_of_length_le (by rw [four_length]; omega)
  · simp [hl, four_length]; omega
theorem recB_unique {l : Int} {r r' z : List Int} (h : recB l r <+: z) (h' : recB l r' <+: z) (hr : r.length < 65536) (hr' : r'.length < 65536) : r = r' := by
  obtain ⟨a1, a2, _⟩ := recB_prefix h
  obtain ⟨b1, b2, _⟩ := recB_prefix h'
  have : (r.length : Int) = r'.length := be2_inj (by omega) (by omega) (by omega) (by omega) (a1.symm.trans b1)
  have e : r.length = r'.length := by omega
  rw [← a2, ← b2, e]
theorem prefix_cases : ∀ (rs rs' : List (List Int)) (l : Int) (z : List Int), (∀ r ∈ rs, r.length < 65536) → (∀ r ∈ rs', r.length < 65536) → book l rs <+: z → book l rs' <+: z → rs <+: rs' ∨ rs' <+: rs
  | [], rs', _, _, _, _, _, _ => .inl (List.nil_prefix)
  | rs, [], _, _, _, _, _, _ => .inr (List.nil_prefix)
  | r :: rs, r' :: rs', l, z, h1, h2, k1, k2 => by
    simp only [book] at k1 k2
    have q1 : recB l r <+: z := (List.prefix_append _ _).trans k1
    have q2 : recB l r' <+: z := (List.prefix_append _ _).trans k2
    obtain rfl := recB_unique q1 q2 (h1 r (by simp)) (h2 r' (by simp))
    obtain ⟨t, rfl⟩ := q1
    rw [List.prefix_append_right_inj] at k1 k2
    rcases prefix_cases rs rs' _ t (fun r hr => h1 r (by simp [hr])) (fun r hr => h2 r (by simp [hr])) k1 k2 with h | h
    · exact .inl ((List.cons_prefix_cons).2 ⟨rfl, h⟩)
    · exact .inr ((List.cons_prefix_cons).2 ⟨rfl, h⟩)
/-- The records that bytes begin with, all of them. -/
structure IsScan (b : List Int) (rs : List (List Int)) : Prop where
  short : ∀ r ∈ rs, r.length ≤ 2000
  pre : book 0 rs <+: b
  max : ∀ r : List Int, r.length ≤ 2000 → ¬ book 0 (rs ++ [r]) <+: b
theorem IsScan.book {rs : List (List Int)} (h : ∀ r ∈ rs, r.length ≤ 2000) : IsScan (book 0 rs) rs := by
  refine ⟨h, List.prefix_refl _, fun r _ hp => ?_⟩
  have := hp.length_le
  rw [book_snoc, List.length_append, recB_length] at this
  omega
/-- What begins with a log's beginning begins with some of its records. -/
theorem IsScan.cut {b : List Int} {rs rs' : List (List Int)} (h : IsScan b rs) (hb : b <+: Go.Proofs.Ytpdajkbfemcdlaa.book 0 rs') (h' : ∀ r ∈ rs', r.length ≤ 2000) : rs <+: rs' := by
  rcases prefix_cases rs rs' 0 (Go.Proofs.Ytpdajkbfemcdlaa.book 0 rs') (fun r hr => by have := h.short r hr; omega) (fun r hr => by have := h' r hr; omega) (h.pre.trans hb) (List.prefix_refl _) with hp | hp
  · exact hp
  · obtain ⟨t, rfl⟩ := hp
    cases t with
    | nil => simp
    | cons r t =>
      exfalso
      have := (h.pre.trans hb).length_le
      rw [book_append] at this
      simp only [Go.Proofs.Ytpdajkbfemcdlaa.book, List.length_append, recB_length] at this
      omega
theorem IsScan.u8 {b : List Int} {rs : List (List Int)} (h : IsScan b rs) (hb : ∀ x ∈ b, inU8 x) : ∀ r ∈ rs, ∀ x ∈ r, inU8 x := by
  have key : ∀ (l : Int) (rs : List (List Int)) (b : List Int), Go.Proofs.Ytpdajkbfemcdlaa.book l rs <+: b → (∀ x ∈ b, inU8 x) → ∀ r ∈ rs, ∀ x ∈ r, inU8 x := by
    intro l rs
    induction rs generalizing l with
    | nil => intro b _ _ r hr; cases hr
    | cons r rs ih =>
      intro b hp hb r' hr' x hx
      simp only [Go.Proofs.Ytpdajkbfemcdlaa.book] at hp
      obtain ⟨t, rfl⟩ := hp
      rcases List.mem_cons.1 hr' with rfl | hr'
      · exact hb x (by simp [recB, hx])
      · exact ih _ (Go.Proofs.Ytpdajkbfemcdlaa.book (logSum l r) rs) (List.prefix_refl _) (fun y hy => hb y (by simp [hy])) r' hr' x hx
  exact key 0 rs b h.pre hb
end Go.Proofs.Ytpdajkbfemcdlaa
/- Contracts: bytes compared, copied; sums of records. -/
set_option linter.unusedSimpArgs false
set_option linter.unusedVariables false
set_option maxRecDepth 10000
namespace Go.Proofs.Ytpdajkbfemcdlaa
open Go.Ge
/-- Records that were read: held so that more may be added. -/
def Recs (rs : List (List Int)) (x : AVal) : Prop := ∃ q xs, x = .lst q xs ∧ Each2 RecOk rs xs ∧ (q = .nil ∧ rs = [] ∨ q = .app 1)
theorem take_all {α : Type} (l : List α) (n : Nat) : (l.drop n).take (l.length - n) = l.drop n := List.take_of_length_le (by simp)
theorem getD_get {l : List Int} {i : Nat} (h : i < l.length) : l.getD i 0 = l[i] := by simp [List.getD_eq_getElem?_getD, h]
theorem Recs.add {rs : List (List Int)} {xs : List AVal} {r : List Int} {x : AVal} (h : Each2 RecOk rs xs) (hr : RecOk r x) : Recs (rs ++ [r]) (.lst (.app 1) (xs ++ [x])) := ⟨_, _, rfl, h.append (Each2.one hr), .inr rfl⟩
end Go.Proofs.Ytpdajkbfemcdlaa
/- Contracts: logs, read and written. -/
set_option linter.unusedSimpArgs false
set_option linter.unusedVariables false
set_option maxRecDepth 10000
namespace Go.Proofs.Ytpdajkbfemcdlaa
open Go.Ge
theorem take_snoc {α : Type} {l : List α} {i : Nat} (h : i < l.length) : l.take (i + 1) = l.take i ++ [l[i]] := by
  rw [List.take_add_one, List.getElem?_eq_getElem h]; rfl
end Go.Proofs.Ytpdajkbfemcdlaa
/- Contracts: the second implementation's logs. -/
set_option linter.unusedSimpArgs false
set_option linter.unusedVariables false
set_option maxRecDepth 10000
namespace Go.Proofs.Ytpdajkbfemcdlaa
open Go.Ge
theorem RecOk.sh (l : List Int) : RecOk l (.lst .sh (ints .u8 l)) := ⟨.sh, ⟨.inl rfl, fun e => by cases e⟩, rfl⟩
theorem RecOk.of {o : Own} {l : List Int} (h : Rdn o l) : RecOk l (.lst o (ints .u8 l)) := ⟨o, h, rfl⟩
end Go.Proofs.Ytpdajkbfemcdlaa
/- Contracts: small sorts of cells. -/
set_option linter.unusedSimpArgs false
set_option linter.unusedVariables false
set_option maxRecDepth 10000
namespace Go.Proofs.Ytpdajkbfemcdlaa
open Go.Ge
/-- The cells of cells. -/
def flatC (l : List Cell) : List AVal := l.flatMap fun c => [.int .i64 c.X, .int .i64 c.Y]
theorem flatC_length (l : List Cell) : (flatC l).length = l.length * 2 := by
  induction l with
  | nil => rfl
  | cons c l ih =>
    have e : flatC (c :: l) = [.int .i64 c.X, .int .i64 c.Y] ++ flatC l := rfl
    rw [e, List.length_append, ih, List.length_cons]; simp; omega
theorem flatC_append (a b : List Cell) : flatC (a ++ b) = flatC a ++ flatC b := by simp [flatC]
theorem flatC_cells (l : List Cell) : (cellsA l).flatMap AVal.cells = flatC l := by
  induction l with
  | nil => rfl
  | cons c l ih =>
    have e : cellsA (c :: l) = cellA c :: cellsA l := rfl
    rw [e, List.flatMap_cons, ih]; rfl
theorem flatC_split {l : List Cell} {j : Nat} (h : j < l.length) : flatC l = flatC (l.take j) ++ ([.int .i64 l[j].X, .int .i64 l[j].Y] ++ flatC (l.drop (j + 1))) := by
  conv => lhs; rw [← List.take_append_drop j l, List.drop_eq_getElem_cons h]
  rw [flatC_append]; rfl
theorem flatC_get {l : List Cell} {j : Nat} {rest : List AVal} (h : j < l.length) : ((flatC l ++ rest).drop (j * 2)).take 2 = [.int .i64 l[j].X, .int .i64 l[j].Y] := by
  rw [flatC_split h, List.append_assoc, List.drop_append_of_le_length (by rw [flatC_length, List.length_take]; omega)]
  rw [List.drop_of_length_le (by rw [flatC_length, List.length_take]; omega)]
  rfl
theorem flatC_set {l : List Cell} {j : Nat} {rest : List AVal} {c : Cell} (h : j < l.length) : fillV (flatC l ++ rest) (j * 2) [.int .i64 c.X, .int .i64 c.Y] = flatC (l.set j c) ++ rest := by
  have hl : (flatC (l.take j)).length = j * 2 := by rw [flatC_length, List.length_take]; omega
  have e1 : flatC (l.set j c) = flatC (l.take j) ++ ([.int .i64 c.X, .int .i64 c.Y] ++ flatC (l.drop (j + 1))) := by
    rw [List.set_eq_take_append_cons_drop, if_pos h, flatC_append]; rfl
  rw [e1, flatC_split h]
  generalize flatC (l.take j) = A at *
  generalize flatC (l.drop (j + 1)) = B at *
  unfold fillV
  have e2 : A ++ ([AVal.int .i64 l[j].X, AVal.int .i64 l[j].Y] ++ B) ++ rest = A ++ ([AVal.int .i64 l[j].X, AVal.int .i64 l[j].Y] ++ (B ++ rest)) := by simp
  have e3 : A ++ ([AVal.int .i64 l[j].X, AVal.int .i64 l[j].Y] ++ B) ++ rest = (A ++ [AVal.int .i64 l[j].X, AVal.int .i64 l[j].Y]) ++ (B ++ rest) := by simp
  have t1 : (A ++ ([AVal.int .i64 l[j].X, AVal.int .i64 l[j].Y] ++ B) ++ rest).take (j * 2) = A := by rw [e2, List.take_left' hl]
  have t2 : (A ++ ([AVal.int .i64 l[j].X, AVal.int .i64 l[j].Y] ++ B) ++ rest).drop (j * 2 + [AVal.int .i64 c.X, AVal.int .i64 c.Y].length) = B ++ rest := by rw [e3, List.drop_left' (by simp [hl])]
  rw [t1, t2]
  simp
theorem set_same {h : List HObj} {id : Nat} {x : HObj} (e : h[id]? = some x) : h.set id x = h := by
  obtain ⟨hl, e⟩ := List.getElem?_eq_some_iff.1 e
  rw [← e]; exact List.set_getElem_self _
theorem insSort_ok (f : Nat) (l : List Cell) (id cap : Nat) (rest : List AVal) (h : List HObj) (hid : h[id]? = some (.cells (flatC l ++ rest))) (hn : l.length ≤ 1099511627776)
    (hf : ∀ (a b : Cell) (h : List HObj), ACalls Try.prog f [cellA a, cellA b] h (fun v h' => (∃ x, v = .int .i64 x) ∧ h' = h)) :
    ACalls Try.prog F.slices_insertionSortCmpFunc_Cell [.ref id 0 l.length cap, .int .i64 0, .int .i64 l.length, .func f []] h
      (fun v h' => v = .tup [] ∧ ∃ l', l'.length = l.length ∧ (∀ c ∈ l', c ∈ l) ∧ h' = h.set id (.cells (flatC l' ++ rest))) := by
  have hidl : id < h.length := (List.getElem?_eq_some_iff.1 hid).1
  refine ACalls.of_aw Try.func219 K.slices_insertionSortCmpFunc_Cell (by simp [Try.f219]) ?_
  generalize hQ : retQ R.slices_insertionSortCmpFunc_Cell _ = Q
  simp (disch := first | assumption | omega) only [C.slices_insertionSortCmpFunc_Cell, go_sem, ↓reduceIte, Nat.reduceEqDiff, reduceCtorEq, Nat.reduceAdd, Nat.reduceLeDiff, Nat.reduceLT, reduceIte, Int.reduceBEq, Int.reduceBNe, Int.reduceLT, Int.reduceLE, Int.reduceAdd, Int.reduceSub, Int.reduceMul, Int.reduceNeg, Int.reduceEq, Int.reduceNe, Nat.reduceMul, Nat.reduceSub]
  refine aw_count (fun d S => ∃ (i : Nat) (l' : List Cell), i + d = l.length + 1 ∧ 1 ≤ i ∧ S.env 8 = .int .i64 i ∧ S.env 0 = .ref id 0 l.length cap ∧ S.env 1 = .int .i64 0 ∧ S.env 2 = .int .i64 l.length ∧ S.env 3 = .func f [] ∧ l'.length = l.length ∧ (∀ c ∈ l', c ∈ l) ∧ S.heap = h.set id (.cells (flatC l' ++ rest))) (n := l.length)
    ⟨1, l, by omega, by omega, by simp (disch := first | assumption | omega) only [go_sem, ↓reduceIte, Nat.reduceEqDiff, reduceCtorEq, Nat.reduceAdd, Nat.reduceLeDiff, Nat.reduceLT, reduceIte, Int.reduceBEq, Int.reduceBNe, Int.reduceLT, Int.reduceLE, Int.reduceAdd, Int.reduceSub, Int.reduceMul, Int.reduceNeg, Int.reduceEq, Int.reduceNe, Nat.reduceMul, Nat.reduceSub]; rfl, by simp (disch := first | assumption | omega) only [go_sem, ↓reduceIte, Nat.reduceEqDiff, reduceCtorEq, Nat.reduceAdd, Nat.reduceLeDiff, Nat.reduceLT, reduceIte, Int.reduceBEq, Int.reduceBNe, Int.reduceLT, Int.reduceLE, Int.reduceAdd, Int.reduceSub, Int.reduceMul, Int.reduceNeg, Int.reduceEq, Int.reduceNe, Nat.reduceMul, Nat.reduceSub], by simp (disch := first | assumption | omega) only [go_sem, ↓reduceIte, Nat.reduceEqDiff, reduceCtorEq, Nat.reduceAdd, Nat.reduceLeDiff, Nat.reduceLT, reduceIte, Int.reduceBEq, Int.reduceBNe, Int.reduceLT, Int.reduceLE, Int.reduceAdd, Int.reduceSub, Int.reduceMul, Int.reduceNeg, Int.reduceEq, Int.reduceNe, Nat.reduceMul, Nat.reduceSub], by simp (disch := first | assumption | omega) only [go_sem, ↓reduceIte, Nat.reduceEqDiff, reduceCtorEq, Nat.reduceAdd, Nat.reduceLeDiff, Nat.reduceLT, reduceIte, Int.reduceBEq, Int.reduceBNe, Int.reduceLT, Int.reduceLE, Int.reduceAdd, Int.reduceSub, Int.reduceMul, Int.reduceNeg, Int.reduceEq, Int.reduceNe, Nat.reduceMul, Nat.reduceSub], by simp (disch := first | assumption | omega) only [go_sem, ↓reduceIte, Nat.reduceEqDiff, reduceCtorEq, Nat.reduceAdd, Nat.reduceLeDiff, Nat.reduceLT, reduceIte, Int.reduceBEq, Int.reduceBNe, Int.reduceLT, Int.reduceLE, Int.reduceAdd, Int.reduceSub, Int.reduceMul, Int.reduceNeg, Int.reduceEq, Int.reduceNe, Nat.reduceMul, Nat.reduceSub], rfl, fun c hc => hc, ?_⟩ ?_
  · simp (disch := first | assumption | omega) only [go_sem, ↓reduceIte, Nat.reduceEqDiff, reduceCtorEq, Nat.reduceAdd, Nat.reduceLeDiff, Nat.reduceLT, reduceIte, Int.reduceBEq, Int.reduceBNe, Int.reduceLT, Int.reduceLE, Int.reduceAdd, Int.reduceSub, Int.reduceMul, Int.reduceNeg, Int.reduceEq, Int.reduceNe, Nat.reduceMul, Nat.reduceSub]
    rw [set_same hid]
  rintro d S ⟨i, l', hi, hi1, e8, e0, e1, e2, e3, hl', hm, eh⟩
  simp (disch := first | assumption | omega) only [e8, e0, e1, e2, e3, eh, go_sem, ↓reduceIte, Nat.reduceEqDiff, reduceCtorEq, Nat.reduceAdd, Nat.reduceLeDiff, Nat.reduceLT, reduceIte, Int.reduceBEq, Int.reduceBNe, Int.reduceLT, Int.reduceLE, Int.reduceAdd, Int.reduceSub, Int.reduceMul, Int.reduceNeg, Int.reduceEq, Int.reduceNe, Nat.reduceMul, Nat.reduceSub]
  refine condG_if (fun hlt => ?_) fun hge => ?_
  · have hil : i < l.length := by omega
    simp (disch := first | assumption | omega) only [e8, e0, e1, e2, e3, eh, go_sem, ↓reduceIte, Nat.reduceEqDiff, reduceCtorEq, Nat.reduceAdd, Nat.reduceLeDiff, Nat.reduceLT, reduceIte, Int.reduceBEq, Int.reduceBNe, Int.reduceLT, Int.reduceLE, Int.reduceAdd, Int.reduceSub, Int.reduceMul, Int.reduceNeg, Int.reduceEq, Int.reduceNe, Nat.reduceMul, Nat.reduceSub]
    refine aw_count (fun d' S' => ∃ (l'' : List Cell), d' < l.length ∧ S'.env 9 = .int .i64 d' ∧ S'.env 8 = .int .i64 i ∧ S'.env 0 = .ref id 0 l.length cap ∧ S'.env 1 = .int .i64 0 ∧ S'.env 2 = .int .i64 l.length ∧ S'.env 3 = .func f [] ∧ l''.length = l.length ∧ (∀ c ∈ l'', c ∈ l) ∧ S'.heap = h.set id (.cells (flatC l'' ++ rest))) (n := i)
      ⟨l', hil, by simp (disch := first | assumption | omega) only [e8, e0, e1, e2, e3, eh, go_sem, ↓reduceIte, Nat.reduceEqDiff, reduceCtorEq, Nat.reduceAdd, Nat.reduceLeDiff, Nat.reduceLT, reduceIte, Int.reduceBEq, Int.reduceBNe, Int.reduceLT, Int.reduceLE, Int.reduceAdd, Int.reduceSub, Int.reduceMul, Int.reduceNeg, Int.reduceEq, Int.reduceNe, Nat.reduceMul, Nat.reduceSub], by simp (disch := first | assumption | omega) only [e8, e0, e1, e2, e3, eh, go_sem, ↓reduceIte, Nat.reduceEqDiff, reduceCtorEq, Nat.reduceAdd, Nat.reduceLeDiff, Nat.reduceLT, reduceIte, Int.reduceBEq, Int.reduceBNe, Int.reduceLT, Int.reduceLE, Int.reduceAdd, Int.reduceSub, Int.reduceMul, Int.reduceNeg, Int.reduceEq, Int.reduceNe, Nat.reduceMul, Nat.reduceSub], by simp (disch := first | assumption | omega) only [e8, e0, e1, e2, e3, eh, go_sem, ↓reduceIte, Nat.reduceEqDiff, reduceCtorEq, Nat.reduceAdd, Nat.reduceLeDiff, Nat.reduceLT, reduceIte, Int.reduceBEq, Int.reduceBNe, Int.reduceLT, Int.reduceLE, Int.reduceAdd, Int.reduceSub, Int.reduceMul, Int.reduceNeg, Int.reduceEq, Int.reduceNe, Nat.reduceMul, Nat.reduceSub], by simp (disch := first | assumption | omega) only [e8, e0, e1, e2, e3, eh, go_sem, ↓reduceIte, Nat.reduceEqDiff, reduceCtorEq, Nat.reduceAdd, Nat.reduceLeDiff, Nat.reduceLT, reduceIte, Int.reduceBEq, Int.reduceBNe, Int.reduceLT, Int.reduceLE, Int.reduceAdd, Int.reduceSub, Int.reduceMul, Int.reduceNeg, Int.reduceEq, Int.reduceNe, Nat.reduceMul, Nat.reduceSub], by simp (disch := first | assumption | omega) only [e8, e0, e1, e2, e3, eh, go_sem, ↓reduceIte, Nat.reduceEqDiff, reduceCtorEq, Nat.reduceAdd, Nat.reduceLeDiff, Nat.reduceLT, reduceIte, Int.reduceBEq, Int.reduceBNe, Int.reduceLT, Int.reduceLE, Int.reduceAdd, Int.reduceSub, Int.reduceMul, Int.reduceNeg, Int.reduceEq, Int.reduceNe, Nat.reduceMul, Nat.reduceSub], by simp (disch := first | assumption | omega) only [e8, e0, e1, e2, e3, eh, go_sem, ↓reduceIte, Nat.reduceEqDiff, reduceCtorEq, Nat.reduceAdd, Nat.reduceLeDiff, Nat.reduceLT, reduceIte, Int.reduceBEq, Int.reduceBNe, Int.reduceLT, Int.reduceLE, Int.reduceAdd, Int.reduceSub, Int.reduceMul, Int.reduceNeg, Int.reduceEq, Int.reduceNe, Nat.reduceMul, Nat.reduceSub], hl', hm, by simp (disch := first | assumption | omega) only [e8, e0, e1, e2, e3, eh, go_sem, ↓reduceIte, Nat.reduceEqDiff, reduceCtorEq, Nat.reduceAdd, Nat.reduceLeDiff, Nat.reduceLT, reduceIte, Int.reduceBEq, Int.reduceBNe, Int.reduceLT, Int.reduceLE, Int.reduceAdd, Int.reduceSub, Int.reduceMul, Int.reduceNeg, Int.reduceEq, Int.reduceNe, Nat.reduceMul, Nat.reduceSub]⟩ ?_
    rintro d' S' ⟨l'', hd, g9, g8, g0, g1, g2, g3, hl'', hm'', gh⟩
    have hget : (h.set id (.cells (flatC l'' ++ rest)))[id]? = some (.cells (flatC l'' ++ rest)) := List.getElem?_set_self hidl
    by_cases hj : 0 < d'
    · have hj' : (0 : Int) < d' := by omega
      have hj1 : ((d' : Int) - 1).toNat = d' - 1 := by omega
      have q1 := flatC_get (l := l'') (j := d') (rest := rest) (by omega)
      have q2 := flatC_get (l := l'') (j := d' - 1) (rest := rest) (by omega)
      simp (disch := first | assumption | omega) only [g9, g8, g0, g1, g2, g3, gh, hj', hj1, hget, q1, q2, go_sem, ↓reduceIte, Nat.reduceEqDiff, reduceCtorEq, Nat.reduceAdd, Nat.reduceLeDiff, Nat.reduceLT, reduceIte, Int.reduceBEq, Int.reduceBNe, Int.reduceLT, Int.reduceLE, Int.reduceAdd, Int.reduceSub, Int.reduceMul, Int.reduceNeg, Int.reduceEq, Int.reduceNe, Nat.reduceMul, Nat.reduceSub]
      refine ⟨by omega, by rw [flatC_length]; omega, ⟨by omega, by omega⟩, by rw [flatC_length]; omega, ?_⟩
      refine callvqG_ok (hf l''[d'] l''[d' - 1] _) (by simp (disch := first | assumption | omega) only [go_sem, ↓reduceIte, Nat.reduceEqDiff, reduceCtorEq, Nat.reduceAdd, Nat.reduceLeDiff, Nat.reduceLT, reduceIte, Int.reduceBEq, Int.reduceBNe, Int.reduceLT, Int.reduceLE, Int.reduceAdd, Int.reduceSub, Int.reduceMul, Int.reduceNeg, Int.reduceEq, Int.reduceNe, Nat.reduceMul, Nat.reduceSub]) ?_
      rintro _ _ ⟨⟨x, rfl⟩, hhh⟩
      rw [hhh]
      clear hhh
      refine ⟨rfl, ?_⟩
      by_cases hx : x < 0
      · have s1 := flatC_set (l := l'') (j := d') (rest := rest) (c := l''[d' - 1]) (by omega)
        have s2 := flatC_set (l := l''.set d' l''[d' - 1]) (j := d' - 1) (rest := rest) (c := l''[d']) (by simp; omega)
        have hget2 : (h.set id (.cells (flatC (l''.set d' l''[d' - 1]) ++ rest)))[id]? = some (.cells (flatC (l''.set d' l''[d' - 1]) ++ rest)) := List.getElem?_set_self hidl
        simp (disch := first | assumption | omega) only [g9, g8, g0, g1, g2, g3, gh, hj', hj1, hget, q1, q2, hx, s1, s2, hget2, List.set_set, go_sem, ↓reduceIte, Nat.reduceEqDiff, reduceCtorEq, Nat.reduceAdd, Nat.reduceLeDiff, Nat.reduceLT, reduceIte, Int.reduceBEq, Int.reduceBNe, Int.reduceLT, Int.reduceLE, Int.reduceAdd, Int.reduceSub, Int.reduceMul, Int.reduceNeg, Int.reduceEq, Int.reduceNe, Nat.reduceMul, Nat.reduceSub]
        refine ⟨⟨by omega, by omega⟩, by rw [flatC_length]; omega, by omega, by rw [flatC_length]; omega, by omega, by rw [flatC_length]; omega, ⟨by omega, by omega⟩, by rw [flatC_length, List.length_set]; omega, d' - 1, by omega, (l''.set d' l''[d' - 1]).set (d' - 1) l''[d'], by omega, by congr 1; omega, by rw [List.length_set, List.length_set]; exact hl'', ?_, rfl⟩
        intro c hc
        rcases List.mem_or_eq_of_mem_set hc with hc | rfl
        · rcases List.mem_or_eq_of_mem_set hc with hc | rfl
          · exact hm'' c hc
          · exact hm'' _ (List.getElem_mem _)
        · exact hm'' _ (List.getElem_mem _)
      · simp (disch := first | assumption | omega) only [g9, g8, g0, g1, g2, g3, gh, hj', hj1, hget, q1, q2, hx, go_sem, ↓reduceIte, Nat.reduceEqDiff, reduceCtorEq, Nat.reduceAdd, Nat.reduceLeDiff, Nat.reduceLT, reduceIte, Int.reduceBEq, Int.reduceBNe, Int.reduceLT, Int.reduceLE, Int.reduceAdd, Int.reduceSub, Int.reduceMul, Int.reduceNeg, Int.reduceEq, Int.reduceNe, Nat.reduceMul, Nat.reduceSub]
        refine ⟨d - 1, by omega, i + 1, l'', by omega, by omega, by simp, hl'', hm'', rfl⟩
    · have hj' : ¬ (0 : Int) < d' := by omega
      simp (disch := first | assumption | omega) only [g9, g8, g0, g1, g2, g3, gh, hj', go_sem, ↓reduceIte, Nat.reduceEqDiff, reduceCtorEq, Nat.reduceAdd, Nat.reduceLeDiff, Nat.reduceLT, reduceIte, Int.reduceBEq, Int.reduceBNe, Int.reduceLT, Int.reduceLE, Int.reduceAdd, Int.reduceSub, Int.reduceMul, Int.reduceNeg, Int.reduceEq, Int.reduceNe, Nat.reduceMul, Nat.reduceSub]
      refine ⟨d - 1, by omega, i + 1, l'', by omega, by omega, by simp, hl'', hm'', rfl⟩
  · simp (disch := first | assumption | omega) only [e8, e0, e1, e2, e3, eh, go_sem, ↓reduceIte, Nat.reduceEqDiff, reduceCtorEq, Nat.reduceAdd, Nat.reduceLeDiff, Nat.reduceLT, reduceIte, Int.reduceBEq, Int.reduceBNe, Int.reduceLT, Int.reduceLE, Int.reduceAdd, Int.reduceSub, Int.reduceMul, Int.reduceNeg, Int.reduceEq, Int.reduceNe, Nat.reduceMul, Nat.reduceSub]
    subst hQ
    simp (disch := first | assumption | omega) only [R.slices_insertionSortCmpFunc_Cell, e8, e0, e1, e2, e3, eh, go_sem, ↓reduceIte, Nat.reduceEqDiff, reduceCtorEq, Nat.reduceAdd, Nat.reduceLeDiff, Nat.reduceLT, reduceIte, Int.reduceBEq, Int.reduceBNe, Int.reduceLT, Int.reduceLE, Int.reduceAdd, Int.reduceSub, Int.reduceMul, Int.reduceNeg, Int.reduceEq, Int.reduceNe, Nat.reduceMul, Nat.reduceSub]
    exact ⟨l', hl', hm, rfl⟩
theorem pdqSmall_ok (f : Nat) (l : List Cell) (id cap : Nat) (rest : List AVal) (lim : Int) (h : List HObj) (hid : h[id]? = some (.cells (flatC l ++ rest))) (hn : l.length ≤ 12)
    (hf : ∀ (a b : Cell) (h : List HObj), ACalls Try.prog f [cellA a, cellA b] h (fun v h' => (∃ x, v = .int .i64 x) ∧ h' = h)) :
    ACalls Try.prog F.slices_pdqsortCmpFunc_Cell [.ref id 0 l.length cap, .int .i64 0, .int .i64 l.length, .int .i64 lim, .func f []] h
      (fun v h' => v = .tup [] ∧ ∃ l', l'.length = l.length ∧ (∀ c ∈ l', c ∈ l) ∧ h' = h.set id (.cells (flatC l' ++ rest))) := by
  refine ACalls.of_aw Try.func203 K.slices_pdqsortCmpFunc_Cell (by simp [Try.f203]) ?_
  generalize hQ : retQ R.slices_pdqsortCmpFunc_Cell _ = Q
  simp (disch := first | assumption | omega) only [C.slices_pdqsortCmpFunc_Cell, go_sem, ↓reduceIte, Nat.reduceEqDiff, reduceCtorEq, Nat.reduceAdd, Nat.reduceLeDiff, Nat.reduceLT, reduceIte, Int.reduceBEq, Int.reduceBNe, Int.reduceLT, Int.reduceLE, Int.reduceAdd, Int.reduceSub, Int.reduceMul, Int.reduceNeg, Int.reduceEq, Int.reduceNe, Nat.reduceMul, Nat.reduceSub]
  refine aw_count (fun d S => S.env 0 = .ref id 0 l.length cap ∧ S.env 1 = .int .i64 0 ∧ S.env 2 = .int .i64 l.length ∧ S.env 4 = .func f [] ∧ S.heap = h) (n := 0) ⟨by simp (disch := first | assumption | omega) only [go_sem, ↓reduceIte, Nat.reduceEqDiff, reduceCtorEq, Nat.reduceAdd, Nat.reduceLeDiff, Nat.reduceLT, reduceIte, Int.reduceBEq, Int.reduceBNe, Int.reduceLT, Int.reduceLE, Int.reduceAdd, Int.reduceSub, Int.reduceMul, Int.reduceNeg, Int.reduceEq, Int.reduceNe, Nat.reduceMul, Nat.reduceSub], by simp (disch := first | assumption | omega) only [go_sem, ↓reduceIte, Nat.reduceEqDiff, reduceCtorEq, Nat.reduceAdd, Nat.reduceLeDiff, Nat.reduceLT, reduceIte, Int.reduceBEq, Int.reduceBNe, Int.reduceLT, Int.reduceLE, Int.reduceAdd, Int.reduceSub, Int.reduceMul, Int.reduceNeg, Int.reduceEq, Int.reduceNe, Nat.reduceMul, Nat.reduceSub], by simp (disch := first | assumption | omega) only [go_sem, ↓reduceIte, Nat.reduceEqDiff, reduceCtorEq, Nat.reduceAdd, Nat.reduceLeDiff, Nat.reduceLT, reduceIte, Int.reduceBEq, Int.reduceBNe, Int.reduceLT, Int.reduceLE, Int.reduceAdd, Int.reduceSub, Int.reduceMul, Int.reduceNeg, Int.reduceEq, Int.reduceNe, Nat.reduceMul, Nat.reduceSub], by simp (disch := first | assumption | omega) only [go_sem, ↓reduceIte, Nat.reduceEqDiff, reduceCtorEq, Nat.reduceAdd, Nat.reduceLeDiff, Nat.reduceLT, reduceIte, Int.reduceBEq, Int.reduceBNe, Int.reduceLT, Int.reduceLE, Int.reduceAdd, Int.reduceSub, Int.reduceMul, Int.reduceNeg, Int.reduceEq, Int.reduceNe, Nat.reduceMul, Nat.reduceSub], by simp (disch := first | assumption | omega) only [go_sem, ↓reduceIte, Nat.reduceEqDiff, reduceCtorEq, Nat.reduceAdd, Nat.reduceLeDiff, Nat.reduceLT, reduceIte, Int.reduceBEq, Int.reduceBNe, Int.reduceLT, Int.reduceLE, Int.reduceAdd, Int.reduceSub, Int.reduceMul, Int.reduceNeg, Int.reduceEq, Int.reduceNe, Nat.reduceMul, Nat.reduceSub]⟩ ?_
  rintro d S ⟨e0, e1, e2, e4, eh⟩
  have hn' : (l.length : Int) ≤ 12 := by omega
  simp (disch := first | assumption | omega) only [e0, e1, e2, e4, eh, hn', go_sem, ↓reduceIte, Nat.reduceEqDiff, reduceCtorEq, Nat.reduceAdd, Nat.reduceLeDiff, Nat.reduceLT, reduceIte, Int.reduceBEq, Int.reduceBNe, Int.reduceLT, Int.reduceLE, Int.reduceAdd, Int.reduceSub, Int.reduceMul, Int.reduceNeg, Int.reduceEq, Int.reduceNe, Nat.reduceMul, Nat.reduceSub]
  refine callG_ok (insSort_ok f l id cap rest _ (by simp (disch := first | assumption | omega) only [e0, e1, e2, e4, eh, hid, go_sem, ↓reduceIte, Nat.reduceEqDiff, reduceCtorEq, Nat.reduceAdd, Nat.reduceLeDiff, Nat.reduceLT, reduceIte, Int.reduceBEq, Int.reduceBNe, Int.reduceLT, Int.reduceLE, Int.reduceAdd, Int.reduceSub, Int.reduceMul, Int.reduceNeg, Int.reduceEq, Int.reduceNe, Nat.reduceMul, Nat.reduceSub]) (by omega) hf) (by simp (disch := first | assumption | omega) only [go_sem, ↓reduceIte, Nat.reduceEqDiff, reduceCtorEq, Nat.reduceAdd, Nat.reduceLeDiff, Nat.reduceLT, reduceIte, Int.reduceBEq, Int.reduceBNe, Int.reduceLT, Int.reduceLE, Int.reduceAdd, Int.reduceSub, Int.reduceMul, Int.reduceNeg, Int.reduceEq, Int.reduceNe, Nat.reduceMul, Nat.reduceSub]) ?_
  rintro _ _ ⟨rfl, l', h1, h2, rfl⟩
  simp (disch := first | assumption | omega) only [e0, e1, e2, e4, eh, go_sem, ↓reduceIte, Nat.reduceEqDiff, reduceCtorEq, Nat.reduceAdd, Nat.reduceLeDiff, Nat.reduceLT, reduceIte, Int.reduceBEq, Int.reduceBNe, Int.reduceLT, Int.reduceLE, Int.reduceAdd, Int.reduceSub, Int.reduceMul, Int.reduceNeg, Int.reduceEq, Int.reduceNe, Nat.reduceMul, Nat.reduceSub]
  subst hQ
  simp (disch := first | assumption | omega) only [R.slices_pdqsortCmpFunc_Cell, e0, e1, e2, e4, eh, go_sem, ↓reduceIte, Nat.reduceEqDiff, reduceCtorEq, Nat.reduceAdd, Nat.reduceLeDiff, Nat.reduceLT, reduceIte, Int.reduceBEq, Int.reduceBNe, Int.reduceLT, Int.reduceLE, Int.reduceAdd, Int.reduceSub, Int.reduceMul, Int.reduceNeg, Int.reduceEq, Int.reduceNe, Nat.reduceMul, Nat.reduceSub]
  exact ⟨l', h1, h2, rfl⟩
theorem Len_ok (x : Nat) (hx : x < 256) (h : List HObj) : ACalls Try.prog F.bits_Len64 [.int .u64 x] h (fun v h' => (∃ r, v = .int .i64 r) ∧ h' = h) := by
  refine ACalls.of_aw Try.func228 K.bits_Len64 (by simp [Try.f228]) ?_
  generalize hQ : retQ R.bits_Len64 _ = Q
  simp (disch := first | assumption | omega) only [C.bits_Len64, go_sem, ↓reduceIte, Nat.reduceEqDiff, reduceCtorEq, Nat.reduceAdd, Nat.reduceLeDiff, Nat.reduceLT, reduceIte, Int.reduceBEq, Int.reduceBNe, Int.reduceLT, Int.reduceLE, Int.reduceAdd, Int.reduceSub, Int.reduceMul, Int.reduceNeg, Int.reduceEq, Int.reduceNe, Nat.reduceMul, Nat.reduceSub]
  have h1 : ¬ ((4294967296 : Int) ≤ x) := by omega
  have h2 : ¬ ((65536 : Int) ≤ x) := by omega
  have h3 : ¬ ((256 : Int) ≤ x) := by omega
  simp (disch := first | assumption | omega) only [h1, h2, h3, wrapU8_mod, go_sem, ↓reduceIte, Nat.reduceEqDiff, reduceCtorEq, Nat.reduceAdd, Nat.reduceLeDiff, Nat.reduceLT, reduceIte, Int.reduceBEq, Int.reduceBNe, Int.reduceLT, Int.reduceLE, Int.reduceAdd, Int.reduceSub, Int.reduceMul, Int.reduceNeg, Int.reduceEq, Int.reduceNe, Nat.reduceMul, Nat.reduceSub]
  refine ⟨?_, ?_⟩
  · refine ⟨by omega, ?_⟩
    show (x : Int) % 256 < ((256 : Nat) : Int); omega
  subst hQ
  simp (disch := first | assumption | omega) only [R.bits_Len64, go_sem, ↓reduceIte, Nat.reduceEqDiff, reduceCtorEq, Nat.reduceAdd, Nat.reduceLeDiff, Nat.reduceLT, reduceIte, Int.reduceBEq, Int.reduceBNe, Int.reduceLT, Int.reduceLE, Int.reduceAdd, Int.reduceSub, Int.reduceMul, Int.reduceNeg, Int.reduceEq, Int.reduceNe, Nat.reduceMul, Nat.reduceSub]
  exact ⟨_, rfl⟩
theorem BLen_ok (x : Nat) (hx : x < 256) (h : List HObj) : ACalls Try.prog F.bits_Len [.int .u64 x] h (fun v h' => (∃ r, v = .int .i64 r) ∧ h' = h) := by
  refine ACalls.of_aw Try.func204 K.bits_Len (by simp [Try.f204]) ?_
  generalize hQ : retQ R.bits_Len _ = Q
  simp (disch := first | assumption | omega) only [C.bits_Len, go_sem, ↓reduceIte, Nat.reduceEqDiff, reduceCtorEq, Nat.reduceAdd, Nat.reduceLeDiff, Nat.reduceLT, reduceIte, Int.reduceBEq, Int.reduceBNe, Int.reduceLT, Int.reduceLE, Int.reduceAdd, Int.reduceSub, Int.reduceMul, Int.reduceNeg, Int.reduceEq, Int.reduceNe, Nat.reduceMul, Nat.reduceSub]
  refine callG_ok (Len_ok x hx _) (by simp (disch := first | assumption | omega) only [go_sem, ↓reduceIte, Nat.reduceEqDiff, reduceCtorEq, Nat.reduceAdd, Nat.reduceLeDiff, Nat.reduceLT, reduceIte, Int.reduceBEq, Int.reduceBNe, Int.reduceLT, Int.reduceLE, Int.reduceAdd, Int.reduceSub, Int.reduceMul, Int.reduceNeg, Int.reduceEq, Int.reduceNe, Nat.reduceMul, Nat.reduceSub]) ?_
  rintro _ _ ⟨⟨r, rfl⟩, hhh⟩
  rw [hhh]
  clear hhh
  simp (disch := first | assumption | omega) only [go_sem, ↓reduceIte, Nat.reduceEqDiff, reduceCtorEq, Nat.reduceAdd, Nat.reduceLeDiff, Nat.reduceLT, reduceIte, Int.reduceBEq, Int.reduceBNe, Int.reduceLT, Int.reduceLE, Int.reduceAdd, Int.reduceSub, Int.reduceMul, Int.reduceNeg, Int.reduceEq, Int.reduceNe, Nat.reduceMul, Nat.reduceSub]
  subst hQ
  simp (disch := first | assumption | omega) only [R.bits_Len, go_sem, ↓reduceIte, Nat.reduceEqDiff, reduceCtorEq, Nat.reduceAdd, Nat.reduceLeDiff, Nat.reduceLT, reduceIte, Int.reduceBEq, Int.reduceBNe, Int.reduceLT, Int.reduceLE, Int.reduceAdd, Int.reduceSub, Int.reduceMul, Int.reduceNeg, Int.reduceEq, Int.reduceNe, Nat.reduceMul, Nat.reduceSub]
  exact ⟨_, rfl⟩
theorem SortSmall_ok (f : Nat) (l : List Cell) (id cap : Nat) (rest : List AVal) (h : List HObj) (hid : h[id]? = some (.cells (flatC l ++ rest))) (hn : l.length ≤ 12)
    (hf : ∀ (a b : Cell) (h : List HObj), ACalls Try.prog f [cellA a, cellA b] h (fun v h' => (∃ x, v = .int .i64 x) ∧ h' = h)) :
    ACalls Try.prog F.slices_SortFunc_Cell [.ref id 0 l.length cap, .func f []] h
      (fun v h' => v = .tup [] ∧ ∃ l', l'.length = l.length ∧ (∀ c ∈ l', c ∈ l) ∧ h' = h.set id (.cells (flatC l' ++ rest))) := by
  refine ACalls.of_aw Try.func180 K.slices_SortFunc_Cell (by simp [Try.f180]) ?_
  generalize hQ : retQ R.slices_SortFunc_Cell _ = Q
  simp (disch := first | assumption | omega) only [C.slices_SortFunc_Cell, go_sem, ↓reduceIte, Nat.reduceEqDiff, reduceCtorEq, Nat.reduceAdd, Nat.reduceLeDiff, Nat.reduceLT, reduceIte, Int.reduceBEq, Int.reduceBNe, Int.reduceLT, Int.reduceLE, Int.reduceAdd, Int.reduceSub, Int.reduceMul, Int.reduceNeg, Int.reduceEq, Int.reduceNe, Nat.reduceMul, Nat.reduceSub]
  refine callG_ok (BLen_ok l.length (by omega) _) (by simp (disch := first | assumption | omega) only [go_sem, ↓reduceIte, Nat.reduceEqDiff, reduceCtorEq, Nat.reduceAdd, Nat.reduceLeDiff, Nat.reduceLT, reduceIte, Int.reduceBEq, Int.reduceBNe, Int.reduceLT, Int.reduceLE, Int.reduceAdd, Int.reduceSub, Int.reduceMul, Int.reduceNeg, Int.reduceEq, Int.reduceNe, Nat.reduceMul, Nat.reduceSub]) ?_
  rintro _ _ ⟨⟨r, rfl⟩, hhh⟩
  rw [hhh]
  clear hhh
  simp (disch := first | assumption | omega) only [go_sem, ↓reduceIte, Nat.reduceEqDiff, reduceCtorEq, Nat.reduceAdd, Nat.reduceLeDiff, Nat.reduceLT, reduceIte, Int.reduceBEq, Int.reduceBNe, Int.reduceLT, Int.reduceLE, Int.reduceAdd, Int.reduceSub, Int.reduceMul, Int.reduceNeg, Int.reduceEq, Int.reduceNe, Nat.reduceMul, Nat.reduceSub]
  refine callG_ok (pdqSmall_ok f l id cap rest r _ (by simp (disch := first | assumption | omega) only [hid, go_sem, ↓reduceIte, Nat.reduceEqDiff, reduceCtorEq, Nat.reduceAdd, Nat.reduceLeDiff, Nat.reduceLT, reduceIte, Int.reduceBEq, Int.reduceBNe, Int.reduceLT, Int.reduceLE, Int.reduceAdd, Int.reduceSub, Int.reduceMul, Int.reduceNeg, Int.reduceEq, Int.reduceNe, Nat.reduceMul, Nat.reduceSub]) hn hf) (by simp (disch := first | assumption | omega) only [go_sem, ↓reduceIte, Nat.reduceEqDiff, reduceCtorEq, Nat.reduceAdd, Nat.reduceLeDiff, Nat.reduceLT, reduceIte, Int.reduceBEq, Int.reduceBNe, Int.reduceLT, Int.reduceLE, Int.reduceAdd, Int.reduceSub, Int.reduceMul, Int.reduceNeg, Int.reduceEq, Int.reduceNe, Nat.reduceMul, Nat.reduceSub]) ?_
  rintro _ _ ⟨rfl, l', h1, h2, rfl⟩
  simp (disch := first | assumption | omega) only [go_sem, ↓reduceIte, Nat.reduceEqDiff, reduceCtorEq, Nat.reduceAdd, Nat.reduceLeDiff, Nat.reduceLT, reduceIte, Int.reduceBEq, Int.reduceBNe, Int.reduceLT, Int.reduceLE, Int.reduceAdd, Int.reduceSub, Int.reduceMul, Int.reduceNeg, Int.reduceEq, Int.reduceNe, Nat.reduceMul, Nat.reduceSub]
  subst hQ
  simp (disch := first | assumption | omega) only [R.slices_SortFunc_Cell, go_sem, ↓reduceIte, Nat.reduceEqDiff, reduceCtorEq, Nat.reduceAdd, Nat.reduceLeDiff, Nat.reduceLT, reduceIte, Int.reduceBEq, Int.reduceBNe, Int.reduceLT, Int.reduceLE, Int.reduceAdd, Int.reduceSub, Int.reduceMul, Int.reduceNeg, Int.reduceEq, Int.reduceNe, Nat.reduceMul, Nat.reduceSub]
  exact ⟨l', h1, h2, rfl⟩
theorem insNil_ok (f : Nat) (h : List HObj) : ACalls Try.prog F.slices_insertionSortCmpFunc_Cell [.lst .nil [], .int .i64 0, .int .i64 0, .func f []] h (fun v h' => v = .tup [] ∧ h' = h) := by
  refine ACalls.of_aw Try.func219 K.slices_insertionSortCmpFunc_Cell (by simp [Try.f219]) ?_
  generalize hQ : retQ R.slices_insertionSortCmpFunc_Cell _ = Q
  simp (disch := first | assumption | omega) only [C.slices_insertionSortCmpFunc_Cell, go_sem, ↓reduceIte, Nat.reduceEqDiff, reduceCtorEq, Nat.reduceAdd, Nat.reduceLeDiff, Nat.reduceLT, reduceIte, Int.reduceBEq, Int.reduceBNe, Int.reduceLT, Int.reduceLE, Int.reduceAdd, Int.reduceSub, Int.reduceMul, Int.reduceNeg, Int.reduceEq, Int.reduceNe, Nat.reduceMul, Nat.reduceSub]
  refine aw_count (fun d S => S.env 8 = .int .i64 1 ∧ S.env 2 = .int .i64 0 ∧ S.heap = h) (n := 0) ⟨by simp (disch := first | assumption | omega) only [go_sem, ↓reduceIte, Nat.reduceEqDiff, reduceCtorEq, Nat.reduceAdd, Nat.reduceLeDiff, Nat.reduceLT, reduceIte, Int.reduceBEq, Int.reduceBNe, Int.reduceLT, Int.reduceLE, Int.reduceAdd, Int.reduceSub, Int.reduceMul, Int.reduceNeg, Int.reduceEq, Int.reduceNe, Nat.reduceMul, Nat.reduceSub], by simp (disch := first | assumption | omega) only [go_sem, ↓reduceIte, Nat.reduceEqDiff, reduceCtorEq, Nat.reduceAdd, Nat.reduceLeDiff, Nat.reduceLT, reduceIte, Int.reduceBEq, Int.reduceBNe, Int.reduceLT, Int.reduceLE, Int.reduceAdd, Int.reduceSub, Int.reduceMul, Int.reduceNeg, Int.reduceEq, Int.reduceNe, Nat.reduceMul, Nat.reduceSub], by simp (disch := first | assumption | omega) only [go_sem, ↓reduceIte, Nat.reduceEqDiff, reduceCtorEq, Nat.reduceAdd, Nat.reduceLeDiff, Nat.reduceLT, reduceIte, Int.reduceBEq, Int.reduceBNe, Int.reduceLT, Int.reduceLE, Int.reduceAdd, Int.reduceSub, Int.reduceMul, Int.reduceNeg, Int.reduceEq, Int.reduceNe, Nat.reduceMul, Nat.reduceSub]⟩ ?_
  rintro d S ⟨e8, e2, eh⟩
  simp (disch := first | assumption | omega) only [e8, e2, eh, go_sem, ↓reduceIte, Nat.reduceEqDiff, reduceCtorEq, Nat.reduceAdd, Nat.reduceLeDiff, Nat.reduceLT, reduceIte, Int.reduceBEq, Int.reduceBNe, Int.reduceLT, Int.reduceLE, Int.reduceAdd, Int.reduceSub, Int.reduceMul, Int.reduceNeg, Int.reduceEq, Int.reduceNe, Nat.reduceMul, Nat.reduceSub]
  subst hQ
  simp (disch := first | assumption | omega) only [R.slices_insertionSortCmpFunc_Cell, eh, go_sem, ↓reduceIte, Nat.reduceEqDiff, reduceCtorEq, Nat.reduceAdd, Nat.reduceLeDiff, Nat.reduceLT, reduceIte, Int.reduceBEq, Int.reduceBNe, Int.reduceLT, Int.reduceLE, Int.reduceAdd, Int.reduceSub, Int.reduceMul, Int.reduceNeg, Int.reduceEq, Int.reduceNe, Nat.reduceMul, Nat.reduceSub]
theorem pdqNil_ok (f : Nat) (lim : Int) (h : List HObj) : ACalls Try.prog F.slices_pdqsortCmpFunc_Cell [.lst .nil [], .int .i64 0, .int .i64 0, .int .i64 lim, .func f []] h (fun v h' => v = .tup [] ∧ h' = h) := by
  refine ACalls.of_aw Try.func203 K.slices_pdqsortCmpFunc_Cell (by simp [Try.f203]) ?_
  generalize hQ : retQ R.slices_pdqsortCmpFunc_Cell _ = Q
  simp (disch := first | assumption | omega) only [C.slices_pdqsortCmpFunc_Cell, go_sem, ↓reduceIte, Nat.reduceEqDiff, reduceCtorEq, Nat.reduceAdd, Nat.reduceLeDiff, Nat.reduceLT, reduceIte, Int.reduceBEq, Int.reduceBNe, Int.reduceLT, Int.reduceLE, Int.reduceAdd, Int.reduceSub, Int.reduceMul, Int.reduceNeg, Int.reduceEq, Int.reduceNe, Nat.reduceMul, Nat.reduceSub]
  refine aw_count (fun d S => S.env 0 = .lst .nil [] ∧ S.env 1 = .int .i64 0 ∧ S.env 2 = .int .i64 0 ∧ S.env 4 = .func f [] ∧ S.heap = h) (n := 0) ⟨by simp (disch := first | assumption | omega) only [go_sem, ↓reduceIte, Nat.reduceEqDiff, reduceCtorEq, Nat.reduceAdd, Nat.reduceLeDiff, Nat.reduceLT, reduceIte, Int.reduceBEq, Int.reduceBNe, Int.reduceLT, Int.reduceLE, Int.reduceAdd, Int.reduceSub, Int.reduceMul, Int.reduceNeg, Int.reduceEq, Int.reduceNe, Nat.reduceMul, Nat.reduceSub], by simp (disch := first | assumption | omega) only [go_sem, ↓reduceIte, Nat.reduceEqDiff, reduceCtorEq, Nat.reduceAdd, Nat.reduceLeDiff, Nat.reduceLT, reduceIte, Int.reduceBEq, Int.reduceBNe, Int.reduceLT, Int.reduceLE, Int.reduceAdd, Int.reduceSub, Int.reduceMul, Int.reduceNeg, Int.reduceEq, Int.reduceNe, Nat.reduceMul, Nat.reduceSub], by simp (disch := first | assumption | omega) only [go_sem, ↓reduceIte, Nat.reduceEqDiff, reduceCtorEq, Nat.reduceAdd, Nat.reduceLeDiff, Nat.reduceLT, reduceIte, Int.reduceBEq, Int.reduceBNe, Int.reduceLT, Int.reduceLE, Int.reduceAdd, Int.reduceSub, Int.reduceMul, Int.reduceNeg, Int.reduceEq, Int.reduceNe, Nat.reduceMul, Nat.reduceSub], by simp (disch := first | assumption | omega) only [go_sem, ↓reduceIte, Nat.reduceEqDiff, reduceCtorEq, Nat.reduceAdd, Nat.reduceLeDiff, Nat.reduceLT, reduceIte, Int.reduceBEq, Int.reduceBNe, Int.reduceLT, Int.reduceLE, Int.reduceAdd, Int.reduceSub, Int.reduceMul, Int.reduceNeg, Int.reduceEq, Int.reduceNe, Nat.reduceMul, Nat.reduceSub], by simp (disch := first | assumption | omega) only [go_sem, ↓reduceIte, Nat.reduceEqDiff, reduceCtorEq, Nat.reduceAdd, Nat.reduceLeDiff, Nat.reduceLT, reduceIte, Int.reduceBEq, Int.reduceBNe, Int.reduceLT, Int.reduceLE, Int.reduceAdd, Int.reduceSub, Int.reduceMul, Int.reduceNeg, Int.reduceEq, Int.reduceNe, Nat.reduceMul, Nat.reduceSub]⟩ ?_
  rintro d S ⟨e0, e1, e2, e4, eh⟩
  simp (disch := first | assumption | omega) only [e0, e1, e2, e4, eh, go_sem, ↓reduceIte, Nat.reduceEqDiff, reduceCtorEq, Nat.reduceAdd, Nat.reduceLeDiff, Nat.reduceLT, reduceIte, Int.reduceBEq, Int.reduceBNe, Int.reduceLT, Int.reduceLE, Int.reduceAdd, Int.reduceSub, Int.reduceMul, Int.reduceNeg, Int.reduceEq, Int.reduceNe, Nat.reduceMul, Nat.reduceSub]
  refine callG_ok (insNil_ok f _) (by simp (disch := first | assumption | omega) only [go_sem, ↓reduceIte, Nat.reduceEqDiff, reduceCtorEq, Nat.reduceAdd, Nat.reduceLeDiff, Nat.reduceLT, reduceIte, Int.reduceBEq, Int.reduceBNe, Int.reduceLT, Int.reduceLE, Int.reduceAdd, Int.reduceSub, Int.reduceMul, Int.reduceNeg, Int.reduceEq, Int.reduceNe, Nat.reduceMul, Nat.reduceSub]) ?_
  rintro _ _ ⟨rfl, hhh⟩
  rw [hhh]
  clear hhh
  simp (disch := first | assumption | omega) only [e0, e1, e2, e4, eh, go_sem, ↓reduceIte, Nat.reduceEqDiff, reduceCtorEq, Nat.reduceAdd, Nat.reduceLeDiff, Nat.reduceLT, reduceIte, Int.reduceBEq, Int.reduceBNe, Int.reduceLT, Int.reduceLE, Int.reduceAdd, Int.reduceSub, Int.reduceMul, Int.reduceNeg, Int.reduceEq, Int.reduceNe, Nat.reduceMul, Nat.reduceSub]
  subst hQ
  simp (disch := first | assumption | omega) only [R.slices_pdqsortCmpFunc_Cell, e0, e1, e2, e4, eh, go_sem, ↓reduceIte, Nat.reduceEqDiff, reduceCtorEq, Nat.reduceAdd, Nat.reduceLeDiff, Nat.reduceLT, reduceIte, Int.reduceBEq, Int.reduceBNe, Int.reduceLT, Int.reduceLE, Int.reduceAdd, Int.reduceSub, Int.reduceMul, Int.reduceNeg, Int.reduceEq, Int.reduceNe, Nat.reduceMul, Nat.reduceSub]
theorem SortNil_ok (f : Nat) (h : List HObj) : ACalls Try.prog F.slices_SortFunc_Cell [.lst .nil [], .func f []] h (fun v h' => v = .tup [] ∧ h' = h) := by
  refine ACalls.of_aw Try.func180 K.slices_SortFunc_Cell (by simp [Try.f180]) ?_
  generalize hQ : retQ R.slices_SortFunc_Cell _ = Q
  simp (disch := first | assumption | omega) only [C.slices_SortFunc_Cell, go_sem, ↓reduceIte, Nat.reduceEqDiff, reduceCtorEq, Nat.reduceAdd, Nat.reduceLeDiff, Nat.reduceLT, reduceIte, Int.reduceBEq, Int.reduceBNe, Int.reduceLT, Int.reduceLE, Int.reduceAdd, Int.reduceSub, Int.reduceMul, Int.reduceNeg, Int.reduceEq, Int.reduceNe, Nat.reduceMul, Nat.reduceSub]
  refine callG_ok (BLen_ok 0 (by omega) _) (by simp (disch := first | assumption | omega) only [go_sem, ↓reduceIte, Nat.reduceEqDiff, reduceCtorEq, Nat.reduceAdd, Nat.reduceLeDiff, Nat.reduceLT, reduceIte, Int.reduceBEq, Int.reduceBNe, Int.reduceLT, Int.reduceLE, Int.reduceAdd, Int.reduceSub, Int.reduceMul, Int.reduceNeg, Int.reduceEq, Int.reduceNe, Nat.reduceMul, Nat.reduceSub]) ?_
  rintro _ _ ⟨⟨r, rfl⟩, hhh⟩
  rw [hhh]
  clear hhh
  simp (disch := first | assumption | omega) only [go_sem, ↓reduceIte, Nat.reduceEqDiff, reduceCtorEq, Nat.reduceAdd, Nat.reduceLeDiff, Nat.reduceLT, reduceIte, Int.reduceBEq, Int.reduceBNe, Int.reduceLT, Int.reduceLE, Int.reduceAdd, Int.reduceSub, Int.reduceMul, Int.reduceNeg, Int.reduceEq, Int.reduceNe, Nat.reduceMul, Nat.reduceSub]
  refine callG_ok (pdqNil_ok f r _) (by simp (disch := first | assumption | omega) only [go_sem, ↓reduceIte, Nat.reduceEqDiff, reduceCtorEq, Nat.reduceAdd, Nat.reduceLeDiff, Nat.reduceLT, reduceIte, Int.reduceBEq, Int.reduceBNe, Int.reduceLT, Int.reduceLE, Int.reduceAdd, Int.reduceSub, Int.reduceMul, Int.reduceNeg, Int.reduceEq, Int.reduceNe, Nat.reduceMul, Nat.reduceSub]) ?_
  rintro _ _ ⟨rfl, hhh⟩
  rw [hhh]
  clear hhh
  simp (disch := first | assumption | omega) only [go_sem, ↓reduceIte, Nat.reduceEqDiff, reduceCtorEq, Nat.reduceAdd, Nat.reduceLeDiff, Nat.reduceLT, reduceIte, Int.reduceBEq, Int.reduceBNe, Int.reduceLT, Int.reduceLE, Int.reduceAdd, Int.reduceSub, Int.reduceMul, Int.reduceNeg, Int.reduceEq, Int.reduceNe, Nat.reduceMul, Nat.reduceSub]
  subst hQ
  simp (disch := first | assumption | omega) only [R.slices_SortFunc_Cell, go_sem, ↓reduceIte, Nat.reduceEqDiff, reduceCtorEq, Nat.reduceAdd, Nat.reduceLeDiff, Nat.reduceLT, reduceIte, Int.reduceBEq, Int.reduceBNe, Int.reduceLT, Int.reduceLE, Int.reduceAdd, Int.reduceSub, Int.reduceMul, Int.reduceNeg, Int.reduceEq, Int.reduceNe, Nat.reduceMul, Nat.reduceSub]
theorem cmpMade_ok (a b : Cell) (h : List HObj) : ACalls Try.prog F.gantmake_Cells_1 [cellA a, cellA b] h (fun v h' => (∃ x, v = .int .i64 x) ∧ h' = h) := by
  refine ACalls.of_aw Try.func181 K.gantmake_Cells_1 (by simp [Try.f181]) ?_
  generalize hQ : retQ R.gantmake_Cells_1 _ = Q
  simp (disch := first | assumption | omega) only [C.gantmake_Cells_1, go_sem, ↓reduceIte, Nat.reduceEqDiff, reduceCtorEq, Nat.reduceAdd, Nat.reduceLeDiff, Nat.reduceLT, reduceIte, Int.reduceBEq, Int.reduceBNe, Int.reduceLT, Int.reduceLE, Int.reduceAdd, Int.reduceSub, Int.reduceMul, Int.reduceNeg, Int.reduceEq, Int.reduceNe, Nat.reduceMul, Nat.reduceSub]
  simp (disch := first | assumption | omega) only [cellA, go_sem, ↓reduceIte, Nat.reduceEqDiff, reduceCtorEq, Nat.reduceAdd, Nat.reduceLeDiff, Nat.reduceLT, reduceIte, Int.reduceBEq, Int.reduceBNe, Int.reduceLT, Int.reduceLE, Int.reduceAdd, Int.reduceSub, Int.reduceMul, Int.reduceNeg, Int.reduceEq, Int.reduceNe, Nat.reduceMul, Nat.reduceSub]
  refine condG_ifn (fun hc => ?_) fun hc => ?_
  · simp (disch := first | assumption | omega) only [go_sem, ↓reduceIte, Nat.reduceEqDiff, reduceCtorEq, Nat.reduceAdd, Nat.reduceLeDiff, Nat.reduceLT, reduceIte, Int.reduceBEq, Int.reduceBNe, Int.reduceLT, Int.reduceLE, Int.reduceAdd, Int.reduceSub, Int.reduceMul, Int.reduceNeg, Int.reduceEq, Int.reduceNe, Nat.reduceMul, Nat.reduceSub]
    subst hQ
    simp (disch := first | assumption | omega) only [R.gantmake_Cells_1, go_sem, ↓reduceIte, Nat.reduceEqDiff, reduceCtorEq, Nat.reduceAdd, Nat.reduceLeDiff, Nat.reduceLT, reduceIte, Int.reduceBEq, Int.reduceBNe, Int.reduceLT, Int.reduceLE, Int.reduceAdd, Int.reduceSub, Int.reduceMul, Int.reduceNeg, Int.reduceEq, Int.reduceNe, Nat.reduceMul, Nat.reduceSub]
    exact ⟨_, rfl⟩
  · simp (disch := first | assumption | omega) only [go_sem, ↓reduceIte, Nat.reduceEqDiff, reduceCtorEq, Nat.reduceAdd, Nat.reduceLeDiff, Nat.reduceLT, reduceIte, Int.reduceBEq, Int.reduceBNe, Int.reduceLT, Int.reduceLE, Int.reduceAdd, Int.reduceSub, Int.reduceMul, Int.reduceNeg, Int.reduceEq, Int.reduceNe, Nat.reduceMul, Nat.reduceSub]
    subst hQ
    simp (disch := first | assumption | omega) only [R.gantmake_Cells_1, go_sem, ↓reduceIte, Nat.reduceEqDiff, reduceCtorEq, Nat.reduceAdd, Nat.reduceLeDiff, Nat.reduceLT, reduceIte, Int.reduceBEq, Int.reduceBNe, Int.reduceLT, Int.reduceLE, Int.reduceAdd, Int.reduceSub, Int.reduceMul, Int.reduceNeg, Int.reduceEq, Int.reduceNe, Nat.reduceMul, Nat.reduceSub]
    exact ⟨_, rfl⟩
/-- Where a cell is, or -1. -/
theorem IndexCell_ok (o : Own) (l : List Cell) (c : Cell) (ho : Rdo o) (hl : l.length < 4611686018427387904) (h : List HObj) :
    ACalls Try.prog F.slices_Index_Cell [.lst o (cellsA l), cellA c] h (fun v h' => (∃ r : Int, v = .int .i64 r ∧ (r = -1 ∧ c ∉ l ∨ 0 ≤ r ∧ c ∈ l)) ∧ h' = h) := by
  refine ACalls.of_aw Try.func202 K.slices_Index_Cell (by simp [Try.f202]) ?_
  generalize hQ : retQ R.slices_Index_Cell _ = Q
  simp (disch := first | assumption | omega) only [C.slices_Index_Cell, go_sem, ↓reduceIte, Nat.reduceEqDiff, reduceCtorEq, Nat.reduceAdd, Nat.reduceLeDiff, Nat.reduceLT, reduceIte, Int.reduceBEq, Int.reduceBNe, Int.reduceLT, Int.reduceLE, Int.reduceAdd, Int.reduceSub, Int.reduceMul, Int.reduceNeg, Int.reduceEq, Int.reduceNe, Nat.reduceMul, Nat.reduceSub]
  simp (disch := first | assumption | omega) only [cellA, go_sem, ↓reduceIte, Nat.reduceEqDiff, reduceCtorEq, Nat.reduceAdd, Nat.reduceLeDiff, Nat.reduceLT, reduceIte, Int.reduceBEq, Int.reduceBNe, Int.reduceLT, Int.reduceLE, Int.reduceAdd, Int.reduceSub, Int.reduceMul, Int.reduceNeg, Int.reduceEq, Int.reduceNe, Nat.reduceMul, Nat.reduceSub]
  refine aw_count (fun d S => ∃ i : Nat, i + d = l.length ∧ S.env 8 = .int .i64 i ∧ S.env 7 = .int .i64 l.length ∧ S.env 0 = .lst o (cellsA l) ∧ S.env 3 = .box 3 0 ∧ S.boxes 3 = some [.int .i64 c.X, .int .i64 c.Y] ∧ c ∉ l.take i ∧ S.heap = h) (n := l.length)
    ⟨0, by omega, by simp (disch := first | assumption | omega) only [go_sem, ↓reduceIte, Nat.reduceEqDiff, reduceCtorEq, Nat.reduceAdd, Nat.reduceLeDiff, Nat.reduceLT, reduceIte, Int.reduceBEq, Int.reduceBNe, Int.reduceLT, Int.reduceLE, Int.reduceAdd, Int.reduceSub, Int.reduceMul, Int.reduceNeg, Int.reduceEq, Int.reduceNe, Nat.reduceMul, Nat.reduceSub], by simp (disch := first | assumption | omega) only [go_sem, ↓reduceIte, Nat.reduceEqDiff, reduceCtorEq, Nat.reduceAdd, Nat.reduceLeDiff, Nat.reduceLT, reduceIte, Int.reduceBEq, Int.reduceBNe, Int.reduceLT, Int.reduceLE, Int.reduceAdd, Int.reduceSub, Int.reduceMul, Int.reduceNeg, Int.reduceEq, Int.reduceNe, Nat.reduceMul, Nat.reduceSub], by simp (disch := first | assumption | omega) only [go_sem, ↓reduceIte, Nat.reduceEqDiff, reduceCtorEq, Nat.reduceAdd, Nat.reduceLeDiff, Nat.reduceLT, reduceIte, Int.reduceBEq, Int.reduceBNe, Int.reduceLT, Int.reduceLE, Int.reduceAdd, Int.reduceSub, Int.reduceMul, Int.reduceNeg, Int.reduceEq, Int.reduceNe, Nat.reduceMul, Nat.reduceSub], by simp (disch := first | assumption | omega) only [go_sem, ↓reduceIte, Nat.reduceEqDiff, reduceCtorEq, Nat.reduceAdd, Nat.reduceLeDiff, Nat.reduceLT, reduceIte, Int.reduceBEq, Int.reduceBNe, Int.reduceLT, Int.reduceLE, Int.reduceAdd, Int.reduceSub, Int.reduceMul, Int.reduceNeg, Int.reduceEq, Int.reduceNe, Nat.reduceMul, Nat.reduceSub], by simp (disch := first | assumption | omega) only [go_sem, ↓reduceIte, Nat.reduceEqDiff, reduceCtorEq, Nat.reduceAdd, Nat.reduceLeDiff, Nat.reduceLT, reduceIte, Int.reduceBEq, Int.reduceBNe, Int.reduceLT, Int.reduceLE, Int.reduceAdd, Int.reduceSub, Int.reduceMul, Int.reduceNeg, Int.reduceEq, Int.reduceNe, Nat.reduceMul, Nat.reduceSub], by simp, by simp (disch := first | assumption | omega) only [go_sem, ↓reduceIte, Nat.reduceEqDiff, reduceCtorEq, Nat.reduceAdd, Nat.reduceLeDiff, Nat.reduceLT, reduceIte, Int.reduceBEq, Int.reduceBNe, Int.reduceLT, Int.reduceLE, Int.reduceAdd, Int.reduceSub, Int.reduceMul, Int.reduceNeg, Int.reduceEq, Int.reduceNe, Nat.reduceMul, Nat.reduceSub]⟩ ?_
  rintro d S ⟨i, hi, e8, e7, e0, e3, x3, hm, eh⟩
  simp (disch := first | assumption | omega) only [e8, e7, e0, e3, x3, eh, go_sem, ↓reduceIte, Nat.reduceEqDiff, reduceCtorEq, Nat.reduceAdd, Nat.reduceLeDiff, Nat.reduceLT, reduceIte, Int.reduceBEq, Int.reduceBNe, Int.reduceLT, Int.reduceLE, Int.reduceAdd, Int.reduceSub, Int.reduceMul, Int.reduceNeg, Int.reduceEq, Int.reduceNe, Nat.reduceMul, Nat.reduceSub]
  refine condG_if (fun hlt => ?_) fun hge => ?_
  · have hlt : i < l.length := by omega
    have hat := at_cells hlt
    have hst := take_snoc hlt
    by_cases he : c = l[i]
    · have hx : c.X = l[i].X := by rw [← he]
      have hy : c.Y = l[i].Y := by rw [← he]
      simp (disch := first | assumption | omega) only [e8, e7, e0, e3, x3, eh, hat, cellA, hlt, hx, hy, go_sem, ↓reduceIte, Nat.reduceEqDiff, reduceCtorEq, Nat.reduceAdd, Nat.reduceLeDiff, Nat.reduceLT, reduceIte, Int.reduceBEq, Int.reduceBNe, Int.reduceLT, Int.reduceLE, Int.reduceAdd, Int.reduceSub, Int.reduceMul, Int.reduceNeg, Int.reduceEq, Int.reduceNe, Nat.reduceMul, Nat.reduceSub]
      subst hQ
      simp (disch := first | assumption | omega) only [R.slices_Index_Cell, e8, e7, e0, e3, x3, eh, go_sem, ↓reduceIte, Nat.reduceEqDiff, reduceCtorEq, Nat.reduceAdd, Nat.reduceLeDiff, Nat.reduceLT, reduceIte, Int.reduceBEq, Int.reduceBNe, Int.reduceLT, Int.reduceLE, Int.reduceAdd, Int.reduceSub, Int.reduceMul, Int.reduceNeg, Int.reduceEq, Int.reduceNe, Nat.reduceMul, Nat.reduceSub]
      exact ⟨_, rfl, .inr ⟨by omega, by rw [he]; exact List.getElem_mem _⟩⟩
    · have hce : (decide (c.X = l[i].X) && decide (c.Y = l[i].Y)) = false := by
        rw [Bool.and_eq_false_iff, decide_eq_false_iff_not, decide_eq_false_iff_not]
        refine Classical.byContradiction fun hh => he ?_
        have h1 : c.X = l[i].X := Classical.byContradiction fun h => hh (.inl h)
        have h2 : c.Y = l[i].Y := Classical.byContradiction fun h => hh (.inr h)
        cases c; simp only at h1 h2; rw [h1, h2]
      simp (disch := first | assumption | omega) only [e8, e7, e0, e3, x3, eh, hat, cellA, hlt, hce, go_sem, ↓reduceIte, Nat.reduceEqDiff, reduceCtorEq, Nat.reduceAdd, Nat.reduceLeDiff, Nat.reduceLT, reduceIte, Int.reduceBEq, Int.reduceBNe, Int.reduceLT, Int.reduceLE, Int.reduceAdd, Int.reduceSub, Int.reduceMul, Int.reduceNeg, Int.reduceEq, Int.reduceNe, Nat.reduceMul, Nat.reduceSub]
      exact ⟨d - 1, by omega, i + 1, by omega, by simp, fun hc => by rw [hst] at hc; rcases List.mem_append.1 hc with hc | hc; exact hm hc; exact he (List.mem_singleton.1 hc)⟩
  · obtain rfl : i = l.length := by omega
    rw [List.take_length] at hm
    simp (disch := first | assumption | omega) only [e8, e7, e0, e3, x3, eh, go_sem, ↓reduceIte, Nat.reduceEqDiff, reduceCtorEq, Nat.reduceAdd, Nat.reduceLeDiff, Nat.reduceLT, reduceIte, Int.reduceBEq, Int.reduceBNe, Int.reduceLT, Int.reduceLE, Int.reduceAdd, Int.reduceSub, Int.reduceMul, Int.reduceNeg, Int.reduceEq, Int.reduceNe, Nat.reduceMul, Nat.reduceSub]
    subst hQ
    simp (disch := first | assumption | omega) only [R.slices_Index_Cell, e8, e7, e0, e3, x3, eh, go_sem, ↓reduceIte, Nat.reduceEqDiff, reduceCtorEq, Nat.reduceAdd, Nat.reduceLeDiff, Nat.reduceLT, reduceIte, Int.reduceBEq, Int.reduceBNe, Int.reduceLT, Int.reduceLE, Int.reduceAdd, Int.reduceSub, Int.reduceMul, Int.reduceNeg, Int.reduceEq, Int.reduceNe, Nat.reduceMul, Nat.reduceSub]
    exact ⟨_, rfl, .inl ⟨rfl, hm⟩⟩
theorem ContainsCell_ok (o : Own) (l : List Cell) (c : Cell) (ho : Rdo o) (hl : l.length < 4611686018427387904) (h : List HObj) :
    ACalls Try.prog F.slices_Contains_Cell [.lst o (cellsA l), cellA c] h (fun v h' => v = .bool (decide (c ∈ l)) ∧ h' = h) := by
  refine ACalls.of_aw Try.func179 K.slices_Contains_Cell (by simp [Try.f179]) ?_
  generalize hQ : retQ R.slices_Contains_Cell _ = Q
  simp (disch := first | assumption | omega) only [C.slices_Contains_Cell, go_sem, ↓reduceIte, Nat.reduceEqDiff, reduceCtorEq, Nat.reduceAdd, Nat.reduceLeDiff, Nat.reduceLT, reduceIte, Int.reduceBEq, Int.reduceBNe, Int.reduceLT, Int.reduceLE, Int.reduceAdd, Int.reduceSub, Int.reduceMul, Int.reduceNeg, Int.reduceEq, Int.reduceNe, Nat.reduceMul, Nat.reduceSub]
  simp (disch := first | assumption | omega) only [cellA, go_sem, ↓reduceIte, Nat.reduceEqDiff, reduceCtorEq, Nat.reduceAdd, Nat.reduceLeDiff, Nat.reduceLT, reduceIte, Int.reduceBEq, Int.reduceBNe, Int.reduceLT, Int.reduceLE, Int.reduceAdd, Int.reduceSub, Int.reduceMul, Int.reduceNeg, Int.reduceEq, Int.reduceNe, Nat.reduceMul, Nat.reduceSub]
  refine callG_ok (IndexCell_ok o l c ho hl _) (by simp (disch := first | assumption | omega) only [cellA, go_sem, ↓reduceIte, Nat.reduceEqDiff, reduceCtorEq, Nat.reduceAdd, Nat.reduceLeDiff, Nat.reduceLT, reduceIte, Int.reduceBEq, Int.reduceBNe, Int.reduceLT, Int.reduceLE, Int.reduceAdd, Int.reduceSub, Int.reduceMul, Int.reduceNeg, Int.reduceEq, Int.reduceNe, Nat.reduceMul, Nat.reduceSub]) ?_
  rintro _ _ ⟨⟨r, rfl, hr⟩, hhh⟩
  rw [hhh]
  clear hhh
  simp (disch := first | assumption | omega) only [go_sem, ↓reduceIte, Nat.reduceEqDiff, reduceCtorEq, Nat.reduceAdd, Nat.reduceLeDiff, Nat.reduceLT, reduceIte, Int.reduceBEq, Int.reduceBNe, Int.reduceLT, Int.reduceLE, Int.reduceAdd, Int.reduceSub, Int.reduceMul, Int.reduceNeg, Int.reduceEq, Int.reduceNe, Nat.reduceMul, Nat.reduceSub]
  subst hQ
  simp (disch := first | assumption | omega) only [R.slices_Contains_Cell, go_sem, ↓reduceIte, Nat.reduceEqDiff, reduceCtorEq, Nat.reduceAdd, Nat.reduceLeDiff, Nat.reduceLT, reduceIte, Int.reduceBEq, Int.reduceBNe, Int.reduceLT, Int.reduceLE, Int.reduceAdd, Int.reduceSub, Int.reduceMul, Int.reduceNeg, Int.reduceEq, Int.reduceNe, Nat.reduceMul, Nat.reduceSub]
  rcases hr with ⟨rfl, hr⟩ | ⟨h0, hr⟩
  · rw [decide_eq_false hr]; rfl
  · rw [decide_eq_true hr, decide_eq_true h0]
theorem drV_ref {s id off len cap : Nat} : drV s (.ref id off len cap) = .ref id off len cap := rfl
theorem IndexCellR_ok (l : List Cell) (c : Cell) (id cap : Nat) (rest : List AVal) (h : List HObj) (hid : h[id]? = some (.cells (flatC l ++ rest))) (hl : l.length < 4611686018427387904) :
    ACalls Try.prog F.slices_Index_Cell [.ref id 0 l.length cap, cellA c] h (fun v h' => (∃ r : Int, v = .int .i64 r ∧ (r = -1 ∧ c ∉ l ∨ 0 ≤ r ∧ c ∈ l)) ∧ h' = h) := by
  refine ACalls.of_aw Try.func202 K.slices_Index_Cell (by simp [Try.f202]) ?_
  generalize hQ : retQ R.slices_Index_Cell _ = Q
  simp (disch := first | assumption | omega) only [C.slices_Index_Cell, go_sem, ↓reduceIte, Nat.reduceEqDiff, reduceCtorEq, Nat.reduceAdd, Nat.reduceLeDiff, Nat.reduceLT, reduceIte, Int.reduceBEq, Int.reduceBNe, Int.reduceLT, Int.reduceLE, Int.reduceAdd, Int.reduceSub, Int.reduceMul, Int.reduceNeg, Int.reduceEq, Int.reduceNe, Nat.reduceMul, Nat.reduceSub]
  simp (disch := first | assumption | omega) only [cellA, drV_ref, go_sem, ↓reduceIte, Nat.reduceEqDiff, reduceCtorEq, Nat.reduceAdd, Nat.reduceLeDiff, Nat.reduceLT, reduceIte, Int.reduceBEq, Int.reduceBNe, Int.reduceLT, Int.reduceLE, Int.reduceAdd, Int.reduceSub, Int.reduceMul, Int.reduceNeg, Int.reduceEq, Int.reduceNe, Nat.reduceMul, Nat.reduceSub]
  refine aw_count (fun d S => ∃ i : Nat, i + d = l.length ∧ S.env 8 = .int .i64 i ∧ S.env 7 = .int .i64 l.length ∧ S.env 0 = .ref id 0 l.length cap ∧ S.env 3 = .box 3 0 ∧ S.boxes 3 = some [.int .i64 c.X, .int .i64 c.Y] ∧ c ∉ l.take i ∧ S.heap = h) (n := l.length)
    ⟨0, by omega, by simp (disch := first | assumption | omega) only [drV_ref, go_sem, ↓reduceIte, Nat.reduceEqDiff, reduceCtorEq, Nat.reduceAdd, Nat.reduceLeDiff, Nat.reduceLT, reduceIte, Int.reduceBEq, Int.reduceBNe, Int.reduceLT, Int.reduceLE, Int.reduceAdd, Int.reduceSub, Int.reduceMul, Int.reduceNeg, Int.reduceEq, Int.reduceNe, Nat.reduceMul, Nat.reduceSub], by simp (disch := first | assumption | omega) only [drV_ref, go_sem, ↓reduceIte, Nat.reduceEqDiff, reduceCtorEq, Nat.reduceAdd, Nat.reduceLeDiff, Nat.reduceLT, reduceIte, Int.reduceBEq, Int.reduceBNe, Int.reduceLT, Int.reduceLE, Int.reduceAdd, Int.reduceSub, Int.reduceMul, Int.reduceNeg, Int.reduceEq, Int.reduceNe, Nat.reduceMul, Nat.reduceSub], by simp (disch := first | assumption | omega) only [drV_ref, go_sem, ↓reduceIte, Nat.reduceEqDiff, reduceCtorEq, Nat.reduceAdd, Nat.reduceLeDiff, Nat.reduceLT, reduceIte, Int.reduceBEq, Int.reduceBNe, Int.reduceLT, Int.reduceLE, Int.reduceAdd, Int.reduceSub, Int.reduceMul, Int.reduceNeg, Int.reduceEq, Int.reduceNe, Nat.reduceMul, Nat.reduceSub], by simp (disch := first | assumption | omega) only [drV_ref, go_sem, ↓reduceIte, Nat.reduceEqDiff, reduceCtorEq, Nat.reduceAdd, Nat.reduceLeDiff, Nat.reduceLT, reduceIte, Int.reduceBEq, Int.reduceBNe, Int.reduceLT, Int.reduceLE, Int.reduceAdd, Int.reduceSub, Int.reduceMul, Int.reduceNeg, Int.reduceEq, Int.reduceNe, Nat.reduceMul, Nat.reduceSub], by simp (disch := first | assumption | omega) only [drV_ref, go_sem, ↓reduceIte, Nat.reduceEqDiff, reduceCtorEq, Nat.reduceAdd, Nat.reduceLeDiff, Nat.reduceLT, reduceIte, Int.reduceBEq, Int.reduceBNe, Int.reduceLT, Int.reduceLE, Int.reduceAdd, Int.reduceSub, Int.reduceMul, Int.reduceNeg, Int.reduceEq, Int.reduceNe, Nat.reduceMul, Nat.reduceSub], by simp, by simp (disch := first | assumption | omega) only [drV_ref, go_sem, ↓reduceIte, Nat.reduceEqDiff, reduceCtorEq, Nat.reduceAdd, Nat.reduceLeDiff, Nat.reduceLT, reduceIte, Int.reduceBEq, Int.reduceBNe, Int.reduceLT, Int.reduceLE, Int.reduceAdd, Int.reduceSub, Int.reduceMul, Int.reduceNeg, Int.reduceEq, Int.reduceNe, Nat.reduceMul, Nat.reduceSub]⟩ ?_
  rintro d S ⟨i, hi, e8, e7, e0, e3, x3, hm, eh⟩
  simp (disch := first | assumption | omega) only [e8, e7, e0, e3, x3, eh, go_sem, ↓reduceIte, Nat.reduceEqDiff, reduceCtorEq, Nat.reduceAdd, Nat.reduceLeDiff, Nat.reduceLT, reduceIte, Int.reduceBEq, Int.reduceBNe, Int.reduceLT, Int.reduceLE, Int.reduceAdd, Int.reduceSub, Int.reduceMul, Int.reduceNeg, Int.reduceEq, Int.reduceNe, Nat.reduceMul, Nat.reduceSub]
  refine condG_if (fun hlt => ?_) fun hge => ?_
  · have hlt : i < l.length := by omega
    have q1 := flatC_get (l := l) (j := i) (rest := rest) hlt
    have hst := take_snoc hlt
    by_cases he : c = l[i]
    · have hx : c.X = l[i].X := by rw [← he]
      have hy : c.Y = l[i].Y := by rw [← he]
      simp (disch := first | assumption | omega) only [e8, e7, e0, e3, x3, eh, q1, hlt, hx, hy, hid, go_sem, ↓reduceIte, Nat.reduceEqDiff, reduceCtorEq, Nat.reduceAdd, Nat.reduceLeDiff, Nat.reduceLT, reduceIte, Int.reduceBEq, Int.reduceBNe, Int.reduceLT, Int.reduceLE, Int.reduceAdd, Int.reduceSub, Int.reduceMul, Int.reduceNeg, Int.reduceEq, Int.reduceNe, Nat.reduceMul, Nat.reduceSub]
      refine ⟨by rw [flatC_length]; omega, ?_⟩
      subst hQ
      simp (disch := first | assumption | omega) only [R.slices_Index_Cell, e8, e7, e0, e3, x3, eh, go_sem, ↓reduceIte, Nat.reduceEqDiff, reduceCtorEq, Nat.reduceAdd, Nat.reduceLeDiff, Nat.reduceLT, reduceIte, Int.reduceBEq, Int.reduceBNe, Int.reduceLT, Int.reduceLE, Int.reduceAdd, Int.reduceSub, Int.reduceMul, Int.reduceNeg, Int.reduceEq, Int.reduceNe, Nat.reduceMul, Nat.reduceSub]
      exact ⟨_, rfl, .inr ⟨by omega, by rw [he]; exact List.getElem_mem _⟩⟩
    · have hce : (decide (c.X = l[i].X) && decide (c.Y = l[i].Y)) = false := by
        rw [Bool.and_eq_false_iff, decide_eq_false_iff_not, decide_eq_false_iff_not]
        refine Classical.byContradiction fun hh => he ?_
        have h1 : c.X = l[i].X := Classical.byContradiction fun h => hh (.inl h)
        have h2 : c.Y = l[i].Y := Classical.byContradiction fun h => hh (.inr h)
        cases c; simp only at h1 h2; rw [h1, h2]
      simp (disch := first | assumption | omega) only [e8, e7, e0, e3, x3, eh, q1, hlt, hce, hid, go_sem, ↓reduceIte, Nat.reduceEqDiff, reduceCtorEq, Nat.reduceAdd, Nat.reduceLeDiff, Nat.reduceLT, reduceIte, Int.reduceBEq, Int.reduceBNe, Int.reduceLT, Int.reduceLE, Int.reduceAdd, Int.reduceSub, Int.reduceMul, Int.reduceNeg, Int.reduceEq, Int.reduceNe, Nat.reduceMul, Nat.reduceSub]
      refine ⟨by rw [flatC_length]; omega, ?_⟩
      exact ⟨d - 1, by omega, i + 1, by omega, by simp, fun hc => by rw [hst] at hc; rcases List.mem_append.1 hc with hc | hc; exact hm hc; exact he (List.mem_singleton.1 hc)⟩
  · obtain rfl : i = l.length := by omega
    rw [List.take_length] at hm
    simp (disch := first | assumption | omega) only [e8, e7, e0, e3, x3, eh, go_sem, ↓reduceIte, Nat.reduceEqDiff, reduceCtorEq, Nat.reduceAdd, Nat.reduceLeDiff, Nat.reduceLT, reduceIte, Int.reduceBEq, Int.reduceBNe, Int.reduceLT, Int.reduceLE, Int.reduceAdd, Int.reduceSub, Int.reduceMul, Int.reduceNeg, Int.reduceEq, Int.reduceNe, Nat.reduceMul, Nat.reduceSub]
    subst hQ
    simp (disch := first | assumption | omega) only [R.slices_Index_Cell, e8, e7, e0, e3, x3, eh, go_sem, ↓reduceIte, Nat.reduceEqDiff, reduceCtorEq, Nat.reduceAdd, Nat.reduceLeDiff, Nat.reduceLT, reduceIte, Int.reduceBEq, Int.reduceBNe, Int.reduceLT, Int.reduceLE, Int.reduceAdd, Int.reduceSub, Int.reduceMul, Int.reduceNeg, Int.reduceEq, Int.reduceNe, Nat.reduceMul, Nat.reduceSub]
    exact ⟨_, rfl, .inl ⟨rfl, hm⟩⟩
theorem ContainsCellR_ok (l : List Cell) (c : Cell) (id cap : Nat) (rest : List AVal) (h : List HObj) (hid : h[id]? = some (.cells (flatC l ++ rest))) (hl : l.length < 4611686018427387904) :
    ACalls Try.prog F.slices_Contains_Cell [.ref id 0 l.length cap, cellA c] h (fun v h' => v = .bool (decide (c ∈ l)) ∧ h' = h) := by
  refine ACalls.of_aw Try.func179 K.slices_Contains_Cell (by simp [Try.f179]) ?_
  generalize hQ : retQ R.slices_Contains_Cell _ = Q
  simp (disch := first | assumption | omega) only [C.slices_Contains_Cell, go_sem, ↓reduceIte, Nat.reduceEqDiff, reduceCtorEq, Nat.reduceAdd, Nat.reduceLeDiff, Nat.reduceLT, reduceIte, Int.reduceBEq, Int.reduceBNe, Int.reduceLT, Int.reduceLE, Int.reduceAdd, Int.reduceSub, Int.reduceMul, Int.reduceNeg, Int.reduceEq, Int.reduceNe, Nat.reduceMul, Nat.reduceSub]
  simp (disch := first | assumption | omega) only [cellA, drV_ref, go_sem, ↓reduceIte, Nat.reduceEqDiff, reduceCtorEq, Nat.reduceAdd, Nat.reduceLeDiff, Nat.reduceLT, reduceIte, Int.reduceBEq, Int.reduceBNe, Int.reduceLT, Int.reduceLE, Int.reduceAdd, Int.reduceSub, Int.reduceMul, Int.reduceNeg, Int.reduceEq, Int.reduceNe, Nat.reduceMul, Nat.reduceSub]
  refine callG_ok (IndexCellR_ok l c id cap rest h hid hl) (by simp (disch := first | assumption | omega) only [cellA, go_sem, ↓reduceIte, Nat.reduceEqDiff, reduceCtorEq, Nat.reduceAdd, Nat.reduceLeDiff, Nat.reduceLT, reduceIte, Int.reduceBEq, Int.reduceBNe, Int.reduceLT, Int.reduceLE, Int.reduceAdd, Int.reduceSub, Int.reduceMul, Int.reduceNeg, Int.reduceEq, Int.reduceNe, Nat.reduceMul, Nat.reduceSub]) ?_
  rintro _ _ ⟨⟨r, rfl, hr⟩, hhh⟩
  rw [hhh]
  clear hhh
  simp (disch := first | assumption | omega) only [go_sem, ↓reduceIte, Nat.reduceEqDiff, reduceCtorEq, Nat.reduceAdd, Nat.reduceLeDiff, Nat.reduceLT, reduceIte, Int.reduceBEq, Int.reduceBNe, Int.reduceLT, Int.reduceLE, Int.reduceAdd, Int.reduceSub, Int.reduceMul, Int.reduceNeg, Int.reduceEq, Int.reduceNe, Nat.reduceMul, Nat.reduceSub]
  subst hQ
  simp (disch := first | assumption | omega) only [R.slices_Contains_Cell, go_sem, ↓reduceIte, Nat.reduceEqDiff, reduceCtorEq, Nat.reduceAdd, Nat.reduceLeDiff, Nat.reduceLT, reduceIte, Int.reduceBEq, Int.reduceBNe, Int.reduceLT, Int.reduceLE, Int.reduceAdd, Int.reduceSub, Int.reduceMul, Int.reduceNeg, Int.reduceEq, Int.reduceNe, Nat.reduceMul, Nat.reduceSub]
  rcases hr with ⟨rfl, hr⟩ | ⟨h0, hr⟩
  · rw [decide_eq_false hr]; rfl
  · rw [decide_eq_true hr, decide_eq_true h0]
end Go.Proofs.Ytpdajkbfemcdlaa
/- Contracts: streams; cells that are made. -/
set_option linter.unusedSimpArgs false
set_option linter.unusedVariables false
set_option maxRecDepth 10000
namespace Go.Proofs.Ytpdajkbfemcdlaa
open Go.Ge
theorem Next_ok (id : Nat) (o : Own) (l : List Int) (n : Int) (ho : Rdo o) (hl : ∀ c ∈ l, inI64 c) (hn : inI64 n) (h : List HObj) (hid : h[id]? = some (.cells [.lst o (ints .i64 l)])) :
    ACalls Try.prog F.gantmake_Stream_Next [.hp id 0, .int .i64 n] h (fun v h' => ∃ (x : Int) (o' : Own) (l' : List Int), v = .int .i64 x ∧ 0 ≤ x ∧ (1 ≤ n → x < n) ∧ Rdo o' ∧ (∀ c ∈ l', inI64 c) ∧ h' = h.set id (.cells [.lst o' (ints .i64 l')])) := by
  have hidl : id < h.length := (List.getElem?_eq_some_iff.1 hid).1
  unfold inI64 at hn
  refine ACalls.of_aw Try.func161 K.gantmake_Stream_Next (by simp [Try.f161]) ?_
  generalize hQ : retQ R.gantmake_Stream_Next _ = Q
  simp (disch := first | assumption | omega) only [C.gantmake_Stream_Next, go_sem, ↓reduceIte, Nat.reduceEqDiff, reduceCtorEq, Nat.reduceAdd, Nat.reduceLeDiff, Nat.reduceLT, reduceIte, Int.reduceBEq, Int.reduceBNe, Int.reduceLT, Int.reduceLE, Int.reduceAdd, Int.reduceSub, Int.reduceMul, Int.reduceNeg, Int.reduceEq, Int.reduceNe, Nat.reduceMul, Nat.reduceSub]
  by_cases h0 : l.length = 0
  · have h0' : ((l.length : Nat) : Int) = 0 := by omega
    simp (disch := first | assumption | omega) only [hid, eq_true h0', go_sem, ↓reduceIte, Nat.reduceEqDiff, reduceCtorEq, Nat.reduceAdd, Nat.reduceLeDiff, Nat.reduceLT, reduceIte, Int.reduceBEq, Int.reduceBNe, Int.reduceLT, Int.reduceLE, Int.reduceAdd, Int.reduceSub, Int.reduceMul, Int.reduceNeg, Int.reduceEq, Int.reduceNe, Nat.reduceMul, Nat.reduceSub]
    subst hQ
    simp (disch := first | assumption | omega) only [R.gantmake_Stream_Next, go_sem, ↓reduceIte, Nat.reduceEqDiff, reduceCtorEq, Nat.reduceAdd, Nat.reduceLeDiff, Nat.reduceLT, reduceIte, Int.reduceBEq, Int.reduceBNe, Int.reduceLT, Int.reduceLE, Int.reduceAdd, Int.reduceSub, Int.reduceMul, Int.reduceNeg, Int.reduceEq, Int.reduceNe, Nat.reduceMul, Nat.reduceSub]
    exact ⟨0, o, l, rfl, by omega, fun h => by omega, ho, hl, (set_same hid).symm⟩
  have h0' : ¬ ((l.length : Nat) : Int) = 0 := by omega
  by_cases h1 : n < 1
  · simp (disch := first | assumption | omega) only [hid, h0', h1, go_sem, ↓reduceIte, Nat.reduceEqDiff, reduceCtorEq, Nat.reduceAdd, Nat.reduceLeDiff, Nat.reduceLT, reduceIte, Int.reduceBEq, Int.reduceBNe, Int.reduceLT, Int.reduceLE, Int.reduceAdd, Int.reduceSub, Int.reduceMul, Int.reduceNeg, Int.reduceEq, Int.reduceNe, Nat.reduceMul, Nat.reduceSub]
    subst hQ
    simp (disch := first | assumption | omega) only [R.gantmake_Stream_Next, go_sem, ↓reduceIte, Nat.reduceEqDiff, reduceCtorEq, Nat.reduceAdd, Nat.reduceLeDiff, Nat.reduceLT, reduceIte, Int.reduceBEq, Int.reduceBNe, Int.reduceLT, Int.reduceLE, Int.reduceAdd, Int.reduceSub, Int.reduceMul, Int.reduceNeg, Int.reduceEq, Int.reduceNe, Nat.reduceMul, Nat.reduceSub]
    exact ⟨0, o, l, rfl, by omega, fun h => by omega, ho, hl, (set_same hid).symm⟩
  have c0 : at_ (ints .i64 l) 0 = .int .i64 (l.getD 0 0) := at_ints' l 0 (by omega)
  have hx : inI64 (l.getD 0 0) := by rw [getD_get (by omega)]; exact hl _ (List.getElem_mem _)
  have l0 : (0 : Int) < l.length := by omega
  have l1 : (1 : Int) ≤ l.length := by omega
  have hs : List.take (l.length - Int.toNat 1) (List.drop (Int.toNat 1) (ints .i64 l)) = ints .i64 (l.drop 1) := by
    have := take_all (ints .i64 l) (Int.toNat 1)
    rw [← ints_drop]; rwa [ints_length] at this
  have hset : ∀ x, (h.set id x)[id]? = some x := fun x => List.getElem?_set_self hidl
  rcases ho with rfl | rfl
  all_goals
    simp (disch := first | assumption | omega) only [hid, h0', h1, c0, l0, l1, hs, hset, List.set_set, go_sem, ↓reduceIte, Nat.reduceEqDiff, reduceCtorEq, Nat.reduceAdd, Nat.reduceLeDiff, Nat.reduceLT, reduceIte, Int.reduceBEq, Int.reduceBNe, Int.reduceLT, Int.reduceLE, Int.reduceAdd, Int.reduceSub, Int.reduceMul, Int.reduceNeg, Int.reduceEq, Int.reduceNe, Nat.reduceMul, Nat.reduceSub]
    refine ⟨⟨Nat.le_refl _, ints_width l⟩, ?_⟩
    refine callG_ok (Below_ok (l.getD 0 0) n hx (by omega) (by omega) _) (by simp (disch := first | assumption | omega) only [go_sem, ↓reduceIte, Nat.reduceEqDiff, reduceCtorEq, Nat.reduceAdd, Nat.reduceLeDiff, Nat.reduceLT, reduceIte, Int.reduceBEq, Int.reduceBNe, Int.reduceLT, Int.reduceLE, Int.reduceAdd, Int.reduceSub, Int.reduceMul, Int.reduceNeg, Int.reduceEq, Int.reduceNe, Nat.reduceMul, Nat.reduceSub]) ?_
    rintro _ _ ⟨rfl, hhh⟩
    rw [hhh]
    clear hhh
    have m1 := Int.emod_nonneg (l.getD 0 0) (b := n) (by omega)
    have m2 := Int.emod_lt_of_pos (l.getD 0 0) (b := n) (by omega)
    simp (disch := first | assumption | omega) only [go_sem, ↓reduceIte, Nat.reduceEqDiff, reduceCtorEq, Nat.reduceAdd, Nat.reduceLeDiff, Nat.reduceLT, reduceIte, Int.reduceBEq, Int.reduceBNe, Int.reduceLT, Int.reduceLE, Int.reduceAdd, Int.reduceSub, Int.reduceMul, Int.reduceNeg, Int.reduceEq, Int.reduceNe, Nat.reduceMul, Nat.reduceSub]
    subst hQ
    simp (disch := first | assumption | omega) only [R.gantmake_Stream_Next, go_sem, ↓reduceIte, Nat.reduceEqDiff, reduceCtorEq, Nat.reduceAdd, Nat.reduceLeDiff, Nat.reduceLT, reduceIte, Int.reduceBEq, Int.reduceBNe, Int.reduceLT, Int.reduceLE, Int.reduceAdd, Int.reduceSub, Int.reduceMul, Int.reduceNeg, Int.reduceEq, Int.reduceNe, Nat.reduceMul, Nat.reduceSub]
    exact ⟨_, _, l.drop 1, rfl, m1, fun _ => m2, .inl rfl, fun c hc => hl c (List.mem_of_mem_drop hc), rfl⟩
theorem cellsA_width (l : List Cell) : ∀ x ∈ cellsA l, x.width = 2 := by
  intro x hx; obtain ⟨c, _, rfl⟩ := List.mem_map.1 hx; rfl
theorem thaw_cells {C : CallS} {Q : AExit → AState → Prop} {S : AState} {a : ACode} {s cap : Nat} {cs : List Cell} (he : S.env s = .lst (.uniq 2 cap) (cellsA cs)) (hn : cs.length ≤ cap)
    (hK : aw C a Q (({ S with heap := S.heap ++ [.cells (flatC cs ++ List.replicate ((cap - cs.length) * 2) .junk)] } : AState).set s (.ref S.heap.length 0 cs.length cap))) : aw C (.thaw s a) Q S := by
  rw [aw_thaw, he]
  have e : (cellsA cs).length = cs.length := by simp [cellsA]
  simp only [e, flatC_cells]
  refine ⟨by omega, fun x hx => ⟨cellsA_width cs x hx, ?_⟩, hn, hK⟩
  obtain ⟨c, _, rfl⟩ := List.mem_map.1 hx; rfl
theorem thaw_nil {C : CallS} {Q : AExit → AState → Prop} {S : AState} {a : ACode} {s : Nat} {xs : List AVal} (he : S.env s = .lst .nil xs) (hK : aw C a Q S) : aw C (.thaw s a) Q S := by
  rw [aw_thaw, he]; exact hK
theorem own_cells {C : CallS} {Q : AExit → AState → Prop} {S : AState} {a : ACode} {s id cap : Nat} {cs : List Cell} {rest : List AVal} (he : S.env s = .ref id 0 cs.length cap) (hh : S.heap[id]? = some (.cells (flatC cs ++ rest))) (hc : cs.length ≤ cap) (h0 : cap ≠ 0) (hr : rest.length = (cap - cs.length) * 2)
    (hK : aw C a Q (({ S with heap := S.heap.set id .dead } : AState).set s (.lst (.uniq 2 cap) (cellsA cs)))) : aw C (.own s true 2 a) Q S := by
  have e : (cellsA cs).length = cs.length := by simp [cellsA]
  refine own_flat (id := id) (cap := cap) (xs := cellsA cs) (rest := rest) (by rw [e]; exact he) (by rw [flatC_cells]; exact hh) (by rw [e]; exact hc) (by rw [e]; exact hr) (by omega) (cellsA_width cs) (fun _ x hx => ?_) (fun h => by cases h) (fun h => by cases h) (fun x hx c hc => ?_) ?_
  · obtain ⟨c, _, rfl⟩ := List.mem_map.1 hx; exact ⟨_, rfl⟩
  · obtain ⟨y, _, rfl⟩ := List.mem_map.1 hx
    simp only [cellA, AVal.cells, List.mem_cons, List.not_mem_nil, or_false] at hc
    rcases hc with rfl | rfl <;> exact ⟨rfl, rfl⟩
  · rintro hp (⟨_, h⟩ | ⟨rfl, _⟩)
    · exact absurd h h0
    · exact hK
theorem rdcInt {k : IntKind} {n : Int} : Ge.rdc (.int k n) = .int k n := rfl
theorem flatC_rdc (cs : List Cell) : (flatC cs).map Ge.rdc = flatC cs := by
  induction cs with
  | nil => rfl
  | cons c l ih =>
    have e : flatC (c :: l) = [.int .i64 c.X, .int .i64 c.Y] ++ flatC l := rfl
    rw [e, List.map_append, ih]; rfl
theorem flatC_take {cs : List Cell} {rest : List AVal} : (flatC cs ++ rest).take (cs.length * 2) = flatC cs := by
  rw [← flatC_length, List.take_left]
theorem flatC_push {cs : List Cell} {cap : Nat} {c : Cell} (h : cs.length < cap) : fillV (flatC cs ++ List.replicate ((cap - cs.length) * 2) .junk) (cs.length * 2) [.int .i64 c.X, .int .i64 c.Y] = flatC (cs ++ [c]) ++ List.replicate ((cap - (cs.length + 1)) * 2) .junk := by
  unfold fillV
  rw [flatC_take, flatC_append]
  have e : (flatC cs ++ List.replicate ((cap - cs.length) * 2) AVal.junk).drop (cs.length * 2 + [AVal.int .i64 c.X, AVal.int .i64 c.Y].length) = List.replicate ((cap - (cs.length + 1)) * 2) .junk := by
    rw [← List.drop_drop, ← flatC_length, List.drop_left, List.drop_replicate]; congr 1; simp; omega
  rw [e]; rfl
theorem hb1 (cs : List Cell) (h : ∀ c ∈ cs, -4 ≤ c.X ∧ c.X ≤ 3 ∧ -4 ≤ c.Y ∧ c.Y ≤ 3) {x y : Int} (u : Unit) (x0 : 0 ≤ x) (x8 : x < 8) (y0 : 0 ≤ y) (y8 : y < 8) : ∀ c ∈ cs ++ [⟨x - 4, y - 4⟩], -4 ≤ c.X ∧ c.X ≤ 3 ∧ -4 ≤ c.Y ∧ c.Y ≤ 3 := by
  intro c hc
  rcases List.mem_append.1 hc with hc | hc
  · exact h c hc
  · have := List.mem_singleton.1 hc
    subst this
    exact ⟨by show -4 ≤ x - 4; omega, by show x - 4 ≤ 3; omega, by show -4 ≤ y - 4; omega, by show y - 4 ≤ 3; omega⟩
theorem cells_ids (l : List Cell) : idsL (cellsA l) = 0 := by
  induction l with
  | nil => rfl
  | cons c l ih =>
    have e : cellsA (c :: l) = cellA c :: cellsA l := rfl
    rw [e]; simp [idsL, ih, cellA, AVal.ids]
/-- Cells that are held alone, or none. -/
def Held (v : AVal) (cs : List Cell) : Prop := v = .lst .nil [] ∧ cs = [] ∨ ∃ cap, v = .lst (.uniq 2 cap) (cellsA cs) ∧ cs.length ≤ cap ∧ 0 < cap
theorem MadeCells_ok (o : Own) (l : List Int) (ho : Rdo o) (hl : ∀ c ∈ l, inI64 c) (h : List HObj) :
    ACalls Try.prog F.gantmake_Cells [.lst o (ints .i64 l)] h (fun v h' => (∃ cs : List Cell, cs.length ≤ 8 ∧ (∀ c ∈ cs, -4 ≤ c.X ∧ c.X ≤ 3 ∧ -4 ≤ c.Y ∧ c.Y ≤ 3) ∧ (v = .lst .nil [] ∧ cs = [] ∨ v = .lst (.app 2) (cellsA cs))) ∧ h' = h) := by
  refine ACalls.gcn (ACalls.of_aw Try.func111 K.gantmake_Cells (by simp [Try.f111]) ?_)
  generalize hQ : retQ R.gantmake_Cells _ = Q
  simp (disch := first | assumption | omega) only [C.gantmake_Cells, go_sem, ↓reduceIte, Nat.reduceEqDiff, reduceCtorEq, Nat.reduceAdd, Nat.reduceLeDiff, Nat.reduceLT, reduceIte, Int.reduceBEq, Int.reduceBNe, Int.reduceLT, Int.reduceLE, Int.reduceAdd, Int.reduceSub, Int.reduceMul, Int.reduceNeg, Int.reduceEq, Int.reduceNe, Nat.reduceMul, Nat.reduceSub]
  refine callG_ok (Next_ok h.length o l 9 ho hl (by simp [inI64]) _ (by simp (disch := first | assumption | omega) only [go_sem, ↓reduceIte, Nat.reduceEqDiff, reduceCtorEq, Nat.reduceAdd, Nat.reduceLeDiff, Nat.reduceLT, reduceIte, Int.reduceBEq, Int.reduceBNe, Int.reduceLT, Int.reduceLE, Int.reduceAdd, Int.reduceSub, Int.reduceMul, Int.reduceNeg, Int.reduceEq, Int.reduceNe, Nat.reduceMul, Nat.reduceSub])) (by simp (disch := first | assumption | omega) only [go_sem, ↓reduceIte, Nat.reduceEqDiff, reduceCtorEq, Nat.reduceAdd, Nat.reduceLeDiff, Nat.reduceLT, reduceIte, Int.reduceBEq, Int.reduceBNe, Int.reduceLT, Int.reduceLE, Int.reduceAdd, Int.reduceSub, Int.reduceMul, Int.reduceNeg, Int.reduceEq, Int.reduceNe, Nat.reduceMul, Nat.reduceSub]) ?_
  rintro _ _ ⟨n, o1, l1, rfl, n0, n9, ho1, hl1, rfl⟩
  have n9 := n9 (by omega)
  obtain ⟨m, rfl⟩ := Int.eq_ofNat_of_zero_le n0
  simp (disch := first | assumption | omega) only [go_sem, ↓reduceIte, Nat.reduceEqDiff, reduceCtorEq, Nat.reduceAdd, Nat.reduceLeDiff, Nat.reduceLT, reduceIte, Int.reduceBEq, Int.reduceBNe, Int.reduceLT, Int.reduceLE, Int.reduceAdd, Int.reduceSub, Int.reduceMul, Int.reduceNeg, Int.reduceEq, Int.reduceNe, Nat.reduceMul, Nat.reduceSub]
  refine aw_count (fun d S => ∃ (k : Nat) (o' : Own) (l' : List Int) (cs : List Cell) (ext : List HObj), k + d = m ∧ S.env 11 = .int .i64 k ∧ S.env 10 = .int .i64 m ∧ S.env 3 = .hp h.length 0 ∧ Held (S.env 4) cs ∧ cs.length ≤ k ∧ (∀ c ∈ cs, -4 ≤ c.X ∧ c.X ≤ 3 ∧ -4 ≤ c.Y ∧ c.Y ≤ 3) ∧ Rdo o' ∧ (∀ c ∈ l', inI64 c) ∧ S.heap = h ++ .cells [.lst o' (ints .i64 l')] :: ext) (n := m)
    ⟨0, o1, l1, [], [], by omega, by simp (disch := first | assumption | omega) only [go_sem, ↓reduceIte, Nat.reduceEqDiff, reduceCtorEq, Nat.reduceAdd, Nat.reduceLeDiff, Nat.reduceLT, reduceIte, Int.reduceBEq, Int.reduceBNe, Int.reduceLT, Int.reduceLE, Int.reduceAdd, Int.reduceSub, Int.reduceMul, Int.reduceNeg, Int.reduceEq, Int.reduceNe, Nat.reduceMul, Nat.reduceSub], by simp (disch := first | assumption | omega) only [go_sem, ↓reduceIte, Nat.reduceEqDiff, reduceCtorEq, Nat.reduceAdd, Nat.reduceLeDiff, Nat.reduceLT, reduceIte, Int.reduceBEq, Int.reduceBNe, Int.reduceLT, Int.reduceLE, Int.reduceAdd, Int.reduceSub, Int.reduceMul, Int.reduceNeg, Int.reduceEq, Int.reduceNe, Nat.reduceMul, Nat.reduceSub], by simp (disch := first | assumption | omega) only [go_sem, ↓reduceIte, Nat.reduceEqDiff, reduceCtorEq, Nat.reduceAdd, Nat.reduceLeDiff, Nat.reduceLT, reduceIte, Int.reduceBEq, Int.reduceBNe, Int.reduceLT, Int.reduceLE, Int.reduceAdd, Int.reduceSub, Int.reduceMul, Int.reduceNeg, Int.reduceEq, Int.reduceNe, Nat.reduceMul, Nat.reduceSub], .inl ⟨by simp (disch := first | assumption | omega) only [go_sem, ↓reduceIte, Nat.reduceEqDiff, reduceCtorEq, Nat.reduceAdd, Nat.reduceLeDiff, Nat.reduceLT, reduceIte, Int.reduceBEq, Int.reduceBNe, Int.reduceLT, Int.reduceLE, Int.reduceAdd, Int.reduceSub, Int.reduceMul, Int.reduceNeg, Int.reduceEq, Int.reduceNe, Nat.reduceMul, Nat.reduceSub], rfl⟩, by simp, by simp, ho1, hl1, by simp (disch := first | assumption | omega) only [go_sem, ↓reduceIte, Nat.reduceEqDiff, reduceCtorEq, Nat.reduceAdd, Nat.reduceLeDiff, Nat.reduceLT, reduceIte, Int.reduceBEq, Int.reduceBNe, Int.reduceLT, Int.reduceLE, Int.reduceAdd, Int.reduceSub, Int.reduceMul, Int.reduceNeg, Int.reduceEq, Int.reduceNe, Nat.reduceMul, Nat.reduceSub]⟩ ?_
  rintro d S ⟨k, o', l', cs, ext, hk, e11, e10, e3, e4, hcs, hcb, ho', hl', eh⟩
  simp (disch := first | assumption | omega) only [e11, e10, e3, eh, go_sem, ↓reduceIte, Nat.reduceEqDiff, reduceCtorEq, Nat.reduceAdd, Nat.reduceLeDiff, Nat.reduceLT, reduceIte, Int.reduceBEq, Int.reduceBNe, Int.reduceLT, Int.reduceLE, Int.reduceAdd, Int.reduceSub, Int.reduceMul, Int.reduceNeg, Int.reduceEq, Int.reduceNe, Nat.reduceMul, Nat.reduceSub]
  refine condG_if (fun hlt => ?_) fun hge => ?_
  · simp (disch := first | assumption | omega) only [e11, e10, e3, eh, go_sem, ↓reduceIte, Nat.reduceEqDiff, reduceCtorEq, Nat.reduceAdd, Nat.reduceLeDiff, Nat.reduceLT, reduceIte, Int.reduceBEq, Int.reduceBNe, Int.reduceLT, Int.reduceLE, Int.reduceAdd, Int.reduceSub, Int.reduceMul, Int.reduceNeg, Int.reduceEq, Int.reduceNe, Nat.reduceMul, Nat.reduceSub]
    refine callG_ok (Next_ok h.length o' l' 8 ho' hl' (by simp [inI64]) _ (by simp (disch := first | assumption | omega) only [e11, e10, e3, eh, go_sem, ↓reduceIte, Nat.reduceEqDiff, reduceCtorEq, Nat.reduceAdd, Nat.reduceLeDiff, Nat.reduceLT, reduceIte, Int.reduceBEq, Int.reduceBNe, Int.reduceLT, Int.reduceLE, Int.reduceAdd, Int.reduceSub, Int.reduceMul, Int.reduceNeg, Int.reduceEq, Int.reduceNe, Nat.reduceMul, Nat.reduceSub])) (by simp (disch := first | assumption | omega) only [go_sem, ↓reduceIte, Nat.reduceEqDiff, reduceCtorEq, Nat.reduceAdd, Nat.reduceLeDiff, Nat.reduceLT, reduceIte, Int.reduceBEq, Int.reduceBNe, Int.reduceLT, Int.reduceLE, Int.reduceAdd, Int.reduceSub, Int.reduceMul, Int.reduceNeg, Int.reduceEq, Int.reduceNe, Nat.reduceMul, Nat.reduceSub]) ?_
    rintro _ _ ⟨x, o2, l2, rfl, x0, x8, ho2, hl2, rfl⟩
    have x8 := x8 (by omega)
    simp (disch := first | assumption | omega) only [e11, e10, e3, eh, go_sem, ↓reduceIte, Nat.reduceEqDiff, reduceCtorEq, Nat.reduceAdd, Nat.reduceLeDiff, Nat.reduceLT, reduceIte, Int.reduceBEq, Int.reduceBNe, Int.reduceLT, Int.reduceLE, Int.reduceAdd, Int.reduceSub, Int.reduceMul, Int.reduceNeg, Int.reduceEq, Int.reduceNe, Nat.reduceMul, Nat.reduceSub]
    refine callG_ok (Next_ok h.length o2 l2 8 ho2 hl2 (by simp [inI64]) _ (by simp (disch := first | assumption | omega) only [e11, e10, e3, eh, go_sem, ↓reduceIte, Nat.reduceEqDiff, reduceCtorEq, Nat.reduceAdd, Nat.reduceLeDiff, Nat.reduceLT, reduceIte, Int.reduceBEq, Int.reduceBNe, Int.reduceLT, Int.reduceLE, Int.reduceAdd, Int.reduceSub, Int.reduceMul, Int.reduceNeg, Int.reduceEq, Int.reduceNe, Nat.reduceMul, Nat.reduceSub])) (by simp (disch := first | assumption | omega) only [go_sem, ↓reduceIte, Nat.reduceEqDiff, reduceCtorEq, Nat.reduceAdd, Nat.reduceLeDiff, Nat.reduceLT, reduceIte, Int.reduceBEq, Int.reduceBNe, Int.reduceLT, Int.reduceLE, Int.reduceAdd, Int.reduceSub, Int.reduceMul, Int.reduceNeg, Int.reduceEq, Int.reduceNe, Nat.reduceMul, Nat.reduceSub]) ?_
    rintro _ _ ⟨y, o3, l3, rfl, y0, y8, ho3, hl3, rfl⟩
    have y8 := y8 (by omega)
    simp (disch := first | assumption | omega) only [e11, e10, e3, eh, go_sem, ↓reduceIte, Nat.reduceEqDiff, reduceCtorEq, Nat.reduceAdd, Nat.reduceLeDiff, Nat.reduceLT, reduceIte, Int.reduceBEq, Int.reduceBNe, Int.reduceLT, Int.reduceLE, Int.reduceAdd, Int.reduceSub, Int.reduceMul, Int.reduceNeg, Int.reduceEq, Int.reduceNe, Nat.reduceMul, Nat.reduceSub]
    rcases e4 with ⟨e4, rfl⟩ | ⟨cap, e4, hcap, h0⟩
    · refine thaw_nil (xs := []) (by simp (disch := first | assumption | omega) only [e4, go_sem, ↓reduceIte, Nat.reduceEqDiff, reduceCtorEq, Nat.reduceAdd, Nat.reduceLeDiff, Nat.reduceLT, reduceIte, Int.reduceBEq, Int.reduceBNe, Int.reduceLT, Int.reduceLE, Int.reduceAdd, Int.reduceSub, Int.reduceMul, Int.reduceNeg, Int.reduceEq, Int.reduceNe, Nat.reduceMul, Nat.reduceSub]) ?_
      simp (disch := first | assumption | omega) only [e11, e10, e3, eh, e4, go_sem, ↓reduceIte, Nat.reduceEqDiff, reduceCtorEq, Nat.reduceAdd, Nat.reduceLeDiff, Nat.reduceLT, reduceIte, Int.reduceBEq, Int.reduceBNe, Int.reduceLT, Int.reduceLE, Int.reduceAdd, Int.reduceSub, Int.reduceMul, Int.reduceNeg, Int.reduceEq, Int.reduceNe, Nat.reduceMul, Nat.reduceSub]
      refine callG_ok (ContainsCell_ok .nil [] ⟨x - 4, y - 4⟩ (.inr rfl) (by simp) _) (by simp (disch := first | assumption | omega) only [go_sem, ↓reduceIte, Nat.reduceEqDiff, reduceCtorEq, Nat.reduceAdd, Nat.reduceLeDiff, Nat.reduceLT, reduceIte, Int.reduceBEq, Int.reduceBNe, Int.reduceLT, Int.reduceLE, Int.reduceAdd, Int.reduceSub, Int.reduceMul, Int.reduceNeg, Int.reduceEq, Int.reduceNe, Nat.reduceMul, Nat.reduceSub]) ?_
      rintro _ _ ⟨rfl, hhh⟩
      rw [hhh]
      clear hhh
      rw [show decide ((⟨x - 4, y - 4⟩ : Cell) ∈ ([] : List Cell)) = false from by simp]
      simp (disch := first | assumption | omega) only [e11, e10, e3, eh, e4, aops_hop, hstep, srcH, srcW, growV, List.flatMap_cons, List.flatMap_nil, AVal.cells, rdcInt, go_sem, ↓reduceIte, Nat.reduceEqDiff, reduceCtorEq, Nat.reduceAdd, Nat.reduceLeDiff, Nat.reduceLT, reduceIte, Int.reduceBEq, Int.reduceBNe, Int.reduceLT, Int.reduceLE, Int.reduceAdd, Int.reduceSub, Int.reduceMul, Int.reduceNeg, Int.reduceEq, Int.reduceNe, Nat.reduceMul, Nat.reduceSub]
      refine fun _ cap hc => ?_
      refine own_cells (cs := [⟨x - 4, y - 4⟩]) (cap := cap) (rest := List.replicate ((cap - 1) * 2) .junk) (id := h.length + (ext.length + 1)) (by simp (disch := first | assumption | omega) only [go_sem, ↓reduceIte, Nat.reduceEqDiff, reduceCtorEq, Nat.reduceAdd, Nat.reduceLeDiff, Nat.reduceLT, reduceIte, Int.reduceBEq, Int.reduceBNe, Int.reduceLT, Int.reduceLE, Int.reduceAdd, Int.reduceSub, Int.reduceMul, Int.reduceNeg, Int.reduceEq, Int.reduceNe, Nat.reduceMul, Nat.reduceSub]) (by simp (disch := first | assumption | omega) only [go_sem, ↓reduceIte, Nat.reduceEqDiff, reduceCtorEq, Nat.reduceAdd, Nat.reduceLeDiff, Nat.reduceLT, reduceIte, Int.reduceBEq, Int.reduceBNe, Int.reduceLT, Int.reduceLE, Int.reduceAdd, Int.reduceSub, Int.reduceMul, Int.reduceNeg, Int.reduceEq, Int.reduceNe, Nat.reduceMul, Nat.reduceSub]; rfl) (by simp; omega) (by omega) (by simp) ?_
      simp (disch := first | assumption | omega) only [e11, e10, e3, eh, go_sem, ↓reduceIte, Nat.reduceEqDiff, reduceCtorEq, Nat.reduceAdd, Nat.reduceLeDiff, Nat.reduceLT, reduceIte, Int.reduceBEq, Int.reduceBNe, Int.reduceLT, Int.reduceLE, Int.reduceAdd, Int.reduceSub, Int.reduceMul, Int.reduceNeg, Int.reduceEq, Int.reduceNe, Nat.reduceMul, Nat.reduceSub]
      refine ⟨d - 1, by omega, k + 1, o3, l3, [⟨x - 4, y - 4⟩], ext ++ [.dead], by omega, by simp, .inr ⟨cap, rfl, by simp; omega, by omega⟩, by simp, hb1 [] (by simp) () x0 x8 y0 y8, ho3, hl3, rfl⟩
    · refine thaw_cells (cs := cs) (cap := cap) (by simp (disch := first | assumption | omega) only [e4, go_sem, ↓reduceIte, Nat.reduceEqDiff, reduceCtorEq, Nat.reduceAdd, Nat.reduceLeDiff, Nat.reduceLT, reduceIte, Int.reduceBEq, Int.reduceBNe, Int.reduceLT, Int.reduceLE, Int.reduceAdd, Int.reduceSub, Int.reduceMul, Int.reduceNeg, Int.reduceEq, Int.reduceNe, Nat.reduceMul, Nat.reduceSub]) hcap ?_
      simp (disch := first | assumption | omega) only [e11, e10, e3, eh, e4, go_sem, ↓reduceIte, Nat.reduceEqDiff, reduceCtorEq, Nat.reduceAdd, Nat.reduceLeDiff, Nat.reduceLT, reduceIte, Int.reduceBEq, Int.reduceBNe, Int.reduceLT, Int.reduceLE, Int.reduceAdd, Int.reduceSub, Int.reduceMul, Int.reduceNeg, Int.reduceEq, Int.reduceNe, Nat.reduceMul, Nat.reduceSub]
      refine callG_ok (ContainsCellR_ok cs ⟨x - 4, y - 4⟩ _ cap _ _ (by simp (disch := first | assumption | omega) only [e11, e10, e3, eh, go_sem, ↓reduceIte, Nat.reduceEqDiff, reduceCtorEq, Nat.reduceAdd, Nat.reduceLeDiff, Nat.reduceLT, reduceIte, Int.reduceBEq, Int.reduceBNe, Int.reduceLT, Int.reduceLE, Int.reduceAdd, Int.reduceSub, Int.reduceMul, Int.reduceNeg, Int.reduceEq, Int.reduceNe, Nat.reduceMul, Nat.reduceSub]; rfl) (by omega)) (by simp (disch := first | assumption | omega) only [go_sem, ↓reduceIte, Nat.reduceEqDiff, reduceCtorEq, Nat.reduceAdd, Nat.reduceLeDiff, Nat.reduceLT, reduceIte, Int.reduceBEq, Int.reduceBNe, Int.reduceLT, Int.reduceLE, Int.reduceAdd, Int.reduceSub, Int.reduceMul, Int.reduceNeg, Int.reduceEq, Int.reduceNe, Nat.reduceMul, Nat.reduceSub]) ?_
      rintro _ _ ⟨rfl, hhh⟩
      rw [hhh]
      clear hhh
      by_cases hin : (⟨x - 4, y - 4⟩ : Cell) ∈ cs
      · rw [decide_eq_true hin]
        simp (disch := first | assumption | omega) only [e11, e10, e3, eh, e4, go_sem, ↓reduceIte, Nat.reduceEqDiff, reduceCtorEq, Nat.reduceAdd, Nat.reduceLeDiff, Nat.reduceLT, reduceIte, Int.reduceBEq, Int.reduceBNe, Int.reduceLT, Int.reduceLE, Int.reduceAdd, Int.reduceSub, Int.reduceMul, Int.reduceNeg, Int.reduceEq, Int.reduceNe, Nat.reduceMul, Nat.reduceSub]
        refine own_cells (cs := cs) (cap := cap) (rest := List.replicate ((cap - cs.length) * 2) .junk) (id := h.length + (ext.length + 1)) (by simp (disch := first | assumption | omega) only [go_sem, ↓reduceIte, Nat.reduceEqDiff, reduceCtorEq, Nat.reduceAdd, Nat.reduceLeDiff, Nat.reduceLT, reduceIte, Int.reduceBEq, Int.reduceBNe, Int.reduceLT, Int.reduceLE, Int.reduceAdd, Int.reduceSub, Int.reduceMul, Int.reduceNeg, Int.reduceEq, Int.reduceNe, Nat.reduceMul, Nat.reduceSub]) (by simp (disch := first | assumption | omega) only [go_sem, ↓reduceIte, Nat.reduceEqDiff, reduceCtorEq, Nat.reduceAdd, Nat.reduceLeDiff, Nat.reduceLT, reduceIte, Int.reduceBEq, Int.reduceBNe, Int.reduceLT, Int.reduceLE, Int.reduceAdd, Int.reduceSub, Int.reduceMul, Int.reduceNeg, Int.reduceEq, Int.reduceNe, Nat.reduceMul, Nat.reduceSub]) hcap (by omega) (by simp) ?_
        simp (disch := first | assumption | omega) only [e11, e10, e3, eh, go_sem, ↓reduceIte, Nat.reduceEqDiff, reduceCtorEq, Nat.reduceAdd, Nat.reduceLeDiff, Nat.reduceLT, reduceIte, Int.reduceBEq, Int.reduceBNe, Int.reduceLT, Int.reduceLE, Int.reduceAdd, Int.reduceSub, Int.reduceMul, Int.reduceNeg, Int.reduceEq, Int.reduceNe, Nat.reduceMul, Nat.reduceSub]
        refine ⟨d - 1, by omega, k + 1, o3, l3, cs, ext ++ [.dead], by omega, by simp, .inr ⟨cap, rfl, hcap, h0⟩, by omega, hcb, ho3, hl3, rfl⟩
      · rw [decide_eq_false hin]
        have hpush := fun h1 => flatC_push (cs := cs) (cap := cap) (c := ⟨x - 4, y - 4⟩) h1
        simp (disch := first | assumption | omega) only [e11, e10, e3, eh, e4, aops_hop, hstep, srcH, srcW, growV, List.flatMap_cons, List.flatMap_nil, AVal.cells, rdcInt, flatC_take, go_sem, ↓reduceIte, Nat.reduceEqDiff, reduceCtorEq, Nat.reduceAdd, Nat.reduceLeDiff, Nat.reduceLT, reduceIte, Int.reduceBEq, Int.reduceBNe, Int.reduceLT, Int.reduceLE, Int.reduceAdd, Int.reduceSub, Int.reduceMul, Int.reduceNeg, Int.reduceEq, Int.reduceNe, Nat.reduceMul, Nat.reduceSub]
        refine ⟨by omega, by omega, fun _ h1 => ⟨by rw [flatC_length, List.length_replicate]; omega, ?_⟩, fun _ h1 => ?_⟩
        · rw [hpush (by omega)]
          refine own_cells (cs := cs ++ [⟨x - 4, y - 4⟩]) (cap := cap) (rest := List.replicate ((cap - (cs.length + 1)) * 2) .junk) (id := h.length + (ext.length + 1)) (by simp (disch := first | assumption | omega) only [go_sem, ↓reduceIte, Nat.reduceEqDiff, reduceCtorEq, Nat.reduceAdd, Nat.reduceLeDiff, Nat.reduceLT, reduceIte, Int.reduceBEq, Int.reduceBNe, Int.reduceLT, Int.reduceLE, Int.reduceAdd, Int.reduceSub, Int.reduceMul, Int.reduceNeg, Int.reduceEq, Int.reduceNe, Nat.reduceMul, Nat.reduceSub]) (by simp (disch := first | assumption | omega) only [go_sem, ↓reduceIte, Nat.reduceEqDiff, reduceCtorEq, Nat.reduceAdd, Nat.reduceLeDiff, Nat.reduceLT, reduceIte, Int.reduceBEq, Int.reduceBNe, Int.reduceLT, Int.reduceLE, Int.reduceAdd, Int.reduceSub, Int.reduceMul, Int.reduceNeg, Int.reduceEq, Int.reduceNe, Nat.reduceMul, Nat.reduceSub]) (by simp; omega) (by omega) (by simp) ?_
          simp (disch := first | assumption | omega) only [e11, e10, e3, eh, go_sem, ↓reduceIte, Nat.reduceEqDiff, reduceCtorEq, Nat.reduceAdd, Nat.reduceLeDiff, Nat.reduceLT, reduceIte, Int.reduceBEq, Int.reduceBNe, Int.reduceLT, Int.reduceLE, Int.reduceAdd, Int.reduceSub, Int.reduceMul, Int.reduceNeg, Int.reduceEq, Int.reduceNe, Nat.reduceMul, Nat.reduceSub]
          refine ⟨d - 1, by omega, k + 1, o3, l3, cs ++ [⟨x - 4, y - 4⟩], ext ++ [.dead], by omega, by simp, .inr ⟨cap, rfl, by simp; omega, h0⟩, by simp; omega, hb1 cs hcb () x0 x8 y0 y8, ho3, hl3, rfl⟩
        · have hsr : (if cs.length = 0 then some (0, []) else if cs.length * 2 ≤ (flatC cs).length + (List.replicate ((cap - cs.length) * 2) AVal.junk).length then some (cs.length, List.map Ge.rdc (flatC cs)) else none) = some (cs.length, flatC cs) := by
            by_cases hz : cs.length = 0
            · rw [if_pos hz, List.eq_nil_of_length_eq_zero hz]; rfl
            · rw [if_neg hz, if_pos (by rw [flatC_length]; omega), flatC_rdc]
          rw [hsr]
          refine fun cap2 hc2 => ?_
          refine own_cells (cs := cs ++ [⟨x - 4, y - 4⟩]) (cap := cap2) (rest := List.replicate ((cap2 - (cs.length + 1)) * 2) .junk) (id := h.length + (ext.length + 1 + 1)) (by simp (disch := first | assumption | omega) only [go_sem, ↓reduceIte, Nat.reduceEqDiff, reduceCtorEq, Nat.reduceAdd, Nat.reduceLeDiff, Nat.reduceLT, reduceIte, Int.reduceBEq, Int.reduceBNe, Int.reduceLT, Int.reduceLE, Int.reduceAdd, Int.reduceSub, Int.reduceMul, Int.reduceNeg, Int.reduceEq, Int.reduceNe, Nat.reduceMul, Nat.reduceSub]) (by simp (disch := first | assumption | omega) only [flatC_append, go_sem, ↓reduceIte, Nat.reduceEqDiff, reduceCtorEq, Nat.reduceAdd, Nat.reduceLeDiff, Nat.reduceLT, reduceIte, Int.reduceBEq, Int.reduceBNe, Int.reduceLT, Int.reduceLE, Int.reduceAdd, Int.reduceSub, Int.reduceMul, Int.reduceNeg, Int.reduceEq, Int.reduceNe, Nat.reduceMul, Nat.reduceSub]; rfl) (by simp; omega) (by omega) (by simp) ?_
          simp (disch := first | assumption | omega) only [e11, e10, e3, eh, go_sem, ↓reduceIte, Nat.reduceEqDiff, reduceCtorEq, Nat.reduceAdd, Nat.reduceLeDiff, Nat.reduceLT, reduceIte, Int.reduceBEq, Int.reduceBNe, Int.reduceLT, Int.reduceLE, Int.reduceAdd, Int.reduceSub, Int.reduceMul, Int.reduceNeg, Int.reduceEq, Int.reduceNe, Nat.reduceMul, Nat.reduceSub]
          refine ⟨d - 1, by omega, k + 1, o3, l3, cs ++ [⟨x - 4, y - 4⟩], _, by omega, by simp, .inr ⟨cap2, rfl, by simp; omega, by omega⟩, by simp; omega, hb1 cs hcb () x0 x8 y0 y8, ho3, hl3, rfl⟩
  · rcases e4 with ⟨e4, rfl⟩ | ⟨cap, e4, hcap, h0⟩
    · refine thaw_nil (xs := []) (by simp (disch := first | assumption | omega) only [e4, go_sem, ↓reduceIte, Nat.reduceEqDiff, reduceCtorEq, Nat.reduceAdd, Nat.reduceLeDiff, Nat.reduceLT, reduceIte, Int.reduceBEq, Int.reduceBNe, Int.reduceLT, Int.reduceLE, Int.reduceAdd, Int.reduceSub, Int.reduceMul, Int.reduceNeg, Int.reduceEq, Int.reduceNe, Nat.reduceMul, Nat.reduceSub]) ?_
      simp (disch := first | assumption | omega) only [e11, e10, e3, eh, e4, go_sem, ↓reduceIte, Nat.reduceEqDiff, reduceCtorEq, Nat.reduceAdd, Nat.reduceLeDiff, Nat.reduceLT, reduceIte, Int.reduceBEq, Int.reduceBNe, Int.reduceLT, Int.reduceLE, Int.reduceAdd, Int.reduceSub, Int.reduceMul, Int.reduceNeg, Int.reduceEq, Int.reduceNe, Nat.reduceMul, Nat.reduceSub]
      refine callG_ok (SortNil_ok F.gantmake_Cells_1 _) (by simp (disch := first | assumption | omega) only [go_sem, ↓reduceIte, Nat.reduceEqDiff, reduceCtorEq, Nat.reduceAdd, Nat.reduceLeDiff, Nat.reduceLT, reduceIte, Int.reduceBEq, Int.reduceBNe, Int.reduceLT, Int.reduceLE, Int.reduceAdd, Int.reduceSub, Int.reduceMul, Int.reduceNeg, Int.reduceEq, Int.reduceNe, Nat.reduceMul, Nat.reduceSub]) ?_
      rintro _ _ ⟨rfl, hhh⟩
      rw [hhh]
      clear hhh
      simp (disch := first | assumption | omega) only [e11, e10, e3, eh, e4, go_sem, ↓reduceIte, Nat.reduceEqDiff, reduceCtorEq, Nat.reduceAdd, Nat.reduceLeDiff, Nat.reduceLT, reduceIte, Int.reduceBEq, Int.reduceBNe, Int.reduceLT, Int.reduceLE, Int.reduceAdd, Int.reduceSub, Int.reduceMul, Int.reduceNeg, Int.reduceEq, Int.reduceNe, Nat.reduceMul, Nat.reduceSub]
      refine own_nil (xs := []) (by simp (disch := first | assumption | omega) only [e11, e10, e3, eh, e4, go_sem, ↓reduceIte, Nat.reduceEqDiff, reduceCtorEq, Nat.reduceAdd, Nat.reduceLeDiff, Nat.reduceLT, reduceIte, Int.reduceBEq, Int.reduceBNe, Int.reduceLT, Int.reduceLE, Int.reduceAdd, Int.reduceSub, Int.reduceMul, Int.reduceNeg, Int.reduceEq, Int.reduceNe, Nat.reduceMul, Nat.reduceSub]) ?_
      rw [aw_grab]
      simp (disch := first | assumption | omega) only [e11, e10, e3, eh, e4, go_sem, ↓reduceIte, Nat.reduceEqDiff, reduceCtorEq, Nat.reduceAdd, Nat.reduceLeDiff, Nat.reduceLT, reduceIte, Int.reduceBEq, Int.reduceBNe, Int.reduceLT, Int.reduceLE, Int.reduceAdd, Int.reduceSub, Int.reduceMul, Int.reduceNeg, Int.reduceEq, Int.reduceNe, Nat.reduceMul, Nat.reduceSub]
      subst hQ
      simp (disch := first | assumption | omega) only [R.gantmake_Cells, e11, e10, e3, eh, e4, go_sem, ↓reduceIte, Nat.reduceEqDiff, reduceCtorEq, Nat.reduceAdd, Nat.reduceLeDiff, Nat.reduceLT, reduceIte, Int.reduceBEq, Int.reduceBNe, Int.reduceLT, Int.reduceLE, Int.reduceAdd, Int.reduceSub, Int.reduceMul, Int.reduceNeg, Int.reduceEq, Int.reduceNe, Nat.reduceMul, Nat.reduceSub]
      exact ⟨.cells [.lst o' (ints .i64 l')] :: ext, rfl, by simp [AVal.ids, idsL], [], by simp, by simp, .inl rfl⟩
    · refine thaw_cells (cs := cs) (cap := cap) (by simp (disch := first | assumption | omega) only [e4, go_sem, ↓reduceIte, Nat.reduceEqDiff, reduceCtorEq, Nat.reduceAdd, Nat.reduceLeDiff, Nat.reduceLT, reduceIte, Int.reduceBEq, Int.reduceBNe, Int.reduceLT, Int.reduceLE, Int.reduceAdd, Int.reduceSub, Int.reduceMul, Int.reduceNeg, Int.reduceEq, Int.reduceNe, Nat.reduceMul, Nat.reduceSub]) hcap ?_
      simp (disch := first | assumption | omega) only [e11, e10, e3, eh, e4, go_sem, ↓reduceIte, Nat.reduceEqDiff, reduceCtorEq, Nat.reduceAdd, Nat.reduceLeDiff, Nat.reduceLT, reduceIte, Int.reduceBEq, Int.reduceBNe, Int.reduceLT, Int.reduceLE, Int.reduceAdd, Int.reduceSub, Int.reduceMul, Int.reduceNeg, Int.reduceEq, Int.reduceNe, Nat.reduceMul, Nat.reduceSub]
      refine callG_ok (SortSmall_ok F.gantmake_Cells_1 cs _ cap (List.replicate ((cap - cs.length) * 2) .junk) _ (by simp (disch := first | assumption | omega) only [e11, e10, e3, eh, go_sem, ↓reduceIte, Nat.reduceEqDiff, reduceCtorEq, Nat.reduceAdd, Nat.reduceLeDiff, Nat.reduceLT, reduceIte, Int.reduceBEq, Int.reduceBNe, Int.reduceLT, Int.reduceLE, Int.reduceAdd, Int.reduceSub, Int.reduceMul, Int.reduceNeg, Int.reduceEq, Int.reduceNe, Nat.reduceMul, Nat.reduceSub]) (by omega) cmpMade_ok) (by simp (disch := first | assumption | omega) only [go_sem, ↓reduceIte, Nat.reduceEqDiff, reduceCtorEq, Nat.reduceAdd, Nat.reduceLeDiff, Nat.reduceLT, reduceIte, Int.reduceBEq, Int.reduceBNe, Int.reduceLT, Int.reduceLE, Int.reduceAdd, Int.reduceSub, Int.reduceMul, Int.reduceNeg, Int.reduceEq, Int.reduceNe, Nat.reduceMul, Nat.reduceSub]) ?_
      rintro _ _ ⟨rfl, cs', hc1, hc2, rfl⟩
      simp (disch := first | assumption | omega) only [e11, e10, e3, eh, e4, go_sem, ↓reduceIte, Nat.reduceEqDiff, reduceCtorEq, Nat.reduceAdd, Nat.reduceLeDiff, Nat.reduceLT, reduceIte, Int.reduceBEq, Int.reduceBNe, Int.reduceLT, Int.reduceLE, Int.reduceAdd, Int.reduceSub, Int.reduceMul, Int.reduceNeg, Int.reduceEq, Int.reduceNe, Nat.reduceMul, Nat.reduceSub]
      rw [← hc1]
      refine own_cells (cs := cs') (cap := cap) (rest := List.replicate ((cap - cs'.length) * 2) .junk) (id := h.length + (ext.length + 1)) (by simp (disch := first | assumption | omega) only [go_sem, ↓reduceIte, Nat.reduceEqDiff, reduceCtorEq, Nat.reduceAdd, Nat.reduceLeDiff, Nat.reduceLT, reduceIte, Int.reduceBEq, Int.reduceBNe, Int.reduceLT, Int.reduceLE, Int.reduceAdd, Int.reduceSub, Int.reduceMul, Int.reduceNeg, Int.reduceEq, Int.reduceNe, Nat.reduceMul, Nat.reduceSub]) (by simp (disch := first | assumption | omega) only [go_sem, ↓reduceIte, Nat.reduceEqDiff, reduceCtorEq, Nat.reduceAdd, Nat.reduceLeDiff, Nat.reduceLT, reduceIte, Int.reduceBEq, Int.reduceBNe, Int.reduceLT, Int.reduceLE, Int.reduceAdd, Int.reduceSub, Int.reduceMul, Int.reduceNeg, Int.reduceEq, Int.reduceNe, Nat.reduceMul, Nat.reduceSub]) (by omega) (by omega) (by simp) ?_
      rw [aw_grab]
      simp (disch := first | assumption | omega) only [e11, e10, e3, eh, e4, go_sem, ↓reduceIte, Nat.reduceEqDiff, reduceCtorEq, Nat.reduceAdd, Nat.reduceLeDiff, Nat.reduceLT, reduceIte, Int.reduceBEq, Int.reduceBNe, Int.reduceLT, Int.reduceLE, Int.reduceAdd, Int.reduceSub, Int.reduceMul, Int.reduceNeg, Int.reduceEq, Int.reduceNe, Nat.reduceMul, Nat.reduceSub]
      subst hQ
      simp (disch := first | assumption | omega) only [R.gantmake_Cells, e11, e10, e3, eh, e4, go_sem, ↓reduceIte, Nat.reduceEqDiff, reduceCtorEq, Nat.reduceAdd, Nat.reduceLeDiff, Nat.reduceLT, reduceIte, Int.reduceBEq, Int.reduceBNe, Int.reduceLT, Int.reduceLE, Int.reduceAdd, Int.reduceSub, Int.reduceMul, Int.reduceNeg, Int.reduceEq, Int.reduceNe, Nat.reduceMul, Nat.reduceSub]
      exact ⟨.cells [.lst o' (ints .i64 l')] :: (ext ++ [.dead]), rfl, by simp [AVal.ids, cells_ids], cs', by omega, fun c hc => hcb c (hc2 c hc), .inr rfl⟩
end Go.Proofs.Ytpdajkbfemcdlaa
/- Contracts: messages that are made. -/
set_option linter.unusedSimpArgs false
set_option linter.unusedVariables false
set_option maxRecDepth 10000
namespace Go.Proofs.Ytpdajkbfemcdlaa
open Go.Ge
/-- A message that was made. -/
def MadeMsg (v : AVal) : Prop := ∃ (q : Own) (m : Msg), v = msgA q m ∧ (q = .nil ∧ m.Cells = [] ∨ q = .sh) ∧ m.Cells.length ≤ 8 ∧ inU32 m.Clock ∧ ∀ c ∈ m.Cells, -4 ≤ c.X ∧ c.X ≤ 3 ∧ -4 ≤ c.Y ∧ c.Y ≤ 3
theorem MadeMsg_ok (o : Own) (l : List Int) (ho : Rdo o) (hl : ∀ c ∈ l, inI64 c) (h : List HObj) :
    ACalls Try.prog F.gantmake_Msg [.lst o (ints .i64 l)] h (fun v h' => MadeMsg v ∧ h' = h) := by
  refine ACalls.gcn (ACalls.of_aw Try.func80 K.gantmake_Msg (by simp [Try.f80]) ?_)
  generalize hQ : retQ R.gantmake_Msg _ = Q
  simp (disch := first | assumption | omega) only [C.gantmake_Msg, go_sem, ↓reduceIte, Nat.reduceEqDiff, reduceCtorEq, Nat.reduceAdd, Nat.reduceLeDiff, Nat.reduceLT, reduceIte, Int.reduceBEq, Int.reduceBNe, Int.reduceLT, Int.reduceLE, Int.reduceAdd, Int.reduceSub, Int.reduceMul, Int.reduceNeg, Int.reduceEq, Int.reduceNe, Nat.reduceMul, Nat.reduceSub]
  refine callG_ok (Next_ok h.length o l 4 ho hl (by simp [inI64]) _ (by simp (disch := first | assumption | omega) only [go_sem, ↓reduceIte, Nat.reduceEqDiff, reduceCtorEq, Nat.reduceAdd, Nat.reduceLeDiff, Nat.reduceLT, reduceIte, Int.reduceBEq, Int.reduceBNe, Int.reduceLT, Int.reduceLE, Int.reduceAdd, Int.reduceSub, Int.reduceMul, Int.reduceNeg, Int.reduceEq, Int.reduceNe, Nat.reduceMul, Nat.reduceSub])) (by simp (disch := first | assumption | omega) only [go_sem, ↓reduceIte, Nat.reduceEqDiff, reduceCtorEq, Nat.reduceAdd, Nat.reduceLeDiff, Nat.reduceLT, reduceIte, Int.reduceBEq, Int.reduceBNe, Int.reduceLT, Int.reduceLE, Int.reduceAdd, Int.reduceSub, Int.reduceMul, Int.reduceNeg, Int.reduceEq, Int.reduceNe, Nat.reduceMul, Nat.reduceSub]) ?_
  rintro _ _ ⟨k, o1, l1, rfl, k0, k8, ho1, hl1, rfl⟩
  simp (disch := first | assumption | omega) only [go_sem, ↓reduceIte, Nat.reduceEqDiff, reduceCtorEq, Nat.reduceAdd, Nat.reduceLeDiff, Nat.reduceLT, reduceIte, Int.reduceBEq, Int.reduceBNe, Int.reduceLT, Int.reduceLE, Int.reduceAdd, Int.reduceSub, Int.reduceMul, Int.reduceNeg, Int.reduceEq, Int.reduceNe, Nat.reduceMul, Nat.reduceSub]
  refine callG_ok (Next_ok h.length o1 l1 4 ho1 hl1 (by simp [inI64]) _ (by simp (disch := first | assumption | omega) only [go_sem, ↓reduceIte, Nat.reduceEqDiff, reduceCtorEq, Nat.reduceAdd, Nat.reduceLeDiff, Nat.reduceLT, reduceIte, Int.reduceBEq, Int.reduceBNe, Int.reduceLT, Int.reduceLE, Int.reduceAdd, Int.reduceSub, Int.reduceMul, Int.reduceNeg, Int.reduceEq, Int.reduceNe, Nat.reduceMul, Nat.reduceSub])) (by simp (disch := first | assumption | omega) only [go_sem, ↓reduceIte, Nat.reduceEqDiff, reduceCtorEq, Nat.reduceAdd, Nat.reduceLeDiff, Nat.reduceLT, reduceIte, Int.reduceBEq, Int.reduceBNe, Int.reduceLT, Int.reduceLE, Int.reduceAdd, Int.reduceSub, Int.reduceMul, Int.reduceNeg, Int.reduceEq, Int.reduceNe, Nat.reduceMul, Nat.reduceSub]) ?_
  rintro _ _ ⟨f, o2, l2, rfl, f0, f8, ho2, hl2, rfl⟩
  simp (disch := first | assumption | omega) only [go_sem, ↓reduceIte, Nat.reduceEqDiff, reduceCtorEq, Nat.reduceAdd, Nat.reduceLeDiff, Nat.reduceLT, reduceIte, Int.reduceBEq, Int.reduceBNe, Int.reduceLT, Int.reduceLE, Int.reduceAdd, Int.reduceSub, Int.reduceMul, Int.reduceNeg, Int.reduceEq, Int.reduceNe, Nat.reduceMul, Nat.reduceSub]
  refine callG_ok (Next_ok h.length o2 l2 4 ho2 hl2 (by simp [inI64]) _ (by simp (disch := first | assumption | omega) only [go_sem, ↓reduceIte, Nat.reduceEqDiff, reduceCtorEq, Nat.reduceAdd, Nat.reduceLeDiff, Nat.reduceLT, reduceIte, Int.reduceBEq, Int.reduceBNe, Int.reduceLT, Int.reduceLE, Int.reduceAdd, Int.reduceSub, Int.reduceMul, Int.reduceNeg, Int.reduceEq, Int.reduceNe, Nat.reduceMul, Nat.reduceSub])) (by simp (disch := first | assumption | omega) only [go_sem, ↓reduceIte, Nat.reduceEqDiff, reduceCtorEq, Nat.reduceAdd, Nat.reduceLeDiff, Nat.reduceLT, reduceIte, Int.reduceBEq, Int.reduceBNe, Int.reduceLT, Int.reduceLE, Int.reduceAdd, Int.reduceSub, Int.reduceMul, Int.reduceNeg, Int.reduceEq, Int.reduceNe, Nat.reduceMul, Nat.reduceSub]) ?_
  rintro _ _ ⟨t, o3, l3, rfl, t0, t8, ho3, hl3, rfl⟩
  simp (disch := first | assumption | omega) only [go_sem, ↓reduceIte, Nat.reduceEqDiff, reduceCtorEq, Nat.reduceAdd, Nat.reduceLeDiff, Nat.reduceLT, reduceIte, Int.reduceBEq, Int.reduceBNe, Int.reduceLT, Int.reduceLE, Int.reduceAdd, Int.reduceSub, Int.reduceMul, Int.reduceNeg, Int.reduceEq, Int.reduceNe, Nat.reduceMul, Nat.reduceSub]
  refine callG_ok (Next_ok h.length o3 l3 1000 ho3 hl3 (by simp [inI64]) _ (by simp (disch := first | assumption | omega) only [go_sem, ↓reduceIte, Nat.reduceEqDiff, reduceCtorEq, Nat.reduceAdd, Nat.reduceLeDiff, Nat.reduceLT, reduceIte, Int.reduceBEq, Int.reduceBNe, Int.reduceLT, Int.reduceLE, Int.reduceAdd, Int.reduceSub, Int.reduceMul, Int.reduceNeg, Int.reduceEq, Int.reduceNe, Nat.reduceMul, Nat.reduceSub])) (by simp (disch := first | assumption | omega) only [go_sem, ↓reduceIte, Nat.reduceEqDiff, reduceCtorEq, Nat.reduceAdd, Nat.reduceLeDiff, Nat.reduceLT, reduceIte, Int.reduceBEq, Int.reduceBNe, Int.reduceLT, Int.reduceLE, Int.reduceAdd, Int.reduceSub, Int.reduceMul, Int.reduceNeg, Int.reduceEq, Int.reduceNe, Nat.reduceMul, Nat.reduceSub]) ?_
  rintro _ _ ⟨s, o4, l4, rfl, s0, s8, ho4, hl4, rfl⟩
  simp (disch := first | assumption | omega) only [go_sem, ↓reduceIte, Nat.reduceEqDiff, reduceCtorEq, Nat.reduceAdd, Nat.reduceLeDiff, Nat.reduceLT, reduceIte, Int.reduceBEq, Int.reduceBNe, Int.reduceLT, Int.reduceLE, Int.reduceAdd, Int.reduceSub, Int.reduceMul, Int.reduceNeg, Int.reduceEq, Int.reduceNe, Nat.reduceMul, Nat.reduceSub]
  refine callG_ok (Next_ok h.length o4 l4 4294967296 ho4 hl4 (by simp [inI64]) _ (by simp (disch := first | assumption | omega) only [go_sem, ↓reduceIte, Nat.reduceEqDiff, reduceCtorEq, Nat.reduceAdd, Nat.reduceLeDiff, Nat.reduceLT, reduceIte, Int.reduceBEq, Int.reduceBNe, Int.reduceLT, Int.reduceLE, Int.reduceAdd, Int.reduceSub, Int.reduceMul, Int.reduceNeg, Int.reduceEq, Int.reduceNe, Nat.reduceMul, Nat.reduceSub])) (by simp (disch := first | assumption | omega) only [go_sem, ↓reduceIte, Nat.reduceEqDiff, reduceCtorEq, Nat.reduceAdd, Nat.reduceLeDiff, Nat.reduceLT, reduceIte, Int.reduceBEq, Int.reduceBNe, Int.reduceLT, Int.reduceLE, Int.reduceAdd, Int.reduceSub, Int.reduceMul, Int.reduceNeg, Int.reduceEq, Int.reduceNe, Nat.reduceMul, Nat.reduceSub]) ?_
  rintro _ _ ⟨c, o5, l5, rfl, c0, c8, ho5, hl5, rfl⟩
  have c8 := c8 (by omega)
  by_cases hk : k = 3
  · simp (disch := first | assumption | omega) only [eq_true hk, go_sem, ↓reduceIte, Nat.reduceEqDiff, reduceCtorEq, Nat.reduceAdd, Nat.reduceLeDiff, Nat.reduceLT, reduceIte, Int.reduceBEq, Int.reduceBNe, Int.reduceLT, Int.reduceLE, Int.reduceAdd, Int.reduceSub, Int.reduceMul, Int.reduceNeg, Int.reduceEq, Int.reduceNe, Nat.reduceMul, Nat.reduceSub]
    subst hQ
    simp (disch := first | assumption | omega) only [R.gantmake_Msg, go_sem, ↓reduceIte, Nat.reduceEqDiff, reduceCtorEq, Nat.reduceAdd, Nat.reduceLeDiff, Nat.reduceLT, reduceIte, Int.reduceBEq, Int.reduceBNe, Int.reduceLT, Int.reduceLE, Int.reduceAdd, Int.reduceSub, Int.reduceMul, Int.reduceNeg, Int.reduceEq, Int.reduceNe, Nat.reduceMul, Nat.reduceSub]
    exact ⟨[_], rfl, by simp [AVal.ids, idsL], .nil, ⟨k, f, t, s, c, []⟩, rfl, .inl ⟨rfl, rfl⟩, by simp, ⟨c0, c8⟩, by simp⟩
  · simp (disch := first | assumption | omega) only [hk, go_sem, ↓reduceIte, Nat.reduceEqDiff, reduceCtorEq, Nat.reduceAdd, Nat.reduceLeDiff, Nat.reduceLT, reduceIte, Int.reduceBEq, Int.reduceBNe, Int.reduceLT, Int.reduceLE, Int.reduceAdd, Int.reduceSub, Int.reduceMul, Int.reduceNeg, Int.reduceEq, Int.reduceNe, Nat.reduceMul, Nat.reduceSub]
    refine callG_ok (MadeCells_ok o5 l5 ho5 hl5 _) (by simp (disch := first | assumption | omega) only [go_sem, ↓reduceIte, Nat.reduceEqDiff, reduceCtorEq, Nat.reduceAdd, Nat.reduceLeDiff, Nat.reduceLT, reduceIte, Int.reduceBEq, Int.reduceBNe, Int.reduceLT, Int.reduceLE, Int.reduceAdd, Int.reduceSub, Int.reduceMul, Int.reduceNeg, Int.reduceEq, Int.reduceNe, Nat.reduceMul, Nat.reduceSub]) ?_
    rintro _ _ ⟨⟨cs, h1, h2, hcs⟩, hhh⟩
    rw [hhh]
    clear hhh
    rcases hcs with ⟨rfl, h3⟩ | rfl
    · simp (disch := first | assumption | omega) only [go_sem, ↓reduceIte, Nat.reduceEqDiff, reduceCtorEq, Nat.reduceAdd, Nat.reduceLeDiff, Nat.reduceLT, reduceIte, Int.reduceBEq, Int.reduceBNe, Int.reduceLT, Int.reduceLE, Int.reduceAdd, Int.reduceSub, Int.reduceMul, Int.reduceNeg, Int.reduceEq, Int.reduceNe, Nat.reduceMul, Nat.reduceSub]
      subst hQ
      simp (disch := first | assumption | omega) only [R.gantmake_Msg, go_sem, ↓reduceIte, Nat.reduceEqDiff, reduceCtorEq, Nat.reduceAdd, Nat.reduceLeDiff, Nat.reduceLT, reduceIte, Int.reduceBEq, Int.reduceBNe, Int.reduceLT, Int.reduceLE, Int.reduceAdd, Int.reduceSub, Int.reduceMul, Int.reduceNeg, Int.reduceEq, Int.reduceNe, Nat.reduceMul, Nat.reduceSub]
      exact ⟨[_], rfl, by simp [AVal.ids, idsL], .nil, ⟨k, f, t, s, c, []⟩, rfl, .inl ⟨rfl, rfl⟩, by simp, ⟨c0, c8⟩, by simp⟩
    · simp (disch := first | assumption | omega) only [go_sem, ↓reduceIte, Nat.reduceEqDiff, reduceCtorEq, Nat.reduceAdd, Nat.reduceLeDiff, Nat.reduceLT, reduceIte, Int.reduceBEq, Int.reduceBNe, Int.reduceLT, Int.reduceLE, Int.reduceAdd, Int.reduceSub, Int.reduceMul, Int.reduceNeg, Int.reduceEq, Int.reduceNe, Nat.reduceMul, Nat.reduceSub]
      subst hQ
      simp (disch := first | assumption | omega) only [R.gantmake_Msg, go_sem, ↓reduceIte, Nat.reduceEqDiff, reduceCtorEq, Nat.reduceAdd, Nat.reduceLeDiff, Nat.reduceLT, reduceIte, Int.reduceBEq, Int.reduceBNe, Int.reduceLT, Int.reduceLE, Int.reduceAdd, Int.reduceSub, Int.reduceMul, Int.reduceNeg, Int.reduceEq, Int.reduceNe, Nat.reduceMul, Nat.reduceSub]
      exact ⟨[_], rfl, by simp [AVal.ids, idsL, cells_ids], .sh, ⟨k, f, t, s, c, cs⟩, rfl, .inr rfl, h1, ⟨c0, c8⟩, h2⟩
theorem message_ok (o : Own) (l : List Int) (ho : Rdo o) (hl : ∀ c ∈ l, inI64 c) (h : List HObj) :
    ACalls Try.prog F.gantkeep5_message [.lst o (ints .i64 l)] h (fun v h' => MadeMsg v ∧ h' = h) := by
  have ho1 := ho
  refine ACalls.of_aw Try.func78 K.gantkeep5_message (by simp [Try.f78]) ?_
  generalize hQ : retQ R.gantkeep5_message _ = Q
  simp (disch := first | assumption | omega) only [C.gantkeep5_message, go_sem, ↓reduceIte, Nat.reduceEqDiff, reduceCtorEq, Nat.reduceAdd, Nat.reduceLeDiff, Nat.reduceLT, reduceIte, Int.reduceBEq, Int.reduceBNe, Int.reduceLT, Int.reduceLE, Int.reduceAdd, Int.reduceSub, Int.reduceMul, Int.reduceNeg, Int.reduceEq, Int.reduceNe, Nat.reduceMul, Nat.reduceSub]
  refine callG_ok (MadeMsg_ok o l ho hl _) (by simp (disch := first | assumption | omega) only [go_sem, ↓reduceIte, Nat.reduceEqDiff, reduceCtorEq, Nat.reduceAdd, Nat.reduceLeDiff, Nat.reduceLT, reduceIte, Int.reduceBEq, Int.reduceBNe, Int.reduceLT, Int.reduceLE, Int.reduceAdd, Int.reduceSub, Int.reduceMul, Int.reduceNeg, Int.reduceEq, Int.reduceNe, Nat.reduceMul, Nat.reduceSub]) ?_
  rintro _ _ ⟨⟨q, m, rfl, hq, h8, hc⟩, hhh⟩
  rw [hhh]
  clear hhh
  rcases hq with ⟨rfl, hq⟩ | rfl
  · simp (disch := first | assumption | omega) only [msgA, msgC, go_sem, ↓reduceIte, Nat.reduceEqDiff, reduceCtorEq, Nat.reduceAdd, Nat.reduceLeDiff, Nat.reduceLT, reduceIte, Int.reduceBEq, Int.reduceBNe, Int.reduceLT, Int.reduceLE, Int.reduceAdd, Int.reduceSub, Int.reduceMul, Int.reduceNeg, Int.reduceEq, Int.reduceNe, Nat.reduceMul, Nat.reduceSub]
    subst hQ
    simp (disch := first | assumption | omega) only [R.gantkeep5_message, go_sem, ↓reduceIte, Nat.reduceEqDiff, reduceCtorEq, Nat.reduceAdd, Nat.reduceLeDiff, Nat.reduceLT, reduceIte, Int.reduceBEq, Int.reduceBNe, Int.reduceLT, Int.reduceLE, Int.reduceAdd, Int.reduceSub, Int.reduceMul, Int.reduceNeg, Int.reduceEq, Int.reduceNe, Nat.reduceMul, Nat.reduceSub]
    exact ⟨.nil, m, rfl, .inl ⟨rfl, hq⟩, h8, hc⟩
  · simp (disch := first | assumption | omega) only [msgA, msgC, go_sem, ↓reduceIte, Nat.reduceEqDiff, reduceCtorEq, Nat.reduceAdd, Nat.reduceLeDiff, Nat.reduceLT, reduceIte, Int.reduceBEq, Int.reduceBNe, Int.reduceLT, Int.reduceLE, Int.reduceAdd, Int.reduceSub, Int.reduceMul, Int.reduceNeg, Int.reduceEq, Int.reduceNe, Nat.reduceMul, Nat.reduceSub]
    subst hQ
    simp (disch := first | assumption | omega) only [R.gantkeep5_message, go_sem, ↓reduceIte, Nat.reduceEqDiff, reduceCtorEq, Nat.reduceAdd, Nat.reduceLeDiff, Nat.reduceLT, reduceIte, Int.reduceBEq, Int.reduceBNe, Int.reduceLT, Int.reduceLE, Int.reduceAdd, Int.reduceSub, Int.reduceMul, Int.reduceNeg, Int.reduceEq, Int.reduceNe, Nat.reduceMul, Nat.reduceSub]
    exact ⟨.sh, m, rfl, .inr rfl, h8, hc⟩
end Go.Proofs.Ytpdajkbfemcdlaa
/- The law MsgOwn: a copy's cells lie apart. -/
set_option linter.unusedSimpArgs false
set_option linter.unusedVariables false
set_option maxRecDepth 10000
namespace Go.Proofs.Ytpdajkbfemcdlaa
open Go.Ge
theorem ne_cell {a b : Cell} (he : a ≠ b) : (decide (a.X = b.X) && decide (a.Y = b.Y)) = false := by
  rw [Bool.and_eq_false_iff, decide_eq_false_iff_not, decide_eq_false_iff_not]
  refine Classical.byContradiction fun hh => he ?_
  have h1 : a.X = b.X := Classical.byContradiction fun h => hh (.inl h)
  have h2 : a.Y = b.Y := Classical.byContradiction fun h => hh (.inr h)
  cases a; cases b; simp only at h1 h2; rw [h1, h2]
theorem EqualCellR_ok (o1 : Own) (a b : List Cell) (id cap : Nat) (rest : List AVal) (h1 : Rdo o1) (hl : a.length < 4611686018427387904) (hl2 : b.length < 4611686018427387904) (h : List HObj) (hid : b ≠ [] → h[id]? = some (.cells (flatC b ++ rest))) :
    ACalls Try.prog F.slices_Equal_Cell [.lst o1 (cellsA a), .ref id 0 b.length cap] h (fun r h' => r = .bool (decide (a = b)) ∧ h' = h) := by
  refine ACalls.of_aw Try.func123 K.slices_Equal_CellR (by simp [Try.f123]) ?_
  generalize hQ : retQ R.slices_Equal_CellR _ = Q
  simp (disch := first | assumption | omega) only [C.slices_Equal_CellR, go_sem, ↓reduceIte, Nat.reduceEqDiff, reduceCtorEq, Nat.reduceAdd, Nat.reduceLeDiff, Nat.reduceLT, reduceIte, Int.reduceBEq, Int.reduceBNe, Int.reduceLT, Int.reduceLE, Int.reduceAdd, Int.reduceSub, Int.reduceMul, Int.reduceNeg, Int.reduceEq, Int.reduceNe, Nat.reduceMul, Nat.reduceSub]
  by_cases he : a.length = b.length
  · simp (disch := first | assumption | omega) only [he, go_sem, ↓reduceIte, Nat.reduceEqDiff, reduceCtorEq, Nat.reduceAdd, Nat.reduceLeDiff, Nat.reduceLT, reduceIte, Int.reduceBEq, Int.reduceBNe, Int.reduceLT, Int.reduceLE, Int.reduceAdd, Int.reduceSub, Int.reduceMul, Int.reduceNeg, Int.reduceEq, Int.reduceNe, Nat.reduceMul, Nat.reduceSub]
    refine aw_count (fun d S => ∃ (i : Nat), i + d = b.length ∧ S.env 13 = .int .i64 i ∧ S.env 12 = .int .i64 b.length ∧ S.env 0 = .lst o1 (cellsA a) ∧ S.env 1 = .ref id 0 b.length cap ∧ a.take i = b.take i ∧ S.heap = h) (n := b.length)
      ⟨0, by omega, by simp (disch := first | assumption | omega) only [go_sem, ↓reduceIte, Nat.reduceEqDiff, reduceCtorEq, Nat.reduceAdd, Nat.reduceLeDiff, Nat.reduceLT, reduceIte, Int.reduceBEq, Int.reduceBNe, Int.reduceLT, Int.reduceLE, Int.reduceAdd, Int.reduceSub, Int.reduceMul, Int.reduceNeg, Int.reduceEq, Int.reduceNe, Nat.reduceMul, Nat.reduceSub], by simp (disch := first | assumption | omega) only [he, go_sem, ↓reduceIte, Nat.reduceEqDiff, reduceCtorEq, Nat.reduceAdd, Nat.reduceLeDiff, Nat.reduceLT, reduceIte, Int.reduceBEq, Int.reduceBNe, Int.reduceLT, Int.reduceLE, Int.reduceAdd, Int.reduceSub, Int.reduceMul, Int.reduceNeg, Int.reduceEq, Int.reduceNe, Nat.reduceMul, Nat.reduceSub], by simp (disch := first | assumption | omega) only [go_sem, ↓reduceIte, Nat.reduceEqDiff, reduceCtorEq, Nat.reduceAdd, Nat.reduceLeDiff, Nat.reduceLT, reduceIte, Int.reduceBEq, Int.reduceBNe, Int.reduceLT, Int.reduceLE, Int.reduceAdd, Int.reduceSub, Int.reduceMul, Int.reduceNeg, Int.reduceEq, Int.reduceNe, Nat.reduceMul, Nat.reduceSub], by simp (disch := first | assumption | omega) only [go_sem, ↓reduceIte, Nat.reduceEqDiff, reduceCtorEq, Nat.reduceAdd, Nat.reduceLeDiff, Nat.reduceLT, reduceIte, Int.reduceBEq, Int.reduceBNe, Int.reduceLT, Int.reduceLE, Int.reduceAdd, Int.reduceSub, Int.reduceMul, Int.reduceNeg, Int.reduceEq, Int.reduceNe, Nat.reduceMul, Nat.reduceSub], by simp, by simp (disch := first | assumption | omega) only [go_sem, ↓reduceIte, Nat.reduceEqDiff, reduceCtorEq, Nat.reduceAdd, Nat.reduceLeDiff, Nat.reduceLT, reduceIte, Int.reduceBEq, Int.reduceBNe, Int.reduceLT, Int.reduceLE, Int.reduceAdd, Int.reduceSub, Int.reduceMul, Int.reduceNeg, Int.reduceEq, Int.reduceNe, Nat.reduceMul, Nat.reduceSub]⟩ ?_
    rintro d S ⟨i, hi, e13, e12, e0, e1, ht, eh⟩
    simp (disch := first | assumption | omega) only [e13, e12, e0, e1, eh, go_sem, ↓reduceIte, Nat.reduceEqDiff, reduceCtorEq, Nat.reduceAdd, Nat.reduceLeDiff, Nat.reduceLT, reduceIte, Int.reduceBEq, Int.reduceBNe, Int.reduceLT, Int.reduceLE, Int.reduceAdd, Int.reduceSub, Int.reduceMul, Int.reduceNeg, Int.reduceEq, Int.reduceNe, Nat.reduceMul, Nat.reduceSub]
    refine condG_if (fun hlt => ?_) fun hge => ?_
    · have hlt1 : i < a.length := by omega
      have hlt2 : i < b.length := by omega
      have hat1 := at_cells hlt1
      have q1 := flatC_get (l := b) (j := i) (rest := rest) hlt2
      have hget := hid (by rintro rfl; simp at hlt2)
      have hfl := flatC_length b
      have hb1 : i * 2 + 2 ≤ (flatC b).length + rest.length := by omega
      by_cases hc : a[i] = b[i]
      · have hx : a[i].X = b[i].X := by rw [hc]
        have hy : a[i].Y = b[i].Y := by rw [hc]
        simp (disch := first | assumption | omega) only [e13, e12, e0, e1, eh, hat1, cellA, hlt1, hlt2, q1, hget, hb1, hx, hy, go_sem, ↓reduceIte, Nat.reduceEqDiff, reduceCtorEq, Nat.reduceAdd, Nat.reduceLeDiff, Nat.reduceLT, reduceIte, Int.reduceBEq, Int.reduceBNe, Int.reduceLT, Int.reduceLE, Int.reduceAdd, Int.reduceSub, Int.reduceMul, Int.reduceNeg, Int.reduceEq, Int.reduceNe, Nat.reduceMul, Nat.reduceSub]
        refine ⟨d - 1, by omega, i + 1, by omega, by simp, ?_⟩
        rw [take_snoc hlt1, take_snoc hlt2, ht, hc]
      · have hce := ne_cell hc
        simp (disch := first | assumption | omega) only [e13, e12, e0, e1, eh, hat1, cellA, hlt1, hlt2, q1, hget, hb1, hce, go_sem, ↓reduceIte, Nat.reduceEqDiff, reduceCtorEq, Nat.reduceAdd, Nat.reduceLeDiff, Nat.reduceLT, reduceIte, Int.reduceBEq, Int.reduceBNe, Int.reduceLT, Int.reduceLE, Int.reduceAdd, Int.reduceSub, Int.reduceMul, Int.reduceNeg, Int.reduceEq, Int.reduceNe, Nat.reduceMul, Nat.reduceSub]
        subst hQ
        simp (disch := first | assumption | omega) only [R.slices_Equal_CellR, e13, e12, e0, e1, eh, go_sem, ↓reduceIte, Nat.reduceEqDiff, reduceCtorEq, Nat.reduceAdd, Nat.reduceLeDiff, Nat.reduceLT, reduceIte, Int.reduceBEq, Int.reduceBNe, Int.reduceLT, Int.reduceLE, Int.reduceAdd, Int.reduceSub, Int.reduceMul, Int.reduceNeg, Int.reduceEq, Int.reduceNe, Nat.reduceMul, Nat.reduceSub]
        rw [decide_eq_false (fun e => hc (Option.some.inj (by rw [← List.getElem?_eq_getElem hlt1, ← List.getElem?_eq_getElem hlt2, e])))]
    · obtain rfl : i = b.length := by omega
      simp (disch := first | assumption | omega) only [e13, e12, e0, e1, eh, go_sem, ↓reduceIte, Nat.reduceEqDiff, reduceCtorEq, Nat.reduceAdd, Nat.reduceLeDiff, Nat.reduceLT, reduceIte, Int.reduceBEq, Int.reduceBNe, Int.reduceLT, Int.reduceLE, Int.reduceAdd, Int.reduceSub, Int.reduceMul, Int.reduceNeg, Int.reduceEq, Int.reduceNe, Nat.reduceMul, Nat.reduceSub]
      subst hQ
      simp (disch := first | assumption | omega) only [R.slices_Equal_CellR, e13, e12, e0, e1, eh, go_sem, ↓reduceIte, Nat.reduceEqDiff, reduceCtorEq, Nat.reduceAdd, Nat.reduceLeDiff, Nat.reduceLT, reduceIte, Int.reduceBEq, Int.reduceBNe, Int.reduceLT, Int.reduceLE, Int.reduceAdd, Int.reduceSub, Int.reduceMul, Int.reduceNeg, Int.reduceEq, Int.reduceNe, Nat.reduceMul, Nat.reduceSub]
      rw [List.take_length, ← he, List.take_length] at ht
      rw [decide_eq_true ht]
  · have hd : ¬((a.length : Int) = b.length) := by omega
    simp (disch := first | assumption | omega) only [hd, go_sem, ↓reduceIte, Nat.reduceEqDiff, reduceCtorEq, Nat.reduceAdd, Nat.reduceLeDiff, Nat.reduceLT, reduceIte, Int.reduceBEq, Int.reduceBNe, Int.reduceLT, Int.reduceLE, Int.reduceAdd, Int.reduceSub, Int.reduceMul, Int.reduceNeg, Int.reduceEq, Int.reduceNe, Nat.reduceMul, Nat.reduceSub]
    subst hQ
    simp (disch := first | assumption | omega) only [R.slices_Equal_CellR, go_sem, ↓reduceIte, Nat.reduceEqDiff, reduceCtorEq, Nat.reduceAdd, Nat.reduceLeDiff, Nat.reduceLT, reduceIte, Int.reduceBEq, Int.reduceBNe, Int.reduceLT, Int.reduceLE, Int.reduceAdd, Int.reduceSub, Int.reduceMul, Int.reduceNeg, Int.reduceEq, Int.reduceNe, Nat.reduceMul, Nat.reduceSub]
    have hab : ¬ a = b := fun e => he (congrArg List.length e)
    rw [decide_eq_false hab]
/-- What a clone is: its cells lie in an object of their own. -/
def Cloned (l : List Cell) (h : List HObj) (x : AVal) (h' : List HObj) : Prop :=
  x = .lst .nil [] ∧ l = [] ∧ h' = h ∨ x = .ref 0 0 0 0 ∧ l = [] ∧ h' = h ∨ l ≠ [] ∧ ∃ cap, l.length ≤ cap ∧ x = .ref h.length 0 l.length cap ∧ h' = h ++ [.cells (flatC l ++ List.replicate ((cap - l.length) * 2) .junk)]
theorem CloneCellR_ok (o : Own) (l : List Cell) (ho : Rdn o l) (hl : l.length * 16 ≤ 140737488355328) (h : List HObj) :
    ACalls Try.prog F.slices_Clone_Cell [.lst o (cellsA l)] h (fun r h' => Cloned l h r h') := by
  have h1 := ho.1
  have lc : (cellsA l).length = l.length := by simp [cellsA]
  refine ACalls.of_aw Try.func148 K.slices_Clone_CellR (by simp [Try.f148]) ?_
  generalize hQ : retQ R.slices_Clone_CellR _ = Q
  simp (disch := first | assumption | omega) only [C.slices_Clone_CellR, go_sem, ↓reduceIte, Nat.reduceEqDiff, reduceCtorEq, Nat.reduceAdd, Nat.reduceLeDiff, Nat.reduceLT, reduceIte, Int.reduceBEq, Int.reduceBNe, Int.reduceLT, Int.reduceLE, Int.reduceAdd, Int.reduceSub, Int.reduceMul, Int.reduceNeg, Int.reduceEq, Int.reduceNe, Nat.reduceMul, Nat.reduceSub]
  refine aops_isnilR (o := o) (xs := cellsA l) (by simp (disch := first | assumption | omega) only [go_sem, ↓reduceIte, Nat.reduceEqDiff, reduceCtorEq, Nat.reduceAdd, Nat.reduceLeDiff, Nat.reduceLT, reduceIte, Int.reduceBEq, Int.reduceBNe, Int.reduceLT, Int.reduceLE, Int.reduceAdd, Int.reduceSub, Int.reduceMul, Int.reduceNeg, Int.reduceEq, Int.reduceNe, Nat.reduceMul, Nat.reduceSub]) h1 (fun e => by rw [ho.2 e]; rfl) fun b hb => ?_
  cases b
  · simp (disch := first | assumption | omega) only [aops_hop, hstep, srcH, srcW, flatC_cells, flatC_rdc, lc, go_sem, ↓reduceIte, Nat.reduceEqDiff, reduceCtorEq, Nat.reduceAdd, Nat.reduceLeDiff, Nat.reduceLT, reduceIte, Int.reduceBEq, Int.reduceBNe, Int.reduceLT, Int.reduceLE, Int.reduceAdd, Int.reduceSub, Int.reduceMul, Int.reduceNeg, Int.reduceEq, Int.reduceNe, Nat.reduceMul, Nat.reduceSub]
    refine ⟨cellsA_width l, by omega, by omega, fun h0 => ?_, fun _ _ => by omega, fun h0 _ cap hc _ => ?_⟩
    · have : l = [] := List.eq_nil_of_length_eq_zero h0
      subst this
      subst hQ
      simp (disch := first | assumption | omega) only [R.slices_Clone_CellR, go_sem, ↓reduceIte, Nat.reduceEqDiff, reduceCtorEq, Nat.reduceAdd, Nat.reduceLeDiff, Nat.reduceLT, reduceIte, Int.reduceBEq, Int.reduceBNe, Int.reduceLT, Int.reduceLE, Int.reduceAdd, Int.reduceSub, Int.reduceMul, Int.reduceNeg, Int.reduceEq, Int.reduceNe, Nat.reduceMul, Nat.reduceSub]
      exact .inr (.inl ⟨rfl, rfl, rfl⟩)
    · simp (disch := first | assumption | omega) only [flatC_cells, flatC_rdc, go_sem, ↓reduceIte, Nat.reduceEqDiff, reduceCtorEq, Nat.reduceAdd, Nat.reduceLeDiff, Nat.reduceLT, reduceIte, Int.reduceBEq, Int.reduceBNe, Int.reduceLT, Int.reduceLE, Int.reduceAdd, Int.reduceSub, Int.reduceMul, Int.reduceNeg, Int.reduceEq, Int.reduceNe, Nat.reduceMul, Nat.reduceSub]
      subst hQ
      simp (disch := first | assumption | omega) only [R.slices_Clone_CellR, go_sem, ↓reduceIte, Nat.reduceEqDiff, reduceCtorEq, Nat.reduceAdd, Nat.reduceLeDiff, Nat.reduceLT, reduceIte, Int.reduceBEq, Int.reduceBNe, Int.reduceLT, Int.reduceLE, Int.reduceAdd, Int.reduceSub, Int.reduceMul, Int.reduceNeg, Int.reduceEq, Int.reduceNe, Nat.reduceMul, Nat.reduceSub]
      exact .inr (.inr ⟨fun e => h0 (by rw [e]; rfl), cap, by omega, rfl, rfl⟩)
  · have : l = [] := by
      refine Classical.byContradiction fun h0 => ?_
      have := hb (by simpa [cellsA] using h0)
      cases this
    subst this
    simp (disch := first | assumption | omega) only [go_sem, ↓reduceIte, Nat.reduceEqDiff, reduceCtorEq, Nat.reduceAdd, Nat.reduceLeDiff, Nat.reduceLT, reduceIte, Int.reduceBEq, Int.reduceBNe, Int.reduceLT, Int.reduceLE, Int.reduceAdd, Int.reduceSub, Int.reduceMul, Int.reduceNeg, Int.reduceEq, Int.reduceNe, Nat.reduceMul, Nat.reduceSub]
    subst hQ
    simp (disch := first | assumption | omega) only [R.slices_Clone_CellR, go_sem, ↓reduceIte, Nat.reduceEqDiff, reduceCtorEq, Nat.reduceAdd, Nat.reduceLeDiff, Nat.reduceLT, reduceIte, Int.reduceBEq, Int.reduceBNe, Int.reduceLT, Int.reduceLE, Int.reduceAdd, Int.reduceSub, Int.reduceMul, Int.reduceNeg, Int.reduceEq, Int.reduceNe, Nat.reduceMul, Nat.reduceSub]
    exact .inl ⟨rfl, rfl, rfl⟩
/-- A message whose cells are held as x. -/
def msgX (m : Msg) (x : AVal) : AVal := .agg [.int .i64 m.Kind, .int .i64 m.From, .int .i64 m.To, .int .i64 m.Seq, .int .u32 m.Clock, x]
theorem CopyR_ok (o : Own) (m : Msg) (ho : Rdn o m.Cells) (hl : m.Cells.length * 16 ≤ 140737488355328) (h : List HObj) :
    ACalls Try.prog F.msg_Copy [msgA o m] h (fun v h' => ∃ x, v = msgX m x ∧ Cloned m.Cells h x h') := by
  have ho1 := ho.1
  refine ACalls.of_aw Try.func49 K.msg_Copy (by simp [Try.f49]) ?_
  generalize hQ : retQ R.msg_Copy _ = Q
  simp (disch := first | assumption | omega) only [C.msg_Copy, go_sem, ↓reduceIte, Nat.reduceEqDiff, reduceCtorEq, Nat.reduceAdd, Nat.reduceLeDiff, Nat.reduceLT, reduceIte, Int.reduceBEq, Int.reduceBNe, Int.reduceLT, Int.reduceLE, Int.reduceAdd, Int.reduceSub, Int.reduceMul, Int.reduceNeg, Int.reduceEq, Int.reduceNe, Nat.reduceMul, Nat.reduceSub]
  simp (disch := first | assumption | omega) only [msgA, msgC, go_sem, ↓reduceIte, Nat.reduceEqDiff, reduceCtorEq, Nat.reduceAdd, Nat.reduceLeDiff, Nat.reduceLT, reduceIte, Int.reduceBEq, Int.reduceBNe, Int.reduceLT, Int.reduceLE, Int.reduceAdd, Int.reduceSub, Int.reduceMul, Int.reduceNeg, Int.reduceEq, Int.reduceNe, Nat.reduceMul, Nat.reduceSub]
  refine callG_ok (CloneCellR_ok o m.Cells ho hl _) (by simp (disch := first | assumption | omega) only [msgC, go_sem, ↓reduceIte, Nat.reduceEqDiff, reduceCtorEq, Nat.reduceAdd, Nat.reduceLeDiff, Nat.reduceLT, reduceIte, Int.reduceBEq, Int.reduceBNe, Int.reduceLT, Int.reduceLE, Int.reduceAdd, Int.reduceSub, Int.reduceMul, Int.reduceNeg, Int.reduceEq, Int.reduceNe, Nat.reduceMul, Nat.reduceSub]) ?_
  rintro r h' hcl
  rcases hcl with ⟨rfl, hn, rfl⟩ | ⟨rfl, hn, rfl⟩ | ⟨hn, cap, hc, rfl, rfl⟩
  · simp (disch := first | assumption | omega) only [msgC, go_sem, ↓reduceIte, Nat.reduceEqDiff, reduceCtorEq, Nat.reduceAdd, Nat.reduceLeDiff, Nat.reduceLT, reduceIte, Int.reduceBEq, Int.reduceBNe, Int.reduceLT, Int.reduceLE, Int.reduceAdd, Int.reduceSub, Int.reduceMul, Int.reduceNeg, Int.reduceEq, Int.reduceNe, Nat.reduceMul, Nat.reduceSub]
    subst hQ
    simp (disch := first | assumption | omega) only [R.msg_Copy, go_sem, ↓reduceIte, Nat.reduceEqDiff, reduceCtorEq, Nat.reduceAdd, Nat.reduceLeDiff, Nat.reduceLT, reduceIte, Int.reduceBEq, Int.reduceBNe, Int.reduceLT, Int.reduceLE, Int.reduceAdd, Int.reduceSub, Int.reduceMul, Int.reduceNeg, Int.reduceEq, Int.reduceNe, Nat.reduceMul, Nat.reduceSub]
    exact ⟨_, rfl, .inl ⟨rfl, hn, rfl⟩⟩
  · simp (disch := first | assumption | omega) only [msgC, go_sem, ↓reduceIte, Nat.reduceEqDiff, reduceCtorEq, Nat.reduceAdd, Nat.reduceLeDiff, Nat.reduceLT, reduceIte, Int.reduceBEq, Int.reduceBNe, Int.reduceLT, Int.reduceLE, Int.reduceAdd, Int.reduceSub, Int.reduceMul, Int.reduceNeg, Int.reduceEq, Int.reduceNe, Nat.reduceMul, Nat.reduceSub]
    subst hQ
    simp (disch := first | assumption | omega) only [R.msg_Copy, go_sem, ↓reduceIte, Nat.reduceEqDiff, reduceCtorEq, Nat.reduceAdd, Nat.reduceLeDiff, Nat.reduceLT, reduceIte, Int.reduceBEq, Int.reduceBNe, Int.reduceLT, Int.reduceLE, Int.reduceAdd, Int.reduceSub, Int.reduceMul, Int.reduceNeg, Int.reduceEq, Int.reduceNe, Nat.reduceMul, Nat.reduceSub]
    exact ⟨_, rfl, .inr (.inl ⟨rfl, hn, rfl⟩)⟩
  · simp (disch := first | assumption | omega) only [msgC, go_sem, ↓reduceIte, Nat.reduceEqDiff, reduceCtorEq, Nat.reduceAdd, Nat.reduceLeDiff, Nat.reduceLT, reduceIte, Int.reduceBEq, Int.reduceBNe, Int.reduceLT, Int.reduceLE, Int.reduceAdd, Int.reduceSub, Int.reduceMul, Int.reduceNeg, Int.reduceEq, Int.reduceNe, Nat.reduceMul, Nat.reduceSub]
    subst hQ
    simp (disch := first | assumption | omega) only [R.msg_Copy, go_sem, ↓reduceIte, Nat.reduceEqDiff, reduceCtorEq, Nat.reduceAdd, Nat.reduceLeDiff, Nat.reduceLT, reduceIte, Int.reduceBEq, Int.reduceBNe, Int.reduceLT, Int.reduceLE, Int.reduceAdd, Int.reduceSub, Int.reduceMul, Int.reduceNeg, Int.reduceEq, Int.reduceNe, Nat.reduceMul, Nat.reduceSub]
    exact ⟨_, rfl, .inr (.inr ⟨hn, cap, hc, rfl, rfl⟩)⟩
theorem SameR_ok (o1 : Own) (m : Msg) (l : List Cell) (id cap : Nat) (rest : List AVal) (h1 : Rdo o1) (hl : m.Cells.length < 4611686018427387904) (hl2 : l.length < 4611686018427387904) (h : List HObj) (hid : l ≠ [] → h[id]? = some (.cells (flatC l ++ rest))) :
    ACalls Try.prog F.msg_Same [msgA o1 m, msgX m (.ref id 0 l.length cap)] h (fun r h' => r = .bool (decide (m.Cells = l)) ∧ h' = h) := by
  refine ACalls.of_aw Try.func47 K.msg_Same (by simp [Try.f47]) ?_
  generalize hQ : retQ R.msg_Same _ = Q
  simp (disch := first | assumption | omega) only [C.msg_Same, go_sem, ↓reduceIte, Nat.reduceEqDiff, reduceCtorEq, Nat.reduceAdd, Nat.reduceLeDiff, Nat.reduceLT, reduceIte, Int.reduceBEq, Int.reduceBNe, Int.reduceLT, Int.reduceLE, Int.reduceAdd, Int.reduceSub, Int.reduceMul, Int.reduceNeg, Int.reduceEq, Int.reduceNe, Nat.reduceMul, Nat.reduceSub]
  simp (disch := first | assumption | omega) only [msgA, msgC, msgX, go_sem, ↓reduceIte, Nat.reduceEqDiff, reduceCtorEq, Nat.reduceAdd, Nat.reduceLeDiff, Nat.reduceLT, reduceIte, Int.reduceBEq, Int.reduceBNe, Int.reduceLT, Int.reduceLE, Int.reduceAdd, Int.reduceSub, Int.reduceMul, Int.reduceNeg, Int.reduceEq, Int.reduceNe, Nat.reduceMul, Nat.reduceSub]
  refine callG_ok (EqualCellR_ok o1 m.Cells l id cap rest h1 hl hl2 h hid) (by simp (disch := first | assumption | omega) only [go_sem, ↓reduceIte, Nat.reduceEqDiff, reduceCtorEq, Nat.reduceAdd, Nat.reduceLeDiff, Nat.reduceLT, reduceIte, Int.reduceBEq, Int.reduceBNe, Int.reduceLT, Int.reduceLE, Int.reduceAdd, Int.reduceSub, Int.reduceMul, Int.reduceNeg, Int.reduceEq, Int.reduceNe, Nat.reduceMul, Nat.reduceSub]) ?_
  rintro _ _ ⟨rfl, hhh⟩
  rw [hhh]
  clear hhh
  simp (disch := first | assumption | omega) only [go_sem, ↓reduceIte, Nat.reduceEqDiff, reduceCtorEq, Nat.reduceAdd, Nat.reduceLeDiff, Nat.reduceLT, reduceIte, Int.reduceBEq, Int.reduceBNe, Int.reduceLT, Int.reduceLE, Int.reduceAdd, Int.reduceSub, Int.reduceMul, Int.reduceNeg, Int.reduceEq, Int.reduceNe, Nat.reduceMul, Nat.reduceSub]
  subst hQ
  simp (disch := first | assumption | omega) only [R.msg_Same, go_sem, ↓reduceIte, Nat.reduceEqDiff, reduceCtorEq, Nat.reduceAdd, Nat.reduceLeDiff, Nat.reduceLT, reduceIte, Int.reduceBEq, Int.reduceBNe, Int.reduceLT, Int.reduceLE, Int.reduceAdd, Int.reduceSub, Int.reduceMul, Int.reduceNeg, Int.reduceEq, Int.reduceNe, Nat.reduceMul, Nat.reduceSub]
theorem flatC_getY {l : List Cell} {j : Nat} {rest : List AVal} (h : j < l.length) : (flatC l ++ rest).getD (j * 2 + 1) .junk = .int .i64 l[j].Y := by
  have := congrArg (fun x => x[1]?) (flatC_get (rest := rest) h)
  simp only [List.getElem?_take, List.getElem?_drop] at this
  rw [List.getD_eq_getElem?_getD]
  have e : (flatC l ++ rest)[j * 2 + 1]? = some (.int .i64 l[j].Y) := by simpa using this
  rw [e]; rfl
theorem flatC_setY {l : List Cell} {j : Nat} {rest : List AVal} {y : Int} (h : j < l.length) : fillV (flatC l ++ rest) (j * 2 + 1) [.int .i64 y] = flatC (l.set j ⟨l[j].X, y⟩) ++ rest := by
  have hl : (flatC (l.take j)).length = j * 2 := by rw [flatC_length, List.length_take]; omega
  have e1 : flatC (l.set j ⟨l[j].X, y⟩) = flatC (l.take j) ++ ([.int .i64 l[j].X, .int .i64 y] ++ flatC (l.drop (j + 1))) := by
    rw [List.set_eq_take_append_cons_drop, if_pos h, flatC_append]; rfl
  rw [e1, flatC_split h]
  generalize flatC (l.take j) = A at *
  generalize flatC (l.drop (j + 1)) = B at *
  unfold fillV
  have e2 : A ++ ([AVal.int .i64 l[j].X, AVal.int .i64 l[j].Y] ++ B) ++ rest = (A ++ [AVal.int .i64 l[j].X]) ++ (AVal.int .i64 l[j].Y :: (B ++ rest)) := by simp
  have e3 : A ++ ([AVal.int .i64 l[j].X, AVal.int .i64 l[j].Y] ++ B) ++ rest = (A ++ [AVal.int .i64 l[j].X, AVal.int .i64 l[j].Y]) ++ (B ++ rest) := by simp
  have t1 : (A ++ ([AVal.int .i64 l[j].X, AVal.int .i64 l[j].Y] ++ B) ++ rest).take (j * 2 + 1) = A ++ [AVal.int .i64 l[j].X] := by rw [e2, List.take_left' (by simp [hl])]
  have t2 : (A ++ ([AVal.int .i64 l[j].X, AVal.int .i64 l[j].Y] ++ B) ++ rest).drop (j * 2 + 1 + [AVal.int .i64 y].length) = B ++ rest := by rw [e3, List.drop_left' (by simp [hl])]
  rw [t1, t2]
  simp
def up (c : Cell) : Cell := ⟨c.X, c.Y + 1⟩
def bump (l : List Cell) (i : Nat) : List Cell := (l.take i).map up ++ l.drop i
theorem bump_length (l : List Cell) (i : Nat) : (bump l i).length = l.length := by simp [bump]; omega
theorem bump_get {l : List Cell} {i : Nat} (h : i < l.length) (h' : i < (bump l i).length) : (bump l i)[i] = l[i] := by
  have : (bump l i)[i]? = l[i]? := by
    unfold bump
    rw [List.getElem?_append_right (by simp; omega)]
    simp [Nat.min_eq_left (Nat.le_of_lt h)]
  rw [List.getElem?_eq_getElem h, List.getElem?_eq_getElem h'] at this
  exact Option.some.inj this
theorem bump_step {l : List Cell} {i : Nat} (h : i < l.length) : (bump l i).set i (up l[i]) = bump l (i + 1) := by
  unfold bump
  have hl : ((l.take i).map up).length = i := by simp; omega
  rw [List.set_append_right _ _ (by omega), hl, Nat.sub_self, List.drop_eq_getElem_cons h, List.set_cons_zero, take_snoc h, List.map_append, List.append_assoc]
  rfl
theorem bump_end (l : List Cell) : bump l l.length = l.map up := by simp [bump]
theorem up_ne {l : List Cell} (h : l ≠ []) : l ≠ l.map up := by
  cases l with
  | nil => exact absurd rfl h
  | cons c l =>
    intro e
    have := congrArg Cell.Y (List.cons.inj e).1
    simp only [up] at this; omega
end Go.Proofs.Ytpdajkbfemcdlaa
/- The law MsgOwn. -/
set_option linter.unusedSimpArgs false
set_option linter.unusedVariables false
set_option maxRecDepth 10000
namespace Go.Proofs.Ytpdajkbfemcdlaa
open Go.Ge
theorem MsgOwn_law (o : Own) (l : List Int) (ho : Rdo o) (hl : ∀ c ∈ l, inI64 c) :
    ACalls Try.prog F.gantkeep5_MsgOwn [.lst o (ints .i64 l)] [] (fun r _ => r = .bool true) := by
  refine ACalls.of_aw Try.func11 K.gantkeep5_MsgOwn (by simp [Try.f11]) ?_
  generalize hQ : retQ R.gantkeep5_MsgOwn _ = Q
  simp (disch := first | assumption | omega) only [C.gantkeep5_MsgOwn, go_sem, ↓reduceIte, Nat.reduceEqDiff, reduceCtorEq, Nat.reduceAdd, Nat.reduceLeDiff, Nat.reduceLT, reduceIte, Int.reduceBEq, Int.reduceBNe, Int.reduceLT, Int.reduceLE, Int.reduceAdd, Int.reduceSub, Int.reduceMul, Int.reduceNeg, Int.reduceEq, Int.reduceNe, Nat.reduceMul, Nat.reduceSub]
  refine callG_ok (CopyR_ok .sh ⟨0, 0, 4, 0, 0, [⟨1, 0⟩]⟩ ⟨.inl rfl, fun e => by cases e⟩ (by simp) _) (by simp (disch := first | assumption | omega) only [go_sem, ↓reduceIte, Nat.reduceEqDiff, reduceCtorEq, Nat.reduceAdd, Nat.reduceLeDiff, Nat.reduceLT, reduceIte, Int.reduceBEq, Int.reduceBNe, Int.reduceLT, Int.reduceLE, Int.reduceAdd, Int.reduceSub, Int.reduceMul, Int.reduceNeg, Int.reduceEq, Int.reduceNe, Nat.reduceMul, Nat.reduceSub]) ?_
  rintro _ _ ⟨x, rfl, hx⟩
  rcases hx with ⟨_, hn, _⟩ | ⟨_, hn, _⟩ | ⟨_, cap, hc, rfl, rfl⟩
  · cases hn
  · cases hn
  have c1 : ((1 : Nat) : Int) = 1 := rfl
  have hat0 : at_ [AVal.agg [.int .i64 1, .int .i64 0]] 0 = .agg [.int .i64 1, .int .i64 0] := rfl
  simp (disch := first | assumption | omega) only [msgX, c1, go_sem, ↓reduceIte, Nat.reduceEqDiff, reduceCtorEq, Nat.reduceAdd, Nat.reduceLeDiff, Nat.reduceLT, reduceIte, Int.reduceBEq, Int.reduceBNe, Int.reduceLT, Int.reduceLE, Int.reduceAdd, Int.reduceSub, Int.reduceMul, Int.reduceNeg, Int.reduceEq, Int.reduceNe, Nat.reduceMul, Nat.reduceSub]
  refine ⟨by rw [flatC_length]; simp only [List.length_cons, List.length_nil]; omega, ?_⟩
  refine callG_ok (message_ok o l ho hl _) (by simp (disch := first | assumption | omega) only [go_sem, ↓reduceIte, Nat.reduceEqDiff, reduceCtorEq, Nat.reduceAdd, Nat.reduceLeDiff, Nat.reduceLT, reduceIte, Int.reduceBEq, Int.reduceBNe, Int.reduceLT, Int.reduceLE, Int.reduceAdd, Int.reduceSub, Int.reduceMul, Int.reduceNeg, Int.reduceEq, Int.reduceNe, Nat.reduceMul, Nat.reduceSub]) ?_
  rintro _ _ ⟨⟨q, m, rfl, hq, h8, hcl, hcb⟩, hhh⟩
  rw [hhh]
  clear hhh
  have hqn : Rdn q m.Cells := by rcases hq with ⟨rfl, hq⟩ | rfl; exact ⟨.inr rfl, fun _ => hq⟩; exact ⟨.inl rfl, fun e => by cases e⟩
  have hq1 := hqn.1
  obtain ⟨mk, mf, mt, ms, mc, cs⟩ := m
  simp only at h8 hcb
  have hcb := hcb
  simp (disch := first | assumption | omega) only [msgA, msgC, msgX, c1, go_sem, ↓reduceIte, Nat.reduceEqDiff, reduceCtorEq, Nat.reduceAdd, Nat.reduceLeDiff, Nat.reduceLT, reduceIte, Int.reduceBEq, Int.reduceBNe, Int.reduceLT, Int.reduceLE, Int.reduceAdd, Int.reduceSub, Int.reduceMul, Int.reduceNeg, Int.reduceEq, Int.reduceNe, Nat.reduceMul, Nat.reduceSub]
  generalize hZ : fillV (flatC [({ X := 1, Y := 0 } : Cell)] ++ List.replicate ((cap - 1) * 2) AVal.junk) 0 [AVal.int .i64 9] = Z
  refine callG_ok (CopyR_ok q ⟨mk, mf, mt, ms, mc, cs⟩ hqn (by simp only; omega) _) (by simp (disch := first | assumption | omega) only [go_sem, ↓reduceIte, Nat.reduceEqDiff, reduceCtorEq, Nat.reduceAdd, Nat.reduceLeDiff, Nat.reduceLT, reduceIte, Int.reduceBEq, Int.reduceBNe, Int.reduceLT, Int.reduceLE, Int.reduceAdd, Int.reduceSub, Int.reduceMul, Int.reduceNeg, Int.reduceEq, Int.reduceNe, Nat.reduceMul, Nat.reduceSub]) ?_
  rintro _ _ ⟨x, rfl, hx⟩
  rcases hx with ⟨rfl, hn, rfl⟩ | ⟨rfl, hn, rfl⟩ | ⟨hn, cap2, hc2, rfl, rfl⟩
  · obtain rfl : cs = [] := hn
    simp (disch := first | assumption | omega) only [msgA, msgC, msgX, c1, go_sem, ↓reduceIte, Nat.reduceEqDiff, reduceCtorEq, Nat.reduceAdd, Nat.reduceLeDiff, Nat.reduceLT, reduceIte, Int.reduceBEq, Int.reduceBNe, Int.reduceLT, Int.reduceLE, Int.reduceAdd, Int.reduceSub, Int.reduceMul, Int.reduceNeg, Int.reduceEq, Int.reduceNe, Nat.reduceMul, Nat.reduceSub]
    refine callG_ok (Same_ok q .nil ⟨mk, mf, mt, ms, mc, []⟩ ⟨mk, mf, mt, ms, mc, []⟩ hq1 (.inr rfl) (by simp) (by simp) _) (by simp (disch := first | assumption | omega) only [go_sem, ↓reduceIte, Nat.reduceEqDiff, reduceCtorEq, Nat.reduceAdd, Nat.reduceLeDiff, Nat.reduceLT, reduceIte, Int.reduceBEq, Int.reduceBNe, Int.reduceLT, Int.reduceLE, Int.reduceAdd, Int.reduceSub, Int.reduceMul, Int.reduceNeg, Int.reduceEq, Int.reduceNe, Nat.reduceMul, Nat.reduceSub]) ?_
    rintro _ _ ⟨rfl, hhh⟩
    rw [hhh]
    clear hhh
    rw [decide_eq_true rfl]
    simp (disch := first | assumption | omega) only [msgA, msgC, msgX, c1, go_sem, ↓reduceIte, Nat.reduceEqDiff, reduceCtorEq, Nat.reduceAdd, Nat.reduceLeDiff, Nat.reduceLT, reduceIte, Int.reduceBEq, Int.reduceBNe, Int.reduceLT, Int.reduceLE, Int.reduceAdd, Int.reduceSub, Int.reduceMul, Int.reduceNeg, Int.reduceEq, Int.reduceNe, Nat.reduceMul, Nat.reduceSub]
    refine aw_count (fun d S => S.env 32 = .int .i64 0 ∧ S.env 31 = .int .i64 0 ∧ S.env 7 = .bool true ∧ S.env 3 = .box 3 0 ∧ S.boxes 3 = some [.int .i64 0, .int .i64 0, .int .i64 4, .int .i64 0, .int .u32 0, .lst .sh [.agg [.int .i64 1, .int .i64 0]]] ∧ S.env 5 = .box 5 0 ∧ S.boxes 5 = some [.int .i64 mk, .int .i64 mf, .int .i64 mt, .int .i64 ms, .int .u32 mc, .lst q (cellsA [])] ∧ S.env 6 = .box 6 0 ∧ S.boxes 6 = some [.int .i64 mk, .int .i64 mf, .int .i64 mt, .int .i64 ms, .int .u32 mc, .lst .nil []] ∧ S.heap = [.cells Z]) (n := 0)
      ⟨by simp (disch := first | assumption | omega) only [go_sem, ↓reduceIte, Nat.reduceEqDiff, reduceCtorEq, Nat.reduceAdd, Nat.reduceLeDiff, Nat.reduceLT, reduceIte, Int.reduceBEq, Int.reduceBNe, Int.reduceLT, Int.reduceLE, Int.reduceAdd, Int.reduceSub, Int.reduceMul, Int.reduceNeg, Int.reduceEq, Int.reduceNe, Nat.reduceMul, Nat.reduceSub], by simp (disch := first | assumption | omega) only [go_sem, ↓reduceIte, Nat.reduceEqDiff, reduceCtorEq, Nat.reduceAdd, Nat.reduceLeDiff, Nat.reduceLT, reduceIte, Int.reduceBEq, Int.reduceBNe, Int.reduceLT, Int.reduceLE, Int.reduceAdd, Int.reduceSub, Int.reduceMul, Int.reduceNeg, Int.reduceEq, Int.reduceNe, Nat.reduceMul, Nat.reduceSub], by simp (disch := first | assumption | omega) only [go_sem, ↓reduceIte, Nat.reduceEqDiff, reduceCtorEq, Nat.reduceAdd, Nat.reduceLeDiff, Nat.reduceLT, reduceIte, Int.reduceBEq, Int.reduceBNe, Int.reduceLT, Int.reduceLE, Int.reduceAdd, Int.reduceSub, Int.reduceMul, Int.reduceNeg, Int.reduceEq, Int.reduceNe, Nat.reduceMul, Nat.reduceSub], by simp (disch := first | assumption | omega) only [go_sem, ↓reduceIte, Nat.reduceEqDiff, reduceCtorEq, Nat.reduceAdd, Nat.reduceLeDiff, Nat.reduceLT, reduceIte, Int.reduceBEq, Int.reduceBNe, Int.reduceLT, Int.reduceLE, Int.reduceAdd, Int.reduceSub, Int.reduceMul, Int.reduceNeg, Int.reduceEq, Int.reduceNe, Nat.reduceMul, Nat.reduceSub], by simp (disch := first | assumption | omega) only [go_sem, ↓reduceIte, Nat.reduceEqDiff, reduceCtorEq, Nat.reduceAdd, Nat.reduceLeDiff, Nat.reduceLT, reduceIte, Int.reduceBEq, Int.reduceBNe, Int.reduceLT, Int.reduceLE, Int.reduceAdd, Int.reduceSub, Int.reduceMul, Int.reduceNeg, Int.reduceEq, Int.reduceNe, Nat.reduceMul, Nat.reduceSub], by simp (disch := first | assumption | omega) only [go_sem, ↓reduceIte, Nat.reduceEqDiff, reduceCtorEq, Nat.reduceAdd, Nat.reduceLeDiff, Nat.reduceLT, reduceIte, Int.reduceBEq, Int.reduceBNe, Int.reduceLT, Int.reduceLE, Int.reduceAdd, Int.reduceSub, Int.reduceMul, Int.reduceNeg, Int.reduceEq, Int.reduceNe, Nat.reduceMul, Nat.reduceSub], by simp (disch := first | assumption | omega) only [go_sem, ↓reduceIte, Nat.reduceEqDiff, reduceCtorEq, Nat.reduceAdd, Nat.reduceLeDiff, Nat.reduceLT, reduceIte, Int.reduceBEq, Int.reduceBNe, Int.reduceLT, Int.reduceLE, Int.reduceAdd, Int.reduceSub, Int.reduceMul, Int.reduceNeg, Int.reduceEq, Int.reduceNe, Nat.reduceMul, Nat.reduceSub], by simp (disch := first | assumption | omega) only [go_sem, ↓reduceIte, Nat.reduceEqDiff, reduceCtorEq, Nat.reduceAdd, Nat.reduceLeDiff, Nat.reduceLT, reduceIte, Int.reduceBEq, Int.reduceBNe, Int.reduceLT, Int.reduceLE, Int.reduceAdd, Int.reduceSub, Int.reduceMul, Int.reduceNeg, Int.reduceEq, Int.reduceNe, Nat.reduceMul, Nat.reduceSub], by simp (disch := first | assumption | omega) only [go_sem, ↓reduceIte, Nat.reduceEqDiff, reduceCtorEq, Nat.reduceAdd, Nat.reduceLeDiff, Nat.reduceLT, reduceIte, Int.reduceBEq, Int.reduceBNe, Int.reduceLT, Int.reduceLE, Int.reduceAdd, Int.reduceSub, Int.reduceMul, Int.reduceNeg, Int.reduceEq, Int.reduceNe, Nat.reduceMul, Nat.reduceSub], by simp (disch := first | assumption | omega) only [go_sem, ↓reduceIte, Nat.reduceEqDiff, reduceCtorEq, Nat.reduceAdd, Nat.reduceLeDiff, Nat.reduceLT, reduceIte, Int.reduceBEq, Int.reduceBNe, Int.reduceLT, Int.reduceLE, Int.reduceAdd, Int.reduceSub, Int.reduceMul, Int.reduceNeg, Int.reduceEq, Int.reduceNe, Nat.reduceMul, Nat.reduceSub]⟩ ?_
    rintro d S ⟨e32, e31, e7, e3, x3, e5, x5, e6, x6, eh⟩
    simp (disch := first | assumption | omega) only [e32, e31, e7, e3, x3, e5, x5, e6, x6, eh, hat0, c1, go_sem, ↓reduceIte, Nat.reduceEqDiff, reduceCtorEq, Nat.reduceAdd, Nat.reduceLeDiff, Nat.reduceLT, reduceIte, Int.reduceBEq, Int.reduceBNe, Int.reduceLT, Int.reduceLE, Int.reduceAdd, Int.reduceSub, Int.reduceMul, Int.reduceNeg, Int.reduceEq, Int.reduceNe, Nat.reduceMul, Nat.reduceSub]
    refine callG_ok (Same_ok q .nil ⟨mk, mf, mt, ms, mc, []⟩ ⟨mk, mf, mt, ms, mc, []⟩ hq1 (.inr rfl) (by simp) (by simp) _) (by simp (disch := first | assumption | omega) only [msgA, msgC, msgX, go_sem, ↓reduceIte, Nat.reduceEqDiff, reduceCtorEq, Nat.reduceAdd, Nat.reduceLeDiff, Nat.reduceLT, reduceIte, Int.reduceBEq, Int.reduceBNe, Int.reduceLT, Int.reduceLE, Int.reduceAdd, Int.reduceSub, Int.reduceMul, Int.reduceNeg, Int.reduceEq, Int.reduceNe, Nat.reduceMul, Nat.reduceSub]) ?_
    rintro _ _ ⟨rfl, hhh⟩
    rw [hhh]
    clear hhh
    rw [decide_eq_true rfl]
    simp (disch := first | assumption | omega) only [e32, e31, e7, e3, x3, e5, x5, e6, x6, eh, go_sem, ↓reduceIte, Nat.reduceEqDiff, reduceCtorEq, Nat.reduceAdd, Nat.reduceLeDiff, Nat.reduceLT, reduceIte, Int.reduceBEq, Int.reduceBNe, Int.reduceLT, Int.reduceLE, Int.reduceAdd, Int.reduceSub, Int.reduceMul, Int.reduceNeg, Int.reduceEq, Int.reduceNe, Nat.reduceMul, Nat.reduceSub]
    subst hQ
    simp (disch := first | assumption | omega) only [R.gantkeep5_MsgOwn, beq_self_eq_true, go_sem, ↓reduceIte, Nat.reduceEqDiff, reduceCtorEq, Nat.reduceAdd, Nat.reduceLeDiff, Nat.reduceLT, reduceIte, Int.reduceBEq, Int.reduceBNe, Int.reduceLT, Int.reduceLE, Int.reduceAdd, Int.reduceSub, Int.reduceMul, Int.reduceNeg, Int.reduceEq, Int.reduceNe, Nat.reduceMul, Nat.reduceSub]
  · obtain rfl : cs = [] := hn
    simp (disch := first | assumption | omega) only [msgA, msgC, msgX, c1, go_sem, ↓reduceIte, Nat.reduceEqDiff, reduceCtorEq, Nat.reduceAdd, Nat.reduceLeDiff, Nat.reduceLT, reduceIte, Int.reduceBEq, Int.reduceBNe, Int.reduceLT, Int.reduceLE, Int.reduceAdd, Int.reduceSub, Int.reduceMul, Int.reduceNeg, Int.reduceEq, Int.reduceNe, Nat.reduceMul, Nat.reduceSub]
    refine callG_ok (SameR_ok q ⟨mk, mf, mt, ms, mc, []⟩ [] 0 0 [] hq1 (by simp) (by simp) _ (fun h => absurd rfl h)) (by simp (disch := first | assumption | omega) only [msgA, msgC, msgX, go_sem, ↓reduceIte, Nat.reduceEqDiff, reduceCtorEq, Nat.reduceAdd, Nat.reduceLeDiff, Nat.reduceLT, reduceIte, Int.reduceBEq, Int.reduceBNe, Int.reduceLT, Int.reduceLE, Int.reduceAdd, Int.reduceSub, Int.reduceMul, Int.reduceNeg, Int.reduceEq, Int.reduceNe, Nat.reduceMul, Nat.reduceSub]) ?_
    rintro _ _ ⟨rfl, hhh⟩
    rw [hhh]
    clear hhh
    rw [decide_eq_true rfl]
    simp (disch := first | assumption | omega) only [msgA, msgC, msgX, c1, go_sem, ↓reduceIte, Nat.reduceEqDiff, reduceCtorEq, Nat.reduceAdd, Nat.reduceLeDiff, Nat.reduceLT, reduceIte, Int.reduceBEq, Int.reduceBNe, Int.reduceLT, Int.reduceLE, Int.reduceAdd, Int.reduceSub, Int.reduceMul, Int.reduceNeg, Int.reduceEq, Int.reduceNe, Nat.reduceMul, Nat.reduceSub]
    refine aw_count (fun d S => S.env 32 = .int .i64 0 ∧ S.env 31 = .int .i64 0 ∧ S.env 7 = .bool true ∧ S.env 3 = .box 3 0 ∧ S.boxes 3 = some [.int .i64 0, .int .i64 0, .int .i64 4, .int .i64 0, .int .u32 0, .lst .sh [.agg [.int .i64 1, .int .i64 0]]] ∧ S.env 5 = .box 5 0 ∧ S.boxes 5 = some [.int .i64 mk, .int .i64 mf, .int .i64 mt, .int .i64 ms, .int .u32 mc, .lst q (cellsA [])] ∧ S.env 6 = .box 6 0 ∧ S.boxes 6 = some [.int .i64 mk, .int .i64 mf, .int .i64 mt, .int .i64 ms, .int .u32 mc, .ref 0 0 0 0] ∧ S.heap = [.cells Z]) (n := 0)
      ⟨by simp (disch := first | assumption | omega) only [go_sem, ↓reduceIte, Nat.reduceEqDiff, reduceCtorEq, Nat.reduceAdd, Nat.reduceLeDiff, Nat.reduceLT, reduceIte, Int.reduceBEq, Int.reduceBNe, Int.reduceLT, Int.reduceLE, Int.reduceAdd, Int.reduceSub, Int.reduceMul, Int.reduceNeg, Int.reduceEq, Int.reduceNe, Nat.reduceMul, Nat.reduceSub], by simp (disch := first | assumption | omega) only [go_sem, ↓reduceIte, Nat.reduceEqDiff, reduceCtorEq, Nat.reduceAdd, Nat.reduceLeDiff, Nat.reduceLT, reduceIte, Int.reduceBEq, Int.reduceBNe, Int.reduceLT, Int.reduceLE, Int.reduceAdd, Int.reduceSub, Int.reduceMul, Int.reduceNeg, Int.reduceEq, Int.reduceNe, Nat.reduceMul, Nat.reduceSub], by simp (disch := first | assumption | omega) only [go_sem, ↓reduceIte, Nat.reduceEqDiff, reduceCtorEq, Nat.reduceAdd, Nat.reduceLeDiff, Nat.reduceLT, reduceIte, Int.reduceBEq, Int.reduceBNe, Int.reduceLT, Int.reduceLE, Int.reduceAdd, Int.reduceSub, Int.reduceMul, Int.reduceNeg, Int.reduceEq, Int.reduceNe, Nat.reduceMul, Nat.reduceSub], by simp (disch := first | assumption | omega) only [go_sem, ↓reduceIte, Nat.reduceEqDiff, reduceCtorEq, Nat.reduceAdd, Nat.reduceLeDiff, Nat.reduceLT, reduceIte, Int.reduceBEq, Int.reduceBNe, Int.reduceLT, Int.reduceLE, Int.reduceAdd, Int.reduceSub, Int.reduceMul, Int.reduceNeg, Int.reduceEq, Int.reduceNe, Nat.reduceMul, Nat.reduceSub], by simp (disch := first | assumption | omega) only [go_sem, ↓reduceIte, Nat.reduceEqDiff, reduceCtorEq, Nat.reduceAdd, Nat.reduceLeDiff, Nat.reduceLT, reduceIte, Int.reduceBEq, Int.reduceBNe, Int.reduceLT, Int.reduceLE, Int.reduceAdd, Int.reduceSub, Int.reduceMul, Int.reduceNeg, Int.reduceEq, Int.reduceNe, Nat.reduceMul, Nat.reduceSub], by simp (disch := first | assumption | omega) only [go_sem, ↓reduceIte, Nat.reduceEqDiff, reduceCtorEq, Nat.reduceAdd, Nat.reduceLeDiff, Nat.reduceLT, reduceIte, Int.reduceBEq, Int.reduceBNe, Int.reduceLT, Int.reduceLE, Int.reduceAdd, Int.reduceSub, Int.reduceMul, Int.reduceNeg, Int.reduceEq, Int.reduceNe, Nat.reduceMul, Nat.reduceSub], by simp (disch := first | assumption | omega) only [go_sem, ↓reduceIte, Nat.reduceEqDiff, reduceCtorEq, Nat.reduceAdd, Nat.reduceLeDiff, Nat.reduceLT, reduceIte, Int.reduceBEq, Int.reduceBNe, Int.reduceLT, Int.reduceLE, Int.reduceAdd, Int.reduceSub, Int.reduceMul, Int.reduceNeg, Int.reduceEq, Int.reduceNe, Nat.reduceMul, Nat.reduceSub], by simp (disch := first | assumption | omega) only [go_sem, ↓reduceIte, Nat.reduceEqDiff, reduceCtorEq, Nat.reduceAdd, Nat.reduceLeDiff, Nat.reduceLT, reduceIte, Int.reduceBEq, Int.reduceBNe, Int.reduceLT, Int.reduceLE, Int.reduceAdd, Int.reduceSub, Int.reduceMul, Int.reduceNeg, Int.reduceEq, Int.reduceNe, Nat.reduceMul, Nat.reduceSub], by simp (disch := first | assumption | omega) only [go_sem, ↓reduceIte, Nat.reduceEqDiff, reduceCtorEq, Nat.reduceAdd, Nat.reduceLeDiff, Nat.reduceLT, reduceIte, Int.reduceBEq, Int.reduceBNe, Int.reduceLT, Int.reduceLE, Int.reduceAdd, Int.reduceSub, Int.reduceMul, Int.reduceNeg, Int.reduceEq, Int.reduceNe, Nat.reduceMul, Nat.reduceSub], by simp (disch := first | assumption | omega) only [go_sem, ↓reduceIte, Nat.reduceEqDiff, reduceCtorEq, Nat.reduceAdd, Nat.reduceLeDiff, Nat.reduceLT, reduceIte, Int.reduceBEq, Int.reduceBNe, Int.reduceLT, Int.reduceLE, Int.reduceAdd, Int.reduceSub, Int.reduceMul, Int.reduceNeg, Int.reduceEq, Int.reduceNe, Nat.reduceMul, Nat.reduceSub]⟩ ?_
    rintro d S ⟨e32, e31, e7, e3, x3, e5, x5, e6, x6, eh⟩
    simp (disch := first | assumption | omega) only [e32, e31, e7, e3, x3, e5, x5, e6, x6, eh, hat0, c1, go_sem, ↓reduceIte, Nat.reduceEqDiff, reduceCtorEq, Nat.reduceAdd, Nat.reduceLeDiff, Nat.reduceLT, reduceIte, Int.reduceBEq, Int.reduceBNe, Int.reduceLT, Int.reduceLE, Int.reduceAdd, Int.reduceSub, Int.reduceMul, Int.reduceNeg, Int.reduceEq, Int.reduceNe, Nat.reduceMul, Nat.reduceSub]
    refine callG_ok (SameR_ok q ⟨mk, mf, mt, ms, mc, []⟩ [] 0 0 [] hq1 (by simp) (by simp) _ (fun h => absurd rfl h)) (by simp (disch := first | assumption | omega) only [msgA, msgC, msgX, go_sem, ↓reduceIte, Nat.reduceEqDiff, reduceCtorEq, Nat.reduceAdd, Nat.reduceLeDiff, Nat.reduceLT, reduceIte, Int.reduceBEq, Int.reduceBNe, Int.reduceLT, Int.reduceLE, Int.reduceAdd, Int.reduceSub, Int.reduceMul, Int.reduceNeg, Int.reduceEq, Int.reduceNe, Nat.reduceMul, Nat.reduceSub]) ?_
    rintro _ _ ⟨rfl, hhh⟩
    rw [hhh]
    clear hhh
    rw [decide_eq_true rfl]
    simp (disch := first | assumption | omega) only [e32, e31, e7, e3, x3, e5, x5, e6, x6, eh, go_sem, ↓reduceIte, Nat.reduceEqDiff, reduceCtorEq, Nat.reduceAdd, Nat.reduceLeDiff, Nat.reduceLT, reduceIte, Int.reduceBEq, Int.reduceBNe, Int.reduceLT, Int.reduceLE, Int.reduceAdd, Int.reduceSub, Int.reduceMul, Int.reduceNeg, Int.reduceEq, Int.reduceNe, Nat.reduceMul, Nat.reduceSub]
    subst hQ
    simp (disch := first | assumption | omega) only [R.gantkeep5_MsgOwn, beq_self_eq_true, go_sem, ↓reduceIte, Nat.reduceEqDiff, reduceCtorEq, Nat.reduceAdd, Nat.reduceLeDiff, Nat.reduceLT, reduceIte, Int.reduceBEq, Int.reduceBNe, Int.reduceLT, Int.reduceLE, Int.reduceAdd, Int.reduceSub, Int.reduceMul, Int.reduceNeg, Int.reduceEq, Int.reduceNe, Nat.reduceMul, Nat.reduceSub]
  · simp (disch := first | assumption | omega) only [msgA, msgC, msgX, c1, go_sem, ↓reduceIte, Nat.reduceEqDiff, reduceCtorEq, Nat.reduceAdd, Nat.reduceLeDiff, Nat.reduceLT, reduceIte, Int.reduceBEq, Int.reduceBNe, Int.reduceLT, Int.reduceLE, Int.reduceAdd, Int.reduceSub, Int.reduceMul, Int.reduceNeg, Int.reduceEq, Int.reduceNe, Nat.reduceMul, Nat.reduceSub]
    generalize hR : List.replicate ((cap2 - cs.length) * 2) AVal.junk = rest
    have hne : cs ≠ [] := hn
    refine callG_ok (SameR_ok q ⟨mk, mf, mt, ms, mc, cs⟩ cs 1 cap2 rest hq1 (by simp only; omega) (by omega) _ (fun h => by simp (disch := first | assumption | omega) only [go_sem, ↓reduceIte, Nat.reduceEqDiff, reduceCtorEq, Nat.reduceAdd, Nat.reduceLeDiff, Nat.reduceLT, reduceIte, Int.reduceBEq, Int.reduceBNe, Int.reduceLT, Int.reduceLE, Int.reduceAdd, Int.reduceSub, Int.reduceMul, Int.reduceNeg, Int.reduceEq, Int.reduceNe, Nat.reduceMul, Nat.reduceSub])) (by simp (disch := first | assumption | omega) only [go_sem, ↓reduceIte, Nat.reduceEqDiff, reduceCtorEq, Nat.reduceAdd, Nat.reduceLeDiff, Nat.reduceLT, reduceIte, Int.reduceBEq, Int.reduceBNe, Int.reduceLT, Int.reduceLE, Int.reduceAdd, Int.reduceSub, Int.reduceMul, Int.reduceNeg, Int.reduceEq, Int.reduceNe, Nat.reduceMul, Nat.reduceSub]) ?_
    rintro _ _ ⟨rfl, hhh⟩
    rw [hhh]
    clear hhh
    rw [decide_eq_true rfl]
    simp (disch := first | assumption | omega) only [msgA, msgC, msgX, c1, go_sem, ↓reduceIte, Nat.reduceEqDiff, reduceCtorEq, Nat.reduceAdd, Nat.reduceLeDiff, Nat.reduceLT, reduceIte, Int.reduceBEq, Int.reduceBNe, Int.reduceLT, Int.reduceLE, Int.reduceAdd, Int.reduceSub, Int.reduceMul, Int.reduceNeg, Int.reduceEq, Int.reduceNe, Nat.reduceMul, Nat.reduceSub]
    refine aw_count (fun d S => ∃ i : Nat, i + d = cs.length ∧ S.env 32 = .int .i64 i ∧ S.env 31 = .int .i64 cs.length ∧ S.env 7 = .bool true ∧ S.env 3 = .box 3 0 ∧ S.boxes 3 = some [.int .i64 0, .int .i64 0, .int .i64 4, .int .i64 0, .int .u32 0, .lst .sh [.agg [.int .i64 1, .int .i64 0]]] ∧ S.env 5 = .box 5 0 ∧ S.boxes 5 = some [.int .i64 mk, .int .i64 mf, .int .i64 mt, .int .i64 ms, .int .u32 mc, .lst q (cellsA cs)] ∧ S.env 6 = .box 6 0 ∧ S.boxes 6 = some [.int .i64 mk, .int .i64 mf, .int .i64 mt, .int .i64 ms, .int .u32 mc, .ref 1 0 cs.length cap2] ∧ S.heap = [.cells Z, .cells (flatC (bump cs i) ++ rest)]) (n := cs.length)
      ⟨0, by omega, by simp (disch := first | assumption | omega) only [go_sem, ↓reduceIte, Nat.reduceEqDiff, reduceCtorEq, Nat.reduceAdd, Nat.reduceLeDiff, Nat.reduceLT, reduceIte, Int.reduceBEq, Int.reduceBNe, Int.reduceLT, Int.reduceLE, Int.reduceAdd, Int.reduceSub, Int.reduceMul, Int.reduceNeg, Int.reduceEq, Int.reduceNe, Nat.reduceMul, Nat.reduceSub], by simp (disch := first | assumption | omega) only [go_sem, ↓reduceIte, Nat.reduceEqDiff, reduceCtorEq, Nat.reduceAdd, Nat.reduceLeDiff, Nat.reduceLT, reduceIte, Int.reduceBEq, Int.reduceBNe, Int.reduceLT, Int.reduceLE, Int.reduceAdd, Int.reduceSub, Int.reduceMul, Int.reduceNeg, Int.reduceEq, Int.reduceNe, Nat.reduceMul, Nat.reduceSub], by simp (disch := first | assumption | omega) only [go_sem, ↓reduceIte, Nat.reduceEqDiff, reduceCtorEq, Nat.reduceAdd, Nat.reduceLeDiff, Nat.reduceLT, reduceIte, Int.reduceBEq, Int.reduceBNe, Int.reduceLT, Int.reduceLE, Int.reduceAdd, Int.reduceSub, Int.reduceMul, Int.reduceNeg, Int.reduceEq, Int.reduceNe, Nat.reduceMul, Nat.reduceSub], by simp (disch := first | assumption | omega) only [go_sem, ↓reduceIte, Nat.reduceEqDiff, reduceCtorEq, Nat.reduceAdd, Nat.reduceLeDiff, Nat.reduceLT, reduceIte, Int.reduceBEq, Int.reduceBNe, Int.reduceLT, Int.reduceLE, Int.reduceAdd, Int.reduceSub, Int.reduceMul, Int.reduceNeg, Int.reduceEq, Int.reduceNe, Nat.reduceMul, Nat.reduceSub], by simp (disch := first | assumption | omega) only [go_sem, ↓reduceIte, Nat.reduceEqDiff, reduceCtorEq, Nat.reduceAdd, Nat.reduceLeDiff, Nat.reduceLT, reduceIte, Int.reduceBEq, Int.reduceBNe, Int.reduceLT, Int.reduceLE, Int.reduceAdd, Int.reduceSub, Int.reduceMul, Int.reduceNeg, Int.reduceEq, Int.reduceNe, Nat.reduceMul, Nat.reduceSub], by simp (disch := first | assumption | omega) only [go_sem, ↓reduceIte, Nat.reduceEqDiff, reduceCtorEq, Nat.reduceAdd, Nat.reduceLeDiff, Nat.reduceLT, reduceIte, Int.reduceBEq, Int.reduceBNe, Int.reduceLT, Int.reduceLE, Int.reduceAdd, Int.reduceSub, Int.reduceMul, Int.reduceNeg, Int.reduceEq, Int.reduceNe, Nat.reduceMul, Nat.reduceSub], by simp (disch := first | assumption | omega) only [go_sem, ↓reduceIte, Nat.reduceEqDiff, reduceCtorEq, Nat.reduceAdd, Nat.reduceLeDiff, Nat.reduceLT, reduceIte, Int.reduceBEq, Int.reduceBNe, Int.reduceLT, Int.reduceLE, Int.reduceAdd, Int.reduceSub, Int.reduceMul, Int.reduceNeg, Int.reduceEq, Int.reduceNe, Nat.reduceMul, Nat.reduceSub], by simp (disch := first | assumption | omega) only [go_sem, ↓reduceIte, Nat.reduceEqDiff, reduceCtorEq, Nat.reduceAdd, Nat.reduceLeDiff, Nat.reduceLT, reduceIte, Int.reduceBEq, Int.reduceBNe, Int.reduceLT, Int.reduceLE, Int.reduceAdd, Int.reduceSub, Int.reduceMul, Int.reduceNeg, Int.reduceEq, Int.reduceNe, Nat.reduceMul, Nat.reduceSub], by simp (disch := first | assumption | omega) only [go_sem, ↓reduceIte, Nat.reduceEqDiff, reduceCtorEq, Nat.reduceAdd, Nat.reduceLeDiff, Nat.reduceLT, reduceIte, Int.reduceBEq, Int.reduceBNe, Int.reduceLT, Int.reduceLE, Int.reduceAdd, Int.reduceSub, Int.reduceMul, Int.reduceNeg, Int.reduceEq, Int.reduceNe, Nat.reduceMul, Nat.reduceSub], by simp (disch := first | assumption | omega) only [bump, go_sem, ↓reduceIte, Nat.reduceEqDiff, reduceCtorEq, Nat.reduceAdd, Nat.reduceLeDiff, Nat.reduceLT, reduceIte, Int.reduceBEq, Int.reduceBNe, Int.reduceLT, Int.reduceLE, Int.reduceAdd, Int.reduceSub, Int.reduceMul, Int.reduceNeg, Int.reduceEq, Int.reduceNe, Nat.reduceMul, Nat.reduceSub]⟩ ?_
    rintro d S ⟨i, hi, e32, e31, e7, e3, x3, e5, x5, e6, x6, eh⟩
    have hbl := bump_length cs i
    have hfl := flatC_length (bump cs i)
    simp (disch := first | assumption | omega) only [e32, e31, e7, e3, x3, e5, x5, e6, x6, eh, go_sem, ↓reduceIte, Nat.reduceEqDiff, reduceCtorEq, Nat.reduceAdd, Nat.reduceLeDiff, Nat.reduceLT, reduceIte, Int.reduceBEq, Int.reduceBNe, Int.reduceLT, Int.reduceLE, Int.reduceAdd, Int.reduceSub, Int.reduceMul, Int.reduceNeg, Int.reduceEq, Int.reduceNe, Nat.reduceMul, Nat.reduceSub]
    refine condG_if (fun hlt => ?_) fun hge => ?_
    · have hlt1 : i < cs.length := by omega
      have hlt2 : i < (bump cs i).length := by omega
      have hg := bump_get hlt1 hlt2
      have gY := flatC_getY (rest := rest) hlt2
      have sY := flatC_setY (rest := rest) (y := cs[i].Y + 1) hlt2
      rw [hg] at gY sY
      have hst : (bump cs i).set i ⟨cs[i].X, cs[i].Y + 1⟩ = bump cs (i + 1) := bump_step hlt1
      rw [hst] at sY
      have hb := hcb _ (List.getElem_mem hlt1)
      simp (disch := first | assumption | omega) only [e32, e31, e7, e3, x3, e5, x5, e6, x6, eh, hlt1, gY, sY, go_sem, ↓reduceIte, Nat.reduceEqDiff, reduceCtorEq, Nat.reduceAdd, Nat.reduceLeDiff, Nat.reduceLT, reduceIte, Int.reduceBEq, Int.reduceBNe, Int.reduceLT, Int.reduceLE, Int.reduceAdd, Int.reduceSub, Int.reduceMul, Int.reduceNeg, Int.reduceEq, Int.reduceNe, Nat.reduceMul, Nat.reduceSub]
      exact ⟨by omega, by omega, d - 1, by omega, i + 1, by omega, by simp, rfl⟩
    · obtain rfl : i = cs.length := by omega
      rw [bump_end] at eh
      simp (disch := first | assumption | omega) only [e32, e31, e7, e3, x3, e5, x5, e6, x6, eh, hat0, c1, go_sem, ↓reduceIte, Nat.reduceEqDiff, reduceCtorEq, Nat.reduceAdd, Nat.reduceLeDiff, Nat.reduceLT, reduceIte, Int.reduceBEq, Int.reduceBNe, Int.reduceLT, Int.reduceLE, Int.reduceAdd, Int.reduceSub, Int.reduceMul, Int.reduceNeg, Int.reduceEq, Int.reduceNe, Nat.reduceMul, Nat.reduceSub]
      have hlm : (cs.map up).length = cs.length := by simp
      have hS := SameR_ok q ⟨mk, mf, mt, ms, mc, cs⟩ (cs.map up) 1 cap2 rest hq1 (by simp only; omega) (by omega)
      rw [hlm] at hS
      refine callG_ok (hS _ (fun h => by simp (disch := first | assumption | omega) only [e32, e31, e7, e3, x3, e5, x5, e6, x6, eh, go_sem, ↓reduceIte, Nat.reduceEqDiff, reduceCtorEq, Nat.reduceAdd, Nat.reduceLeDiff, Nat.reduceLT, reduceIte, Int.reduceBEq, Int.reduceBNe, Int.reduceLT, Int.reduceLE, Int.reduceAdd, Int.reduceSub, Int.reduceMul, Int.reduceNeg, Int.reduceEq, Int.reduceNe, Nat.reduceMul, Nat.reduceSub])) (by simp (disch := first | assumption | omega) only [msgA, msgC, msgX, go_sem, ↓reduceIte, Nat.reduceEqDiff, reduceCtorEq, Nat.reduceAdd, Nat.reduceLeDiff, Nat.reduceLT, reduceIte, Int.reduceBEq, Int.reduceBNe, Int.reduceLT, Int.reduceLE, Int.reduceAdd, Int.reduceSub, Int.reduceMul, Int.reduceNeg, Int.reduceEq, Int.reduceNe, Nat.reduceMul, Nat.reduceSub]) ?_
      rintro _ _ ⟨rfl, hhh⟩
      rw [hhh]
      clear hhh
      have hup : ¬ cs = cs.map up := up_ne hne
      have hl0 : ¬ ((cs.length : Nat) : Int) = 0 := by have := List.length_pos_iff.2 hne; omega
      rw [show decide ((⟨mk, mf, mt, ms, mc, cs⟩ : Msg).Cells = cs.map up) = false from decide_eq_false hup]
      simp (disch := first | assumption | omega) only [e32, e31, e7, e3, x3, e5, x5, e6, x6, eh, hl0, go_sem, ↓reduceIte, Nat.reduceEqDiff, reduceCtorEq, Nat.reduceAdd, Nat.reduceLeDiff, Nat.reduceLT, reduceIte, Int.reduceBEq, Int.reduceBNe, Int.reduceLT, Int.reduceLE, Int.reduceAdd, Int.reduceSub, Int.reduceMul, Int.reduceNeg, Int.reduceEq, Int.reduceNe, Nat.reduceMul, Nat.reduceSub]
      subst hQ
      simp (disch := first | assumption | omega) only [R.gantkeep5_MsgOwn, beq_self_eq_true, go_sem, ↓reduceIte, Nat.reduceEqDiff, reduceCtorEq, Nat.reduceAdd, Nat.reduceLeDiff, Nat.reduceLT, reduceIte, Int.reduceBEq, Int.reduceBNe, Int.reduceLT, Int.reduceLE, Int.reduceAdd, Int.reduceSub, Int.reduceMul, Int.reduceNeg, Int.reduceEq, Int.reduceNe, Nat.reduceMul, Nat.reduceSub]
end Go.Proofs.Ytpdajkbfemcdlaa
