import Derived.Test.YtpdajkbfemcdlaaGeSet
import Derived.Test.YtpdajkbfemcdlaaZA1
/- Logs as lists of numbers; sums that differ. -/
set_option linter.unusedSimpArgs false
set_option linter.unusedVariables false
namespace Go.Proofs.Ytpdajkbfemcdlaa
open Go.Ge
/-! ### Sums -/
/-! ### Bytes of numbers -/
theorem be2 (n : Int) : beBytes n 2 = [n / 256 % 256, n % 256] := by simp [beBytes]
theorem be2_inj {m n : Int} (h0 : 0 ≤ m) (h1 : m < 65536) (k0 : 0 ≤ n) (k1 : n < 65536) (h : beBytes m 2 = beBytes n 2) : m = n := by
  rw [be2, be2] at h
  simp only [List.cons.injEq, and_true] at h
  omega
/-! ### Logs -/
def four (n : Int) : List Int := beBytes n 4
theorem four_length (n : Int) : (four n).length = 4 := beBytes_length n 4
def logSum (last : Int) (r : List Int) : Int := iv (crc (four last ++ (beBytes r.length 2 ++ r)))
def recB (last : Int) (r : List Int) : List Int := beBytes r.length 2 ++ r ++ four (logSum last r)
theorem recB_length (last : Int) (r : List Int) : (recB last r).length = 6 + r.length := by
  simp [recB, beBytes_length, four_length]; omega
def book : Int → List (List Int) → List Int
  | _, [] => []
  | last, r :: rs => recB last r ++ book (logSum last r) rs
def lastOf : Int → List (List Int) → Int
  | last, [] => last
  | last, r :: rs => lastOf (logSum last r) rs
theorem book_append : ∀ (last : Int) (a b : List (List Int)), book last (a ++ b) = book last a ++ book (lastOf last a) b
  | _, [], _ => rfl
  | last, r :: a, b => by simp [book, lastOf, book_append (logSum last r) a b]
theorem book_snoc (last : Int) (a : List (List Int)) (r : List Int) : book last (a ++ [r]) = book last a ++ recB (lastOf last a) r := by
  rw [book_append]; simp [book]
/-- Bytes that begin with a record tell which. -/
theorem recB_prefix {last : Int} {r z : List Int} (h : recB last r <+: z) : z.take 2 = beBytes r.length 2 ∧ (z.drop 2).take r.length = r ∧ (z.drop (2 + r.length)).take 4 = four (logSum last r) ∧ 6 + r.length ≤ z.length := by
  obtain ⟨t, rfl⟩ := h
  have hl : (beBytes (r.length : Int) 2).length = 2 := beBytes_length _ _
  simp only [recB, List.append_assoc]
  refine ⟨?_, ?_, ?_, ?_⟩
  · rw [List.take_append_of_le_length (by omega)]; exact List.take_of_length_le (by omega)
  · rw [List.drop_append_of_le_length (by omega), List.drop_of_length_le (by omega), List.nil_append]
    simp
  · rw [List.drop_append, List.drop_of_length_le (by omega), List.nil_append, hl]
    rw [show 2 + r.length - 2 = r.length from by omega, List.drop_append_of_le_length (by omega), List.drop_length, List.nil_append]
    rw [List.take_append_of_le_length (by rw [four_length]; omega)]
    exact List.take_of_length_le (by rw [four_length]; omega)
  · simp [hl, four_length]; omega
theorem recB_unique {l : Int} {r r' z : List Int} (h : recB l r <+: z) (h' : recB l r' <+: z) (hr : r.length < 65536) (hr' : r'.length < 65536) : r = r' := by
  obtain ⟨a1, a2, _⟩ := recB_prefix h
  obtain ⟨b1, b2, _⟩ := recB_prefix h'
  have : (r.length : Int) = r'.length := be2_inj (by omega) (by omega) (by omega) (by omega) (a1.symm.trans b1)
  have e : r.length = r'.length := by omega
  rw [← a2, ← b2, e]
theorem prefix_cases : ∀ (rs rs' : List (List Int)) (l : Int) (z : List Int), (∀ r ∈ rs, r.length < 65536) → (∀ r ∈ rs', r.length < 65536) → book l rs <+: z → book l rs' <+: z → rs <+: rs' ∨ rs' <+: rs
  | [], rs', _, _, _, _, _, _ => .inl (List.nil_prefix)
  | rs, [], _, _, _, _, _, _ => .inr (List.nil_prefix)
  | r :: rs, r' :: rs', l, z, h1, h2, k1, k2 => by
    simp only [book] at k1 k2
    have q1 : recB l r <+: z := (List.prefix_append _ _).trans k1
    have q2 : recB l r' <+: z := (List.prefix_append _ _).trans k2
    obtain rfl := recB_unique q1 q2 (h1 r (by simp)) (h2 r' (by simp))
    obtain ⟨t, rfl⟩ := q1
    rw [List.prefix_append_right_inj] at k1 k2
    rcases prefix_cases rs rs' _ t (fun r hr => h1 r (by simp [hr])) (fun r hr => h2 r (by simp [hr])) k1 k2 with h | h
    · exact .inl ((List.cons_prefix_cons).2 ⟨rfl, h⟩)
    · exact .inr ((List.cons_prefix_cons).2 ⟨rfl, h⟩)
/-- The records that bytes begin with, all of them. -/
structure IsScan (b : List Int) (rs : List (List Int)) : Prop where
  short : ∀ r ∈ rs, r.length ≤ 2000
  pre : book 0 rs <+: b
  max : ∀ r : List Int, r.length ≤ 2000 → ¬ book 0 (rs ++ [r]) <+: b
theorem IsScan.book {rs : List (List Int)} (h : ∀ r ∈ rs, r.length ≤ 2000) : IsScan (book 0 rs) rs := by
  refine ⟨h, List.prefix_refl _, fun r _ hp => ?_⟩
  have := hp.length_le
  rw [book_snoc, List.length_append, recB_length] at this
  omega
/-- What begins with a log's beginning begins with some of its records. -/
theorem IsScan.cut {b : List Int} {rs rs' : List (List Int)} (h : IsScan b rs) (hb : b <+: Go.Proofs.Ytpdajkbfemcdlaa.book 0 rs') (h' : ∀ r ∈ rs', r.length ≤ 2000) : rs <+: rs' := by
  rcases prefix_cases rs rs' 0 (Go.Proofs.Ytpdajkbfemcdlaa.book 0 rs') (fun r hr => by have := h.short r hr; omega) (fun r hr => by have := h' r hr; omega) (h.pre.trans hb) (List.prefix_refl _) with hp | hp
  · exact hp
  · obtain ⟨t, rfl⟩ := hp
    cases t with
    | nil => simp
    | cons r t =>
      exfalso
      have := (h.pre.trans hb).length_le
      rw [book_append] at this
      simp only [Go.Proofs.Ytpdajkbfemcdlaa.book, List.length_append, recB_length] at this
      omega
end Go.Proofs.Ytpdajkbfemcdlaa
/- Contracts: the ends of a connection. -/
set_option linter.unusedSimpArgs false
set_option linter.unusedVariables false
set_option maxRecDepth 10000
namespace Go.Proofs.Ytpdajkbfemcdlaa
open Go.Ge
def ownB : Bool → Own
  | true => .sh
  | false => .nil
theorem ownB_rdo (b : Bool) : Rdo (ownB b) := by cases b; exact .inr rfl; exact .inl rfl
theorem own_cases {q : Own} {l : List Cell} (h : Rdn q l) : ∃ b, q = ownB b ∧ (b = false → l = []) := by
  rcases h.1 with rfl | rfl
  · exact ⟨true, rfl, fun e => by cases e⟩
  · exact ⟨false, rfl, fun _ => h.2 rfl⟩
/-- The cells of a message, and of one that waits. -/
def mgC (x : Bool × Msg) : List AVal := msgC (ownB x.1) x.2
def itC (x : Bool × Msg × Int) : List AVal := msgC (ownB x.1) x.2.1 ++ [.int .i64 x.2.2]
theorem mgC_len (x : Bool × Msg) : (mgC x).length = 6 := rfl
theorem itC_len (x : Bool × Msg × Int) : (itC x).length = 7 := rfl
theorem mgC_st (x : Bool × Msg) : ∀ c ∈ mgC x, storC c = true ∧ Ge.rdc c = c := by
  intro c hc
  simp only [mgC, msgC, List.mem_cons, List.not_mem_nil, or_false] at hc
  rcases hc with rfl | rfl | rfl | rfl | rfl | rfl <;> first | exact ⟨rfl, rfl⟩ | (cases x.1 <;> exact ⟨rfl, rfl⟩)
theorem itC_st (x : Bool × Msg × Int) : ∀ c ∈ itC x, storC c = true ∧ Ge.rdc c = c := by
  intro c hc
  rcases List.mem_append.1 hc with hc | hc
  · exact mgC_st (x.1, x.2.1) c hc
  · simp at hc; subst hc; exact ⟨rfl, rfl⟩
theorem MsgsOk.snoc {m : Msg} {x : AVal} (hx : MsgOk m x) : ∀ {l : List Msg} {xs : List AVal}, MsgsOk l xs → MsgsOk (l ++ [m]) (xs ++ [x])
  | [], xs, h => by simp only [MsgsOk] at h; subst h; exact ⟨x, [], rfl, hx, rfl⟩
  | a :: l, xs, h => by
    obtain ⟨y, ys, rfl, h1, h2⟩ := h
    exact ⟨y, ys ++ [x], rfl, h1, h2.snoc hx⟩
/-- A list of messages that one holds. -/
def GotR (g : AVal) (l : List Msg) : Prop := g = .lst .nil [] ∧ l = [] ∨ ∃ xs, g = .lst (.app 6) xs ∧ MsgsOk l xs
/-- An end in the heap. -/
def EndR (h : List HObj) (e : Nat) (own : List Nat) (self other : Int) (s : Lk) : Prop :=
  e ∉ own ∧ ∃ (w g : AVal) (L : List (Bool × Msg × Int)), h[e]? = some (.cells [.int .i64 self, .int .i64 other, .int .i64 s.next, w, .int .i64 s.want, g, .bool s.owes]) ∧
    SlO itC 7 h own w L ∧ L.map (·.2) = s.wait ∧ (∀ x ∈ L, x.1 = false → x.2.1.Cells = []) ∧ GotR g s.got
/-- After a deed of an end: it is so, and nothing else has changed. -/
def EndQ (h : List HObj) (e : Nat) (own : List Nat) (self other : Int) (s : Lk) (h' : List HObj) : Prop :=
  ∃ own', EndR h' e own' self other s ∧ Fr (e :: own) h h' ∧ ∀ i ∈ own', i ∈ own ∨ h.length ≤ i ∧ i < h'.length
theorem EndR.frame {h h' : List HObj} {e : Nat} {own S : List Nat} {self other : Int} {s : Lk} (hr : EndR h e own self other s) (hf : Fr S h h') (he : e ∉ S) (hn : ∀ i ∈ own, i ∉ S) : EndR h' e own self other s := by
  obtain ⟨h1, w, g, L, h2, h3, h4⟩ := hr
  exact ⟨h1, w, g, L, hf.get he h2, h3.frame hf hn, h4⟩
theorem New_ok (self other : Int) (h : List HObj) : ACalls Try.prog F.link_New [.int .i64 self, .int .i64 other] h
    (fun v h' => (self < 0 ∨ 4 < self ∨ other < 0 ∨ 4 < other ∨ self = other) ∧ v = .tup [.nilptr, .int .i64 16] ∧ h' = h ∨
      ¬(self < 0 ∨ 4 < self ∨ other < 0 ∨ 4 < other ∨ self = other) ∧ v = .tup [.hp h.length 0, .int .i64 0] ∧ ∃ o, h' = h ++ [o] ∧ EndR h' h.length [] self other ⟨0, 0, [], [], false⟩) := by
  refine ACalls.of_aw Try.func81 K.link_New (by simp [Try.f81]) ?_
  generalize hQ : retQ R.link_New _ = Q
  simp (disch := first | assumption | omega) only [C.link_New, go_sem, ↓reduceIte, Nat.reduceEqDiff, reduceCtorEq, Nat.reduceAdd, Nat.reduceLeDiff, Nat.reduceLT, reduceIte, Int.reduceBEq, Int.reduceBNe, Int.reduceLT, Int.reduceLE, Int.reduceAdd, Int.reduceSub, Int.reduceMul, Int.reduceNeg, Int.reduceEq, Int.reduceNe, Nat.reduceMul, Nat.reduceSub]
  by_cases a1 : self < 0
  · have a2 : (if other < self then other else self) < 0 := by split <;> omega
    simp (disch := first | assumption | omega) only [a2, go_sem, ↓reduceIte, Nat.reduceEqDiff, reduceCtorEq, Nat.reduceAdd, Nat.reduceLeDiff, Nat.reduceLT, reduceIte, Int.reduceBEq, Int.reduceBNe, Int.reduceLT, Int.reduceLE, Int.reduceAdd, Int.reduceSub, Int.reduceMul, Int.reduceNeg, Int.reduceEq, Int.reduceNe, Nat.reduceMul, Nat.reduceSub]
    subst hQ
    simp (disch := first | assumption | omega) only [R.link_New, go_sem, ↓reduceIte, Nat.reduceEqDiff, reduceCtorEq, Nat.reduceAdd, Nat.reduceLeDiff, Nat.reduceLT, reduceIte, Int.reduceBEq, Int.reduceBNe, Int.reduceLT, Int.reduceLE, Int.reduceAdd, Int.reduceSub, Int.reduceMul, Int.reduceNeg, Int.reduceEq, Int.reduceNe, Nat.reduceMul, Nat.reduceSub]
    exact .inl (by omega)
  by_cases a3 : other < 0
  · have a2 : (if other < self then other else self) < 0 := by split <;> omega
    simp (disch := first | assumption | omega) only [a2, go_sem, ↓reduceIte, Nat.reduceEqDiff, reduceCtorEq, Nat.reduceAdd, Nat.reduceLeDiff, Nat.reduceLT, reduceIte, Int.reduceBEq, Int.reduceBNe, Int.reduceLT, Int.reduceLE, Int.reduceAdd, Int.reduceSub, Int.reduceMul, Int.reduceNeg, Int.reduceEq, Int.reduceNe, Nat.reduceMul, Nat.reduceSub]
    subst hQ
    simp (disch := first | assumption | omega) only [R.link_New, go_sem, ↓reduceIte, Nat.reduceEqDiff, reduceCtorEq, Nat.reduceAdd, Nat.reduceLeDiff, Nat.reduceLT, reduceIte, Int.reduceBEq, Int.reduceBNe, Int.reduceLT, Int.reduceLE, Int.reduceAdd, Int.reduceSub, Int.reduceMul, Int.reduceNeg, Int.reduceEq, Int.reduceNe, Nat.reduceMul, Nat.reduceSub]
    exact .inl (by omega)
  have a2 : ¬(if other < self then other else self) < 0 := by split <;> omega
  by_cases a4 : self > 4 ∨ other > 4
  · have a5 : (4 : Int) < (if self < other then other else self) := by split <;> omega
    simp (disch := first | assumption | omega) only [a2, a5, go_sem, ↓reduceIte, Nat.reduceEqDiff, reduceCtorEq, Nat.reduceAdd, Nat.reduceLeDiff, Nat.reduceLT, reduceIte, Int.reduceBEq, Int.reduceBNe, Int.reduceLT, Int.reduceLE, Int.reduceAdd, Int.reduceSub, Int.reduceMul, Int.reduceNeg, Int.reduceEq, Int.reduceNe, Nat.reduceMul, Nat.reduceSub]
    subst hQ
    simp (disch := first | assumption | omega) only [R.link_New, go_sem, ↓reduceIte, Nat.reduceEqDiff, reduceCtorEq, Nat.reduceAdd, Nat.reduceLeDiff, Nat.reduceLT, reduceIte, Int.reduceBEq, Int.reduceBNe, Int.reduceLT, Int.reduceLE, Int.reduceAdd, Int.reduceSub, Int.reduceMul, Int.reduceNeg, Int.reduceEq, Int.reduceNe, Nat.reduceMul, Nat.reduceSub]
    exact .inl (by omega)
  have a5 : ¬(4 : Int) < (if self < other then other else self) := by split <;> omega
  by_cases a6 : self = other
  · subst a6
    simp (disch := first | assumption | omega) only [a2, a5, go_sem, ↓reduceIte, Nat.reduceEqDiff, reduceCtorEq, Nat.reduceAdd, Nat.reduceLeDiff, Nat.reduceLT, reduceIte, Int.reduceBEq, Int.reduceBNe, Int.reduceLT, Int.reduceLE, Int.reduceAdd, Int.reduceSub, Int.reduceMul, Int.reduceNeg, Int.reduceEq, Int.reduceNe, Nat.reduceMul, Nat.reduceSub]
    subst hQ
    simp (disch := first | assumption | omega) only [R.link_New, go_sem, ↓reduceIte, Nat.reduceEqDiff, reduceCtorEq, Nat.reduceAdd, Nat.reduceLeDiff, Nat.reduceLT, reduceIte, Int.reduceBEq, Int.reduceBNe, Int.reduceLT, Int.reduceLE, Int.reduceAdd, Int.reduceSub, Int.reduceMul, Int.reduceNeg, Int.reduceEq, Int.reduceNe, Nat.reduceMul, Nat.reduceSub]
    exact .inl (by simp)
  · simp (disch := first | assumption | omega) only [a2, a5, a6, go_sem, ↓reduceIte, Nat.reduceEqDiff, reduceCtorEq, Nat.reduceAdd, Nat.reduceLeDiff, Nat.reduceLT, reduceIte, Int.reduceBEq, Int.reduceBNe, Int.reduceLT, Int.reduceLE, Int.reduceAdd, Int.reduceSub, Int.reduceMul, Int.reduceNeg, Int.reduceEq, Int.reduceNe, Nat.reduceMul, Nat.reduceSub]
    subst hQ
    simp (disch := first | assumption | omega) only [R.link_New, go_sem, ↓reduceIte, Nat.reduceEqDiff, reduceCtorEq, Nat.reduceAdd, Nat.reduceLeDiff, Nat.reduceLT, reduceIte, Int.reduceBEq, Int.reduceBNe, Int.reduceLT, Int.reduceLE, Int.reduceAdd, Int.reduceSub, Int.reduceMul, Int.reduceNeg, Int.reduceEq, Int.reduceNe, Nat.reduceMul, Nat.reduceSub]
    exact .inr ⟨by omega, _, rfl, by simp, .lst .nil [], .lst .nil [], [], by simp, SlO.nil, rfl, by simp, .inl ⟨rfl, rfl⟩⟩
theorem Waits_ok (e : Nat) (own : List Nat) (self other : Int) (s : Lk) (h : List HObj) (hr : EndR h e own self other s) :
    ACalls Try.prog F.link_End_Waits [.hp e 0] h (fun v h' => v = .int .i64 s.wait.length ∧ h' = h) := by
  obtain ⟨h1, w, g, L, h2, h3, h4, h5⟩ := hr
  refine ACalls.of_aw Try.func83 K.link_End_Waits (by simp [Try.f83]) ?_
  generalize hQ : retQ R.link_End_Waits _ = Q
  simp (disch := first | assumption | omega) only [C.link_End_Waits, go_sem, ↓reduceIte, Nat.reduceEqDiff, reduceCtorEq, Nat.reduceAdd, Nat.reduceLeDiff, Nat.reduceLT, reduceIte, Int.reduceBEq, Int.reduceBNe, Int.reduceLT, Int.reduceLE, Int.reduceAdd, Int.reduceSub, Int.reduceMul, Int.reduceNeg, Int.reduceEq, Int.reduceNe, Nat.reduceMul, Nat.reduceSub]
  have hl : s.wait.length = L.length := by rw [← h4]; simp
  rcases h3.cases with ⟨rfl, rfl⟩ | ⟨id, off, cap, rfl, hc, hi, hs⟩
  · simp (disch := first | assumption | omega) only [h2, go_sem, ↓reduceIte, Nat.reduceEqDiff, reduceCtorEq, Nat.reduceAdd, Nat.reduceLeDiff, Nat.reduceLT, reduceIte, Int.reduceBEq, Int.reduceBNe, Int.reduceLT, Int.reduceLE, Int.reduceAdd, Int.reduceSub, Int.reduceMul, Int.reduceNeg, Int.reduceEq, Int.reduceNe, Nat.reduceMul, Nat.reduceSub]
    subst hQ
    simp (disch := first | assumption | omega) only [R.link_End_Waits, hl, go_sem, ↓reduceIte, Nat.reduceEqDiff, reduceCtorEq, Nat.reduceAdd, Nat.reduceLeDiff, Nat.reduceLT, reduceIte, Int.reduceBEq, Int.reduceBNe, Int.reduceLT, Int.reduceLE, Int.reduceAdd, Int.reduceSub, Int.reduceMul, Int.reduceNeg, Int.reduceEq, Int.reduceNe, Nat.reduceMul, Nat.reduceSub]
  · simp (disch := first | assumption | omega) only [h2, go_sem, ↓reduceIte, Nat.reduceEqDiff, reduceCtorEq, Nat.reduceAdd, Nat.reduceLeDiff, Nat.reduceLT, reduceIte, Int.reduceBEq, Int.reduceBNe, Int.reduceLT, Int.reduceLE, Int.reduceAdd, Int.reduceSub, Int.reduceMul, Int.reduceNeg, Int.reduceEq, Int.reduceNe, Nat.reduceMul, Nat.reduceSub]
    subst hQ
    simp (disch := first | assumption | omega) only [R.link_End_Waits, hl, go_sem, ↓reduceIte, Nat.reduceEqDiff, reduceCtorEq, Nat.reduceAdd, Nat.reduceLeDiff, Nat.reduceLT, reduceIte, Int.reduceBEq, Int.reduceBNe, Int.reduceLT, Int.reduceLE, Int.reduceAdd, Int.reduceSub, Int.reduceMul, Int.reduceNeg, Int.reduceEq, Int.reduceNe, Nat.reduceMul, Nat.reduceSub]
theorem Take_ok (e : Nat) (own : List Nat) (self other : Int) (s : Lk) (h : List HObj) (hr : EndR h e own self other s) :
    ACalls Try.prog F.link_End_Take [.hp e 0] h (fun v h' => GotR v s.got ∧ EndQ h e own self other { s with got := [] } h') := by
  obtain ⟨h1, w, g, L, h2, h3, h4, h5, h6⟩ := hr
  have hset : EndQ h e own self other { s with got := [] } (h.set e (.cells [.int .i64 self, .int .i64 other, .int .i64 s.next, w, .int .i64 s.want, .lst .nil [], .bool s.owes])) := by
    refine ⟨own, ⟨h1, w, .lst .nil [], L, get_set h2, h3.frame (S := [e]) (Fr.set (by simp)) (fun i hi hm => by simp at hm; subst hm; exact h1 hi), h4, h5, .inl ⟨rfl, rfl⟩⟩, Fr.set (by simp), fun i hi => .inl hi⟩
  refine ACalls.of_aw Try.func164 K.link_End_Take (by simp [Try.f164]) ?_
  generalize hQ : retQ R.link_End_Take _ = Q
  simp (disch := first | assumption | omega) only [C.link_End_Take, go_sem, ↓reduceIte, Nat.reduceEqDiff, reduceCtorEq, Nat.reduceAdd, Nat.reduceLeDiff, Nat.reduceLT, reduceIte, Int.reduceBEq, Int.reduceBNe, Int.reduceLT, Int.reduceLE, Int.reduceAdd, Int.reduceSub, Int.reduceMul, Int.reduceNeg, Int.reduceEq, Int.reduceNe, Nat.reduceMul, Nat.reduceSub]
  rcases h6 with ⟨rfl, h6⟩ | ⟨xs, rfl, h6⟩
  · simp (disch := first | assumption | omega) only [h2, get_set h2, List.set_set, go_sem, ↓reduceIte, Nat.reduceEqDiff, reduceCtorEq, Nat.reduceAdd, Nat.reduceLeDiff, Nat.reduceLT, reduceIte, Int.reduceBEq, Int.reduceBNe, Int.reduceLT, Int.reduceLE, Int.reduceAdd, Int.reduceSub, Int.reduceMul, Int.reduceNeg, Int.reduceEq, Int.reduceNe, Nat.reduceMul, Nat.reduceSub]
    subst hQ
    simp (disch := first | assumption | omega) only [R.link_End_Take, go_sem, ↓reduceIte, Nat.reduceEqDiff, reduceCtorEq, Nat.reduceAdd, Nat.reduceLeDiff, Nat.reduceLT, reduceIte, Int.reduceBEq, Int.reduceBNe, Int.reduceLT, Int.reduceLE, Int.reduceAdd, Int.reduceSub, Int.reduceMul, Int.reduceNeg, Int.reduceEq, Int.reduceNe, Nat.reduceMul, Nat.reduceSub]
    exact ⟨.inl ⟨rfl, h6⟩, hset⟩
  · simp (disch := first | assumption | omega) only [h2, get_set h2, List.set_set, go_sem, ↓reduceIte, Nat.reduceEqDiff, reduceCtorEq, Nat.reduceAdd, Nat.reduceLeDiff, Nat.reduceLT, reduceIte, Int.reduceBEq, Int.reduceBNe, Int.reduceLT, Int.reduceLE, Int.reduceAdd, Int.reduceSub, Int.reduceMul, Int.reduceNeg, Int.reduceEq, Int.reduceNe, Nat.reduceMul, Nat.reduceSub]
    subst hQ
    simp (disch := first | assumption | omega) only [R.link_End_Take, go_sem, ↓reduceIte, Nat.reduceEqDiff, reduceCtorEq, Nat.reduceAdd, Nat.reduceLeDiff, Nat.reduceLT, reduceIte, Int.reduceBEq, Int.reduceBNe, Int.reduceLT, Int.reduceLE, Int.reduceAdd, Int.reduceSub, Int.reduceMul, Int.reduceNeg, Int.reduceEq, Int.reduceNe, Nat.reduceMul, Nat.reduceSub]
    exact ⟨.inr ⟨xs, rfl, h6⟩, hset⟩
theorem Put_ok (e : Nat) (own : List Nat) (self other : Int) (s : Lk) (n : Int) (k : Int) (o : Own) (cs : List Cell) (h : List HObj) (hr : EndR h e own self other s) (hs : s.ok n) (hn : n ≤ 1099511627776) (ho : Rdn o cs) (hl : cs.length * 16 ≤ reachBytes) :
    ACalls Try.prog F.link_End_Put [.hp e 0, .int .i64 k, .lst o (cellsA cs)] h (fun v h' => v = .int .i64 (putE s self other k cs) ∧ EndQ h e own self other (putS s self other k cs) h') := by
  obtain ⟨h1, w, g, L, h2, h3, h4, h5, h6⟩ := hr
  have hr0 : EndR h e own self other s := ⟨h1, w, g, L, h2, h3, h4, h5, h6⟩
  have hq0 : EndQ h e own self other s h := ⟨own, hr0, Fr.refl _ _, fun i hi => .inl hi⟩
  have hwl := hs.wait
  have hn0 := hs.next0
  have hn1 := hs.next1
  have hlw : L.length = s.wait.length := by rw [← h4]; simp
  have ho1 := ho.1
  refine ACalls.of_aw Try.func145 K.link_End_Put (by simp [Try.f145]) ?_
  generalize hQ : retQ R.link_End_Put _ = Q
  simp (disch := first | assumption | omega) only [C.link_End_Put, go_sem, ↓reduceIte, Nat.reduceEqDiff, reduceCtorEq, Nat.reduceAdd, Nat.reduceLeDiff, Nat.reduceLT, reduceIte, Int.reduceBEq, Int.reduceBNe, Int.reduceLT, Int.reduceLE, Int.reduceAdd, Int.reduceSub, Int.reduceMul, Int.reduceNeg, Int.reduceEq, Int.reduceNe, Nat.reduceMul, Nat.reduceSub]
  simp (disch := first | assumption | omega) only [h2, go_sem, ↓reduceIte, Nat.reduceEqDiff, reduceCtorEq, Nat.reduceAdd, Nat.reduceLeDiff, Nat.reduceLT, reduceIte, Int.reduceBEq, Int.reduceBNe, Int.reduceLT, Int.reduceLE, Int.reduceAdd, Int.reduceSub, Int.reduceMul, Int.reduceNeg, Int.reduceEq, Int.reduceNe, Nat.reduceMul, Nat.reduceSub]
  refine callpG_ok (R := fun r => ∃ o', r = .lst o' (cellsA cs) ∧ (o' = .nil ∧ cs = [] ∨ o' = .app 2)) (fun hp' => ACalls.mono (CloneCell_ok o cs ho hl hp') fun r h' hq => ⟨hq.2, hq.1⟩) (by simp (disch := first | assumption | omega) only [go_sem, ↓reduceIte, Nat.reduceEqDiff, reduceCtorEq, Nat.reduceAdd, Nat.reduceLeDiff, Nat.reduceLT, reduceIte, Int.reduceBEq, Int.reduceBNe, Int.reduceLT, Int.reduceLE, Int.reduceAdd, Int.reduceSub, Int.reduceMul, Int.reduceNeg, Int.reduceEq, Int.reduceNe, Nat.reduceMul, Nat.reduceSub]) ?_
  rintro _ ⟨o', rfl, ho'⟩
  obtain ⟨b, hb1, hb2, hb3⟩ : ∃ b, rdv (.lst o' (cellsA cs)) = .lst (ownB b) (cellsA cs) ∧ (b = false → cs = []) ∧ Ge.rdc (.lst o' (cellsA cs)) = .lst (ownB b) (cellsA cs) := by
    rcases ho' with ⟨rfl, e⟩ | rfl
    · exact ⟨false, rfl, fun _ => e, rfl⟩
    · exact ⟨true, rfl, (fun e => by cases e), rfl⟩
  have hbo := ownB_rdo b
  have hE : ∀ x, putE s self other k cs = x → x ≠ 0 → putS s self other k cs = s := fun x h1 h2 => by unfold putS; rw [if_neg (by omega)]
  simp (disch := first | assumption | omega) only [h2, hb1, hb3, go_sem, ↓reduceIte, Nat.reduceEqDiff, reduceCtorEq, Nat.reduceAdd, Nat.reduceLeDiff, Nat.reduceLT, reduceIte, Int.reduceBEq, Int.reduceBNe, Int.reduceLT, Int.reduceLE, Int.reduceAdd, Int.reduceSub, Int.reduceMul, Int.reduceNeg, Int.reduceEq, Int.reduceNe, Nat.reduceMul, Nat.reduceSub]
  by_cases hk : k = 3
  · have e1 : putE s self other k cs = 1 := by unfold putE; rw [if_pos hk]
    simp (disch := first | assumption | omega) only [eq_true hk, go_sem, ↓reduceIte, Nat.reduceEqDiff, reduceCtorEq, Nat.reduceAdd, Nat.reduceLeDiff, Nat.reduceLT, reduceIte, Int.reduceBEq, Int.reduceBNe, Int.reduceLT, Int.reduceLE, Int.reduceAdd, Int.reduceSub, Int.reduceMul, Int.reduceNeg, Int.reduceEq, Int.reduceNe, Nat.reduceMul, Nat.reduceSub]
    subst hQ
    simp (disch := first | assumption | omega) only [R.link_End_Put, e1, hE _ e1 (by decide), go_sem, ↓reduceIte, Nat.reduceEqDiff, reduceCtorEq, Nat.reduceAdd, Nat.reduceLeDiff, Nat.reduceLT, reduceIte, Int.reduceBEq, Int.reduceBNe, Int.reduceLT, Int.reduceLE, Int.reduceAdd, Int.reduceSub, Int.reduceMul, Int.reduceNeg, Int.reduceEq, Int.reduceNe, Nat.reduceMul, Nat.reduceSub]
    exact hq0
  simp (disch := first | assumption | omega) only [hk, h2, hb1, hb3, go_sem, ↓reduceIte, Nat.reduceEqDiff, reduceCtorEq, Nat.reduceAdd, Nat.reduceLeDiff, Nat.reduceLT, reduceIte, Int.reduceBEq, Int.reduceBNe, Int.reduceLT, Int.reduceLE, Int.reduceAdd, Int.reduceSub, Int.reduceMul, Int.reduceNeg, Int.reduceEq, Int.reduceNe, Nat.reduceMul, Nat.reduceSub]
  refine callG_ok (Check_ok (ownB b) (putM s self other k cs) hbo (by simp only [putM]; unfold reachBytes at hl; omega) _) (by simp (disch := first | assumption | omega) only [msgA, msgC, putM, go_sem, ↓reduceIte, Nat.reduceEqDiff, reduceCtorEq, Nat.reduceAdd, Nat.reduceLeDiff, Nat.reduceLT, reduceIte, Int.reduceBEq, Int.reduceBNe, Int.reduceLT, Int.reduceLE, Int.reduceAdd, Int.reduceSub, Int.reduceMul, Int.reduceNeg, Int.reduceEq, Int.reduceNe, Nat.reduceMul, Nat.reduceSub]) ?_
  rintro _ _ ⟨rfl, hhh⟩
  rw [hhh]
  clear hhh
  by_cases hc : checkF (putM s self other k cs) = 0
  · by_cases h500 : s.wait.length = 500
    · have e1 : putE s self other k cs = 6 := by unfold putE; rw [if_neg hk, if_neg (by simp [hc]), if_pos h500]
      have h5' : (L.length : Int) = 500 := by omega
      rcases h3.cases with ⟨rfl, rfl⟩ | ⟨id, off, cap, rfl, hcp, hi, hs⟩
      · simp at h5'
      · simp (disch := first | assumption | omega) only [hc, h2, eq_true h5', go_sem, ↓reduceIte, Nat.reduceEqDiff, reduceCtorEq, Nat.reduceAdd, Nat.reduceLeDiff, Nat.reduceLT, reduceIte, Int.reduceBEq, Int.reduceBNe, Int.reduceLT, Int.reduceLE, Int.reduceAdd, Int.reduceSub, Int.reduceMul, Int.reduceNeg, Int.reduceEq, Int.reduceNe, Nat.reduceMul, Nat.reduceSub]
        subst hQ
        simp (disch := first | assumption | omega) only [R.link_End_Put, e1, hE _ e1 (by decide), go_sem, ↓reduceIte, Nat.reduceEqDiff, reduceCtorEq, Nat.reduceAdd, Nat.reduceLeDiff, Nat.reduceLT, reduceIte, Int.reduceBEq, Int.reduceBNe, Int.reduceLT, Int.reduceLE, Int.reduceAdd, Int.reduceSub, Int.reduceMul, Int.reduceNeg, Int.reduceEq, Int.reduceNe, Nat.reduceMul, Nat.reduceSub]
        exact hq0
    · have e1 : putE s self other k cs = 0 := by unfold putE; rw [if_neg hk, if_neg (by simp [hc]), if_neg h500]
      have e2 : putS s self other k cs = { s with next := s.next + 1, wait := s.wait ++ [(putM s self other k cs, -1)] } := by unfold putS; rw [if_pos e1]
      have h5' : ¬(L.length : Int) = 500 := by omega
      have hnw : IntKind.i64.wrap (s.next + 1) = s.next + 1 := wrapI64 (by omega) (by omega)
      have h3' := h3
      have hpush : ∀ (C : CallS) (r : AOpn → AVal) (hp : List HObj) (K : AVal → List HObj → Prop) (x y : AOpn), hp = h.set e (.cells [.int .i64 self, .int .i64 other, .int .i64 (s.next + 1), w, .int .i64 s.want, g, .bool s.owes]) → r x = w → (∃ q, r y = .lst q [.agg (itC (b, putM s self other k cs, -1))]) →
          (∀ w' h', (h'[e]? = some (.cells [.int .i64 self, .int .i64 other, .int .i64 (s.next + 1), w, .int .i64 s.want, g, .bool s.owes])) → EndQ h e own self other (putS s self other k cs) (h'.set e (.cells [.int .i64 self, .int .i64 other, .int .i64 (s.next + 1), w', .int .i64 s.want, g, .bool s.owes])) → (∃ id off len cap, w' = .ref id off len cap) → K w' h') → hstep C r hp (.appendR 7 72 x y) K := by
        intro C r hp K x y hhp hx ⟨q, hy⟩ hK
        have hw1 : SlO itC 7 hp own w L := by rw [hhp]; exact h3'.frame (S := [e]) (Fr.set (by simp)) (fun i hi hm => by simp at hm; subst hm; exact h1 hi)
        refine hw1.push itC_len itC_st hx hy rfl rfl (by omega) (by omega) fun w' h' own' hs' hf hi => ?_
        have hlh : e < h.length := lt_of_get h2
        have hpl : hp.length = h.length := by rw [hhp]; simp
        have hge : h'[e]? = some (.cells [.int .i64 self, .int .i64 other, .int .i64 (s.next + 1), w, .int .i64 s.want, g, .bool s.owes]) := hf.get h1 (by rw [hhp]; exact get_set h2)
        have hen : e ∉ own' := fun hm => (hi e hm).elim h1 (fun hh => by have := hh.1; omega)
        refine hK w' h' hge ⟨own', ⟨hen, w', g, L ++ [(b, putM s self other k cs, -1)], by rw [e2]; exact get_set hge, hs'.frame (S := [e]) (Fr.set (by simp)) (fun i hi hm => by simp at hm; subst hm; exact hen hi), ?_, ?_, ?_⟩, ?_, fun i hm => ?_⟩ ?_
        · rw [e2]; simp [h4]
        · intro z hz hzb
          rcases List.mem_append.1 hz with hz | hz
          · exact h5 z hz hzb
          · simp at hz; subst hz; exact hb2 hzb
        · rw [e2]; exact h6
        · have f1 : Fr (e :: own) h hp := by rw [hhp]; exact Fr.set (by simp)
          exact (f1.trans (hf.mono (S' := e :: own) (fun i h => .inl (by simp [h]))) (fun i h => .inl h)).trans (Fr.set (S := [e]) (by simp)) (fun i h => .inl (by simp at h; simp [h]))
        · exact (hi i hm).imp id fun hh => ⟨by have := hh.1; omega, by rw [List.length_set]; exact hh.2⟩
        · rcases hs'.cases with ⟨_, e⟩ | ⟨id, off, cap, e, _⟩
          · simp at e
          · exact ⟨_, _, _, _, e⟩
      rcases h3.cases with ⟨rfl, rfl⟩ | ⟨id, off, cap, rfl, hcp, hi, hs⟩
      all_goals (
        simp (disch := first | assumption | omega) only [hc, h2, h5', hnw, get_set h2, aops_hop, go_sem, ↓reduceIte, Nat.reduceEqDiff, reduceCtorEq, Nat.reduceAdd, Nat.reduceLeDiff, Nat.reduceLT, reduceIte, Int.reduceBEq, Int.reduceBNe, Int.reduceLT, Int.reduceLE, Int.reduceAdd, Int.reduceSub, Int.reduceMul, Int.reduceNeg, Int.reduceEq, Int.reduceNe, Nat.reduceMul, Nat.reduceSub]
        refine hpush _ _ _ _ _ _ (by simp (disch := first | assumption | omega) only [go_sem, ↓reduceIte, Nat.reduceEqDiff, reduceCtorEq, Nat.reduceAdd, Nat.reduceLeDiff, Nat.reduceLT, reduceIte, Int.reduceBEq, Int.reduceBNe, Int.reduceLT, Int.reduceLE, Int.reduceAdd, Int.reduceSub, Int.reduceMul, Int.reduceNeg, Int.reduceEq, Int.reduceNe, Nat.reduceMul, Nat.reduceSub]) (by simp (disch := first | assumption | omega) only [go_sem, ↓reduceIte, Nat.reduceEqDiff, reduceCtorEq, Nat.reduceAdd, Nat.reduceLeDiff, Nat.reduceLT, reduceIte, Int.reduceBEq, Int.reduceBNe, Int.reduceLT, Int.reduceLE, Int.reduceAdd, Int.reduceSub, Int.reduceMul, Int.reduceNeg, Int.reduceEq, Int.reduceNe, Nat.reduceMul, Nat.reduceSub]) ⟨.sh, by simp (disch := first | assumption | omega) only [itC, msgC, putM, hb3, go_sem, ↓reduceIte, Nat.reduceEqDiff, reduceCtorEq, Nat.reduceAdd, Nat.reduceLeDiff, Nat.reduceLT, reduceIte, Int.reduceBEq, Int.reduceBNe, Int.reduceLT, Int.reduceLE, Int.reduceAdd, Int.reduceSub, Int.reduceMul, Int.reduceNeg, Int.reduceEq, Int.reduceNe, Nat.reduceMul, Nat.reduceSub]⟩ ?_
        rintro _ h' hge hq ⟨id', off', len', cap', rfl⟩ _
        simp (disch := first | assumption | omega) only [hge, go_sem, ↓reduceIte, Nat.reduceEqDiff, reduceCtorEq, Nat.reduceAdd, Nat.reduceLeDiff, Nat.reduceLT, reduceIte, Int.reduceBEq, Int.reduceBNe, Int.reduceLT, Int.reduceLE, Int.reduceAdd, Int.reduceSub, Int.reduceMul, Int.reduceNeg, Int.reduceEq, Int.reduceNe, Nat.reduceMul, Nat.reduceSub]
        subst hQ
        simp (disch := first | assumption | omega) only [R.link_End_Put, e1, go_sem, ↓reduceIte, Nat.reduceEqDiff, reduceCtorEq, Nat.reduceAdd, Nat.reduceLeDiff, Nat.reduceLT, reduceIte, Int.reduceBEq, Int.reduceBNe, Int.reduceLT, Int.reduceLE, Int.reduceAdd, Int.reduceSub, Int.reduceMul, Int.reduceNeg, Int.reduceEq, Int.reduceNe, Nat.reduceMul, Nat.reduceSub]
        exact hq)
  · have e1 : putE s self other k cs = checkF (putM s self other k cs) := by unfold putE; rw [if_neg hk, if_pos hc]
    simp (disch := first | assumption | omega) only [hc, go_sem, ↓reduceIte, Nat.reduceEqDiff, reduceCtorEq, Nat.reduceAdd, Nat.reduceLeDiff, Nat.reduceLT, reduceIte, Int.reduceBEq, Int.reduceBNe, Int.reduceLT, Int.reduceLE, Int.reduceAdd, Int.reduceSub, Int.reduceMul, Int.reduceNeg, Int.reduceEq, Int.reduceNe, Nat.reduceMul, Nat.reduceSub]
    subst hQ
    simp (disch := first | assumption | omega) only [R.link_End_Put, e1, hE _ e1 hc, go_sem, ↓reduceIte, Nat.reduceEqDiff, reduceCtorEq, Nat.reduceAdd, Nat.reduceLeDiff, Nat.reduceLT, reduceIte, Int.reduceBEq, Int.reduceBNe, Int.reduceLT, Int.reduceLE, Int.reduceAdd, Int.reduceSub, Int.reduceMul, Int.reduceNeg, Int.reduceEq, Int.reduceNe, Nat.reduceMul, Nat.reduceSub]
    exact hq0
/-- The heap with an end's cells as they are now. -/
def endC (self other : Int) (s : Lk) (w g : AVal) : HObj := .cells [.int .i64 self, .int .i64 other, .int .i64 s.next, w, .int .i64 s.want, g, .bool s.owes]
theorem In_ok (e : Nat) (own : List Nat) (self other : Int) (s : Lk) (n : Int) (q : Own) (m : Msg) (h : List HObj) (hr : EndR h e own self other s) (hs : s.ok n) (hn : n ≤ 1099511627776) (hq : Rdn q m.Cells) (hl : m.Cells.length < 4611686018427387904) :
    ACalls Try.prog F.link_End_In [.hp e 0, msgA q m] h (fun v h' => v = .int .i64 (inE s self other m) ∧ EndQ h e own self other (inS s self other m) h') := by
  obtain ⟨h1, w, g, L, h2, h3, h4, h5, h6⟩ := hr
  have hr0 : EndR h e own self other s := ⟨h1, w, g, L, h2, h3, h4, h5, h6⟩
  have hq0 : EndQ h e own self other s h := ⟨own, hr0, Fr.refl _ _, fun i hi => .inl hi⟩
  have hwl := hs.wait
  have hw0 := hs.want0
  have hw1 := hs.want1
  have hlw : L.length = s.wait.length := by rw [← h4]; simp
  have hq1 := hq.1
  have hE : ∀ x, inE s self other m = x → x ≠ 0 → inS s self other m = s := fun x h1 h2 => by unfold inS; rw [if_pos (by omega)]
  refine ACalls.of_aw Try.func168 K.link_End_In (by simp [Try.f168]) ?_
  generalize hQ : retQ R.link_End_In _ = Q
  simp (disch := first | assumption | omega) only [C.link_End_In, go_sem, ↓reduceIte, Nat.reduceEqDiff, reduceCtorEq, Nat.reduceAdd, Nat.reduceLeDiff, Nat.reduceLT, reduceIte, Int.reduceBEq, Int.reduceBNe, Int.reduceLT, Int.reduceLE, Int.reduceAdd, Int.reduceSub, Int.reduceMul, Int.reduceNeg, Int.reduceEq, Int.reduceNe, Nat.reduceMul, Nat.reduceSub]
  simp (disch := first | assumption | omega) only [msgA, msgC, go_sem, ↓reduceIte, Nat.reduceEqDiff, reduceCtorEq, Nat.reduceAdd, Nat.reduceLeDiff, Nat.reduceLT, reduceIte, Int.reduceBEq, Int.reduceBNe, Int.reduceLT, Int.reduceLE, Int.reduceAdd, Int.reduceSub, Int.reduceMul, Int.reduceNeg, Int.reduceEq, Int.reduceNe, Nat.reduceMul, Nat.reduceSub]
  refine callG_ok (Check_ok q m hq1 hl _) (by simp (disch := first | assumption | omega) only [msgA, msgC, go_sem, ↓reduceIte, Nat.reduceEqDiff, reduceCtorEq, Nat.reduceAdd, Nat.reduceLeDiff, Nat.reduceLT, reduceIte, Int.reduceBEq, Int.reduceBNe, Int.reduceLT, Int.reduceLE, Int.reduceAdd, Int.reduceSub, Int.reduceMul, Int.reduceNeg, Int.reduceEq, Int.reduceNe, Nat.reduceMul, Nat.reduceSub]) ?_
  rintro _ _ ⟨rfl, hhh⟩
  rw [hhh]
  clear hhh
  by_cases hc : checkF m = 0
  · by_cases hf : m.From = other
    case neg =>
      have e1 : inE s self other m = 16 := by unfold inE; rw [if_neg (by simp [hc]), if_pos (.inl hf)]
      simp (disch := first | assumption | omega) only [hc, h2, hf, go_sem, ↓reduceIte, Nat.reduceEqDiff, reduceCtorEq, Nat.reduceAdd, Nat.reduceLeDiff, Nat.reduceLT, reduceIte, Int.reduceBEq, Int.reduceBNe, Int.reduceLT, Int.reduceLE, Int.reduceAdd, Int.reduceSub, Int.reduceMul, Int.reduceNeg, Int.reduceEq, Int.reduceNe, Nat.reduceMul, Nat.reduceSub]
      subst hQ
      simp (disch := first | assumption | omega) only [R.link_End_In, e1, hE _ e1 (by decide), go_sem, ↓reduceIte, Nat.reduceEqDiff, reduceCtorEq, Nat.reduceAdd, Nat.reduceLeDiff, Nat.reduceLT, reduceIte, Int.reduceBEq, Int.reduceBNe, Int.reduceLT, Int.reduceLE, Int.reduceAdd, Int.reduceSub, Int.reduceMul, Int.reduceNeg, Int.reduceEq, Int.reduceNe, Nat.reduceMul, Nat.reduceSub]
      exact hq0
    by_cases ht : m.To = self
    case neg =>
      have e1 : inE s self other m = 16 := by unfold inE; rw [if_neg (by simp [hc]), if_pos (.inr ht)]
      simp (disch := first | assumption | omega) only [hc, h2, eq_true hf, ht, go_sem, ↓reduceIte, Nat.reduceEqDiff, reduceCtorEq, Nat.reduceAdd, Nat.reduceLeDiff, Nat.reduceLT, reduceIte, Int.reduceBEq, Int.reduceBNe, Int.reduceLT, Int.reduceLE, Int.reduceAdd, Int.reduceSub, Int.reduceMul, Int.reduceNeg, Int.reduceEq, Int.reduceNe, Nat.reduceMul, Nat.reduceSub]
      subst hQ
      simp (disch := first | assumption | omega) only [R.link_End_In, e1, hE _ e1 (by decide), go_sem, ↓reduceIte, Nat.reduceEqDiff, reduceCtorEq, Nat.reduceAdd, Nat.reduceLeDiff, Nat.reduceLT, reduceIte, Int.reduceBEq, Int.reduceBNe, Int.reduceLT, Int.reduceLE, Int.reduceAdd, Int.reduceSub, Int.reduceMul, Int.reduceNeg, Int.reduceEq, Int.reduceNe, Nat.reduceMul, Nat.reduceSub]
      exact hq0
    have hft : ¬(m.From ≠ other ∨ m.To ≠ self) := by simp [hf, ht]
    by_cases hk : m.Kind = 3
    · by_cases ho : s.next < m.Seq
      · have e1 : inE s self other m = 9 := by unfold inE; rw [if_neg (by simp [hc]), if_neg hft, if_pos ⟨hk, ho⟩]
        simp (disch := first | assumption | omega) only [hc, h2, eq_true hf, eq_true ht, eq_true hk, ho, go_sem, ↓reduceIte, Nat.reduceEqDiff, reduceCtorEq, Nat.reduceAdd, Nat.reduceLeDiff, Nat.reduceLT, reduceIte, Int.reduceBEq, Int.reduceBNe, Int.reduceLT, Int.reduceLE, Int.reduceAdd, Int.reduceSub, Int.reduceMul, Int.reduceNeg, Int.reduceEq, Int.reduceNe, Nat.reduceMul, Nat.reduceSub]
        subst hQ
        simp (disch := first | assumption | omega) only [R.link_End_In, e1, hE _ e1 (by decide), go_sem, ↓reduceIte, Nat.reduceEqDiff, reduceCtorEq, Nat.reduceAdd, Nat.reduceLeDiff, Nat.reduceLT, reduceIte, Int.reduceBEq, Int.reduceBNe, Int.reduceLT, Int.reduceLE, Int.reduceAdd, Int.reduceSub, Int.reduceMul, Int.reduceNeg, Int.reduceEq, Int.reduceNe, Nat.reduceMul, Nat.reduceSub]
        exact hq0
      · have e1 : inE s self other m = 0 := by unfold inE; rw [if_neg (by simp [hc]), if_neg hft, if_neg (fun h => ho h.2)]
        have e2 : inS s self other m = { s with wait := cutW m.Seq s.wait } := by unfold inS; rw [if_neg (by simp [e1]), if_pos hk]
        simp (disch := first | assumption | omega) only [hc, h2, eq_true hf, eq_true ht, eq_true hk, ho, go_sem, ↓reduceIte, Nat.reduceEqDiff, reduceCtorEq, Nat.reduceAdd, Nat.reduceLeDiff, Nat.reduceLT, reduceIte, Int.reduceBEq, Int.reduceBNe, Int.reduceLT, Int.reduceLE, Int.reduceAdd, Int.reduceSub, Int.reduceMul, Int.reduceNeg, Int.reduceEq, Int.reduceNe, Nat.reduceMul, Nat.reduceSub]
        refine aw_count (fun d S => ∃ (w' : AVal) (Lr : List (Bool × Msg × Int)), Lr.length = d ∧ SlO itC 7 h own w' Lr ∧ cutW m.Seq (Lr.map (·.2)) = cutW m.Seq s.wait ∧ (∀ x ∈ Lr, x ∈ L) ∧ S.env 0 = .hp e 0 ∧ S.env 3 = .box 3 0 ∧ S.boxes 3 = some [.int .i64 m.Kind, .int .i64 m.From, .int .i64 m.To, .int .i64 m.Seq, .int .u32 m.Clock, .lst q (cellsA m.Cells)] ∧ S.heap = h.set e (endC self other s w' g)) (n := L.length)
          ⟨w, L, rfl, h3, by rw [h4], fun x hx => hx, by simp (disch := first | assumption | omega) only [go_sem, ↓reduceIte, Nat.reduceEqDiff, reduceCtorEq, Nat.reduceAdd, Nat.reduceLeDiff, Nat.reduceLT, reduceIte, Int.reduceBEq, Int.reduceBNe, Int.reduceLT, Int.reduceLE, Int.reduceAdd, Int.reduceSub, Int.reduceMul, Int.reduceNeg, Int.reduceEq, Int.reduceNe, Nat.reduceMul, Nat.reduceSub], by simp (disch := first | assumption | omega) only [go_sem, ↓reduceIte, Nat.reduceEqDiff, reduceCtorEq, Nat.reduceAdd, Nat.reduceLeDiff, Nat.reduceLT, reduceIte, Int.reduceBEq, Int.reduceBNe, Int.reduceLT, Int.reduceLE, Int.reduceAdd, Int.reduceSub, Int.reduceMul, Int.reduceNeg, Int.reduceEq, Int.reduceNe, Nat.reduceMul, Nat.reduceSub], by simp (disch := first | assumption | omega) only [go_sem, ↓reduceIte, Nat.reduceEqDiff, reduceCtorEq, Nat.reduceAdd, Nat.reduceLeDiff, Nat.reduceLT, reduceIte, Int.reduceBEq, Int.reduceBNe, Int.reduceLT, Int.reduceLE, Int.reduceAdd, Int.reduceSub, Int.reduceMul, Int.reduceNeg, Int.reduceEq, Int.reduceNe, Nat.reduceMul, Nat.reduceSub], by simp (disch := first | assumption | omega) only [setH_same h2, endC, go_sem, ↓reduceIte, Nat.reduceEqDiff, reduceCtorEq, Nat.reduceAdd, Nat.reduceLeDiff, Nat.reduceLT, reduceIte, Int.reduceBEq, Int.reduceBNe, Int.reduceLT, Int.reduceLE, Int.reduceAdd, Int.reduceSub, Int.reduceMul, Int.reduceNeg, Int.reduceEq, Int.reduceNe, Nat.reduceMul, Nat.reduceSub]⟩ ?_
        rintro d S ⟨w', Lr, hd, hs', hcut, hsub, e0, e3, b3, eh⟩
        have hge : S.heap[e]? = some (endC self other s w' g) := by rw [eh]; exact get_set h2
        unfold endC at hge
        cases Lr with
        | nil =>
          have hl0 : ∃ w0, w' = w0 ∧ (w0 = .lst .nil [] ∨ ∃ id off cap, w0 = .ref id off 0 cap) := ⟨w', rfl, by rcases hs'.cases with ⟨h, _⟩ | ⟨id, off, cap, h, _⟩; exact .inl h; exact .inr ⟨_, _, _, h⟩⟩
          have hfin : EndQ h e own self other (inS s self other m) S.heap := by
            rw [eh, e2]
            refine ⟨own, ⟨h1, w', g, [], get_set h2, hs'.frame (S := [e]) (Fr.set (by simp)) (fun i hi hm => by simp at hm; subst hm; exact h1 hi), by simp only; rw [← hcut]; rfl, by simp, h6⟩, Fr.set (by simp), fun i hi => .inl hi⟩
          obtain ⟨w0, rfl, hl0⟩ := hl0
          rcases hl0 with rfl | ⟨id, off, cap, rfl⟩
          all_goals (
            simp (disch := first | assumption | omega) only [e0, e3, b3, hge, go_sem, ↓reduceIte, Nat.reduceEqDiff, reduceCtorEq, Nat.reduceAdd, Nat.reduceLeDiff, Nat.reduceLT, reduceIte, Int.reduceBEq, Int.reduceBNe, Int.reduceLT, Int.reduceLE, Int.reduceAdd, Int.reduceSub, Int.reduceMul, Int.reduceNeg, Int.reduceEq, Int.reduceNe, Nat.reduceMul, Nat.reduceSub]
            subst hQ
            simp (disch := first | assumption | omega) only [R.link_End_In, e1, go_sem, ↓reduceIte, Nat.reduceEqDiff, reduceCtorEq, Nat.reduceAdd, Nat.reduceLeDiff, Nat.reduceLT, reduceIte, Int.reduceBEq, Int.reduceBNe, Int.reduceLT, Int.reduceLE, Int.reduceAdd, Int.reduceSub, Int.reduceMul, Int.reduceNeg, Int.reduceEq, Int.reduceNe, Nat.reduceMul, Nat.reduceSub]
            exact hfin)
        | cons x Lr =>
          rcases hs'.cases with ⟨_, hh⟩ | ⟨id, off, cap, rfl, hcp, hi, hsr⟩
          · cases hh
          simp only [List.length_cons] at hcp
          obtain ⟨cs, c1, c2, c3, c4, c5⟩ := hsr.get itC_len (by simp)
          have hie : e ≠ id := fun h => h1 (h ▸ hi)
          have hid : S.heap[id]? = some (.cells cs) := by rw [eh, get_set_ne hie]; exact c1
          have c4' := getD_of_take (c4 0 (by simp) 3 1 (by omega))
          simp only [Nat.zero_mul, Nat.add_zero, List.getElem_cons_zero] at c4'
          simp only [List.length_cons] at c2
          have hx3 : cs.getD (off + 3) .junk = .int .i64 x.2.1.Seq := by rw [c4']; rfl
          have hp0 : (0 : Int) < ((Lr.length + 1 : Nat) : Int) := by omega
          by_cases hlt : x.2.1.Seq < m.Seq
          · simp (disch := first | assumption | omega) only [e0, e3, b3, hge, hid, hx3, hlt, hp0, go_sem, ↓reduceIte, Nat.reduceEqDiff, reduceCtorEq, Nat.reduceAdd, Nat.reduceLeDiff, Nat.reduceLT, reduceIte, Int.reduceBEq, Int.reduceBNe, Int.reduceLT, Int.reduceLE, Int.reduceAdd, Int.reduceSub, Int.reduceMul, Int.reduceNeg, Int.reduceEq, Int.reduceNe, Nat.reduceMul, Nat.reduceSub]
            simp only [List.length_cons] at hd
            refine ⟨by omega, ⟨by omega, by omega⟩, Lr.length, by omega, .ref id (off + 7) (Lr.length + 1 - 1) (cap - 1), Lr, rfl, ⟨id, (hsr.tail itC_len).1, .inr hi⟩, ?_, fun y hy => hsub y (by simp [hy]), by rw [eh, List.set_set]; rfl⟩
            rw [← hcut]; simp only [List.map_cons, cutW, if_pos hlt]
          · have hfin : EndQ h e own self other (inS s self other m) S.heap := by
              rw [eh, e2]
              refine ⟨own, ⟨h1, _, g, x :: Lr, get_set h2, hs'.frame (S := [e]) (Fr.set (by simp)) (fun i hi hm => by simp at hm; subst hm; exact h1 hi), ?_, fun y hy => h5 y (hsub y hy), h6⟩, Fr.set (by simp), fun i hi => .inl hi⟩
              rw [← hcut]; simp only [List.map_cons, cutW, if_neg hlt]
            simp (disch := first | assumption | omega) only [e0, e3, b3, hge, hid, hx3, hlt, hp0, go_sem, ↓reduceIte, Nat.reduceEqDiff, reduceCtorEq, Nat.reduceAdd, Nat.reduceLeDiff, Nat.reduceLT, reduceIte, Int.reduceBEq, Int.reduceBNe, Int.reduceLT, Int.reduceLE, Int.reduceAdd, Int.reduceSub, Int.reduceMul, Int.reduceNeg, Int.reduceEq, Int.reduceNe, Nat.reduceMul, Nat.reduceSub]
            subst hQ
            simp (disch := first | assumption | omega) only [R.link_End_In, e1, go_sem, ↓reduceIte, Nat.reduceEqDiff, reduceCtorEq, Nat.reduceAdd, Nat.reduceLeDiff, Nat.reduceLT, reduceIte, Int.reduceBEq, Int.reduceBNe, Int.reduceLT, Int.reduceLE, Int.reduceAdd, Int.reduceSub, Int.reduceMul, Int.reduceNeg, Int.reduceEq, Int.reduceNe, Nat.reduceMul, Nat.reduceSub]
            exact ⟨by omega, hfin⟩
    · have e1 : inE s self other m = 0 := by unfold inE; rw [if_neg (by simp [hc]), if_neg hft, if_neg (fun h => hk h.1)]
      have hm4 := checkF_len hc
      simp (disch := first | assumption | omega) only [hc, h2, eq_true hf, eq_true ht, hk, get_set h2, go_sem, ↓reduceIte, Nat.reduceEqDiff, reduceCtorEq, Nat.reduceAdd, Nat.reduceLeDiff, Nat.reduceLT, reduceIte, Int.reduceBEq, Int.reduceBNe, Int.reduceLT, Int.reduceLE, Int.reduceAdd, Int.reduceSub, Int.reduceMul, Int.reduceNeg, Int.reduceEq, Int.reduceNe, Nat.reduceMul, Nat.reduceSub]
      by_cases hw : m.Seq = s.want
      · have e2 : inS s self other m = { s with owes := true, want := s.want + 1, got := s.got ++ [m] } := by unfold inS; rw [if_neg (by simp [e1]), if_neg hk, if_pos hw]
        have hww : IntKind.i64.wrap (s.want + 1) = s.want + 1 := wrapI64 (by omega) (by omega)
        have hfin : ∀ xs' hp, MsgsOk (s.got ++ [m]) xs' → hp = h.set e (.cells [.int .i64 self, .int .i64 other, .int .i64 s.next, w, .int .i64 (s.want + 1), .lst (.app 6) xs', .bool true]) → EndQ h e own self other (inS s self other m) hp := by
          rintro xs' hp hx rfl
          rw [e2]
          exact ⟨own, ⟨h1, w, _, L, get_set h2, h3.frame (S := [e]) (Fr.set (by simp)) (fun i hi hm => by simp at hm; subst hm; exact h1 hi), h4, h5, .inr ⟨_, rfl, hx⟩⟩, Fr.set (by simp), fun i hi => .inl hi⟩
        rcases h6 with ⟨rfl, h6⟩ | ⟨xs, rfl, h6⟩
        · simp (disch := first | assumption | omega) only [eq_true hw, hww, get_set h2, List.set_set, go_sem, ↓reduceIte, Nat.reduceEqDiff, reduceCtorEq, Nat.reduceAdd, Nat.reduceLeDiff, Nat.reduceLT, reduceIte, Int.reduceBEq, Int.reduceBNe, Int.reduceLT, Int.reduceLE, Int.reduceAdd, Int.reduceSub, Int.reduceMul, Int.reduceNeg, Int.reduceEq, Int.reduceNe, Nat.reduceMul, Nat.reduceSub]
          refine callpG_ok (R := fun r => ∃ o', r = msgA o' m ∧ Rdn o' m.Cells) (fun hp' => ACalls.mono (Copy_ok q m hq (by unfold reachBytes; omega) hp') fun r h' hh => ⟨hh.2, hh.1⟩) (by simp (disch := first | assumption | omega) only [msgA, msgC, go_sem, ↓reduceIte, Nat.reduceEqDiff, reduceCtorEq, Nat.reduceAdd, Nat.reduceLeDiff, Nat.reduceLT, reduceIte, Int.reduceBEq, Int.reduceBNe, Int.reduceLT, Int.reduceLE, Int.reduceAdd, Int.reduceSub, Int.reduceMul, Int.reduceNeg, Int.reduceEq, Int.reduceNe, Nat.reduceMul, Nat.reduceSub]) ?_
          rintro _ ⟨o', rfl, ho'⟩
          have ho1 := ho'.1
          have hmx : MsgOk m (.agg [.int .i64 m.Kind, .int .i64 m.From, .int .i64 m.To, .int .i64 m.Seq, .int .u32 m.Clock, .lst o' (cellsA m.Cells)]) := ⟨o', ho', by unfold reachBytes; omega, rfl⟩
          simp (disch := first | assumption | omega) only [msgA, msgC, get_set h2, List.set_set, go_sem, ↓reduceIte, Nat.reduceEqDiff, reduceCtorEq, Nat.reduceAdd, Nat.reduceLeDiff, Nat.reduceLT, reduceIte, Int.reduceBEq, Int.reduceBNe, Int.reduceLT, Int.reduceLE, Int.reduceAdd, Int.reduceSub, Int.reduceMul, Int.reduceNeg, Int.reduceEq, Int.reduceNe, Nat.reduceMul, Nat.reduceSub]
          subst hQ
          simp (disch := first | assumption | omega) only [R.link_End_In, e1, go_sem, ↓reduceIte, Nat.reduceEqDiff, reduceCtorEq, Nat.reduceAdd, Nat.reduceLeDiff, Nat.reduceLT, reduceIte, Int.reduceBEq, Int.reduceBNe, Int.reduceLT, Int.reduceLE, Int.reduceAdd, Int.reduceSub, Int.reduceMul, Int.reduceNeg, Int.reduceEq, Int.reduceNe, Nat.reduceMul, Nat.reduceSub]
          exact hfin _ _ (h6 ▸ MsgsOk.snoc (l := []) (xs := []) hmx rfl) rfl
        · simp (disch := first | assumption | omega) only [eq_true hw, hww, get_set h2, List.set_set, go_sem, ↓reduceIte, Nat.reduceEqDiff, reduceCtorEq, Nat.reduceAdd, Nat.reduceLeDiff, Nat.reduceLT, reduceIte, Int.reduceBEq, Int.reduceBNe, Int.reduceLT, Int.reduceLE, Int.reduceAdd, Int.reduceSub, Int.reduceMul, Int.reduceNeg, Int.reduceEq, Int.reduceNe, Nat.reduceMul, Nat.reduceSub]
          refine callpG_ok (R := fun r => ∃ o', r = msgA o' m ∧ Rdn o' m.Cells) (fun hp' => ACalls.mono (Copy_ok q m hq (by unfold reachBytes; omega) hp') fun r h' hh => ⟨hh.2, hh.1⟩) (by simp (disch := first | assumption | omega) only [msgA, msgC, go_sem, ↓reduceIte, Nat.reduceEqDiff, reduceCtorEq, Nat.reduceAdd, Nat.reduceLeDiff, Nat.reduceLT, reduceIte, Int.reduceBEq, Int.reduceBNe, Int.reduceLT, Int.reduceLE, Int.reduceAdd, Int.reduceSub, Int.reduceMul, Int.reduceNeg, Int.reduceEq, Int.reduceNe, Nat.reduceMul, Nat.reduceSub]) ?_
          rintro _ ⟨o', rfl, ho'⟩
          have ho1 := ho'.1
          have hmx : MsgOk m (.agg [.int .i64 m.Kind, .int .i64 m.From, .int .i64 m.To, .int .i64 m.Seq, .int .u32 m.Clock, .lst o' (cellsA m.Cells)]) := ⟨o', ho', by unfold reachBytes; omega, rfl⟩
          have hxl := h6.length
          have hgl := hs.got
          simp (disch := first | assumption | omega) only [msgA, msgC, get_set h2, List.set_set, go_sem, ↓reduceIte, Nat.reduceEqDiff, reduceCtorEq, Nat.reduceAdd, Nat.reduceLeDiff, Nat.reduceLT, reduceIte, Int.reduceBEq, Int.reduceBNe, Int.reduceLT, Int.reduceLE, Int.reduceAdd, Int.reduceSub, Int.reduceMul, Int.reduceNeg, Int.reduceEq, Int.reduceNe, Nat.reduceMul, Nat.reduceSub]
          refine ⟨by omega, by omega, ?_⟩
          subst hQ
          simp (disch := first | assumption | omega) only [R.link_End_In, e1, go_sem, ↓reduceIte, Nat.reduceEqDiff, reduceCtorEq, Nat.reduceAdd, Nat.reduceLeDiff, Nat.reduceLT, reduceIte, Int.reduceBEq, Int.reduceBNe, Int.reduceLT, Int.reduceLE, Int.reduceAdd, Int.reduceSub, Int.reduceMul, Int.reduceNeg, Int.reduceEq, Int.reduceNe, Nat.reduceMul, Nat.reduceSub]
          exact hfin _ _ (h6.snoc hmx) rfl
      · have e2 : inS s self other m = { s with owes := true } := by unfold inS; rw [if_neg (by simp [e1]), if_neg hk, if_neg hw]
        have hfin : EndQ h e own self other (inS s self other m) (h.set e (.cells [.int .i64 self, .int .i64 other, .int .i64 s.next, w, .int .i64 s.want, g, .bool true])) := by
          rw [e2]
          exact ⟨own, ⟨h1, w, _, L, get_set h2, h3.frame (S := [e]) (Fr.set (by simp)) (fun i hi hm => by simp at hm; subst hm; exact h1 hi), h4, h5, h6⟩, Fr.set (by simp), fun i hi => .inl hi⟩
        simp (disch := first | assumption | omega) only [hw, go_sem, ↓reduceIte, Nat.reduceEqDiff, reduceCtorEq, Nat.reduceAdd, Nat.reduceLeDiff, Nat.reduceLT, reduceIte, Int.reduceBEq, Int.reduceBNe, Int.reduceLT, Int.reduceLE, Int.reduceAdd, Int.reduceSub, Int.reduceMul, Int.reduceNeg, Int.reduceEq, Int.reduceNe, Nat.reduceMul, Nat.reduceSub]
        subst hQ
        simp (disch := first | assumption | omega) only [R.link_End_In, e1, go_sem, ↓reduceIte, Nat.reduceEqDiff, reduceCtorEq, Nat.reduceAdd, Nat.reduceLeDiff, Nat.reduceLT, reduceIte, Int.reduceBEq, Int.reduceBNe, Int.reduceLT, Int.reduceLE, Int.reduceAdd, Int.reduceSub, Int.reduceMul, Int.reduceNeg, Int.reduceEq, Int.reduceNe, Nat.reduceMul, Nat.reduceSub]
        exact hfin
  · have e1 : inE s self other m = checkF m := by unfold inE; rw [if_pos hc]
    simp (disch := first | assumption | omega) only [hc, go_sem, ↓reduceIte, Nat.reduceEqDiff, reduceCtorEq, Nat.reduceAdd, Nat.reduceLeDiff, Nat.reduceLT, reduceIte, Int.reduceBEq, Int.reduceBNe, Int.reduceLT, Int.reduceLE, Int.reduceAdd, Int.reduceSub, Int.reduceMul, Int.reduceNeg, Int.reduceEq, Int.reduceNe, Nat.reduceMul, Nat.reduceSub]
    subst hQ
    simp (disch := first | assumption | omega) only [R.link_End_In, e1, hE _ e1 hc, go_sem, ↓reduceIte, Nat.reduceEqDiff, reduceCtorEq, Nat.reduceAdd, Nat.reduceLeDiff, Nat.reduceLT, reduceIte, Int.reduceBEq, Int.reduceBNe, Int.reduceLT, Int.reduceLE, Int.reduceAdd, Int.reduceSub, Int.reduceMul, Int.reduceNeg, Int.reduceEq, Int.reduceNe, Nat.reduceMul, Nat.reduceSub]
    exact hq0
end Go.Proofs.Ytpdajkbfemcdlaa
/- Contracts: what an end of a connection sends. -/
set_option linter.unusedSimpArgs false
set_option linter.unusedVariables false
set_option maxRecDepth 10000
namespace Go.Proofs.Ytpdajkbfemcdlaa
open Go.Ge
theorem GotR.push {g : AVal} {l : List Msg} (h : GotR g l) {m : Msg} {x : AVal} (hx : MsgOk m x) : ∃ xs, MsgsOk (l ++ [m]) (xs ++ [x]) ∧ (g = .lst .nil [] ∧ xs = [] ∨ g = .lst (.app 6) xs) ∧ xs.length = l.length := by
  rcases h with ⟨rfl, rfl⟩ | ⟨xs, rfl, h⟩
  · exact ⟨[], MsgsOk.snoc (l := []) (xs := []) hx rfl, .inl ⟨rfl, rfl⟩, rfl⟩
  · exact ⟨xs, h.snoc hx, .inr rfl, h.length⟩
theorem outM_len (t c : Int) (l : List (Msg × Int)) (i : Nat) : (outM t c l i).length ≤ i := by
  unfold outM
  rw [List.length_map]
  exact Nat.le_trans (List.length_filter_le _ _) (by simp; omega)
theorem Out_ok (e : Nat) (own : List Nat) (self other : Int) (s : Lk) (n t c : Int) (h : List HObj) (hr : EndR h e own self other s) (hs : s.ok n) (hn : n ≤ 1099511627776) :
    ACalls Try.prog F.link_End_Out [.hp e 0, .int .i64 t, .int .u32 c] h (fun v h' => GotR v (outL s self other (clampT t) c) ∧ EndQ h e own self other (outS s (clampT t)) h') := by
  obtain ⟨h1, w, g, L, h2, h3, h4, h5, h6⟩ := hr
  have hwl := hs.wait
  have hlw : L.length = s.wait.length := by rw [← h4]; simp
  have ht0 : 0 ≤ clampT t ∧ clampT t ≤ 2000 := by unfold clampT; omega
  have hT : (if (0 : Int) < (if 2000 < t then 2000 else t) then (if 2000 < t then 2000 else t) else 0) = clampT t := by unfold clampT; split <;> split <;> omega
  have hmin : (if (8 : Int) < L.length then (8 : Int) else L.length) = ((min L.length 8 : Nat) : Int) := by split <;> omega
  have hcon : ∃ w0, w0 = w := ⟨w, rfl⟩
  refine ACalls.of_aw Try.func169 K.link_End_Out (by simp [Try.f169]) ?_
  generalize hQ : retQ R.link_End_Out _ = Q
  simp (disch := first | assumption | omega) only [C.link_End_Out, go_sem, ↓reduceIte, Nat.reduceEqDiff, reduceCtorEq, Nat.reduceAdd, Nat.reduceLeDiff, Nat.reduceLT, reduceIte, Int.reduceBEq, Int.reduceBNe, Int.reduceLT, Int.reduceLE, Int.reduceAdd, Int.reduceSub, Int.reduceMul, Int.reduceNeg, Int.reduceEq, Int.reduceNe, Nat.reduceMul, Nat.reduceSub]
  generalize clampT t = T at *
  rcases h3.cases with ⟨hwe, hLe⟩ | ⟨id, off, cap, hwe, hcp, hi, hsr⟩
  all_goals (
    have h2' := h2
    rw [hwe] at h2'
    simp (disch := first | assumption | omega) only [h2', hT, hmin, go_sem, ↓reduceIte, Nat.reduceEqDiff, reduceCtorEq, Nat.reduceAdd, Nat.reduceLeDiff, Nat.reduceLT, reduceIte, Int.reduceBEq, Int.reduceBNe, Int.reduceLT, Int.reduceLE, Int.reduceAdd, Int.reduceSub, Int.reduceMul, Int.reduceNeg, Int.reduceEq, Int.reduceNe, Nat.reduceMul, Nat.reduceSub]
    refine aw_count (fun d S => ∃ (i : Nat) (G : AVal) (Li : List (Bool × Msg × Int)), i + d = min L.length 8 ∧ S.env 20 = .int .i64 i ∧ S.env 19 = .int .i64 (min L.length 8 : Nat) ∧ S.env 0 = .hp e 0 ∧ S.env 1 = .int .i64 T ∧ S.env 2 = .int .u32 c ∧ S.env 7 = G ∧ GotR G (outM T c s.wait i) ∧
        SlO itC 7 S.heap own w Li ∧ Li.map (·.2) = outW T s.wait i ∧ (∀ x ∈ Li, x.1 = false → x.2.1.Cells = []) ∧ Fr own h S.heap) (n := min L.length 8)
      ⟨0, .lst .nil [], L, by omega, by simp (disch := first | assumption | omega) only [go_sem, ↓reduceIte, Nat.reduceEqDiff, reduceCtorEq, Nat.reduceAdd, Nat.reduceLeDiff, Nat.reduceLT, reduceIte, Int.reduceBEq, Int.reduceBNe, Int.reduceLT, Int.reduceLE, Int.reduceAdd, Int.reduceSub, Int.reduceMul, Int.reduceNeg, Int.reduceEq, Int.reduceNe, Nat.reduceMul, Nat.reduceSub], by (try rw [hLe]); simp (disch := first | assumption | omega) only [go_sem, ↓reduceIte, Nat.reduceEqDiff, reduceCtorEq, Nat.reduceAdd, Nat.reduceLeDiff, Nat.reduceLT, reduceIte, Int.reduceBEq, Int.reduceBNe, Int.reduceLT, Int.reduceLE, Int.reduceAdd, Int.reduceSub, Int.reduceMul, Int.reduceNeg, Int.reduceEq, Int.reduceNe, Nat.reduceMul, Nat.reduceSub]; try rfl, by simp (disch := first | assumption | omega) only [go_sem, ↓reduceIte, Nat.reduceEqDiff, reduceCtorEq, Nat.reduceAdd, Nat.reduceLeDiff, Nat.reduceLT, reduceIte, Int.reduceBEq, Int.reduceBNe, Int.reduceLT, Int.reduceLE, Int.reduceAdd, Int.reduceSub, Int.reduceMul, Int.reduceNeg, Int.reduceEq, Int.reduceNe, Nat.reduceMul, Nat.reduceSub], by simp (disch := first | assumption | omega) only [go_sem, ↓reduceIte, Nat.reduceEqDiff, reduceCtorEq, Nat.reduceAdd, Nat.reduceLeDiff, Nat.reduceLT, reduceIte, Int.reduceBEq, Int.reduceBNe, Int.reduceLT, Int.reduceLE, Int.reduceAdd, Int.reduceSub, Int.reduceMul, Int.reduceNeg, Int.reduceEq, Int.reduceNe, Nat.reduceMul, Nat.reduceSub], by simp (disch := first | assumption | omega) only [go_sem, ↓reduceIte, Nat.reduceEqDiff, reduceCtorEq, Nat.reduceAdd, Nat.reduceLeDiff, Nat.reduceLT, reduceIte, Int.reduceBEq, Int.reduceBNe, Int.reduceLT, Int.reduceLE, Int.reduceAdd, Int.reduceSub, Int.reduceMul, Int.reduceNeg, Int.reduceEq, Int.reduceNe, Nat.reduceMul, Nat.reduceSub], by simp (disch := first | assumption | omega) only [go_sem, ↓reduceIte, Nat.reduceEqDiff, reduceCtorEq, Nat.reduceAdd, Nat.reduceLeDiff, Nat.reduceLT, reduceIte, Int.reduceBEq, Int.reduceBNe, Int.reduceLT, Int.reduceLE, Int.reduceAdd, Int.reduceSub, Int.reduceMul, Int.reduceNeg, Int.reduceEq, Int.reduceNe, Nat.reduceMul, Nat.reduceSub], .inl ⟨rfl, rfl⟩, by simp (disch := first | assumption | omega) only [go_sem, ↓reduceIte, Nat.reduceEqDiff, reduceCtorEq, Nat.reduceAdd, Nat.reduceLeDiff, Nat.reduceLT, reduceIte, Int.reduceBEq, Int.reduceBNe, Int.reduceLT, Int.reduceLE, Int.reduceAdd, Int.reduceSub, Int.reduceMul, Int.reduceNeg, Int.reduceEq, Int.reduceNe, Nat.reduceMul, Nat.reduceSub]; exact h3, by rw [h4, outW_zero], h5, by simp (disch := first | assumption | omega) only [go_sem, ↓reduceIte, Nat.reduceEqDiff, reduceCtorEq, Nat.reduceAdd, Nat.reduceLeDiff, Nat.reduceLT, reduceIte, Int.reduceBEq, Int.reduceBNe, Int.reduceLT, Int.reduceLE, Int.reduceAdd, Int.reduceSub, Int.reduceMul, Int.reduceNeg, Int.reduceEq, Int.reduceNe, Nat.reduceMul, Nat.reduceSub]; exact Fr.refl _ _⟩ ?_)
  all_goals (
    rintro d S ⟨i, G, Li, hid, e20, e19, e0, e1, e2, e7, hG, hS, hLi, hfl, hfr⟩
    have hge : S.heap[e]? = some (endC self other s w g) := hfr.get h1 h2
    unfold endC at hge
    have hlen : Li.length = L.length := by have := congrArg List.length hLi; rw [List.length_map, outW_length] at this; omega
    simp (disch := first | assumption | omega) only [e20, e19, go_sem, ↓reduceIte, Nat.reduceEqDiff, reduceCtorEq, Nat.reduceAdd, Nat.reduceLeDiff, Nat.reduceLT, reduceIte, Int.reduceBEq, Int.reduceBNe, Int.reduceLT, Int.reduceLE, Int.reduceAdd, Int.reduceSub, Int.reduceMul, Int.reduceNeg, Int.reduceEq, Int.reduceNe, Nat.reduceMul, Nat.reduceSub]
    refine condG_if (fun hlt => ?_) fun hge' => ?_)
  · exfalso; rw [hLe] at hlt; simp at hlt
  · obtain rfl : i = min L.length 8 := by omega
    have hlw' : min L.length 8 = min s.wait.length 8 := by rw [hlw]
    rw [hlw', outM_min] at hG
    rw [hlw', outW_min] at hLi
    have hol := outM_len T c s.wait 8
    have hE2 : ∀ h', h'[e]? = some (endC self other ⟨s.next, s.want, s.wait, s.got, false⟩ w g) → Fr [e] S.heap h' → EndQ h e own self other (outS s T) h' := fun h' q1 q2 => by
      refine ⟨own, ⟨h1, w, g, Li, q1, hS.frame (S := [e]) q2 (fun i hi hm => by simp at hm; subst hm; exact h1 hi), hLi, hfl, h6⟩, (hfr.mono (fun i h => .inl (by simp [h]))).trans q2 (fun i h => .inl (by simp at h; simp [h])), fun i hi => .inl hi⟩
    unfold endC at hE2
    have hbeat : MsgOk ⟨3, self, other, s.want, c, []⟩ (.agg [.int .i64 3, .int .i64 self, .int .i64 other, .int .i64 s.want, .int .u32 c, .lst .nil []]) := ⟨.nil, ⟨.inr rfl, fun _ => rfl⟩, by simp, rfl⟩
    by_cases hw : s.owes = true
    · obtain ⟨xs, hx1, hx2, hx3⟩ := hG.push hbeat
      have hoL : outL s self other T c = outM T c s.wait 8 ++ [⟨3, self, other, s.want, c, []⟩] := by unfold outL; rw [if_pos hw]
      have hfin := hE2 _ (get_set hge) (Fr.set (by simp))
      rcases hx2 with ⟨rfl, rfl⟩ | rfl
      · simp (disch := first | assumption | omega) only [e20, e19, e0, e1, e2, e7, hge, hw, get_set hge, go_sem, ↓reduceIte, Nat.reduceEqDiff, reduceCtorEq, Nat.reduceAdd, Nat.reduceLeDiff, Nat.reduceLT, reduceIte, Int.reduceBEq, Int.reduceBNe, Int.reduceLT, Int.reduceLE, Int.reduceAdd, Int.reduceSub, Int.reduceMul, Int.reduceNeg, Int.reduceEq, Int.reduceNe, Nat.reduceMul, Nat.reduceSub]
        subst hQ
        simp (disch := first | assumption | omega) only [R.link_End_Out, hoL, go_sem, ↓reduceIte, Nat.reduceEqDiff, reduceCtorEq, Nat.reduceAdd, Nat.reduceLeDiff, Nat.reduceLT, reduceIte, Int.reduceBEq, Int.reduceBNe, Int.reduceLT, Int.reduceLE, Int.reduceAdd, Int.reduceSub, Int.reduceMul, Int.reduceNeg, Int.reduceEq, Int.reduceNe, Nat.reduceMul, Nat.reduceSub]
        exact ⟨.inr ⟨_, rfl, hx1⟩, hfin⟩
      · simp (disch := first | assumption | omega) only [e20, e19, e0, e1, e2, e7, hge, hw, get_set hge, go_sem, ↓reduceIte, Nat.reduceEqDiff, reduceCtorEq, Nat.reduceAdd, Nat.reduceLeDiff, Nat.reduceLT, reduceIte, Int.reduceBEq, Int.reduceBNe, Int.reduceLT, Int.reduceLE, Int.reduceAdd, Int.reduceSub, Int.reduceMul, Int.reduceNeg, Int.reduceEq, Int.reduceNe, Nat.reduceMul, Nat.reduceSub]
        refine ⟨by omega, by omega, ?_⟩
        subst hQ
        simp (disch := first | assumption | omega) only [R.link_End_Out, hoL, go_sem, ↓reduceIte, Nat.reduceEqDiff, reduceCtorEq, Nat.reduceAdd, Nat.reduceLeDiff, Nat.reduceLT, reduceIte, Int.reduceBEq, Int.reduceBNe, Int.reduceLT, Int.reduceLE, Int.reduceAdd, Int.reduceSub, Int.reduceMul, Int.reduceNeg, Int.reduceEq, Int.reduceNe, Nat.reduceMul, Nat.reduceSub]
        exact ⟨.inr ⟨_, rfl, hx1⟩, hfin⟩
    · have hw : s.owes = false := by simpa using hw
      have hoL : outL s self other T c = outM T c s.wait 8 := by unfold outL; rw [hw]; simp
      have hfin := hE2 S.heap (by rw [hge, hw]) (Fr.refl _ _)
      rcases hG with ⟨rfl, hx2⟩ | ⟨xs, rfl, hx2⟩
      · simp (disch := first | assumption | omega) only [e20, e19, e0, e1, e2, e7, hge, hw, go_sem, ↓reduceIte, Nat.reduceEqDiff, reduceCtorEq, Nat.reduceAdd, Nat.reduceLeDiff, Nat.reduceLT, reduceIte, Int.reduceBEq, Int.reduceBNe, Int.reduceLT, Int.reduceLE, Int.reduceAdd, Int.reduceSub, Int.reduceMul, Int.reduceNeg, Int.reduceEq, Int.reduceNe, Nat.reduceMul, Nat.reduceSub]
        subst hQ
        simp (disch := first | assumption | omega) only [R.link_End_Out, hoL, go_sem, ↓reduceIte, Nat.reduceEqDiff, reduceCtorEq, Nat.reduceAdd, Nat.reduceLeDiff, Nat.reduceLT, reduceIte, Int.reduceBEq, Int.reduceBNe, Int.reduceLT, Int.reduceLE, Int.reduceAdd, Int.reduceSub, Int.reduceMul, Int.reduceNeg, Int.reduceEq, Int.reduceNe, Nat.reduceMul, Nat.reduceSub]
        exact ⟨.inl ⟨rfl, hx2⟩, hfin⟩
      · simp (disch := first | assumption | omega) only [e20, e19, e0, e1, e2, e7, hge, hw, go_sem, ↓reduceIte, Nat.reduceEqDiff, reduceCtorEq, Nat.reduceAdd, Nat.reduceLeDiff, Nat.reduceLT, reduceIte, Int.reduceBEq, Int.reduceBNe, Int.reduceLT, Int.reduceLE, Int.reduceAdd, Int.reduceSub, Int.reduceMul, Int.reduceNeg, Int.reduceEq, Int.reduceNe, Nat.reduceMul, Nat.reduceSub]
        subst hQ
        simp (disch := first | assumption | omega) only [R.link_End_Out, hoL, go_sem, ↓reduceIte, Nat.reduceEqDiff, reduceCtorEq, Nat.reduceAdd, Nat.reduceLeDiff, Nat.reduceLT, reduceIte, Int.reduceBEq, Int.reduceBNe, Int.reduceLT, Int.reduceLE, Int.reduceAdd, Int.reduceSub, Int.reduceMul, Int.reduceNeg, Int.reduceEq, Int.reduceNe, Nat.reduceMul, Nat.reduceSub]
        exact ⟨.inr ⟨_, rfl, hx2⟩, hfin⟩
  · have hi1 : i < Li.length := by omega
    have hi2 : i < s.wait.length := by omega
    rcases hS.cases with ⟨hh, _⟩ | ⟨id', off', cap', hwe', hcp', hi', hsr'⟩
    · rw [hwe] at hh; cases hh
    rw [hwe] at hwe'
    simp only [AVal.ref.injEq] at hwe'
    obtain ⟨rfl, rfl, _, rfl⟩ := hwe'
    rw [hwe] at hge
    rw [hwe] at hsr'
    obtain ⟨cs, c1, c2, c3, c4, c5⟩ := hsr'.get itC_len (Nat.lt_of_le_of_lt (Nat.zero_le i) hi1)
    have hie : e ≠ id := fun h => h1 (h ▸ hi)
    have hxw : Li[i].2 = s.wait[i] := by
      have e1 : (Li.map (·.2))[i]? = (outW T s.wait i)[i]? := by rw [hLi]
      have hl : i < (outW T s.wait i).length := by rw [outW_length]; exact hi2
      rw [List.getElem?_map, List.getElem?_eq_getElem hi1, List.getElem?_eq_getElem hl, outW_get hi2 hl] at e1
      simpa using e1
    have hb := hs.wcell _ (List.getElem_mem hi2)
    have hx6 : cs.getD (off + i * 7 + 6) .junk = .int .i64 s.wait[i].2 := by rw [getD_of_take (c4 i hi1 6 1 (by omega)), ← hxw]; rfl
    have hil : (i : Int) < L.length := by omega
    by_cases hd : due T s.wait[i] = true
    · have hst := outW_step (t := T) hi2
      have hsm := outM_step (t := T) (c := c) hi2
      rw [if_pos hd] at hsm
      have hd1 := hd
      simp only [due, Bool.or_eq_true, decide_eq_true_eq] at hd1
      have d3 : IntKind.i64.wrap (T - s.wait[i].2) = T - s.wait[i].2 := wrapI64 (by omega) (by omega)
      have hS2 := c5 i hi1 6 [.int .i64 T] (Li[i].1, Li[i].2.1, T) (by simp) rfl (S.heap.set id (.cells (fillV cs (off + i * 7 + 6) [.int .i64 T]))) (get_set c1)
      obtain ⟨cs2, k1, k2, _, k4, _⟩ := hS2.get itC_len (by simp only [List.length_set]; omega)
      rw [get_set c1] at k1
      simp only [Option.some.injEq, HObj.cells.injEq] at k1
      have hld := k4 i (by simp only [List.length_set]; exact hi1) 0 6 (by omega)
      simp only [Nat.add_zero, List.getElem_set_self, List.drop_zero] at hld
      have hld2 : List.take 6 (itC (Li[i].1, Li[i].2.1, T)) = msgC (ownB Li[i].1) Li[i].2.1 := rfl
      rw [hld2] at hld
      have hown := ownB_rdo Li[i].1
      have hm4 := checkF_len hb.1
      have hrdn : Rdn (ownB Li[i].1) s.wait[i].1.Cells := ⟨hown, fun e => by
        have : Li[i].1 = false := by cases hq : Li[i].1 <;> rw [hq] at e <;> first | rfl | cases e
        rw [← hxw]; exact hfl _ (List.getElem_mem hi1) this⟩
      have hx1 : Li[i].2.1 = s.wait[i].1 := by rw [← hxw]
      rw [hx1] at hld
      rw [k1] at hS2
      have f1 : SlO itC 7 (S.heap.set id (.cells cs2)) own w (Li.set i (Li[i].1, Li[i].2.1, T)) := ⟨id, by rw [hwe]; exact hS2, .inr hi'⟩
      have f2 : (Li.set i (Li[i].1, Li[i].2.1, T)).map (·.2) = outW T s.wait (i + 1) := by
        rw [List.map_set, hLi, ← hst, mark, if_pos hd, hx1]
      have f3 : ∀ x ∈ Li.set i (Li[i].1, Li[i].2.1, T), x.1 = false → x.2.1.Cells = [] := by
        intro x hx hxb
        rcases List.mem_or_eq_of_mem_set hx with hx | rfl
        · exact hfl x hx hxb
        · exact hfl Li[i] (List.getElem_mem hi1) hxb
      have f4 : Fr own h (S.heap.set id (.cells cs2)) := hfr.trans (Fr.set (S := [id]) (by simp)) (fun i h => .inl (by simp at h; subst h; exact hi'))
      have hor : (s.wait[i].2 < 0 ∧ (0 : Int) = 0) ∨ (¬s.wait[i].2 < 0 ∧ (4 : Int) ≤ T - s.wait[i].2) := by
        by_cases hneg : s.wait[i].2 < 0
        · exact .inl ⟨hneg, rfl⟩
        · exact .inr ⟨hneg, hd1.resolve_left hneg⟩
      rcases hor with ⟨hneg, hge4⟩ | ⟨hneg, hge4⟩
      all_goals (
        simp (disch := first | assumption | omega) only [e20, e19, e0, e1, e2, hge, c1, hx6, hil, hneg, hge4, d3, get_set c1, k1, hld, msgC, go_sem, ↓reduceIte, Nat.reduceEqDiff, reduceCtorEq, Nat.reduceAdd, Nat.reduceLeDiff, Nat.reduceLT, reduceIte, Int.reduceBEq, Int.reduceBNe, Int.reduceLT, Int.reduceLE, Int.reduceAdd, Int.reduceSub, Int.reduceMul, Int.reduceNeg, Int.reduceEq, Int.reduceNe, Nat.reduceMul, Nat.reduceSub]
        repeat (refine ⟨by omega, ?_⟩)
        refine callG_ok (Copy_ok (ownB Li[i].1) s.wait[i].1 hrdn (by unfold reachBytes; omega) _) (by simp (disch := first | assumption | omega) only [msgA, msgC, go_sem, ↓reduceIte, Nat.reduceEqDiff, reduceCtorEq, Nat.reduceAdd, Nat.reduceLeDiff, Nat.reduceLT, reduceIte, Int.reduceBEq, Int.reduceBNe, Int.reduceLT, Int.reduceLE, Int.reduceAdd, Int.reduceSub, Int.reduceMul, Int.reduceNeg, Int.reduceEq, Int.reduceNe, Nat.reduceMul, Nat.reduceSub]) ?_
        rintro _ _ ⟨⟨o', rfl, ho'⟩, hhh⟩
        rw [hhh]
        clear hhh
        have ho1 := ho'.1
        have hmx : MsgOk { s.wait[i].1 with Clock := c } (.agg [.int .i64 s.wait[i].1.Kind, .int .i64 s.wait[i].1.From, .int .i64 s.wait[i].1.To, .int .i64 s.wait[i].1.Seq, .int .u32 c, .lst o' (cellsA s.wait[i].1.Cells)]) := ⟨o', ho', by unfold reachBytes; simp only; omega, rfl⟩
        obtain ⟨xs, hx1, hx2, hx3⟩ := hG.push hmx
        rw [← hsm] at hx1
        have hol := outM_len T c s.wait i
        rcases hx2 with ⟨hx2, rfl⟩ | hx2
        · rw [hx2] at e7
          simp (disch := first | assumption | omega) only [e20, e19, e0, e1, e2, hge, c1, hx6, hil, e7, msgA, msgC, go_sem, ↓reduceIte, Nat.reduceEqDiff, reduceCtorEq, Nat.reduceAdd, Nat.reduceLeDiff, Nat.reduceLT, reduceIte, Int.reduceBEq, Int.reduceBNe, Int.reduceLT, Int.reduceLE, Int.reduceAdd, Int.reduceSub, Int.reduceMul, Int.reduceNeg, Int.reduceEq, Int.reduceNe, Nat.reduceMul, Nat.reduceSub]
          exact ⟨d - 1, by omega, i + 1, _, Li.set i (Li[i].1, Li[i].2.1, T), by omega, by simp, rfl, .inr ⟨_, rfl, hx1⟩, f1, f2, f3, f4⟩
        · rw [hx2] at e7
          simp (disch := first | assumption | omega) only [e20, e19, e0, e1, e2, hge, c1, hx6, hil, e7, msgA, msgC, go_sem, ↓reduceIte, Nat.reduceEqDiff, reduceCtorEq, Nat.reduceAdd, Nat.reduceLeDiff, Nat.reduceLT, reduceIte, Int.reduceBEq, Int.reduceBNe, Int.reduceLT, Int.reduceLE, Int.reduceAdd, Int.reduceSub, Int.reduceMul, Int.reduceNeg, Int.reduceEq, Int.reduceNe, Nat.reduceMul, Nat.reduceSub]
          refine ⟨by omega, by omega, ?_⟩
          exact ⟨d - 1, by omega, i + 1, _, Li.set i (Li[i].1, Li[i].2.1, T), by omega, by simp, rfl, .inr ⟨_, rfl, hx1⟩, f1, f2, f3, f4⟩)
    · have hd' : due T s.wait[i] = false := by simpa using hd
      have hst := outW_same hi2 hd'
      have hsm := outM_step (t := T) (c := c) hi2
      rw [if_neg hd, List.append_nil] at hsm
      simp only [due, Bool.or_eq_false_iff, decide_eq_false_iff_not] at hd'
      have d1 := hd'.1
      have d2 : ¬(4 : Int) ≤ T - s.wait[i].2 := hd'.2
      have d3 : IntKind.i64.wrap (T - s.wait[i].2) = T - s.wait[i].2 := wrapI64 (by omega) (by omega)
      simp (disch := first | assumption | omega) only [e20, e19, e0, e1, e2, hge, c1, hx6, hil, d1, d2, d3, go_sem, ↓reduceIte, Nat.reduceEqDiff, reduceCtorEq, Nat.reduceAdd, Nat.reduceLeDiff, Nat.reduceLT, reduceIte, Int.reduceBEq, Int.reduceBNe, Int.reduceLT, Int.reduceLE, Int.reduceAdd, Int.reduceSub, Int.reduceMul, Int.reduceNeg, Int.reduceEq, Int.reduceNe, Nat.reduceMul, Nat.reduceSub]
      exact ⟨by omega, by omega, d - 1, by omega, i + 1, _, Li, by omega, by simp, rfl, by rw [e7, hsm]; exact hG, hS, by rw [hst]; exact hLi, hfl, hfr⟩
  · obtain rfl : i = min L.length 8 := by omega
    have hlw' : min L.length 8 = min s.wait.length 8 := by rw [hlw]
    rw [hlw', outM_min] at hG
    rw [hlw', outW_min] at hLi
    have hol := outM_len T c s.wait 8
    have hE2 : ∀ h', h'[e]? = some (endC self other ⟨s.next, s.want, s.wait, s.got, false⟩ w g) → Fr [e] S.heap h' → EndQ h e own self other (outS s T) h' := fun h' q1 q2 => by
      refine ⟨own, ⟨h1, w, g, Li, q1, hS.frame (S := [e]) q2 (fun i hi hm => by simp at hm; subst hm; exact h1 hi), hLi, hfl, h6⟩, (hfr.mono (fun i h => .inl (by simp [h]))).trans q2 (fun i h => .inl (by simp at h; simp [h])), fun i hi => .inl hi⟩
    unfold endC at hE2
    have hbeat : MsgOk ⟨3, self, other, s.want, c, []⟩ (.agg [.int .i64 3, .int .i64 self, .int .i64 other, .int .i64 s.want, .int .u32 c, .lst .nil []]) := ⟨.nil, ⟨.inr rfl, fun _ => rfl⟩, by simp, rfl⟩
    by_cases hw : s.owes = true
    · obtain ⟨xs, hx1, hx2, hx3⟩ := hG.push hbeat
      have hoL : outL s self other T c = outM T c s.wait 8 ++ [⟨3, self, other, s.want, c, []⟩] := by unfold outL; rw [if_pos hw]
      have hfin := hE2 _ (get_set hge) (Fr.set (by simp))
      rcases hx2 with ⟨rfl, rfl⟩ | rfl
      · simp (disch := first | assumption | omega) only [e20, e19, e0, e1, e2, e7, hge, hw, get_set hge, go_sem, ↓reduceIte, Nat.reduceEqDiff, reduceCtorEq, Nat.reduceAdd, Nat.reduceLeDiff, Nat.reduceLT, reduceIte, Int.reduceBEq, Int.reduceBNe, Int.reduceLT, Int.reduceLE, Int.reduceAdd, Int.reduceSub, Int.reduceMul, Int.reduceNeg, Int.reduceEq, Int.reduceNe, Nat.reduceMul, Nat.reduceSub]
        subst hQ
        simp (disch := first | assumption | omega) only [R.link_End_Out, hoL, go_sem, ↓reduceIte, Nat.reduceEqDiff, reduceCtorEq, Nat.reduceAdd, Nat.reduceLeDiff, Nat.reduceLT, reduceIte, Int.reduceBEq, Int.reduceBNe, Int.reduceLT, Int.reduceLE, Int.reduceAdd, Int.reduceSub, Int.reduceMul, Int.reduceNeg, Int.reduceEq, Int.reduceNe, Nat.reduceMul, Nat.reduceSub]
        exact ⟨.inr ⟨_, rfl, hx1⟩, hfin⟩
      · simp (disch := first | assumption | omega) only [e20, e19, e0, e1, e2, e7, hge, hw, get_set hge, go_sem, ↓reduceIte, Nat.reduceEqDiff, reduceCtorEq, Nat.reduceAdd, Nat.reduceLeDiff, Nat.reduceLT, reduceIte, Int.reduceBEq, Int.reduceBNe, Int.reduceLT, Int.reduceLE, Int.reduceAdd, Int.reduceSub, Int.reduceMul, Int.reduceNeg, Int.reduceEq, Int.reduceNe, Nat.reduceMul, Nat.reduceSub]
        refine ⟨by omega, by omega, ?_⟩
        subst hQ
        simp (disch := first | assumption | omega) only [R.link_End_Out, hoL, go_sem, ↓reduceIte, Nat.reduceEqDiff, reduceCtorEq, Nat.reduceAdd, Nat.reduceLeDiff, Nat.reduceLT, reduceIte, Int.reduceBEq, Int.reduceBNe, Int.reduceLT, Int.reduceLE, Int.reduceAdd, Int.reduceSub, Int.reduceMul, Int.reduceNeg, Int.reduceEq, Int.reduceNe, Nat.reduceMul, Nat.reduceSub]
        exact ⟨.inr ⟨_, rfl, hx1⟩, hfin⟩
    · have hw : s.owes = false := by simpa using hw
      have hoL : outL s self other T c = outM T c s.wait 8 := by unfold outL; rw [hw]; simp
      have hfin := hE2 S.heap (by rw [hge, hw]) (Fr.refl _ _)
      rcases hG with ⟨rfl, hx2⟩ | ⟨xs, rfl, hx2⟩
      · simp (disch := first | assumption | omega) only [e20, e19, e0, e1, e2, e7, hge, hw, go_sem, ↓reduceIte, Nat.reduceEqDiff, reduceCtorEq, Nat.reduceAdd, Nat.reduceLeDiff, Nat.reduceLT, reduceIte, Int.reduceBEq, Int.reduceBNe, Int.reduceLT, Int.reduceLE, Int.reduceAdd, Int.reduceSub, Int.reduceMul, Int.reduceNeg, Int.reduceEq, Int.reduceNe, Nat.reduceMul, Nat.reduceSub]
        subst hQ
        simp (disch := first | assumption | omega) only [R.link_End_Out, hoL, go_sem, ↓reduceIte, Nat.reduceEqDiff, reduceCtorEq, Nat.reduceAdd, Nat.reduceLeDiff, Nat.reduceLT, reduceIte, Int.reduceBEq, Int.reduceBNe, Int.reduceLT, Int.reduceLE, Int.reduceAdd, Int.reduceSub, Int.reduceMul, Int.reduceNeg, Int.reduceEq, Int.reduceNe, Nat.reduceMul, Nat.reduceSub]
        exact ⟨.inl ⟨rfl, hx2⟩, hfin⟩
      · simp (disch := first | assumption | omega) only [e20, e19, e0, e1, e2, e7, hge, hw, go_sem, ↓reduceIte, Nat.reduceEqDiff, reduceCtorEq, Nat.reduceAdd, Nat.reduceLeDiff, Nat.reduceLT, reduceIte, Int.reduceBEq, Int.reduceBNe, Int.reduceLT, Int.reduceLE, Int.reduceAdd, Int.reduceSub, Int.reduceMul, Int.reduceNeg, Int.reduceEq, Int.reduceNe, Nat.reduceMul, Nat.reduceSub]
        subst hQ
        simp (disch := first | assumption | omega) only [R.link_End_Out, hoL, go_sem, ↓reduceIte, Nat.reduceEqDiff, reduceCtorEq, Nat.reduceAdd, Nat.reduceLeDiff, Nat.reduceLT, reduceIte, Int.reduceBEq, Int.reduceBNe, Int.reduceLT, Int.reduceLE, Int.reduceAdd, Int.reduceSub, Int.reduceMul, Int.reduceNeg, Int.reduceEq, Int.reduceNe, Nat.reduceMul, Nat.reduceSub]
        exact ⟨.inr ⟨_, rfl, hx2⟩, hfin⟩
end Go.Proofs.Ytpdajkbfemcdlaa
/- Contracts: an end of a connection beside its reference. -/
set_option linter.unusedSimpArgs false
set_option linter.unusedVariables false
set_option maxRecDepth 10000
namespace Go.Proofs.Ytpdajkbfemcdlaa
open Go.Ge
def inC (n : Int) : List AVal := [.int .i64 n]
theorem inC_len (n : Int) : (inC n).length = 1 := rfl
theorem inC_st (n : Int) : ∀ c ∈ inC n, storC c = true ∧ Ge.rdc c = c := by
  intro c hc; simp only [inC, List.mem_singleton] at hc; subst hc; exact ⟨rfl, rfl⟩
/-- The reference in the heap. -/
def halfC (self other : Int) (s : Lk) (w l g : AVal) : HObj := .cells [.int .i64 self, .int .i64 other, .int .i64 s.next, .int .i64 s.want, w, l, g, .bool s.owes]
def HalfR (h : List HObj) (m : Nat) (ow ol : List Nat) (self other : Int) (s : Lk) : Prop :=
  ∃ (w l g : AVal) (L : List (Bool × Msg)), h[m]? = some (halfC self other s w l g) ∧ SlO mgC 6 h ow w L ∧ L.map (·.2) = s.wait.map (·.1) ∧ (∀ x ∈ L, x.1 = false → x.2.Cells = []) ∧
    SlO inC 1 h ol l (s.wait.map (·.2)) ∧ GotR g s.got
/-- Both in the heap, apart. -/
structure Both (h : List HObj) (e : Nat) (eo : List Nat) (m : Nat) (ow ol : List Nat) (me other : Int) (se sm : Lk) : Prop where
  er : EndR h e eo me other se
  hr : HalfR h m ow ol me other sm
  elt : ∀ i ∈ e :: eo, i < h.length
  mlt : ∀ i ∈ m :: (ow ++ ol), i < h.length
  em : ∀ i ∈ e :: eo, i ∉ m :: (ow ++ ol)
  mw : m ∉ ow
  ml : m ∉ ol
  wl : ∀ i ∈ ow, i ∉ ol
theorem HalfR.frame {h h' : List HObj} {m : Nat} {ow ol S : List Nat} {self other : Int} {s : Lk} (hr : HalfR h m ow ol self other s) (hf : Fr S h h') (hn : ∀ i ∈ m :: (ow ++ ol), i ∉ S) : HalfR h' m ow ol self other s := by
  obtain ⟨w, l, g, L, h1, h2, h3, h4, h5, h6⟩ := hr
  exact ⟨w, l, g, L, hf.get (hn m (by simp)) h1, h2.frame hf (fun i hi => hn i (by simp [hi])), h3, h4, h5.frame hf (fun i hi => hn i (by simp [hi])), h6⟩
/-- After a deed of the end. -/
theorem Both.endQ {h h' : List HObj} {e m : Nat} {eo ow ol : List Nat} {self other : Int} {se sm se' : Lk} (b : Both h e eo m ow ol self other se sm) (q : EndQ h e eo self other se' h') : ∃ eo', Both h' e eo' m ow ol self other se' sm := by
  obtain ⟨eo', q1, q2, q3⟩ := q
  have hlen := q2.1
  refine ⟨eo', q1, b.hr.frame q2 (fun i hi hm => b.em i hm hi), ?_, fun i hi => Nat.lt_of_lt_of_le (b.mlt i hi) hlen, ?_, b.mw, b.ml, b.wl⟩
  · intro i hi
    rcases List.mem_cons.1 hi with rfl | hi
    · exact Nat.lt_of_lt_of_le (b.elt _ (by simp)) hlen
    · rcases q3 i hi with h1 | h1
      · exact Nat.lt_of_lt_of_le (b.elt _ (by simp [h1])) hlen
      · exact h1.2
  · intro i hi hm
    rcases List.mem_cons.1 hi with rfl | hi
    · exact b.em _ (by simp) hm
    · rcases q3 i hi with h1 | h1
      · exact b.em _ (by simp [h1]) hm
      · have := b.mlt i hm; omega
/-- The reference's own cells change. -/
theorem Both.cells {h : List HObj} {e m : Nat} {eo ow ol : List Nat} {self other : Int} {se sm sm' : Lk} {w l g : AVal} {L : List (Bool × Msg)} (b : Both h e eo m ow ol self other se sm)
    (h2 : SlO mgC 6 h ow w L) (h3 : L.map (·.2) = sm'.wait.map (·.1)) (h4 : ∀ x ∈ L, x.1 = false → x.2.Cells = []) (h5 : SlO inC 1 h ol l (sm'.wait.map (·.2))) (h6 : GotR g sm'.got) :
    Both (h.set m (halfC self other sm' w l g)) e eo m ow ol self other se sm' := by
  have hm := b.mlt m (by simp)
  have hf : Fr [m] h (h.set m (halfC self other sm' w l g)) := Fr.set (by simp)
  refine ⟨b.er.frame hf ?_ ?_, ⟨w, l, g, L, List.getElem?_set_self hm, h2.frame hf ?_, h3, h4, h5.frame hf ?_, h6⟩, ?_, ?_, b.em, b.mw, b.ml, b.wl⟩
  · intro hh; simp at hh; exact b.em e (by simp) (by simp [hh])
  · intro i hi hh; simp at hh; exact b.em i (by simp [hi]) (by simp [hh])
  · intro i hi hh; simp at hh; subst hh; exact b.mw hi
  · intro i hi hh; simp at hh; subst hh; exact b.ml hi
  · intro i hi; rw [List.length_set]; exact b.elt i hi
  · intro i hi; rw [List.length_set]; exact b.mlt i hi
/-- After a deed of the reference. -/
theorem Both.halfQ {h h' : List HObj} {e m : Nat} {eo ow ol ow' ol' : List Nat} {self other : Int} {se sm sm' : Lk} (b : Both h e eo m ow ol self other se sm) (hf : Fr (m :: (ow ++ ol)) h h') (hr : HalfR h' m ow' ol' self other sm')
    (nw : ∀ i ∈ ow' ++ ol', i ∈ ow ++ ol ∨ h.length ≤ i ∧ i < h'.length) (mw : m ∉ ow') (ml : m ∉ ol') (wl : ∀ i ∈ ow', i ∉ ol') : Both h' e eo m ow' ol' self other se sm' := by
  have hlen := hf.1
  refine ⟨b.er.frame hf (b.em e (by simp)) (fun i hi => b.em i (by simp [hi])), hr, fun i hi => Nat.lt_of_lt_of_le (b.elt i hi) hlen, ?_, ?_, mw, ml, wl⟩
  · intro i hi
    rcases List.mem_cons.1 hi with rfl | hi
    · exact Nat.lt_of_lt_of_le (b.mlt _ (by simp)) hlen
    · rcases nw i hi with h1 | h1
      · exact Nat.lt_of_lt_of_le (b.mlt i (List.mem_cons_of_mem _ h1)) hlen
      · exact h1.2
  · intro i hi hm
    rcases List.mem_cons.1 hm with rfl | hm
    · exact b.em _ hi (by simp)
    · rcases nw i hm with h1 | h1
      · exact b.em i hi (List.mem_cons_of_mem _ h1)
      · have := b.elt i hi; omega
theorem Both.get {h : List HObj} {e m : Nat} {eo ow ol : List Nat} {self other : Int} {se sm : Lk} (b : Both h e eo m ow ol self other se sm) : ∃ (w l g : AVal) (L : List (Bool × Msg)), h[m]? = some (.cells [.int .i64 self, .int .i64 other, .int .i64 sm.next, .int .i64 sm.want, w, l, g, .bool sm.owes]) ∧ SlO mgC 6 h ow w L ∧ L.map (·.2) = sm.wait.map (·.1) ∧ (∀ x ∈ L, x.1 = false → x.2.Cells = []) ∧
    SlO inC 1 h ol l (sm.wait.map (·.2)) ∧ GotR g sm.got := b.hr
/-- What is after a deed of both. -/
def BothQ (e m : Nat) (self other : Int) (s : Lk) (h' : List HObj) : Prop := ∃ eo ow ol, Both h' e eo m ow ol self other s s
theorem outW_fst (t : Int) (l : List (Msg × Int)) (i : Nat) : (outW t l i).map (·.1) = l.map (·.1) := by
  unfold outW
  rw [List.map_append, List.map_map]
  have : ((·.1) ∘ mark t : Msg × Int → Msg) = (·.1) := by funext p; simp only [Function.comp, mark]; split <;> rfl
  rw [this, ← List.map_append, List.take_append_drop]
theorem halfOut_ok (e m : Nat) (eo ow ol : List Nat) (self other : Int) (s : Lk) (n t c : Int) (h : List HObj) (hb : Both h e eo m ow ol self other s s) (hs : s.ok n) (hn : n ≤ 1099511627776) :
    ACalls Try.prog F.gantlaw5_half_out [.hp m 0, .hp e 0, .int .i64 t, .int .u32 c] h (fun v h' => v = .bool true ∧ BothQ e m self other (outS s (clampT t)) h') := by
  obtain ⟨w, l, g, L, h2, h3, h4, h5, h6, h7⟩ := hb.get
  have hwl := hs.wait
  have hlw : L.length = s.wait.length := by have := congrArg List.length h4; simpa using this
  have ht0 : 0 ≤ clampT t ∧ clampT t ≤ 2000 := by unfold clampT; omega
  have hT : (if (if 0 < t then t else (0 : Int)) < 2000 then (if 0 < t then t else (0 : Int)) else 2000) = clampT t := by unfold clampT; split <;> split <;> omega
  refine ACalls.of_aw Try.func163 K.gantlaw5_half_out (by simp [Try.f163]) ?_
  generalize hQ : retQ R.gantlaw5_half_out _ = Q
  simp (disch := first | assumption | omega) only [C.gantlaw5_half_out, go_sem, ↓reduceIte, Nat.reduceEqDiff, reduceCtorEq, Nat.reduceAdd, Nat.reduceLeDiff, Nat.reduceLT, reduceIte, Int.reduceBEq, Int.reduceBNe, Int.reduceLT, Int.reduceLE, Int.reduceAdd, Int.reduceSub, Int.reduceMul, Int.reduceNeg, Int.reduceEq, Int.reduceNe, Nat.reduceMul, Nat.reduceSub]
  generalize hTT : clampT t = T at *
  refine aw_count (fun d S => ∃ (i : Nat) (G : AVal), i + d = min L.length 8 ∧ S.env 11 = .int .i64 i ∧ S.env 0 = .hp m 0 ∧ S.env 1 = .hp e 0 ∧ S.env 2 = .int .i64 t ∧ S.env 3 = .int .u32 c ∧ S.env 9 = .int .i64 T ∧ S.env 10 = G ∧ GotR G (outM T c s.wait i) ∧
      SlO inC 1 S.heap ol l ((outW T s.wait i).map (·.2)) ∧ Fr ol h S.heap) (n := min L.length 8)
    ⟨0, .lst .nil [], by omega, by simp (disch := first | assumption | omega) only [go_sem, ↓reduceIte, Nat.reduceEqDiff, reduceCtorEq, Nat.reduceAdd, Nat.reduceLeDiff, Nat.reduceLT, reduceIte, Int.reduceBEq, Int.reduceBNe, Int.reduceLT, Int.reduceLE, Int.reduceAdd, Int.reduceSub, Int.reduceMul, Int.reduceNeg, Int.reduceEq, Int.reduceNe, Nat.reduceMul, Nat.reduceSub], by simp (disch := first | assumption | omega) only [go_sem, ↓reduceIte, Nat.reduceEqDiff, reduceCtorEq, Nat.reduceAdd, Nat.reduceLeDiff, Nat.reduceLT, reduceIte, Int.reduceBEq, Int.reduceBNe, Int.reduceLT, Int.reduceLE, Int.reduceAdd, Int.reduceSub, Int.reduceMul, Int.reduceNeg, Int.reduceEq, Int.reduceNe, Nat.reduceMul, Nat.reduceSub], by simp (disch := first | assumption | omega) only [go_sem, ↓reduceIte, Nat.reduceEqDiff, reduceCtorEq, Nat.reduceAdd, Nat.reduceLeDiff, Nat.reduceLT, reduceIte, Int.reduceBEq, Int.reduceBNe, Int.reduceLT, Int.reduceLE, Int.reduceAdd, Int.reduceSub, Int.reduceMul, Int.reduceNeg, Int.reduceEq, Int.reduceNe, Nat.reduceMul, Nat.reduceSub], by simp (disch := first | assumption | omega) only [go_sem, ↓reduceIte, Nat.reduceEqDiff, reduceCtorEq, Nat.reduceAdd, Nat.reduceLeDiff, Nat.reduceLT, reduceIte, Int.reduceBEq, Int.reduceBNe, Int.reduceLT, Int.reduceLE, Int.reduceAdd, Int.reduceSub, Int.reduceMul, Int.reduceNeg, Int.reduceEq, Int.reduceNe, Nat.reduceMul, Nat.reduceSub], by simp (disch := first | assumption | omega) only [go_sem, ↓reduceIte, Nat.reduceEqDiff, reduceCtorEq, Nat.reduceAdd, Nat.reduceLeDiff, Nat.reduceLT, reduceIte, Int.reduceBEq, Int.reduceBNe, Int.reduceLT, Int.reduceLE, Int.reduceAdd, Int.reduceSub, Int.reduceMul, Int.reduceNeg, Int.reduceEq, Int.reduceNe, Nat.reduceMul, Nat.reduceSub], by simp (disch := first | assumption | omega) only [hT, go_sem, ↓reduceIte, Nat.reduceEqDiff, reduceCtorEq, Nat.reduceAdd, Nat.reduceLeDiff, Nat.reduceLT, reduceIte, Int.reduceBEq, Int.reduceBNe, Int.reduceLT, Int.reduceLE, Int.reduceAdd, Int.reduceSub, Int.reduceMul, Int.reduceNeg, Int.reduceEq, Int.reduceNe, Nat.reduceMul, Nat.reduceSub], by simp (disch := first | assumption | omega) only [go_sem, ↓reduceIte, Nat.reduceEqDiff, reduceCtorEq, Nat.reduceAdd, Nat.reduceLeDiff, Nat.reduceLT, reduceIte, Int.reduceBEq, Int.reduceBNe, Int.reduceLT, Int.reduceLE, Int.reduceAdd, Int.reduceSub, Int.reduceMul, Int.reduceNeg, Int.reduceEq, Int.reduceNe, Nat.reduceMul, Nat.reduceSub], .inl ⟨rfl, rfl⟩, by simp (disch := first | assumption | omega) only [go_sem, ↓reduceIte, Nat.reduceEqDiff, reduceCtorEq, Nat.reduceAdd, Nat.reduceLeDiff, Nat.reduceLT, reduceIte, Int.reduceBEq, Int.reduceBNe, Int.reduceLT, Int.reduceLE, Int.reduceAdd, Int.reduceSub, Int.reduceMul, Int.reduceNeg, Int.reduceEq, Int.reduceNe, Nat.reduceMul, Nat.reduceSub]; rw [outW_zero]; exact h6, by simp (disch := first | assumption | omega) only [go_sem, ↓reduceIte, Nat.reduceEqDiff, reduceCtorEq, Nat.reduceAdd, Nat.reduceLeDiff, Nat.reduceLT, reduceIte, Int.reduceBEq, Int.reduceBNe, Int.reduceLT, Int.reduceLE, Int.reduceAdd, Int.reduceSub, Int.reduceMul, Int.reduceNeg, Int.reduceEq, Int.reduceNe, Nat.reduceMul, Nat.reduceSub]; exact Fr.refl _ _⟩ ?_
  rintro d S ⟨i, G, hid, e11, e0, e1, e2, e3, e9, e10, hG, hS, hfr⟩
  have hgm : S.heap[m]? = some (.cells [.int .i64 self, .int .i64 other, .int .i64 s.next, .int .i64 s.want, w, l, g, .bool s.owes]) := hfr.get hb.ml h2
  have hW : SlO mgC 6 S.heap ow w L := h3.frame hfr hb.wl
  have hcap : ∀ (A : Bool), True := fun _ => trivial
  by_cases hlt : i < min L.length 8
  · have hi1 : i < L.length := by omega
    have hi2 : i < s.wait.length := by omega
    have hil : (i : Int) < L.length := by omega
    have hi8 : (i : Int) < 8 := by omega
    have hlT : ((outW T s.wait i).map (·.2)).length = L.length := by rw [List.length_map, outW_length]; omega
    rcases hW.cases with ⟨_, hh⟩ | ⟨wid, woff, wcap, rfl, wcp, wi, wsr⟩
    · rw [hh] at hi1; simp at hi1
    rcases hS.cases with ⟨_, hh⟩ | ⟨lid, loff, lcap, hle, lcp, li, lsr⟩
    · rw [hh] at hlT; simp at hlT; omega
    rw [hlT] at hle
    subst hle
    obtain ⟨cw, c1, c2, c3, c4, c5⟩ := wsr.get mgC_len (Nat.lt_of_le_of_lt (Nat.zero_le i) hi1)
    obtain ⟨cl, k1, k2, k3, k4, k5⟩ := lsr.get inC_len (by omega)
    have hl2 : i < (outW T s.wait i).length := by rw [outW_length]; exact hi2
    have hxT : ((outW T s.wait i).map (·.2))[i]'(by omega) = s.wait[i].2 := by rw [List.getElem_map, outW_get hi2 hl2]
    have hx : cl.getD (loff + i * 1 + 0) .junk = .int .i64 s.wait[i].2 := by rw [getD_of_take (k4 i (by omega) 0 1 (by omega)), hxT]; rfl
    simp only [Nat.mul_one, Nat.add_zero] at hx
    have hb1 := hs.wcell _ (List.getElem_mem hi2)
    have hsm := outM_step (t := T) (c := c) hi2
    have hst := outW_step (t := T) hi2
    by_cases hd : due T s.wait[i] = true
    · rw [if_pos hd] at hsm
      have hd1 := hd
      simp only [due, Bool.or_eq_true, decide_eq_true_eq] at hd1
      have d3 : IntKind.i64.wrap (T - 4) = T - 4 := wrapI64 (by omega) (by omega)
      have hor : (s.wait[i].2 = -1 ∧ (0 : Int) = 0) ∨ (¬s.wait[i].2 = -1 ∧ s.wait[i].2 ≤ T - 4) := by omega
      have hne1 : lid ≠ m := fun h => hb.ml (h ▸ li)
      have hne2 : lid ≠ wid := fun h => hb.wl wid wi (h ▸ li)
      have hgm2 : ∀ X, (S.heap.set lid X)[m]? = some (.cells [.int .i64 self, .int .i64 other, .int .i64 s.next, .int .i64 s.want, .ref wid woff L.length wcap, .ref lid loff L.length lcap, g, .bool s.owes]) := fun X => by rw [get_set_ne hne1]; exact hgm
      have hgw2 : ∀ X, (S.heap.set lid X)[wid]? = some (.cells cw) := fun X => by rw [get_set_ne hne2]; exact c1
      have hld := c4 i hi1 0 6 (by omega)
      simp only [Nat.add_zero, List.drop_zero] at hld
      have hx1 : L[i].2 = s.wait[i].1 := by
        have e1 : (L.map (·.2))[i]? = (s.wait.map (·.1))[i]? := by rw [h4]
        rw [List.getElem?_map, List.getElem?_map, List.getElem?_eq_getElem hi1, List.getElem?_eq_getElem hi2] at e1
        simpa using e1
      have hld2 : List.take 6 (mgC L[i]) = msgC (ownB L[i].1) L[i].2 := rfl
      rw [hld2, hx1] at hld
      have hown := ownB_rdo L[i].1
      have hm4 := checkF_len hb1.1
      have hrdn : Rdn (ownB L[i].1) s.wait[i].1.Cells := ⟨hown, fun e => by
        have : L[i].1 = false := by cases hq : L[i].1 <;> rw [hq] at e <;> first | rfl | cases e
        rw [← hx1]; exact h5 _ (List.getElem_mem hi1) this⟩
      have hset := k5 i (by omega) 0 [.int .i64 T] T (by simp) rfl (S.heap.set lid (.cells (fillV cl (loff + i * 1 + 0) [.int .i64 T]))) (get_set k1)
      simp only [Nat.mul_one, Nat.add_zero] at hset
      have hmap : ((outW T s.wait i).map (·.2)).set i T = (outW T s.wait (i + 1)).map (·.2) := by
        rw [← hst, List.map_set, mark, if_pos hd]
      rw [hmap] at hset
      have f1 : SlO inC 1 (S.heap.set lid (.cells (fillV cl (loff + i) [.int .i64 T]))) ol (.ref lid loff L.length lcap) ((outW T s.wait (i + 1)).map (·.2)) := ⟨lid, hset, .inr li⟩
      have f4 : Fr ol h (S.heap.set lid (.cells (fillV cl (loff + i) [.int .i64 T]))) := hfr.trans (Fr.set (S := [lid]) (by simp)) (fun i h => .inl (by simp at h; subst h; exact li))
      have hmx : MsgOk { s.wait[i].1 with Clock := c } (.agg [.int .i64 s.wait[i].1.Kind, .int .i64 s.wait[i].1.From, .int .i64 s.wait[i].1.To, .int .i64 s.wait[i].1.Seq, .int .u32 c, .lst (ownB L[i].1) (cellsA s.wait[i].1.Cells)]) := ⟨_, hrdn, by unfold reachBytes; simp only; omega, rfl⟩
      obtain ⟨xs, hx2, hx3, hx4⟩ := hG.push hmx
      rw [← hsm] at hx2
      have hol := outM_len T c s.wait i
      rcases hor with ⟨hneg, hge4⟩ | ⟨hneg, hge4⟩
      · rcases hx3 with ⟨hx3, rfl⟩ | hx3
        · rw [hx3] at e10
          simp (disch := first | assumption | omega) only [e11, e0, e1, e2, e3, e9, hgm, c1, k1, hil, hi8, hx, eq_true hneg, hge4, d3, Nat.mul_one, hgm2, hgw2, hld, msgC, e10, go_sem, ↓reduceIte, Nat.reduceEqDiff, reduceCtorEq, Nat.reduceAdd, Nat.reduceLeDiff, Nat.reduceLT, reduceIte, Int.reduceBEq, Int.reduceBNe, Int.reduceLT, Int.reduceLE, Int.reduceAdd, Int.reduceSub, Int.reduceMul, Int.reduceNeg, Int.reduceEq, Int.reduceNe, Nat.reduceMul, Nat.reduceSub]
          exact ⟨by omega, by omega, by omega, d - 1, by omega, i + 1, _, by omega, by simp, rfl, .inr ⟨_, rfl, hx2⟩, f1, f4⟩
        · rw [hx3] at e10
          simp (disch := first | assumption | omega) only [e11, e0, e1, e2, e3, e9, hgm, c1, k1, hil, hi8, hx, eq_true hneg, hge4, d3, Nat.mul_one, hgm2, hgw2, hld, msgC, e10, go_sem, ↓reduceIte, Nat.reduceEqDiff, reduceCtorEq, Nat.reduceAdd, Nat.reduceLeDiff, Nat.reduceLT, reduceIte, Int.reduceBEq, Int.reduceBNe, Int.reduceLT, Int.reduceLE, Int.reduceAdd, Int.reduceSub, Int.reduceMul, Int.reduceNeg, Int.reduceEq, Int.reduceNe, Nat.reduceMul, Nat.reduceSub]
          exact ⟨by omega, by omega, by omega, by omega, by omega, d - 1, by omega, i + 1, _, by omega, by simp, rfl, .inr ⟨_, rfl, hx2⟩, f1, f4⟩
      · rcases hx3 with ⟨hx3, rfl⟩ | hx3
        · rw [hx3] at e10
          simp (disch := first | assumption | omega) only [e11, e0, e1, e2, e3, e9, hgm, c1, k1, hil, hi8, hx, hneg, hge4, d3, Nat.mul_one, hgm2, hgw2, hld, msgC, e10, go_sem, ↓reduceIte, Nat.reduceEqDiff, reduceCtorEq, Nat.reduceAdd, Nat.reduceLeDiff, Nat.reduceLT, reduceIte, Int.reduceBEq, Int.reduceBNe, Int.reduceLT, Int.reduceLE, Int.reduceAdd, Int.reduceSub, Int.reduceMul, Int.reduceNeg, Int.reduceEq, Int.reduceNe, Nat.reduceMul, Nat.reduceSub]
          exact ⟨by omega, by omega, by omega, by omega, d - 1, by omega, i + 1, _, by omega, by simp, rfl, .inr ⟨_, rfl, hx2⟩, f1, f4⟩
        · rw [hx3] at e10
          simp (disch := first | assumption | omega) only [e11, e0, e1, e2, e3, e9, hgm, c1, k1, hil, hi8, hx, hneg, hge4, d3, Nat.mul_one, hgm2, hgw2, hld, msgC, e10, go_sem, ↓reduceIte, Nat.reduceEqDiff, reduceCtorEq, Nat.reduceAdd, Nat.reduceLeDiff, Nat.reduceLT, reduceIte, Int.reduceBEq, Int.reduceBNe, Int.reduceLT, Int.reduceLE, Int.reduceAdd, Int.reduceSub, Int.reduceMul, Int.reduceNeg, Int.reduceEq, Int.reduceNe, Nat.reduceMul, Nat.reduceSub]
          exact ⟨by omega, by omega, by omega, by omega, by omega, by omega, d - 1, by omega, i + 1, _, by omega, by simp, rfl, .inr ⟨_, rfl, hx2⟩, f1, f4⟩
    · rw [if_neg hd, List.append_nil] at hsm
      have hd' : due T s.wait[i] = false := by simpa using hd
      have hst2 := outW_same hi2 hd'
      simp only [due, Bool.or_eq_false_iff, decide_eq_false_iff_not] at hd'
      have d1 : ¬s.wait[i].2 = -1 := by omega
      have d2 : ¬s.wait[i].2 ≤ T - 4 := by omega
      have d3 : IntKind.i64.wrap (T - 4) = T - 4 := wrapI64 (by omega) (by omega)
      simp (disch := first | assumption | omega) only [e11, e0, e1, e2, e3, e9, hgm, c1, k1, hil, hi8, hx, d1, d2, d3, Nat.mul_one, go_sem, ↓reduceIte, Nat.reduceEqDiff, reduceCtorEq, Nat.reduceAdd, Nat.reduceLeDiff, Nat.reduceLT, reduceIte, Int.reduceBEq, Int.reduceBNe, Int.reduceLT, Int.reduceLE, Int.reduceAdd, Int.reduceSub, Int.reduceMul, Int.reduceNeg, Int.reduceEq, Int.reduceNe, Nat.reduceMul, Nat.reduceSub]
      exact ⟨by omega, by omega, d - 1, by omega, i + 1, _, by omega, by simp, e10, by rw [hsm]; exact hG, by rw [hst2]; exact hS, hfr⟩
  · obtain rfl : i = min L.length 8 := by omega
    have hlw' : min L.length 8 = min s.wait.length 8 := by rw [hlw]
    rw [hlw', outM_min] at hG
    rw [hlw', outW_min] at hS
    have hol := outM_len T c s.wait 8
    have hB1 : Both S.heap e eo m ow ol self other s { s with wait := outW T s.wait 8 } := hb.halfQ (hfr.mono (fun i h => .inl (by simp [h]))) ⟨w, l, g, L, hgm, hW, by rw [h4]; exact (outW_fst T s.wait 8).symm, h5, hS, h7⟩ (fun i hi => .inl hi) hb.mw hb.ml hb.wl
    have hB2 : Both (S.heap.set m (halfC self other (outS s T) w l g)) e eo m ow ol self other s (outS s T) := hB1.cells hW (by rw [h4]; exact (outW_fst T s.wait 8).symm) h5 hS h7
    unfold halfC outS at hB2
    simp only at hB2
    have hbeat : MsgOk ⟨3, self, other, s.want, c, []⟩ (.agg [.int .i64 3, .int .i64 self, .int .i64 other, .int .i64 s.want, .int .u32 c, .lst .nil []]) := ⟨.nil, ⟨.inr rfl, fun _ => rfl⟩, by simp, rfl⟩
    have hcs : (w = .lst .nil [] ∧ ¬((min L.length 8 : Nat) : Int) < 0 ∧ (0 : Int) = 0) ∨ (∃ id off cap, w = .ref id off L.length cap ∧ ((¬((min L.length 8 : Nat) : Int) < L.length ∧ (0 : Int) = 0) ∨ (((min L.length 8 : Nat) : Int) < L.length ∧ ¬((min L.length 8 : Nat) : Int) < 8))) := by
      rcases hW.cases with ⟨h, hL⟩ | ⟨id, off, cap, h, _⟩
      · exact .inl ⟨h, by omega, rfl⟩
      · refine .inr ⟨id, off, cap, h, ?_⟩
        by_cases h8 : L.length ≤ 8
        · exact .inl ⟨by omega, rfl⟩
        · exact .inr ⟨by omega, by omega⟩
    generalize hk : min L.length 8 = k at *
    by_cases hw : s.owes = true
    · have hoL : outL s self other T c = outM T c s.wait 8 ++ [⟨3, self, other, s.want, c, []⟩] := by unfold outL; rw [if_pos hw]
      obtain ⟨xs, hx1, hx2, hx3⟩ := hG.push hbeat
      rw [← hoL] at hx1
      rcases hcs with ⟨rfl, q1, q2⟩ | ⟨id, off, cap, rfl, ⟨q1, q2⟩ | ⟨q1, q2⟩⟩
      all_goals (
        rcases hx2 with ⟨hx2, rfl⟩ | hx2
        · rw [hx2] at e10
          simp (disch := first | assumption | omega) only [e11, e0, e1, e2, e3, e9, hgm, q1, q2, hw, e10, get_set hgm, go_sem, ↓reduceIte, Nat.reduceEqDiff, reduceCtorEq, Nat.reduceAdd, Nat.reduceLeDiff, Nat.reduceLT, reduceIte, Int.reduceBEq, Int.reduceBNe, Int.reduceLT, Int.reduceLE, Int.reduceAdd, Int.reduceSub, Int.reduceMul, Int.reduceNeg, Int.reduceEq, Int.reduceNe, Nat.reduceMul, Nat.reduceSub]
          refine callG_ok (Out_ok e eo self other s n t c _ hB2.er hs hn) (by simp (disch := first | assumption | omega) only [go_sem, ↓reduceIte, Nat.reduceEqDiff, reduceCtorEq, Nat.reduceAdd, Nat.reduceLeDiff, Nat.reduceLT, reduceIte, Int.reduceBEq, Int.reduceBNe, Int.reduceLT, Int.reduceLE, Int.reduceAdd, Int.reduceSub, Int.reduceMul, Int.reduceNeg, Int.reduceEq, Int.reduceNe, Nat.reduceMul, Nat.reduceSub]) ?_
          rintro v h' ⟨hv, hq⟩
          rw [hTT] at hv hq
          obtain ⟨eo', hB'⟩ := hB2.endQ hq
          rcases hv with ⟨rfl, hv⟩ | ⟨ys, rfl, hv⟩
          · simp (disch := first | assumption | omega) only [e11, e0, e1, e2, e3, e9, hgm, e10, go_sem, ↓reduceIte, Nat.reduceEqDiff, reduceCtorEq, Nat.reduceAdd, Nat.reduceLeDiff, Nat.reduceLT, reduceIte, Int.reduceBEq, Int.reduceBNe, Int.reduceLT, Int.reduceLE, Int.reduceAdd, Int.reduceSub, Int.reduceMul, Int.reduceNeg, Int.reduceEq, Int.reduceNe, Nat.reduceMul, Nat.reduceSub]
            refine callG_ok (EqualFunc_ok .nil .sh (outL s self other T c) (outL s self other T c) _ _ (.inr rfl) (.inl rfl) (by rw [hv]; rfl) hx1 (by rw [hv]; simp) (by rw [hv]; simp) _) (by simp (disch := first | assumption | omega) only [go_sem, ↓reduceIte, Nat.reduceEqDiff, reduceCtorEq, Nat.reduceAdd, Nat.reduceLeDiff, Nat.reduceLT, reduceIte, Int.reduceBEq, Int.reduceBNe, Int.reduceLT, Int.reduceLE, Int.reduceAdd, Int.reduceSub, Int.reduceMul, Int.reduceNeg, Int.reduceEq, Int.reduceNe, Nat.reduceMul, Nat.reduceSub]) ?_
            rintro _ _ ⟨rfl, hhh⟩
            rw [hhh, decide_eq_true rfl]
            clear hhh
            simp (disch := first | assumption | omega) only [go_sem, ↓reduceIte, Nat.reduceEqDiff, reduceCtorEq, Nat.reduceAdd, Nat.reduceLeDiff, Nat.reduceLT, reduceIte, Int.reduceBEq, Int.reduceBNe, Int.reduceLT, Int.reduceLE, Int.reduceAdd, Int.reduceSub, Int.reduceMul, Int.reduceNeg, Int.reduceEq, Int.reduceNe, Nat.reduceMul, Nat.reduceSub]
            subst hQ
            simp (disch := first | assumption | omega) only [R.gantlaw5_half_out, go_sem, ↓reduceIte, Nat.reduceEqDiff, reduceCtorEq, Nat.reduceAdd, Nat.reduceLeDiff, Nat.reduceLT, reduceIte, Int.reduceBEq, Int.reduceBNe, Int.reduceLT, Int.reduceLE, Int.reduceAdd, Int.reduceSub, Int.reduceMul, Int.reduceNeg, Int.reduceEq, Int.reduceNe, Nat.reduceMul, Nat.reduceSub]
            exact ⟨eo', ow, ol, hB'⟩
          · have hll := hv.length
            have hl9 : (outL s self other T c).length ≤ 9 := by rw [hoL]; simp; omega
            simp (disch := first | assumption | omega) only [e11, e0, e1, e2, e3, e9, hgm, e10, go_sem, ↓reduceIte, Nat.reduceEqDiff, reduceCtorEq, Nat.reduceAdd, Nat.reduceLeDiff, Nat.reduceLT, reduceIte, Int.reduceBEq, Int.reduceBNe, Int.reduceLT, Int.reduceLE, Int.reduceAdd, Int.reduceSub, Int.reduceMul, Int.reduceNeg, Int.reduceEq, Int.reduceNe, Nat.reduceMul, Nat.reduceSub]
            refine callG_ok (EqualFunc_ok .sh .sh (outL s self other T c) (outL s self other T c) _ _ (.inl rfl) (.inl rfl) hv hx1 (by omega) (by omega) _) (by simp (disch := first | assumption | omega) only [go_sem, ↓reduceIte, Nat.reduceEqDiff, reduceCtorEq, Nat.reduceAdd, Nat.reduceLeDiff, Nat.reduceLT, reduceIte, Int.reduceBEq, Int.reduceBNe, Int.reduceLT, Int.reduceLE, Int.reduceAdd, Int.reduceSub, Int.reduceMul, Int.reduceNeg, Int.reduceEq, Int.reduceNe, Nat.reduceMul, Nat.reduceSub]) ?_
            rintro _ _ ⟨rfl, hhh⟩
            rw [hhh, decide_eq_true rfl]
            clear hhh
            simp (disch := first | assumption | omega) only [go_sem, ↓reduceIte, Nat.reduceEqDiff, reduceCtorEq, Nat.reduceAdd, Nat.reduceLeDiff, Nat.reduceLT, reduceIte, Int.reduceBEq, Int.reduceBNe, Int.reduceLT, Int.reduceLE, Int.reduceAdd, Int.reduceSub, Int.reduceMul, Int.reduceNeg, Int.reduceEq, Int.reduceNe, Nat.reduceMul, Nat.reduceSub]
            subst hQ
            simp (disch := first | assumption | omega) only [R.gantlaw5_half_out, go_sem, ↓reduceIte, Nat.reduceEqDiff, reduceCtorEq, Nat.reduceAdd, Nat.reduceLeDiff, Nat.reduceLT, reduceIte, Int.reduceBEq, Int.reduceBNe, Int.reduceLT, Int.reduceLE, Int.reduceAdd, Int.reduceSub, Int.reduceMul, Int.reduceNeg, Int.reduceEq, Int.reduceNe, Nat.reduceMul, Nat.reduceSub]
            exact ⟨eo', ow, ol, hB'⟩
        · rw [hx2] at e10
          simp (disch := first | assumption | omega) only [e11, e0, e1, e2, e3, e9, hgm, q1, q2, hw, e10, get_set hgm, go_sem, ↓reduceIte, Nat.reduceEqDiff, reduceCtorEq, Nat.reduceAdd, Nat.reduceLeDiff, Nat.reduceLT, reduceIte, Int.reduceBEq, Int.reduceBNe, Int.reduceLT, Int.reduceLE, Int.reduceAdd, Int.reduceSub, Int.reduceMul, Int.reduceNeg, Int.reduceEq, Int.reduceNe, Nat.reduceMul, Nat.reduceSub]
          refine ⟨by omega, by omega, ?_⟩
          refine callG_ok (Out_ok e eo self other s n t c _ hB2.er hs hn) (by simp (disch := first | assumption | omega) only [go_sem, ↓reduceIte, Nat.reduceEqDiff, reduceCtorEq, Nat.reduceAdd, Nat.reduceLeDiff, Nat.reduceLT, reduceIte, Int.reduceBEq, Int.reduceBNe, Int.reduceLT, Int.reduceLE, Int.reduceAdd, Int.reduceSub, Int.reduceMul, Int.reduceNeg, Int.reduceEq, Int.reduceNe, Nat.reduceMul, Nat.reduceSub]) ?_
          rintro v h' ⟨hv, hq⟩
          rw [hTT] at hv hq
          obtain ⟨eo', hB'⟩ := hB2.endQ hq
          rcases hv with ⟨rfl, hv⟩ | ⟨ys, rfl, hv⟩
          · simp (disch := first | assumption | omega) only [e11, e0, e1, e2, e3, e9, hgm, e10, go_sem, ↓reduceIte, Nat.reduceEqDiff, reduceCtorEq, Nat.reduceAdd, Nat.reduceLeDiff, Nat.reduceLT, reduceIte, Int.reduceBEq, Int.reduceBNe, Int.reduceLT, Int.reduceLE, Int.reduceAdd, Int.reduceSub, Int.reduceMul, Int.reduceNeg, Int.reduceEq, Int.reduceNe, Nat.reduceMul, Nat.reduceSub]
            refine callG_ok (EqualFunc_ok .nil .sh (outL s self other T c) (outL s self other T c) _ _ (.inr rfl) (.inl rfl) (by rw [hv]; rfl) hx1 (by rw [hv]; simp) (by rw [hv]; simp) _) (by simp (disch := first | assumption | omega) only [go_sem, ↓reduceIte, Nat.reduceEqDiff, reduceCtorEq, Nat.reduceAdd, Nat.reduceLeDiff, Nat.reduceLT, reduceIte, Int.reduceBEq, Int.reduceBNe, Int.reduceLT, Int.reduceLE, Int.reduceAdd, Int.reduceSub, Int.reduceMul, Int.reduceNeg, Int.reduceEq, Int.reduceNe, Nat.reduceMul, Nat.reduceSub]) ?_
            rintro _ _ ⟨rfl, hhh⟩
            rw [hhh, decide_eq_true rfl]
            clear hhh
            simp (disch := first | assumption | omega) only [go_sem, ↓reduceIte, Nat.reduceEqDiff, reduceCtorEq, Nat.reduceAdd, Nat.reduceLeDiff, Nat.reduceLT, reduceIte, Int.reduceBEq, Int.reduceBNe, Int.reduceLT, Int.reduceLE, Int.reduceAdd, Int.reduceSub, Int.reduceMul, Int.reduceNeg, Int.reduceEq, Int.reduceNe, Nat.reduceMul, Nat.reduceSub]
            subst hQ
            simp (disch := first | assumption | omega) only [R.gantlaw5_half_out, go_sem, ↓reduceIte, Nat.reduceEqDiff, reduceCtorEq, Nat.reduceAdd, Nat.reduceLeDiff, Nat.reduceLT, reduceIte, Int.reduceBEq, Int.reduceBNe, Int.reduceLT, Int.reduceLE, Int.reduceAdd, Int.reduceSub, Int.reduceMul, Int.reduceNeg, Int.reduceEq, Int.reduceNe, Nat.reduceMul, Nat.reduceSub]
            exact ⟨eo', ow, ol, hB'⟩
          · have hll := hv.length
            have hl9 : (outL s self other T c).length ≤ 9 := by rw [hoL]; simp; omega
            simp (disch := first | assumption | omega) only [e11, e0, e1, e2, e3, e9, hgm, e10, go_sem, ↓reduceIte, Nat.reduceEqDiff, reduceCtorEq, Nat.reduceAdd, Nat.reduceLeDiff, Nat.reduceLT, reduceIte, Int.reduceBEq, Int.reduceBNe, Int.reduceLT, Int.reduceLE, Int.reduceAdd, Int.reduceSub, Int.reduceMul, Int.reduceNeg, Int.reduceEq, Int.reduceNe, Nat.reduceMul, Nat.reduceSub]
            refine callG_ok (EqualFunc_ok .sh .sh (outL s self other T c) (outL s self other T c) _ _ (.inl rfl) (.inl rfl) hv hx1 (by omega) (by omega) _) (by simp (disch := first | assumption | omega) only [go_sem, ↓reduceIte, Nat.reduceEqDiff, reduceCtorEq, Nat.reduceAdd, Nat.reduceLeDiff, Nat.reduceLT, reduceIte, Int.reduceBEq, Int.reduceBNe, Int.reduceLT, Int.reduceLE, Int.reduceAdd, Int.reduceSub, Int.reduceMul, Int.reduceNeg, Int.reduceEq, Int.reduceNe, Nat.reduceMul, Nat.reduceSub]) ?_
            rintro _ _ ⟨rfl, hhh⟩
            rw [hhh, decide_eq_true rfl]
            clear hhh
            simp (disch := first | assumption | omega) only [go_sem, ↓reduceIte, Nat.reduceEqDiff, reduceCtorEq, Nat.reduceAdd, Nat.reduceLeDiff, Nat.reduceLT, reduceIte, Int.reduceBEq, Int.reduceBNe, Int.reduceLT, Int.reduceLE, Int.reduceAdd, Int.reduceSub, Int.reduceMul, Int.reduceNeg, Int.reduceEq, Int.reduceNe, Nat.reduceMul, Nat.reduceSub]
            subst hQ
            simp (disch := first | assumption | omega) only [R.gantlaw5_half_out, go_sem, ↓reduceIte, Nat.reduceEqDiff, reduceCtorEq, Nat.reduceAdd, Nat.reduceLeDiff, Nat.reduceLT, reduceIte, Int.reduceBEq, Int.reduceBNe, Int.reduceLT, Int.reduceLE, Int.reduceAdd, Int.reduceSub, Int.reduceMul, Int.reduceNeg, Int.reduceEq, Int.reduceNe, Nat.reduceMul, Nat.reduceSub]
            exact ⟨eo', ow, ol, hB'⟩)
    · have hw : s.owes = false := by simpa using hw
      have hoL : outL s self other T c = outM T c s.wait 8 := by unfold outL; rw [hw]; simp
      have hsS : ({ s with wait := outW T s.wait 8 } : Lk) = outS s T := by unfold outS; rw [hw]
      rw [← hoL] at hG
      rcases hcs with ⟨rfl, q1, q2⟩ | ⟨id, off, cap, rfl, ⟨q1, q2⟩ | ⟨q1, q2⟩⟩
      all_goals (
        rcases hG with ⟨hx2, hx3⟩ | ⟨xs, hx2, hx1⟩
        · rw [hx2] at e10
          simp (disch := first | assumption | omega) only [e11, e0, e1, e2, e3, e9, hgm, q1, q2, hw, e10, go_sem, ↓reduceIte, Nat.reduceEqDiff, reduceCtorEq, Nat.reduceAdd, Nat.reduceLeDiff, Nat.reduceLT, reduceIte, Int.reduceBEq, Int.reduceBNe, Int.reduceLT, Int.reduceLE, Int.reduceAdd, Int.reduceSub, Int.reduceMul, Int.reduceNeg, Int.reduceEq, Int.reduceNe, Nat.reduceMul, Nat.reduceSub]
          refine callG_ok (Out_ok e eo self other s n t c _ hB1.er hs hn) (by simp (disch := first | assumption | omega) only [go_sem, ↓reduceIte, Nat.reduceEqDiff, reduceCtorEq, Nat.reduceAdd, Nat.reduceLeDiff, Nat.reduceLT, reduceIte, Int.reduceBEq, Int.reduceBNe, Int.reduceLT, Int.reduceLE, Int.reduceAdd, Int.reduceSub, Int.reduceMul, Int.reduceNeg, Int.reduceEq, Int.reduceNe, Nat.reduceMul, Nat.reduceSub]) ?_
          rintro v h' ⟨hv, hq⟩
          rw [hTT] at hv hq
          obtain ⟨eo', hB'⟩ := hB1.endQ hq
          rcases hv with ⟨rfl, hv⟩ | ⟨ys, rfl, hv⟩
          · simp (disch := first | assumption | omega) only [e11, e0, e1, e2, e3, e9, hgm, e10, go_sem, ↓reduceIte, Nat.reduceEqDiff, reduceCtorEq, Nat.reduceAdd, Nat.reduceLeDiff, Nat.reduceLT, reduceIte, Int.reduceBEq, Int.reduceBNe, Int.reduceLT, Int.reduceLE, Int.reduceAdd, Int.reduceSub, Int.reduceMul, Int.reduceNeg, Int.reduceEq, Int.reduceNe, Nat.reduceMul, Nat.reduceSub]
            refine callG_ok (EqualFunc_ok .nil .nil (outL s self other T c) (outL s self other T c) _ _ (.inr rfl) (.inr rfl) (by rw [hv]; rfl) (by rw [hx3]; rfl) (by rw [hv]; simp) (by rw [hv]; simp) _) (by simp (disch := first | assumption | omega) only [go_sem, ↓reduceIte, Nat.reduceEqDiff, reduceCtorEq, Nat.reduceAdd, Nat.reduceLeDiff, Nat.reduceLT, reduceIte, Int.reduceBEq, Int.reduceBNe, Int.reduceLT, Int.reduceLE, Int.reduceAdd, Int.reduceSub, Int.reduceMul, Int.reduceNeg, Int.reduceEq, Int.reduceNe, Nat.reduceMul, Nat.reduceSub]) ?_
            rintro _ _ ⟨rfl, hhh⟩
            rw [hhh, decide_eq_true rfl]
            clear hhh
            simp (disch := first | assumption | omega) only [go_sem, ↓reduceIte, Nat.reduceEqDiff, reduceCtorEq, Nat.reduceAdd, Nat.reduceLeDiff, Nat.reduceLT, reduceIte, Int.reduceBEq, Int.reduceBNe, Int.reduceLT, Int.reduceLE, Int.reduceAdd, Int.reduceSub, Int.reduceMul, Int.reduceNeg, Int.reduceEq, Int.reduceNe, Nat.reduceMul, Nat.reduceSub]
            subst hQ
            simp (disch := first | assumption | omega) only [R.gantlaw5_half_out, go_sem, ↓reduceIte, Nat.reduceEqDiff, reduceCtorEq, Nat.reduceAdd, Nat.reduceLeDiff, Nat.reduceLT, reduceIte, Int.reduceBEq, Int.reduceBNe, Int.reduceLT, Int.reduceLE, Int.reduceAdd, Int.reduceSub, Int.reduceMul, Int.reduceNeg, Int.reduceEq, Int.reduceNe, Nat.reduceMul, Nat.reduceSub]
            exact ⟨eo', ow, ol, hsS ▸ hB'⟩
          · have hll := hv.length
            have hl9 : (outL s self other T c).length ≤ 9 := by rw [hoL]; omega
            simp (disch := first | assumption | omega) only [e11, e0, e1, e2, e3, e9, hgm, e10, go_sem, ↓reduceIte, Nat.reduceEqDiff, reduceCtorEq, Nat.reduceAdd, Nat.reduceLeDiff, Nat.reduceLT, reduceIte, Int.reduceBEq, Int.reduceBNe, Int.reduceLT, Int.reduceLE, Int.reduceAdd, Int.reduceSub, Int.reduceMul, Int.reduceNeg, Int.reduceEq, Int.reduceNe, Nat.reduceMul, Nat.reduceSub]
            refine callG_ok (EqualFunc_ok .sh .nil (outL s self other T c) (outL s self other T c) _ _ (.inl rfl) (.inr rfl) hv (by rw [hx3]; rfl) (by omega) (by omega) _) (by simp (disch := first | assumption | omega) only [go_sem, ↓reduceIte, Nat.reduceEqDiff, reduceCtorEq, Nat.reduceAdd, Nat.reduceLeDiff, Nat.reduceLT, reduceIte, Int.reduceBEq, Int.reduceBNe, Int.reduceLT, Int.reduceLE, Int.reduceAdd, Int.reduceSub, Int.reduceMul, Int.reduceNeg, Int.reduceEq, Int.reduceNe, Nat.reduceMul, Nat.reduceSub]) ?_
            rintro _ _ ⟨rfl, hhh⟩
            rw [hhh, decide_eq_true rfl]
            clear hhh
            simp (disch := first | assumption | omega) only [go_sem, ↓reduceIte, Nat.reduceEqDiff, reduceCtorEq, Nat.reduceAdd, Nat.reduceLeDiff, Nat.reduceLT, reduceIte, Int.reduceBEq, Int.reduceBNe, Int.reduceLT, Int.reduceLE, Int.reduceAdd, Int.reduceSub, Int.reduceMul, Int.reduceNeg, Int.reduceEq, Int.reduceNe, Nat.reduceMul, Nat.reduceSub]
            subst hQ
            simp (disch := first | assumption | omega) only [R.gantlaw5_half_out, go_sem, ↓reduceIte, Nat.reduceEqDiff, reduceCtorEq, Nat.reduceAdd, Nat.reduceLeDiff, Nat.reduceLT, reduceIte, Int.reduceBEq, Int.reduceBNe, Int.reduceLT, Int.reduceLE, Int.reduceAdd, Int.reduceSub, Int.reduceMul, Int.reduceNeg, Int.reduceEq, Int.reduceNe, Nat.reduceMul, Nat.reduceSub]
            exact ⟨eo', ow, ol, hsS ▸ hB'⟩
        · rw [hx2] at e10
          simp (disch := first | assumption | omega) only [e11, e0, e1, e2, e3, e9, hgm, q1, q2, hw, e10, go_sem, ↓reduceIte, Nat.reduceEqDiff, reduceCtorEq, Nat.reduceAdd, Nat.reduceLeDiff, Nat.reduceLT, reduceIte, Int.reduceBEq, Int.reduceBNe, Int.reduceLT, Int.reduceLE, Int.reduceAdd, Int.reduceSub, Int.reduceMul, Int.reduceNeg, Int.reduceEq, Int.reduceNe, Nat.reduceMul, Nat.reduceSub]
          refine callG_ok (Out_ok e eo self other s n t c _ hB1.er hs hn) (by simp (disch := first | assumption | omega) only [go_sem, ↓reduceIte, Nat.reduceEqDiff, reduceCtorEq, Nat.reduceAdd, Nat.reduceLeDiff, Nat.reduceLT, reduceIte, Int.reduceBEq, Int.reduceBNe, Int.reduceLT, Int.reduceLE, Int.reduceAdd, Int.reduceSub, Int.reduceMul, Int.reduceNeg, Int.reduceEq, Int.reduceNe, Nat.reduceMul, Nat.reduceSub]) ?_
          rintro v h' ⟨hv, hq⟩
          rw [hTT] at hv hq
          obtain ⟨eo', hB'⟩ := hB1.endQ hq
          rcases hv with ⟨rfl, hv⟩ | ⟨ys, rfl, hv⟩
          · simp (disch := first | assumption | omega) only [e11, e0, e1, e2, e3, e9, hgm, e10, go_sem, ↓reduceIte, Nat.reduceEqDiff, reduceCtorEq, Nat.reduceAdd, Nat.reduceLeDiff, Nat.reduceLT, reduceIte, Int.reduceBEq, Int.reduceBNe, Int.reduceLT, Int.reduceLE, Int.reduceAdd, Int.reduceSub, Int.reduceMul, Int.reduceNeg, Int.reduceEq, Int.reduceNe, Nat.reduceMul, Nat.reduceSub]
            refine callG_ok (EqualFunc_ok .nil .sh (outL s self other T c) (outL s self other T c) _ _ (.inr rfl) (.inl rfl) (by rw [hv]; rfl) hx1 (by rw [hv]; simp) (by rw [hv]; simp) _) (by simp (disch := first | assumption | omega) only [go_sem, ↓reduceIte, Nat.reduceEqDiff, reduceCtorEq, Nat.reduceAdd, Nat.reduceLeDiff, Nat.reduceLT, reduceIte, Int.reduceBEq, Int.reduceBNe, Int.reduceLT, Int.reduceLE, Int.reduceAdd, Int.reduceSub, Int.reduceMul, Int.reduceNeg, Int.reduceEq, Int.reduceNe, Nat.reduceMul, Nat.reduceSub]) ?_
            rintro _ _ ⟨rfl, hhh⟩
            rw [hhh, decide_eq_true rfl]
            clear hhh
            simp (disch := first | assumption | omega) only [go_sem, ↓reduceIte, Nat.reduceEqDiff, reduceCtorEq, Nat.reduceAdd, Nat.reduceLeDiff, Nat.reduceLT, reduceIte, Int.reduceBEq, Int.reduceBNe, Int.reduceLT, Int.reduceLE, Int.reduceAdd, Int.reduceSub, Int.reduceMul, Int.reduceNeg, Int.reduceEq, Int.reduceNe, Nat.reduceMul, Nat.reduceSub]
            subst hQ
            simp (disch := first | assumption | omega) only [R.gantlaw5_half_out, go_sem, ↓reduceIte, Nat.reduceEqDiff, reduceCtorEq, Nat.reduceAdd, Nat.reduceLeDiff, Nat.reduceLT, reduceIte, Int.reduceBEq, Int.reduceBNe, Int.reduceLT, Int.reduceLE, Int.reduceAdd, Int.reduceSub, Int.reduceMul, Int.reduceNeg, Int.reduceEq, Int.reduceNe, Nat.reduceMul, Nat.reduceSub]
            exact ⟨eo', ow, ol, hsS ▸ hB'⟩
          · have hll := hv.length
            have hl9 : (outL s self other T c).length ≤ 9 := by rw [hoL]; omega
            simp (disch := first | assumption | omega) only [e11, e0, e1, e2, e3, e9, hgm, e10, go_sem, ↓reduceIte, Nat.reduceEqDiff, reduceCtorEq, Nat.reduceAdd, Nat.reduceLeDiff, Nat.reduceLT, reduceIte, Int.reduceBEq, Int.reduceBNe, Int.reduceLT, Int.reduceLE, Int.reduceAdd, Int.reduceSub, Int.reduceMul, Int.reduceNeg, Int.reduceEq, Int.reduceNe, Nat.reduceMul, Nat.reduceSub]
            refine callG_ok (EqualFunc_ok .sh .sh (outL s self other T c) (outL s self other T c) _ _ (.inl rfl) (.inl rfl) hv hx1 (by omega) (by omega) _) (by simp (disch := first | assumption | omega) only [go_sem, ↓reduceIte, Nat.reduceEqDiff, reduceCtorEq, Nat.reduceAdd, Nat.reduceLeDiff, Nat.reduceLT, reduceIte, Int.reduceBEq, Int.reduceBNe, Int.reduceLT, Int.reduceLE, Int.reduceAdd, Int.reduceSub, Int.reduceMul, Int.reduceNeg, Int.reduceEq, Int.reduceNe, Nat.reduceMul, Nat.reduceSub]) ?_
            rintro _ _ ⟨rfl, hhh⟩
            rw [hhh, decide_eq_true rfl]
            clear hhh
            simp (disch := first | assumption | omega) only [go_sem, ↓reduceIte, Nat.reduceEqDiff, reduceCtorEq, Nat.reduceAdd, Nat.reduceLeDiff, Nat.reduceLT, reduceIte, Int.reduceBEq, Int.reduceBNe, Int.reduceLT, Int.reduceLE, Int.reduceAdd, Int.reduceSub, Int.reduceMul, Int.reduceNeg, Int.reduceEq, Int.reduceNe, Nat.reduceMul, Nat.reduceSub]
            subst hQ
            simp (disch := first | assumption | omega) only [R.gantlaw5_half_out, go_sem, ↓reduceIte, Nat.reduceEqDiff, reduceCtorEq, Nat.reduceAdd, Nat.reduceLeDiff, Nat.reduceLT, reduceIte, Int.reduceBEq, Int.reduceBNe, Int.reduceLT, Int.reduceLE, Int.reduceAdd, Int.reduceSub, Int.reduceMul, Int.reduceNeg, Int.reduceEq, Int.reduceNe, Nat.reduceMul, Nat.reduceSub]
            exact ⟨eo', ow, ol, hsS ▸ hB'⟩)
end Go.Proofs.Ytpdajkbfemcdlaa
/- Contracts: what both ends receive. -/
set_option linter.unusedSimpArgs false
set_option linter.unusedVariables false
set_option maxRecDepth 10000
namespace Go.Proofs.Ytpdajkbfemcdlaa
open Go.Ge
theorem inE_wrong {s : Lk} {self other : Int} {m : Msg} (hc : checkF m = 0) (h : m.From ≠ other ∨ m.To ≠ self) : inE s self other m = 16 := by
  unfold inE; rw [if_neg (by simp [hc]), if_pos h]
theorem inS_wrong {s : Lk} {self other : Int} {m : Msg} (hc : checkF m = 0) (h : m.From ≠ other ∨ m.To ≠ self) : inS s self other m = s := by
  unfold inS; rw [if_pos (by rw [inE_wrong hc h]; decide)]
theorem checkF_of {m : Msg} (h1 : msgFault m = 0) (h2 : cellsFault m.Cells = 0) : checkF m = 0 := by
  unfold checkF; rw [if_neg (by simp [h1])]; exact h2
theorem halfIn_ok (e m : Nat) (eo ow ol : List Nat) (self other : Int) (s : Lk) (n : Int) (q : Own) (x : Msg) (h : List HObj) (hb : Both h e eo m ow ol self other s s) (hs : s.ok n) (hn : n ≤ 1099511627776) (hq : Rdn q x.Cells) (hl : x.Cells.length < 4611686018427387904)
    (hxf : x.From = other) (hxt : x.To = self) :
    ACalls Try.prog F.gantlaw5_half_in [.hp m 0, .hp e 0, msgA q x] h (fun v h' => v = .bool true ∧ BothQ e m self other (inS s self other x) h') := by
  have hq1 := hq.1
  have hl16 : x.Cells.length < 4611686018427387904 := hl
  refine ACalls.of_aw Try.func162 K.gantlaw5_half_in (by simp [Try.f162]) ?_
  generalize hQ : retQ R.gantlaw5_half_in _ = Q
  simp (disch := first | assumption | omega) only [C.gantlaw5_half_in, go_sem, ↓reduceIte, Nat.reduceEqDiff, reduceCtorEq, Nat.reduceAdd, Nat.reduceLeDiff, Nat.reduceLT, reduceIte, Int.reduceBEq, Int.reduceBNe, Int.reduceLT, Int.reduceLE, Int.reduceAdd, Int.reduceSub, Int.reduceMul, Int.reduceNeg, Int.reduceEq, Int.reduceNe, Nat.reduceMul, Nat.reduceSub]
  simp (disch := first | assumption | omega) only [msgA, msgC, go_sem, ↓reduceIte, Nat.reduceEqDiff, reduceCtorEq, Nat.reduceAdd, Nat.reduceLeDiff, Nat.reduceLT, reduceIte, Int.reduceBEq, Int.reduceBNe, Int.reduceLT, Int.reduceLE, Int.reduceAdd, Int.reduceSub, Int.reduceMul, Int.reduceNeg, Int.reduceEq, Int.reduceNe, Nat.reduceMul, Nat.reduceSub]
  refine callG_ok (MsgFault_ok q x hq1 hl _) (by simp (disch := first | assumption | omega) only [msgA, msgC, go_sem, ↓reduceIte, Nat.reduceEqDiff, reduceCtorEq, Nat.reduceAdd, Nat.reduceLeDiff, Nat.reduceLT, reduceIte, Int.reduceBEq, Int.reduceBNe, Int.reduceLT, Int.reduceLE, Int.reduceAdd, Int.reduceSub, Int.reduceMul, Int.reduceNeg, Int.reduceEq, Int.reduceNe, Nat.reduceMul, Nat.reduceSub]) ?_
  rintro _ _ ⟨rfl, hhh⟩
  rw [hhh]
  clear hhh
  simp (disch := first | assumption | omega) only [go_sem, ↓reduceIte, Nat.reduceEqDiff, reduceCtorEq, Nat.reduceAdd, Nat.reduceLeDiff, Nat.reduceLT, reduceIte, Int.reduceBEq, Int.reduceBNe, Int.reduceLT, Int.reduceLE, Int.reduceAdd, Int.reduceSub, Int.reduceMul, Int.reduceNeg, Int.reduceEq, Int.reduceNe, Nat.reduceMul, Nat.reduceSub]
  refine condG_cut (fun S => S.env 0 = .hp m 0 ∧ S.env 1 = .hp e 0 ∧ S.env 7 = .int .i64 (checkF x) ∧ S.env 5 = .box 5 0 ∧ S.boxes 5 = some [.int .i64 x.Kind, .int .i64 x.From, .int .i64 x.To, .int .i64 x.Seq, .int .u32 x.Clock, .lst q (cellsA x.Cells)] ∧ S.heap = h) ?_ ?_
  · refine condG_if (fun hm => ?_) fun hm => ?_
    · have hw : cellsFault x.Cells = checkF x := by unfold checkF; rw [if_neg (by simp [hm])]
      simp (disch := first | assumption | omega) only [go_sem, ↓reduceIte, Nat.reduceEqDiff, reduceCtorEq, Nat.reduceAdd, Nat.reduceLeDiff, Nat.reduceLT, reduceIte, Int.reduceBEq, Int.reduceBNe, Int.reduceLT, Int.reduceLE, Int.reduceAdd, Int.reduceSub, Int.reduceMul, Int.reduceNeg, Int.reduceEq, Int.reduceNe, Nat.reduceMul, Nat.reduceSub]
      refine callG_ok (CellsFault_ok q x.Cells hq1 hl _) (by simp (disch := first | assumption | omega) only [go_sem, ↓reduceIte, Nat.reduceEqDiff, reduceCtorEq, Nat.reduceAdd, Nat.reduceLeDiff, Nat.reduceLT, reduceIte, Int.reduceBEq, Int.reduceBNe, Int.reduceLT, Int.reduceLE, Int.reduceAdd, Int.reduceSub, Int.reduceMul, Int.reduceNeg, Int.reduceEq, Int.reduceNe, Nat.reduceMul, Nat.reduceSub]) ?_
      rintro _ _ ⟨rfl, hhh⟩
      rw [hhh]
      clear hhh
      rw [hw]
      simp (disch := first | assumption | omega) only [go_sem, ↓reduceIte, Nat.reduceEqDiff, reduceCtorEq, Nat.reduceAdd, Nat.reduceLeDiff, Nat.reduceLT, reduceIte, Int.reduceBEq, Int.reduceBNe, Int.reduceLT, Int.reduceLE, Int.reduceAdd, Int.reduceSub, Int.reduceMul, Int.reduceNeg, Int.reduceEq, Int.reduceNe, Nat.reduceMul, Nat.reduceSub]
      try trivial
    · have hw : msgFault x = checkF x := by unfold checkF; rw [if_pos hm]
      simp (disch := first | assumption | omega) only [go_sem, ↓reduceIte, Nat.reduceEqDiff, reduceCtorEq, Nat.reduceAdd, Nat.reduceLeDiff, Nat.reduceLT, reduceIte, Int.reduceBEq, Int.reduceBNe, Int.reduceLT, Int.reduceLE, Int.reduceAdd, Int.reduceSub, Int.reduceMul, Int.reduceNeg, Int.reduceEq, Int.reduceNe, Nat.reduceMul, Nat.reduceSub]
      rw [hw]
  rintro S0 ⟨e0, e1, e7, e5, b5, eh⟩
  simp (disch := first | assumption | omega) only [e0, e1, e7, e5, b5, eh, go_sem, ↓reduceIte, Nat.reduceEqDiff, reduceCtorEq, Nat.reduceAdd, Nat.reduceLeDiff, Nat.reduceLT, reduceIte, Int.reduceBEq, Int.reduceBNe, Int.reduceLT, Int.reduceLE, Int.reduceAdd, Int.reduceSub, Int.reduceMul, Int.reduceNeg, Int.reduceEq, Int.reduceNe, Nat.reduceMul, Nat.reduceSub]
  refine aw_count (fun d S => ∃ (i : Nat) (eo : List Nat), i + d = 5 ∧ S.env 18 = .int .i64 i ∧ S.env 0 = .hp m 0 ∧ S.env 1 = .hp e 0 ∧ S.env 7 = .int .i64 (checkF x) ∧ S.env 5 = .box 5 0 ∧ S.boxes 5 = some [.int .i64 x.Kind, .int .i64 x.From, .int .i64 x.To, .int .i64 x.Seq, .int .u32 x.Clock, .lst q (cellsA x.Cells)] ∧ Both S.heap e eo m ow ol self other s s) (n := 5)
    ⟨0, eo, by omega, by simp (disch := first | assumption | omega) only [go_sem, ↓reduceIte, Nat.reduceEqDiff, reduceCtorEq, Nat.reduceAdd, Nat.reduceLeDiff, Nat.reduceLT, reduceIte, Int.reduceBEq, Int.reduceBNe, Int.reduceLT, Int.reduceLE, Int.reduceAdd, Int.reduceSub, Int.reduceMul, Int.reduceNeg, Int.reduceEq, Int.reduceNe, Nat.reduceMul, Nat.reduceSub], by simp (disch := first | assumption | omega) only [e0, go_sem, ↓reduceIte, Nat.reduceEqDiff, reduceCtorEq, Nat.reduceAdd, Nat.reduceLeDiff, Nat.reduceLT, reduceIte, Int.reduceBEq, Int.reduceBNe, Int.reduceLT, Int.reduceLE, Int.reduceAdd, Int.reduceSub, Int.reduceMul, Int.reduceNeg, Int.reduceEq, Int.reduceNe, Nat.reduceMul, Nat.reduceSub], by simp (disch := first | assumption | omega) only [e1, go_sem, ↓reduceIte, Nat.reduceEqDiff, reduceCtorEq, Nat.reduceAdd, Nat.reduceLeDiff, Nat.reduceLT, reduceIte, Int.reduceBEq, Int.reduceBNe, Int.reduceLT, Int.reduceLE, Int.reduceAdd, Int.reduceSub, Int.reduceMul, Int.reduceNeg, Int.reduceEq, Int.reduceNe, Nat.reduceMul, Nat.reduceSub], by simp (disch := first | assumption | omega) only [e7, go_sem, ↓reduceIte, Nat.reduceEqDiff, reduceCtorEq, Nat.reduceAdd, Nat.reduceLeDiff, Nat.reduceLT, reduceIte, Int.reduceBEq, Int.reduceBNe, Int.reduceLT, Int.reduceLE, Int.reduceAdd, Int.reduceSub, Int.reduceMul, Int.reduceNeg, Int.reduceEq, Int.reduceNe, Nat.reduceMul, Nat.reduceSub], by simp (disch := first | assumption | omega) only [e5, go_sem, ↓reduceIte, Nat.reduceEqDiff, reduceCtorEq, Nat.reduceAdd, Nat.reduceLeDiff, Nat.reduceLT, reduceIte, Int.reduceBEq, Int.reduceBNe, Int.reduceLT, Int.reduceLE, Int.reduceAdd, Int.reduceSub, Int.reduceMul, Int.reduceNeg, Int.reduceEq, Int.reduceNe, Nat.reduceMul, Nat.reduceSub], by simp (disch := first | assumption | omega) only [b5, go_sem, ↓reduceIte, Nat.reduceEqDiff, reduceCtorEq, Nat.reduceAdd, Nat.reduceLeDiff, Nat.reduceLT, reduceIte, Int.reduceBEq, Int.reduceBNe, Int.reduceLT, Int.reduceLE, Int.reduceAdd, Int.reduceSub, Int.reduceMul, Int.reduceNeg, Int.reduceEq, Int.reduceNe, Nat.reduceMul, Nat.reduceSub], by simp (disch := first | assumption | omega) only [eh, go_sem, ↓reduceIte, Nat.reduceEqDiff, reduceCtorEq, Nat.reduceAdd, Nat.reduceLeDiff, Nat.reduceLT, reduceIte, Int.reduceBEq, Int.reduceBNe, Int.reduceLT, Int.reduceLE, Int.reduceAdd, Int.reduceSub, Int.reduceMul, Int.reduceNeg, Int.reduceEq, Int.reduceNe, Nat.reduceMul, Nat.reduceSub]; exact hb⟩ ?_
  clear hb e0 e1 e7 e5 b5 eh S0
  rintro d S ⟨i, eo, hid, e18, e0, e1, e7, e5, b5, hb⟩
  obtain ⟨w, l, g, L, h2, h3, h4, h5, h6, h7⟩ := hb.get
  by_cases hlt : (i : Int) < 5
  · by_cases c1 : (i : Int) = other
    · simp (disch := first | assumption | omega) only [e18, e0, e1, e7, e5, b5, h2, hlt, eq_true c1, go_sem, ↓reduceIte, Nat.reduceEqDiff, reduceCtorEq, Nat.reduceAdd, Nat.reduceLeDiff, Nat.reduceLT, reduceIte, Int.reduceBEq, Int.reduceBNe, Int.reduceLT, Int.reduceLE, Int.reduceAdd, Int.reduceSub, Int.reduceMul, Int.reduceNeg, Int.reduceEq, Int.reduceNe, Nat.reduceMul, Nat.reduceSub]
      by_cases z1 : (i : Int) = self
      · simp (disch := first | assumption | omega) only [e18, e0, e1, e7, e5, b5, h2, eq_true z1, go_sem, ↓reduceIte, Nat.reduceEqDiff, reduceCtorEq, Nat.reduceAdd, Nat.reduceLeDiff, Nat.reduceLT, reduceIte, Int.reduceBEq, Int.reduceBNe, Int.reduceLT, Int.reduceLE, Int.reduceAdd, Int.reduceSub, Int.reduceMul, Int.reduceNeg, Int.reduceEq, Int.reduceNe, Nat.reduceMul, Nat.reduceSub]
        exact ⟨d - 1, by omega, i + 1, eo, by omega, by simp, hb⟩
      · simp (disch := first | assumption | omega) only [e18, e0, e1, e7, e5, b5, h2, z1, go_sem, ↓reduceIte, Nat.reduceEqDiff, reduceCtorEq, Nat.reduceAdd, Nat.reduceLeDiff, Nat.reduceLT, reduceIte, Int.reduceBEq, Int.reduceBNe, Int.reduceLT, Int.reduceLE, Int.reduceAdd, Int.reduceSub, Int.reduceMul, Int.reduceNeg, Int.reduceEq, Int.reduceNe, Nat.reduceMul, Nat.reduceSub]
        refine callG_ok (MsgFault_ok q ⟨x.Kind, x.From, i, x.Seq, x.Clock, x.Cells⟩ hq1 hl _) (by simp (disch := first | assumption | omega) only [msgA, msgC, go_sem, ↓reduceIte, Nat.reduceEqDiff, reduceCtorEq, Nat.reduceAdd, Nat.reduceLeDiff, Nat.reduceLT, reduceIte, Int.reduceBEq, Int.reduceBNe, Int.reduceLT, Int.reduceLE, Int.reduceAdd, Int.reduceSub, Int.reduceMul, Int.reduceNeg, Int.reduceEq, Int.reduceNe, Nat.reduceMul, Nat.reduceSub]) ?_
        rintro _ _ ⟨rfl, hhh⟩
        rw [hhh]
        clear hhh
        by_cases z2 : msgFault ⟨x.Kind, x.From, i, x.Seq, x.Clock, x.Cells⟩ = 0
        · simp (disch := first | assumption | omega) only [e18, e0, e1, e7, e5, b5, h2, z2, go_sem, ↓reduceIte, Nat.reduceEqDiff, reduceCtorEq, Nat.reduceAdd, Nat.reduceLeDiff, Nat.reduceLT, reduceIte, Int.reduceBEq, Int.reduceBNe, Int.reduceLT, Int.reduceLE, Int.reduceAdd, Int.reduceSub, Int.reduceMul, Int.reduceNeg, Int.reduceEq, Int.reduceNe, Nat.reduceMul, Nat.reduceSub]
          refine callG_ok (CellsFault_ok q x.Cells hq1 hl _) (by simp (disch := first | assumption | omega) only [go_sem, ↓reduceIte, Nat.reduceEqDiff, reduceCtorEq, Nat.reduceAdd, Nat.reduceLeDiff, Nat.reduceLT, reduceIte, Int.reduceBEq, Int.reduceBNe, Int.reduceLT, Int.reduceLE, Int.reduceAdd, Int.reduceSub, Int.reduceMul, Int.reduceNeg, Int.reduceEq, Int.reduceNe, Nat.reduceMul, Nat.reduceSub]) ?_
          rintro _ _ ⟨rfl, hhh⟩
          rw [hhh]
          clear hhh
          by_cases z3 : cellsFault x.Cells = 0
          · have zc := checkF_of (m := ⟨x.Kind, x.From, i, x.Seq, x.Clock, x.Cells⟩) z2 z3
            simp (disch := first | assumption | omega) only [e18, e0, e1, e7, e5, b5, h2, z3, go_sem, ↓reduceIte, Nat.reduceEqDiff, reduceCtorEq, Nat.reduceAdd, Nat.reduceLeDiff, Nat.reduceLT, reduceIte, Int.reduceBEq, Int.reduceBNe, Int.reduceLT, Int.reduceLE, Int.reduceAdd, Int.reduceSub, Int.reduceMul, Int.reduceNeg, Int.reduceEq, Int.reduceNe, Nat.reduceMul, Nat.reduceSub]
            refine callG_ok (In_ok e eo self other s n q ⟨x.Kind, x.From, i, x.Seq, x.Clock, x.Cells⟩ _ hb.er hs hn hq hl) (by simp (disch := first | assumption | omega) only [msgA, msgC, go_sem, ↓reduceIte, Nat.reduceEqDiff, reduceCtorEq, Nat.reduceAdd, Nat.reduceLeDiff, Nat.reduceLT, reduceIte, Int.reduceBEq, Int.reduceBNe, Int.reduceLT, Int.reduceLE, Int.reduceAdd, Int.reduceSub, Int.reduceMul, Int.reduceNeg, Int.reduceEq, Int.reduceNe, Nat.reduceMul, Nat.reduceSub]) ?_
            rintro _ hz ⟨rfl, hzq⟩
            rw [inE_wrong zc (.inr z1)]
            rw [inS_wrong zc (.inr z1)] at hzq
            obtain ⟨eoz, hbz⟩ := hb.endQ hzq
            simp (disch := first | assumption | omega) only [e18, e0, e1, e7, e5, b5, h2, go_sem, ↓reduceIte, Nat.reduceEqDiff, reduceCtorEq, Nat.reduceAdd, Nat.reduceLeDiff, Nat.reduceLT, reduceIte, Int.reduceBEq, Int.reduceBNe, Int.reduceLT, Int.reduceLE, Int.reduceAdd, Int.reduceSub, Int.reduceMul, Int.reduceNeg, Int.reduceEq, Int.reduceNe, Nat.reduceMul, Nat.reduceSub]
            exact ⟨d - 1, by omega, i + 1, eoz, by omega, by simp, hbz⟩
          · simp (disch := first | assumption | omega) only [e18, e0, e1, e7, e5, b5, h2, z3, go_sem, ↓reduceIte, Nat.reduceEqDiff, reduceCtorEq, Nat.reduceAdd, Nat.reduceLeDiff, Nat.reduceLT, reduceIte, Int.reduceBEq, Int.reduceBNe, Int.reduceLT, Int.reduceLE, Int.reduceAdd, Int.reduceSub, Int.reduceMul, Int.reduceNeg, Int.reduceEq, Int.reduceNe, Nat.reduceMul, Nat.reduceSub]
            exact ⟨d - 1, by omega, i + 1, eo, by omega, by simp, hb⟩
        · simp (disch := first | assumption | omega) only [e18, e0, e1, e7, e5, b5, h2, z2, go_sem, ↓reduceIte, Nat.reduceEqDiff, reduceCtorEq, Nat.reduceAdd, Nat.reduceLeDiff, Nat.reduceLT, reduceIte, Int.reduceBEq, Int.reduceBNe, Int.reduceLT, Int.reduceLE, Int.reduceAdd, Int.reduceSub, Int.reduceMul, Int.reduceNeg, Int.reduceEq, Int.reduceNe, Nat.reduceMul, Nat.reduceSub]
          exact ⟨d - 1, by omega, i + 1, eo, by omega, by simp, hb⟩
    · simp (disch := first | assumption | omega) only [e18, e0, e1, e7, e5, b5, h2, hlt, c1, go_sem, ↓reduceIte, Nat.reduceEqDiff, reduceCtorEq, Nat.reduceAdd, Nat.reduceLeDiff, Nat.reduceLT, reduceIte, Int.reduceBEq, Int.reduceBNe, Int.reduceLT, Int.reduceLE, Int.reduceAdd, Int.reduceSub, Int.reduceMul, Int.reduceNeg, Int.reduceEq, Int.reduceNe, Nat.reduceMul, Nat.reduceSub]
      refine callG_ok (MsgFault_ok q ⟨x.Kind, i, x.To, x.Seq, x.Clock, x.Cells⟩ hq1 hl _) (by simp (disch := first | assumption | omega) only [msgA, msgC, go_sem, ↓reduceIte, Nat.reduceEqDiff, reduceCtorEq, Nat.reduceAdd, Nat.reduceLeDiff, Nat.reduceLT, reduceIte, Int.reduceBEq, Int.reduceBNe, Int.reduceLT, Int.reduceLE, Int.reduceAdd, Int.reduceSub, Int.reduceMul, Int.reduceNeg, Int.reduceEq, Int.reduceNe, Nat.reduceMul, Nat.reduceSub]) ?_
      rintro _ _ ⟨rfl, hhh⟩
      rw [hhh]
      clear hhh
      by_cases c2 : msgFault ⟨x.Kind, i, x.To, x.Seq, x.Clock, x.Cells⟩ = 0
      · simp (disch := first | assumption | omega) only [e18, e0, e1, e7, e5, b5, h2, c2, go_sem, ↓reduceIte, Nat.reduceEqDiff, reduceCtorEq, Nat.reduceAdd, Nat.reduceLeDiff, Nat.reduceLT, reduceIte, Int.reduceBEq, Int.reduceBNe, Int.reduceLT, Int.reduceLE, Int.reduceAdd, Int.reduceSub, Int.reduceMul, Int.reduceNeg, Int.reduceEq, Int.reduceNe, Nat.reduceMul, Nat.reduceSub]
        refine callG_ok (CellsFault_ok q x.Cells hq1 hl _) (by simp (disch := first | assumption | omega) only [go_sem, ↓reduceIte, Nat.reduceEqDiff, reduceCtorEq, Nat.reduceAdd, Nat.reduceLeDiff, Nat.reduceLT, reduceIte, Int.reduceBEq, Int.reduceBNe, Int.reduceLT, Int.reduceLE, Int.reduceAdd, Int.reduceSub, Int.reduceMul, Int.reduceNeg, Int.reduceEq, Int.reduceNe, Nat.reduceMul, Nat.reduceSub]) ?_
        rintro _ _ ⟨rfl, hhh⟩
        rw [hhh]
        clear hhh
        by_cases c3 : cellsFault x.Cells = 0
        · have cc := checkF_of (m := ⟨x.Kind, i, x.To, x.Seq, x.Clock, x.Cells⟩) c2 c3
          simp (disch := first | assumption | omega) only [e18, e0, e1, e7, e5, b5, h2, c3, go_sem, ↓reduceIte, Nat.reduceEqDiff, reduceCtorEq, Nat.reduceAdd, Nat.reduceLeDiff, Nat.reduceLT, reduceIte, Int.reduceBEq, Int.reduceBNe, Int.reduceLT, Int.reduceLE, Int.reduceAdd, Int.reduceSub, Int.reduceMul, Int.reduceNeg, Int.reduceEq, Int.reduceNe, Nat.reduceMul, Nat.reduceSub]
          refine callG_ok (In_ok e eo self other s n q ⟨x.Kind, i, x.To, x.Seq, x.Clock, x.Cells⟩ _ hb.er hs hn hq hl) (by simp (disch := first | assumption | omega) only [msgA, msgC, go_sem, ↓reduceIte, Nat.reduceEqDiff, reduceCtorEq, Nat.reduceAdd, Nat.reduceLeDiff, Nat.reduceLT, reduceIte, Int.reduceBEq, Int.reduceBNe, Int.reduceLT, Int.reduceLE, Int.reduceAdd, Int.reduceSub, Int.reduceMul, Int.reduceNeg, Int.reduceEq, Int.reduceNe, Nat.reduceMul, Nat.reduceSub]) ?_
          rintro _ hy ⟨rfl, hyq⟩
          rw [inE_wrong cc (.inl c1)]
          rw [inS_wrong cc (.inl c1)] at hyq
          obtain ⟨eoy, hby⟩ := hb.endQ hyq
          obtain ⟨w', l', g', L', h2', _⟩ := hby.get
          simp (disch := first | assumption | omega) only [e18, e0, e1, e7, e5, b5, h2', go_sem, ↓reduceIte, Nat.reduceEqDiff, reduceCtorEq, Nat.reduceAdd, Nat.reduceLeDiff, Nat.reduceLT, reduceIte, Int.reduceBEq, Int.reduceBNe, Int.reduceLT, Int.reduceLE, Int.reduceAdd, Int.reduceSub, Int.reduceMul, Int.reduceNeg, Int.reduceEq, Int.reduceNe, Nat.reduceMul, Nat.reduceSub]
          by_cases z1 : (i : Int) = self
          · simp (disch := first | assumption | omega) only [e18, e0, e1, e7, e5, b5, h2', eq_true z1, go_sem, ↓reduceIte, Nat.reduceEqDiff, reduceCtorEq, Nat.reduceAdd, Nat.reduceLeDiff, Nat.reduceLT, reduceIte, Int.reduceBEq, Int.reduceBNe, Int.reduceLT, Int.reduceLE, Int.reduceAdd, Int.reduceSub, Int.reduceMul, Int.reduceNeg, Int.reduceEq, Int.reduceNe, Nat.reduceMul, Nat.reduceSub]
            exact ⟨d - 1, by omega, i + 1, eoy, by omega, by simp, hby⟩
          · simp (disch := first | assumption | omega) only [e18, e0, e1, e7, e5, b5, h2', z1, go_sem, ↓reduceIte, Nat.reduceEqDiff, reduceCtorEq, Nat.reduceAdd, Nat.reduceLeDiff, Nat.reduceLT, reduceIte, Int.reduceBEq, Int.reduceBNe, Int.reduceLT, Int.reduceLE, Int.reduceAdd, Int.reduceSub, Int.reduceMul, Int.reduceNeg, Int.reduceEq, Int.reduceNe, Nat.reduceMul, Nat.reduceSub]
            refine callG_ok (MsgFault_ok q ⟨x.Kind, x.From, i, x.Seq, x.Clock, x.Cells⟩ hq1 hl _) (by simp (disch := first | assumption | omega) only [msgA, msgC, go_sem, ↓reduceIte, Nat.reduceEqDiff, reduceCtorEq, Nat.reduceAdd, Nat.reduceLeDiff, Nat.reduceLT, reduceIte, Int.reduceBEq, Int.reduceBNe, Int.reduceLT, Int.reduceLE, Int.reduceAdd, Int.reduceSub, Int.reduceMul, Int.reduceNeg, Int.reduceEq, Int.reduceNe, Nat.reduceMul, Nat.reduceSub]) ?_
            rintro _ _ ⟨rfl, hhh⟩
            rw [hhh]
            clear hhh
            by_cases z2 : msgFault ⟨x.Kind, x.From, i, x.Seq, x.Clock, x.Cells⟩ = 0
            · simp (disch := first | assumption | omega) only [e18, e0, e1, e7, e5, b5, h2', z2, go_sem, ↓reduceIte, Nat.reduceEqDiff, reduceCtorEq, Nat.reduceAdd, Nat.reduceLeDiff, Nat.reduceLT, reduceIte, Int.reduceBEq, Int.reduceBNe, Int.reduceLT, Int.reduceLE, Int.reduceAdd, Int.reduceSub, Int.reduceMul, Int.reduceNeg, Int.reduceEq, Int.reduceNe, Nat.reduceMul, Nat.reduceSub]
              refine callG_ok (CellsFault_ok q x.Cells hq1 hl _) (by simp (disch := first | assumption | omega) only [go_sem, ↓reduceIte, Nat.reduceEqDiff, reduceCtorEq, Nat.reduceAdd, Nat.reduceLeDiff, Nat.reduceLT, reduceIte, Int.reduceBEq, Int.reduceBNe, Int.reduceLT, Int.reduceLE, Int.reduceAdd, Int.reduceSub, Int.reduceMul, Int.reduceNeg, Int.reduceEq, Int.reduceNe, Nat.reduceMul, Nat.reduceSub]) ?_
              rintro _ _ ⟨rfl, hhh⟩
              rw [hhh]
              clear hhh
              by_cases z3 : cellsFault x.Cells = 0
              · have zc := checkF_of (m := ⟨x.Kind, x.From, i, x.Seq, x.Clock, x.Cells⟩) z2 z3
                simp (disch := first | assumption | omega) only [e18, e0, e1, e7, e5, b5, h2', z3, go_sem, ↓reduceIte, Nat.reduceEqDiff, reduceCtorEq, Nat.reduceAdd, Nat.reduceLeDiff, Nat.reduceLT, reduceIte, Int.reduceBEq, Int.reduceBNe, Int.reduceLT, Int.reduceLE, Int.reduceAdd, Int.reduceSub, Int.reduceMul, Int.reduceNeg, Int.reduceEq, Int.reduceNe, Nat.reduceMul, Nat.reduceSub]
                refine callG_ok (In_ok e eoy self other s n q ⟨x.Kind, x.From, i, x.Seq, x.Clock, x.Cells⟩ _ hby.er hs hn hq hl) (by simp (disch := first | assumption | omega) only [msgA, msgC, go_sem, ↓reduceIte, Nat.reduceEqDiff, reduceCtorEq, Nat.reduceAdd, Nat.reduceLeDiff, Nat.reduceLT, reduceIte, Int.reduceBEq, Int.reduceBNe, Int.reduceLT, Int.reduceLE, Int.reduceAdd, Int.reduceSub, Int.reduceMul, Int.reduceNeg, Int.reduceEq, Int.reduceNe, Nat.reduceMul, Nat.reduceSub]) ?_
                rintro _ hz ⟨rfl, hzq⟩
                rw [inE_wrong zc (.inr z1)]
                rw [inS_wrong zc (.inr z1)] at hzq
                obtain ⟨eoz, hbz⟩ := hby.endQ hzq
                simp (disch := first | assumption | omega) only [e18, e0, e1, e7, e5, b5, h2', go_sem, ↓reduceIte, Nat.reduceEqDiff, reduceCtorEq, Nat.reduceAdd, Nat.reduceLeDiff, Nat.reduceLT, reduceIte, Int.reduceBEq, Int.reduceBNe, Int.reduceLT, Int.reduceLE, Int.reduceAdd, Int.reduceSub, Int.reduceMul, Int.reduceNeg, Int.reduceEq, Int.reduceNe, Nat.reduceMul, Nat.reduceSub]
                exact ⟨d - 1, by omega, i + 1, eoz, by omega, by simp, hbz⟩
              · simp (disch := first | assumption | omega) only [e18, e0, e1, e7, e5, b5, h2', z3, go_sem, ↓reduceIte, Nat.reduceEqDiff, reduceCtorEq, Nat.reduceAdd, Nat.reduceLeDiff, Nat.reduceLT, reduceIte, Int.reduceBEq, Int.reduceBNe, Int.reduceLT, Int.reduceLE, Int.reduceAdd, Int.reduceSub, Int.reduceMul, Int.reduceNeg, Int.reduceEq, Int.reduceNe, Nat.reduceMul, Nat.reduceSub]
                exact ⟨d - 1, by omega, i + 1, eoy, by omega, by simp, hby⟩
            · simp (disch := first | assumption | omega) only [e18, e0, e1, e7, e5, b5, h2', z2, go_sem, ↓reduceIte, Nat.reduceEqDiff, reduceCtorEq, Nat.reduceAdd, Nat.reduceLeDiff, Nat.reduceLT, reduceIte, Int.reduceBEq, Int.reduceBNe, Int.reduceLT, Int.reduceLE, Int.reduceAdd, Int.reduceSub, Int.reduceMul, Int.reduceNeg, Int.reduceEq, Int.reduceNe, Nat.reduceMul, Nat.reduceSub]
              exact ⟨d - 1, by omega, i + 1, eoy, by omega, by simp, hby⟩
        · simp (disch := first | assumption | omega) only [e18, e0, e1, e7, e5, b5, h2, c3, go_sem, ↓reduceIte, Nat.reduceEqDiff, reduceCtorEq, Nat.reduceAdd, Nat.reduceLeDiff, Nat.reduceLT, reduceIte, Int.reduceBEq, Int.reduceBNe, Int.reduceLT, Int.reduceLE, Int.reduceAdd, Int.reduceSub, Int.reduceMul, Int.reduceNeg, Int.reduceEq, Int.reduceNe, Nat.reduceMul, Nat.reduceSub]
          by_cases z1 : (i : Int) = self
          · simp (disch := first | assumption | omega) only [e18, e0, e1, e7, e5, b5, h2, eq_true z1, go_sem, ↓reduceIte, Nat.reduceEqDiff, reduceCtorEq, Nat.reduceAdd, Nat.reduceLeDiff, Nat.reduceLT, reduceIte, Int.reduceBEq, Int.reduceBNe, Int.reduceLT, Int.reduceLE, Int.reduceAdd, Int.reduceSub, Int.reduceMul, Int.reduceNeg, Int.reduceEq, Int.reduceNe, Nat.reduceMul, Nat.reduceSub]
            exact ⟨d - 1, by omega, i + 1, eo, by omega, by simp, hb⟩
          · simp (disch := first | assumption | omega) only [e18, e0, e1, e7, e5, b5, h2, z1, go_sem, ↓reduceIte, Nat.reduceEqDiff, reduceCtorEq, Nat.reduceAdd, Nat.reduceLeDiff, Nat.reduceLT, reduceIte, Int.reduceBEq, Int.reduceBNe, Int.reduceLT, Int.reduceLE, Int.reduceAdd, Int.reduceSub, Int.reduceMul, Int.reduceNeg, Int.reduceEq, Int.reduceNe, Nat.reduceMul, Nat.reduceSub]
            refine callG_ok (MsgFault_ok q ⟨x.Kind, x.From, i, x.Seq, x.Clock, x.Cells⟩ hq1 hl _) (by simp (disch := first | assumption | omega) only [msgA, msgC, go_sem, ↓reduceIte, Nat.reduceEqDiff, reduceCtorEq, Nat.reduceAdd, Nat.reduceLeDiff, Nat.reduceLT, reduceIte, Int.reduceBEq, Int.reduceBNe, Int.reduceLT, Int.reduceLE, Int.reduceAdd, Int.reduceSub, Int.reduceMul, Int.reduceNeg, Int.reduceEq, Int.reduceNe, Nat.reduceMul, Nat.reduceSub]) ?_
            rintro _ _ ⟨rfl, hhh⟩
            rw [hhh]
            clear hhh
            by_cases z2 : msgFault ⟨x.Kind, x.From, i, x.Seq, x.Clock, x.Cells⟩ = 0
            · simp (disch := first | assumption | omega) only [e18, e0, e1, e7, e5, b5, h2, z2, go_sem, ↓reduceIte, Nat.reduceEqDiff, reduceCtorEq, Nat.reduceAdd, Nat.reduceLeDiff, Nat.reduceLT, reduceIte, Int.reduceBEq, Int.reduceBNe, Int.reduceLT, Int.reduceLE, Int.reduceAdd, Int.reduceSub, Int.reduceMul, Int.reduceNeg, Int.reduceEq, Int.reduceNe, Nat.reduceMul, Nat.reduceSub]
              refine callG_ok (CellsFault_ok q x.Cells hq1 hl _) (by simp (disch := first | assumption | omega) only [go_sem, ↓reduceIte, Nat.reduceEqDiff, reduceCtorEq, Nat.reduceAdd, Nat.reduceLeDiff, Nat.reduceLT, reduceIte, Int.reduceBEq, Int.reduceBNe, Int.reduceLT, Int.reduceLE, Int.reduceAdd, Int.reduceSub, Int.reduceMul, Int.reduceNeg, Int.reduceEq, Int.reduceNe, Nat.reduceMul, Nat.reduceSub]) ?_
              rintro _ _ ⟨rfl, hhh⟩
              rw [hhh]
              clear hhh
              by_cases z3 : cellsFault x.Cells = 0
              · exact absurd z3 c3
              · simp (disch := first | assumption | omega) only [e18, e0, e1, e7, e5, b5, h2, z3, go_sem, ↓reduceIte, Nat.reduceEqDiff, reduceCtorEq, Nat.reduceAdd, Nat.reduceLeDiff, Nat.reduceLT, reduceIte, Int.reduceBEq, Int.reduceBNe, Int.reduceLT, Int.reduceLE, Int.reduceAdd, Int.reduceSub, Int.reduceMul, Int.reduceNeg, Int.reduceEq, Int.reduceNe, Nat.reduceMul, Nat.reduceSub]
                exact ⟨d - 1, by omega, i + 1, eo, by omega, by simp, hb⟩
            · simp (disch := first | assumption | omega) only [e18, e0, e1, e7, e5, b5, h2, z2, go_sem, ↓reduceIte, Nat.reduceEqDiff, reduceCtorEq, Nat.reduceAdd, Nat.reduceLeDiff, Nat.reduceLT, reduceIte, Int.reduceBEq, Int.reduceBNe, Int.reduceLT, Int.reduceLE, Int.reduceAdd, Int.reduceSub, Int.reduceMul, Int.reduceNeg, Int.reduceEq, Int.reduceNe, Nat.reduceMul, Nat.reduceSub]
              exact ⟨d - 1, by omega, i + 1, eo, by omega, by simp, hb⟩
      · simp (disch := first | assumption | omega) only [e18, e0, e1, e7, e5, b5, h2, c2, go_sem, ↓reduceIte, Nat.reduceEqDiff, reduceCtorEq, Nat.reduceAdd, Nat.reduceLeDiff, Nat.reduceLT, reduceIte, Int.reduceBEq, Int.reduceBNe, Int.reduceLT, Int.reduceLE, Int.reduceAdd, Int.reduceSub, Int.reduceMul, Int.reduceNeg, Int.reduceEq, Int.reduceNe, Nat.reduceMul, Nat.reduceSub]
        by_cases z1 : (i : Int) = self
        · simp (disch := first | assumption | omega) only [e18, e0, e1, e7, e5, b5, h2, eq_true z1, go_sem, ↓reduceIte, Nat.reduceEqDiff, reduceCtorEq, Nat.reduceAdd, Nat.reduceLeDiff, Nat.reduceLT, reduceIte, Int.reduceBEq, Int.reduceBNe, Int.reduceLT, Int.reduceLE, Int.reduceAdd, Int.reduceSub, Int.reduceMul, Int.reduceNeg, Int.reduceEq, Int.reduceNe, Nat.reduceMul, Nat.reduceSub]
          exact ⟨d - 1, by omega, i + 1, eo, by omega, by simp, hb⟩
        · simp (disch := first | assumption | omega) only [e18, e0, e1, e7, e5, b5, h2, z1, go_sem, ↓reduceIte, Nat.reduceEqDiff, reduceCtorEq, Nat.reduceAdd, Nat.reduceLeDiff, Nat.reduceLT, reduceIte, Int.reduceBEq, Int.reduceBNe, Int.reduceLT, Int.reduceLE, Int.reduceAdd, Int.reduceSub, Int.reduceMul, Int.reduceNeg, Int.reduceEq, Int.reduceNe, Nat.reduceMul, Nat.reduceSub]
          refine callG_ok (MsgFault_ok q ⟨x.Kind, x.From, i, x.Seq, x.Clock, x.Cells⟩ hq1 hl _) (by simp (disch := first | assumption | omega) only [msgA, msgC, go_sem, ↓reduceIte, Nat.reduceEqDiff, reduceCtorEq, Nat.reduceAdd, Nat.reduceLeDiff, Nat.reduceLT, reduceIte, Int.reduceBEq, Int.reduceBNe, Int.reduceLT, Int.reduceLE, Int.reduceAdd, Int.reduceSub, Int.reduceMul, Int.reduceNeg, Int.reduceEq, Int.reduceNe, Nat.reduceMul, Nat.reduceSub]) ?_
          rintro _ _ ⟨rfl, hhh⟩
          rw [hhh]
          clear hhh
          by_cases z2 : msgFault ⟨x.Kind, x.From, i, x.Seq, x.Clock, x.Cells⟩ = 0
          · simp (disch := first | assumption | omega) only [e18, e0, e1, e7, e5, b5, h2, z2, go_sem, ↓reduceIte, Nat.reduceEqDiff, reduceCtorEq, Nat.reduceAdd, Nat.reduceLeDiff, Nat.reduceLT, reduceIte, Int.reduceBEq, Int.reduceBNe, Int.reduceLT, Int.reduceLE, Int.reduceAdd, Int.reduceSub, Int.reduceMul, Int.reduceNeg, Int.reduceEq, Int.reduceNe, Nat.reduceMul, Nat.reduceSub]
            refine callG_ok (CellsFault_ok q x.Cells hq1 hl _) (by simp (disch := first | assumption | omega) only [go_sem, ↓reduceIte, Nat.reduceEqDiff, reduceCtorEq, Nat.reduceAdd, Nat.reduceLeDiff, Nat.reduceLT, reduceIte, Int.reduceBEq, Int.reduceBNe, Int.reduceLT, Int.reduceLE, Int.reduceAdd, Int.reduceSub, Int.reduceMul, Int.reduceNeg, Int.reduceEq, Int.reduceNe, Nat.reduceMul, Nat.reduceSub]) ?_
            rintro _ _ ⟨rfl, hhh⟩
            rw [hhh]
            clear hhh
            by_cases z3 : cellsFault x.Cells = 0
            · have zc := checkF_of (m := ⟨x.Kind, x.From, i, x.Seq, x.Clock, x.Cells⟩) z2 z3
              simp (disch := first | assumption | omega) only [e18, e0, e1, e7, e5, b5, h2, z3, go_sem, ↓reduceIte, Nat.reduceEqDiff, reduceCtorEq, Nat.reduceAdd, Nat.reduceLeDiff, Nat.reduceLT, reduceIte, Int.reduceBEq, Int.reduceBNe, Int.reduceLT, Int.reduceLE, Int.reduceAdd, Int.reduceSub, Int.reduceMul, Int.reduceNeg, Int.reduceEq, Int.reduceNe, Nat.reduceMul, Nat.reduceSub]
              refine callG_ok (In_ok e eo self other s n q ⟨x.Kind, x.From, i, x.Seq, x.Clock, x.Cells⟩ _ hb.er hs hn hq hl) (by simp (disch := first | assumption | omega) only [msgA, msgC, go_sem, ↓reduceIte, Nat.reduceEqDiff, reduceCtorEq, Nat.reduceAdd, Nat.reduceLeDiff, Nat.reduceLT, reduceIte, Int.reduceBEq, Int.reduceBNe, Int.reduceLT, Int.reduceLE, Int.reduceAdd, Int.reduceSub, Int.reduceMul, Int.reduceNeg, Int.reduceEq, Int.reduceNe, Nat.reduceMul, Nat.reduceSub]) ?_
              rintro _ hz ⟨rfl, hzq⟩
              rw [inE_wrong zc (.inr z1)]
              rw [inS_wrong zc (.inr z1)] at hzq
              obtain ⟨eoz, hbz⟩ := hb.endQ hzq
              simp (disch := first | assumption | omega) only [e18, e0, e1, e7, e5, b5, h2, go_sem, ↓reduceIte, Nat.reduceEqDiff, reduceCtorEq, Nat.reduceAdd, Nat.reduceLeDiff, Nat.reduceLT, reduceIte, Int.reduceBEq, Int.reduceBNe, Int.reduceLT, Int.reduceLE, Int.reduceAdd, Int.reduceSub, Int.reduceMul, Int.reduceNeg, Int.reduceEq, Int.reduceNe, Nat.reduceMul, Nat.reduceSub]
              exact ⟨d - 1, by omega, i + 1, eoz, by omega, by simp, hbz⟩
            · simp (disch := first | assumption | omega) only [e18, e0, e1, e7, e5, b5, h2, z3, go_sem, ↓reduceIte, Nat.reduceEqDiff, reduceCtorEq, Nat.reduceAdd, Nat.reduceLeDiff, Nat.reduceLT, reduceIte, Int.reduceBEq, Int.reduceBNe, Int.reduceLT, Int.reduceLE, Int.reduceAdd, Int.reduceSub, Int.reduceMul, Int.reduceNeg, Int.reduceEq, Int.reduceNe, Nat.reduceMul, Nat.reduceSub]
              exact ⟨d - 1, by omega, i + 1, eo, by omega, by simp, hb⟩
          · simp (disch := first | assumption | omega) only [e18, e0, e1, e7, e5, b5, h2, z2, go_sem, ↓reduceIte, Nat.reduceEqDiff, reduceCtorEq, Nat.reduceAdd, Nat.reduceLeDiff, Nat.reduceLT, reduceIte, Int.reduceBEq, Int.reduceBNe, Int.reduceLT, Int.reduceLE, Int.reduceAdd, Int.reduceSub, Int.reduceMul, Int.reduceNeg, Int.reduceEq, Int.reduceNe, Nat.reduceMul, Nat.reduceSub]
            exact ⟨d - 1, by omega, i + 1, eo, by omega, by simp, hb⟩
  · have hft : ¬(x.From ≠ other ∨ x.To ≠ self) := by simp [hxf, hxt]
    by_cases hc : checkF x = 0
    case neg =>
      have e1' : inE s self other x = checkF x := by unfold inE; rw [if_pos hc]
      have e2' : inS s self other x = s := by unfold inS; rw [if_pos (by rw [e1']; exact hc)]
      simp (disch := first | assumption | omega) only [e18, e0, e1, e7, e5, b5, h2, hlt, hc, go_sem, ↓reduceIte, Nat.reduceEqDiff, reduceCtorEq, Nat.reduceAdd, Nat.reduceLeDiff, Nat.reduceLT, reduceIte, Int.reduceBEq, Int.reduceBNe, Int.reduceLT, Int.reduceLE, Int.reduceAdd, Int.reduceSub, Int.reduceMul, Int.reduceNeg, Int.reduceEq, Int.reduceNe, Nat.reduceMul, Nat.reduceSub]
      refine callG_ok (In_ok e eo self other s n q x _ hb.er hs hn hq hl) (by simp (disch := first | assumption | omega) only [msgA, msgC, go_sem, ↓reduceIte, Nat.reduceEqDiff, reduceCtorEq, Nat.reduceAdd, Nat.reduceLeDiff, Nat.reduceLT, reduceIte, Int.reduceBEq, Int.reduceBNe, Int.reduceLT, Int.reduceLE, Int.reduceAdd, Int.reduceSub, Int.reduceMul, Int.reduceNeg, Int.reduceEq, Int.reduceNe, Nat.reduceMul, Nat.reduceSub]) ?_
      rintro _ hz ⟨rfl, hzq⟩
      obtain ⟨eoz, hbz⟩ := hb.endQ hzq
      rw [e1']
      simp (disch := first | assumption | omega) only [e7, e7, go_sem, ↓reduceIte, Nat.reduceEqDiff, reduceCtorEq, Nat.reduceAdd, Nat.reduceLeDiff, Nat.reduceLT, reduceIte, Int.reduceBEq, Int.reduceBNe, Int.reduceLT, Int.reduceLE, Int.reduceAdd, Int.reduceSub, Int.reduceMul, Int.reduceNeg, Int.reduceEq, Int.reduceNe, Nat.reduceMul, Nat.reduceSub]
      subst hQ
      simp (disch := first | assumption | omega) only [R.gantlaw5_half_in, go_sem, ↓reduceIte, Nat.reduceEqDiff, reduceCtorEq, Nat.reduceAdd, Nat.reduceLeDiff, Nat.reduceLT, reduceIte, Int.reduceBEq, Int.reduceBNe, Int.reduceLT, Int.reduceLE, Int.reduceAdd, Int.reduceSub, Int.reduceMul, Int.reduceNeg, Int.reduceEq, Int.reduceNe, Nat.reduceMul, Nat.reduceSub]
      exact ⟨eoz, ow, ol, by rw [e2'] at hbz ⊢; exact hbz⟩
    by_cases hk : x.Kind = 3
    · by_cases ho : s.next < x.Seq
      · have e1' : inE s self other x = 9 := by unfold inE; rw [if_neg (by simp [hc]), if_neg hft, if_pos ⟨hk, ho⟩]
        have e2' : inS s self other x = s := by unfold inS; rw [if_pos (by rw [e1']; decide)]
        simp (disch := first | assumption | omega) only [e18, e0, e1, e7, e5, b5, h2, hlt, hc, eq_true hk, ho, go_sem, ↓reduceIte, Nat.reduceEqDiff, reduceCtorEq, Nat.reduceAdd, Nat.reduceLeDiff, Nat.reduceLT, reduceIte, Int.reduceBEq, Int.reduceBNe, Int.reduceLT, Int.reduceLE, Int.reduceAdd, Int.reduceSub, Int.reduceMul, Int.reduceNeg, Int.reduceEq, Int.reduceNe, Nat.reduceMul, Nat.reduceSub]
        refine callG_ok (In_ok e eo self other s n q x _ hb.er hs hn hq hl) (by simp (disch := first | assumption | omega) only [msgA, msgC, go_sem, ↓reduceIte, Nat.reduceEqDiff, reduceCtorEq, Nat.reduceAdd, Nat.reduceLeDiff, Nat.reduceLT, reduceIte, Int.reduceBEq, Int.reduceBNe, Int.reduceLT, Int.reduceLE, Int.reduceAdd, Int.reduceSub, Int.reduceMul, Int.reduceNeg, Int.reduceEq, Int.reduceNe, Nat.reduceMul, Nat.reduceSub]) ?_
        rintro _ hz ⟨rfl, hzq⟩
        obtain ⟨eoz, hbz⟩ := hb.endQ hzq
        rw [e1']
        simp (disch := first | assumption | omega) only [e7, e7, go_sem, ↓reduceIte, Nat.reduceEqDiff, reduceCtorEq, Nat.reduceAdd, Nat.reduceLeDiff, Nat.reduceLT, reduceIte, Int.reduceBEq, Int.reduceBNe, Int.reduceLT, Int.reduceLE, Int.reduceAdd, Int.reduceSub, Int.reduceMul, Int.reduceNeg, Int.reduceEq, Int.reduceNe, Nat.reduceMul, Nat.reduceSub]
        subst hQ
        simp (disch := first | assumption | omega) only [R.gantlaw5_half_in, go_sem, ↓reduceIte, Nat.reduceEqDiff, reduceCtorEq, Nat.reduceAdd, Nat.reduceLeDiff, Nat.reduceLT, reduceIte, Int.reduceBEq, Int.reduceBNe, Int.reduceLT, Int.reduceLE, Int.reduceAdd, Int.reduceSub, Int.reduceMul, Int.reduceNeg, Int.reduceEq, Int.reduceNe, Nat.reduceMul, Nat.reduceSub]
        exact ⟨eoz, ow, ol, by rw [e2'] at hbz ⊢; exact hbz⟩
      · have e1' : inE s self other x = 0 := by unfold inE; rw [if_neg (by simp [hc]), if_neg hft, if_neg (fun h => ho h.2)]
        have e2' : inS s self other x = { s with wait := cutW x.Seq s.wait } := by unfold inS; rw [if_neg (by simp [e1']), if_pos hk]
        simp (disch := first | assumption | omega) only [e18, e0, e1, e7, e5, b5, h2, hlt, hc, eq_true hk, ho, go_sem, ↓reduceIte, Nat.reduceEqDiff, reduceCtorEq, Nat.reduceAdd, Nat.reduceLeDiff, Nat.reduceLT, reduceIte, Int.reduceBEq, Int.reduceBNe, Int.reduceLT, Int.reduceLE, Int.reduceAdd, Int.reduceSub, Int.reduceMul, Int.reduceNeg, Int.reduceEq, Int.reduceNe, Nat.reduceMul, Nat.reduceSub]
        refine aw_count (fun d S => ∃ (Wr : List (Msg × Int)), Wr.length = d ∧ cutW x.Seq Wr = cutW x.Seq s.wait ∧ S.env 0 = .hp m 0 ∧ S.env 1 = .hp e 0 ∧ S.env 7 = .int .i64 (checkF x) ∧ S.env 5 = .box 5 0 ∧ S.boxes 5 = some [.int .i64 x.Kind, .int .i64 x.From, .int .i64 x.To, .int .i64 x.Seq, .int .u32 x.Clock, .lst q (cellsA x.Cells)] ∧ Both S.heap e eo m ow ol self other s { s with wait := Wr }) (n := s.wait.length)
          ⟨s.wait, rfl, rfl, by simp (disch := first | assumption | omega) only [e0, go_sem, ↓reduceIte, Nat.reduceEqDiff, reduceCtorEq, Nat.reduceAdd, Nat.reduceLeDiff, Nat.reduceLT, reduceIte, Int.reduceBEq, Int.reduceBNe, Int.reduceLT, Int.reduceLE, Int.reduceAdd, Int.reduceSub, Int.reduceMul, Int.reduceNeg, Int.reduceEq, Int.reduceNe, Nat.reduceMul, Nat.reduceSub], by simp (disch := first | assumption | omega) only [e1, go_sem, ↓reduceIte, Nat.reduceEqDiff, reduceCtorEq, Nat.reduceAdd, Nat.reduceLeDiff, Nat.reduceLT, reduceIte, Int.reduceBEq, Int.reduceBNe, Int.reduceLT, Int.reduceLE, Int.reduceAdd, Int.reduceSub, Int.reduceMul, Int.reduceNeg, Int.reduceEq, Int.reduceNe, Nat.reduceMul, Nat.reduceSub], by simp (disch := first | assumption | omega) only [e7, go_sem, ↓reduceIte, Nat.reduceEqDiff, reduceCtorEq, Nat.reduceAdd, Nat.reduceLeDiff, Nat.reduceLT, reduceIte, Int.reduceBEq, Int.reduceBNe, Int.reduceLT, Int.reduceLE, Int.reduceAdd, Int.reduceSub, Int.reduceMul, Int.reduceNeg, Int.reduceEq, Int.reduceNe, Nat.reduceMul, Nat.reduceSub], by simp (disch := first | assumption | omega) only [e5, go_sem, ↓reduceIte, Nat.reduceEqDiff, reduceCtorEq, Nat.reduceAdd, Nat.reduceLeDiff, Nat.reduceLT, reduceIte, Int.reduceBEq, Int.reduceBNe, Int.reduceLT, Int.reduceLE, Int.reduceAdd, Int.reduceSub, Int.reduceMul, Int.reduceNeg, Int.reduceEq, Int.reduceNe, Nat.reduceMul, Nat.reduceSub], by simp (disch := first | assumption | omega) only [b5, go_sem, ↓reduceIte, Nat.reduceEqDiff, reduceCtorEq, Nat.reduceAdd, Nat.reduceLeDiff, Nat.reduceLT, reduceIte, Int.reduceBEq, Int.reduceBNe, Int.reduceLT, Int.reduceLE, Int.reduceAdd, Int.reduceSub, Int.reduceMul, Int.reduceNeg, Int.reduceEq, Int.reduceNe, Nat.reduceMul, Nat.reduceSub], by simp (disch := first | assumption | omega) only [go_sem, ↓reduceIte, Nat.reduceEqDiff, reduceCtorEq, Nat.reduceAdd, Nat.reduceLeDiff, Nat.reduceLT, reduceIte, Int.reduceBEq, Int.reduceBNe, Int.reduceLT, Int.reduceLE, Int.reduceAdd, Int.reduceSub, Int.reduceMul, Int.reduceNeg, Int.reduceEq, Int.reduceNe, Nat.reduceMul, Nat.reduceSub]; exact hb⟩ ?_
        clear hb e18 e0 e1 e7 e5 b5 h2 h3 h4 h5 h6 h7 hid
        rintro d S ⟨Wr, hWd, hcut, e0, e1, e7, e5, b5, hb⟩
        obtain ⟨w, l, g, L, h2, h3, h4, h5, h6, h7⟩ := hb.get
        simp only at h2 h4 h6 h7
        cases Wr with
        | nil =>
          have hfin : ∀ eoz hz, Both hz e eoz m ow ol self other (inS s self other x) { s with wait := [] } → Both hz e eoz m ow ol self other (inS s self other x) (inS s self other x) := fun eoz hz h => by
            have : ({ s with wait := [] } : Lk) = inS s self other x := by rw [e2', ← hcut]; rfl
            rwa [this] at h
          have hL0 : L = [] := by simpa using h4
          have hww : w = .lst .nil [] ∨ ∃ id off cap, w = .ref id off 0 cap := by
            rcases h3.cases with ⟨h, _⟩ | ⟨id, off, cap, h, _⟩
            · exact .inl h
            · rw [hL0] at h; exact .inr ⟨_, _, _, h⟩
          rcases hww with rfl | ⟨wid, woff, wcap, rfl⟩
          · simp (disch := first | assumption | omega) only [e0, e1, e7, e5, b5, h2, hc, go_sem, ↓reduceIte, Nat.reduceEqDiff, reduceCtorEq, Nat.reduceAdd, Nat.reduceLeDiff, Nat.reduceLT, reduceIte, Int.reduceBEq, Int.reduceBNe, Int.reduceLT, Int.reduceLE, Int.reduceAdd, Int.reduceSub, Int.reduceMul, Int.reduceNeg, Int.reduceEq, Int.reduceNe, Nat.reduceMul, Nat.reduceSub]
            refine callG_ok (In_ok e eo self other s n q x _ hb.er hs hn hq hl) (by simp (disch := first | assumption | omega) only [msgA, msgC, go_sem, ↓reduceIte, Nat.reduceEqDiff, reduceCtorEq, Nat.reduceAdd, Nat.reduceLeDiff, Nat.reduceLT, reduceIte, Int.reduceBEq, Int.reduceBNe, Int.reduceLT, Int.reduceLE, Int.reduceAdd, Int.reduceSub, Int.reduceMul, Int.reduceNeg, Int.reduceEq, Int.reduceNe, Nat.reduceMul, Nat.reduceSub]) ?_
            rintro _ hz ⟨rfl, hzq⟩
            obtain ⟨eoz, hbz⟩ := hb.endQ hzq
            rw [e1']
            simp (disch := first | assumption | omega) only [e7, e7, hc, go_sem, ↓reduceIte, Nat.reduceEqDiff, reduceCtorEq, Nat.reduceAdd, Nat.reduceLeDiff, Nat.reduceLT, reduceIte, Int.reduceBEq, Int.reduceBNe, Int.reduceLT, Int.reduceLE, Int.reduceAdd, Int.reduceSub, Int.reduceMul, Int.reduceNeg, Int.reduceEq, Int.reduceNe, Nat.reduceMul, Nat.reduceSub]
            subst hQ
            simp (disch := first | assumption | omega) only [R.gantlaw5_half_in, go_sem, ↓reduceIte, Nat.reduceEqDiff, reduceCtorEq, Nat.reduceAdd, Nat.reduceLeDiff, Nat.reduceLT, reduceIte, Int.reduceBEq, Int.reduceBNe, Int.reduceLT, Int.reduceLE, Int.reduceAdd, Int.reduceSub, Int.reduceMul, Int.reduceNeg, Int.reduceEq, Int.reduceNe, Nat.reduceMul, Nat.reduceSub]
            exact ⟨eoz, ow, ol, hfin _ _ hbz⟩
          · simp (disch := first | assumption | omega) only [e0, e1, e7, e5, b5, h2, hc, go_sem, ↓reduceIte, Nat.reduceEqDiff, reduceCtorEq, Nat.reduceAdd, Nat.reduceLeDiff, Nat.reduceLT, reduceIte, Int.reduceBEq, Int.reduceBNe, Int.reduceLT, Int.reduceLE, Int.reduceAdd, Int.reduceSub, Int.reduceMul, Int.reduceNeg, Int.reduceEq, Int.reduceNe, Nat.reduceMul, Nat.reduceSub]
            refine callG_ok (In_ok e eo self other s n q x _ hb.er hs hn hq hl) (by simp (disch := first | assumption | omega) only [msgA, msgC, go_sem, ↓reduceIte, Nat.reduceEqDiff, reduceCtorEq, Nat.reduceAdd, Nat.reduceLeDiff, Nat.reduceLT, reduceIte, Int.reduceBEq, Int.reduceBNe, Int.reduceLT, Int.reduceLE, Int.reduceAdd, Int.reduceSub, Int.reduceMul, Int.reduceNeg, Int.reduceEq, Int.reduceNe, Nat.reduceMul, Nat.reduceSub]) ?_
            rintro _ hz ⟨rfl, hzq⟩
            obtain ⟨eoz, hbz⟩ := hb.endQ hzq
            rw [e1']
            simp (disch := first | assumption | omega) only [e7, e7, hc, go_sem, ↓reduceIte, Nat.reduceEqDiff, reduceCtorEq, Nat.reduceAdd, Nat.reduceLeDiff, Nat.reduceLT, reduceIte, Int.reduceBEq, Int.reduceBNe, Int.reduceLT, Int.reduceLE, Int.reduceAdd, Int.reduceSub, Int.reduceMul, Int.reduceNeg, Int.reduceEq, Int.reduceNe, Nat.reduceMul, Nat.reduceSub]
            subst hQ
            simp (disch := first | assumption | omega) only [R.gantlaw5_half_in, go_sem, ↓reduceIte, Nat.reduceEqDiff, reduceCtorEq, Nat.reduceAdd, Nat.reduceLeDiff, Nat.reduceLT, reduceIte, Int.reduceBEq, Int.reduceBNe, Int.reduceLT, Int.reduceLE, Int.reduceAdd, Int.reduceSub, Int.reduceMul, Int.reduceNeg, Int.reduceEq, Int.reduceNe, Nat.reduceMul, Nat.reduceSub]
            exact ⟨eoz, ow, ol, hfin _ _ hbz⟩
        | cons p Wr =>
          cases L with
          | nil => simp at h4
          | cons a L =>
            simp only [List.map_cons, List.cons.injEq] at h4
            rcases h3.cases with ⟨_, hh⟩ | ⟨wid, woff, wcap, rfl, wcp, wi, wsr⟩
            · cases hh
            rcases h6.cases with ⟨_, hh⟩ | ⟨lid, loff, lcap, rfl, lcp, li, lsr⟩
            · cases hh
            simp only [List.length_cons, List.map_cons, List.length_map] at wcp lcp hWd
            obtain ⟨cw, c1, c2, c3, c4, c5⟩ := wsr.get mgC_len (by simp)
            have hx := getD_of_take (c4 0 (by simp) 3 1 (by omega))
            simp only [Nat.zero_mul, Nat.add_zero, List.getElem_cons_zero] at hx
            simp only [List.length_cons] at c2
            have hx3 : cw.getD (woff + 3) .junk = .int .i64 p.1.Seq := by rw [hx, ← h4.1]; rfl
            have hp0 : (0 : Int) < ((L.length + 1 : Nat) : Int) := by omega
            have wt := (wsr.tail mgC_len).1
            have lt := (lsr.tail inC_len).1
            by_cases hlt : p.1.Seq < x.Seq
            · have hB2 : Both (S.heap.set m (halfC self other { s with wait := Wr } (.ref wid (woff + 6) (L.length + 1 - 1) (wcap - 1)) (.ref lid (loff + 1) (Wr.length + 1 - 1) (lcap - 1)) g)) e eo m ow ol self other s { s with wait := Wr } :=
                hb.cells (L := L) ⟨wid, wt, .inr wi⟩ h4.2 (fun y hy => h5 y (by simp [hy])) ⟨lid, by simpa using lt, .inr li⟩ h7
              unfold halfC at hB2
              simp only at hB2
              simp (disch := first | assumption | omega) only [e0, e1, e7, e5, b5, h2, hc, c1, hx3, hlt, hp0, get_set h2, List.set_set, List.length_map, go_sem, ↓reduceIte, Nat.reduceEqDiff, reduceCtorEq, Nat.reduceAdd, Nat.reduceLeDiff, Nat.reduceLT, reduceIte, Int.reduceBEq, Int.reduceBNe, Int.reduceLT, Int.reduceLE, Int.reduceAdd, Int.reduceSub, Int.reduceMul, Int.reduceNeg, Int.reduceEq, Int.reduceNe, Nat.reduceMul, Nat.reduceSub]
              exact ⟨by omega, ⟨by omega, by omega⟩, ⟨by omega, by omega⟩, Wr.length, by omega, Wr, rfl, by rw [← hcut, cutW, if_pos hlt], hB2⟩
            · have hfin : ∀ eoz hz, Both hz e eoz m ow ol self other (inS s self other x) { s with wait := p :: Wr } → Both hz e eoz m ow ol self other (inS s self other x) (inS s self other x) := fun eoz hz h => by
                have : ({ s with wait := p :: Wr } : Lk) = inS s self other x := by rw [e2', ← hcut, cutW, if_neg hlt]
                rwa [this] at h
              simp (disch := first | assumption | omega) only [e0, e1, e7, e5, b5, h2, hc, c1, hx3, hlt, hp0, go_sem, ↓reduceIte, Nat.reduceEqDiff, reduceCtorEq, Nat.reduceAdd, Nat.reduceLeDiff, Nat.reduceLT, reduceIte, Int.reduceBEq, Int.reduceBNe, Int.reduceLT, Int.reduceLE, Int.reduceAdd, Int.reduceSub, Int.reduceMul, Int.reduceNeg, Int.reduceEq, Int.reduceNe, Nat.reduceMul, Nat.reduceSub]
              refine ⟨by omega, ?_⟩
              refine callG_ok (In_ok e eo self other s n q x _ hb.er hs hn hq hl) (by simp (disch := first | assumption | omega) only [msgA, msgC, go_sem, ↓reduceIte, Nat.reduceEqDiff, reduceCtorEq, Nat.reduceAdd, Nat.reduceLeDiff, Nat.reduceLT, reduceIte, Int.reduceBEq, Int.reduceBNe, Int.reduceLT, Int.reduceLE, Int.reduceAdd, Int.reduceSub, Int.reduceMul, Int.reduceNeg, Int.reduceEq, Int.reduceNe, Nat.reduceMul, Nat.reduceSub]) ?_
              rintro _ hz ⟨rfl, hzq⟩
              obtain ⟨eoz, hbz⟩ := hb.endQ hzq
              rw [e1']
              simp (disch := first | assumption | omega) only [e7, e7, hc, go_sem, ↓reduceIte, Nat.reduceEqDiff, reduceCtorEq, Nat.reduceAdd, Nat.reduceLeDiff, Nat.reduceLT, reduceIte, Int.reduceBEq, Int.reduceBNe, Int.reduceLT, Int.reduceLE, Int.reduceAdd, Int.reduceSub, Int.reduceMul, Int.reduceNeg, Int.reduceEq, Int.reduceNe, Nat.reduceMul, Nat.reduceSub]
              subst hQ
              simp (disch := first | assumption | omega) only [R.gantlaw5_half_in, go_sem, ↓reduceIte, Nat.reduceEqDiff, reduceCtorEq, Nat.reduceAdd, Nat.reduceLeDiff, Nat.reduceLT, reduceIte, Int.reduceBEq, Int.reduceBNe, Int.reduceLT, Int.reduceLE, Int.reduceAdd, Int.reduceSub, Int.reduceMul, Int.reduceNeg, Int.reduceEq, Int.reduceNe, Nat.reduceMul, Nat.reduceSub]
              exact ⟨eoz, ow, ol, hfin _ _ hbz⟩
    · have e1' : inE s self other x = 0 := by unfold inE; rw [if_neg (by simp [hc]), if_neg hft, if_neg (fun h => hk h.1)]
      have hm4 := checkF_len hc
      by_cases hw : x.Seq = s.want
      · have e2' : inS s self other x = { s with owes := true, want := s.want + 1, got := s.got ++ [x] } := by unfold inS; rw [if_neg (by simp [e1']), if_neg hk, if_pos hw]
        have hw0 := hs.want0
        have hw1 := hs.want1
        have hgl := hs.got
        have hww : IntKind.i64.wrap (s.want + 1) = s.want + 1 := wrapI64 (by omega) (by omega)
        have hmx : MsgOk x (.agg [.int .i64 x.Kind, .int .i64 x.From, .int .i64 x.To, .int .i64 x.Seq, .int .u32 x.Clock, .lst q (cellsA x.Cells)]) := ⟨q, hq, by unfold reachBytes; omega, rfl⟩
        obtain ⟨xs, hx1, hx2, hx3⟩ := h7.push hmx
        have hB2 : Both (S.heap.set m (halfC self other (inS s self other x) w l (.lst (.app 6) (xs ++ [.agg [.int .i64 x.Kind, .int .i64 x.From, .int .i64 x.To, .int .i64 x.Seq, .int .u32 x.Clock, .lst q (cellsA x.Cells)]])))) e eo m ow ol self other s (inS s self other x) := by
          refine hb.cells h3 ?_ h5 ?_ ?_
          · rw [e2']; exact h4
          · rw [e2']; exact h6
          · rw [e2']; exact .inr ⟨_, rfl, hx1⟩
        have hB3 := hB2
        rw [e2'] at hB3
        unfold halfC at hB3
        simp only at hB3
        rw [← e2'] at hB3
        rcases hx2 with ⟨rfl, rfl⟩ | rfl
        · simp (disch := first | assumption | omega) only [e18, e0, e1, e7, e5, b5, h2, hlt, hc, hk, get_set h2, eq_true hw, hww, List.set_set, go_sem, ↓reduceIte, Nat.reduceEqDiff, reduceCtorEq, Nat.reduceAdd, Nat.reduceLeDiff, Nat.reduceLT, reduceIte, Int.reduceBEq, Int.reduceBNe, Int.reduceLT, Int.reduceLE, Int.reduceAdd, Int.reduceSub, Int.reduceMul, Int.reduceNeg, Int.reduceEq, Int.reduceNe, Nat.reduceMul, Nat.reduceSub]
          simp only [List.nil_append] at hB3
          refine callG_ok (In_ok e eo self other s n q x _ hB3.er hs hn hq hl) (by simp (disch := first | assumption | omega) only [msgA, msgC, go_sem, ↓reduceIte, Nat.reduceEqDiff, reduceCtorEq, Nat.reduceAdd, Nat.reduceLeDiff, Nat.reduceLT, reduceIte, Int.reduceBEq, Int.reduceBNe, Int.reduceLT, Int.reduceLE, Int.reduceAdd, Int.reduceSub, Int.reduceMul, Int.reduceNeg, Int.reduceEq, Int.reduceNe, Nat.reduceMul, Nat.reduceSub]) ?_
          rintro _ hz ⟨rfl, hzq⟩
          obtain ⟨eoz, hbz⟩ := hB3.endQ hzq
          rw [e1']
          simp (disch := first | assumption | omega) only [e7, hc, go_sem, ↓reduceIte, Nat.reduceEqDiff, reduceCtorEq, Nat.reduceAdd, Nat.reduceLeDiff, Nat.reduceLT, reduceIte, Int.reduceBEq, Int.reduceBNe, Int.reduceLT, Int.reduceLE, Int.reduceAdd, Int.reduceSub, Int.reduceMul, Int.reduceNeg, Int.reduceEq, Int.reduceNe, Nat.reduceMul, Nat.reduceSub]
          subst hQ
          simp (disch := first | assumption | omega) only [R.gantlaw5_half_in, go_sem, ↓reduceIte, Nat.reduceEqDiff, reduceCtorEq, Nat.reduceAdd, Nat.reduceLeDiff, Nat.reduceLT, reduceIte, Int.reduceBEq, Int.reduceBNe, Int.reduceLT, Int.reduceLE, Int.reduceAdd, Int.reduceSub, Int.reduceMul, Int.reduceNeg, Int.reduceEq, Int.reduceNe, Nat.reduceMul, Nat.reduceSub]
          exact ⟨eoz, ow, ol, hbz⟩
        · simp (disch := first | assumption | omega) only [e18, e0, e1, e7, e5, b5, h2, hlt, hc, hk, get_set h2, eq_true hw, hww, List.set_set, go_sem, ↓reduceIte, Nat.reduceEqDiff, reduceCtorEq, Nat.reduceAdd, Nat.reduceLeDiff, Nat.reduceLT, reduceIte, Int.reduceBEq, Int.reduceBNe, Int.reduceLT, Int.reduceLE, Int.reduceAdd, Int.reduceSub, Int.reduceMul, Int.reduceNeg, Int.reduceEq, Int.reduceNe, Nat.reduceMul, Nat.reduceSub]
          refine ⟨by omega, by omega, ?_⟩
          refine callG_ok (In_ok e eo self other s n q x _ hB3.er hs hn hq hl) (by simp (disch := first | assumption | omega) only [msgA, msgC, go_sem, ↓reduceIte, Nat.reduceEqDiff, reduceCtorEq, Nat.reduceAdd, Nat.reduceLeDiff, Nat.reduceLT, reduceIte, Int.reduceBEq, Int.reduceBNe, Int.reduceLT, Int.reduceLE, Int.reduceAdd, Int.reduceSub, Int.reduceMul, Int.reduceNeg, Int.reduceEq, Int.reduceNe, Nat.reduceMul, Nat.reduceSub]) ?_
          rintro _ hz ⟨rfl, hzq⟩
          obtain ⟨eoz, hbz⟩ := hB3.endQ hzq
          rw [e1']
          simp (disch := first | assumption | omega) only [e7, hc, go_sem, ↓reduceIte, Nat.reduceEqDiff, reduceCtorEq, Nat.reduceAdd, Nat.reduceLeDiff, Nat.reduceLT, reduceIte, Int.reduceBEq, Int.reduceBNe, Int.reduceLT, Int.reduceLE, Int.reduceAdd, Int.reduceSub, Int.reduceMul, Int.reduceNeg, Int.reduceEq, Int.reduceNe, Nat.reduceMul, Nat.reduceSub]
          subst hQ
          simp (disch := first | assumption | omega) only [R.gantlaw5_half_in, go_sem, ↓reduceIte, Nat.reduceEqDiff, reduceCtorEq, Nat.reduceAdd, Nat.reduceLeDiff, Nat.reduceLT, reduceIte, Int.reduceBEq, Int.reduceBNe, Int.reduceLT, Int.reduceLE, Int.reduceAdd, Int.reduceSub, Int.reduceMul, Int.reduceNeg, Int.reduceEq, Int.reduceNe, Nat.reduceMul, Nat.reduceSub]
          exact ⟨eoz, ow, ol, hbz⟩
      · have e2' : inS s self other x = { s with owes := true } := by unfold inS; rw [if_neg (by simp [e1']), if_neg hk, if_neg hw]
        have hB2 : Both (S.heap.set m (halfC self other { s with owes := true } w l g)) e eo m ow ol self other s { s with owes := true } := hb.cells h3 h4 h5 h6 h7
        unfold halfC at hB2
        simp only at hB2
        simp (disch := first | assumption | omega) only [e18, e0, e1, e7, e5, b5, h2, hlt, hc, hk, get_set h2, hw, go_sem, ↓reduceIte, Nat.reduceEqDiff, reduceCtorEq, Nat.reduceAdd, Nat.reduceLeDiff, Nat.reduceLT, reduceIte, Int.reduceBEq, Int.reduceBNe, Int.reduceLT, Int.reduceLE, Int.reduceAdd, Int.reduceSub, Int.reduceMul, Int.reduceNeg, Int.reduceEq, Int.reduceNe, Nat.reduceMul, Nat.reduceSub]
        refine callG_ok (In_ok e eo self other s n q x _ hB2.er hs hn hq hl) (by simp (disch := first | assumption | omega) only [msgA, msgC, go_sem, ↓reduceIte, Nat.reduceEqDiff, reduceCtorEq, Nat.reduceAdd, Nat.reduceLeDiff, Nat.reduceLT, reduceIte, Int.reduceBEq, Int.reduceBNe, Int.reduceLT, Int.reduceLE, Int.reduceAdd, Int.reduceSub, Int.reduceMul, Int.reduceNeg, Int.reduceEq, Int.reduceNe, Nat.reduceMul, Nat.reduceSub]) ?_
        rintro _ hz ⟨rfl, hzq⟩
        obtain ⟨eoz, hbz⟩ := hB2.endQ hzq
        rw [e1']
        simp (disch := first | assumption | omega) only [e7, e7, hc, go_sem, ↓reduceIte, Nat.reduceEqDiff, reduceCtorEq, Nat.reduceAdd, Nat.reduceLeDiff, Nat.reduceLT, reduceIte, Int.reduceBEq, Int.reduceBNe, Int.reduceLT, Int.reduceLE, Int.reduceAdd, Int.reduceSub, Int.reduceMul, Int.reduceNeg, Int.reduceEq, Int.reduceNe, Nat.reduceMul, Nat.reduceSub]
        subst hQ
        simp (disch := first | assumption | omega) only [R.gantlaw5_half_in, go_sem, ↓reduceIte, Nat.reduceEqDiff, reduceCtorEq, Nat.reduceAdd, Nat.reduceLeDiff, Nat.reduceLT, reduceIte, Int.reduceBEq, Int.reduceBNe, Int.reduceLT, Int.reduceLE, Int.reduceAdd, Int.reduceSub, Int.reduceMul, Int.reduceNeg, Int.reduceEq, Int.reduceNe, Nat.reduceMul, Nat.reduceSub]
        exact ⟨eoz, ow, ol, by rw [e2'] at hbz ⊢; exact hbz⟩
end Go.Proofs.Ytpdajkbfemcdlaa
/- Contracts: a deed of both ends. -/
set_option linter.unusedSimpArgs false
set_option linter.unusedVariables false
set_option maxRecDepth 10000
namespace Go.Proofs.Ytpdajkbfemcdlaa
open Go.Ge
theorem Both.put2 {h0 h1 h3 : List HObj} {e m : Nat} {eo ow ol ow1 ol1 : List Nat} {self other : Int} {se sm sm' : Lk} {w' l' g : AVal} {L' : List (Bool × Msg)} {A1 : HObj} (b : Both h0 e eo m ow ol self other se sm)
    (hs1 : SlO mgC 6 h1 ow1 w' L') (hf1 : Fr ow h0 h1) (hi1 : ∀ i ∈ ow1, i ∈ ow ∨ h0.length ≤ i ∧ i < h1.length) (hs2 : SlO inC 1 h3 ol1 l' (sm'.wait.map (·.2))) (hf2 : Fr ol (h1.set m A1) h3) (hi2 : ∀ i ∈ ol1, i ∈ ol ∨ (h1.set m A1).length ≤ i ∧ i < h3.length)
    (hL : L'.map (·.2) = sm'.wait.map (·.1)) (hfl : ∀ x ∈ L', x.1 = false → x.2.Cells = []) (hg : GotR g sm'.got) : Both (h3.set m (halfC self other sm' w' l' g)) e eo m ow1 ol1 self other se sm' := by
  have hl : (h1.set m A1).length = h1.length := List.length_set ..
  rw [hl] at hi2
  have hm := b.mlt m (by simp)
  have c1 := hf1.1
  have c2 := hf2.1
  rw [hl] at c2
  have mw : m ∉ ow1 := fun h => (hi1 m h).elim b.mw (fun h => by omega)
  have ml : m ∉ ol1 := fun h => (hi2 m h).elim b.ml (fun h => by omega)
  have hol : ∀ i ∈ ol, i < h0.length := fun i h => b.mlt i (by simp [h])
  have how : ∀ i ∈ ow, i < h0.length := fun i h => b.mlt i (by simp [h])
  have f12 : Fr [m] h1 (h1.set m A1) := Fr.set (by simp)
  have f35 : Fr [m] h3 (h3.set m (halfC self other sm' w' l' g)) := Fr.set (by simp)
  have f15 : Fr (m :: ol) h1 (h3.set m (halfC self other sm' w' l' g)) :=
    ((f12.mono (S' := m :: ol) (fun i h => .inl (by simp at h; simp [h]))).trans hf2 (fun i h => .inl (by simp [h]))).trans f35 (fun i h => .inl (by simp at h; simp [h]))
  refine b.halfQ ?_ ⟨w', l', g, L', List.getElem?_set_self (by omega), hs1.frame f15 ?_, hL, hfl, hs2.frame f35 ?_, hg⟩ ?_ mw ml ?_
  · exact (hf1.mono (S' := m :: (ow ++ ol)) (fun i h => .inl (by simp [h]))).trans f15 (fun i h => .inl (by simp at h ⊢; rcases h with h | h <;> simp [h]))
  · intro i hi hm'
    rcases List.mem_cons.1 hm' with rfl | hm'
    · exact mw hi
    · rcases hi1 i hi with h | h
      · exact b.wl i h hm'
      · have := hol i hm'; omega
  · intro i hi hm'; simp at hm'; subst hm'; exact ml hi
  · intro i hi
    rw [List.length_set]
    rcases List.mem_append.1 hi with hi | hi
    · rcases hi1 i hi with h | h
      · exact .inl (by simp [h])
      · exact .inr ⟨h.1, by omega⟩
    · rcases hi2 i hi with h | h
      · exact .inl (by simp [h])
      · exact .inr ⟨by omega, h.2⟩
  · intro i hi hi'
    rcases hi1 i hi with h | h
    · rcases hi2 i hi' with h' | h'
      · exact b.wl i h h'
      · have := how i h; omega
    · rcases hi2 i hi' with h' | h'
      · have := hol i h'; omega
      · omega
theorem msgFault_put {s : Lk} {self other k : Int} {cs : List Cell} (hk : k ≠ 3) (h0 : 0 ≤ s.next) (h1 : s.next ≤ 2147483647) : msgFault (putM s self other k cs) = msgFault ⟨k, self, other, 0, 0, []⟩ := by
  have e1 : ¬((putM s self other k cs).Seq < 0 ∨ (putM s self other k cs).Seq > 2147483647) := by show ¬(s.next < 0 ∨ s.next > 2147483647); omega
  have e2 : ¬((putM s self other k cs).Kind = 3 ∧ (putM s self other k cs).Cells.length ≠ 0) := fun h => hk h.1
  have e3 : ¬(k = 3 ∧ ([] : List Cell).length ≠ 0) := fun h => hk h.1
  unfold msgFault
  rw [if_neg e1, if_neg e2]
  simp only [if_neg e3]
  rfl
theorem deed_ok (e m : Nat) (eo ow ol : List Nat) (self other : Int) (s : Lk) (n dd a b : Int) (o : Own) (xs : List AVal) (l : List Msg) (h : List HObj) (hb : Both h e eo m ow ol self other s s) (hs : s.ok n) (hn : n ≤ 1099511627) (ho : Rdo o) (hx : MsgsOk l xs) (hl : l.length ≤ 4398046511104) :
    ACalls Try.prog F.gantlaw5_half_deed [.hp m 0, .hp e 0, .int .i64 dd, .int .i64 a, .int .i64 b, .lst o xs] h (fun v h' => v = .bool true ∧ ∃ s', s'.ok (n + 1) ∧ BothQ e m self other s' h') := by
  obtain ⟨w, g1, g, L, h2, h3, h4, h5, h6, h7⟩ := hb.get
  have hxl := hx.length
  refine ACalls.of_aw Try.func82 K.gantlaw5_half_deed (by simp [Try.f82]) ?_
  generalize hQ : retQ R.gantlaw5_half_deed _ = Q
  simp (disch := first | assumption | omega) only [C.gantlaw5_half_deed, go_sem, ↓reduceIte, Nat.reduceEqDiff, reduceCtorEq, Nat.reduceAdd, Nat.reduceLeDiff, Nat.reduceLT, reduceIte, Int.reduceBEq, Int.reduceBNe, Int.reduceLT, Int.reduceLE, Int.reduceAdd, Int.reduceSub, Int.reduceMul, Int.reduceNeg, Int.reduceEq, Int.reduceNe, Nat.reduceMul, Nat.reduceSub]
  simp (disch := first | assumption | omega) only [h2, go_sem, ↓reduceIte, Nat.reduceEqDiff, reduceCtorEq, Nat.reduceAdd, Nat.reduceLeDiff, Nat.reduceLT, reduceIte, Int.reduceBEq, Int.reduceBNe, Int.reduceLT, Int.reduceLE, Int.reduceAdd, Int.reduceSub, Int.reduceMul, Int.reduceNeg, Int.reduceEq, Int.reduceNe, Nat.reduceMul, Nat.reduceSub]
  refine callpG_ok (R := fun r => r = .int .i64 (diff (IntKind.u32.wrap b) 0)) (fun hp' => ACalls.mono (Later_ok (IntKind.u32.wrap b) 0 (by rw [wrapU32_mod]; unfold inU32; omega) (by unfold inU32; omega) hp') fun r h' hh => ⟨hh.2, hh.1⟩) (by simp (disch := first | assumption | omega) only [go_sem, ↓reduceIte, Nat.reduceEqDiff, reduceCtorEq, Nat.reduceAdd, Nat.reduceLeDiff, Nat.reduceLT, reduceIte, Int.reduceBEq, Int.reduceBNe, Int.reduceLT, Int.reduceLE, Int.reduceAdd, Int.reduceSub, Int.reduceMul, Int.reduceNeg, Int.reduceEq, Int.reduceNe, Nat.reduceMul, Nat.reduceSub]) ?_
  rintro _ rfl
  simp (disch := first | assumption | omega) only [h2, go_sem, ↓reduceIte, Nat.reduceEqDiff, reduceCtorEq, Nat.reduceAdd, Nat.reduceLeDiff, Nat.reduceLT, reduceIte, Int.reduceBEq, Int.reduceBNe, Int.reduceLT, Int.reduceLE, Int.reduceAdd, Int.reduceSub, Int.reduceMul, Int.reduceNeg, Int.reduceEq, Int.reduceNe, Nat.reduceMul, Nat.reduceSub]
  refine aopsG_cut (fun S => ∃ (q : Own) (X : Msg), Rdn q X.Cells ∧ X.Cells.length * 16 ≤ reachBytes ∧ X.From = other ∧ X.To = self ∧ S.env 0 = .hp m 0 ∧ S.env 1 = .hp e 0 ∧ S.env 2 = .int .i64 dd ∧ S.env 3 = .int .i64 a ∧ S.env 4 = .int .i64 b ∧ S.env 5 = .lst o xs ∧ S.env 13 = .box 13 0 ∧ S.boxes 13 = some (msgC q X) ∧ S.heap = h) ?_ ?_
  · by_cases hl0 : (0 : Int) < xs.length
    · by_cases hd3 : (0 : Int) < dd.tmod 3
      · obtain ⟨j, hj, hjl⟩ : ∃ j : Nat, (IntKind.i64.wrap (a.tmod xs.length + xs.length)).tmod xs.length = (j : Int) ∧ j < l.length := by
          have t1 := Int.tmod_lt_of_pos a hl0
          have t2 := Int.lt_tmod_of_pos a hl0
          rw [wrapI64 (by omega) (by omega), Int.tmod_eq_emod_of_nonneg (by omega)]
          have t3 := Int.emod_nonneg (a.tmod xs.length + xs.length) (b := (xs.length : Int)) (by omega)
          have t4 := Int.emod_lt_of_pos (a.tmod xs.length + xs.length) hl0
          exact ⟨((a.tmod xs.length + xs.length) % (xs.length : Int)).toNat, by omega, by omega⟩
        obtain ⟨q, hq, hql, hxj⟩ := hx.at j hjl
        have hq1 := hq.1
        have u1 := Int.tmod_lt_of_pos b (show (0 : Int) < 3 by omega)
        have u2 := Int.lt_tmod_of_pos b (show (0 : Int) < 3 by omega)
        have hw0 := hs.want0
        have hw1 := hs.want1
        have w1 : IntKind.i64.wrap (s.want + b.tmod 3) = s.want + b.tmod 3 := wrapI64 (by omega) (by omega)
        have w2 : IntKind.i64.wrap (s.want + b.tmod 3 - 1) = s.want + b.tmod 3 - 1 := wrapI64 (by omega) (by omega)
        have hl1 : (xs.length : Int) ≠ 0 := by omega
        simp (disch := first | assumption | omega) only [hl0, hd3, hj, hxj, msgA, msgC, h2, w1, w2, go_sem, ↓reduceIte, Nat.reduceEqDiff, reduceCtorEq, Nat.reduceAdd, Nat.reduceLeDiff, Nat.reduceLT, reduceIte, Int.reduceBEq, Int.reduceBNe, Int.reduceLT, Int.reduceLE, Int.reduceAdd, Int.reduceSub, Int.reduceMul, Int.reduceNeg, Int.reduceEq, Int.reduceNe, Nat.reduceMul, Nat.reduceSub]
        exact ⟨hl1, hl1, by omega, q, { l[j] with From := other, To := self, Seq := s.want + b.tmod 3 - 1 }, hq, hql, rfl, rfl, rfl⟩
      · simp (disch := first | assumption | omega) only [hl0, hd3, go_sem, ↓reduceIte, Nat.reduceEqDiff, reduceCtorEq, Nat.reduceAdd, Nat.reduceLeDiff, Nat.reduceLT, reduceIte, Int.reduceBEq, Int.reduceBNe, Int.reduceLT, Int.reduceLE, Int.reduceAdd, Int.reduceSub, Int.reduceMul, Int.reduceNeg, Int.reduceEq, Int.reduceNe, Nat.reduceMul, Nat.reduceSub]
        exact ⟨.nil, ⟨3, other, self, diff (IntKind.u32.wrap b) 0, 0, []⟩, ⟨.inr rfl, fun _ => rfl⟩, by simp, rfl, rfl, rfl⟩
    · simp (disch := first | assumption | omega) only [hl0, go_sem, ↓reduceIte, Nat.reduceEqDiff, reduceCtorEq, Nat.reduceAdd, Nat.reduceLeDiff, Nat.reduceLT, reduceIte, Int.reduceBEq, Int.reduceBNe, Int.reduceLT, Int.reduceLE, Int.reduceAdd, Int.reduceSub, Int.reduceMul, Int.reduceNeg, Int.reduceEq, Int.reduceNe, Nat.reduceMul, Nat.reduceSub]
      exact ⟨.nil, ⟨3, other, self, diff (IntKind.u32.wrap b) 0, 0, []⟩, ⟨.inr rfl, fun _ => rfl⟩, by simp, rfl, rfl, rfl⟩
  rintro S ⟨q, X, hq, hXl, hXf, hXt, e0, e1, e2, e3, e4, e5, e13, b13, eh⟩
  subst eh
  obtain ⟨k, hk, hk0, hk5⟩ : ∃ k : Int, (IntKind.i64.wrap (dd.tmod 5 + 5)).tmod 5 = k ∧ 0 ≤ k ∧ k < 5 := by
    have t1 := Int.tmod_lt_of_pos dd (show (0 : Int) < 5 by omega)
    have t2 := Int.lt_tmod_of_pos dd (show (0 : Int) < 5 by omega)
    rw [wrapI64 (by omega) (by omega), Int.tmod_eq_emod_of_nonneg (by omega)]
    exact ⟨(dd.tmod 5 + 5) % 5, rfl, by omega, by omega⟩
  have hq1 := hq.1
  have hXl4 : X.Cells.length < 4611686018427387904 := by unfold reachBytes at hXl; omega
  have hor : k = 0 ∨ k = 1 ∨ k = 2 ∨ k = 3 ∨ k = 4 := by omega
  rcases hor with rfl | rfl | rfl | rfl | rfl
  · have hpS : ∀ v, putE s self other X.Kind X.Cells = v → v ≠ 0 → putS s self other X.Kind X.Cells = s := fun v h1 h2 => by unfold putS; rw [if_neg (by omega)]
    have hn0 := hs.next0
    have hn1 := hs.next1
    have hwl := hs.wait
    simp (disch := first | assumption | omega) only [e0, e1, e2, e3, e4, e5, e13, b13, h2, msgC, hk, go_sem, ↓reduceIte, Nat.reduceEqDiff, reduceCtorEq, Nat.reduceAdd, Nat.reduceLeDiff, Nat.reduceLT, reduceIte, Int.reduceBEq, Int.reduceBNe, Int.reduceLT, Int.reduceLE, Int.reduceAdd, Int.reduceSub, Int.reduceMul, Int.reduceNeg, Int.reduceEq, Int.reduceNe, Nat.reduceMul, Nat.reduceSub]
    refine callpG_ok (R := fun r => r = .int .i64 (msgFault ⟨X.Kind, self, other, 0, 0, []⟩)) (fun hp' => ACalls.mono (MsgFault_ok .nil ⟨X.Kind, self, other, 0, 0, []⟩ (.inr rfl) (by simp) hp') fun r h' hh => ⟨hh.2, hh.1⟩) (by simp (disch := first | assumption | omega) only [go_sem, ↓reduceIte, Nat.reduceEqDiff, reduceCtorEq, Nat.reduceAdd, Nat.reduceLeDiff, Nat.reduceLT, reduceIte, Int.reduceBEq, Int.reduceBNe, Int.reduceLT, Int.reduceLE, Int.reduceAdd, Int.reduceSub, Int.reduceMul, Int.reduceNeg, Int.reduceEq, Int.reduceNe, Nat.reduceMul, Nat.reduceSub]) ?_
    rintro _ rfl
    by_cases p1 : X.Kind = 3
    · have q1 : putE s self other X.Kind X.Cells = 1 := by unfold putE; rw [if_pos p1]
      have q2 := hpS _ q1 (by decide)
      simp (disch := first | assumption | omega) only [e0, e1, e2, e3, e4, e5, e13, b13, h2, msgC, eq_true p1, go_sem, ↓reduceIte, Nat.reduceEqDiff, reduceCtorEq, Nat.reduceAdd, Nat.reduceLeDiff, Nat.reduceLT, reduceIte, Int.reduceBEq, Int.reduceBNe, Int.reduceLT, Int.reduceLE, Int.reduceAdd, Int.reduceSub, Int.reduceMul, Int.reduceNeg, Int.reduceEq, Int.reduceNe, Nat.reduceMul, Nat.reduceSub]
      refine callG_ok (Put_ok e eo self other s n X.Kind q X.Cells _ hb.er hs (by omega) hq hXl) (by simp (disch := first | assumption | omega) only [go_sem, ↓reduceIte, Nat.reduceEqDiff, reduceCtorEq, Nat.reduceAdd, Nat.reduceLeDiff, Nat.reduceLT, reduceIte, Int.reduceBEq, Int.reduceBNe, Int.reduceLT, Int.reduceLE, Int.reduceAdd, Int.reduceSub, Int.reduceMul, Int.reduceNeg, Int.reduceEq, Int.reduceNe, Nat.reduceMul, Nat.reduceSub]) ?_
      rintro _ h' ⟨rfl, hq'⟩
      obtain ⟨eo', hB'⟩ := hb.endQ hq'
      rw [q1]
      simp (disch := first | assumption | omega) only [e0, e1, e2, e3, e4, e5, e13, b13, h2, msgC, q2, go_sem, ↓reduceIte, Nat.reduceEqDiff, reduceCtorEq, Nat.reduceAdd, Nat.reduceLeDiff, Nat.reduceLT, reduceIte, Int.reduceBEq, Int.reduceBNe, Int.reduceLT, Int.reduceLE, Int.reduceAdd, Int.reduceSub, Int.reduceMul, Int.reduceNeg, Int.reduceEq, Int.reduceNe, Nat.reduceMul, Nat.reduceSub]
      subst hQ
      simp (disch := first | assumption | omega) only [R.gantlaw5_half_deed, go_sem, ↓reduceIte, Nat.reduceEqDiff, reduceCtorEq, Nat.reduceAdd, Nat.reduceLeDiff, Nat.reduceLT, reduceIte, Int.reduceBEq, Int.reduceBNe, Int.reduceLT, Int.reduceLE, Int.reduceAdd, Int.reduceSub, Int.reduceMul, Int.reduceNeg, Int.reduceEq, Int.reduceNe, Nat.reduceMul, Nat.reduceSub]
      exact ⟨_, putS_ok (self := self) (other := other) (k := X.Kind) (cs := X.Cells) hs, eo', ow, ol, by rw [q2] at hB' ⊢; exact hB'⟩

    have q3 := msgFault_put (s := s) (self := self) (other := other) (cs := X.Cells) p1 hn0 (by omega)
    have q4 : checkF (putM s self other X.Kind X.Cells) = if msgFault ⟨X.Kind, self, other, 0, 0, []⟩ ≠ 0 then msgFault ⟨X.Kind, self, other, 0, 0, []⟩ else cellsFault X.Cells := by unfold checkF; rw [q3]; rfl
    by_cases p2 : msgFault ⟨X.Kind, self, other, 0, 0, []⟩ = 0
    case neg =>
      have q1 : putE s self other X.Kind X.Cells = msgFault ⟨X.Kind, self, other, 0, 0, []⟩ := by unfold putE; rw [if_neg p1, q4, if_pos p2, if_pos p2]
      have q2 := hpS _ q1 p2
      simp (disch := first | assumption | omega) only [e0, e1, e2, e3, e4, e5, e13, b13, h2, msgC, p1, p2, go_sem, ↓reduceIte, Nat.reduceEqDiff, reduceCtorEq, Nat.reduceAdd, Nat.reduceLeDiff, Nat.reduceLT, reduceIte, Int.reduceBEq, Int.reduceBNe, Int.reduceLT, Int.reduceLE, Int.reduceAdd, Int.reduceSub, Int.reduceMul, Int.reduceNeg, Int.reduceEq, Int.reduceNe, Nat.reduceMul, Nat.reduceSub]
      refine callG_ok (Put_ok e eo self other s n X.Kind q X.Cells _ hb.er hs (by omega) hq hXl) (by simp (disch := first | assumption | omega) only [go_sem, ↓reduceIte, Nat.reduceEqDiff, reduceCtorEq, Nat.reduceAdd, Nat.reduceLeDiff, Nat.reduceLT, reduceIte, Int.reduceBEq, Int.reduceBNe, Int.reduceLT, Int.reduceLE, Int.reduceAdd, Int.reduceSub, Int.reduceMul, Int.reduceNeg, Int.reduceEq, Int.reduceNe, Nat.reduceMul, Nat.reduceSub]) ?_
      rintro _ h' ⟨rfl, hq'⟩
      obtain ⟨eo', hB'⟩ := hb.endQ hq'
      rw [q1]
      simp (disch := first | assumption | omega) only [e0, e1, e2, e3, e4, e5, e13, b13, h2, msgC, q2, go_sem, ↓reduceIte, Nat.reduceEqDiff, reduceCtorEq, Nat.reduceAdd, Nat.reduceLeDiff, Nat.reduceLT, reduceIte, Int.reduceBEq, Int.reduceBNe, Int.reduceLT, Int.reduceLE, Int.reduceAdd, Int.reduceSub, Int.reduceMul, Int.reduceNeg, Int.reduceEq, Int.reduceNe, Nat.reduceMul, Nat.reduceSub]
      subst hQ
      simp (disch := first | assumption | omega) only [R.gantlaw5_half_deed, go_sem, ↓reduceIte, Nat.reduceEqDiff, reduceCtorEq, Nat.reduceAdd, Nat.reduceLeDiff, Nat.reduceLT, reduceIte, Int.reduceBEq, Int.reduceBNe, Int.reduceLT, Int.reduceLE, Int.reduceAdd, Int.reduceSub, Int.reduceMul, Int.reduceNeg, Int.reduceEq, Int.reduceNe, Nat.reduceMul, Nat.reduceSub]
      exact ⟨_, putS_ok (self := self) (other := other) (k := X.Kind) (cs := X.Cells) hs, eo', ow, ol, by rw [q2] at hB' ⊢; exact hB'⟩

    rw [if_neg (by simp [p2])] at q4
    simp (disch := first | assumption | omega) only [e0, e1, e2, e3, e4, e5, e13, b13, h2, msgC, p1, p2, go_sem, ↓reduceIte, Nat.reduceEqDiff, reduceCtorEq, Nat.reduceAdd, Nat.reduceLeDiff, Nat.reduceLT, reduceIte, Int.reduceBEq, Int.reduceBNe, Int.reduceLT, Int.reduceLE, Int.reduceAdd, Int.reduceSub, Int.reduceMul, Int.reduceNeg, Int.reduceEq, Int.reduceNe, Nat.reduceMul, Nat.reduceSub]
    refine callG_ok (CellsFault_ok q X.Cells hq1 hXl4 _) (by simp (disch := first | assumption | omega) only [go_sem, ↓reduceIte, Nat.reduceEqDiff, reduceCtorEq, Nat.reduceAdd, Nat.reduceLeDiff, Nat.reduceLT, reduceIte, Int.reduceBEq, Int.reduceBNe, Int.reduceLT, Int.reduceLE, Int.reduceAdd, Int.reduceSub, Int.reduceMul, Int.reduceNeg, Int.reduceEq, Int.reduceNe, Nat.reduceMul, Nat.reduceSub]) ?_
    rintro _ _ ⟨rfl, hhh⟩
    rw [hhh]
    clear hhh
    by_cases p3 : cellsFault X.Cells = 0
    case neg =>
      have q1 : putE s self other X.Kind X.Cells = cellsFault X.Cells := by unfold putE; rw [if_neg p1, q4, if_pos p3]
      have q2 := hpS _ q1 p3
      simp (disch := first | assumption | omega) only [e0, e1, e2, e3, e4, e5, e13, b13, h2, msgC, p3, go_sem, ↓reduceIte, Nat.reduceEqDiff, reduceCtorEq, Nat.reduceAdd, Nat.reduceLeDiff, Nat.reduceLT, reduceIte, Int.reduceBEq, Int.reduceBNe, Int.reduceLT, Int.reduceLE, Int.reduceAdd, Int.reduceSub, Int.reduceMul, Int.reduceNeg, Int.reduceEq, Int.reduceNe, Nat.reduceMul, Nat.reduceSub]
      refine callG_ok (Put_ok e eo self other s n X.Kind q X.Cells _ hb.er hs (by omega) hq hXl) (by simp (disch := first | assumption | omega) only [go_sem, ↓reduceIte, Nat.reduceEqDiff, reduceCtorEq, Nat.reduceAdd, Nat.reduceLeDiff, Nat.reduceLT, reduceIte, Int.reduceBEq, Int.reduceBNe, Int.reduceLT, Int.reduceLE, Int.reduceAdd, Int.reduceSub, Int.reduceMul, Int.reduceNeg, Int.reduceEq, Int.reduceNe, Nat.reduceMul, Nat.reduceSub]) ?_
      rintro _ h' ⟨rfl, hq'⟩
      obtain ⟨eo', hB'⟩ := hb.endQ hq'
      rw [q1]
      simp (disch := first | assumption | omega) only [e0, e1, e2, e3, e4, e5, e13, b13, h2, msgC, q2, go_sem, ↓reduceIte, Nat.reduceEqDiff, reduceCtorEq, Nat.reduceAdd, Nat.reduceLeDiff, Nat.reduceLT, reduceIte, Int.reduceBEq, Int.reduceBNe, Int.reduceLT, Int.reduceLE, Int.reduceAdd, Int.reduceSub, Int.reduceMul, Int.reduceNeg, Int.reduceEq, Int.reduceNe, Nat.reduceMul, Nat.reduceSub]
      subst hQ
      simp (disch := first | assumption | omega) only [R.gantlaw5_half_deed, go_sem, ↓reduceIte, Nat.reduceEqDiff, reduceCtorEq, Nat.reduceAdd, Nat.reduceLeDiff, Nat.reduceLT, reduceIte, Int.reduceBEq, Int.reduceBNe, Int.reduceLT, Int.reduceLE, Int.reduceAdd, Int.reduceSub, Int.reduceMul, Int.reduceNeg, Int.reduceEq, Int.reduceNe, Nat.reduceMul, Nat.reduceSub]
      exact ⟨_, putS_ok (self := self) (other := other) (k := X.Kind) (cs := X.Cells) hs, eo', ow, ol, by rw [q2] at hB' ⊢; exact hB'⟩

    have hlw : L.length = s.wait.length := by have := congrArg List.length h4; simpa using this
    by_cases p4 : s.wait.length = 500
    · have q1 : putE s self other X.Kind X.Cells = 6 := by unfold putE; rw [if_neg p1, q4, if_neg (by simp [p3]), if_pos p4]
      have q2 := hpS _ q1 (by decide)
      have p5 : (500 : Int) ≤ L.length := by omega
      rcases h3.cases with ⟨rfl, rfl⟩ | ⟨wid, woff, wcap, rfl, wcp, wi, wsr⟩
      · simp at p5
      simp (disch := first | assumption | omega) only [e0, e1, e2, e3, e4, e5, e13, b13, h2, msgC, p3, p5, go_sem, ↓reduceIte, Nat.reduceEqDiff, reduceCtorEq, Nat.reduceAdd, Nat.reduceLeDiff, Nat.reduceLT, reduceIte, Int.reduceBEq, Int.reduceBNe, Int.reduceLT, Int.reduceLE, Int.reduceAdd, Int.reduceSub, Int.reduceMul, Int.reduceNeg, Int.reduceEq, Int.reduceNe, Nat.reduceMul, Nat.reduceSub]
      refine callG_ok (Put_ok e eo self other s n X.Kind q X.Cells _ hb.er hs (by omega) hq hXl) (by simp (disch := first | assumption | omega) only [go_sem, ↓reduceIte, Nat.reduceEqDiff, reduceCtorEq, Nat.reduceAdd, Nat.reduceLeDiff, Nat.reduceLT, reduceIte, Int.reduceBEq, Int.reduceBNe, Int.reduceLT, Int.reduceLE, Int.reduceAdd, Int.reduceSub, Int.reduceMul, Int.reduceNeg, Int.reduceEq, Int.reduceNe, Nat.reduceMul, Nat.reduceSub]) ?_
      rintro _ h' ⟨rfl, hq'⟩
      obtain ⟨eo', hB'⟩ := hb.endQ hq'
      rw [q1]
      simp (disch := first | assumption | omega) only [e0, e1, e2, e3, e4, e5, e13, b13, h2, msgC, q2, go_sem, ↓reduceIte, Nat.reduceEqDiff, reduceCtorEq, Nat.reduceAdd, Nat.reduceLeDiff, Nat.reduceLT, reduceIte, Int.reduceBEq, Int.reduceBNe, Int.reduceLT, Int.reduceLE, Int.reduceAdd, Int.reduceSub, Int.reduceMul, Int.reduceNeg, Int.reduceEq, Int.reduceNe, Nat.reduceMul, Nat.reduceSub]
      subst hQ
      simp (disch := first | assumption | omega) only [R.gantlaw5_half_deed, go_sem, ↓reduceIte, Nat.reduceEqDiff, reduceCtorEq, Nat.reduceAdd, Nat.reduceLeDiff, Nat.reduceLT, reduceIte, Int.reduceBEq, Int.reduceBNe, Int.reduceLT, Int.reduceLE, Int.reduceAdd, Int.reduceSub, Int.reduceMul, Int.reduceNeg, Int.reduceEq, Int.reduceNe, Nat.reduceMul, Nat.reduceSub]
      exact ⟨_, putS_ok (self := self) (other := other) (k := X.Kind) (cs := X.Cells) hs, eo', ow, ol, by rw [q2] at hB' ⊢; exact hB'⟩

    have q1 : putE s self other X.Kind X.Cells = 0 := by unfold putE; rw [if_neg p1, q4, if_neg (by simp [p3]), if_neg p4]
    have q2 : putS s self other X.Kind X.Cells = { s with next := s.next + 1, wait := s.wait ++ [(putM s self other X.Kind X.Cells, -1)] } := by unfold putS; rw [if_pos q1]
    have p5 : ¬(500 : Int) ≤ L.length := by omega
    obtain ⟨bq, rfl, hbq⟩ := own_cases hq
    have hnw : IntKind.i64.wrap (s.next + 1) = s.next + 1 := wrapI64 (by omega) (by omega)
    have hor : (w = .lst .nil [] ∧ L = []) ∨ ∃ id off cap, w = .ref id off L.length cap := by
      rcases h3.cases with h | ⟨id, off, cap, h, _⟩
      · exact .inl h
      · exact .inr ⟨_, _, _, h⟩
    have hor2 : g1 = .lst .nil [] ∨ ∃ id off cap, g1 = .ref id off (s.wait.map (·.2)).length cap := by
      rcases h6.cases with h | ⟨id, off, cap, h, _⟩
      · exact .inl h.1
      · exact .inr ⟨_, _, _, h⟩
    have hgot := h7
    have key : ∀ (w' l' : AVal) (h1 h3' : List HObj) (ow1 ol1 : List Nat) (A1 : HObj), SlO mgC 6 h1 ow1 w' (L ++ [(bq, putM s self other X.Kind X.Cells)]) → Fr ow S.heap h1 → (∀ i ∈ ow1, i ∈ ow ∨ S.heap.length ≤ i ∧ i < h1.length) →
        SlO inC 1 h3' ol1 l' (s.wait.map (·.2) ++ [-1]) → Fr ol (h1.set m A1) h3' → (∀ i ∈ ol1, i ∈ ol ∨ (h1.set m A1).length ≤ i ∧ i < h3'.length) →
        Both (h3'.set m (.cells [.int .i64 self, .int .i64 other, .int .i64 (s.next + 1), .int .i64 s.want, w', l', g, .bool s.owes])) e eo m ow1 ol1 self other s (putS s self other X.Kind X.Cells) := by
      intro w' l' h1 h3' ow1 ol1 A1 a1 a2 a3 a4 a5 a6
      have := hb.put2 (sm' := putS s self other X.Kind X.Cells) (w' := w') (l' := l') (g := g) a1 a2 a3 (by rw [q2]; simpa using a4) a5 a6 (by rw [q2]; simp [h4]) (by
        intro z hz hzb
        rcases List.mem_append.1 hz with hz | hz
        · exact h5 z hz hzb
        · simp at hz; subst hz; exact hbq hzb) (by rw [q2]; exact h7)
      have e : halfC self other (putS s self other X.Kind X.Cells) w' l' g = .cells [.int .i64 self, .int .i64 other, .int .i64 (s.next + 1), .int .i64 s.want, w', l', g, .bool s.owes] := by rw [q2]; rfl
      rwa [e] at this
    have h6f : ∀ (h1 : List HObj) (A1 : HObj), Fr ow S.heap h1 → SlO inC 1 (h1.set m A1) ol g1 (s.wait.map (·.2)) := fun h1 A1 hf =>
      (h6.frame hf (fun i hi hm => hb.wl i hm hi)).frame (S := [m]) (Fr.set (by simp)) (fun i hi hm => by simp at hm; subst hm; exact hb.ml hi)
    have hmw := hb.mw
    have hml := hb.ml
    have hlt : (s.wait.map (·.2)).length = s.wait.length := by simp
    rcases hor with ⟨rfl, rfl⟩ | ⟨id, off, cap, rfl⟩
    all_goals (
      rcases hor2 with rfl | ⟨id2, off2, cap2, rfl⟩
      all_goals (
      simp (disch := first | assumption | omega) only [e0, e1, e2, e3, e4, e5, e13, b13, h2, msgC, p3, p5, aops_hop, go_sem, ↓reduceIte, Nat.reduceEqDiff, reduceCtorEq, Nat.reduceAdd, Nat.reduceLeDiff, Nat.reduceLT, reduceIte, Int.reduceBEq, Int.reduceBNe, Int.reduceLT, Int.reduceLE, Int.reduceAdd, Int.reduceSub, Int.reduceMul, Int.reduceNeg, Int.reduceEq, Int.reduceNe, Nat.reduceMul, Nat.reduceSub]
      refine SlO.push mgC_len mgC_st (a := (bq, putM s self other X.Kind X.Cells)) h3 (o := .sh) (v := .agg (mgC (bq, putM s self other X.Kind X.Cells))) (by simp (disch := first | assumption | omega) only [e0, e1, e2, e3, e4, e5, e13, b13, h2, msgC, go_sem, ↓reduceIte, Nat.reduceEqDiff, reduceCtorEq, Nat.reduceAdd, Nat.reduceLeDiff, Nat.reduceLT, reduceIte, Int.reduceBEq, Int.reduceBNe, Int.reduceLT, Int.reduceLE, Int.reduceAdd, Int.reduceSub, Int.reduceMul, Int.reduceNeg, Int.reduceEq, Int.reduceNe, Nat.reduceMul, Nat.reduceSub]) (by simp (disch := first | assumption | omega) only [mgC, putM, msgC, go_sem, ↓reduceIte, Nat.reduceEqDiff, reduceCtorEq, Nat.reduceAdd, Nat.reduceLeDiff, Nat.reduceLT, reduceIte, Int.reduceBEq, Int.reduceBNe, Int.reduceLT, Int.reduceLE, Int.reduceAdd, Int.reduceSub, Int.reduceMul, Int.reduceNeg, Int.reduceEq, Int.reduceNe, Nat.reduceMul, Nat.reduceSub]) rfl rfl (by omega) (by omega) ?_
      intro w' h1 ow1 hs1 hf1 hi1 _
      obtain ⟨wid', woff', wlen', wcap', rfl⟩ : ∃ a b c d, w' = .ref a b c d := by
        rcases hs1.cases with ⟨_, he⟩ | ⟨a, b, d, he, _⟩
        · simp at he
        · exact ⟨a, b, _, d, he⟩
      have hg1 := hf1.get hmw h2
      simp (disch := first | assumption | omega) only [hg1, get_set hg1, aops_hop, go_sem, ↓reduceIte, Nat.reduceEqDiff, reduceCtorEq, Nat.reduceAdd, Nat.reduceLeDiff, Nat.reduceLT, reduceIte, Int.reduceBEq, Int.reduceBNe, Int.reduceLT, Int.reduceLE, Int.reduceAdd, Int.reduceSub, Int.reduceMul, Int.reduceNeg, Int.reduceEq, Int.reduceNe, Nat.reduceMul, Nat.reduceSub]
      refine SlO.push inC_len inC_st (a := -1) (h6f h1 _ hf1) (o := .sh) (v := .int .i64 (-1)) (by simp (disch := first | assumption | omega) only [e0, e1, e2, e3, e4, e5, e13, b13, h2, msgC, go_sem, ↓reduceIte, Nat.reduceEqDiff, reduceCtorEq, Nat.reduceAdd, Nat.reduceLeDiff, Nat.reduceLT, reduceIte, Int.reduceBEq, Int.reduceBNe, Int.reduceLT, Int.reduceLE, Int.reduceAdd, Int.reduceSub, Int.reduceMul, Int.reduceNeg, Int.reduceEq, Int.reduceNe, Nat.reduceMul, Nat.reduceSub]) (by simp (disch := first | assumption | omega) only [go_sem, ↓reduceIte, Nat.reduceEqDiff, reduceCtorEq, Nat.reduceAdd, Nat.reduceLeDiff, Nat.reduceLT, reduceIte, Int.reduceBEq, Int.reduceBNe, Int.reduceLT, Int.reduceLE, Int.reduceAdd, Int.reduceSub, Int.reduceMul, Int.reduceNeg, Int.reduceEq, Int.reduceNe, Nat.reduceMul, Nat.reduceSub]) rfl rfl (by omega) (by omega) ?_
      intro l' h3' ol1 hs2 hf2 hi2 _
      obtain ⟨lid', loff', llen', lcap', rfl⟩ : ∃ a b c d, l' = .ref a b c d := by
        rcases hs2.cases with ⟨_, he⟩ | ⟨a, b, d, he, _⟩
        · simp at he
        · exact ⟨a, b, _, d, he⟩
      have hg2 := hf2.get hml (get_set hg1)
      have hB2 := key _ _ _ _ _ _ _ hs1 hf1 hi1 hs2 hf2 hi2
      simp (disch := first | assumption | omega) only [hg2, get_set hg2, List.set_set, hnw, e0, e1, e2, e3, e4, e5, e13, b13, h2, msgC, go_sem, ↓reduceIte, Nat.reduceEqDiff, reduceCtorEq, Nat.reduceAdd, Nat.reduceLeDiff, Nat.reduceLT, reduceIte, Int.reduceBEq, Int.reduceBNe, Int.reduceLT, Int.reduceLE, Int.reduceAdd, Int.reduceSub, Int.reduceMul, Int.reduceNeg, Int.reduceEq, Int.reduceNe, Nat.reduceMul, Nat.reduceSub]
      refine callG_ok (Put_ok e eo self other s n X.Kind (ownB bq) X.Cells _ hB2.er hs (by omega) hq hXl) (by simp (disch := first | assumption | omega) only [go_sem, ↓reduceIte, Nat.reduceEqDiff, reduceCtorEq, Nat.reduceAdd, Nat.reduceLeDiff, Nat.reduceLT, reduceIte, Int.reduceBEq, Int.reduceBNe, Int.reduceLT, Int.reduceLE, Int.reduceAdd, Int.reduceSub, Int.reduceMul, Int.reduceNeg, Int.reduceEq, Int.reduceNe, Nat.reduceMul, Nat.reduceSub]) ?_
      rintro _ h' ⟨rfl, hq'⟩
      obtain ⟨eo', hB'⟩ := hB2.endQ hq'
      rw [q1]
      simp (disch := first | assumption | omega) only [p3, go_sem, ↓reduceIte, Nat.reduceEqDiff, reduceCtorEq, Nat.reduceAdd, Nat.reduceLeDiff, Nat.reduceLT, reduceIte, Int.reduceBEq, Int.reduceBNe, Int.reduceLT, Int.reduceLE, Int.reduceAdd, Int.reduceSub, Int.reduceMul, Int.reduceNeg, Int.reduceEq, Int.reduceNe, Nat.reduceMul, Nat.reduceSub]
      subst hQ
      simp (disch := first | assumption | omega) only [R.gantlaw5_half_deed, go_sem, ↓reduceIte, Nat.reduceEqDiff, reduceCtorEq, Nat.reduceAdd, Nat.reduceLeDiff, Nat.reduceLT, reduceIte, Int.reduceBEq, Int.reduceBNe, Int.reduceLT, Int.reduceLE, Int.reduceAdd, Int.reduceSub, Int.reduceMul, Int.reduceNeg, Int.reduceEq, Int.reduceNe, Nat.reduceMul, Nat.reduceSub]
      exact ⟨_, putS_ok (self := self) (other := other) (k := X.Kind) (cs := X.Cells) hs, eo', ow1, ol1, hB'⟩))
  · simp (disch := first | assumption | omega) only [e0, e1, e2, e3, e4, e5, e13, b13, h2, msgC, hk, go_sem, ↓reduceIte, Nat.reduceEqDiff, reduceCtorEq, Nat.reduceAdd, Nat.reduceLeDiff, Nat.reduceLT, reduceIte, Int.reduceBEq, Int.reduceBNe, Int.reduceLT, Int.reduceLE, Int.reduceAdd, Int.reduceSub, Int.reduceMul, Int.reduceNeg, Int.reduceEq, Int.reduceNe, Nat.reduceMul, Nat.reduceSub]
    refine callG_ok (halfIn_ok e m eo ow ol self other s n q X _ hb hs (by omega) hq hXl4 hXf hXt) (by simp (disch := first | assumption | omega) only [msgA, msgC, go_sem, ↓reduceIte, Nat.reduceEqDiff, reduceCtorEq, Nat.reduceAdd, Nat.reduceLeDiff, Nat.reduceLT, reduceIte, Int.reduceBEq, Int.reduceBNe, Int.reduceLT, Int.reduceLE, Int.reduceAdd, Int.reduceSub, Int.reduceMul, Int.reduceNeg, Int.reduceEq, Int.reduceNe, Nat.reduceMul, Nat.reduceSub]) ?_
    rintro _ h' ⟨rfl, hB⟩
    simp (disch := first | assumption | omega) only [go_sem, ↓reduceIte, Nat.reduceEqDiff, reduceCtorEq, Nat.reduceAdd, Nat.reduceLeDiff, Nat.reduceLT, reduceIte, Int.reduceBEq, Int.reduceBNe, Int.reduceLT, Int.reduceLE, Int.reduceAdd, Int.reduceSub, Int.reduceMul, Int.reduceNeg, Int.reduceEq, Int.reduceNe, Nat.reduceMul, Nat.reduceSub]
    subst hQ
    simp (disch := first | assumption | omega) only [R.gantlaw5_half_deed, go_sem, ↓reduceIte, Nat.reduceEqDiff, reduceCtorEq, Nat.reduceAdd, Nat.reduceLeDiff, Nat.reduceLT, reduceIte, Int.reduceBEq, Int.reduceBNe, Int.reduceLT, Int.reduceLE, Int.reduceAdd, Int.reduceSub, Int.reduceMul, Int.reduceNeg, Int.reduceEq, Int.reduceNe, Nat.reduceMul, Nat.reduceSub]
    exact ⟨_, inS_ok hs, hB⟩
  · simp (disch := first | assumption | omega) only [e0, e1, e2, e3, e4, e5, e13, b13, h2, msgC, hk, go_sem, ↓reduceIte, Nat.reduceEqDiff, reduceCtorEq, Nat.reduceAdd, Nat.reduceLeDiff, Nat.reduceLT, reduceIte, Int.reduceBEq, Int.reduceBNe, Int.reduceLT, Int.reduceLE, Int.reduceAdd, Int.reduceSub, Int.reduceMul, Int.reduceNeg, Int.reduceEq, Int.reduceNe, Nat.reduceMul, Nat.reduceSub]
    refine callG_ok (halfIn_ok e m eo ow ol self other s n q X _ hb hs (by omega) hq hXl4 hXf hXt) (by simp (disch := first | assumption | omega) only [msgA, msgC, go_sem, ↓reduceIte, Nat.reduceEqDiff, reduceCtorEq, Nat.reduceAdd, Nat.reduceLeDiff, Nat.reduceLT, reduceIte, Int.reduceBEq, Int.reduceBNe, Int.reduceLT, Int.reduceLE, Int.reduceAdd, Int.reduceSub, Int.reduceMul, Int.reduceNeg, Int.reduceEq, Int.reduceNe, Nat.reduceMul, Nat.reduceSub]) ?_
    rintro _ h' ⟨rfl, hB⟩
    simp (disch := first | assumption | omega) only [go_sem, ↓reduceIte, Nat.reduceEqDiff, reduceCtorEq, Nat.reduceAdd, Nat.reduceLeDiff, Nat.reduceLT, reduceIte, Int.reduceBEq, Int.reduceBNe, Int.reduceLT, Int.reduceLE, Int.reduceAdd, Int.reduceSub, Int.reduceMul, Int.reduceNeg, Int.reduceEq, Int.reduceNe, Nat.reduceMul, Nat.reduceSub]
    subst hQ
    simp (disch := first | assumption | omega) only [R.gantlaw5_half_deed, go_sem, ↓reduceIte, Nat.reduceEqDiff, reduceCtorEq, Nat.reduceAdd, Nat.reduceLeDiff, Nat.reduceLT, reduceIte, Int.reduceBEq, Int.reduceBNe, Int.reduceLT, Int.reduceLE, Int.reduceAdd, Int.reduceSub, Int.reduceMul, Int.reduceNeg, Int.reduceEq, Int.reduceNe, Nat.reduceMul, Nat.reduceSub]
    exact ⟨_, inS_ok hs, hB⟩
  · simp (disch := first | assumption | omega) only [e0, e1, e2, e3, e4, e5, e13, b13, h2, msgC, hk, go_sem, ↓reduceIte, Nat.reduceEqDiff, reduceCtorEq, Nat.reduceAdd, Nat.reduceLeDiff, Nat.reduceLT, reduceIte, Int.reduceBEq, Int.reduceBNe, Int.reduceLT, Int.reduceLE, Int.reduceAdd, Int.reduceSub, Int.reduceMul, Int.reduceNeg, Int.reduceEq, Int.reduceNe, Nat.reduceMul, Nat.reduceSub]
    refine callG_ok (halfOut_ok e m eo ow ol self other s n a (IntKind.u32.wrap b) _ hb hs (by omega)) (by simp (disch := first | assumption | omega) only [go_sem, ↓reduceIte, Nat.reduceEqDiff, reduceCtorEq, Nat.reduceAdd, Nat.reduceLeDiff, Nat.reduceLT, reduceIte, Int.reduceBEq, Int.reduceBNe, Int.reduceLT, Int.reduceLE, Int.reduceAdd, Int.reduceSub, Int.reduceMul, Int.reduceNeg, Int.reduceEq, Int.reduceNe, Nat.reduceMul, Nat.reduceSub]) ?_
    rintro _ h' ⟨rfl, hB⟩
    simp (disch := first | assumption | omega) only [go_sem, ↓reduceIte, Nat.reduceEqDiff, reduceCtorEq, Nat.reduceAdd, Nat.reduceLeDiff, Nat.reduceLT, reduceIte, Int.reduceBEq, Int.reduceBNe, Int.reduceLT, Int.reduceLE, Int.reduceAdd, Int.reduceSub, Int.reduceMul, Int.reduceNeg, Int.reduceEq, Int.reduceNe, Nat.reduceMul, Nat.reduceSub]
    subst hQ
    simp (disch := first | assumption | omega) only [R.gantlaw5_half_deed, go_sem, ↓reduceIte, Nat.reduceEqDiff, reduceCtorEq, Nat.reduceAdd, Nat.reduceLeDiff, Nat.reduceLT, reduceIte, Int.reduceBEq, Int.reduceBNe, Int.reduceLT, Int.reduceLE, Int.reduceAdd, Int.reduceSub, Int.reduceMul, Int.reduceNeg, Int.reduceEq, Int.reduceNe, Nat.reduceMul, Nat.reduceSub]
    exact ⟨_, outS_ok hs (by unfold clampT; omega), hB⟩
  · have hB2 : Both (S.heap.set m (halfC self other { s with got := [] } w g1 (.lst .nil []))) e eo m ow ol self other s { s with got := [] } := hb.cells h3 h4 h5 h6 (.inl ⟨rfl, rfl⟩)
    unfold halfC at hB2
    simp only at hB2
    have hgl := hs.got
    rcases h7 with ⟨rfl, h7⟩ | ⟨ys, rfl, h7⟩
    · simp (disch := first | assumption | omega) only [e0, e1, e2, e3, e4, e5, e13, b13, h2, msgC, hk, get_set h2, List.set_set, go_sem, ↓reduceIte, Nat.reduceEqDiff, reduceCtorEq, Nat.reduceAdd, Nat.reduceLeDiff, Nat.reduceLT, reduceIte, Int.reduceBEq, Int.reduceBNe, Int.reduceLT, Int.reduceLE, Int.reduceAdd, Int.reduceSub, Int.reduceMul, Int.reduceNeg, Int.reduceEq, Int.reduceNe, Nat.reduceMul, Nat.reduceSub]
      refine callG_ok (Take_ok e eo self other s _ hB2.er) (by simp (disch := first | assumption | omega) only [go_sem, ↓reduceIte, Nat.reduceEqDiff, reduceCtorEq, Nat.reduceAdd, Nat.reduceLeDiff, Nat.reduceLT, reduceIte, Int.reduceBEq, Int.reduceBNe, Int.reduceLT, Int.reduceLE, Int.reduceAdd, Int.reduceSub, Int.reduceMul, Int.reduceNeg, Int.reduceEq, Int.reduceNe, Nat.reduceMul, Nat.reduceSub]) ?_
      rintro v h' ⟨hv, hq'⟩
      obtain ⟨eo', hB'⟩ := hB2.endQ hq'
      rcases hv with ⟨rfl, hv⟩ | ⟨zs, rfl, hv⟩
      · simp (disch := first | assumption | omega) only [e0, e1, e2, e3, e4, e5, e13, b13, h2, msgC, go_sem, ↓reduceIte, Nat.reduceEqDiff, reduceCtorEq, Nat.reduceAdd, Nat.reduceLeDiff, Nat.reduceLT, reduceIte, Int.reduceBEq, Int.reduceBNe, Int.reduceLT, Int.reduceLE, Int.reduceAdd, Int.reduceSub, Int.reduceMul, Int.reduceNeg, Int.reduceEq, Int.reduceNe, Nat.reduceMul, Nat.reduceSub]
        refine callG_ok (EqualFunc_ok .nil .nil s.got s.got _ _ (.inr rfl) (.inr rfl) (by rw [hv]; rfl) (by rw [hv]; rfl) (by rw [hv]; simp) (by rw [hv]; simp) _) (by simp (disch := first | assumption | omega) only [go_sem, ↓reduceIte, Nat.reduceEqDiff, reduceCtorEq, Nat.reduceAdd, Nat.reduceLeDiff, Nat.reduceLT, reduceIte, Int.reduceBEq, Int.reduceBNe, Int.reduceLT, Int.reduceLE, Int.reduceAdd, Int.reduceSub, Int.reduceMul, Int.reduceNeg, Int.reduceEq, Int.reduceNe, Nat.reduceMul, Nat.reduceSub]) ?_
        rintro _ _ ⟨rfl, hhh⟩
        rw [hhh, decide_eq_true rfl]
        clear hhh
        simp (disch := first | assumption | omega) only [go_sem, ↓reduceIte, Nat.reduceEqDiff, reduceCtorEq, Nat.reduceAdd, Nat.reduceLeDiff, Nat.reduceLT, reduceIte, Int.reduceBEq, Int.reduceBNe, Int.reduceLT, Int.reduceLE, Int.reduceAdd, Int.reduceSub, Int.reduceMul, Int.reduceNeg, Int.reduceEq, Int.reduceNe, Nat.reduceMul, Nat.reduceSub]
        subst hQ
        simp (disch := first | assumption | omega) only [R.gantlaw5_half_deed, go_sem, ↓reduceIte, Nat.reduceEqDiff, reduceCtorEq, Nat.reduceAdd, Nat.reduceLeDiff, Nat.reduceLT, reduceIte, Int.reduceBEq, Int.reduceBNe, Int.reduceLT, Int.reduceLE, Int.reduceAdd, Int.reduceSub, Int.reduceMul, Int.reduceNeg, Int.reduceEq, Int.reduceNe, Nat.reduceMul, Nat.reduceSub]
        exact ⟨_, takeS_ok hs, eo', ow, ol, hB'⟩
      · simp (disch := first | assumption | omega) only [e0, e1, e2, e3, e4, e5, e13, b13, h2, msgC, go_sem, ↓reduceIte, Nat.reduceEqDiff, reduceCtorEq, Nat.reduceAdd, Nat.reduceLeDiff, Nat.reduceLT, reduceIte, Int.reduceBEq, Int.reduceBNe, Int.reduceLT, Int.reduceLE, Int.reduceAdd, Int.reduceSub, Int.reduceMul, Int.reduceNeg, Int.reduceEq, Int.reduceNe, Nat.reduceMul, Nat.reduceSub]
        refine callG_ok (EqualFunc_ok .sh .nil s.got s.got _ _ (.inl rfl) (.inr rfl) hv (by rw [h7]; rfl) (by omega) (by omega) _) (by simp (disch := first | assumption | omega) only [go_sem, ↓reduceIte, Nat.reduceEqDiff, reduceCtorEq, Nat.reduceAdd, Nat.reduceLeDiff, Nat.reduceLT, reduceIte, Int.reduceBEq, Int.reduceBNe, Int.reduceLT, Int.reduceLE, Int.reduceAdd, Int.reduceSub, Int.reduceMul, Int.reduceNeg, Int.reduceEq, Int.reduceNe, Nat.reduceMul, Nat.reduceSub]) ?_
        rintro _ _ ⟨rfl, hhh⟩
        rw [hhh, decide_eq_true rfl]
        clear hhh
        simp (disch := first | assumption | omega) only [go_sem, ↓reduceIte, Nat.reduceEqDiff, reduceCtorEq, Nat.reduceAdd, Nat.reduceLeDiff, Nat.reduceLT, reduceIte, Int.reduceBEq, Int.reduceBNe, Int.reduceLT, Int.reduceLE, Int.reduceAdd, Int.reduceSub, Int.reduceMul, Int.reduceNeg, Int.reduceEq, Int.reduceNe, Nat.reduceMul, Nat.reduceSub]
        subst hQ
        simp (disch := first | assumption | omega) only [R.gantlaw5_half_deed, go_sem, ↓reduceIte, Nat.reduceEqDiff, reduceCtorEq, Nat.reduceAdd, Nat.reduceLeDiff, Nat.reduceLT, reduceIte, Int.reduceBEq, Int.reduceBNe, Int.reduceLT, Int.reduceLE, Int.reduceAdd, Int.reduceSub, Int.reduceMul, Int.reduceNeg, Int.reduceEq, Int.reduceNe, Nat.reduceMul, Nat.reduceSub]
        exact ⟨_, takeS_ok hs, eo', ow, ol, hB'⟩
    · simp (disch := first | assumption | omega) only [e0, e1, e2, e3, e4, e5, e13, b13, h2, msgC, hk, get_set h2, List.set_set, go_sem, ↓reduceIte, Nat.reduceEqDiff, reduceCtorEq, Nat.reduceAdd, Nat.reduceLeDiff, Nat.reduceLT, reduceIte, Int.reduceBEq, Int.reduceBNe, Int.reduceLT, Int.reduceLE, Int.reduceAdd, Int.reduceSub, Int.reduceMul, Int.reduceNeg, Int.reduceEq, Int.reduceNe, Nat.reduceMul, Nat.reduceSub]
      refine callG_ok (Take_ok e eo self other s _ hB2.er) (by simp (disch := first | assumption | omega) only [go_sem, ↓reduceIte, Nat.reduceEqDiff, reduceCtorEq, Nat.reduceAdd, Nat.reduceLeDiff, Nat.reduceLT, reduceIte, Int.reduceBEq, Int.reduceBNe, Int.reduceLT, Int.reduceLE, Int.reduceAdd, Int.reduceSub, Int.reduceMul, Int.reduceNeg, Int.reduceEq, Int.reduceNe, Nat.reduceMul, Nat.reduceSub]) ?_
      rintro v h' ⟨hv, hq'⟩
      obtain ⟨eo', hB'⟩ := hB2.endQ hq'
      rcases hv with ⟨rfl, hv⟩ | ⟨zs, rfl, hv⟩
      · simp (disch := first | assumption | omega) only [e0, e1, e2, e3, e4, e5, e13, b13, h2, msgC, go_sem, ↓reduceIte, Nat.reduceEqDiff, reduceCtorEq, Nat.reduceAdd, Nat.reduceLeDiff, Nat.reduceLT, reduceIte, Int.reduceBEq, Int.reduceBNe, Int.reduceLT, Int.reduceLE, Int.reduceAdd, Int.reduceSub, Int.reduceMul, Int.reduceNeg, Int.reduceEq, Int.reduceNe, Nat.reduceMul, Nat.reduceSub]
        refine callG_ok (EqualFunc_ok .nil .sh s.got s.got _ _ (.inr rfl) (.inl rfl) (by rw [hv]; rfl) h7 (by rw [hv]; simp) (by rw [hv]; simp) _) (by simp (disch := first | assumption | omega) only [go_sem, ↓reduceIte, Nat.reduceEqDiff, reduceCtorEq, Nat.reduceAdd, Nat.reduceLeDiff, Nat.reduceLT, reduceIte, Int.reduceBEq, Int.reduceBNe, Int.reduceLT, Int.reduceLE, Int.reduceAdd, Int.reduceSub, Int.reduceMul, Int.reduceNeg, Int.reduceEq, Int.reduceNe, Nat.reduceMul, Nat.reduceSub]) ?_
        rintro _ _ ⟨rfl, hhh⟩
        rw [hhh, decide_eq_true rfl]
        clear hhh
        simp (disch := first | assumption | omega) only [go_sem, ↓reduceIte, Nat.reduceEqDiff, reduceCtorEq, Nat.reduceAdd, Nat.reduceLeDiff, Nat.reduceLT, reduceIte, Int.reduceBEq, Int.reduceBNe, Int.reduceLT, Int.reduceLE, Int.reduceAdd, Int.reduceSub, Int.reduceMul, Int.reduceNeg, Int.reduceEq, Int.reduceNe, Nat.reduceMul, Nat.reduceSub]
        subst hQ
        simp (disch := first | assumption | omega) only [R.gantlaw5_half_deed, go_sem, ↓reduceIte, Nat.reduceEqDiff, reduceCtorEq, Nat.reduceAdd, Nat.reduceLeDiff, Nat.reduceLT, reduceIte, Int.reduceBEq, Int.reduceBNe, Int.reduceLT, Int.reduceLE, Int.reduceAdd, Int.reduceSub, Int.reduceMul, Int.reduceNeg, Int.reduceEq, Int.reduceNe, Nat.reduceMul, Nat.reduceSub]
        exact ⟨_, takeS_ok hs, eo', ow, ol, hB'⟩
      · simp (disch := first | assumption | omega) only [e0, e1, e2, e3, e4, e5, e13, b13, h2, msgC, go_sem, ↓reduceIte, Nat.reduceEqDiff, reduceCtorEq, Nat.reduceAdd, Nat.reduceLeDiff, Nat.reduceLT, reduceIte, Int.reduceBEq, Int.reduceBNe, Int.reduceLT, Int.reduceLE, Int.reduceAdd, Int.reduceSub, Int.reduceMul, Int.reduceNeg, Int.reduceEq, Int.reduceNe, Nat.reduceMul, Nat.reduceSub]
        refine callG_ok (EqualFunc_ok .sh .sh s.got s.got _ _ (.inl rfl) (.inl rfl) hv h7 (by omega) (by omega) _) (by simp (disch := first | assumption | omega) only [go_sem, ↓reduceIte, Nat.reduceEqDiff, reduceCtorEq, Nat.reduceAdd, Nat.reduceLeDiff, Nat.reduceLT, reduceIte, Int.reduceBEq, Int.reduceBNe, Int.reduceLT, Int.reduceLE, Int.reduceAdd, Int.reduceSub, Int.reduceMul, Int.reduceNeg, Int.reduceEq, Int.reduceNe, Nat.reduceMul, Nat.reduceSub]) ?_
        rintro _ _ ⟨rfl, hhh⟩
        rw [hhh, decide_eq_true rfl]
        clear hhh
        simp (disch := first | assumption | omega) only [go_sem, ↓reduceIte, Nat.reduceEqDiff, reduceCtorEq, Nat.reduceAdd, Nat.reduceLeDiff, Nat.reduceLT, reduceIte, Int.reduceBEq, Int.reduceBNe, Int.reduceLT, Int.reduceLE, Int.reduceAdd, Int.reduceSub, Int.reduceMul, Int.reduceNeg, Int.reduceEq, Int.reduceNe, Nat.reduceMul, Nat.reduceSub]
        subst hQ
        simp (disch := first | assumption | omega) only [R.gantlaw5_half_deed, go_sem, ↓reduceIte, Nat.reduceEqDiff, reduceCtorEq, Nat.reduceAdd, Nat.reduceLeDiff, Nat.reduceLT, reduceIte, Int.reduceBEq, Int.reduceBNe, Int.reduceLT, Int.reduceLE, Int.reduceAdd, Int.reduceSub, Int.reduceMul, Int.reduceNeg, Int.reduceEq, Int.reduceNe, Nat.reduceMul, Nat.reduceSub]
        exact ⟨_, takeS_ok hs, eo', ow, ol, hB'⟩
end Go.Proofs.Ytpdajkbfemcdlaa
/- The laws LinkPlays and LinkEnds. -/
set_option linter.unusedSimpArgs false
set_option linter.unusedVariables false
set_option maxRecDepth 10000
namespace Go.Proofs.Ytpdajkbfemcdlaa
open Go.Ge
theorem MsgsOk.ofPairs : ∀ (l : List (Own × Msg)), (∀ p ∈ l, Rdn p.1 p.2.Cells ∧ p.2.Cells.length * 16 ≤ reachBytes) → MsgsOk (l.map (·.2)) (l.map fun p => msgA p.1 p.2)
  | [], _ => rfl
  | p :: l, h => ⟨_, _, rfl, ⟨p.1, (h p (by simp)).1, (h p (by simp)).2, rfl⟩, MsgsOk.ofPairs l fun q hq => h q (by simp [hq])⟩
theorem arg_msgs {cs : List AVal} (h : HasL [.slice 64 true tyMsg] cs) : ∃ (o : Own) (l : List (Own × Msg)), packV false cs = .lst o (l.map fun p => msgA p.1 p.2) ∧ Rdn o l ∧ (∀ p ∈ l, Rdn p.1 p.2.Cells ∧ p.2.wf) ∧ l.length * 64 ≤ reachBytes := by
  obtain ⟨y, e, hy⟩ := pack1 h
  rw [e]
  exact has_list (f := fun p : Own × Msg => msgA p.1 p.2) (p := fun p => Rdn p.1 p.2.Cells ∧ p.2.wf) (fun cs hcs => by
    obtain ⟨o, m, rfl, h1, h2⟩ := has_msg cs hcs
    exact ⟨(o, m), rfl, h1, h2⟩) hy
theorem at_fault {D : List Fault} {i : Nat} (h : i < D.length) : at_ (faultsA D) (i : Int) = faultA D[i] := by
  simp [at_, faultsA, List.getD_eq_getElem?_getD, h]
def lk0 : Lk := ⟨0, 0, [], [], false⟩
theorem lk0_ok : lk0.ok 0 := ⟨by simp [lk0], by simp [lk0], by simp [lk0], by simp [lk0], by simp [lk0], by simp [lk0], by simp [lk0], by simp [lk0]⟩
theorem LinkEnds_law (self other : Int) (o q : Own) (D : List Fault) (xs : List AVal) (l : List Msg) (ho : Rdo o) (hD : D.length ≤ 1048576) (hq : Rdo q) (hx : MsgsOk l xs) (hl : l.length ≤ 4398046511104) :
    ACalls Try.prog F.gantlaw5_LinkEnds [.int .i64 self, .int .i64 other, .lst o (faultsA D), .lst q xs] [] (fun r _ => r = .bool true) := by
  have lD : (faultsA D).length = D.length := by simp [faultsA]
  refine ACalls.of_aw Try.func16 K.gantlaw5_LinkEnds (by simp [Try.f16]) ?_
  generalize hQ : retQ R.gantlaw5_LinkEnds _ = Q
  simp (disch := first | assumption | omega) only [C.gantlaw5_LinkEnds, go_sem, ↓reduceIte, Nat.reduceEqDiff, reduceCtorEq, Nat.reduceAdd, Nat.reduceLeDiff, Nat.reduceLT, reduceIte, Int.reduceBEq, Int.reduceBNe, Int.reduceLT, Int.reduceLE, Int.reduceAdd, Int.reduceSub, Int.reduceMul, Int.reduceNeg, Int.reduceEq, Int.reduceNe, Nat.reduceMul, Nat.reduceSub]
  refine callG_ok (New_ok 0 4 _) (by simp (disch := first | assumption | omega) only [go_sem, ↓reduceIte, Nat.reduceEqDiff, reduceCtorEq, Nat.reduceAdd, Nat.reduceLeDiff, Nat.reduceLT, reduceIte, Int.reduceBEq, Int.reduceBNe, Int.reduceLT, Int.reduceLE, Int.reduceAdd, Int.reduceSub, Int.reduceMul, Int.reduceNeg, Int.reduceEq, Int.reduceNe, Nat.reduceMul, Nat.reduceSub]) ?_
  rintro v h1 hv
  rcases hv with ⟨hv, _⟩ | ⟨_, rfl, ob0, rfl, _⟩
  · exfalso; omega
  simp (disch := first | assumption | omega) only [go_sem, ↓reduceIte, Nat.reduceEqDiff, reduceCtorEq, Nat.reduceAdd, Nat.reduceLeDiff, Nat.reduceLT, reduceIte, Int.reduceBEq, Int.reduceBNe, Int.reduceLT, Int.reduceLE, Int.reduceAdd, Int.reduceSub, Int.reduceMul, Int.reduceNeg, Int.reduceEq, Int.reduceNe, Nat.reduceMul, Nat.reduceSub]
  refine callG_ok (New_ok self other _) (by simp (disch := first | assumption | omega) only [go_sem, ↓reduceIte, Nat.reduceEqDiff, reduceCtorEq, Nat.reduceAdd, Nat.reduceLeDiff, Nat.reduceLT, reduceIte, Int.reduceBEq, Int.reduceBNe, Int.reduceLT, Int.reduceLE, Int.reduceAdd, Int.reduceSub, Int.reduceMul, Int.reduceNeg, Int.reduceEq, Int.reduceNe, Nat.reduceMul, Nat.reduceSub]) ?_
  rintro v h1 hv
  rcases hv with ⟨hv, rfl, hh⟩ | ⟨hv, rfl, ob, rfl, hE⟩
  · rw [hh]
    clear hh
    by_cases a1 : self < 0
    · simp (disch := first | assumption | omega) only [a1, go_sem, ↓reduceIte, Nat.reduceEqDiff, reduceCtorEq, Nat.reduceAdd, Nat.reduceLeDiff, Nat.reduceLT, reduceIte, Int.reduceBEq, Int.reduceBNe, Int.reduceLT, Int.reduceLE, Int.reduceAdd, Int.reduceSub, Int.reduceMul, Int.reduceNeg, Int.reduceEq, Int.reduceNe, Nat.reduceMul, Nat.reduceSub]
      subst hQ
      simp (disch := first | assumption | omega) only [R.gantlaw5_LinkEnds, go_sem, ↓reduceIte, Nat.reduceEqDiff, reduceCtorEq, Nat.reduceAdd, Nat.reduceLeDiff, Nat.reduceLT, reduceIte, Int.reduceBEq, Int.reduceBNe, Int.reduceLT, Int.reduceLE, Int.reduceAdd, Int.reduceSub, Int.reduceMul, Int.reduceNeg, Int.reduceEq, Int.reduceNe, Nat.reduceMul, Nat.reduceSub]
    by_cases a2 : (4 : Int) < self
    · simp (disch := first | assumption | omega) only [a1, a2, go_sem, ↓reduceIte, Nat.reduceEqDiff, reduceCtorEq, Nat.reduceAdd, Nat.reduceLeDiff, Nat.reduceLT, reduceIte, Int.reduceBEq, Int.reduceBNe, Int.reduceLT, Int.reduceLE, Int.reduceAdd, Int.reduceSub, Int.reduceMul, Int.reduceNeg, Int.reduceEq, Int.reduceNe, Nat.reduceMul, Nat.reduceSub]
      subst hQ
      simp (disch := first | assumption | omega) only [R.gantlaw5_LinkEnds, go_sem, ↓reduceIte, Nat.reduceEqDiff, reduceCtorEq, Nat.reduceAdd, Nat.reduceLeDiff, Nat.reduceLT, reduceIte, Int.reduceBEq, Int.reduceBNe, Int.reduceLT, Int.reduceLE, Int.reduceAdd, Int.reduceSub, Int.reduceMul, Int.reduceNeg, Int.reduceEq, Int.reduceNe, Nat.reduceMul, Nat.reduceSub]
    by_cases a3 : other < 0
    · simp (disch := first | assumption | omega) only [a1, a2, a3, go_sem, ↓reduceIte, Nat.reduceEqDiff, reduceCtorEq, Nat.reduceAdd, Nat.reduceLeDiff, Nat.reduceLT, reduceIte, Int.reduceBEq, Int.reduceBNe, Int.reduceLT, Int.reduceLE, Int.reduceAdd, Int.reduceSub, Int.reduceMul, Int.reduceNeg, Int.reduceEq, Int.reduceNe, Nat.reduceMul, Nat.reduceSub]
      subst hQ
      simp (disch := first | assumption | omega) only [R.gantlaw5_LinkEnds, go_sem, ↓reduceIte, Nat.reduceEqDiff, reduceCtorEq, Nat.reduceAdd, Nat.reduceLeDiff, Nat.reduceLT, reduceIte, Int.reduceBEq, Int.reduceBNe, Int.reduceLT, Int.reduceLE, Int.reduceAdd, Int.reduceSub, Int.reduceMul, Int.reduceNeg, Int.reduceEq, Int.reduceNe, Nat.reduceMul, Nat.reduceSub]
    by_cases a4 : (4 : Int) < other
    · simp (disch := first | assumption | omega) only [a1, a2, a3, a4, go_sem, ↓reduceIte, Nat.reduceEqDiff, reduceCtorEq, Nat.reduceAdd, Nat.reduceLeDiff, Nat.reduceLT, reduceIte, Int.reduceBEq, Int.reduceBNe, Int.reduceLT, Int.reduceLE, Int.reduceAdd, Int.reduceSub, Int.reduceMul, Int.reduceNeg, Int.reduceEq, Int.reduceNe, Nat.reduceMul, Nat.reduceSub]
      subst hQ
      simp (disch := first | assumption | omega) only [R.gantlaw5_LinkEnds, go_sem, ↓reduceIte, Nat.reduceEqDiff, reduceCtorEq, Nat.reduceAdd, Nat.reduceLeDiff, Nat.reduceLT, reduceIte, Int.reduceBEq, Int.reduceBNe, Int.reduceLT, Int.reduceLE, Int.reduceAdd, Int.reduceSub, Int.reduceMul, Int.reduceNeg, Int.reduceEq, Int.reduceNe, Nat.reduceMul, Nat.reduceSub]
    have a5 : self = other := by omega
    simp (disch := first | assumption | omega) only [a1, a2, a3, a4, eq_true a5, go_sem, ↓reduceIte, Nat.reduceEqDiff, reduceCtorEq, Nat.reduceAdd, Nat.reduceLeDiff, Nat.reduceLT, reduceIte, Int.reduceBEq, Int.reduceBNe, Int.reduceLT, Int.reduceLE, Int.reduceAdd, Int.reduceSub, Int.reduceMul, Int.reduceNeg, Int.reduceEq, Int.reduceNe, Nat.reduceMul, Nat.reduceSub]
    subst hQ
    simp (disch := first | assumption | omega) only [R.gantlaw5_LinkEnds, go_sem, ↓reduceIte, Nat.reduceEqDiff, reduceCtorEq, Nat.reduceAdd, Nat.reduceLeDiff, Nat.reduceLT, reduceIte, Int.reduceBEq, Int.reduceBNe, Int.reduceLT, Int.reduceLE, Int.reduceAdd, Int.reduceSub, Int.reduceMul, Int.reduceNeg, Int.reduceEq, Int.reduceNe, Nat.reduceMul, Nat.reduceSub]
  have a1 : ¬self < 0 := by omega
  have a2 : ¬(4 : Int) < self := by omega
  have a3 : ¬other < 0 := by omega
  have a4 : ¬(4 : Int) < other := by omega
  have a5 : ¬self = other := by omega
  simp (disch := first | assumption | omega) only [a1, a2, a3, a4, a5, go_sem, ↓reduceIte, Nat.reduceEqDiff, reduceCtorEq, Nat.reduceAdd, Nat.reduceLeDiff, Nat.reduceLT, reduceIte, Int.reduceBEq, Int.reduceBNe, Int.reduceLT, Int.reduceLE, Int.reduceAdd, Int.reduceSub, Int.reduceMul, Int.reduceNeg, Int.reduceEq, Int.reduceNe, Nat.reduceMul, Nat.reduceSub]
  have hB0 : Both ([ob0, ob] ++ [halfC self other lk0 (.lst .nil []) (.lst .nil []) (.lst .nil [])]) 1 [] 2 [] [] self other lk0 lk0 := by
    refine ⟨hE.frame (S := []) Fr.app (by simp) (by simp), ⟨.lst .nil [], .lst .nil [], .lst .nil [], [], rfl, SlO.nil, rfl, by simp, SlO.nil, .inl ⟨rfl, rfl⟩⟩, by simp, by simp, by simp, by simp, by simp, by simp⟩
  refine aw_count (fun d S => ∃ (i : Nat) (s : Lk), i + d = D.length ∧ S.env 69 = .int .i64 i ∧ S.env 68 = .int .i64 D.length ∧ S.env 67 = .lst o (faultsA D) ∧ S.env 13 = .hp 2 0 ∧ S.env 11 = .hp 1 0 ∧ S.env 3 = .lst q xs ∧ s.ok i ∧ BothQ 1 2 self other s S.heap) (n := D.length)
    ⟨0, lk0, by omega, by simp (disch := first | assumption | omega) only [go_sem, ↓reduceIte, Nat.reduceEqDiff, reduceCtorEq, Nat.reduceAdd, Nat.reduceLeDiff, Nat.reduceLT, reduceIte, Int.reduceBEq, Int.reduceBNe, Int.reduceLT, Int.reduceLE, Int.reduceAdd, Int.reduceSub, Int.reduceMul, Int.reduceNeg, Int.reduceEq, Int.reduceNe, Nat.reduceMul, Nat.reduceSub], by simp (disch := first | assumption | omega) only [lD, go_sem, ↓reduceIte, Nat.reduceEqDiff, reduceCtorEq, Nat.reduceAdd, Nat.reduceLeDiff, Nat.reduceLT, reduceIte, Int.reduceBEq, Int.reduceBNe, Int.reduceLT, Int.reduceLE, Int.reduceAdd, Int.reduceSub, Int.reduceMul, Int.reduceNeg, Int.reduceEq, Int.reduceNe, Nat.reduceMul, Nat.reduceSub], by simp (disch := first | assumption | omega) only [go_sem, ↓reduceIte, Nat.reduceEqDiff, reduceCtorEq, Nat.reduceAdd, Nat.reduceLeDiff, Nat.reduceLT, reduceIte, Int.reduceBEq, Int.reduceBNe, Int.reduceLT, Int.reduceLE, Int.reduceAdd, Int.reduceSub, Int.reduceMul, Int.reduceNeg, Int.reduceEq, Int.reduceNe, Nat.reduceMul, Nat.reduceSub], by simp (disch := first | assumption | omega) only [go_sem, ↓reduceIte, Nat.reduceEqDiff, reduceCtorEq, Nat.reduceAdd, Nat.reduceLeDiff, Nat.reduceLT, reduceIte, Int.reduceBEq, Int.reduceBNe, Int.reduceLT, Int.reduceLE, Int.reduceAdd, Int.reduceSub, Int.reduceMul, Int.reduceNeg, Int.reduceEq, Int.reduceNe, Nat.reduceMul, Nat.reduceSub], by simp (disch := first | assumption | omega) only [go_sem, ↓reduceIte, Nat.reduceEqDiff, reduceCtorEq, Nat.reduceAdd, Nat.reduceLeDiff, Nat.reduceLT, reduceIte, Int.reduceBEq, Int.reduceBNe, Int.reduceLT, Int.reduceLE, Int.reduceAdd, Int.reduceSub, Int.reduceMul, Int.reduceNeg, Int.reduceEq, Int.reduceNe, Nat.reduceMul, Nat.reduceSub], by simp (disch := first | assumption | omega) only [go_sem, ↓reduceIte, Nat.reduceEqDiff, reduceCtorEq, Nat.reduceAdd, Nat.reduceLeDiff, Nat.reduceLT, reduceIte, Int.reduceBEq, Int.reduceBNe, Int.reduceLT, Int.reduceLE, Int.reduceAdd, Int.reduceSub, Int.reduceMul, Int.reduceNeg, Int.reduceEq, Int.reduceNe, Nat.reduceMul, Nat.reduceSub], lk0_ok, [], [], [], by simp (disch := first | assumption | omega) only [go_sem, ↓reduceIte, Nat.reduceEqDiff, reduceCtorEq, Nat.reduceAdd, Nat.reduceLeDiff, Nat.reduceLT, reduceIte, Int.reduceBEq, Int.reduceBNe, Int.reduceLT, Int.reduceLE, Int.reduceAdd, Int.reduceSub, Int.reduceMul, Int.reduceNeg, Int.reduceEq, Int.reduceNe, Nat.reduceMul, Nat.reduceSub]; exact hB0⟩ ?_
  rintro d S ⟨i, s, hid, eI, eN, eL, eM, eE, eX, hs, eo, ow, ol, hB⟩
  by_cases hlt : (i : Int) < D.length
  · have hi : i < D.length := by omega
    have hat := at_fault hi
    have g0 : Int.toNat 1 = 1 := rfl
    have g1 : Int.toNat 2 = 2 := rfl
    have g2 : ((3 : Nat) : Int) = 3 := rfl
    simp (disch := first | assumption | omega) only [eI, eN, eL, eM, eE, eX, hlt, hat, faultA, lD, g0, g1, g2, go_sem, ↓reduceIte, Nat.reduceEqDiff, reduceCtorEq, Nat.reduceAdd, Nat.reduceLeDiff, Nat.reduceLT, reduceIte, Int.reduceBEq, Int.reduceBNe, Int.reduceLT, Int.reduceLE, Int.reduceAdd, Int.reduceSub, Int.reduceMul, Int.reduceNeg, Int.reduceEq, Int.reduceNe, Nat.reduceMul, Nat.reduceSub]
    refine callG_ok (deed_ok 1 2 eo ow ol self other s i _ _ _ q xs l _ hB hs (by omega) hq hx hl) (by simp (disch := first | assumption | omega) only [go_sem, ↓reduceIte, Nat.reduceEqDiff, reduceCtorEq, Nat.reduceAdd, Nat.reduceLeDiff, Nat.reduceLT, reduceIte, Int.reduceBEq, Int.reduceBNe, Int.reduceLT, Int.reduceLE, Int.reduceAdd, Int.reduceSub, Int.reduceMul, Int.reduceNeg, Int.reduceEq, Int.reduceNe, Nat.reduceMul, Nat.reduceSub]) ?_
    rintro _ h' ⟨rfl, s', hs', eo', ow', ol', hB'⟩
    obtain ⟨w, g1, g, L, h2, h3, h4, _⟩ := hB'.get
    have hlw : L.length = s'.wait.length := by have := congrArg List.length h4; simpa using this
    have hor : (w = .lst .nil [] ∧ L = []) ∨ ∃ id off cap, w = .ref id off L.length cap := by
      rcases h3.cases with h | ⟨id, off, cap, h, _⟩
      · exact .inl h
      · exact .inr ⟨_, _, _, h⟩
    rcases hor with ⟨rfl, rfl⟩ | ⟨id, off, cap, rfl⟩
    · simp (disch := first | assumption | omega) only [eI, eN, eL, eM, eE, eX, h2, go_sem, ↓reduceIte, Nat.reduceEqDiff, reduceCtorEq, Nat.reduceAdd, Nat.reduceLeDiff, Nat.reduceLT, reduceIte, Int.reduceBEq, Int.reduceBNe, Int.reduceLT, Int.reduceLE, Int.reduceAdd, Int.reduceSub, Int.reduceMul, Int.reduceNeg, Int.reduceEq, Int.reduceNe, Nat.reduceMul, Nat.reduceSub]
      refine callqG_ok (Waits_ok 1 eo' self other s' _ hB'.er) (by simp (disch := first | assumption | omega) only [go_sem, ↓reduceIte, Nat.reduceEqDiff, reduceCtorEq, Nat.reduceAdd, Nat.reduceLeDiff, Nat.reduceLT, reduceIte, Int.reduceBEq, Int.reduceBNe, Int.reduceLT, Int.reduceLE, Int.reduceAdd, Int.reduceSub, Int.reduceMul, Int.reduceNeg, Int.reduceEq, Int.reduceNe, Nat.reduceMul, Nat.reduceSub]) ?_
      rintro _ _ ⟨rfl, hhh⟩
      refine ⟨hhh, ?_⟩
      rw [hhh]
      clear hhh
      have h0 : (s'.wait.length : Int) = 0 := by simp at hlw; omega
      simp (disch := first | assumption | omega) only [eI, eN, eL, eM, eE, eX, h0, go_sem, ↓reduceIte, Nat.reduceEqDiff, reduceCtorEq, Nat.reduceAdd, Nat.reduceLeDiff, Nat.reduceLT, reduceIte, Int.reduceBEq, Int.reduceBNe, Int.reduceLT, Int.reduceLE, Int.reduceAdd, Int.reduceSub, Int.reduceMul, Int.reduceNeg, Int.reduceEq, Int.reduceNe, Nat.reduceMul, Nat.reduceSub]
      exact ⟨d - 1, by omega, i + 1, s', by omega, by simp, by simpa using hs', eo', ow', ol', hB'⟩
    · simp (disch := first | assumption | omega) only [eI, eN, eL, eM, eE, eX, h2, go_sem, ↓reduceIte, Nat.reduceEqDiff, reduceCtorEq, Nat.reduceAdd, Nat.reduceLeDiff, Nat.reduceLT, reduceIte, Int.reduceBEq, Int.reduceBNe, Int.reduceLT, Int.reduceLE, Int.reduceAdd, Int.reduceSub, Int.reduceMul, Int.reduceNeg, Int.reduceEq, Int.reduceNe, Nat.reduceMul, Nat.reduceSub]
      refine callqG_ok (Waits_ok 1 eo' self other s' _ hB'.er) (by simp (disch := first | assumption | omega) only [go_sem, ↓reduceIte, Nat.reduceEqDiff, reduceCtorEq, Nat.reduceAdd, Nat.reduceLeDiff, Nat.reduceLT, reduceIte, Int.reduceBEq, Int.reduceBNe, Int.reduceLT, Int.reduceLE, Int.reduceAdd, Int.reduceSub, Int.reduceMul, Int.reduceNeg, Int.reduceEq, Int.reduceNe, Nat.reduceMul, Nat.reduceSub]) ?_
      rintro _ _ ⟨rfl, hhh⟩
      refine ⟨hhh, ?_⟩
      rw [hhh]
      clear hhh
      simp (disch := first | assumption | omega) only [eI, eN, eL, eM, eE, eX, hlw, go_sem, ↓reduceIte, Nat.reduceEqDiff, reduceCtorEq, Nat.reduceAdd, Nat.reduceLeDiff, Nat.reduceLT, reduceIte, Int.reduceBEq, Int.reduceBNe, Int.reduceLT, Int.reduceLE, Int.reduceAdd, Int.reduceSub, Int.reduceMul, Int.reduceNeg, Int.reduceEq, Int.reduceNe, Nat.reduceMul, Nat.reduceSub]
      exact ⟨d - 1, by omega, i + 1, s', by omega, by simp, by simpa using hs', eo', ow', ol', hB'⟩
  · simp (disch := first | assumption | omega) only [eI, eN, eL, eM, eE, eX, hlt, go_sem, ↓reduceIte, Nat.reduceEqDiff, reduceCtorEq, Nat.reduceAdd, Nat.reduceLeDiff, Nat.reduceLT, reduceIte, Int.reduceBEq, Int.reduceBNe, Int.reduceLT, Int.reduceLE, Int.reduceAdd, Int.reduceSub, Int.reduceMul, Int.reduceNeg, Int.reduceEq, Int.reduceNe, Nat.reduceMul, Nat.reduceSub]
    subst hQ
    simp (disch := first | assumption | omega) only [R.gantlaw5_LinkEnds, go_sem, ↓reduceIte, Nat.reduceEqDiff, reduceCtorEq, Nat.reduceAdd, Nat.reduceLeDiff, Nat.reduceLT, reduceIte, Int.reduceBEq, Int.reduceBNe, Int.reduceLT, Int.reduceLE, Int.reduceAdd, Int.reduceSub, Int.reduceMul, Int.reduceNeg, Int.reduceEq, Int.reduceNe, Nat.reduceMul, Nat.reduceSub]
end Go.Proofs.Ytpdajkbfemcdlaa
