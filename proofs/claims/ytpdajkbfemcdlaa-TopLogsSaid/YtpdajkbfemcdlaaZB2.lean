import Derived.Test.YtpdajkbfemcdlaaZB1
/- The law TopLogs. -/
set_option linter.unusedSimpArgs false
set_option linter.unusedVariables false
set_option maxRecDepth 10000
namespace Go.Proofs.Ytpdajkbfemcdlaa
open Go.Ge
/-! ### Lists of numbers, read -/
def RowI (r : List Int) (x : AVal) : Prop := ∃ q, Rdn q r ∧ x = .lst q (ints .i64 r)
theorem has_rowsI {y : AVal} (h : HasC (.slice 24 false [.slice 8 false [.int .i64]]) y) : ∃ (o : Own) (l : List (List Int)) (xs : List AVal), y = .lst o xs ∧ Rdn o l ∧ Each2 RowI l xs ∧ (∀ r ∈ l, ∀ c ∈ r, inI64 c) ∧ l.length * 24 ≤ reachBytes := by
  simp only [HasC] at h
  obtain ⟨o, xs, rfl, ho, _, hl, hel⟩ := h
  have key : ∀ xs : List AVal, (∀ y ∈ xs, ∃ cs, y = packV false cs ∧ HasL [.slice 8 false [.int .i64]] cs) → ∃ l : List (List Int), Each2 RowI l xs ∧ ∀ r ∈ l, ∀ c ∈ r, inI64 c := by
    intro xs
    induction xs with
    | nil => intro _; exact ⟨[], rfl, by simp⟩
    | cons x xs ih =>
      intro h
      obtain ⟨l, h1, h2⟩ := ih fun y hy => h y (by simp [hy])
      obtain ⟨cs, e, hc⟩ := h x (by simp)
      obtain ⟨q, r, e1, e2, e3, e4⟩ := arg_ints hc
      refine ⟨r :: l, ⟨x, xs, rfl, ⟨q, e2, by rw [e, e1]⟩, h1⟩, ?_⟩
      intro r' hr'
      rcases List.mem_cons.1 hr' with rfl | hr'
      · exact e3
      · exact h2 r' hr'
  obtain ⟨l, h1, h2⟩ := key xs hel
  have hlen := h1.length
  refine ⟨o, l, xs, rfl, ?_, h1, h2, by rw [← hlen]; exact hl⟩
  rcases ho with rfl | ⟨rfl, rfl⟩
  · exact ⟨.inl rfl, fun e => by cases e⟩
  · refine ⟨.inr rfl, fun _ => ?_⟩
    simp at hlen
    exact List.eq_nil_of_length_eq_zero hlen.symm
theorem arg_rowsI {cs : List AVal} (h : HasL [.slice 24 false [.slice 8 false [.int .i64]]] cs) : ∃ (o : Own) (l : List (List Int)) (xs : List AVal), packV false cs = .lst o xs ∧ Rdn o l ∧ Each2 RowI l xs ∧ (∀ r ∈ l, ∀ c ∈ r, inI64 c) ∧ l.length * 24 ≤ reachBytes := by
  obtain ⟨y, e, h⟩ := pack1 h
  rw [e]; exact has_rowsI h
/-! ### Where records end -/
def endsL (L : List (List Int)) : List Int := (List.range (L.length + 1)).map fun k => ((book 0 (L.take k)).length : Int)
theorem endsL_length (L : List (List Int)) : (endsL L).length = L.length + 1 := by simp [endsL]
theorem endsL_snoc (L : List (List Int)) (r : List Int) : endsL (L ++ [r]) = endsL L ++ [((book 0 (L ++ [r])).length : Int)] := by
  unfold endsL
  rw [List.length_append, List.length_singleton, List.range_succ (n := L.length + 1), List.map_append]
  congr 1
  · refine List.map_congr_left fun k hk => ?_
    rw [List.take_append_of_le_length (by have := List.mem_range.1 hk; omega)]
  · simp only [List.map_cons, List.map_nil]
    rw [List.take_of_length_le (by simp)]
theorem endsL_get {L : List (List Int)} {k : Nat} (h : k ≤ L.length) : at_ (ints .i64 (endsL L)) (k : Int) = .int .i64 ((book 0 (L.take k)).length : Int) := by
  have h2 : k < (endsL L).length := by rw [endsL_length]; omega
  show (ints .i64 (endsL L)).getD (k : Int).toNat .junk = _
  rw [Int.toNat_natCast, getD_ints _ _ h2]
  simp [endsL, List.getD_eq_getElem?_getD, show k < L.length + 1 by omega]
theorem book_mono {a b : List (List Int)} (h : a <+: b) : book 0 a <+: book 0 b := by
  obtain ⟨t, rfl⟩ := h
  rw [book_append]; exact List.prefix_append _ _
theorem scan_whole {L rs : List (List Int)} {c : Nat} (hs : ∀ r ∈ L, r.length ≤ 2000) (h : IsScan ((book 0 L).take c) rs) :
    rs = L.take rs.length ∧ rs.length ≤ L.length ∧ (book 0 rs).length ≤ c ∧ (rs.length < L.length → c < (book 0 (L.take (rs.length + 1))).length) := by
  have hp := h.cut (List.take_prefix _ _) hs
  have he := List.prefix_iff_eq_take.1 hp
  have hl := h.pre.length_le
  rw [List.length_take] at hl
  refine ⟨he, hp.length_le, by omega, fun hlt => ?_⟩
  refine Nat.lt_of_not_le fun hc => ?_
  have e : L.take (rs.length + 1) = rs ++ [L[rs.length]] := by
    rw [List.take_add_one, ← he, List.getElem?_eq_getElem hlt]; rfl
  refine h.max L[rs.length] (hs _ (List.getElem_mem hlt)) ?_
  rw [← e]
  have hm := book_mono (List.take_prefix (rs.length + 1) L)
  have hm' := List.prefix_iff_eq_take.1 hm
  rw [hm']
  exact List.take_prefix_take_left hc
theorem ends_le {L rs : List (List Int)} (he : rs = L.take rs.length) {k : Nat} (hk : k ≤ rs.length) : (book 0 (L.take k)).length ≤ (book 0 rs).length := by
  have h1 : L.take k <+: L.take rs.length := List.take_prefix_take_left hk
  rw [← he] at h1
  exact (book_mono h1).length_le
theorem sizeOf'_le {M : Nat} : ∀ {L : List (List Int)}, (∀ r ∈ L, r.length ≤ M) → sizeOf' L ≤ L.length * (6 + M)
  | [], _ => by simp [sizeOf']
  | r :: L, h => by
    have h1 := sizeOf'_le (L := L) fun r hr => h r (by simp [hr])
    have h2 := h r (by simp)
    simp only [sizeOf', List.map_cons, List.sum_cons, List.length_cons] at h1 ⊢
    rw [Nat.succ_mul]; omega
/-- The records of messages. -/
def logL (l : List (Own × Msg)) : List (List Int) := l.map fun p => frame p.2
def mRow : List (Own × Msg) → AVal
  | [] => .lst .nil []
  | p :: l => .lst (.app 6) ((p :: l).map fun p => msgA p.1 p.2)
def PutOk (p : Own × Msg) : Prop := Rdo p.1 ∧ checkF p.2 = 0 ∧ inU32 p.2.Clock ∧ p.2.Cells.length ≤ 8
theorem logL_short {l : List (Own × Msg)} (h : ∀ p ∈ l, PutOk p) : ∀ r ∈ logL l, r.length ≤ 33 := by
  intro r hr
  obtain ⟨p, hp, rfl⟩ := List.mem_map.1 hr
  have := (h p hp).2.2.2
  rw [frame_length]; omega
theorem logL_size {l : List (Own × Msg)} (h : ∀ p ∈ l, PutOk p) : (book 0 (logL l)).length ≤ 39 * l.length := by
  have := sizeOf'_le (logL_short h)
  rw [book_length]
  have e : (logL l).length = l.length := by simp [logL]
  omega
theorem logL_u8 (l : List (Own × Msg)) : ∀ x ∈ book 0 (logL l), inU8 x := by
  refine book_u8 0 _ fun r hr => ?_
  obtain ⟨p, hp, rfl⟩ := List.mem_map.1 hr
  exact frame_u8 p.2
theorem mRow_rd (l : List (Own × Msg)) : ∃ q, Rdo q ∧ rdv (mRow l) = .lst q (l.map fun p => msgA p.1 p.2) := by
  cases l with
  | nil => exact ⟨.nil, .inr rfl, rfl⟩
  | cons b r => exact ⟨.sh, .inl rfl, rfl⟩
theorem TopLogs_law (o : Own) (G : List (List Int)) (xs : List AVal) (cut : Int) (ho : Rdn o G) (hx : Each2 RowI G xs) (hG : ∀ r ∈ G, ∀ c ∈ r, inI64 c) (hn : G.length ≤ 4611686018427387904) (hc : inI64 cut) :
    ACalls Try.prog F.ganttop_TopLogs [.lst o xs, .int .i64 cut] [] (fun r _ => r = .bool true) := by
  have lx := hx.length
  have ho1 := ho.1
  have hIS0 : IsScan [] [] := IsScan.book (rs := []) (by simp)
  refine ACalls.of_aw Try.func14 K.ganttop_TopLogs (by simp [Try.f14]) ?_
  generalize hQ : retQ R.ganttop_TopLogs _ = Q
  simp (disch := first | assumption | omega) only [C.ganttop_TopLogs, go_sem, ↓reduceIte, Nat.reduceEqDiff, reduceCtorEq, Nat.reduceAdd, Nat.reduceLeDiff, Nat.reduceLT, reduceIte, Int.reduceBEq, Int.reduceBNe, Int.reduceLT, Int.reduceLE, Int.reduceAdd, Int.reduceSub, Int.reduceMul, Int.reduceNeg, Int.reduceEq, Int.reduceNe, Nat.reduceMul, Nat.reduceSub]
  refine callG_ok (Add_ok .nil .sh [] [1] ⟨.inr rfl, fun _ => rfl⟩ ⟨.inl rfl, fun e => by cases e⟩ (by simp) (by simp [inU8]) (by simp) (by simp) _) (by simp (disch := first | assumption | omega) only [go_sem, ↓reduceIte, Nat.reduceEqDiff, reduceCtorEq, Nat.reduceAdd, Nat.reduceLeDiff, Nat.reduceLT, reduceIte, Int.reduceBEq, Int.reduceBNe, Int.reduceLT, Int.reduceLE, Int.reduceAdd, Int.reduceSub, Int.reduceMul, Int.reduceNeg, Int.reduceEq, Int.reduceNe, Nat.reduceMul, Nat.reduceSub]) ?_
  rintro _ _ ⟨hv, hhh⟩
  rw [hhh]
  clear hhh
  rcases hv with ⟨hh, _⟩ | ⟨_, rs0, hS0, hv⟩
  · simp at hh
  obtain rfl := hIS0.unique hS0
  have hb7 : (((book 0 ([] ++ [[1]])).length : Nat) : Int) = 7 := by rw [book_length]; rfl
  rcases hv with ⟨hh, _⟩ | ⟨_, rfl⟩
  · simp [book] at hh
  rw [List.nil_append] at hb7 ⊢
  simp (disch := first | assumption | omega) only [hb7, go_sem, ↓reduceIte, Nat.reduceEqDiff, reduceCtorEq, Nat.reduceAdd, Nat.reduceLeDiff, Nat.reduceLT, reduceIte, Int.reduceBEq, Int.reduceBNe, Int.reduceLT, Int.reduceLE, Int.reduceAdd, Int.reduceSub, Int.reduceMul, Int.reduceNeg, Int.reduceEq, Int.reduceNe, Nat.reduceMul, Nat.reduceSub]
  obtain ⟨m, hm1, hm2, hm3⟩ : ∃ m : Nat, (if (12 : Int) < xs.length then 12 else (xs.length : Int)) = (m : Int) ∧ m ≤ 12 ∧ m ≤ G.length := by
    split
    · exact ⟨12, rfl, by omega, by omega⟩
    · exact ⟨xs.length, rfl, by omega, by omega⟩
  simp (disch := first | assumption | omega) only [hm1, go_sem, ↓reduceIte, Nat.reduceEqDiff, reduceCtorEq, Nat.reduceAdd, Nat.reduceLeDiff, Nat.reduceLT, reduceIte, Int.reduceBEq, Int.reduceBNe, Int.reduceLT, Int.reduceLE, Int.reduceAdd, Int.reduceSub, Int.reduceMul, Int.reduceNeg, Int.reduceEq, Int.reduceNe, Nat.reduceMul, Nat.reduceSub]
  refine ⟨⟨by omega, hx.all (fun r _ x hr => by obtain ⟨q, _, rfl⟩ := hr; rfl)⟩, ?_⟩
  have hL := hx.take m
  have hLlen : (G.take m).length = m := by simp; omega
  have hLu : ∀ r ∈ G.take m, ∀ c ∈ r, inI64 c := fun r hr => hG r (List.mem_of_mem_take hr)
  have hXlen : (xs.take m).length = m := by simp; omega
  generalize G.take m = GG at *
  generalize xs.take m = XS at *
  refine aw_count (fun d S => ∃ (i : Nat) (l : List (Own × Msg)) (ob : Own), i + d = m ∧ Rdn ob (book 0 (logL l)) ∧ (∀ p ∈ l, PutOk p) ∧ l.length ≤ i ∧ S.env 43 = .int .i64 i ∧ S.env 42 = .int .i64 m ∧ S.env 41 = .lst .sh XS ∧ S.env 1 = .int .i64 cut ∧ S.env 7 = .lst ob (ints .u8 (book 0 (logL l))) ∧ S.env 8 = mRow l ∧ S.env 9 = .lst (.app 1) (ints .i64 (endsL (logL l))) ∧ S.heap = []) (n := m)
    ⟨0, [], .nil, by omega, ⟨.inr rfl, fun _ => rfl⟩, by simp, by simp, by simp (disch := first | assumption | omega) only [go_sem, ↓reduceIte, Nat.reduceEqDiff, reduceCtorEq, Nat.reduceAdd, Nat.reduceLeDiff, Nat.reduceLT, reduceIte, Int.reduceBEq, Int.reduceBNe, Int.reduceLT, Int.reduceLE, Int.reduceAdd, Int.reduceSub, Int.reduceMul, Int.reduceNeg, Int.reduceEq, Int.reduceNe, Nat.reduceMul, Nat.reduceSub], by simp (disch := first | assumption | omega) only [hXlen, go_sem, ↓reduceIte, Nat.reduceEqDiff, reduceCtorEq, Nat.reduceAdd, Nat.reduceLeDiff, Nat.reduceLT, reduceIte, Int.reduceBEq, Int.reduceBNe, Int.reduceLT, Int.reduceLE, Int.reduceAdd, Int.reduceSub, Int.reduceMul, Int.reduceNeg, Int.reduceEq, Int.reduceNe, Nat.reduceMul, Nat.reduceSub], by simp (disch := first | assumption | omega) only [go_sem, ↓reduceIte, Nat.reduceEqDiff, reduceCtorEq, Nat.reduceAdd, Nat.reduceLeDiff, Nat.reduceLT, reduceIte, Int.reduceBEq, Int.reduceBNe, Int.reduceLT, Int.reduceLE, Int.reduceAdd, Int.reduceSub, Int.reduceMul, Int.reduceNeg, Int.reduceEq, Int.reduceNe, Nat.reduceMul, Nat.reduceSub], by simp (disch := first | assumption | omega) only [go_sem, ↓reduceIte, Nat.reduceEqDiff, reduceCtorEq, Nat.reduceAdd, Nat.reduceLeDiff, Nat.reduceLT, reduceIte, Int.reduceBEq, Int.reduceBNe, Int.reduceLT, Int.reduceLE, Int.reduceAdd, Int.reduceSub, Int.reduceMul, Int.reduceNeg, Int.reduceEq, Int.reduceNe, Nat.reduceMul, Nat.reduceSub], by simp (disch := first | assumption | omega) only [go_sem, ↓reduceIte, Nat.reduceEqDiff, reduceCtorEq, Nat.reduceAdd, Nat.reduceLeDiff, Nat.reduceLT, reduceIte, Int.reduceBEq, Int.reduceBNe, Int.reduceLT, Int.reduceLE, Int.reduceAdd, Int.reduceSub, Int.reduceMul, Int.reduceNeg, Int.reduceEq, Int.reduceNe, Nat.reduceMul, Nat.reduceSub]; rfl, by simp (disch := first | assumption | omega) only [go_sem, ↓reduceIte, Nat.reduceEqDiff, reduceCtorEq, Nat.reduceAdd, Nat.reduceLeDiff, Nat.reduceLT, reduceIte, Int.reduceBEq, Int.reduceBNe, Int.reduceLT, Int.reduceLE, Int.reduceAdd, Int.reduceSub, Int.reduceMul, Int.reduceNeg, Int.reduceEq, Int.reduceNe, Nat.reduceMul, Nat.reduceSub]; rfl, by simp (disch := first | assumption | omega) only [go_sem, ↓reduceIte, Nat.reduceEqDiff, reduceCtorEq, Nat.reduceAdd, Nat.reduceLeDiff, Nat.reduceLT, reduceIte, Int.reduceBEq, Int.reduceBNe, Int.reduceLT, Int.reduceLE, Int.reduceAdd, Int.reduceSub, Int.reduceMul, Int.reduceNeg, Int.reduceEq, Int.reduceNe, Nat.reduceMul, Nat.reduceSub]; rfl, by simp (disch := first | assumption | omega) only [go_sem, ↓reduceIte, Nat.reduceEqDiff, reduceCtorEq, Nat.reduceAdd, Nat.reduceLeDiff, Nat.reduceLT, reduceIte, Int.reduceBEq, Int.reduceBNe, Int.reduceLT, Int.reduceLE, Int.reduceAdd, Int.reduceSub, Int.reduceMul, Int.reduceNeg, Int.reduceEq, Int.reduceNe, Nat.reduceMul, Nat.reduceSub]⟩ ?_
  rintro d S ⟨i, l, ob, hid, hob, hl, hli, e43, e42, e41, e1, e7, e8, e9, eh⟩
  have hob1 := hob.1
  have hbl := logL_size hl
  have hbu := logL_u8 l
  by_cases hlt : (i : Int) < m
  · have hi : i < GG.length := by omega
    have hi2 : i < XS.length := by omega
    have hi3 : (i : Int) < XS.length := by omega
    obtain ⟨q0, hq0, hxi⟩ := hL.at i hi
    have hq01 := hq0.1
    have hui := hLu _ (List.getElem_mem hi)
    simp (disch := first | assumption | omega) only [e43, e42, e41, e1, e7, e8, e9, hlt, hi2, hi3, hxi, go_sem, ↓reduceIte, Nat.reduceEqDiff, reduceCtorEq, Nat.reduceAdd, Nat.reduceLeDiff, Nat.reduceLT, reduceIte, Int.reduceBEq, Int.reduceBNe, Int.reduceLT, Int.reduceLE, Int.reduceAdd, Int.reduceSub, Int.reduceMul, Int.reduceNeg, Int.reduceEq, Int.reduceNe, Nat.reduceMul, Nat.reduceSub]
    refine callG_ok (MadeMsg_ok q0 GG[i] hq01 hui _) (by simp (disch := first | assumption | omega) only [go_sem, ↓reduceIte, Nat.reduceEqDiff, reduceCtorEq, Nat.reduceAdd, Nat.reduceLeDiff, Nat.reduceLT, reduceIte, Int.reduceBEq, Int.reduceBNe, Int.reduceLT, Int.reduceLE, Int.reduceAdd, Int.reduceSub, Int.reduceMul, Int.reduceNeg, Int.reduceEq, Int.reduceNe, Nat.reduceMul, Nat.reduceSub]) ?_
    rintro _ _ ⟨⟨q, m0, rfl, hq, h8, hcl, hcb⟩, hhh⟩
    rw [hhh]
    clear hhh
    have hq1 : Rdo q := by rcases hq with ⟨rfl, _⟩ | rfl; exact .inr rfl; exact .inl rfl
    simp (disch := first | assumption | omega) only [e43, e42, e41, e1, e7, e8, e9, msgA, msgC, go_sem, ↓reduceIte, Nat.reduceEqDiff, reduceCtorEq, Nat.reduceAdd, Nat.reduceLeDiff, Nat.reduceLT, reduceIte, Int.reduceBEq, Int.reduceBNe, Int.reduceLT, Int.reduceLE, Int.reduceAdd, Int.reduceSub, Int.reduceMul, Int.reduceNeg, Int.reduceEq, Int.reduceNe, Nat.reduceMul, Nat.reduceSub]
    refine callG_ok (Write_ok q ⟨m0.Kind, m0.From, m0.To, i, m0.Clock, m0.Cells⟩ hq1 hcl (by show m0.Cells.length < _; omega) _) (by simp (disch := first | assumption | omega) only [go_sem, ↓reduceIte, Nat.reduceEqDiff, reduceCtorEq, Nat.reduceAdd, Nat.reduceLeDiff, Nat.reduceLT, reduceIte, Int.reduceBEq, Int.reduceBNe, Int.reduceLT, Int.reduceLE, Int.reduceAdd, Int.reduceSub, Int.reduceMul, Int.reduceNeg, Int.reduceEq, Int.reduceNe, Nat.reduceMul, Nat.reduceSub]) ?_
    rintro _ _ ⟨hv, hhh⟩
    rw [hhh]
    clear hhh
    rcases hv with ⟨hc0, rfl⟩ | ⟨hc0, rfl⟩
    · simp (disch := first | assumption | omega) only [e43, e42, e41, e1, e7, e8, e9, hc0, go_sem, ↓reduceIte, Nat.reduceEqDiff, reduceCtorEq, Nat.reduceAdd, Nat.reduceLeDiff, Nat.reduceLT, reduceIte, Int.reduceBEq, Int.reduceBNe, Int.reduceLT, Int.reduceLE, Int.reduceAdd, Int.reduceSub, Int.reduceMul, Int.reduceNeg, Int.reduceEq, Int.reduceNe, Nat.reduceMul, Nat.reduceSub]
      have hdr : drV 12 (mRow l) = mRow l := by cases l <;> rfl
      exact ⟨d - 1, by omega, i + 1, l, ob, by omega, hob, hl, by omega, by simp, rfl, hdr, rfl, eh⟩
    · have hfl := frame_length ⟨m0.Kind, m0.From, m0.To, i, m0.Clock, m0.Cells⟩
      have hfu := frame_u8 ⟨m0.Kind, m0.From, m0.To, i, m0.Clock, m0.Cells⟩
      have hfe : ∃ y ys, frame ⟨m0.Kind, m0.From, m0.To, i, m0.Clock, m0.Cells⟩ = y :: ys := by
        cases hh : frame ⟨m0.Kind, m0.From, m0.To, i, m0.Clock, m0.Cells⟩ with
        | nil => rw [hh] at hfl; simp at hfl; omega
        | cons y ys => exact ⟨y, ys, rfl⟩
      simp only [] at hfl
      simp (disch := first | assumption | omega) only [e43, e42, e41, e1, e7, e8, e9, go_sem, ↓reduceIte, Nat.reduceEqDiff, reduceCtorEq, Nat.reduceAdd, Nat.reduceLeDiff, Nat.reduceLT, reduceIte, Int.reduceBEq, Int.reduceBNe, Int.reduceLT, Int.reduceLE, Int.reduceAdd, Int.reduceSub, Int.reduceMul, Int.reduceNeg, Int.reduceEq, Int.reduceNe, Nat.reduceMul, Nat.reduceSub]
      refine callG_ok (Add_ok ob .sh _ _ hob ⟨.inl rfl, fun e => by cases e⟩ hbu hfu (by omega) (by omega) _) (by simp (disch := first | assumption | omega) only [go_sem, ↓reduceIte, Nat.reduceEqDiff, reduceCtorEq, Nat.reduceAdd, Nat.reduceLeDiff, Nat.reduceLT, reduceIte, Int.reduceBEq, Int.reduceBNe, Int.reduceLT, Int.reduceLE, Int.reduceAdd, Int.reduceSub, Int.reduceMul, Int.reduceNeg, Int.reduceEq, Int.reduceNe, Nat.reduceMul, Nat.reduceSub]) ?_
      rintro _ _ ⟨hv, hhh⟩
      rw [hhh]
      clear hhh
      rcases hv with ⟨hh, _⟩ | ⟨_, rs, hS, hv⟩
      · exfalso; omega
      obtain rfl := (IsScan.book (fun r hr => by have := logL_short hl r hr; omega)).unique hS
      rcases hv with ⟨hh, _⟩ | ⟨_, rfl⟩
      · exfalso; omega
      have hput : PutOk (q, ⟨m0.Kind, m0.From, m0.To, i, m0.Clock, m0.Cells⟩) := ⟨hq1, hc0, hcl, h8⟩
      have hnl : logL (l ++ [(q, ⟨m0.Kind, m0.From, m0.To, i, m0.Clock, m0.Cells⟩)]) = logL l ++ [frame ⟨m0.Kind, m0.From, m0.To, i, m0.Clock, m0.Cells⟩] := by simp [logL]
      have hall : ∀ p ∈ l ++ [(q, (⟨m0.Kind, m0.From, m0.To, i, m0.Clock, m0.Cells⟩ : Msg))], PutOk p := fun p hp => by
        rcases List.mem_append.1 hp with hp | hp
        · exact hl p hp
        · simp at hp; rw [hp]; exact hput
      have hlen := logL_size hall
      rw [hnl] at hlen
      simp only [List.length_append, List.length_singleton] at hlen
      have hes := endsL_snoc (logL l) (frame ⟨m0.Kind, m0.From, m0.To, i, m0.Clock, m0.Cells⟩)
      have hel : (endsL (logL l)).length ≤ 13 := by rw [endsL_length]; simp [logL]; omega
      generalize hmm : (⟨m0.Kind, m0.From, m0.To, i, m0.Clock, m0.Cells⟩ : Msg) = m1 at *
      have hma : AVal.agg (msgC q m1) = msgA q m1 := rfl
      cases l with
      | nil =>
        simp only [mRow] at e8
        simp (disch := first | assumption | omega) only [e43, e42, e41, e1, e7, e8, e9, e8, go_sem, ↓reduceIte, Nat.reduceEqDiff, reduceCtorEq, Nat.reduceAdd, Nat.reduceLeDiff, Nat.reduceLT, reduceIte, Int.reduceBEq, Int.reduceBNe, Int.reduceLT, Int.reduceLE, Int.reduceAdd, Int.reduceSub, Int.reduceMul, Int.reduceNeg, Int.reduceEq, Int.reduceNe, Nat.reduceMul, Nat.reduceSub]
        exact ⟨by omega, by omega, d - 1, by omega, i + 1, [] ++ [(q, m1)], .sh, by omega, ⟨.inl rfl, fun e => by cases e⟩, hall, by simp, by simp, by rw [hnl], by subst hmm; rfl, by rw [hnl, hes, ← ints_append]; rfl, eh⟩
      | cons b r =>
        simp only [mRow] at e8
        simp only [List.length_cons] at hli
        simp (disch := first | assumption | omega) only [e43, e42, e41, e1, e7, e8, e9, e8, go_sem, ↓reduceIte, Nat.reduceEqDiff, reduceCtorEq, Nat.reduceAdd, Nat.reduceLeDiff, Nat.reduceLT, reduceIte, Int.reduceBEq, Int.reduceBNe, Int.reduceLT, Int.reduceLE, Int.reduceAdd, Int.reduceSub, Int.reduceMul, Int.reduceNeg, Int.reduceEq, Int.reduceNe, Nat.reduceMul, Nat.reduceSub]
        exact ⟨by simp; omega, by simp; omega, by omega, by omega, d - 1, by omega, i + 1, b :: r ++ [(q, m1)], .sh, by omega, ⟨.inl rfl, fun e => by cases e⟩, hall, by simp; omega, by simp, by rw [hnl], by subst hmm; simp [mRow]; rfl, by rw [hnl, hes, ← ints_append]; rfl, eh⟩
  · obtain rfl : i = m := by omega
    simp (disch := first | assumption | omega) only [e43, e42, e41, e1, e7, e8, e9, hlt, go_sem, ↓reduceIte, Nat.reduceEqDiff, reduceCtorEq, Nat.reduceAdd, Nat.reduceLeDiff, Nat.reduceLT, reduceIte, Int.reduceBEq, Int.reduceBNe, Int.reduceLT, Int.reduceLE, Int.reduceAdd, Int.reduceSub, Int.reduceMul, Int.reduceNeg, Int.reduceEq, Int.reduceNe, Nat.reduceMul, Nat.reduceSub]
    refine callG_ok (Below_ok cut ((book 0 (logL l)).length + 1) hc (by omega) (by omega) _) (by simp (disch := first | assumption | omega) only [go_sem, ↓reduceIte, Nat.reduceEqDiff, reduceCtorEq, Nat.reduceAdd, Nat.reduceLeDiff, Nat.reduceLT, reduceIte, Int.reduceBEq, Int.reduceBNe, Int.reduceLT, Int.reduceLE, Int.reduceAdd, Int.reduceSub, Int.reduceMul, Int.reduceNeg, Int.reduceEq, Int.reduceNe, Nat.reduceMul, Nat.reduceSub]) ?_
    rintro _ _ ⟨rfl, hhh⟩
    rw [hhh]
    clear hhh
    obtain ⟨c, hcc, hc2⟩ : ∃ c : Nat, cut % ((book 0 (logL l)).length + 1) = (c : Int) ∧ c ≤ (book 0 (logL l)).length := by
      have h1 := Int.emod_nonneg cut (b := ((book 0 (logL l)).length : Int) + 1) (by omega)
      have h2 := Int.emod_lt_of_pos cut (b := ((book 0 (logL l)).length : Int) + 1) (by omega)
      exact ⟨(cut % ((book 0 (logL l)).length + 1)).toNat, by omega, by omega⟩
    rw [hcc]
    simp (disch := first | assumption | omega) only [e43, e42, e41, e1, e7, e8, e9, ints_take, go_sem, ↓reduceIte, Nat.reduceEqDiff, reduceCtorEq, Nat.reduceAdd, Nat.reduceLeDiff, Nat.reduceLT, reduceIte, Int.reduceBEq, Int.reduceBNe, Int.reduceLT, Int.reduceLE, Int.reduceAdd, Int.reduceSub, Int.reduceMul, Int.reduceNeg, Int.reduceEq, Int.reduceNe, Nat.reduceMul, Nat.reduceSub]
    refine ⟨⟨hc2, ints_width _⟩, ?_⟩
    refine callG_ok (Read_ok .sh _ (.inl rfl) (fun x hx => hbu x (List.mem_of_mem_take hx)) (by rw [List.length_take]; omega) _) (by simp (disch := first | assumption | omega) only [go_sem, ↓reduceIte, Nat.reduceEqDiff, reduceCtorEq, Nat.reduceAdd, Nat.reduceLeDiff, Nat.reduceLT, reduceIte, Int.reduceBEq, Int.reduceBNe, Int.reduceLT, Int.reduceLE, Int.reduceAdd, Int.reduceSub, Int.reduceMul, Int.reduceNeg, Int.reduceEq, Int.reduceNe, Nat.reduceMul, Nat.reduceSub]) ?_
    rintro _ _ ⟨⟨rs, x, rfl, ⟨q, ys, rfl, hE, hq⟩, hS⟩, hhh⟩
    rw [hhh]
    clear hhh
    have hsh : ∀ r ∈ logL l, r.length ≤ 2000 := fun r hr => by have := logL_short hl r hr; omega
    obtain ⟨w1, w2, w3, w4⟩ := scan_whole hsh hS
    have hll : (logL l).length = l.length := by simp [logL]
    obtain ⟨q', hq', _, hr1, hr2, hr3⟩ := own_rd (q := q) ys (by rcases hq with ⟨rfl, _⟩ | rfl <;> simp)
    obtain ⟨q8, ML, hq8, hm8, hML⟩ : ∃ q ML, Rdo q ∧ rdv (mRow l) = .lst q ML ∧ ML = l.map fun p => msgA p.1 p.2 := by
      obtain ⟨q, h1, h2⟩ := mRow_rd l
      exact ⟨q, _, h1, h2, rfl⟩
    have lML : ML.length = l.length := by rw [hML, List.length_map]
    have lys := hE.length
    have hel := endsL_length (logL l)
    simp (disch := first | assumption | omega) only [e43, e42, e41, e1, e7, e8, e9, hr1, hr2, hr3, go_sem, ↓reduceIte, Nat.reduceEqDiff, reduceCtorEq, Nat.reduceAdd, Nat.reduceLeDiff, Nat.reduceLT, reduceIte, Int.reduceBEq, Int.reduceBNe, Int.reduceLT, Int.reduceLE, Int.reduceAdd, Int.reduceSub, Int.reduceMul, Int.reduceNeg, Int.reduceEq, Int.reduceNe, Nat.reduceMul, Nat.reduceSub]
    refine aw_count (fun d S => ∃ (w : Nat), w + d = rs.length ∧ S.env 19 = .int .i64 w ∧ S.env 1 = .int .i64 c ∧ S.env 8 = mRow l ∧ S.env 9 = .lst (.app 1) (ints .i64 (endsL (logL l))) ∧ S.env 17 = .lst q' ys ∧ S.env 18 = .int .i64 (book 0 rs).length ∧ S.heap = []) (n := rs.length)
      ⟨0, by omega, by simp (disch := first | assumption | omega) only [go_sem, ↓reduceIte, Nat.reduceEqDiff, reduceCtorEq, Nat.reduceAdd, Nat.reduceLeDiff, Nat.reduceLT, reduceIte, Int.reduceBEq, Int.reduceBNe, Int.reduceLT, Int.reduceLE, Int.reduceAdd, Int.reduceSub, Int.reduceMul, Int.reduceNeg, Int.reduceEq, Int.reduceNe, Nat.reduceMul, Nat.reduceSub], by simp (disch := first | assumption | omega) only [go_sem, ↓reduceIte, Nat.reduceEqDiff, reduceCtorEq, Nat.reduceAdd, Nat.reduceLeDiff, Nat.reduceLT, reduceIte, Int.reduceBEq, Int.reduceBNe, Int.reduceLT, Int.reduceLE, Int.reduceAdd, Int.reduceSub, Int.reduceMul, Int.reduceNeg, Int.reduceEq, Int.reduceNe, Nat.reduceMul, Nat.reduceSub], by simp (disch := first | assumption | omega) only [e8, go_sem, ↓reduceIte, Nat.reduceEqDiff, reduceCtorEq, Nat.reduceAdd, Nat.reduceLeDiff, Nat.reduceLT, reduceIte, Int.reduceBEq, Int.reduceBNe, Int.reduceLT, Int.reduceLE, Int.reduceAdd, Int.reduceSub, Int.reduceMul, Int.reduceNeg, Int.reduceEq, Int.reduceNe, Nat.reduceMul, Nat.reduceSub], by simp (disch := first | assumption | omega) only [e9, go_sem, ↓reduceIte, Nat.reduceEqDiff, reduceCtorEq, Nat.reduceAdd, Nat.reduceLeDiff, Nat.reduceLT, reduceIte, Int.reduceBEq, Int.reduceBNe, Int.reduceLT, Int.reduceLE, Int.reduceAdd, Int.reduceSub, Int.reduceMul, Int.reduceNeg, Int.reduceEq, Int.reduceNe, Nat.reduceMul, Nat.reduceSub], by simp (disch := first | assumption | omega) only [go_sem, ↓reduceIte, Nat.reduceEqDiff, reduceCtorEq, Nat.reduceAdd, Nat.reduceLeDiff, Nat.reduceLT, reduceIte, Int.reduceBEq, Int.reduceBNe, Int.reduceLT, Int.reduceLE, Int.reduceAdd, Int.reduceSub, Int.reduceMul, Int.reduceNeg, Int.reduceEq, Int.reduceNe, Nat.reduceMul, Nat.reduceSub], by simp (disch := first | assumption | omega) only [go_sem, ↓reduceIte, Nat.reduceEqDiff, reduceCtorEq, Nat.reduceAdd, Nat.reduceLeDiff, Nat.reduceLT, reduceIte, Int.reduceBEq, Int.reduceBNe, Int.reduceLT, Int.reduceLE, Int.reduceAdd, Int.reduceSub, Int.reduceMul, Int.reduceNeg, Int.reduceEq, Int.reduceNe, Nat.reduceMul, Nat.reduceSub], by simp (disch := first | assumption | omega) only [eh, go_sem, ↓reduceIte, Nat.reduceEqDiff, reduceCtorEq, Nat.reduceAdd, Nat.reduceLeDiff, Nat.reduceLT, reduceIte, Int.reduceBEq, Int.reduceBNe, Int.reduceLT, Int.reduceLE, Int.reduceAdd, Int.reduceSub, Int.reduceMul, Int.reduceNeg, Int.reduceEq, Int.reduceNe, Nat.reduceMul, Nat.reduceSub]⟩ ?_
    clear e43 e42 e41 e1 e7 e8 e9 eh
    rintro d S ⟨w, hwd, e19, e1, e8, e9, e17, e18, eh⟩
    by_cases hw : w < rs.length
    · have hat := endsL_get (L := logL l) (k := w + 1) (by omega)
      have e : ((w + 1 : Nat) : Int) = (w : Int) + 1 := by omega
      rw [e] at hat
      have h1 := ends_le w1 (k := w + 1) (by omega)
      have h2 : (w : Int) < l.length := by omega
      have h3 : (((book 0 ((logL l).take (w + 1))).length : Nat) : Int) ≤ c := by omega
      simp (disch := first | assumption | omega) only [e19, e1, e8, e9, e17, e18, hm8, h2, hat, h3, hel, lML, go_sem, ↓reduceIte, Nat.reduceEqDiff, reduceCtorEq, Nat.reduceAdd, Nat.reduceLeDiff, Nat.reduceLT, reduceIte, Int.reduceBEq, Int.reduceBNe, Int.reduceLT, Int.reduceLE, Int.reduceAdd, Int.reduceSub, Int.reduceMul, Int.reduceNeg, Int.reduceEq, Int.reduceNe, Nat.reduceMul, Nat.reduceSub]
      exact ⟨⟨by omega, by omega⟩, d - 1, by omega, w + 1, by omega, by simp, eh⟩
    · obtain rfl : w = rs.length := by omega
      have hat0 := endsL_get (L := logL l) (k := rs.length) (by omega)
      rw [← w1] at hat0
      have hb0 : (0 : Int) ≤ rs.length := by omega
      have hb1 : (rs.length : Int) < ((logL l).length + 1 : Nat) := by omega
      have hwy : ((ys.length : Nat) : Int) = rs.length := by omega
      have hdone : (rs.length : Int) < l.length → ¬(((book 0 ((logL l).take (rs.length + 1))).length : Nat) : Int) ≤ c := fun h => by
        have := w4 (by omega); omega
      by_cases h2 : (rs.length : Int) < l.length
      all_goals (
        first
        | have hat := endsL_get (L := logL l) (k := rs.length + 1) (by omega)
          have e : ((rs.length + 1 : Nat) : Int) = (rs.length : Int) + 1 := by omega
          rw [e] at hat
          have h3 := hdone h2
          simp (disch := first | assumption | omega) only [e19, e1, e8, e9, e17, e18, hm8, h2, hat, h3, hel, lML, hat0, hb0, hb1, hwy, go_sem, ↓reduceIte, Nat.reduceEqDiff, reduceCtorEq, Nat.reduceAdd, Nat.reduceLeDiff, Nat.reduceLT, reduceIte, Int.reduceBEq, Int.reduceBNe, Int.reduceLT, Int.reduceLE, Int.reduceAdd, Int.reduceSub, Int.reduceMul, Int.reduceNeg, Int.reduceEq, Int.reduceNe, Nat.reduceMul, Nat.reduceSub]
          refine ⟨⟨by omega, by omega⟩, ?_⟩
        | simp (disch := first | assumption | omega) only [e19, e1, e8, e9, e17, e18, hm8, h2, hel, lML, hat0, hb0, hb1, hwy, go_sem, ↓reduceIte, Nat.reduceEqDiff, reduceCtorEq, Nat.reduceAdd, Nat.reduceLeDiff, Nat.reduceLT, reduceIte, Int.reduceBEq, Int.reduceBNe, Int.reduceLT, Int.reduceLE, Int.reduceAdd, Int.reduceSub, Int.reduceMul, Int.reduceNeg, Int.reduceEq, Int.reduceNe, Nat.reduceMul, Nat.reduceSub]
        refine aw_count (fun d S => ∃ (i : Nat), i + d = rs.length ∧ S.env 119 = .int .i64 i ∧ S.env 118 = .int .i64 rs.length ∧ S.env 117 = .lst q' ys ∧ S.env 8 = mRow l ∧ S.heap = []) (n := rs.length)
          ⟨0, by omega, by simp (disch := first | assumption | omega) only [go_sem, ↓reduceIte, Nat.reduceEqDiff, reduceCtorEq, Nat.reduceAdd, Nat.reduceLeDiff, Nat.reduceLT, reduceIte, Int.reduceBEq, Int.reduceBNe, Int.reduceLT, Int.reduceLE, Int.reduceAdd, Int.reduceSub, Int.reduceMul, Int.reduceNeg, Int.reduceEq, Int.reduceNe, Nat.reduceMul, Nat.reduceSub], by simp (disch := first | assumption | omega) only [hwy, go_sem, ↓reduceIte, Nat.reduceEqDiff, reduceCtorEq, Nat.reduceAdd, Nat.reduceLeDiff, Nat.reduceLT, reduceIte, Int.reduceBEq, Int.reduceBNe, Int.reduceLT, Int.reduceLE, Int.reduceAdd, Int.reduceSub, Int.reduceMul, Int.reduceNeg, Int.reduceEq, Int.reduceNe, Nat.reduceMul, Nat.reduceSub], by simp (disch := first | assumption | omega) only [go_sem, ↓reduceIte, Nat.reduceEqDiff, reduceCtorEq, Nat.reduceAdd, Nat.reduceLeDiff, Nat.reduceLT, reduceIte, Int.reduceBEq, Int.reduceBNe, Int.reduceLT, Int.reduceLE, Int.reduceAdd, Int.reduceSub, Int.reduceMul, Int.reduceNeg, Int.reduceEq, Int.reduceNe, Nat.reduceMul, Nat.reduceSub], by simp (disch := first | assumption | omega) only [e8, go_sem, ↓reduceIte, Nat.reduceEqDiff, reduceCtorEq, Nat.reduceAdd, Nat.reduceLeDiff, Nat.reduceLT, reduceIte, Int.reduceBEq, Int.reduceBNe, Int.reduceLT, Int.reduceLE, Int.reduceAdd, Int.reduceSub, Int.reduceMul, Int.reduceNeg, Int.reduceEq, Int.reduceNe, Nat.reduceMul, Nat.reduceSub], by simp (disch := first | assumption | omega) only [eh, go_sem, ↓reduceIte, Nat.reduceEqDiff, reduceCtorEq, Nat.reduceAdd, Nat.reduceLeDiff, Nat.reduceLT, reduceIte, Int.reduceBEq, Int.reduceBNe, Int.reduceLT, Int.reduceLE, Int.reduceAdd, Int.reduceSub, Int.reduceMul, Int.reduceNeg, Int.reduceEq, Int.reduceNe, Nat.reduceMul, Nat.reduceSub]⟩ ?_
        clear e19 e1 e8 e9 e17 e18 eh
        rintro d S ⟨i, hid, e119, e118, e117, e8, eh⟩
        by_cases hlt : (i : Int) < rs.length
        · have hi : i < rs.length := by omega
          obtain ⟨p, hp, hxi⟩ := hE.at i hi
          have hp1 := hp.1
          have hil : i < l.length := by omega
          have hri : rs[i] = frame l[i].2 := by
            have : rs[i]? = ((logL l).take rs.length)[i]? := by rw [← w1]
            rw [List.getElem?_eq_getElem hi, List.getElem?_take, if_pos hi, logL, List.getElem?_map, List.getElem?_eq_getElem hil] at this
            simpa using this
          have hpo := hl _ (List.getElem_mem hil)
          have hma : at_ ML (i : Int) = msgA l[i].1 l[i].2 := by
            rw [hML]; simp [at_, List.getD_eq_getElem?_getD, hil]
          rw [hri] at hxi
          generalize l[i] = pm at *
          obtain ⟨p1, p2, p3, p4⟩ := hpo
          have hfl := frame_length pm.2
          have hi2 : (i : Int) < ys.length := by omega
          have hi3 : (i : Int) < l.length := by omega
          have hi4 : i < ys.length := by omega
          have h22 : drV 22 (mRow l) = mRow l := by cases l <;> rfl
          simp (disch := first | assumption | omega) only [e119, e118, e117, e8, hlt, hi2, hi4, hxi, go_sem, ↓reduceIte, Nat.reduceEqDiff, reduceCtorEq, Nat.reduceAdd, Nat.reduceLeDiff, Nat.reduceLT, reduceIte, Int.reduceBEq, Int.reduceBNe, Int.reduceLT, Int.reduceLE, Int.reduceAdd, Int.reduceSub, Int.reduceMul, Int.reduceNeg, Int.reduceEq, Int.reduceNe, Nat.reduceMul, Nat.reduceSub]
          refine callG_ok (MRead_ok p (frame pm.2) hp1 (frame_u8 pm.2) (by omega) _) (by simp (disch := first | assumption | omega) only [go_sem, ↓reduceIte, Nat.reduceEqDiff, reduceCtorEq, Nat.reduceAdd, Nat.reduceLeDiff, Nat.reduceLT, reduceIte, Int.reduceBEq, Int.reduceBNe, Int.reduceLT, Int.reduceLE, Int.reduceAdd, Int.reduceSub, Int.reduceMul, Int.reduceNeg, Int.reduceEq, Int.reduceNe, Nat.reduceMul, Nat.reduceSub]) ?_
          rintro _ _ ⟨hv, hhh⟩
          rw [hhh]
          clear hhh
          rcases hv with ⟨hne, _⟩ | ⟨_, q2, rfl, hq2⟩
          · exact absurd (readE_frame p2 p3) hne
          rw [msgOf_frame (fine_of p2) p3] at hq2 ⊢
          have hq21 := hq2.1
          simp (disch := first | assumption | omega) only [e119, e118, e117, e8, h22, hm8, hma, hi3, lML, msgA, msgC, go_sem, ↓reduceIte, Nat.reduceEqDiff, reduceCtorEq, Nat.reduceAdd, Nat.reduceLeDiff, Nat.reduceLT, reduceIte, Int.reduceBEq, Int.reduceBNe, Int.reduceLT, Int.reduceLE, Int.reduceAdd, Int.reduceSub, Int.reduceMul, Int.reduceNeg, Int.reduceEq, Int.reduceNe, Nat.reduceMul, Nat.reduceSub]
          refine callG_ok (Same_ok q2 pm.1 pm.2 pm.2 hq21 p1 (by omega) (by omega) _) (by simp (disch := first | assumption | omega) only [go_sem, ↓reduceIte, Nat.reduceEqDiff, reduceCtorEq, Nat.reduceAdd, Nat.reduceLeDiff, Nat.reduceLT, reduceIte, Int.reduceBEq, Int.reduceBNe, Int.reduceLT, Int.reduceLE, Int.reduceAdd, Int.reduceSub, Int.reduceMul, Int.reduceNeg, Int.reduceEq, Int.reduceNe, Nat.reduceMul, Nat.reduceSub]) ?_
          rintro _ _ ⟨rfl, hhh⟩
          rw [hhh]
          clear hhh
          rw [decide_eq_true rfl]
          simp (disch := first | assumption | omega) only [e119, e118, e117, e8, h22, go_sem, ↓reduceIte, Nat.reduceEqDiff, reduceCtorEq, Nat.reduceAdd, Nat.reduceLeDiff, Nat.reduceLT, reduceIte, Int.reduceBEq, Int.reduceBNe, Int.reduceLT, Int.reduceLE, Int.reduceAdd, Int.reduceSub, Int.reduceMul, Int.reduceNeg, Int.reduceEq, Int.reduceNe, Nat.reduceMul, Nat.reduceSub]
          exact ⟨d - 1, by omega, i + 1, by omega, by simp, eh⟩
        · simp (disch := first | assumption | omega) only [e119, e118, e117, e8, hlt, go_sem, ↓reduceIte, Nat.reduceEqDiff, reduceCtorEq, Nat.reduceAdd, Nat.reduceLeDiff, Nat.reduceLT, reduceIte, Int.reduceBEq, Int.reduceBNe, Int.reduceLT, Int.reduceLE, Int.reduceAdd, Int.reduceSub, Int.reduceMul, Int.reduceNeg, Int.reduceEq, Int.reduceNe, Nat.reduceMul, Nat.reduceSub]
          subst hQ
          simp (disch := first | assumption | omega) only [R.ganttop_TopLogs, go_sem, ↓reduceIte, Nat.reduceEqDiff, reduceCtorEq, Nat.reduceAdd, Nat.reduceLeDiff, Nat.reduceLT, reduceIte, Int.reduceBEq, Int.reduceBNe, Int.reduceLT, Int.reduceLE, Int.reduceAdd, Int.reduceSub, Int.reduceMul, Int.reduceNeg, Int.reduceEq, Int.reduceNe, Nat.reduceMul, Nat.reduceSub]
      )
end Go.Proofs.Ytpdajkbfemcdlaa
