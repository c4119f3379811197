import Derived.Test.YtpdajkbfemcdlaaZB2
set_option linter.unusedSimpArgs false
set_option linter.unusedVariables false
set_option maxRecDepth 10000
namespace Go.Proofs.Ytpdajkbfemcdlaa
open Go.Ge Go.Sort
theorem ring_dec (T : Tb) (arm : Nat) (cs : List Cell) : ∃ tb, RingB T arm cs tb := by
  rcases Classical.em (∃ k ∈ blkL T arm (minusC cs (T.of arm)) T.waits.length, Rcw T k arm) with h | h
  · exact ⟨true, fun _ => h, fun _ => rfl⟩
  · exact ⟨false, (fun e => by cases e), fun e => absurd e h⟩
def Good (n : Nat) (T : Tb) : Prop := T.Inv ∧ Busy T ∧ T.has.length = n
theorem Good.ask {n : Nat} {T : Tb} (h : Good n T) {arm : Nat} (ha : arm < n) {cs : List Cell} {tb : Bool} (htb : RingB T arm cs tb) : Good n (askL T arm cs tb).2 := by
  obtain ⟨h1, h2, h3⟩ := ask_all h.1 h.2.1 (by rw [h.2.2]; exact ha) htb
  exact ⟨h1, h2, h3.trans h.2.2⟩
theorem Good.done {n : Nat} {T : Tb} (h : Good n T) {arm : Nat} (ha : arm < n) (cs : List Cell) : Good n (if doneC T arm cs = 0 then doneL T arm cs else T) := by
  split
  · obtain ⟨h1, h2, h3, _⟩ := done_all h.1 (arm := arm) (by rw [h.2.2]; exact ha) cs
    exact ⟨h1, h2, h3.trans h.2.2⟩
  · exact h
theorem three_inI64 (a b c : Int) : ∀ x ∈ [IntKind.i64.wrap a, IntKind.i64.wrap b, IntKind.i64.wrap c], inI64 x := by
  intro x hx
  simp only [List.mem_cons, List.not_mem_nil, or_false] at hx
  rcases hx with rfl | rfl | rfl <;> exact wrap_inI64 _
theorem lTable_ok (n : Nat) (h1 : 1 ≤ n) (h4 : n ≤ 4) (o : Own) (l : List Int) (ho : Rdo o) (hl : ∀ c ∈ l, inI64 c) (hll : l.length ≤ 1152921504606846976) (h : List HObj) :
    ACalls Try.prog F.gantkeep5_table [.int .i64 n, .lst o (ints .i64 l)] h (fun v h' => ∃ tid T, v = .tup [.hp tid 0, .bool true] ∧ Lv h h' tid T ∧ Good n T) := by
  obtain ⟨i0, b0⟩ := newT_inv n
  have ro : ∀ l : List Cell, Rdn .sh l := fun l => ⟨.inl rfl, fun e => by cases e⟩
  obtain ⟨N, hN, hN30, hNl⟩ : ∃ N : Nat, (if (60 : Int) < l.length then (60 : Int) else (l.length : Int)) = (N : Int) ∧ N ≤ 60 ∧ N ≤ l.length := by
    split
    · exact ⟨60, rfl, by omega, by omega⟩
    · exact ⟨l.length, rfl, by omega, by omega⟩
  have hNI : (N : Int) ≤ l.length := by omega
  refine ACalls.of_aw Try.func135 K.gantkeep5_table (by simp [Try.f135]) ?_
  generalize hQ : retQ R.gantkeep5_table _ = Q
  simp (disch := first | assumption | omega) only [C.gantkeep5_table, go_sem, ↓reduceIte, reduceCtorEq, reduceIte]
  refine callG_ok (NewLv n h1 h4 _) (by simp (disch := first | assumption | omega) only [go_sem]) ?_
  rintro _ h1 ⟨tid, rfl, hL⟩
  simp only [go_sem] at hL
  simp (disch := first | assumption | omega) only [hN, ints_take, go_sem, ↓reduceIte, Nat.reduceEqDiff, Nat.reduceAdd, Nat.reduceLT, reduceIte, Int.reduceLT, Int.reduceLE, Int.reduceAdd]
  have hLn : (l.take N).length = N := by simp; omega
  have hLw : ∀ c ∈ l.take N, inI64 c := fun c hc => hl c (List.mem_of_mem_take hc)
  refine ⟨⟨by omega, ints_width _⟩, ?_⟩
  refine aw_count (fun d S => ∃ (i : Nat) (T : Tb), i + d = N ∧ S.env 30 = .int .i64 i ∧ S.env 29 = .int .i64 N ∧ S.env 28 = .lst .sh (ints .i64 (l.take N)) ∧ S.env 6 = .hp tid 0 ∧ S.env 0 = .int .i64 n ∧ Lv h S.heap tid T ∧ Good n T) (n := N)
    ⟨0, newT n, by omega, by simp (disch := first | assumption | omega) only [go_sem, ↓reduceIte, reduceIte], by simp (disch := first | assumption | omega) only [hLn, go_sem, ↓reduceIte, Nat.reduceEqDiff, reduceIte], by simp (disch := first | assumption | omega) only [go_sem, ↓reduceIte, Nat.reduceEqDiff, reduceIte], by simp (disch := first | assumption | omega) only [go_sem, ↓reduceIte, Nat.reduceEqDiff, reduceIte], by simp (disch := first | assumption | omega) only [go_sem, ↓reduceIte, reduceCtorEq, reduceIte], by simp (disch := first | assumption | omega) only [go_sem]; exact hL, i0, b0, by simp [newT]⟩ ?_
  generalize l.take N = L at *
  rintro d S ⟨i, T, hid, e30, e29, e28, e6, e0, hT, hG⟩
  by_cases hlt : (i : Int) < N
  · have hlt1 : i < L.length := by omega
    have hgx := at_ints' (k := .i64) L i hlt1
    have hxi := hLw _ (List.getElem_mem hlt1)
    rw [getD_at hlt1] at hgx
    generalize L[i] = x at *
    simp (disch := first | assumption | omega) only [e30, e29, e28, e0, hlt, hgx, go_sem, ↓reduceIte, Nat.reduceEqDiff, reduceCtorEq, Nat.reduceLeDiff, Nat.reduceLT, reduceIte, Int.reduceLT]
    refine ⟨hlt1, ?_⟩
    refine callG_ok (Below_ok x n hxi (by omega) (by omega) _) (by simp (disch := first | assumption | omega) only [go_sem]) ?_
    rintro _ _ ⟨rfl, hhh⟩
    rw [hhh]
    clear hhh
    have m1 := Int.emod_nonneg x (b := (n : Int)) (by omega)
    have m2 := Int.emod_lt_of_pos x (b := (n : Int)) (by omega)
    obtain ⟨a, ha⟩ := Int.eq_ofNat_of_zero_le m1
    rw [ha] at m1 m2 ⊢
    have han : a < n := by omega
    obtain ⟨hI, hB, hTn⟩ := hG
    simp (disch := first | assumption | omega) only [go_sem, ↓reduceIte, Nat.reduceEqDiff, Nat.reduceAdd, Nat.reduceLeDiff, reduceIte, Int.reduceAdd, Int.reduceMul, Int.reduceNe, Nat.reduceMul]
    refine callG_ok (MadeUp_ok .sh [IntKind.i64.wrap (x.tdiv 7), IntKind.i64.wrap (x.tdiv 11), IntKind.i64.wrap (x.tdiv 13)] (.inl rfl) (three_inI64 _ _ _) _) (by simp (disch := first | assumption | omega) only [go_sem]) ?_
    rintro _ _ ⟨⟨cs, h8, hcb, hup, hv⟩, hhh⟩
    rw [hhh]
    clear hhh
    rcases hv with ⟨rfl, rfl⟩ | rfl
    · simp (disch := first | assumption | omega) only [go_sem, ↓reduceIte, Nat.reduceEqDiff, reduceIte, Int.reduceNe]
      refine callG_ok (Below_ok (IntKind.i64.wrap (x.tdiv 5)) 4 (wrap_inI64 _) (by omega) (by omega) _) (by simp (disch := first | assumption | omega) only [go_sem]) ?_
      rintro _ _ ⟨rfl, hhh⟩
      rw [hhh]
      clear hhh
      have k1 := Int.emod_nonneg (IntKind.i64.wrap (x.tdiv 5)) (b := 4) (by omega)
      have k2 := Int.emod_lt_of_pos (IntKind.i64.wrap (x.tdiv 5)) (b := 4) (by omega)
      generalize IntKind.i64.wrap (x.tdiv 5) % 4 = u at *
      simp (disch := first | assumption | omega) only [go_sem, ↓reduceIte, reduceIte]
      by_cases u0 : u = 0
      · simp (disch := first | assumption | omega) only [e6, u0, go_sem, ↓reduceIte, Nat.reduceEqDiff, reduceIte]
        obtain ⟨tb, htb⟩ := ring_dec T a ([] : List Cell)
        refine callG_ok (AskLv a _ rfl .nil ([] : List Cell) ⟨.inr rfl, fun _ => rfl⟩ (by first | omega | simp) T hI (by omega) (by omega) tb htb tid h _ (by simp (disch := first | assumption | omega) only [go_sem]; exact hT)) (by simp (disch := first | assumption | omega) only [go_sem]) ?_
        rintro _ h2 ⟨rfl, hL2⟩
        have hG2 := Good.ask (n := n) ⟨hI, hB, hTn⟩ han htb
        generalize (askL T a ([] : List Cell) tb).2 = T2 at *
        simp (disch := first | assumption | omega) only [e30, e29, e28, e6, e0, go_sem, ↓reduceIte, Nat.reduceEqDiff, reduceCtorEq, reduceIte]
        exact ⟨d - 1, by omega, i + 1, T2, by omega, by simp, hL2, hG2⟩
      by_cases u1 : u = 1
      · have u0' : ¬(1 : Int) = 0 := by omega
        simp (disch := first | assumption | omega) only [e6, u1, u0', go_sem, ↓reduceIte, Nat.reduceEqDiff, reduceIte]
        obtain ⟨tb, htb⟩ := ring_dec T a ([] : List Cell)
        refine callG_ok (AskLv a _ rfl .nil ([] : List Cell) ⟨.inr rfl, fun _ => rfl⟩ (by first | omega | simp) T hI (by omega) (by omega) tb htb tid h _ (by simp (disch := first | assumption | omega) only [go_sem]; exact hT)) (by simp (disch := first | assumption | omega) only [go_sem]) ?_
        rintro _ h2 ⟨rfl, hL2⟩
        have hG2 := Good.ask (n := n) ⟨hI, hB, hTn⟩ han htb
        generalize (askL T a ([] : List Cell) tb).2 = T2 at *
        simp (disch := first | assumption | omega) only [e30, e29, e28, e6, e0, go_sem, ↓reduceIte, Nat.reduceEqDiff, reduceCtorEq, reduceIte]
        exact ⟨d - 1, by omega, i + 1, T2, by omega, by simp, hL2, hG2⟩
      by_cases u2 : u = 2
      · simp (disch := first | assumption | omega) only [e6, u2, go_sem, ↓reduceIte, Nat.reduceEqDiff, reduceIte, Int.reduceEq]
        refine callG_ok (CellsLv a _ rfl T hI (by omega) tid h _ (by simp (disch := first | assumption | omega) only [go_sem]; exact hT)) (by simp (disch := first | assumption | omega) only [go_sem]) ?_
        rintro _ _ ⟨⟨o', rfl, ho'⟩, hhh⟩
        rw [hhh]
        clear hhh
        have hcl := (fault_up (hI.ok a)).1
        have ho2 : o' = .nil ∧ T.of a = [] ∨ o' = .app 2 := ho'
        rcases ho2 with ⟨rfl, ha0⟩ | rfl
        · simp (disch := first | assumption | omega) only [e6, go_sem, ↓reduceIte, Nat.reduceEqDiff, reduceIte]
          refine callG_ok (Meet_ok .nil .nil (T.of a) ([] : List Cell) ⟨.inr rfl, fun _ => ha0⟩ ⟨.inr rfl, fun _ => rfl⟩ (by first | omega | simp) _) (by simp (disch := first | assumption | omega) only [go_sem]) ?_
          rintro _ _ ⟨rfl, hhh⟩
          rw [hhh]
          clear hhh
          have hml : (meetC (T.of a) ([] : List Cell)).length ≤ 400 := Nat.le_trans (Nat.le_trans (List.length_filter_le _ _) (normC_len _)) hcl
          simp (disch := first | assumption | omega) only [go_sem, ↓reduceIte, Nat.reduceEqDiff, reduceIte]
          refine callG_ok (DoneLv a _ rfl .sh (meetC (T.of a) ([] : List Cell)) (ro _) (by omega) T hI (by omega) (by omega) tid h _ (by simp (disch := first | assumption | omega) only [go_sem]; exact hT)) (by simp (disch := first | assumption | omega) only [go_sem]) ?_
          rintro _ h2 ⟨rfl, hL2⟩
          have hG2 := Good.done (n := n) ⟨hI, hB, hTn⟩ han (meetC (T.of a) ([] : List Cell))
          generalize (if doneC T a (meetC (T.of a) ([] : List Cell)) = 0 then doneL T a (meetC (T.of a) ([] : List Cell)) else T) = T2 at *
          simp (disch := first | assumption | omega) only [e30, e29, e28, e6, e0, go_sem, ↓reduceIte, Nat.reduceEqDiff, reduceCtorEq, reduceIte]
          exact ⟨d - 1, by omega, i + 1, T2, by omega, by simp, hL2, hG2⟩
        · simp (disch := first | assumption | omega) only [e6, go_sem, ↓reduceIte, Nat.reduceEqDiff, reduceIte]
          refine callG_ok (Meet_ok .sh .nil (T.of a) ([] : List Cell) (ro _) ⟨.inr rfl, fun _ => rfl⟩ (by first | omega | simp) _) (by simp (disch := first | assumption | omega) only [go_sem]) ?_
          rintro _ _ ⟨rfl, hhh⟩
          rw [hhh]
          clear hhh
          have hml : (meetC (T.of a) ([] : List Cell)).length ≤ 400 := Nat.le_trans (Nat.le_trans (List.length_filter_le _ _) (normC_len _)) hcl
          simp (disch := first | assumption | omega) only [go_sem, ↓reduceIte, Nat.reduceEqDiff, reduceIte]
          refine callG_ok (DoneLv a _ rfl .sh (meetC (T.of a) ([] : List Cell)) (ro _) (by omega) T hI (by omega) (by omega) tid h _ (by simp (disch := first | assumption | omega) only [go_sem]; exact hT)) (by simp (disch := first | assumption | omega) only [go_sem]) ?_
          rintro _ h2 ⟨rfl, hL2⟩
          have hG2 := Good.done (n := n) ⟨hI, hB, hTn⟩ han (meetC (T.of a) ([] : List Cell))
          generalize (if doneC T a (meetC (T.of a) ([] : List Cell)) = 0 then doneL T a (meetC (T.of a) ([] : List Cell)) else T) = T2 at *
          simp (disch := first | assumption | omega) only [e30, e29, e28, e6, e0, go_sem, ↓reduceIte, Nat.reduceEqDiff, reduceCtorEq, reduceIte]
          exact ⟨d - 1, by omega, i + 1, T2, by omega, by simp, hL2, hG2⟩
      simp (disch := first | assumption | omega) only [e6, u0, u1, u2, go_sem, ↓reduceIte, Nat.reduceEqDiff, reduceIte]
      refine callG_ok (CellsLv a _ rfl T hI (by omega) tid h _ (by simp (disch := first | assumption | omega) only [go_sem]; exact hT)) (by simp (disch := first | assumption | omega) only [go_sem]) ?_
      rintro _ _ ⟨⟨o', rfl, ho'⟩, hhh⟩
      rw [hhh]
      clear hhh
      have hcl := (fault_up (hI.ok a)).1
      have ho2 : o' = .nil ∧ T.of a = [] ∨ o' = .app 2 := ho'
      rcases ho2 with ⟨rfl, ha0⟩ | rfl
      · simp (disch := first | assumption | omega) only [go_sem, ↓reduceIte, Nat.reduceEqDiff, reduceIte]
        refine callG_ok (DoneLv a _ rfl .nil (T.of a) ⟨.inr rfl, fun _ => ha0⟩ (by omega) T hI (by omega) (by omega) tid h _ (by simp (disch := first | assumption | omega) only [go_sem]; exact hT)) (by simp (disch := first | assumption | omega) only [go_sem]) ?_
        rintro _ h2 ⟨rfl, hL2⟩
        have hG2 := Good.done (n := n) ⟨hI, hB, hTn⟩ han (T.of a)
        generalize (if doneC T a (T.of a) = 0 then doneL T a (T.of a) else T) = T2 at *
        simp (disch := first | assumption | omega) only [e30, e29, e28, e6, e0, go_sem, ↓reduceIte, Nat.reduceEqDiff, reduceCtorEq, reduceIte]
        exact ⟨d - 1, by omega, i + 1, T2, by omega, by simp, hL2, hG2⟩
      · simp (disch := first | assumption | omega) only [go_sem, ↓reduceIte, Nat.reduceEqDiff, reduceIte]
        refine callG_ok (DoneLv a _ rfl .sh (T.of a) (ro _) (by omega) T hI (by omega) (by omega) tid h _ (by simp (disch := first | assumption | omega) only [go_sem]; exact hT)) (by simp (disch := first | assumption | omega) only [go_sem]) ?_
        rintro _ h2 ⟨rfl, hL2⟩
        have hG2 := Good.done (n := n) ⟨hI, hB, hTn⟩ han (T.of a)
        generalize (if doneC T a (T.of a) = 0 then doneL T a (T.of a) else T) = T2 at *
        simp (disch := first | assumption | omega) only [e30, e29, e28, e6, e0, go_sem, ↓reduceIte, Nat.reduceEqDiff, reduceCtorEq, reduceIte]
        exact ⟨d - 1, by omega, i + 1, T2, by omega, by simp, hL2, hG2⟩
    · simp (disch := first | assumption | omega) only [go_sem, ↓reduceIte, Nat.reduceEqDiff, reduceIte, Int.reduceNe]
      refine callG_ok (Below_ok (IntKind.i64.wrap (x.tdiv 5)) 4 (wrap_inI64 _) (by omega) (by omega) _) (by simp (disch := first | assumption | omega) only [go_sem]) ?_
      rintro _ _ ⟨rfl, hhh⟩
      rw [hhh]
      clear hhh
      have k1 := Int.emod_nonneg (IntKind.i64.wrap (x.tdiv 5)) (b := 4) (by omega)
      have k2 := Int.emod_lt_of_pos (IntKind.i64.wrap (x.tdiv 5)) (b := 4) (by omega)
      generalize IntKind.i64.wrap (x.tdiv 5) % 4 = u at *
      simp (disch := first | assumption | omega) only [go_sem, ↓reduceIte, reduceIte]
      by_cases u0 : u = 0
      · simp (disch := first | assumption | omega) only [e6, u0, go_sem, ↓reduceIte, Nat.reduceEqDiff, reduceIte]
        obtain ⟨tb, htb⟩ := ring_dec T a cs
        refine callG_ok (AskLv a _ rfl .sh cs (ro _) (by first | omega | simp) T hI (by omega) (by omega) tb htb tid h _ (by simp (disch := first | assumption | omega) only [go_sem]; exact hT)) (by simp (disch := first | assumption | omega) only [go_sem]) ?_
        rintro _ h2 ⟨rfl, hL2⟩
        have hG2 := Good.ask (n := n) ⟨hI, hB, hTn⟩ han htb
        generalize (askL T a cs tb).2 = T2 at *
        simp (disch := first | assumption | omega) only [e30, e29, e28, e6, e0, go_sem, ↓reduceIte, Nat.reduceEqDiff, reduceCtorEq, reduceIte]
        exact ⟨d - 1, by omega, i + 1, T2, by omega, by simp, hL2, hG2⟩
      by_cases u1 : u = 1
      · have u0' : ¬(1 : Int) = 0 := by omega
        simp (disch := first | assumption | omega) only [e6, u1, u0', go_sem, ↓reduceIte, Nat.reduceEqDiff, reduceIte]
        obtain ⟨tb, htb⟩ := ring_dec T a cs
        refine callG_ok (AskLv a _ rfl .sh cs (ro _) (by first | omega | simp) T hI (by omega) (by omega) tb htb tid h _ (by simp (disch := first | assumption | omega) only [go_sem]; exact hT)) (by simp (disch := first | assumption | omega) only [go_sem]) ?_
        rintro _ h2 ⟨rfl, hL2⟩
        have hG2 := Good.ask (n := n) ⟨hI, hB, hTn⟩ han htb
        generalize (askL T a cs tb).2 = T2 at *
        simp (disch := first | assumption | omega) only [e30, e29, e28, e6, e0, go_sem, ↓reduceIte, Nat.reduceEqDiff, reduceCtorEq, reduceIte]
        exact ⟨d - 1, by omega, i + 1, T2, by omega, by simp, hL2, hG2⟩
      by_cases u2 : u = 2
      · simp (disch := first | assumption | omega) only [e6, u2, go_sem, ↓reduceIte, Nat.reduceEqDiff, reduceIte, Int.reduceEq]
        refine callG_ok (CellsLv a _ rfl T hI (by omega) tid h _ (by simp (disch := first | assumption | omega) only [go_sem]; exact hT)) (by simp (disch := first | assumption | omega) only [go_sem]) ?_
        rintro _ _ ⟨⟨o', rfl, ho'⟩, hhh⟩
        rw [hhh]
        clear hhh
        have hcl := (fault_up (hI.ok a)).1
        have ho2 : o' = .nil ∧ T.of a = [] ∨ o' = .app 2 := ho'
        rcases ho2 with ⟨rfl, ha0⟩ | rfl
        · simp (disch := first | assumption | omega) only [e6, go_sem, ↓reduceIte, Nat.reduceEqDiff, reduceIte]
          refine callG_ok (Meet_ok .nil .sh (T.of a) cs ⟨.inr rfl, fun _ => ha0⟩ (ro _) (by first | omega | simp) _) (by simp (disch := first | assumption | omega) only [go_sem]) ?_
          rintro _ _ ⟨rfl, hhh⟩
          rw [hhh]
          clear hhh
          have hml : (meetC (T.of a) cs).length ≤ 400 := Nat.le_trans (Nat.le_trans (List.length_filter_le _ _) (normC_len _)) hcl
          simp (disch := first | assumption | omega) only [go_sem, ↓reduceIte, Nat.reduceEqDiff, reduceIte]
          refine callG_ok (DoneLv a _ rfl .sh (meetC (T.of a) cs) (ro _) (by omega) T hI (by omega) (by omega) tid h _ (by simp (disch := first | assumption | omega) only [go_sem]; exact hT)) (by simp (disch := first | assumption | omega) only [go_sem]) ?_
          rintro _ h2 ⟨rfl, hL2⟩
          have hG2 := Good.done (n := n) ⟨hI, hB, hTn⟩ han (meetC (T.of a) cs)
          generalize (if doneC T a (meetC (T.of a) cs) = 0 then doneL T a (meetC (T.of a) cs) else T) = T2 at *
          simp (disch := first | assumption | omega) only [e30, e29, e28, e6, e0, go_sem, ↓reduceIte, Nat.reduceEqDiff, reduceCtorEq, reduceIte]
          exact ⟨d - 1, by omega, i + 1, T2, by omega, by simp, hL2, hG2⟩
        · simp (disch := first | assumption | omega) only [e6, go_sem, ↓reduceIte, Nat.reduceEqDiff, reduceIte]
          refine callG_ok (Meet_ok .sh .sh (T.of a) cs (ro _) (ro _) (by first | omega | simp) _) (by simp (disch := first | assumption | omega) only [go_sem]) ?_
          rintro _ _ ⟨rfl, hhh⟩
          rw [hhh]
          clear hhh
          have hml : (meetC (T.of a) cs).length ≤ 400 := Nat.le_trans (Nat.le_trans (List.length_filter_le _ _) (normC_len _)) hcl
          simp (disch := first | assumption | omega) only [go_sem, ↓reduceIte, Nat.reduceEqDiff, reduceIte]
          refine callG_ok (DoneLv a _ rfl .sh (meetC (T.of a) cs) (ro _) (by omega) T hI (by omega) (by omega) tid h _ (by simp (disch := first | assumption | omega) only [go_sem]; exact hT)) (by simp (disch := first | assumption | omega) only [go_sem]) ?_
          rintro _ h2 ⟨rfl, hL2⟩
          have hG2 := Good.done (n := n) ⟨hI, hB, hTn⟩ han (meetC (T.of a) cs)
          generalize (if doneC T a (meetC (T.of a) cs) = 0 then doneL T a (meetC (T.of a) cs) else T) = T2 at *
          simp (disch := first | assumption | omega) only [e30, e29, e28, e6, e0, go_sem, ↓reduceIte, Nat.reduceEqDiff, reduceCtorEq, reduceIte]
          exact ⟨d - 1, by omega, i + 1, T2, by omega, by simp, hL2, hG2⟩
      simp (disch := first | assumption | omega) only [e6, u0, u1, u2, go_sem, ↓reduceIte, Nat.reduceEqDiff, reduceIte]
      refine callG_ok (CellsLv a _ rfl T hI (by omega) tid h _ (by simp (disch := first | assumption | omega) only [go_sem]; exact hT)) (by simp (disch := first | assumption | omega) only [go_sem]) ?_
      rintro _ _ ⟨⟨o', rfl, ho'⟩, hhh⟩
      rw [hhh]
      clear hhh
      have hcl := (fault_up (hI.ok a)).1
      have ho2 : o' = .nil ∧ T.of a = [] ∨ o' = .app 2 := ho'
      rcases ho2 with ⟨rfl, ha0⟩ | rfl
      · simp (disch := first | assumption | omega) only [go_sem, ↓reduceIte, Nat.reduceEqDiff, reduceIte]
        refine callG_ok (DoneLv a _ rfl .nil (T.of a) ⟨.inr rfl, fun _ => ha0⟩ (by omega) T hI (by omega) (by omega) tid h _ (by simp (disch := first | assumption | omega) only [go_sem]; exact hT)) (by simp (disch := first | assumption | omega) only [go_sem]) ?_
        rintro _ h2 ⟨rfl, hL2⟩
        have hG2 := Good.done (n := n) ⟨hI, hB, hTn⟩ han (T.of a)
        generalize (if doneC T a (T.of a) = 0 then doneL T a (T.of a) else T) = T2 at *
        simp (disch := first | assumption | omega) only [e30, e29, e28, e6, e0, go_sem, ↓reduceIte, Nat.reduceEqDiff, reduceCtorEq, reduceIte]
        exact ⟨d - 1, by omega, i + 1, T2, by omega, by simp, hL2, hG2⟩
      · simp (disch := first | assumption | omega) only [go_sem, ↓reduceIte, Nat.reduceEqDiff, reduceIte]
        refine callG_ok (DoneLv a _ rfl .sh (T.of a) (ro _) (by omega) T hI (by omega) (by omega) tid h _ (by simp (disch := first | assumption | omega) only [go_sem]; exact hT)) (by simp (disch := first | assumption | omega) only [go_sem]) ?_
        rintro _ h2 ⟨rfl, hL2⟩
        have hG2 := Good.done (n := n) ⟨hI, hB, hTn⟩ han (T.of a)
        generalize (if doneC T a (T.of a) = 0 then doneL T a (T.of a) else T) = T2 at *
        simp (disch := first | assumption | omega) only [e30, e29, e28, e6, e0, go_sem, ↓reduceIte, Nat.reduceEqDiff, reduceCtorEq, reduceIte]
        exact ⟨d - 1, by omega, i + 1, T2, by omega, by simp, hL2, hG2⟩
  · obtain rfl : i = N := by omega
    simp (disch := first | assumption | omega) only [e30, e29, e6, hlt, go_sem, ↓reduceIte, Nat.reduceEqDiff, reduceIte]
    subst hQ
    simp (disch := first | assumption | omega) only [R.gantkeep5_table, go_sem, ↓reduceIte, Nat.reduceEqDiff, reduceIte]
    exact ⟨tid, T, rfl, hT, hG⟩
end Go.Proofs.Ytpdajkbfemcdlaa
set_option linter.unusedSimpArgs false
set_option linter.unusedVariables false
set_option maxRecDepth 10000
namespace Go.Proofs.Ytpdajkbfemcdlaa
open Go.Ge Go.Sort
theorem wish_nil {T : Tb} (h : T.Inv) (i : Nat) : T.wish i = [] ↔ atN i T.waits = none := by
  unfold Tb.wish
  cases he : atN i T.waits with
  | none => simp
  | some j =>
    obtain ⟨hl, e⟩ := atN_some he
    simp only [getD_at hl]
    exact ⟨fun h2 => absurd h2 (h.ne _ (List.getElem_mem hl)), fun h2 => by cases h2⟩
theorem doneC_all {T : Tb} (h : T.Inv) (i : Nat) : doneC T i (T.of i) = 0 := doneC_of (h.ok i) fun c hc => hc
theorem LeaseEnds_law (arms : Int) (o : Own) (l : List Int) (ha : inI64 arms) (ho : Rdo o) (hl : ∀ c ∈ l, inI64 c) (hll : l.length ≤ 1152921504606846976) :
    ACalls Try.prog F.gantkeep5_LeaseEnds [.int .i64 arms, .lst o (ints .i64 l)] [] (fun r _ => r = .bool true) := by
  have ro : ∀ l : List Cell, Rdn .sh l := fun l => ⟨.inl rfl, fun e => by cases e⟩
  refine ACalls.of_aw Try.func34 K.gantkeep5_LeaseEnds (by simp [Try.f34]) ?_
  generalize hQ : retQ R.gantkeep5_LeaseEnds _ = Q
  simp (disch := first | assumption | omega) only [C.gantkeep5_LeaseEnds, go_sem]
  refine callG_ok (leases_ok _) (by simp (disch := first | assumption | omega) only [go_sem]) ?_
  rintro _ _ ⟨rfl, hhh⟩
  rw [hhh]
  clear hhh
  simp (disch := first | assumption | omega) only [go_sem, ↓reduceIte, reduceCtorEq, reduceIte]
  refine callG_ok (Below_ok arms 4 ha (by omega) (by omega) _) (by simp (disch := first | assumption | omega) only [go_sem]) ?_
  rintro _ _ ⟨rfl, hhh⟩
  rw [hhh]
  clear hhh
  have m1 := Int.emod_nonneg arms (b := 4) (by omega)
  have m2 := Int.emod_lt_of_pos arms (b := 4) (by omega)
  obtain ⟨n, hn⟩ : ∃ n : Nat, 1 + arms % 4 = n := ⟨(1 + arms % 4).toNat, by omega⟩
  have hn1 : 1 ≤ n := by omega
  have hn4 : n ≤ 4 := by omega
  simp (disch := first | assumption | omega) only [hn, go_sem, ↓reduceIte, Nat.reduceEqDiff, reduceCtorEq, reduceIte]
  refine callG_ok (lTable_ok n hn1 hn4 o l ho hl hll _) (by simp (disch := first | assumption | omega) only [go_sem]) ?_
  rintro _ h1 ⟨tid, T, rfl, hL, hG⟩
  simp only [go_sem] at hL
  simp (disch := first | assumption | omega) only [go_sem, ↓reduceIte, Nat.reduceEqDiff, reduceCtorEq, Nat.reduceAdd, Nat.reduceLT, reduceIte, Int.reduceLT, Int.reduceAdd]
  refine aw_count (fun d S => ∃ (r : Nat) (T : Tb), r + d = n + 1 ∧ S.env 24 = .int .i64 r ∧ S.env 23 = .int .i64 (n + 1) ∧ S.env 0 = .int .i64 n ∧ S.env 5 = .hp tid 0 ∧ Lv [] S.heap tid T ∧ Good n T ∧ T.waits.length ≤ n - r ∧ (r = n + 1 → T.waits = [] ∧ ∀ x, T.of x = [])) (n := n + 1)
    ⟨0, T, by omega, by simp (disch := first | assumption | omega) only [go_sem, ↓reduceIte, reduceIte], by simp (disch := first | assumption | omega) only [go_sem, ↓reduceIte, Nat.reduceEqDiff, reduceIte], by simp (disch := first | assumption | omega) only [go_sem, ↓reduceIte, reduceCtorEq, reduceIte], by simp (disch := first | assumption | omega) only [go_sem, ↓reduceIte, Nat.reduceEqDiff, reduceIte], by simp (disch := first | assumption | omega) only [go_sem]; exact hL, hG, by have := hG.1.toArms.len; rw [hG.2.2] at this; omega, fun e => by omega⟩ ?_
  rintro d S ⟨r, T0, hr, e24, e23, e0, e5, hL0, hG0, hw0, hz0⟩
  by_cases hlt : (r : Int) < n + 1
  · have hrn : r ≤ n := by omega
    simp (disch := first | assumption | omega) only [e24, e23, e0, hlt, go_sem, ↓reduceIte, reduceCtorEq, reduceIte]
    refine aw_count (fun e S => ∃ (i : Nat) (T : Tb), i + e = n ∧ S.env 27 = .int .i64 i ∧ S.env 26 = .int .i64 n ∧ S.env 24 = .int .i64 r ∧ S.env 23 = .int .i64 (n + 1) ∧ S.env 0 = .int .i64 n ∧ S.env 5 = .hp tid 0 ∧ Lv [] S.heap tid T ∧ EndI T0 i T) (n := n)
      ⟨0, T0, by omega, by simp (disch := first | assumption | omega) only [go_sem, ↓reduceIte, reduceIte], by simp (disch := first | assumption | omega) only [go_sem, ↓reduceIte, Nat.reduceEqDiff, reduceIte], by simp (disch := first | assumption | omega) only [e24, go_sem, ↓reduceIte, Nat.reduceEqDiff, reduceIte], by simp (disch := first | assumption | omega) only [e23, go_sem, ↓reduceIte, Nat.reduceEqDiff, reduceIte], by simp (disch := first | assumption | omega) only [e0, go_sem, ↓reduceIte, reduceCtorEq, reduceIte], by simp (disch := first | assumption | omega) only [e5, go_sem, ↓reduceIte, Nat.reduceEqDiff, reduceIte], by simp (disch := first | assumption | omega) only [go_sem]; exact hL0, EndI.start hG0.1 hG0.2.1⟩ ?_
    rintro e S ⟨i, T, hi, e27, e26, e24, e23, e0, e5, hT, hE⟩
    have hTn : T.has.length = n := hE.len.trans hG0.2.2
    by_cases hli : (i : Int) < n
    · have hin : i < n := by omega
      have hst := hE.step (by rw [hG0.2.2]; exact hin)
      unfold backE at hst
      have hwn := wish_nil hE.inv i
      have hdz := doneC_all hE.inv i
      have hcl := (fault_up (hE.inv.ok i)).1
      simp (disch := first | assumption | omega) only [e27, e26, e5, hli, go_sem, ↓reduceIte, Nat.reduceEqDiff, reduceIte]
      refine callG_ok (WaitsLv i _ rfl T hE.inv (by omega) (by omega) tid [] _ (by simp (disch := first | assumption | omega) only [go_sem]; exact hT)) (by simp (disch := first | assumption | omega) only [go_sem]) ?_
      rintro _ _ ⟨⟨o', rfl, ho'⟩, hhh⟩
      rw [hhh]
      clear hhh
      by_cases hw : T.wish i = []
      · rw [if_pos (hwn.1 hw)] at hst
        rw [hw] at ho' ⊢
        have c0 : ((0 : Nat) : Int) = 0 := rfl
        rcases ho' with ⟨rfl, _⟩ | rfl
        all_goals
          simp (disch := first | assumption | omega) only [e5, List.length_nil, c0, go_sem, ↓reduceIte, Nat.reduceEqDiff, reduceIte]
          refine callG_ok (CellsLv i _ rfl T hE.inv (by omega) tid [] _ (by simp (disch := first | assumption | omega) only [go_sem]; exact hT)) (by simp (disch := first | assumption | omega) only [go_sem]) ?_
          rintro _ _ ⟨⟨o', rfl, ho'⟩, hhh⟩
          rw [hhh]
          clear hhh
          rcases ho' with ⟨rfl, hn0⟩ | rfl
          · simp (disch := first | assumption | omega) only [go_sem, ↓reduceIte, Nat.reduceEqDiff, reduceIte]
            refine callG_ok (DoneLv i _ rfl .nil (T.of i) ⟨.inr rfl, fun _ => hn0⟩ (by omega) T hE.inv (by omega) (by omega) tid [] _ (by simp (disch := first | assumption | omega) only [go_sem]; exact hT)) (by simp (disch := first | assumption | omega) only [go_sem]) ?_
            rintro _ h2 ⟨rfl, hL2⟩
            rw [hdz, if_pos rfl] at hL2
            rw [hdz]
            simp (disch := first | assumption | omega) only [e27, e26, e24, e23, e0, e5, go_sem, ↓reduceIte, Nat.reduceEqDiff, reduceCtorEq, reduceIte]
            exact ⟨e - 1, by omega, i + 1, _, by omega, by simp, hL2, hst⟩
          · simp (disch := first | assumption | omega) only [go_sem, ↓reduceIte, Nat.reduceEqDiff, reduceIte]
            refine callG_ok (DoneLv i _ rfl .sh (T.of i) (ro _) (by omega) T hE.inv (by omega) (by omega) tid [] _ (by simp (disch := first | assumption | omega) only [go_sem]; exact hT)) (by simp (disch := first | assumption | omega) only [go_sem]) ?_
            rintro _ h2 ⟨rfl, hL2⟩
            rw [hdz, if_pos rfl] at hL2
            rw [hdz]
            simp (disch := first | assumption | omega) only [e27, e26, e24, e23, e0, e5, go_sem, ↓reduceIte, Nat.reduceEqDiff, reduceCtorEq, reduceIte]
            exact ⟨e - 1, by omega, i + 1, _, by omega, by simp, hL2, hst⟩
      · rw [if_neg (fun e => hw (hwn.2 e))] at hst
        obtain rfl := ho'.resolve_left (fun e => hw e.2)
        have hwl : ¬ (((T.wish i).length : Nat) : Int) = 0 := fun e => hw (List.eq_nil_of_length_eq_zero (by omega))
        simp (disch := first | assumption | omega) only [e27, e26, e24, e23, e0, e5, hwl, go_sem, ↓reduceIte, Nat.reduceEqDiff, reduceCtorEq, reduceIte]
        exact ⟨e - 1, by omega, i + 1, _, by omega, by simp, hT, hst⟩
    · obtain rfl : n = i := by omega
      rw [← hG0.2.2] at hE
      have hd := hE.done
      have hGT : Good n T := ⟨hE.inv, hE.busy, hTn⟩
      simp (disch := first | assumption | omega) only [e27, e26, e24, e23, e0, e5, hli, go_sem, ↓reduceIte, Nat.reduceEqDiff, reduceCtorEq, reduceIte]
      rcases hd with hd | ⟨hd1, hd2, hd3⟩
      · exact ⟨d - 1, by omega, r + 1, T, by omega, by simp, hT, hGT, by omega, fun e => by omega⟩
      · exact ⟨d - 1, by omega, r + 1, T, by omega, by simp, hT, hGT, by rw [hd2]; simp, fun _ => ⟨hd2, hd3⟩⟩
  · obtain rfl : r = n + 1 := by omega
    obtain ⟨hz1, hz2⟩ := hz0 rfl
    simp (disch := first | assumption | omega) only [e24, e23, e0, hlt, go_sem, ↓reduceIte, reduceCtorEq, reduceIte]
    have hTn := hG0.2.2
    have hwi : ∀ i, T0.wish i = [] := fun i => (wish_nil hG0.1 i).2 (by rw [hz1]; rfl)
    have c0 : ((0 : Nat) : Int) = 0 := rfl
    refine aw_count (fun e S => ∃ (i : Nat), i + e = n ∧ S.env 47 = .int .i64 i ∧ S.env 46 = .int .i64 n ∧ S.env 5 = .hp tid 0 ∧ Lv [] S.heap tid T0) (n := n)
      ⟨0, by omega, by simp (disch := first | assumption | omega) only [go_sem, ↓reduceIte, reduceIte], by simp (disch := first | assumption | omega) only [go_sem, ↓reduceIte, Nat.reduceEqDiff, reduceIte], by simp (disch := first | assumption | omega) only [e5, go_sem, ↓reduceIte, Nat.reduceEqDiff, reduceIte], by simp (disch := first | assumption | omega) only [go_sem]; exact hL0⟩ ?_
    rintro e S ⟨i, hi, e47, e46, e5, hT⟩
    by_cases hli : (i : Int) < n
    · simp (disch := first | assumption | omega) only [e47, e46, e5, hli, go_sem, ↓reduceIte, Nat.reduceEqDiff, reduceIte]
      refine callG_ok (WaitsLv i _ rfl T0 hG0.1 (by omega) (by omega) tid [] _ (by simp (disch := first | assumption | omega) only [go_sem]; exact hT)) (by simp (disch := first | assumption | omega) only [go_sem]) ?_
      rintro _ _ ⟨⟨o', rfl, ho'⟩, hhh⟩
      rw [hhh, hwi]
      clear hhh
      rw [hwi] at ho'
      rcases ho' with ⟨rfl, _⟩ | rfl
      all_goals
        simp (disch := first | assumption | omega) only [e5, go_sem, ↓reduceIte, Nat.reduceEqDiff, reduceIte]
        refine callG_ok (CellsLv i _ rfl T0 hG0.1 (by omega) tid [] _ (by simp (disch := first | assumption | omega) only [go_sem]; exact hT)) (by simp (disch := first | assumption | omega) only [go_sem]) ?_
        rintro _ _ ⟨⟨o', rfl, ho'⟩, hhh⟩
        rw [hhh, hz2]
        clear hhh
        rw [hz2] at ho'
        rcases ho' with ⟨rfl, _⟩ | rfl
        all_goals
          simp (disch := first | assumption | omega) only [e47, e46, e5, List.length_nil, c0, go_sem, ↓reduceIte, Nat.reduceEqDiff, Nat.reduceLT, reduceIte, Int.reduceLT]
          exact ⟨e - 1, by omega, i + 1, by omega, by simp, hT⟩
    · simp (disch := first | assumption | omega) only [e47, e46, e5, hli, go_sem, ↓reduceIte, Nat.reduceEqDiff, reduceIte]
      refine callG_ok (LineLv T0 hG0.1 (by omega) tid [] _ (by simp (disch := first | assumption | omega) only [go_sem]; exact hT)) (by simp (disch := first | assumption | omega) only [go_sem]) ?_
      rintro bv _ ⟨hbv, hhh⟩
      rw [hhh]
      clear hhh
      rw [hz1] at hbv
      have hb2 : bv = .lst .nil [] ∨ bv = .lst (.app 1) [] := hbv.imp (fun e => e.1) id
      rcases hb2 with rfl | rfl
      · simp (disch := first | assumption | omega) only [c0, go_sem, ↓reduceIte, reduceIte]
        subst hQ
        simp (disch := first | assumption | omega) only [R.gantkeep5_LeaseEnds, go_sem, ↓reduceIte, reduceIte]
      · simp (disch := first | assumption | omega) only [c0, go_sem, ↓reduceIte, reduceIte]
        subst hQ
        simp (disch := first | assumption | omega) only [R.gantkeep5_LeaseEnds, go_sem, ↓reduceIte, reduceIte]
end Go.Proofs.Ytpdajkbfemcdlaa
