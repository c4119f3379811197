import Derived.Test.YtpdajkbfemcdlaaZB2
set_option linter.unusedSimpArgs false
set_option linter.unusedVariables false
set_option maxRecDepth 10000
namespace Go.Proofs.Ytpdajkbfemcdlaa
open Go.Ge Go.Sort
theorem ring_dec (T : Tb) (arm : Nat) (cs : List Cell) : ∃ tb, RingB T arm cs tb := by
  rcases Classical.em (∃ k ∈ blkL T arm (minusC cs (T.of arm)) T.waits.length, Rcw T k arm) with h | h
  · exact ⟨true, fun _ => h, fun _ => rfl⟩
  · exact ⟨false, (fun e => by cases e), fun e => absurd e h⟩
def Good (n : Nat) (T : Tb) : Prop := T.Inv ∧ Busy T ∧ T.has.length = n
theorem Good.ask {n : Nat} {T : Tb} (h : Good n T) {arm : Nat} (ha : arm < n) {cs : List Cell} {tb : Bool} (htb : RingB T arm cs tb) : Good n (askL T arm cs tb).2 := by
  obtain ⟨h1, h2, h3⟩ := ask_all h.1 h.2.1 (by rw [h.2.2]; exact ha) htb
  exact ⟨h1, h2, h3.trans h.2.2⟩
theorem Good.done {n : Nat} {T : Tb} (h : Good n T) {arm : Nat} (ha : arm < n) (cs : List Cell) : Good n (if doneC T arm cs = 0 then doneL T arm cs else T) := by
  split
  · obtain ⟨h1, h2, h3, _⟩ := done_all h.1 (arm := arm) (by rw [h.2.2]; exact ha) cs
    exact ⟨h1, h2, h3.trans h.2.2⟩
  · exact h
theorem three_inI64 (a b c : Int) : ∀ x ∈ [IntKind.i64.wrap a, IntKind.i64.wrap b, IntKind.i64.wrap c], inI64 x := by
  intro x hx
  simp only [List.mem_cons, List.not_mem_nil, or_false] at hx
  rcases hx with rfl | rfl | rfl <;> exact wrap_inI64 _
theorem lTable_ok (n : Nat) (h1 : 1 ≤ n) (h4 : n ≤ 4) (o : Own) (l : List Int) (ho : Rdo o) (hl : ∀ c ∈ l, inI64 c) (hll : l.length ≤ 1152921504606846976) (h : List HObj) :
    ACalls Try.prog F.gantkeep5_table [.int .i64 n, .lst o (ints .i64 l)] h (fun v h' => ∃ tid T, v = .tup [.hp tid 0, .bool true] ∧ Lv h h' tid T ∧ Good n T) := by
  obtain ⟨i0, b0⟩ := newT_inv n
  have ro : ∀ l : List Cell, Rdn .sh l := fun l => ⟨.inl rfl, fun e => by cases e⟩
  obtain ⟨N, hN, hN30, hNl⟩ : ∃ N : Nat, (if (60 : Int) < l.length then (60 : Int) else (l.length : Int)) = (N : Int) ∧ N ≤ 60 ∧ N ≤ l.length := by
    split
    · exact ⟨60, rfl, by omega, by omega⟩
    · exact ⟨l.length, rfl, by omega, by omega⟩
  have hNI : (N : Int) ≤ l.length := by omega
  refine ACalls.of_aw Try.func135 K.gantkeep5_table (by simp [Try.f135]) ?_
  generalize hQ : retQ R.gantkeep5_table _ = Q
  simp (disch:=first|assumption|omega) only[C.gantkeep5_table,go_sem,↓reduceIte,reduceCtorEq,reduceIte]
  refine callG_ok (NewLv n h1 h4 _) (by simp (disch:=first|assumption|omega) only[go_sem]) ?_
  rintro _ h1 ⟨tid, rfl, hL⟩
  simp only [go_sem] at hL
  simp (disch:=first|assumption|omega) only[hN,ints_take,go_sem,↓reduceIte,Nat.reduceEqDiff,Nat.reduceAdd,Nat.reduceLT,reduceIte,Int.reduceLT,Int.reduceLE,Int.reduceAdd]
  have hLn : (l.take N).length = N := by simp; omega
  have hLw : ∀ c ∈ l.take N, inI64 c := fun c hc => hl c (List.mem_of_mem_take hc)
  refine ⟨⟨by omega, ints_width _⟩, ?_⟩
  refine aw_count (fun d S => ∃ (i : Nat) (T : Tb), i + d = N ∧ S.env 30 = .int .i64 i ∧ S.env 29 = .int .i64 N ∧ S.env 28 = .lst .sh (ints .i64 (l.take N)) ∧ S.env 6 = .hp tid 0 ∧ S.env 0 = .int .i64 n ∧ Lv h S.heap tid T ∧ Good n T) (n := N)
    ⟨0, newT n, by omega, by simp (disch:=first|assumption|omega) only[go_sem,↓reduceIte,reduceIte], by simp (disch:=first|assumption|omega) only[hLn,go_sem,↓reduceIte,Nat.reduceEqDiff,reduceIte], by simp (disch:=first|assumption|omega) only[go_sem,↓reduceIte,Nat.reduceEqDiff,reduceIte], by simp (disch:=first|assumption|omega) only[go_sem,↓reduceIte,Nat.reduceEqDiff,reduceIte], by simp (disch:=first|assumption|omega) only[go_sem,↓reduceIte,reduceCtorEq,reduceIte], by simp (disch:=first|assumption|omega) only[go_sem]; exact hL, i0, b0, by simp [newT]⟩ ?_
  generalize l.take N = L at *
  rintro d S ⟨i, T, hid, e30, e29, e28, e6, e0, hT, hG⟩
  by_cases hlt : (i : Int) < N
  · have hlt1 : i < L.length := by omega
    have hgx := at_ints' (k := .i64) L i hlt1
    have hxi := hLw _ (List.getElem_mem hlt1)
    rw [getD_at hlt1] at hgx
    generalize L[i] = x at *
    simp (disch:=first|assumption|omega) only[e30,e29,e28,e0,hlt,hgx,go_sem,↓reduceIte,Nat.reduceEqDiff,reduceCtorEq,Nat.reduceLeDiff,Nat.reduceLT,reduceIte,Int.reduceLT]
    refine ⟨hlt1, ?_⟩
    refine callG_ok (Below_ok x n hxi (by omega) (by omega) _) (by simp (disch:=first|assumption|omega) only[go_sem]) ?_
    rintro _ _ ⟨rfl, hhh⟩
    rw [hhh]
    clear hhh
    have m1 := Int.emod_nonneg x (b := (n : Int)) (by omega)
    have m2 := Int.emod_lt_of_pos x (b := (n : Int)) (by omega)
    obtain ⟨a, ha⟩ := Int.eq_ofNat_of_zero_le m1
    rw [ha] at m1 m2 ⊢
    have han : a < n := by omega
    obtain ⟨hI, hB, hTn⟩ := hG
    simp (disch:=first|assumption|omega) only[go_sem,↓reduceIte,Nat.reduceEqDiff,Nat.reduceAdd,Nat.reduceLeDiff,reduceIte,Int.reduceAdd,Int.reduceMul,Int.reduceNe,Nat.reduceMul]
    refine callG_ok (MadeUp_ok .sh [IntKind.i64.wrap (x.tdiv 7), IntKind.i64.wrap (x.tdiv 11), IntKind.i64.wrap (x.tdiv 13)] (.inl rfl) (three_inI64 _ _ _) _) (by simp (disch:=first|assumption|omega) only[go_sem]) ?_
    rintro _ _ ⟨⟨cs, h8, hcb, hup, hv⟩, hhh⟩
    rw [hhh]
    clear hhh
    rcases hv with ⟨rfl, rfl⟩ | rfl
    · simp (disch:=first|assumption|omega) only[go_sem,↓reduceIte,Nat.reduceEqDiff,reduceIte,Int.reduceNe]
      refine callG_ok (Below_ok (IntKind.i64.wrap (x.tdiv 5)) 4 (wrap_inI64 _) (by omega) (by omega) _) (by simp (disch:=first|assumption|omega) only[go_sem]) ?_
      rintro _ _ ⟨rfl, hhh⟩
      rw [hhh]
      clear hhh
      have k1 := Int.emod_nonneg (IntKind.i64.wrap (x.tdiv 5)) (b := 4) (by omega)
      have k2 := Int.emod_lt_of_pos (IntKind.i64.wrap (x.tdiv 5)) (b := 4) (by omega)
      generalize IntKind.i64.wrap (x.tdiv 5) % 4 = u at *
      simp (disch:=first|assumption|omega) only[go_sem,↓reduceIte,reduceIte]
      by_cases u0 : u = 0
      · simp (disch:=first|assumption|omega) only[e6,u0,go_sem,↓reduceIte,Nat.reduceEqDiff,reduceIte]
        obtain ⟨tb, htb⟩ := ring_dec T a ([] : List Cell)
        refine callG_ok (AskLv a _ rfl .nil ([] : List Cell) ⟨.inr rfl, fun _ => rfl⟩ (by first | omega | simp) T hI (by omega) (by omega) tb htb tid h _ (by simp (disch:=first|assumption|omega) only[go_sem]; exact hT)) (by simp (disch:=first|assumption|omega) only[go_sem]) ?_
        rintro _ h2 ⟨rfl, hL2⟩
        have hG2 := Good.ask (n := n) ⟨hI, hB, hTn⟩ han htb
        generalize (askL T a ([] : List Cell) tb).2 = T2 at *
        simp (disch:=first|assumption|omega) only[e30,e29,e28,e6,e0,go_sem,↓reduceIte,Nat.reduceEqDiff,reduceCtorEq,reduceIte]
        exact ⟨d - 1, by omega, i + 1, T2, by omega, by simp, hL2, hG2⟩
      by_cases u1 : u = 1
      · have u0' : ¬(1 : Int) = 0 := by omega
        simp (disch:=first|assumption|omega) only[e6,u1,u0',go_sem,↓reduceIte,Nat.reduceEqDiff,reduceIte]
        obtain ⟨tb, htb⟩ := ring_dec T a ([] : List Cell)
        refine callG_ok (AskLv a _ rfl .nil ([] : List Cell) ⟨.inr rfl, fun _ => rfl⟩ (by first | omega | simp) T hI (by omega) (by omega) tb htb tid h _ (by simp (disch:=first|assumption|omega) only[go_sem]; exact hT)) (by simp (disch:=first|assumption|omega) only[go_sem]) ?_
        rintro _ h2 ⟨rfl, hL2⟩
        have hG2 := Good.ask (n := n) ⟨hI, hB, hTn⟩ han htb
        generalize (askL T a ([] : List Cell) tb).2 = T2 at *
        simp (disch:=first|assumption|omega) only[e30,e29,e28,e6,e0,go_sem,↓reduceIte,Nat.reduceEqDiff,reduceCtorEq,reduceIte]
        exact ⟨d - 1, by omega, i + 1, T2, by omega, by simp, hL2, hG2⟩
      by_cases u2 : u = 2
      · simp (disch:=first|assumption|omega) only[e6,u2,go_sem,↓reduceIte,Nat.reduceEqDiff,reduceIte,Int.reduceEq]
        refine callG_ok (CellsLv a _ rfl T hI (by omega) tid h _ (by simp (disch:=first|assumption|omega) only[go_sem]; exact hT)) (by simp (disch:=first|assumption|omega) only[go_sem]) ?_
        rintro _ _ ⟨⟨o', rfl, ho'⟩, hhh⟩
        rw [hhh]
        clear hhh
        have hcl := (fault_up (hI.ok a)).1
        have ho2 : o' = .nil ∧ T.of a = [] ∨ o' = .app 2 := ho'
        rcases ho2 with ⟨rfl, ha0⟩ | rfl
        · simp (disch:=first|assumption|omega) only[e6,go_sem,↓reduceIte,Nat.reduceEqDiff,reduceIte]
          refine callG_ok (Meet_ok .nil .nil (T.of a) ([] : List Cell) ⟨.inr rfl, fun _ => ha0⟩ ⟨.inr rfl, fun _ => rfl⟩ (by first | omega | simp) _) (by simp (disch:=first|assumption|omega) only[go_sem]) ?_
          rintro _ _ ⟨rfl, hhh⟩
          rw [hhh]
          clear hhh
          have hml : (meetC (T.of a) ([] : List Cell)).length ≤ 400 := Nat.le_trans (Nat.le_trans (List.length_filter_le _ _) (normC_len _)) hcl
          simp (disch:=first|assumption|omega) only[go_sem,↓reduceIte,Nat.reduceEqDiff,reduceIte]
          refine callG_ok (DoneLv a _ rfl .sh (meetC (T.of a) ([] : List Cell)) (ro _) (by omega) T hI (by omega) (by omega) tid h _ (by simp (disch:=first|assumption|omega) only[go_sem]; exact hT)) (by simp (disch:=first|assumption|omega) only[go_sem]) ?_
          rintro _ h2 ⟨rfl, hL2⟩
          have hG2 := Good.done (n := n) ⟨hI, hB, hTn⟩ han (meetC (T.of a) ([] : List Cell))
          generalize (if doneC T a (meetC (T.of a) ([] : List Cell)) = 0 then doneL T a (meetC (T.of a) ([] : List Cell)) else T) = T2 at *
          simp (disch:=first|assumption|omega) only[e30,e29,e28,e6,e0,go_sem,↓reduceIte,Nat.reduceEqDiff,reduceCtorEq,reduceIte]
          exact ⟨d - 1, by omega, i + 1, T2, by omega, by simp, hL2, hG2⟩
        · simp (disch:=first|assumption|omega) only[e6,go_sem,↓reduceIte,Nat.reduceEqDiff,reduceIte]
          refine callG_ok (Meet_ok .sh .nil (T.of a) ([] : List Cell) (ro _) ⟨.inr rfl, fun _ => rfl⟩ (by first | omega | simp) _) (by simp (disch:=first|assumption|omega) only[go_sem]) ?_
          rintro _ _ ⟨rfl, hhh⟩
          rw [hhh]
          clear hhh
          have hml : (meetC (T.of a) ([] : List Cell)).length ≤ 400 := Nat.le_trans (Nat.le_trans (List.length_filter_le _ _) (normC_len _)) hcl
          simp (disch:=first|assumption|omega) only[go_sem,↓reduceIte,Nat.reduceEqDiff,reduceIte]
          refine callG_ok (DoneLv a _ rfl .sh (meetC (T.of a) ([] : List Cell)) (ro _) (by omega) T hI (by omega) (by omega) tid h _ (by simp (disch:=first|assumption|omega) only[go_sem]; exact hT)) (by simp (disch:=first|assumption|omega) only[go_sem]) ?_
          rintro _ h2 ⟨rfl, hL2⟩
          have hG2 := Good.done (n := n) ⟨hI, hB, hTn⟩ han (meetC (T.of a) ([] : List Cell))
          generalize (if doneC T a (meetC (T.of a) ([] : List Cell)) = 0 then doneL T a (meetC (T.of a) ([] : List Cell)) else T) = T2 at *
          simp (disch:=first|assumption|omega) only[e30,e29,e28,e6,e0,go_sem,↓reduceIte,Nat.reduceEqDiff,reduceCtorEq,reduceIte]
          exact ⟨d - 1, by omega, i + 1, T2, by omega, by simp, hL2, hG2⟩
      simp (disch:=first|assumption|omega) only[e6,u0,u1,u2,go_sem,↓reduceIte,Nat.reduceEqDiff,reduceIte]
      refine callG_ok (CellsLv a _ rfl T hI (by omega) tid h _ (by simp (disch:=first|assumption|omega) only[go_sem]; exact hT)) (by simp (disch:=first|assumption|omega) only[go_sem]) ?_
      rintro _ _ ⟨⟨o', rfl, ho'⟩, hhh⟩
      rw [hhh]
      clear hhh
      have hcl := (fault_up (hI.ok a)).1
      have ho2 : o' = .nil ∧ T.of a = [] ∨ o' = .app 2 := ho'
      rcases ho2 with ⟨rfl, ha0⟩ | rfl
      · simp (disch:=first|assumption|omega) only[go_sem,↓reduceIte,Nat.reduceEqDiff,reduceIte]
        refine callG_ok (DoneLv a _ rfl .nil (T.of a) ⟨.inr rfl, fun _ => ha0⟩ (by omega) T hI (by omega) (by omega) tid h _ (by simp (disch:=first|assumption|omega) only[go_sem]; exact hT)) (by simp (disch:=first|assumption|omega) only[go_sem]) ?_
        rintro _ h2 ⟨rfl, hL2⟩
        have hG2 := Good.done (n := n) ⟨hI, hB, hTn⟩ han (T.of a)
        generalize (if doneC T a (T.of a) = 0 then doneL T a (T.of a) else T) = T2 at *
        simp (disch:=first|assumption|omega) only[e30,e29,e28,e6,e0,go_sem,↓reduceIte,Nat.reduceEqDiff,reduceCtorEq,reduceIte]
        exact ⟨d - 1, by omega, i + 1, T2, by omega, by simp, hL2, hG2⟩
      · simp (disch:=first|assumption|omega) only[go_sem,↓reduceIte,Nat.reduceEqDiff,reduceIte]
        refine callG_ok (DoneLv a _ rfl .sh (T.of a) (ro _) (by omega) T hI (by omega) (by omega) tid h _ (by simp (disch:=first|assumption|omega) only[go_sem]; exact hT)) (by simp (disch:=first|assumption|omega) only[go_sem]) ?_
        rintro _ h2 ⟨rfl, hL2⟩
        have hG2 := Good.done (n := n) ⟨hI, hB, hTn⟩ han (T.of a)
        generalize (if doneC T a (T.of a) = 0 then doneL T a (T.of a) else T) = T2 at *
        simp (disch:=first|assumption|omega) only[e30,e29,e28,e6,e0,go_sem,↓reduceIte,Nat.reduceEqDiff,reduceCtorEq,reduceIte]
        exact ⟨d - 1, by omega, i + 1, T2, by omega, by simp, hL2, hG2⟩
    · simp (disch:=first|assumption|omega) only[go_sem,↓reduceIte,Nat.reduceEqDiff,reduceIte,Int.reduceNe]
      refine callG_ok (Below_ok (IntKind.i64.wrap (x.tdiv 5)) 4 (wrap_inI64 _) (by omega) (by omega) _) (by simp (disch:=first|assumption|omega) only[go_sem]) ?_
      rintro _ _ ⟨rfl, hhh⟩
      rw [hhh]
      clear hhh
      have k1 := Int.emod_nonneg (IntKind.i64.wrap (x.tdiv 5)) (b := 4) (by omega)
      have k2 := Int.emod_lt_of_pos (IntKind.i64.wrap (x.tdiv 5)) (b := 4) (by omega)
      generalize IntKind.i64.wrap (x.tdiv 5) % 4 = u at *
      simp (disch:=first|assumption|omega) only[go_sem,↓reduceIte,reduceIte]
      by_cases u0 : u = 0
      · simp (disch:=first|assumption|omega) only[e6,u0,go_sem,↓reduceIte,Nat.reduceEqDiff,reduceIte]
        obtain ⟨tb, htb⟩ := ring_dec T a cs
        refine callG_ok (AskLv a _ rfl .sh cs (ro _) (by first | omega | simp) T hI (by omega) (by omega) tb htb tid h _ (by simp (disch:=first|assumption|omega) only[go_sem]; exact hT)) (by simp (disch:=first|assumption|omega) only[go_sem]) ?_
        rintro _ h2 ⟨rfl, hL2⟩
        have hG2 := Good.ask (n := n) ⟨hI, hB, hTn⟩ han htb
        generalize (askL T a cs tb).2 = T2 at *
        simp (disch:=first|assumption|omega) only[e30,e29,e28,e6,e0,go_sem,↓reduceIte,Nat.reduceEqDiff,reduceCtorEq,reduceIte]
        exact ⟨d - 1, by omega, i + 1, T2, by omega, by simp, hL2, hG2⟩
      by_cases u1 : u = 1
      · have u0' : ¬(1 : Int) = 0 := by omega
        simp (disch:=first|assumption|omega) only[e6,u1,u0',go_sem,↓reduceIte,Nat.reduceEqDiff,reduceIte]
        obtain ⟨tb, htb⟩ := ring_dec T a cs
        refine callG_ok (AskLv a _ rfl .sh cs (ro _) (by first | omega | simp) T hI (by omega) (by omega) tb htb tid h _ (by simp (disch:=first|assumption|omega) only[go_sem]; exact hT)) (by simp (disch:=first|assumption|omega) only[go_sem]) ?_
        rintro _ h2 ⟨rfl, hL2⟩
        have hG2 := Good.ask (n := n) ⟨hI, hB, hTn⟩ han htb
        generalize (askL T a cs tb).2 = T2 at *
        simp (disch:=first|assumption|omega) only[e30,e29,e28,e6,e0,go_sem,↓reduceIte,Nat.reduceEqDiff,reduceCtorEq,reduceIte]
        exact ⟨d - 1, by omega, i + 1, T2, by omega, by simp, hL2, hG2⟩
      by_cases u2 : u = 2
      · simp (disch:=first|assumption|omega) only[e6,u2,go_sem,↓reduceIte,Nat.reduceEqDiff,reduceIte,Int.reduceEq]
        refine callG_ok (CellsLv a _ rfl T hI (by omega) tid h _ (by simp (disch:=first|assumption|omega) only[go_sem]; exact hT)) (by simp (disch:=first|assumption|omega) only[go_sem]) ?_
        rintro _ _ ⟨⟨o', rfl, ho'⟩, hhh⟩
        rw [hhh]
        clear hhh
        have hcl := (fault_up (hI.ok a)).1
        have ho2 : o' = .nil ∧ T.of a = [] ∨ o' = .app 2 := ho'
        rcases ho2 with ⟨rfl, ha0⟩ | rfl
        · simp (disch:=first|assumption|omega) only[e6,go_sem,↓reduceIte,Nat.reduceEqDiff,reduceIte]
          refine callG_ok (Meet_ok .nil .sh (T.of a) cs ⟨.inr rfl, fun _ => ha0⟩ (ro _) (by first | omega | simp) _) (by simp (disch:=first|assumption|omega) only[go_sem]) ?_
          rintro _ _ ⟨rfl, hhh⟩
          rw [hhh]
          clear hhh
          have hml : (meetC (T.of a) cs).length ≤ 400 := Nat.le_trans (Nat.le_trans (List.length_filter_le _ _) (normC_len _)) hcl
          simp (disch:=first|assumption|omega) only[go_sem,↓reduceIte,Nat.reduceEqDiff,reduceIte]
          refine callG_ok (DoneLv a _ rfl .sh (meetC (T.of a) cs) (ro _) (by omega) T hI (by omega) (by omega) tid h _ (by simp (disch:=first|assumption|omega) only[go_sem]; exact hT)) (by simp (disch:=first|assumption|omega) only[go_sem]) ?_
          rintro _ h2 ⟨rfl, hL2⟩
          have hG2 := Good.done (n := n) ⟨hI, hB, hTn⟩ han (meetC (T.of a) cs)
          generalize (if doneC T a (meetC (T.of a) cs) = 0 then doneL T a (meetC (T.of a) cs) else T) = T2 at *
          simp (disch:=first|assumption|omega) only[e30,e29,e28,e6,e0,go_sem,↓reduceIte,Nat.reduceEqDiff,reduceCtorEq,reduceIte]
          exact ⟨d - 1, by omega, i + 1, T2, by omega, by simp, hL2, hG2⟩
        · simp (disch:=first|assumption|omega) only[e6,go_sem,↓reduceIte,Nat.reduceEqDiff,reduceIte]
          refine callG_ok (Meet_ok .sh .sh (T.of a) cs (ro _) (ro _) (by first | omega | simp) _) (by simp (disch:=first|assumption|omega) only[go_sem]) ?_
          rintro _ _ ⟨rfl, hhh⟩
          rw [hhh]
          clear hhh
          have hml : (meetC (T.of a) cs).length ≤ 400 := Nat.le_trans (Nat.le_trans (List.length_filter_le _ _) (normC_len _)) hcl
          simp (disch:=first|assumption|omega) only[go_sem,↓reduceIte,Nat.reduceEqDiff,reduceIte]
          refine callG_ok (DoneLv a _ rfl .sh (meetC (T.of a) cs) (ro _) (by omega) T hI (by omega) (by omega) tid h _ (by simp (disch:=first|assumption|omega) only[go_sem]; exact hT)) (by simp (disch:=first|assumption|omega) only[go_sem]) ?_
          rintro _ h2 ⟨rfl, hL2⟩
          have hG2 := Good.done (n := n) ⟨hI, hB, hTn⟩ han (meetC (T.of a) cs)
          generalize (if doneC T a (meetC (T.of a) cs) = 0 then doneL T a (meetC (T.of a) cs) else T) = T2 at *
          simp (disch:=first|assumption|omega) only[e30,e29,e28,e6,e0,go_sem,↓reduceIte,Nat.reduceEqDiff,reduceCtorEq,reduceIte]
          exact ⟨d - 1, by omega, i + 1, T2, by omega, by simp, hL2, hG2⟩
      simp (disch:=first|assumption|omega) only[e6,u0,u1,u2,go_sem,↓reduceIte,Nat.reduceEqDiff,reduceIte]
      refine callG_ok (CellsLv a _ rfl T hI (by omega) tid h _ (by simp (disch:=first|assumption|omega) only[go_sem]; exact hT)) (by simp (disch:=first|assumption|omega) only[go_sem]) ?_
      rintro _ _ ⟨⟨o', rfl, ho'⟩, hhh⟩
      rw [hhh]
      clear hhh
      have hcl := (fault_up (hI.ok a)).1
      have ho2 : o' = .nil ∧ T.of a = [] ∨ o' = .app 2 := ho'
      rcases ho2 with ⟨rfl, ha0⟩ | rfl
      · simp (disch:=first|assumption|omega) only[go_sem,↓reduceIte,Nat.reduceEqDiff,reduceIte]
        refine callG_ok (DoneLv a _ rfl .nil (T.of a) ⟨.inr rfl, fun _ => ha0⟩ (by omega) T hI (by omega) (by omega) tid h _ (by simp (disch:=first|assumption|omega) only[go_sem]; exact hT)) (by simp (disch:=first|assumption|omega) only[go_sem]) ?_
        rintro _ h2 ⟨rfl, hL2⟩
        have hG2 := Good.done (n := n) ⟨hI, hB, hTn⟩ han (T.of a)
        generalize (if doneC T a (T.of a) = 0 then doneL T a (T.of a) else T) = T2 at *
        simp (disch:=first|assumption|omega) only[e30,e29,e28,e6,e0,go_sem,↓reduceIte,Nat.reduceEqDiff,reduceCtorEq,reduceIte]
        exact ⟨d - 1, by omega, i + 1, T2, by omega, by simp, hL2, hG2⟩
      · simp (disch:=first|assumption|omega) only[go_sem,↓reduceIte,Nat.reduceEqDiff,reduceIte]
        refine callG_ok (DoneLv a _ rfl .sh (T.of a) (ro _) (by omega) T hI (by omega) (by omega) tid h _ (by simp (disch:=first|assumption|omega) only[go_sem]; exact hT)) (by simp (disch:=first|assumption|omega) only[go_sem]) ?_
        rintro _ h2 ⟨rfl, hL2⟩
        have hG2 := Good.done (n := n) ⟨hI, hB, hTn⟩ han (T.of a)
        generalize (if doneC T a (T.of a) = 0 then doneL T a (T.of a) else T) = T2 at *
        simp (disch:=first|assumption|omega) only[e30,e29,e28,e6,e0,go_sem,↓reduceIte,Nat.reduceEqDiff,reduceCtorEq,reduceIte]
        exact ⟨d - 1, by omega, i + 1, T2, by omega, by simp, hL2, hG2⟩
  · obtain rfl : i = N := by omega
    simp (disch:=first|assumption|omega) only[e30,e29,e6,hlt,go_sem,↓reduceIte,Nat.reduceEqDiff,reduceIte]
    subst hQ
    simp (disch:=first|assumption|omega) only[R.gantkeep5_table,go_sem,↓reduceIte,Nat.reduceEqDiff,reduceIte]
    exact ⟨tid, T, rfl, hT, hG⟩
end Go.Proofs.Ytpdajkbfemcdlaa
set_option linter.unusedSimpArgs false
set_option linter.unusedVariables false
set_option maxRecDepth 10000
namespace Go.Proofs.Ytpdajkbfemcdlaa
open Go.Ge Go.Sort
theorem rd_made {o : Own} {L : List Cell} (h : o = .nil ∧ L = [] ∨ o = .app 2) : ∃ q, Rdn q L ∧ rdv (.lst o (cellsA L)) = .lst q (cellsA L) := by
  rcases h with ⟨rfl, h⟩ | rfl
  · exact ⟨.nil, ⟨.inr rfl, fun _ => h⟩, rfl⟩
  · exact ⟨.sh, ⟨.inl rfl, fun e => by cases e⟩, rfl⟩
end Go.Proofs.Ytpdajkbfemcdlaa
set_option linter.unusedSimpArgs false
set_option linter.unusedVariables false
set_option maxRecDepth 10000
namespace Go.Proofs.Ytpdajkbfemcdlaa
open Go.Ge Go.Sort
def touchB (a b : List Cell) : Bool := a.any fun c => decide (c ∈ b)
theorem touch_eq (a b : List Cell) : touch a b = touchB a b := by
  rw [Bool.eq_iff_iff, touch_iff]
  unfold touchB
  simp
theorem tch_eq (a b : List (List Cell)) : tch a b = fun i k => touchB (a.getD k []) (b.getD i []) := by
  funext i k
  unfold tch
  rw [touch_eq]
end Go.Proofs.Ytpdajkbfemcdlaa
set_option linter.unusedSimpArgs false
set_option linter.unusedVariables false
set_option maxRecDepth 10000
namespace Go.Proofs.Ytpdajkbfemcdlaa
open Go.Ge Go.Sort
theorem safeV1 : safeV [[]] [[⟨0, 0⟩]] = (0, [0]) := by
  unfold safeV clash clashI
  rw [tch_eq]
  simp only [touch_eq]
  decide
theorem map_of (T : Tb) : (List.range T.has.length).map T.of = T.has := by
  refine List.ext_getElem (by simp) fun i h1 h2 => ?_
  rw [List.getElem_map, List.getElem_range]
  exact getD_at h2 []
theorem cel_made {o : Own} {L : List Cell} (h : o = .nil ∧ L = [] ∨ o = .app 2) : ∃ q, rdv (.lst o (cellsA L)) = .lst q (cellsA L) ∧ CelOk L (.lst q (cellsA L)) ∧ Rdo q := by
  obtain ⟨q, hq, hr⟩ := rd_made h
  exact ⟨q, hr, ⟨q, hq, rfl⟩, hq.1⟩
theorem at_nats {r : List Nat} {i k : Nat} (h : r[i]? = some k) : at_ (nats r) (i : Int) = .int .i64 k := by
  obtain ⟨hl, e⟩ := List.getElem?_eq_some_iff.1 h
  have := at_ints' (k := .i64) (r.map fun (n : Nat) => (n : Int)) i (by simpa using hl)
  unfold nats
  rw [this, getD_at (by simpa using hl)]
  simp [e]
theorem nats_take (r : List Nat) (i : Nat) : List.take i (nats r) = nats (r.take i) := by
  unfold nats ints
  rw [← List.map_take, ← List.map_take]
theorem okR_at {t : Nat → Bool} {N k : Nat} {D : List Nat} (h : okR t N k D = true) {j : Nat} (hj : j < N) (hjk : j ≠ k) (hd : D.contains j = false) : t j = false := by
  unfold okR at h
  rw [List.all_eq_true] at h
  have := h j (List.mem_range.2 hj)
  rw [hd] at this
  simpa [hjk] using this
theorem RingGives_law (o : Own) (l : List Int) (p : Own) (m : List Int) (ho : Rdo o) (hl : ∀ c ∈ l, inI64 c) (hll : l.length ≤ 1152921504606846976) (hp : Rdo p) (hm : ∀ c ∈ m, inI64 c) (hml : m.length ≤ 1152921504606846976) :
    ACalls Try.prog F.gantkeep5_RingGives [.lst o (ints .i64 l), .lst p (ints .i64 m)] [] (fun r _ => r = .bool true) := by
  have ro : ∀ l : List Cell, Rdn .sh l := fun l => ⟨.inl rfl, fun e => by cases e⟩
  refine ACalls.of_aw Try.func38 K.gantkeep5_RingGives (by simp [Try.f38]) ?_
  generalize hQ : retQ R.gantkeep5_RingGives _ = Q
  simp (disch:=first|assumption|omega) only[C.gantkeep5_RingGives,go_sem,↓reduceIte,Nat.reduceEqDiff,Nat.reduceAdd,Nat.reduceLeDiff,reduceIte,Int.reduceAdd,Int.reduceMul,Nat.reduceMul]
  refine callG_ok (Safe_ok .sh .sh [[]] [[⟨0, 0⟩]] _ _ (.inl rfl) (.inl rfl) ⟨_, _, rfl, ⟨.nil, ⟨.inr rfl, fun _ => rfl⟩, rfl⟩, rfl⟩ ⟨_, _, rfl, ⟨.sh, ro _, rfl⟩, rfl⟩ (by simp) (by simp) (by simp) (by simp) _) (by simp (disch:=first|assumption|omega) only[go_sem]) ?_
  rintro _ _ ⟨⟨q, rfl, hq⟩, hhh⟩
  rw [hhh]
  clear hhh
  rw [safeV1] at hq ⊢
  obtain rfl : q = .app 1 := by
    rcases hq with ⟨_, h⟩ | h
    · cases h
    · exact h
  simp (disch:=first|assumption|omega) only[go_sem,↓reduceIte,Nat.reduceEqDiff,Nat.reduceAdd,Nat.reduceLeDiff,Nat.reduceLT,reduceIte,Int.reduceLT,Int.reduceAdd,Int.reduceMul,Nat.reduceMul]
  refine callG_ok (EqualInt_ok .sh .sh [0] [0] (.inl rfl) (.inl rfl) (by simp) (by simp) _) (by simp (disch:=first|assumption|omega) only[go_sem]) ?_
  rintro _ _ ⟨rfl, hhh⟩
  rw [hhh, decide_eq_true rfl]
  clear hhh
  simp (disch:=first|assumption|omega) only[go_sem,↓reduceIte,Nat.reduceEqDiff,reduceCtorEq,reduceIte]
  refine callG_ok (lTable_ok 3 (by omega) (by omega) o l ho hl hll _) (by simp (disch:=first|assumption|omega) only[go_sem]) ?_
  rintro _ h1 ⟨tid, T, rfl, hL, hI, hB, hTn⟩
  simp only [go_sem] at hL
  simp (disch:=first|assumption|omega) only[go_sem,↓reduceIte,Nat.reduceEqDiff,Nat.reduceAdd,Nat.reduceLT,reduceIte,Int.reduceLT,Int.reduceAdd]
  refine aw_count (fun d S => ∃ (i : Nat) (q1 q2 : Own) (xs ys : List AVal) (ws : List (List Cell)), i + d = 3 ∧ S.env 40 = .int .i64 i ∧ S.env 9 = .lst q1 xs ∧ S.env 10 = .lst q2 ys ∧ S.env 7 = .hp tid 0 ∧ S.env 1 = .lst p (ints .i64 m) ∧ (i = 0 ∧ q1 = .nil ∧ q2 = .nil ∨ q1 = .app 1 ∧ q2 = .app 1) ∧ Each2 CelOk ((List.range i).map T.of) xs ∧ Each2 CelOk ws ys ∧ ws.length = i ∧ (∀ w ∈ ws, cellsFault w = 0) ∧ Lv [] S.heap tid T) (n := 3)
    ⟨0, .nil, .nil, [], [], [], by omega, by simp (disch:=first|assumption|omega) only[go_sem,↓reduceIte,reduceIte], by simp (disch:=first|assumption|omega) only[go_sem,↓reduceIte,Nat.reduceEqDiff,reduceIte], by simp (disch:=first|assumption|omega) only[go_sem,↓reduceIte,Nat.reduceEqDiff,reduceIte], by simp (disch:=first|assumption|omega) only[go_sem,↓reduceIte,Nat.reduceEqDiff,reduceIte], by simp (disch:=first|assumption|omega) only[go_sem,↓reduceIte,Nat.reduceEqDiff,reduceIte], .inl ⟨rfl, rfl, rfl⟩, rfl, rfl, rfl, by simp, by simp (disch:=first|assumption|omega) only[go_sem]; exact hL⟩ ?_
  rintro d S ⟨i, q1, q2, xs, ys, ws, hi, e40, e9, e10, e7, e1, hq, hx, hy, hw, hf, hL2⟩
  have lx := hx.length
  have ly := hy.length
  simp only [List.length_map, List.length_range] at lx
  by_cases hlt : (i : Int) < 3
  · have hmin : ∃ j : Nat, (if 3 * (i : Int) < m.length then 3 * (i : Int) else (m.length : Int)) = (j : Int) ∧ j ≤ m.length := by
      split
      · exact ⟨3 * i, by omega, by omega⟩
      · exact ⟨m.length, rfl, Nat.le_refl _⟩
    obtain ⟨j, hj, hjm⟩ := hmin
    have hjl : (j : Int) ≤ m.length := by omega
    have hs : List.take (m.length - j) (List.drop j (ints .i64 m)) = ints .i64 (m.drop j) := by
      have := take_all (ints .i64 m) j
      rw [← ints_drop]; rwa [ints_length] at this
    have hrs : (List.range (i + 1)).map T.of = (List.range i).map T.of ++ [T.of i] := by rw [List.range_succ]; simp
    rcases hq with ⟨hi0, rfl, rfl⟩ | ⟨rfl, rfl⟩
    · have hx0 : xs = [] := List.eq_nil_of_length_eq_zero (by omega)
      have hy0 : ys = [] := List.eq_nil_of_length_eq_zero (by omega)
      subst hx0 hy0
      simp (disch:=first|assumption|omega) only[e40,e9,e7,hlt,go_sem,↓reduceIte,Nat.reduceEqDiff,reduceIte]
      refine callG_ok (CellsLv i _ rfl T hI (by omega) tid [] _ (by simp (disch:=first|assumption|omega) only[go_sem]; exact hL2)) (by simp (disch:=first|assumption|omega) only[go_sem]) ?_
      rintro _ _ ⟨⟨o1, rfl, ho1⟩, hhh⟩
      rw [hhh]
      clear hhh
      obtain ⟨r1, hr1, hc1, hro1⟩ := cel_made ho1
      simp (disch:=first|assumption|omega) only[e10,e1,hr1,hj,hs,go_sem,↓reduceIte,Nat.reduceEqDiff,Nat.reduceLeDiff,reduceIte,Int.reduceMul,Nat.reduceMul]
      refine ⟨⟨by omega, Nat.le_refl _, ints_width _⟩, ?_⟩
      refine callG_ok (MadeUp_ok .sh (m.drop j) (.inl rfl) (fun c hc => hm c (List.mem_of_mem_drop hc)) _) (by simp (disch:=first|assumption|omega) only[go_sem]) ?_
      rintro v _ ⟨⟨cs, h8, hcb, hup, hv⟩, hhh⟩
      rw [hhh]
      clear hhh
      obtain ⟨o2, rfl, ho2⟩ : ∃ o2, v = .lst o2 (cellsA cs) ∧ (o2 = .nil ∧ cs = [] ∨ o2 = .app 2) := hv.elim (fun e => ⟨.nil, by rw [e.1, e.2]; rfl, .inl ⟨rfl, e.2⟩⟩) fun e => ⟨.app 2, e, .inr rfl⟩
      obtain ⟨r2, hr2, hc2, hro2⟩ := cel_made ho2
      have hfc := small_fault h8 hcb hup
      simp (disch:=first|assumption|omega) only[e40,e7,e1,hr2,go_sem,↓reduceIte,Nat.reduceEqDiff,Nat.reduceLeDiff,reduceIte,Int.reduceMul,Nat.reduceMul]
      refine ⟨d - 1, by omega, i + 1, .app 1, .app 1, [] ++ [.lst r1 (cellsA (T.of i))], [] ++ [.lst r2 (cellsA cs)], ws ++ [cs], by omega, by simp, rfl, rfl, .inr ⟨rfl, rfl⟩, by rw [hrs]; exact hx.append (Each2.one hc1), hy.append (Each2.one hc2), by simp [hw], fun w hw => ?_, hL2⟩
      rcases List.mem_append.1 hw with hw | hw
      · exact hf w hw
      · simp at hw; exact hw ▸ hfc
    · simp (disch:=first|assumption|omega) only[e40,e9,e7,hlt,go_sem,↓reduceIte,Nat.reduceEqDiff,reduceIte]
      refine callG_ok (CellsLv i _ rfl T hI (by omega) tid [] _ (by simp (disch:=first|assumption|omega) only[go_sem]; exact hL2)) (by simp (disch:=first|assumption|omega) only[go_sem]) ?_
      rintro _ _ ⟨⟨o1, rfl, ho1⟩, hhh⟩
      rw [hhh]
      clear hhh
      obtain ⟨r1, hr1, hc1, hro1⟩ := cel_made ho1
      simp (disch:=first|assumption|omega) only[e10,e1,hr1,hj,hs,go_sem,↓reduceIte,Nat.reduceEqDiff,Nat.reduceLeDiff,reduceIte,Int.reduceMul,Nat.reduceMul]
      refine ⟨by omega, by omega, ⟨by omega, Nat.le_refl _, ints_width _⟩, ?_⟩
      refine callG_ok (MadeUp_ok .sh (m.drop j) (.inl rfl) (fun c hc => hm c (List.mem_of_mem_drop hc)) _) (by simp (disch:=first|assumption|omega) only[go_sem]) ?_
      rintro v _ ⟨⟨cs, h8, hcb, hup, hv⟩, hhh⟩
      rw [hhh]
      clear hhh
      obtain ⟨o2, rfl, ho2⟩ : ∃ o2, v = .lst o2 (cellsA cs) ∧ (o2 = .nil ∧ cs = [] ∨ o2 = .app 2) := hv.elim (fun e => ⟨.nil, by rw [e.1, e.2]; rfl, .inl ⟨rfl, e.2⟩⟩) fun e => ⟨.app 2, e, .inr rfl⟩
      obtain ⟨r2, hr2, hc2, hro2⟩ := cel_made ho2
      have hfc := small_fault h8 hcb hup
      simp (disch:=first|assumption|omega) only[e40,e7,e1,hr2,go_sem,↓reduceIte,Nat.reduceEqDiff,Nat.reduceLeDiff,reduceIte,Int.reduceMul,Nat.reduceMul]
      refine ⟨by omega, by omega, d - 1, by omega, i + 1, .app 1, .app 1, xs ++ [.lst r1 (cellsA (T.of i))], ys ++ [.lst r2 (cellsA cs)], ws ++ [cs], by omega, by simp, rfl, rfl, .inr ⟨rfl, rfl⟩, by rw [hrs]; exact hx.append (Each2.one hc1), hy.append (Each2.one hc2), by simp [hw], fun w hw => ?_, hL2⟩
      rcases List.mem_append.1 hw with hw | hw
      · exact hf w hw
      · simp at hw; exact hw ▸ hfc
  · obtain rfl : i = 3 := by omega
    obtain ⟨rfl, rfl⟩ := hq.resolve_left (fun e => by omega)
    rw [← hTn, map_of] at hx
    have hfk : ∀ k, cellsFault (ws.getD k []) = 0 := fun k => by
      by_cases hk : k < ws.length
      · rw [getD_at hk]; exact hf _ (List.getElem_mem hk)
      · rw [List.getD_eq_getElem?_getD, List.getElem?_eq_none (by omega)]; exact fault_nil
    have hsv := safeV_table hI (by omega) (b := ws) (by omega) hfk
    simp (disch:=first|assumption|omega) only[e40,e9,e10,hlt,go_sem,↓reduceIte,Nat.reduceEqDiff,reduceIte]
    refine callG_ok (Safe_ok .sh .sh T.has ws xs ys (.inl rfl) (.inl rfl) hx hy (by omega) (by omega) (fun r hr => ?_) (fun r hr => ?_) _) (by simp (disch:=first|assumption|omega) only[go_sem]) ?_
    · obtain ⟨k, hk, rfl⟩ := List.mem_iff_getElem.1 hr
      have := hI.len4 k
      rw [getD_at hk] at this
      omega
    · have := (fault_up (hf r hr)).1
      omega
    rintro _ _ ⟨⟨q, rfl, hq⟩, hhh⟩
    rw [hhh]
    clear hhh
    cases hsf : safeN (tch T.has ws) T.has.length T.has.length [] with
    | none =>
      rw [hsf] at hsv
      rw [hsv] at hq ⊢
      have hq2 : q = .nil ∨ q = .app 1 := hq.imp (·.1) id
      have c0 : (nats []).length = 0 := rfl
      have c1 : ((0 : Nat) : Int) = 0 := rfl
      rcases hq2 with rfl | rfl
      · simp (disch:=first|assumption|omega) only[c0,c1,go_sem,↓reduceIte,Nat.reduceEqDiff,Nat.reduceAdd,Nat.reduceLT,reduceIte,Int.reduceLT,Int.reduceAdd,Int.reduceEq]
        subst hQ
        simp (disch:=first|assumption|omega) only[R.gantkeep5_RingGives,go_sem,↓reduceIte,reduceIte]
      · simp (disch:=first|assumption|omega) only[c0,c1,go_sem,↓reduceIte,Nat.reduceEqDiff,Nat.reduceAdd,Nat.reduceLT,reduceIte,Int.reduceLT,Int.reduceAdd,Int.reduceEq]
        subst hQ
        simp (disch:=first|assumption|omega) only[R.gantkeep5_RingGives,go_sem,↓reduceIte,reduceIte]
    | some r =>
      rw [hsf] at hsv
      rw [hsv] at hq ⊢
      have hrl : r.length = 3 := by rw [safeN_len _ _ _ hsf]; simp [hTn]
      obtain rfl : q = .app 1 := by
        rcases hq with ⟨_, h⟩ | h
        · simp only at h; rw [h] at hrl; cases hrl
        · exact h
      obtain ⟨_, _, hsaid⟩ := safe_said _ _ _ hsf
      have hnl : (nats r).length = 3 := by rw [nats_length]; exact hrl
      have c3 : ((3 : Nat) : Int) = 3 := rfl
      simp only []
      simp (disch:=first|assumption|omega) only[hnl,c3,go_sem,↓reduceIte,Nat.reduceEqDiff,Nat.reduceAdd,Nat.reduceLT,reduceIte,Int.reduceLT,Int.reduceAdd]
      refine aw_count (fun d S => ∃ (i : Nat), i + d = 3 ∧ S.env 81 = .int .i64 i ∧ S.env 80 = .int .i64 3 ∧ S.env 79 = .lst .sh (nats r) ∧ S.env 12 = .lst .sh (nats r) ∧ S.env 9 = .lst (.app 1) xs ∧ S.env 10 = .lst (.app 1) ys) (n := 3)
        ⟨0, by omega, by simp (disch:=first|assumption|omega) only[go_sem,↓reduceIte,reduceIte], by simp (disch:=first|assumption|omega) only[go_sem,↓reduceIte,Nat.reduceEqDiff,reduceIte], by simp (disch:=first|assumption|omega) only[go_sem,↓reduceIte,Nat.reduceEqDiff,reduceIte], by simp (disch:=first|assumption|omega) only[go_sem,↓reduceIte,Nat.reduceEqDiff,reduceIte], by simp (disch:=first|assumption|omega) only[e9,go_sem,↓reduceIte,Nat.reduceEqDiff,reduceIte], by simp (disch:=first|assumption|omega) only[e10,go_sem,↓reduceIte,Nat.reduceEqDiff,reduceIte]⟩ ?_
      clear e40 e9 e10 e7 e1 hL2
      rintro d S ⟨i, hi, e81, e80, e79, e12, e9, e10⟩
      by_cases hlt : (i : Int) < 3
      · have hir : i < r.length := by omega
        obtain ⟨k, hk⟩ : ∃ k, r[i]? = some k := ⟨_, List.getElem?_eq_getElem hir⟩
        obtain ⟨s1, s2, s3⟩ := hsaid i (Nat.zero_le _) k hk
        have hat : at_ (nats r) (i : Int) = .int .i64 k := at_nats hk
        have htk := nats_take r i
        have hlr : i < (nats r).length := by omega
        have hk3 : k < 3 := by omega
        have g1 : ¬ (k : Int) < 0 := by omega
        have g2 : ¬ (2 : Int) < k := by omega
        have hno : (r.take i).contains k = false := by
          rw [← Bool.not_eq_true, List.contains_iff_mem]; exact s2
        have htl : (r.take i).length ≤ 3 := by rw [List.length_take]; omega
        simp (disch:=first|assumption|omega) only[e81,e80,e79,e12,hlt,hat,g1,g2,htk,hlr,go_sem,↓reduceIte,Nat.reduceEqDiff,Nat.reduceLeDiff,Nat.reduceLT,reduceIte,Int.reduceLT,Int.reduceLE]
        refine ⟨⟨by omega, nats_width _⟩, ?_⟩
        refine callG_ok (ContainsInt_ok .sh _ k (.inl rfl) (by rw [nats_len]; omega) _) (by simp (disch:=first|assumption|omega) only[go_sem]) ?_
        rintro _ _ ⟨rfl, hhh⟩
        rw [hhh, nats_mem, hno]
        clear hhh
        simp (disch:=first|assumption|omega) only[go_sem,↓reduceIte,Nat.reduceEqDiff,reduceIte]
        refine aw_count (fun e S => ∃ (j : Nat), j + e = 3 ∧ S.env 99 = .int .i64 j ∧ S.env 15 = .int .i64 k ∧ S.env 14 = .int .i64 i ∧ S.env 81 = .int .i64 i ∧ S.env 80 = .int .i64 3 ∧ S.env 79 = .lst .sh (nats r) ∧ S.env 12 = .lst .sh (nats r) ∧ S.env 9 = .lst (.app 1) xs ∧ S.env 10 = .lst (.app 1) ys) (n := 3)
          ⟨0, by omega, by simp (disch:=first|assumption|omega) only[go_sem,↓reduceIte,reduceIte], by simp (disch:=first|assumption|omega) only[go_sem,↓reduceIte,Nat.reduceEqDiff,reduceIte], by simp (disch:=first|assumption|omega) only[go_sem,↓reduceIte,Nat.reduceEqDiff,reduceIte], by simp (disch:=first|assumption|omega) only[e81,go_sem,↓reduceIte,Nat.reduceEqDiff,reduceIte], by simp (disch:=first|assumption|omega) only[e80,go_sem,↓reduceIte,Nat.reduceEqDiff,reduceIte], by simp (disch:=first|assumption|omega) only[e79,go_sem,↓reduceIte,Nat.reduceEqDiff,reduceIte], by simp (disch:=first|assumption|omega) only[e12,go_sem,↓reduceIte,Nat.reduceEqDiff,reduceIte], by simp (disch:=first|assumption|omega) only[e9,go_sem,↓reduceIte,Nat.reduceEqDiff,reduceIte], by simp (disch:=first|assumption|omega) only[e10,go_sem,↓reduceIte,Nat.reduceEqDiff,reduceIte]⟩ ?_
        clear e81 e80 e79 e12 e9 e10
        rintro e S ⟨j, hj, e99, e15, e14, e81, e80, e79, e12, e9, e10⟩
        by_cases hlj : (j : Int) < 3
        · have hj3 : j < 3 := by omega
          by_cases hjk : j = k
          · subst hjk
            have hself : (((j : Nat) : Int) = j) = True := eq_self _
            simp (disch:=first|assumption|omega) only[e99,e15,e14,e81,e80,e79,e12,e9,e10,hlj,go_sem,↓reduceIte,Nat.reduceEqDiff,reduceIte]
            exact ⟨e - 1, by omega, j + 1, by omega, by simp⟩
          · have hjk' : ¬((j : Nat) : Int) = k := by omega
            simp (disch:=first|assumption|omega) only[e99,e15,e14,e12,hlj,hjk',htk,go_sem,↓reduceIte,Nat.reduceEqDiff,reduceIte,Int.reduceLE]
            refine ⟨⟨by omega, nats_width _⟩, ?_⟩
            refine callG_ok (ContainsInt_ok .sh _ j (.inl rfl) (by rw [nats_len]; omega) _) (by simp (disch:=first|assumption|omega) only[go_sem]) ?_
            rintro _ _ ⟨rfl, hhh⟩
            rw [hhh, nats_mem]
            clear hhh
            cases hd : (r.take i).contains j with
            | true =>
              simp (disch:=first|assumption|omega) only[e99,e15,e14,e81,e80,e79,e12,e9,e10,go_sem,↓reduceIte,Nat.reduceEqDiff,reduceIte]
              exact ⟨e - 1, by omega, j + 1, by omega, by simp⟩
            | false =>
              have htc := okR_at s3 (by omega) hjk hd
              unfold tch at htc
              have hjx : j < T.has.length := by omega
              have hkx : k < ws.length := by omega
              obtain ⟨a1, ha1, hxa⟩ := hx.at j hjx
              obtain ⟨a2, ha2, hya⟩ := hy.at k hkx
              have la1 := hI.len4 j
              have la2 := (fault_up (hfk k)).1
              rw [getD_at hjx, getD_at hkx] at htc
              rw [getD_at hjx] at la1
              rw [getD_at hkx] at la2
              generalize T.has[j] = A at *
              generalize ws[k] = B at *
              have ha11 := ha1.1
              have ha21 := ha2.1
              have hm0 : meetC A B = [] := List.eq_nil_iff_forall_not_mem.2 fun c hc => touch_false.1 htc c ((mem_meetC _ _ c).1 hc).1 ((mem_meetC _ _ c).1 hc).2
              have hj1 : j < xs.length := by have := hx.length; omega
              have hk1 : k < ys.length := by have := hy.length; omega
              have hj2 : (j : Int) < xs.length := by omega
              have hk2 : (k : Int) < ys.length := by omega
              simp (disch:=first|assumption|omega) only[e15,e9,e10,hj2,hk2,hxa,hya,go_sem,↓reduceIte,Nat.reduceEqDiff,Nat.reduceLeDiff,Nat.reduceLT,reduceIte,Int.reduceLT]
              refine callG_ok (Meet_ok a1 a2 A B ha1 ha2 (by omega) _) (by simp (disch:=first|assumption|omega) only[go_sem]) ?_
              rintro _ _ ⟨rfl, hhh⟩
              rw [hhh, hm0]
              clear hhh
              simp (disch:=first|assumption|omega) only[e99,e15,e14,e81,e80,e79,e12,e9,e10,go_sem,↓reduceIte,Nat.reduceEqDiff,Nat.reduceLT,reduceIte,Int.reduceLT]
              exact ⟨e - 1, by omega, j + 1, by omega, by simp⟩
        · simp (disch:=first|assumption|omega) only[e99,e81,e80,e79,e12,e9,e10,hlj,go_sem,↓reduceIte,Nat.reduceEqDiff,reduceIte]
          exact ⟨d - 1, by omega, i + 1, by omega, by simp⟩
      · simp (disch:=first|assumption|omega) only[e81,e80,hlt,go_sem,↓reduceIte,reduceIte]
        subst hQ
        simp (disch:=first|assumption|omega) only[R.gantkeep5_RingGives,go_sem,↓reduceIte,reduceIte]
end Go.Proofs.Ytpdajkbfemcdlaa
