import Derived.Test.YtpdajkbfemcdlaaZB2
set_option linter.unusedSimpArgs false
set_option linter.unusedVariables false
set_option maxRecDepth 10000
namespace Go.Proofs.Ytpdajkbfemcdlaa
open Go.Ge Go.Sort
theorem small_fault {cs : List Cell} (h8 : cs.length ≤ 8) (hb : ∀ c ∈ cs, -4 ≤ c.X ∧ c.X ≤ 3 ∧ -4 ≤ c.Y ∧ c.Y ≤ 3) (hu : Up cs) : cellsFault cs = 0 :=
  fault_of (by omega) (fun c hc => by
    have := hb c hc
    exact ⟨⟨by omega, by omega⟩, ⟨by omega, by omega⟩⟩) hu
theorem doneC_of {T : Tb} {arm : Nat} {cs : List Cell} (hf : cellsFault cs = 0) (hw : ∀ c ∈ cs, c ∈ T.of arm) : doneC T arm cs = 0 := by
  unfold doneC
  rw [if_neg (fun e => e hf), if_pos]
  unfold withinC
  rw [List.all_eq_true]
  exact fun c hc => decide_eq_true (hw c hc)
theorem LeaseFirst_law (o : Own) (l : List Int) (k : Int) (ho : Rdo o) (hl : ∀ c ∈ l, inI64 c) (hk : inI64 k) :
    ACalls Try.prog F.gantkeep5_LeaseFirst [.lst o (ints .i64 l), .int .i64 k] [] (fun r _ => r = .bool true) := by
  obtain ⟨i0, b0⟩ := newT_inv 3
  have ro : ∀ l : List Cell, Rdn .sh l := fun l => ⟨.inl rfl, fun e => by cases e⟩
  refine ACalls.of_aw Try.func33 K.gantkeep5_LeaseFirst (by simp [Try.f33]) ?_
  generalize hQ : retQ R.gantkeep5_LeaseFirst _ = Q
  simp (disch := first | assumption | omega) only [C.gantkeep5_LeaseFirst, go_sem]
  refine callG_ok (leases_ok _) (by simp (disch := first | assumption | omega) only [go_sem]) ?_
  rintro _ _ ⟨rfl, hhh⟩
  rw [hhh]
  clear hhh
  simp (disch := first | assumption | omega) only [go_sem, ↓reduceIte, reduceCtorEq, reduceIte]
  refine callG_ok (MadeUp_ok o l ho hl _) (by simp (disch := first | assumption | omega) only [go_sem]) ?_
  rintro _ _ ⟨⟨cs, h8, hcb, hup, hv⟩, hhh⟩
  rw [hhh]
  clear hhh
  rcases hv with ⟨rfl, rfl⟩ | rfl
  · simp (disch := first | assumption | omega) only [go_sem, ↓reduceIte, reduceIte]
    subst hQ
    simp (disch := first | assumption | omega) only [R.gantkeep5_LeaseFirst, go_sem, ↓reduceIte, reduceIte]
  cases cs with
  | nil =>
    simp (disch := first | assumption | omega) only [go_sem, ↓reduceIte, reduceIte]
    subst hQ
    simp (disch := first | assumption | omega) only [R.gantkeep5_LeaseFirst, go_sem, ↓reduceIte, reduceIte]
  | cons c rest =>
  have hf := small_fault h8 hcb hup
  have hcm : c ∈ c :: rest := List.mem_cons_self
  have hne : ¬ (((c :: rest).length : Nat) : Int) = 0 := by simp only [List.length_cons]; omega
  have htk : List.take (Int.toNat 1) (cellsA (c :: rest)) = cellsA [c] := rfl
  have hl1 : 1 ≤ (c :: rest).length := by simp
  generalize hcs : c :: rest = cs at *
  simp (disch := first | assumption | omega) only [hne, go_sem, ↓reduceIte, reduceIte]
  refine callG_ok (NewLv 3 (by omega) (by omega) _) (by simp (disch := first | assumption | omega) only [go_sem]) ?_
  rintro _ h1 ⟨tid, rfl, hL⟩
  simp only [go_sem] at hL
  simp (disch := first | assumption | omega) only [go_sem, ↓reduceIte, Nat.reduceEqDiff, Nat.reduceAdd, Nat.reduceLT, reduceIte, Int.reduceLT, Int.reduceAdd]
  refine callG_ok (Below_ok k 3 hk (by omega) (by omega) _) (by simp (disch := first | assumption | omega) only [go_sem]) ?_
  rintro _ _ ⟨rfl, hhh⟩
  rw [hhh]
  clear hhh
  have m1 := Int.emod_nonneg k (b := 3) (by omega)
  have m2 := Int.emod_lt_of_pos k (b := 3) (by omega)
  obtain ⟨a, ha⟩ := Int.eq_ofNat_of_zero_le m1
  rw [ha] at m1 m2 ⊢
  have ha3 : a < 3 := by omega
  have hb3 : (a + 1) % 3 < 3 := Nat.mod_lt _ (by omega)
  have hc3 : (a + 2) % 3 < 3 := Nat.mod_lt _ (by omega)
  obtain ⟨l1, r1⟩ := first1 ha3 hf hcm
  obtain ⟨l2, r2⟩ := first2 ha3 hf hcm
  obtain ⟨l3, r3⟩ := first3 ha3 hf hcm
  obtain ⟨-, tb, r4, l4⟩ := first4 ha3 hf hcm
  have l5 := first5 ha3 hf hcm
  have l6 := first6 ha3 hf hcm
  have i1 := ask_all i0 b0 (arm := a) (by show a < 3; exact ha3) r1
  rw [l1] at i1
  have n1 : (F1 a cs).has.length = 3 := i1.2.2
  have i2 := ask_all i1.1 i1.2.1 (arm := (a + 1) % 3) (by show _ < (F1 a cs).has.length; rw [n1]; exact hb3) r2
  rw [l2] at i2
  have n2 : (F2 a cs c).has.length = 3 := i2.2.2.trans n1
  have i3 := ask_all i2.1 i2.2.1 (arm := (a + 2) % 3) (by show _ < (F2 a cs c).has.length; rw [n2]; exact hc3) r3
  rw [l3] at i3
  have n3 : (F3 a cs c).has.length = 3 := i3.2.2.trans n2
  have i5 := done_all i3.1 (arm := a) (by show _ < (F3 a cs c).has.length; rw [n3]; exact ha3) cs
  rw [l5] at i5
  have n5 : (F4 a c).has.length = 3 := i5.2.2.1.trans n3
  have i6 := done_all i5.1 (arm := (a + 1) % 3) (by rw [n5]; exact hb3) [c]
  rw [l6] at i6
  have n6 : (F5 a c).has.length = 3 := i6.2.2.1.trans n5
  have hcas : a = 0 ∨ a = 1 ∨ a = 2 := by omega
  have o3a : (F3 a cs c).of a = cs := by rcases hcas with rfl | rfl | rfl <;> rfl
  have o3b : (F3 a cs c).of ((a + 1) % 3) = [] := by rcases hcas with rfl | rfl | rfl <;> rfl
  have o3c : (F3 a cs c).of ((a + 2) % 3) = [] := by rcases hcas with rfl | rfl | rfl <;> rfl
  have o4b : (F4 a c).of ((a + 1) % 3) = [c] := by rcases hcas with rfl | rfl | rfl <;> rfl
  have w4c : (F4 a c).wish ((a + 2) % 3) = [c] := by rcases hcas with rfl | rfl | rfl <;> rfl
  have o5c : (F5 a c).of ((a + 2) % 3) = [c] := by rcases hcas with rfl | rfl | rfl <;> rfl
  have w5c : (F5 a c).wish ((a + 2) % 3) = [] := rfl
  have d5 : doneC (F3 a cs c) a cs = 0 := doneC_of hf (fun c hc => by rw [o3a]; exact hc)
  have d6 : doneC (F4 a c) ((a + 1) % 3) [c] = 0 := doneC_of (fault_one ((fault_up hf).2.1 c hcm)) (fun c hc => by rw [o4b]; exact hc)
  have hcl : cs.length < 4611686018427387904 := by omega
  have z1 : ((a : Int) + 1) % 3 = (((a + 1) % 3 : Nat) : Int) := by omega
  have z2 : ((a : Int) + 2) % 3 = (((a + 2) % 3 : Nat) : Int) := by omega
  simp only at i1 i2 i3 i5 i6
  have n0 : (newT 3).has.length = 3 := rfl
  have hl2 : (1 : Int) ≤ cs.length := by omega
  have hwd := cellsA_width cs
  simp (disch := first | assumption | omega) only [z1, z2, go_sem, ↓reduceIte, Nat.reduceEqDiff, reduceIte, Int.reduceNe]
  refine callG_ok (AskLv a _ rfl .sh cs (ro _) hcl (newT 3) i0 (by rw [n0]; omega) (by rw [n0]; exact ha3) false r1 tid [] _ (by simp (disch := first | assumption | omega) only [go_sem]; exact hL)) (by simp (disch := first | assumption | omega) only [go_sem]) ?_
  rintro _ _ ⟨rfl, hL2⟩
  rw [l1] at hL2 ⊢
  simp (disch := first | assumption | omega) only [htk, go_sem, ↓reduceIte, Nat.reduceEqDiff, reduceIte, Int.reduceLE]
  refine ⟨⟨hl2, hwd⟩, ?_⟩
  refine callG_ok (AskLv ((a + 1) % 3) _ rfl .sh [c] (ro _) (by simp) (F1 a cs) i1.1 (by rw [n1]; omega) (by rw [n1]; exact hb3) false r2 tid [] _ (by simp (disch := first | assumption | omega) only [go_sem]; exact hL2)) (by simp (disch := first | assumption | omega) only [go_sem]) ?_
  rintro _ _ ⟨rfl, hL3⟩
  rw [l2] at hL3 ⊢
  simp (disch := first | assumption | omega) only [htk, go_sem, ↓reduceIte, Nat.reduceEqDiff, reduceIte, Int.reduceLE]
  refine ⟨⟨hl2, hwd⟩, ?_⟩
  refine callG_ok (AskLv ((a + 2) % 3) _ rfl .sh [c] (ro _) (by simp) (F2 a cs c) i2.1 (by rw [n2]; omega) (by rw [n2]; exact hc3) false r3 tid [] _ (by simp (disch := first | assumption | omega) only [go_sem]; exact hL3)) (by simp (disch := first | assumption | omega) only [go_sem]) ?_
  rintro _ _ ⟨rfl, hL4⟩
  rw [l3] at hL4 ⊢
  simp (disch := first | assumption | omega) only [htk, go_sem, ↓reduceIte, Nat.reduceEqDiff, reduceIte, Int.reduceLE]
  refine ⟨⟨hl2, hwd⟩, ?_⟩
  refine callG_ok (AskLv ((a + 2) % 3) _ rfl .sh [c] (ro _) (by simp) (F3 a cs c) i3.1 (by rw [n3]; omega) (by rw [n3]; exact hc3) tb r4 tid [] _ (by simp (disch := first | assumption | omega) only [go_sem]; exact hL4)) (by simp (disch := first | assumption | omega) only [go_sem]) ?_
  rintro _ _ ⟨rfl, hL5⟩
  rw [l4] at hL5 ⊢
  simp (disch := first | assumption | omega) only [go_sem, ↓reduceIte, Nat.reduceEqDiff, reduceIte]
  refine callG_ok (CellsLv ((a + 1) % 3) _ rfl (F3 a cs c) i3.1 (by rw [n3]; exact hb3) tid [] _ (by first | exact hL5 | (simp (disch := first | assumption | omega) only [go_sem, ↓reduceIte, Nat.reduceEqDiff, reduceCtorEq, Nat.reduceAdd, Nat.reduceLeDiff, Nat.reduceLT, reduceIte, Int.reduceBEq, Int.reduceBNe, Int.reduceLT, Int.reduceLE, Int.reduceAdd, Int.reduceSub, Int.reduceMul, Int.reduceNeg, Int.reduceEq, Int.reduceNe, Nat.reduceMul, Nat.reduceSub]; exact hL5))) (by simp (disch := first | assumption | omega) only [go_sem]) ?_
  rintro _ _ ⟨⟨o', rfl, ho'⟩, hhh⟩
  rw [hhh, o3b]
  clear hhh
  rw [o3b] at ho'
  have c0 : (([] : List Cell).length : Int) = 0 := rfl
  rcases ho' with ⟨rfl, _⟩ | rfl
  all_goals
    simp (disch := first | assumption | omega) only [List.length_nil, go_sem, ↓reduceIte, Nat.reduceEqDiff, reduceIte]
    refine callG_ok (CellsLv ((a + 2) % 3) _ rfl (F3 a cs c) i3.1 (by rw [n3]; exact hc3) tid [] _ (by first | exact hL5 | (simp (disch := first | assumption | omega) only [go_sem, ↓reduceIte, Nat.reduceEqDiff, reduceCtorEq, Nat.reduceAdd, Nat.reduceLeDiff, Nat.reduceLT, reduceIte, Int.reduceBEq, Int.reduceBNe, Int.reduceLT, Int.reduceLE, Int.reduceAdd, Int.reduceSub, Int.reduceMul, Int.reduceNeg, Int.reduceEq, Int.reduceNe, Nat.reduceMul, Nat.reduceSub]; exact hL5))) (by simp (disch := first | assumption | omega) only [go_sem]) ?_
    rintro _ _ ⟨⟨o', rfl, ho'⟩, hhh⟩
    rw [hhh, o3c]
    clear hhh
    rw [o3c] at ho'
    rcases ho' with ⟨rfl, _⟩ | rfl
    all_goals
      simp (disch := first | assumption | omega) only [List.length_nil, go_sem, ↓reduceIte, Nat.reduceEqDiff, reduceIte]
      refine callG_ok (DoneLv a _ rfl .sh cs (ro _) (by omega) (F3 a cs c) i3.1 (by rw [n3]; omega) (by rw [n3]; exact ha3) tid [] _ (by first | exact hL5 | (simp (disch := first | assumption | omega) only [go_sem, ↓reduceIte, Nat.reduceEqDiff, reduceCtorEq, Nat.reduceAdd, Nat.reduceLeDiff, Nat.reduceLT, reduceIte, Int.reduceBEq, Int.reduceBNe, Int.reduceLT, Int.reduceLE, Int.reduceAdd, Int.reduceSub, Int.reduceMul, Int.reduceNeg, Int.reduceEq, Int.reduceNe, Nat.reduceMul, Nat.reduceSub]; exact hL5))) (by simp (disch := first | assumption | omega) only [go_sem]) ?_
      rintro _ _ ⟨rfl, hL6⟩
      rw [d5, if_pos rfl, l5] at hL6
      rw [d5]
      simp (disch := first | assumption | omega) only [go_sem, ↓reduceIte, Nat.reduceEqDiff, reduceIte]
      refine callG_ok (CellsLv ((a + 1) % 3) _ rfl (F4 a c) i5.1 (by rw [n5]; exact hb3) tid [] _ (by first | exact hL6 | (simp (disch := first | assumption | omega) only [go_sem, ↓reduceIte, Nat.reduceEqDiff, reduceCtorEq, Nat.reduceAdd, Nat.reduceLeDiff, Nat.reduceLT, reduceIte, Int.reduceBEq, Int.reduceBNe, Int.reduceLT, Int.reduceLE, Int.reduceAdd, Int.reduceSub, Int.reduceMul, Int.reduceNeg, Int.reduceEq, Int.reduceNe, Nat.reduceMul, Nat.reduceSub]; exact hL6))) (by simp (disch := first | assumption | omega) only [go_sem]) ?_
      rintro _ _ ⟨⟨o', rfl, ho'⟩, hhh⟩
      rw [hhh, o4b]
      clear hhh
      rw [o4b] at ho'
      obtain rfl := ho'.resolve_left (fun e => by cases e.2)
      have c1 : ((1 : Nat) : Int) = 1 := rfl
      simp (disch := first | assumption | omega) only [c1, go_sem, ↓reduceIte, Nat.reduceEqDiff, reduceIte]
      refine callG_ok (WaitsLv ((a + 2) % 3) _ rfl (F4 a c) i5.1 (by rw [n5]; omega) (by omega) tid [] _ (by first | exact hL6 | (simp (disch := first | assumption | omega) only [go_sem, ↓reduceIte, Nat.reduceEqDiff, reduceCtorEq, Nat.reduceAdd, Nat.reduceLeDiff, Nat.reduceLT, reduceIte, Int.reduceBEq, Int.reduceBNe, Int.reduceLT, Int.reduceLE, Int.reduceAdd, Int.reduceSub, Int.reduceMul, Int.reduceNeg, Int.reduceEq, Int.reduceNe, Nat.reduceMul, Nat.reduceSub]; exact hL6))) (by simp (disch := first | assumption | omega) only [go_sem]) ?_
      rintro _ _ ⟨⟨o', rfl, ho'⟩, hhh⟩
      rw [hhh, w4c]
      clear hhh
      rw [w4c] at ho'
      obtain rfl := ho'.resolve_left (fun e => by cases e.2)
      simp (disch := first | assumption | omega) only [c1, htk, go_sem, ↓reduceIte, Nat.reduceEqDiff, reduceIte, Int.reduceLE]
      refine ⟨⟨hl2, hwd⟩, ?_⟩
      refine callG_ok (DoneLv ((a + 1) % 3) _ rfl .sh [c] (ro _) (by simp) (F4 a c) i5.1 (by rw [n5]; omega) (by rw [n5]; exact hb3) tid [] _ (by first | exact hL6 | (simp (disch := first | assumption | omega) only [go_sem, ↓reduceIte, Nat.reduceEqDiff, reduceCtorEq, Nat.reduceAdd, Nat.reduceLeDiff, Nat.reduceLT, reduceIte, Int.reduceBEq, Int.reduceBNe, Int.reduceLT, Int.reduceLE, Int.reduceAdd, Int.reduceSub, Int.reduceMul, Int.reduceNeg, Int.reduceEq, Int.reduceNe, Nat.reduceMul, Nat.reduceSub]; exact hL6))) (by simp (disch := first | assumption | omega) only [go_sem]) ?_
      rintro _ _ ⟨rfl, hL7⟩
      rw [d6, if_pos rfl, l6] at hL7
      rw [d6]
      simp (disch := first | assumption | omega) only [go_sem, ↓reduceIte, Nat.reduceEqDiff, reduceIte]
      refine callG_ok (CellsLv ((a + 2) % 3) _ rfl (F5 a c) i6.1 (by rw [n6]; exact hc3) tid [] _ (by first | exact hL7 | (simp (disch := first | assumption | omega) only [go_sem, ↓reduceIte, Nat.reduceEqDiff, reduceCtorEq, Nat.reduceAdd, Nat.reduceLeDiff, Nat.reduceLT, reduceIte, Int.reduceBEq, Int.reduceBNe, Int.reduceLT, Int.reduceLE, Int.reduceAdd, Int.reduceSub, Int.reduceMul, Int.reduceNeg, Int.reduceEq, Int.reduceNe, Nat.reduceMul, Nat.reduceSub]; exact hL7))) (by simp (disch := first | assumption | omega) only [go_sem]) ?_
      rintro _ _ ⟨⟨o', rfl, ho'⟩, hhh⟩
      rw [hhh, o5c]
      clear hhh
      rw [o5c] at ho'
      obtain rfl := ho'.resolve_left (fun e => by cases e.2)
      simp (disch := first | assumption | omega) only [c1, go_sem, ↓reduceIte, Nat.reduceEqDiff, reduceIte]
      refine callG_ok (WaitsLv ((a + 2) % 3) _ rfl (F5 a c) i6.1 (by rw [n6]; omega) (by omega) tid [] _ (by first | exact hL7 | (simp (disch := first | assumption | omega) only [go_sem, ↓reduceIte, Nat.reduceEqDiff, reduceCtorEq, Nat.reduceAdd, Nat.reduceLeDiff, Nat.reduceLT, reduceIte, Int.reduceBEq, Int.reduceBNe, Int.reduceLT, Int.reduceLE, Int.reduceAdd, Int.reduceSub, Int.reduceMul, Int.reduceNeg, Int.reduceEq, Int.reduceNe, Nat.reduceMul, Nat.reduceSub]; exact hL7))) (by simp (disch := first | assumption | omega) only [go_sem]) ?_
      rintro _ _ ⟨⟨o', rfl, ho'⟩, hhh⟩
      rw [hhh, w5c]
      clear hhh
      rw [w5c] at ho'
      rcases ho' with ⟨rfl, _⟩ | rfl
      · simp (disch := first | assumption | omega) only [go_sem, ↓reduceIte, Nat.reduceEqDiff, reduceIte]
        subst hQ
        simp (disch := first | assumption | omega) only [R.gantkeep5_LeaseFirst, go_sem, ↓reduceIte, reduceIte]
      · simp (disch := first | assumption | omega) only [go_sem, ↓reduceIte, Nat.reduceEqDiff, reduceIte]
        subst hQ
        simp (disch := first | assumption | omega) only [R.gantkeep5_LeaseFirst, go_sem, ↓reduceIte, reduceIte]
end Go.Proofs.Ytpdajkbfemcdlaa
