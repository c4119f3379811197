import Derived.Test.YtpdajkbfemcdlaaGeD
import Derived.Test.YtpdajkbfemcdlaaChecked
import Derived.Test.YtpdajkbfemcdlaaFn
import Derived.KernelRfl
namespace Go.Ge
@[go_sem] def AO.m (d t : Nat) : AO := ⟨some d, .move false (.t t), none⟩
@[go_sem] def AO.o (d : Nat) (op : AOp) : AO := ⟨some d, op, none⟩
@[go_sem] def AO.g (d : Nat) (op : AOp) (t : Nat) (b : Bool) : AO := ⟨some d, op, some (t, b)⟩
end Go.Ge
namespace Go.Proofs.Ytpdajkbfemcdlaa
open Go.Ge
def C.grid_Check : ACode :=
  .seq (.region [.o 2 (.move false (.c (.int .i64 0)))]) (
  .seq (.seq (.region [.m 5 0,.o 6 (.len (.t 5)),.o 7 (.bin .gtr (.t 6) (.c (.int .i64 400)))]) (
  .cond (.t 7) (.seq (.region [.o 2 (.move false (.c (.int .i64 2)))]) (
  .ret)) (.skip))) (
  .seq (.seq (.region [.m 8 0,.o 9 (.len (.t 8)),.o 10 (.move false (.c (.int .i64 0)))]) (
  .block 0 (.loop (.seq (.region [.o 11 (.bin .lss (.t 10) (.t 9))]) (
  .seq (.cond (.t 11) (.skip) (.exit 0)) (
  .seq (.block 1 (.seq (.region [.m 12 10,.o 13 (.iaddr 2 (.t 8) (.t 10)),.o 14 (.load 2 true 2 (.t 13)),.o 4 (.alloc false [(.int .i64 0), (.int .i64 0)]),.m 3 12,⟨none, .store 2 (.t 4) (.t 14), none⟩]) (
  .seq (.seq (.region [.o 15 (.faddr 0 (.t 4)),.o 16 (.load 2 false 1 (.t 15)),.o 17 (.call true F.grid_on [(.t 16)]),.o 18 (.un .not (.t 17)),.m 19 18,.g 20 (.faddr 1 (.t 4)) 19 false,.g 21 (.load 2 false 1 (.t 20)) 19 false,.g 22 (.call true F.grid_on [(.t 21)]) 19 false,.g 23 (.un .not (.t 22)) 19 false,.o 24 (.pick (.t 19) (.c (.bool true)) (.t 23))]) (
  .cond (.t 24) (.seq (.region [.o 2 (.move false (.c (.int .i64 17)))]) (
  .ret)) (.skip))) (
  .seq (.drawn [0, 1, 2, 3, 4, 5, 6, 7, 8, 9, 10, 11] [0, 1, 3, 7, 7, 23, 63, 127, 7, 511, 1023, 2047] [.m 25 3,.o 26 (.bin .gtr (.t 25) (.c (.int .i64 0))),.m 27 26,.g 28 (.move false (.t 0)) 27 true,.g 29 (.move false (.t 3)) 27 true,.g 30 (.bin .sub (.t 29) (.c (.int .i64 1))) 27 true,.g 31 (.iaddr 2 (.t 28) (.t 30)) 27 true,.g 32 (.load 0 true 2 (.t 31)) 27 true,.g 33 (.load 1 true 2 (.t 4)) 27 true,.g 34 (.call false F.grid_order [(.t 32), (.t 33)]) 27 true,.g 35 (.bin .geq (.t 34) (.c (.int .i64 0))) 27 true,.o 36 (.pick (.t 27) (.t 35) (.c (.bool false)))]) (
  .cond (.t 36) (.seq (.region [.o 2 (.move false (.c (.int .i64 9)))]) (
  .ret)) (.skip)))))) (
  .region [.o 37 (.bin .add (.t 10) (.c (.int .i64 1))),.m 10 37]))))))) (
  .seq (.region [.o 2 (.move false (.c (.int .i64 0)))]) (
  .ret))))
def R.grid_Check : List ARes := [.t 2]
set_option maxRecDepth 100000 in
theorem K.grid_Check : ckFun Try.prog Try.f158 C.grid_Check R.grid_Check = true := by kernel_rfl
def C.grid_on : ACode :=
  .seq (.region [.o 2 (.move false (.c (.bool false)))]) (
  .seq (.region [.m 3 0,.o 4 (.bin .geq (.t 3) (.c (.int .i64 (-64)))),.m 5 4,.g 6 (.move false (.t 0)) 5 true,.g 7 (.bin .lss (.t 6) (.c (.int .i64 64))) 5 true,.o 8 (.pick (.t 5) (.t 7) (.c (.bool false))),.m 2 8]) (
  .ret))
def R.grid_on : List ARes := [.t 2]
set_option maxRecDepth 100000 in
theorem K.grid_on : ckFun Try.prog Try.f197 C.grid_on R.grid_on = true := by kernel_rfl
def C.grid_order : ACode :=
  .seq (.region [.o 2 (.bx false (.t 0)),.o 3 (.bx false (.t 1)),.o 4 (.move false (.c (.int .i64 0)))]) (
  .seq (.seq (.region [.o 6 (.faddr 1 (.t 2)),.o 7 (.load 2 false 1 (.t 6)),.o 8 (.faddr 1 (.t 3)),.o 9 (.load 2 false 1 (.t 8)),.o 10 (.call true F.cmp_Compare_int [(.t 7), (.t 9)]),.m 5 10]) (
  .seq (.region [.m 11 5,.o 12 (.bin .neq (.t 11) (.c (.int .i64 0)))]) (
  .cond (.t 12) (.seq (.region [.m 13 5,.m 4 13]) (
  .ret)) (.skip)))) (
  .seq (.region [.o 14 (.faddr 0 (.t 2)),.o 15 (.load 2 false 1 (.t 14)),.o 16 (.faddr 0 (.t 3)),.o 17 (.load 2 false 1 (.t 16)),.o 18 (.call true F.cmp_Compare_int [(.t 15), (.t 17)]),.m 4 18]) (
  .ret)))
def R.grid_order : List ARes := [.t 4]
set_option maxRecDepth 100000 in
theorem K.grid_order : ckFun Try.prog Try.f198 C.grid_order R.grid_order = true := by kernel_rfl
def C.cmp_Compare_int : ACode :=
  .seq (.region [.o 4 (.move false (.c (.int .i64 0)))]) (
  .seq (.region [.m 7 0,.o 8 (.call true F.cmp_isNaN_int [(.t 7)]),.m 5 8]) (
  .seq (.region [.m 9 1,.o 10 (.call true F.cmp_isNaN_int [(.t 9)]),.m 6 10]) (
  .seq (.seq (.region [.m 11 5]) (
  .cond (.t 11) (.seq (.seq (.region [.m 12 6]) (
  .cond (.t 12) (.seq (.region [.o 4 (.move false (.c (.int .i64 0)))]) (
  .ret)) (.skip))) (
  .seq (.region [.o 4 (.move false (.c (.int .i64 (-1))))]) (
  .ret))) (.skip))) (
  .seq (.seq (.region [.m 13 6]) (
  .cond (.t 13) (.seq (.region [.o 4 (.move false (.c (.int .i64 1)))]) (
  .ret)) (.skip))) (
  .seq (.seq (.region [.m 14 0,.m 15 1,.o 16 (.bin .lss (.t 14) (.t 15))]) (
  .cond (.t 16) (.seq (.region [.o 4 (.move false (.c (.int .i64 (-1))))]) (
  .ret)) (.skip))) (
  .seq (.seq (.region [.m 17 0,.m 18 1,.o 19 (.bin .gtr (.t 17) (.t 18))]) (
  .cond (.t 19) (.seq (.region [.o 4 (.move false (.c (.int .i64 1)))]) (
  .ret)) (.skip))) (
  .seq (.region [.o 4 (.move false (.c (.int .i64 0)))]) (
  .ret))))))))
def R.cmp_Compare_int : List ARes := [.t 4]
set_option maxRecDepth 100000 in
theorem K.cmp_Compare_int : ckFun Try.prog Try.f215 C.cmp_Compare_int R.cmp_Compare_int = true := by kernel_rfl
def C.cmp_isNaN_int : ACode :=
  .seq (.region [.o 2 (.move false (.c (.bool false)))]) (
  .seq (.region [.m 3 0,.m 4 0,.o 5 (.bin .neq (.t 3) (.t 4)),.m 2 5]) (
  .ret))
def R.cmp_isNaN_int : List ARes := [.t 2]
set_option maxRecDepth 100000 in
theorem K.cmp_isNaN_int : ckFun Try.prog Try.f230 C.cmp_isNaN_int R.cmp_isNaN_int = true := by kernel_rfl
end Go.Proofs.Ytpdajkbfemcdlaa
set_option linter.unusedSimpArgs false
set_option linter.unusedVariables false
set_option maxRecDepth 10000
namespace Go.Proofs.Ytpdajkbfemcdlaa
open Go.Ge
def cmpI (a b : Int) : Int := if a < b then -1 else if a > b then 1 else 0
def orderC (a b : Cell) : Int := if cmpI a.Y b.Y ≠ 0 then cmpI a.Y b.Y else cmpI a.X b.X
def cellLt (a b : Cell) : Prop := a.Y < b.Y ∨ a.Y = b.Y ∧ a.X < b.X
instance (a b : Cell) : Decidable (cellLt a b) := by unfold cellLt; exact inferInstance
theorem orderC_lt (a b : Cell) : orderC a b ≥ 0 ↔ ¬cellLt a b := by
  unfold orderC cmpI cellLt
  split <;> (repeat split) <;> (repeat split at *) <;> omega
theorem orderC_zero (a b : Cell) : orderC a b = 0 ↔ a = b := by
  cases a; cases b
  unfold orderC cmpI
  simp only[Cell.mk.injEq]
  split <;> (repeat split at *) <;> (repeat split) <;> omega
def onG (n : Int) : Prop := -64 ≤ n ∧ n < 64
instance (n : Int) : Decidable (onG n) := by unfold onG; exact inferInstance
def cellsF : Option Cell → List Cell → Int
  | _, [] => 0
  | p, c :: r => if ¬onG c.X ∨ ¬onG c.Y then 17 else if (∃ q ∈ p, ¬cellLt q c) then 9 else cellsF (some c) r
def cellsFault (l : List Cell) : Int := if l.length > 400 then 2 else cellsF none l
def prevC (l : List Cell) (i : Nat) : Option Cell := if i = 0 then none else l[i - 1]?
theorem cellsF_step {l : List Cell} {i : Nat} (h : i < l.length) : cellsF (prevC l i) (l.drop i) = if ¬onG l[i].X ∨ ¬onG l[i].Y then 17 else if (∃ q ∈ prevC l i, ¬cellLt q l[i]) then 9 else cellsF (prevC l (i + 1)) (l.drop (i + 1)) := by
  rw [List.drop_eq_getElem_cons h, cellsF]
  have : prevC l (i + 1) = some l[i] := by unfold prevC; simp [h]
  rw [this]
theorem isNaN_ok (a : Int) (h : List HObj) : ACalls Try.prog F.cmp_isNaN_int [.int .i64 a] h (fun r h' => r = .bool false ∧ h' = h) := by
  refine ACalls.of_aw Try.func230 K.cmp_isNaN_int (by simp [Try.f230]) ?_
  generalize hQ : retQ R.cmp_isNaN_int _ = Q
  simp only[C.cmp_isNaN_int,go_sem,↓reduceIte,Nat.reduceEqDiff,reduceCtorEq,reduceIte,decide_false,not_true_eq_false,Bool.true_and,int_bne]
  subst hQ
  simp only[R.cmp_isNaN_int,go_sem,↓reduceIte,reduceIte]
theorem Compare_ok (a b : Int) (h : List HObj) : ACalls Try.prog F.cmp_Compare_int [.int .i64 a, .int .i64 b] h (fun r h' => r = .int .i64 (cmpI a b) ∧ h' = h) := by
  refine ACalls.of_aw Try.func215 K.cmp_Compare_int (by simp [Try.f215]) ?_
  generalize hQ : retQ R.cmp_Compare_int _ = Q
  simp only[C.cmp_Compare_int,go_sem,↓reduceIte,reduceCtorEq,reduceIte,Int.reduceNeg,Bool.true_and]
  refine callG_ok (isNaN_ok a _) (by simp only[go_sem]) ?_
  rintro _ _ ⟨rfl, hhh⟩
  try rw [hhh]
  clear hhh
  simp only[go_sem,↓reduceIte,Nat.reduceEqDiff,reduceIte,Int.reduceNeg,Bool.true_and]
  refine callG_ok (isNaN_ok b _) (by simp only[go_sem]) ?_
  rintro _ _ ⟨rfl, hhh⟩
  try rw [hhh]
  clear hhh
  simp only[go_sem,↓reduceIte,Nat.reduceEqDiff,reduceCtorEq,reduceIte,Int.reduceNeg,Bool.true_and]
  refine condG_if (fun hlt => ?_) fun hge => ?_
  · simp only[go_sem,Int.reduceNeg,Bool.true_and]
    subst hQ
    simp only[R.cmp_Compare_int,go_sem,↓reduceIte,reduceIte,Int.reduceNeg,Bool.true_and]
    rw [cmpI, if_pos hlt]
  · simp only[go_sem,↓reduceIte,Nat.reduceEqDiff,reduceCtorEq,reduceIte,Bool.true_and]
    refine condG_if (fun hlt2 => ?_) fun hge2 => ?_
    · simp only[go_sem,Bool.true_and]
      subst hQ
      simp only[R.cmp_Compare_int,go_sem,↓reduceIte,reduceIte,Bool.true_and]
      rw [cmpI, if_neg hge, if_pos hlt2]
    · simp only[go_sem,Bool.true_and]
      subst hQ
      simp only[R.cmp_Compare_int,go_sem,↓reduceIte,reduceIte,Bool.true_and]
      rw [cmpI, if_neg hge, if_neg hge2]
theorem order_ok (a b : Cell) (h : List HObj) : ACalls Try.prog F.grid_order [cellA a, cellA b] h (fun r h' => r = .int .i64 (orderC a b) ∧ h' = h) := by
  refine ACalls.of_aw Try.func198 K.grid_order (by simp [Try.f198]) ?_
  generalize hQ : retQ R.grid_order _ = Q
  simp only[C.grid_order,go_sem,↓reduceIte,Nat.reduceEqDiff,Nat.reduceLeDiff,reduceIte,Bool.true_and]
  simp only[cellA,go_sem,↓reduceIte,Nat.reduceEqDiff,Nat.reduceAdd,Nat.reduceLT,reduceIte,Int.reduceLT,Int.reduceAdd,Bool.true_and]
  refine callG_ok (Compare_ok a.Y b.Y _) (by simp only[go_sem]) ?_
  rintro _ _ ⟨rfl, hhh⟩
  try rw [hhh]
  clear hhh
  simp only[go_sem,↓reduceIte,reduceIte,Bool.true_and,int_bne]
  refine condG_ifn (fun hb => ?_) fun hb => ?_
  · simp only[go_sem,↓reduceIte,Nat.reduceEqDiff,reduceIte,Bool.true_and]
    subst hQ
    simp only[R.grid_order,go_sem,↓reduceIte,reduceIte,Bool.true_and]
    rw [orderC, if_pos hb]
  · simp (disch:=first|assumption|omega) only[go_sem,↓reduceIte,Nat.reduceEqDiff,Nat.reduceAdd,Nat.reduceLeDiff,reduceIte,Int.reduceAdd,Bool.true_and]
    refine callG_ok (Compare_ok a.X b.X _) (by simp (disch:=first|assumption|omega) only[go_sem]) ?_
    rintro _ _ ⟨rfl, hhh⟩
    try rw [hhh]
    clear hhh
    simp only[go_sem,↓reduceIte,reduceIte,Bool.true_and]
    subst hQ
    simp only[R.grid_order,go_sem,↓reduceIte,reduceIte,Bool.true_and]
    rw [orderC, if_neg (by simp [hb])]
theorem on_ok (n : Int) (h : List HObj) : ACalls Try.prog F.grid_on [.int .i64 n] h (fun r h' => r = .bool (decide (onG n)) ∧ h' = h) := by
  refine ACalls.of_aw Try.func197 K.grid_on (by simp [Try.f197]) ?_
  generalize hQ : retQ R.grid_on _ = Q
  simp only[C.grid_on,go_sem,↓reduceIte,reduceCtorEq,reduceIte,Int.reduceNeg,Bool.true_and]
  refine aopsG_if (fun h1 => ?_) fun h1 => ?_
  · simp only[h1,go_sem,↓reduceIte,Nat.reduceEqDiff,reduceCtorEq,reduceIte,cond_true,Int.reduceNeg,decide_true,Bool.true_and]
    subst hQ
    simp only[R.grid_on,go_sem,↓reduceIte,reduceIte,Bool.true_and]
    have : decide (n < 64) = decide (onG n) := by
      unfold onG; by_cases h2 : n < 64 <;> simp [h1, h2]
    rw [this]
  · simp only[h1,go_sem,↓reduceIte,Nat.reduceEqDiff,reduceIte,cond_false,Int.reduceNeg,decide_false,Bool.true_and]
    subst hQ
    simp only[R.grid_on,go_sem,↓reduceIte,reduceIte,Bool.true_and]
    have : ¬ onG n := by unfold onG; omega
    simp [this]
theorem gridCheck_ok (o : Own) (l : List Cell) (ho : Rdo o) (hl : l.length < 4611686018427387904) (h : List HObj) : ACalls Try.prog F.grid_Check [.lst o (cellsA l)] h (fun r h' => r = .int .i64 (cellsFault l) ∧ h' = h) := by
  refine ACalls.of_aw Try.func158 K.grid_Check (by simp [Try.f158]) ?_
  generalize hQ : retQ R.grid_Check _ = Q
  simp (disch:=first|assumption|omega) only[C.grid_Check,go_sem,↓reduceIte,reduceCtorEq,reduceIte,Bool.true_and]
  refine condG_if (fun h4 => ?_) fun h4 => ?_
  · simp only[go_sem,Bool.true_and]
    subst hQ
    simp only[R.grid_Check,go_sem,↓reduceIte,reduceIte,Bool.true_and]
    rw [cellsFault, if_pos (by omega)]
  · have h5 : ¬ l.length > 400 := by omega
    simp (disch:=first|assumption|omega) only[go_sem,↓reduceIte,reduceCtorEq,reduceIte,Bool.true_and]
    refine aw_count (fun d S => ∃ (i : Nat), i + d = l.length ∧ S.env 10 = .int .i64 i ∧ S.env 9 = .int .i64 l.length ∧ S.env 8 = .lst o (cellsA l) ∧ S.env 0 = .lst o (cellsA l) ∧ cellsF none l = cellsF (prevC l i) (l.drop i) ∧ S.heap = h) (n := l.length) ⟨0, by simp [go_sem, prevC]⟩ ?_
    rintro d S ⟨i, hi, e10, e9, e8, e0, hf, eh⟩
    simp only[e10,e9,go_sem,↓reduceIte,reduceIte,Int.ofNat_lt,Bool.true_and]
    refine condG_if (fun hlt => ?_) fun hge => ?_
    · have hlt : i < l.length := by omega
      have hat := at_cells hlt
      rw [cellsF_step hlt] at hf
      simp (disch:=first|assumption|omega) only[e10,e8,hat,cellA,hlt,go_sem,↓reduceIte,Nat.reduceEqDiff,Nat.reduceAdd,Nat.reduceLeDiff,reduceIte,Int.natCast_nonneg,Int.ofNat_lt,Int.reduceAdd,decide_true,Bool.true_and]
      by_cases hx : onG l[i].X
      · refine callG_ok (on_ok l[i].X _) (by simp (disch:=first|assumption|omega) only[go_sem]) ?_
        rintro _ _ ⟨rfl, hhh⟩
        try rw [hhh]
        clear hhh
        simp only[hx,go_sem,↓reduceIte,Nat.reduceEqDiff,Nat.reduceAdd,Nat.reduceLeDiff,Nat.reduceLT,reduceIte,Int.reduceLT,Int.reduceAdd,decide_true,Bool.true_and]
        by_cases hy : onG l[i].Y
        · refine callG_ok (on_ok l[i].Y _) (by simp only[go_sem]) ?_
          rintro _ _ ⟨rfl, hhh⟩
          try rw [hhh]
          clear hhh
          simp only[hy,go_sem,↓reduceIte,Nat.reduceEqDiff,reduceIte,cond_false,decide_true,Bool.true_and,alS]
          rw [if_neg (by simp [hx, hy])] at hf
          refine aopsG_if (fun h0 => ?_) fun h0 => ?_
          · have hi0 := h0
            have h0 : 0 < i := by omega
            have hat2 := at_cells (l := l) (i := i - 1) (by omega)
            have ei : ((i - 1 : Nat) : Int) = (i : Int) - 1 := by omega
            rw [ei] at hat2
            have hp : prevC l i = some l[i - 1] := by unfold prevC; rw [if_neg (by omega), List.getElem?_eq_getElem (by omega)]
            have hlt2 : i - 1 < l.length := by omega
            simp (disch:=first|assumption|omega) only[e0,hat2,hi0,cellA,go_sem,↓reduceIte,Nat.reduceEqDiff,reduceCtorEq,Nat.reduceAdd,Nat.reduceLeDiff,reduceIte,Int.reduceAdd,decide_true,Bool.true_and]
            refine ⟨⟨by omega, by omega⟩, ?_⟩
            refine callG_ok (order_ok l[i - 1] l[i] _) (by simp (disch:=first|assumption|omega) only[go_sem]) ?_
            rintro _ _ ⟨rfl, hhh⟩
            try rw [hhh]
            clear hhh
            simp only[go_sem,↓reduceIte,Nat.reduceEqDiff,reduceIte,cond_true,Bool.true_and]
            refine condG_if (fun hc => ?_) fun hc => ?_
            · simp only[go_sem,Bool.true_and]
              subst hQ
              simp only[R.grid_Check,go_sem,↓reduceIte,reduceIte,Bool.true_and]
              rw [cellsFault, if_neg h5, hf, hp, if_pos ⟨_, rfl, (orderC_lt _ _).1 hc⟩]
              exact ⟨rfl, eh⟩
            · simp (disch:=first|assumption|omega) only[e10,e9,e8,e0,eh,go_sem,↓reduceIte,Nat.reduceEqDiff,reduceCtorEq,reduceIte,Bool.true_and]
              rw [hp, if_neg (by rintro ⟨q, hq, hq2⟩; cases hq; exact hc ((orderC_lt _ _).2 hq2))] at hf
              exact ⟨d - 1, by omega, i + 1, by omega, by simp, hf⟩
          · have hp : prevC l i = none := by unfold prevC; rw [if_pos (by omega)]
            rw [hp, if_neg (by simp)] at hf
            simp (disch:=first|assumption|omega) only[e10,e9,e8,e0,eh,h0,go_sem,↓reduceIte,Nat.reduceEqDiff,reduceCtorEq,reduceIte,cond_false,decide_false,Bool.true_and]
            exact ⟨d - 1, by omega, i + 1, by omega, by simp, hf⟩
        · refine callG_ok (on_ok l[i].Y _) (by simp only[go_sem]) ?_
          rintro _ _ ⟨rfl, hhh⟩
          try rw [hhh]
          clear hhh
          simp only[hy,go_sem,↓reduceIte,Nat.reduceEqDiff,reduceIte,cond_false,decide_false,Bool.true_and]
          subst hQ
          simp (disch:=first|assumption|omega) only[R.grid_Check,go_sem,↓reduceIte,reduceIte,Bool.true_and]
          rw [cellsFault, if_neg h5, hf, if_pos (.inr hy)]
          exact ⟨rfl, eh⟩
      · refine callG_ok (on_ok l[i].X _) (by simp (disch:=first|assumption|omega) only[go_sem]) ?_
        rintro _ _ ⟨rfl, hhh⟩
        try rw [hhh]
        clear hhh
        simp only[hx,go_sem,↓reduceIte,Nat.reduceEqDiff,reduceIte,cond_true,decide_false,Bool.true_and]
        subst hQ
        simp only[R.grid_Check,go_sem,↓reduceIte,reduceIte,Bool.true_and]
        rw [cellsFault, if_neg h5, hf, if_pos (.inl hx)]
        exact ⟨rfl, eh⟩
    · obtain rfl : i = l.length := by omega
      rw [List.drop_length, cellsF] at hf
      simp only[go_sem,↓reduceIte,reduceIte,Bool.true_and]
      subst hQ
      simp only[R.grid_Check,go_sem,↓reduceIte,reduceIte,Bool.true_and]
      rw [cellsFault, if_neg h5, hf]
      exact ⟨rfl, eh⟩
end Go.Proofs.Ytpdajkbfemcdlaa
namespace Go.Proofs.Ytpdajkbfemcdlaa
open Go.Ge
def beBytes (n : Int) : Nat → List Int
  | 0 => []
  | m + 1 => beBytes (n / 256) m ++ [n % 256]
end Go.Proofs.Ytpdajkbfemcdlaa
namespace Go.Proofs.Ytpdajkbfemcdlaa
open Go.Ge
def C.slices_Equal_Cell : ACode :=
  .seq (.region [.o 4 (.move false (.c (.bool false)))]) (
  .seq (.seq (.region [.m 6 0,.o 7 (.len (.t 6)),.m 8 1,.o 9 (.len (.t 8)),.o 10 (.bin .neq (.t 7) (.t 9))]) (
  .cond (.t 10) (.seq (.region [.o 4 (.move false (.c (.bool false)))]) (
  .ret)) (.skip))) (
  .seq (.seq (.region [.m 11 0,.o 12 (.len (.t 11)),.o 13 (.move false (.c (.int .i64 0)))]) (
  .block 0 (.loop (.seq (.region [.o 14 (.bin .lss (.t 13) (.t 12))]) (
  .seq (.cond (.t 14) (.skip) (.exit 0)) (
  .seq (.block 1 (.seq (.region [.m 15 13,.m 5 15]) (
  .seq (.drawn [0, 1, 2, 3, 4, 5, 6, 7, 8] [0, 0, 3, 7, 0, 0, 48, 112, 255] [.m 16 0,.m 17 5,.o 18 (.iaddr 2 (.t 16) (.t 17)),.o 19 (.load 0 true 2 (.t 18)),.m 20 1,.m 21 5,.o 22 (.iaddr 2 (.t 20) (.t 21)),.o 23 (.load 0 true 2 (.t 22)),.o 24 (.eqs true [.i .i64, .i .i64] (.t 19) (.t 23))]) (
  .cond (.t 24) (.seq (.region [.o 4 (.move false (.c (.bool false)))]) (
  .ret)) (.skip))))) (
  .region [.o 25 (.bin .add (.t 13) (.c (.int .i64 1))),.m 13 25]))))))) (
  .seq (.region [.o 4 (.move false (.c (.bool true)))]) (
  .ret))))
def R.slices_Equal_Cell : List ARes := [.t 4]
set_option maxRecDepth 100000 in
theorem K.slices_Equal_Cell : ckFun Try.prog Try.f123 C.slices_Equal_Cell R.slices_Equal_Cell = true := by kernel_rfl
def C.slices_Clone_Cell : ACode :=
  .seq (.region [.o 2 (.move false (.c (.lst .nil [])))]) (
  .seq (.seq (.region [.m 3 0,.o 4 (.isnil false false (.t 3))]) (
  .cond (.t 4) (.seq (.region [.o 2 (.move false (.c (.lst .nil [])))]) (
  .ret)) (.skip))) (
  .seq (.region [.o 5 (.buildS false 2 []),.m 6 0,.o 7 (.append 2 16 (.t 5) (.t 6)),.o 2 (.move true (.t 7))]) (
  .ret)))
def R.slices_Clone_Cell : List ARes := [.t 2]
set_option maxRecDepth 100000 in
theorem K.slices_Clone_Cell : ckFun Try.prog Try.f148 C.slices_Clone_Cell R.slices_Clone_Cell = true := by kernel_rfl
end Go.Proofs.Ytpdajkbfemcdlaa
namespace Go.Proofs.Ytpdajkbfemcdlaa
open Go.Ge
def tab (i : Nat) : List Int := (List.range i).map (fun k => iv (entry k)) ++ List.replicate (256 - i) 0
end Go.Proofs.Ytpdajkbfemcdlaa
namespace Go.Proofs.Ytpdajkbfemcdlaa
open Go.Ge
def C.gantmake_Below : ACode :=
  .seq (.region [.o 4 (.move false (.c (.int .i64 0)))]) (
  .seq (.region [.m 5 0,.m 6 1,.o 7 (.bin .rem (.t 5) (.t 6)),.m 0 7]) (
  .seq (.seq (.region [.m 8 0,.o 9 (.bin .lss (.t 8) (.c (.int .i64 0)))]) (
  .cond (.t 9) (.region [.m 10 0,.m 11 1,.o 12 (.bin .add (.t 10) (.t 11)),.m 0 12]) (.skip))) (
  .seq (.region [.m 13 0,.m 4 13]) (
  .ret))))
def R.gantmake_Below : List ARes := [.t 4]
set_option maxRecDepth 100000 in
theorem K.gantmake_Below : ckFun Try.prog Try.f42 C.gantmake_Below R.gantmake_Below = true := by kernel_rfl
end Go.Proofs.Ytpdajkbfemcdlaa
namespace Go.Proofs.Ytpdajkbfemcdlaa
open Go.Ge
def after (a n : Int) : Int := (a + n) % 4294967296
theorem Below_ok (x n : Int) (hx : inI64 x) (hn : 0 < n) (hn2 : n < 9223372036854775808) (h : List HObj) : ACalls Try.prog F.gantmake_Below [.int .i64 x, .int .i64 n] h (fun r h' => r = .int .i64 (x % n) ∧ h' = h) := by
  unfold inI64 at hx
  refine ACalls.of_aw Try.func42 K.gantmake_Below (by simp [Try.f42]) ?_
  generalize hQ : retQ R.gantmake_Below _ = Q
  simp (disch:=first|assumption|omega) only[C.gantmake_Below,go_sem,↓reduceIte,Nat.reduceEqDiff,reduceCtorEq,reduceIte]
  refine ⟨by omega, ?_⟩
  have e := Int.tmod_eq_emod (a := x) (b := n)
  have h1 := Int.emod_nonneg x (show n ≠ 0 by omega)
  have h2 := Int.emod_lt_of_pos x hn
  by_cases h0 : 0 ≤ x ∨ n ∣ x
  · rw [if_pos h0] at e
    refine condG_if (fun hlt => by omega) fun hge => ?_
    simp (disch:=first|assumption|omega) only[go_sem,↓reduceIte,reduceCtorEq,reduceIte]
    subst hQ
    simp (disch:=first|assumption|omega) only[R.gantmake_Below,go_sem,↓reduceIte,reduceIte]
    rw [e]; simp
  · rw [if_neg h0] at e
    have : (n.natAbs : Int) = n := by omega
    refine condG_if (fun hlt => ?_) fun hge => ?_
    · simp (disch:=first|assumption|omega) only[go_sem,↓reduceIte,Nat.reduceEqDiff,reduceCtorEq,reduceIte]
      subst hQ
      simp (disch:=first|assumption|omega) only[R.gantmake_Below,go_sem,↓reduceIte,reduceIte]
      rw [e]; congr 1; omega
    · exfalso
      have h3 : x % n ≠ 0 := fun h => h0 (.inr (Int.dvd_of_emod_eq_zero h))
      omega
end Go.Proofs.Ytpdajkbfemcdlaa
namespace Go.Proofs.Ytpdajkbfemcdlaa
open Go.Ge
theorem EqualCell_ok (o1 o2 : Own) (a b : List Cell) (h1 : Rdo o1) (h2 : Rdo o2) (hl : a.length < 4611686018427387904) (hl2 : b.length < 4611686018427387904) (h : List HObj) :
    ACalls Try.prog F.slices_Equal_Cell [.lst o1 (cellsA a), .lst o2 (cellsA b)] h (fun r h' => r = .bool (decide (a = b)) ∧ h' = h) := by
  refine ACalls.of_aw Try.func123 K.slices_Equal_Cell (by simp [Try.f123]) ?_
  generalize hQ : retQ R.slices_Equal_Cell _ = Q
  simp only[C.slices_Equal_Cell,go_sem,↓reduceIte,Nat.reduceEqDiff,reduceCtorEq,reduceIte,Bool.true_and]
  by_cases he : a.length = b.length
  · simp (disch:=first|assumption|omega) only[he,go_sem,↓reduceIte,reduceCtorEq,reduceIte,Bool.true_and]
    refine aw_count (fun d S => ∃ (i : Nat), i + d = a.length ∧ S.env 13 = .int .i64 i ∧ S.env 12 = .int .i64 b.length ∧ S.env 0 = .lst o1 (cellsA a) ∧ S.env 1 = .lst o2 (cellsA b) ∧ a.take i = b.take i ∧ S.heap = h) (n := a.length) ⟨0, by simp [go_sem]⟩ ?_
    rintro d S ⟨i, hi, e13, e12, e0, e1, ht, eh⟩
    simp only[e13,e12,go_sem,↓reduceIte,reduceIte,Int.ofNat_lt,Bool.true_and]
    refine condG_if (fun hlt => ?_) fun hge => ?_
    · have hlt1 : i < a.length := by omega
      have hlt2 : i < b.length := by omega
      have hat1 := at_cells hlt1
      have hat2 := at_cells hlt2
      simp (disch:=first|assumption|omega) only[e13,e0,e1,hat1,hat2,cellA,hlt1,hlt2,go_sem,↓reduceIte,Nat.reduceEqDiff,reduceCtorEq,Nat.reduceAdd,Nat.reduceLeDiff,reduceIte,Int.natCast_nonneg,Int.ofNat_lt,Int.reduceAdd,decide_true,Bool.true_and,aggEq,scEq,hasSh,alS]
      refine condG_split (fun hb => ?_) fun hb => ?_
      · simp only[go_sem,Bool.true_and]
        subst hQ
        simp only[R.slices_Equal_Cell,eh,go_sem,↓reduceIte,reduceIte,Bool.true_and]
        have : a ≠ b := by
          rintro rfl
          simp at hb
        simp [this, eh]
      · simp (disch:=first|assumption|omega) only[e13,e12,e0,e1,eh,go_sem,↓reduceIte,Nat.reduceEqDiff,reduceCtorEq,reduceIte,Bool.true_and]
        refine ⟨d - 1, by omega, i + 1, by omega, by simp, ?_⟩
        rw [List.take_add_one, List.take_add_one, ht, List.getElem?_eq_getElem hlt1, List.getElem?_eq_getElem hlt2]
        have : a[i] = b[i] := by
          simp at hb
          cases h1 : a[i]; cases h2 : b[i]; simp_all
        rw [this]
    · obtain rfl : i = a.length := by omega
      simp only[go_sem,↓reduceIte,reduceIte,Bool.true_and]
      subst hQ
      simp (disch:=first|assumption|omega) only[R.slices_Equal_Cell,go_sem,↓reduceIte,reduceIte,Bool.true_and]
      rw [List.take_length, he, List.take_length] at ht
      simp [ht, eh]
  · have hd : ¬((a.length : Int) = b.length) := by omega
    have hd2 : ((a.length : Int) != b.length) = true := by simpa using hd
    simp (disch:=first|assumption|omega) only[hd2,go_sem,Bool.true_and]
    subst hQ
    simp (disch:=first|assumption|omega) only[R.slices_Equal_Cell,go_sem,↓reduceIte,reduceIte,Bool.true_and]
    have : a ≠ b := by rintro rfl; exact he rfl
    simp [this]
theorem CloneCell_ok (o : Own) (l : List Cell) (ho : Rdn o l) (hl : l.length * 16 ≤ reachBytes) (h : List HObj) :
    ACalls Try.prog F.slices_Clone_Cell [.lst o (cellsA l)] h (fun r h' => (∃ o', r = .lst o' (cellsA l) ∧ (o' = .nil ∧ l = [] ∨ o' = .app 2)) ∧ h' = h) := by
  have h1 := ho.1
  refine ACalls.of_aw Try.func148 K.slices_Clone_Cell (by simp [Try.f148]) ?_
  generalize hQ : retQ R.slices_Clone_Cell _ = Q
  simp (disch:=first|assumption|omega) only[C.slices_Clone_Cell,go_sem,↓reduceIte,reduceCtorEq,reduceIte,Bool.true_and]
  refine aops_isnilR (o := o) (xs := cellsA l) (by simp (disch:=first|assumption|omega) only[go_sem,↓reduceIte,reduceIte]) h1 (fun e => by rw [ho.2 e]; rfl) fun b hb => ?_
  cases b
  · simp (disch:=first|assumption|omega) only[go_sem,↓reduceIte,Nat.reduceEqDiff,reduceCtorEq,Nat.reduceLeDiff,reduceIte,Int.reduceMul,Nat.reduceMul,Bool.true_and]
    refine ⟨fun v hv => ?_, by unfold reachBytes at hl; omega, by unfold reachBytes at hl; omega, ?_⟩
    · obtain ⟨c, _, rfl⟩ := List.mem_map.1 hv; rfl
    subst hQ
    simp only[R.slices_Clone_Cell,go_sem,↓reduceIte,reduceIte,Bool.true_and]
    exact ⟨_, rfl, .inr rfl⟩
  · have : l = [] := by
      refine Classical.byContradiction fun h0 => ?_
      have := hb (by simpa [cellsA] using h0)
      cases this
    subst this
    simp only[go_sem,↓reduceIte,reduceIte,Bool.true_and]
    subst hQ
    simp only[R.slices_Clone_Cell,go_sem,↓reduceIte,reduceIte,Bool.true_and]
    exact ⟨.nil, by simp [cellsA], by simp⟩
end Go.Proofs.Ytpdajkbfemcdlaa
namespace Go.Proofs.Ytpdajkbfemcdlaa
open Go.Ge
def C.slices_insertionSortCmpFunc_Cell : ACode :=
  .seq (.region [.m 10 1,.o 11 (.bin .add (.t 10) (.c (.int .i64 1))),.m 8 11]) (
  .block 0 (.loop (.seq (.seq (.region [.m 12 8,.m 13 2,.o 14 (.bin .lss (.t 12) (.t 13))]) (
  .cond (.t 14) (.skip) (.exit 0))) (
  .seq (.block 1 (.seq (.region [.m 17 8,.m 9 17]) (
  .block 2 (.loop (.seq (.seq (.drawn [0, 1, 2, 3, 4, 5, 6, 7, 8, 9, 10, 11, 12, 13, 14, 15, 16] [0, 0, 3, 7, 15, 15, 15, 111, 239, 15, 15, 1039, 3599, 7695, 16383, 32767, 65535] [.m 18 9,.m 19 1,.o 20 (.bin .gtr (.t 18) (.t 19)),.m 21 20,.g 22 (.move false (.t 3)) 21 true,.g 23 (.move false (.t 0)) 21 true,.g 24 (.move false (.t 9)) 21 true,.g 25 (.iaddr 2 (.t 23) (.t 24)) 21 true,.g 26 (.load 2 true 2 (.t 25)) 21 true,.g 27 (.move false (.t 0)) 21 true,.g 28 (.move false (.t 9)) 21 true,.g 29 (.bin .sub (.t 28) (.c (.int .i64 1))) 21 true,.g 30 (.iaddr 2 (.t 27) (.t 29)) 21 true,.g 31 (.load 2 true 2 (.t 30)) 21 true,.g 32 (.hop (.callvq (.t 22) [(.t 26), (.t 31)])) 21 true,.g 33 (.bin .lss (.t 32) (.c (.int .i64 0))) 21 true,.o 34 (.pick (.t 21) (.t 33) (.c (.bool false)))]) (
  .cond (.t 34) (.skip) (.exit 2))) (
  .seq (.block 3 (.drawn [0, 1, 2, 3, 4, 5, 6, 7, 8, 9, 10, 11, 12, 13, 14, 15, 16, 17] [0, 0, 0, 0, 8, 0, 0, 64, 224, 480, 0, 0, 3072, 7168, 16355, 32739, 65535, 131071] [.m 37 0,.m 38 9,.m 39 0,.m 40 9,.o 41 (.bin .sub (.t 40) (.c (.int .i64 1))),.m 42 0,.m 43 9,.o 44 (.bin .sub (.t 43) (.c (.int .i64 1))),.o 45 (.iaddr 2 (.t 42) (.t 44)),.o 46 (.load 2 true 2 (.t 45)),.m 47 0,.m 48 9,.o 49 (.iaddr 2 (.t 47) (.t 48)),.o 50 (.load 2 true 2 (.t 49)),.o 51 (.iaddr 2 (.t 37) (.t 38)),⟨none, .store 2 (.t 51) (.t 46), none⟩,.o 52 (.iaddr 2 (.t 39) (.t 41)),⟨none, .store 2 (.t 52) (.t 50), none⟩])) (
  .region [.m 35 9,.o 36 (.bin .sub (.t 35) (.c (.int .i64 1))),.m 9 36]))))))) (
  .region [.m 15 8,.o 16 (.bin .add (.t 15) (.c (.int .i64 1))),.m 8 16])))))
def R.slices_insertionSortCmpFunc_Cell : List ARes := []
set_option maxRecDepth 100000 in
theorem K.slices_insertionSortCmpFunc_Cell : ckFun Try.prog Try.f219 C.slices_insertionSortCmpFunc_Cell R.slices_insertionSortCmpFunc_Cell = true := by kernel_rfl
def C.slices_pdqsortCmpFunc_Cell : ACode :=
  .seq (.region [.o 10 (.move false (.c (.bool true)))]) (
  .seq (.region [.o 11 (.move false (.c (.bool true)))]) (
  .block 0 (.loop (.block 1 (.seq (.region [.m 21 2,.m 22 1,.o 23 (.bin .sub (.t 21) (.t 22)),.m 12 23]) (
  .seq (.seq (.region [.m 24 12,.o 25 (.bin .leq (.t 24) (.c (.int .i64 12)))]) (
  .cond (.t 25) (.seq (.region [.m 26 0,.m 27 1,.m 28 2,.m 29 4,.o 30 (.call true F.slices_insertionSortCmpFunc_Cell [(.t 26), (.t 27), (.t 28), (.t 29)])]) (
  .ret)) (.skip))) (
  .seq (.seq (.halt) (
  .halt)) (
  .seq (.seq (.halt) (
  .halt)) (
  .seq (.halt) (
  .seq (.seq (.halt) (
  .halt)) (
  .seq (.seq (.halt) (
  .halt)) (
  .seq (.seq (.halt) (
  .halt)) (
  .seq (.halt) (
  .seq (.halt) (
  .seq (.halt) (
  .seq (.halt) (
  .seq (.halt) (
  .halt))))))))))))))))))
def R.slices_pdqsortCmpFunc_Cell : List ARes := []
set_option maxRecDepth 100000 in
theorem K.slices_pdqsortCmpFunc_Cell : ckFun Try.prog Try.f203 C.slices_pdqsortCmpFunc_Cell R.slices_pdqsortCmpFunc_Cell = true := by kernel_rfl
def C.slices_SortFunc_Cell : ACode :=
  .seq (.region [.m 5 0,.o 6 (.len (.t 5)),.m 4 6]) (
  .region [.m 7 0,.m 8 4,.m 9 4,.o 10 (.conv .u64 (.t 9)),.o 11 (.call true F.bits_Len [(.t 10)]),.m 12 1,.o 13 (.call true F.slices_pdqsortCmpFunc_Cell [(.t 7), (.c (.int .i64 0)), (.t 8), (.t 11), (.t 12)])])
def R.slices_SortFunc_Cell : List ARes := []
set_option maxRecDepth 100000 in
theorem K.slices_SortFunc_Cell : ckFun Try.prog Try.f180 C.slices_SortFunc_Cell R.slices_SortFunc_Cell = true := by kernel_rfl
def C.bits_Len : ACode :=
  .seq (.region [.o 2 (.move false (.c (.int .i64 0)))]) (
  .seq (.cond (.c (.bool false)) (.seq (.region [.m 3 0,.o 4 (.conv .u32 (.t 3)),.o 5 (.call true F.bits_Len32 [(.t 4)]),.m 2 5]) (
  .ret)) (.skip)) (
  .seq (.region [.m 6 0,.o 7 (.call true F.bits_Len64 [(.t 6)]),.m 2 7]) (
  .ret)))
def R.bits_Len : List ARes := [.t 2]
set_option maxRecDepth 100000 in
theorem K.bits_Len : ckFun Try.prog Try.f204 C.bits_Len R.bits_Len = true := by kernel_rfl
def C.bits_Len64 : ACode :=
  .seq (.region [.o 2 (.move false (.c (.int .i64 0)))]) (
  .seq (.seq (.region [.m 3 0,.o 4 (.bin .geq (.t 3) (.c (.int .u64 4294967296)))]) (
  .cond (.t 4) (.seq (.region [.m 5 0,.o 6 (.bin .shr (.t 5) (.c (.int .u64 32))),.m 0 6]) (
  .region [.o 2 (.move false (.c (.int .i64 32)))])) (.skip))) (
  .seq (.seq (.region [.m 7 0,.o 8 (.bin .geq (.t 7) (.c (.int .u64 65536)))]) (
  .cond (.t 8) (.seq (.region [.m 9 0,.o 10 (.bin .shr (.t 9) (.c (.int .u64 16))),.m 0 10]) (
  .region [.m 11 2,.o 12 (.bin .add (.t 11) (.c (.int .i64 16))),.m 2 12])) (.skip))) (
  .seq (.seq (.region [.m 13 0,.o 14 (.bin .geq (.t 13) (.c (.int .u64 256)))]) (
  .cond (.t 14) (.seq (.region [.m 15 0,.o 16 (.bin .shr (.t 15) (.c (.int .u64 8))),.m 0 16]) (
  .region [.m 17 2,.o 18 (.bin .add (.t 17) (.c (.int .i64 8))),.m 2 18])) (.skip))) (
  .seq (.region [.m 19 2,.m 20 0,.o 21 (.conv .u8 (.t 20)),⟨some 22, .idx (.c (.str ⟨#[0, 1, 2, 2, 3, 3, 3, 3, 4, 4, 4, 4, 4, 4, 4, 4, 5, 5, 5, 5, 5, 5, 5, 5, 5, 5, 5, 5, 5, 5, 5, 5, 6, 6, 6, 6, 6, 6, 6, 6, 6, 6, 6, 6, 6, 6, 6, 6, 6, 6, 6, 6, 6, 6, 6, 6, 6, 6, 6, 6, 6, 6, 6, 6, 7, 7, 7, 7, 7, 7, 7, 7, 7, 7, 7, 7, 7, 7, 7, 7, 7, 7, 7, 7, 7, 7, 7, 7, 7, 7, 7, 7, 7, 7, 7, 7, 7, 7, 7, 7, 7, 7, 7, 7, 7, 7, 7, 7, 7, 7, 7, 7, 7, 7, 7, 7, 7, 7, 7, 7, 7, 7, 7, 7, 7, 7, 7, 7, 8, 8, 8, 8, 8, 8, 8, 8, 8, 8, 8, 8, 8, 8, 8, 8, 8, 8, 8, 8, 8, 8, 8, 8, 8, 8, 8, 8, 8, 8, 8, 8, 8, 8, 8, 8, 8, 8, 8, 8, 8, 8, 8, 8, 8, 8, 8, 8, 8, 8, 8, 8, 8, 8, 8, 8, 8, 8, 8, 8, 8, 8, 8, 8, 8, 8, 8, 8, 8, 8, 8, 8, 8, 8, 8, 8, 8, 8, 8, 8, 8, 8, 8, 8, 8, 8, 8, 8, 8, 8, 8, 8, 8, 8, 8, 8, 8, 8, 8, 8, 8, 8, 8, 8, 8, 8, 8, 8, 8, 8, 8, 8, 8, 8, 8, 8, 8, 8, 8, 8, 8, 8, 8, 8, 8, 8, 8, 8]⟩)) (.t 21), none⟩,.o 23 (.conv .i64 (.t 22)),.o 24 (.bin .add (.t 19) (.t 23)),.m 2 24]) (
  .ret)))))
def R.bits_Len64 : List ARes := [.t 2]
set_option maxRecDepth 100000 in
theorem K.bits_Len64 : ckFun Try.prog Try.f228 C.bits_Len64 R.bits_Len64 = true := by kernel_rfl
def C.gantmake_Cells : ACode :=
  .seq (.region [.o 2 (.move false (.c (.lst .nil [])))]) (
  .seq (.region [.m 6 0,.o 7 (.build [(.lst .nil [])] [(0, 1, (.t 6))]),.o 8 (.bx true (.t 7)),.m 3 8]) (
  .seq (.prom 8 (.region [.o 4 (.move false (.c (.lst .nil [])))])) (
  .seq (.seq (.region [.m 9 3,.o 10 (.call true F.gantmake_Stream_Next [(.t 9), (.c (.int .i64 9))]),.o 11 (.move false (.c (.int .i64 0)))]) (
  .block 0 (.loop (.seq (.region [.o 12 (.bin .lss (.t 11) (.t 10))]) (
  .seq (.cond (.t 12) (.skip) (.exit 0)) (
  .seq (.block 1 (.seq (.region [.m 13 3,.o 14 (.call true F.gantmake_Stream_Next [(.t 13), (.c (.int .i64 8))]),.o 15 (.bin .sub (.t 14) (.c (.int .i64 4))),.m 16 3,.o 17 (.call true F.gantmake_Stream_Next [(.t 16), (.c (.int .i64 8))]),.o 18 (.bin .sub (.t 17) (.c (.int .i64 4))),.o 19 (.build [(.int .i64 0), (.int .i64 0)] [(0, 1, (.t 15)), (1, 1, (.t 18))]),.o 5 (.alloc false [(.int .i64 0), (.int .i64 0)]),⟨none, .store 2 (.t 5) (.t 19), none⟩]) (
  .seq (.thaw 4 (.region [.m 20 4,.o 21 (.load 2 true 2 (.t 5)),.o 22 (.call true F.slices_Contains_Cell [(.t 20), (.t 21)]),.o 23 (.un .not (.t 22))])) (
  .cond (.t 23) (.region [.o 24 (.move true (.t 4)),.o 25 (.load 2 true 2 (.t 5)),.o 26 (.buildS false 2 [(.t 25)]),.o 27 (.hop (.appendR 2 16 (.t 24) (.t 26))),.m 4 27]) (.skip))))) (
  .own 4 true 2 (.region [.o 28 (.bin .add (.t 11) (.c (.int .i64 1))),.m 11 28])))))))) (
  .seq (.thaw 4 (.region [.m 29 4,.o 30 (.call true F.slices_SortFunc_Cell [(.t 29), (.c (.func 181 []))])])) (
  .seq (.own 4 true 2 (.grab 4 (.region [.o 31 (.move true (.t 4)),.o 2 (.move true (.t 31))]))) (
  .ret))))))
def R.gantmake_Cells : List ARes := [.t 2]
set_option maxRecDepth 100000 in
theorem K.gantmake_Cells : ckFun Try.prog Try.f111 C.gantmake_Cells R.gantmake_Cells = true := by kernel_rfl
def C.gantmake_Cells_1 : ACode :=
  .seq (.region [.o 2 (.bx false (.t 0)),.o 3 (.bx false (.t 1)),.o 4 (.move false (.c (.int .i64 0)))]) (
  .seq (.seq (.region [.o 5 (.faddr 1 (.t 2)),.o 6 (.load 2 false 1 (.t 5)),.o 7 (.faddr 1 (.t 3)),.o 8 (.load 2 false 1 (.t 7)),.o 9 (.bin .neq (.t 6) (.t 8))]) (
  .cond (.t 9) (.seq (.region [.o 10 (.faddr 1 (.t 2)),.o 11 (.load 2 false 1 (.t 10)),.o 12 (.faddr 1 (.t 3)),.o 13 (.load 2 false 1 (.t 12)),.o 14 (.bin .sub (.t 11) (.t 13)),.m 4 14]) (
  .ret)) (.skip))) (
  .seq (.region [.o 15 (.faddr 0 (.t 2)),.o 16 (.load 2 false 1 (.t 15)),.o 17 (.faddr 0 (.t 3)),.o 18 (.load 2 false 1 (.t 17)),.o 19 (.bin .sub (.t 16) (.t 18)),.m 4 19]) (
  .ret)))
def R.gantmake_Cells_1 : List ARes := [.t 4]
set_option maxRecDepth 100000 in
theorem K.gantmake_Cells_1 : ckFun Try.prog Try.f181 C.gantmake_Cells_1 R.gantmake_Cells_1 = true := by kernel_rfl
def C.gantmake_Stream_Next : ACode :=
  .seq (.region [.o 4 (.move false (.c (.int .i64 0)))]) (
  .seq (.seq (.region [.m 6 0,.o 7 (.nilck (.t 6)),.o 8 (.faddr 0 (.t 7)),.o 9 (.load 2 false 1 (.t 8)),.o 10 (.len (.t 9)),.o 11 (.bin .eql (.t 10) (.c (.int .i64 0))),.m 12 11,.g 13 (.move false (.t 1)) 12 false,.g 14 (.bin .lss (.t 13) (.c (.int .i64 1))) 12 false,.o 15 (.pick (.t 12) (.c (.bool true)) (.t 14))]) (
  .cond (.t 15) (.seq (.region [.o 4 (.move false (.c (.int .i64 0)))]) (
  .ret)) (.skip))) (
  .seq (.region [.m 16 0,.o 17 (.nilck (.t 16)),.o 18 (.faddr 0 (.t 17)),.o 19 (.load 2 false 1 (.t 18)),.o 20 (.iaddr 1 (.t 19) (.c (.int .i64 0))),.o 21 (.load 2 false 1 (.t 20)),.m 5 21]) (
  .seq (.region [.m 22 0,.m 23 0,.o 24 (.nilck (.t 23)),.o 25 (.faddr 0 (.t 24)),.o 26 (.load 2 false 1 (.t 25)),.o 27 (.slice 1 (.t 26) (some (.c (.int .i64 1))) none none),.o 28 (.nilck (.t 22)),.o 29 (.faddr 0 (.t 28)),⟨none, .store 1 (.t 29) (.t 27), none⟩]) (
  .seq (.region [.m 30 5,.m 31 1,.o 32 (.call true F.gantmake_Below [(.t 30), (.t 31)]),.m 4 32]) (
  .ret)))))
def R.gantmake_Stream_Next : List ARes := [.t 4]
set_option maxRecDepth 100000 in
theorem K.gantmake_Stream_Next : ckFun Try.prog Try.f161 C.gantmake_Stream_Next R.gantmake_Stream_Next = true := by kernel_rfl
def C.slices_Contains_Cell : ACode :=
  .seq (.region [.o 3 (.bx false (.t 1)),.o 4 (.move false (.c (.bool false)))]) (
  .seq (.region [.m 5 0,.o 6 (.load 2 true 2 (.t 3)),.o 7 (.call true F.slices_Index_Cell [(.t 5), (.t 6)]),.o 8 (.bin .geq (.t 7) (.c (.int .i64 0))),.m 4 8]) (
  .ret))
def R.slices_Contains_Cell : List ARes := [.t 4]
set_option maxRecDepth 100000 in
theorem K.slices_Contains_Cell : ckFun Try.prog Try.f179 C.slices_Contains_Cell R.slices_Contains_Cell = true := by kernel_rfl
def C.slices_Index_Cell : ACode :=
  .seq (.region [.o 3 (.bx false (.t 1)),.o 4 (.move false (.c (.int .i64 0)))]) (
  .seq (.seq (.region [.m 6 0,.o 7 (.len (.t 6)),.o 8 (.move false (.c (.int .i64 0)))]) (
  .block 0 (.loop (.seq (.region [.o 9 (.bin .lss (.t 8) (.t 7))]) (
  .seq (.cond (.t 9) (.skip) (.exit 0)) (
  .seq (.block 1 (.seq (.region [.m 10 8,.m 5 10]) (
  .seq (.drawn [0, 1, 2, 3, 4, 5] [0, 0, 0, 6, 14, 31] [.o 11 (.load 1 true 2 (.t 3)),.m 12 0,.m 13 5,.o 14 (.iaddr 2 (.t 12) (.t 13)),.o 15 (.load 2 true 2 (.t 14)),.o 16 (.eqs false [.i .i64, .i .i64] (.t 11) (.t 15))]) (
  .cond (.t 16) (.seq (.region [.m 17 5,.m 4 17]) (
  .ret)) (.skip))))) (
  .region [.o 18 (.bin .add (.t 8) (.c (.int .i64 1))),.m 8 18]))))))) (
  .seq (.region [.o 4 (.move false (.c (.int .i64 (-1))))]) (
  .ret)))
def R.slices_Index_Cell : List ARes := [.t 4]
set_option maxRecDepth 100000 in
theorem K.slices_Index_Cell : ckFun Try.prog Try.f202 C.slices_Index_Cell R.slices_Index_Cell = true := by kernel_rfl
end Go.Proofs.Ytpdajkbfemcdlaa
namespace Go.Proofs.Ytpdajkbfemcdlaa
open Go.Ge
def C.slices_siftDownCmpFunc_Cell : ACode :=
  .seq (.region [.m 12 1,.m 10 12]) (
  .block 0 (.loop (.block 1 (.seq (.region [.m 13 10,.o 14 (.bin .mul (.c (.int .i64 2)) (.t 13)),.o 15 (.bin .add (.t 14) (.c (.int .i64 1))),.m 11 15]) (
  .seq (.seq (.region [.m 16 11,.m 17 2,.o 18 (.bin .geq (.t 16) (.t 17))]) (
  .cond (.t 18) (.exit 0) (.skip))) (
  .seq (.seq (.drawn [0, 1, 2, 3, 4, 5, 6, 7, 8, 9, 10, 11, 12, 13, 14, 15, 16, 17, 18, 19, 20, 21] [0, 1, 0, 7, 15, 31, 31, 31, 31, 415, 991, 2015, 31, 31, 31, 24607, 57375, 127007, 258079, 524287, 1048575, 2097151] [.m 19 11,.o 20 (.bin .add (.t 19) (.c (.int .i64 1))),.m 21 2,.o 22 (.bin .lss (.t 20) (.t 21)),.m 23 22,.g 24 (.move false (.t 4)) 23 true,.g 25 (.move false (.t 0)) 23 true,.g 26 (.move false (.t 3)) 23 true,.g 27 (.move false (.t 11)) 23 true,.g 28 (.bin .add (.t 26) (.t 27)) 23 true,.g 29 (.iaddr 2 (.t 25) (.t 28)) 23 true,.g 30 (.load 2 true 2 (.t 29)) 23 true,.g 31 (.move false (.t 0)) 23 true,.g 32 (.move false (.t 3)) 23 true,.g 33 (.move false (.t 11)) 23 true,.g 34 (.bin .add (.t 32) (.t 33)) 23 true,.g 35 (.bin .add (.t 34) (.c (.int .i64 1))) 23 true,.g 36 (.iaddr 2 (.t 31) (.t 35)) 23 true,.g 37 (.load 2 true 2 (.t 36)) 23 true,.g 38 (.hop (.callvq (.t 24) [(.t 30), (.t 37)])) 23 true,.g 39 (.bin .lss (.t 38) (.c (.int .i64 0))) 23 true,.o 40 (.pick (.t 23) (.t 39) (.c (.bool false)))]) (
  .cond (.t 40) (.region [.m 41 11,.o 42 (.bin .add (.t 41) (.c (.int .i64 1))),.m 11 42]) (.skip))) (
  .seq (.seq (.drawn [0, 1, 2, 3, 4, 5, 6, 7, 8, 9, 10, 11, 12, 13, 14, 15] [0, 0, 0, 0, 12, 30, 62, 0, 0, 0, 768, 1920, 3968, 8191, 16383, 32767] [.m 43 4,.m 44 0,.m 45 3,.m 46 10,.o 47 (.bin .add (.t 45) (.t 46)),.o 48 (.iaddr 2 (.t 44) (.t 47)),.o 49 (.load 2 true 2 (.t 48)),.m 50 0,.m 51 3,.m 52 11,.o 53 (.bin .add (.t 51) (.t 52)),.o 54 (.iaddr 2 (.t 50) (.t 53)),.o 55 (.load 2 true 2 (.t 54)),.o 56 (.hop (.callvq (.t 43) [(.t 49), (.t 55)])),.o 57 (.bin .lss (.t 56) (.c (.int .i64 0))),.o 58 (.un .not (.t 57))]) (
  .cond (.t 58) (.ret) (.skip))) (
  .seq (.drawn [0, 1, 2, 3, 4, 5, 6, 7, 8, 9, 10, 11, 12, 13, 14, 15, 16, 17, 18, 19, 20, 21, 22, 23] [0, 0, 0, 6, 0, 0, 0, 96, 0, 0, 0, 1536, 3840, 7936, 0, 0, 0, 98304, 245760, 507904, 1048335, 2096911, 4194303, 8388607] [.m 59 0,.m 60 3,.m 61 10,.o 62 (.bin .add (.t 60) (.t 61)),.m 63 0,.m 64 3,.m 65 11,.o 66 (.bin .add (.t 64) (.t 65)),.m 67 0,.m 68 3,.m 69 11,.o 70 (.bin .add (.t 68) (.t 69)),.o 71 (.iaddr 2 (.t 67) (.t 70)),.o 72 (.load 2 true 2 (.t 71)),.m 73 0,.m 74 3,.m 75 10,.o 76 (.bin .add (.t 74) (.t 75)),.o 77 (.iaddr 2 (.t 73) (.t 76)),.o 78 (.load 2 true 2 (.t 77)),.o 79 (.iaddr 2 (.t 59) (.t 62)),⟨none, .store 2 (.t 79) (.t 72), none⟩,.o 80 (.iaddr 2 (.t 63) (.t 66)),⟨none, .store 2 (.t 80) (.t 78), none⟩]) (
  .region [.m 81 11,.m 10 81])))))))))
def R.slices_siftDownCmpFunc_Cell : List ARes := []
set_option maxRecDepth 100000 in
theorem K.slices_siftDownCmpFunc_Cell : ckFun Try.prog Try.f234 C.slices_siftDownCmpFunc_Cell R.slices_siftDownCmpFunc_Cell = true := by kernel_rfl
def C.slices_heapSortCmpFunc_Cell : ACode :=
  .seq (.region [.m 13 1,.m 8 13]) (
  .seq (.region [.o 9 (.move false (.c (.int .i64 0)))]) (
  .seq (.region [.m 14 2,.m 15 1,.o 16 (.bin .sub (.t 14) (.t 15)),.m 10 16]) (
  .seq (.seq (.region [.m 17 10,.o 18 (.bin .sub (.t 17) (.c (.int .i64 1))),.o 19 (.bin .quo (.t 18) (.c (.int .i64 2))),.m 11 19]) (
  .block 0 (.loop (.seq (.seq (.region [.m 20 11,.o 21 (.bin .geq (.t 20) (.c (.int .i64 0)))]) (
  .cond (.t 21) (.skip) (.exit 0))) (
  .seq (.block 1 (.region [.m 24 0,.m 25 11,.m 26 10,.m 27 8,.m 28 3,.o 29 (.call true F.slices_siftDownCmpFunc_Cell [(.t 24), (.t 25), (.t 26), (.t 27), (.t 28)])])) (
  .region [.m 22 11,.o 23 (.bin .sub (.t 22) (.c (.int .i64 1))),.m 11 23])))))) (
  .seq (.region [.m 30 10,.o 31 (.bin .sub (.t 30) (.c (.int .i64 1))),.m 12 31]) (
  .block 2 (.loop (.seq (.seq (.region [.m 32 12,.o 33 (.bin .geq (.t 32) (.c (.int .i64 0)))]) (
  .cond (.t 33) (.skip) (.exit 2))) (
  .seq (.block 3 (.seq (.drawn [0, 1, 2, 3, 4, 5, 6, 7, 8, 9, 10, 11, 12, 13, 14, 15, 16, 17, 18, 19] [0, 0, 0, 0, 0, 24, 0, 0, 0, 384, 960, 1984, 0, 0, 12288, 28672, 65475, 131011, 262143, 524287] [.m 36 0,.m 37 8,.m 38 0,.m 39 8,.m 40 12,.o 41 (.bin .add (.t 39) (.t 40)),.m 42 0,.m 43 8,.m 44 12,.o 45 (.bin .add (.t 43) (.t 44)),.o 46 (.iaddr 2 (.t 42) (.t 45)),.o 47 (.load 2 true 2 (.t 46)),.m 48 0,.m 49 8,.o 50 (.iaddr 2 (.t 48) (.t 49)),.o 51 (.load 2 true 2 (.t 50)),.o 52 (.iaddr 2 (.t 36) (.t 37)),⟨none, .store 2 (.t 52) (.t 47), none⟩,.o 53 (.iaddr 2 (.t 38) (.t 41)),⟨none, .store 2 (.t 53) (.t 51), none⟩]) (
  .region [.m 54 0,.m 55 9,.m 56 12,.m 57 8,.m 58 3,.o 59 (.call true F.slices_siftDownCmpFunc_Cell [(.t 54), (.t 55), (.t 56), (.t 57), (.t 58)])]))) (
  .region [.m 34 12,.o 35 (.bin .sub (.t 34) (.c (.int .i64 1))),.m 12 35])))))))))
def R.slices_heapSortCmpFunc_Cell : List ARes := []
set_option maxRecDepth 100000 in
theorem K.slices_heapSortCmpFunc_Cell : ckFun Try.prog Try.f220 C.slices_heapSortCmpFunc_Cell R.slices_heapSortCmpFunc_Cell = true := by kernel_rfl
def C.slices_order2CmpFunc_Cell : ACode :=
  .seq (.region [.o 10 (.move false (.c (.int .i64 0))),.o 11 (.move false (.c (.int .i64 0)))]) (
  .seq (.seq (.drawn [0, 1, 2, 3, 4, 5, 6, 7, 8, 9, 10] [0, 0, 0, 6, 14, 0, 0, 96, 224, 511, 1023] [.m 12 4,.m 13 0,.m 14 2,.o 15 (.iaddr 2 (.t 13) (.t 14)),.o 16 (.load 2 true 2 (.t 15)),.m 17 0,.m 18 1,.o 19 (.iaddr 2 (.t 17) (.t 18)),.o 20 (.load 2 true 2 (.t 19)),.o 21 (.hop (.callvq (.t 12) [(.t 16), (.t 20)])),.o 22 (.bin .lss (.t 21) (.c (.int .i64 0)))]) (
  .cond (.t 22) (.seq (.region [.m 23 3,.o 24 (.nilck (.t 23)),.o 25 (.load 2 false 1 (.t 24)),.o 26 (.bin .add (.t 25) (.c (.int .i64 1))),.o 27 (.nilck (.t 23)),⟨none, .store 1 (.t 27) (.t 26), none⟩]) (
  .seq (.region [.m 28 2,.m 29 1,.m 10 28,.m 11 29]) (
  .ret))) (.skip))) (
  .seq (.region [.m 30 1,.m 31 2,.m 10 30,.m 11 31]) (
  .ret)))
def R.slices_order2CmpFunc_Cell : List ARes := [.t 10, .t 11]
set_option maxRecDepth 100000 in
theorem K.slices_order2CmpFunc_Cell : ckFun Try.prog Try.f240 C.slices_order2CmpFunc_Cell R.slices_order2CmpFunc_Cell = true := by kernel_rfl
def C.slices_medianCmpFunc_Cell : ACode :=
  .seq (.region [.o 12 (.move false (.c (.int .i64 0)))]) (
  .seq (.region [.m 14 0,.m 15 1,.m 16 2,.m 17 4,.m 18 5,.o 19 (.call true F.slices_order2CmpFunc_Cell [(.t 14), (.t 15), (.t 16), (.t 17), (.t 18)]),.m 13 19,.o 20 (.ext 0 (.t 13)),.o 21 (.ext 1 (.t 13)),.m 1 20,.m 2 21]) (
  .seq (.region [.m 23 0,.m 24 2,.m 25 3,.m 26 4,.m 27 5,.o 28 (.call true F.slices_order2CmpFunc_Cell [(.t 23), (.t 24), (.t 25), (.t 26), (.t 27)]),.m 22 28,.o 29 (.ext 0 (.t 22)),.o 30 (.ext 1 (.t 22)),.m 2 29,.m 3 30]) (
  .seq (.region [.m 32 0,.m 33 1,.m 34 2,.m 35 4,.m 36 5,.o 37 (.call true F.slices_order2CmpFunc_Cell [(.t 32), (.t 33), (.t 34), (.t 35), (.t 36)]),.m 31 37,.o 38 (.ext 0 (.t 31)),.o 39 (.ext 1 (.t 31)),.m 1 38,.m 2 39]) (
  .seq (.region [.m 40 2,.m 12 40]) (
  .ret)))))
def R.slices_medianCmpFunc_Cell : List ARes := [.t 12]
set_option maxRecDepth 100000 in
theorem K.slices_medianCmpFunc_Cell : ckFun Try.prog Try.f238 C.slices_medianCmpFunc_Cell R.slices_medianCmpFunc_Cell = true := by kernel_rfl
def C.slices_medianAdjacentCmpFunc_Cell : ACode :=
  .seq (.region [.o 8 (.move false (.c (.int .i64 0)))]) (
  .seq (.region [.m 9 0,.m 10 1,.o 11 (.bin .sub (.t 10) (.c (.int .i64 1))),.m 12 1,.m 13 1,.o 14 (.bin .add (.t 13) (.c (.int .i64 1))),.m 15 2,.m 16 3,.o 17 (.call true F.slices_medianCmpFunc_Cell [(.t 9), (.t 11), (.t 12), (.t 14), (.t 15), (.t 16)]),.m 8 17]) (
  .ret))
def R.slices_medianAdjacentCmpFunc_Cell : List ARes := [.t 8]
set_option maxRecDepth 100000 in
theorem K.slices_medianAdjacentCmpFunc_Cell : ckFun Try.prog Try.f237 C.slices_medianAdjacentCmpFunc_Cell R.slices_medianAdjacentCmpFunc_Cell = true := by kernel_rfl
def C.slices_choosePivotCmpFunc_Cell : ACode :=
  .seq (.region [.o 8 (.move false (.c (.int .i64 0))),.o 9 (.move false (.c (.int .i64 0)))]) (
  .seq (.region [.m 15 2,.m 16 1,.o 17 (.bin .sub (.t 15) (.t 16)),.m 10 17]) (
  .seq (.region [.o 11 (.alloc false [(.int .i64 0)])]) (
  .seq (.prom 11 (.region [.m 18 1,.m 19 10,.o 20 (.bin .quo (.t 19) (.c (.int .i64 4))),.o 21 (.bin .mul (.t 20) (.c (.int .i64 1))),.o 22 (.bin .add (.t 18) (.t 21)),.m 12 22])) (
  .seq (.region [.m 23 1,.m 24 10,.o 25 (.bin .quo (.t 24) (.c (.int .i64 4))),.o 26 (.bin .mul (.t 25) (.c (.int .i64 2))),.o 27 (.bin .add (.t 23) (.t 26)),.m 13 27]) (
  .seq (.region [.m 28 1,.m 29 10,.o 30 (.bin .quo (.t 29) (.c (.int .i64 4))),.o 31 (.bin .mul (.t 30) (.c (.int .i64 3))),.o 32 (.bin .add (.t 28) (.t 31)),.m 14 32]) (
  .seq (.seq (.region [.m 33 10,.o 34 (.bin .geq (.t 33) (.c (.int .i64 8)))]) (
  .cond (.t 34) (.seq (.seq (.region [.m 35 10,.o 36 (.bin .geq (.t 35) (.c (.int .i64 50)))]) (
  .cond (.t 36) (.seq (.region [.m 37 0,.m 38 12,.m 39 3,.o 40 (.call true F.slices_medianAdjacentCmpFunc_Cell [(.t 37), (.t 38), (.t 11), (.t 39)]),.m 12 40]) (
  .seq (.region [.m 41 0,.m 42 13,.m 43 3,.o 44 (.call true F.slices_medianAdjacentCmpFunc_Cell [(.t 41), (.t 42), (.t 11), (.t 43)]),.m 13 44]) (
  .region [.m 45 0,.m 46 14,.m 47 3,.o 48 (.call true F.slices_medianAdjacentCmpFunc_Cell [(.t 45), (.t 46), (.t 11), (.t 47)]),.m 14 48]))) (.skip))) (
  .region [.m 49 0,.m 50 12,.m 51 13,.m 52 14,.m 53 3,.o 54 (.call true F.slices_medianCmpFunc_Cell [(.t 49), (.t 50), (.t 51), (.t 52), (.t 11), (.t 53)]),.m 13 54])) (.skip))) (
  .seq (.region [.o 55 (.load 2 false 1 (.t 11))]) (
  .block 0 (.seq (.region [.o 58 (.bin .eql (.t 55) (.c (.int .i64 0))),.m 57 58]) (
  .cond (.t 57) (.seq (.region [.m 59 13,.m 8 59,.o 9 (.move false (.c (.int .i64 1)))]) (
  .ret)) (.seq (.region [.o 61 (.bin .eql (.t 55) (.c (.int .i64 12))),.m 60 61]) (
  .cond (.t 60) (.seq (.region [.m 62 13,.m 8 62,.o 9 (.move false (.c (.int .i64 2)))]) (
  .ret)) (.seq (.region [.m 56 13,.m 8 56,.o 9 (.move false (.c (.int .i64 0)))]) (
  .ret))))))))))))))
def R.slices_choosePivotCmpFunc_Cell : List ARes := [.t 8, .t 9]
set_option maxRecDepth 100000 in
theorem K.slices_choosePivotCmpFunc_Cell : ckFun Try.prog Try.f222 C.slices_choosePivotCmpFunc_Cell R.slices_choosePivotCmpFunc_Cell = true := by kernel_rfl
def C.slices_reverseRangeCmpFunc_Cell : ACode :=
  .seq (.region [.m 10 1,.m 8 10]) (
  .seq (.region [.m 11 2,.o 12 (.bin .sub (.t 11) (.c (.int .i64 1))),.m 9 12]) (
  .block 0 (.loop (.seq (.seq (.region [.m 13 8,.m 14 9,.o 15 (.bin .lss (.t 13) (.t 14))]) (
  .cond (.t 15) (.skip) (.exit 0))) (
  .block 1 (.seq (.drawn [0, 1, 2, 3, 4, 5, 6, 7, 8, 9, 10, 11, 12, 13, 14, 15] [0, 0, 0, 0, 0, 0, 48, 112, 0, 0, 768, 1792, 4083, 8179, 16383, 32767] [.m 16 0,.m 17 8,.m 18 0,.m 19 9,.m 20 0,.m 21 9,.o 22 (.iaddr 2 (.t 20) (.t 21)),.o 23 (.load 2 true 2 (.t 22)),.m 24 0,.m 25 8,.o 26 (.iaddr 2 (.t 24) (.t 25)),.o 27 (.load 2 true 2 (.t 26)),.o 28 (.iaddr 2 (.t 16) (.t 17)),⟨none, .store 2 (.t 28) (.t 23), none⟩,.o 29 (.iaddr 2 (.t 18) (.t 19)),⟨none, .store 2 (.t 29) (.t 27), none⟩]) (
  .seq (.region [.m 30 8,.o 31 (.bin .add (.t 30) (.c (.int .i64 1))),.m 8 31]) (
  .region [.m 32 9,.o 33 (.bin .sub (.t 32) (.c (.int .i64 1))),.m 9 33]))))))))
def R.slices_reverseRangeCmpFunc_Cell : List ARes := []
set_option maxRecDepth 100000 in
theorem K.slices_reverseRangeCmpFunc_Cell : ckFun Try.prog Try.f223 C.slices_reverseRangeCmpFunc_Cell R.slices_reverseRangeCmpFunc_Cell = true := by kernel_rfl
def C.slices_xorshift_Next : ACode :=
  .seq (.region [.o 2 (.move false (.c (.int .u64 0)))]) (
  .seq (.drawn [0, 1, 2, 3, 4, 5, 6, 7, 8, 9] [0, 1, 3, 0, 8, 24, 56, 127, 255, 511] [.m 3 0,.o 4 (.nilck (.t 3)),.o 5 (.load 2 false 1 (.t 4)),.m 6 0,.o 7 (.nilck (.t 6)),.o 8 (.load 2 false 1 (.t 7)),.o 9 (.bin .shl (.t 8) (.c (.int .u64 13))),.o 10 (.bin .xor (.t 5) (.t 9)),.o 11 (.nilck (.t 3)),⟨none, .store 1 (.t 11) (.t 10), none⟩]) (
  .seq (.drawn [0, 1, 2, 3, 4, 5, 6, 7, 8, 9] [0, 1, 3, 0, 8, 24, 56, 127, 255, 511] [.m 12 0,.o 13 (.nilck (.t 12)),.o 14 (.load 2 false 1 (.t 13)),.m 15 0,.o 16 (.nilck (.t 15)),.o 17 (.load 2 false 1 (.t 16)),.o 18 (.bin .shr (.t 17) (.c (.int .u64 7))),.o 19 (.bin .xor (.t 14) (.t 18)),.o 20 (.nilck (.t 12)),⟨none, .store 1 (.t 20) (.t 19), none⟩]) (
  .seq (.drawn [0, 1, 2, 3, 4, 5, 6, 7, 8, 9] [0, 1, 3, 0, 8, 24, 56, 127, 255, 511] [.m 21 0,.o 22 (.nilck (.t 21)),.o 23 (.load 2 false 1 (.t 22)),.m 24 0,.o 25 (.nilck (.t 24)),.o 26 (.load 2 false 1 (.t 25)),.o 27 (.bin .shl (.t 26) (.c (.int .u64 17))),.o 28 (.bin .xor (.t 23) (.t 27)),.o 29 (.nilck (.t 21)),⟨none, .store 1 (.t 29) (.t 28), none⟩]) (
  .seq (.region [.m 30 0,.o 31 (.nilck (.t 30)),.o 32 (.load 2 false 1 (.t 31)),.m 2 32]) (
  .ret)))))
def R.slices_xorshift_Next : List ARes := [.t 2]
set_option maxRecDepth 100000 in
theorem K.slices_xorshift_Next : ckFun Try.prog Try.f236 C.slices_xorshift_Next R.slices_xorshift_Next = true := by kernel_rfl
def C.slices_nextPowerOfTwo : ACode :=
  .seq (.region [.o 2 (.move false (.c (.int .u64 0)))]) (
  .seq (.region [.m 3 0,.o 4 (.conv .u64 (.t 3)),.o 5 (.call true F.bits_Len [(.t 4)]),.o 6 (.bin .shl (.c (.int .u64 1)) (.t 5)),.m 2 6]) (
  .ret))
def R.slices_nextPowerOfTwo : List ARes := [.t 2]
set_option maxRecDepth 100000 in
theorem K.slices_nextPowerOfTwo : ckFun Try.prog Try.f235 C.slices_nextPowerOfTwo R.slices_nextPowerOfTwo = true := by kernel_rfl
def C.slices_breakPatternsCmpFunc_Cell : ACode :=
  .seq (.region [.m 13 2,.m 14 1,.o 15 (.bin .sub (.t 13) (.t 14)),.m 8 15]) (
  .seq (.region [.m 16 8,.o 17 (.bin .geq (.t 16) (.c (.int .i64 8)))]) (
  .cond (.t 17) (.seq (.region [.m 18 8,.o 19 (.conv .u64 (.t 18)),.o 9 (.alloc false [(.int .u64 0)]),⟨none, .store 1 (.t 9) (.t 19), none⟩]) (
  .seq (.prom 9 (.region [.m 20 8,.o 21 (.call true F.slices_nextPowerOfTwo [(.t 20)]),.m 10 21])) (
  .seq (.region [.m 22 1,.m 23 8,.o 24 (.bin .quo (.t 23) (.c (.int .i64 4))),.o 25 (.bin .mul (.t 24) (.c (.int .i64 2))),.o 26 (.bin .add (.t 22) (.t 25)),.o 27 (.bin .sub (.t 26) (.c (.int .i64 1))),.m 11 27]) (
  .block 0 (.loop (.seq (.seq (.region [.m 28 11,.m 29 1,.m 30 8,.o 31 (.bin .quo (.t 30) (.c (.int .i64 4))),.o 32 (.bin .mul (.t 31) (.c (.int .i64 2))),.o 33 (.bin .add (.t 29) (.t 32)),.o 34 (.bin .add (.t 33) (.c (.int .i64 1))),.o 35 (.bin .leq (.t 28) (.t 34))]) (
  .cond (.t 35) (.skip) (.exit 0))) (
  .seq (.block 1 (.seq (.region [.o 38 (.call true F.slices_xorshift_Next [(.t 9)]),.m 39 10,.o 40 (.bin .sub (.t 39) (.c (.int .u64 1))),.o 41 (.bin .and (.t 38) (.t 40)),.o 42 (.conv .i64 (.t 41)),.m 12 42]) (
  .seq (.seq (.region [.m 43 12,.m 44 8,.o 45 (.bin .geq (.t 43) (.t 44))]) (
  .cond (.t 45) (.region [.m 46 12,.m 47 8,.o 48 (.bin .sub (.t 46) (.t 47)),.m 12 48]) (.skip))) (
  .drawn [0, 1, 2, 3, 4, 5, 6, 7, 8, 9, 10, 11, 12, 13, 14, 15, 16, 17, 18, 19] [0, 0, 0, 0, 0, 24, 0, 0, 0, 384, 960, 1984, 0, 0, 12288, 28672, 65475, 131011, 262143, 524287] [.m 49 0,.m 50 11,.m 51 0,.m 52 1,.m 53 12,.o 54 (.bin .add (.t 52) (.t 53)),.m 55 0,.m 56 1,.m 57 12,.o 58 (.bin .add (.t 56) (.t 57)),.o 59 (.iaddr 2 (.t 55) (.t 58)),.o 60 (.load 2 true 2 (.t 59)),.m 61 0,.m 62 11,.o 63 (.iaddr 2 (.t 61) (.t 62)),.o 64 (.load 2 true 2 (.t 63)),.o 65 (.iaddr 2 (.t 49) (.t 50)),⟨none, .store 2 (.t 65) (.t 60), none⟩,.o 66 (.iaddr 2 (.t 51) (.t 54)),⟨none, .store 2 (.t 66) (.t 64), none⟩])))) (
  .region [.m 36 11,.o 37 (.bin .add (.t 36) (.c (.int .i64 1))),.m 11 37])))))))) (.skip)))
def R.slices_breakPatternsCmpFunc_Cell : List ARes := []
set_option maxRecDepth 100000 in
theorem K.slices_breakPatternsCmpFunc_Cell : ckFun Try.prog Try.f221 C.slices_breakPatternsCmpFunc_Cell R.slices_breakPatternsCmpFunc_Cell = true := by kernel_rfl
def C.slices_partialInsertionSortCmpFunc_Cell : ACode :=
  .seq (.region [.o 8 (.move false (.c (.bool false)))]) (
  .seq (.region [.m 13 1,.o 14 (.bin .add (.t 13) (.c (.int .i64 1))),.m 9 14]) (
  .seq (.seq (.region [.o 10 (.move false (.c (.int .i64 0)))]) (
  .block 0 (.loop (.seq (.seq (.region [.m 15 10,.o 16 (.bin .lss (.t 15) (.c (.int .i64 5)))]) (
  .cond (.t 16) (.skip) (.exit 0))) (
  .seq (.block 1 (.seq (.block 2 (.loop (.seq (.seq (.drawn [0, 1, 2, 3, 4, 5, 6, 7, 8, 9, 10, 11, 12, 13, 14, 15, 16, 17] [0, 0, 3, 7, 15, 15, 15, 111, 239, 15, 15, 1039, 3599, 7695, 16383, 32767, 65535, 131071] [.m 19 9,.m 20 2,.o 21 (.bin .lss (.t 19) (.t 20)),.m 22 21,.g 23 (.move false (.t 3)) 22 true,.g 24 (.move false (.t 0)) 22 true,.g 25 (.move false (.t 9)) 22 true,.g 26 (.iaddr 2 (.t 24) (.t 25)) 22 true,.g 27 (.load 2 true 2 (.t 26)) 22 true,.g 28 (.move false (.t 0)) 22 true,.g 29 (.move false (.t 9)) 22 true,.g 30 (.bin .sub (.t 29) (.c (.int .i64 1))) 22 true,.g 31 (.iaddr 2 (.t 28) (.t 30)) 22 true,.g 32 (.load 2 true 2 (.t 31)) 22 true,.g 33 (.hop (.callvq (.t 23) [(.t 27), (.t 32)])) 22 true,.g 34 (.bin .lss (.t 33) (.c (.int .i64 0))) 22 true,.g 35 (.un .not (.t 34)) 22 true,.o 36 (.pick (.t 22) (.t 35) (.c (.bool false)))]) (
  .cond (.t 36) (.skip) (.exit 2))) (
  .block 3 (.region [.m 37 9,.o 38 (.bin .add (.t 37) (.c (.int .i64 1))),.m 9 38]))))) (
  .seq (.seq (.region [.m 39 9,.m 40 2,.o 41 (.bin .eql (.t 39) (.t 40))]) (
  .cond (.t 41) (.seq (.region [.o 8 (.move false (.c (.bool true)))]) (
  .ret)) (.skip))) (
  .seq (.seq (.region [.m 42 2,.m 43 1,.o 44 (.bin .sub (.t 42) (.t 43)),.o 45 (.bin .lss (.t 44) (.c (.int .i64 50)))]) (
  .cond (.t 45) (.seq (.region [.o 8 (.move false (.c (.bool false)))]) (
  .ret)) (.skip))) (
  .seq (.drawn [0, 1, 2, 3, 4, 5, 6, 7, 8, 9, 10, 11, 12, 13, 14, 15, 16, 17] [0, 0, 0, 0, 8, 0, 0, 64, 224, 480, 0, 0, 3072, 7168, 16355, 32739, 65535, 131071] [.m 46 0,.m 47 9,.m 48 0,.m 49 9,.o 50 (.bin .sub (.t 49) (.c (.int .i64 1))),.m 51 0,.m 52 9,.o 53 (.bin .sub (.t 52) (.c (.int .i64 1))),.o 54 (.iaddr 2 (.t 51) (.t 53)),.o 55 (.load 2 true 2 (.t 54)),.m 56 0,.m 57 9,.o 58 (.iaddr 2 (.t 56) (.t 57)),.o 59 (.load 2 true 2 (.t 58)),.o 60 (.iaddr 2 (.t 46) (.t 47)),⟨none, .store 2 (.t 60) (.t 55), none⟩,.o 61 (.iaddr 2 (.t 48) (.t 50)),⟨none, .store 2 (.t 61) (.t 59), none⟩]) (
  .seq (.seq (.region [.m 62 9,.m 63 1,.o 64 (.bin .sub (.t 62) (.t 63)),.o 65 (.bin .geq (.t 64) (.c (.int .i64 2)))]) (
  .cond (.t 65) (.seq (.region [.m 66 9,.o 67 (.bin .sub (.t 66) (.c (.int .i64 1))),.m 11 67]) (
  .block 4 (.loop (.seq (.seq (.region [.m 68 11,.o 69 (.bin .geq (.t 68) (.c (.int .i64 1)))]) (
  .cond (.t 69) (.skip) (.exit 4))) (
  .seq (.block 5 (.seq (.seq (.drawn [0, 1, 2, 3, 4, 5, 6, 7, 8, 9, 10, 11, 12] [0, 0, 0, 6, 14, 0, 0, 64, 224, 480, 1023, 2047, 4095] [.m 72 3,.m 73 0,.m 74 11,.o 75 (.iaddr 2 (.t 73) (.t 74)),.o 76 (.load 2 true 2 (.t 75)),.m 77 0,.m 78 11,.o 79 (.bin .sub (.t 78) (.c (.int .i64 1))),.o 80 (.iaddr 2 (.t 77) (.t 79)),.o 81 (.load 2 true 2 (.t 80)),.o 82 (.hop (.callvq (.t 72) [(.t 76), (.t 81)])),.o 83 (.bin .lss (.t 82) (.c (.int .i64 0))),.o 84 (.un .not (.t 83))]) (
  .cond (.t 84) (.exit 4) (.skip))) (
  .drawn [0, 1, 2, 3, 4, 5, 6, 7, 8, 9, 10, 11, 12, 13, 14, 15, 16, 17] [0, 0, 0, 0, 8, 0, 0, 64, 224, 480, 0, 0, 3072, 7168, 16355, 32739, 65535, 131071] [.m 85 0,.m 86 11,.m 87 0,.m 88 11,.o 89 (.bin .sub (.t 88) (.c (.int .i64 1))),.m 90 0,.m 91 11,.o 92 (.bin .sub (.t 91) (.c (.int .i64 1))),.o 93 (.iaddr 2 (.t 90) (.t 92)),.o 94 (.load 2 true 2 (.t 93)),.m 95 0,.m 96 11,.o 97 (.iaddr 2 (.t 95) (.t 96)),.o 98 (.load 2 true 2 (.t 97)),.o 99 (.iaddr 2 (.t 85) (.t 86)),⟨none, .store 2 (.t 99) (.t 94), none⟩,.o 100 (.iaddr 2 (.t 87) (.t 89)),⟨none, .store 2 (.t 100) (.t 98), none⟩]))) (
  .region [.m 70 11,.o 71 (.bin .sub (.t 70) (.c (.int .i64 1))),.m 11 71])))))) (.skip))) (
  .seq (.region [.m 101 2,.m 102 9,.o 103 (.bin .sub (.t 101) (.t 102)),.o 104 (.bin .geq (.t 103) (.c (.int .i64 2)))]) (
  .cond (.t 104) (.seq (.region [.m 105 9,.o 106 (.bin .add (.t 105) (.c (.int .i64 1))),.m 12 106]) (
  .block 6 (.loop (.seq (.seq (.region [.m 107 12,.m 108 2,.o 109 (.bin .lss (.t 107) (.t 108))]) (
  .cond (.t 109) (.skip) (.exit 6))) (
  .seq (.block 7 (.seq (.seq (.drawn [0, 1, 2, 3, 4, 5, 6, 7, 8, 9, 10, 11, 12] [0, 0, 0, 6, 14, 0, 0, 64, 224, 480, 1023, 2047, 4095] [.m 112 3,.m 113 0,.m 114 12,.o 115 (.iaddr 2 (.t 113) (.t 114)),.o 116 (.load 2 true 2 (.t 115)),.m 117 0,.m 118 12,.o 119 (.bin .sub (.t 118) (.c (.int .i64 1))),.o 120 (.iaddr 2 (.t 117) (.t 119)),.o 121 (.load 2 true 2 (.t 120)),.o 122 (.hop (.callvq (.t 112) [(.t 116), (.t 121)])),.o 123 (.bin .lss (.t 122) (.c (.int .i64 0))),.o 124 (.un .not (.t 123))]) (
  .cond (.t 124) (.exit 6) (.skip))) (
  .drawn [0, 1, 2, 3, 4, 5, 6, 7, 8, 9, 10, 11, 12, 13, 14, 15, 16, 17] [0, 0, 0, 0, 8, 0, 0, 64, 224, 480, 0, 0, 3072, 7168, 16355, 32739, 65535, 131071] [.m 125 0,.m 126 12,.m 127 0,.m 128 12,.o 129 (.bin .sub (.t 128) (.c (.int .i64 1))),.m 130 0,.m 131 12,.o 132 (.bin .sub (.t 131) (.c (.int .i64 1))),.o 133 (.iaddr 2 (.t 130) (.t 132)),.o 134 (.load 2 true 2 (.t 133)),.m 135 0,.m 136 12,.o 137 (.iaddr 2 (.t 135) (.t 136)),.o 138 (.load 2 true 2 (.t 137)),.o 139 (.iaddr 2 (.t 125) (.t 126)),⟨none, .store 2 (.t 139) (.t 134), none⟩,.o 140 (.iaddr 2 (.t 127) (.t 129)),⟨none, .store 2 (.t 140) (.t 138), none⟩]))) (
  .region [.m 110 12,.o 111 (.bin .add (.t 110) (.c (.int .i64 1))),.m 12 111])))))) (.skip))))))))) (
  .region [.m 17 10,.o 18 (.bin .add (.t 17) (.c (.int .i64 1))),.m 10 18])))))) (
  .seq (.region [.o 8 (.move false (.c (.bool false)))]) (
  .ret))))
def R.slices_partialInsertionSortCmpFunc_Cell : List ARes := [.t 8]
set_option maxRecDepth 100000 in
theorem K.slices_partialInsertionSortCmpFunc_Cell : ckFun Try.prog Try.f224 C.slices_partialInsertionSortCmpFunc_Cell R.slices_partialInsertionSortCmpFunc_Cell = true := by kernel_rfl
def C.slices_partitionEqualCmpFunc_Cell : ACode :=
  .seq (.region [.o 10 (.move false (.c (.int .i64 0)))]) (
  .seq (.drawn [0, 1, 2, 3, 4, 5, 6, 7, 8, 9, 10, 11, 12, 13, 14, 15] [0, 0, 0, 0, 0, 0, 48, 112, 0, 0, 768, 1792, 4083, 8179, 16383, 32767] [.m 13 0,.m 14 1,.m 15 0,.m 16 3,.m 17 0,.m 18 3,.o 19 (.iaddr 2 (.t 17) (.t 18)),.o 20 (.load 2 true 2 (.t 19)),.m 21 0,.m 22 1,.o 23 (.iaddr 2 (.t 21) (.t 22)),.o 24 (.load 2 true 2 (.t 23)),.o 25 (.iaddr 2 (.t 13) (.t 14)),⟨none, .store 2 (.t 25) (.t 20), none⟩,.o 26 (.iaddr 2 (.t 15) (.t 16)),⟨none, .store 2 (.t 26) (.t 24), none⟩]) (
  .seq (.region [.m 27 1,.o 28 (.bin .add (.t 27) (.c (.int .i64 1))),.m 29 2,.o 30 (.bin .sub (.t 29) (.c (.int .i64 1))),.m 11 28,.m 12 30]) (
  .seq (.block 0 (.loop (.block 1 (.seq (.block 2 (.loop (.seq (.seq (.drawn [0, 1, 2, 3, 4, 5, 6, 7, 8, 9, 10, 11, 12, 13, 14, 15, 16] [0, 0, 3, 7, 15, 15, 15, 111, 239, 15, 15, 1551, 3599, 8191, 16383, 32767, 65535] [.m 31 11,.m 32 12,.o 33 (.bin .leq (.t 31) (.t 32)),.m 34 33,.g 35 (.move false (.t 4)) 34 true,.g 36 (.move false (.t 0)) 34 true,.g 37 (.move false (.t 1)) 34 true,.g 38 (.iaddr 2 (.t 36) (.t 37)) 34 true,.g 39 (.load 2 true 2 (.t 38)) 34 true,.g 40 (.move false (.t 0)) 34 true,.g 41 (.move false (.t 11)) 34 true,.g 42 (.iaddr 2 (.t 40) (.t 41)) 34 true,.g 43 (.load 2 true 2 (.t 42)) 34 true,.g 44 (.hop (.callvq (.t 35) [(.t 39), (.t 43)])) 34 true,.g 45 (.bin .lss (.t 44) (.c (.int .i64 0))) 34 true,.g 46 (.un .not (.t 45)) 34 true,.o 47 (.pick (.t 34) (.t 46) (.c (.bool false)))]) (
  .cond (.t 47) (.skip) (.exit 2))) (
  .block 3 (.region [.m 48 11,.o 49 (.bin .add (.t 48) (.c (.int .i64 1))),.m 11 49]))))) (
  .seq (.block 4 (.loop (.seq (.seq (.drawn [0, 1, 2, 3, 4, 5, 6, 7, 8, 9, 10, 11, 12, 13, 14, 15] [0, 0, 3, 7, 15, 15, 15, 111, 239, 15, 15, 1551, 3599, 8191, 16383, 32767] [.m 50 11,.m 51 12,.o 52 (.bin .leq (.t 50) (.t 51)),.m 53 52,.g 54 (.move false (.t 4)) 53 true,.g 55 (.move false (.t 0)) 53 true,.g 56 (.move false (.t 1)) 53 true,.g 57 (.iaddr 2 (.t 55) (.t 56)) 53 true,.g 58 (.load 2 true 2 (.t 57)) 53 true,.g 59 (.move false (.t 0)) 53 true,.g 60 (.move false (.t 12)) 53 true,.g 61 (.iaddr 2 (.t 59) (.t 60)) 53 true,.g 62 (.load 2 true 2 (.t 61)) 53 true,.g 63 (.hop (.callvq (.t 54) [(.t 58), (.t 62)])) 53 true,.g 64 (.bin .lss (.t 63) (.c (.int .i64 0))) 53 true,.o 65 (.pick (.t 53) (.t 64) (.c (.bool false)))]) (
  .cond (.t 65) (.skip) (.exit 4))) (
  .block 5 (.region [.m 66 12,.o 67 (.bin .sub (.t 66) (.c (.int .i64 1))),.m 12 67]))))) (
  .seq (.seq (.region [.m 68 11,.m 69 12,.o 70 (.bin .gtr (.t 68) (.t 69))]) (
  .cond (.t 70) (.exit 0) (.skip))) (
  .seq (.drawn [0, 1, 2, 3, 4, 5, 6, 7, 8, 9, 10, 11, 12, 13, 14, 15] [0, 0, 0, 0, 0, 0, 48, 112, 0, 0, 768, 1792, 4083, 8179, 16383, 32767] [.m 71 0,.m 72 11,.m 73 0,.m 74 12,.m 75 0,.m 76 12,.o 77 (.iaddr 2 (.t 75) (.t 76)),.o 78 (.load 2 true 2 (.t 77)),.m 79 0,.m 80 11,.o 81 (.iaddr 2 (.t 79) (.t 80)),.o 82 (.load 2 true 2 (.t 81)),.o 83 (.iaddr 2 (.t 71) (.t 72)),⟨none, .store 2 (.t 83) (.t 78), none⟩,.o 84 (.iaddr 2 (.t 73) (.t 74)),⟨none, .store 2 (.t 84) (.t 82), none⟩]) (
  .seq (.region [.m 85 11,.o 86 (.bin .add (.t 85) (.c (.int .i64 1))),.m 11 86]) (
  .region [.m 87 12,.o 88 (.bin .sub (.t 87) (.c (.int .i64 1))),.m 12 88]))))))))) (
  .seq (.region [.m 89 11,.m 10 89]) (
  .ret)))))
def R.slices_partitionEqualCmpFunc_Cell : List ARes := [.t 10]
set_option maxRecDepth 100000 in
theorem K.slices_partitionEqualCmpFunc_Cell : ckFun Try.prog Try.f225 C.slices_partitionEqualCmpFunc_Cell R.slices_partitionEqualCmpFunc_Cell = true := by kernel_rfl
def C.slices_partitionCmpFunc_Cell : ACode :=
  .seq (.region [.o 10 (.move false (.c (.int .i64 0))),.o 11 (.move false (.c (.bool false)))]) (
  .seq (.drawn [0, 1, 2, 3, 4, 5, 6, 7, 8, 9, 10, 11, 12, 13, 14, 15] [0, 0, 0, 0, 0, 0, 48, 112, 0, 0, 768, 1792, 4083, 8179, 16383, 32767] [.m 14 0,.m 15 1,.m 16 0,.m 17 3,.m 18 0,.m 19 3,.o 20 (.iaddr 2 (.t 18) (.t 19)),.o 21 (.load 2 true 2 (.t 20)),.m 22 0,.m 23 1,.o 24 (.iaddr 2 (.t 22) (.t 23)),.o 25 (.load 2 true 2 (.t 24)),.o 26 (.iaddr 2 (.t 14) (.t 15)),⟨none, .store 2 (.t 26) (.t 21), none⟩,.o 27 (.iaddr 2 (.t 16) (.t 17)),⟨none, .store 2 (.t 27) (.t 25), none⟩]) (
  .seq (.region [.m 28 1,.o 29 (.bin .add (.t 28) (.c (.int .i64 1))),.m 30 2,.o 31 (.bin .sub (.t 30) (.c (.int .i64 1))),.m 12 29,.m 13 31]) (
  .seq (.block 0 (.loop (.seq (.seq (.drawn [0, 1, 2, 3, 4, 5, 6, 7, 8, 9, 10, 11, 12, 13, 14, 15] [0, 0, 3, 7, 15, 15, 15, 111, 239, 15, 15, 1551, 3599, 8191, 16383, 32767] [.m 32 12,.m 33 13,.o 34 (.bin .leq (.t 32) (.t 33)),.m 35 34,.g 36 (.move false (.t 4)) 35 true,.g 37 (.move false (.t 0)) 35 true,.g 38 (.move false (.t 12)) 35 true,.g 39 (.iaddr 2 (.t 37) (.t 38)) 35 true,.g 40 (.load 2 true 2 (.t 39)) 35 true,.g 41 (.move false (.t 0)) 35 true,.g 42 (.move false (.t 1)) 35 true,.g 43 (.iaddr 2 (.t 41) (.t 42)) 35 true,.g 44 (.load 2 true 2 (.t 43)) 35 true,.g 45 (.hop (.callvq (.t 36) [(.t 40), (.t 44)])) 35 true,.g 46 (.bin .lss (.t 45) (.c (.int .i64 0))) 35 true,.o 47 (.pick (.t 35) (.t 46) (.c (.bool false)))]) (
  .cond (.t 47) (.skip) (.exit 0))) (
  .block 1 (.region [.m 48 12,.o 49 (.bin .add (.t 48) (.c (.int .i64 1))),.m 12 49]))))) (
  .seq (.block 2 (.loop (.seq (.seq (.drawn [0, 1, 2, 3, 4, 5, 6, 7, 8, 9, 10, 11, 12, 13, 14, 15, 16] [0, 0, 3, 7, 15, 15, 15, 111, 239, 15, 15, 1551, 3599, 8191, 16383, 32767, 65535] [.m 50 12,.m 51 13,.o 52 (.bin .leq (.t 50) (.t 51)),.m 53 52,.g 54 (.move false (.t 4)) 53 true,.g 55 (.move false (.t 0)) 53 true,.g 56 (.move false (.t 13)) 53 true,.g 57 (.iaddr 2 (.t 55) (.t 56)) 53 true,.g 58 (.load 2 true 2 (.t 57)) 53 true,.g 59 (.move false (.t 0)) 53 true,.g 60 (.move false (.t 1)) 53 true,.g 61 (.iaddr 2 (.t 59) (.t 60)) 53 true,.g 62 (.load 2 true 2 (.t 61)) 53 true,.g 63 (.hop (.callvq (.t 54) [(.t 58), (.t 62)])) 53 true,.g 64 (.bin .lss (.t 63) (.c (.int .i64 0))) 53 true,.g 65 (.un .not (.t 64)) 53 true,.o 66 (.pick (.t 53) (.t 65) (.c (.bool false)))]) (
  .cond (.t 66) (.skip) (.exit 2))) (
  .block 3 (.region [.m 67 13,.o 68 (.bin .sub (.t 67) (.c (.int .i64 1))),.m 13 68]))))) (
  .seq (.seq (.region [.m 69 12,.m 70 13,.o 71 (.bin .gtr (.t 69) (.t 70))]) (
  .cond (.t 71) (.seq (.drawn [0, 1, 2, 3, 4, 5, 6, 7, 8, 9, 10, 11, 12, 13, 14, 15] [0, 0, 0, 0, 0, 0, 48, 112, 0, 0, 768, 1792, 4083, 8179, 16383, 32767] [.m 72 0,.m 73 13,.m 74 0,.m 75 1,.m 76 0,.m 77 1,.o 78 (.iaddr 2 (.t 76) (.t 77)),.o 79 (.load 2 true 2 (.t 78)),.m 80 0,.m 81 13,.o 82 (.iaddr 2 (.t 80) (.t 81)),.o 83 (.load 2 true 2 (.t 82)),.o 84 (.iaddr 2 (.t 72) (.t 73)),⟨none, .store 2 (.t 84) (.t 79), none⟩,.o 85 (.iaddr 2 (.t 74) (.t 75)),⟨none, .store 2 (.t 85) (.t 83), none⟩]) (
  .seq (.region [.m 86 13,.m 10 86,.o 11 (.move false (.c (.bool true)))]) (
  .ret))) (.skip))) (
  .seq (.drawn [0, 1, 2, 3, 4, 5, 6, 7, 8, 9, 10, 11, 12, 13, 14, 15] [0, 0, 0, 0, 0, 0, 48, 112, 0, 0, 768, 1792, 4083, 8179, 16383, 32767] [.m 87 0,.m 88 12,.m 89 0,.m 90 13,.m 91 0,.m 92 13,.o 93 (.iaddr 2 (.t 91) (.t 92)),.o 94 (.load 2 true 2 (.t 93)),.m 95 0,.m 96 12,.o 97 (.iaddr 2 (.t 95) (.t 96)),.o 98 (.load 2 true 2 (.t 97)),.o 99 (.iaddr 2 (.t 87) (.t 88)),⟨none, .store 2 (.t 99) (.t 94), none⟩,.o 100 (.iaddr 2 (.t 89) (.t 90)),⟨none, .store 2 (.t 100) (.t 98), none⟩]) (
  .seq (.region [.m 101 12,.o 102 (.bin .add (.t 101) (.c (.int .i64 1))),.m 12 102]) (
  .seq (.region [.m 103 13,.o 104 (.bin .sub (.t 103) (.c (.int .i64 1))),.m 13 104]) (
  .seq (.block 4 (.loop (.block 5 (.seq (.block 6 (.loop (.seq (.seq (.drawn [0, 1, 2, 3, 4, 5, 6, 7, 8, 9, 10, 11, 12, 13, 14, 15] [0, 0, 3, 7, 15, 15, 15, 111, 239, 15, 15, 1551, 3599, 8191, 16383, 32767] [.m 105 12,.m 106 13,.o 107 (.bin .leq (.t 105) (.t 106)),.m 108 107,.g 109 (.move false (.t 4)) 108 true,.g 110 (.move false (.t 0)) 108 true,.g 111 (.move false (.t 12)) 108 true,.g 112 (.iaddr 2 (.t 110) (.t 111)) 108 true,.g 113 (.load 2 true 2 (.t 112)) 108 true,.g 114 (.move false (.t 0)) 108 true,.g 115 (.move false (.t 1)) 108 true,.g 116 (.iaddr 2 (.t 114) (.t 115)) 108 true,.g 117 (.load 2 true 2 (.t 116)) 108 true,.g 118 (.hop (.callvq (.t 109) [(.t 113), (.t 117)])) 108 true,.g 119 (.bin .lss (.t 118) (.c (.int .i64 0))) 108 true,.o 120 (.pick (.t 108) (.t 119) (.c (.bool false)))]) (
  .cond (.t 120) (.skip) (.exit 6))) (
  .block 7 (.region [.m 121 12,.o 122 (.bin .add (.t 121) (.c (.int .i64 1))),.m 12 122]))))) (
  .seq (.block 8 (.loop (.seq (.seq (.drawn [0, 1, 2, 3, 4, 5, 6, 7, 8, 9, 10, 11, 12, 13, 14, 15, 16] [0, 0, 3, 7, 15, 15, 15, 111, 239, 15, 15, 1551, 3599, 8191, 16383, 32767, 65535] [.m 123 12,.m 124 13,.o 125 (.bin .leq (.t 123) (.t 124)),.m 126 125,.g 127 (.move false (.t 4)) 126 true,.g 128 (.move false (.t 0)) 126 true,.g 129 (.move false (.t 13)) 126 true,.g 130 (.iaddr 2 (.t 128) (.t 129)) 126 true,.g 131 (.load 2 true 2 (.t 130)) 126 true,.g 132 (.move false (.t 0)) 126 true,.g 133 (.move false (.t 1)) 126 true,.g 134 (.iaddr 2 (.t 132) (.t 133)) 126 true,.g 135 (.load 2 true 2 (.t 134)) 126 true,.g 136 (.hop (.callvq (.t 127) [(.t 131), (.t 135)])) 126 true,.g 137 (.bin .lss (.t 136) (.c (.int .i64 0))) 126 true,.g 138 (.un .not (.t 137)) 126 true,.o 139 (.pick (.t 126) (.t 138) (.c (.bool false)))]) (
  .cond (.t 139) (.skip) (.exit 8))) (
  .block 9 (.region [.m 140 13,.o 141 (.bin .sub (.t 140) (.c (.int .i64 1))),.m 13 141]))))) (
  .seq (.seq (.region [.m 142 12,.m 143 13,.o 144 (.bin .gtr (.t 142) (.t 143))]) (
  .cond (.t 144) (.exit 4) (.skip))) (
  .seq (.drawn [0, 1, 2, 3, 4, 5, 6, 7, 8, 9, 10, 11, 12, 13, 14, 15] [0, 0, 0, 0, 0, 0, 48, 112, 0, 0, 768, 1792, 4083, 8179, 16383, 32767] [.m 145 0,.m 146 12,.m 147 0,.m 148 13,.m 149 0,.m 150 13,.o 151 (.iaddr 2 (.t 149) (.t 150)),.o 152 (.load 2 true 2 (.t 151)),.m 153 0,.m 154 12,.o 155 (.iaddr 2 (.t 153) (.t 154)),.o 156 (.load 2 true 2 (.t 155)),.o 157 (.iaddr 2 (.t 145) (.t 146)),⟨none, .store 2 (.t 157) (.t 152), none⟩,.o 158 (.iaddr 2 (.t 147) (.t 148)),⟨none, .store 2 (.t 158) (.t 156), none⟩]) (
  .seq (.region [.m 159 12,.o 160 (.bin .add (.t 159) (.c (.int .i64 1))),.m 12 160]) (
  .region [.m 161 13,.o 162 (.bin .sub (.t 161) (.c (.int .i64 1))),.m 13 162]))))))))) (
  .seq (.drawn [0, 1, 2, 3, 4, 5, 6, 7, 8, 9, 10, 11, 12, 13, 14, 15] [0, 0, 0, 0, 0, 0, 48, 112, 0, 0, 768, 1792, 4083, 8179, 16383, 32767] [.m 163 0,.m 164 13,.m 165 0,.m 166 1,.m 167 0,.m 168 1,.o 169 (.iaddr 2 (.t 167) (.t 168)),.o 170 (.load 2 true 2 (.t 169)),.m 171 0,.m 172 13,.o 173 (.iaddr 2 (.t 171) (.t 172)),.o 174 (.load 2 true 2 (.t 173)),.o 175 (.iaddr 2 (.t 163) (.t 164)),⟨none, .store 2 (.t 175) (.t 170), none⟩,.o 176 (.iaddr 2 (.t 165) (.t 166)),⟨none, .store 2 (.t 176) (.t 174), none⟩]) (
  .seq (.region [.m 177 13,.m 10 177,.o 11 (.move false (.c (.bool false)))]) (
  .ret))))))))))))
def R.slices_partitionCmpFunc_Cell : List ARes := [.t 10, .t 11]
set_option maxRecDepth 100000 in
theorem K.slices_partitionCmpFunc_Cell : ckFun Try.prog Try.f226 C.slices_partitionCmpFunc_Cell R.slices_partitionCmpFunc_Cell = true := by kernel_rfl
def C.slices_pdqsortCmpFunc_CellF : ACode :=
  .seq (.region [.o 10 (.move false (.c (.bool true)))]) (
  .seq (.region [.o 11 (.move false (.c (.bool true)))]) (
  .block 0 (.loop (.block 1 (.seq (.region [.m 21 2,.m 22 1,.o 23 (.bin .sub (.t 21) (.t 22)),.m 12 23]) (
  .seq (.seq (.region [.m 24 12,.o 25 (.bin .leq (.t 24) (.c (.int .i64 12)))]) (
  .cond (.t 25) (.seq (.region [.m 26 0,.m 27 1,.m 28 2,.m 29 4,.o 30 (.call true F.slices_insertionSortCmpFunc_Cell [(.t 26), (.t 27), (.t 28), (.t 29)])]) (
  .ret)) (.skip))) (
  .seq (.seq (.region [.m 31 3,.o 32 (.bin .eql (.t 31) (.c (.int .i64 0)))]) (
  .cond (.t 32) (.seq (.region [.m 33 0,.m 34 1,.m 35 2,.m 36 4,.o 37 (.call true F.slices_heapSortCmpFunc_Cell [(.t 33), (.t 34), (.t 35), (.t 36)])]) (
  .ret)) (.skip))) (
  .seq (.seq (.region [.m 38 10,.o 39 (.un .not (.t 38))]) (
  .cond (.t 39) (.seq (.region [.m 40 0,.m 41 1,.m 42 2,.m 43 4,.o 44 (.call true F.slices_breakPatternsCmpFunc_Cell [(.t 40), (.t 41), (.t 42), (.t 43)])]) (
  .region [.m 45 3,.o 46 (.bin .sub (.t 45) (.c (.int .i64 1))),.m 3 46])) (.skip))) (
  .seq (.region [.m 48 0,.m 49 1,.m 50 2,.m 51 4,.o 52 (.call true F.slices_choosePivotCmpFunc_Cell [(.t 48), (.t 49), (.t 50), (.t 51)]),.m 47 52,.o 53 (.ext 0 (.t 47)),.o 54 (.ext 1 (.t 47)),.m 13 53,.m 14 54]) (
  .seq (.seq (.region [.m 55 14,.o 56 (.bin .eql (.t 55) (.c (.int .i64 2)))]) (
  .cond (.t 56) (.seq (.region [.m 57 0,.m 58 1,.m 59 2,.m 60 4,.o 61 (.call true F.slices_reverseRangeCmpFunc_Cell [(.t 57), (.t 58), (.t 59), (.t 60)])]) (
  .seq (.region [.m 62 2,.o 63 (.bin .sub (.t 62) (.c (.int .i64 1))),.m 64 13,.m 65 1,.o 66 (.bin .sub (.t 64) (.t 65)),.o 67 (.bin .sub (.t 63) (.t 66)),.m 13 67]) (
  .region [.o 14 (.move false (.c (.int .i64 1)))]))) (.skip))) (
  .seq (.seq (.region [.m 68 10,.m 69 68,.g 70 (.move false (.t 11)) 69 true,.o 71 (.pick (.t 69) (.t 70) (.c (.bool false))),.m 72 71,.g 73 (.move false (.t 14)) 72 true,.g 74 (.bin .eql (.t 73) (.c (.int .i64 1))) 72 true,.o 75 (.pick (.t 72) (.t 74) (.c (.bool false)))]) (
  .cond (.t 75) (.seq (.region [.m 76 0,.m 77 1,.m 78 2,.m 79 4,.o 80 (.call true F.slices_partialInsertionSortCmpFunc_Cell [(.t 76), (.t 77), (.t 78), (.t 79)])]) (
  .cond (.t 80) (.ret) (.skip))) (.skip))) (
  .seq (.seq (.drawn [0, 1, 2, 3, 4, 5, 6, 7, 8, 9, 10, 11, 12, 13, 14, 15, 16] [0, 1, 3, 7, 7, 7, 39, 119, 247, 7, 7, 1543, 3591, 8191, 16383, 32767, 65535] [.m 81 1,.o 82 (.bin .gtr (.t 81) (.c (.int .i64 0))),.m 83 82,.g 84 (.move false (.t 4)) 83 true,.g 85 (.move false (.t 0)) 83 true,.g 86 (.move false (.t 1)) 83 true,.g 87 (.bin .sub (.t 86) (.c (.int .i64 1))) 83 true,.g 88 (.iaddr 2 (.t 85) (.t 87)) 83 true,.g 89 (.load 2 true 2 (.t 88)) 83 true,.g 90 (.move false (.t 0)) 83 true,.g 91 (.move false (.t 13)) 83 true,.g 92 (.iaddr 2 (.t 90) (.t 91)) 83 true,.g 93 (.load 2 true 2 (.t 92)) 83 true,.g 94 (.hop (.callvq (.t 84) [(.t 89), (.t 93)])) 83 true,.g 95 (.bin .lss (.t 94) (.c (.int .i64 0))) 83 true,.g 96 (.un .not (.t 95)) 83 true,.o 97 (.pick (.t 83) (.t 96) (.c (.bool false)))]) (
  .cond (.t 97) (.seq (.region [.m 98 0,.m 99 1,.m 100 2,.m 101 13,.m 102 4,.o 103 (.call true F.slices_partitionEqualCmpFunc_Cell [(.t 98), (.t 99), (.t 100), (.t 101), (.t 102)]),.m 15 103]) (
  .seq (.region [.m 104 15,.m 1 104]) (
  .exit 1))) (.skip))) (
  .seq (.region [.m 106 0,.m 107 1,.m 108 2,.m 109 13,.m 110 4,.o 111 (.call true F.slices_partitionCmpFunc_Cell [(.t 106), (.t 107), (.t 108), (.t 109), (.t 110)]),.m 105 111,.o 112 (.ext 0 (.t 105)),.o 113 (.ext 1 (.t 105)),.m 16 112,.m 17 113]) (
  .seq (.region [.m 114 17,.m 11 114]) (
  .seq (.region [.m 115 16,.m 116 1,.o 117 (.bin .sub (.t 115) (.t 116)),.m 118 2,.m 119 16,.o 120 (.bin .sub (.t 118) (.t 119)),.m 18 117,.m 19 120]) (
  .seq (.region [.m 121 12,.o 122 (.bin .quo (.t 121) (.c (.int .i64 8))),.m 20 122]) (
  .seq (.region [.m 123 18,.m 124 19,.o 125 (.bin .lss (.t 123) (.t 124))]) (
  .cond (.t 125) (.seq (.region [.m 126 18,.m 127 20,.o 128 (.bin .geq (.t 126) (.t 127)),.m 10 128]) (
  .seq (.region [.m 129 0,.m 130 1,.m 131 16,.m 132 3,.m 133 4,.o 134 (.call true F.slices_pdqsortCmpFunc_Cell [(.t 129), (.t 130), (.t 131), (.t 132), (.t 133)])]) (
  .region [.m 135 16,.o 136 (.bin .add (.t 135) (.c (.int .i64 1))),.m 1 136]))) (.seq (.region [.m 137 19,.m 138 20,.o 139 (.bin .geq (.t 137) (.t 138)),.m 10 139]) (
  .seq (.region [.m 140 0,.m 141 16,.o 142 (.bin .add (.t 141) (.c (.int .i64 1))),.m 143 2,.m 144 3,.m 145 4,.o 146 (.call true F.slices_pdqsortCmpFunc_Cell [(.t 140), (.t 142), (.t 143), (.t 144), (.t 145)])]) (
  .region [.m 147 16,.m 2 147])))))))))))))))))))))
def R.slices_pdqsortCmpFunc_CellF : List ARes := []
set_option maxRecDepth 100000 in
theorem K.slices_pdqsortCmpFunc_CellF : ckFun Try.prog Try.f203 C.slices_pdqsortCmpFunc_CellF R.slices_pdqsortCmpFunc_CellF = true := by kernel_rfl
end Go.Proofs.Ytpdajkbfemcdlaa
namespace Go.Proofs.Ytpdajkbfemcdlaa
abbrev Gr := List (List Nat)
def nx (g : Gr) (i : Nat) : List Nat := g.getD i []
def Gok (g : Gr) : Prop := ∀ i, ∀ k ∈ nx g i, k < g.length
inductive Wk (g : Gr) (t : Nat) : Nat → Nat → Prop
  | one {i : Nat} : t ∈ nx g i → Wk g t 1 i
  | step {i k n : Nat} : k ∈ nx g i → Wk g t n k → Wk g t (n + 1) i
def Rch (g : Gr) (i t : Nat) : Prop := ∃ n, Wk g t n i
theorem Wk.pos {g : Gr} {t n i : Nat} (h : Wk g t n i) : 1 ≤ n := by cases h <;> omega
theorem nx_lt {g : Gr} {i k : Nat} (h : k ∈ nx g i) : i < g.length := by
  refine Classical.byContradiction fun hn => ?_
  simp only[nx,List.getD_eq_getElem?_getD,List.getElem?_eq_none (show g.length ≤ i by omega)] at h
  simp at h
theorem Wk.lt {g : Gr} {t n i : Nat} (h : Wk g t n i) : i < g.length := by cases h <;> exact nx_lt ‹_›
theorem Wk.snoc {g : Gr} {t u n i : Nat} (h : Wk g t n i) (hu : u ∈ nx g t) : Wk g u (n + 1) i := by
  induction h with
  | one h => exact .step h (.one hu)
  | step h _ ih => exact .step h ih
theorem Wk.inv {g : Gr} {t n i : Nat} (h : Wk g t n i) : n = 1 ∧ t ∈ nx g i ∨ ∃ k m, n = m + 1 ∧ k ∈ nx g i ∧ Wk g t m k := by
  cases h with
  | one h => exact .inl ⟨rfl, h⟩
  | step h1 h2 => exact .inr ⟨_, _, rfl, h1, h2⟩

theorem Rch.one {g : Gr} {i k : Nat} (h : k ∈ nx g i) : Rch g i k := ⟨1, .one h⟩
theorem Rch.tail {g : Gr} {i k j : Nat} (hj : j ∈ nx g k) : Rch g i k → Rch g i j := fun ⟨n, h⟩ => ⟨n + 1, h.snoc hj⟩
theorem Rch.closed {g : Gr} {S : Nat → Prop} (hc : ∀ k, S k → ∀ j ∈ nx g k, S j) {i t : Nat} (h0 : ∀ j ∈ nx g i, S j) (h : Rch g i t) : S t := by
  obtain ⟨n, h⟩ := h
  induction h with
  | one h => exact h0 _ h
  | step h _ ih => exact ih (hc _ (h0 _ h))
def pend (g : Gr) (s : List Bool) : Nat := ((List.range g.length).map fun k => if s.getD k false then 0 else (nx g k).length).sum
theorem sum_one {f f' : Nat → Nat} {k b : Nat} (hk : f' k + b = f k) (he : ∀ j, j ≠ k → f' j = f j) : ∀ n, k < n → ((List.range n).map f').sum + b = ((List.range n).map f).sum
  | n + 1, h => by
    rw [List.range_succ, List.map_append, List.map_append, List.sum_append, List.sum_append]
    simp only[List.map_cons,List.map_nil,List.sum_cons,List.sum_nil,Nat.add_zero]
    by_cases e : k = n
    · subst e
      have : (List.range k).map f' = (List.range k).map f := List.map_congr_left fun j hj => he j (by have := List.mem_range.1 hj; omega)
      rw [this]; omega
    · have := sum_one hk he n (by omega)
      rw [he n (fun e' => e e'.symm)]; omega
theorem pend_set {g : Gr} {s : List Bool} {k : Nat} (hk : k < g.length) (hs : s.length = g.length) (hf : s.getD k false = false) : pend g (s.set k true) + (nx g k).length = pend g s := by
  refine sum_one (k := k) ?_ ?_ g.length hk
  · have : (s.set k true).getD k false = true := by rw [List.getD_eq_getElem?_getD, List.getElem?_set_self (by omega)]; rfl
    simp only[this,hf,if_true,Bool.false_eq_true,if_false]; omega
  · intro j hj
    have : (s.set k true).getD j false = s.getD j false := by rw [List.getD_eq_getElem?_getD, List.getElem?_set_ne (fun e => hj e.symm), List.getD_eq_getElem?_getD]
    simp only[this]
structure Srch (g : Gr) (i : Nat) (s : List Bool) (todo : List Nat) : Prop where
  len : s.length = g.length
  sound : ∀ k, s.getD k false = true → Rch g i k
  tsound : ∀ k ∈ todo, Rch g i k ∧ k < g.length
  first : ∀ j ∈ nx g i, s.getD j false = true ∨ j ∈ todo
  closed : ∀ k, s.getD k false = true → ∀ j ∈ nx g k, s.getD j false = true ∨ j ∈ todo
theorem Srch.start {g : Gr} (hg : Gok g) (i : Nat) : Srch g i (List.replicate g.length false) (nx g i) := by
  have h0 : ∀ k, (List.replicate g.length false).getD k false = false := by
    intro k
    rw [List.getD_eq_getElem?_getD, List.getElem?_replicate]; split <;> rfl
  refine ⟨by simp, ?_, fun k hk => ⟨.one hk, hg i k hk⟩, fun j hj => .inr hj, ?_⟩
  · intro k hk; rw [h0] at hk; cases hk
  · intro k hk; rw [h0] at hk; cases hk
theorem getD_set_or {s : List Bool} {k j : Nat} (hk : k < s.length) : (s.set k true).getD j false = (decide (j = k) || s.getD j false) := by
  by_cases e : j = k
  · subst e; rw [List.getD_eq_getElem?_getD, List.getElem?_set_self hk]; simp
  · rw [List.getD_eq_getElem?_getD, List.getElem?_set_ne (fun h => e h.symm), List.getD_eq_getElem?_getD]; simp [e]
theorem Srch.old {g : Gr} {i k : Nat} {s : List Bool} {todo : List Nat} (h : Srch g i s (k :: todo)) (hk : s.getD k false = true) : Srch g i s todo := by
  obtain ⟨h1, h2, h3, h4, h5⟩ := h
  have aux : ∀ j, s.getD j false = true ∨ j ∈ k :: todo → s.getD j false = true ∨ j ∈ todo := by
    intro j hj
    rcases hj with hj | hj
    · exact .inl hj
    · rcases List.mem_cons.1 hj with rfl | hj
      · exact .inl hk
      · exact .inr hj
  exact ⟨h1, h2, fun j hj => h3 j (by simp [hj]), fun j hj => aux j (h4 j hj), fun a ha j hj => aux j (h5 a ha j hj)⟩
theorem Srch.new {g : Gr} (hg : Gok g) {i k : Nat} {s : List Bool} {todo : List Nat} (h : Srch g i s (k :: todo)) (hk : s.getD k false = false) : Srch g i (s.set k true) (todo ++ nx g k) ∧ pend g (s.set k true) + (nx g k).length = pend g s := by
  obtain ⟨h1, h2, h3, h4, h5⟩ := h
  have hkl := (h3 k (by simp)).2
  have hks : k < s.length := by omega
  have aux : ∀ j, s.getD j false = true ∨ j ∈ k :: todo → (s.set k true).getD j false = true ∨ j ∈ todo ++ nx g k := by
    intro j hj
    rw [getD_set_or hks]
    rcases hj with hj | hj
    · exact .inl (by rw [hj]; simp)
    · rcases List.mem_cons.1 hj with rfl | hj
      · exact .inl (by simp)
      · exact .inr (by simp [hj])
  refine ⟨⟨by simp [h1], ?_, ?_, fun j hj => aux j (h4 j hj), ?_⟩, pend_set hkl h1 hk⟩
  · intro j hj
    rw [getD_set_or hks] at hj
    rcases Bool.or_eq_true _ _ ▸ hj with hj | hj
    · rw [of_decide_eq_true hj]; exact (h3 k (by simp)).1
    · exact h2 j hj
  · intro j hj
    rcases List.mem_append.1 hj with hj | hj
    · exact h3 j (by simp [hj])
    · exact ⟨(h3 k (by simp)).1.tail hj, hg k j hj⟩
  · intro a ha j hj
    rw [getD_set_or hks] at ha
    rcases Bool.or_eq_true _ _ ▸ ha with ha | ha
    · rw [of_decide_eq_true ha] at hj
      exact .inr (by simp [hj])
    · exact aux j (h5 a ha j hj)
theorem Srch.done {g : Gr} {i : Nat} {s : List Bool} (h : Srch g i s []) (k : Nat) : s.getD k false = true ↔ Rch g i k := by
  obtain ⟨h1, h2, h3, h4, h5⟩ := h
  refine ⟨h2 k, fun hr => ?_⟩
  exact Rch.closed (S := fun k => s.getD k false = true) (fun a ha j hj => (h5 a ha j hj).elim id fun e => by cases e) (fun j hj => (h4 j hj).elim id fun e => by cases e) hr
def Ld (g : Gr) (t d i : Nat) : Prop := Wk g t d i ∧ ∀ m, m < d → ¬Wk g t m i
theorem least_of {p : Nat → Prop} {n : Nat} (h : p n) : ∃ m, m ≤ n ∧ p m ∧ ∀ k, k < m → ¬p k := by
  induction n using Nat.strongRecOn with
  | ind n ih =>
    by_cases hs : ∃ k, k < n ∧ p k
    · obtain ⟨k, hk, hp⟩ := hs
      obtain ⟨m, h1, h2, h3⟩ := ih k hk hp
      exact ⟨m, by omega, h2, h3⟩
    · exact ⟨n, Nat.le_refl _, h, fun k hk hp => hs ⟨k, hk, hp⟩⟩
theorem Rch.ld {g : Gr} {i t : Nat} (h : Rch g i t) : ∃ d, Ld g t d i := by
  obtain ⟨n, h⟩ := h
  obtain ⟨m, _, h1, h2⟩ := least_of (p := fun m => Wk g t m i) h
  exact ⟨m, h1, h2⟩
theorem Ld.uniq {g : Gr} {t d d' i : Nat} (h : Ld g t d i) (h' : Ld g t d' i) : d = d' := by
  refine Classical.byContradiction fun hn => ?_
  rcases Nat.lt_or_gt_of_ne hn with hl | hl
  · exact h'.2 _ hl h.1
  · exact h.2 _ hl h'.1
theorem Ld.next {g : Gr} {t d i : Nat} (h : Ld g t (d + 2) i) : ∃ k, k ∈ nx g i ∧ Ld g t (d + 1) k := by
  obtain ⟨h1, h2⟩ := h
  rcases h1.inv with ⟨e, _⟩ | ⟨k, m, e, hk, hw⟩
  · omega
  · obtain rfl : m = d + 1 := by omega
    exact ⟨k, hk, hw, fun m hm hw' => h2 (m + 1) (by omega) (.step hk hw')⟩
def FarOk (g : Gr) (t n : Nat) (F : List Int) : Prop := F.length = g.length ∧ ∀ i, i < g.length → (F.getD i 0 = -1 ∧ ∀ m, m ≤ n → ¬Wk g t m i) ∨ (∃ d : Nat, F.getD i 0 = d ∧ d ≤ n ∧ Ld g t d i)
open Classical in
noncomputable def hitB (g : Gr) (t n : Nat) (F : List Int) (l : List Nat) : Bool := decide (∃ k ∈ l, n = 1 ∧ k = t ∨ 1 < n ∧ F.getD k 0 = (n : Int) - 1)
noncomputable def stepF (g : Gr) (t n : Nat) (F : List Int) : List Int := (List.range g.length).map fun i => if F.getD i 0 < 0 ∧ hitB g t n F (nx g i) = true then (n : Int) else F.getD i 0
theorem FarOk.start (g : Gr) (t : Nat) : FarOk g t 0 (List.replicate g.length (-1)) := by
  refine ⟨by simp, fun i hi => .inl ⟨?_, fun m hm hw => ?_⟩⟩
  · rw [List.getD_eq_getElem?_getD, List.getElem?_replicate, if_pos hi]; rfl
  · have := hw.pos; omega
theorem stepF_get {g : Gr} {t n i : Nat} {F : List Int} (hi : i < g.length) : (stepF g t n F).getD i 0 = if F.getD i 0 < 0 ∧ hitB g t n F (nx g i) = true then (n : Int) else F.getD i 0 := by
  rw [List.getD_eq_getElem?_getD, stepF, List.getElem?_map, List.getElem?_range hi]; rfl
theorem FarOk.step {g : Gr} (hg : Gok g) {t n : Nat} {F : List Int} (h : FarOk g t n F) : FarOk g t (n + 1) (stepF g t (n + 1) F) := by
  obtain ⟨h1, h2⟩ := h
  refine ⟨by simp [stepF], fun i hi => ?_⟩
  rw [stepF_get hi]
  rcases h2 i hi with ⟨e, hn⟩ | ⟨d, e, hd, hl⟩
  · by_cases hh : hitB g t (n + 1) F (nx g i) = true
    · rw [if_pos ⟨by omega, hh⟩]
      refine .inr ⟨n + 1, rfl, Nat.le_refl _, ?_, fun m hm => hn m (by omega)⟩
      obtain ⟨k, hk, hc⟩ := of_decide_eq_true hh
      rcases hc with ⟨e1, rfl⟩ | ⟨e1, e2⟩
      · obtain rfl : n = 0 := by omega
        exact .one hk
      · rcases h2 k (hg i k hk) with ⟨e3, _⟩ | ⟨d, e3, _, hd⟩
        · omega
        · obtain rfl : d = n := by omega
          exact .step hk hd.1
    · rw [if_neg (fun c => hh c.2)]
      refine .inl ⟨e, fun m hm hw => ?_⟩
      by_cases hmn : m ≤ n
      · exact hn m hmn hw
      · obtain rfl : m = n + 1 := by omega
        refine hh (decide_eq_true ?_)
        rcases hw.inv with ⟨e1, hk⟩ | ⟨k, m, e1, hk, hw'⟩
        · exact ⟨t, hk, .inl ⟨by omega, rfl⟩⟩
        · obtain rfl : m = n := by omega
          have hpos := hw'.pos
          refine ⟨k, hk, .inr ⟨by omega, ?_⟩⟩
          rcases h2 k (hg i k hk) with ⟨_, e4⟩ | ⟨d, e3, hdn, hd⟩
          · exact absurd hw' (e4 m (Nat.le_refl _))
          · have : ¬ d < m := fun hlt => hn (d + 1) (by omega) (.step hk hd.1)
            omega
  · rw [if_neg (fun c => by omega)]
    exact .inr ⟨d, e, by omega, hl⟩
open Classical in
noncomputable def bestN (F : List Int) (d : Int) : List Nat → Int → Int
  | [], b => b
  | k :: l, b => bestN F d l (if F.getD k 0 = d ∧ (b < 0 ∨ (k : Int) < b) then (k : Int) else b)
theorem bestN_spec {F : List Int} {d : Int} : ∀ (l : List Nat) (b : Int), (b = -1 ∨ 0 ≤ b) →
    (bestN F d l b = -1 ∧ b = -1 ∧ ∀ k ∈ l, F.getD k 0 ≠ d) ∨ (∃ m : Nat, bestN F d l b = m ∧ (m = b ∨ m ∈ l ∧ F.getD m 0 = d) ∧ (0 ≤ b → (m : Int) ≤ b) ∧ ∀ k ∈ l, F.getD k 0 = d → m ≤ k)
  | [], b, hb => by
    rcases hb with rfl | hb
    · exact .inl ⟨rfl, rfl, by simp⟩
    · exact .inr ⟨b.toNat, by simp [bestN]; omega, .inl (by omega), fun _ => by omega, by simp⟩
  | k :: l, b, hb => by
    rw [bestN]
    by_cases hc : F.getD k 0 = d ∧ (b < 0 ∨ (k : Int) < b)
    · rw [if_pos hc]
      rcases bestN_spec l (k : Int) (.inr (by omega)) with ⟨_, h2, _⟩ | ⟨m, h1, h2, h3, h4⟩
      · omega
      · have h3 := h3 (by omega)
        refine .inr ⟨m, h1, .inr ?_, fun _ => ?_, ?_⟩
        · rcases h2 with h2 | h2
          · have : m = k := by omega
            subst this; exact ⟨by simp, hc.1⟩
          · exact ⟨by simp [h2.1], h2.2⟩
        · rcases hc.2 with h | h <;> omega
        · intro x hx hxd
          rcases List.mem_cons.1 hx with rfl | hx
          · omega
          · exact h4 x hx hxd
    · rw [if_neg hc]
      rcases bestN_spec l b hb with ⟨h1, h2, h3⟩ | ⟨m, h1, h2, h3, h4⟩
      · refine .inl ⟨h1, h2, ?_⟩
        intro x hx
        rcases List.mem_cons.1 hx with rfl | hx
        · intro e; exact hc ⟨e, .inl (by omega)⟩
        · exact h3 x hx
      · refine .inr ⟨m, h1, ?_, h3, ?_⟩
        · rcases h2 with h2 | h2
          · exact .inl h2
          · exact .inr ⟨by simp [h2.1], h2.2⟩
        · intro x hx hxd
          rcases List.mem_cons.1 hx with rfl | hx
          · have hb0 : ¬(b < 0 ∨ (x : Int) < b) := fun h => hc ⟨hxd, h⟩
            have := h3 (by omega)
            omega
          · exact h4 x hx hxd
noncomputable def wayF (g : Gr) (F : List Int) : Nat → Nat → List Nat
  | 0, i => [i]
  | 1, i => [i]
  | d + 2, i => i :: wayF g F (d + 1) (bestN F (d + 1) (nx g i) (-1)).toNat
def IsWay (g : Gr) (t : Nat) : Nat → List Nat → Prop
  | d, [i] => d = 1 ∧ Ld g t 1 i
  | d, i :: k :: l => Ld g t d i ∧ k ∈ nx g i ∧ 2 ≤ d ∧ IsWay g t (d - 1) (k :: l)
  | _, [] => False
theorem IsWay.len {g : Gr} {t : Nat} : ∀ {d : Nat} {l : List Nat}, IsWay g t d l → l.length = d
  | d, [i], h => by simp only[IsWay] at h; simp [h.1]
  | d, i :: k :: l, h => by
    simp only[IsWay] at h
    have := IsWay.len h.2.2.2
    simp only[List.length_cons] at this ⊢
    omega
  | _, [], h => by simp [IsWay] at h
theorem IsWay.ld {g : Gr} {t : Nat} : ∀ {d : Nat} {l : List Nat}, IsWay g t d l → ∀ i (hi : i < l.length), Ld g t (d - i) l[i]
  | d, [i], h, j, hj => by
    simp only[IsWay] at h
    obtain rfl : j = 0 := by simp at hj; omega
    simpa [h.1] using h.2
  | d, i :: k :: l, h, 0, hj => by simp only[IsWay] at h; simpa using h.1
  | d, i :: k :: l, h, j + 1, hj => by
    simp only[IsWay] at h
    have := IsWay.ld h.2.2.2 j (by simpa using hj)
    rw [show d - (j + 1) = d - 1 - j by omega]
    simpa using this
  | _, [], h, _, _ => by simp [IsWay] at h
theorem IsWay.inj {g : Gr} {t d : Nat} {l : List Nat} (h : IsWay g t d l) {i j : Nat} (hi : i < l.length) (hj : j < l.length) (e : l[i] = l[j]) : i = j := by
  have h1 := h.ld i hi
  have h2 := h.ld j hj
  rw [e] at h1
  have := h1.uniq h2
  have := h.len
  omega
theorem pigeon : ∀ (n : Nat) (l : List Nat), l.Nodup → (∀ x ∈ l, x < n) → l.length ≤ n
  | 0, [], _, _ => by simp
  | 0, x :: l, _, h => absurd (h x (by simp)) (by omega)
  | n + 1, l, hn, h => by
    by_cases hm : n ∈ l
    · have := pigeon n (l.erase n) (hn.erase n) (fun x hx => by
        have h1 := h x (List.mem_of_mem_erase hx)
        have : x ≠ n := fun e => by subst e; exact hn.not_mem_erase hx
        omega)
      rw [List.length_erase_of_mem hm] at this
      omega
    · have := pigeon n l hn (fun x hx => by
        have h1 := h x hx
        have : x ≠ n := fun e => hm (e ▸ hx)
        omega)
      omega
theorem nodup_inj {l : List Nat} (h : ∀ i j (hi : i < l.length) (hj : j < l.length), l[i] = l[j] → i = j) : l.Nodup := by
  rw [List.nodup_iff_pairwise_ne, List.pairwise_iff_getElem]
  intro i j hi hj hij e
  have := h i j hi hj e
  omega
theorem IsWay.short {g : Gr} {t d : Nat} {l : List Nat} (h : IsWay g t d l) : d ≤ g.length := by
  rw [← h.len]
  refine pigeon _ l (nodup_inj fun i j hi hj e => h.inj hi hj e) fun x hx => ?_
  obtain ⟨i, hi, rfl⟩ := List.getElem_of_mem hx
  exact (h.ld i hi).1.lt
theorem Ld.way {g : Gr} {t : Nat} : ∀ {d i : Nat}, Ld g t d i → ∃ l, IsWay g t d (i :: l)
  | 0, i, h => absurd h.1.pos (by omega)
  | 1, i, h => ⟨[], rfl, h⟩
  | d + 2, i, h => by
    obtain ⟨k, hk, hkd⟩ := h.next
    obtain ⟨l, hl⟩ := hkd.way
    exact ⟨k :: l, h, hk, by omega, hl⟩
theorem Ld.short {g : Gr} {t d i : Nat} (h : Ld g t d i) : d ≤ g.length := h.way.elim fun _ h => h.short
def rdyB (g : Gr) (out : List Nat) (i : Nat) : Bool := !out.contains i && (nx g i).all (fun k => out.contains k)
def pick (g : Gr) (out : List Nat) : Option Nat := (List.range g.length).find? (rdyB g out)
end Go.Proofs.Ytpdajkbfemcdlaa
namespace Go.Proofs.Ytpdajkbfemcdlaa
open Go.Ge
theorem aw_cut {P : Program} {a : ACode} {K Pm : AState → Prop} {Q : AExit → AState → Prop} {S : AState} (h : aw (ACalls P) a (AExit.then Pm Q) S) (hk : ∀ S', Pm S' → K S') : aw (ACalls P) a (AExit.then K Q) S :=
  aw_mono (CMono_ACalls P) a (fun e S' h => by cases e <;> first | exact hk _ h | exact h) h
theorem condG_cut {P : Program} {v : AVal} {a b : ACode} {K : AState → Prop} {Q : AExit → AState → Prop} {S : AState} (Pm : AState → Prop) (h : condG (ACalls P) v a b (AExit.then Pm Q) S) (hk : ∀ S', Pm S' → K S') : condG (ACalls P) v a b (AExit.then K Q) S := by
  unfold condG at h ⊢
  cases v <;> first | exact ⟨fun e => aw_cut (h.1 e) hk, fun e => aw_cut (h.2 e) hk⟩ | exact h
theorem aopsG_cut {P : Program} {d : Option Nat} {op : AOp} {want : Bool} {v : AVal} {os : List AO} {c : ACode} {K : AState → Prop} {Q Q' : AExit → AState → Prop} {S : AState} (Pm : AState → Prop)
    (h : aopsG (ACalls P) d op want v os S (AExit.then (aw (ACalls P) c (AExit.then Pm Q)) Q' .normal)) (hk : ∀ S', Pm S' → K S') : aopsG (ACalls P) d op want v os S (AExit.then (aw (ACalls P) c (AExit.then K Q)) Q' .normal) := by
  have key : ∀ os S, aops (ACalls P) os S (AExit.then (aw (ACalls P) c (AExit.then Pm Q)) Q' .normal) → aops (ACalls P) os S (AExit.then (aw (ACalls P) c (AExit.then K Q)) Q' .normal) :=
    fun os S h => aops_mono (CMono_ACalls P) os (fun S' h => aw_cut h hk) h
  unfold aopsG at h ⊢
  split at h
  · exact ⟨fun e => key _ _ (h.1 e), fun e => key _ _ (h.2 e)⟩
  · exact key _ _ h
  · exact h.elim
section
variable {α : Type} {f : α → List AVal} {sz : Nat}
theorem flatF_len (hf : ∀ a, (f a).length = sz) (l : List α) : (l.flatMap f).length = l.length * sz := by
  induction l with
  | nil => simp
  | cons a l ih => rw [List.flatMap_cons, List.length_append, ih, hf, List.length_cons, Nat.add_mul]; omega
theorem flatF_split {l : List α} {j : Nat} (h : j < l.length) : l.flatMap f = (l.take j).flatMap f ++ (f l[j] ++ (l.drop (j + 1)).flatMap f) := by
  conv => lhs; rw [← List.take_append_drop j l, List.drop_eq_getElem_cons h]
  rw [List.flatMap_append, List.flatMap_cons]
theorem flatF_get (hf : ∀ a, (f a).length = sz) {l : List α} {j : Nat} (h : j < l.length) {pre rest : List AVal} {off k n : Nat} (hp : pre.length = off) (hk : k + n ≤ sz) :
    ((pre ++ l.flatMap f ++ rest).drop (off + j * sz + k)).take n = ((f l[j]).drop k).take n := by
  have hl : (pre ++ (l.take j).flatMap f).length = off + j * sz := by
    rw [List.length_append, flatF_len hf, List.length_take, hp]; congr 2; omega
  have e : pre ++ l.flatMap f ++ rest = (pre ++ (l.take j).flatMap f) ++ (f l[j] ++ ((l.drop (j + 1)).flatMap f ++ rest)) := by
    rw [flatF_split h]; simp only[List.append_assoc]
  rw [e, ← hl, ← List.drop_drop, List.drop_left, List.drop_append_of_le_length (by rw [hf]; omega), List.take_append_of_le_length (by rw [List.length_drop, hf]; omega)]
theorem flatF_set (hf : ∀ a, (f a).length = sz) {l : List α} {j : Nat} (h : j < l.length) {pre rest : List AVal} {off k : Nat} (hp : pre.length = off) {vs : List AVal} {x : α} (hk : k + vs.length ≤ sz) (hx : fillV (f l[j]) k vs = f x) :
    fillV (pre ++ l.flatMap f ++ rest) (off + j * sz + k) vs = pre ++ (l.set j x).flatMap f ++ rest := by
  have hl : (pre ++ (l.take j).flatMap f).length = off + j * sz := by
    rw [List.length_append, flatF_len hf, List.length_take, hp]; congr 2; omega
  have e : pre ++ l.flatMap f ++ rest = (pre ++ (l.take j).flatMap f) ++ (f l[j] ++ ((l.drop (j + 1)).flatMap f ++ rest)) := by
    rw [flatF_split h]; simp only[List.append_assoc]
  have e2 : pre ++ (l.set j x).flatMap f ++ rest = (pre ++ (l.take j).flatMap f) ++ (f x ++ ((l.drop (j + 1)).flatMap f ++ rest)) := by
    rw [List.set_eq_take_append_cons_drop, if_pos h, List.flatMap_append, List.flatMap_cons]; simp only[List.append_assoc]
  rw [e, e2, ← hx]
  generalize (pre ++ (l.take j).flatMap f) = A at *
  generalize ((l.drop (j + 1)).flatMap f ++ rest) = B
  have h3 := hf l[j]
  unfold fillV
  rw [← hl, List.take_length_add_append, List.take_append_of_le_length (by omega), show A.length + k + vs.length = A.length + (k + vs.length) by omega, List.drop_length_add_append, List.drop_append_of_le_length (by omega)]
  simp only[List.append_assoc]
def SlR (f : α → List AVal) (sz : Nat) (h : List HObj) (id : Nat) (w : AVal) (L : List α) : Prop :=
  w = .lst .nil [] ∧ L = [] ∨ ∃ off cap pre rest, w = .ref id off L.length cap ∧ L.length ≤ cap ∧ h[id]? = some (.cells (pre ++ L.flatMap f ++ rest)) ∧ pre.length = off ∧ rest.length = (cap - L.length) * sz
theorem SlR.frame {h h' : List HObj} {id : Nat} {w : AVal} {L : List α} (hs : SlR f sz h id w L) (he : ∀ o, h[id]? = some o → h'[id]? = some o) : SlR f sz h' id w L := by
  rcases hs with hs | ⟨off, cap, pre, rest, h1, h2, h3, h4, h5⟩
  · exact .inl hs
  · exact .inr ⟨off, cap, pre, rest, h1, h2, he _ h3, h4, h5⟩
theorem SlR.push (hf : ∀ a, (f a).length = sz) (hst : ∀ a, ∀ c ∈ f a, storC c = true ∧ Ge.rdc c = c) {C : CallS} {r : AOpn → AVal} {hp : List HObj} {K : AVal → List HObj → Prop} {bytes : Nat} {x y : AOpn} {id : Nat} {w v : AVal} {o : Own} {L : List α} {a : α}
    (hw : SlR f sz hp id w L) (hx : r x = w) (hy : r y = .lst o [v]) (hv : v.cells = f a) (hvw : v.width = sz) (h1 : (L.length + 1) * bytes ≤ 140737488355328) (h2 : L.length + 1 ≤ 140737488355328)
    (hK : ∀ w' h' id', SlR f sz h' id' w' (L ++ [a]) → (Fr [] hp h' ∧ id' = hp.length ∨ Fr [id] hp h' ∧ id' = id ∧ w ≠ .lst .nil []) → K w' h') : hstep C r hp (.appendR sz bytes x y) K := by
  have hm : ([v].flatMap AVal.cells).map Ge.rdc = f a := by
    rw [List.flatMap_cons, List.flatMap_nil, List.append_nil, hv]
    conv => rhs; rw [← List.map_id (f a)]
    exact List.map_congr_left fun c hc => (hst a c hc).2
  have hfa := hf a
  have he : (L ++ [a]).flatMap f = L.flatMap f ++ f a := by simp
  have hnew : ∀ cap, L.length + 1 ≤ cap → K (.ref hp.length 0 (L.length + 1) cap) (hp ++ [.cells (L.flatMap f ++ f a ++ List.replicate ((cap - (L.length + 1)) * sz) .junk)]) := by
    intro cap hc
    refine hK _ _ hp.length (.inr ⟨0, cap, [], List.replicate ((cap - (L.length + 1)) * sz) .junk, by simp, by simp; omega, ?_, rfl, by simp⟩) (.inl ⟨Fr.app, rfl⟩)
    rw [List.getElem?_append_right (Nat.le_refl _), Nat.sub_self, he]; simp
  simp only[hstep,srcH,srcW,hx,hy,hm]
  refine ⟨by simpa using hvw, ?_⟩
  rcases hw with ⟨rfl, rfl⟩ | ⟨off, cap, pre, rest, rfl, hc, hh, hpre, hrest⟩
  · simp only[List.length_singleton]
    refine ⟨by simpa using h1, by omega, fun e => by omega, fun _ => ?_⟩
    intro cap hc
    have := hnew cap (by simpa using hc)
    simpa using this
  · simp only[List.length_singleton]
    have hl := flatF_len hf L
    refine ⟨h1, h2, fun e => by omega, fun _ hlt => ?_, fun _ hge => ?_⟩
    · simp only[hh]
      have hmul : L.length * sz + (cap - L.length) * sz = cap * sz := by rw [← Nat.add_mul]; congr 1; omega
      have hone : (cap - L.length) * sz = (cap - (L.length + 1)) * sz + sz := by
        have : cap - L.length = (cap - (L.length + 1)) + 1 := by omega
        rw [this, Nat.add_mul]; omega
      refine ⟨by simp only[List.length_append]; omega, ?_⟩
      refine hK _ _ id (.inr ⟨off, cap, pre, rest.drop sz, by simp, by simp; omega, ?_, hpre, by rw [List.length_drop, List.length_append, hrest, hone]; simp⟩) (.inr ⟨Fr.set (by simp), rfl, by simp⟩)
      have hlt' := lt_of_get hh
      rw [List.getElem?_set_self hlt']
      congr 2
      unfold fillV
      have e1 : (pre ++ L.flatMap f).length = off + L.length * sz := by rw [List.length_append, hl, hpre]
      rw [hfa, ← e1, List.take_left, he, List.drop_length_add_append]
      simp only[List.append_assoc]
    · have hsrc : srcH sz hp (.ref id off L.length cap) = some (L.length, L.flatMap f) := by
        simp only[srcH]
        split
        · rename_i e
          have : L = [] := List.eq_nil_of_length_eq_zero e
          subst this; rfl
        · rw [hh]
          simp only[]
          rw [if_pos (by simp only[List.length_append,hl,hpre]; omega)]
          congr 2
          have e1 : pre.length = off := hpre
          rw [List.append_assoc, ← e1, List.drop_left, ← hl, List.take_left]
          conv => rhs; rw [← List.map_id (L.flatMap f)]
          refine List.map_congr_left fun c hc => ?_
          obtain ⟨x, _, hx⟩ := List.mem_flatMap.1 hc
          exact (hst x c hx).2
      simp only[srcH] at hsrc
      rw [hsrc]
      simp only[]
      intro cap' hc'
      exact hnew cap' hc'
theorem SlR.cases {h : List HObj} {id : Nat} {w : AVal} {L : List α} (hs : SlR f sz h id w L) : w = .lst .nil [] ∧ L = [] ∨ ∃ off cap, w = .ref id off L.length cap ∧ L.length ≤ cap := by
  rcases hs with hs | ⟨off', cap', pre, rest, e, hc, hh, hpre, hrest⟩
  · exact .inl hs
  · exact .inr ⟨_, _, e, hc⟩
theorem SlR.get (hf : ∀ a, (f a).length = sz) {h : List HObj} {id off len cap : Nat} {L : List α} (hs : SlR f sz h id (.ref id off len cap) L) (h0 : 0 < L.length) : ∃ cs, h[id]? = some (.cells cs) ∧ off + len * sz ≤ cs.length ∧ len = L.length ∧
    (∀ j (hj : j < L.length) k n, k + n ≤ sz → (cs.drop (off + j * sz + k)).take n = ((f L[j]).drop k).take n) ∧
    (∀ j (hj : j < L.length) k vs x, k + vs.length ≤ sz → fillV (f L[j]) k vs = f x → ∀ h', h'[id]? = some (.cells (fillV cs (off + j * sz + k) vs)) → SlR f sz h' id (.ref id off len cap) (L.set j x)) := by
  rcases hs with ⟨e, _⟩ | ⟨off', cap', pre, rest, e, hc, hh, hpre, hrest⟩
  · cases e
  · cases e
    refine ⟨_, hh, by simp only[List.length_append,flatF_len hf,hpre]; omega, rfl, ?_, ?_⟩
    · intro j hj k n hk
      exact flatF_get hf hj hpre hk
    · intro j hj k vs x hk hx h' hh'
      refine .inr ⟨off, cap, pre, rest, by simp, by simpa using hc, ?_, hpre, by simpa using hrest⟩
      rw [hh', flatF_set hf hj hpre hk hx]
theorem setH_same {h : List HObj} {id : Nat} {x : HObj} (e : h[id]? = some x) : h.set id x = h := by
  obtain ⟨hl, e⟩ := List.getElem?_eq_some_iff.1 e
  rw [← e]; exact List.set_getElem_self _
theorem getD_of_take {a b : List AVal} {i k : Nat} (h : (a.drop i).take 1 = (b.drop k).take 1) : a.getD i .junk = b.getD k .junk := by
  have := congrArg (fun l : List AVal => l[0]?) h
  simp only[List.getElem?_take,List.getElem?_drop] at this
  simp at this
  rw [List.getD_eq_getElem?_getD, List.getD_eq_getElem?_getD, this]
end
end Go.Proofs.Ytpdajkbfemcdlaa
namespace Go.Proofs.Ytpdajkbfemcdlaa
open Go.Ge
def C.slices_Grow_Cell : ACode :=
  .seq (.region [.o 4 (.move false (.c (.lst .nil [])))]) (
  .seq (.seq (.region [.m 5 1,.o 6 (.bin .lss (.t 5) (.c (.int .i64 0)))]) (
  .cond (.t 6) (.region [.o 7 (.refuse),⟨none, .refuse, none⟩]) (.skip))) (
  .seq (.seq (.region [.m 8 1,.m 9 0,.o 10 (.capR (.t 9)),.m 11 0,.o 12 (.len (.t 11)),.o 13 (.bin .sub (.t 10) (.t 12)),.o 14 (.bin .sub (.t 8) (.t 13)),.m 1 14]) (
  .seq (.region [.m 15 1,.o 16 (.bin .gtr (.t 15) (.c (.int .i64 0)))]) (
  .cond (.t 16) (.region [.m 17 0,.m 18 0,.o 19 (.capR (.t 18)),.o 20 (.slnil (.t 17) (.t 19)),.m 21 1,.o 22 (.hop (.appendZ 2 16 (.t 20) (.t 21))),.m 23 0,.o 24 (.len (.t 23)),.o 25 (.slice 2 (.t 22) none (some (.t 24)) none),.m 0 25]) (.skip)))) (
  .seq (.region [.m 26 0,.m 4 26]) (
  .own 4 true 2 (.ret)))))
def R.slices_Grow_Cell : List ARes := [.t 4]
set_option maxRecDepth 100000 in
theorem K.slices_Grow_Cell : ckFun Try.prog Try.f229 C.slices_Grow_Cell R.slices_Grow_Cell = true := by kernel_rfl
def C.slices_Concat_Cell : ACode :=
  .seq (.region [.o 2 (.move false (.c (.lst .nil [])))]) (
  .seq (.region [.o 3 (.move false (.c (.int .i64 0)))]) (
  .seq (.seq (.region [.m 9 0,.o 10 (.len (.t 9)),.o 11 (.move false (.c (.int .i64 0)))]) (
  .block 0 (.loop (.seq (.region [.o 12 (.bin .lss (.t 11) (.t 10))]) (
  .seq (.cond (.t 12) (.skip) (.exit 0)) (
  .seq (.block 1 (.seq (.region [.o 13 (.iaddr 1 (.t 9) (.t 11)),.o 14 (.load 2 false 1 (.t 13)),.m 5 14]) (
  .seq (.region [.m 15 3,.m 16 5,.o 17 (.len (.t 16)),.o 18 (.bin .add (.t 15) (.t 17)),.m 3 18]) (
  .seq (.region [.m 19 3,.o 20 (.bin .lss (.t 19) (.c (.int .i64 0)))]) (
  .cond (.t 20) (.region [.o 21 (.refuse),⟨none, .refuse, none⟩]) (.skip)))))) (
  .region [.o 22 (.bin .add (.t 11) (.c (.int .i64 1))),.m 11 22]))))))) (
  .seq (.region [.m 23 3,.o 24 (.call true F.slices_Grow_Cell [(.c (.lst .nil [])), (.t 23)]),.o 6 (.move true (.t 24))]) (
  .seq (.seq (.thaw 6 (.region [.m 25 0,.o 26 (.len (.t 25)),.o 27 (.move false (.c (.int .i64 0)))])) (
  .block 2 (.loop (.seq (.region [.o 28 (.bin .lss (.t 27) (.t 26))]) (
  .seq (.cond (.t 28) (.skip) (.exit 2)) (
  .seq (.block 3 (.seq (.region [.o 29 (.iaddr 1 (.t 25) (.t 27)),.o 30 (.load 2 false 1 (.t 29)),.m 8 30]) (
  .region [.o 31 (.move true (.t 6)),.m 32 8,.o 33 (.hop (.appendR 2 16 (.t 31) (.t 32))),.o 6 (.move true (.t 33))]))) (
  .region [.o 34 (.bin .add (.t 27) (.c (.int .i64 1))),.m 27 34]))))))) (
  .seq (.region [.o 35 (.move true (.t 6)),.o 2 (.move true (.t 35))]) (
  .ret))))))
def R.slices_Concat_Cell : List ARes := [.t 2]
set_option maxRecDepth 100000 in
theorem K.slices_Concat_Cell : ckFun Try.prog Try.f205 C.slices_Concat_Cell R.slices_Concat_Cell = true := by kernel_rfl
def C.grid_sorted : ACode :=
  .seq (.region [.o 2 (.move false (.c (.lst .nil [])))]) (
  .seq (.region [.m 4 0,.o 5 (.call true F.slices_Concat_Cell [(.t 4)]),.m 3 5]) (
  .seq (.region [.m 6 3,.o 7 (.call true F.slices_SortFunc_Cell [(.t 6), (.c (.func 198 []))])]) (
  .seq (.region [.m 8 3,.o 9 (.call true F.slices_Compact_Cell [(.t 8)]),.o 2 (.move true (.t 9))]) (
  .ret))))
def R.grid_sorted : List ARes := [.t 2]
set_option maxRecDepth 100000 in
theorem K.grid_sorted : ckFun Try.prog Try.f182 C.grid_sorted R.grid_sorted = true := by kernel_rfl
def C.grid_sortedA : ACode :=
  .seq (.region [.o 2 (.move false (.c (.lst .nil [])))]) (
  .seq (.region [.m 4 0,.o 5 (.call true F.slices_Concat_Cell [(.t 4)]),.m 3 5]) (
  .seq (.region [.m 6 3,.o 7 (.call true F.slices_SortFunc_Cell [(.t 6), (.c (.func 198 []))])]) (
  .seq (.region [.m 8 3,.o 9 (.call true F.slices_Compact_Cell [(.t 8)]),.m 2 9]) (
  .own 2 true 2 (.grab 2 (.ret))))))
def R.grid_sortedA : List ARes := [.t 2]
set_option maxRecDepth 100000 in
theorem K.grid_sortedA : ckFun Try.prog Try.f182 C.grid_sortedA R.grid_sortedA = true := by kernel_rfl
def C.slices_Compact_Cell : ACode :=
  .seq (.region [.o 2 (.move false (.c (.lst .nil [])))]) (
  .seq (.seq (.region [.m 6 0,.o 7 (.len (.t 6)),.o 8 (.bin .lss (.t 7) (.c (.int .i64 2)))]) (
  .cond (.t 8) (.seq (.region [.o 9 (.move true (.t 0)),.o 2 (.move true (.t 9))]) (
  .ret)) (.skip))) (
  .seq (.seq (.region [.o 3 (.move false (.c (.int .i64 1)))]) (
  .block 0 (.loop (.seq (.seq (.region [.m 10 3,.m 11 0,.o 12 (.len (.t 11)),.o 13 (.bin .lss (.t 10) (.t 12))]) (
  .cond (.t 13) (.skip) (.exit 0))) (
  .seq (.block 1 (.seq (.drawn [0, 1, 2, 3, 4, 5, 6, 7, 8, 9] [0, 0, 3, 7, 0, 0, 32, 112, 240, 511] [.m 16 0,.m 17 3,.o 18 (.iaddr 2 (.t 16) (.t 17)),.o 19 (.load 2 true 2 (.t 18)),.m 20 0,.m 21 3,.o 22 (.bin .sub (.t 21) (.c (.int .i64 1))),.o 23 (.iaddr 2 (.t 20) (.t 22)),.o 24 (.load 2 true 2 (.t 23)),.o 25 (.eqs false [.i .i64, .i .i64] (.t 19) (.t 24))]) (
  .cond (.t 25) (.seq (.region [.m 26 0,.m 27 3,.o 28 (.slice 2 (.t 26) (some (.t 27)) none none),.m 4 28]) (
  .seq (.seq (.region [.o 5 (.move false (.c (.int .i64 1)))]) (
  .block 2 (.loop (.seq (.seq (.region [.m 29 5,.m 30 4,.o 31 (.len (.t 30)),.o 32 (.bin .lss (.t 29) (.t 31))]) (
  .cond (.t 32) (.skip) (.exit 2))) (
  .seq (.block 3 (.seq (.drawn [0, 1, 2, 3, 4, 5, 6, 7, 8, 9] [0, 0, 3, 7, 0, 0, 32, 112, 240, 511] [.m 35 4,.m 36 5,.o 37 (.iaddr 2 (.t 35) (.t 36)),.o 38 (.load 2 true 2 (.t 37)),.m 39 4,.m 40 5,.o 41 (.bin .sub (.t 40) (.c (.int .i64 1))),.o 42 (.iaddr 2 (.t 39) (.t 41)),.o 43 (.load 2 true 2 (.t 42)),.o 44 (.eqs true [.i .i64, .i .i64] (.t 38) (.t 43))]) (
  .cond (.t 44) (.seq (.region [.m 45 0,.m 46 3,.m 47 4,.m 48 5,.o 49 (.iaddr 2 (.t 47) (.t 48)),.o 50 (.load 2 true 2 (.t 49)),.o 51 (.iaddr 2 (.t 45) (.t 46)),⟨none, .store 2 (.t 51) (.t 50), none⟩]) (
  .region [.m 52 3,.o 53 (.bin .add (.t 52) (.c (.int .i64 1))),.m 3 53])) (.skip)))) (
  .region [.m 33 5,.o 34 (.bin .add (.t 33) (.c (.int .i64 1))),.m 5 34])))))) (
  .seq (.region [.m 54 0,.m 55 3,.o 56 (.slice 2 (.t 54) (some (.t 55)) none none),⟨none, .hop (.clearR 2 (.agg [(.int .i64 0), (.int .i64 0)]) (.t 56)), none⟩]) (
  .seq (.region [.m 57 0,.m 58 3,.o 59 (.slice 2 (.t 57) none (some (.t 58)) none),.o 2 (.move true (.t 59))]) (
  .ret))))) (.skip)))) (
  .region [.m 14 3,.o 15 (.bin .add (.t 14) (.c (.int .i64 1))),.m 3 15])))))) (
  .seq (.region [.o 60 (.move true (.t 0)),.o 2 (.move true (.t 60))]) (
  .ret))))
def R.slices_Compact_Cell : List ARes := [.t 2]
set_option maxRecDepth 100000 in
theorem K.slices_Compact_Cell : ckFun Try.prog Try.f206 C.slices_Compact_Cell R.slices_Compact_Cell = true := by kernel_rfl
def C.slices_DeleteFunc_Cell : ACode :=
  .seq (.region [.o 4 (.move false (.c (.lst .nil [])))]) (
  .seq (.region [.m 8 0,.m 9 1,.o 10 (.call true F.slices_IndexFunc_Cell [(.t 8), (.t 9)]),.m 5 10]) (
  .seq (.seq (.region [.m 11 5,.o 12 (.bin .eql (.t 11) (.c (.int .i64 (-1))))]) (
  .cond (.t 12) (.seq (.region [.o 13 (.move true (.t 0)),.o 4 (.move true (.t 13))]) (
  .ret)) (.skip))) (
  .seq (.seq (.region [.m 14 5,.o 15 (.bin .add (.t 14) (.c (.int .i64 1))),.m 6 15]) (
  .block 0 (.loop (.seq (.seq (.region [.m 16 6,.m 17 0,.o 18 (.len (.t 17)),.o 19 (.bin .lss (.t 16) (.t 18))]) (
  .cond (.t 19) (.skip) (.exit 0))) (
  .seq (.block 1 (.seq (.region [.m 22 0,.m 23 6,.o 24 (.iaddr 2 (.t 22) (.t 23)),.o 25 (.load 2 true 2 (.t 24)),.o 7 (.alloc false [(.int .i64 0), (.int .i64 0)]),⟨none, .store 2 (.t 7) (.t 25), none⟩]) (
  .seq (.region [.m 26 1,.o 27 (.load 2 true 2 (.t 7)),.o 28 (.hop (.callvq (.t 26) [(.t 27)])),.o 29 (.un .not (.t 28))]) (
  .cond (.t 29) (.seq (.region [.m 30 0,.m 31 5,.o 32 (.load 2 true 2 (.t 7)),.o 33 (.iaddr 2 (.t 30) (.t 31)),⟨none, .store 2 (.t 33) (.t 32), none⟩]) (
  .region [.m 34 5,.o 35 (.bin .add (.t 34) (.c (.int .i64 1))),.m 5 35])) (.skip))))) (
  .region [.m 20 6,.o 21 (.bin .add (.t 20) (.c (.int .i64 1))),.m 6 21])))))) (
  .seq (.region [.m 36 0,.m 37 5,.o 38 (.slice 2 (.t 36) (some (.t 37)) none none),⟨none, .hop (.clearR 2 (.agg [(.int .i64 0), (.int .i64 0)]) (.t 38)), none⟩]) (
  .seq (.region [.m 39 0,.m 40 5,.o 41 (.slice 2 (.t 39) none (some (.t 40)) none),.o 4 (.move true (.t 41))]) (
  .ret))))))
def R.slices_DeleteFunc_Cell : List ARes := [.t 4]
set_option maxRecDepth 100000 in
theorem K.slices_DeleteFunc_Cell : ckFun Try.prog Try.f183 C.slices_DeleteFunc_Cell R.slices_DeleteFunc_Cell = true := by kernel_rfl
def C.slices_IndexFunc_Cell : ACode :=
  .seq (.region [.o 4 (.move false (.c (.int .i64 0)))]) (
  .seq (.seq (.region [.m 6 0,.o 7 (.len (.t 6)),.o 8 (.move false (.c (.int .i64 0)))]) (
  .block 0 (.loop (.seq (.region [.o 9 (.bin .lss (.t 8) (.t 7))]) (
  .seq (.cond (.t 9) (.skip) (.exit 0)) (
  .seq (.block 1 (.seq (.region [.m 10 8,.m 5 10]) (
  .seq (.region [.m 11 1,.m 12 0,.m 13 5,.o 14 (.iaddr 2 (.t 12) (.t 13)),.o 15 (.load 2 true 2 (.t 14)),.o 16 (.hop (.callvq (.t 11) [(.t 15)]))]) (
  .cond (.t 16) (.seq (.region [.m 17 5,.m 4 17]) (
  .ret)) (.skip))))) (
  .region [.o 18 (.bin .add (.t 8) (.c (.int .i64 1))),.m 8 18]))))))) (
  .seq (.region [.o 4 (.move false (.c (.int .i64 (-1))))]) (
  .ret)))
def R.slices_IndexFunc_Cell : List ARes := [.t 4]
set_option maxRecDepth 100000 in
theorem K.slices_IndexFunc_Cell : ckFun Try.prog Try.f207 C.slices_IndexFunc_Cell R.slices_IndexFunc_Cell = true := by kernel_rfl
def C.slices_BinarySearchFunc_Cell : ACode :=
  .seq (.region [.o 4 (.bx false (.t 1)),.o 6 (.move false (.c (.int .i64 0))),.o 7 (.move false (.c (.bool false)))]) (
  .seq (.region [.m 12 0,.o 13 (.len (.t 12)),.m 8 13]) (
  .seq (.region [.m 14 8,.o 9 (.move false (.c (.int .i64 0))),.m 10 14]) (
  .seq (.block 0 (.loop (.seq (.seq (.region [.m 15 9,.m 16 10,.o 17 (.bin .lss (.t 15) (.t 16))]) (
  .cond (.t 17) (.skip) (.exit 0))) (
  .block 1 (.seq (.region [.m 18 9,.m 19 10,.o 20 (.bin .add (.t 18) (.t 19)),.o 21 (.conv .u64 (.t 20)),.o 22 (.bin .shr (.t 21) (.c (.int .u64 1))),.o 23 (.conv .i64 (.t 22)),.m 11 23]) (
  .seq (.drawn [0, 1, 2, 3, 4, 5, 6, 7] [0, 0, 0, 6, 14, 0, 63, 127] [.m 24 2,.m 25 0,.m 26 11,.o 27 (.iaddr 2 (.t 25) (.t 26)),.o 28 (.load 0 true 2 (.t 27)),.o 29 (.load 1 true 2 (.t 4)),.o 30 (.hop (.callvq (.t 24) [(.t 28), (.t 29)])),.o 31 (.bin .lss (.t 30) (.c (.int .i64 0)))]) (
  .cond (.t 31) (.region [.m 32 11,.o 33 (.bin .add (.t 32) (.c (.int .i64 1))),.m 9 33]) (.region [.m 34 11,.m 10 34])))))))) (
  .seq (.drawn [0, 1, 2, 3, 4, 5, 6, 7, 8, 9, 10, 11, 12, 13, 14, 15] [0, 0, 0, 6, 14, 30, 30, 30, 222, 478, 30, 2046, 4094, 8190, 4095, 32767] [.m 35 9,.m 36 9,.m 37 8,.o 38 (.bin .lss (.t 36) (.t 37)),.m 39 38,.g 40 (.move false (.t 2)) 39 true,.g 41 (.move false (.t 0)) 39 true,.g 42 (.move false (.t 9)) 39 true,.g 43 (.iaddr 2 (.t 41) (.t 42)) 39 true,.g 44 (.load 0 true 2 (.t 43)) 39 true,.g 45 (.load 1 true 2 (.t 4)) 39 true,.g 46 (.hop (.callvq (.t 40) [(.t 44), (.t 45)])) 39 true,.g 47 (.bin .eql (.t 46) (.c (.int .i64 0))) 39 true,.o 48 (.pick (.t 39) (.t 47) (.c (.bool false))),.m 6 35,.m 7 48]) (
  .ret)))))
def R.slices_BinarySearchFunc_Cell : List ARes := [.t 6, .t 7]
set_option maxRecDepth 100000 in
theorem K.slices_BinarySearchFunc_Cell : ckFun Try.prog Try.f208 C.slices_BinarySearchFunc_Cell R.slices_BinarySearchFunc_Cell = true := by kernel_rfl
def C.slices_ContainsFunc_Cell : ACode :=
  .seq (.region [.o 4 (.move false (.c (.bool false)))]) (
  .seq (.region [.m 5 0,.m 6 1,.o 7 (.call true F.slices_IndexFunc_Cell [(.t 5), (.t 6)]),.o 8 (.bin .geq (.t 7) (.c (.int .i64 0))),.m 4 8]) (
  .ret))
def R.slices_ContainsFunc_Cell : List ARes := [.t 4]
set_option maxRecDepth 100000 in
theorem K.slices_ContainsFunc_Cell : ckFun Try.prog Try.f195 C.slices_ContainsFunc_Cell R.slices_ContainsFunc_Cell = true := by kernel_rfl
def C.grid_has : ACode :=
  .seq (.region [.o 3 (.bx false (.t 1)),.o 4 (.move false (.c (.bool false)))]) (
  .seq (.region [.m 8 0,.o 9 (.load 2 true 2 (.t 3)),.o 10 (.call true F.slices_BinarySearchFunc_Cell [(.t 8), (.t 9), (.c (.func 198 []))]),.m 7 10,.o 11 (.ext 0 (.t 7)),.o 12 (.ext 1 (.t 7)),.m 5 11,.m 6 12]) (
  .seq (.region [.m 13 6,.m 4 13]) (
  .ret)))
def R.grid_has : List ARes := [.t 4]
set_option maxRecDepth 100000 in
theorem K.grid_has : ckFun Try.prog Try.f185 C.grid_has R.grid_has = true := by kernel_rfl
def C.grid_Join : ACode :=
  .seq (.region [.o 4 (.move false (.c (.lst .nil [])))]) (
  .seq (.region [.m 5 0,.m 6 1,.o 7 (.buildS false 1 [(.t 5), (.t 6)]),.o 8 (.call true F.grid_sorted [(.t 7)]),.o 4 (.move true (.t 8))]) (
  .ret))
def R.grid_Join : List ARes := [.t 4]
set_option maxRecDepth 100000 in
theorem K.grid_Join : ckFun Try.prog Try.f178 C.grid_Join R.grid_Join = true := by kernel_rfl
def C.grid_Meet : ACode :=
  .seq (.region [.o 3 (.bx true (.t 1)),.o 4 (.move false (.c (.lst .nil [])))]) (
  .seq (.prom 3 (.region [.o 5 (.load 2 false 1 (.t 3)),.o 6 (.buildS false 1 [(.t 5)]),.o 7 (.call true F.grid_sorted [(.t 6)]),⟨none, .store 1 (.t 3) (.t 7), none⟩])) (
  .seq (.region [.m 8 0,.o 9 (.buildS false 1 [(.t 8)]),.o 10 (.call true F.grid_sorted [(.t 9)]),.o 11 (.mkf F.grid_Meet_1 [(.t 3)]),.o 12 (.call true F.slices_DeleteFunc_Cell [(.t 10), (.t 11)]),.m 4 12]) (
  .own 4 true 2 (.grab 4 (.ret)))))
def R.grid_Meet : List ARes := [.t 4]
set_option maxRecDepth 100000 in
theorem K.grid_Meet : ckFun Try.prog Try.f112 C.grid_Meet R.grid_Meet = true := by kernel_rfl
def C.grid_Meet_1 : ACode :=
  .seq (.region [.o 2 (.bx false (.t 0)),.o 3 (.move false (.c (.bool false)))]) (
  .seq (.region [.o 4 (.load 2 false 1 (.t 1)),.o 5 (.load 2 true 2 (.t 2)),.o 6 (.call true F.grid_has [(.t 4), (.t 5)]),.o 7 (.un .not (.t 6)),.m 3 7]) (
  .ret))
def R.grid_Meet_1 : List ARes := [.t 3]
set_option maxRecDepth 100000 in
theorem K.grid_Meet_1 : ckFun Try.prog Try.f184 C.grid_Meet_1 R.grid_Meet_1 = true := by kernel_rfl
def C.grid_Minus : ACode :=
  .seq (.region [.o 3 (.bx true (.t 1)),.o 4 (.move false (.c (.lst .nil [])))]) (
  .seq (.prom 3 (.region [.o 5 (.load 2 false 1 (.t 3)),.o 6 (.buildS false 1 [(.t 5)]),.o 7 (.call true F.grid_sorted [(.t 6)]),⟨none, .store 1 (.t 3) (.t 7), none⟩])) (
  .seq (.region [.m 8 0,.o 9 (.buildS false 1 [(.t 8)]),.o 10 (.call true F.grid_sorted [(.t 9)]),.o 11 (.mkf F.grid_Minus_1 [(.t 3)]),.o 12 (.call true F.slices_DeleteFunc_Cell [(.t 10), (.t 11)]),.m 4 12]) (
  .own 4 true 2 (.grab 4 (.ret)))))
def R.grid_Minus : List ARes := [.t 4]
set_option maxRecDepth 100000 in
theorem K.grid_Minus : ckFun Try.prog Try.f143 C.grid_Minus R.grid_Minus = true := by kernel_rfl
def C.grid_Minus_1 : ACode :=
  .seq (.region [.o 2 (.bx false (.t 0)),.o 3 (.move false (.c (.bool false)))]) (
  .seq (.region [.o 4 (.load 2 false 1 (.t 1)),.o 5 (.load 2 true 2 (.t 2)),.o 6 (.call true F.grid_has [(.t 4), (.t 5)]),.m 3 6]) (
  .ret))
def R.grid_Minus_1 : List ARes := [.t 3]
set_option maxRecDepth 100000 in
theorem K.grid_Minus_1 : ckFun Try.prog Try.f193 C.grid_Minus_1 R.grid_Minus_1 = true := by kernel_rfl
def C.grid_Within : ACode :=
  .seq (.region [.o 3 (.bx true (.t 1)),.o 4 (.move false (.c (.bool false)))]) (
  .seq (.prom 3 (.region [.o 5 (.load 2 false 1 (.t 3)),.o 6 (.buildS false 1 [(.t 5)]),.o 7 (.call true F.grid_sorted [(.t 6)]),⟨none, .store 1 (.t 3) (.t 7), none⟩])) (
  .seq (.region [.m 8 0,.o 9 (.mkf F.grid_Within_1 [(.t 3)]),.o 10 (.call true F.slices_ContainsFunc_Cell [(.t 8), (.t 9)]),.o 11 (.un .not (.t 10)),.m 4 11]) (
  .ret)))
def R.grid_Within : List ARes := [.t 4]
set_option maxRecDepth 100000 in
theorem K.grid_Within : ckFun Try.prog Try.f147 C.grid_Within R.grid_Within = true := by kernel_rfl
def C.grid_Within_1 : ACode :=
  .seq (.region [.o 2 (.bx false (.t 0)),.o 3 (.move false (.c (.bool false)))]) (
  .seq (.region [.o 4 (.load 2 false 1 (.t 1)),.o 5 (.load 2 true 2 (.t 2)),.o 6 (.call true F.grid_has [(.t 4), (.t 5)]),.o 7 (.un .not (.t 6)),.m 3 7]) (
  .ret))
def R.grid_Within_1 : List ARes := [.t 3]
set_option maxRecDepth 100000 in
theorem K.grid_Within_1 : ckFun Try.prog Try.f196 C.grid_Within_1 R.grid_Within_1 = true := by kernel_rfl
end Go.Proofs.Ytpdajkbfemcdlaa
namespace Go.Proofs.Ytpdajkbfemcdlaa
open Go.Ge
def C.ring_Check : ACode :=
  .seq (.region [.o 2 (.move false (.c (.int .i64 0)))]) (
  .seq (.seq (.region [.m 7 0,.o 8 (.len (.t 7)),.o 9 (.bin .gtr (.t 8) (.c (.int .i64 64)))]) (
  .cond (.t 9) (.seq (.region [.o 2 (.move false (.c (.int .i64 2)))]) (
  .ret)) (.skip))) (
  .seq (.seq (.region [.m 10 0,.o 11 (.len (.t 10)),.o 12 (.move false (.c (.int .i64 0)))]) (
  .block 0 (.loop (.seq (.region [.o 13 (.bin .lss (.t 12) (.t 11))]) (
  .seq (.cond (.t 13) (.skip) (.exit 0)) (
  .seq (.block 1 (.seq (.region [.o 14 (.iaddr 1 (.t 10) (.t 12)),.o 15 (.load 2 false 1 (.t 14)),.m 4 15]) (
  .seq (.region [.m 16 4,.o 17 (.len (.t 16)),.o 18 (.move false (.c (.int .i64 0)))]) (
  .block 2 (.loop (.seq (.region [.o 19 (.bin .lss (.t 18) (.t 17))]) (
  .seq (.cond (.t 19) (.skip) (.exit 2)) (
  .seq (.block 3 (.seq (.region [.o 20 (.iaddr 1 (.t 16) (.t 18)),.o 21 (.load 2 false 1 (.t 20)),.m 6 21]) (
  .seq (.region [.m 22 6,.o 23 (.bin .lss (.t 22) (.c (.int .i64 0))),.m 24 23,.g 25 (.move false (.t 6)) 24 false,.g 26 (.move false (.t 0)) 24 false,.g 27 (.len (.t 26)) 24 false,.g 28 (.bin .geq (.t 25) (.t 27)) 24 false,.o 29 (.pick (.t 24) (.c (.bool true)) (.t 28))]) (
  .cond (.t 29) (.seq (.region [.o 2 (.move false (.c (.int .i64 1)))]) (
  .ret)) (.skip))))) (
  .region [.o 30 (.bin .add (.t 18) (.c (.int .i64 1))),.m 18 30]))))))))) (
  .region [.o 31 (.bin .add (.t 12) (.c (.int .i64 1))),.m 12 31]))))))) (
  .seq (.region [.o 2 (.move false (.c (.int .i64 0)))]) (
  .ret))))
def R.ring_Check : List ARes := [.t 2]
set_option maxRecDepth 100000 in
theorem K.ring_Check : ckFun Try.prog Try.f102 C.ring_Check R.ring_Check = true := by kernel_rfl
def C.ring_steps : ACode :=
  .seq (.region [.o 4 (.move false (.c (.lst .nil [])))]) (
  .seq (.region [.m 8 0,.o 9 (.len (.t 8)),.o 10 (.mkslice 1 1 true (.bool false) (.t 9)),.o 5 (.move true (.t 10))]) (
  .seq (.thaw 5 (.region [.m 11 0,.m 12 1,.o 13 (.iaddr 1 (.t 11) (.t 12)),.o 14 (.load 2 false 1 (.t 13)),.o 15 (.call true F.slices_Clone_int [(.t 14)]),.o 6 (.move true (.t 15))])) (
  .seq (.block 0 (.loop (.seq (.seq (.region [.m 16 6,.o 17 (.len (.t 16)),.o 18 (.bin .gtr (.t 17) (.c (.int .i64 0)))]) (
  .cond (.t 18) (.skip) (.exit 0))) (
  .block 1 (.seq (.region [.m 19 6,.o 20 (.iaddr 1 (.t 19) (.c (.int .i64 0))),.o 21 (.load 2 false 1 (.t 20)),.m 7 21]) (
  .seq (.region [.o 22 (.move true (.t 6)),.o 23 (.sliceT 1 22 (some (.c (.int .i64 1)))),.o 6 (.move true (.t 23))]) (
  .seq (.region [.m 24 5,.m 25 7,.o 26 (.iaddr 1 (.t 24) (.t 25)),.o 27 (.load 2 false 1 (.t 26)),.o 28 (.un .not (.t 27))]) (
  .cond (.t 28) (.seq (.region [.m 29 5,.m 30 7,.o 31 (.iaddr 1 (.t 29) (.t 30)),⟨none, .store 1 (.t 31) (.c (.bool true)), none⟩]) (
  .region [.o 32 (.move true (.t 6)),.m 33 0,.m 34 7,.o 35 (.iaddr 1 (.t 33) (.t 34)),.o 36 (.load 2 false 1 (.t 35)),.o 37 (.append 1 8 (.t 32) (.t 36)),.o 6 (.move true (.t 37))])) (.skip))))))))) (
  .seq (.region [.m 38 5,.m 4 38]) (
  .own 4 false 1 (.grab 4 (.ret)))))))
def R.ring_steps : List ARes := [.t 4]
set_option maxRecDepth 100000 in
theorem K.ring_steps : ckFun Try.prog Try.f171 C.ring_steps R.ring_steps = true := by kernel_rfl
def C.ring_Stuck : ACode :=
  .seq (.region [.o 2 (.move false (.c (.lst .nil []))),.o 3 (.move false (.c (.int .i64 0)))]) (
  .seq (.seq (.region [.m 7 0,.o 8 (.call true F.ring_Check [(.t 7)]),.m 4 8]) (
  .seq (.region [.m 9 4,.o 10 (.bin .neq (.t 9) (.c (.int .i64 0)))]) (
  .cond (.t 10) (.seq (.region [.m 11 4,.o 2 (.move false (.c (.lst .nil []))),.m 3 11]) (
  .ret)) (.skip)))) (
  .seq (.region [.o 5 (.move false (.c (.lst .nil [])))]) (
  .seq (.seq (.region [.m 12 0,.o 13 (.len (.t 12)),.o 14 (.move false (.c (.int .i64 0)))]) (
  .block 0 (.loop (.seq (.region [.o 15 (.bin .lss (.t 14) (.t 13))]) (
  .seq (.cond (.t 15) (.skip) (.exit 0)) (
  .seq (.block 1 (.seq (.region [.m 16 14,.m 6 16]) (
  .seq (.region [.m 17 0,.m 18 6,.o 19 (.call true F.ring_steps [(.t 17), (.t 18)]),.m 20 6,.o 21 (.iaddr 1 (.t 19) (.t 20)),.o 22 (.load 2 false 1 (.t 21))]) (
  .cond (.t 22) (.region [.o 23 (.move true (.t 5)),.m 24 6,.o 25 (.buildS false 1 [(.t 24)]),.o 26 (.append 1 8 (.t 23) (.t 25)),.o 5 (.move true (.t 26))]) (.skip))))) (
  .region [.o 27 (.bin .add (.t 14) (.c (.int .i64 1))),.m 14 27]))))))) (
  .seq (.region [.o 28 (.move true (.t 5)),.o 2 (.move true (.t 28)),.o 3 (.move false (.c (.int .i64 0)))]) (
  .ret)))))
def R.ring_Stuck : List ARes := [.t 2, .t 3]
set_option maxRecDepth 100000 in
theorem K.ring_Stuck : ckFun Try.prog Try.f96 C.ring_Stuck R.ring_Stuck = true := by kernel_rfl
def C.ring_Find : ACode :=
  .seq (.region [.o 2 (.move false (.c (.lst .nil []))),.o 3 (.move false (.c (.int .i64 0)))]) (
  .seq (.region [.m 7 0,.o 8 (.call true F.ring_Stuck [(.t 7)]),.m 6 8,.o 9 (.ext 0 (.t 6)),.o 10 (.ext 1 (.t 6)),.m 4 9,.m 5 10]) (
  .seq (.seq (.region [.m 11 5,.o 12 (.bin .neq (.t 11) (.c (.int .i64 0)))]) (
  .cond (.t 12) (.seq (.region [.m 13 5,.o 2 (.move false (.c (.lst .nil []))),.m 3 13]) (
  .ret)) (.skip))) (
  .seq (.seq (.region [.m 14 4,.o 15 (.len (.t 14)),.o 16 (.bin .eql (.t 15) (.c (.int .i64 0)))]) (
  .cond (.t 16) (.seq (.region [.o 2 (.move false (.c (.lst .nil []))),.o 3 (.move false (.c (.int .i64 4)))]) (
  .ret)) (.skip))) (
  .seq (.region [.m 17 0,.m 18 4,.o 19 (.iaddr 1 (.t 18) (.c (.int .i64 0))),.o 20 (.load 2 false 1 (.t 19)),.o 21 (.call true F.ring_shortest [(.t 17), (.t 20)]),.o 2 (.move true (.t 21)),.o 3 (.move false (.c (.int .i64 0)))]) (
  .ret)))))
def R.ring_Find : List ARes := [.t 2, .t 3]
set_option maxRecDepth 100000 in
theorem K.ring_Find : ckFun Try.prog Try.f93 C.ring_Find R.ring_Find = true := by kernel_rfl
def C.ring_shortest : ACode :=
  .seq (.region [.o 4 (.move false (.c (.lst .nil [])))]) (
  .seq (.region [.o 18 (.buildS false 1 [(.c (.int .i64 (-1)))]),.m 19 0,.o 20 (.len (.t 19)),.o 21 (.call true F.slices_Repeat_int [(.t 18), (.t 20)]),.m 5 21]) (
  .seq (.seq (.region [.o 6 (.move false (.c (.int .i64 1)))]) (
  .block 0 (.loop (.seq (.seq (.region [.m 22 5,.m 23 1,.o 24 (.iaddr 1 (.t 22) (.t 23)),.o 25 (.load 2 false 1 (.t 24)),.o 26 (.bin .lss (.t 25) (.c (.int .i64 0)))]) (
  .cond (.t 26) (.skip) (.exit 0))) (
  .seq (.block 1 (.seq (.region [.m 29 5,.o 30 (.call true F.slices_Clone_int [(.t 29)]),.o 7 (.move true (.t 30))]) (
  .seq (.seq (.thaw 7 (.region [.m 31 0,.o 32 (.len (.t 31)),.o 33 (.move false (.c (.int .i64 0)))])) (
  .block 2 (.loop (.seq (.region [.o 34 (.bin .lss (.t 33) (.t 32))]) (
  .seq (.cond (.t 34) (.skip) (.exit 2)) (
  .seq (.block 3 (.seq (.region [.m 35 33,.o 36 (.iaddr 1 (.t 31) (.t 33)),.o 37 (.load 2 false 1 (.t 36)),.m 8 35,.m 9 37]) (
  .seq (.region [.m 38 9,.o 39 (.len (.t 38)),.o 40 (.move false (.c (.int .i64 0)))]) (
  .block 4 (.loop (.seq (.region [.o 41 (.bin .lss (.t 40) (.t 39))]) (
  .seq (.cond (.t 41) (.skip) (.exit 4)) (
  .seq (.block 5 (.seq (.region [.o 42 (.iaddr 1 (.t 38) (.t 40)),.o 43 (.load 2 false 1 (.t 42)),.m 11 43]) (
  .seq (.region [.m 44 5,.m 45 8,.o 46 (.iaddr 1 (.t 44) (.t 45)),.o 47 (.load 2 false 1 (.t 46)),.o 48 (.bin .lss (.t 47) (.c (.int .i64 0))),.m 49 48,.g 50 (.move false (.t 6)) 49 true,.g 51 (.bin .eql (.t 50) (.c (.int .i64 1))) 49 true,.g 52 (.move false (.t 51)) 49 true,.g 53 (.move false (.t 11)) 52 true,.g 54 (.move false (.t 1)) 52 true,.g 55 (.bin .eql (.t 53) (.t 54)) 52 true,.g 56 (.pick (.t 52) (.t 55) (.c (.bool false))) 49 true,.g 57 (.move false (.t 56)) 49 true,.g 58 (.move false (.t 6)) 57 false,.g 59 (.bin .gtr (.t 58) (.c (.int .i64 1))) 57 false,.g 60 (.move false (.t 59)) 57 false,.g 61 (.move false (.t 5)) 60 true,.g 62 (.move false (.t 11)) 60 true,.g 63 (.iaddr 1 (.t 61) (.t 62)) 60 true,.g 64 (.load 2 false 1 (.t 63)) 60 true,.g 65 (.move false (.t 6)) 60 true,.g 66 (.bin .sub (.t 65) (.c (.int .i64 1))) 60 true,.g 67 (.bin .eql (.t 64) (.t 66)) 60 true,.g 68 (.pick (.t 60) (.t 67) (.c (.bool false))) 57 false,.g 69 (.pick (.t 57) (.c (.bool true)) (.t 68)) 49 true,.o 70 (.pick (.t 49) (.t 69) (.c (.bool false)))]) (
  .cond (.t 70) (.region [.m 71 7,.m 72 8,.m 73 6,.o 74 (.iaddr 1 (.t 71) (.t 72)),⟨none, .store 1 (.t 74) (.t 73), none⟩]) (.skip))))) (
  .region [.o 75 (.bin .add (.t 40) (.c (.int .i64 1))),.m 40 75]))))))))) (
  .region [.o 76 (.bin .add (.t 33) (.c (.int .i64 1))),.m 33 76]))))))) (
  .own 7 false 1 (.grab 7 (.region [.m 77 7,.m 5 77])))))) (
  .region [.m 27 6,.o 28 (.bin .add (.t 27) (.c (.int .i64 1))),.m 6 28])))))) (
  .seq (.region [.m 78 1,.o 79 (.buildS false 1 [(.t 78)]),.o 12 (.move true (.t 79))]) (
  .seq (.seq (.drawn [0, 1, 2, 3, 4, 5, 6] [0, 0, 0, 6, 14, 1, 63] [.m 80 1,.m 81 5,.m 82 1,.o 83 (.iaddr 1 (.t 81) (.t 82)),.o 84 (.load 0 false 1 (.t 83)),.m 13 80,.m 14 84]) (
  .block 6 (.loop (.seq (.seq (.region [.m 85 14,.o 86 (.bin .gtr (.t 85) (.c (.int .i64 1)))]) (
  .cond (.t 86) (.skip) (.exit 6))) (
  .seq (.block 7 (.seq (.region [.o 15 (.move false (.c (.int .i64 (-1))))]) (
  .seq (.seq (.region [.m 89 0,.m 90 13,.o 91 (.iaddr 1 (.t 89) (.t 90)),.o 92 (.load 2 false 1 (.t 91)),.o 93 (.len (.t 92)),.o 94 (.move false (.c (.int .i64 0)))]) (
  .block 8 (.loop (.seq (.region [.o 95 (.bin .lss (.t 94) (.t 93))]) (
  .seq (.cond (.t 95) (.skip) (.exit 8)) (
  .seq (.block 9 (.seq (.region [.o 96 (.iaddr 1 (.t 92) (.t 94)),.o 97 (.load 2 false 1 (.t 96)),.m 17 97]) (
  .seq (.region [.m 98 5,.m 99 17,.o 100 (.iaddr 1 (.t 98) (.t 99)),.o 101 (.load 2 false 1 (.t 100)),.m 102 14,.o 103 (.bin .sub (.t 102) (.c (.int .i64 1))),.o 104 (.bin .eql (.t 101) (.t 103)),.m 105 104,.g 106 (.move false (.t 15)) 105 true,.g 107 (.bin .lss (.t 106) (.c (.int .i64 0))) 105 true,.g 108 (.move false (.t 107)) 105 true,.g 109 (.move false (.t 17)) 108 false,.g 110 (.move false (.t 15)) 108 false,.g 111 (.bin .lss (.t 109) (.t 110)) 108 false,.g 112 (.pick (.t 108) (.c (.bool true)) (.t 111)) 105 true,.o 113 (.pick (.t 105) (.t 112) (.c (.bool false)))]) (
  .cond (.t 113) (.region [.m 114 17,.m 15 114]) (.skip))))) (
  .region [.o 115 (.bin .add (.t 94) (.c (.int .i64 1))),.m 94 115]))))))) (
  .seq (.region [.o 116 (.move true (.t 12)),.m 117 15,.o 118 (.buildS false 1 [(.t 117)]),.o 119 (.append 1 8 (.t 116) (.t 118)),.o 12 (.move true (.t 119))]) (
  .region [.m 120 15,.m 13 120]))))) (
  .region [.m 87 14,.o 88 (.bin .sub (.t 87) (.c (.int .i64 1))),.m 14 88])))))) (
  .seq (.region [.o 121 (.move true (.t 12)),.o 4 (.move true (.t 121))]) (
  .ret))))))
def R.ring_shortest : List ARes := [.t 4]
set_option maxRecDepth 100000 in
theorem K.ring_shortest : ckFun Try.prog Try.f170 C.ring_shortest R.ring_shortest = true := by kernel_rfl
def C.slices_Clone_int : ACode :=
  .seq (.region [.o 2 (.move false (.c (.lst .nil [])))]) (
  .seq (.seq (.region [.m 3 0,.o 4 (.isnil false false (.t 3))]) (
  .cond (.t 4) (.seq (.region [.o 2 (.move false (.c (.lst .nil [])))]) (
  .ret)) (.skip))) (
  .seq (.region [.o 5 (.bs0),.m 6 0,.o 7 (.hop (.appendR 1 8 (.t 5) (.t 6))),.m 2 7]) (
  .own 2 false 1 (.ret))))
def R.slices_Clone_int : List ARes := [.t 2]
set_option maxRecDepth 100000 in
theorem K.slices_Clone_int : ckFun Try.prog Try.f177 C.slices_Clone_int R.slices_Clone_int = true := by kernel_rfl
def C.slices_Repeat_int : ACode :=
  .seq (.region [.o 4 (.move false (.c (.lst .nil [])))]) (
  .seq (.seq (.region [.m 9 1,.o 10 (.bin .lss (.t 9) (.c (.int .i64 0)))]) (
  .cond (.t 10) (.halt) (.skip))) (
  .seq (.region [.m 13 0,.o 14 (.len (.t 13)),.o 15 (.conv .u64 (.t 14)),.m 16 1,.o 17 (.conv .u64 (.t 16)),.o 18 (.call true F.bits_Mul [(.t 15), (.t 17)]),.m 12 18,.o 19 (.ext 0 (.t 12)),.o 20 (.ext 1 (.t 12)),.m 5 19,.m 6 20]) (
  .seq (.seq (.region [.m 21 5,.o 22 (.bin .gtr (.t 21) (.c (.int .u64 0))),.m 23 22,.g 24 (.move false (.t 6)) 23 false,.g 25 (.bin .gtr (.t 24) (.c (.int .u64 9223372036854775807))) 23 false,.o 26 (.pick (.t 23) (.c (.bool true)) (.t 25))]) (
  .cond (.t 26) (.halt) (.skip))) (
  .seq (.region [.m 28 6,.o 29 (.conv .i64 (.t 28)),.o 30 (.mkslice 1 8 true (.int .i64 0) (.t 29)),.o 7 (.move true (.t 30))]) (
  .seq (.thaw 7 (.region [.m 31 7,.m 32 0,.o 33 (.hop (.copyR 1 (.t 31) (.t 32))),.m 8 33])) (
  .seq (.block 0 (.loop (.seq (.seq (.region [.m 34 8,.m 35 7,.o 36 (.len (.t 35)),.o 37 (.bin .lss (.t 34) (.t 36))]) (
  .cond (.t 37) (.skip) (.exit 0))) (
  .block 1 (.drawn [0, 1, 2, 3, 4, 5, 6, 7, 8, 9] [0, 0, 0, 6, 0, 0, 48, 126, 255, 511] [.m 38 8,.m 39 7,.m 40 8,.o 41 (.slice 1 (.t 39) (some (.t 40)) none none),.m 42 7,.m 43 8,.o 44 (.slice 1 (.t 42) none (some (.t 43)) none),.o 45 (.hop (.copyR 1 (.t 41) (.t 44))),.o 46 (.bin .add (.t 38) (.t 45)),.m 8 46]))))) (
  .seq (.region [.m 47 7,.m 4 47]) (
  .own 4 false 1 (.grab 4 (.ret))))))))))
def R.slices_Repeat_int : List ARes := [.t 4]
set_option maxRecDepth 100000 in
theorem K.slices_Repeat_int : ckFun Try.prog Try.f200 C.slices_Repeat_int R.slices_Repeat_int = true := by kernel_rfl
def C.bits_Mul : ACode :=
  .seq (.region [.o 4 (.move false (.c (.int .u64 0))),.o 5 (.move false (.c (.int .u64 0)))]) (
  .seq (.cond (.c (.bool false)) (.seq (.region [.m 11 0,.o 12 (.conv .u32 (.t 11)),.m 13 1,.o 14 (.conv .u32 (.t 13)),.o 15 (.call true F.bits_Mul32 [(.t 12), (.t 14)]),.m 10 15,.o 16 (.ext 0 (.t 10)),.o 17 (.ext 1 (.t 10)),.m 6 16,.m 7 17]) (
  .seq (.region [.m 18 6,.o 19 (.conv .u64 (.t 18)),.m 20 7,.o 21 (.conv .u64 (.t 20)),.m 4 19,.m 5 21]) (
  .ret))) (.skip)) (
  .seq (.region [.m 23 0,.m 24 1,.o 25 (.call true F.bits_Mul64 [(.t 23), (.t 24)]),.m 22 25,.o 26 (.ext 0 (.t 22)),.o 27 (.ext 1 (.t 22)),.m 8 26,.m 9 27]) (
  .seq (.region [.m 28 8,.m 29 9,.m 4 28,.m 5 29]) (
  .ret))))
def R.bits_Mul : List ARes := [.t 4, .t 5]
set_option maxRecDepth 100000 in
theorem K.bits_Mul : ckFun Try.prog Try.f218 C.bits_Mul R.bits_Mul = true := by kernel_rfl
def C.bits_Mul64 : ACode :=
  .seq (.region [.o 4 (.move false (.c (.int .u64 0))),.o 5 (.move false (.c (.int .u64 0)))]) (
  .seq (.region [.m 14 0,.o 15 (.bin .and (.t 14) (.c (.int .u64 4294967295))),.m 6 15]) (
  .seq (.region [.m 16 0,.o 17 (.bin .shr (.t 16) (.c (.int .u64 32))),.m 7 17]) (
  .seq (.region [.m 18 1,.o 19 (.bin .and (.t 18) (.c (.int .u64 4294967295))),.m 8 19]) (
  .seq (.region [.m 20 1,.o 21 (.bin .shr (.t 20) (.c (.int .u64 32))),.m 9 21]) (
  .seq (.region [.m 22 6,.m 23 8,.o 24 (.bin .mul (.t 22) (.t 23)),.m 10 24]) (
  .seq (.region [.m 25 7,.m 26 8,.o 27 (.bin .mul (.t 25) (.t 26)),.m 28 10,.o 29 (.bin .shr (.t 28) (.c (.int .u64 32))),.o 30 (.bin .add (.t 27) (.t 29)),.m 11 30]) (
  .seq (.region [.m 31 11,.o 32 (.bin .and (.t 31) (.c (.int .u64 4294967295))),.m 12 32]) (
  .seq (.region [.m 33 11,.o 34 (.bin .shr (.t 33) (.c (.int .u64 32))),.m 13 34]) (
  .seq (.region [.m 35 12,.m 36 6,.m 37 9,.o 38 (.bin .mul (.t 36) (.t 37)),.o 39 (.bin .add (.t 35) (.t 38)),.m 12 39]) (
  .seq (.region [.m 40 7,.m 41 9,.o 42 (.bin .mul (.t 40) (.t 41)),.m 43 13,.o 44 (.bin .add (.t 42) (.t 43)),.m 45 12,.o 46 (.bin .shr (.t 45) (.c (.int .u64 32))),.o 47 (.bin .add (.t 44) (.t 46)),.m 4 47]) (
  .seq (.region [.m 48 0,.m 49 1,.o 50 (.bin .mul (.t 48) (.t 49)),.m 5 50]) (
  .ret))))))))))))
def R.bits_Mul64 : List ARes := [.t 4, .t 5]
set_option maxRecDepth 100000 in
theorem K.bits_Mul64 : ckFun Try.prog Try.f233 C.bits_Mul64 R.bits_Mul64 = true := by kernel_rfl
def C.slices_Contains_int : ACode :=
  .seq (.region [.o 4 (.move false (.c (.bool false)))]) (
  .seq (.region [.m 5 0,.m 6 1,.o 7 (.call true F.slices_Index_int [(.t 5), (.t 6)]),.o 8 (.bin .geq (.t 7) (.c (.int .i64 0))),.m 4 8]) (
  .ret))
def R.slices_Contains_int : List ARes := [.t 4]
set_option maxRecDepth 100000 in
theorem K.slices_Contains_int : ckFun Try.prog Try.f97 C.slices_Contains_int R.slices_Contains_int = true := by kernel_rfl
def C.slices_Index_int : ACode :=
  .seq (.region [.o 4 (.move false (.c (.int .i64 0)))]) (
  .seq (.seq (.region [.m 6 0,.o 7 (.len (.t 6)),.o 8 (.move false (.c (.int .i64 0)))]) (
  .block 0 (.loop (.seq (.region [.o 9 (.bin .lss (.t 8) (.t 7))]) (
  .seq (.cond (.t 9) (.skip) (.exit 0)) (
  .seq (.block 1 (.seq (.region [.m 10 8,.m 5 10]) (
  .seq (.region [.m 11 1,.m 12 0,.m 13 5,.o 14 (.iaddr 1 (.t 12) (.t 13)),.o 15 (.load 2 false 1 (.t 14)),.o 16 (.bin .eql (.t 11) (.t 15))]) (
  .cond (.t 16) (.seq (.region [.m 17 5,.m 4 17]) (
  .ret)) (.skip))))) (
  .region [.o 18 (.bin .add (.t 8) (.c (.int .i64 1))),.m 8 18]))))))) (
  .seq (.region [.o 4 (.move false (.c (.int .i64 (-1))))]) (
  .ret)))
def R.slices_Index_int : List ARes := [.t 4]
set_option maxRecDepth 100000 in
theorem K.slices_Index_int : ckFun Try.prog Try.f172 C.slices_Index_int R.slices_Index_int = true := by kernel_rfl
def C.slices_Equal_int : ACode :=
  .seq (.region [.o 4 (.move false (.c (.bool false)))]) (
  .seq (.seq (.region [.m 6 0,.o 7 (.len (.t 6)),.m 8 1,.o 9 (.len (.t 8)),.o 10 (.bin .neq (.t 7) (.t 9))]) (
  .cond (.t 10) (.seq (.region [.o 4 (.move false (.c (.bool false)))]) (
  .ret)) (.skip))) (
  .seq (.seq (.region [.m 11 0,.o 12 (.len (.t 11)),.o 13 (.move false (.c (.int .i64 0)))]) (
  .block 0 (.loop (.seq (.region [.o 14 (.bin .lss (.t 13) (.t 12))]) (
  .seq (.cond (.t 14) (.skip) (.exit 0)) (
  .seq (.block 1 (.seq (.region [.m 15 13,.m 5 15]) (
  .seq (.drawn [0, 1, 2, 3, 4, 5, 6, 7, 8] [0, 0, 3, 7, 0, 0, 48, 112, 255] [.m 16 0,.m 17 5,.o 18 (.iaddr 1 (.t 16) (.t 17)),.o 19 (.load 0 false 1 (.t 18)),.m 20 1,.m 21 5,.o 22 (.iaddr 1 (.t 20) (.t 21)),.o 23 (.load 0 false 1 (.t 22)),.o 24 (.bin .neq (.t 19) (.t 23))]) (
  .cond (.t 24) (.seq (.region [.o 4 (.move false (.c (.bool false)))]) (
  .ret)) (.skip))))) (
  .region [.o 25 (.bin .add (.t 13) (.c (.int .i64 1))),.m 13 25]))))))) (
  .seq (.region [.o 4 (.move false (.c (.bool true)))]) (
  .ret))))
def R.slices_Equal_int : List ARes := [.t 4]
set_option maxRecDepth 100000 in
theorem K.slices_Equal_int : ckFun Try.prog Try.f94 C.slices_Equal_int R.slices_Equal_int = true := by kernel_rfl
end Go.Proofs.Ytpdajkbfemcdlaa
namespace Go.Proofs.Ytpdajkbfemcdlaa
open Go.Ge
def C.ring_free : ACode :=
  .seq (.region [.o 8 (.move false (.c (.bool false)))]) (
  .seq (.seq (.region [.m 11 0,.o 12 (.len (.t 11)),.o 13 (.move false (.c (.int .i64 0)))]) (
  .block 0 (.loop (.seq (.region [.o 14 (.bin .lss (.t 13) (.t 12))]) (
  .seq (.cond (.t 14) (.skip) (.exit 0)) (
  .seq (.block 1 (.seq (.region [.m 15 13,.o 16 (.iaddr 1 (.t 11) (.t 13)),.o 17 (.load 2 false 1 (.t 16)),.m 9 15,.m 10 17]) (
  .seq (.region [.m 18 9,.m 19 2,.o 20 (.bin .neq (.t 18) (.t 19)),.m 21 20,.g 22 (.move false (.t 3)) 21 true,.g 23 (.move false (.t 9)) 21 true,.g 24 (.call true F.slices_Contains_int [(.t 22), (.t 23)]) 21 true,.g 25 (.un .not (.t 24)) 21 true,.o 26 (.pick (.t 21) (.t 25) (.c (.bool false))),.m 27 26,.g 28 (.move false (.t 10)) 27 true,.g 29 (.move false (.t 1)) 27 true,.g 30 (.call true F.grid_Meet [(.t 28), (.t 29)]) 27 true,.g 31 (.len (.t 30)) 27 true,.g 32 (.bin .gtr (.t 31) (.c (.int .i64 0))) 27 true,.o 33 (.pick (.t 27) (.t 32) (.c (.bool false)))]) (
  .cond (.t 33) (.seq (.region [.o 8 (.move false (.c (.bool false)))]) (
  .ret)) (.skip))))) (
  .region [.o 34 (.bin .add (.t 13) (.c (.int .i64 1))),.m 13 34]))))))) (
  .seq (.region [.o 8 (.move false (.c (.bool true)))]) (
  .ret)))
def R.ring_free : List ARes := [.t 8]
set_option maxRecDepth 100000 in
theorem K.ring_free : ckFun Try.prog Try.f176 C.ring_free R.ring_free = true := by kernel_rfl
def C.ring_Safe : ACode :=
  .seq (.region [.o 4 (.move false (.c (.lst .nil []))),.o 5 (.move false (.c (.int .i64 0)))]) (
  .seq (.seq (.region [.m 17 0,.o 18 (.len (.t 17)),.o 19 (.bin .gtr (.t 18) (.c (.int .i64 4))),.m 20 19,.g 21 (.move false (.t 1)) 20 false,.g 22 (.len (.t 21)) 20 false,.g 23 (.move false (.t 0)) 20 false,.g 24 (.len (.t 23)) 20 false,.g 25 (.bin .neq (.t 22) (.t 24)) 20 false,.o 26 (.pick (.t 20) (.c (.bool true)) (.t 25))]) (
  .cond (.t 26) (.seq (.region [.o 4 (.move false (.c (.lst .nil []))),.o 5 (.move false (.c (.int .i64 2)))]) (
  .ret)) (.skip))) (
  .seq (.seq (.region [.m 27 0,.o 28 (.len (.t 27)),.o 29 (.move false (.c (.int .i64 0)))]) (
  .block 0 (.loop (.seq (.region [.o 30 (.bin .lss (.t 29) (.t 28))]) (
  .seq (.cond (.t 30) (.skip) (.exit 0)) (
  .seq (.block 1 (.seq (.region [.m 31 29,.m 6 31]) (
  .seq (.drawn [0, 1, 2, 3, 4, 5, 6, 7, 8, 9, 10] [0, 0, 3, 7, 0, 0, 48, 112, 255, 511, 0] [.m 32 0,.m 33 6,.o 34 (.iaddr 1 (.t 32) (.t 33)),.o 35 (.load 0 false 1 (.t 34)),.m 36 1,.m 37 6,.o 38 (.iaddr 1 (.t 36) (.t 37)),.o 39 (.load 0 false 1 (.t 38)),.o 40 (.buildS false 1 [(.t 35), (.t 39)]),.o 41 (.len (.t 40)),.o 42 (.move false (.c (.int .i64 0)))]) (
  .block 2 (.loop (.seq (.region [.o 43 (.bin .lss (.t 42) (.t 41))]) (
  .seq (.cond (.t 43) (.skip) (.exit 2)) (
  .seq (.block 3 (.seq (.region [.o 44 (.iaddr 1 (.t 40) (.t 42)),.o 45 (.load 2 false 1 (.t 44)),.m 8 45]) (
  .seq (.region [.m 46 8,.o 47 (.call true F.grid_Check [(.t 46)]),.m 9 47]) (
  .seq (.region [.m 48 9,.o 49 (.bin .neq (.t 48) (.c (.int .i64 0)))]) (
  .cond (.t 49) (.seq (.region [.m 50 9,.o 4 (.move false (.c (.lst .nil []))),.m 5 50]) (
  .ret)) (.skip)))))) (
  .region [.o 51 (.bin .add (.t 42) (.c (.int .i64 1))),.m 42 51]))))))))) (
  .region [.o 52 (.bin .add (.t 29) (.c (.int .i64 1))),.m 29 52]))))))) (
  .seq (.seq (.region [.m 53 0,.o 54 (.len (.t 53)),.o 55 (.move false (.c (.int .i64 0)))]) (
  .block 4 (.loop (.seq (.region [.o 56 (.bin .lss (.t 55) (.t 54))]) (
  .seq (.cond (.t 56) (.skip) (.exit 4)) (
  .seq (.block 5 (.seq (.region [.m 57 55,.o 58 (.iaddr 1 (.t 53) (.t 55)),.o 59 (.load 2 false 1 (.t 58)),.m 10 57,.m 11 59]) (
  .seq (.region [.m 60 0,.m 61 10,.o 62 (.slice 1 (.t 60) none (some (.t 61)) none),.o 63 (.len (.t 62)),.o 64 (.move false (.c (.int .i64 0)))]) (
  .block 6 (.loop (.seq (.region [.o 65 (.bin .lss (.t 64) (.t 63))]) (
  .seq (.cond (.t 65) (.skip) (.exit 6)) (
  .seq (.block 7 (.seq (.region [.o 66 (.iaddr 1 (.t 62) (.t 64)),.o 67 (.load 2 false 1 (.t 66)),.m 13 67]) (
  .seq (.region [.m 68 11,.m 69 13,.o 70 (.call true F.grid_Meet [(.t 68), (.t 69)]),.o 71 (.len (.t 70)),.o 72 (.bin .gtr (.t 71) (.c (.int .i64 0)))]) (
  .cond (.t 72) (.seq (.region [.o 4 (.move false (.c (.lst .nil []))),.o 5 (.move false (.c (.int .i64 10)))]) (
  .ret)) (.skip))))) (
  .region [.o 73 (.bin .add (.t 64) (.c (.int .i64 1))),.m 64 73]))))))))) (
  .region [.o 74 (.bin .add (.t 55) (.c (.int .i64 1))),.m 55 74]))))))) (
  .seq (.region [.o 14 (.move false (.c (.lst .nil [])))]) (
  .seq (.block 8 (.loop (.seq (.seq (.region [.m 75 14,.o 76 (.len (.t 75)),.m 77 0,.o 78 (.len (.t 77)),.o 79 (.bin .lss (.t 76) (.t 78))]) (
  .cond (.t 79) (.skip) (.exit 8))) (
  .block 9 (.seq (.region [.o 15 (.move false (.c (.int .i64 (-1))))]) (
  .seq (.seq (.region [.m 80 0,.o 81 (.len (.t 80)),.o 82 (.move false (.c (.int .i64 0)))]) (
  .block 10 (.loop (.seq (.region [.o 83 (.bin .lss (.t 82) (.t 81))]) (
  .seq (.cond (.t 83) (.skip) (.exit 10)) (
  .seq (.block 11 (.seq (.region [.m 84 82,.m 16 84]) (
  .seq (.region [.m 85 15,.o 86 (.bin .lss (.t 85) (.c (.int .i64 0))),.m 87 86,.g 88 (.move false (.t 14)) 87 true,.g 89 (.move false (.t 16)) 87 true,.g 90 (.call true F.slices_Contains_int [(.t 88), (.t 89)]) 87 true,.g 91 (.un .not (.t 90)) 87 true,.o 92 (.pick (.t 87) (.t 91) (.c (.bool false))),.m 93 92,.g 94 (.move false (.t 0)) 93 true,.g 95 (.move false (.t 1)) 93 true,.g 96 (.move false (.t 16)) 93 true,.g 97 (.iaddr 1 (.t 95) (.t 96)) 93 true,.g 98 (.load 2 false 1 (.t 97)) 93 true,.g 99 (.move false (.t 16)) 93 true,.g 100 (.move false (.t 14)) 93 true,.g 101 (.call true F.ring_free [(.t 94), (.t 98), (.t 99), (.t 100)]) 93 true,.o 102 (.pick (.t 93) (.t 101) (.c (.bool false)))]) (
  .cond (.t 102) (.region [.m 103 16,.m 15 103]) (.skip))))) (
  .region [.o 104 (.bin .add (.t 82) (.c (.int .i64 1))),.m 82 104]))))))) (
  .seq (.seq (.region [.m 105 15,.o 106 (.bin .lss (.t 105) (.c (.int .i64 0)))]) (
  .cond (.t 106) (.seq (.region [.o 4 (.move false (.c (.lst .nil []))),.o 5 (.move false (.c (.int .i64 11)))]) (
  .ret)) (.skip))) (
  .region [.o 107 (.move true (.t 14)),.m 108 15,.o 109 (.buildS false 1 [(.t 108)]),.o 110 (.append 1 8 (.t 107) (.t 109)),.o 14 (.move true (.t 110))])))))))) (
  .seq (.region [.o 111 (.move true (.t 14)),.o 4 (.move true (.t 111)),.o 5 (.move false (.c (.int .i64 0)))]) (
  .ret)))))))
def R.ring_Safe : List ARes := [.t 4, .t 5]
set_option maxRecDepth 100000 in
theorem K.ring_Safe : ckFun Try.prog Try.f106 C.ring_Safe R.ring_Safe = true := by kernel_rfl
end Go.Proofs.Ytpdajkbfemcdlaa
namespace Go.Proofs.Ytpdajkbfemcdlaa
open Go.Ge
def C.lease_New : ACode :=
  .seq (.region [.o 2 (.move false (.c .nilptr)),.o 3 (.move false (.c (.int .i64 0)))]) (
  .seq (.seq (.region [.m 4 0,.o 5 (.bin .lss (.t 4) (.c (.int .i64 1))),.m 6 5,.g 7 (.move false (.t 0)) 6 false,.g 8 (.bin .gtr (.t 7) (.c (.int .i64 4))) 6 false,.o 9 (.pick (.t 6) (.c (.bool true)) (.t 8))]) (
  .cond (.t 9) (.seq (.region [.o 2 (.move false (.c .nilptr)),.o 3 (.move false (.c (.int .i64 1)))]) (
  .ret)) (.skip))) (
  .seq (.region [.m 10 0,.o 11 (.hop (.mkR 1 24 (.lst .nil []) (.t 10))),.o 12 (.build [(.lst .nil []), (.lst .nil [])] [(0, 1, (.t 11))]),.o 13 (.bx true (.t 12)),.m 2 13,.o 3 (.move false (.c (.int .i64 0)))]) (
  .prom 13 (.ret))))
def R.lease_New : List ARes := [.t 2, .t 3]
set_option maxRecDepth 100000 in
theorem K.lease_New : ckFun Try.prog Try.f130 C.lease_New R.lease_New = true := by kernel_rfl
def C.lease_Table_at : ACode :=
  .seq (.region [.o 3 (.bx false (.t 1)),.o 4 (.move false (.c (.int .i64 0)))]) (
  .seq (.prom 3 (.region [.m 5 0,.o 6 (.nilck (.t 5)),.o 7 (.faddr 1 (.t 6)),.o 8 (.load 2 false 1 (.t 7)),.o 9 (.mkf F.lease_Table_at_1 [(.t 3)]),.o 10 (.call true F.slices_IndexFunc_wish [(.t 8), (.t 9)]),.m 4 10])) (
  .ret))
def R.lease_Table_at : List ARes := [.t 4]
set_option maxRecDepth 100000 in
theorem K.lease_Table_at : ckFun Try.prog Try.f186 C.lease_Table_at R.lease_Table_at = true := by kernel_rfl
def C.lease_Table_at_1 : ACode :=
  .seq (.region [.o 2 (.bx true (.t 0)),.o 3 (.move false (.c (.bool false)))]) (
  .seq (.region [.o 4 (.faddr 0 (.t 2)),.o 5 (.load 2 false 1 (.t 4)),.o 6 (.load 2 false 1 (.t 1)),.o 7 (.bin .eql (.t 5) (.t 6)),.m 3 7]) (
  .ret))
def R.lease_Table_at_1 : List ARes := [.t 3]
set_option maxRecDepth 100000 in
theorem K.lease_Table_at_1 : ckFun Try.prog Try.f210 C.lease_Table_at_1 R.lease_Table_at_1 = true := by kernel_rfl
def C.slices_IndexFunc_wish : ACode :=
  .seq (.region [.o 4 (.move false (.c (.int .i64 0)))]) (
  .seq (.seq (.region [.m 6 0,.o 7 (.len (.t 6)),.o 8 (.move false (.c (.int .i64 0)))]) (
  .block 0 (.loop (.seq (.region [.o 9 (.bin .lss (.t 8) (.t 7))]) (
  .seq (.cond (.t 9) (.skip) (.exit 0)) (
  .seq (.block 1 (.seq (.region [.m 10 8,.m 5 10]) (
  .seq (.region [.m 11 1,.m 12 0,.m 13 5,.o 14 (.iaddr 2 (.t 12) (.t 13)),.o 15 (.load 2 true 2 (.t 14)),.o 16 (.hop (.callvq (.t 11) [(.t 15)]))]) (
  .cond (.t 16) (.seq (.region [.m 17 5,.m 4 17]) (
  .ret)) (.skip))))) (
  .region [.o 18 (.bin .add (.t 8) (.c (.int .i64 1))),.m 8 18]))))))) (
  .seq (.region [.o 4 (.move false (.c (.int .i64 (-1))))]) (
  .ret)))
def R.slices_IndexFunc_wish : List ARes := [.t 4]
set_option maxRecDepth 100000 in
theorem K.slices_IndexFunc_wish : ckFun Try.prog Try.f209 C.slices_IndexFunc_wish R.slices_IndexFunc_wish = true := by kernel_rfl
def C.slices_Delete_wish : ACode :=
  .seq (.region [.o 6 (.move false (.c (.lst .nil [])))]) (
  .seq (.region [.m 8 0,.m 9 1,.m 10 2,.m 11 0,.o 12 (.len (.t 11)),.o 13 (.slice 2 (.t 8) (some (.t 9)) (some (.t 10)) (some (.t 12)))]) (
  .seq (.seq (.region [.m 14 1,.m 15 2,.o 16 (.bin .eql (.t 14) (.t 15))]) (
  .cond (.t 16) (.seq (.region [.o 17 (.move true (.t 0)),.o 6 (.move true (.t 17))]) (
  .ret)) (.skip))) (
  .seq (.region [.m 18 0,.o 19 (.len (.t 18)),.m 7 19]) (
  .seq (.drawn [0, 1, 2, 3, 4, 5, 6, 7] [0, 0, 3, 0, 0, 24, 63, 127] [.m 20 0,.m 21 1,.o 22 (.slice 2 (.t 20) none (some (.t 21)) none),.m 23 0,.m 24 2,.o 25 (.slice 2 (.t 23) (some (.t 24)) none none),.o 26 (.hop (.appendR 2 32 (.t 22) (.t 25))),.o 0 (.move true (.t 26))]) (
  .seq (.region [.m 27 0,.m 28 0,.o 29 (.len (.t 28)),.m 30 7,.o 31 (.slice 2 (.t 27) (some (.t 29)) (some (.t 30)) none),⟨none, .hop (.clearR 2 (.agg [(.int .i64 0), (.lst .nil [])]) (.t 31)), none⟩]) (
  .seq (.region [.o 32 (.move true (.t 0)),.o 6 (.move true (.t 32))]) (
  .ret)))))))
def R.slices_Delete_wish : List ARes := [.t 6]
set_option maxRecDepth 100000 in
theorem K.slices_Delete_wish : ckFun Try.prog Try.f211 C.slices_Delete_wish R.slices_Delete_wish = true := by kernel_rfl
def C.lease_Table_blockers : ACode :=
  .seq (.region [.o 8 (.move false (.c (.lst .nil [])))]) (
  .seq (.region [.o 9 (.move false (.c (.lst .nil [])))]) (
  .seq (.seq (.region [.m 14 0,.o 15 (.nilck (.t 14)),.o 16 (.faddr 0 (.t 15)),.o 17 (.load 2 false 1 (.t 16)),.o 18 (.len (.t 17)),.o 19 (.move false (.c (.int .i64 0)))]) (
  .block 0 (.loop (.seq (.region [.o 20 (.bin .lss (.t 19) (.t 18))]) (
  .seq (.cond (.t 20) (.skip) (.exit 0)) (
  .seq (.block 1 (.seq (.region [.m 21 19,.o 22 (.iaddr 1 (.t 17) (.t 19)),.o 23 (.load 2 false 1 (.t 22)),.m 10 21,.m 11 23]) (
  .seq (.region [.m 24 10,.m 25 1,.o 26 (.bin .neq (.t 24) (.t 25)),.m 27 26,.g 28 (.move false (.t 11)) 27 true,.g 29 (.move false (.t 2)) 27 true,.g 30 (.call true F.grid_Meet [(.t 28), (.t 29)]) 27 true,.g 31 (.len (.t 30)) 27 true,.g 32 (.bin .gtr (.t 31) (.c (.int .i64 0))) 27 true,.o 33 (.pick (.t 27) (.t 32) (.c (.bool false)))]) (
  .cond (.t 33) (.region [.o 34 (.move true (.t 9)),.m 35 10,.o 36 (.buildS false 1 [(.t 35)]),.o 37 (.append 1 8 (.t 34) (.t 36)),.o 9 (.move true (.t 37))]) (.skip))))) (
  .region [.o 38 (.bin .add (.t 19) (.c (.int .i64 1))),.m 19 38]))))))) (
  .seq (.seq (.region [.m 39 0,.o 40 (.nilck (.t 39)),.o 41 (.faddr 1 (.t 40)),.o 42 (.load 2 false 1 (.t 41)),.m 43 3,.o 44 (.slice 2 (.t 42) none (some (.t 43)) none),.o 45 (.len (.t 44)),.o 46 (.move false (.c (.int .i64 0)))]) (
  .block 2 (.loop (.seq (.region [.o 47 (.bin .lss (.t 46) (.t 45))]) (
  .seq (.cond (.t 47) (.skip) (.exit 2)) (
  .seq (.block 3 (.seq (.region [.o 48 (.iaddr 2 (.t 44) (.t 46)),.o 49 (.load 2 true 2 (.t 48)),.o 13 (.alloc false [(.int .i64 0), (.lst .nil [])]),⟨none, .store 2 (.t 13) (.t 49), none⟩]) (
  .seq (.region [.o 50 (.faddr 0 (.t 13)),.o 51 (.load 2 false 1 (.t 50)),.m 52 1,.o 53 (.bin .neq (.t 51) (.t 52)),.m 54 53,.g 55 (.faddr 1 (.t 13)) 54 true,.g 56 (.load 2 false 1 (.t 55)) 54 true,.g 57 (.move false (.t 2)) 54 true,.g 58 (.call true F.grid_Meet [(.t 56), (.t 57)]) 54 true,.g 59 (.len (.t 58)) 54 true,.g 60 (.bin .gtr (.t 59) (.c (.int .i64 0))) 54 true,.o 61 (.pick (.t 54) (.t 60) (.c (.bool false))),.m 62 61,.g 63 (.move false (.t 9)) 62 true,.g 64 (.faddr 0 (.t 13)) 62 true,.g 65 (.load 2 false 1 (.t 64)) 62 true,.g 66 (.call true F.slices_Contains_int [(.t 63), (.t 65)]) 62 true,.g 67 (.un .not (.t 66)) 62 true,.o 68 (.pick (.t 62) (.t 67) (.c (.bool false)))]) (
  .cond (.t 68) (.region [.o 69 (.move true (.t 9)),.o 70 (.faddr 0 (.t 13)),.o 71 (.load 2 false 1 (.t 70)),.o 72 (.buildS false 1 [(.t 71)]),.o 73 (.append 1 8 (.t 69) (.t 72)),.o 9 (.move true (.t 73))]) (.skip))))) (
  .region [.o 74 (.bin .add (.t 46) (.c (.int .i64 1))),.m 46 74]))))))) (
  .seq (.region [.o 75 (.move true (.t 9)),.o 8 (.move true (.t 75))]) (
  .ret)))))
def R.lease_Table_blockers : List ARes := [.t 8]
set_option maxRecDepth 100000 in
theorem K.lease_Table_blockers : ckFun Try.prog Try.f187 C.lease_Table_blockers R.lease_Table_blockers = true := by kernel_rfl
def C.lease_Table_ring : ACode :=
  .seq (.region [.o 6 (.move false (.c (.bool false)))]) (
  .seq (.region [.o 7 (.move false (.c (.lst .nil [])))]) (
  .seq (.region [.m 11 2,.o 12 (.call true F.slices_Clone_int [(.t 11)]),.o 8 (.move true (.t 12))]) (
  .seq (.block 0 (.loop (.seq (.seq (.region [.m 13 8,.o 14 (.len (.t 13)),.o 15 (.bin .gtr (.t 14) (.c (.int .i64 0)))]) (
  .cond (.t 15) (.skip) (.exit 0))) (
  .block 1 (.seq (.region [.m 16 8,.o 17 (.iaddr 1 (.t 16) (.c (.int .i64 0))),.o 18 (.load 2 false 1 (.t 17)),.m 9 18]) (
  .seq (.region [.o 19 (.move true (.t 8)),.o 20 (.sliceT 1 19 (some (.c (.int .i64 1)))),.o 8 (.move true (.t 20))]) (
  .seq (.seq (.region [.m 21 9,.m 22 1,.o 23 (.bin .eql (.t 21) (.t 22))]) (
  .cond (.t 23) (.seq (.region [.o 6 (.move false (.c (.bool true)))]) (
  .ret)) (.skip))) (
  .seq (.seq (.region [.m 24 7,.m 25 9,.o 26 (.call true F.slices_Contains_int [(.t 24), (.t 25)])]) (
  .cond (.t 26) (.exit 1) (.skip))) (
  .seq (.region [.o 27 (.move true (.t 7)),.m 28 9,.o 29 (.buildS false 1 [(.t 28)]),.o 30 (.append 1 8 (.t 27) (.t 29)),.o 7 (.move true (.t 30))]) (
  .seq (.region [.m 31 0,.m 32 9,.o 33 (.call true F.lease_Table_at [(.t 31), (.t 32)]),.m 10 33]) (
  .seq (.region [.m 34 10,.o 35 (.bin .geq (.t 34) (.c (.int .i64 0)))]) (
  .cond (.t 35) (.region [.o 36 (.move true (.t 8)),.m 37 0,.m 38 9,.m 39 0,.o 40 (.nilck (.t 39)),.o 41 (.faddr 1 (.t 40)),.o 42 (.load 2 false 1 (.t 41)),.m 43 10,.o 44 (.iaddr 2 (.t 42) (.t 43)),.o 45 (.faddr 1 (.t 44)),.o 46 (.load 2 false 1 (.t 45)),.m 47 10,.o 48 (.call true F.lease_Table_blockers [(.t 37), (.t 38), (.t 46), (.t 47)]),.o 49 (.append 1 8 (.t 36) (.t 48)),.o 8 (.move true (.t 49))]) (.skip))))))))))))) (
  .seq (.region [.o 6 (.move false (.c (.bool false)))]) (
  .ret)))))
def R.lease_Table_ring : List ARes := [.t 6]
set_option maxRecDepth 100000 in
theorem K.lease_Table_ring : ckFun Try.prog Try.f188 C.lease_Table_ring R.lease_Table_ring = true := by kernel_rfl
end Go.Proofs.Ytpdajkbfemcdlaa
namespace Go.Proofs.Ytpdajkbfemcdlaa
open Go.Ge
def C.lease_Table_serve : ACode :=
  .seq (.region [.o 2 (.move false (.c (.int .i64 0)))]) (
  .block 0 (.loop (.seq (.seq (.region [.m 4 2,.m 5 0,.o 6 (.nilck (.t 5)),.o 7 (.faddr 1 (.t 6)),.o 8 (.load 2 false 1 (.t 7)),.o 9 (.len (.t 8)),.o 10 (.bin .lss (.t 4) (.t 9))]) (
  .cond (.t 10) (.skip) (.exit 0))) (
  .seq (.block 1 (.seq (.region [.m 13 0,.o 14 (.nilck (.t 13)),.o 15 (.faddr 1 (.t 14)),.o 16 (.load 2 false 1 (.t 15)),.m 17 2,.o 18 (.iaddr 2 (.t 16) (.t 17)),.o 19 (.load 2 true 2 (.t 18)),.o 3 (.alloc false [(.int .i64 0), (.lst .nil [])]),⟨none, .store 2 (.t 3) (.t 19), none⟩]) (
  .seq (.region [.m 20 0,.o 21 (.faddr 0 (.t 3)),.o 22 (.load 2 false 1 (.t 21)),.o 23 (.faddr 1 (.t 3)),.o 24 (.load 2 false 1 (.t 23)),.m 25 2,.o 26 (.call true F.lease_Table_blockers [(.t 20), (.t 22), (.t 24), (.t 25)]),.o 27 (.len (.t 26)),.o 28 (.bin .eql (.t 27) (.c (.int .i64 0)))]) (
  .cond (.t 28) (.seq (.drawn [0, 1, 2, 3, 4, 5, 6, 7, 8, 9, 10, 11, 12, 13, 14, 15, 16, 17, 18] [0, 1, 3, 7, 0, 16, 0, 64, 192, 448, 0, 1024, 4032, 8128, 0, 16384, 65472, 131071, 262143] [.m 29 0,.o 30 (.nilck (.t 29)),.o 31 (.faddr 0 (.t 30)),.o 32 (.load 2 false 1 (.t 31)),.o 33 (.faddr 0 (.t 3)),.o 34 (.load 1 false 1 (.t 33)),.m 35 0,.o 36 (.nilck (.t 35)),.o 37 (.faddr 0 (.t 36)),.o 38 (.load 2 false 1 (.t 37)),.o 39 (.faddr 0 (.t 3)),.o 40 (.load 1 false 1 (.t 39)),.o 41 (.iaddr 1 (.t 38) (.t 40)),.o 42 (.load 2 false 1 (.t 41)),.o 43 (.faddr 1 (.t 3)),.o 44 (.load 1 false 1 (.t 43)),.o 45 (.hop (.callp F.grid_Join [(.t 42), (.t 44)])),.o 46 (.iaddr 1 (.t 32) (.t 34)),⟨none, .store 1 (.t 46) (.t 45), none⟩]) (
  .seq (.region [.m 47 0,.m 48 0,.o 49 (.nilck (.t 48)),.o 50 (.faddr 1 (.t 49)),.o 51 (.load 2 false 1 (.t 50)),.m 52 2,.m 53 2,.o 54 (.bin .add (.t 53) (.c (.int .i64 1))),.o 55 (.call true F.slices_Delete_wish [(.t 51), (.t 52), (.t 54)]),.o 56 (.nilck (.t 47)),.o 57 (.faddr 1 (.t 56)),⟨none, .store 1 (.t 57) (.t 55), none⟩]) (
  .region [.o 2 (.move false (.c (.int .i64 (-1))))]))) (.skip))))) (
  .region [.m 11 2,.o 12 (.bin .add (.t 11) (.c (.int .i64 1))),.m 2 12])))))
def R.lease_Table_serve : List ARes := []
set_option maxRecDepth 100000 in
theorem K.lease_Table_serve : ckFun Try.prog Try.f189 C.lease_Table_serve R.lease_Table_serve = true := by kernel_rfl
def C.lease_Table_Ask : ACode :=
  .seq (.region [.o 6 (.move false (.c (.int .i64 0)))]) (
  .seq (.seq (.region [.m 12 1,.o 13 (.bin .lss (.t 12) (.c (.int .i64 0))),.m 14 13,.g 15 (.move false (.t 1)) 14 false,.g 16 (.move false (.t 0)) 14 false,.g 17 (.nilck (.t 16)) 14 false,.g 18 (.faddr 0 (.t 17)) 14 false,.g 19 (.load 2 false 1 (.t 18)) 14 false,.g 20 (.len (.t 19)) 14 false,.g 21 (.bin .geq (.t 15) (.t 20)) 14 false,.o 22 (.pick (.t 14) (.c (.bool true)) (.t 21))]) (
  .cond (.t 22) (.seq (.region [.o 6 (.move false (.c (.int .i64 1)))]) (
  .ret)) (.skip))) (
  .seq (.seq (.region [.m 23 2,.o 24 (.call true F.grid_Check [(.t 23)]),.m 7 24]) (
  .seq (.region [.m 25 7,.o 26 (.bin .neq (.t 25) (.c (.int .i64 0)))]) (
  .cond (.t 26) (.seq (.region [.m 27 7,.m 6 27]) (
  .ret)) (.skip)))) (
  .seq (.region [.m 28 2,.m 29 0,.o 30 (.nilck (.t 29)),.o 31 (.faddr 0 (.t 30)),.o 32 (.load 2 false 1 (.t 31)),.m 33 1,.o 34 (.iaddr 1 (.t 32) (.t 33)),.o 35 (.load 2 false 1 (.t 34)),.o 36 (.call true F.grid_Minus [(.t 28), (.t 35)]),.m 8 36]) (
  .seq (.seq (.region [.m 37 8,.o 38 (.len (.t 37)),.o 39 (.bin .eql (.t 38) (.c (.int .i64 0)))]) (
  .cond (.t 39) (.seq (.region [.o 6 (.move false (.c (.int .i64 0)))]) (
  .ret)) (.skip))) (
  .seq (.seq (.region [.m 40 0,.m 41 1,.o 42 (.call true F.lease_Table_at [(.t 40), (.t 41)]),.m 9 42]) (
  .seq (.region [.m 43 9,.o 44 (.bin .geq (.t 43) (.c (.int .i64 0)))]) (
  .cond (.t 44) (.seq (.seq (.region [.m 45 8,.m 46 0,.o 47 (.nilck (.t 46)),.o 48 (.faddr 1 (.t 47)),.o 49 (.load 2 false 1 (.t 48)),.m 50 9,.o 51 (.iaddr 2 (.t 49) (.t 50)),.o 52 (.faddr 1 (.t 51)),.o 53 (.load 2 false 1 (.t 52)),.o 54 (.call true F.slices_Equal_Cell [(.t 45), (.t 53)])]) (
  .cond (.t 54) (.seq (.region [.o 6 (.move false (.c (.int .i64 0)))]) (
  .ret)) (.skip))) (
  .seq (.region [.o 6 (.move false (.c (.int .i64 7)))]) (
  .ret))) (.skip)))) (
  .seq (.region [.m 55 0,.o 56 (.nilck (.t 55)),.o 57 (.faddr 0 (.t 56)),.o 58 (.load 2 false 1 (.t 57)),.m 59 1,.o 60 (.iaddr 1 (.t 58) (.t 59)),.o 61 (.load 2 false 1 (.t 60)),.m 62 8,.o 63 (.call true F.grid_Join [(.t 61), (.t 62)]),.o 10 (.move true (.t 63))]) (
  .seq (.seq (.region [.m 64 10,.o 65 (.call true F.grid_Check [(.t 64)]),.o 66 (.bin .neq (.t 65) (.c (.int .i64 0)))]) (
  .cond (.t 66) (.seq (.region [.o 6 (.move false (.c (.int .i64 6)))]) (
  .ret)) (.skip))) (
  .seq (.region [.m 67 0,.m 68 1,.m 69 8,.m 70 0,.o 71 (.nilck (.t 70)),.o 72 (.faddr 1 (.t 71)),.o 73 (.load 2 false 1 (.t 72)),.o 74 (.len (.t 73)),.o 75 (.call true F.lease_Table_blockers [(.t 67), (.t 68), (.t 69), (.t 74)]),.m 11 75]) (
  .seq (.block 0 (.seq (.region [.m 89 11,.o 90 (.len (.t 89)),.o 91 (.bin .eql (.t 90) (.c (.int .i64 0))),.m 88 91]) (
  .cond (.t 88) (.region [.m 92 0,.o 93 (.nilck (.t 92)),.o 94 (.faddr 0 (.t 93)),.o 95 (.load 2 false 1 (.t 94)),.m 96 1,.o 97 (.move true (.t 10)),.o 98 (.iaddr 1 (.t 95) (.t 96)),⟨none, .store 1 (.t 98) (.t 97), none⟩]) (.seq (.region [.m 100 0,.m 101 1,.m 102 11,.o 103 (.call true F.lease_Table_ring [(.t 100), (.t 101), (.t 102)]),.m 99 103]) (
  .cond (.t 99) (.seq (.region [.o 6 (.move false (.c (.int .i64 11)))]) (
  .ret)) (.region [.m 76 0,.m 77 0,.o 78 (.nilck (.t 77)),.o 79 (.faddr 1 (.t 78)),.o 80 (.loadT (.t 79)),.m 81 1,.m 82 8,.o 83 (.build [(.int .i64 0), (.lst .nil [])] [(0, 1, (.t 81)), (1, 1, (.t 82))]),.o 84 (.buildS false 2 [(.t 83)]),.o 85 (.hop (.appendR 2 32 (.t 80) (.t 84))),.o 86 (.nilck (.t 76)),.o 87 (.faddr 1 (.t 86)),⟨none, .store 1 (.t 87) (.t 85), none⟩])))))) (
  .seq (.region [.o 6 (.move false (.c (.int .i64 0)))]) (
  .ret)))))))))))
def R.lease_Table_Ask : List ARes := [.t 6]
set_option maxRecDepth 100000 in
theorem K.lease_Table_Ask : ckFun Try.prog Try.f131 C.lease_Table_Ask R.lease_Table_Ask = true := by kernel_rfl
def C.lease_Table_Done : ACode :=
  .seq (.region [.o 6 (.move false (.c (.int .i64 0)))]) (
  .seq (.seq (.region [.m 8 1,.o 9 (.bin .lss (.t 8) (.c (.int .i64 0))),.m 10 9,.g 11 (.move false (.t 1)) 10 false,.g 12 (.move false (.t 0)) 10 false,.g 13 (.nilck (.t 12)) 10 false,.g 14 (.faddr 0 (.t 13)) 10 false,.g 15 (.load 2 false 1 (.t 14)) 10 false,.g 16 (.len (.t 15)) 10 false,.g 17 (.bin .geq (.t 11) (.t 16)) 10 false,.o 18 (.pick (.t 10) (.c (.bool true)) (.t 17))]) (
  .cond (.t 18) (.seq (.region [.o 6 (.move false (.c (.int .i64 1)))]) (
  .ret)) (.skip))) (
  .seq (.seq (.region [.m 19 2,.o 20 (.call true F.grid_Check [(.t 19)]),.m 7 20]) (
  .seq (.region [.m 21 7,.o 22 (.bin .neq (.t 21) (.c (.int .i64 0)))]) (
  .cond (.t 22) (.seq (.region [.m 23 7,.m 6 23]) (
  .ret)) (.skip)))) (
  .seq (.seq (.region [.m 24 2,.m 25 0,.o 26 (.nilck (.t 25)),.o 27 (.faddr 0 (.t 26)),.o 28 (.load 2 false 1 (.t 27)),.m 29 1,.o 30 (.iaddr 1 (.t 28) (.t 29)),.o 31 (.load 2 false 1 (.t 30)),.o 32 (.call true F.grid_Within [(.t 24), (.t 31)]),.o 33 (.un .not (.t 32))]) (
  .cond (.t 33) (.seq (.region [.o 6 (.move false (.c (.int .i64 4)))]) (
  .ret)) (.skip))) (
  .seq (.drawn [0, 1, 2, 3, 4, 5, 6, 7, 8, 9, 10, 11, 12, 13, 14, 15] [0, 1, 3, 7, 0, 0, 32, 96, 224, 0, 992, 2016, 0, 8160, 16383, 32767] [.m 34 0,.o 35 (.nilck (.t 34)),.o 36 (.faddr 0 (.t 35)),.o 37 (.load 2 false 1 (.t 36)),.m 38 1,.m 39 0,.o 40 (.nilck (.t 39)),.o 41 (.faddr 0 (.t 40)),.o 42 (.load 2 false 1 (.t 41)),.m 43 1,.o 44 (.iaddr 1 (.t 42) (.t 43)),.o 45 (.load 2 false 1 (.t 44)),.m 46 2,.o 47 (.hop (.callp F.grid_Minus [(.t 45), (.t 46)])),.o 48 (.iaddr 1 (.t 37) (.t 38)),⟨none, .store 1 (.t 48) (.t 47), none⟩]) (
  .seq (.region [.m 49 0,.o 50 (.call true F.lease_Table_serve [(.t 49)])]) (
  .seq (.region [.o 6 (.move false (.c (.int .i64 0)))]) (
  .ret)))))))
def R.lease_Table_Done : List ARes := [.t 6]
set_option maxRecDepth 100000 in
theorem K.lease_Table_Done : ckFun Try.prog Try.f133 C.lease_Table_Done R.lease_Table_Done = true := by kernel_rfl
def C.lease_Table_Cells : ACode :=
  .seq (.region [.o 4 (.move false (.c (.lst .nil [])))]) (
  .seq (.seq (.region [.m 5 1,.o 6 (.bin .lss (.t 5) (.c (.int .i64 0))),.m 7 6,.g 8 (.move false (.t 1)) 7 false,.g 9 (.move false (.t 0)) 7 false,.g 10 (.nilck (.t 9)) 7 false,.g 11 (.faddr 0 (.t 10)) 7 false,.g 12 (.load 2 false 1 (.t 11)) 7 false,.g 13 (.len (.t 12)) 7 false,.g 14 (.bin .geq (.t 8) (.t 13)) 7 false,.o 15 (.pick (.t 7) (.c (.bool true)) (.t 14))]) (
  .cond (.t 15) (.seq (.region [.o 4 (.move false (.c (.lst .nil [])))]) (
  .ret)) (.skip))) (
  .seq (.region [.m 16 0,.o 17 (.nilck (.t 16)),.o 18 (.faddr 0 (.t 17)),.o 19 (.load 2 false 1 (.t 18)),.m 20 1,.o 21 (.iaddr 1 (.t 19) (.t 20)),.o 22 (.load 2 false 1 (.t 21)),.o 23 (.call true F.slices_Clone_Cell [(.t 22)]),.o 4 (.move true (.t 23))]) (
  .ret)))
def R.lease_Table_Cells : List ARes := [.t 4]
set_option maxRecDepth 100000 in
theorem K.lease_Table_Cells : ckFun Try.prog Try.f132 C.lease_Table_Cells R.lease_Table_Cells = true := by kernel_rfl
def C.lease_Table_Waits : ACode :=
  .seq (.region [.o 4 (.move false (.c (.lst .nil [])))]) (
  .seq (.seq (.region [.m 6 0,.m 7 1,.o 8 (.call true F.lease_Table_at [(.t 6), (.t 7)]),.m 5 8]) (
  .seq (.region [.m 9 5,.o 10 (.bin .geq (.t 9) (.c (.int .i64 0)))]) (
  .cond (.t 10) (.seq (.region [.m 11 0,.o 12 (.nilck (.t 11)),.o 13 (.faddr 1 (.t 12)),.o 14 (.load 2 false 1 (.t 13)),.m 15 5,.o 16 (.iaddr 2 (.t 14) (.t 15)),.o 17 (.faddr 1 (.t 16)),.o 18 (.load 2 false 1 (.t 17)),.o 19 (.call true F.slices_Clone_Cell [(.t 18)]),.o 4 (.move true (.t 19))]) (
  .ret)) (.skip)))) (
  .seq (.region [.o 4 (.move false (.c (.lst .nil [])))]) (
  .ret)))
def R.lease_Table_Waits : List ARes := [.t 4]
set_option maxRecDepth 100000 in
theorem K.lease_Table_Waits : ckFun Try.prog Try.f134 C.lease_Table_Waits R.lease_Table_Waits = true := by kernel_rfl
end Go.Proofs.Ytpdajkbfemcdlaa
namespace Go.Proofs.Ytpdajkbfemcdlaa
open Go.Ge
def C.ganttop_TopWaits : ACode :=
  .seq (.region [.o 4 (.move false (.c (.bool false)))]) (
  .seq (.seq (.region [.o 22 (.buildS false 1 [(.c (.int .i64 0))]),.o 23 (.buildS false 1 [(.t 22)]),.o 24 (.call true F.ring_Find [(.t 23)]),.m 21 24,.o 25 (.ext 0 (.t 21)),.o 26 (.ext 1 (.t 21)),.m 5 25,.m 6 26]) (
  .seq (.region [.m 27 6,.o 28 (.bin .neq (.t 27) (.c (.int .i64 0))),.m 29 28,.g 30 (.move false (.t 5)) 29 false,.g 31 (.buildS false 1 [(.c (.int .i64 0))]) 29 false,.g 32 (.call true F.slices_Equal_int [(.t 30), (.t 31)]) 29 false,.g 33 (.un .not (.t 32)) 29 false,.o 34 (.pick (.t 29) (.c (.bool true)) (.t 33))]) (
  .cond (.t 34) (.seq (.region [.o 4 (.move false (.c (.bool false)))]) (
  .ret)) (.skip)))) (
  .seq (.region [.m 35 0,.o 36 (.call true F.gantmake_Below [(.t 35), (.c (.int .i64 3))]),.o 37 (.bin .add (.c (.int .i64 2)) (.t 36)),.m 0 37]) (
  .seq (.region [.m 39 0,.o 40 (.call true F.lease_New [(.t 39)]),.m 38 40,.o 41 (.ext 0 (.t 38)),.o 42 (.ext 1 (.t 38)),.m 7 41,.m 8 42]) (
  .seq (.seq (.region [.m 43 8,.o 44 (.bin .neq (.t 43) (.c (.int .i64 0))),.m 45 44,.g 46 (.move false (.t 7)) 45 false,.g 47 (.pnil false (.t 46)) 45 false,.o 48 (.pick (.t 45) (.c (.bool true)) (.t 47))]) (
  .cond (.t 48) (.seq (.region [.o 4 (.move false (.c (.bool false)))]) (
  .ret)) (.skip))) (
  .seq (.seq (.region [.m 49 1,.m 50 1,.o 51 (.len (.t 50)),.o 52 (.mn (.t 51) [(.c (.int .i64 40))]),.o 53 (.slice 1 (.t 49) none (some (.t 52)) none),.o 54 (.len (.t 53)),.o 55 (.move false (.c (.int .i64 0)))]) (
  .block 0 (.loop (.seq (.region [.o 56 (.bin .lss (.t 55) (.t 54))]) (
  .seq (.cond (.t 56) (.skip) (.exit 0)) (
  .seq (.block 1 (.seq (.region [.o 57 (.iaddr 1 (.t 53) (.t 55)),.o 58 (.load 2 false 1 (.t 57)),.m 10 58]) (
  .seq (.seq (.region [.m 59 10,.o 60 (.call true F.gantmake_Below [(.t 59), (.c (.int .i64 5))]),.o 61 (.bin .eql (.t 60) (.c (.int .i64 0)))]) (
  .cond (.t 61) (.seq (.region [.m 62 10,.o 63 (.bin .quo (.t 62) (.c (.int .i64 5))),.m 64 0,.o 65 (.call true F.gantmake_Below [(.t 63), (.t 64)]),.m 11 65]) (
  .seq (.region [.m 66 7,.m 67 11,.m 68 7,.m 69 11,.o 70 (.call true F.lease_Table_Cells [(.t 68), (.t 69)]),.o 71 (.call true F.lease_Table_Done [(.t 66), (.t 67), (.t 70)])]) (
  .exit 1))) (.skip))) (
  .region [.m 72 7,.m 73 10,.o 74 (.bin .quo (.t 73) (.c (.int .i64 5))),.m 75 0,.o 76 (.call true F.gantmake_Below [(.t 74), (.t 75)]),.m 77 10,.o 78 (.bin .quo (.t 77) (.c (.int .i64 7))),.m 79 10,.o 80 (.bin .quo (.t 79) (.c (.int .i64 11))),.o 81 (.buildS false 1 [(.t 78), (.t 80)]),.o 82 (.call true F.gantmake_Cells [(.t 81)]),.o 83 (.call true F.lease_Table_Ask [(.t 72), (.t 76), (.t 82)])])))) (
  .region [.o 84 (.bin .add (.t 55) (.c (.int .i64 1))),.m 55 84]))))))) (
  .seq (.region [.m 85 0,.o 86 (.mkslice 1 24 true (.lst .nil []) (.t 85)),.o 12 (.move true (.t 86))]) (
  .seq (.thaw 12 (.region [.o 13 (.move false (.c (.lst .nil []))),.o 14 (.move false (.c (.lst .nil [])))])) (
  .seq (.seq (.region [.m 87 0,.o 88 (.move false (.c (.int .i64 0)))]) (
  .block 2 (.loop (.seq (.region [.o 89 (.bin .lss (.t 88) (.t 87))]) (
  .seq (.cond (.t 89) (.skip) (.exit 2)) (
  .seq (.block 3 (.seq (.region [.m 90 88,.m 15 90]) (
  .seq (.region [.o 91 (.move true (.t 13)),.m 92 7,.m 93 15,.o 94 (.call true F.lease_Table_Cells [(.t 92), (.t 93)]),.o 95 (.buildS false 1 [(.t 94)]),.o 96 (.append 1 24 (.t 91) (.t 95)),.o 97 (.move true (.t 14)),.m 98 7,.m 99 15,.o 100 (.call true F.lease_Table_Waits [(.t 98), (.t 99)]),.o 101 (.buildS false 1 [(.t 100)]),.o 102 (.append 1 24 (.t 97) (.t 101)),.o 13 (.move true (.t 96)),.o 14 (.move true (.t 102))]) (
  .seq (.region [.m 103 0,.o 104 (.move false (.c (.int .i64 0)))]) (
  .block 4 (.loop (.seq (.region [.o 105 (.bin .lss (.t 104) (.t 103))]) (
  .seq (.cond (.t 105) (.skip) (.exit 4)) (
  .seq (.block 5 (.seq (.region [.m 106 104,.m 16 106]) (
  .seq (.region [.m 107 16,.m 108 15,.o 109 (.bin .neq (.t 107) (.t 108)),.m 110 109,.g 111 (.move false (.t 7)) 110 true,.g 112 (.move false (.t 15)) 110 true,.g 113 (.call true F.lease_Table_Waits [(.t 111), (.t 112)]) 110 true,.g 114 (.move false (.t 7)) 110 true,.g 115 (.move false (.t 16)) 110 true,.g 116 (.call true F.lease_Table_Cells [(.t 114), (.t 115)]) 110 true,.g 117 (.call true F.grid_Meet [(.t 113), (.t 116)]) 110 true,.g 118 (.len (.t 117)) 110 true,.g 119 (.bin .gtr (.t 118) (.c (.int .i64 0))) 110 true,.o 120 (.pick (.t 110) (.t 119) (.c (.bool false)))]) (
  .cond (.t 120) (.region [.m 121 12,.m 122 15,.m 123 12,.m 124 15,.o 125 (.iaddr 1 (.t 123) (.t 124)),.o 126 (.loadT (.t 125)),.m 127 16,.o 128 (.buildS false 1 [(.t 127)]),.o 129 (.append 1 8 (.t 126) (.t 128)),.o 130 (.iaddr 1 (.t 121) (.t 122)),⟨none, .store 1 (.t 130) (.t 129), none⟩]) (.skip))))) (
  .region [.o 131 (.bin .add (.t 104) (.c (.int .i64 1))),.m 104 131])))))))))) (
  .region [.o 132 (.bin .add (.t 88) (.c (.int .i64 1))),.m 88 132]))))))) (
  .seq (.seq (.own 12 false 1 (.grab 12 (.region [.m 134 12,.o 135 (.call true F.ring_Find [(.t 134)]),.m 133 135,.o 136 (.ext 0 (.t 133)),.o 137 (.ext 1 (.t 133)),.m 17 136,.m 18 137]))) (
  .seq (.region [.m 138 18,.o 139 (.bin .neq (.t 138) (.c (.int .i64 4)))]) (
  .cond (.t 139) (.seq (.region [.o 4 (.move false (.c (.bool false)))]) (
  .ret)) (.skip)))) (
  .seq (.region [.m 141 13,.m 142 14,.o 143 (.call true F.ring_Safe [(.t 141), (.t 142)]),.m 140 143,.o 144 (.ext 0 (.t 140)),.o 145 (.ext 1 (.t 140)),.m 19 144,.m 20 145]) (
  .seq (.region [.m 146 20,.o 147 (.bin .eql (.t 146) (.c (.int .i64 0))),.m 148 147,.g 149 (.move false (.t 19)) 148 true,.g 150 (.len (.t 149)) 148 true,.g 151 (.move false (.t 0)) 148 true,.g 152 (.bin .eql (.t 150) (.t 151)) 148 true,.o 153 (.pick (.t 148) (.t 152) (.c (.bool false))),.m 4 153]) (
  .ret))))))))))))
def R.ganttop_TopWaits : List ARes := [.t 4]
set_option maxRecDepth 100000 in
theorem K.ganttop_TopWaits : ckFun Try.prog Try.f39 C.ganttop_TopWaits R.ganttop_TopWaits = true := by kernel_rfl
end Go.Proofs.Ytpdajkbfemcdlaa
