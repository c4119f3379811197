import Derived.Test.YtpdajkbfemcdlaaGeSet
import Derived.Sort.LotD3
import Derived.Sort.AssemblyPlain
import Derived.Test.YtpdajkbfemcdlaaZA1
set_option linter.unusedSimpArgs false
set_option linter.unusedVariables false
namespace Go.Proofs.Ytpdajkbfemcdlaa
open Go.Ge
def four (n : Int) : List Int := beBytes n 4
end Go.Proofs.Ytpdajkbfemcdlaa
set_option maxRecDepth 10000
namespace Go.Proofs.Ytpdajkbfemcdlaa
open Go.Ge
theorem own_rd {q : Own} (xs : List AVal) (h : q = .nil ∨ q = .sh ∨ ∃ z, q = .app z) : ∃ q', Rdo q' ∧ (q' = .nil → q = .nil) ∧ rdv (.lst q xs) = .lst q' xs ∧ rd1 (.lst q xs) = .lst q' xs ∧ Ge.rdc (.lst q xs) = .lst q' xs := by
  rcases h with rfl | rfl | ⟨z, rfl⟩
  · exact ⟨.nil, .inr rfl, fun _ => rfl, rfl, rfl, rfl⟩
  · exact ⟨.sh, .inl rfl, (fun e => by cases e), rfl, rfl, rfl⟩
  · exact ⟨.sh, .inl rfl, (fun e => by cases e), rfl, rfl, rfl⟩
end Go.Proofs.Ytpdajkbfemcdlaa
namespace Go.Proofs.Ytpdajkbfemcdlaa
open Go.Ge
theorem take_all {α : Type} (l : List α) (n : Nat) : (l.drop n).take (l.length - n) = l.drop n := List.take_of_length_le (by simp)
theorem getD_get {l : List Int} {i : Nat} (h : i < l.length) : l.getD i 0 = l[i] := by simp [List.getD_eq_getElem?_getD, h]
end Go.Proofs.Ytpdajkbfemcdlaa
namespace Go.Proofs.Ytpdajkbfemcdlaa
open Go.Ge
def val (l : List Int) : Int := l.foldl (fun n x => 256 * n + x) 0
def cellB (c : Cell) : List Int := [(c.X + 64) % 256, (c.Y + 64) % 256]
def cellsB (l : List Cell) : List Int := l.flatMap cellB
def bodyB (m : Msg) : List Int := [m.Kind % 256, m.From % 256, m.To % 256] ++ beBytes m.Seq 4 ++ beBytes m.Clock 4 ++ beBytes m.Cells.length 2 ++ cellsB m.Cells
def frame (m : Msg) : List Int := bodyB m ++ four (iv (crc (bodyB m)))
def cellsOf : List Int → List Cell
  | x :: y :: l => ⟨x - 64, y - 64⟩ :: cellsOf l
  | _ => []
end Go.Proofs.Ytpdajkbfemcdlaa
namespace Go.Proofs.Ytpdajkbfemcdlaa
open Go.Ge
theorem take_snoc {α : Type} {l : List α} {i : Nat} (h : i < l.length) : l.take (i + 1) = l.take i ++ [l[i]] := by
  rw [List.take_add_one, List.getElem?_eq_getElem h]; rfl
end Go.Proofs.Ytpdajkbfemcdlaa
namespace Go.Proofs.Ytpdajkbfemcdlaa
open Go.Ge
def flatC (l : List Cell) : List AVal := l.flatMap fun c => [.int .i64 c.X, .int .i64 c.Y]
theorem flatC_length (l : List Cell) : (flatC l).length = l.length * 2 := by
  induction l with
  | nil => rfl
  | cons c l ih =>
    have e : flatC (c :: l) = [.int .i64 c.X, .int .i64 c.Y] ++ flatC l := rfl
    rw [e, List.length_append, ih, List.length_cons]; simp; omega
theorem flatC_append (a b : List Cell) : flatC (a ++ b) = flatC a ++ flatC b := by simp [flatC]
theorem flatC_cells (l : List Cell) : (cellsA l).flatMap AVal.cells = flatC l := by
  induction l with
  | nil => rfl
  | cons c l ih =>
    have e : cellsA (c :: l) = cellA c :: cellsA l := rfl
    rw [e, List.flatMap_cons, ih]; rfl
theorem flatC_split {l : List Cell} {j : Nat} (h : j < l.length) : flatC l = flatC (l.take j) ++ ([.int .i64 l[j].X, .int .i64 l[j].Y] ++ flatC (l.drop (j + 1))) := by
  conv => lhs; rw [← List.take_append_drop j l, List.drop_eq_getElem_cons h]
  rw [flatC_append]; rfl
theorem flatC_get {l : List Cell} {j : Nat} {rest : List AVal} (h : j < l.length) : ((flatC l ++ rest).drop (j * 2)).take 2 = [.int .i64 l[j].X, .int .i64 l[j].Y] := by
  rw [flatC_split h, List.append_assoc, List.drop_append_of_le_length (by rw [flatC_length, List.length_take]; omega)]
  rw [List.drop_of_length_le (by rw [flatC_length, List.length_take]; omega)]
  rfl
theorem flatC_set {l : List Cell} {j : Nat} {rest : List AVal} {c : Cell} (h : j < l.length) : fillV (flatC l ++ rest) (j * 2) [.int .i64 c.X, .int .i64 c.Y] = flatC (l.set j c) ++ rest := by
  have hl : (flatC (l.take j)).length = j * 2 := by rw [flatC_length, List.length_take]; omega
  have e1 : flatC (l.set j c) = flatC (l.take j) ++ ([.int .i64 c.X, .int .i64 c.Y] ++ flatC (l.drop (j + 1))) := by
    rw [List.set_eq_take_append_cons_drop, if_pos h, flatC_append]; rfl
  rw [e1, flatC_split h]
  generalize flatC (l.take j) = A at *
  generalize flatC (l.drop (j + 1)) = B at *
  unfold fillV
  have e2 : A ++ ([AVal.int .i64 l[j].X, AVal.int .i64 l[j].Y] ++ B) ++ rest = A ++ ([AVal.int .i64 l[j].X, AVal.int .i64 l[j].Y] ++ (B ++ rest)) := by simp
  have e3 : A ++ ([AVal.int .i64 l[j].X, AVal.int .i64 l[j].Y] ++ B) ++ rest = (A ++ [AVal.int .i64 l[j].X, AVal.int .i64 l[j].Y]) ++ (B ++ rest) := by simp
  have t1 : (A ++ ([AVal.int .i64 l[j].X, AVal.int .i64 l[j].Y] ++ B) ++ rest).take (j * 2) = A := by rw [e2, List.take_left' hl]
  have t2 : (A ++ ([AVal.int .i64 l[j].X, AVal.int .i64 l[j].Y] ++ B) ++ rest).drop (j * 2 + [AVal.int .i64 c.X, AVal.int .i64 c.Y].length) = B ++ rest := by rw [e3, List.drop_left' (by simp [hl])]
  rw [t1, t2]
  simp
theorem set_same {h : List HObj} {id : Nat} {x : HObj} (e : h[id]? = some x) : h.set id x = h := by
  obtain ⟨hl, e⟩ := List.getElem?_eq_some_iff.1 e
  rw [← e]; exact List.set_getElem_self _
theorem Len_ok (x : Nat) (hx : x < 256) (h : List HObj) : ACalls Try.prog F.bits_Len64 [.int .u64 x] h (fun v h' => (∃ r, v = .int .i64 r) ∧ h' = h) := by
  refine ACalls.of_aw Try.func228 K.bits_Len64 (by simp [Try.f228]) ?_
  generalize hQ : retQ R.bits_Len64 _ = Q
  simp only[C.bits_Len64,go_sem,↓reduceIte,reduceCtorEq,reduceIte]
  have h1 : ¬ ((4294967296 : Int) ≤ x) := by omega
  have h2 : ¬ ((65536 : Int) ≤ x) := by omega
  have h3 : ¬ ((256 : Int) ≤ x) := by omega
  simp only[h1,h2,h3,wrapU8_mod,go_sem,↓reduceIte,Nat.reduceEqDiff,reduceCtorEq,reduceIte]
  refine ⟨?_, ?_⟩
  · refine ⟨by omega, ?_⟩
    show (x : Int) % 256 < ((256 : Nat) : Int); omega
  subst hQ
  simp only[R.bits_Len64,go_sem,↓reduceIte,reduceIte]
  exact ⟨_, rfl⟩
theorem BLen_ok (x : Nat) (hx : x < 256) (h : List HObj) : ACalls Try.prog F.bits_Len [.int .u64 x] h (fun v h' => (∃ r, v = .int .i64 r) ∧ h' = h) := by
  refine ACalls.of_aw Try.func204 K.bits_Len (by simp [Try.f204]) ?_
  generalize hQ : retQ R.bits_Len _ = Q
  simp only[C.bits_Len,go_sem,↓reduceIte,reduceCtorEq,reduceIte]
  refine callG_ok (Len_ok x hx _) (by simp only[go_sem]) ?_
  rintro _ _ ⟨⟨r, rfl⟩, hhh⟩
  rw [hhh]
  clear hhh
  simp (disch:=first|assumption|omega) only[go_sem,↓reduceIte,reduceIte]
  subst hQ
  simp (disch:=first|assumption|omega) only[R.bits_Len,go_sem,↓reduceIte,reduceIte]
  exact ⟨_, rfl⟩
theorem insNil_ok (f : Nat) (h : List HObj) : ACalls Try.prog F.slices_insertionSortCmpFunc_Cell [.lst .nil [], .int .i64 0, .int .i64 0, .func f []] h (fun v h' => v = .tup [] ∧ h' = h) := by
  refine ACalls.of_aw Try.func219 K.slices_insertionSortCmpFunc_Cell (by simp [Try.f219]) ?_
  generalize hQ : retQ R.slices_insertionSortCmpFunc_Cell _ = Q
  simp only[C.slices_insertionSortCmpFunc_Cell,go_sem,↓reduceIte,reduceIte]
  refine aw_count (fun d S => S.env 8 = .int .i64 1 ∧ S.env 2 = .int .i64 0 ∧ S.heap = h) (n := 0) ⟨by simp (disch:=first|assumption|omega) only[go_sem,↓reduceIte,reduceIte], by simp (disch:=first|assumption|omega) only[go_sem,↓reduceIte,Nat.reduceEqDiff,reduceIte], by simp (disch:=first|assumption|omega) only[go_sem]⟩ ?_
  rintro d S ⟨e8, e2, eh⟩
  simp only[e8,e2,go_sem,↓reduceIte,Nat.reduceEqDiff,Nat.reduceLT,reduceIte,Int.reduceLT]
  subst hQ
  simp only[R.slices_insertionSortCmpFunc_Cell,eh,go_sem]
theorem pdqNil_ok (f : Nat) (lim : Int) (h : List HObj) : ACalls Try.prog F.slices_pdqsortCmpFunc_Cell [.lst .nil [], .int .i64 0, .int .i64 0, .int .i64 lim, .func f []] h (fun v h' => v = .tup [] ∧ h' = h) := by
  refine ACalls.of_aw Try.func203 K.slices_pdqsortCmpFunc_Cell (by simp [Try.f203]) ?_
  generalize hQ : retQ R.slices_pdqsortCmpFunc_Cell _ = Q
  simp only[C.slices_pdqsortCmpFunc_Cell,go_sem]
  refine aw_count (fun d S => S.env 0 = .lst .nil [] ∧ S.env 1 = .int .i64 0 ∧ S.env 2 = .int .i64 0 ∧ S.env 4 = .func f [] ∧ S.heap = h) (n := 0) ⟨by simp only[go_sem,↓reduceIte,reduceCtorEq,reduceIte], by simp only[go_sem,↓reduceIte,Nat.reduceEqDiff,reduceIte], by simp only[go_sem,↓reduceIte,Nat.reduceEqDiff,reduceIte], by simp only[go_sem,↓reduceIte,Nat.reduceEqDiff,reduceIte], by simp only[go_sem]⟩ ?_
  rintro d S ⟨e0, e1, e2, e4, eh⟩
  simp (disch:=first|assumption|omega) only[e0,e1,e2,e4,go_sem,↓reduceIte,Nat.reduceEqDiff,reduceCtorEq,reduceIte,Int.reduceLE]
  refine callG_ok (insNil_ok f _) (by simp (disch:=first|assumption|omega) only[go_sem]) ?_
  rintro _ _ ⟨rfl, hhh⟩
  rw [hhh]
  clear hhh
  simp only[go_sem]
  subst hQ
  simp only[R.slices_pdqsortCmpFunc_Cell,eh,go_sem]
theorem SortNil_ok (f : Nat) (h : List HObj) : ACalls Try.prog F.slices_SortFunc_Cell [.lst .nil [], .func f []] h (fun v h' => v = .tup [] ∧ h' = h) := by
  refine ACalls.of_aw Try.func180 K.slices_SortFunc_Cell (by simp [Try.f180]) ?_
  generalize hQ : retQ R.slices_SortFunc_Cell _ = Q
  simp only[C.slices_SortFunc_Cell,go_sem,↓reduceIte,Nat.reduceEqDiff,reduceCtorEq,reduceIte]
  refine callG_ok (BLen_ok 0 (by omega) _) (by simp only[go_sem]) ?_
  rintro _ _ ⟨⟨r, rfl⟩, hhh⟩
  rw [hhh]
  clear hhh
  simp only[go_sem,↓reduceIte,Nat.reduceEqDiff,reduceIte]
  refine callG_ok (pdqNil_ok f r _) (by simp (disch:=first|assumption|omega) only[go_sem]) ?_
  rintro _ _ ⟨rfl, hhh⟩
  rw [hhh]
  clear hhh
  simp (disch:=first|assumption|omega) only[go_sem]
  subst hQ
  simp (disch:=first|assumption|omega) only[R.slices_SortFunc_Cell,go_sem]
theorem IndexCell_ok (o : Own) (l : List Cell) (c : Cell) (ho : Rdo o) (hl : l.length < 4611686018427387904) (h : List HObj) :
    ACalls Try.prog F.slices_Index_Cell [.lst o (cellsA l), cellA c] h (fun v h' => (∃ r : Int, v = .int .i64 r ∧ (r = -1 ∧ c ∉ l ∨ 0 ≤ r ∧ c ∈ l)) ∧ h' = h) := by
  refine ACalls.of_aw Try.func202 K.slices_Index_Cell (by simp [Try.f202]) ?_
  generalize hQ : retQ R.slices_Index_Cell _ = Q
  simp (disch:=first|assumption|omega) only[C.slices_Index_Cell,go_sem,↓reduceIte,reduceCtorEq,reduceIte,Int.reduceNeg]
  simp (disch:=first|assumption|omega) only[cellA,go_sem,Int.reduceNeg]
  refine aw_count (fun d S => ∃ i : Nat, i + d = l.length ∧ S.env 8 = .int .i64 i ∧ S.env 7 = .int .i64 l.length ∧ S.env 0 = .lst o (cellsA l) ∧ S.env 3 = .box 3 0 ∧ S.boxes 3 = some [.int .i64 c.X, .int .i64 c.Y] ∧ c ∉ l.take i ∧ S.heap = h) (n := l.length)
    ⟨0, by omega, by simp (disch:=first|assumption|omega) only[go_sem,↓reduceIte,reduceIte], by simp (disch:=first|assumption|omega) only[go_sem,↓reduceIte,Nat.reduceEqDiff,reduceIte], by simp (disch:=first|assumption|omega) only[go_sem,↓reduceIte,reduceCtorEq,reduceIte], by simp (disch:=first|assumption|omega) only[go_sem,↓reduceIte,Nat.reduceEqDiff,reduceIte], by simp (disch:=first|assumption|omega) only[go_sem,↓reduceIte,reduceIte], by simp, by simp (disch:=first|assumption|omega) only[go_sem]⟩ ?_
  rintro d S ⟨i, hi, e8, e7, e0, e3, x3, hm, eh⟩
  simp (disch:=first|assumption|omega) only[e8,e7,go_sem,↓reduceIte,reduceIte,Int.reduceNeg]
  refine condG_if (fun hlt => ?_) fun hge => ?_
  · have hlt : i < l.length := by omega
    have hat := at_cells hlt
    have hst := take_snoc hlt
    by_cases he : c = l[i]
    · have hx : c.X = l[i].X := by rw [← he]
      have hy : c.Y = l[i].Y := by rw [← he]
      simp (disch:=first|assumption|omega) only[e8,e0,e3,x3,hat,cellA,hlt,hx,hy,go_sem,↓reduceIte,Nat.reduceEqDiff,reduceCtorEq,Nat.reduceAdd,Nat.reduceLeDiff,reduceIte,Int.reduceAdd,Int.reduceNeg]
      subst hQ
      simp (disch:=first|assumption|omega) only[R.slices_Index_Cell,eh,go_sem,↓reduceIte,reduceIte,Int.reduceNeg]
      exact ⟨_, rfl, .inr ⟨by omega, by rw [he]; exact List.getElem_mem _⟩⟩
    · have hce : (decide (c.X = l[i].X) && decide (c.Y = l[i].Y)) = false := by
        rw [Bool.and_eq_false_iff, decide_eq_false_iff_not, decide_eq_false_iff_not]
        refine Classical.byContradiction fun hh => he ?_
        have h1 : c.X = l[i].X := Classical.byContradiction fun h => hh (.inl h)
        have h2 : c.Y = l[i].Y := Classical.byContradiction fun h => hh (.inr h)
        cases c; simp only at h1 h2; rw [h1, h2]
      simp (disch:=first|assumption|omega) only[e8,e7,e0,e3,x3,eh,hat,cellA,hlt,hce,go_sem,↓reduceIte,Nat.reduceEqDiff,reduceCtorEq,Nat.reduceAdd,Nat.reduceLeDiff,reduceIte,Int.reduceAdd,Int.reduceNeg]
      exact ⟨d - 1, by omega, i + 1, by omega, by simp, fun hc => by rw [hst] at hc; rcases List.mem_append.1 hc with hc | hc; exact hm hc; exact he (List.mem_singleton.1 hc)⟩
  · obtain rfl : i = l.length := by omega
    rw [List.take_length] at hm
    simp (disch:=first|assumption|omega) only[go_sem,↓reduceIte,reduceIte,Int.reduceNeg]
    subst hQ
    simp (disch:=first|assumption|omega) only[R.slices_Index_Cell,eh,go_sem,↓reduceIte,reduceIte,Int.reduceNeg]
    exact ⟨_, rfl, .inl ⟨rfl, hm⟩⟩
theorem ContainsCell_ok (o : Own) (l : List Cell) (c : Cell) (ho : Rdo o) (hl : l.length < 4611686018427387904) (h : List HObj) :
    ACalls Try.prog F.slices_Contains_Cell [.lst o (cellsA l), cellA c] h (fun v h' => v = .bool (decide (c ∈ l)) ∧ h' = h) := by
  refine ACalls.of_aw Try.func179 K.slices_Contains_Cell (by simp [Try.f179]) ?_
  generalize hQ : retQ R.slices_Contains_Cell _ = Q
  simp (disch:=first|assumption|omega) only[C.slices_Contains_Cell,go_sem,↓reduceIte,Nat.reduceEqDiff,reduceCtorEq,Nat.reduceLeDiff,reduceIte]
  simp (disch:=first|assumption|omega) only[cellA,go_sem,Nat.reduceAdd,Nat.reduceLeDiff,Int.reduceAdd]
  refine callG_ok (IndexCell_ok o l c ho hl _) (by simp (disch:=first|assumption|omega) only[go_sem]) ?_
  rintro _ _ ⟨⟨r, rfl, hr⟩, hhh⟩
  rw [hhh]
  clear hhh
  simp only[go_sem,↓reduceIte,reduceIte]
  subst hQ
  simp only[R.slices_Contains_Cell,go_sem,↓reduceIte,reduceIte]
  rcases hr with ⟨rfl, hr⟩ | ⟨h0, hr⟩
  · rw [decide_eq_false hr]; rfl
  · rw [decide_eq_true hr, decide_eq_true h0]
theorem drV_ref {s id off len cap : Nat} : drV s (.ref id off len cap) = .ref id off len cap := rfl
theorem IndexCellR_ok (l : List Cell) (c : Cell) (id cap : Nat) (rest : List AVal) (h : List HObj) (hid : h[id]? = some (.cells (flatC l ++ rest))) (hl : l.length < 4611686018427387904) :
    ACalls Try.prog F.slices_Index_Cell [.ref id 0 l.length cap, cellA c] h (fun v h' => (∃ r : Int, v = .int .i64 r ∧ (r = -1 ∧ c ∉ l ∨ 0 ≤ r ∧ c ∈ l)) ∧ h' = h) := by
  refine ACalls.of_aw Try.func202 K.slices_Index_Cell (by simp [Try.f202]) ?_
  generalize hQ : retQ R.slices_Index_Cell _ = Q
  simp only[C.slices_Index_Cell,go_sem,↓reduceIte,reduceCtorEq,reduceIte,Int.reduceNeg]
  simp only[cellA,drV_ref,go_sem,Int.reduceNeg]
  refine aw_count (fun d S => ∃ i : Nat, i + d = l.length ∧ S.env 8 = .int .i64 i ∧ S.env 7 = .int .i64 l.length ∧ S.env 0 = .ref id 0 l.length cap ∧ S.env 3 = .box 3 0 ∧ S.boxes 3 = some [.int .i64 c.X, .int .i64 c.Y] ∧ c ∉ l.take i ∧ S.heap = h) (n := l.length)
    ⟨0, by omega, by simp only[go_sem,↓reduceIte,reduceIte], by simp only[go_sem,↓reduceIte,Nat.reduceEqDiff,reduceIte], by simp only[drV_ref,go_sem,↓reduceIte,reduceCtorEq,reduceIte], by simp only[go_sem,↓reduceIte,Nat.reduceEqDiff,reduceIte], by simp only[go_sem,↓reduceIte,reduceIte], by simp, by simp only[go_sem]⟩ ?_
  rintro d S ⟨i, hi, e8, e7, e0, e3, x3, hm, eh⟩
  simp only[e8,e7,go_sem,↓reduceIte,reduceIte,Int.reduceNeg]
  refine condG_if (fun hlt => ?_) fun hge => ?_
  · have hlt : i < l.length := by omega
    have q1 := flatC_get (l := l) (j := i) (rest := rest) hlt
    have hst := take_snoc hlt
    by_cases he : c = l[i]
    · have hx : c.X = l[i].X := by rw [← he]
      have hy : c.Y = l[i].Y := by rw [← he]
      simp only[e8,e0,e3,x3,eh,q1,hlt,hx,hy,hid,go_sem,↓reduceIte,Nat.reduceEqDiff,reduceCtorEq,Nat.reduceAdd,Nat.reduceLeDiff,reduceIte,Int.reduceAdd,Int.reduceNeg]
      refine ⟨by rw [flatC_length]; omega, ?_⟩
      subst hQ
      simp only[R.slices_Index_Cell,eh,go_sem,↓reduceIte,reduceIte,Int.reduceNeg]
      exact ⟨_, rfl, .inr ⟨by omega, by rw [he]; exact List.getElem_mem _⟩⟩
    · have hce : (decide (c.X = l[i].X) && decide (c.Y = l[i].Y)) = false := by
        rw [Bool.and_eq_false_iff, decide_eq_false_iff_not, decide_eq_false_iff_not]
        refine Classical.byContradiction fun hh => he ?_
        have h1 : c.X = l[i].X := Classical.byContradiction fun h => hh (.inl h)
        have h2 : c.Y = l[i].Y := Classical.byContradiction fun h => hh (.inr h)
        cases c; simp only at h1 h2; rw [h1, h2]
      simp (disch:=first|assumption|omega) only[e8,e7,e0,e3,x3,eh,q1,hlt,hce,hid,go_sem,↓reduceIte,Nat.reduceEqDiff,reduceCtorEq,Nat.reduceAdd,Nat.reduceLeDiff,reduceIte,Int.reduceAdd,Int.reduceNeg]
      refine ⟨by rw [flatC_length]; omega, ?_⟩
      exact ⟨d - 1, by omega, i + 1, by omega, by simp, fun hc => by rw [hst] at hc; rcases List.mem_append.1 hc with hc | hc; exact hm hc; exact he (List.mem_singleton.1 hc)⟩
  · obtain rfl : i = l.length := by omega
    rw [List.take_length] at hm
    simp only[go_sem,↓reduceIte,reduceIte,Int.reduceNeg]
    subst hQ
    simp only[R.slices_Index_Cell,eh,go_sem,↓reduceIte,reduceIte,Int.reduceNeg]
    exact ⟨_, rfl, .inl ⟨rfl, hm⟩⟩
theorem ContainsCellR_ok (l : List Cell) (c : Cell) (id cap : Nat) (rest : List AVal) (h : List HObj) (hid : h[id]? = some (.cells (flatC l ++ rest))) (hl : l.length < 4611686018427387904) :
    ACalls Try.prog F.slices_Contains_Cell [.ref id 0 l.length cap, cellA c] h (fun v h' => v = .bool (decide (c ∈ l)) ∧ h' = h) := by
  refine ACalls.of_aw Try.func179 K.slices_Contains_Cell (by simp [Try.f179]) ?_
  generalize hQ : retQ R.slices_Contains_Cell _ = Q
  simp only[C.slices_Contains_Cell,go_sem,↓reduceIte,Nat.reduceEqDiff,reduceCtorEq,Nat.reduceLeDiff,reduceIte]
  simp only[cellA,drV_ref,go_sem,↓reduceIte,Nat.reduceEqDiff,Nat.reduceAdd,Nat.reduceLeDiff,reduceIte,Int.reduceAdd]
  refine callG_ok (IndexCellR_ok l c id cap rest h hid hl) (by simp only[go_sem]) ?_
  rintro _ _ ⟨⟨r, rfl, hr⟩, hhh⟩
  rw [hhh]
  clear hhh
  simp only[go_sem,↓reduceIte,reduceIte]
  subst hQ
  simp only[R.slices_Contains_Cell,go_sem,↓reduceIte,reduceIte]
  rcases hr with ⟨rfl, hr⟩ | ⟨h0, hr⟩
  · rw [decide_eq_false hr]; rfl
  · rw [decide_eq_true hr, decide_eq_true h0]
end Go.Proofs.Ytpdajkbfemcdlaa
namespace Go.Proofs.Ytpdajkbfemcdlaa
open Go.Ge Go.Sort
theorem acGet (d : Array Cell) (rest : List AVal) {j : Nat} (h : j < d.size) : ((flatC d.toList ++ rest).drop (j * 2)).take 2 = [.int .i64 d[j]!.X, .int .i64 d[j]!.Y] := by
  rw [flatC_get (l := d.toList) (j := j) (rest := rest) (by simpa using h)]
  simp [getElem!_pos, h]
theorem acSet (d : Array Cell) (rest : List AVal) {j : Nat} (c : Cell) (h : j < d.size) : fillV (flatC d.toList ++ rest) (j * 2) [.int .i64 c.X, .int .i64 c.Y] = flatC (d.setIfInBounds j c).toList ++ rest := by
  rw [flatC_set (l := d.toList) (j := j) (rest := rest) (by simpa using h), Array.toList_setIfInBounds]
theorem acLen (d : Array Cell) (rest : List AVal) : (flatC d.toList ++ rest).length = d.size * 2 + rest.length := by rw [List.length_append, flatC_length]; simp
def CmpOk (f : Nat) (cf : Cell → Cell → Int) : Prop := ∀ (a b : Cell) (h : List HObj), ACalls Try.prog f [cellA a, cellA b] h (fun v h' => v = .int .i64 (cf a b) ∧ h' = h)
def ltC (cf : Cell → Cell → Int) (x y : Cell) : Bool := decide (cf x y < 0)
theorem insInner_succ (cf : Cell → Cell → Int) (a j : Nat) (d : Array Cell) : insInner (ltC cf) a (j + 1) d = if a < j + 1 ∧ cf d[j + 1]! d[j]! < 0 then insInner (ltC cf) a j (swp d (j + 1) j) else d := by
  rw [insInner]
  by_cases h1 : a < j + 1 <;> by_cases h2 : cf d[j + 1]! d[j]! < 0 <;> simp [h1, h2, ltC]
theorem insertion_ok (f : Nat) (cf : Cell → Cell → Int) (hf : CmpOk f cf) (d : Array Cell) (N : Nat) (hN : d.size = N) (id cap a b : Nat) (rest : List AVal) (h : List HObj) (hid : h[id]? = some (.cells (flatC d.toList ++ rest))) (hab : a ≤ b) (hb : b ≤ d.size) (hn : d.size ≤ 1099511627776) :
    ACalls Try.prog F.slices_insertionSortCmpFunc_Cell [.ref id 0 N cap, .int .i64 a, .int .i64 b, .func f []] h
      (fun v h' => v = .tup [] ∧ h' = h.set id (.cells (flatC (insertionSort (ltC cf) d a b).toList ++ rest))) := by
  subst hN
  have hidl : id < h.length := (List.getElem?_eq_some_iff.1 hid).1
  refine ACalls.of_aw Try.func219 K.slices_insertionSortCmpFunc_Cell (by simp [Try.f219]) ?_
  generalize hQ : retQ R.slices_insertionSortCmpFunc_Cell _ = Q
  simp only[C.slices_insertionSortCmpFunc_Cell,go_sem,↓reduceIte,reduceIte]
  refine aw_count (fun n S => ∃ (i : Nat) (d' : Array Cell), n = b - i ∧ a + 1 ≤ i ∧ S.env 8 = .int .i64 i ∧ S.env 0 = .ref id 0 d.size cap ∧ S.env 1 = .int .i64 a ∧ S.env 2 = .int .i64 b ∧ S.env 3 = .func f [] ∧ d'.size = d.size ∧ insOuter (ltC cf) a b i d' = insertionSort (ltC cf) d a b ∧ S.heap = h.set id (.cells (flatC d'.toList ++ rest))) (n := b - (a + 1))
    ⟨a + 1, d, rfl, by omega, by simp (disch:=first|assumption|omega) only[go_sem,↓reduceIte,reduceIte]; simp, by simp (disch:=first|assumption|omega) only[go_sem,↓reduceIte,reduceCtorEq,reduceIte], by simp (disch:=first|assumption|omega) only[go_sem,↓reduceIte,Nat.reduceEqDiff,reduceIte], by simp (disch:=first|assumption|omega) only[go_sem,↓reduceIte,Nat.reduceEqDiff,reduceIte], by simp (disch:=first|assumption|omega) only[go_sem,↓reduceIte,Nat.reduceEqDiff,reduceIte], rfl, rfl, ?_⟩ ?_
  · simp only[go_sem]
    rw [set_same hid]
  rintro n S ⟨i, d', hni, hi1, e8, e0, e1, e2, e3, hd', hio, eh⟩
  by_cases hlt : (i : Int) < b
  · have hib : i < b := by omega
    rw [insOuter, if_pos hib] at hio
    simp only[e8,e2,hlt,go_sem,↓reduceIte,Nat.reduceEqDiff,reduceIte]
    refine aw_count (fun j S' => ∃ (d2 : Array Cell), j < d.size ∧ S'.env 9 = .int .i64 j ∧ S'.env 8 = .int .i64 i ∧ S'.env 0 = .ref id 0 d.size cap ∧ S'.env 1 = .int .i64 a ∧ S'.env 2 = .int .i64 b ∧ S'.env 3 = .func f [] ∧ d2.size = d.size ∧ insInner (ltC cf) a j d2 = insInner (ltC cf) a i d' ∧ S'.heap = h.set id (.cells (flatC d2.toList ++ rest))) (n := i)
      ⟨d', by omega, by simp only[go_sem,↓reduceIte,reduceIte], by simp (disch:=first|assumption|omega) only[e8,go_sem,↓reduceIte,Nat.reduceEqDiff,reduceIte], by simp (disch:=first|assumption|omega) only[e0,go_sem,↓reduceIte,reduceCtorEq,reduceIte], by simp (disch:=first|assumption|omega) only[e1,go_sem,↓reduceIte,Nat.reduceEqDiff,reduceIte], by simp (disch:=first|assumption|omega) only[e2,go_sem,↓reduceIte,Nat.reduceEqDiff,reduceIte], by simp (disch:=first|assumption|omega) only[e3,go_sem,↓reduceIte,Nat.reduceEqDiff,reduceIte], hd', rfl, by simp (disch:=first|assumption|omega) only[eh,go_sem]⟩ ?_
    rintro j S' ⟨d2, hj, g9, g8, g0, g1, g2, g3, hd2, hin, gh⟩
    have hget : (h.set id (.cells (flatC d2.toList ++ rest)))[id]? = some (.cells (flatC d2.toList ++ rest)) := List.getElem?_set_self hidl
    by_cases haj : (a : Int) < j
    · obtain ⟨k, rfl⟩ : ∃ k, j = k + 1 := ⟨j - 1, by omega⟩
      rw [insInner_succ] at hin
      have hk1 : (((k + 1 : Nat) : Int) - 1).toNat = k := by omega
      have hk2 : (((k + 1 : Nat) : Int)).toNat = k + 1 := by omega
      have q1 := acGet d2 rest (j := k + 1) (by omega)
      have q2 := acGet d2 rest (j := k) (by omega)
      have hlen := acLen d2 rest
      have hk3 : (0 : Int) ≤ ((k + 1 : Nat) : Int) - 1 := by omega
      have hk4 : ((k + 1 : Nat) : Int) - 1 < d.size := by omega
      have hk5 : ((k + 1 : Nat) : Int) < d.size := by omega
      simp (disch:=first|assumption|omega) only[g9,g0,g1,g3,gh,haj,hget,q1,q2,hk1,hk2,hk3,hk4,hk5,hlen,go_sem,↓reduceIte,Nat.reduceEqDiff,reduceCtorEq,Nat.reduceLeDiff,reduceIte]
      refine ⟨by omega, by omega, ?_⟩
      refine callvqG_ok (hf d2[k + 1]! d2[k]! _) (by simp (disch:=first|assumption|omega) only[go_sem]) ?_
      rintro _ _ ⟨rfl, hhh⟩
      rw [hhh]
      clear hhh
      refine ⟨rfl, ?_⟩
      by_cases hx : cf d2[k + 1]! d2[k]! < 0
      · have s1 := acSet d2 rest (j := k + 1) d2[k]! (by omega)
        have s2 := acSet (d2.setIfInBounds (k + 1) d2[k]!) rest (j := k) d2[k + 1]! (by simp; omega)
        have hget2 : (h.set id (.cells (flatC (d2.setIfInBounds (k + 1) d2[k]!).toList ++ rest)))[id]? = some (.cells (flatC (d2.setIfInBounds (k + 1) d2[k]!).toList ++ rest)) := List.getElem?_set_self hidl
        have hlen2 := acLen (d2.setIfInBounds (k + 1) d2[k]!) rest
        rw [Array.size_setIfInBounds] at hlen2
        rw [if_pos ⟨by omega, hx⟩] at hin
        simp (disch:=first|assumption|omega) only[g9,g8,g0,g1,g2,g3,gh,hget,q1,q2,hk1,hk2,hk3,hk4,hk5,hlen,hx,s1,s2,hget2,hlen2,List.set_set,go_sem,↓reduceIte,Nat.reduceEqDiff,reduceCtorEq,Nat.reduceAdd,Nat.reduceLeDiff,reduceIte,Int.reduceAdd]
        refine ⟨by omega, by omega, by omega, by omega, k, by omega, swp d2 (k + 1) k, by omega, by simp, by rw [Sort.size_swp]; exact hd2, hin, rfl⟩
      · rw [if_neg (fun c => hx c.2)] at hin
        simp (disch:=first|assumption|omega) only[g8,g0,g1,g2,g3,gh,hx,go_sem,↓reduceIte,Nat.reduceEqDiff,reduceCtorEq,reduceIte]
        exact ⟨n - 1, by omega, i + 1, d2, by omega, by omega, by simp, hd2, by rw [hin]; exact hio, rfl⟩
    · have hin2 : insInner (ltC cf) a j d2 = d2 := by
        cases j with
        | zero => rfl
        | succ k => rw [insInner_succ, if_neg (fun c => by omega)]
      rw [hin2] at hin
      simp (disch:=first|assumption|omega) only[g9,g8,g0,g1,g2,g3,gh,haj,go_sem,↓reduceIte,Nat.reduceEqDiff,reduceCtorEq,reduceIte]
      exact ⟨n - 1, by omega, i + 1, d2, by omega, by omega, by simp, hd2, by rw [hin]; exact hio, rfl⟩
  · simp only[e8,e2,hlt,go_sem,↓reduceIte,Nat.reduceEqDiff,reduceIte]
    subst hQ
    simp only[R.slices_insertionSortCmpFunc_Cell,eh,go_sem]
    rw [insOuter, if_neg (by omega)] at hio
    rw [hio]
end Go.Proofs.Ytpdajkbfemcdlaa
namespace Go.Proofs.Ytpdajkbfemcdlaa
open Go.Ge Go.Sort
theorem ltC_lt (x y : Cell) : ltC orderC x y = decide (cellLt x y) := by
  unfold ltC
  have := orderC_lt x y
  by_cases h : cellLt x y
  · simp only[h,not_true,iff_false,Int.not_le,ge_iff_le] at this; simp [h, this]
  · simp only[h,not_false_iff,iff_true,ge_iff_le] at this; simp [h]; omega
theorem cellLt_trans {a b c : Cell} (h1 : cellLt a b) (h2 : cellLt b c) : cellLt a c := by unfold cellLt at *; omega
theorem cellLt_irrefl (a : Cell) : ¬cellLt a a := by unfold cellLt; omega
theorem cellLt_total {a b : Cell} (h1 : ¬cellLt a b) (h2 : ¬cellLt b a) : a = b := by
  cases a; cases b
  unfold cellLt at h1 h2
  simp only[Cell.mk.injEq] at *
  omega
theorem swoC : SWO (ltC orderC) where
  irrefl x := by rw [ltC_lt]; simp [cellLt_irrefl]
  trans x y z := by simp only[ltC_lt,decide_eq_true_eq]; exact cellLt_trans
  ntrans x y z := by simp only[ltC_lt,decide_eq_false_iff_not]; unfold cellLt; omega
theorem antiC (x y : Cell) (h1 : ltC orderC x y = false) (h2 : ltC orderC y x = false) : x = y := by
  rw [ltC_lt, decide_eq_false_iff_not] at h1 h2
  exact cellLt_total h1 h2
def Up (l : List Cell) : Prop := l.Pairwise cellLt
theorem up_mem_eq : ∀ {a b : List Cell}, Up a → Up b → (∀ c, c ∈ a ↔ c ∈ b) → a = b
  | [], [], _, _, _ => rfl
  | [], y :: b, _, _, h => absurd ((h y).2 List.mem_cons_self) (by simp)
  | x :: a, [], _, _, h => absurd ((h x).1 List.mem_cons_self) (by simp)
  | x :: a, y :: b, ha, hb, h => by
    obtain ⟨ha1, ha2⟩ := List.pairwise_cons.1 ha
    obtain ⟨hb1, hb2⟩ := List.pairwise_cons.1 hb
    have e : x = y := by
      rcases List.mem_cons.1 ((h x).1 List.mem_cons_self) with e | hx
      · exact e
      rcases List.mem_cons.1 ((h y).2 List.mem_cons_self) with e | hy
      · exact e.symm
      exact absurd (cellLt_trans (ha1 y hy) (hb1 x hx)) (cellLt_irrefl _)
    subst e
    congr 1
    refine up_mem_eq ha2 hb2 fun c => ⟨fun hc => ?_, fun hc => ?_⟩
    · rcases List.mem_cons.1 ((h c).1 (List.mem_cons_of_mem _ hc)) with e | hx
      · exact absurd (ha1 c hc) (e ▸ cellLt_irrefl _)
      · exact hx
    · rcases List.mem_cons.1 ((h c).2 (List.mem_cons_of_mem _ hc)) with e | hx
      · exact absurd (hb1 c hc) (e ▸ cellLt_irrefl _)
      · exact hx
def dedupA : List Cell → List Cell
  | [] => []
  | [c] => [c]
  | c :: d :: r => if c = d then dedupA (d :: r) else c :: dedupA (d :: r)
theorem mem_dedupA : ∀ (l : List Cell) (c : Cell), c ∈ dedupA l ↔ c ∈ l
  | [], c => by simp [dedupA]
  | [x], c => by simp [dedupA]
  | x :: y :: r, c => by
    unfold dedupA
    have ih := mem_dedupA (y :: r) c
    split
    · rename_i h
      rw [ih, h]; simp
    · rw [List.mem_cons, ih, List.mem_cons (l := y :: r)]
theorem dedupA_len : ∀ (l : List Cell), (dedupA l).length ≤ l.length
  | [] => by simp [dedupA]
  | [x] => by simp [dedupA]
  | x :: y :: r => by
    unfold dedupA
    have ih := dedupA_len (y :: r)
    split
    · simp only[List.length_cons] at *; omega
    · simp only[List.length_cons] at *; omega
theorem dedupA_up : ∀ (l : List Cell), l.Pairwise (fun a b => ¬cellLt b a) → Up (dedupA l)
  | [], _ => List.Pairwise.nil
  | [x], _ => by simp [dedupA, Up]
  | x :: y :: r, h => by
    obtain ⟨h1, h2⟩ := List.pairwise_cons.1 h
    unfold dedupA
    have ih := dedupA_up (y :: r) h2
    split
    · exact ih
    · rename_i hxy
      refine List.pairwise_cons.2 ⟨fun c hc => ?_, ih⟩
      have hc := (mem_dedupA _ c).1 hc
      have hyx := h1 y List.mem_cons_self
      have hlt : cellLt x y := Decidable.byContradiction fun hn => hxy (cellLt_total hn hyx)
      rcases List.mem_cons.1 hc with rfl | hc
      · exact hlt
      · have := (List.pairwise_cons.1 h2).1 c hc
        unfold cellLt at *; omega
def sortC (l : List Cell) : List Cell := l.mergeSort fun x y => !ltC orderC y x
def normC (l : List Cell) : List Cell := dedupA (sortC l)
theorem sortC_perm (l : List Cell) : (sortC l).Perm l := List.mergeSort_perm l _
theorem sortC_pair (l : List Cell) : (sortC l).Pairwise (fun a b => ¬cellLt b a) := by
  have := List.pairwise_mergeSort (le := fun x y => !ltC orderC y x) (fun a b c h1 h2 => by
    simp only[ltC_lt,Bool.not_eq_true',decide_eq_false_iff_not] at *; unfold cellLt at *; omega) (fun a b => by
    simp only[ltC_lt,Bool.or_eq_true,Bool.not_eq_true',decide_eq_false_iff_not]; unfold cellLt; omega) l
  exact this.imp fun h => by simpa [ltC_lt] using h
theorem sortC_len (l : List Cell) : (sortC l).length = l.length := (sortC_perm l).length_eq
theorem mem_normC (l : List Cell) (c : Cell) : c ∈ normC l ↔ c ∈ l := by
  unfold normC
  rw [mem_dedupA, (sortC_perm l).mem_iff]
theorem normC_up (l : List Cell) : Up (normC l) := dedupA_up _ (sortC_pair l)
theorem normC_len (l : List Cell) : (normC l).length ≤ l.length := by
  unfold normC
  exact Nat.le_trans (dedupA_len _) (Nat.le_of_eq (sortC_len l))
def joinC (a b : List Cell) : List Cell := normC (a ++ b)
def meetC (a b : List Cell) : List Cell := (normC a).filter fun c => decide (c ∈ b)
def minusC (a b : List Cell) : List Cell := (normC a).filter fun c => !decide (c ∈ b)
def withinC (a b : List Cell) : Bool := a.all fun c => decide (c ∈ b)
theorem cellsF_up : ∀ (l : List Cell) (p : Option Cell), cellsF p l = 0 → (∀ c ∈ l, onG c.X ∧ onG c.Y) ∧ Up l ∧ ∀ q ∈ p, ∀ c ∈ l, cellLt q c
  | [], p, _ => by simp [Up]
  | x :: l, p, h => by
    unfold cellsF at h
    by_cases h1 : ¬onG x.X ∨ ¬onG x.Y
    · rw [if_pos h1] at h; cases h
    rw [if_neg h1] at h
    by_cases h2 : ∃ q ∈ p, ¬cellLt q x
    · rw [if_pos h2] at h; cases h
    rw [if_neg h2] at h
    obtain ⟨i1, i2, i3⟩ := cellsF_up l (some x) h
    have i3 := i3 x rfl
    refine ⟨fun c hc => ?_, List.pairwise_cons.2 ⟨i3, i2⟩, fun q hq c hc => ?_⟩
    · rcases List.mem_cons.1 hc with rfl | hc
      · exact ⟨Decidable.byContradiction fun hn => h1 (.inl hn), Decidable.byContradiction fun hn => h1 (.inr hn)⟩
      · exact i1 c hc
    · have hx : cellLt q x := Decidable.byContradiction fun hn => h2 ⟨q, hq, hn⟩
      rcases List.mem_cons.1 hc with rfl | hc
      · exact hx
      · exact cellLt_trans hx (i3 c hc)
theorem cellsF_of : ∀ (l : List Cell) (p : Option Cell), (∀ c ∈ l, onG c.X ∧ onG c.Y) → Up l → (∀ q ∈ p, ∀ c ∈ l, cellLt q c) → cellsF p l = 0
  | [], p, _, _, _ => rfl
  | x :: l, p, h1, h2, h3 => by
    unfold cellsF
    have hx := h1 x List.mem_cons_self
    obtain ⟨ha1, ha2⟩ := List.pairwise_cons.1 h2
    rw [if_neg (by simp [hx.1, hx.2]), if_neg (fun ⟨q, hq, hn⟩ => hn (h3 q hq x List.mem_cons_self))]
    exact cellsF_of l (some x) (fun c hc => h1 c (List.mem_cons_of_mem _ hc)) ha2 (fun q hq c hc => by
      cases hq; exact ha1 c hc)
theorem fault_up {l : List Cell} (h : cellsFault l = 0) : l.length ≤ 400 ∧ (∀ c ∈ l, onG c.X ∧ onG c.Y) ∧ Up l := by
  unfold cellsFault at h
  split at h
  · cases h
  · obtain ⟨h1, h2, _⟩ := cellsF_up l none h
    exact ⟨by omega, h1, h2⟩
theorem fault_of {l : List Cell} (h1 : l.length ≤ 400) (h2 : ∀ c ∈ l, onG c.X ∧ onG c.Y) (h3 : Up l) : cellsFault l = 0 := by
  unfold cellsFault
  rw [if_neg (by omega)]
  exact cellsF_of l none h2 h3 (fun q hq => by cases hq)
end Go.Proofs.Ytpdajkbfemcdlaa
namespace Go.Proofs.Ytpdajkbfemcdlaa
def okR (t : Nat → Bool) (N i : Nat) (D : List Nat) : Bool := (List.range N).all fun k => k == i || D.contains k || !t k
def leastN (t : Nat → Nat → Bool) (N : Nat) : Nat → List Nat → Option (List Nat)
  | 0, D => some D
  | n + 1, D => (List.range N).findSome? fun i => if D.contains i then none else if okR (t i) N i D then leastN t N n (D ++ [i]) else none
def pickR (t : Nat → Nat → Bool) (N : Nat) (D : List Nat) : Option Nat := (List.range N).find? fun i => !D.contains i && okR (t i) N i D
def safeN (t : Nat → Nat → Bool) (N : Nat) : Nat → List Nat → Option (List Nat)
  | 0, D => some D
  | n + 1, D => (pickR t N D).bind fun k => safeN t N n (D ++ [k])
inductive Can (t : Nat → Nat → Bool) (N : Nat) : List Nat → Prop
  | full {D} : (∀ i, i < N → i ∈ D) → Can t N D
  | step {D i} : i < N → i ∉ D → okR (t i) N i D = true → Can t N (D ++ [i]) → Can t N D
theorem pickR_some {t : Nat → Nat → Bool} {N : Nat} {D : List Nat} {k : Nat} (h : pickR t N D = some k) : k < N ∧ k ∉ D ∧ okR (t k) N k D = true := by
  have h1 := List.find?_some h
  have h2 := List.mem_of_find?_eq_some h
  simp only[Bool.and_eq_true,Bool.not_eq_true',← Bool.not_eq_true,List.contains_iff_mem] at h1
  exact ⟨List.mem_range.1 h2, h1.1, h1.2⟩
theorem pickR_none {t : Nat → Nat → Bool} {N : Nat} {D : List Nat} (h : pickR t N D = none) {i : Nat} (hi : i < N) (hd : i ∉ D) : ¬ okR (t i) N i D = true := by
  have h1 := List.find?_eq_none.1 h i (List.mem_range.2 hi)
  intro ho
  exact h1 (by simp [hd, ho])
theorem room {N : Nat} {D : List Nat} (hl : D.length < N) : ∃ j, j < N ∧ j ∉ D := by
  refine Classical.byContradiction fun h => ?_
  have hs : ∀ x ∈ List.range N, x ∈ D := fun x hx => Classical.byContradiction fun hn => h ⟨x, List.mem_range.1 hx, hn⟩
  have key : ∀ (a b : List Nat), a.Nodup → (∀ x ∈ a, x ∈ b) → a.length ≤ b.length := by
    intro a
    induction a with
    | nil => intro b _ _; simp
    | cons x a ih =>
      intro b hn hs
      have hx := hs x (List.mem_cons_self ..)
      have hn' := List.nodup_cons.1 hn
      have := ih (b.erase x) hn'.2 (fun y hy => (List.mem_erase_of_ne (by intro e; rw [e] at hy; exact hn'.1 hy)).2 (hs y (List.mem_cons_of_mem _ hy)))
      rw [List.length_erase_of_mem hx] at this
      have : 0 < b.length := List.length_pos_of_mem hx
      simp only[List.length_cons]
      omega
  have := key _ D (List.nodup_range (n := N)) hs
  rw [List.length_range] at this
  omega
theorem snocD {N : Nat} {D : List Nat} {k : Nat} (hn : D.Nodup) (hr : ∀ x ∈ D, x < N) (hk : k < N) (hd : k ∉ D) : (D ++ [k]).Nodup ∧ ∀ x ∈ D ++ [k], x < N := by
  refine ⟨List.nodup_append.2 ⟨hn, by simp, fun a ha b hb e => ?_⟩, fun x hx => ?_⟩
  · rw [List.mem_singleton] at hb; exact hd (hb ▸ e ▸ ha)
  · rcases List.mem_append.1 hx with hx | hx
    · exact hr x hx
    · rw [List.mem_singleton.1 hx]; exact hk
theorem safeN_len {t : Nat → Nat → Bool} {N : Nat} : ∀ (n : Nat) (D r : List Nat), safeN t N n D = some r → r.length = D.length + n
  | 0, D, r, h => by cases h; rfl
  | n + 1, D, r, h => by
    unfold safeN at h
    cases hp : pickR t N D with
    | none => rw [hp] at h; cases h
    | some k =>
      rw [hp] at h
      have := safeN_len n _ r h
      rw [this]; simp; omega
end Go.Proofs.Ytpdajkbfemcdlaa
namespace Go.Proofs.Ytpdajkbfemcdlaa
open Go.Ge Go.Sort
theorem siftDown_end (cf : Cell → Cell → Int) {hi first r : Nat} {d : Array Cell} (h : hi ≤ 2 * r + 1) : siftDown (ltC cf) hi first r d = d := by
  rw [siftDown, dif_pos h]
theorem siftDown_two (cf : Cell → Cell → Int) {hi first r : Nat} {d : Array Cell} (h : 2 * r + 2 < hi) (hl : cf d[first + (2 * r + 1)]! d[first + (2 * r + 2)]! < 0) :
    siftDown (ltC cf) hi first r d = if cf d[first + r]! d[first + (2 * r + 2)]! < 0 then siftDown (ltC cf) hi first (2 * r + 2) (swp d (first + r) (first + (2 * r + 2))) else d := by
  have hl' : cf d[first + (2 * r + 1)]! d[first + (2 * r + 1) + 1]! < 0 := hl
  rw [siftDown, dif_neg (by omega)]
  have h1 : 2 * r + 1 + 1 < hi := h
  by_cases hx : cf d[first + r]! d[first + (2 * r + 2)]! < 0 <;> simp [h1, hl', ltC, hx, h]
theorem siftDown_one (cf : Cell → Cell → Int) {hi first r : Nat} {d : Array Cell} (h : 2 * r + 1 < hi) (hl : ¬(2 * r + 2 < hi ∧ cf d[first + (2 * r + 1)]! d[first + (2 * r + 2)]! < 0)) :
    siftDown (ltC cf) hi first r d = if cf d[first + r]! d[first + (2 * r + 1)]! < 0 then siftDown (ltC cf) hi first (2 * r + 1) (swp d (first + r) (first + (2 * r + 1))) else d := by
  have hl' : ¬(2 * r + 1 + 1 < hi ∧ cf d[first + (2 * r + 1)]! d[first + (2 * r + 1) + 1]! < 0) := hl
  rw [siftDown, dif_neg (by omega), if_neg (by simpa [ltC] using hl')]
  by_cases hx : cf d[first + r]! d[first + (2 * r + 1)]! < 0 <;> simp [ltC, hx]
theorem siftDown_ok (f : Nat) (cf : Cell → Cell → Int) (hf : CmpOk f cf) (d : Array Cell) (N : Nat) (hN : d.size = N) (id cap lo hi first : Nat) (rest : List AVal) (h : List HObj) (hid : h[id]? = some (.cells (flatC d.toList ++ rest))) (hb : first + hi ≤ d.size) (hlo : lo ≤ 1099511627776) (hn : d.size ≤ 1099511627776) :
    ACalls Try.prog F.slices_siftDownCmpFunc_Cell [.ref id 0 N cap, .int .i64 lo, .int .i64 hi, .int .i64 first, .func f []] h
      (fun v h' => v = .tup [] ∧ h' = h.set id (.cells (flatC (siftDown (ltC cf) hi first lo d).toList ++ rest))) := by
  subst hN
  have hidl : id < h.length := (List.getElem?_eq_some_iff.1 hid).1
  refine ACalls.of_aw Try.func234 K.slices_siftDownCmpFunc_Cell (by simp [Try.f234]) ?_
  generalize hQ : retQ R.slices_siftDownCmpFunc_Cell _ = Q
  simp (disch:=first|assumption|omega) only[C.slices_siftDownCmpFunc_Cell,go_sem,↓reduceIte,reduceIte]
  refine aw_count (fun n S => ∃ (r : Nat) (d' : Array Cell), n = hi - r ∧ r ≤ 1099511627776 ∧ S.env 10 = .int .i64 r ∧ S.env 0 = .ref id 0 d.size cap ∧ S.env 2 = .int .i64 hi ∧ S.env 3 = .int .i64 first ∧ S.env 4 = .func f [] ∧ d'.size = d.size ∧ siftDown (ltC cf) hi first r d' = siftDown (ltC cf) hi first lo d ∧ S.heap = h.set id (.cells (flatC d'.toList ++ rest))) (n := hi - lo)
    ⟨lo, d, rfl, hlo, by simp (disch:=first|assumption|omega) only[go_sem,↓reduceIte,reduceIte], by simp (disch:=first|assumption|omega) only[go_sem,↓reduceIte,reduceCtorEq,reduceIte], by simp (disch:=first|assumption|omega) only[go_sem,↓reduceIte,Nat.reduceEqDiff,reduceIte], by simp (disch:=first|assumption|omega) only[go_sem,↓reduceIte,Nat.reduceEqDiff,reduceIte], by simp (disch:=first|assumption|omega) only[go_sem,↓reduceIte,Nat.reduceEqDiff,reduceIte], rfl, rfl, ?_⟩ ?_
  · simp (disch:=first|assumption|omega) only[go_sem]
    rw [set_same hid]
  rintro n S ⟨r, d', hni, hr, e10, e0, e2, e3, e4, hd', hsd, eh⟩
  have hget : (h.set id (.cells (flatC d'.toList ++ rest)))[id]? = some (.cells (flatC d'.toList ++ rest)) := List.getElem?_set_self hidl
  have hlen := acLen d' rest
  by_cases hc : (hi : Int) ≤ 2 * r + 1
  · simp (disch:=first|assumption|omega) only[e10,e2,hc,go_sem,↓reduceIte,Nat.reduceEqDiff,reduceCtorEq,reduceIte]
    subst hQ
    simp (disch:=first|assumption|omega) only[R.slices_siftDownCmpFunc_Cell,eh,go_sem]
    rw [← hsd, siftDown_end cf (by omega)]
  have k1 : ((first : Int) + (2 * r + 1)).toNat = first + (2 * r + 1) := by omega
  have k2 : ((first : Int) + (2 * r + 1) + 1).toNat = first + (2 * r + 2) := by omega
  have k3 : ((first : Int) + r).toNat = first + r := by omega
  have k4 : ((first : Int) + (2 * r + 1 + 1)).toNat = first + (2 * r + 2) := by omega
  have q1 := acGet d' rest (j := first + (2 * r + 1)) (by omega)
  have q3 := acGet d' rest (j := first + r) (by omega)
  by_cases hc2 : (2 * r + 1 + 1 : Int) < hi
  · have q2 := acGet d' rest (j := first + (2 * r + 2)) (by omega)
    simp (disch:=first|assumption|omega) only[e10,e0,e2,e3,e4,eh,hc,hc2,hget,hlen,k1,k2,q1,q2,go_sem,↓reduceIte,Nat.reduceEqDiff,reduceCtorEq,Nat.reduceLeDiff,reduceIte]
    repeat (refine And.intro ?_ ?_; omega)
    refine callvqG_ok (hf d'[first + (2 * r + 1)]! d'[first + (2 * r + 2)]! _) (by simp (disch:=first|assumption|omega) only[go_sem]) ?_
    rintro _ _ ⟨rfl, hhh⟩
    rw [hhh]
    clear hhh
    refine ⟨rfl, ?_⟩
    by_cases hx1 : cf d'[first + (2 * r + 1)]! d'[first + (2 * r + 2)]! < 0
    · have hsd2 := siftDown_two cf (d := d') (hi := hi) (first := first) (r := r) (by omega) hx1
      simp (disch:=first|assumption|omega) only[e10,e0,e3,e4,eh,hx1,hget,hlen,k3,k4,q2,q3,go_sem,↓reduceIte,Nat.reduceEqDiff,reduceCtorEq,Nat.reduceLeDiff,reduceIte]
      repeat (refine And.intro ?_ ?_; omega)
      refine callvqG_ok (hf d'[first + r]! d'[first + (2 * r + 2)]! _) (by simp (disch:=first|assumption|omega) only[go_sem]) ?_
      rintro _ _ ⟨rfl, hhh⟩
      rw [hhh]
      clear hhh
      refine ⟨rfl, ?_⟩
      by_cases hx : cf d'[first + r]! d'[first + (2 * r + 2)]! < 0
      · have s1 := acSet d' rest (j := first + r) d'[first + (2 * r + 2)]! (by omega)
        have s2 := acSet (d'.setIfInBounds (first + r) d'[first + (2 * r + 2)]!) rest (j := first + (2 * r + 2)) d'[first + r]! (by simp; omega)
        have hget2 : (h.set id (.cells (flatC (d'.setIfInBounds (first + r) d'[first + (2 * r + 2)]!).toList ++ rest)))[id]? = some (.cells (flatC (d'.setIfInBounds (first + r) d'[first + (2 * r + 2)]!).toList ++ rest)) := List.getElem?_set_self hidl
        have hlen2 := acLen (d'.setIfInBounds (first + r) d'[first + (2 * r + 2)]!) rest
        rw [Array.size_setIfInBounds] at hlen2
        rw [if_pos hx] at hsd2
        simp (disch:=first|assumption|omega) only[e10,e0,e2,e3,e4,eh,hget,hlen,k3,k4,q2,q3,hx,s1,s2,hget2,hlen2,List.set_set,go_sem,↓reduceIte,Nat.reduceEqDiff,reduceCtorEq,Nat.reduceAdd,Nat.reduceLeDiff,reduceIte,Int.reduceAdd]
        repeat (refine And.intro ?_ ?_; omega)
        exact ⟨hi - (2 * r + 2), by omega, (2 * r + 2), swp d' (first + r) (first + (2 * r + 2)), rfl, by omega, by congr 1 <;> omega, by rw [Sort.size_swp]; exact hd', hsd2.symm.trans hsd, rfl⟩
      · rw [if_neg hx] at hsd2
        simp (disch:=first|assumption|omega) only[hx,go_sem,↓reduceIte,reduceIte]
        subst hQ
        simp (disch:=first|assumption|omega) only[R.slices_siftDownCmpFunc_Cell,eh,go_sem]
        rw [← hsd, hsd2]
    · have hsd2 := siftDown_one cf (d := d') (hi := hi) (first := first) (r := r) (by omega) (fun h => hx1 h.2)
      simp (disch:=first|assumption|omega) only[e10,e0,e3,e4,eh,hx1,hget,hlen,k1,k3,q1,q3,go_sem,↓reduceIte,Nat.reduceEqDiff,reduceCtorEq,Nat.reduceLeDiff,reduceIte]
      repeat (refine And.intro ?_ ?_; omega)
      refine callvqG_ok (hf d'[first + r]! d'[first + (2 * r + 1)]! _) (by simp (disch:=first|assumption|omega) only[go_sem]) ?_
      rintro _ _ ⟨rfl, hhh⟩
      rw [hhh]
      clear hhh
      refine ⟨rfl, ?_⟩
      by_cases hx : cf d'[first + r]! d'[first + (2 * r + 1)]! < 0
      · have s1 := acSet d' rest (j := first + r) d'[first + (2 * r + 1)]! (by omega)
        have s2 := acSet (d'.setIfInBounds (first + r) d'[first + (2 * r + 1)]!) rest (j := first + (2 * r + 1)) d'[first + r]! (by simp; omega)
        have hget2 : (h.set id (.cells (flatC (d'.setIfInBounds (first + r) d'[first + (2 * r + 1)]!).toList ++ rest)))[id]? = some (.cells (flatC (d'.setIfInBounds (first + r) d'[first + (2 * r + 1)]!).toList ++ rest)) := List.getElem?_set_self hidl
        have hlen2 := acLen (d'.setIfInBounds (first + r) d'[first + (2 * r + 1)]!) rest
        rw [Array.size_setIfInBounds] at hlen2
        rw [if_pos hx] at hsd2
        simp (disch:=first|assumption|omega) only[e10,e0,e2,e3,e4,eh,hget,hlen,k1,k3,q1,q3,hx,s1,s2,hget2,hlen2,List.set_set,go_sem,↓reduceIte,Nat.reduceEqDiff,reduceCtorEq,Nat.reduceAdd,Nat.reduceLeDiff,reduceIte,Int.reduceAdd]
        repeat (refine And.intro ?_ ?_; omega)
        exact ⟨hi - (2 * r + 1), by omega, (2 * r + 1), swp d' (first + r) (first + (2 * r + 1)), rfl, by omega, by congr 1 <;> omega, by rw [Sort.size_swp]; exact hd', hsd2.symm.trans hsd, rfl⟩
      · rw [if_neg hx] at hsd2
        simp (disch:=first|assumption|omega) only[hx,go_sem,↓reduceIte,reduceIte]
        subst hQ
        simp (disch:=first|assumption|omega) only[R.slices_siftDownCmpFunc_Cell,eh,go_sem]
        rw [← hsd, hsd2]
  · have hsd2 := siftDown_one cf (d := d') (hi := hi) (first := first) (r := r) (by omega) (fun h => by omega)
    simp (disch:=first|assumption|omega) only[e10,e0,e2,e3,e4,eh,hc,hc2,hget,hlen,k1,k3,q1,q3,go_sem,↓reduceIte,Nat.reduceEqDiff,reduceCtorEq,Nat.reduceLeDiff,reduceIte]
    repeat (refine And.intro ?_ ?_; omega)
    refine callvqG_ok (hf d'[first + r]! d'[first + (2 * r + 1)]! _) (by simp (disch:=first|assumption|omega) only[go_sem]) ?_
    rintro _ _ ⟨rfl, hhh⟩
    rw [hhh]
    clear hhh
    refine ⟨rfl, ?_⟩
    by_cases hx : cf d'[first + r]! d'[first + (2 * r + 1)]! < 0
    · have s1 := acSet d' rest (j := first + r) d'[first + (2 * r + 1)]! (by omega)
      have s2 := acSet (d'.setIfInBounds (first + r) d'[first + (2 * r + 1)]!) rest (j := first + (2 * r + 1)) d'[first + r]! (by simp; omega)
      have hget2 : (h.set id (.cells (flatC (d'.setIfInBounds (first + r) d'[first + (2 * r + 1)]!).toList ++ rest)))[id]? = some (.cells (flatC (d'.setIfInBounds (first + r) d'[first + (2 * r + 1)]!).toList ++ rest)) := List.getElem?_set_self hidl
      have hlen2 := acLen (d'.setIfInBounds (first + r) d'[first + (2 * r + 1)]!) rest
      rw [Array.size_setIfInBounds] at hlen2
      rw [if_pos hx] at hsd2
      simp (disch:=first|assumption|omega) only[e10,e0,e2,e3,e4,eh,hget,hlen,k1,k3,q1,q3,hx,s1,s2,hget2,hlen2,List.set_set,go_sem,↓reduceIte,Nat.reduceEqDiff,reduceCtorEq,Nat.reduceAdd,Nat.reduceLeDiff,reduceIte,Int.reduceAdd]
      repeat (refine And.intro ?_ ?_; omega)
      exact ⟨hi - (2 * r + 1), by omega, (2 * r + 1), swp d' (first + r) (first + (2 * r + 1)), rfl, by omega, by congr 1 <;> omega, by rw [Sort.size_swp]; exact hd', hsd2.symm.trans hsd, rfl⟩
    · rw [if_neg hx] at hsd2
      simp (disch:=first|assumption|omega) only[hx,go_sem,↓reduceIte,reduceIte]
      subst hQ
      simp (disch:=first|assumption|omega) only[R.slices_siftDownCmpFunc_Cell,eh,go_sem]
      rw [← hsd, hsd2]
theorem siftDown_size (cf : Cell → Cell → Int) (hi first : Nat) : ∀ (n r : Nat) (d : Array Cell), hi - r ≤ n → (siftDown (ltC cf) hi first r d).size = d.size
  | n, r, d, hn => by
    by_cases h1 : hi ≤ 2 * r + 1
    · rw [siftDown_end cf h1]
    · have step : ∀ c, r < c → (siftDown (ltC cf) hi first r d = if cf d[first + r]! d[first + c]! < 0 then siftDown (ltC cf) hi first c (swp d (first + r) (first + c)) else d) → (siftDown (ltC cf) hi first r d).size = d.size := by
        intro c hc e
        rw [e]
        split
        · cases n with
          | zero => omega
          | succ n => rw [siftDown_size cf hi first n c _ (by omega), Sort.size_swp]
        · rfl
      by_cases h2 : 2 * r + 2 < hi ∧ cf d[first + (2 * r + 1)]! d[first + (2 * r + 2)]! < 0
      · exact step _ (by omega) (siftDown_two cf h2.1 h2.2)
      · exact step _ (by omega) (siftDown_one cf (by omega) h2)
theorem heapSort_ok (f : Nat) (cf : Cell → Cell → Int) (hf : CmpOk f cf) (d : Array Cell) (N : Nat) (hN : d.size = N) (id cap a b : Nat) (rest : List AVal) (h : List HObj) (hid : h[id]? = some (.cells (flatC d.toList ++ rest))) (hab : a ≤ b) (hb : b ≤ d.size) (hn : d.size ≤ 1099511627776) :
    ACalls Try.prog F.slices_heapSortCmpFunc_Cell [.ref id 0 N cap, .int .i64 a, .int .i64 b, .func f []] h
      (fun v h' => v = .tup [] ∧ h' = h.set id (.cells (flatC (heapSort (ltC cf) d a b).toList ++ rest))) := by
  subst hN
  have hidl : id < h.length := (List.getElem?_eq_some_iff.1 hid).1
  have ht : ((b : Int) - a - 1).tdiv 2 = (((b - a - 1) / 2 : Nat) : Int) := by
    rcases Nat.eq_or_lt_of_le hab with rfl | hlt
    · rw [show ((a : Int) - a - 1) = -1 by omega, show (a - a - 1) / 2 = 0 by omega]; rfl
    · rw [show ((b : Int) - a - 1) = ((b - a - 1 : Nat) : Int) by omega]; rfl
  refine ACalls.of_aw Try.func220 K.slices_heapSortCmpFunc_Cell (by simp [Try.f220]) ?_
  generalize hQ : retQ R.slices_heapSortCmpFunc_Cell _ = Q
  simp (disch:=first|assumption|omega) only[C.slices_heapSortCmpFunc_Cell,go_sem,↓reduceIte,Nat.reduceEqDiff,reduceIte,Int.reduceNe]
  simp (disch:=first|assumption|omega) only[ht,go_sem]
  refine aw_count (fun k S => ∃ (d' : Array Cell), k ≤ (b - a - 1) / 2 + 1 ∧ S.env 11 = .int .i64 ((k : Int) - 1) ∧ S.env 10 = .int .i64 ((b : Int) - a) ∧ S.env 9 = .int .i64 0 ∧ S.env 8 = .int .i64 a ∧ S.env 0 = .ref id 0 d.size cap ∧ S.env 3 = .func f [] ∧ d'.size = d.size ∧ heapBuild (ltC cf) (b - a) a k d' = heapBuild (ltC cf) (b - a) a ((b - a - 1) / 2 + 1) d ∧ S.heap = h.set id (.cells (flatC d'.toList ++ rest))) (n := (b - a - 1) / 2 + 1)
    ⟨d, Nat.le_refl _, by simp (disch:=first|assumption|omega) only[go_sem,↓reduceIte,reduceIte]; congr 1; omega, by simp (disch:=first|assumption|omega) only[go_sem,↓reduceIte,Nat.reduceEqDiff,reduceIte], by simp (disch:=first|assumption|omega) only[go_sem,↓reduceIte,Nat.reduceEqDiff,reduceIte], by simp (disch:=first|assumption|omega) only[go_sem,↓reduceIte,Nat.reduceEqDiff,reduceIte], by simp (disch:=first|assumption|omega) only[go_sem,↓reduceIte,reduceCtorEq,reduceIte], by simp (disch:=first|assumption|omega) only[go_sem,↓reduceIte,Nat.reduceEqDiff,reduceIte], rfl, rfl, ?_⟩ ?_
  · simp (disch:=first|assumption|omega) only[go_sem]
    rw [set_same hid]
  rintro k S ⟨d', hkn, e11, e10, e9, e8, e0, e3, hd', hbu, eh⟩
  have hget : (h.set id (.cells (flatC d'.toList ++ rest)))[id]? = some (.cells (flatC d'.toList ++ rest)) := List.getElem?_set_self hidl
  have hba : ((b : Int) - a) = ((b - a : Nat) : Int) := by omega
  cases k with
  | succ k =>
    have hk : (0 : Int) ≤ ((k + 1 : Nat) : Int) - 1 := by omega
    have hk1 : ((k + 1 : Nat) : Int) - 1 = (k : Int) := by omega
    simp (disch:=first|assumption|omega) only[e11,e10,e8,e0,e3,hk1,hba,go_sem,↓reduceIte,Nat.reduceEqDiff,reduceCtorEq,reduceIte]
    refine callG_ok (siftDown_ok f cf hf d' _ hd' id cap k (b - a) a rest _ (by simp (disch:=first|assumption|omega) only[eh,hget,go_sem]) (by omega) (by omega) (by omega)) (by simp (disch:=first|assumption|omega) only[go_sem]) ?_
    rintro _ _ ⟨rfl, rfl⟩
    rw [heapBuild] at hbu
    simp (disch:=first|assumption|omega) only[e11,e10,e9,e8,e0,e3,eh,List.set_set,hk1,go_sem,↓reduceIte,Nat.reduceEqDiff,reduceCtorEq,reduceIte]
    exact ⟨k, by omega, siftDown (ltC cf) (b - a) a k d', by omega, rfl, by rw [hba], by rw [siftDown_size cf _ _ _ _ _ (Nat.le_refl _)]; exact hd', hbu, rfl⟩
  | zero =>
    have hbu' : d' = heapBuild (ltC cf) (b - a) a ((b - a - 1) / 2 + 1) d := hbu
    simp (disch:=first|assumption|omega) only[e11,e10,hba,go_sem,↓reduceIte,Nat.reduceEqDiff,reduceIte,Int.reduceLE,Int.reduceNeg]
    refine aw_count (fun k S => ∃ (d' : Array Cell), k ≤ b - a ∧ S.env 12 = .int .i64 ((k : Int) - 1) ∧ S.env 9 = .int .i64 0 ∧ S.env 8 = .int .i64 a ∧ S.env 0 = .ref id 0 d.size cap ∧ S.env 3 = .func f [] ∧ d'.size = d.size ∧ heapPop (ltC cf) a k d' = heapSort (ltC cf) d a b ∧ S.heap = h.set id (.cells (flatC d'.toList ++ rest))) (n := b - a)
      ⟨d', Nat.le_refl _, by simp (disch:=first|assumption|omega) only[go_sem,↓reduceIte,reduceIte,Int.reduceNeg], by simp (disch:=first|assumption|omega) only[e9,go_sem,↓reduceIte,Nat.reduceEqDiff,reduceIte,Int.reduceNeg], by simp (disch:=first|assumption|omega) only[e8,go_sem,↓reduceIte,Nat.reduceEqDiff,reduceIte,Int.reduceNeg], by simp (disch:=first|assumption|omega) only[e0,go_sem,↓reduceIte,reduceCtorEq,reduceIte,Int.reduceNeg], by simp (disch:=first|assumption|omega) only[e3,go_sem,↓reduceIte,Nat.reduceEqDiff,reduceIte,Int.reduceNeg], hd', by rw [hbu']; rfl, by simp (disch:=first|assumption|omega) only[eh,go_sem,Int.reduceNeg]⟩ ?_
    clear e11 e10 e9 e8 e0 e3 eh hget
    rintro k S ⟨d2, hkn2, e12, e9, e8, e0, e3, hd2, hpo, eh⟩
    have hget : (h.set id (.cells (flatC d2.toList ++ rest)))[id]? = some (.cells (flatC d2.toList ++ rest)) := List.getElem?_set_self hidl
    have hlen := acLen d2 rest
    cases k with
    | succ k =>
      have hk : (0 : Int) ≤ ((k + 1 : Nat) : Int) - 1 := by omega
      have hk1 : ((k + 1 : Nat) : Int) - 1 = (k : Int) := by omega
      have k1 : ((a : Int) + k).toNat = a + k := by omega
      have q1 := acGet d2 rest (j := a + k) (by omega)
      have q2 := acGet d2 rest (j := a) (by omega)
      have s1 := acSet d2 rest (j := a) d2[a + k]! (by omega)
      have s2 := acSet (d2.setIfInBounds a d2[a + k]!) rest (j := a + k) d2[a]! (by simp; omega)
      have hget2 : (h.set id (.cells (flatC (d2.setIfInBounds a d2[a + k]!).toList ++ rest)))[id]? = some (.cells (flatC (d2.setIfInBounds a d2[a + k]!).toList ++ rest)) := List.getElem?_set_self hidl
      have hlen2 := acLen (d2.setIfInBounds a d2[a + k]!) rest
      rw [Array.size_setIfInBounds] at hlen2
      have hsw : (d2.setIfInBounds a d2[a + k]!).setIfInBounds (a + k) d2[a]! = swp d2 a (a + k) := rfl
      simp (disch:=first|assumption|omega) only[e12,e9,e8,e0,e3,eh,hk1,k1,q1,q2,s1,s2,hget,hget2,hlen,hlen2,List.set_set,go_sem,↓reduceIte,Nat.reduceEqDiff,reduceCtorEq,Nat.reduceAdd,Nat.reduceLeDiff,reduceIte,Int.reduceAdd]
      repeat (refine And.intro ?_ ?_; omega)
      rw [hsw]
      have hss : (swp d2 a (a + k)).size = d.size := by rw [Sort.size_swp]; exact hd2
      have hget3 : (h.set id (.cells (flatC (swp d2 a (a + k)).toList ++ rest)))[id]? = some (.cells (flatC (swp d2 a (a + k)).toList ++ rest)) := List.getElem?_set_self hidl
      refine callG_ok (siftDown_ok f cf hf (swp d2 a (a + k)) _ hss id cap 0 k a rest _ (by simp (disch:=first|assumption|omega) only[hget3,go_sem]) (by omega) (by omega) (by omega)) (by simp (disch:=first|assumption|omega) only[go_sem]) ?_
      rintro _ _ ⟨rfl, rfl⟩
      rw [heapPop] at hpo
      simp (disch:=first|assumption|omega) only[e12,e9,e8,e0,e3,List.set_set,hk1,go_sem,↓reduceIte,Nat.reduceEqDiff,reduceCtorEq,reduceIte]
      exact ⟨k, by omega, siftDown (ltC cf) k a 0 (swp d2 a (a + k)), by omega, by simp, by rw [siftDown_size cf _ _ _ _ _ (Nat.le_refl _)]; exact hss, hpo, rfl⟩
    | zero =>
      have hpo' : d2 = heapSort (ltC cf) d a b := hpo
      simp (disch:=first|assumption|omega) only[e12,go_sem,↓reduceIte,reduceIte,Int.reduceLE,Int.reduceNeg]
      subst hQ
      simp (disch:=first|assumption|omega) only[R.slices_heapSortCmpFunc_Cell,eh,go_sem,Int.reduceNeg]
      rw [hpo']
end Go.Proofs.Ytpdajkbfemcdlaa
namespace Go.Proofs.Ytpdajkbfemcdlaa
open Go.Ge Go.Sort
theorem reverse_ok (f : Nat) (d : Array Cell) (N : Nat) (hN : d.size = N) (id cap a b : Nat) (rest : List AVal) (h : List HObj) (hid : h[id]? = some (.cells (flatC d.toList ++ rest))) (hab : a < b) (hb : b ≤ d.size) (hn : d.size ≤ 1099511627776) :
    ACalls Try.prog F.slices_reverseRangeCmpFunc_Cell [.ref id 0 N cap, .int .i64 a, .int .i64 b, .func f []] h
      (fun v h' => v = .tup [] ∧ h' = h.set id (.cells (flatC (reverseRange d a b).toList ++ rest))) := by
  subst hN
  have hidl : id < h.length := (List.getElem?_eq_some_iff.1 hid).1
  refine ACalls.of_aw Try.func223 K.slices_reverseRangeCmpFunc_Cell (by simp [Try.f223]) ?_
  generalize hQ : retQ R.slices_reverseRangeCmpFunc_Cell _ = Q
  simp (disch:=first|assumption|omega) only[C.slices_reverseRangeCmpFunc_Cell,go_sem,↓reduceIte,Nat.reduceEqDiff,reduceIte]
  refine aw_count (fun n S => ∃ (i j : Nat) (d' : Array Cell), n = j - i ∧ i ≤ j + 1 ∧ j < b ∧ S.env 8 = .int .i64 i ∧ S.env 9 = .int .i64 j ∧ S.env 0 = .ref id 0 d.size cap ∧ d'.size = d.size ∧ reverseLoop i j d' = reverseRange d a b ∧ S.heap = h.set id (.cells (flatC d'.toList ++ rest))) (n := b - 1 - a)
    ⟨a, b - 1, d, rfl, by omega, by omega, by simp (disch:=first|assumption|omega) only[go_sem,↓reduceIte,Nat.reduceEqDiff,reduceIte], by simp (disch:=first|assumption|omega) only[go_sem,↓reduceIte,reduceIte]; congr 1 <;> omega, by simp (disch:=first|assumption|omega) only[go_sem,↓reduceIte,reduceCtorEq,reduceIte], rfl, rfl, ?_⟩ ?_
  · simp (disch:=first|assumption|omega) only[go_sem]
    rw [set_same hid]
  rintro n S ⟨i, j, d', hn2, hij, hjb, e8, e9, e0, hd', hre, eh⟩
  have hget : (h.set id (.cells (flatC d'.toList ++ rest)))[id]? = some (.cells (flatC d'.toList ++ rest)) := List.getElem?_set_self hidl
  have hlen := acLen d' rest
  by_cases hlt : (i : Int) < j
  · rw [reverseLoop, if_pos (by omega)] at hre
    have q1 := acGet d' rest (j := i) (by omega)
    have q2 := acGet d' rest (j := j) (by omega)
    have s1 := acSet d' rest (j := i) d'[j]! (by omega)
    have s2 := acSet (d'.setIfInBounds i d'[j]!) rest (j := j) d'[i]! (by simp; omega)
    have hget2 : (h.set id (.cells (flatC (d'.setIfInBounds i d'[j]!).toList ++ rest)))[id]? = some (.cells (flatC (d'.setIfInBounds i d'[j]!).toList ++ rest)) := List.getElem?_set_self hidl
    have hlen2 := acLen (d'.setIfInBounds i d'[j]!) rest
    rw [Array.size_setIfInBounds] at hlen2
    simp (disch:=first|assumption|omega) only[e8,e9,e0,eh,hlt,q1,q2,s1,s2,hget,hget2,hlen,hlen2,List.set_set,go_sem,↓reduceIte,Nat.reduceEqDiff,reduceCtorEq,Nat.reduceAdd,Nat.reduceLeDiff,reduceIte,Int.reduceAdd]
    repeat (refine And.intro ?_ ?_; omega)
    exact ⟨j - 1 - (i + 1), by omega, i + 1, j - 1, swp d' i j, rfl, by omega, by omega, by simp, by congr 1; omega, by rw [Sort.size_swp]; exact hd', hre, rfl⟩
  · rw [reverseLoop, if_neg (by omega)] at hre
    simp (disch:=first|assumption|omega) only[e8,e9,hlt,go_sem,↓reduceIte,Nat.reduceEqDiff,reduceIte]
    subst hQ
    simp (disch:=first|assumption|omega) only[R.slices_reverseRangeCmpFunc_Cell,eh,go_sem]
    rw [hre]
def len8 : List UInt8 := [0, 1, 2, 2, 3, 3, 3, 3, 4, 4, 4, 4, 4, 4, 4, 4, 5, 5, 5, 5, 5, 5, 5, 5, 5, 5, 5, 5, 5, 5, 5, 5, 6, 6, 6, 6, 6, 6, 6, 6, 6, 6, 6, 6, 6, 6, 6, 6, 6, 6, 6, 6, 6, 6, 6, 6, 6, 6, 6, 6, 6, 6, 6, 6, 7, 7, 7, 7, 7, 7, 7, 7, 7, 7, 7, 7, 7, 7, 7, 7, 7, 7, 7, 7, 7, 7, 7, 7, 7, 7, 7, 7, 7, 7, 7, 7, 7, 7, 7, 7, 7, 7, 7, 7, 7, 7, 7, 7, 7, 7, 7, 7, 7, 7, 7, 7, 7, 7, 7, 7, 7, 7, 7, 7, 7, 7, 7, 7, 8, 8, 8, 8, 8, 8, 8, 8, 8, 8, 8, 8, 8, 8, 8, 8, 8, 8, 8, 8, 8, 8, 8, 8, 8, 8, 8, 8, 8, 8, 8, 8, 8, 8, 8, 8, 8, 8, 8, 8, 8, 8, 8, 8, 8, 8, 8, 8, 8, 8, 8, 8, 8, 8, 8, 8, 8, 8, 8, 8, 8, 8, 8, 8, 8, 8, 8, 8, 8, 8, 8, 8, 8, 8, 8, 8, 8, 8, 8, 8, 8, 8, 8, 8, 8, 8, 8, 8, 8, 8, 8, 8, 8, 8, 8, 8, 8, 8, 8, 8, 8, 8, 8, 8, 8, 8, 8, 8, 8, 8, 8, 8, 8, 8, 8, 8, 8, 8, 8, 8, 8, 8, 8, 8, 8, 8, 8, 8]
theorem len8_all : (List.range 256).all (fun k => decide ((len8.getD k 0).toNat ≤ 8) && (k == 0 || decide (2 ^ (len8.getD k 0).toNat ≤ 2 * k))) = true := by kernel_rfl
theorem len8_ok {k : Nat} (h : k < 256) : (len8.getD k 0).toNat ≤ 8 ∧ (1 ≤ k → 2 ^ (len8.getD k 0).toNat ≤ 2 * k) := by
  have := List.all_eq_true.1 len8_all k (List.mem_range.2 h)
  rw [Bool.and_eq_true, Bool.or_eq_true, decide_eq_true_iff, decide_eq_true_iff] at this
  refine ⟨this.1, fun hk => ?_⟩
  rcases this.2 with h | h
  · have := of_decide_eq_true h; omega
  · exact h
theorem Len64_ok (x : Nat) (hx : x < 65536) (h : List HObj) : ACalls Try.prog F.bits_Len64 [.int .u64 x] h (fun v h' => (∃ L : Nat, v = .int .i64 L ∧ L ≤ 16 ∧ (1 ≤ x → 2 ^ L ≤ 2 * x)) ∧ h' = h) := by
  refine ACalls.of_aw Try.func228 K.bits_Len64 (by simp [Try.f228]) ?_
  generalize hQ : retQ R.bits_Len64 _ = Q
  simp (disch:=first|assumption|omega) only[C.bits_Len64,go_sem,↓reduceIte,reduceCtorEq,reduceIte]
  have h1 : ¬ ((4294967296 : Int) ≤ x) := by omega
  have h2 : ¬ ((65536 : Int) ≤ x) := by omega
  by_cases h3 : (256 : Int) ≤ x
  · simp (disch:=first|assumption|omega) only[h1,h2,h3,wrapU8_mod,go_sem,↓reduceIte,Nat.reduceEqDiff,reduceCtorEq,reduceIte,Int.reduceLE]
    have hk : ((x : Int).fdiv (2 ^ min (Int.toNat 8) 64) % 256) = ((x / 256 : Nat) : Int) := by
      have e : (2 ^ min (Int.toNat 8) 64 : Int) = 256 := rfl
      rw [e, Int.fdiv_eq_ediv_of_nonneg _ (by omega)]; omega
    rw [hk]
    obtain ⟨t1, t2⟩ := len8_ok (k := x / 256) (by omega)
    refine ⟨⟨by omega, show ((x / 256 : Nat) : Int) < ((256 : Nat) : Int) by omega⟩, ?_⟩
    subst hQ
    simp (disch:=first|assumption|omega) only[R.bits_Len64,go_sem,↓reduceIte,reduceIte]
    refine ⟨8 + (len8.getD (x / 256) 0).toNat, ?_, by omega, fun _ => ?_⟩
    · show AVal.int .i64 (IntKind.i64.wrap (8 + IntKind.i64.wrap ((len8.getD (x / 256) 0).toNat : Int))) = _
      rw [wrapI64 (n := ((len8.getD (x / 256) 0).toNat : Int)) (by omega) (by omega), wrapI64 (by omega) (by omega)]
      congr 1
    · have := t2 (by omega)
      rw [Nat.pow_add]; omega
  · simp (disch:=first|assumption|omega) only[h1,h2,h3,wrapU8_mod,go_sem,↓reduceIte,Nat.reduceEqDiff,reduceCtorEq,reduceIte]
    have hk : ((x : Int) % 256) = ((x : Nat) : Int) := by omega
    rw [hk]
    obtain ⟨t1, t2⟩ := len8_ok (k := x) (by omega)
    refine ⟨⟨by omega, show ((x : Nat) : Int) < ((256 : Nat) : Int) by omega⟩, ?_⟩
    subst hQ
    simp (disch:=first|assumption|omega) only[R.bits_Len64,go_sem,↓reduceIte,reduceIte]
    refine ⟨(len8.getD x 0).toNat, ?_, by omega, t2⟩
    show AVal.int .i64 (IntKind.i64.wrap (IntKind.i64.wrap ((len8.getD x 0).toNat : Int))) = _
    rw [wrapI64 (n := ((len8.getD x 0).toNat : Int)) (by omega) (by omega), wrapI64 (by omega) (by omega)]
theorem Len_big (x : Nat) (hx : x < 65536) (h : List HObj) : ACalls Try.prog F.bits_Len [.int .u64 x] h (fun v h' => (∃ L : Nat, v = .int .i64 L ∧ L ≤ 16 ∧ (1 ≤ x → 2 ^ L ≤ 2 * x)) ∧ h' = h) := by
  refine ACalls.of_aw Try.func204 K.bits_Len (by simp [Try.f204]) ?_
  generalize hQ : retQ R.bits_Len _ = Q
  simp (disch:=first|assumption|omega) only[C.bits_Len,go_sem,↓reduceIte,reduceCtorEq,reduceIte]
  refine callG_ok (Len64_ok x hx _) (by simp (disch:=first|assumption|omega) only[go_sem]) ?_
  rintro _ _ ⟨⟨L, rfl, hL⟩, hhh⟩
  rw [hhh]
  clear hhh
  simp (disch:=first|assumption|omega) only[go_sem,↓reduceIte,reduceIte]
  subst hQ
  simp (disch:=first|assumption|omega) only[R.bits_Len,go_sem,↓reduceIte,reduceIte]
  exact ⟨L, rfl, hL⟩
theorem pow2_ok (x : Nat) (hx : x < 65536) (h : List HObj) : ACalls Try.prog F.slices_nextPowerOfTwo [.int .i64 x] h (fun v h' => (∃ m : Nat, v = .int .u64 m ∧ 1 ≤ m ∧ m ≤ 65536 ∧ (1 ≤ x → m ≤ 2 * x)) ∧ h' = h) := by
  refine ACalls.of_aw Try.func235 K.slices_nextPowerOfTwo (by simp [Try.f235]) ?_
  generalize hQ : retQ R.slices_nextPowerOfTwo _ = Q
  simp (disch:=first|assumption|omega) only[C.slices_nextPowerOfTwo,go_sem,↓reduceIte,reduceCtorEq,reduceIte]
  refine callG_ok (Len_big x hx _) (by simp (disch:=first|assumption|omega) only[go_sem]) ?_
  rintro _ _ ⟨⟨L, rfl, hL, h2⟩, hhh⟩
  rw [hhh]
  clear hhh
  have hp : (2 : Nat) ^ L ≤ 2 ^ 16 := Nat.pow_le_pow_right (by omega) hL
  have hp0 : 1 ≤ (2 : Nat) ^ L := Nat.one_le_two_pow
  have he : (2 : Int) ^ min L 64 = ((2 ^ L : Nat) : Int) := by
    rw [Nat.min_eq_left (by omega)]; simp
  have hw : IntKind.u64.wrap (1 * ((2 ^ L : Nat) : Int)) = ((2 ^ L : Nat) : Int) := by rw [Int.one_mul, wrapU64 (by omega) (by omega)]
  simp (disch:=first|assumption|omega) only[he,hw,go_sem,↓reduceIte,reduceIte]
  subst hQ
  simp (disch:=first|assumption|omega) only[R.slices_nextPowerOfTwo,go_sem,↓reduceIte,reduceIte]
  exact ⟨2 ^ L, rfl, hp0, by omega, h2⟩
theorem and_le64 (x : Int) {y : Int} (h0 : 0 ≤ y) (h1 : y < 18446744073709551616) : 0 ≤ bitsV .and .u64 x y ∧ bitsV .and .u64 x y ≤ y := by
  have e : bitsV .and .u64 x y = ((BitVec.ofInt 64 x &&& BitVec.ofInt 64 y).toNat : Int) := by
    show IntKind.u64.wrap _ = _
    have hb := (BitVec.ofInt 64 x &&& BitVec.ofInt 64 y).isLt
    exact wrapU64 (n := ((BitVec.ofInt 64 x &&& BitVec.ofInt 64 y).toNat : Int)) (by omega) (by omega)
  rw [e, BitVec.toNat_and]
  have := Nat.and_le_right (n := (BitVec.ofInt 64 x).toNat) (m := (BitVec.ofInt 64 y).toNat)
  have hy : (BitVec.ofInt 64 y).toNat = y.toNat := by rw [BitVec.toNat_ofInt]; omega
  omega
theorem xNext_ok (id : Nat) (r : Int) (h : List HObj) (hid : h[id]? = some (.cells [.int .u64 r])) : ACalls Try.prog F.slices_xorshift_Next [.hp id 0] h (fun v h' => ∃ r', v = .int .u64 r' ∧ h' = h.set id (.cells [.int .u64 r'])) := by
  have hidl : id < h.length := (List.getElem?_eq_some_iff.1 hid).1
  have hg : ∀ x : AVal, (h.set id (.cells [x]))[id]? = some (.cells [x]) := fun x => List.getElem?_set_self hidl
  refine ACalls.of_aw Try.func236 K.slices_xorshift_Next (by simp [Try.f236]) ?_
  generalize hQ : retQ R.slices_xorshift_Next _ = Q
  simp (disch:=first|assumption|omega) only[C.slices_xorshift_Next,go_sem,↓reduceIte,Nat.reduceEqDiff,reduceCtorEq,Nat.reduceLeDiff,reduceIte]
  simp (disch:=first|assumption|omega) only[hid,hg,List.set_set,fillV,go_sem,Nat.reduceLeDiff,Nat.reduceLT,Int.reduceLT,Int.reduceLE]
  subst hQ
  simp (disch:=first|assumption|omega) only[R.slices_xorshift_Next,go_sem,↓reduceIte,reduceIte]
  exact ⟨_, rfl, rfl⟩
theorem app_get {A B : List HObj} {i : Nat} (h : i < A.length) : (A ++ B)[i]? = A[i]? := List.getElem?_append_left h
theorem app_set {A B : List HObj} {i : Nat} {x : HObj} (h : i < A.length) : (A ++ B).set i x = A.set i x ++ B := List.set_append_left _ _ h
theorem flatC_ids (l : List Cell) {m : Nat} : idsL (flatC l) ≤ m := by
  rw [idsL_le]
  intro x hx
  obtain ⟨c, _, hc⟩ := List.mem_flatMap.1 hx
  simp only[List.mem_cons,List.not_mem_nil,or_false] at hc
  rcases hc with rfl | rfl <;> exact Nat.zero_le _
theorem gcFin {h ext : List HObj} {id a b : Nat} {d d' : Array Cell} {rest : List AVal} (hr : idsL rest ≤ h.length) (hq : PermIn a b d d') :
    ∃ h1 ext', h.set id (.cells (flatC d'.toList ++ rest)) ++ ext = h1 ++ ext' ∧ h.length ≤ h1.length ∧ (AVal.tup []).ids ≤ h1.length ∧ (∀ (i : Nat) (o : HObj), h1[i]? = some o → h[i]? = some o ∨ o.ids ≤ h1.length) ∧ ∃ d', PermIn a b d d' ∧ h1 = h.set id (.cells (flatC d'.toList ++ rest)) := by
  refine ⟨_, ext, rfl, by simp, by simp [AVal.ids, idsL], fun i o ho => ?_, d', hq, rfl⟩
  by_cases hi : id = i
  · subst hi
    right
    have hl : id < (h.set id (.cells (flatC d'.toList ++ rest))).length := (List.getElem?_eq_some_iff.1 ho).1
    rw [List.length_set] at hl
    rw [List.getElem?_set_self hl] at ho
    injection ho with ho
    subst ho
    rw [List.length_set]
    show idsL _ ≤ _
    rw [idsL_le]
    intro x hx
    rcases List.mem_append.1 hx with hx | hx
    · exact idsL_le.1 (flatC_ids d'.toList) x hx
    · exact idsL_le.1 hr x hx
  · rw [List.getElem?_set_ne hi] at ho
    exact .inl ho
theorem break_ok (f : Nat) (d : Array Cell) (N : Nat) (hN : d.size = N) (id cap a b : Nat) (rest : List AVal) (h : List HObj) (hid : h[id]? = some (.cells (flatC d.toList ++ rest))) (hab : a ≤ b) (hb : b ≤ d.size) (hn : d.size < 65536) (hr : idsL rest ≤ h.length) :
    ACalls Try.prog F.slices_breakPatternsCmpFunc_Cell [.ref id 0 N cap, .int .i64 a, .int .i64 b, .func f []] h
      (fun v h' => v = .tup [] ∧ ∃ d' : Array Cell, PermIn a b d d' ∧ h' = h.set id (.cells (flatC d'.toList ++ rest))) := by
  subst hN
  have hidl : id < h.length := (List.getElem?_eq_some_iff.1 hid).1
  have hba : ((b : Int) - a) = ((b - a : Nat) : Int) := by omega
  generalize hl : b - a = l at hba
  refine ACalls.gc (ACalls.of_aw Try.func221 K.slices_breakPatternsCmpFunc_Cell (by simp [Try.f221]) ?_)
  generalize hQ : retQ R.slices_breakPatternsCmpFunc_Cell _ = Q
  simp (disch:=first|assumption|omega) only[C.slices_breakPatternsCmpFunc_Cell,go_sem,↓reduceIte,Nat.reduceEqDiff,reduceIte]
  by_cases h8 : (8 : Int) ≤ l
  · simp (disch:=first|assumption|omega) only[hba,h8,go_sem,↓reduceIte,Nat.reduceEqDiff,Nat.reduceLeDiff,reduceIte]
    refine callG_ok (pow2_ok l (by omega) _) (by simp (disch:=first|assumption|omega) only[go_sem]) ?_
    rintro _ _ ⟨⟨m, rfl, m1, m2, m3⟩, hhh⟩
    rw [hhh]
    clear hhh
    have m3 := m3 (by omega)
    have hq : ((l : Int).tdiv 4) = ((l / 4 : Nat) : Int) := rfl
    simp (disch:=first|assumption|omega) only[hq,go_sem,↓reduceIte,Nat.reduceEqDiff,reduceIte,Int.reduceNe]
    have hl8 : 8 ≤ l := by omega
    refine aw_count (fun n S => ∃ (i : Nat) (d' : Array Cell) (r : Int), n = a + l / 4 * 2 + 2 - i ∧ a + l / 4 * 2 - 1 ≤ i ∧ i ≤ a + l / 4 * 2 + 2 ∧ S.env 11 = .int .i64 i ∧ S.env 1 = .int .i64 a ∧ S.env 8 = .int .i64 l ∧ S.env 10 = .int .u64 m ∧ S.env 9 = .hp h.length 0 ∧ S.env 0 = .ref id 0 d.size cap ∧ PermIn a b d d' ∧ S.heap = h.set id (.cells (flatC d'.toList ++ rest)) ++ [.cells [.int .u64 r]]) (n := 3)
      ⟨a + l / 4 * 2 - 1, d, l, by omega, by omega, by omega, by simp (disch:=first|assumption|omega) only[go_sem,↓reduceIte,reduceIte]; congr 1; omega, by simp (disch:=first|assumption|omega) only[go_sem,↓reduceIte,Nat.reduceEqDiff,reduceIte], by simp (disch:=first|assumption|omega) only[go_sem,↓reduceIte,Nat.reduceEqDiff,reduceIte], by simp (disch:=first|assumption|omega) only[go_sem,↓reduceIte,Nat.reduceEqDiff,reduceIte], by simp (disch:=first|assumption|omega) only[go_sem,↓reduceIte,Nat.reduceEqDiff,reduceIte], by simp (disch:=first|assumption|omega) only[go_sem,↓reduceIte,reduceCtorEq,reduceIte]; rfl, permIn_refl _ _ _, ?_⟩ ?_
    · simp (disch:=first|assumption|omega) only[go_sem,↓reduceIte,reduceIte]
      rw [set_same hid]
    rintro n S ⟨i, d', r, hn2, hi1, hi2, e11, e1, e8, e10, e9, e0, hP, eh⟩
    have hsz := hP.1
    have hAl : (h.set id (.cells (flatC d'.toList ++ rest))).length = h.length := by simp
    by_cases hle : (i : Int) ≤ (a : Int) + ((l / 4 : Nat) : Int) * 2 + 1
    · simp (disch:=first|assumption|omega) only[e11,e1,e8,e9,hq,hle,go_sem,↓reduceIte,Nat.reduceEqDiff,reduceIte,Int.reduceNe]
      refine callG_ok (xNext_ok h.length r _ (by simp (disch:=first|assumption|omega) only[eh,go_sem]; rw [List.getElem?_append_right (by omega), hAl, Nat.sub_self]; rfl)) (by simp (disch:=first|assumption|omega) only[go_sem]) ?_
      rintro _ _ ⟨r', rfl, rfl⟩
      have hset : ((h.set id (.cells (flatC d'.toList ++ rest))) ++ [HObj.cells [.int .u64 r]]).set h.length (.cells [.int .u64 r']) = h.set id (.cells (flatC d'.toList ++ rest)) ++ [.cells [.int .u64 r']] := by
        rw [← hAl, hpx_set0]; rfl
      have hB := and_le64 r' (y := (m : Int) - 1) (by omega) (by omega)
      obtain ⟨o, ho⟩ : ∃ o : Nat, bitsV .and .u64 r' ((m : Int) - 1) = (o : Int) := ⟨_, (Int.toNat_of_nonneg hB.1).symm⟩
      rw [ho] at hB
      have hget : (h.set id (.cells (flatC d'.toList ++ rest)) ++ [HObj.cells [.int .u64 r']])[id]? = some (.cells (flatC d'.toList ++ rest)) := by
        rw [app_get (by simpa using hidl), List.getElem?_set_self hidl]
      have hlen := acLen d' rest
      have hi3 : i < d'.size := by omega
      have q1 := acGet d' rest (j := i) hi3
      have hconv : IntKind.i64.wrap (o : Int) = o := wrapI64 (by omega) (by omega)
      obtain ⟨o', ho', hol⟩ : ∃ o' : Nat, o' = (if l ≤ o then o - l else o) ∧ o' < l := ⟨_, rfl, by split <;> omega⟩
      have hj3 : a + o' < d'.size := by omega
      have k1 : ((a : Int) + o').toNat = a + o' := by omega
      have k2 : ((i : Nat) : Int).toNat = i := rfl
      have q2 := acGet d' rest (j := a + o') hj3
      have s1 := acSet d' rest (j := i) d'[a + o']! hi3
      have s2 := acSet (d'.setIfInBounds i d'[a + o']!) rest (j := a + o') d'[i]! (by simpa using hj3)
      have hlen2 := acLen (d'.setIfInBounds i d'[a + o']!) rest
      rw [Array.size_setIfInBounds] at hlen2
      have hget2 : (h.set id (.cells (flatC (d'.setIfInBounds i d'[a + o']!).toList ++ rest)) ++ [HObj.cells [.int .u64 r']])[id]? = some (.cells (flatC (d'.setIfInBounds i d'[a + o']!).toList ++ rest)) := by
        rw [app_get (by simpa using hidl), List.getElem?_set_self hidl]
      have hset2 : ∀ (x y : HObj), (h.set id x ++ [HObj.cells [.int .u64 r']]).set id y = h.set id y ++ [HObj.cells [.int .u64 r']] := fun x y => by
        rw [app_set (by simpa using hidl), List.set_set]
      have hPn : PermIn a b d (swp d' i (a + o')) := permIn_trans _ _ _ _ _ hP (swp_permIn d' a b i (a + o') (by omega) (by omega) (by omega) (by omega) (by omega))
      by_cases hol2 : (l : Int) ≤ o
      · have hox : (o : Int) - l = (o' : Int) := by rw [ho', if_pos (by omega)]; omega
        simp (disch:=first|assumption|omega) only[e11,e1,e8,e10,e9,e0,ho,hconv,hset,eh,hol2,hox,k1,k2,q1,q2,s1,s2,hget,hget2,hset2,hlen,hlen2,go_sem,↓reduceIte,Nat.reduceEqDiff,reduceCtorEq,Nat.reduceAdd,Nat.reduceLeDiff,reduceIte,Int.reduceAdd]
        repeat (refine And.intro ?_ ?_; omega)
        exact ⟨a + l / 4 * 2 + 2 - (i + 1), by omega, i + 1, swp d' i (a + o'), r', rfl, by omega, by omega, by simp, hPn, rfl⟩
      · have hox : (o : Int) = (o' : Int) := by rw [ho', if_neg (by omega)]
        rw [hox] at ho hconv hol2
        simp (disch:=first|assumption|omega) only[e11,e1,e8,e10,e9,e0,ho,hconv,hset,eh,hol2,k1,k2,q1,q2,s1,s2,hget,hget2,hset2,hlen,hlen2,go_sem,↓reduceIte,Nat.reduceEqDiff,reduceCtorEq,Nat.reduceAdd,Nat.reduceLeDiff,reduceIte,Int.reduceAdd]
        repeat (refine And.intro ?_ ?_; omega)
        exact ⟨a + l / 4 * 2 + 2 - (i + 1), by omega, i + 1, swp d' i (a + o'), r', rfl, by omega, by omega, by simp, hPn, rfl⟩
    · simp (disch:=first|assumption|omega) only[e11,e1,e8,hq,hle,go_sem,↓reduceIte,Nat.reduceEqDiff,reduceIte,Int.reduceNe]
      subst hQ
      simp (disch:=first|assumption|omega) only[R.slices_breakPatternsCmpFunc_Cell,go_sem]
      rw [eh]
      exact gcFin hr hP
  · simp (disch:=first|assumption|omega) only[hba,h8,go_sem]
    subst hQ
    simp (disch:=first|assumption|omega) only[R.slices_breakPatternsCmpFunc_Cell,go_sem]
    have := gcFin (ext := []) (id := id) (rest := rest) hr (permIn_refl d a b)
    rw [set_same hid, List.append_nil] at this
    exact this
end Go.Proofs.Ytpdajkbfemcdlaa
namespace Go.Proofs.Ytpdajkbfemcdlaa
open Go.Ge Go.Sort
theorem order2_ok (f : Nat) (cf : Cell → Cell → Int) (hf : CmpOk f cf) (d : Array Cell) (N : Nat) (hN : d.size = N) (id cap a b : Nat) (rest : List AVal) (si : Nat) (sw : Int) (h : List HObj) (hid : h[id]? = some (.cells (flatC d.toList ++ rest))) (ha : a < d.size) (hb : b < d.size) (hn : d.size < 65536) (hs : h[si]? = some (.cells [.int .i64 sw])) (hsw0 : 0 ≤ sw) (hsw : sw ≤ 1000) :
    ACalls Try.prog F.slices_order2CmpFunc_Cell [.ref id 0 N cap, .int .i64 a, .int .i64 b, .hp si 0, .func f []] h
      (fun v h' => ∃ (x y : Nat) (sw' : Int), (x = a ∧ y = b ∨ x = b ∧ y = a) ∧ sw ≤ sw' ∧ sw' ≤ sw + 1 ∧ v = .tup [.int .i64 x, .int .i64 y] ∧ h' = h.set si (.cells [.int .i64 sw'])) := by
  subst hN
  have q1 := acGet d rest (j := a) (by omega)
  have q2 := acGet d rest (j := b) (by omega)
  have hlen := acLen d rest
  have ha' : (a : Int) < d.size := by omega
  have hb' : (b : Int) < d.size := by omega
  refine ACalls.of_aw Try.func240 K.slices_order2CmpFunc_Cell (by simp [Try.f240]) ?_
  generalize hQ : retQ R.slices_order2CmpFunc_Cell _ = Q
  simp (disch:=first|assumption|omega) only[C.slices_order2CmpFunc_Cell,go_sem,↓reduceIte,Nat.reduceEqDiff,reduceCtorEq,Nat.reduceLeDiff,reduceIte]
  simp (disch:=first|assumption|omega) only[hid,q1,q2,hlen,go_sem]
  repeat (refine And.intro ?_ ?_; omega)
  refine callvqG_ok (hf d[b]! d[a]! _) (by simp (disch:=first|assumption|omega) only[go_sem]) ?_
  rintro _ _ ⟨rfl, hhh⟩
  rw [hhh]
  clear hhh
  refine ⟨rfl, ?_⟩
  by_cases hx : cf d[b]! d[a]! < 0
  · simp (disch:=first|assumption|omega) only[hx,hs,fillV,go_sem,↓reduceIte,Nat.reduceEqDiff,Nat.reduceLeDiff,Nat.reduceLT,reduceIte,Int.reduceLT]
    subst hQ
    simp (disch:=first|assumption|omega) only[R.slices_order2CmpFunc_Cell,go_sem,↓reduceIte,Nat.reduceEqDiff,reduceIte]
    exact ⟨b, a, sw + 1, .inr ⟨rfl, rfl⟩, by omega, by omega, rfl, rfl⟩
  · simp (disch:=first|assumption|omega) only[hx,go_sem,↓reduceIte,Nat.reduceEqDiff,reduceIte]
    subst hQ
    simp (disch:=first|assumption|omega) only[R.slices_order2CmpFunc_Cell,go_sem,↓reduceIte,Nat.reduceEqDiff,reduceIte]
    exact ⟨a, b, sw, .inl ⟨rfl, rfl⟩, by omega, by omega, rfl, (set_same hs).symm⟩
theorem median_ok (f : Nat) (cf : Cell → Cell → Int) (hf : CmpOk f cf) (d : Array Cell) (N : Nat) (hN : d.size = N) (id cap a b c : Nat) (rest : List AVal) (si : Nat) (sw : Int) (h : List HObj) (hid : h[id]? = some (.cells (flatC d.toList ++ rest))) (ha : a < d.size) (hb : b < d.size) (hc : c < d.size) (hn : d.size < 65536) (hs : h[si]? = some (.cells [.int .i64 sw])) (hne : si ≠ id) (hsw0 : 0 ≤ sw) (hsw : sw ≤ 900) :
    ACalls Try.prog F.slices_medianCmpFunc_Cell [.ref id 0 N cap, .int .i64 a, .int .i64 b, .int .i64 c, .hp si 0, .func f []] h
      (fun v h' => ∃ (x : Nat) (sw' : Int), (x = a ∨ x = b ∨ x = c) ∧ sw ≤ sw' ∧ sw' ≤ sw + 3 ∧ v = .int .i64 x ∧ h' = h.set si (.cells [.int .i64 sw'])) := by
  have hsl : si < h.length := (List.getElem?_eq_some_iff.1 hs).1
  have hgs : ∀ z : HObj, (h.set si z)[si]? = some z := fun z => List.getElem?_set_self hsl
  have hgi : ∀ z : HObj, (h.set si z)[id]? = some (.cells (flatC d.toList ++ rest)) := fun z => by rw [List.getElem?_set_ne hne]; exact hid
  refine ACalls.of_aw Try.func238 K.slices_medianCmpFunc_Cell (by simp [Try.f238]) ?_
  generalize hQ : retQ R.slices_medianCmpFunc_Cell _ = Q
  simp (disch:=first|assumption|omega) only[C.slices_medianCmpFunc_Cell,go_sem,↓reduceIte,Nat.reduceEqDiff,reduceCtorEq,reduceIte]
  refine callG_ok (order2_ok f cf hf d N hN id cap a b rest si sw _ (by simp (disch:=first|assumption|omega) only[hid,go_sem]) ha hb hn (by simp (disch:=first|assumption|omega) only[hs,go_sem]) hsw0 (by omega)) (by simp (disch:=first|assumption|omega) only[go_sem]) ?_
  rintro _ _ ⟨x1, y1, s1, hxy1, hs1, hs1', rfl, rfl⟩
  have hx1 : x1 < d.size := by omega
  have hy1 : y1 < d.size := by omega
  simp (disch:=first|assumption|omega) only[go_sem,↓reduceIte,Nat.reduceEqDiff,reduceCtorEq,Nat.reduceAdd,Nat.reduceLT,reduceIte,Int.reduceLT,Int.reduceAdd]
  refine callG_ok (order2_ok f cf hf d N hN id cap y1 c rest si s1 _ (by simp (disch:=first|assumption|omega) only[hgi,go_sem]) hy1 hc hn (by simp (disch:=first|assumption|omega) only[hgs,go_sem]) (by omega) (by omega)) (by simp (disch:=first|assumption|omega) only[go_sem]) ?_
  rintro _ _ ⟨x2, y2, s2, hxy2, hs2, hs2', rfl, rfl⟩
  have hx2 : x2 < d.size := by omega
  simp (disch:=first|assumption|omega) only[List.set_set,go_sem,↓reduceIte,Nat.reduceEqDiff,reduceCtorEq,Nat.reduceAdd,Nat.reduceLT,reduceIte,Int.reduceLT,Int.reduceAdd]
  refine callG_ok (order2_ok f cf hf d N hN id cap x1 x2 rest si s2 _ (by simp (disch:=first|assumption|omega) only[hgi,go_sem]) hx1 hx2 hn (by simp (disch:=first|assumption|omega) only[hgs,go_sem]) (by omega) (by omega)) (by simp (disch:=first|assumption|omega) only[go_sem]) ?_
  rintro _ _ ⟨x3, y3, s3, hxy3, hs3, hs3', rfl, rfl⟩
  simp (disch:=first|assumption|omega) only[List.set_set,go_sem,↓reduceIte,Nat.reduceEqDiff,Nat.reduceAdd,Nat.reduceLT,reduceIte,Int.reduceLT,Int.reduceAdd]
  subst hQ
  simp (disch:=first|assumption|omega) only[R.slices_medianCmpFunc_Cell,go_sem,↓reduceIte,reduceIte]
  exact ⟨y3, s3, by omega, by omega, by omega, rfl, rfl⟩
theorem medianAdj_ok (f : Nat) (cf : Cell → Cell → Int) (hf : CmpOk f cf) (d : Array Cell) (N : Nat) (hN : d.size = N) (id cap a : Nat) (rest : List AVal) (si : Nat) (sw : Int) (h : List HObj) (hid : h[id]? = some (.cells (flatC d.toList ++ rest))) (ha0 : 1 ≤ a) (ha : a + 1 < d.size) (hn : d.size < 65536) (hs : h[si]? = some (.cells [.int .i64 sw])) (hne : si ≠ id) (hsw0 : 0 ≤ sw) (hsw : sw ≤ 900) :
    ACalls Try.prog F.slices_medianAdjacentCmpFunc_Cell [.ref id 0 N cap, .int .i64 a, .hp si 0, .func f []] h
      (fun v h' => ∃ (x : Nat) (sw' : Int), (x = a - 1 ∨ x = a ∨ x = a + 1) ∧ sw ≤ sw' ∧ sw' ≤ sw + 3 ∧ v = .int .i64 x ∧ h' = h.set si (.cells [.int .i64 sw'])) := by
  have hm1 : (a : Int) - 1 = ((a - 1 : Nat) : Int) := by omega
  have hp1 : (a : Int) + 1 = ((a + 1 : Nat) : Int) := by omega
  refine ACalls.of_aw Try.func237 K.slices_medianAdjacentCmpFunc_Cell (by simp [Try.f237]) ?_
  generalize hQ : retQ R.slices_medianAdjacentCmpFunc_Cell _ = Q
  simp (disch:=first|assumption|omega) only[C.slices_medianAdjacentCmpFunc_Cell,go_sem,↓reduceIte,Nat.reduceEqDiff,reduceCtorEq,reduceIte]
  simp (disch:=first|assumption|omega) only[hm1,hp1,go_sem]
  refine callG_ok (median_ok f cf hf d N hN id cap (a - 1) a (a + 1) rest si sw _ (by simp (disch:=first|assumption|omega) only[hid,go_sem]) (by omega) (by omega) ha hn (by simp (disch:=first|assumption|omega) only[hs,go_sem]) hne hsw0 hsw) (by simp (disch:=first|assumption|omega) only[go_sem]) ?_
  rintro _ _ ⟨x, s', hx, h1, h2, rfl, rfl⟩
  simp (disch:=first|assumption|omega) only[go_sem,↓reduceIte,reduceIte]
  subst hQ
  simp (disch:=first|assumption|omega) only[R.slices_medianAdjacentCmpFunc_Cell,go_sem,↓reduceIte,reduceIte]
  exact ⟨x, s', hx, h1, h2, rfl, rfl⟩
theorem choose_ok (f : Nat) (cf : Cell → Cell → Int) (hf : CmpOk f cf) (d : Array Cell) (N : Nat) (hN : d.size = N) (id cap a b : Nat) (rest : List AVal) (h : List HObj) (hid : h[id]? = some (.cells (flatC d.toList ++ rest))) (hab : a < b) (hb : b ≤ d.size) (hn : d.size < 65536) :
    ACalls Try.prog F.slices_choosePivotCmpFunc_Cell [.ref id 0 N cap, .int .i64 a, .int .i64 b, .func f []] h
      (fun v h' => (∃ (p : Nat) (x : Int), a ≤ p ∧ p < b ∧ v = .tup [.int .i64 p, .int .i64 x]) ∧ h' = h) := by
  have hidl : id < h.length := (List.getElem?_eq_some_iff.1 hid).1
  have hba : ((b : Int) - a) = ((b - a : Nat) : Int) := by omega
  generalize hl : b - a = l at hba
  have hq : ((l : Int) / 4) = ((l / 4 : Nat) : Int) := rfl
  have hpr : proV 11 h.length true (drV 11 (AVal.ref id 0 N cap)) = .ref id 0 N cap := rfl
  have hi1 : (a : Int) + ((l / 4 : Nat) : Int) * 1 = ((a + l / 4 : Nat) : Int) := by omega
  have hi2 : (a : Int) + ((l / 4 : Nat) : Int) * 2 = ((a + l / 4 * 2 : Nat) : Int) := by omega
  have hi3 : (a : Int) + ((l / 4 : Nat) : Int) * 3 = ((a + l / 4 * 3 : Nat) : Int) := by omega
  have hgi : ∀ z : HObj, (h ++ [z])[id]? = some (.cells (flatC d.toList ++ rest)) := fun z => by rw [app_get hidl]; exact hid
  have hgs : ∀ z : HObj, (h ++ [z])[h.length]? = some z := fun z => by rw [hpx_get0]; rfl
  have hst : ∀ y z : HObj, (h ++ [z]).set h.length y = h ++ [y] := fun y z => by rw [hpx_set0]; rfl
  have hne : h.length ≠ id := by omega
  refine ACalls.gcn (ACalls.of_aw Try.func222 K.slices_choosePivotCmpFunc_Cell (by simp [Try.f222]) ?_)
  generalize hQ : retQ R.slices_choosePivotCmpFunc_Cell _ = Q
  simp (disch:=first|assumption|omega) only[C.slices_choosePivotCmpFunc_Cell,go_sem,↓reduceIte,Nat.reduceEqDiff,reduceIte,Int.reduceNe]
  by_cases h8 : (8 : Int) ≤ l
  · by_cases h50 : (50 : Int) ≤ l
    · simp (disch:=first|assumption|omega) only[hba,hq,h8,h50,hpr,hi1,hi2,hi3,go_sem,↓reduceIte,Nat.reduceEqDiff,reduceCtorEq,reduceIte]
      refine callG_ok (medianAdj_ok f cf hf d N hN id cap (a + l / 4) rest h.length 0 _ (by simp (disch:=first|assumption|omega) only[hgi,go_sem,↓reduceIte,reduceIte]) (by omega) (by omega) hn (by simp (disch:=first|assumption|omega) only[hgs,go_sem,↓reduceIte,reduceIte]) hne (by omega) (by omega)) (by simp (disch:=first|assumption|omega) only[go_sem]) ?_
      rintro _ _ ⟨x1, s1, hx1, hs1, hs1', rfl, rfl⟩
      simp (disch:=first|assumption|omega) only[hst,hpr,go_sem,↓reduceIte,Nat.reduceEqDiff,reduceCtorEq,reduceIte]
      refine callG_ok (medianAdj_ok f cf hf d N hN id cap (a + l / 4 * 2) rest h.length s1 _ (by first | exact hgi _ | simp (disch:=first|assumption|omega) only[hgi,hst,hpr,go_sem,↓reduceIte,Nat.reduceEqDiff,reduceCtorEq,Nat.reduceAdd,Nat.reduceLeDiff,Nat.reduceLT,reduceIte,Int.reduceBEq,Int.reduceBNe,Int.reduceLT,Int.reduceLE,Int.reduceAdd,Int.reduceSub,Int.reduceMul,Int.reduceNeg,Int.reduceEq,Int.reduceNe,Nat.reduceMul,Nat.reduceSub]) (by omega) (by omega) hn (by first | exact hgs _ | simp (disch:=first|assumption|omega) only[hgs,hst,hpr,go_sem,↓reduceIte,Nat.reduceEqDiff,reduceCtorEq,Nat.reduceAdd,Nat.reduceLeDiff,Nat.reduceLT,reduceIte,Int.reduceBEq,Int.reduceBNe,Int.reduceLT,Int.reduceLE,Int.reduceAdd,Int.reduceSub,Int.reduceMul,Int.reduceNeg,Int.reduceEq,Int.reduceNe,Nat.reduceMul,Nat.reduceSub]) hne (by omega) (by omega)) (by simp (disch:=first|assumption|omega) only[go_sem]) ?_
      rintro _ _ ⟨x2, s2, hx2, hs2, hs2', rfl, rfl⟩
      simp (disch:=first|assumption|omega) only[hst,hpr,go_sem,↓reduceIte,Nat.reduceEqDiff,reduceCtorEq,reduceIte]
      refine callG_ok (medianAdj_ok f cf hf d N hN id cap (a + l / 4 * 3) rest h.length s2 _ (by first | exact hgi _ | simp (disch:=first|assumption|omega) only[hgi,hst,hpr,go_sem,↓reduceIte,Nat.reduceEqDiff,reduceCtorEq,Nat.reduceAdd,Nat.reduceLeDiff,Nat.reduceLT,reduceIte,Int.reduceBEq,Int.reduceBNe,Int.reduceLT,Int.reduceLE,Int.reduceAdd,Int.reduceSub,Int.reduceMul,Int.reduceNeg,Int.reduceEq,Int.reduceNe,Nat.reduceMul,Nat.reduceSub]) (by omega) (by omega) hn (by first | exact hgs _ | simp (disch:=first|assumption|omega) only[hgs,hst,hpr,go_sem,↓reduceIte,Nat.reduceEqDiff,reduceCtorEq,Nat.reduceAdd,Nat.reduceLeDiff,Nat.reduceLT,reduceIte,Int.reduceBEq,Int.reduceBNe,Int.reduceLT,Int.reduceLE,Int.reduceAdd,Int.reduceSub,Int.reduceMul,Int.reduceNeg,Int.reduceEq,Int.reduceNe,Nat.reduceMul,Nat.reduceSub]) hne (by omega) (by omega)) (by simp (disch:=first|assumption|omega) only[go_sem]) ?_
      rintro _ _ ⟨x3, s3, hx3, hs3, hs3', rfl, rfl⟩
      simp (disch:=first|assumption|omega) only[hst,hpr,go_sem,↓reduceIte,Nat.reduceEqDiff,reduceCtorEq,reduceIte]
      refine callG_ok (median_ok f cf hf d N hN id cap x1 x2 x3 rest h.length s3 _ (by first | exact hgi _ | simp (disch:=first|assumption|omega) only[hgi,hst,hpr,go_sem,↓reduceIte,Nat.reduceEqDiff,reduceCtorEq,Nat.reduceAdd,Nat.reduceLeDiff,Nat.reduceLT,reduceIte,Int.reduceBEq,Int.reduceBNe,Int.reduceLT,Int.reduceLE,Int.reduceAdd,Int.reduceSub,Int.reduceMul,Int.reduceNeg,Int.reduceEq,Int.reduceNe,Nat.reduceMul,Nat.reduceSub]) (by omega) (by omega) (by omega) hn (by first | exact hgs _ | simp (disch:=first|assumption|omega) only[hgs,hst,hpr,go_sem,↓reduceIte,Nat.reduceEqDiff,reduceCtorEq,Nat.reduceAdd,Nat.reduceLeDiff,Nat.reduceLT,reduceIte,Int.reduceBEq,Int.reduceBNe,Int.reduceLT,Int.reduceLE,Int.reduceAdd,Int.reduceSub,Int.reduceMul,Int.reduceNeg,Int.reduceEq,Int.reduceNe,Nat.reduceMul,Nat.reduceSub]) hne (by omega) (by omega)) (by simp (disch:=first|assumption|omega) only[go_sem]) ?_
      rintro _ _ ⟨x4, s4, hx4, hs4, hs4', rfl, rfl⟩
      by_cases hz : s4 = 0
      · subst hz
        simp (disch:=first|assumption|omega) only[hgs,hst,go_sem,↓reduceIte,Nat.reduceEqDiff,Nat.reduceLeDiff,Nat.reduceLT,reduceIte,Int.reduceLT]
        subst hQ
        simp (disch:=first|assumption|omega) only[R.slices_choosePivotCmpFunc_Cell,go_sem,↓reduceIte,Nat.reduceEqDiff,reduceIte]
        exact ⟨_, rfl, by simp [AVal.ids, idsL], x4, 1, by omega, by omega, rfl⟩
      · by_cases hz2 : s4 = 12
        · subst hz2
          simp (disch:=first|assumption|omega) only[hgs,hst,go_sem,↓reduceIte,Nat.reduceEqDiff,Nat.reduceLeDiff,Nat.reduceLT,reduceIte,Int.reduceLT,Int.reduceEq]
          subst hQ
          simp (disch:=first|assumption|omega) only[R.slices_choosePivotCmpFunc_Cell,go_sem,↓reduceIte,Nat.reduceEqDiff,reduceIte]
          exact ⟨_, rfl, by simp [AVal.ids, idsL], x4, 2, by omega, by omega, rfl⟩
        · simp (disch:=first|assumption|omega) only[hgs,hst,hz,hz2,go_sem,↓reduceIte,Nat.reduceEqDiff,Nat.reduceLeDiff,Nat.reduceLT,reduceIte,Int.reduceLT]
          subst hQ
          simp (disch:=first|assumption|omega) only[R.slices_choosePivotCmpFunc_Cell,go_sem,↓reduceIte,Nat.reduceEqDiff,reduceIte]
          exact ⟨_, rfl, by simp [AVal.ids, idsL], x4, 0, by omega, by omega, rfl⟩
    · simp (disch:=first|assumption|omega) only[hba,hq,h8,h50,hpr,hi1,hi2,hi3,go_sem,↓reduceIte,Nat.reduceEqDiff,reduceCtorEq,reduceIte]
      refine callG_ok (median_ok f cf hf d N hN id cap (a + l / 4) (a + l / 4 * 2) (a + l / 4 * 3) rest h.length 0 _ (by simp (disch:=first|assumption|omega) only[hgi,go_sem,↓reduceIte,reduceIte]) (by omega) (by omega) (by omega) hn (by simp (disch:=first|assumption|omega) only[hgs,go_sem,↓reduceIte,reduceIte]) hne (by omega) (by omega)) (by simp (disch:=first|assumption|omega) only[go_sem]) ?_
      rintro _ _ ⟨x4, s4, hx4, hs4, hs4', rfl, rfl⟩
      by_cases hz : s4 = 0
      · subst hz
        simp (disch:=first|assumption|omega) only[hgs,hst,go_sem,↓reduceIte,Nat.reduceEqDiff,Nat.reduceLeDiff,Nat.reduceLT,reduceIte,Int.reduceLT]
        subst hQ
        simp (disch:=first|assumption|omega) only[R.slices_choosePivotCmpFunc_Cell,go_sem,↓reduceIte,Nat.reduceEqDiff,reduceIte]
        exact ⟨_, rfl, by simp [AVal.ids, idsL], x4, 1, by omega, by omega, rfl⟩
      · by_cases hz2 : s4 = 12
        · subst hz2
          simp (disch:=first|assumption|omega) only[hgs,hst,go_sem,↓reduceIte,Nat.reduceEqDiff,Nat.reduceLeDiff,reduceIte,Int.reduceEq]
          subst hQ
          simp (disch:=first|assumption|omega) only[R.slices_choosePivotCmpFunc_Cell,go_sem,↓reduceIte,Nat.reduceEqDiff,reduceIte]
          exact ⟨_, rfl, by simp [AVal.ids, idsL], x4, 2, by omega, by omega, rfl⟩
        · simp (disch:=first|assumption|omega) only[hgs,hst,hz,hz2,go_sem,↓reduceIte,Nat.reduceEqDiff,Nat.reduceLeDiff,Nat.reduceLT,reduceIte,Int.reduceLT]
          subst hQ
          simp (disch:=first|assumption|omega) only[R.slices_choosePivotCmpFunc_Cell,go_sem,↓reduceIte,Nat.reduceEqDiff,reduceIte]
          exact ⟨_, rfl, by simp [AVal.ids, idsL], x4, 0, by omega, by omega, rfl⟩
  · simp (disch:=first|assumption|omega) only[hba,hq,h8,hi1,hi2,hi3,go_sem,↓reduceIte,Nat.reduceEqDiff,Nat.reduceLeDiff,Nat.reduceLT,reduceIte,Int.reduceLT]
    subst hQ
    simp (disch:=first|assumption|omega) only[R.slices_choosePivotCmpFunc_Cell,go_sem,↓reduceIte,Nat.reduceEqDiff,reduceIte]
    exact ⟨_, rfl, by simp [AVal.ids, idsL], a + l / 4 * 2, 1, by omega, by omega, rfl⟩
end Go.Proofs.Ytpdajkbfemcdlaa
namespace Go.Proofs.Ytpdajkbfemcdlaa
open Go.Ge Go.Sort
theorem scanUp_step {p : Cell → Bool} {d : Array Cell} {j i : Nat} (h : i ≤ j) (hp : p d[i]! = true) : scanUp p d j i = scanUp p d j (i + 1) := by
  rw [scanUp, if_pos (by simp [h, hp])]
theorem scanUp_stop {p : Cell → Bool} {d : Array Cell} {j i : Nat} (h : ¬(i ≤ j ∧ p d[i]! = true)) : scanUp p d j i = i := by
  rw [scanUp, if_neg (by simpa using h)]
theorem scanDown_step {p : Cell → Bool} {d : Array Cell} {i j : Nat} (h : i ≤ j + 1) (hp : p d[j + 1]! = true) : scanDown p d i (j + 1) = scanDown p d i j := by
  rw [scanDown, if_pos (by simp [h, hp])]
theorem scanDown_stop {p : Cell → Bool} {d : Array Cell} {i j : Nat} (hi : 1 ≤ i) (h : ¬(i ≤ j ∧ p d[j]! = true)) : scanDown p d i j = j := by
  cases j with
  | zero => rfl
  | succ j => rw [scanDown, if_neg (by simpa using h)]
theorem aw_cutB {P : Program} {a : ACode} {n : Nat} {K Pm : AState → Prop} {Q : AExit → AState → Prop} {S : AState} (h : aw (ACalls P) a (AExit.inBlock n (AExit.then Pm Q)) S) (hk : ∀ S', Pm S' → K S') : aw (ACalls P) a (AExit.inBlock n (AExit.then K Q)) S :=
  aw_mono (CMono_ACalls P) a (fun e S' h => by
    cases e with
    | exit i =>
      simp only[AExit.inBlock] at h ⊢
      split at h
      · rename_i hh
        rw [if_pos hh]; exact hk _ h
      · rename_i hh
        rw [if_neg hh]; exact h
    | normal => exact hk _ h
    | ret => exact h) h
theorem partEq_ok (f : Nat) (cf : Cell → Cell → Int) (hf : CmpOk f cf) (d : Array Cell) (N : Nat) (hN : d.size = N) (id cap a b p : Nat) (rest : List AVal) (h : List HObj) (hid : h[id]? = some (.cells (flatC d.toList ++ rest))) (hap : a ≤ p) (hpb : p < b) (hb : b ≤ d.size) (hn : d.size < 65536) :
    ACalls Try.prog F.slices_partitionEqualCmpFunc_Cell [.ref id 0 N cap, .int .i64 a, .int .i64 b, .int .i64 p, .func f []] h
      (fun v h' => v = .int .i64 (partitionEqual (ltC cf) d a b p).1 ∧ h' = h.set id (.cells (flatC (partitionEqual (ltC cf) d a b p).2.toList ++ rest))) := by
  subst hN
  have hidl : id < h.length := (List.getElem?_eq_some_iff.1 hid).1
  have hlen0 := acLen d rest
  refine ACalls.of_aw Try.func225 K.slices_partitionEqualCmpFunc_Cell (by simp [Try.f225]) ?_
  generalize hQ : retQ R.slices_partitionEqualCmpFunc_Cell _ = Q
  simp (disch:=first|assumption|omega) only[C.slices_partitionEqualCmpFunc_Cell,go_sem,↓reduceIte,Nat.reduceEqDiff,reduceCtorEq,Nat.reduceLeDiff,reduceIte]
  have wq1 := acGet d rest (j := a) (by omega)
  have wq2 := acGet d rest (j := p) (by omega)
  have ws1 := acSet d rest (j := a) d[p]! (by omega)
  have ws2 := acSet (d.setIfInBounds a d[p]!) rest (j := p) d[a]! (by simp; omega)
  have wg2 : (h.set id (.cells (flatC (d.setIfInBounds a d[p]!).toList ++ rest)))[id]? = some (.cells (flatC (d.setIfInBounds a d[p]!).toList ++ rest)) := List.getElem?_set_self hidl
  have wl2 := acLen (d.setIfInBounds a d[p]!) rest
  rw [Array.size_setIfInBounds] at wl2
  have wI : (a : Int) < d.size := by omega
  have wJ : (p : Int) < d.size := by omega
  simp (disch:=first|assumption|omega) only[hid,hlen0,wq1,wq2,ws1,ws2,wg2,wl2,List.set_set,go_sem,Nat.reduceAdd,Int.reduceAdd]
  repeat (refine And.intro ?_ ?_; omega)
  refine aw_count (fun n S => ∃ (i j : Nat) (d2 : Array Cell), n = j + 1 - i ∧ a < i ∧ j < b ∧ S.env 11 = .int .i64 i ∧ S.env 12 = .int .i64 j ∧ S.env 0 = .ref id 0 d.size cap ∧ S.env 1 = .int .i64 a ∧ S.env 4 = .func f [] ∧ d2.size = d.size ∧ partEqLoop (ltC cf) a i j d2 = partitionEqual (ltC cf) d a b p ∧ S.heap = h.set id (.cells (flatC d2.toList ++ rest))) (n := b - 1 + 1 - (a + 1))
    ⟨a + 1, b - 1, swp d a p, rfl, by omega, by omega, by simp (disch:=first|assumption|omega) only[go_sem,↓reduceIte,Nat.reduceEqDiff,reduceIte]; simp, by simp (disch:=first|assumption|omega) only[go_sem,↓reduceIte,reduceIte]; congr 1 <;> omega, by simp (disch:=first|assumption|omega) only[go_sem,↓reduceIte,reduceCtorEq,reduceIte], by simp (disch:=first|assumption|omega) only[go_sem,↓reduceIte,Nat.reduceEqDiff,reduceIte], by simp (disch:=first|assumption|omega) only[go_sem,↓reduceIte,Nat.reduceEqDiff,reduceIte], by rw [Sort.size_swp], rfl, by simp (disch:=first|assumption|omega) only[go_sem]; rfl⟩ ?_
  rintro n S ⟨i, j, d2, hnij, hai, hjb, e11, e12, e0, e1, e4, hd2, hpl, eh⟩
  have hget : (h.set id (.cells (flatC d2.toList ++ rest)))[id]? = some (.cells (flatC d2.toList ++ rest)) := List.getElem?_set_self hidl
  have hlen := acLen d2 rest
  have qa := acGet d2 rest (j := a) (by omega)
  have haz : (a : Int) < d.size := by omega
  simp (disch:=first|assumption|omega) only[go_sem]
  refine aw_cutB (Pm := fun S => ∃ (k : Nat), i ≤ k ∧ S.env 11 = .int .i64 (k : Nat) ∧ S.env 12 = .int .i64 (j : Nat) ∧ S.env 0 = .ref id 0 d.size cap ∧ S.env 1 = .int .i64 a ∧ S.env 4 = .func f [] ∧ scanUp (fun x => !ltC cf d2[a]! x) d2 j i = k ∧ S.heap = h.set id (.cells (flatC d2.toList ++ rest))) ?_ ?_
  · refine aw_count (fun n S => ∃ (k : Nat), n = j + 1 - k ∧ i ≤ k ∧ S.env 11 = .int .i64 (k : Nat) ∧ S.env 12 = .int .i64 (j : Nat) ∧ S.env 0 = .ref id 0 d.size cap ∧ S.env 1 = .int .i64 a ∧ S.env 4 = .func f [] ∧ scanUp (fun x => !ltC cf d2[a]! x) d2 j k = scanUp (fun x => !ltC cf d2[a]! x) d2 j i ∧ S.heap = h.set id (.cells (flatC d2.toList ++ rest))) (n := j + 1 - i)
      ⟨i, by omega, by omega, by simp (disch:=first|assumption|omega) only[e11,go_sem], by simp (disch:=first|assumption|omega) only[e12,go_sem], by simp (disch:=first|assumption|omega) only[e0,go_sem], by simp (disch:=first|assumption|omega) only[e1,go_sem], by simp (disch:=first|assumption|omega) only[e4,go_sem], rfl, by simp (disch:=first|assumption|omega) only[eh,go_sem]⟩ ?_
    clear e11 e12 e0 e1 e4 eh
    rintro n S ⟨k, hnk, hkb, e11, e12, e0, e1, e4, hsc, eh⟩
    by_cases hle : (k : Int) ≤ j
    · have qk := acGet d2 rest (j := k) (by omega)
      have hkz : (k : Int) < d.size := by omega
      simp (disch:=first|assumption|omega) only[e11,e12,e0,e1,e4,eh,hle,hget,hlen,qa,qk,hkz,haz,go_sem,↓reduceIte,Nat.reduceEqDiff,reduceCtorEq,Nat.reduceLeDiff,reduceIte]
      repeat (refine And.intro ?_ ?_; omega)
      refine callvqG_ok (hf d2[a]! d2[k]! _) (by simp (disch:=first|assumption|omega) only[go_sem]) ?_
      rintro _ _ ⟨rfl, hhh⟩
      rw [hhh]
      clear hhh
      refine ⟨rfl, ?_⟩
      by_cases hx : cf d2[a]! d2[k]! < 0
      · simp (disch:=first|assumption|omega) only[e11,e12,e0,e1,e4,eh,hx,go_sem,↓reduceIte,Nat.reduceEqDiff,reduceCtorEq,reduceIte]
        exact ⟨k, by omega, rfl, hsc.symm.trans (scanUp_stop (fun c => by simp [ltC, hx] at c))⟩
      · simp (disch:=first|assumption|omega) only[e11,e12,e0,e1,e4,eh,hx,go_sem,↓reduceIte,Nat.reduceEqDiff,reduceCtorEq,reduceIte]
        exact ⟨j + 1 - (k + 1), by omega, k + 1, rfl, by omega, by simp, (scanUp_step (by omega) (by simp [ltC, hx])).symm.trans hsc⟩
    · simp (disch:=first|assumption|omega) only[e11,e12,e0,e1,e4,eh,hle,go_sem,↓reduceIte,Nat.reduceEqDiff,reduceCtorEq,reduceIte]
      exact ⟨k, by omega, rfl, hsc.symm.trans (scanUp_stop (fun c => by omega))⟩
  clear e11 e12 e0 e1 e4 eh
  rintro S ⟨i2, hi2b, e11, e12, e0, e1, e4, hi2, eh⟩
  simp (disch:=first|assumption|omega) only[go_sem]
  refine aw_cutB (Pm := fun S => ∃ (k : Nat), k ≤ j ∧ S.env 11 = .int .i64 (i2 : Nat) ∧ S.env 12 = .int .i64 (k : Nat) ∧ S.env 0 = .ref id 0 d.size cap ∧ S.env 1 = .int .i64 a ∧ S.env 4 = .func f [] ∧ scanDown (fun x => ltC cf d2[a]! x) d2 i2 j = k ∧ S.heap = h.set id (.cells (flatC d2.toList ++ rest))) ?_ ?_
  · refine aw_count (fun n S => ∃ (k : Nat), n = k ∧ k ≤ j ∧ S.env 11 = .int .i64 (i2 : Nat) ∧ S.env 12 = .int .i64 (k : Nat) ∧ S.env 0 = .ref id 0 d.size cap ∧ S.env 1 = .int .i64 a ∧ S.env 4 = .func f [] ∧ scanDown (fun x => ltC cf d2[a]! x) d2 i2 k = scanDown (fun x => ltC cf d2[a]! x) d2 i2 j ∧ S.heap = h.set id (.cells (flatC d2.toList ++ rest))) (n := j)
      ⟨j, by omega, by omega, by simp (disch:=first|assumption|omega) only[e11,go_sem], by simp (disch:=first|assumption|omega) only[e12,go_sem], by simp (disch:=first|assumption|omega) only[e0,go_sem], by simp (disch:=first|assumption|omega) only[e1,go_sem], by simp (disch:=first|assumption|omega) only[e4,go_sem], rfl, by simp (disch:=first|assumption|omega) only[eh,go_sem]⟩ ?_
    clear e11 e12 e0 e1 e4 eh
    rintro n S ⟨k, hnk, hkb, e11, e12, e0, e1, e4, hsc, eh⟩
    by_cases hle : (i2 : Int) ≤ k
    · obtain ⟨k2, rfl⟩ : ∃ k2, k = k2 + 1 := ⟨k - 1, by omega⟩
      have qk := acGet d2 rest (j := (k2 + 1)) (by omega)
      have hkz : (((k2 + 1 : Nat) : Int) : Int) < d.size := by omega
      simp (disch:=first|assumption|omega) only[e11,e12,e0,e1,e4,eh,hle,hget,hlen,qa,qk,hkz,haz,go_sem,↓reduceIte,Nat.reduceEqDiff,reduceCtorEq,Nat.reduceLeDiff,reduceIte]
      repeat (refine And.intro ?_ ?_; omega)
      refine callvqG_ok (hf d2[a]! d2[(k2 + 1)]! _) (by simp (disch:=first|assumption|omega) only[go_sem]) ?_
      rintro _ _ ⟨rfl, hhh⟩
      rw [hhh]
      clear hhh
      refine ⟨rfl, ?_⟩
      by_cases hx : cf d2[a]! d2[(k2 + 1)]! < 0
      · simp (disch:=first|assumption|omega) only[e11,e12,e0,e1,e4,eh,hx,go_sem,↓reduceIte,Nat.reduceEqDiff,reduceCtorEq,reduceIte]
        exact ⟨k2, by omega, k2, rfl, by omega, by congr 1 <;> omega, (scanDown_step (by omega) (by simp [ltC, hx])).symm.trans hsc⟩
      · simp (disch:=first|assumption|omega) only[e11,e12,e0,e1,e4,eh,hx,go_sem,↓reduceIte,Nat.reduceEqDiff,reduceCtorEq,reduceIte]
        exact ⟨k2 + 1, by omega, rfl, hsc.symm.trans (scanDown_stop (by omega) (fun c => by simp [ltC, hx] at c))⟩
    · simp (disch:=first|assumption|omega) only[e11,e12,e0,e1,e4,eh,hle,go_sem,↓reduceIte,Nat.reduceEqDiff,reduceCtorEq,reduceIte]
      exact ⟨k, by omega, rfl, hsc.symm.trans (scanDown_stop (by omega) (fun c => by omega))⟩
  clear e11 e12 e0 e1 e4 eh
  rintro S ⟨j2, hj2b, e11, e12, e0, e1, e4, hj2, eh⟩
  rw [partEqLoop_eq, hi2, hj2] at hpl
  by_cases hgt : (j2 : Int) < i2
  · rw [if_pos (by omega)] at hpl
    simp (disch:=first|assumption|omega) only[e11,e12,hgt,go_sem,↓reduceIte,Nat.reduceEqDiff,reduceCtorEq,reduceIte]
    subst hQ
    simp (disch:=first|assumption|omega) only[R.slices_partitionEqualCmpFunc_Cell,eh,go_sem,↓reduceIte,reduceIte]
    rw [← hpl]
    exact ⟨rfl, rfl⟩
  · rw [if_neg (by omega)] at hpl
    have wq1 := acGet d2 rest (j := i2) (by omega)
    have wq2 := acGet d2 rest (j := j2) (by omega)
    have ws1 := acSet d2 rest (j := i2) d2[j2]! (by omega)
    have ws2 := acSet (d2.setIfInBounds i2 d2[j2]!) rest (j := j2) d2[i2]! (by simp; omega)
    have wg2 : (h.set id (.cells (flatC (d2.setIfInBounds i2 d2[j2]!).toList ++ rest)))[id]? = some (.cells (flatC (d2.setIfInBounds i2 d2[j2]!).toList ++ rest)) := List.getElem?_set_self hidl
    have wl2 := acLen (d2.setIfInBounds i2 d2[j2]!) rest
    rw [Array.size_setIfInBounds] at wl2
    have wI : (i2 : Int) < d.size := by omega
    have wJ : (j2 : Int) < d.size := by omega
    simp (disch:=first|assumption|omega) only[e11,e12,e0,e1,e4,eh,hgt,hget,hlen,wq1,wq2,ws1,ws2,wg2,wl2,wI,wJ,List.set_set,go_sem,↓reduceIte,Nat.reduceEqDiff,reduceCtorEq,Nat.reduceAdd,Nat.reduceLeDiff,reduceIte,Int.reduceAdd]
    repeat (refine And.intro ?_ ?_; omega)
    exact ⟨j2 - 1 + 1 - (i2 + 1), by omega, i2 + 1, j2 - 1, swp d2 i2 j2, rfl, by omega, by omega, by simp, by congr 1 <;> omega, by rw [Sort.size_swp]; exact hd2, hpl, rfl⟩
end Go.Proofs.Ytpdajkbfemcdlaa
namespace Go.Proofs.Ytpdajkbfemcdlaa
open Go.Ge Go.Sort
theorem aw_at {C : CallS} {a : ACode} {Q : AExit → AState → Prop} {S : AState} {Pm : AState → Prop} (h : Pm S) (hk : ∀ S', Pm S' → aw C a Q S') : aw C a Q S := hk S h
theorem part_ok (f : Nat) (cf : Cell → Cell → Int) (hf : CmpOk f cf) (d : Array Cell) (N : Nat) (hN : d.size = N) (id cap a b p : Nat) (rest : List AVal) (h : List HObj) (hid : h[id]? = some (.cells (flatC d.toList ++ rest))) (hap : a ≤ p) (hpb : p < b) (hb : b ≤ d.size) (hn : d.size < 65536) :
    ACalls Try.prog F.slices_partitionCmpFunc_Cell [.ref id 0 N cap, .int .i64 a, .int .i64 b, .int .i64 p, .func f []] h
      (fun v h' => (∃ bo, v = .tup [.int .i64 (partition (ltC cf) d a b p).1, .bool bo]) ∧ h' = h.set id (.cells (flatC (partition (ltC cf) d a b p).2.2.toList ++ rest))) := by
  subst hN
  have hidl : id < h.length := (List.getElem?_eq_some_iff.1 hid).1
  have hlen0 := acLen d rest
  rw [partition_fst, partition_arr]
  generalize hr0 : partLoop (ltC cf) a (a + 1) (b - 1) (swp d a p) = r0
  refine ACalls.of_aw Try.func226 K.slices_partitionCmpFunc_Cell (by simp [Try.f226]) ?_
  generalize hQ : retQ R.slices_partitionCmpFunc_Cell _ = Q
  simp (disch:=first|assumption|omega) only[C.slices_partitionCmpFunc_Cell,go_sem,↓reduceIte,Nat.reduceEqDiff,reduceCtorEq,Nat.reduceLeDiff,reduceIte]
  have wq1 := acGet d rest (j := a) (by omega)
  have wq2 := acGet d rest (j := p) (by omega)
  have ws1 := acSet d rest (j := a) d[p]! (by omega)
  have ws2 := acSet (d.setIfInBounds a d[p]!) rest (j := p) d[a]! (by simp; omega)
  have wg2 : (h.set id (.cells (flatC (d.setIfInBounds a d[p]!).toList ++ rest)))[id]? = some (.cells (flatC (d.setIfInBounds a d[p]!).toList ++ rest)) := List.getElem?_set_self hidl
  have wl2 := acLen (d.setIfInBounds a d[p]!) rest
  rw [Array.size_setIfInBounds] at wl2
  have wI : (a : Int) < d.size := by omega
  have wJ : (p : Int) < d.size := by omega
  simp (disch:=first|assumption|omega) only[hid,hlen0,wq1,wq2,ws1,ws2,wg2,wl2,List.set_set,go_sem,Nat.reduceAdd,Int.reduceAdd]
  repeat (refine And.intro ?_ ?_; omega)
  refine aw_at (Pm := fun S => S.env 12 = .int .i64 (a + 1 : Nat) ∧ S.env 13 = .int .i64 (b - 1 : Nat) ∧ S.env 0 = .ref id 0 d.size cap ∧ S.env 1 = .int .i64 a ∧ S.env 4 = .func f [] ∧ S.heap = h.set id (.cells (flatC (swp d a p).toList ++ rest))) ⟨by simp (disch:=first|assumption|omega) only[go_sem,↓reduceIte,Nat.reduceEqDiff,reduceIte]; simp, by simp (disch:=first|assumption|omega) only[go_sem,↓reduceIte,reduceIte]; congr 1 <;> omega, by simp (disch:=first|assumption|omega) only[go_sem,↓reduceIte,reduceCtorEq,reduceIte], by simp (disch:=first|assumption|omega) only[go_sem,↓reduceIte,Nat.reduceEqDiff,reduceIte], by simp (disch:=first|assumption|omega) only[go_sem,↓reduceIte,Nat.reduceEqDiff,reduceIte], by simp (disch:=first|assumption|omega) only[go_sem]; rfl⟩ ?_
  rintro S ⟨e11, e12, e0, e1, e4, eh⟩
  have hd2 : (swp d a p).size = d.size := by rw [Sort.size_swp]
  generalize swp d a p = d2 at *
  have hpl : partLoop (ltC cf) a (a + 1) (b - 1) d2 = r0 := hr0
  have hai0 : a < a + 1 := by omega
  have hjb0 : b - 1 < b := by omega
  clear hr0
  generalize a + 1 = i0 at *
  generalize b - 1 = j0 at *
  have hget : (h.set id (.cells (flatC d2.toList ++ rest)))[id]? = some (.cells (flatC d2.toList ++ rest)) := List.getElem?_set_self hidl
  have hlen := acLen d2 rest
  have qa := acGet d2 rest (j := a) (by omega)
  have haz : (a : Int) < d.size := by omega
  refine aw_cutB (Pm := fun S => ∃ (k : Nat), i0 ≤ k ∧ S.env 12 = .int .i64 (k : Nat) ∧ S.env 13 = .int .i64 (j0 : Nat) ∧ S.env 0 = .ref id 0 d.size cap ∧ S.env 1 = .int .i64 a ∧ S.env 4 = .func f [] ∧ scanUp (fun x => ltC cf x d2[a]!) d2 j0 i0 = k ∧ S.heap = h.set id (.cells (flatC d2.toList ++ rest))) ?_ ?_
  · refine aw_count (fun n S => ∃ (k : Nat), n = j0 + 1 - k ∧ i0 ≤ k ∧ S.env 12 = .int .i64 (k : Nat) ∧ S.env 13 = .int .i64 (j0 : Nat) ∧ S.env 0 = .ref id 0 d.size cap ∧ S.env 1 = .int .i64 a ∧ S.env 4 = .func f [] ∧ scanUp (fun x => ltC cf x d2[a]!) d2 j0 k = scanUp (fun x => ltC cf x d2[a]!) d2 j0 i0 ∧ S.heap = h.set id (.cells (flatC d2.toList ++ rest))) (n := j0 + 1 - i0)
      ⟨i0, by omega, by omega, by simp (disch:=first|assumption|omega) only[e11,go_sem], by simp (disch:=first|assumption|omega) only[e12,go_sem], by simp (disch:=first|assumption|omega) only[e0,go_sem], by simp (disch:=first|assumption|omega) only[e1,go_sem], by simp (disch:=first|assumption|omega) only[e4,go_sem], rfl, by simp (disch:=first|assumption|omega) only[eh,go_sem]⟩ ?_
    clear e11 e12 e0 e1 e4 eh
    rintro n S ⟨k, hnk, hkb, e11, e12, e0, e1, e4, hsc, eh⟩
    by_cases hle : (k : Int) ≤ j0
    · have qk := acGet d2 rest (j := k) (by omega)
      have hkz : (k : Int) < d.size := by omega
      simp (disch:=first|assumption|omega) only[e11,e12,e0,e1,e4,eh,hle,hget,hlen,qa,qk,hkz,haz,go_sem,↓reduceIte,Nat.reduceEqDiff,reduceCtorEq,Nat.reduceLeDiff,reduceIte]
      repeat (refine And.intro ?_ ?_; omega)
      refine callvqG_ok (hf d2[k]! d2[a]! _) (by simp (disch:=first|assumption|omega) only[go_sem]) ?_
      rintro _ _ ⟨rfl, hhh⟩
      rw [hhh]
      clear hhh
      refine ⟨rfl, ?_⟩
      by_cases hx : cf d2[k]! d2[a]! < 0
      · simp (disch:=first|assumption|omega) only[e11,e12,e0,e1,e4,eh,hx,go_sem,↓reduceIte,Nat.reduceEqDiff,reduceCtorEq,reduceIte]
        exact ⟨j0 + 1 - (k + 1), by omega, k + 1, rfl, by omega, by simp, (scanUp_step (by omega) (by simp [ltC, hx])).symm.trans hsc⟩
      · simp (disch:=first|assumption|omega) only[e11,e12,e0,e1,e4,eh,hx,go_sem,↓reduceIte,Nat.reduceEqDiff,reduceCtorEq,reduceIte]
        exact ⟨k, by omega, rfl, hsc.symm.trans (scanUp_stop (fun c => by simp [ltC, hx] at c))⟩
    · simp (disch:=first|assumption|omega) only[e11,e12,e0,e1,e4,eh,hle,go_sem,↓reduceIte,Nat.reduceEqDiff,reduceCtorEq,reduceIte]
      exact ⟨k, by omega, rfl, hsc.symm.trans (scanUp_stop (fun c => by omega))⟩
  clear e11 e12 e0 e1 e4 eh
  rintro S ⟨i2, hi2b, e11, e12, e0, e1, e4, hi2, eh⟩
  simp (disch:=first|assumption|omega) only[go_sem]
  refine aw_cutB (Pm := fun S => ∃ (k : Nat), k ≤ j0 ∧ S.env 12 = .int .i64 (i2 : Nat) ∧ S.env 13 = .int .i64 (k : Nat) ∧ S.env 0 = .ref id 0 d.size cap ∧ S.env 1 = .int .i64 a ∧ S.env 4 = .func f [] ∧ scanDown (fun x => !ltC cf x d2[a]!) d2 i2 j0 = k ∧ S.heap = h.set id (.cells (flatC d2.toList ++ rest))) ?_ ?_
  · refine aw_count (fun n S => ∃ (k : Nat), n = k ∧ k ≤ j0 ∧ S.env 12 = .int .i64 (i2 : Nat) ∧ S.env 13 = .int .i64 (k : Nat) ∧ S.env 0 = .ref id 0 d.size cap ∧ S.env 1 = .int .i64 a ∧ S.env 4 = .func f [] ∧ scanDown (fun x => !ltC cf x d2[a]!) d2 i2 k = scanDown (fun x => !ltC cf x d2[a]!) d2 i2 j0 ∧ S.heap = h.set id (.cells (flatC d2.toList ++ rest))) (n := j0)
      ⟨j0, by omega, by omega, by simp (disch:=first|assumption|omega) only[e11,go_sem], by simp (disch:=first|assumption|omega) only[e12,go_sem], by simp (disch:=first|assumption|omega) only[e0,go_sem], by simp (disch:=first|assumption|omega) only[e1,go_sem], by simp (disch:=first|assumption|omega) only[e4,go_sem], rfl, by simp (disch:=first|assumption|omega) only[eh,go_sem]⟩ ?_
    clear e11 e12 e0 e1 e4 eh
    rintro n S ⟨k, hnk, hkb, e11, e12, e0, e1, e4, hsc, eh⟩
    by_cases hle : (i2 : Int) ≤ k
    · obtain ⟨k2, rfl⟩ : ∃ k2, k = k2 + 1 := ⟨k - 1, by omega⟩
      have qk := acGet d2 rest (j := (k2 + 1)) (by omega)
      have hkz : (((k2 + 1 : Nat) : Int) : Int) < d.size := by omega
      simp (disch:=first|assumption|omega) only[e11,e12,e0,e1,e4,eh,hle,hget,hlen,qa,qk,hkz,haz,go_sem,↓reduceIte,Nat.reduceEqDiff,reduceCtorEq,Nat.reduceLeDiff,reduceIte]
      repeat (refine And.intro ?_ ?_; omega)
      refine callvqG_ok (hf d2[(k2 + 1)]! d2[a]! _) (by simp (disch:=first|assumption|omega) only[go_sem]) ?_
      rintro _ _ ⟨rfl, hhh⟩
      rw [hhh]
      clear hhh
      refine ⟨rfl, ?_⟩
      by_cases hx : cf d2[(k2 + 1)]! d2[a]! < 0
      · simp (disch:=first|assumption|omega) only[e11,e12,e0,e1,e4,eh,hx,go_sem,↓reduceIte,Nat.reduceEqDiff,reduceCtorEq,reduceIte]
        exact ⟨k2 + 1, by omega, rfl, hsc.symm.trans (scanDown_stop (by omega) (fun c => by simp [ltC, hx] at c))⟩
      · simp (disch:=first|assumption|omega) only[e11,e12,e0,e1,e4,eh,hx,go_sem,↓reduceIte,Nat.reduceEqDiff,reduceCtorEq,reduceIte]
        exact ⟨k2, by omega, k2, rfl, by omega, by congr 1 <;> omega, (scanDown_step (by omega) (by simp [ltC, hx])).symm.trans hsc⟩
    · simp (disch:=first|assumption|omega) only[e11,e12,e0,e1,e4,eh,hle,go_sem,↓reduceIte,Nat.reduceEqDiff,reduceCtorEq,reduceIte]
      exact ⟨k, by omega, rfl, hsc.symm.trans (scanDown_stop (by omega) (fun c => by omega))⟩
  clear e11 e12 e0 e1 e4 eh
  rintro S ⟨j2, hj2b, e11, e12, e0, e1, e4, hj2, eh⟩
  rw [partLoop_eq, hi2, hj2] at hpl
  by_cases hgt : (j2 : Int) < i2
  · rw [if_pos (by omega)] at hpl
    have zq1 := acGet d2 rest (j := j2) (by omega)
    have zq2 := acGet d2 rest (j := a) (by omega)
    have zs1 := acSet d2 rest (j := j2) d2[a]! (by omega)
    have zs2 := acSet (d2.setIfInBounds j2 d2[a]!) rest (j := a) d2[j2]! (by simp; omega)
    have zg2 : (h.set id (.cells (flatC (d2.setIfInBounds j2 d2[a]!).toList ++ rest)))[id]? = some (.cells (flatC (d2.setIfInBounds j2 d2[a]!).toList ++ rest)) := List.getElem?_set_self hidl
    have zl2 := acLen (d2.setIfInBounds j2 d2[a]!) rest
    rw [Array.size_setIfInBounds] at zl2
    have zI : (j2 : Int) < d.size := by omega
    have zJ : (a : Int) < d.size := by omega
    simp (disch:=first|assumption|omega) only[e11,e12,e0,e1,eh,hgt,hget,hlen,zq1,zq2,zs1,zs2,zg2,zl2,zI,zJ,List.set_set,go_sem,↓reduceIte,Nat.reduceEqDiff,reduceCtorEq,Nat.reduceAdd,Nat.reduceLeDiff,reduceIte,Int.reduceAdd]
    repeat (refine And.intro ?_ ?_; omega)
    subst hQ
    simp (disch:=first|assumption|omega) only[R.slices_partitionCmpFunc_Cell,go_sem,↓reduceIte,Nat.reduceEqDiff,reduceIte]
    rw [← hpl]
    exact ⟨⟨_, rfl⟩, rfl⟩
  · rw [if_neg (by omega)] at hpl
    have wq1 := acGet d2 rest (j := i2) (by omega)
    have wq2 := acGet d2 rest (j := j2) (by omega)
    have ws1 := acSet d2 rest (j := i2) d2[j2]! (by omega)
    have ws2 := acSet (d2.setIfInBounds i2 d2[j2]!) rest (j := j2) d2[i2]! (by simp; omega)
    have wg2 : (h.set id (.cells (flatC (d2.setIfInBounds i2 d2[j2]!).toList ++ rest)))[id]? = some (.cells (flatC (d2.setIfInBounds i2 d2[j2]!).toList ++ rest)) := List.getElem?_set_self hidl
    have wl2 := acLen (d2.setIfInBounds i2 d2[j2]!) rest
    rw [Array.size_setIfInBounds] at wl2
    have wI : (i2 : Int) < d.size := by omega
    have wJ : (j2 : Int) < d.size := by omega
    simp (disch:=first|assumption|omega) only[e11,e12,e0,eh,hgt,hget,hlen,wq1,wq2,ws1,ws2,wg2,wl2,wI,wJ,List.set_set,go_sem,↓reduceIte,Nat.reduceEqDiff,reduceCtorEq,Nat.reduceAdd,Nat.reduceLeDiff,reduceIte,Int.reduceAdd]
    repeat (refine And.intro ?_ ?_; omega)
    refine aw_count (fun n S => ∃ (i j : Nat) (d2 : Array Cell), n = j + 1 - i ∧ a < i ∧ j < b ∧ S.env 12 = .int .i64 i ∧ S.env 13 = .int .i64 j ∧ S.env 0 = .ref id 0 d.size cap ∧ S.env 1 = .int .i64 a ∧ S.env 4 = .func f [] ∧ d2.size = d.size ∧ partLoop (ltC cf) a i j d2 = r0 ∧ S.heap = h.set id (.cells (flatC d2.toList ++ rest))) (n := j2 - 1 + 1 - (i2 + 1))
      ⟨i2 + 1, j2 - 1, swp d2 i2 j2, rfl, by omega, by omega, by simp (disch:=first|assumption|omega) only[go_sem,↓reduceIte,Nat.reduceEqDiff,reduceIte]; simp, by simp (disch:=first|assumption|omega) only[go_sem,↓reduceIte,reduceIte]; congr 1 <;> omega, by simp (disch:=first|assumption|omega) only[e0,go_sem,↓reduceIte,reduceCtorEq,reduceIte], by simp (disch:=first|assumption|omega) only[e1,go_sem,↓reduceIte,Nat.reduceEqDiff,reduceIte], by simp (disch:=first|assumption|omega) only[e4,go_sem,↓reduceIte,Nat.reduceEqDiff,reduceIte], by rw [Sort.size_swp]; exact hd2, hpl, by simp (disch:=first|assumption|omega) only[go_sem]; rfl⟩ ?_
    clear e11 e12 e0 e1 e4 eh hget hlen qa hi2 hj2 hpl hd2
    rintro n S ⟨i, j, d2, hnij, hai, hjb, e11, e12, e0, e1, e4, hd2, hpl, eh⟩
    have hget : (h.set id (.cells (flatC d2.toList ++ rest)))[id]? = some (.cells (flatC d2.toList ++ rest)) := List.getElem?_set_self hidl
    have hlen := acLen d2 rest
    have qa := acGet d2 rest (j := a) (by omega)
    have haz : (a : Int) < d.size := by omega
    simp (disch:=first|assumption|omega) only[go_sem]
    refine aw_cutB (Pm := fun S => ∃ (k : Nat), i ≤ k ∧ S.env 12 = .int .i64 (k : Nat) ∧ S.env 13 = .int .i64 (j : Nat) ∧ S.env 0 = .ref id 0 d.size cap ∧ S.env 1 = .int .i64 a ∧ S.env 4 = .func f [] ∧ scanUp (fun x => ltC cf x d2[a]!) d2 j i = k ∧ S.heap = h.set id (.cells (flatC d2.toList ++ rest))) ?_ ?_
    · refine aw_count (fun n S => ∃ (k : Nat), n = j + 1 - k ∧ i ≤ k ∧ S.env 12 = .int .i64 (k : Nat) ∧ S.env 13 = .int .i64 (j : Nat) ∧ S.env 0 = .ref id 0 d.size cap ∧ S.env 1 = .int .i64 a ∧ S.env 4 = .func f [] ∧ scanUp (fun x => ltC cf x d2[a]!) d2 j k = scanUp (fun x => ltC cf x d2[a]!) d2 j i ∧ S.heap = h.set id (.cells (flatC d2.toList ++ rest))) (n := j + 1 - i)
        ⟨i, by omega, by omega, by simp (disch:=first|assumption|omega) only[e11,go_sem], by simp (disch:=first|assumption|omega) only[e12,go_sem], by simp (disch:=first|assumption|omega) only[e0,go_sem], by simp (disch:=first|assumption|omega) only[e1,go_sem], by simp (disch:=first|assumption|omega) only[e4,go_sem], rfl, by simp (disch:=first|assumption|omega) only[eh,go_sem]⟩ ?_
      clear e11 e12 e0 e1 e4 eh
      rintro n S ⟨k, hnk, hkb, e11, e12, e0, e1, e4, hsc, eh⟩
      by_cases hle : (k : Int) ≤ j
      · have qk := acGet d2 rest (j := k) (by omega)
        have hkz : (k : Int) < d.size := by omega
        simp (disch:=first|assumption|omega) only[e11,e12,e0,e1,e4,eh,hle,hget,hlen,qa,qk,hkz,haz,go_sem,↓reduceIte,Nat.reduceEqDiff,reduceCtorEq,Nat.reduceLeDiff,reduceIte]
        repeat (refine And.intro ?_ ?_; omega)
        refine callvqG_ok (hf d2[k]! d2[a]! _) (by simp (disch:=first|assumption|omega) only[go_sem]) ?_
        rintro _ _ ⟨rfl, hhh⟩
        rw [hhh]
        clear hhh
        refine ⟨rfl, ?_⟩
        by_cases hx : cf d2[k]! d2[a]! < 0
        · simp (disch:=first|assumption|omega) only[e11,e12,e0,e1,e4,eh,hx,go_sem,↓reduceIte,Nat.reduceEqDiff,reduceCtorEq,reduceIte]
          exact ⟨j + 1 - (k + 1), by omega, k + 1, rfl, by omega, by simp, (scanUp_step (by omega) (by simp [ltC, hx])).symm.trans hsc⟩
        · simp (disch:=first|assumption|omega) only[e11,e12,e0,e1,e4,eh,hx,go_sem,↓reduceIte,Nat.reduceEqDiff,reduceCtorEq,reduceIte]
          exact ⟨k, by omega, rfl, hsc.symm.trans (scanUp_stop (fun c => by simp [ltC, hx] at c))⟩
      · simp (disch:=first|assumption|omega) only[e11,e12,e0,e1,e4,eh,hle,go_sem,↓reduceIte,Nat.reduceEqDiff,reduceCtorEq,reduceIte]
        exact ⟨k, by omega, rfl, hsc.symm.trans (scanUp_stop (fun c => by omega))⟩
    clear e11 e12 e0 e1 e4 eh
    rintro S ⟨i3, hi3b, e11, e12, e0, e1, e4, hi3, eh⟩
    simp (disch:=first|assumption|omega) only[go_sem]
    refine aw_cutB (Pm := fun S => ∃ (k : Nat), k ≤ j ∧ S.env 12 = .int .i64 (i3 : Nat) ∧ S.env 13 = .int .i64 (k : Nat) ∧ S.env 0 = .ref id 0 d.size cap ∧ S.env 1 = .int .i64 a ∧ S.env 4 = .func f [] ∧ scanDown (fun x => !ltC cf x d2[a]!) d2 i3 j = k ∧ S.heap = h.set id (.cells (flatC d2.toList ++ rest))) ?_ ?_
    · refine aw_count (fun n S => ∃ (k : Nat), n = k ∧ k ≤ j ∧ S.env 12 = .int .i64 (i3 : Nat) ∧ S.env 13 = .int .i64 (k : Nat) ∧ S.env 0 = .ref id 0 d.size cap ∧ S.env 1 = .int .i64 a ∧ S.env 4 = .func f [] ∧ scanDown (fun x => !ltC cf x d2[a]!) d2 i3 k = scanDown (fun x => !ltC cf x d2[a]!) d2 i3 j ∧ S.heap = h.set id (.cells (flatC d2.toList ++ rest))) (n := j)
        ⟨j, by omega, by omega, by simp (disch:=first|assumption|omega) only[e11,go_sem], by simp (disch:=first|assumption|omega) only[e12,go_sem], by simp (disch:=first|assumption|omega) only[e0,go_sem], by simp (disch:=first|assumption|omega) only[e1,go_sem], by simp (disch:=first|assumption|omega) only[e4,go_sem], rfl, by simp (disch:=first|assumption|omega) only[eh,go_sem]⟩ ?_
      clear e11 e12 e0 e1 e4 eh
      rintro n S ⟨k, hnk, hkb, e11, e12, e0, e1, e4, hsc, eh⟩
      by_cases hle : (i3 : Int) ≤ k
      · obtain ⟨k2, rfl⟩ : ∃ k2, k = k2 + 1 := ⟨k - 1, by omega⟩
        have qk := acGet d2 rest (j := (k2 + 1)) (by omega)
        have hkz : (((k2 + 1 : Nat) : Int) : Int) < d.size := by omega
        simp (disch:=first|assumption|omega) only[e11,e12,e0,e1,e4,eh,hle,hget,hlen,qa,qk,hkz,haz,go_sem,↓reduceIte,Nat.reduceEqDiff,reduceCtorEq,Nat.reduceLeDiff,reduceIte]
        repeat (refine And.intro ?_ ?_; omega)
        refine callvqG_ok (hf d2[(k2 + 1)]! d2[a]! _) (by simp (disch:=first|assumption|omega) only[go_sem]) ?_
        rintro _ _ ⟨rfl, hhh⟩
        rw [hhh]
        clear hhh
        refine ⟨rfl, ?_⟩
        by_cases hx : cf d2[(k2 + 1)]! d2[a]! < 0
        · simp (disch:=first|assumption|omega) only[e11,e12,e0,e1,e4,eh,hx,go_sem,↓reduceIte,Nat.reduceEqDiff,reduceCtorEq,reduceIte]
          exact ⟨k2 + 1, by omega, rfl, hsc.symm.trans (scanDown_stop (by omega) (fun c => by simp [ltC, hx] at c))⟩
        · simp (disch:=first|assumption|omega) only[e11,e12,e0,e1,e4,eh,hx,go_sem,↓reduceIte,Nat.reduceEqDiff,reduceCtorEq,reduceIte]
          exact ⟨k2, by omega, k2, rfl, by omega, by congr 1 <;> omega, (scanDown_step (by omega) (by simp [ltC, hx])).symm.trans hsc⟩
      · simp (disch:=first|assumption|omega) only[e11,e12,e0,e1,e4,eh,hle,go_sem,↓reduceIte,Nat.reduceEqDiff,reduceCtorEq,reduceIte]
        exact ⟨k, by omega, rfl, hsc.symm.trans (scanDown_stop (by omega) (fun c => by omega))⟩
    clear e11 e12 e0 e1 e4 eh
    rintro S ⟨j3, hj3b, e11, e12, e0, e1, e4, hj3, eh⟩
    rw [partLoop_eq, hi3, hj3] at hpl
    by_cases hgt2 : (j3 : Int) < i3
    · rw [if_pos (by omega)] at hpl
      have zq1 := acGet d2 rest (j := j3) (by omega)
      have zq2 := acGet d2 rest (j := a) (by omega)
      have zs1 := acSet d2 rest (j := j3) d2[a]! (by omega)
      have zs2 := acSet (d2.setIfInBounds j3 d2[a]!) rest (j := a) d2[j3]! (by simp; omega)
      have zg2 : (h.set id (.cells (flatC (d2.setIfInBounds j3 d2[a]!).toList ++ rest)))[id]? = some (.cells (flatC (d2.setIfInBounds j3 d2[a]!).toList ++ rest)) := List.getElem?_set_self hidl
      have zl2 := acLen (d2.setIfInBounds j3 d2[a]!) rest
      rw [Array.size_setIfInBounds] at zl2
      have zI : (j3 : Int) < d.size := by omega
      have zJ : (a : Int) < d.size := by omega
      simp (disch:=first|assumption|omega) only[e11,e12,e0,e1,eh,hgt2,hget,hlen,zq1,zq2,zs1,zs2,zg2,zl2,zI,zJ,List.set_set,go_sem,↓reduceIte,Nat.reduceEqDiff,reduceCtorEq,Nat.reduceAdd,Nat.reduceLeDiff,reduceIte,Int.reduceAdd]
      repeat (refine And.intro ?_ ?_; omega)
      subst hQ
      simp (disch:=first|assumption|omega) only[R.slices_partitionCmpFunc_Cell,go_sem,↓reduceIte,Nat.reduceEqDiff,reduceIte]
      rw [← hpl]
      exact ⟨⟨_, rfl⟩, rfl⟩
    · rw [if_neg (by omega)] at hpl
      have wq1 := acGet d2 rest (j := i3) (by omega)
      have wq2 := acGet d2 rest (j := j3) (by omega)
      have ws1 := acSet d2 rest (j := i3) d2[j3]! (by omega)
      have ws2 := acSet (d2.setIfInBounds i3 d2[j3]!) rest (j := j3) d2[i3]! (by simp; omega)
      have wg2 : (h.set id (.cells (flatC (d2.setIfInBounds i3 d2[j3]!).toList ++ rest)))[id]? = some (.cells (flatC (d2.setIfInBounds i3 d2[j3]!).toList ++ rest)) := List.getElem?_set_self hidl
      have wl2 := acLen (d2.setIfInBounds i3 d2[j3]!) rest
      rw [Array.size_setIfInBounds] at wl2
      have wI : (i3 : Int) < d.size := by omega
      have wJ : (j3 : Int) < d.size := by omega
      simp (disch:=first|assumption|omega) only[e11,e12,e0,e1,e4,eh,hgt2,hget,hlen,wq1,wq2,ws1,ws2,wg2,wl2,wI,wJ,List.set_set,go_sem,↓reduceIte,Nat.reduceEqDiff,reduceCtorEq,Nat.reduceAdd,Nat.reduceLeDiff,reduceIte,Int.reduceAdd]
      repeat (refine And.intro ?_ ?_; omega)
      exact ⟨j3 - 1 + 1 - (i3 + 1), by omega, i3 + 1, j3 - 1, swp d2 i3 j3, rfl, by omega, by omega, by simp, by congr 1 <;> omega, by rw [Sort.size_swp]; exact hd2, hpl, rfl⟩
end Go.Proofs.Ytpdajkbfemcdlaa
namespace Go.Proofs.Ytpdajkbfemcdlaa
open Go.Ge Go.Sort
theorem scanSorted_step {lt : Cell → Cell → Bool} {d : Array Cell} {b i : Nat} (h : i < b) (hp : lt d[i]! d[i - 1]! = false) : scanSorted lt d b i = scanSorted lt d b (i + 1) := by
  rw [scanSorted, if_pos (by simp [h, hp])]
theorem scanSorted_stop {lt : Cell → Cell → Bool} {d : Array Cell} {b i : Nat} (h : ¬(i < b ∧ lt d[i]! d[i - 1]! = false)) : scanSorted lt d b i = i := by
  rw [scanSorted, if_neg (by simpa using h)]
theorem shiftDown_succ (cf : Cell → Cell → Int) (j : Nat) (d : Array Cell) : shiftDown (ltC cf) (j + 1) d = if cf d[j + 1]! d[j]! < 0 then shiftDown (ltC cf) j (swp d (j + 1) j) else d := by
  rw [shiftDown]
  by_cases h : cf d[j + 1]! d[j]! < 0 <;> simp [ltC, h]
theorem shiftUp_step (cf : Cell → Cell → Int) (b j : Nat) (d : Array Cell) : shiftUp (ltC cf) b j d = if j < b ∧ cf d[j]! d[j - 1]! < 0 then shiftUp (ltC cf) b (j + 1) (swp d j (j - 1)) else d := by
  rw [shiftUp]
  by_cases h1 : j < b <;> by_cases h : cf d[j]! d[j - 1]! < 0 <;> simp [ltC, h, h1]
theorem shiftDown_size (cf : Cell → Cell → Int) : ∀ (j : Nat) (d : Array Cell), (shiftDown (ltC cf) j d).size = d.size
  | 0, d => rfl
  | j + 1, d => by
    rw [shiftDown_succ]
    split
    · rw [shiftDown_size cf j, Sort.size_swp]
    · rfl
theorem shiftUp_size (cf : Cell → Cell → Int) (b : Nat) : ∀ (n j : Nat) (d : Array Cell), b - j ≤ n → (shiftUp (ltC cf) b j d).size = d.size
  | n, j, d, hn => by
    rw [shiftUp_step]
    split
    · rename_i h
      cases n with
      | zero => omega
      | succ n => rw [shiftUp_size cf b n (j + 1) _ (by omega), Sort.size_swp]
    · rfl
theorem condG_cutB {P : Program} {v : AVal} {a b : ACode} {n : Nat} {K : AState → Prop} {Q : AExit → AState → Prop} {S : AState} (Pm : AState → Prop) (h : condG (ACalls P) v a b (AExit.inBlock n (AExit.then Pm Q)) S) (hk : ∀ S', Pm S' → K S') : condG (ACalls P) v a b (AExit.inBlock n (AExit.then K Q)) S := by
  unfold condG at h ⊢
  cases v <;> first | exact ⟨fun e => aw_cutB (h.1 e) hk, fun e => aw_cutB (h.2 e) hk⟩ | exact h
theorem partIns_ok (f : Nat) (cf : Cell → Cell → Int) (hf : CmpOk f cf) (d : Array Cell) (N : Nat) (hN : d.size = N) (id cap a b : Nat) (rest : List AVal) (h : List HObj) (hid : h[id]? = some (.cells (flatC d.toList ++ rest))) (hab : a < b) (hb : b ≤ d.size) (hn : d.size < 65536) :
    ACalls Try.prog F.slices_partialInsertionSortCmpFunc_Cell [.ref id 0 N cap, .int .i64 a, .int .i64 b, .func f []] h
      (fun v h' => v = .bool (partialInsertionSort (ltC cf) d a b).2 ∧ h' = h.set id (.cells (flatC (partialInsertionSort (ltC cf) d a b).1.toList ++ rest))) := by
  subst hN
  have hidl : id < h.length := (List.getElem?_eq_some_iff.1 hid).1
  unfold partialInsertionSort
  generalize hr0 : partialIns (ltC cf) a b 5 (a + 1) d = r0
  refine ACalls.of_aw Try.func224 K.slices_partialInsertionSortCmpFunc_Cell (by simp [Try.f224]) ?_
  generalize hQ : retQ R.slices_partialInsertionSortCmpFunc_Cell _ = Q
  simp (disch:=first|assumption|omega) only[C.slices_partialInsertionSortCmpFunc_Cell,go_sem,↓reduceIte,Nat.reduceEqDiff,reduceIte]
  refine aw_count (fun n S => ∃ (i : Nat) (d2 : Array Cell), n ≤ 5 ∧ a < i ∧ i ≤ b ∧ S.env 9 = .int .i64 i ∧ S.env 10 = .int .i64 (5 - (n : Int)) ∧ S.env 0 = .ref id 0 d.size cap ∧ S.env 1 = .int .i64 a ∧ S.env 2 = .int .i64 b ∧ S.env 3 = .func f [] ∧ d2.size = d.size ∧ partialIns (ltC cf) a b n i d2 = r0 ∧ S.heap = h.set id (.cells (flatC d2.toList ++ rest))) (n := 5)
    ⟨a + 1, d, by omega, by omega, by omega, by simp (disch:=first|assumption|omega) only[go_sem,↓reduceIte,Nat.reduceEqDiff,reduceIte]; simp, by simp (disch:=first|assumption|omega) only[go_sem,↓reduceIte,reduceIte]; simp, by simp (disch:=first|assumption|omega) only[go_sem,↓reduceIte,reduceCtorEq,reduceIte], by simp (disch:=first|assumption|omega) only[go_sem,↓reduceIte,Nat.reduceEqDiff,reduceIte], by simp (disch:=first|assumption|omega) only[go_sem,↓reduceIte,Nat.reduceEqDiff,reduceIte], by simp (disch:=first|assumption|omega) only[go_sem,↓reduceIte,Nat.reduceEqDiff,reduceIte], rfl, hr0, by simp (disch:=first|assumption|omega) only[go_sem]; rw [set_same hid]⟩ ?_
  clear hr0
  rintro n S ⟨i, d2, hn5, hai, hib, e9, e10, e0, e1, e2, e3, hd2, hpl, eh⟩
  have hget : (h.set id (.cells (flatC d2.toList ++ rest)))[id]? = some (.cells (flatC d2.toList ++ rest)) := List.getElem?_set_self hidl
  have hlen := acLen d2 rest
  cases n with
  | zero =>
    have c5 : ¬((5 : Int) - ((0 : Nat) : Int) < 5) := by omega
    simp (disch:=first|assumption|omega) only[e10,go_sem,↓reduceIte,Nat.reduceLT,reduceIte,Int.reduceLT]
    subst hQ
    simp (disch:=first|assumption|omega) only[R.slices_partialInsertionSortCmpFunc_Cell,eh,go_sem,↓reduceIte,reduceIte]
    rw [← hpl]
    exact ⟨rfl, rfl⟩
  | succ st =>
    have c5 : (5 : Int) - ((st + 1 : Nat) : Int) < 5 := by omega
    simp (disch:=first|assumption|omega) only[e10,c5,go_sem,↓reduceIte,reduceIte]
    refine aw_cutB (Pm := fun S => ∃ (k : Nat), i ≤ k ∧ k ≤ b ∧ S.env 9 = .int .i64 k ∧ S.env 10 = .int .i64 (5 - ((st + 1 : Nat) : Int)) ∧ S.env 0 = .ref id 0 d.size cap ∧ S.env 1 = .int .i64 a ∧ S.env 2 = .int .i64 b ∧ S.env 3 = .func f [] ∧ scanSorted (ltC cf) d2 b i = k ∧ S.heap = h.set id (.cells (flatC d2.toList ++ rest))) ?_ ?_
    · refine aw_count (fun n S => ∃ (k : Nat), n = b - k ∧ i ≤ k ∧ k ≤ b ∧ S.env 9 = .int .i64 k ∧ S.env 10 = .int .i64 (5 - ((st + 1 : Nat) : Int)) ∧ S.env 0 = .ref id 0 d.size cap ∧ S.env 1 = .int .i64 a ∧ S.env 2 = .int .i64 b ∧ S.env 3 = .func f [] ∧ scanSorted (ltC cf) d2 b i = scanSorted (ltC cf) d2 b k ∧ S.heap = h.set id (.cells (flatC d2.toList ++ rest))) (n := b - i)
        ⟨i, rfl, by omega, hib, by simp (disch:=first|assumption|omega) only[e9,go_sem,↓reduceIte,Nat.reduceEqDiff,reduceIte], by simp (disch:=first|assumption|omega) only[e10,go_sem,↓reduceIte,Nat.reduceEqDiff,reduceIte], by simp (disch:=first|assumption|omega) only[e0,go_sem,↓reduceIte,reduceCtorEq,reduceIte], by simp (disch:=first|assumption|omega) only[e1,go_sem,↓reduceIte,Nat.reduceEqDiff,reduceIte], by simp (disch:=first|assumption|omega) only[e2,go_sem,↓reduceIte,Nat.reduceEqDiff,reduceIte], by simp (disch:=first|assumption|omega) only[e3,go_sem,↓reduceIte,Nat.reduceEqDiff,reduceIte], rfl, by simp (disch:=first|assumption|omega) only[eh,go_sem]⟩ ?_
      clear e9 e10 e0 e1 e2 e3 eh
      rintro n S ⟨k, hnk, hik, hkb, e9, e10, e0, e1, e2, e3, hsc, eh⟩
      by_cases hle : (k : Int) < b
      · obtain ⟨k2, rfl⟩ : ∃ k2, k = k2 + 1 := ⟨k - 1, by omega⟩
        have hk1 : (((k2 + 1 : Nat) : Int) - 1).toNat = k2 := by omega
        have hk2 : (((k2 + 1 : Nat) : Int)).toNat = k2 + 1 := by omega
        have hk3 : (0 : Int) ≤ ((k2 + 1 : Nat) : Int) - 1 := by omega
        have hk4 : ((k2 + 1 : Nat) : Int) - 1 < d.size := by omega
        have hk5 : ((k2 + 1 : Nat) : Int) < d.size := by omega
        have q1 := acGet d2 rest (j := k2 + 1) (by omega)
        have q2 := acGet d2 rest (j := k2) (by omega)
        simp (disch:=first|assumption|omega) only[e9,e0,e2,e3,eh,hle,hget,hlen,q1,q2,hk1,hk2,hk3,hk4,hk5,go_sem,↓reduceIte,Nat.reduceEqDiff,reduceCtorEq,Nat.reduceLeDiff,reduceIte]
        repeat (refine And.intro ?_ ?_; omega)
        refine callvqG_ok (hf d2[k2 + 1]! d2[k2]! _) (by simp (disch:=first|assumption|omega) only[go_sem]) ?_
        rintro _ _ ⟨rfl, hhh⟩
        rw [hhh]
        clear hhh
        refine ⟨rfl, ?_⟩
        by_cases hx : cf d2[k2 + 1]! d2[k2]! < 0
        · simp (disch:=first|assumption|omega) only[e9,e10,e0,e1,e2,e3,eh,hx,go_sem,↓reduceIte,Nat.reduceEqDiff,reduceCtorEq,reduceIte]
          exact ⟨k2 + 1, by omega, by omega, rfl, hsc.trans (scanSorted_stop (fun c => by simp [ltC, hx] at c))⟩
        · simp (disch:=first|assumption|omega) only[e9,e10,e0,e1,e2,e3,eh,hx,go_sem,↓reduceIte,Nat.reduceEqDiff,reduceCtorEq,reduceIte]
          exact ⟨b - (k2 + 1 + 1), by omega, k2 + 1 + 1, rfl, by omega, by omega, by simp, hsc.trans (scanSorted_step (by omega) (by simp [ltC, hx]))⟩
      · simp (disch:=first|assumption|omega) only[e9,e10,e0,e1,e2,e3,eh,hle,go_sem,↓reduceIte,Nat.reduceEqDiff,reduceCtorEq,reduceIte]
        exact ⟨k, by omega, by omega, rfl, hsc.trans (scanSorted_stop (fun c => by omega))⟩
    clear e9 e10 e0 e1 e2 e3 eh
    rintro S ⟨k, hik, hkb, e9, e10, e0, e1, e2, e3, hsc, eh⟩
    rw [partialIns_succ, hsc] at hpl
    by_cases hkb2 : (k : Int) = b
    · rw [if_pos (by omega)] at hpl
      simp (disch:=first|assumption|omega) only[e9,e2,hkb2,go_sem,↓reduceIte,Nat.reduceEqDiff,reduceIte]
      subst hQ
      simp (disch:=first|assumption|omega) only[R.slices_partialInsertionSortCmpFunc_Cell,eh,go_sem,↓reduceIte,reduceIte]
      rw [← hpl]
      exact ⟨rfl, rfl⟩
    rw [if_neg (by omega)] at hpl
    by_cases hsh : (b : Int) - a < 50
    · rw [if_pos (by omega)] at hpl
      simp (disch:=first|assumption|omega) only[e9,e1,e2,hkb2,hsh,go_sem,↓reduceIte,Nat.reduceEqDiff,reduceIte]
      subst hQ
      simp (disch:=first|assumption|omega) only[R.slices_partialInsertionSortCmpFunc_Cell,eh,go_sem,↓reduceIte,reduceIte]
      rw [← hpl]
      exact ⟨rfl, rfl⟩
    rw [if_neg (by omega)] at hpl
    obtain ⟨k2, rfl⟩ : ∃ k2, k = k2 + 1 := ⟨k - 1, by omega⟩
    have hk1 : (((k2 + 1 : Nat) : Int) - 1).toNat = k2 := by omega
    have hk2 : (((k2 + 1 : Nat) : Int)).toNat = k2 + 1 := by omega
    have hk3 : (0 : Int) ≤ ((k2 + 1 : Nat) : Int) - 1 := by omega
    have hk4 : ((k2 + 1 : Nat) : Int) - 1 < d.size := by omega
    have hk5 : ((k2 + 1 : Nat) : Int) < d.size := by omega
    have q1 := acGet d2 rest (j := k2 + 1) (by omega)
    have q2 := acGet d2 rest (j := k2) (by omega)
    have s1 := acSet d2 rest (j := k2 + 1) d2[k2]! (by omega)
    have s2 := acSet (d2.setIfInBounds (k2 + 1) d2[k2]!) rest (j := k2) d2[k2 + 1]! (by simp; omega)
    have hget2 : (h.set id (.cells (flatC (d2.setIfInBounds (k2 + 1) d2[k2]!).toList ++ rest)))[id]? = some (.cells (flatC (d2.setIfInBounds (k2 + 1) d2[k2]!).toList ++ rest)) := List.getElem?_set_self hidl
    have hlen2 := acLen (d2.setIfInBounds (k2 + 1) d2[k2]!) rest
    rw [Array.size_setIfInBounds] at hlen2
    simp (disch:=first|assumption|omega) only[e9,e0,e1,e2,eh,hkb2,hsh,hget,hlen,q1,q2,s1,s2,hget2,hlen2,List.set_set,hk1,hk2,hk3,hk4,hk5,go_sem,↓reduceIte,Nat.reduceEqDiff,reduceCtorEq,Nat.reduceAdd,Nat.reduceLeDiff,reduceIte,Int.reduceAdd]
    repeat (refine And.intro ?_ ?_; omega)
    rw [show k2 + 1 - 1 = k2 by omega] at hpl
    have hd3 : (swp d2 (k2 + 1) k2).size = d.size := by rw [Sort.size_swp]; exact hd2
    refine condG_cut (fun S => S.env 9 = .int .i64 (k2 + 1 : Nat) ∧ S.env 10 = .int .i64 (5 - ((st + 1 : Nat) : Int)) ∧ S.env 0 = .ref id 0 d.size cap ∧ S.env 1 = .int .i64 a ∧ S.env 2 = .int .i64 b ∧ S.env 3 = .func f [] ∧ S.heap = h.set id (.cells (flatC (fixDown (ltC cf) a (k2 + 1) (swp d2 (k2 + 1) k2)).toList ++ rest))) ?_ ?_
    · refine condG_if (fun h2 => ?_) fun h2 => ?_
      · unfold fixDown
        rw [if_pos (by omega), show k2 + 1 - 1 = k2 by omega]
        generalize hr1 : shiftDown (ltC cf) k2 (swp d2 (k2 + 1) k2) = r1
        simp (disch:=first|assumption|omega) only[e9,h2,go_sem,↓reduceIte,Nat.reduceEqDiff,reduceIte]
        refine aw_count (fun n S => ∃ (d4 : Array Cell), n < b ∧ S.env 11 = .int .i64 n ∧ S.env 9 = .int .i64 (k2 + 1 : Nat) ∧ S.env 10 = .int .i64 (5 - ((st + 1 : Nat) : Int)) ∧ S.env 0 = .ref id 0 d.size cap ∧ S.env 1 = .int .i64 a ∧ S.env 2 = .int .i64 b ∧ S.env 3 = .func f [] ∧ d4.size = d.size ∧ shiftDown (ltC cf) n d4 = r1 ∧ S.heap = h.set id (.cells (flatC d4.toList ++ rest))) (n := k2)
          ⟨swp d2 (k2 + 1) k2, by omega, by simp (disch:=first|assumption|omega) only[go_sem,↓reduceIte,reduceIte]; congr 1; omega, by simp (disch:=first|assumption|omega) only[e9,go_sem,↓reduceIte,Nat.reduceEqDiff,reduceIte], by simp (disch:=first|assumption|omega) only[e10,go_sem,↓reduceIte,Nat.reduceEqDiff,reduceIte], by simp (disch:=first|assumption|omega) only[e0,go_sem,↓reduceIte,reduceCtorEq,reduceIte], by simp (disch:=first|assumption|omega) only[e1,go_sem,↓reduceIte,Nat.reduceEqDiff,reduceIte], by simp (disch:=first|assumption|omega) only[e2,go_sem,↓reduceIte,Nat.reduceEqDiff,reduceIte], by simp (disch:=first|assumption|omega) only[e3,go_sem,↓reduceIte,Nat.reduceEqDiff,reduceIte], hd3, hr1, by simp (disch:=first|assumption|omega) only[go_sem]; rfl⟩ ?_
        clear e9 e10 e0 e1 e2 e3 eh hget hlen hget2 hlen2 s1 s2 q1 q2 hpl hr1 hk1 hk2 hk3 hk4 hk5
        rintro n S ⟨d4, hnb, e11, e9, e10, e0, e1, e2, e3, hd4, hr1, eh⟩
        have hget : (h.set id (.cells (flatC d4.toList ++ rest)))[id]? = some (.cells (flatC d4.toList ++ rest)) := List.getElem?_set_self hidl
        have hlen := acLen d4 rest
        cases n with
        | zero =>
          simp (disch:=first|assumption|omega) only[e11,e9,e10,e0,e1,e2,e3,eh,go_sem,↓reduceIte,Nat.reduceEqDiff,reduceCtorEq,reduceIte,Int.reduceLE]
          rw [show r1 = d4 from hr1.symm]
        | succ n =>
          have h1 : (1 : Int) ≤ ((n + 1 : Nat) : Int) := by omega
          have hk1 : (((n + 1 : Nat) : Int) - 1).toNat = n := by omega
          have hk2 : (((n + 1 : Nat) : Int)).toNat = n + 1 := by omega
          have hk3 : (0 : Int) ≤ ((n + 1 : Nat) : Int) - 1 := by omega
          have hk4 : ((n + 1 : Nat) : Int) - 1 < d.size := by omega
          have hk5 : ((n + 1 : Nat) : Int) < d.size := by omega
          have q1 := acGet d4 rest (j := n + 1) (by omega)
          have q2 := acGet d4 rest (j := n) (by omega)
          rw [shiftDown_succ] at hr1
          simp (disch:=first|assumption|omega) only[e11,e0,e3,eh,h1,hget,hlen,q1,q2,hk1,hk2,hk3,hk4,hk5,go_sem,↓reduceIte,Nat.reduceEqDiff,reduceCtorEq,Nat.reduceLeDiff,reduceIte]
          repeat (refine And.intro ?_ ?_; omega)
          refine callvqG_ok (hf d4[n + 1]! d4[n]! _) (by simp (disch:=first|assumption|omega) only[go_sem]) ?_
          rintro _ _ ⟨rfl, hhh⟩
          rw [hhh]
          clear hhh
          refine ⟨rfl, ?_⟩
          by_cases hx : cf d4[n + 1]! d4[n]! < 0
          · have s1 := acSet d4 rest (j := n + 1) d4[n]! (by omega)
            have s2 := acSet (d4.setIfInBounds (n + 1) d4[n]!) rest (j := n) d4[n + 1]! (by simp; omega)
            have hget2 : (h.set id (.cells (flatC (d4.setIfInBounds (n + 1) d4[n]!).toList ++ rest)))[id]? = some (.cells (flatC (d4.setIfInBounds (n + 1) d4[n]!).toList ++ rest)) := List.getElem?_set_self hidl
            have hlen2 := acLen (d4.setIfInBounds (n + 1) d4[n]!) rest
            rw [Array.size_setIfInBounds] at hlen2
            rw [if_pos hx] at hr1
            simp (disch:=first|assumption|omega) only[e11,e9,e10,e0,e1,e2,e3,eh,hx,hget,hlen,q1,q2,s1,s2,hget2,hlen2,List.set_set,hk1,hk2,hk3,hk4,hk5,go_sem,↓reduceIte,Nat.reduceEqDiff,reduceCtorEq,Nat.reduceAdd,Nat.reduceLeDiff,reduceIte,Int.reduceAdd]
            repeat (refine And.intro ?_ ?_; omega)
            exact ⟨n, by omega, swp d4 (n + 1) n, by omega, by congr 1 <;> omega, by rw [Sort.size_swp]; exact hd4, hr1, rfl⟩
          · rw [if_neg hx] at hr1
            simp (disch:=first|assumption|omega) only[e9,e10,e0,e1,e2,e3,eh,hx,go_sem,↓reduceIte,Nat.reduceEqDiff,reduceCtorEq,reduceIte]
            rw [hr1]
      · unfold fixDown
        rw [if_neg (by omega)]
        simp (disch:=first|assumption|omega) only[e9,e10,e0,e1,e2,e3,h2,go_sem,↓reduceIte,Nat.reduceEqDiff,reduceCtorEq,reduceIte]
        rfl
    have hd5 : (fixDown (ltC cf) a (k2 + 1) (swp d2 (k2 + 1) k2)).size = d.size := by
      unfold fixDown
      split
      · rw [shiftDown_size]; exact hd3
      · exact hd3
    clear e9 e10 e0 e1 e2 e3 eh hget hlen hget2 hlen2 s1 s2 q1 q2 hk1 hk2 hk3 hk4 hk5
    generalize fixDown (ltC cf) a (k2 + 1) (swp d2 (k2 + 1) k2) = d3 at *
    rintro S ⟨e9, e10, e0, e1, e2, e3, eh⟩
    have hget : (h.set id (.cells (flatC d3.toList ++ rest)))[id]? = some (.cells (flatC d3.toList ++ rest)) := List.getElem?_set_self hidl
    have hlen := acLen d3 rest
    simp (disch:=first|assumption|omega) only[e9,e2,go_sem,↓reduceIte,Nat.reduceEqDiff,reduceIte]
    refine condG_cutB (fun S => S.env 9 = .int .i64 (k2 + 1 : Nat) ∧ S.env 10 = .int .i64 (5 - ((st + 1 : Nat) : Int)) ∧ S.env 0 = .ref id 0 d.size cap ∧ S.env 1 = .int .i64 a ∧ S.env 2 = .int .i64 b ∧ S.env 3 = .func f [] ∧ S.heap = h.set id (.cells (flatC (fixUp (ltC cf) b (k2 + 1) d3).toList ++ rest))) ?_ ?_
    · refine condG_if (fun h2 => ?_) fun h2 => ?_
      · unfold fixUp
        rw [if_pos (by omega)]
        generalize hr1 : shiftUp (ltC cf) b (k2 + 1 + 1) d3 = r1
        simp (disch:=first|assumption|omega) only[e9,h2,go_sem,↓reduceIte,Nat.reduceEqDiff,reduceIte]
        refine aw_count (fun n S => ∃ (j : Nat) (d4 : Array Cell), n = b - j ∧ 1 ≤ j ∧ j ≤ b ∧ S.env 12 = .int .i64 j ∧ S.env 9 = .int .i64 (k2 + 1 : Nat) ∧ S.env 10 = .int .i64 (5 - ((st + 1 : Nat) : Int)) ∧ S.env 0 = .ref id 0 d.size cap ∧ S.env 1 = .int .i64 a ∧ S.env 2 = .int .i64 b ∧ S.env 3 = .func f [] ∧ d4.size = d.size ∧ shiftUp (ltC cf) b j d4 = r1 ∧ S.heap = h.set id (.cells (flatC d4.toList ++ rest))) (n := b - (k2 + 1 + 1))
          ⟨k2 + 1 + 1, d3, rfl, by omega, by omega, by simp (disch:=first|assumption|omega) only[go_sem,↓reduceIte,reduceIte]; congr 1 <;> omega, by simp (disch:=first|assumption|omega) only[e9,go_sem,↓reduceIte,Nat.reduceEqDiff,reduceIte], by simp (disch:=first|assumption|omega) only[e10,go_sem,↓reduceIte,Nat.reduceEqDiff,reduceIte], by simp (disch:=first|assumption|omega) only[e0,go_sem,↓reduceIte,reduceCtorEq,reduceIte], by simp (disch:=first|assumption|omega) only[e1,go_sem,↓reduceIte,Nat.reduceEqDiff,reduceIte], by simp (disch:=first|assumption|omega) only[e2,go_sem,↓reduceIte,Nat.reduceEqDiff,reduceIte], by simp (disch:=first|assumption|omega) only[e3,go_sem,↓reduceIte,Nat.reduceEqDiff,reduceIte], hd5, hr1, by simp (disch:=first|assumption|omega) only[eh,go_sem]⟩ ?_
        clear e9 e10 e0 e1 e2 e3 eh hget hlen hpl hr1
        rintro n S ⟨j, d4, hnj, hj1, hjb, e12, e9, e10, e0, e1, e2, e3, hd4, hr1, eh⟩
        have hget : (h.set id (.cells (flatC d4.toList ++ rest)))[id]? = some (.cells (flatC d4.toList ++ rest)) := List.getElem?_set_self hidl
        have hlen := acLen d4 rest
        obtain ⟨j, rfl⟩ : ∃ j2, j = j2 + 1 := ⟨j - 1, by omega⟩
        by_cases hle : ((j + 1 : Nat) : Int) < b
        · have hk1 : (((j + 1 : Nat) : Int) - 1).toNat = j := by omega
          have hk2 : (((j + 1 : Nat) : Int)).toNat = j + 1 := by omega
          have hk3 : (0 : Int) ≤ ((j + 1 : Nat) : Int) - 1 := by omega
          have hk4 : ((j + 1 : Nat) : Int) - 1 < d.size := by omega
          have hk5 : ((j + 1 : Nat) : Int) < d.size := by omega
          have q1 := acGet d4 rest (j := j + 1) (by omega)
          have q2 := acGet d4 rest (j := j) (by omega)
          rw [shiftUp_step, show j + 1 - 1 = j by omega] at hr1
          simp (disch:=first|assumption|omega) only[e12,e0,e2,e3,eh,hle,hget,hlen,q1,q2,hk1,hk2,hk3,hk4,hk5,go_sem,↓reduceIte,Nat.reduceEqDiff,reduceCtorEq,Nat.reduceLeDiff,reduceIte]
          repeat (refine And.intro ?_ ?_; omega)
          refine callvqG_ok (hf d4[j + 1]! d4[j]! _) (by simp (disch:=first|assumption|omega) only[go_sem]) ?_
          rintro _ _ ⟨rfl, hhh⟩
          rw [hhh]
          clear hhh
          refine ⟨rfl, ?_⟩
          by_cases hx : cf d4[j + 1]! d4[j]! < 0
          · have s1 := acSet d4 rest (j := j + 1) d4[j]! (by omega)
            have s2 := acSet (d4.setIfInBounds (j + 1) d4[j]!) rest (j := j) d4[j + 1]! (by simp; omega)
            have hget2 : (h.set id (.cells (flatC (d4.setIfInBounds (j + 1) d4[j]!).toList ++ rest)))[id]? = some (.cells (flatC (d4.setIfInBounds (j + 1) d4[j]!).toList ++ rest)) := List.getElem?_set_self hidl
            have hlen2 := acLen (d4.setIfInBounds (j + 1) d4[j]!) rest
            rw [Array.size_setIfInBounds] at hlen2
            rw [if_pos ⟨by omega, hx⟩] at hr1
            simp (disch:=first|assumption|omega) only[e12,e9,e10,e0,e1,e2,e3,eh,hx,hget,hlen,q1,q2,s1,s2,hget2,hlen2,List.set_set,hk1,hk2,hk3,hk4,hk5,go_sem,↓reduceIte,Nat.reduceEqDiff,reduceCtorEq,Nat.reduceAdd,Nat.reduceLeDiff,reduceIte,Int.reduceAdd]
            repeat (refine And.intro ?_ ?_; omega)
            exact ⟨b - (j + 1 + 1), by omega, j + 1 + 1, swp d4 (j + 1) j, rfl, by omega, by omega, by simp, by rw [Sort.size_swp]; exact hd4, hr1, rfl⟩
          · rw [if_neg (fun c => hx c.2)] at hr1
            simp (disch:=first|assumption|omega) only[e9,e10,e0,e1,e2,e3,eh,hx,go_sem,↓reduceIte,Nat.reduceEqDiff,reduceCtorEq,reduceIte]
            rw [hr1]
        · rw [shiftUp_step, if_neg (fun c => hle (by omega))] at hr1
          simp (disch:=first|assumption|omega) only[e12,e9,e10,e0,e1,e2,e3,eh,hle,go_sem,↓reduceIte,Nat.reduceEqDiff,reduceCtorEq,reduceIte]
          rw [hr1]
      · unfold fixUp
        rw [if_neg (by omega)]
        simp (disch:=first|assumption|omega) only[e9,e10,e0,e1,e2,e3,eh,h2,go_sem,↓reduceIte,Nat.reduceEqDiff,reduceCtorEq,reduceIte]
    have hd6 : (fixUp (ltC cf) b (k2 + 1) d3).size = d.size := by
      unfold fixUp
      split
      · rw [shiftUp_size cf b _ _ _ (Nat.le_refl _)]; exact hd5
      · exact hd5
    clear e9 e10 e0 e1 e2 e3 eh hget hlen
    generalize fixUp (ltC cf) b (k2 + 1) d3 = d4 at *
    rintro S ⟨e9, e10, e0, e1, e2, e3, eh⟩
    simp (disch:=first|assumption|omega) only[e9,e10,e0,e1,e2,e3,eh,go_sem,↓reduceIte,Nat.reduceEqDiff,reduceCtorEq,reduceIte]
    exact ⟨st, by omega, k2 + 1, d4, by omega, by omega, by omega, rfl, by congr 1; omega, hd6, hpl, rfl⟩
end Go.Proofs.Ytpdajkbfemcdlaa
namespace Go.Proofs.Ytpdajkbfemcdlaa
open Go.Ge Go.Sort
theorem pdq_ok (f : Nat) (cf : Cell → Cell → Int) (hf : CmpOk f cf) (hS : SWO (ltC cf)) (N id cap : Nat) (rest : List AVal) (hn : N < 65536) : ∀ (w : Nat) (d : Array Cell) (hN : d.size = N) (a b limit : Nat) (h : List HObj) (hid : h[id]? = some (.cells (flatC d.toList ++ rest))) (hw : b - a = w) (hab : a ≤ b) (hb : b ≤ d.size) (hlim : limit ≤ 65536) (hB : Below (ltC cf) a b d) (hr : idsL rest ≤ h.length),
    ACalls Try.prog F.slices_pdqsortCmpFunc_Cell [.ref id 0 N cap, .int .i64 a, .int .i64 b, .int .i64 limit, .func f []] h
      (fun v h' => v = .tup [] ∧ ∃ d' : Array Cell, PermIn a b d d' ∧ SortedIn (ltC cf) a b d' ∧ h' = h.set id (.cells (flatC d'.toList ++ rest))) := by
  intro w
  induction w using Nat.strongRecOn with | _ w ih =>
  intro d hN a b limit h hid hw hab hb hlim hB hr
  subst hN
  have hidl : id < h.length := (List.getElem?_eq_some_iff.1 hid).1
  refine ACalls.of_aw Try.func203 K.slices_pdqsortCmpFunc_CellF (by simp [Try.f203]) ?_
  generalize hQ : retQ R.slices_pdqsortCmpFunc_CellF _ = Q
  simp (disch:=first|assumption|omega) only[C.slices_pdqsortCmpFunc_CellF,go_sem]
  refine aw_count (fun n S => ∃ (a' b' lim : Nat) (wb wp : Bool) (d2 : Array Cell), n = b' - a' ∧ n ≤ w ∧ a' ≤ b' ∧ b' ≤ d.size ∧ lim ≤ 65536 ∧ S.env 0 = .ref id 0 d.size cap ∧ S.env 1 = .int .i64 a' ∧ S.env 2 = .int .i64 b' ∧ S.env 3 = .int .i64 lim ∧ S.env 4 = .func f [] ∧ S.env 10 = .bool wb ∧ S.env 11 = .bool wp ∧ d2.size = d.size ∧ Below (ltC cf) a' b' d2 ∧ (∀ R : Array Cell, PermIn a' b' d2 R → SortedIn (ltC cf) a' b' R → PermIn a b d R ∧ SortedIn (ltC cf) a b R) ∧ S.heap = h.set id (.cells (flatC d2.toList ++ rest))) (n := b - a)
    ⟨a, b, limit, true, true, d, rfl, by omega, hab, hb, hlim, by simp (disch:=first|assumption|omega) only[go_sem,↓reduceIte,reduceCtorEq,reduceIte], by simp (disch:=first|assumption|omega) only[go_sem,↓reduceIte,Nat.reduceEqDiff,reduceIte], by simp (disch:=first|assumption|omega) only[go_sem,↓reduceIte,Nat.reduceEqDiff,reduceIte], by simp (disch:=first|assumption|omega) only[go_sem,↓reduceIte,Nat.reduceEqDiff,reduceIte], by simp (disch:=first|assumption|omega) only[go_sem,↓reduceIte,Nat.reduceEqDiff,reduceIte], by simp (disch:=first|assumption|omega) only[go_sem,↓reduceIte,Nat.reduceEqDiff,reduceIte], by simp (disch:=first|assumption|omega) only[go_sem,↓reduceIte,reduceIte], rfl, hB, fun R h1 h2 => ⟨h1, h2⟩, by simp (disch:=first|assumption|omega) only[go_sem]; rw [set_same hid]⟩ ?_
  clear hB hlim hid
  rintro n S ⟨a', b', lim, wb, wp, d2, rfl, hnw, hab', hb', hlim, e0, e1, e2, e3, e4, e10, e11, hd2, hB, hfin, eh⟩
  have hget : ∀ z, (h.set id z)[id]? = some z := fun z => List.getElem?_set_self hidl
  have hlh : ∀ z, idsL rest ≤ (h.set id z).length := fun z => by simpa using hr
  by_cases h12 : (b' : Int) - a' ≤ 12
  · simp (disch:=first|assumption|omega) only[e0,e1,e2,e4,h12,go_sem,↓reduceIte,Nat.reduceEqDiff,reduceCtorEq,reduceIte]
    refine callG_ok (insertion_ok f cf hf d2 _ hd2 id cap a' b' rest _ (by simp (disch:=first|assumption|omega) only[eh,hget,go_sem]) hab' (by omega) (by omega)) (by simp (disch:=first|assumption|omega) only[go_sem]) ?_
    rintro _ _ ⟨rfl, rfl⟩
    simp (disch:=first|assumption|omega) only[eh,List.set_set,go_sem]
    subst hQ
    simp (disch:=first|assumption|omega) only[R.slices_pdqsortCmpFunc_CellF,go_sem]
    obtain ⟨p1, p2⟩ := insertionSort_holds hS d2 a' b' hab' (by omega)
    obtain ⟨q1, q2⟩ := hfin _ p1 p2
    exact ⟨_, q1, q2, rfl⟩
  by_cases hl0 : (lim : Int) = 0
  · simp (disch:=first|assumption|omega) only[e0,e1,e2,e3,e4,h12,hl0,go_sem,↓reduceIte,Nat.reduceEqDiff,reduceCtorEq,reduceIte]
    refine callG_ok (heapSort_ok f cf hf d2 _ hd2 id cap a' b' rest _ (by simp (disch:=first|assumption|omega) only[eh,hget,go_sem]) hab' (by omega) (by omega)) (by simp (disch:=first|assumption|omega) only[go_sem]) ?_
    rintro _ _ ⟨rfl, rfl⟩
    simp (disch:=first|assumption|omega) only[eh,List.set_set,go_sem]
    subst hQ
    simp (disch:=first|assumption|omega) only[R.slices_pdqsortCmpFunc_CellF,go_sem]
    obtain ⟨p1, p2⟩ := heapSort_holds hS d2 a' b' hab' (by omega)
    obtain ⟨q1, q2⟩ := hfin _ p1 p2
    exact ⟨_, q1, q2, rfl⟩
  simp (disch:=first|assumption|omega) only[e1,e2,e3,e10,h12,hl0,go_sem,↓reduceIte,Nat.reduceEqDiff,reduceIte]
  refine condG_cut (fun S => ∃ (lim2 : Nat) (d3 : Array Cell), lim2 ≤ 65536 ∧ S.env 0 = .ref id 0 d.size cap ∧ S.env 1 = .int .i64 a' ∧ S.env 2 = .int .i64 b' ∧ S.env 3 = .int .i64 lim2 ∧ S.env 4 = .func f [] ∧ S.env 10 = .bool wb ∧ S.env 11 = .bool wp ∧ S.env 12 = .int .i64 (b' - a') ∧ PermIn a' b' d2 d3 ∧ S.heap = h.set id (.cells (flatC d3.toList ++ rest))) ?_ ?_
  · cases wb with
    | true =>
      simp (disch:=first|assumption|omega) only[e0,e1,e2,e3,e4,e10,e11,eh,go_sem,↓reduceIte,Nat.reduceEqDiff,reduceCtorEq,reduceIte]
      exact ⟨lim, d2, hlim, rfl, permIn_refl _ _ _, rfl⟩
    | false =>
      simp (disch:=first|assumption|omega) only[e0,e1,e2,e4,go_sem,↓reduceIte,Nat.reduceEqDiff,reduceCtorEq,reduceIte]
      refine callG_ok (break_ok f d2 _ hd2 id cap a' b' rest _ (by simp (disch:=first|assumption|omega) only[eh,hget,go_sem]) hab' (by omega) (by omega) (by simp (disch:=first|assumption|omega) only[eh,go_sem]; exact hlh _)) (by simp (disch:=first|assumption|omega) only[go_sem]) ?_
      rintro _ _ ⟨rfl, d3, hp3, rfl⟩
      simp (disch:=first|assumption|omega) only[e0,e1,e2,e3,e4,e10,e11,eh,List.set_set,go_sem,↓reduceIte,Nat.reduceEqDiff,reduceCtorEq,reduceIte]
      exact ⟨lim - 1, d3, by omega, by congr 1; omega, hp3, rfl⟩
  clear e0 e1 e2 e3 e4 e10 e11 eh hl0 hlim
  rintro S ⟨lim2, d3, hlim, e0, e1, e2, e3, e4, e10, e11, e12, hp3, eh⟩
  have hd3 : d3.size = d.size := by rw [hp3.1, hd2]
  simp (disch:=first|assumption|omega) only[e0,e1,e2,e4,go_sem,↓reduceIte,Nat.reduceEqDiff,reduceIte]
  refine callG_ok (choose_ok f cf hf d3 _ hd3 id cap a' b' rest _ (by simp (disch:=first|assumption|omega) only[eh,hget,go_sem]) (by omega) (by omega) (by omega)) (by simp (disch:=first|assumption|omega) only[go_sem]) ?_
  rintro _ _ ⟨⟨p, x, hp1, hp2, rfl⟩, hhh⟩
  rw [hhh]
  clear hhh
  simp (disch:=first|assumption|omega) only[go_sem,↓reduceIte,Nat.reduceEqDiff,Nat.reduceAdd,Nat.reduceLT,reduceIte,Int.reduceLT,Int.reduceAdd]
  refine condG_cut (fun S => ∃ (p2 : Nat) (x2 : Int) (d4 : Array Cell), a' ≤ p2 ∧ p2 < b' ∧ S.env 0 = .ref id 0 d.size cap ∧ S.env 1 = .int .i64 a' ∧ S.env 2 = .int .i64 b' ∧ S.env 3 = .int .i64 lim2 ∧ S.env 4 = .func f [] ∧ S.env 10 = .bool wb ∧ S.env 11 = .bool wp ∧ S.env 12 = .int .i64 (b' - a') ∧ S.env 13 = .int .i64 p2 ∧ S.env 14 = .int .i64 x2 ∧ PermIn a' b' d2 d4 ∧ S.heap = h.set id (.cells (flatC d4.toList ++ rest))) ?_ ?_
  · refine condG_if (fun h2 => ?_) fun h2 => ?_
    · simp (disch:=first|assumption|omega) only[e0,e1,e2,e4,h2,go_sem,↓reduceIte,Nat.reduceEqDiff,reduceCtorEq,reduceIte]
      refine callG_ok (reverse_ok f d3 _ hd3 id cap a' b' rest _ (by simp (disch:=first|assumption|omega) only[eh,hget,go_sem]) (by omega) (by omega) (by omega)) (by simp (disch:=first|assumption|omega) only[go_sem]) ?_
      rintro _ _ ⟨rfl, rfl⟩
      simp (disch:=first|assumption|omega) only[e0,e1,e2,e3,e4,e10,e11,e12,eh,List.set_set,go_sem,↓reduceIte,Nat.reduceEqDiff,reduceCtorEq,reduceIte]
      exact ⟨b' - 1 - (p - a'), 1, reverseRange d3 a' b', by omega, by omega, by congr 1; omega, rfl, permIn_trans _ _ _ _ _ hp3 (reverseRange_holds d3 a' b' hab' (by omega)), rfl⟩
    · simp (disch:=first|assumption|omega) only[e0,e1,e2,e3,e4,e10,e11,e12,eh,h2,go_sem,↓reduceIte,Nat.reduceEqDiff,reduceCtorEq,reduceIte]
      exact ⟨p, x, d3, hp1, hp2, rfl, rfl, hp3, rfl⟩
  clear e0 e1 e2 e3 e4 e10 e11 e12 eh hp1 hp2 hp3 hd3
  clear d3 p x
  rintro S ⟨p, x, d3, hp1, hp2, e0, e1, e2, e3, e4, e10, e11, e12, e13, e14, hp3, eh⟩
  have hd3 : d3.size = d.size := by rw [hp3.1, hd2]
  simp (disch:=first|assumption|omega) only[e10,go_sem,↓reduceIte,reduceIte]
  have hB3 : Below (ltC cf) a' b' d3 := hB.perm (by omega) hp3
  refine aopsG_cut (fun S => ∃ (d4 : Array Cell), S.env 0 = .ref id 0 d.size cap ∧ S.env 1 = .int .i64 a' ∧ S.env 2 = .int .i64 b' ∧ S.env 3 = .int .i64 lim2 ∧ S.env 4 = .func f [] ∧ S.env 10 = .bool wb ∧ S.env 11 = .bool wp ∧ S.env 12 = .int .i64 (b' - a') ∧ S.env 13 = .int .i64 p ∧ PermIn a' b' d2 d4 ∧ S.heap = h.set id (.cells (flatC d4.toList ++ rest))) ?_ ?_
  · by_cases hall : wb = true ∧ wp = true ∧ x = 1
    · obtain ⟨rfl, rfl, rfl⟩ := hall
      simp (disch:=first|assumption|omega) only[e0,e1,e2,e4,e11,e14,go_sem,↓reduceIte,Nat.reduceEqDiff,reduceCtorEq,reduceIte]
      refine callG_ok (partIns_ok f cf hf d3 _ hd3 id cap a' b' rest _ (by simp (disch:=first|assumption|omega) only[eh,hget,go_sem]) (by omega) (by omega) (by omega)) (by simp (disch:=first|assumption|omega) only[go_sem]) ?_
      rintro _ _ ⟨rfl, rfl⟩
      obtain ⟨p1, p2⟩ := partialInsertionSort_holds hS d3 a' b' (by omega) (by omega) hB3
      generalize partialInsertionSort (ltC cf) d3 a' b' = r at p1 p2 ⊢
      obtain ⟨d4, bo⟩ := r
      cases bo with
      | true =>
        simp (disch:=first|assumption|omega) only[eh,List.set_set,go_sem,↓reduceIte,reduceIte]
        subst hQ
        simp (disch:=first|assumption|omega) only[R.slices_pdqsortCmpFunc_CellF,go_sem]
        obtain ⟨q1, q2⟩ := hfin _ (permIn_trans _ _ _ _ _ hp3 p1) (p2 rfl)
        exact ⟨_, q1, q2, rfl⟩
      | false =>
        simp (disch:=first|assumption|omega) only[e0,e1,e2,e3,e4,e10,e11,e12,e13,eh,List.set_set,go_sem,↓reduceIte,Nat.reduceEqDiff,reduceCtorEq,reduceIte]
        exact ⟨d4, permIn_trans _ _ _ _ _ hp3 p1, rfl⟩
    · cases wb with
      | false =>
        simp (disch:=first|assumption|omega) only[e0,e1,e2,e3,e4,e10,e11,e12,e13,eh,go_sem,↓reduceIte,Nat.reduceEqDiff,reduceCtorEq,reduceIte]
        exact ⟨d3, hp3, rfl⟩
      | true =>
        cases wp with
        | false =>
          simp (disch:=first|assumption|omega) only[e0,e1,e2,e3,e4,e10,e11,e12,e13,eh,go_sem,↓reduceIte,Nat.reduceEqDiff,reduceCtorEq,reduceIte]
          exact ⟨d3, hp3, rfl⟩
        | true =>
          have hx1 : ¬(x = 1) := fun e => hall ⟨rfl, rfl, e⟩
          simp (disch:=first|assumption|omega) only[e0,e1,e2,e3,e4,e10,e11,e12,e13,e14,eh,hx1,go_sem,↓reduceIte,Nat.reduceEqDiff,reduceCtorEq,reduceIte]
          exact ⟨d3, hp3, rfl⟩
  clear e0 e1 e2 e3 e4 e10 e11 e12 e13 e14 eh hp3 hd3 hB3
  clear d3 x
  rintro S ⟨d3, e0, e1, e2, e3, e4, e10, e11, e12, e13, hp3, eh⟩
  have hd3 : d3.size = d.size := by rw [hp3.1, hd2]
  have hB3 : Below (ltC cf) a' b' d3 := hB.perm (by omega) hp3
  have hlen := acLen d3 rest
  simp (disch:=first|assumption|omega) only[e1,go_sem,↓reduceIte,reduceIte]
  refine aopsG_cut (fun S => S.env 0 = .ref id 0 d.size cap ∧ S.env 1 = .int .i64 a' ∧ S.env 2 = .int .i64 b' ∧ S.env 3 = .int .i64 lim2 ∧ S.env 4 = .func f [] ∧ S.env 10 = .bool wb ∧ S.env 11 = .bool wp ∧ S.env 12 = .int .i64 (b' - a') ∧ S.env 13 = .int .i64 p ∧ S.heap = h.set id (.cells (flatC d3.toList ++ rest))) ?_ ?_
  · by_cases ha0 : (0 : Int) < a'
    · have hk1 : ((a' : Int) - 1).toNat = a' - 1 := by omega
      have hk2 : (0 : Int) ≤ (a' : Int) - 1 := by omega
      have hk3 : (a' : Int) - 1 < d.size := by omega
      have hk4 : (p : Int) < d.size := by omega
      have q1 := acGet d3 rest (j := a' - 1) (by omega)
      have q2 := acGet d3 rest (j := p) (by omega)
      simp (disch:=first|assumption|omega) only[e0,e1,e4,e13,eh,ha0,hget,hlen,q1,q2,hk1,hk2,hk3,hk4,go_sem,↓reduceIte,Nat.reduceEqDiff,reduceCtorEq,Nat.reduceLeDiff,reduceIte]
      repeat (refine And.intro ?_ ?_; omega)
      refine callvqG_ok (hf d3[a' - 1]! d3[p]! _) (by simp (disch:=first|assumption|omega) only[go_sem]) ?_
      rintro _ _ ⟨rfl, hhh⟩
      rw [hhh]
      clear hhh
      refine ⟨rfl, ?_⟩
      by_cases hx : cf d3[a' - 1]! d3[p]! < 0
      · simp (disch:=first|assumption|omega) only[e0,e1,e2,e3,e4,e10,e11,e12,e13,eh,hx,go_sem,↓reduceIte,Nat.reduceEqDiff,reduceCtorEq,reduceIte]
      · simp (disch:=first|assumption|omega) only[e0,e1,e2,e4,e13,hx,go_sem,↓reduceIte,Nat.reduceEqDiff,reduceCtorEq,reduceIte]
        refine callG_ok (partEq_ok f cf hf d3 _ hd3 id cap a' b' p rest _ (by simp (disch:=first|assumption|omega) only[eh,hget,go_sem]) hp1 hp2 (by omega) (by omega)) (by simp (disch:=first|assumption|omega) only[go_sem]) ?_
        rintro _ _ ⟨rfl, rfl⟩
        obtain ⟨mid, d4, hpe⟩ : ∃ mid d4, partitionEqual (ltC cf) d3 a' b' p = (mid, d4) := ⟨(partitionEqual (ltC cf) d3 a' b' p).1, (partitionEqual (ltC cf) d3 a' b' p).2, rfl⟩
        obtain ⟨g1, g2, g3, g4, g5⟩ := round_eq hS (partitionEqual_holds _) (by omega) hp1 hp2 (by omega) hB3 (by simp [ltC, hx]) hpe
        rw [hpe]
        simp (disch:=first|assumption|omega) only[e0,e2,e3,e4,e10,e11,eh,List.set_set,go_sem,↓reduceIte,Nat.reduceEqDiff,reduceCtorEq,reduceIte]
        exact ⟨b' - mid, by omega, mid, b', lim2, wb, wp, d4, rfl, by omega, g2, hb', hlim, rfl, rfl, rfl, rfl, rfl, g3.trans hd3, g4, fun R h1 h2 => by
          obtain ⟨r1, r2⟩ := g5 R h1 h2
          exact hfin R (permIn_trans _ _ _ _ _ hp3 r1) r2, rfl⟩
    · simp (disch:=first|assumption|omega) only[e0,e1,e2,e3,e4,e10,e11,e12,e13,eh,ha0,go_sem,↓reduceIte,Nat.reduceEqDiff,reduceCtorEq,reduceIte]
  clear e0 e1 e2 e3 e4 e10 e11 e12 e13 eh
  rintro S ⟨e0, e1, e2, e3, e4, e10, e11, e12, e13, eh⟩
  simp (disch:=first|assumption|omega) only[e0,e1,e2,e4,e13,go_sem,↓reduceIte,Nat.reduceEqDiff,reduceIte]
  refine callG_ok (part_ok f cf hf d3 _ hd3 id cap a' b' p rest _ (by simp (disch:=first|assumption|omega) only[eh,hget,go_sem]) hp1 hp2 (by omega) (by omega)) (by simp (disch:=first|assumption|omega) only[go_sem]) ?_
  rintro _ _ ⟨⟨bo, rfl⟩, rfl⟩
  obtain ⟨mid, bo2, d4, hpt⟩ : ∃ mid bo2 d4, partition (ltC cf) d3 a' b' p = (mid, bo2, d4) := ⟨(partition (ltC cf) d3 a' b' p).1, (partition (ltC cf) d3 a' b' p).2.1, (partition (ltC cf) d3 a' b' p).2.2, rfl⟩
  obtain ⟨g1, g2, g3, g4, g5, gl, gr⟩ := round_part hS (partition_holds _) hp1 hp2 (by omega) hB3 hpt
  rw [hpt]
  have hd4 := g3.trans hd3
  simp (disch:=first|assumption|omega) only[e1,e2,e12,eh,List.set_set,go_sem,↓reduceIte,Nat.reduceEqDiff,Nat.reduceAdd,Nat.reduceLT,reduceIte,Int.reduceLT,Int.reduceAdd,Int.reduceNe]
  refine condG_if (fun h2 => ?_) fun h2 => ?_
  · simp (disch:=first|assumption|omega) only[e0,e1,e3,e4,h2,go_sem,↓reduceIte,Nat.reduceEqDiff,reduceCtorEq,reduceIte]
    refine callG_ok (ih (mid - a') (by omega) d4 hd4 a' mid lim2 _ (by simp (disch:=first|assumption|omega) only[hget,go_sem]) rfl g1 (by omega) hlim g4 (by simp (disch:=first|assumption|omega) only[go_sem]; exact hlh _)) (by simp (disch:=first|assumption|omega) only[go_sem]) ?_
    rintro _ _ ⟨rfl, d5, p1, p2, rfl⟩
    obtain ⟨k1, k2⟩ := gl d5 p1 p2
    simp (disch:=first|assumption|omega) only[e0,e2,e3,e4,List.set_set,go_sem,↓reduceIte,Nat.reduceEqDiff,reduceCtorEq,reduceIte]
    exact ⟨b' - (mid + 1), by omega, mid + 1, b', lim2, _, _, d5, rfl, by omega, by omega, hb', hlim, by congr 1, rfl, rfl, rfl, rfl, p1.1.trans hd4, k1, fun R h1 h2 => by
      obtain ⟨r1, r2⟩ := k2 R h1 h2
      exact hfin R (permIn_trans _ _ _ _ _ hp3 r1) r2, rfl⟩
  · simp (disch:=first|assumption|omega) only[e0,e2,e3,e4,h2,go_sem,↓reduceIte,Nat.reduceEqDiff,reduceCtorEq,reduceIte]
    refine callG_ok (ih (b' - (mid + 1)) (by omega) d4 hd4 (mid + 1) b' lim2 _ (by simp (disch:=first|assumption|omega) only[hget,go_sem]) rfl (by omega) (by omega) hlim g5 (by simp (disch:=first|assumption|omega) only[go_sem]; exact hlh _)) (by simp (disch:=first|assumption|omega) only[go_sem]) ?_
    rintro _ _ ⟨rfl, d5, p1, p2, rfl⟩
    obtain ⟨k1, k2⟩ := gr d5 p1 p2
    simp (disch:=first|assumption|omega) only[e0,e1,e3,e4,List.set_set,go_sem,↓reduceIte,Nat.reduceEqDiff,reduceCtorEq,reduceIte]
    exact ⟨mid - a', by omega, a', mid, lim2, _, _, d5, rfl, by omega, g1, by omega, hlim, rfl, rfl, rfl, rfl, rfl, p1.1.trans hd4, k1, fun R h1 h2 => by
      obtain ⟨r1, r2⟩ := k2 R h1 h2
      exact hfin R (permIn_trans _ _ _ _ _ hp3 r1) r2, rfl⟩
theorem SortFunc_ok (f : Nat) (cf : Cell → Cell → Int) (hf : CmpOk f cf) (hS : SWO (ltC cf)) (hA : ∀ x y, ltC cf x y = false → ltC cf y x = false → x = y) (l : List Cell) (id cap : Nat) (rest : List AVal) (h : List HObj) (hid : h[id]? = some (.cells (flatC l ++ rest))) (hn : l.length < 65536) (hr : idsL rest ≤ h.length) :
    ACalls Try.prog F.slices_SortFunc_Cell [.ref id 0 l.length cap, .func f []] h
      (fun v h' => v = .tup [] ∧ h' = h.set id (.cells (flatC (l.mergeSort fun x y => !ltC cf y x) ++ rest))) := by
  refine ACalls.of_aw Try.func180 K.slices_SortFunc_Cell (by simp [Try.f180]) ?_
  generalize hQ : retQ R.slices_SortFunc_Cell _ = Q
  simp (disch:=first|assumption|omega) only[C.slices_SortFunc_Cell,go_sem,↓reduceIte,Nat.reduceEqDiff,reduceCtorEq,reduceIte]
  refine callG_ok (Len_big l.length hn _) (by simp (disch:=first|assumption|omega) only[go_sem]) ?_
  rintro _ _ ⟨⟨L, rfl, hL, _⟩, hhh⟩
  rw [hhh]
  clear hhh
  simp (disch:=first|assumption|omega) only[go_sem,↓reduceIte,Nat.reduceEqDiff,reduceIte]
  refine callG_ok (pdq_ok f cf hf hS l.length id cap rest hn l.length l.toArray (by simp) 0 l.length L _ (by simp (disch:=first|assumption|omega) only[hid,go_sem]) (by omega) (by omega) (by simp) (by omega) (.inl rfl) (by simp (disch:=first|assumption|omega) only[go_sem]; exact hr)) (by simp (disch:=first|assumption|omega) only[go_sem]) ?_
  rintro _ _ ⟨rfl, d', hp, hs, rfl⟩
  simp (disch:=first|assumption|omega) only[go_sem]
  subst hQ
  simp (disch:=first|assumption|omega) only[R.slices_SortFunc_Cell,go_sem]
  rw [sorted_unique_holds hS hA l.toArray d' (by simpa using hp) (by simpa using hs)]
end Go.Proofs.Ytpdajkbfemcdlaa
namespace Go.Proofs.Ytpdajkbfemcdlaa
open Go.Ge
theorem Next_ok (id : Nat) (o : Own) (l : List Int) (n : Int) (ho : Rdo o) (hl : ∀ c ∈ l, inI64 c) (hn : inI64 n) (h : List HObj) (hid : h[id]? = some (.cells [.lst o (ints .i64 l)])) :
    ACalls Try.prog F.gantmake_Stream_Next [.hp id 0, .int .i64 n] h (fun v h' => ∃ (x : Int) (o' : Own) (l' : List Int), v = .int .i64 x ∧ 0 ≤ x ∧ (1 ≤ n → x < n) ∧ Rdo o' ∧ (∀ c ∈ l', inI64 c) ∧ h' = h.set id (.cells [.lst o' (ints .i64 l')])) := by
  have hidl : id < h.length := (List.getElem?_eq_some_iff.1 hid).1
  unfold inI64 at hn
  refine ACalls.of_aw Try.func161 K.gantmake_Stream_Next (by simp [Try.f161]) ?_
  generalize hQ : retQ R.gantmake_Stream_Next _ = Q
  simp (disch:=first|assumption|omega) only[C.gantmake_Stream_Next,go_sem,↓reduceIte,reduceCtorEq,Nat.reduceLeDiff,reduceIte]
  by_cases h0 : l.length = 0
  · have h0' : ((l.length : Nat) : Int) = 0 := by omega
    simp (disch:=first|assumption|omega) only[hid,eq_true h0',go_sem,↓reduceIte,Nat.reduceEqDiff,Nat.reduceLT,reduceIte,Int.reduceLT]
    subst hQ
    simp (disch:=first|assumption|omega) only[R.gantmake_Stream_Next,go_sem,↓reduceIte,reduceIte]
    exact ⟨0, o, l, rfl, by omega, fun h => by omega, ho, hl, (set_same hid).symm⟩
  have h0' : ¬ ((l.length : Nat) : Int) = 0 := by omega
  by_cases h1 : n < 1
  · simp (disch:=first|assumption|omega) only[hid,h0',h1,go_sem,↓reduceIte,Nat.reduceEqDiff,Nat.reduceLT,reduceIte,Int.reduceLT]
    subst hQ
    simp (disch:=first|assumption|omega) only[R.gantmake_Stream_Next,go_sem,↓reduceIte,reduceIte]
    exact ⟨0, o, l, rfl, by omega, fun h => by omega, ho, hl, (set_same hid).symm⟩
  have c0 : at_ (ints .i64 l) 0 = .int .i64 (l.getD 0 0) := at_ints' l 0 (by omega)
  have hx : inI64 (l.getD 0 0) := by rw [getD_get (by omega)]; exact hl _ (List.getElem_mem _)
  have l0 : (0 : Int) < l.length := by omega
  have l1 : (1 : Int) ≤ l.length := by omega
  have hs : List.take (l.length - Int.toNat 1) (List.drop (Int.toNat 1) (ints .i64 l)) = ints .i64 (l.drop 1) := by
    have := take_all (ints .i64 l) (Int.toNat 1)
    rw [← ints_drop]; rwa [ints_length] at this
  have hset : ∀ x, (h.set id x)[id]? = some x := fun x => List.getElem?_set_self hidl
  rcases ho with rfl | rfl
  all_goals
    simp only[hid,h0',h1,c0,l0,l1,hs,go_sem,↓reduceIte,Nat.reduceEqDiff,reduceCtorEq,Nat.reduceLeDiff,Nat.reduceLT,reduceIte,Int.reduceLT,Int.reduceLE]
    refine ⟨⟨Nat.le_refl _, ints_width l⟩, ?_⟩
    refine callG_ok (Below_ok (l.getD 0 0) n hx (by omega) (by omega) _) (by simp only[go_sem]) ?_
    rintro _ _ ⟨rfl, hhh⟩
    rw [hhh]
    clear hhh
    have m1 := Int.emod_nonneg (l.getD 0 0) (b := n) (by omega)
    have m2 := Int.emod_lt_of_pos (l.getD 0 0) (b := n) (by omega)
    simp only[go_sem,↓reduceIte,reduceIte]
    subst hQ
    simp only[R.gantmake_Stream_Next,go_sem,↓reduceIte,reduceIte]
    exact ⟨_, _, l.drop 1, rfl, m1, fun _ => m2, .inl rfl, fun c hc => hl c (List.mem_of_mem_drop hc), rfl⟩
theorem cellsA_width (l : List Cell) : ∀ x ∈ cellsA l, x.width = 2 := by
  intro x hx; obtain ⟨c, _, rfl⟩ := List.mem_map.1 hx; rfl
theorem thaw_cells {C : CallS} {Q : AExit → AState → Prop} {S : AState} {a : ACode} {s cap : Nat} {cs : List Cell} (he : S.env s = .lst (.uniq 2 cap) (cellsA cs)) (hn : cs.length ≤ cap)
    (hK : aw C a Q (({ S with heap := S.heap ++ [.cells (flatC cs ++ List.replicate ((cap - cs.length) * 2) .junk)] } : AState).set s (.ref S.heap.length 0 cs.length cap))) : aw C (.thaw s a) Q S := by
  rw [aw_thaw, he]
  have e : (cellsA cs).length = cs.length := by simp [cellsA]
  simp only[e,flatC_cells]
  refine ⟨by omega, fun x hx => ⟨cellsA_width cs x hx, ?_⟩, hn, hK⟩
  obtain ⟨c, _, rfl⟩ := List.mem_map.1 hx; rfl
theorem thaw_nil {C : CallS} {Q : AExit → AState → Prop} {S : AState} {a : ACode} {s : Nat} {xs : List AVal} (he : S.env s = .lst .nil xs) (hK : aw C a Q S) : aw C (.thaw s a) Q S := by
  rw [aw_thaw, he]; exact hK
theorem own_cells {C : CallS} {Q : AExit → AState → Prop} {S : AState} {a : ACode} {s id cap : Nat} {cs : List Cell} {rest : List AVal} (he : S.env s = .ref id 0 cs.length cap) (hh : S.heap[id]? = some (.cells (flatC cs ++ rest))) (hc : cs.length ≤ cap) (h0 : cap ≠ 0) (hr : rest.length = (cap - cs.length) * 2)
    (hK : aw C a Q (({ S with heap := S.heap.set id .dead } : AState).set s (.lst (.uniq 2 cap) (cellsA cs)))) : aw C (.own s true 2 a) Q S := by
  have e : (cellsA cs).length = cs.length := by simp [cellsA]
  refine own_flat (id := id) (cap := cap) (xs := cellsA cs) (rest := rest) (by rw [e]; exact he) (by rw [flatC_cells]; exact hh) (by rw [e]; exact hc) (by rw [e]; exact hr) (by omega) (cellsA_width cs) (fun _ x hx => ?_) (fun h => by cases h) (fun h => by cases h) (fun x hx c hc => ?_) ?_
  · obtain ⟨c, _, rfl⟩ := List.mem_map.1 hx; exact ⟨_, rfl⟩
  · obtain ⟨y, _, rfl⟩ := List.mem_map.1 hx
    simp only[cellA,AVal.cells,List.mem_cons,List.not_mem_nil,or_false] at hc
    rcases hc with rfl | rfl <;> exact ⟨rfl, rfl⟩
  · rintro hp (⟨_, h⟩ | ⟨rfl, _⟩)
    · exact absurd h h0
    · exact hK
theorem rdcInt {k : IntKind} {n : Int} : Ge.rdc (.int k n) = .int k n := rfl
theorem flatC_rdc (cs : List Cell) : (flatC cs).map Ge.rdc = flatC cs := by
  induction cs with
  | nil => rfl
  | cons c l ih =>
    have e : flatC (c :: l) = [.int .i64 c.X, .int .i64 c.Y] ++ flatC l := rfl
    rw [e, List.map_append, ih]; rfl
theorem flatC_take {cs : List Cell} {rest : List AVal} : (flatC cs ++ rest).take (cs.length * 2) = flatC cs := by
  rw [← flatC_length, List.take_left]
theorem flatC_push {cs : List Cell} {cap : Nat} {c : Cell} (h : cs.length < cap) : fillV (flatC cs ++ List.replicate ((cap - cs.length) * 2) .junk) (cs.length * 2) [.int .i64 c.X, .int .i64 c.Y] = flatC (cs ++ [c]) ++ List.replicate ((cap - (cs.length + 1)) * 2) .junk := by
  unfold fillV
  rw [flatC_take, flatC_append]
  have e : (flatC cs ++ List.replicate ((cap - cs.length) * 2) AVal.junk).drop (cs.length * 2 + [AVal.int .i64 c.X, AVal.int .i64 c.Y].length) = List.replicate ((cap - (cs.length + 1)) * 2) .junk := by
    rw [← List.drop_drop, ← flatC_length, List.drop_left, List.drop_replicate]; congr 1; simp; omega
  rw [e]; rfl
theorem hb1 (cs : List Cell) (h : ∀ c ∈ cs, -4 ≤ c.X ∧ c.X ≤ 3 ∧ -4 ≤ c.Y ∧ c.Y ≤ 3) {x y : Int} (u : Unit) (x0 : 0 ≤ x) (x8 : x < 8) (y0 : 0 ≤ y) (y8 : y < 8) : ∀ c ∈ cs ++ [⟨x - 4, y - 4⟩], -4 ≤ c.X ∧ c.X ≤ 3 ∧ -4 ≤ c.Y ∧ c.Y ≤ 3 := by
  intro c hc
  rcases List.mem_append.1 hc with hc | hc
  · exact h c hc
  · have := List.mem_singleton.1 hc
    subst this
    exact ⟨by show -4 ≤ x - 4; omega, by show x - 4 ≤ 3; omega, by show -4 ≤ y - 4; omega, by show y - 4 ≤ 3; omega⟩
theorem cells_ids (l : List Cell) : idsL (cellsA l) = 0 := by
  induction l with
  | nil => rfl
  | cons c l ih =>
    have e : cellsA (c :: l) = cellA c :: cellsA l := rfl
    rw [e]; simp [idsL, ih, cellA, AVal.ids]
def Held (v : AVal) (cs : List Cell) : Prop := v = .lst .nil [] ∧ cs = [] ∨ ∃ cap, v = .lst (.uniq 2 cap) (cellsA cs) ∧ cs.length ≤ cap ∧ 0 < cap
end Go.Proofs.Ytpdajkbfemcdlaa
namespace Go.Proofs.Ytpdajkbfemcdlaa
open Go.Ge Go.Sort
theorem GrowCell_ok (n : Nat) (hn : n ≤ 65536) (h : List HObj) :
    ACalls Try.prog F.slices_Grow_Cell [.lst .nil [], .int .i64 n] h (fun r h' => (r = .lst .nil [] ∧ n = 0 ∨ ∃ cap, 0 < n ∧ n ≤ cap ∧ r = .lst (.uniq 2 cap) []) ∧ h' = h) := by
  refine ACalls.gcn (ACalls.of_aw Try.func229 K.slices_Grow_Cell (by simp [Try.f229]) ?_)
  generalize hQ : retQ R.slices_Grow_Cell _ = Q
  simp (disch:=first|assumption|omega) only[C.slices_Grow_Cell,go_sem,↓reduceIte,Nat.reduceEqDiff,reduceIte]
  have h0 : ¬ ((n : Int) < 0) := by omega
  simp (disch:=first|assumption|omega) only[h0,go_sem,↓reduceIte,Nat.reduceEqDiff,reduceCtorEq,reduceIte]
  refine condG_if (fun hgt => ?_) fun hle => ?_
  · have hn0 : ¬ (n : Int) = 0 := by omega
    simp (disch:=first|assumption|omega) only[hn0,go_sem,↓reduceIte,Nat.reduceEqDiff,reduceCtorEq,reduceIte,Int.reduceLE]
    refine ⟨by omega, by omega, fun _ cap hc => ?_⟩
    refine own_empty (id := h.length) (off := 0) (cap := cap) (by simp only[go_sem,↓reduceIte,reduceIte]) (fun _ => ⟨List.replicate (cap * 2) .junk, by simp (disch:=first|assumption|omega) only[go_sem], by simp⟩) (fun h => by cases h) (by omega) ?_
    rintro hp hhp
    simp only[go_sem]
    subst hQ
    simp (disch:=first|assumption|omega) only[R.slices_Grow_Cell,go_sem,↓reduceIte,reduceIte]
    have hc' : n ≤ cap := by omega
    rcases hhp with ⟨rfl, _⟩ | ⟨rfl, _⟩
    · exact ⟨[.cells (List.replicate (cap * 2) .junk)], by simp (disch:=first|assumption|omega) only[go_sem], by simp [AVal.ids, idsL], .inr ⟨cap, by omega, hc', rfl⟩⟩
    · exact ⟨[.dead], by simp (disch:=first|assumption|omega) only[go_sem], by simp [AVal.ids, idsL], .inr ⟨cap, by omega, hc', rfl⟩⟩
  · simp (disch:=first|assumption|omega) only[go_sem,↓reduceIte,reduceCtorEq,reduceIte]
    refine own_nil (xs := []) (by simp (disch:=first|assumption|omega) only[go_sem,↓reduceIte,reduceIte]) ?_
    simp (disch:=first|assumption|omega) only[go_sem]
    subst hQ
    simp (disch:=first|assumption|omega) only[R.slices_Grow_Cell,go_sem,↓reduceIte,reduceIte]
    exact ⟨[], by simp, by simp [AVal.ids, idsL], .inl (by omega)⟩
theorem flatC_app {A B : List Cell} {cap : Nat} (h : A.length + B.length ≤ cap) : fillV (flatC A ++ List.replicate ((cap - A.length) * 2) .junk) (A.length * 2) (flatC B) = flatC (A ++ B) ++ List.replicate ((cap - (A.length + B.length)) * 2) .junk := by
  unfold fillV
  rw [flatC_take, flatC_append]
  have e : (flatC A ++ List.replicate ((cap - A.length) * 2) AVal.junk).drop (A.length * 2 + (flatC B).length) = List.replicate ((cap - (A.length + B.length)) * 2) .junk := by
    rw [List.drop_append, List.drop_of_length_le (by rw [flatC_length]; omega), List.nil_append, List.drop_replicate, flatC_length, flatC_length]
    congr 1; omega
  rw [e]
theorem flatC_srcH (l : List Cell) : ((cellsA l).flatMap AVal.cells).map Ge.rdc = flatC l := by rw [flatC_cells, flatC_rdc]
def CellsOk (l : List Cell) (v : AVal) : Prop := ∃ q, Rdn q l ∧ v = .lst q (cellsA l)
theorem lenSumC_take {L : List (List Cell)} {i : Nat} (h : i < L.length) : (L.take (i + 1)).flatten = (L.take i).flatten ++ L[i] := by
  rw [List.take_add_one, List.getElem?_eq_getElem h, List.flatten_append]; simp only[Option.toList,List.flatten_cons,List.flatten_nil,List.append_nil]
theorem lenSumC_le {L : List (List Cell)} {i : Nat} : (L.take i).flatten.length ≤ L.flatten.length := by
  have := congrArg List.flatten (List.take_append_drop i L)
  rw [List.flatten_append] at this
  rw [← this, List.length_append]; omega
theorem ConcatCell_ok (o : Own) (L : List (List Cell)) (xs : List AVal) (ho : Rdo o) (hx : Each2 CellsOk L xs) (hne : 0 < L.length) (hl : L.length ≤ 65536) (hb : L.flatten.length ≤ 65536) (h : List HObj) :
    ACalls Try.prog F.slices_Concat_Cell [.lst o xs] h (fun r h' => r = .ref 0 0 0 0 ∧ L.flatten = [] ∧ h' = h ∨ ∃ cap, L.flatten ≠ [] ∧ r = .ref h.length 0 L.flatten.length cap ∧ L.flatten.length ≤ cap ∧ h' = h ++ [.cells (flatC L.flatten ++ List.replicate ((cap - L.flatten.length) * 2) .junk)]) := by
  have lx := hx.length
  refine ACalls.of_aw Try.func205 K.slices_Concat_Cell (by simp [Try.f205]) ?_
  generalize hQ : retQ R.slices_Concat_Cell _ = Q
  simp (disch:=first|assumption|omega) only[C.slices_Concat_Cell,go_sem,↓reduceIte,reduceCtorEq,reduceIte]
  refine aw_count (fun d S => ∃ (i : Nat), i + d = L.length ∧ S.env 11 = .int .i64 i ∧ S.env 10 = .int .i64 L.length ∧ S.env 9 = .lst o xs ∧ S.env 0 = .lst o xs ∧ S.env 3 = .int .i64 (L.take i).flatten.length ∧ S.heap = h) (n := L.length) ⟨0, by simp [go_sem, lx, rdv_o ho]⟩ ?_
  rintro d S ⟨i, hi, e11, e10, e9, e0, e3, eh⟩
  simp (disch:=first|assumption|omega) only[e11,e10,go_sem,↓reduceIte,reduceIte]
  have hle := @lenSumC_le L i
  refine condG_if (fun hlt => ?_) fun hge => ?_
  · have hlt1 : i < L.length := by omega
    have hlt2 : i < xs.length := by omega
    have hs := lenSumC_take hlt1
    have hle2 := @lenSumC_le L (i + 1)
    have hs2 := congrArg List.length hs
    rw [List.length_append] at hs2
    obtain ⟨q, hq, hxi⟩ := hx.at i hlt1
    have hq1 := hq.1
    simp (disch:=first|assumption|omega) only[e11,e9,e3,hlt2,hxi,go_sem,↓reduceIte,Nat.reduceEqDiff,Nat.reduceLeDiff,Nat.reduceLT,reduceIte,Int.reduceLT]
    have h0 : ¬ (((L.take i).flatten.length : Int) + (L[i].length : Int) < 0) := by omega
    simp (disch:=first|assumption|omega) only[e11,e10,e9,e0,eh,h0,go_sem,↓reduceIte,Nat.reduceEqDiff,reduceCtorEq,reduceIte]
    exact ⟨d - 1, by omega, i + 1, by omega, by simp, by rw [hs]; simp⟩
  · obtain rfl : i = L.length := by omega
    rw [List.take_length] at e3
    simp (disch:=first|assumption|omega) only[e3,go_sem,↓reduceIte,Nat.reduceEqDiff,reduceIte]
    refine callG_ok (GrowCell_ok L.flatten.length hb _) (by simp (disch:=first|assumption|omega) only[go_sem]) ?_
    rintro r _ ⟨hr, hhh⟩
    rw [hhh]
    clear hhh
    rcases hr with ⟨rfl, hz⟩ | ⟨cap, hpos, hcap, rfl⟩
    · simp (disch:=first|assumption|omega) only[go_sem,↓reduceIte,reduceIte]
      refine thaw_nil (xs := []) (by simp (disch:=first|assumption|omega) only[go_sem,↓reduceIte,reduceIte]) ?_
      simp (disch:=first|assumption|omega) only[e0,go_sem,↓reduceIte,reduceCtorEq,reduceIte]
      refine aw_count (fun d S => ∃ (i : Nat), i + d = L.length ∧ S.env 27 = .int .i64 i ∧ S.env 26 = .int .i64 L.length ∧ S.env 25 = .lst o xs ∧ (S.env 6 = .lst .nil [] ∧ i = 0 ∨ S.env 6 = .ref 0 0 0 0) ∧ S.heap = h) (n := L.length) ⟨0, by omega, by simp (disch:=first|assumption|omega) only[go_sem,↓reduceIte,reduceIte], by simp (disch:=first|assumption|omega) only[lx,go_sem,↓reduceIte,Nat.reduceEqDiff,reduceIte], by simp (disch:=first|assumption|omega) only[go_sem,↓reduceIte,Nat.reduceEqDiff,reduceIte], .inl ⟨by simp (disch:=first|assumption|omega) only[go_sem,↓reduceIte,Nat.reduceEqDiff,reduceIte], rfl⟩, by simp (disch:=first|assumption|omega) only[eh,go_sem]⟩ ?_
      clear e11 e10 e9 e0 e3 eh
      rintro d S ⟨i, hi, e27, e26, e25, e6, eh⟩
      simp (disch:=first|assumption|omega) only[e27,e26,go_sem,↓reduceIte,reduceIte]
      refine condG_if (fun hlt => ?_) fun hge => ?_
      · have hlt1 : i < L.length := by omega
        have hlt2 : i < xs.length := by omega
        obtain ⟨p, hp, hxi⟩ := hx.at i hlt1
        have hp1 := hp.1
        have hLi : L[i] = [] := List.eq_nil_of_length_eq_zero (by
          have hs2 := congrArg List.length (lenSumC_take hlt1)
          have := @lenSumC_le L (i + 1)
          rw [List.length_append] at hs2
          omega)
        rw [hLi] at hxi
        rcases e6 with ⟨e6, h0⟩ | e6
        · simp (disch:=first|assumption|omega) only[e27,e26,e25,eh,e6,hlt2,hxi,aops_hop,hstep,srcH,srcW,go_sem,↓reduceIte,Nat.reduceEqDiff,reduceCtorEq,Nat.reduceLeDiff,Nat.reduceLT,reduceIte,Int.reduceLT]
          exact ⟨by simp [cellsA], ⟨d - 1, by omega, i + 1, by omega, by simp, .inr trivial⟩, fun h => absurd rfl h⟩
        · simp (disch:=first|assumption|omega) only[e27,e26,e25,eh,e6,hlt2,hxi,aops_hop,hstep,srcH,srcW,go_sem,↓reduceIte,Nat.reduceEqDiff,reduceCtorEq,Nat.reduceLeDiff,Nat.reduceLT,reduceIte,Int.reduceLT]
          exact ⟨by simp [cellsA], ⟨d - 1, by omega, i + 1, by omega, by simp, .inr trivial⟩, fun h => absurd rfl h⟩
      · rcases e6 with ⟨e6, h0⟩ | e6
        · omega
        · simp (disch:=first|assumption|omega) only[e6,go_sem,↓reduceIte,Nat.reduceEqDiff,reduceIte]
          subst hQ
          simp (disch:=first|assumption|omega) only[R.slices_Concat_Cell,eh,go_sem,↓reduceIte,reduceIte]
          exact .inl (List.eq_nil_of_length_eq_zero hz)
    · simp (disch:=first|assumption|omega) only[go_sem,↓reduceIte,reduceIte]
      refine thaw_cells (cs := []) (cap := cap) (by simp (disch:=first|assumption|omega) only[go_sem,↓reduceIte,reduceIte]; rfl) (by simp) ?_
      simp (disch:=first|assumption|omega) only[e0,eh,go_sem,↓reduceIte,reduceCtorEq,reduceIte]
      refine aw_count (fun d S => ∃ (i : Nat), i + d = L.length ∧ S.env 27 = .int .i64 i ∧ S.env 26 = .int .i64 L.length ∧ S.env 25 = .lst o xs ∧ S.env 6 = .ref h.length 0 (L.take i).flatten.length cap ∧ S.heap = h ++ [.cells (flatC (L.take i).flatten ++ List.replicate ((cap - (L.take i).flatten.length) * 2) .junk)]) (n := L.length) ⟨0, by omega, by simp (disch:=first|assumption|omega) only[go_sem,↓reduceIte,reduceIte], by simp (disch:=first|assumption|omega) only[lx,go_sem,↓reduceIte,Nat.reduceEqDiff,reduceIte], by simp (disch:=first|assumption|omega) only[go_sem,↓reduceIte,Nat.reduceEqDiff,reduceIte], by simp (disch:=first|assumption|omega) only[go_sem,↓reduceIte,Nat.reduceEqDiff,reduceIte]; rfl, by simp (disch:=first|assumption|omega) only[go_sem]; rfl⟩ ?_
      clear e11 e10 e9 e0 e3 eh
      rintro d S ⟨i, hi, e27, e26, e25, e6, eh⟩
      simp (disch:=first|assumption|omega) only[e27,e26,go_sem,↓reduceIte,reduceIte]
      refine condG_if (fun hlt => ?_) fun hge => ?_
      · have hlt1 : i < L.length := by omega
        have hlt2 : i < xs.length := by omega
        obtain ⟨p, hp, hxi⟩ := hx.at i hlt1
        have hp1 := hp.1
        have hs2 := congrArg List.length (lenSumC_take hlt1)
        have hle2 := @lenSumC_le L (i + 1)
        rw [List.length_append] at hs2
        have happ := flatC_app (A := (L.take i).flatten) (B := L[i]) (cap := cap) (by omega)
        simp (disch:=first|assumption|omega) only[e27,e26,e25,e6,eh,hlt2,hxi,aops_hop,hstep,srcH,srcW,flatC_srcH,go_sem,↓reduceIte,Nat.reduceEqDiff,Nat.reduceLeDiff,Nat.reduceLT,reduceIte,Int.reduceLT]
        have hLeq := lenSumC_take hlt1
        refine ⟨cellsA_width _, by omega, by omega, fun hz => ⟨d - 1, by omega, i + 1, by omega, by simp, by rw [hLeq, List.eq_nil_of_length_eq_zero hz, List.append_nil], by rw [hLeq, List.eq_nil_of_length_eq_zero hz, List.append_nil]⟩, fun hz hc => ⟨by rw [flatC_length, List.length_replicate]; omega, d - 1, by omega, i + 1, by omega, by simp, by rw [hLeq, List.length_append], by rw [happ, hLeq, List.length_append]⟩, fun hz hc => absurd hc (by omega)⟩
      · obtain rfl : i = L.length := by omega
        rw [List.take_length] at e6 eh
        simp only[e6,go_sem,↓reduceIte,Nat.reduceEqDiff,reduceIte]
        subst hQ
        simp only[R.slices_Concat_Cell,eh,go_sem,↓reduceIte,reduceIte]
        exact .inr ⟨cap, by intro e; rw [e] at hpos; simp at hpos, rfl, hcap, rfl⟩
end Go.Proofs.Ytpdajkbfemcdlaa
namespace Go.Proofs.Ytpdajkbfemcdlaa
open Go.Ge Go.Sort
theorem dedupA_cons2 (c d : Cell) (r : List Cell) : dedupA (c :: d :: r) = if c = d then dedupA (d :: r) else c :: dedupA (d :: r) := rfl
theorem dedupA_snoc (x y : Cell) : ∀ p : List Cell, dedupA (p ++ [x, y]) = if x = y then dedupA (p ++ [x]) else dedupA (p ++ [x]) ++ [y]
  | [] => by
    show dedupA [x, y] = if x = y then [x] else [x] ++ [y]
    rw [dedupA_cons2]
    split
    · rename_i h; rw [h]; rfl
    · rfl
  | [c] => by
    have ih := dedupA_snoc x y []
    show dedupA (c :: x :: [y]) = if x = y then dedupA (c :: [x]) else dedupA (c :: [x]) ++ [y]
    by_cases h1 : c = x <;> by_cases h2 : x = y <;> simp [h1, h2, dedupA]
  | c :: d :: r => by
    have ih := dedupA_snoc x y (d :: r)
    show dedupA (c :: d :: (r ++ [x, y])) = if x = y then dedupA (c :: d :: (r ++ [x])) else dedupA (c :: d :: (r ++ [x])) ++ [y]
    rw [dedupA_cons2, dedupA_cons2, show dedupA (d :: (r ++ [x, y])) = _ from ih]
    by_cases h1 : c = d <;> by_cases h2 : x = y <;> simp [h1, h2]
theorem dedupA_take {l : List Cell} {m : Nat} (h : m + 1 < l.length) : dedupA (l.take (m + 2)) = if l[m] = l[m + 1] then dedupA (l.take (m + 1)) else dedupA (l.take (m + 1)) ++ [l[m + 1]] := by
  have e1 : l.take (m + 1) = l.take m ++ [l[m]] := by rw [List.take_add_one, List.getElem?_eq_getElem (by omega)]; rfl
  have e2 : l.take (m + 2) = l.take m ++ [l[m], l[m + 1]] := by
    rw [List.take_add_one (i := m + 1), e1, List.getElem?_eq_getElem h, List.append_assoc]; rfl
  rw [e2, e1, dedupA_snoc]
theorem dedupA_take' {l : List Cell} {a b : Nat} (hb : b < l.length) (ha : a + 1 = b) : dedupA (l.take (b + 1)) = if l[a] = l[b] then dedupA (l.take b) else dedupA (l.take b) ++ [l[b]] := by
  subst ha
  exact dedupA_take hb
theorem set_take {X : List Cell} {K : Nat} (h : K < X.length) (c : Cell) : (X.set K c).take (K + 1) = X.take K ++ [c] := by
  rw [List.take_add_one, List.getElem?_set_self h, List.take_set, List.set_eq_of_length_le (by rw [List.length_take]; omega)]; rfl
theorem flatC_fill {D E : List Cell} {rest zs : List AVal} : fillV (flatC (D ++ E) ++ rest) (D.length * 2) zs = flatC D ++ (zs ++ (flatC (D ++ E) ++ rest).drop (D.length * 2 + zs.length)) := by
  unfold fillV
  rw [flatC_append, List.append_assoc (flatC D), flatC_take, List.append_assoc]
theorem repC_len2 (n : Nat) (a b : AVal) : (repC n [a, b]).length = n * 2 := by
  unfold repC
  simp [List.length_flatten]
theorem cell_dec (a b : Cell) : (decide (a.X = b.X) && decide (a.Y = b.Y)) = decide (a = b) := by
  cases a; cases b; simp only[Cell.mk.injEq]; rw [Bool.decide_and]
theorem CompactShort_ok (id off n cap : Nat) (hn : n < 2) (h : List HObj) :
    ACalls Try.prog F.slices_Compact_Cell [.ref id off n cap] h (fun v h' => v = .ref id off n cap ∧ h' = h) := by
  refine ACalls.of_aw Try.func206 K.slices_Compact_Cell (by simp [Try.f206]) ?_
  generalize hQ : retQ R.slices_Compact_Cell _ = Q
  simp only[C.slices_Compact_Cell,go_sem,↓reduceIte,reduceCtorEq,reduceIte]
  have h0 : (n : Int) < 2 := by omega
  simp only[h0,go_sem,↓reduceIte,reduceCtorEq,reduceIte]
  subst hQ
  simp only[R.slices_Compact_Cell,go_sem,↓reduceIte,reduceIte]
theorem Compact_ok (l : List Cell) (id cap : Nat) (rest : List AVal) (h : List HObj) (hid : h[id]? = some (.cells (flatC l ++ rest))) (hn : l.length ≤ 65536) (hc : l.length ≤ cap) :
    ACalls Try.prog F.slices_Compact_Cell [.ref id 0 l.length cap] h (fun v h' => v = .ref id 0 (dedupA l).length cap ∧ ∃ rest', rest'.length + (dedupA l).length * 2 = rest.length + l.length * 2 ∧ h' = h.set id (.cells (flatC (dedupA l) ++ rest'))) := by
  have hidl : id < h.length := (List.getElem?_eq_some_iff.1 hid).1
  by_cases hs : l.length < 2
  · refine ACalls.mono (CompactShort_ok id 0 l.length cap hs h) ?_
    rintro v h' ⟨rfl, rfl⟩
    have e : dedupA l = l := by
      match l, hs with
      | [], _ => rfl
      | [c], _ => rfl
      | _ :: _ :: _, h => simp at h; omega
    rw [e]
    exact ⟨rfl, rest, rfl, by rw [set_same hid]⟩
  have hget : ∀ z, (h.set id z)[id]? = some z := fun z => List.getElem?_set_self hidl
  have hl2 := flatC_length l
  refine ACalls.of_aw Try.func206 K.slices_Compact_Cell (by simp [Try.f206]) ?_
  generalize hQ : retQ R.slices_Compact_Cell _ = Q
  simp only[C.slices_Compact_Cell,go_sem,↓reduceIte,reduceCtorEq,reduceIte]
  have h0 : ¬((l.length : Int) < 2) := by omega
  simp only[h0,go_sem]
  refine aw_count (fun n S => ∃ (k : Nat), n = l.length - k ∧ k + 1 ≤ l.length ∧ S.env 3 = .int .i64 (k + 1 : Nat) ∧ S.env 0 = .ref id 0 l.length cap ∧ dedupA (l.take (k + 1)) = l.take (k + 1) ∧ S.heap = h) (n := l.length)
    ⟨0, by omega, by omega, by simp only[go_sem,↓reduceIte,reduceIte]; simp, by simp only[go_sem,↓reduceIte,reduceCtorEq,reduceIte], ?_, by simp only[go_sem]⟩ ?_
  · cases l with
    | nil => rfl
    | cons c l => rfl
  rintro n S ⟨k, rfl, hk, e3, e0, hdd, eh⟩
  by_cases hlt : ((k + 1 : Nat) : Int) < l.length
  · have q1 := flatC_get (l := l) (j := k + 1) (rest := rest) (by omega)
    have q2 := flatC_get (l := l) (j := k) (rest := rest) (by omega)
    have hk1 : (((k + 1 : Nat) : Int) - 1).toNat = k := by omega
    have hk2 : (((k + 1 : Nat) : Int)).toNat = k + 1 := by omega
    have hk3 : (0 : Int) ≤ ((k + 1 : Nat) : Int) - 1 := by omega
    have hk4 : ((k + 1 : Nat) : Int) - 1 < l.length := by omega
    have hll : (flatC l ++ rest).length = l.length * 2 + rest.length := by rw [List.length_append, flatC_length]
    simp (disch:=first|assumption|omega) only[e3,e0,eh,hlt,hid,q1,q2,hk1,hk2,hk3,hk4,hll,go_sem,↓reduceIte,Nat.reduceEqDiff,reduceCtorEq,Nat.reduceLeDiff,reduceIte]
    repeat (refine And.intro ?_ ?_; omega)
    rw [cell_dec]
    by_cases he : l[k + 1] = l[k]
    · have hdd2 : dedupA (l.take (k + 2)) = l.take (k + 1) := by rw [dedupA_take (by omega), if_pos he.symm, hdd]
      simp only[e3,e0,he,go_sem,↓reduceIte,Nat.reduceEqDiff,reduceCtorEq,reduceIte]
      refine ⟨⟨by omega, by omega⟩, ?_⟩
      refine aw_count (fun n S => ∃ (q : Nat) (X : List Cell), n = l.length - (k + 1 + (q + 1)) ∧ k + 1 + (q + 1) ≤ l.length ∧ X.length = l.length ∧ (dedupA (l.take (k + (q + 1) + 1))).length ≤ k + (q + 1) ∧ X.take (dedupA (l.take (k + (q + 1) + 1))).length = dedupA (l.take (k + (q + 1) + 1)) ∧ (∀ j, k + (q + 1) ≤ j → X[j]? = l[j]?) ∧ S.env 3 = .int .i64 (dedupA (l.take (k + (q + 1) + 1))).length ∧ S.env 5 = .int .i64 (q + 1 : Nat) ∧ S.env 4 = .ref id ((k + 1) * 2) (l.length - (k + 1)) (cap - (k + 1)) ∧ S.env 0 = .ref id 0 l.length cap ∧ S.heap = h.set id (.cells (flatC X ++ rest))) (n := l.length - (k + 1 + (0 + 1)))
        ⟨0, l, rfl, by omega, rfl, by rw [hdd2, List.length_take]; omega, by rw [hdd2]; simp, fun j _ => rfl, by rw [hdd2]; simp only[e3,go_sem,↓reduceIte,Nat.reduceEqDiff,reduceIte]; rw [List.length_take, Nat.min_eq_left hk], by simp only[go_sem,↓reduceIte,reduceIte]; simp, by simp only[go_sem,↓reduceIte,Nat.reduceEqDiff,reduceIte], by simp only[e0,go_sem,↓reduceIte,reduceCtorEq,reduceIte], by simp (disch:=first|assumption|omega) only[eh,go_sem]; rw [set_same hid]⟩ ?_
      clear e3 e0 eh q1 q2 hk1 hk2 hk3 hk4 hdd hdd2 he
      rintro n S ⟨q, X, rfl, hq, hX, hKm, hXK, hXl, e3, e5, e4, e0, eh⟩
      have hllX : (flatC X ++ rest).length = l.length * 2 + rest.length := by rw [List.length_append, flatC_length, hX]
      by_cases hlq : ((q + 1 : Nat) : Int) < ((l.length - (k + 1) : Nat) : Int)
      · have hlq2 : k + 1 + (q + 1) < l.length := by omega
        have hXa := hXl (k + 1 + (q + 1)) (by omega)
        have hXb := hXl (k + 1 + q) (by omega)
        rw [List.getElem?_eq_getElem (by omega), List.getElem?_eq_getElem hlq2, Option.some.injEq] at hXa
        rw [List.getElem?_eq_getElem (by omega), List.getElem?_eq_getElem (by omega), Option.some.injEq] at hXb
        have q1 := flatC_get (l := X) (j := k + 1 + (q + 1)) (rest := rest) (by omega)
        have q2 := flatC_get (l := X) (j := k + 1 + q) (rest := rest) (by omega)
        rw [hXa, show (k + 1 + (q + 1)) * 2 = (k + 1) * 2 + (q + 1) * 2 by omega] at q1
        rw [hXb, show (k + 1 + q) * 2 = (k + 1) * 2 + q * 2 by omega] at q2
        have hk1 : (((q + 1 : Nat) : Int) - 1).toNat = q := by omega
        have hk2 : (((q + 1 : Nat) : Int)).toNat = q + 1 := by omega
        have hk3 : (0 : Int) ≤ ((q + 1 : Nat) : Int) - 1 := by omega
        have hk4 : ((q + 1 : Nat) : Int) - 1 < ((l.length - (k + 1) : Nat) : Int) := by omega
        have hstep2 : dedupA (l.take (k + (q + 1 + 1) + 1)) = if l[k + 1 + q] = l[k + 1 + (q + 1)] then dedupA (l.take (k + (q + 1) + 1)) else dedupA (l.take (k + (q + 1) + 1)) ++ [l[k + 1 + (q + 1)]] := by
          have := dedupA_take' (l := l) (a := k + 1 + q) (b := k + 1 + (q + 1)) hlq2 (by omega)
          rw [show k + (q + 1 + 1) + 1 = k + 1 + (q + 1) + 1 by omega, show k + (q + 1) + 1 = k + 1 + (q + 1) by omega]
          exact this
        generalize hD : dedupA (l.take (k + (q + 1) + 1)) = D at *
        simp (disch:=first|assumption|omega) only[e5,e4,eh,hlq,hget,hllX,q1,q2,hk1,hk2,hk3,hk4,go_sem,↓reduceIte,Nat.reduceEqDiff,Nat.reduceLeDiff,reduceIte]
        repeat (refine And.intro ?_ ?_; omega)
        rw [cell_dec]
        by_cases he : l[k + 1 + (q + 1)] = l[k + 1 + q]
        · rw [if_pos he.symm] at hstep2
          simp (disch:=first|assumption|omega) only[e3,e5,e4,e0,eh,he,go_sem,↓reduceIte,Nat.reduceEqDiff,reduceCtorEq,reduceIte]
          exact ⟨l.length - (k + 1 + (q + 1 + 1)), by omega, q + 1, X, rfl, by omega, hX, by rw [hstep2]; omega, by rw [hstep2]; exact hXK, fun j hj => hXl j (by omega), by rw [hstep2], by simp, rfl⟩
        · rw [if_neg (fun e => he e.symm)] at hstep2
          have s1 := flatC_set (l := X) (j := D.length) (rest := rest) (c := l[k + 1 + (q + 1)]) (by omega)
          simp (disch:=first|assumption|omega) only[e3,e5,e4,e0,eh,he,hget,hllX,q1,hk2,s1,hlq,List.set_set,go_sem,↓reduceIte,Nat.reduceEqDiff,reduceCtorEq,Nat.reduceAdd,Nat.reduceLeDiff,reduceIte,Int.reduceAdd]
          repeat (refine And.intro ?_ ?_; omega)
          exact ⟨l.length - (k + 1 + (q + 1 + 1)), by omega, q + 1, X.set D.length l[k + 1 + (q + 1)], rfl, by omega, by simp [hX], by rw [hstep2]; simp; omega, by rw [hstep2, List.length_append, List.length_singleton, set_take (by omega), hXK], fun j hj => by rw [List.getElem?_set_ne (by omega)]; exact hXl j (by omega), by rw [hstep2]; simp, by simp, rfl⟩
      · generalize hD : dedupA (l.take (k + (q + 1) + 1)) = D at *
        have hkq : k + (q + 1) + 1 = l.length := by omega
        rw [hkq, List.take_length] at hD
        have hXs : X = D ++ X.drop D.length := by rw [← hXK]; rw [List.length_take]; rw [Nat.min_eq_left (by omega)]; exact (List.take_append_drop _ _).symm
        simp only[e3,e5,e4,e0,eh,hlq,hget,hllX,aops_hop,hstep,go_sem,↓reduceIte,Nat.reduceEqDiff,reduceCtorEq,reduceIte,Int.reduceLE]
        refine ⟨⟨by omega, by omega⟩, fun hz => ⟨by omega, ?_⟩, fun hz => ⟨by omega, by omega, ?_⟩⟩
        · subst hQ
          simp only[R.slices_Compact_Cell,eh,go_sem,↓reduceIte,reduceIte]
          rw [hD]
          exact ⟨rfl, flatC (X.drop D.length) ++ rest, by rw [List.length_append, flatC_length, List.length_drop]; omega, by rw [← List.append_assoc, ← flatC_append, ← hXs]⟩
        · subst hQ
          simp only[R.slices_Compact_Cell,List.set_set,go_sem,↓reduceIte,reduceIte]
          rw [hD]
          refine ⟨rfl, repC (l.length - D.length) [.int .i64 0, .int .i64 0] ++ (flatC X ++ rest).drop (D.length * 2 + (repC (l.length - D.length) [AVal.int .i64 0, .int .i64 0]).length), ?_, ?_⟩
          · rw [List.length_append, List.length_drop, repC_len2, hllX]; omega
          · rw [hXs, ← flatC_fill]
    · simp (disch:=first|assumption|omega) only[e3,e0,eh,he,go_sem,↓reduceIte,Nat.reduceEqDiff,reduceCtorEq,reduceIte]
      have hdd2 : dedupA (l.take (k + 2)) = l.take (k + 2) := by
        rw [dedupA_take (by omega), if_neg (fun e => he e.symm), hdd, List.take_add_one (i := k + 1), List.getElem?_eq_getElem (by omega)]; rfl
      exact ⟨l.length - (k + 1), by omega, k + 1, rfl, by omega, by simp, hdd2⟩
  · simp only[e3,e0,hlt,go_sem,↓reduceIte,Nat.reduceEqDiff,reduceCtorEq,reduceIte]
    subst hQ
    simp only[R.slices_Compact_Cell,eh,go_sem,↓reduceIte,reduceIte]
    have hkl : k + 1 = l.length := by omega
    rw [hkl, List.take_length] at hdd
    rw [hdd]
    exact ⟨rfl, rest, rfl, by rw [set_same hid]⟩
end Go.Proofs.Ytpdajkbfemcdlaa
namespace Go.Proofs.Ytpdajkbfemcdlaa
open Go.Ge Go.Sort
def PredOk (g : Nat) (caps : List AVal) (p : Cell → Bool) (Inv : List HObj → Prop) : Prop := ∀ c h, Inv h → ACalls Try.prog g ([cellA c] ++ caps.map Ge.rdc) h (fun v h' => v = .bool (p c) ∧ h' = h)
def FoundC (p : Cell → Bool) (l : List Cell) (v : AVal) : Prop := (∃ (i : Nat) (hi : i < l.length), v = .int .i64 i ∧ p l[i] = true ∧ ∀ c ∈ l.take i, p c = false) ∨ (v = .int .i64 (-1) ∧ ∀ c ∈ l, p c = false)
theorem take_all_snoc {p : Cell → Bool} {l : List Cell} {i : Nat} (hi : i < l.length) (h : ∀ c ∈ l.take i, p c = false) (hc : p l[i] = false) : ∀ c ∈ l.take (i + 1), p c = false := by
  intro c hm
  rw [List.take_add_one, List.getElem?_eq_getElem hi] at hm
  rcases List.mem_append.1 hm with hm | hm
  · exact h c hm
  · simp only[Option.toList,List.mem_singleton] at hm
    rw [hm]; exact hc
theorem IndexFuncR_ok (g : Nat) (caps : List AVal) (p : Cell → Bool) (Inv : List HObj → Prop) (hp : PredOk g caps p Inv) (l : List Cell) (id cap : Nat) (rest : List AVal) (h : List HObj) (hid : h[id]? = some (.cells (flatC l ++ rest))) (hI : Inv h) (hn : l.length ≤ 65536) :
    ACalls Try.prog F.slices_IndexFunc_Cell [.ref id 0 l.length cap, .func g caps] h (fun v h' => FoundC p l v ∧ h' = h) := by
  have hll : (flatC l ++ rest).length = l.length * 2 + rest.length := by rw [List.length_append, flatC_length]
  refine ACalls.of_aw Try.func207 K.slices_IndexFunc_Cell (by simp [Try.f207]) ?_
  generalize hQ : retQ R.slices_IndexFunc_Cell _ = Q
  simp only[C.slices_IndexFunc_Cell,go_sem,↓reduceIte,reduceCtorEq,reduceIte,Int.reduceNeg]
  refine aw_count (fun n S => ∃ (i : Nat), i + n = l.length ∧ S.env 8 = .int .i64 i ∧ S.env 7 = .int .i64 l.length ∧ S.env 0 = .ref id 0 l.length cap ∧ S.env 1 = .func g caps ∧ (∀ c ∈ l.take i, p c = false) ∧ S.heap = h) (n := l.length) ⟨0, by omega, by simp only[go_sem,↓reduceIte,reduceIte], by simp only[go_sem,↓reduceIte,Nat.reduceEqDiff,reduceIte], by simp only[go_sem,↓reduceIte,reduceCtorEq,reduceIte], by simp only[go_sem,↓reduceIte,Nat.reduceEqDiff,reduceIte], by simp, by simp only[go_sem]⟩ ?_
  rintro n S ⟨i, hi, e8, e7, e0, e1, hall, eh⟩
  by_cases hlt : (i : Int) < l.length
  · have q1 := flatC_get (l := l) (j := i) (rest := rest) (by omega)
    simp only[e8,e7,e0,e1,eh,hlt,hid,q1,hll,go_sem,↓reduceIte,Nat.reduceEqDiff,reduceCtorEq,Nat.reduceLeDiff,reduceIte,Int.reduceNeg]
    repeat (refine And.intro ?_ ?_; omega)
    refine callvqG_ok (hp l[i] _ (by simp only[eh,go_sem]; exact hI)) (by simp only[go_sem]) ?_
    rintro _ _ ⟨rfl, hhh⟩
    rw [hhh]
    clear hhh
    refine ⟨rfl, ?_⟩
    by_cases hx : p l[i] = true
    · simp (disch:=first|assumption|omega) only[hx,go_sem,↓reduceIte,Nat.reduceEqDiff,reduceIte,Int.reduceNeg]
      subst hQ
      simp (disch:=first|assumption|omega) only[R.slices_IndexFunc_Cell,eh,go_sem,↓reduceIte,reduceIte]
      exact .inl ⟨i, by omega, rfl, hx, hall⟩
    · have hx : p l[i] = false := by simpa using hx
      simp (disch:=first|assumption|omega) only[e8,e7,e0,e1,eh,hx,go_sem,↓reduceIte,Nat.reduceEqDiff,reduceCtorEq,reduceIte,Int.reduceNeg]
      exact ⟨n - 1, by omega, i + 1, by omega, by simp, take_all_snoc (by omega) hall hx⟩
  · have hil : i = l.length := by omega
    rw [hil, List.take_length] at hall
    simp (disch:=first|assumption|omega) only[e8,e7,hlt,go_sem,↓reduceIte,reduceIte,Int.reduceNeg]
    subst hQ
    simp (disch:=first|assumption|omega) only[R.slices_IndexFunc_Cell,eh,go_sem,↓reduceIte,reduceIte,Int.reduceNeg]
    exact .inr ⟨rfl, hall⟩
theorem IndexFuncV_ok (g : Nat) (caps : List AVal) (p : Cell → Bool) (Inv : List HObj → Prop) (hp : PredOk g caps p Inv) (o : Own) (l : List Cell) (ho : Rdo o) (h : List HObj) (hI : Inv h) (hn : l.length < 4611686018427387904) :
    ACalls Try.prog F.slices_IndexFunc_Cell [.lst o (cellsA l), .func g caps] h (fun v h' => FoundC p l v ∧ h' = h) := by
  refine ACalls.of_aw Try.func207 K.slices_IndexFunc_Cell (by simp [Try.f207]) ?_
  generalize hQ : retQ R.slices_IndexFunc_Cell _ = Q
  simp (disch:=first|assumption|omega) only[C.slices_IndexFunc_Cell,go_sem,↓reduceIte,reduceCtorEq,reduceIte,Int.reduceNeg]
  refine aw_count (fun n S => ∃ (i : Nat), i + n = l.length ∧ S.env 8 = .int .i64 i ∧ S.env 7 = .int .i64 l.length ∧ S.env 0 = .lst o (cellsA l) ∧ S.env 1 = .func g caps ∧ (∀ c ∈ l.take i, p c = false) ∧ S.heap = h) (n := l.length) ⟨0, by omega, by simp (disch:=first|assumption|omega) only[go_sem,↓reduceIte,reduceIte], by simp (disch:=first|assumption|omega) only[go_sem,↓reduceIte,Nat.reduceEqDiff,reduceIte], by simp (disch:=first|assumption|omega) only[go_sem,↓reduceIte,reduceCtorEq,reduceIte], by simp (disch:=first|assumption|omega) only[go_sem,↓reduceIte,Nat.reduceEqDiff,reduceIte], by simp, by simp (disch:=first|assumption|omega) only[go_sem]⟩ ?_
  rintro n S ⟨i, hi, e8, e7, e0, e1, hall, eh⟩
  by_cases hlt : (i : Int) < l.length
  · have q1 := at_cells (l := l) (i := i) (by omega)
    have hi2 : i < l.length := by omega
    simp (disch:=first|assumption|omega) only[e8,e7,e0,e1,hlt,q1,cellA,go_sem,↓reduceIte,Nat.reduceEqDiff,reduceCtorEq,Nat.reduceAdd,Nat.reduceLeDiff,reduceIte,Int.reduceAdd,Int.reduceNeg]
    repeat (refine And.intro ?_ ?_; omega)
    refine callvqG_ok (hp l[i] _ (by simp (disch:=first|assumption|omega) only[eh,go_sem]; exact hI)) (by simp (disch:=first|assumption|omega) only[go_sem]) ?_
    rintro _ _ ⟨rfl, hhh⟩
    rw [hhh]
    clear hhh
    refine ⟨rfl, ?_⟩
    by_cases hx : p l[i] = true
    · simp only[hx,go_sem,↓reduceIte,Nat.reduceEqDiff,reduceIte,Int.reduceNeg]
      subst hQ
      simp only[R.slices_IndexFunc_Cell,eh,go_sem,↓reduceIte,reduceIte]
      exact .inl ⟨i, by omega, rfl, hx, hall⟩
    · have hx : p l[i] = false := by simpa using hx
      simp (disch:=first|assumption|omega) only[e8,e7,e0,e1,eh,hx,go_sem,↓reduceIte,Nat.reduceEqDiff,reduceCtorEq,reduceIte,Int.reduceNeg]
      exact ⟨n - 1, by omega, i + 1, by omega, by simp, take_all_snoc (by omega) hall hx⟩
  · have hil : i = l.length := by omega
    rw [hil, List.take_length] at hall
    simp only[e8,e7,hlt,go_sem,↓reduceIte,reduceIte,Int.reduceNeg]
    subst hQ
    simp only[R.slices_IndexFunc_Cell,eh,go_sem,↓reduceIte,reduceIte,Int.reduceNeg]
    exact .inr ⟨rfl, hall⟩
theorem ContainsFunc_ok (g : Nat) (caps : List AVal) (p : Cell → Bool) (Inv : List HObj → Prop) (hp : PredOk g caps p Inv) (o : Own) (l : List Cell) (ho : Rdo o) (h : List HObj) (hI : Inv h) (hn : l.length < 4611686018427387904) :
    ACalls Try.prog F.slices_ContainsFunc_Cell [.lst o (cellsA l), .func g caps] h (fun v h' => v = .bool (l.any p) ∧ h' = h) := by
  refine ACalls.of_aw Try.func195 K.slices_ContainsFunc_Cell (by simp [Try.f195]) ?_
  generalize hQ : retQ R.slices_ContainsFunc_Cell _ = Q
  simp (disch:=first|assumption|omega) only[C.slices_ContainsFunc_Cell,go_sem,↓reduceIte,Nat.reduceEqDiff,reduceCtorEq,reduceIte]
  refine callG_ok (IndexFuncV_ok g caps p Inv hp o l ho _ (by simp (disch:=first|assumption|omega) only[go_sem]; exact hI) hn) (by simp (disch:=first|assumption|omega) only[go_sem]) ?_
  rintro v _ ⟨hv, hhh⟩
  rw [hhh]
  clear hhh
  rcases hv with ⟨i, hi, rfl, hx, _⟩ | ⟨rfl, hx⟩
  · have h0 : (0 : Int) ≤ (i : Int) := by omega
    simp only[h0,go_sem,↓reduceIte,reduceIte]
    subst hQ
    simp only[R.slices_ContainsFunc_Cell,go_sem,↓reduceIte,reduceIte]
    rw [List.any_eq_true.2 ⟨l[i], List.getElem_mem hi, hx⟩]
  · simp only[go_sem,↓reduceIte,reduceIte,Int.reduceLE,Int.reduceNeg]
    subst hQ
    simp only[R.slices_ContainsFunc_Cell,go_sem,↓reduceIte,reduceIte,Int.reduceNeg]
    rw [List.any_eq_false.2 (fun c hc => by simp [hx c hc])]
end Go.Proofs.Ytpdajkbfemcdlaa
namespace Go.Proofs.Ytpdajkbfemcdlaa
open Go.Ge Go.Sort
theorem filter_none {p : Cell → Bool} {l : List Cell} (h : ∀ c ∈ l, p c = false) : l.filter (fun c => !p c) = l := by
  rw [List.filter_eq_self]; intro c hc; simp [h c hc]
theorem filter_take_snoc {p : Cell → Bool} {l : List Cell} {i : Nat} (hi : i < l.length) : (l.take (i + 1)).filter (fun c => !p c) = if p l[i] = true then (l.take i).filter (fun c => !p c) else (l.take i).filter (fun c => !p c) ++ [l[i]] := by
  rw [List.take_add_one, List.getElem?_eq_getElem hi, List.filter_append]
  by_cases h : p l[i] = true <;> simp [h]
theorem DeleteShort_ok (g : Nat) (caps : List AVal) (id off cap : Nat) (h : List HObj) :
    ACalls Try.prog F.slices_IndexFunc_Cell [.ref id off 0 cap, .func g caps] h (fun v h' => v = .int .i64 (-1) ∧ h' = h) := by
  refine ACalls.of_aw Try.func207 K.slices_IndexFunc_Cell (by simp [Try.f207]) ?_
  generalize hQ : retQ R.slices_IndexFunc_Cell _ = Q
  simp only[C.slices_IndexFunc_Cell,go_sem,↓reduceIte,reduceCtorEq,reduceIte,Int.reduceNeg]
  refine aw_count (fun n S => S.env 8 = .int .i64 0 ∧ S.env 7 = .int .i64 0 ∧ S.heap = h) (n := 0) ⟨by simp only[go_sem,↓reduceIte,reduceIte], by simp only[go_sem,↓reduceIte,Nat.reduceEqDiff,reduceIte], by simp only[go_sem]⟩ ?_
  rintro n S ⟨e8, e7, eh⟩
  simp only[e8,e7,go_sem,↓reduceIte,Nat.reduceLT,reduceIte,Int.reduceLT,Int.reduceNeg]
  subst hQ
  simp only[R.slices_IndexFunc_Cell,eh,go_sem,↓reduceIte,reduceIte,Int.reduceNeg]
theorem DeleteNone_ok (g : Nat) (caps : List AVal) (id off cap : Nat) (h : List HObj) :
    ACalls Try.prog F.slices_DeleteFunc_Cell [.ref id off 0 cap, .func g caps] h (fun v h' => v = .ref id off 0 cap ∧ h' = h) := by
  refine ACalls.of_aw Try.func183 K.slices_DeleteFunc_Cell (by simp [Try.f183]) ?_
  generalize hQ : retQ R.slices_DeleteFunc_Cell _ = Q
  simp only[C.slices_DeleteFunc_Cell,go_sem,↓reduceIte,Nat.reduceEqDiff,reduceCtorEq,reduceIte,Int.reduceNeg]
  refine callG_ok (DeleteShort_ok g caps id off cap _) (by simp only[go_sem]) ?_
  rintro _ _ ⟨rfl, hhh⟩
  rw [hhh]
  clear hhh
  simp only[go_sem,↓reduceIte,reduceCtorEq,reduceIte,Int.reduceNeg]
  subst hQ
  simp only[R.slices_DeleteFunc_Cell,go_sem,↓reduceIte,reduceIte,Int.reduceNeg]
theorem DeleteFunc_ok (g : Nat) (caps : List AVal) (p : Cell → Bool) (Inv : List HObj → Prop) (hp : PredOk g caps p Inv) (l : List Cell) (id cap : Nat) (rest : List AVal) (h : List HObj) (hid : h[id]? = some (.cells (flatC l ++ rest))) (hI : ∀ z, Inv (h.set id z)) (hn : l.length ≤ 65536) (hc : l.length ≤ cap) :
    ACalls Try.prog F.slices_DeleteFunc_Cell [.ref id 0 l.length cap, .func g caps] h (fun v h' => v = .ref id 0 (l.filter (fun c => !p c)).length cap ∧ ∃ rest', rest'.length + (l.filter (fun c => !p c)).length * 2 = rest.length + l.length * 2 ∧ h' = h.set id (.cells (flatC (l.filter (fun c => !p c)) ++ rest'))) := by
  have hidl : id < h.length := (List.getElem?_eq_some_iff.1 hid).1
  have hIh : Inv h := by have := hI (.cells (flatC l ++ rest)); rwa [set_same hid] at this
  have hget : ∀ z, (h.set id z)[id]? = some z := fun z => List.getElem?_set_self hidl
  refine ACalls.of_aw Try.func183 K.slices_DeleteFunc_Cell (by simp [Try.f183]) ?_
  generalize hQ : retQ R.slices_DeleteFunc_Cell _ = Q
  simp only[C.slices_DeleteFunc_Cell,go_sem,↓reduceIte,Nat.reduceEqDiff,reduceCtorEq,reduceIte,Int.reduceNeg]
  refine callG_ok (IndexFuncR_ok g caps p Inv hp l id cap rest _ (by simp only[hid,go_sem]) (by simp only[go_sem]; exact hIh) hn) (by simp only[go_sem]) ?_
  rintro v _ ⟨hv, hhh⟩
  rw [hhh]
  clear hhh
  rcases hv with ⟨i0, hi0, rfl, hx0, hall0⟩ | ⟨rfl, hall0⟩
  · have h1 : ¬ ((i0 : Int) = -1) := by omega
    have hf1 : (l.take (i0 + 1)).filter (fun c => !p c) = l.take i0 := by
      rw [filter_take_snoc hi0, if_pos hx0]
      exact filter_none hall0
    simp only[h1,go_sem,↓reduceIte,Nat.reduceEqDiff,reduceIte,Int.reduceNeg]
    refine aw_count (fun n S => ∃ (j : Nat) (X : List Cell), n = l.length - (j + 1) ∧ j + 1 ≤ l.length ∧ X.length = l.length ∧ ((l.take (j + 1)).filter (fun c => !p c)).length ≤ j ∧ X.take ((l.take (j + 1)).filter (fun c => !p c)).length = (l.take (j + 1)).filter (fun c => !p c) ∧ (∀ m, j + 1 ≤ m → X[m]? = l[m]?) ∧ S.env 5 = .int .i64 ((l.take (j + 1)).filter (fun c => !p c)).length ∧ S.env 6 = .int .i64 (j + 1 : Nat) ∧ S.env 0 = .ref id 0 l.length cap ∧ S.env 1 = .func g caps ∧ S.heap = h.set id (.cells (flatC X ++ rest))) (n := l.length - (i0 + 1))
      ⟨i0, l, rfl, by omega, rfl, by rw [hf1, List.length_take]; omega, by rw [hf1]; simp, fun m _ => rfl, by rw [hf1]; simp only[go_sem,↓reduceIte,Nat.reduceEqDiff,reduceIte]; rw [List.length_take, Nat.min_eq_left (by omega)], by simp (disch:=first|assumption|omega) only[go_sem,↓reduceIte,reduceIte]; simp, by simp (disch:=first|assumption|omega) only[go_sem,↓reduceIte,reduceCtorEq,reduceIte], by simp (disch:=first|assumption|omega) only[go_sem,↓reduceIte,Nat.reduceEqDiff,reduceIte], by simp (disch:=first|assumption|omega) only[go_sem]; rw [set_same hid]⟩ ?_
    rintro n S ⟨j, X, rfl, hj, hX, hKm, hXK, hXl, e5, e6, e0, e1, eh⟩
    have hllX : (flatC X ++ rest).length = l.length * 2 + rest.length := by rw [List.length_append, flatC_length, hX]
    by_cases hlt : ((j + 1 : Nat) : Int) < l.length
    · have hXa := hXl (j + 1) (by omega)
      rw [List.getElem?_eq_getElem (by omega), List.getElem?_eq_getElem (by omega), Option.some.injEq] at hXa
      have q1 := flatC_get (l := X) (j := j + 1) (rest := rest) (by omega)
      rw [hXa] at q1
      have hk2 : (((j + 1 : Nat) : Int)).toNat = j + 1 := by omega
      have hst := filter_take_snoc (p := p) (l := l) (i := j + 1) (by omega)
      generalize hD : (l.take (j + 1)).filter (fun c => !p c) = D at *
      simp only[e6,e0,e1,eh,hlt,hget,hllX,q1,hk2,go_sem,↓reduceIte,Nat.reduceEqDiff,reduceCtorEq,Nat.reduceAdd,Nat.reduceLeDiff,reduceIte,Int.reduceAdd]
      repeat (refine And.intro ?_ ?_; omega)
      refine callvqG_ok (hp l[j + 1] _ (by simp only[eh,go_sem]; exact hI _)) (by simp (disch:=first|assumption|omega) only[go_sem]) ?_
      rintro _ _ ⟨rfl, hhh⟩
      rw [hhh]
      clear hhh
      refine ⟨rfl, ?_⟩
      by_cases hx : p l[j + 1] = true
      · rw [if_pos hx] at hst
        simp (disch:=first|assumption|omega) only[e5,e6,e0,e1,eh,hx,drV_ref,go_sem,↓reduceIte,Nat.reduceEqDiff,reduceCtorEq,reduceIte]
        exact ⟨l.length - (j + 1 + 1), by omega, j + 1, X, rfl, by omega, hX, by rw [hst]; omega, by rw [hst]; exact hXK, fun m hm => hXl m (by omega), by rw [hst], by simp, rfl⟩
      · rw [if_neg hx] at hst
        have hx : p l[j + 1] = false := by simpa using hx
        have s1 := flatC_set (l := X) (j := D.length) (rest := rest) (c := l[j + 1]) (by omega)
        simp (disch:=first|assumption|omega) only[e5,e6,e0,e1,eh,hx,hget,hllX,s1,List.set_set,drV_ref,go_sem,↓reduceIte,Nat.reduceEqDiff,reduceCtorEq,Nat.reduceAdd,Nat.reduceLeDiff,reduceIte,Int.reduceAdd]
        repeat (refine And.intro ?_ ?_; omega)
        exact ⟨l.length - (j + 1 + 1), by omega, j + 1, X.set D.length l[j + 1], rfl, by omega, by simp [hX], by rw [hst]; simp; omega, by rw [hst, List.length_append, List.length_singleton, set_take (by omega), hXK], fun m hm => by rw [List.getElem?_set_ne (by omega)]; exact hXl m (by omega), by rw [hst]; simp, by simp, rfl⟩
    · generalize hD : (l.take (j + 1)).filter (fun c => !p c) = D at *
      have hkq : j + 1 = l.length := by omega
      rw [hkq, List.take_length] at hD
      have hXs : X = D ++ X.drop D.length := by rw [← hXK]; rw [List.length_take]; rw [Nat.min_eq_left (by omega)]; exact (List.take_append_drop _ _).symm
      simp only[e5,e6,e0,eh,hlt,hget,hllX,aops_hop,hstep,go_sem,↓reduceIte,Nat.reduceEqDiff,reduceCtorEq,reduceIte,Int.reduceLE]
      refine ⟨⟨by omega, by omega⟩, fun hz => ⟨by omega, ?_⟩, fun hz => ⟨by omega, by omega, ?_⟩⟩
      · subst hQ
        simp only[R.slices_DeleteFunc_Cell,eh,go_sem,↓reduceIte,reduceIte]
        rw [hD]
        exact ⟨rfl, flatC (X.drop D.length) ++ rest, by rw [List.length_append, flatC_length, List.length_drop]; omega, by rw [← List.append_assoc, ← flatC_append, ← hXs]⟩
      · subst hQ
        simp only[R.slices_DeleteFunc_Cell,List.set_set,go_sem,↓reduceIte,reduceIte]
        rw [hD]
        refine ⟨rfl, repC (l.length - D.length) [.int .i64 0, .int .i64 0] ++ (flatC X ++ rest).drop (D.length * 2 + (repC (l.length - D.length) [AVal.int .i64 0, .int .i64 0]).length), ?_, ?_⟩
        · rw [List.length_append, List.length_drop, repC_len2, hllX]; omega
        · rw [hXs, ← flatC_fill]
  · simp only[go_sem,↓reduceIte,reduceCtorEq,reduceIte,Int.reduceNeg]
    subst hQ
    simp only[R.slices_DeleteFunc_Cell,go_sem,↓reduceIte,reduceIte,Int.reduceNeg]
    rw [filter_none hall0]
    exact ⟨rfl, rest, rfl, by rw [set_same hid]⟩
end Go.Proofs.Ytpdajkbfemcdlaa
namespace Go.Proofs.Ytpdajkbfemcdlaa
open Go.Ge Go.Sort
theorem orderC_neg (a b : Cell) : orderC a b < 0 ↔ cellLt a b := by
  have := orderC_lt a b
  by_cases h : cellLt a b
  · simp only[h,not_true,iff_false,ge_iff_le,Int.not_le] at this; simp [h, this]
  · simp only[h,not_false_iff,iff_true,ge_iff_le] at this; simp [h]; omega
theorem up_at {l : List Cell} (h : Up l) {i j : Nat} (hi : i < j) (hj : j < l.length) : cellLt l[i] l[j] := List.pairwise_iff_getElem.1 h i j (by omega) hj hi
theorem BinarySearch_ok (o : Own) (l : List Cell) (c : Cell) (ho : Rdo o) (hu : Up l) (hn : l.length ≤ 65536) (h : List HObj) :
    ACalls Try.prog F.slices_BinarySearchFunc_Cell [.lst o (cellsA l), cellA c, .func F.grid_order []] h (fun v h' => (∃ i, v = .tup [.int .i64 i, .bool (decide (c ∈ l))]) ∧ h' = h) := by
  have hcf : CmpOk F.grid_order orderC := fun a b h => order_ok a b h
  refine ACalls.of_aw Try.func208 K.slices_BinarySearchFunc_Cell (by simp [Try.f208]) ?_
  generalize hQ : retQ R.slices_BinarySearchFunc_Cell _ = Q
  simp (disch:=first|assumption|omega) only[C.slices_BinarySearchFunc_Cell,go_sem,↓reduceIte,Nat.reduceEqDiff,reduceCtorEq,reduceIte]
  simp (disch:=first|assumption|omega) only[cellA,go_sem]
  refine aw_count (fun n S => ∃ (i j : Nat), n = j - i ∧ i ≤ j ∧ j ≤ l.length ∧ (∀ m (hm : m < l.length), m < i → cellLt l[m] c) ∧ (∀ m (hm : m < l.length), j ≤ m → ¬cellLt l[m] c) ∧ S.env 9 = .int .i64 i ∧ S.env 10 = .int .i64 j ∧ S.env 8 = .int .i64 l.length ∧ S.env 0 = .lst o (cellsA l) ∧ S.env 2 = .func F.grid_order [] ∧ S.env 4 = .box 4 0 ∧ S.boxes 4 = some [.int .i64 c.X, .int .i64 c.Y] ∧ S.heap = h) (n := l.length)
    ⟨0, l.length, rfl, by omega, by omega, fun m _ h => by omega, fun m _ h => by omega, by simp (disch:=first|assumption|omega) only[go_sem,↓reduceIte,Nat.reduceEqDiff,reduceIte], by simp (disch:=first|assumption|omega) only[go_sem,↓reduceIte,reduceIte], by simp (disch:=first|assumption|omega) only[go_sem,↓reduceIte,Nat.reduceEqDiff,reduceIte], by simp (disch:=first|assumption|omega) only[go_sem,↓reduceIte,reduceCtorEq,reduceIte], by simp (disch:=first|assumption|omega) only[go_sem,↓reduceIte,Nat.reduceEqDiff,reduceIte], by simp (disch:=first|assumption|omega) only[go_sem,↓reduceIte,Nat.reduceEqDiff,reduceIte], by simp (disch:=first|assumption|omega) only[go_sem,↓reduceIte,reduceIte], by simp (disch:=first|assumption|omega) only[go_sem]⟩ ?_
  rintro n S ⟨i, j, rfl, hij, hj, hlo, hhi, e9, e10, e8, e0, e2, e4, eb, eh⟩
  by_cases hlt : (i : Int) < j
  · have hh : IntKind.i64.wrap (((i : Int) + j).fdiv (2 ^ min (Int.toNat 1) 64)) = (((i + j) / 2 : Nat) : Int) := by
      rw [show ((2 : Int) ^ min (Int.toNat 1) 64) = 2 from rfl, Int.fdiv_eq_ediv_of_nonneg _ (by omega)]
      rw [wrapI64 (by omega) (by omega)]; omega
    generalize hm : (i + j) / 2 = m at hh
    have hml : m < l.length := by omega
    have q1 := at_cells (l := l) (i := m) hml
    have hmz : (m : Int) < l.length := by omega
    simp (disch:=first|assumption|omega) only[e9,e10,e0,e2,e4,eb,hlt,cellA,hh,q1,hmz,go_sem,↓reduceIte,Nat.reduceEqDiff,reduceCtorEq,Nat.reduceAdd,Nat.reduceLeDiff,reduceIte,Int.reduceLE,Int.reduceAdd]
    refine callvqG_ok (hcf l[m] c _) (by simp (disch:=first|assumption|omega) only[go_sem]) ?_
    rintro _ _ ⟨rfl, hhh⟩
    rw [hhh]
    clear hhh
    refine ⟨rfl, ?_⟩
    by_cases hx : orderC l[m] c < 0
    · have hx2 := (orderC_neg _ _).1 hx
      simp (disch:=first|assumption|omega) only[e10,e8,e0,e2,e4,eb,eh,hx,go_sem,↓reduceIte,Nat.reduceEqDiff,reduceCtorEq,reduceIte]
      exact ⟨j - (m + 1), by omega, m + 1, j, rfl, by omega, hj, fun k hk hkm => by
        rcases Nat.lt_or_eq_of_le (Nat.le_of_lt_succ hkm) with h1 | rfl
        · exact cellLt_trans (up_at hu h1 hml) hx2
        · exact hx2, hhi, by simp, rfl⟩
    · have hx2 := fun e => hx ((orderC_neg _ _).2 e)
      simp only[e9,e8,e0,e2,e4,eb,eh,hx,go_sem,↓reduceIte,Nat.reduceEqDiff,reduceCtorEq,reduceIte]
      exact ⟨m - i, by omega, i, m, rfl, by omega, by omega, hlo, fun k hk hkm e => by
        rcases Nat.lt_or_eq_of_le hkm with h1 | rfl
        · exact hx2 (cellLt_trans (up_at hu h1 hk) e)
        · exact hx2 e, rfl, rfl⟩
  · have hij2 : i = j := by omega
    subst hij2
    have hmem : ∀ (hi : i < l.length), c ∈ l ↔ l[i] = c := fun hi => by
      constructor
      · intro hc
        obtain ⟨m, hm, rfl⟩ := List.mem_iff_getElem.1 hc
        have h1 : ¬ m < i := fun h => cellLt_irrefl _ (hlo m hm h)
        rcases Nat.lt_or_eq_of_le (Nat.le_of_not_lt h1) with h2 | rfl
        · exact absurd (up_at hu h2 hm) (hhi i hi (Nat.le_refl _))
        · rfl
      · rintro rfl; exact List.getElem_mem hi
    have hnm : ¬ i < l.length → c ∉ l := fun hi hc => by
      obtain ⟨m, hm, rfl⟩ := List.mem_iff_getElem.1 hc
      exact cellLt_irrefl _ (hlo m hm (by omega))
    by_cases hil : i < l.length
    · have q1 := at_cells (l := l) (i := i) hil
      have hmz : (i : Int) < l.length := by omega
      simp (disch:=first|assumption|omega) only[e9,e10,e8,e0,e2,e4,eb,hlt,cellA,q1,hmz,go_sem,↓reduceIte,Nat.reduceEqDiff,reduceCtorEq,Nat.reduceAdd,Nat.reduceLeDiff,reduceIte,Int.reduceAdd]
      refine callvqG_ok (hcf l[i] c _) (by simp (disch:=first|assumption|omega) only[go_sem]) ?_
      rintro _ _ ⟨rfl, hhh⟩
      rw [hhh]
      clear hhh
      refine ⟨rfl, ?_⟩
      simp only[go_sem,↓reduceIte,Nat.reduceEqDiff,reduceIte]
      subst hQ
      simp only[R.slices_BinarySearchFunc_Cell,eh,go_sem,↓reduceIte,Nat.reduceEqDiff,reduceIte]
      refine ⟨i, ?_⟩
      congr 4
      rw [decide_eq_decide, orderC_zero]
      exact (hmem hil).symm
    · have hmz : ¬ (i : Int) < l.length := by omega
      simp (disch:=first|assumption|omega) only[e9,e10,e8,hlt,hmz,go_sem,↓reduceIte,Nat.reduceEqDiff,reduceIte]
      subst hQ
      simp (disch:=first|assumption|omega) only[R.slices_BinarySearchFunc_Cell,eh,go_sem,↓reduceIte,Nat.reduceEqDiff,reduceIte]
      refine ⟨i, ?_⟩
      rw [decide_eq_false (hnm hil)]
theorem has_ok (o : Own) (l : List Cell) (c : Cell) (ho : Rdo o) (hu : Up l) (hn : l.length ≤ 65536) (h : List HObj) :
    ACalls Try.prog F.grid_has [.lst o (cellsA l), cellA c] h (fun v h' => v = .bool (decide (c ∈ l)) ∧ h' = h) := by
  refine ACalls.of_aw Try.func185 K.grid_has (by simp [Try.f185]) ?_
  generalize hQ : retQ R.grid_has _ = Q
  simp (disch:=first|assumption|omega) only[C.grid_has,go_sem,↓reduceIte,Nat.reduceEqDiff,reduceCtorEq,Nat.reduceLeDiff,reduceIte]
  simp (disch:=first|assumption|omega) only[cellA,go_sem,Nat.reduceAdd,Nat.reduceLeDiff,Int.reduceAdd]
  refine callG_ok (BinarySearch_ok o l c ho hu hn _) (by simp (disch:=first|assumption|omega) only[go_sem]) ?_
  rintro _ _ ⟨⟨i, rfl⟩, hhh⟩
  rw [hhh]
  clear hhh
  simp only[go_sem,↓reduceIte,Nat.reduceEqDiff,Nat.reduceAdd,Nat.reduceLT,reduceIte,Int.reduceLT,Int.reduceAdd]
  subst hQ
  simp only[R.grid_has,go_sem,↓reduceIte,reduceIte]
def HoldC (bid : Nat) (l : List Cell) (h : List HObj) : Prop := h[bid]? = some (.cells [.lst (.app 2) (cellsA l)])
theorem notIn_ok (l : List Cell) (bid : Nat) (hu : Up l) (hn : l.length ≤ 65536) : PredOk F.grid_Meet_1 [.hp bid 0] (fun c => !decide (c ∈ l)) (HoldC bid l) := by
  intro c h hh
  unfold HoldC at hh
  show ACalls Try.prog F.grid_Meet_1 [cellA c, .hp bid 0] h _
  refine ACalls.of_aw Try.func184 K.grid_Meet_1 (by simp [Try.f184]) ?_
  generalize hQ : retQ R.grid_Meet_1 _ = Q
  simp only[C.grid_Meet_1,go_sem,↓reduceIte,Nat.reduceEqDiff,Nat.reduceLeDiff,reduceIte]
  simp only[cellA,hh,go_sem,↓reduceIte,Nat.reduceEqDiff,Nat.reduceAdd,Nat.reduceLeDiff,Nat.reduceLT,reduceIte,Int.reduceLT,Int.reduceAdd]
  refine callG_ok (has_ok .sh l c (.inl rfl) hu hn _) (by simp only[go_sem]) ?_
  rintro _ _ ⟨rfl, hhh⟩
  rw [hhh]
  clear hhh
  simp only[go_sem,↓reduceIte,reduceIte]
  subst hQ
  simp only[R.grid_Meet_1,go_sem,↓reduceIte,reduceIte]
theorem notIn2_ok (l : List Cell) (bid : Nat) (hu : Up l) (hn : l.length ≤ 65536) : PredOk F.grid_Within_1 [.hp bid 0] (fun c => !decide (c ∈ l)) (HoldC bid l) := by
  intro c h hh
  unfold HoldC at hh
  show ACalls Try.prog F.grid_Within_1 [cellA c, .hp bid 0] h _
  refine ACalls.of_aw Try.func196 K.grid_Within_1 (by simp [Try.f196]) ?_
  generalize hQ : retQ R.grid_Within_1 _ = Q
  simp only[C.grid_Within_1,go_sem,↓reduceIte,Nat.reduceEqDiff,Nat.reduceLeDiff,reduceIte]
  simp only[cellA,hh,go_sem,↓reduceIte,Nat.reduceEqDiff,Nat.reduceAdd,Nat.reduceLeDiff,Nat.reduceLT,reduceIte,Int.reduceLT,Int.reduceAdd]
  refine callG_ok (has_ok .sh l c (.inl rfl) hu hn _) (by simp only[go_sem]) ?_
  rintro _ _ ⟨rfl, hhh⟩
  rw [hhh]
  clear hhh
  simp only[go_sem,↓reduceIte,reduceIte]
  subst hQ
  simp only[R.grid_Within_1,go_sem,↓reduceIte,reduceIte]
theorem isIn_ok (l : List Cell) (bid : Nat) (hu : Up l) (hn : l.length ≤ 65536) : PredOk F.grid_Minus_1 [.hp bid 0] (fun c => decide (c ∈ l)) (HoldC bid l) := by
  intro c h hh
  unfold HoldC at hh
  show ACalls Try.prog F.grid_Minus_1 [cellA c, .hp bid 0] h _
  refine ACalls.of_aw Try.func193 K.grid_Minus_1 (by simp [Try.f193]) ?_
  generalize hQ : retQ R.grid_Minus_1 _ = Q
  simp only[C.grid_Minus_1,go_sem,↓reduceIte,Nat.reduceEqDiff,Nat.reduceLeDiff,reduceIte]
  simp only[cellA,hh,go_sem,↓reduceIte,Nat.reduceEqDiff,Nat.reduceAdd,Nat.reduceLeDiff,Nat.reduceLT,reduceIte,Int.reduceLT,Int.reduceAdd]
  refine callG_ok (has_ok .sh l c (.inl rfl) hu hn _) (by simp only[go_sem]) ?_
  rintro _ _ ⟨rfl, hhh⟩
  rw [hhh]
  clear hhh
  simp only[go_sem,↓reduceIte,reduceIte]
  subst hQ
  simp only[R.grid_Minus_1,go_sem,↓reduceIte,reduceIte]
end Go.Proofs.Ytpdajkbfemcdlaa
namespace Go.Proofs.Ytpdajkbfemcdlaa
open Go.Ge Go.Sort
theorem insEmpty_ok (f id off cap : Nat) (h : List HObj) : ACalls Try.prog F.slices_insertionSortCmpFunc_Cell [.ref id off 0 cap, .int .i64 0, .int .i64 0, .func f []] h (fun v h' => v = .tup [] ∧ h' = h) := by
  refine ACalls.of_aw Try.func219 K.slices_insertionSortCmpFunc_Cell (by simp [Try.f219]) ?_
  generalize hQ : retQ R.slices_insertionSortCmpFunc_Cell _ = Q
  simp only[C.slices_insertionSortCmpFunc_Cell,go_sem,↓reduceIte,reduceIte]
  refine aw_count (fun d S => S.env 8 = .int .i64 1 ∧ S.env 2 = .int .i64 0 ∧ S.heap = h) (n := 0) ⟨by simp (disch:=first|assumption|omega) only[go_sem,↓reduceIte,reduceIte], by simp (disch:=first|assumption|omega) only[go_sem,↓reduceIte,Nat.reduceEqDiff,reduceIte], by simp (disch:=first|assumption|omega) only[go_sem]⟩ ?_
  rintro d S ⟨e8, e2, eh⟩
  simp only[e8,e2,go_sem,↓reduceIte,Nat.reduceEqDiff,Nat.reduceLT,reduceIte,Int.reduceLT]
  subst hQ
  simp only[R.slices_insertionSortCmpFunc_Cell,eh,go_sem]
theorem pdqEmpty_ok (f id off cap : Nat) (lim : Int) (h : List HObj) : ACalls Try.prog F.slices_pdqsortCmpFunc_Cell [.ref id off 0 cap, .int .i64 0, .int .i64 0, .int .i64 lim, .func f []] h (fun v h' => v = .tup [] ∧ h' = h) := by
  refine ACalls.of_aw Try.func203 K.slices_pdqsortCmpFunc_CellF (by simp [Try.f203]) ?_
  generalize hQ : retQ R.slices_pdqsortCmpFunc_CellF _ = Q
  simp only[C.slices_pdqsortCmpFunc_CellF,go_sem]
  refine aw_count (fun d S => S.env 0 = .ref id off 0 cap ∧ S.env 1 = .int .i64 0 ∧ S.env 2 = .int .i64 0 ∧ S.env 4 = .func f [] ∧ S.heap = h) (n := 0) ⟨by simp only[go_sem,↓reduceIte,reduceCtorEq,reduceIte], by simp only[go_sem,↓reduceIte,Nat.reduceEqDiff,reduceIte], by simp only[go_sem,↓reduceIte,Nat.reduceEqDiff,reduceIte], by simp only[go_sem,↓reduceIte,Nat.reduceEqDiff,reduceIte], by simp only[go_sem]⟩ ?_
  rintro d S ⟨e0, e1, e2, e4, eh⟩
  simp (disch:=first|assumption|omega) only[e0,e1,e2,e4,go_sem,↓reduceIte,Nat.reduceEqDiff,reduceCtorEq,reduceIte,Int.reduceLE]
  refine callG_ok (insEmpty_ok f id off cap _) (by simp (disch:=first|assumption|omega) only[go_sem]) ?_
  rintro _ _ ⟨rfl, hhh⟩
  rw [hhh]
  clear hhh
  simp only[go_sem]
  subst hQ
  simp only[R.slices_pdqsortCmpFunc_CellF,eh,go_sem]
theorem SortEmpty_ok (f id off cap : Nat) (h : List HObj) : ACalls Try.prog F.slices_SortFunc_Cell [.ref id off 0 cap, .func f []] h (fun v h' => v = .tup [] ∧ h' = h) := by
  refine ACalls.of_aw Try.func180 K.slices_SortFunc_Cell (by simp [Try.f180]) ?_
  generalize hQ : retQ R.slices_SortFunc_Cell _ = Q
  simp only[C.slices_SortFunc_Cell,go_sem,↓reduceIte,Nat.reduceEqDiff,reduceCtorEq,reduceIte]
  refine callG_ok (BLen_ok 0 (by omega) _) (by simp only[go_sem]) ?_
  rintro _ _ ⟨⟨r, rfl⟩, hhh⟩
  rw [hhh]
  clear hhh
  simp only[go_sem,↓reduceIte,Nat.reduceEqDiff,reduceIte]
  refine callG_ok (pdqEmpty_ok f id off cap r _) (by simp only[go_sem]) ?_
  rintro _ _ ⟨rfl, hhh⟩
  rw [hhh]
  clear hhh
  simp only[go_sem]
  subst hQ
  simp only[R.slices_SortFunc_Cell,go_sem]
theorem idsRep (n : Nat) {m : Nat} : idsL (List.replicate n .junk) ≤ m := by
  rw [idsL_le]
  intro x hx
  rw [List.eq_of_mem_replicate hx]
  exact Nat.zero_le _
theorem normC_nil : normC [] = [] := by
  have := normC_len []
  exact List.eq_nil_of_length_eq_zero (by simpa using this)
theorem CompactN_ok (l : List Cell) (N : Nat) (hN : l.length = N) (id cap : Nat) (rest : List AVal) (h : List HObj) (hid : h[id]? = some (.cells (flatC l ++ rest))) (hn : l.length ≤ 65536) (hc : l.length ≤ cap) :
    ACalls Try.prog F.slices_Compact_Cell [.ref id 0 N cap] h (fun v h' => v = .ref id 0 (dedupA l).length cap ∧ ∃ rest', rest'.length + (dedupA l).length * 2 = rest.length + l.length * 2 ∧ h' = h.set id (.cells (flatC (dedupA l) ++ rest'))) := by
  subst hN
  exact Compact_ok l id cap rest h hid hn hc
def SortedQ (l : List Cell) (h : List HObj) (r : AVal) (h' : List HObj) : Prop := r = .ref 0 0 0 0 ∧ l = [] ∧ h' = h ∨ ∃ cap rest, r = .ref h.length 0 (normC l).length cap ∧ (normC l).length ≤ cap ∧ 0 < cap ∧ rest.length = (cap - (normC l).length) * 2 ∧ h' = h ++ [.cells (flatC (normC l) ++ rest)]
theorem sortedR_ok (o : Own) (L : List (List Cell)) (xs : List AVal) (ho : Rdo o) (hx : Each2 CellsOk L xs) (hne : 0 < L.length) (hl : L.length ≤ 65536) (hb : L.flatten.length < 65536) (h : List HObj) :
    ACalls Try.prog F.grid_sorted [.lst o xs] h (fun r h' => SortedQ L.flatten h r h') := by
  have hcf : CmpOk F.grid_order orderC := fun a b h => order_ok a b h
  refine ACalls.of_aw Try.func182 K.grid_sorted (by simp [Try.f182]) ?_
  generalize hQ : retQ R.grid_sorted _ = Q
  simp (disch:=first|assumption|omega) only[C.grid_sorted,go_sem,↓reduceIte,reduceCtorEq,reduceIte]
  refine callG_ok (ConcatCell_ok o L xs ho hx hne hl (by omega) _) (by simp (disch:=first|assumption|omega) only[go_sem]) ?_
  rintro r h1 hr
  rcases hr with ⟨rfl, hnil, rfl⟩ | ⟨cap, hnn, rfl, hcap, rfl⟩
  · simp only[go_sem,↓reduceIte,reduceIte]
    refine callG_ok (SortEmpty_ok F.grid_order 0 0 0 _) (by simp only[go_sem]) ?_
    rintro _ _ ⟨rfl, hhh⟩
    rw [hhh]
    clear hhh
    simp only[go_sem,↓reduceIte,Nat.reduceEqDiff,reduceIte]
    refine callG_ok (CompactShort_ok 0 0 0 0 (by omega) _) (by simp only[go_sem]) ?_
    rintro _ _ ⟨rfl, hhh⟩
    rw [hhh]
    clear hhh
    simp only[go_sem,↓reduceIte,reduceIte]
    subst hQ
    simp only[R.grid_sorted,go_sem,↓reduceIte,reduceIte]
    exact .inl ⟨rfl, hnil, rfl⟩
  · generalize L.flatten = l at *
    have hpos : 0 < l.length := List.length_pos_iff.2 hnn
    simp only[go_sem,↓reduceIte,reduceIte]
    refine callG_ok (SortFunc_ok F.grid_order orderC hcf swoC antiC l h.length cap (List.replicate ((cap - l.length) * 2) .junk) _ (by simp only[go_sem]) hb (idsRep _)) (by simp only[go_sem]) ?_
    rintro _ _ ⟨rfl, rfl⟩
    have hsl : l.length = (sortC l).length := (sortC_len l).symm
    have hset : ∀ (x y : HObj), (h ++ [x]).set h.length y = h ++ [y] := fun x y => by simp
    simp only[hset,go_sem,↓reduceIte,Nat.reduceEqDiff,reduceIte]
    refine callG_ok (CompactN_ok (sortC l) l.length hsl.symm h.length cap (List.replicate ((cap - l.length) * 2) .junk) _ (by simp only[go_sem]; simp [sortC]) (by omega) (by omega)) (by simp only[go_sem]) ?_
    rintro _ _ ⟨rfl, rest', hrest, rfl⟩
    simp only[hset,go_sem,↓reduceIte,reduceIte]
    subst hQ
    simp only[R.grid_sorted,go_sem,↓reduceIte,reduceIte]
    have hnl := normC_len l
    rw [List.length_replicate] at hrest
    have hrest2 : rest'.length + (normC l).length * 2 = (cap - l.length) * 2 + (sortC l).length * 2 := hrest
    refine .inr ⟨cap, rest', rfl, by omega, by omega, by omega, rfl⟩
end Go.Proofs.Ytpdajkbfemcdlaa
