/- Contracts: the second implementation's logs. -/
import Derived.Test.YtpdajkbfemcdlaaV3
import Derived.Test.YtpdajkbfemcdlaaT1
set_option linter.unusedSimpArgs false
set_option linter.unusedVariables false
set_option maxRecDepth 10000
namespace Go.Proofs.Ytpdajkbfemcdlaa
open Go.Ge
theorem Bytes_app (n : Int) (m : Nat) (hn0 : 0 ≤ n) (hn : n < 18446744073709551616) (hm : m ≤ 1000) (h : List HObj) :
    ACalls Try.prog F.gantref5_Bytes [.int .u64 n, .int .i64 m] h (fun r h' => r = .lst (.app 1) (ints .u8 (beBytes n m)) ∧ h' = h) :=
  ACalls.gr (ACalls.mono (Bytes_ok n m hn0 hn hm h) fun r h' ⟨e1, e2⟩ => by subst e1; exact ⟨rfl, e2⟩)
theorem Value_ok (o : Own) (l : List Int) (ho : Rdo o) (hb : ∀ x ∈ l, inU8 x) (hl : l.length ≤ 4) (h : List HObj) :
    ACalls Try.prog F.gantref5_Value [.lst o (ints .u8 l)] h (fun r h' => r = .int .i64 (val l) ∧ h' = h) := by
  refine ACalls.of_aw Try.func154 K.gantref5_Value (by simp [Try.f154]) ?_
  generalize hQ : retQ R.gantref5_Value _ = Q
  simp (disch := first | assumption | omega) only [C.gantref5_Value, go_sem, ↓reduceIte, Nat.reduceEqDiff, reduceCtorEq, Nat.reduceAdd, Nat.reduceLeDiff, Nat.reduceLT, reduceIte, Int.reduceBEq, Int.reduceBNe, Int.reduceLT, Int.reduceLE, Int.reduceAdd, Int.reduceSub, Int.reduceMul, Int.reduceNeg, Int.reduceEq, Int.reduceNe, Nat.reduceMul, Nat.reduceSub]
  refine aw_count (fun d S => ∃ (i : Nat), i + d = l.length ∧ S.env 8 = .int .i64 i ∧ S.env 7 = .int .i64 l.length ∧ S.env 6 = .lst o (ints .u8 l) ∧ S.env 3 = .int .i64 (val (l.take i)) ∧ S.heap = h) (n := l.length) ⟨0, by simp [go_sem, val]⟩ ?_
  rintro d S ⟨i, hi, e8, e7, e6, e3, eh⟩
  simp (disch := first | assumption | omega) only [e8, e7, e6, e3, eh, go_sem, ↓reduceIte, Nat.reduceEqDiff, reduceCtorEq, Nat.reduceAdd, Nat.reduceLeDiff, Nat.reduceLT, reduceIte, Int.reduceBEq, Int.reduceBNe, Int.reduceLT, Int.reduceLE, Int.reduceAdd, Int.reduceSub, Int.reduceMul, Int.reduceNeg, Int.reduceEq, Int.reduceNe, Nat.reduceMul, Nat.reduceSub]
  refine condG_if (fun hlt => ?_) fun hge => ?_
  · have hlt1 : i < l.length := by omega
    have hx := hb _ (List.getElem_mem hlt1)
    unfold inU8 at hx
    have hat := at_ints' (k := .u8) l i hlt1
    rw [getD_get hlt1] at hat
    have hv := val_bd4 (l := l.take i) (fun x hx => hb x (List.mem_of_mem_take hx)) (by simp; omega)
    have hst := val_take l i hlt1
    generalize l[i] = x at *
    simp (disch := first | assumption | omega) only [e8, e7, e6, e3, eh, hat, hlt1, go_sem, ↓reduceIte, Nat.reduceEqDiff, reduceCtorEq, Nat.reduceAdd, Nat.reduceLeDiff, Nat.reduceLT, reduceIte, Int.reduceBEq, Int.reduceBNe, Int.reduceLT, Int.reduceLE, Int.reduceAdd, Int.reduceSub, Int.reduceMul, Int.reduceNeg, Int.reduceEq, Int.reduceNe, Nat.reduceMul, Nat.reduceSub]
    exact ⟨d - 1, by omega, i + 1, by omega, by simp, by rw [hst]⟩
  · obtain rfl : i = l.length := by omega
    rw [List.take_length] at e3
    simp (disch := first | assumption | omega) only [e8, e7, e6, e3, eh, go_sem, ↓reduceIte, Nat.reduceEqDiff, reduceCtorEq, Nat.reduceAdd, Nat.reduceLeDiff, Nat.reduceLT, reduceIte, Int.reduceBEq, Int.reduceBNe, Int.reduceLT, Int.reduceLE, Int.reduceAdd, Int.reduceSub, Int.reduceMul, Int.reduceNeg, Int.reduceEq, Int.reduceNe, Nat.reduceMul, Nat.reduceSub]
    subst hQ
    simp (disch := first | assumption | omega) only [R.gantref5_Value, e8, e7, e6, e3, eh, go_sem, ↓reduceIte, Nat.reduceEqDiff, reduceCtorEq, Nat.reduceAdd, Nat.reduceLeDiff, Nat.reduceLT, reduceIte, Int.reduceBEq, Int.reduceBNe, Int.reduceLT, Int.reduceLE, Int.reduceAdd, Int.reduceSub, Int.reduceMul, Int.reduceNeg, Int.reduceEq, Int.reduceNe, Nat.reduceMul, Nat.reduceSub]
theorem byteOf_inj {a b : Int} (ha : inU8 a) (hb : inU8 b) (h : byteOfV (.int .u8 a) = byteOfV (.int .u8 b)) : a = b := by
  unfold inU8 at ha hb
  simp only [byteOfV] at h
  have := congrArg UInt8.toNat h
  simp only [UInt8.toNat_ofNat'] at this
  omega
theorem strOf_list (a : List Int) : (strOfV (ints .u8 a)).toList = (ints .u8 a).map byteOfV := by
  rw [ba_toList]; simp [strOfV]
theorem str_eq {a b : List Int} (ha : ∀ x ∈ a, inU8 x) (hb : ∀ x ∈ b, inU8 x) : ((strOfV (ints .u8 a)).toList == (strOfV (ints .u8 b)).toList) = decide (a = b) := by
  rw [strOf_list, strOf_list]
  by_cases h : a = b
  · subst h; simp
  · rw [decide_eq_false h, beq_eq_false_iff_ne]
    intro e
    apply h
    clear h
    induction a generalizing b with
    | nil => cases b with | nil => rfl | cons y b => simp [ints] at e
    | cons x a ih =>
      cases b with
      | nil => simp [ints] at e
      | cons y b =>
        simp only [ints_cons, List.map_cons, List.cons.injEq] at e
        rw [byteOf_inj (ha x (by simp)) (hb y (by simp)) e.1, ih (fun z hz => ha z (by simp [hz])) (fun z hz => hb z (by simp [hz])) e.2]
theorem isByte_ints (l : List Int) : ∀ v ∈ ints .u8 l, isByteV v := by
  intro v hv; obtain ⟨n, _, rfl⟩ := List.mem_map.1 hv; exact ⟨n, rfl⟩
theorem RecOk.sh (l : List Int) : RecOk l (.lst .sh (ints .u8 l)) := ⟨.sh, ⟨.inl rfl, fun e => by cases e⟩, rfl⟩
theorem RecOk.of {o : Own} {l : List Int} (h : Rdn o l) : RecOk l (.lst o (ints .u8 l)) := ⟨o, h, rfl⟩
theorem sizeOf'_take {L : List (List Int)} {i : Nat} : sizeOf' (L.take i) ≤ sizeOf' L := by
  have := sizeOf'_append (L.take i) (L.drop i)
  rw [List.take_append_drop] at this; omega
theorem sizeOf'_get {L : List (List Int)} {i : Nat} (h : i < L.length) : sizeOf' (L.take (i + 1)) = sizeOf' (L.take i) + 6 + L[i].length := by
  rw [take_snoc h, sizeOf'_append]; simp [sizeOf']; omega
theorem count_size (rs : List (List Int)) : 6 * rs.length ≤ sizeOf' rs := by
  induction rs with
  | nil => simp
  | cons a rs ih => simp only [sizeOf', List.map_cons, List.sum_cons, List.length_cons] at ih ⊢; omega
theorem Book_ok (o : Own) (L : List (List Int)) (xs : List AVal) (ho : Rdn o L) (hx : Each2 RecOk L xs) (hu : ∀ r ∈ L, ∀ x ∈ r, inU8 x) (hl : sizeOf' L ≤ 1099511627776) (h : List HObj) :
    ACalls Try.prog F.gantref5_Book [.lst o xs] h (fun v h' => (∃ q, v = .lst q (ints .u8 (book 0 L)) ∧ (q = .nil ∧ L = [] ∨ q = .app 1)) ∧ h' = h) := by
  have ho1 := ho.1
  have lx := hx.length
  refine ACalls.of_aw Try.func69 K.gantref5_Book (by simp [Try.f69]) ?_
  generalize hQ : retQ R.gantref5_Book _ = Q
  simp (disch := first | assumption | omega) only [C.gantref5_Book, go_sem, ↓reduceIte, Nat.reduceEqDiff, reduceCtorEq, Nat.reduceAdd, Nat.reduceLeDiff, Nat.reduceLT, reduceIte, Int.reduceBEq, Int.reduceBNe, Int.reduceLT, Int.reduceLE, Int.reduceAdd, Int.reduceSub, Int.reduceMul, Int.reduceNeg, Int.reduceEq, Int.reduceNe, Nat.reduceMul, Nat.reduceSub]
  refine aw_count (fun d S => ∃ (i : Nat) (q q4 : Own), i + d = L.length ∧ S.env 11 = .int .i64 i ∧ S.env 10 = .int .i64 L.length ∧ S.env 9 = .lst o xs ∧ S.env 3 = .lst q (ints .u8 (book 0 (L.take i))) ∧ (q = .nil ∧ i = 0 ∨ q = .app 1) ∧ S.env 4 = .lst q4 (ints .u8 (four (lastOf 0 (L.take i)))) ∧ (q4 = .sh ∨ q4 = .app 1) ∧ S.heap = h) (n := L.length)
    ⟨0, .nil, .sh, by omega, by simp (disch := first | assumption | omega) only [go_sem, ↓reduceIte, Nat.reduceEqDiff, reduceCtorEq, Nat.reduceAdd, Nat.reduceLeDiff, Nat.reduceLT, reduceIte, Int.reduceBEq, Int.reduceBNe, Int.reduceLT, Int.reduceLE, Int.reduceAdd, Int.reduceSub, Int.reduceMul, Int.reduceNeg, Int.reduceEq, Int.reduceNe, Nat.reduceMul, Nat.reduceSub], by simp (disch := first | assumption | omega) only [lx, go_sem, ↓reduceIte, Nat.reduceEqDiff, reduceCtorEq, Nat.reduceAdd, Nat.reduceLeDiff, Nat.reduceLT, reduceIte, Int.reduceBEq, Int.reduceBNe, Int.reduceLT, Int.reduceLE, Int.reduceAdd, Int.reduceSub, Int.reduceMul, Int.reduceNeg, Int.reduceEq, Int.reduceNe, Nat.reduceMul, Nat.reduceSub], by simp (disch := first | assumption | omega) only [go_sem, ↓reduceIte, Nat.reduceEqDiff, reduceCtorEq, Nat.reduceAdd, Nat.reduceLeDiff, Nat.reduceLT, reduceIte, Int.reduceBEq, Int.reduceBNe, Int.reduceLT, Int.reduceLE, Int.reduceAdd, Int.reduceSub, Int.reduceMul, Int.reduceNeg, Int.reduceEq, Int.reduceNe, Nat.reduceMul, Nat.reduceSub], by simp (disch := first | assumption | omega) only [book, ints_nil, go_sem, ↓reduceIte, Nat.reduceEqDiff, reduceCtorEq, Nat.reduceAdd, Nat.reduceLeDiff, Nat.reduceLT, reduceIte, Int.reduceBEq, Int.reduceBNe, Int.reduceLT, Int.reduceLE, Int.reduceAdd, Int.reduceSub, Int.reduceMul, Int.reduceNeg, Int.reduceEq, Int.reduceNe, Nat.reduceMul, Nat.reduceSub], .inl ⟨rfl, rfl⟩, by simp (disch := first | assumption | omega) only [lastOf, four, be4, go_sem, ↓reduceIte, Nat.reduceEqDiff, reduceCtorEq, Nat.reduceAdd, Nat.reduceLeDiff, Nat.reduceLT, reduceIte, Int.reduceBEq, Int.reduceBNe, Int.reduceLT, Int.reduceLE, Int.reduceAdd, Int.reduceSub, Int.reduceMul, Int.reduceNeg, Int.reduceEq, Int.reduceNe, Nat.reduceMul, Nat.reduceSub]; rfl, .inl rfl, by simp (disch := first | assumption | omega) only [go_sem, ↓reduceIte, Nat.reduceEqDiff, reduceCtorEq, Nat.reduceAdd, Nat.reduceLeDiff, Nat.reduceLT, reduceIte, Int.reduceBEq, Int.reduceBNe, Int.reduceLT, Int.reduceLE, Int.reduceAdd, Int.reduceSub, Int.reduceMul, Int.reduceNeg, Int.reduceEq, Int.reduceNe, Nat.reduceMul, Nat.reduceSub]⟩ ?_
  rintro d S ⟨i, q, q4, hi, e11, e10, e9, e3, hq, e4, hq4, eh⟩
  have hbt := book_length 0 (L.take i)
  have hcs := count_size L
  have hst := @sizeOf'_take L i
  have hst1 := @sizeOf'_take L (i + 1)
  have hlast := lastOf_bd 0 (L.take i) (by omega) (by omega)
  have hq4' : rdv (.lst q4 (ints .u8 (four (lastOf 0 (L.take i))))) = .lst .sh (ints .u8 (four (lastOf 0 (L.take i)))) := by rcases hq4 with rfl | rfl <;> rfl
  simp (disch := first | assumption | omega) only [e11, e10, e9, e3, e4, eh, go_sem, ↓reduceIte, Nat.reduceEqDiff, reduceCtorEq, Nat.reduceAdd, Nat.reduceLeDiff, Nat.reduceLT, reduceIte, Int.reduceBEq, Int.reduceBNe, Int.reduceLT, Int.reduceLE, Int.reduceAdd, Int.reduceSub, Int.reduceMul, Int.reduceNeg, Int.reduceEq, Int.reduceNe, Nat.reduceMul, Nat.reduceSub]
  refine condG_if (fun hlt => ?_) fun hge => ?_
  · have hlt1 : i < L.length := by omega
    have hlt2 : i < xs.length := by omega
    obtain ⟨p, hp, hxi⟩ := hx.at i hlt1
    have hp1 := hp.1
    have hui := hu _ (List.getElem_mem hlt1)
    have hsz := sizeOf'_get hlt1
    have hst2 := take_snoc hlt1
    have hbu : ∀ x ∈ book 0 (L.take i), inU8 x := book_u8 0 _ (fun r hr => hu r (List.mem_of_mem_take hr))
    generalize hr : L[i] = r at *
    simp (disch := first | assumption | omega) only [e11, e10, e9, e3, e4, eh, hlt2, hxi, go_sem, ↓reduceIte, Nat.reduceEqDiff, reduceCtorEq, Nat.reduceAdd, Nat.reduceLeDiff, Nat.reduceLT, reduceIte, Int.reduceBEq, Int.reduceBNe, Int.reduceLT, Int.reduceLE, Int.reduceAdd, Int.reduceSub, Int.reduceMul, Int.reduceNeg, Int.reduceEq, Int.reduceNe, Nat.reduceMul, Nat.reduceSub]
    refine callG_ok (Bytes_app (r.length : Nat) 2 (by omega) (by omega) (by omega) _) (by simp (disch := first | assumption | omega) only [go_sem, ↓reduceIte, Nat.reduceEqDiff, reduceCtorEq, Nat.reduceAdd, Nat.reduceLeDiff, Nat.reduceLT, reduceIte, Int.reduceBEq, Int.reduceBNe, Int.reduceLT, Int.reduceLE, Int.reduceAdd, Int.reduceSub, Int.reduceMul, Int.reduceNeg, Int.reduceEq, Int.reduceNe, Nat.reduceMul, Nat.reduceSub]) ?_
    rintro _ _ ⟨rfl, hhh⟩
    rw [hhh]
    clear hhh
    simp (disch := first | assumption | omega) only [e11, e10, e9, e3, e4, eh, go_sem, ↓reduceIte, Nat.reduceEqDiff, reduceCtorEq, Nat.reduceAdd, Nat.reduceLeDiff, Nat.reduceLT, reduceIte, Int.reduceBEq, Int.reduceBNe, Int.reduceLT, Int.reduceLE, Int.reduceAdd, Int.reduceSub, Int.reduceMul, Int.reduceNeg, Int.reduceEq, Int.reduceNe, Nat.reduceMul, Nat.reduceSub]
    refine callG_ok (Concat_byte_ok .sh [beBytes r.length 2, r] _ (.inl rfl) ⟨_, _, rfl, RecOk.sh _, _, _, rfl, RecOk.of hp, rfl⟩ (by simp) (by simp) (by simp [lenSum, beBytes_length]; omega) _) (by simp (disch := first | assumption | omega) only [go_sem, ↓reduceIte, Nat.reduceEqDiff, reduceCtorEq, Nat.reduceAdd, Nat.reduceLeDiff, Nat.reduceLT, reduceIte, Int.reduceBEq, Int.reduceBNe, Int.reduceLT, Int.reduceLE, Int.reduceAdd, Int.reduceSub, Int.reduceMul, Int.reduceNeg, Int.reduceEq, Int.reduceNe, Nat.reduceMul, Nat.reduceSub]) ?_
    rintro _ _ ⟨rfl, hhh⟩
    rw [hhh]
    clear hhh
    have hf1 : [beBytes r.length 2, r].flatten = beBytes r.length 2 ++ r := by simp
    rw [hf1]
    rcases hq4 with rfl | rfl
    case' inl => simp (disch := first | assumption | omega) only [e11, e10, e9, e3, e4, eh, go_sem, ↓reduceIte, Nat.reduceEqDiff, reduceCtorEq, Nat.reduceAdd, Nat.reduceLeDiff, Nat.reduceLT, reduceIte, Int.reduceBEq, Int.reduceBNe, Int.reduceLT, Int.reduceLE, Int.reduceAdd, Int.reduceSub, Int.reduceMul, Int.reduceNeg, Int.reduceEq, Int.reduceNe, Nat.reduceMul, Nat.reduceSub]
    case' inr => simp (disch := first | assumption | omega) only [e11, e10, e9, e3, e4, eh, go_sem, ↓reduceIte, Nat.reduceEqDiff, reduceCtorEq, Nat.reduceAdd, Nat.reduceLeDiff, Nat.reduceLT, reduceIte, Int.reduceBEq, Int.reduceBNe, Int.reduceLT, Int.reduceLE, Int.reduceAdd, Int.reduceSub, Int.reduceMul, Int.reduceNeg, Int.reduceEq, Int.reduceNe, Nat.reduceMul, Nat.reduceSub]
    all_goals
      refine callG_ok (Concat_byte_ok .sh [four (lastOf 0 (L.take i)), beBytes r.length 2 ++ r] _ (.inl rfl) ⟨_, _, rfl, RecOk.sh _, _, _, rfl, RecOk.sh _, rfl⟩ (by simp) (by simp) (by simp [lenSum, beBytes_length, four_length]; omega) _) (by simp (disch := first | assumption | omega) only [go_sem, ↓reduceIte, Nat.reduceEqDiff, reduceCtorEq, Nat.reduceAdd, Nat.reduceLeDiff, Nat.reduceLT, reduceIte, Int.reduceBEq, Int.reduceBNe, Int.reduceLT, Int.reduceLE, Int.reduceAdd, Int.reduceSub, Int.reduceMul, Int.reduceNeg, Int.reduceEq, Int.reduceNe, Nat.reduceMul, Nat.reduceSub]) ?_
      rintro _ _ ⟨rfl, hhh⟩
      rw [hhh]
      clear hhh
      have hf2 : [four (lastOf 0 (L.take i)), beBytes r.length 2 ++ r].flatten = four (lastOf 0 (L.take i)) ++ (beBytes r.length 2 ++ r) := by simp
      rw [hf2]
      have hu2 : ∀ x ∈ four (lastOf 0 (L.take i)) ++ (beBytes r.length 2 ++ r), inU8 x := by
        intro x hx
        simp only [List.mem_append] at hx
        rcases hx with hx | hx | hx
        · exact beBytes_u8 _ _ x hx
        · exact beBytes_u8 _ _ x hx
        · exact hui x hx
      simp (disch := first | assumption | omega) only [e11, e10, e9, e3, e4, eh, go_sem, ↓reduceIte, Nat.reduceEqDiff, reduceCtorEq, Nat.reduceAdd, Nat.reduceLeDiff, Nat.reduceLT, reduceIte, Int.reduceBEq, Int.reduceBNe, Int.reduceLT, Int.reduceLE, Int.reduceAdd, Int.reduceSub, Int.reduceMul, Int.reduceNeg, Int.reduceEq, Int.reduceNe, Nat.reduceMul, Nat.reduceSub]
      refine callG_ok (Crc_ok .sh (four (lastOf 0 (L.take i)) ++ (beBytes r.length 2 ++ r)) (.inl rfl) hu2 (by simp [four_length, beBytes_length]; omega) _) (by simp (disch := first | assumption | omega) only [go_sem, ↓reduceIte, Nat.reduceEqDiff, reduceCtorEq, Nat.reduceAdd, Nat.reduceLeDiff, Nat.reduceLT, reduceIte, Int.reduceBEq, Int.reduceBNe, Int.reduceLT, Int.reduceLE, Int.reduceAdd, Int.reduceSub, Int.reduceMul, Int.reduceNeg, Int.reduceEq, Int.reduceNe, Nat.reduceMul, Nat.reduceSub]) ?_
      rintro _ _ ⟨rfl, hhh⟩
      try rw [hhh]
      clear hhh
      simp (disch := first | assumption | omega) only [e11, e10, e9, e3, e4, eh, go_sem, ↓reduceIte, Nat.reduceEqDiff, reduceCtorEq, Nat.reduceAdd, Nat.reduceLeDiff, Nat.reduceLT, reduceIte, Int.reduceBEq, Int.reduceBNe, Int.reduceLT, Int.reduceLE, Int.reduceAdd, Int.reduceSub, Int.reduceMul, Int.reduceNeg, Int.reduceEq, Int.reduceNe, Nat.reduceMul, Nat.reduceSub]
      have hls := logSum_bd (lastOf 0 (L.take i)) r
      have hlse : iv (crc (four (lastOf 0 (L.take i)) ++ (beBytes r.length 2 ++ r))) = logSum (lastOf 0 (L.take i)) r := rfl
      rw [hlse]
      simp (disch := first | assumption | omega) only [e11, e10, e9, e3, e4, eh, go_sem, ↓reduceIte, Nat.reduceEqDiff, reduceCtorEq, Nat.reduceAdd, Nat.reduceLeDiff, Nat.reduceLT, reduceIte, Int.reduceBEq, Int.reduceBNe, Int.reduceLT, Int.reduceLE, Int.reduceAdd, Int.reduceSub, Int.reduceMul, Int.reduceNeg, Int.reduceEq, Int.reduceNe, Nat.reduceMul, Nat.reduceSub]
      refine callG_ok (Bytes_app (logSum (lastOf 0 (L.take i)) r) 4 hls.1 (by omega) (by omega) _) (by simp (disch := first | assumption | omega) only [go_sem, ↓reduceIte, Nat.reduceEqDiff, reduceCtorEq, Nat.reduceAdd, Nat.reduceLeDiff, Nat.reduceLT, reduceIte, Int.reduceBEq, Int.reduceBNe, Int.reduceLT, Int.reduceLE, Int.reduceAdd, Int.reduceSub, Int.reduceMul, Int.reduceNeg, Int.reduceEq, Int.reduceNe, Nat.reduceMul, Nat.reduceSub]) ?_
      rintro _ _ ⟨rfl, hhh⟩
      rw [hhh]
      clear hhh
      have hbu2 : ∃ q', rdv (.lst q (ints .u8 (book 0 (L.take i)))) = .lst q' (ints .u8 (book 0 (L.take i))) ∧ Rdn q' (book 0 (L.take i)) := by
        rcases hq with ⟨rfl, h0⟩ | rfl
        · exact ⟨.nil, rfl, .inr rfl, fun _ => by rw [h0]; rfl⟩
        · exact ⟨.sh, rfl, .inl rfl, fun e => by cases e⟩
      obtain ⟨q', hq', hq1⟩ := hbu2
      have hq11 := hq1.1
      simp (disch := first | assumption | omega) only [e11, e10, e9, e3, e4, eh, hq', go_sem, ↓reduceIte, Nat.reduceEqDiff, reduceCtorEq, Nat.reduceAdd, Nat.reduceLeDiff, Nat.reduceLT, reduceIte, Int.reduceBEq, Int.reduceBNe, Int.reduceLT, Int.reduceLE, Int.reduceAdd, Int.reduceSub, Int.reduceMul, Int.reduceNeg, Int.reduceEq, Int.reduceNe, Nat.reduceMul, Nat.reduceSub]
      refine callG_ok (Concat_byte_ok .sh [book 0 (L.take i), beBytes r.length 2 ++ r, four (logSum (lastOf 0 (L.take i)) r)] _ (.inl rfl) ⟨_, _, rfl, RecOk.of hq1, _, _, rfl, RecOk.sh _, _, _, rfl, RecOk.sh _, rfl⟩ (by simp) (by simp) (by simp [lenSum, beBytes_length, four_length]; omega) _) (by simp (disch := first | assumption | omega) only [go_sem, ↓reduceIte, Nat.reduceEqDiff, reduceCtorEq, Nat.reduceAdd, Nat.reduceLeDiff, Nat.reduceLT, reduceIte, Int.reduceBEq, Int.reduceBNe, Int.reduceLT, Int.reduceLE, Int.reduceAdd, Int.reduceSub, Int.reduceMul, Int.reduceNeg, Int.reduceEq, Int.reduceNe, Nat.reduceMul, Nat.reduceSub]) ?_
      rintro _ _ ⟨rfl, hhh⟩
      rw [hhh]
      clear hhh
      have hf3 : [book 0 (L.take i), beBytes r.length 2 ++ r, four (logSum (lastOf 0 (L.take i)) r)].flatten = book 0 (L.take (i + 1)) := by
        rw [hst2, book_snoc]; simp [recB]
      rw [hf3]
      simp (disch := first | assumption | omega) only [e11, e10, e9, e3, e4, eh, go_sem, ↓reduceIte, Nat.reduceEqDiff, reduceCtorEq, Nat.reduceAdd, Nat.reduceLeDiff, Nat.reduceLT, reduceIte, Int.reduceBEq, Int.reduceBNe, Int.reduceLT, Int.reduceLE, Int.reduceAdd, Int.reduceSub, Int.reduceMul, Int.reduceNeg, Int.reduceEq, Int.reduceNe, Nat.reduceMul, Nat.reduceSub]
      exact ⟨d - 1, by omega, i + 1, .app 1, .sh, by omega, by simp, rfl, .inr rfl, by rw [hst2, lastOf_snoc]; rfl, .inl rfl⟩
  · obtain rfl : i = L.length := by omega
    rw [List.take_length] at e3
    rcases hq with ⟨rfl, h0⟩ | rfl
    · simp (disch := first | assumption | omega) only [e11, e10, e9, e3, e4, eh, go_sem, ↓reduceIte, Nat.reduceEqDiff, reduceCtorEq, Nat.reduceAdd, Nat.reduceLeDiff, Nat.reduceLT, reduceIte, Int.reduceBEq, Int.reduceBNe, Int.reduceLT, Int.reduceLE, Int.reduceAdd, Int.reduceSub, Int.reduceMul, Int.reduceNeg, Int.reduceEq, Int.reduceNe, Nat.reduceMul, Nat.reduceSub]
      subst hQ
      simp (disch := first | assumption | omega) only [R.gantref5_Book, e11, e10, e9, e3, e4, eh, go_sem, ↓reduceIte, Nat.reduceEqDiff, reduceCtorEq, Nat.reduceAdd, Nat.reduceLeDiff, Nat.reduceLT, reduceIte, Int.reduceBEq, Int.reduceBNe, Int.reduceLT, Int.reduceLE, Int.reduceAdd, Int.reduceSub, Int.reduceMul, Int.reduceNeg, Int.reduceEq, Int.reduceNe, Nat.reduceMul, Nat.reduceSub]
      exact ⟨.nil, rfl, .inl ⟨rfl, List.eq_nil_of_length_eq_zero h0⟩⟩
    · simp (disch := first | assumption | omega) only [e11, e10, e9, e3, e4, eh, go_sem, ↓reduceIte, Nat.reduceEqDiff, reduceCtorEq, Nat.reduceAdd, Nat.reduceLeDiff, Nat.reduceLT, reduceIte, Int.reduceBEq, Int.reduceBNe, Int.reduceLT, Int.reduceLE, Int.reduceAdd, Int.reduceSub, Int.reduceMul, Int.reduceNeg, Int.reduceEq, Int.reduceNe, Nat.reduceMul, Nat.reduceSub]
      subst hQ
      simp (disch := first | assumption | omega) only [R.gantref5_Book, e11, e10, e9, e3, e4, eh, go_sem, ↓reduceIte, Nat.reduceEqDiff, reduceCtorEq, Nat.reduceAdd, Nat.reduceLeDiff, Nat.reduceLT, reduceIte, Int.reduceBEq, Int.reduceBNe, Int.reduceLT, Int.reduceLE, Int.reduceAdd, Int.reduceSub, Int.reduceMul, Int.reduceNeg, Int.reduceEq, Int.reduceNe, Nat.reduceMul, Nat.reduceSub]
      exact ⟨.app 1, rfl, .inr rfl⟩
end Go.Proofs.Ytpdajkbfemcdlaa
