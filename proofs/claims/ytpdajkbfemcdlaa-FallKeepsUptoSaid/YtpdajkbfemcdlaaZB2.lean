import Derived.Test.YtpdajkbfemcdlaaZB1
set_option linter.unusedSimpArgs false
set_option linter.unusedVariables false
set_option maxRecDepth 10000
namespace Go.Proofs.Ytpdajkbfemcdlaa
open Go.Ge Go.Sort
theorem dedupA_cons2 (c d : Cell) (r : List Cell) : dedupA (c :: d :: r) = if c = d then dedupA (d :: r) else c :: dedupA (d :: r) := rfl
theorem dedupA_snoc (x y : Cell) : ∀ p : List Cell, dedupA (p ++ [x, y]) = if x = y then dedupA (p ++ [x]) else dedupA (p ++ [x]) ++ [y]
  | [] => by
    show dedupA [x, y] = if x = y then [x] else [x] ++ [y]
    rw [dedupA_cons2]
    split
    · rename_i h; rw [h]; rfl
    · rfl
  | [c] => by
    have ih := dedupA_snoc x y []
    show dedupA (c :: x :: [y]) = if x = y then dedupA (c :: [x]) else dedupA (c :: [x]) ++ [y]
    by_cases h1 : c = x <;> by_cases h2 : x = y <;> simp [h1, h2, dedupA]
  | c :: d :: r => by
    have ih := dedupA_snoc x y (d :: r)
    show dedupA (c :: d :: (r ++ [x, y])) = if x = y then dedupA (c :: d :: (r ++ [x])) else dedupA (c :: d :: (r ++ [x])) ++ [y]
    rw [dedupA_cons2, dedupA_cons2, show dedupA (d :: (r ++ [x, y])) = _ from ih]
    by_cases h1 : c = d <;> by_cases h2 : x = y <;> simp [h1, h2]
theorem dedupA_take {l : List Cell} {m : Nat} (h : m + 1 < l.length) : dedupA (l.take (m + 2)) = if l[m] = l[m + 1] then dedupA (l.take (m + 1)) else dedupA (l.take (m + 1)) ++ [l[m + 1]] := by
  have e1 : l.take (m + 1) = l.take m ++ [l[m]] := by rw [List.take_add_one, List.getElem?_eq_getElem (by omega)]; rfl
  have e2 : l.take (m + 2) = l.take m ++ [l[m], l[m + 1]] := by
    rw [List.take_add_one (i := m + 1), e1, List.getElem?_eq_getElem h, List.append_assoc]; rfl
  rw [e2, e1, dedupA_snoc]
theorem dedupA_take' {l : List Cell} {a b : Nat} (hb : b < l.length) (ha : a + 1 = b) : dedupA (l.take (b + 1)) = if l[a] = l[b] then dedupA (l.take b) else dedupA (l.take b) ++ [l[b]] := by
  subst ha
  exact dedupA_take hb
theorem set_take {X : List Cell} {K : Nat} (h : K < X.length) (c : Cell) : (X.set K c).take (K + 1) = X.take K ++ [c] := by
  rw [List.take_add_one, List.getElem?_set_self h, List.take_set, List.set_eq_of_length_le (by rw [List.length_take]; omega)]; rfl
theorem flatC_fill {D E : List Cell} {rest zs : List AVal} : fillV (flatC (D ++ E) ++ rest) (D.length * 2) zs = flatC D ++ (zs ++ (flatC (D ++ E) ++ rest).drop (D.length * 2 + zs.length)) := by
  unfold fillV
  rw [flatC_append, List.append_assoc (flatC D), flatC_take, List.append_assoc]
theorem repC_len2 (n : Nat) (a b : AVal) : (repC n [a, b]).length = n * 2 := by
  unfold repC
  simp [List.length_flatten]
theorem cell_dec (a b : Cell) : (decide (a.X = b.X) && decide (a.Y = b.Y)) = decide (a = b) := by
  cases a; cases b; simp only [Cell.mk.injEq]; rw [Bool.decide_and]
theorem CompactShort_ok (id off n cap : Nat) (hn : n < 2) (h : List HObj) :
    ACalls Try.prog F.slices_Compact_Cell [.ref id off n cap] h (fun v h' => v = .ref id off n cap ∧ h' = h) := by
  refine ACalls.of_aw Try.func206 K.slices_Compact_Cell (by simp [Try.f206]) ?_
  generalize hQ : retQ R.slices_Compact_Cell _ = Q
  simp (disch := first | assumption | omega) only [C.slices_Compact_Cell, go_sem, ↓reduceIte, reduceCtorEq, reduceIte]
  have h0 : (n : Int) < 2 := by omega
  simp (disch := first | assumption | omega) only [h0, go_sem, ↓reduceIte, reduceCtorEq, reduceIte]
  subst hQ
  simp (disch := first | assumption | omega) only [R.slices_Compact_Cell, go_sem, ↓reduceIte, reduceIte]
theorem Compact_ok (l : List Cell) (id cap : Nat) (rest : List AVal) (h : List HObj) (hid : h[id]? = some (.cells (flatC l ++ rest))) (hn : l.length ≤ 65536) (hc : l.length ≤ cap) :
    ACalls Try.prog F.slices_Compact_Cell [.ref id 0 l.length cap] h (fun v h' => v = .ref id 0 (dedupA l).length cap ∧ ∃ rest', rest'.length + (dedupA l).length * 2 = rest.length + l.length * 2 ∧ h' = h.set id (.cells (flatC (dedupA l) ++ rest'))) := by
  have hidl : id < h.length := (List.getElem?_eq_some_iff.1 hid).1
  by_cases hs : l.length < 2
  · refine ACalls.mono (CompactShort_ok id 0 l.length cap hs h) ?_
    rintro v h' ⟨rfl, rfl⟩
    have e : dedupA l = l := by
      match l, hs with
      | [], _ => rfl
      | [c], _ => rfl
      | _ :: _ :: _, h => simp at h; omega
    rw [e]
    exact ⟨rfl, rest, rfl, by rw [set_same hid]⟩
  have hget : ∀ z, (h.set id z)[id]? = some z := fun z => List.getElem?_set_self hidl
  have hl2 := flatC_length l
  refine ACalls.of_aw Try.func206 K.slices_Compact_Cell (by simp [Try.f206]) ?_
  generalize hQ : retQ R.slices_Compact_Cell _ = Q
  simp (disch := first | assumption | omega) only [C.slices_Compact_Cell, go_sem, ↓reduceIte, reduceCtorEq, reduceIte]
  have h0 : ¬((l.length : Int) < 2) := by omega
  simp (disch := first | assumption | omega) only [h0, go_sem]
  refine aw_count (fun n S => ∃ (k : Nat), n = l.length - k ∧ k + 1 ≤ l.length ∧ S.env 3 = .int .i64 (k + 1 : Nat) ∧ S.env 0 = .ref id 0 l.length cap ∧ dedupA (l.take (k + 1)) = l.take (k + 1) ∧ S.heap = h) (n := l.length)
    ⟨0, by omega, by omega, by simp (disch := first | assumption | omega) only [go_sem, ↓reduceIte, reduceIte]; simp, by simp (disch := first | assumption | omega) only [go_sem, ↓reduceIte, reduceCtorEq, reduceIte], ?_, by simp (disch := first | assumption | omega) only [go_sem]⟩ ?_
  · cases l with
    | nil => rfl
    | cons c l => rfl
  rintro n S ⟨k, rfl, hk, e3, e0, hdd, eh⟩
  by_cases hlt : ((k + 1 : Nat) : Int) < l.length
  · have q1 := flatC_get (l := l) (j := k + 1) (rest := rest) (by omega)
    have q2 := flatC_get (l := l) (j := k) (rest := rest) (by omega)
    have hk1 : (((k + 1 : Nat) : Int) - 1).toNat = k := by omega
    have hk2 : (((k + 1 : Nat) : Int)).toNat = k + 1 := by omega
    have hk3 : (0 : Int) ≤ ((k + 1 : Nat) : Int) - 1 := by omega
    have hk4 : ((k + 1 : Nat) : Int) - 1 < l.length := by omega
    have hll : (flatC l ++ rest).length = l.length * 2 + rest.length := by rw [List.length_append, flatC_length]
    simp (disch := first | assumption | omega) only [e3, e0, eh, hlt, hid, q1, q2, hk1, hk2, hk3, hk4, hll, go_sem, ↓reduceIte, Nat.reduceEqDiff, reduceCtorEq, Nat.reduceLeDiff, reduceIte]
    repeat (refine And.intro ?_ ?_; omega)
    rw [cell_dec]
    by_cases he : l[k + 1] = l[k]
    · have hdd2 : dedupA (l.take (k + 2)) = l.take (k + 1) := by rw [dedupA_take (by omega), if_pos he.symm, hdd]
      simp (disch := first | assumption | omega) only [e3, e0, he, go_sem, ↓reduceIte, Nat.reduceEqDiff, reduceCtorEq, reduceIte]
      refine ⟨⟨by omega, by omega⟩, ?_⟩
      refine aw_count (fun n S => ∃ (q : Nat) (X : List Cell), n = l.length - (k + 1 + (q + 1)) ∧ k + 1 + (q + 1) ≤ l.length ∧ X.length = l.length ∧ (dedupA (l.take (k + (q + 1) + 1))).length ≤ k + (q + 1) ∧ X.take (dedupA (l.take (k + (q + 1) + 1))).length = dedupA (l.take (k + (q + 1) + 1)) ∧ (∀ j, k + (q + 1) ≤ j → X[j]? = l[j]?) ∧ S.env 3 = .int .i64 (dedupA (l.take (k + (q + 1) + 1))).length ∧ S.env 5 = .int .i64 (q + 1 : Nat) ∧ S.env 4 = .ref id ((k + 1) * 2) (l.length - (k + 1)) (cap - (k + 1)) ∧ S.env 0 = .ref id 0 l.length cap ∧ S.heap = h.set id (.cells (flatC X ++ rest))) (n := l.length - (k + 1 + (0 + 1)))
        ⟨0, l, rfl, by omega, rfl, by rw [hdd2, List.length_take]; omega, by rw [hdd2]; simp, fun j _ => rfl, by rw [hdd2]; simp (disch := first | assumption | omega) only [e3, go_sem, ↓reduceIte, Nat.reduceEqDiff, reduceIte]; rw [List.length_take, Nat.min_eq_left hk], by simp (disch := first | assumption | omega) only [go_sem, ↓reduceIte, reduceIte]; simp, by simp (disch := first | assumption | omega) only [go_sem, ↓reduceIte, Nat.reduceEqDiff, reduceIte], by simp (disch := first | assumption | omega) only [e0, go_sem, ↓reduceIte, reduceCtorEq, reduceIte], by simp (disch := first | assumption | omega) only [eh, go_sem]; rw [set_same hid]⟩ ?_
      clear e3 e0 eh q1 q2 hk1 hk2 hk3 hk4 hdd hdd2 he
      rintro n S ⟨q, X, rfl, hq, hX, hKm, hXK, hXl, e3, e5, e4, e0, eh⟩
      have hllX : (flatC X ++ rest).length = l.length * 2 + rest.length := by rw [List.length_append, flatC_length, hX]
      by_cases hlq : ((q + 1 : Nat) : Int) < ((l.length - (k + 1) : Nat) : Int)
      · have hlq2 : k + 1 + (q + 1) < l.length := by omega
        have hXa := hXl (k + 1 + (q + 1)) (by omega)
        have hXb := hXl (k + 1 + q) (by omega)
        rw [List.getElem?_eq_getElem (by omega), List.getElem?_eq_getElem hlq2, Option.some.injEq] at hXa
        rw [List.getElem?_eq_getElem (by omega), List.getElem?_eq_getElem (by omega), Option.some.injEq] at hXb
        have q1 := flatC_get (l := X) (j := k + 1 + (q + 1)) (rest := rest) (by omega)
        have q2 := flatC_get (l := X) (j := k + 1 + q) (rest := rest) (by omega)
        rw [hXa, show (k + 1 + (q + 1)) * 2 = (k + 1) * 2 + (q + 1) * 2 by omega] at q1
        rw [hXb, show (k + 1 + q) * 2 = (k + 1) * 2 + q * 2 by omega] at q2
        have hk1 : (((q + 1 : Nat) : Int) - 1).toNat = q := by omega
        have hk2 : (((q + 1 : Nat) : Int)).toNat = q + 1 := by omega
        have hk3 : (0 : Int) ≤ ((q + 1 : Nat) : Int) - 1 := by omega
        have hk4 : ((q + 1 : Nat) : Int) - 1 < ((l.length - (k + 1) : Nat) : Int) := by omega
        have hstep2 : dedupA (l.take (k + (q + 1 + 1) + 1)) = if l[k + 1 + q] = l[k + 1 + (q + 1)] then dedupA (l.take (k + (q + 1) + 1)) else dedupA (l.take (k + (q + 1) + 1)) ++ [l[k + 1 + (q + 1)]] := by
          have := dedupA_take' (l := l) (a := k + 1 + q) (b := k + 1 + (q + 1)) hlq2 (by omega)
          rw [show k + (q + 1 + 1) + 1 = k + 1 + (q + 1) + 1 by omega, show k + (q + 1) + 1 = k + 1 + (q + 1) by omega]
          exact this
        generalize hD : dedupA (l.take (k + (q + 1) + 1)) = D at *
        simp (disch := first | assumption | omega) only [e5, e4, eh, hlq, hget, hllX, q1, q2, hk1, hk2, hk3, hk4, go_sem, ↓reduceIte, Nat.reduceEqDiff, Nat.reduceLeDiff, reduceIte]
        repeat (refine And.intro ?_ ?_; omega)
        rw [cell_dec]
        by_cases he : l[k + 1 + (q + 1)] = l[k + 1 + q]
        · rw [if_pos he.symm] at hstep2
          simp (disch := first | assumption | omega) only [e3, e5, e4, e0, eh, he, go_sem, ↓reduceIte, Nat.reduceEqDiff, reduceCtorEq, reduceIte]
          exact ⟨l.length - (k + 1 + (q + 1 + 1)), by omega, q + 1, X, rfl, by omega, hX, by rw [hstep2]; omega, by rw [hstep2]; exact hXK, fun j hj => hXl j (by omega), by rw [hstep2], by simp, rfl⟩
        · rw [if_neg (fun e => he e.symm)] at hstep2
          have s1 := flatC_set (l := X) (j := D.length) (rest := rest) (c := l[k + 1 + (q + 1)]) (by omega)
          simp (disch := first | assumption | omega) only [e3, e5, e4, e0, eh, he, hget, hllX, q1, hk2, s1, hlq, List.set_set, go_sem, ↓reduceIte, Nat.reduceEqDiff, reduceCtorEq, Nat.reduceAdd, Nat.reduceLeDiff, reduceIte, Int.reduceAdd]
          repeat (refine And.intro ?_ ?_; omega)
          exact ⟨l.length - (k + 1 + (q + 1 + 1)), by omega, q + 1, X.set D.length l[k + 1 + (q + 1)], rfl, by omega, by simp [hX], by rw [hstep2]; simp; omega, by rw [hstep2, List.length_append, List.length_singleton, set_take (by omega), hXK], fun j hj => by rw [List.getElem?_set_ne (by omega)]; exact hXl j (by omega), by rw [hstep2]; simp, by simp, rfl⟩
      · generalize hD : dedupA (l.take (k + (q + 1) + 1)) = D at *
        have hkq : k + (q + 1) + 1 = l.length := by omega
        rw [hkq, List.take_length] at hD
        have hXs : X = D ++ X.drop D.length := by rw [← hXK]; rw [List.length_take]; rw [Nat.min_eq_left (by omega)]; exact (List.take_append_drop _ _).symm
        simp (disch := first | assumption | omega) only [e3, e5, e4, e0, eh, hlq, hget, hllX, aops_hop, hstep, go_sem, ↓reduceIte, Nat.reduceEqDiff, reduceCtorEq, reduceIte, Int.reduceLE]
        refine ⟨⟨by omega, by omega⟩, fun hz => ⟨by omega, ?_⟩, fun hz => ⟨by omega, by omega, ?_⟩⟩
        · subst hQ
          simp (disch := first | assumption | omega) only [R.slices_Compact_Cell, eh, go_sem, ↓reduceIte, reduceIte]
          rw [hD]
          exact ⟨rfl, flatC (X.drop D.length) ++ rest, by rw [List.length_append, flatC_length, List.length_drop]; omega, by rw [← List.append_assoc, ← flatC_append, ← hXs]⟩
        · subst hQ
          simp (disch := first | assumption | omega) only [R.slices_Compact_Cell, List.set_set, go_sem, ↓reduceIte, reduceIte]
          rw [hD]
          refine ⟨rfl, repC (l.length - D.length) [.int .i64 0, .int .i64 0] ++ (flatC X ++ rest).drop (D.length * 2 + (repC (l.length - D.length) [AVal.int .i64 0, .int .i64 0]).length), ?_, ?_⟩
          · rw [List.length_append, List.length_drop, repC_len2, hllX]; omega
          · rw [hXs, ← flatC_fill]
    · simp (disch := first | assumption | omega) only [e3, e0, eh, he, go_sem, ↓reduceIte, Nat.reduceEqDiff, reduceCtorEq, reduceIte]
      have hdd2 : dedupA (l.take (k + 2)) = l.take (k + 2) := by
        rw [dedupA_take (by omega), if_neg (fun e => he e.symm), hdd, List.take_add_one (i := k + 1), List.getElem?_eq_getElem (by omega)]; rfl
      exact ⟨l.length - (k + 1), by omega, k + 1, rfl, by omega, by simp, hdd2⟩
  · simp (disch := first | assumption | omega) only [e3, e0, hlt, go_sem, ↓reduceIte, Nat.reduceEqDiff, reduceCtorEq, reduceIte]
    subst hQ
    simp (disch := first | assumption | omega) only [R.slices_Compact_Cell, eh, go_sem, ↓reduceIte, reduceIte]
    have hkl : k + 1 = l.length := by omega
    rw [hkl, List.take_length] at hdd
    rw [hdd]
    exact ⟨rfl, rest, rfl, by rw [set_same hid]⟩
end Go.Proofs.Ytpdajkbfemcdlaa
set_option linter.unusedSimpArgs false
set_option linter.unusedVariables false
set_option maxRecDepth 10000
namespace Go.Proofs.Ytpdajkbfemcdlaa
open Go.Ge Go.Sort
def PredOk (g : Nat) (caps : List AVal) (p : Cell → Bool) (Inv : List HObj → Prop) : Prop := ∀ c h, Inv h → ACalls Try.prog g ([cellA c] ++ caps.map Ge.rdc) h (fun v h' => v = .bool (p c) ∧ h' = h)
def FoundC (p : Cell → Bool) (l : List Cell) (v : AVal) : Prop := (∃ (i : Nat) (hi : i < l.length), v = .int .i64 i ∧ p l[i] = true ∧ ∀ c ∈ l.take i, p c = false) ∨ (v = .int .i64 (-1) ∧ ∀ c ∈ l, p c = false)
theorem take_all_snoc {p : Cell → Bool} {l : List Cell} {i : Nat} (hi : i < l.length) (h : ∀ c ∈ l.take i, p c = false) (hc : p l[i] = false) : ∀ c ∈ l.take (i + 1), p c = false := by
  intro c hm
  rw [List.take_add_one, List.getElem?_eq_getElem hi] at hm
  rcases List.mem_append.1 hm with hm | hm
  · exact h c hm
  · simp only [Option.toList, List.mem_singleton] at hm
    rw [hm]; exact hc
theorem IndexFuncR_ok (g : Nat) (caps : List AVal) (p : Cell → Bool) (Inv : List HObj → Prop) (hp : PredOk g caps p Inv) (l : List Cell) (id cap : Nat) (rest : List AVal) (h : List HObj) (hid : h[id]? = some (.cells (flatC l ++ rest))) (hI : Inv h) (hn : l.length ≤ 65536) :
    ACalls Try.prog F.slices_IndexFunc_Cell [.ref id 0 l.length cap, .func g caps] h (fun v h' => FoundC p l v ∧ h' = h) := by
  have hll : (flatC l ++ rest).length = l.length * 2 + rest.length := by rw [List.length_append, flatC_length]
  refine ACalls.of_aw Try.func207 K.slices_IndexFunc_Cell (by simp [Try.f207]) ?_
  generalize hQ : retQ R.slices_IndexFunc_Cell _ = Q
  simp (disch := first | assumption | omega) only [C.slices_IndexFunc_Cell, go_sem, ↓reduceIte, reduceCtorEq, reduceIte, Int.reduceNeg]
  refine aw_count (fun n S => ∃ (i : Nat), i + n = l.length ∧ S.env 8 = .int .i64 i ∧ S.env 7 = .int .i64 l.length ∧ S.env 0 = .ref id 0 l.length cap ∧ S.env 1 = .func g caps ∧ (∀ c ∈ l.take i, p c = false) ∧ S.heap = h) (n := l.length) ⟨0, by omega, by simp (disch := first | assumption | omega) only [go_sem, ↓reduceIte, reduceIte], by simp (disch := first | assumption | omega) only [go_sem, ↓reduceIte, Nat.reduceEqDiff, reduceIte], by simp (disch := first | assumption | omega) only [go_sem, ↓reduceIte, reduceCtorEq, reduceIte], by simp (disch := first | assumption | omega) only [go_sem, ↓reduceIte, Nat.reduceEqDiff, reduceIte], by simp, by simp (disch := first | assumption | omega) only [go_sem]⟩ ?_
  rintro n S ⟨i, hi, e8, e7, e0, e1, hall, eh⟩
  by_cases hlt : (i : Int) < l.length
  · have q1 := flatC_get (l := l) (j := i) (rest := rest) (by omega)
    simp (disch := first | assumption | omega) only [e8, e7, e0, e1, eh, hlt, hid, q1, hll, go_sem, ↓reduceIte, Nat.reduceEqDiff, reduceCtorEq, Nat.reduceLeDiff, reduceIte, Int.reduceNeg]
    repeat (refine And.intro ?_ ?_; omega)
    refine callvqG_ok (hp l[i] _ (by simp (disch := first | assumption | omega) only [eh, go_sem]; exact hI)) (by simp (disch := first | assumption | omega) only [go_sem]) ?_
    rintro _ _ ⟨rfl, hhh⟩
    rw [hhh]
    clear hhh
    refine ⟨rfl, ?_⟩
    by_cases hx : p l[i] = true
    · simp (disch := first | assumption | omega) only [hx, go_sem, ↓reduceIte, Nat.reduceEqDiff, reduceIte, Int.reduceNeg]
      subst hQ
      simp (disch := first | assumption | omega) only [R.slices_IndexFunc_Cell, eh, go_sem, ↓reduceIte, reduceIte]
      exact .inl ⟨i, by omega, rfl, hx, hall⟩
    · have hx : p l[i] = false := by simpa using hx
      simp (disch := first | assumption | omega) only [e8, e7, e0, e1, eh, hx, go_sem, ↓reduceIte, Nat.reduceEqDiff, reduceCtorEq, reduceIte, Int.reduceNeg]
      exact ⟨n - 1, by omega, i + 1, by omega, by simp, take_all_snoc (by omega) hall hx⟩
  · have hil : i = l.length := by omega
    rw [hil, List.take_length] at hall
    simp (disch := first | assumption | omega) only [e8, e7, hlt, go_sem, ↓reduceIte, reduceIte, Int.reduceNeg]
    subst hQ
    simp (disch := first | assumption | omega) only [R.slices_IndexFunc_Cell, eh, go_sem, ↓reduceIte, reduceIte, Int.reduceNeg]
    exact .inr ⟨rfl, hall⟩
theorem IndexFuncV_ok (g : Nat) (caps : List AVal) (p : Cell → Bool) (Inv : List HObj → Prop) (hp : PredOk g caps p Inv) (o : Own) (l : List Cell) (ho : Rdo o) (h : List HObj) (hI : Inv h) (hn : l.length < 4611686018427387904) :
    ACalls Try.prog F.slices_IndexFunc_Cell [.lst o (cellsA l), .func g caps] h (fun v h' => FoundC p l v ∧ h' = h) := by
  refine ACalls.of_aw Try.func207 K.slices_IndexFunc_Cell (by simp [Try.f207]) ?_
  generalize hQ : retQ R.slices_IndexFunc_Cell _ = Q
  simp (disch := first | assumption | omega) only [C.slices_IndexFunc_Cell, go_sem, ↓reduceIte, reduceCtorEq, reduceIte, Int.reduceNeg]
  refine aw_count (fun n S => ∃ (i : Nat), i + n = l.length ∧ S.env 8 = .int .i64 i ∧ S.env 7 = .int .i64 l.length ∧ S.env 0 = .lst o (cellsA l) ∧ S.env 1 = .func g caps ∧ (∀ c ∈ l.take i, p c = false) ∧ S.heap = h) (n := l.length) ⟨0, by omega, by simp (disch := first | assumption | omega) only [go_sem, ↓reduceIte, reduceIte], by simp (disch := first | assumption | omega) only [go_sem, ↓reduceIte, Nat.reduceEqDiff, reduceIte], by simp (disch := first | assumption | omega) only [go_sem, ↓reduceIte, reduceCtorEq, reduceIte], by simp (disch := first | assumption | omega) only [go_sem, ↓reduceIte, Nat.reduceEqDiff, reduceIte], by simp, by simp (disch := first | assumption | omega) only [go_sem]⟩ ?_
  rintro n S ⟨i, hi, e8, e7, e0, e1, hall, eh⟩
  by_cases hlt : (i : Int) < l.length
  · have q1 := at_cells (l := l) (i := i) (by omega)
    have hi2 : i < l.length := by omega
    simp (disch := first | assumption | omega) only [e8, e7, e0, e1, hlt, q1, cellA, go_sem, ↓reduceIte, Nat.reduceEqDiff, reduceCtorEq, Nat.reduceAdd, Nat.reduceLeDiff, reduceIte, Int.reduceAdd, Int.reduceNeg]
    repeat (refine And.intro ?_ ?_; omega)
    refine callvqG_ok (hp l[i] _ (by simp (disch := first | assumption | omega) only [eh, go_sem]; exact hI)) (by simp (disch := first | assumption | omega) only [go_sem]) ?_
    rintro _ _ ⟨rfl, hhh⟩
    rw [hhh]
    clear hhh
    refine ⟨rfl, ?_⟩
    by_cases hx : p l[i] = true
    · simp (disch := first | assumption | omega) only [hx, go_sem, ↓reduceIte, Nat.reduceEqDiff, reduceIte, Int.reduceNeg]
      subst hQ
      simp (disch := first | assumption | omega) only [R.slices_IndexFunc_Cell, eh, go_sem, ↓reduceIte, reduceIte]
      exact .inl ⟨i, by omega, rfl, hx, hall⟩
    · have hx : p l[i] = false := by simpa using hx
      simp (disch := first | assumption | omega) only [e8, e7, e0, e1, eh, hx, go_sem, ↓reduceIte, Nat.reduceEqDiff, reduceCtorEq, reduceIte, Int.reduceNeg]
      exact ⟨n - 1, by omega, i + 1, by omega, by simp, take_all_snoc (by omega) hall hx⟩
  · have hil : i = l.length := by omega
    rw [hil, List.take_length] at hall
    simp (disch := first | assumption | omega) only [e8, e7, hlt, go_sem, ↓reduceIte, reduceIte, Int.reduceNeg]
    subst hQ
    simp (disch := first | assumption | omega) only [R.slices_IndexFunc_Cell, eh, go_sem, ↓reduceIte, reduceIte, Int.reduceNeg]
    exact .inr ⟨rfl, hall⟩
theorem ContainsFunc_ok (g : Nat) (caps : List AVal) (p : Cell → Bool) (Inv : List HObj → Prop) (hp : PredOk g caps p Inv) (o : Own) (l : List Cell) (ho : Rdo o) (h : List HObj) (hI : Inv h) (hn : l.length < 4611686018427387904) :
    ACalls Try.prog F.slices_ContainsFunc_Cell [.lst o (cellsA l), .func g caps] h (fun v h' => v = .bool (l.any p) ∧ h' = h) := by
  refine ACalls.of_aw Try.func195 K.slices_ContainsFunc_Cell (by simp [Try.f195]) ?_
  generalize hQ : retQ R.slices_ContainsFunc_Cell _ = Q
  simp (disch := first | assumption | omega) only [C.slices_ContainsFunc_Cell, go_sem, ↓reduceIte, Nat.reduceEqDiff, reduceCtorEq, reduceIte]
  refine callG_ok (IndexFuncV_ok g caps p Inv hp o l ho _ (by simp (disch := first | assumption | omega) only [go_sem]; exact hI) hn) (by simp (disch := first | assumption | omega) only [go_sem]) ?_
  rintro v _ ⟨hv, hhh⟩
  rw [hhh]
  clear hhh
  rcases hv with ⟨i, hi, rfl, hx, _⟩ | ⟨rfl, hx⟩
  · have h0 : (0 : Int) ≤ (i : Int) := by omega
    simp (disch := first | assumption | omega) only [h0, go_sem, ↓reduceIte, reduceIte]
    subst hQ
    simp (disch := first | assumption | omega) only [R.slices_ContainsFunc_Cell, go_sem, ↓reduceIte, reduceIte]
    rw [List.any_eq_true.2 ⟨l[i], List.getElem_mem hi, hx⟩]
  · simp (disch := first | assumption | omega) only [go_sem, ↓reduceIte, reduceIte, Int.reduceLE, Int.reduceNeg]
    subst hQ
    simp (disch := first | assumption | omega) only [R.slices_ContainsFunc_Cell, go_sem, ↓reduceIte, reduceIte, Int.reduceNeg]
    rw [List.any_eq_false.2 (fun c hc => by simp [hx c hc])]
end Go.Proofs.Ytpdajkbfemcdlaa
set_option linter.unusedSimpArgs false
set_option linter.unusedVariables false
set_option maxRecDepth 10000
namespace Go.Proofs.Ytpdajkbfemcdlaa
open Go.Ge Go.Sort
theorem filter_none {p : Cell → Bool} {l : List Cell} (h : ∀ c ∈ l, p c = false) : l.filter (fun c => !p c) = l := by
  rw [List.filter_eq_self]; intro c hc; simp [h c hc]
theorem filter_take_snoc {p : Cell → Bool} {l : List Cell} {i : Nat} (hi : i < l.length) : (l.take (i + 1)).filter (fun c => !p c) = if p l[i] = true then (l.take i).filter (fun c => !p c) else (l.take i).filter (fun c => !p c) ++ [l[i]] := by
  rw [List.take_add_one, List.getElem?_eq_getElem hi, List.filter_append]
  by_cases h : p l[i] = true <;> simp [h]
theorem DeleteShort_ok (g : Nat) (caps : List AVal) (id off cap : Nat) (h : List HObj) :
    ACalls Try.prog F.slices_IndexFunc_Cell [.ref id off 0 cap, .func g caps] h (fun v h' => v = .int .i64 (-1) ∧ h' = h) := by
  refine ACalls.of_aw Try.func207 K.slices_IndexFunc_Cell (by simp [Try.f207]) ?_
  generalize hQ : retQ R.slices_IndexFunc_Cell _ = Q
  simp (disch := first | assumption | omega) only [C.slices_IndexFunc_Cell, go_sem, ↓reduceIte, reduceCtorEq, reduceIte, Int.reduceNeg]
  refine aw_count (fun n S => S.env 8 = .int .i64 0 ∧ S.env 7 = .int .i64 0 ∧ S.heap = h) (n := 0) ⟨by simp (disch := first | assumption | omega) only [go_sem, ↓reduceIte, reduceIte], by simp (disch := first | assumption | omega) only [go_sem, ↓reduceIte, Nat.reduceEqDiff, reduceIte], by simp (disch := first | assumption | omega) only [go_sem]⟩ ?_
  rintro n S ⟨e8, e7, eh⟩
  simp (disch := first | assumption | omega) only [e8, e7, go_sem, ↓reduceIte, Nat.reduceLT, reduceIte, Int.reduceLT, Int.reduceNeg]
  subst hQ
  simp (disch := first | assumption | omega) only [R.slices_IndexFunc_Cell, eh, go_sem, ↓reduceIte, reduceIte, Int.reduceNeg]
theorem DeleteNone_ok (g : Nat) (caps : List AVal) (id off cap : Nat) (h : List HObj) :
    ACalls Try.prog F.slices_DeleteFunc_Cell [.ref id off 0 cap, .func g caps] h (fun v h' => v = .ref id off 0 cap ∧ h' = h) := by
  refine ACalls.of_aw Try.func183 K.slices_DeleteFunc_Cell (by simp [Try.f183]) ?_
  generalize hQ : retQ R.slices_DeleteFunc_Cell _ = Q
  simp (disch := first | assumption | omega) only [C.slices_DeleteFunc_Cell, go_sem, ↓reduceIte, Nat.reduceEqDiff, reduceCtorEq, reduceIte, Int.reduceNeg]
  refine callG_ok (DeleteShort_ok g caps id off cap _) (by simp (disch := first | assumption | omega) only [go_sem]) ?_
  rintro _ _ ⟨rfl, hhh⟩
  rw [hhh]
  clear hhh
  simp (disch := first | assumption | omega) only [go_sem, ↓reduceIte, reduceCtorEq, reduceIte, Int.reduceNeg]
  subst hQ
  simp (disch := first | assumption | omega) only [R.slices_DeleteFunc_Cell, go_sem, ↓reduceIte, reduceIte, Int.reduceNeg]
theorem DeleteFunc_ok (g : Nat) (caps : List AVal) (p : Cell → Bool) (Inv : List HObj → Prop) (hp : PredOk g caps p Inv) (l : List Cell) (id cap : Nat) (rest : List AVal) (h : List HObj) (hid : h[id]? = some (.cells (flatC l ++ rest))) (hI : ∀ z, Inv (h.set id z)) (hn : l.length ≤ 65536) (hc : l.length ≤ cap) :
    ACalls Try.prog F.slices_DeleteFunc_Cell [.ref id 0 l.length cap, .func g caps] h (fun v h' => v = .ref id 0 (l.filter (fun c => !p c)).length cap ∧ ∃ rest', rest'.length + (l.filter (fun c => !p c)).length * 2 = rest.length + l.length * 2 ∧ h' = h.set id (.cells (flatC (l.filter (fun c => !p c)) ++ rest'))) := by
  have hidl : id < h.length := (List.getElem?_eq_some_iff.1 hid).1
  have hIh : Inv h := by have := hI (.cells (flatC l ++ rest)); rwa [set_same hid] at this
  have hget : ∀ z, (h.set id z)[id]? = some z := fun z => List.getElem?_set_self hidl
  refine ACalls.of_aw Try.func183 K.slices_DeleteFunc_Cell (by simp [Try.f183]) ?_
  generalize hQ : retQ R.slices_DeleteFunc_Cell _ = Q
  simp (disch := first | assumption | omega) only [C.slices_DeleteFunc_Cell, go_sem, ↓reduceIte, Nat.reduceEqDiff, reduceCtorEq, reduceIte, Int.reduceNeg]
  refine callG_ok (IndexFuncR_ok g caps p Inv hp l id cap rest _ (by simp (disch := first | assumption | omega) only [hid, go_sem]) (by simp (disch := first | assumption | omega) only [go_sem]; exact hIh) hn) (by simp (disch := first | assumption | omega) only [go_sem]) ?_
  rintro v _ ⟨hv, hhh⟩
  rw [hhh]
  clear hhh
  rcases hv with ⟨i0, hi0, rfl, hx0, hall0⟩ | ⟨rfl, hall0⟩
  · have h1 : ¬ ((i0 : Int) = -1) := by omega
    have hf1 : (l.take (i0 + 1)).filter (fun c => !p c) = l.take i0 := by
      rw [filter_take_snoc hi0, if_pos hx0]
      exact filter_none hall0
    simp (disch := first | assumption | omega) only [h1, go_sem, ↓reduceIte, Nat.reduceEqDiff, reduceIte, Int.reduceNeg]
    refine aw_count (fun n S => ∃ (j : Nat) (X : List Cell), n = l.length - (j + 1) ∧ j + 1 ≤ l.length ∧ X.length = l.length ∧ ((l.take (j + 1)).filter (fun c => !p c)).length ≤ j ∧ X.take ((l.take (j + 1)).filter (fun c => !p c)).length = (l.take (j + 1)).filter (fun c => !p c) ∧ (∀ m, j + 1 ≤ m → X[m]? = l[m]?) ∧ S.env 5 = .int .i64 ((l.take (j + 1)).filter (fun c => !p c)).length ∧ S.env 6 = .int .i64 (j + 1 : Nat) ∧ S.env 0 = .ref id 0 l.length cap ∧ S.env 1 = .func g caps ∧ S.heap = h.set id (.cells (flatC X ++ rest))) (n := l.length - (i0 + 1))
      ⟨i0, l, rfl, by omega, rfl, by rw [hf1, List.length_take]; omega, by rw [hf1]; simp, fun m _ => rfl, by rw [hf1]; simp (disch := first | assumption | omega) only [go_sem, ↓reduceIte, Nat.reduceEqDiff, reduceIte]; rw [List.length_take, Nat.min_eq_left (by omega)], by simp (disch := first | assumption | omega) only [go_sem, ↓reduceIte, reduceIte]; simp, by simp (disch := first | assumption | omega) only [go_sem, ↓reduceIte, reduceCtorEq, reduceIte], by simp (disch := first | assumption | omega) only [go_sem, ↓reduceIte, Nat.reduceEqDiff, reduceIte], by simp (disch := first | assumption | omega) only [go_sem]; rw [set_same hid]⟩ ?_
    rintro n S ⟨j, X, rfl, hj, hX, hKm, hXK, hXl, e5, e6, e0, e1, eh⟩
    have hllX : (flatC X ++ rest).length = l.length * 2 + rest.length := by rw [List.length_append, flatC_length, hX]
    by_cases hlt : ((j + 1 : Nat) : Int) < l.length
    · have hXa := hXl (j + 1) (by omega)
      rw [List.getElem?_eq_getElem (by omega), List.getElem?_eq_getElem (by omega), Option.some.injEq] at hXa
      have q1 := flatC_get (l := X) (j := j + 1) (rest := rest) (by omega)
      rw [hXa] at q1
      have hk2 : (((j + 1 : Nat) : Int)).toNat = j + 1 := by omega
      have hst := filter_take_snoc (p := p) (l := l) (i := j + 1) (by omega)
      generalize hD : (l.take (j + 1)).filter (fun c => !p c) = D at *
      simp (disch := first | assumption | omega) only [e6, e0, e1, eh, hlt, hget, hllX, q1, hk2, go_sem, ↓reduceIte, Nat.reduceEqDiff, reduceCtorEq, Nat.reduceAdd, Nat.reduceLeDiff, reduceIte, Int.reduceAdd]
      repeat (refine And.intro ?_ ?_; omega)
      refine callvqG_ok (hp l[j + 1] _ (by simp (disch := first | assumption | omega) only [eh, go_sem]; exact hI _)) (by simp (disch := first | assumption | omega) only [go_sem]) ?_
      rintro _ _ ⟨rfl, hhh⟩
      rw [hhh]
      clear hhh
      refine ⟨rfl, ?_⟩
      by_cases hx : p l[j + 1] = true
      · rw [if_pos hx] at hst
        simp (disch := first | assumption | omega) only [e5, e6, e0, e1, eh, hx, drV_ref, go_sem, ↓reduceIte, Nat.reduceEqDiff, reduceCtorEq, reduceIte]
        exact ⟨l.length - (j + 1 + 1), by omega, j + 1, X, rfl, by omega, hX, by rw [hst]; omega, by rw [hst]; exact hXK, fun m hm => hXl m (by omega), by rw [hst], by simp, rfl⟩
      · rw [if_neg hx] at hst
        have hx : p l[j + 1] = false := by simpa using hx
        have s1 := flatC_set (l := X) (j := D.length) (rest := rest) (c := l[j + 1]) (by omega)
        simp (disch := first | assumption | omega) only [e5, e6, e0, e1, eh, hx, hget, hllX, s1, List.set_set, drV_ref, go_sem, ↓reduceIte, Nat.reduceEqDiff, reduceCtorEq, Nat.reduceAdd, Nat.reduceLeDiff, reduceIte, Int.reduceAdd]
        repeat (refine And.intro ?_ ?_; omega)
        exact ⟨l.length - (j + 1 + 1), by omega, j + 1, X.set D.length l[j + 1], rfl, by omega, by simp [hX], by rw [hst]; simp; omega, by rw [hst, List.length_append, List.length_singleton, set_take (by omega), hXK], fun m hm => by rw [List.getElem?_set_ne (by omega)]; exact hXl m (by omega), by rw [hst]; simp, by simp, rfl⟩
    · generalize hD : (l.take (j + 1)).filter (fun c => !p c) = D at *
      have hkq : j + 1 = l.length := by omega
      rw [hkq, List.take_length] at hD
      have hXs : X = D ++ X.drop D.length := by rw [← hXK]; rw [List.length_take]; rw [Nat.min_eq_left (by omega)]; exact (List.take_append_drop _ _).symm
      simp (disch := first | assumption | omega) only [e5, e6, e0, eh, hlt, hget, hllX, aops_hop, hstep, go_sem, ↓reduceIte, Nat.reduceEqDiff, reduceCtorEq, reduceIte, Int.reduceLE]
      refine ⟨⟨by omega, by omega⟩, fun hz => ⟨by omega, ?_⟩, fun hz => ⟨by omega, by omega, ?_⟩⟩
      · subst hQ
        simp (disch := first | assumption | omega) only [R.slices_DeleteFunc_Cell, eh, go_sem, ↓reduceIte, reduceIte]
        rw [hD]
        exact ⟨rfl, flatC (X.drop D.length) ++ rest, by rw [List.length_append, flatC_length, List.length_drop]; omega, by rw [← List.append_assoc, ← flatC_append, ← hXs]⟩
      · subst hQ
        simp (disch := first | assumption | omega) only [R.slices_DeleteFunc_Cell, List.set_set, go_sem, ↓reduceIte, reduceIte]
        rw [hD]
        refine ⟨rfl, repC (l.length - D.length) [.int .i64 0, .int .i64 0] ++ (flatC X ++ rest).drop (D.length * 2 + (repC (l.length - D.length) [AVal.int .i64 0, .int .i64 0]).length), ?_, ?_⟩
        · rw [List.length_append, List.length_drop, repC_len2, hllX]; omega
        · rw [hXs, ← flatC_fill]
  · simp (disch := first | assumption | omega) only [go_sem, ↓reduceIte, reduceCtorEq, reduceIte, Int.reduceNeg]
    subst hQ
    simp (disch := first | assumption | omega) only [R.slices_DeleteFunc_Cell, go_sem, ↓reduceIte, reduceIte, Int.reduceNeg]
    rw [filter_none hall0]
    exact ⟨rfl, rest, rfl, by rw [set_same hid]⟩
end Go.Proofs.Ytpdajkbfemcdlaa
set_option linter.unusedSimpArgs false
set_option linter.unusedVariables false
set_option maxRecDepth 10000
namespace Go.Proofs.Ytpdajkbfemcdlaa
open Go.Ge Go.Sort
theorem orderC_neg (a b : Cell) : orderC a b < 0 ↔ cellLt a b := by
  have := orderC_lt a b
  by_cases h : cellLt a b
  · simp only [h, not_true, iff_false, ge_iff_le, Int.not_le] at this; simp [h, this]
  · simp only [h, not_false_iff, iff_true, ge_iff_le] at this; simp [h]; omega
theorem up_at {l : List Cell} (h : Up l) {i j : Nat} (hi : i < j) (hj : j < l.length) : cellLt l[i] l[j] := List.pairwise_iff_getElem.1 h i j (by omega) hj hi
theorem BinarySearch_ok (o : Own) (l : List Cell) (c : Cell) (ho : Rdo o) (hu : Up l) (hn : l.length ≤ 65536) (h : List HObj) :
    ACalls Try.prog F.slices_BinarySearchFunc_Cell [.lst o (cellsA l), cellA c, .func F.grid_order []] h (fun v h' => (∃ i, v = .tup [.int .i64 i, .bool (decide (c ∈ l))]) ∧ h' = h) := by
  have hcf : CmpOk F.grid_order orderC := fun a b h => order_ok a b h
  refine ACalls.of_aw Try.func208 K.slices_BinarySearchFunc_Cell (by simp [Try.f208]) ?_
  generalize hQ : retQ R.slices_BinarySearchFunc_Cell _ = Q
  simp (disch := first | assumption | omega) only [C.slices_BinarySearchFunc_Cell, go_sem, ↓reduceIte, Nat.reduceEqDiff, reduceCtorEq, reduceIte]
  simp (disch := first | assumption | omega) only [cellA, go_sem]
  refine aw_count (fun n S => ∃ (i j : Nat), n = j - i ∧ i ≤ j ∧ j ≤ l.length ∧ (∀ m (hm : m < l.length), m < i → cellLt l[m] c) ∧ (∀ m (hm : m < l.length), j ≤ m → ¬cellLt l[m] c) ∧ S.env 9 = .int .i64 i ∧ S.env 10 = .int .i64 j ∧ S.env 8 = .int .i64 l.length ∧ S.env 0 = .lst o (cellsA l) ∧ S.env 2 = .func F.grid_order [] ∧ S.env 4 = .box 4 0 ∧ S.boxes 4 = some [.int .i64 c.X, .int .i64 c.Y] ∧ S.heap = h) (n := l.length)
    ⟨0, l.length, rfl, by omega, by omega, fun m _ h => by omega, fun m _ h => by omega, by simp (disch := first | assumption | omega) only [go_sem, ↓reduceIte, Nat.reduceEqDiff, reduceIte], by simp (disch := first | assumption | omega) only [go_sem, ↓reduceIte, reduceIte], by simp (disch := first | assumption | omega) only [go_sem, ↓reduceIte, Nat.reduceEqDiff, reduceIte], by simp (disch := first | assumption | omega) only [go_sem, ↓reduceIte, reduceCtorEq, reduceIte], by simp (disch := first | assumption | omega) only [go_sem, ↓reduceIte, Nat.reduceEqDiff, reduceIte], by simp (disch := first | assumption | omega) only [go_sem, ↓reduceIte, Nat.reduceEqDiff, reduceIte], by simp (disch := first | assumption | omega) only [go_sem, ↓reduceIte, reduceIte], by simp (disch := first | assumption | omega) only [go_sem]⟩ ?_
  rintro n S ⟨i, j, rfl, hij, hj, hlo, hhi, e9, e10, e8, e0, e2, e4, eb, eh⟩
  by_cases hlt : (i : Int) < j
  · have hh : IntKind.i64.wrap (((i : Int) + j).fdiv (2 ^ min (Int.toNat 1) 64)) = (((i + j) / 2 : Nat) : Int) := by
      rw [show ((2 : Int) ^ min (Int.toNat 1) 64) = 2 from rfl, Int.fdiv_eq_ediv_of_nonneg _ (by omega)]
      rw [wrapI64 (by omega) (by omega)]; omega
    generalize hm : (i + j) / 2 = m at hh
    have hml : m < l.length := by omega
    have q1 := at_cells (l := l) (i := m) hml
    have hmz : (m : Int) < l.length := by omega
    simp (disch := first | assumption | omega) only [e9, e10, e0, e2, e4, eb, hlt, cellA, hh, q1, hmz, go_sem, ↓reduceIte, Nat.reduceEqDiff, reduceCtorEq, Nat.reduceAdd, Nat.reduceLeDiff, reduceIte, Int.reduceLE, Int.reduceAdd]
    refine callvqG_ok (hcf l[m] c _) (by simp (disch := first | assumption | omega) only [go_sem]) ?_
    rintro _ _ ⟨rfl, hhh⟩
    rw [hhh]
    clear hhh
    refine ⟨rfl, ?_⟩
    by_cases hx : orderC l[m] c < 0
    · have hx2 := (orderC_neg _ _).1 hx
      simp (disch := first | assumption | omega) only [e10, e8, e0, e2, e4, eb, eh, hx, go_sem, ↓reduceIte, Nat.reduceEqDiff, reduceCtorEq, reduceIte]
      exact ⟨j - (m + 1), by omega, m + 1, j, rfl, by omega, hj, fun k hk hkm => by
        rcases Nat.lt_or_eq_of_le (Nat.le_of_lt_succ hkm) with h1 | rfl
        · exact cellLt_trans (up_at hu h1 hml) hx2
        · exact hx2, hhi, by simp, rfl⟩
    · have hx2 := fun e => hx ((orderC_neg _ _).2 e)
      simp (disch := first | assumption | omega) only [e9, e8, e0, e2, e4, eb, eh, hx, go_sem, ↓reduceIte, Nat.reduceEqDiff, reduceCtorEq, reduceIte]
      exact ⟨m - i, by omega, i, m, rfl, by omega, by omega, hlo, fun k hk hkm e => by
        rcases Nat.lt_or_eq_of_le hkm with h1 | rfl
        · exact hx2 (cellLt_trans (up_at hu h1 hk) e)
        · exact hx2 e, rfl, rfl⟩
  · have hij2 : i = j := by omega
    subst hij2
    have hmem : ∀ (hi : i < l.length), c ∈ l ↔ l[i] = c := fun hi => by
      constructor
      · intro hc
        obtain ⟨m, hm, rfl⟩ := List.mem_iff_getElem.1 hc
        have h1 : ¬ m < i := fun h => cellLt_irrefl _ (hlo m hm h)
        rcases Nat.lt_or_eq_of_le (Nat.le_of_not_lt h1) with h2 | rfl
        · exact absurd (up_at hu h2 hm) (hhi i hi (Nat.le_refl _))
        · rfl
      · rintro rfl; exact List.getElem_mem hi
    have hnm : ¬ i < l.length → c ∉ l := fun hi hc => by
      obtain ⟨m, hm, rfl⟩ := List.mem_iff_getElem.1 hc
      exact cellLt_irrefl _ (hlo m hm (by omega))
    by_cases hil : i < l.length
    · have q1 := at_cells (l := l) (i := i) hil
      have hmz : (i : Int) < l.length := by omega
      simp (disch := first | assumption | omega) only [e9, e10, e8, e0, e2, e4, eb, hlt, cellA, q1, hmz, go_sem, ↓reduceIte, Nat.reduceEqDiff, reduceCtorEq, Nat.reduceAdd, Nat.reduceLeDiff, reduceIte, Int.reduceAdd]
      refine callvqG_ok (hcf l[i] c _) (by simp (disch := first | assumption | omega) only [go_sem]) ?_
      rintro _ _ ⟨rfl, hhh⟩
      rw [hhh]
      clear hhh
      refine ⟨rfl, ?_⟩
      simp (disch := first | assumption | omega) only [go_sem, ↓reduceIte, Nat.reduceEqDiff, reduceIte]
      subst hQ
      simp (disch := first | assumption | omega) only [R.slices_BinarySearchFunc_Cell, eh, go_sem, ↓reduceIte, Nat.reduceEqDiff, reduceIte]
      refine ⟨i, ?_⟩
      congr 4
      rw [decide_eq_decide, orderC_zero]
      exact (hmem hil).symm
    · have hmz : ¬ (i : Int) < l.length := by omega
      simp (disch := first | assumption | omega) only [e9, e10, e8, hlt, hmz, go_sem, ↓reduceIte, Nat.reduceEqDiff, reduceIte]
      subst hQ
      simp (disch := first | assumption | omega) only [R.slices_BinarySearchFunc_Cell, eh, go_sem, ↓reduceIte, Nat.reduceEqDiff, reduceIte]
      refine ⟨i, ?_⟩
      rw [decide_eq_false (hnm hil)]
theorem has_ok (o : Own) (l : List Cell) (c : Cell) (ho : Rdo o) (hu : Up l) (hn : l.length ≤ 65536) (h : List HObj) :
    ACalls Try.prog F.grid_has [.lst o (cellsA l), cellA c] h (fun v h' => v = .bool (decide (c ∈ l)) ∧ h' = h) := by
  refine ACalls.of_aw Try.func185 K.grid_has (by simp [Try.f185]) ?_
  generalize hQ : retQ R.grid_has _ = Q
  simp (disch := first | assumption | omega) only [C.grid_has, go_sem, ↓reduceIte, Nat.reduceEqDiff, reduceCtorEq, Nat.reduceLeDiff, reduceIte]
  simp (disch := first | assumption | omega) only [cellA, go_sem, Nat.reduceAdd, Nat.reduceLeDiff, Int.reduceAdd]
  refine callG_ok (BinarySearch_ok o l c ho hu hn _) (by simp (disch := first | assumption | omega) only [go_sem]) ?_
  rintro _ _ ⟨⟨i, rfl⟩, hhh⟩
  rw [hhh]
  clear hhh
  simp (disch := first | assumption | omega) only [go_sem, ↓reduceIte, Nat.reduceEqDiff, Nat.reduceAdd, Nat.reduceLT, reduceIte, Int.reduceLT, Int.reduceAdd]
  subst hQ
  simp (disch := first | assumption | omega) only [R.grid_has, go_sem, ↓reduceIte, reduceIte]
def HoldC (bid : Nat) (l : List Cell) (h : List HObj) : Prop := h[bid]? = some (.cells [.lst (.app 2) (cellsA l)])
theorem notIn2_ok (l : List Cell) (bid : Nat) (hu : Up l) (hn : l.length ≤ 65536) : PredOk F.grid_Within_1 [.hp bid 0] (fun c => !decide (c ∈ l)) (HoldC bid l) := by
  intro c h hh
  unfold HoldC at hh
  show ACalls Try.prog F.grid_Within_1 [cellA c, .hp bid 0] h _
  refine ACalls.of_aw Try.func196 K.grid_Within_1 (by simp [Try.f196]) ?_
  generalize hQ : retQ R.grid_Within_1 _ = Q
  simp (disch := first | assumption | omega) only [C.grid_Within_1, go_sem, ↓reduceIte, Nat.reduceEqDiff, Nat.reduceLeDiff, reduceIte]
  simp (disch := first | assumption | omega) only [cellA, hh, go_sem, ↓reduceIte, Nat.reduceEqDiff, Nat.reduceAdd, Nat.reduceLeDiff, Nat.reduceLT, reduceIte, Int.reduceLT, Int.reduceAdd]
  refine callG_ok (has_ok .sh l c (.inl rfl) hu hn _) (by simp (disch := first | assumption | omega) only [go_sem]) ?_
  rintro _ _ ⟨rfl, hhh⟩
  rw [hhh]
  clear hhh
  simp (disch := first | assumption | omega) only [go_sem, ↓reduceIte, reduceIte]
  subst hQ
  simp (disch := first | assumption | omega) only [R.grid_Within_1, go_sem, ↓reduceIte, reduceIte]
theorem isIn_ok (l : List Cell) (bid : Nat) (hu : Up l) (hn : l.length ≤ 65536) : PredOk F.grid_Minus_1 [.hp bid 0] (fun c => decide (c ∈ l)) (HoldC bid l) := by
  intro c h hh
  unfold HoldC at hh
  show ACalls Try.prog F.grid_Minus_1 [cellA c, .hp bid 0] h _
  refine ACalls.of_aw Try.func193 K.grid_Minus_1 (by simp [Try.f193]) ?_
  generalize hQ : retQ R.grid_Minus_1 _ = Q
  simp (disch := first | assumption | omega) only [C.grid_Minus_1, go_sem, ↓reduceIte, Nat.reduceEqDiff, Nat.reduceLeDiff, reduceIte]
  simp (disch := first | assumption | omega) only [cellA, hh, go_sem, ↓reduceIte, Nat.reduceEqDiff, Nat.reduceAdd, Nat.reduceLeDiff, Nat.reduceLT, reduceIte, Int.reduceLT, Int.reduceAdd]
  refine callG_ok (has_ok .sh l c (.inl rfl) hu hn _) (by simp (disch := first | assumption | omega) only [go_sem]) ?_
  rintro _ _ ⟨rfl, hhh⟩
  rw [hhh]
  clear hhh
  simp (disch := first | assumption | omega) only [go_sem, ↓reduceIte, reduceIte]
  subst hQ
  simp (disch := first | assumption | omega) only [R.grid_Minus_1, go_sem, ↓reduceIte, reduceIte]
end Go.Proofs.Ytpdajkbfemcdlaa
set_option linter.unusedSimpArgs false
set_option linter.unusedVariables false
set_option maxRecDepth 10000
namespace Go.Proofs.Ytpdajkbfemcdlaa
open Go.Ge Go.Sort
theorem insEmpty_ok (f id off cap : Nat) (h : List HObj) : ACalls Try.prog F.slices_insertionSortCmpFunc_Cell [.ref id off 0 cap, .int .i64 0, .int .i64 0, .func f []] h (fun v h' => v = .tup [] ∧ h' = h) := by
  refine ACalls.of_aw Try.func219 K.slices_insertionSortCmpFunc_Cell (by simp [Try.f219]) ?_
  generalize hQ : retQ R.slices_insertionSortCmpFunc_Cell _ = Q
  simp (disch := first | assumption | omega) only [C.slices_insertionSortCmpFunc_Cell, go_sem, ↓reduceIte, reduceIte]
  refine aw_count (fun d S => S.env 8 = .int .i64 1 ∧ S.env 2 = .int .i64 0 ∧ S.heap = h) (n := 0) ⟨by simp (disch := first | assumption | omega) only [go_sem, ↓reduceIte, reduceIte], by simp (disch := first | assumption | omega) only [go_sem, ↓reduceIte, Nat.reduceEqDiff, reduceIte], by simp (disch := first | assumption | omega) only [go_sem]⟩ ?_
  rintro d S ⟨e8, e2, eh⟩
  simp (disch := first | assumption | omega) only [e8, e2, go_sem, ↓reduceIte, Nat.reduceEqDiff, Nat.reduceLT, reduceIte, Int.reduceLT]
  subst hQ
  simp (disch := first | assumption | omega) only [R.slices_insertionSortCmpFunc_Cell, eh, go_sem]
theorem pdqEmpty_ok (f id off cap : Nat) (lim : Int) (h : List HObj) : ACalls Try.prog F.slices_pdqsortCmpFunc_Cell [.ref id off 0 cap, .int .i64 0, .int .i64 0, .int .i64 lim, .func f []] h (fun v h' => v = .tup [] ∧ h' = h) := by
  refine ACalls.of_aw Try.func203 K.slices_pdqsortCmpFunc_CellF (by simp [Try.f203]) ?_
  generalize hQ : retQ R.slices_pdqsortCmpFunc_CellF _ = Q
  simp (disch := first | assumption | omega) only [C.slices_pdqsortCmpFunc_CellF, go_sem]
  refine aw_count (fun d S => S.env 0 = .ref id off 0 cap ∧ S.env 1 = .int .i64 0 ∧ S.env 2 = .int .i64 0 ∧ S.env 4 = .func f [] ∧ S.heap = h) (n := 0) ⟨by simp (disch := first | assumption | omega) only [go_sem, ↓reduceIte, reduceCtorEq, reduceIte], by simp (disch := first | assumption | omega) only [go_sem, ↓reduceIte, Nat.reduceEqDiff, reduceIte], by simp (disch := first | assumption | omega) only [go_sem, ↓reduceIte, Nat.reduceEqDiff, reduceIte], by simp (disch := first | assumption | omega) only [go_sem, ↓reduceIte, Nat.reduceEqDiff, reduceIte], by simp (disch := first | assumption | omega) only [go_sem]⟩ ?_
  rintro d S ⟨e0, e1, e2, e4, eh⟩
  simp (disch := first | assumption | omega) only [e0, e1, e2, e4, go_sem, ↓reduceIte, Nat.reduceEqDiff, reduceCtorEq, reduceIte, Int.reduceLE]
  refine callG_ok (insEmpty_ok f id off cap _) (by simp (disch := first | assumption | omega) only [go_sem]) ?_
  rintro _ _ ⟨rfl, hhh⟩
  rw [hhh]
  clear hhh
  simp (disch := first | assumption | omega) only [go_sem]
  subst hQ
  simp (disch := first | assumption | omega) only [R.slices_pdqsortCmpFunc_CellF, eh, go_sem]
theorem SortEmpty_ok (f id off cap : Nat) (h : List HObj) : ACalls Try.prog F.slices_SortFunc_Cell [.ref id off 0 cap, .func f []] h (fun v h' => v = .tup [] ∧ h' = h) := by
  refine ACalls.of_aw Try.func180 K.slices_SortFunc_Cell (by simp [Try.f180]) ?_
  generalize hQ : retQ R.slices_SortFunc_Cell _ = Q
  simp (disch := first | assumption | omega) only [C.slices_SortFunc_Cell, go_sem, ↓reduceIte, Nat.reduceEqDiff, reduceCtorEq, reduceIte]
  refine callG_ok (BLen_ok 0 (by omega) _) (by simp (disch := first | assumption | omega) only [go_sem]) ?_
  rintro _ _ ⟨⟨r, rfl⟩, hhh⟩
  rw [hhh]
  clear hhh
  simp (disch := first | assumption | omega) only [go_sem, ↓reduceIte, Nat.reduceEqDiff, reduceIte]
  refine callG_ok (pdqEmpty_ok f id off cap r _) (by simp (disch := first | assumption | omega) only [go_sem]) ?_
  rintro _ _ ⟨rfl, hhh⟩
  rw [hhh]
  clear hhh
  simp (disch := first | assumption | omega) only [go_sem]
  subst hQ
  simp (disch := first | assumption | omega) only [R.slices_SortFunc_Cell, go_sem]
theorem idsRep (n : Nat) {m : Nat} : idsL (List.replicate n .junk) ≤ m := by
  rw [idsL_le]
  intro x hx
  rw [List.eq_of_mem_replicate hx]
  exact Nat.zero_le _
theorem normC_nil : normC [] = [] := by
  have := normC_len []
  exact List.eq_nil_of_length_eq_zero (by simpa using this)
theorem CompactN_ok (l : List Cell) (N : Nat) (hN : l.length = N) (id cap : Nat) (rest : List AVal) (h : List HObj) (hid : h[id]? = some (.cells (flatC l ++ rest))) (hn : l.length ≤ 65536) (hc : l.length ≤ cap) :
    ACalls Try.prog F.slices_Compact_Cell [.ref id 0 N cap] h (fun v h' => v = .ref id 0 (dedupA l).length cap ∧ ∃ rest', rest'.length + (dedupA l).length * 2 = rest.length + l.length * 2 ∧ h' = h.set id (.cells (flatC (dedupA l) ++ rest'))) := by
  subst hN
  exact Compact_ok l id cap rest h hid hn hc
def SortedQ (l : List Cell) (h : List HObj) (r : AVal) (h' : List HObj) : Prop := r = .ref 0 0 0 0 ∧ l = [] ∧ h' = h ∨ ∃ cap rest, r = .ref h.length 0 (normC l).length cap ∧ (normC l).length ≤ cap ∧ 0 < cap ∧ rest.length = (cap - (normC l).length) * 2 ∧ h' = h ++ [.cells (flatC (normC l) ++ rest)]
theorem sortedR_ok (o : Own) (L : List (List Cell)) (xs : List AVal) (ho : Rdo o) (hx : Each2 CellsOk L xs) (hne : 0 < L.length) (hl : L.length ≤ 65536) (hb : L.flatten.length < 65536) (h : List HObj) :
    ACalls Try.prog F.grid_sorted [.lst o xs] h (fun r h' => SortedQ L.flatten h r h') := by
  have hcf : CmpOk F.grid_order orderC := fun a b h => order_ok a b h
  refine ACalls.of_aw Try.func182 K.grid_sorted (by simp [Try.f182]) ?_
  generalize hQ : retQ R.grid_sorted _ = Q
  simp (disch := first | assumption | omega) only [C.grid_sorted, go_sem, ↓reduceIte, reduceCtorEq, reduceIte]
  refine callG_ok (ConcatCell_ok o L xs ho hx hne hl (by omega) _) (by simp (disch := first | assumption | omega) only [go_sem]) ?_
  rintro r h1 hr
  rcases hr with ⟨rfl, hnil, rfl⟩ | ⟨cap, hnn, rfl, hcap, rfl⟩
  · simp (disch := first | assumption | omega) only [go_sem, ↓reduceIte, reduceIte]
    refine callG_ok (SortEmpty_ok F.grid_order 0 0 0 _) (by simp (disch := first | assumption | omega) only [go_sem]) ?_
    rintro _ _ ⟨rfl, hhh⟩
    rw [hhh]
    clear hhh
    simp (disch := first | assumption | omega) only [go_sem, ↓reduceIte, Nat.reduceEqDiff, reduceIte]
    refine callG_ok (CompactShort_ok 0 0 0 0 (by omega) _) (by simp (disch := first | assumption | omega) only [go_sem]) ?_
    rintro _ _ ⟨rfl, hhh⟩
    rw [hhh]
    clear hhh
    simp (disch := first | assumption | omega) only [go_sem, ↓reduceIte, reduceIte]
    subst hQ
    simp (disch := first | assumption | omega) only [R.grid_sorted, go_sem, ↓reduceIte, reduceIte]
    exact .inl ⟨rfl, hnil, rfl⟩
  · generalize L.flatten = l at *
    have hpos : 0 < l.length := List.length_pos_iff.2 hnn
    simp (disch := first | assumption | omega) only [go_sem, ↓reduceIte, reduceIte]
    refine callG_ok (SortFunc_ok F.grid_order orderC hcf swoC antiC l h.length cap (List.replicate ((cap - l.length) * 2) .junk) _ (by simp (disch := first | assumption | omega) only [go_sem]) hb (idsRep _)) (by simp (disch := first | assumption | omega) only [go_sem]) ?_
    rintro _ _ ⟨rfl, rfl⟩
    have hsl : l.length = (sortC l).length := (sortC_len l).symm
    have hset : ∀ (x y : HObj), (h ++ [x]).set h.length y = h ++ [y] := fun x y => by simp
    simp (disch := first | assumption | omega) only [hset, go_sem, ↓reduceIte, Nat.reduceEqDiff, reduceIte]
    refine callG_ok (CompactN_ok (sortC l) l.length hsl.symm h.length cap (List.replicate ((cap - l.length) * 2) .junk) _ (by simp (disch := first | assumption | omega) only [go_sem]; simp [sortC]) (by omega) (by omega)) (by simp (disch := first | assumption | omega) only [go_sem]) ?_
    rintro _ _ ⟨rfl, rest', hrest, rfl⟩
    simp (disch := first | assumption | omega) only [hset, go_sem, ↓reduceIte, reduceIte]
    subst hQ
    simp (disch := first | assumption | omega) only [R.grid_sorted, go_sem, ↓reduceIte, reduceIte]
    have hnl := normC_len l
    rw [List.length_replicate] at hrest
    have hrest2 : rest'.length + (normC l).length * 2 = (cap - l.length) * 2 + (sortC l).length * 2 := hrest
    refine .inr ⟨cap, rest', rfl, by omega, by omega, by omega, rfl⟩
end Go.Proofs.Ytpdajkbfemcdlaa
set_option linter.unusedSimpArgs false
set_option linter.unusedVariables false
set_option maxRecDepth 10000
namespace Go.Proofs.Ytpdajkbfemcdlaa
open Go.Ge Go.Sort
theorem sortedA_ok (o : Own) (L : List (List Cell)) (xs : List AVal) (ho : Rdo o) (hx : Each2 CellsOk L xs) (hne : 0 < L.length) (hl : L.length ≤ 65536) (hb : L.flatten.length < 65536) (h : List HObj) :
    ACalls Try.prog F.grid_sorted [.lst o xs] h (fun r h' => r = .lst (.app 2) (cellsA (normC L.flatten)) ∧ h' = h) := by
  have hcf : CmpOk F.grid_order orderC := fun a b h => order_ok a b h
  refine ACalls.gcn (ACalls.of_aw Try.func182 K.grid_sortedA (by simp [Try.f182]) ?_)
  generalize hQ : retQ R.grid_sortedA _ = Q
  simp (disch := first | assumption | omega) only [C.grid_sortedA, go_sem, ↓reduceIte, reduceCtorEq, reduceIte]
  refine callG_ok (ConcatCell_ok o L xs ho hx hne hl (by omega) _) (by simp (disch := first | assumption | omega) only [go_sem]) ?_
  rintro r h1 hr
  rcases hr with ⟨rfl, hnil, rfl⟩ | ⟨cap, hnn, rfl, hcap, rfl⟩
  · simp (disch := first | assumption | omega) only [go_sem, ↓reduceIte, reduceIte]
    refine callG_ok (SortEmpty_ok F.grid_order 0 0 0 _) (by simp (disch := first | assumption | omega) only [go_sem]) ?_
    rintro _ _ ⟨rfl, hhh⟩
    rw [hhh]
    clear hhh
    simp (disch := first | assumption | omega) only [go_sem, ↓reduceIte, Nat.reduceEqDiff, reduceIte]
    refine callG_ok (CompactShort_ok 0 0 0 0 (by omega) _) (by simp (disch := first | assumption | omega) only [go_sem]) ?_
    rintro _ _ ⟨rfl, hhh⟩
    rw [hhh]
    clear hhh
    simp (disch := first | assumption | omega) only [go_sem, ↓reduceIte, reduceIte]
    refine own_empty (id := 0) (off := 0) (cap := 0) (by simp (disch := first | assumption | omega) only [go_sem, ↓reduceIte, reduceIte]) (fun h => absurd rfl h) (fun h => by cases h) (by omega) ?_
    rintro hp hhp
    have hhp : hp = h1 := by
      rcases hhp with ⟨rfl, _⟩ | ⟨_, h0⟩
      · simp (disch := first | assumption | omega) only [go_sem]
      · exact absurd rfl h0
    subst hhp
    rw [aw_grab]
    simp (disch := first | assumption | omega) only [go_sem, ↓reduceIte, reduceIte]
    subst hQ
    simp (disch := first | assumption | omega) only [R.grid_sortedA, go_sem, ↓reduceIte, reduceIte]
    rw [hnil, normC_nil]
    exact ⟨[], by simp, by simp [AVal.ids, idsL], rfl⟩
  · generalize L.flatten = l at *
    have hpos : 0 < l.length := List.length_pos_iff.2 hnn
    simp (disch := first | assumption | omega) only [go_sem, ↓reduceIte, reduceIte]
    refine callG_ok (SortFunc_ok F.grid_order orderC hcf swoC antiC l h.length cap (List.replicate ((cap - l.length) * 2) .junk) _ (by simp (disch := first | assumption | omega) only [go_sem]) hb (idsRep _)) (by simp (disch := first | assumption | omega) only [go_sem]) ?_
    rintro _ _ ⟨rfl, rfl⟩
    have hsl : l.length = (sortC l).length := (sortC_len l).symm
    have hset : ∀ (x y : HObj), (h ++ [x]).set h.length y = h ++ [y] := fun x y => by simp
    simp (disch := first | assumption | omega) only [hset, go_sem, ↓reduceIte, Nat.reduceEqDiff, reduceIte]
    refine callG_ok (CompactN_ok (sortC l) l.length hsl.symm h.length cap (List.replicate ((cap - l.length) * 2) .junk) _ (by simp (disch := first | assumption | omega) only [go_sem]; simp [sortC]) (by omega) (by omega)) (by simp (disch := first | assumption | omega) only [go_sem]) ?_
    rintro _ _ ⟨rfl, rest', hrest, rfl⟩
    have hnl := normC_len l
    rw [List.length_replicate] at hrest
    have hrest2 : rest'.length + (normC l).length * 2 = (cap - l.length) * 2 + (sortC l).length * 2 := hrest
    rw [show dedupA (sortC l) = normC l from rfl]
    simp (disch := first | assumption | omega) only [hset, go_sem, ↓reduceIte, reduceIte]
    refine own_cells (cs := normC l) (cap := cap) (rest := rest') (id := h.length) (by simp (disch := first | assumption | omega) only [go_sem, ↓reduceIte, reduceIte]) (by simp (disch := first | assumption | omega) only [go_sem]) (by omega) (by omega) (by omega) ?_
    rw [aw_grab]
    simp (disch := first | assumption | omega) only [go_sem, ↓reduceIte, reduceIte]
    subst hQ
    simp (disch := first | assumption | omega) only [R.grid_sortedA, go_sem, ↓reduceIte, reduceIte]
    exact ⟨[.dead], by simp, by simp [AVal.ids, cells_ids]⟩
theorem Join_ok (o p : Own) (a b : List Cell) (ho : Rdn o a) (hp : Rdn p b) (hl : a.length + b.length < 65536) (h : List HObj) :
    ACalls Try.prog F.grid_Join [.lst o (cellsA a), .lst p (cellsA b)] h (fun v h' => v = .lst (.app 2) (cellsA (joinC a b)) ∧ h' = h) := by
  have ho1 := ho.1
  have hp1 := hp.1
  refine ACalls.of_aw Try.func178 K.grid_Join (by simp [Try.f178]) ?_
  generalize hQ : retQ R.grid_Join _ = Q
  simp (disch := first | assumption | omega) only [C.grid_Join, go_sem, ↓reduceIte, Nat.reduceEqDiff, reduceCtorEq, Nat.reduceAdd, Nat.reduceLeDiff, reduceIte, Int.reduceAdd, Int.reduceMul, Nat.reduceMul]
  refine callG_ok (sortedA_ok .sh [a, b] _ (.inl rfl) ⟨_, _, rfl, ⟨o, ho, rfl⟩, _, _, rfl, ⟨p, hp, rfl⟩, rfl⟩ (by simp) (by simp) (by simpa using hl) _) (by simp (disch := first | assumption | omega) only [go_sem]) ?_
  rintro _ _ ⟨rfl, hhh⟩
  rw [hhh]
  clear hhh
  simp (disch := first | assumption | omega) only [go_sem, ↓reduceIte, reduceIte]
  subst hQ
  simp (disch := first | assumption | omega) only [R.grid_Join, go_sem, ↓reduceIte, reduceIte]
  simp [joinC]
theorem filter_len (l : List Cell) (p : Cell → Bool) : (l.filter p).length ≤ l.length := List.length_filter_le _ _
theorem Minus_ok (o p : Own) (a b : List Cell) (ho : Rdn o a) (hp : Rdn p b) (hl : a.length + b.length < 65536) (h : List HObj) :
    ACalls Try.prog F.grid_Minus [.lst o (cellsA a), .lst p (cellsA b)] h (fun v h' => v = .lst (.app 2) (cellsA (minusC a b)) ∧ h' = h) := by
  have ho1 := ho.1
  have hp1 := hp.1
  have hnb := normC_len b
  have hna := normC_len a
  have hpred : ∀ bid, PredOk F.grid_Minus_1 [.hp bid 0] _ (HoldC bid (normC b)) := fun bid => isIn_ok (normC b) bid (normC_up b) (by omega)
  have hfil : (normC a).filter (fun c => !(decide (c ∈ normC b))) = minusC a b := by
    unfold minusC
    congr 1
    funext c
    simp [mem_normC]
  have hfl := filter_len (normC a) (fun c => !(decide (c ∈ normC b)))
  rw [hfil] at hfl
  refine ACalls.gcn (ACalls.of_aw Try.func143 K.grid_Minus (by simp [Try.f143]) ?_)
  generalize hQ : retQ R.grid_Minus _ = Q
  simp (disch := first | assumption | omega) only [C.grid_Minus, go_sem, ↓reduceIte, Nat.reduceEqDiff, Nat.reduceLeDiff, Nat.reduceLT, reduceIte, Int.reduceLT, Int.reduceMul, Nat.reduceMul]
  refine callG_ok (sortedA_ok .sh [b] _ (.inl rfl) ⟨_, _, rfl, ⟨p, hp, rfl⟩, rfl⟩ (by simp) (by simp) (by simp; omega) _) (by simp (disch := first | assumption | omega) only [go_sem]) ?_
  rintro _ _ ⟨rfl, hhh⟩
  rw [hhh]
  clear hhh
  have hfb : [b].flatten = b := by simp
  have hfa : [a].flatten = a := by simp
  rw [hfb]
  simp (disch := first | assumption | omega) only [go_sem, ↓reduceIte, Nat.reduceEqDiff, reduceCtorEq, Nat.reduceLeDiff, reduceIte, Int.reduceMul, Nat.reduceMul]
  refine callG_ok (sortedR_ok .sh [a] _ (.inl rfl) ⟨_, _, rfl, ⟨o, ho, rfl⟩, rfl⟩ (by simp) (by simp) (by simp; omega) _) (by simp (disch := first | assumption | omega) only [go_sem]) ?_
  intro r h1 hr
  rw [hfa] at hr
  rcases hr with ⟨rfl, rfl, rfl⟩ | ⟨cap, rest, rfl, hcap, hc0, hrest, rfl⟩
  · simp (disch := first | assumption | omega) only [go_sem, ↓reduceIte, Nat.reduceEqDiff, reduceIte]
    refine callG_ok (DeleteNone_ok _ _ 0 0 0 _) (by simp (disch := first | assumption | omega) only [go_sem]) ?_
    rintro _ _ ⟨rfl, hhh⟩
    rw [hhh]
    clear hhh
    simp (disch := first | assumption | omega) only [go_sem, ↓reduceIte, reduceIte]
    refine own_empty (id := 0) (off := 0) (cap := 0) (by simp (disch := first | assumption | omega) only [go_sem, ↓reduceIte, reduceIte]) (fun h => absurd rfl h) (fun h => by cases h) (by omega) ?_
    rintro hp2 hhp
    have hhp : hp2 = h ++ [.cells [.lst (.app 2) (cellsA (normC b))]] := by
      rcases hhp with ⟨rfl, _⟩ | ⟨_, h0⟩
      · simp (disch := first | assumption | omega) only [go_sem]
      · exact absurd rfl h0
    subst hhp
    rw [aw_grab]
    simp (disch := first | assumption | omega) only [go_sem, ↓reduceIte, reduceIte]
    subst hQ
    simp (disch := first | assumption | omega) only [R.grid_Minus, go_sem, ↓reduceIte, reduceIte]
    rw [← hfil, normC_nil]
    exact ⟨_, rfl, by simp [AVal.ids, idsL, cellsA], rfl⟩
  · simp (disch := first | assumption | omega) only [go_sem, ↓reduceIte, Nat.reduceEqDiff, reduceIte]
    refine callG_ok (DeleteFunc_ok _ _ _ _ (hpred h.length) (normC a) (h.length + 1) cap rest _ (by simp (disch := first | assumption | omega) only [go_sem]) (fun z => by simp (disch := first | assumption | omega) only [go_sem]; simp [HoldC]) (by omega) hcap) (by simp (disch := first | assumption | omega) only [go_sem]) ?_
    rintro _ _ ⟨rfl, rest', hrest', rfl⟩
    rw [hfil] at hrest' ⊢
    simp (disch := first | assumption | omega) only [go_sem, ↓reduceIte, reduceIte]
    refine own_cells (cs := minusC a b) (cap := cap) (rest := rest') (id := h.length + 1) (by simp (disch := first | assumption | omega) only [go_sem, ↓reduceIte, reduceIte]) (by simp (disch := first | assumption | omega) only [go_sem]) (by omega) (by omega) (by omega) ?_
    rw [aw_grab]
    simp (disch := first | assumption | omega) only [go_sem, ↓reduceIte, reduceIte]
    subst hQ
    simp (disch := first | assumption | omega) only [R.grid_Minus, go_sem, ↓reduceIte, reduceIte]
    refine ⟨[.cells [.lst (.app 2) (cellsA (normC b))], .dead], ?_, by simp [AVal.ids, cells_ids]⟩
    simp
theorem Within_ok (o p : Own) (a b : List Cell) (ho : Rdn o a) (hp : Rdn p b) (hl : a.length < 65536) (hl2 : b.length < 65536) (h : List HObj) :
    ACalls Try.prog F.grid_Within [.lst o (cellsA a), .lst p (cellsA b)] h (fun v h' => v = .bool (withinC a b) ∧ h' = h) := by
  have ho1 := ho.1
  have hp1 := hp.1
  have hnb := normC_len b
  refine ACalls.gcn (ACalls.of_aw Try.func147 K.grid_Within (by simp [Try.f147]) ?_)
  generalize hQ : retQ R.grid_Within _ = Q
  simp (disch := first | assumption | omega) only [C.grid_Within, go_sem, ↓reduceIte, Nat.reduceEqDiff, Nat.reduceLeDiff, Nat.reduceLT, reduceIte, Int.reduceLT, Int.reduceMul, Nat.reduceMul]
  refine callG_ok (sortedA_ok .sh [b] _ (.inl rfl) ⟨_, _, rfl, ⟨p, hp, rfl⟩, rfl⟩ (by simp) (by simp) (by simpa using hl2) _) (by simp (disch := first | assumption | omega) only [go_sem]) ?_
  rintro _ _ ⟨rfl, hhh⟩
  rw [hhh]
  clear hhh
  have hfb : [b].flatten = b := by simp
  rw [hfb]
  simp (disch := first | assumption | omega) only [go_sem, ↓reduceIte, Nat.reduceEqDiff, reduceCtorEq, Nat.reduceLeDiff, reduceIte]
  refine callG_ok (ContainsFunc_ok F.grid_Within_1 [.hp h.length 0] _ (HoldC h.length (normC b)) (notIn2_ok (normC b) h.length (normC_up b) (by omega)) o a ho1 _ (by simp (disch := first | assumption | omega) only [go_sem]; simp [HoldC]) (by omega)) (by simp (disch := first | assumption | omega) only [go_sem]) ?_
  rintro _ _ ⟨rfl, hhh⟩
  rw [hhh]
  clear hhh
  simp (disch := first | assumption | omega) only [go_sem, ↓reduceIte, reduceIte]
  subst hQ
  simp (disch := first | assumption | omega) only [R.grid_Within, go_sem, ↓reduceIte, reduceIte]
  refine ⟨_, rfl, by simp [AVal.ids], ?_⟩
  unfold withinC
  rw [← List.not_all_eq_any_not, Bool.not_not]
  congr 2
  funext c
  simp [mem_normC]
end Go.Proofs.Ytpdajkbfemcdlaa
set_option linter.unusedSimpArgs false
set_option linter.unusedVariables false
namespace Go.Proofs.Ytpdajkbfemcdlaa
open Go.Ge Go.Sort
abbrev Ev := Go.Ge.Event
def evF (e : Ev) : Int := if e.Kind < 1 ∨ e.Kind > 6 then 1 else if e.Kind = 1 ∧ (e.N < 0 ∨ e.N > 2147483647) ∨ e.Kind ≠ 1 ∧ e.N ≠ 0 then 2 else if e.Kind ≠ 3 ∧ e.Kind ≠ 5 ∧ 0 < e.Cells.length then 3 else cellsFault e.Cells
def memF (m : Mem) : Int := if m.Goal < 0 ∨ m.Ticks < 0 ∨ m.Falls < 0 then 1 else if cellsFault m.Asked ≠ 0 then cellsFault m.Asked else cellsFault m.Has
def mem0 : Mem := ⟨0, 0, [], [], 0⟩
def doF (m : Mem) (e : Ev) : Mem × Int :=
  if evF e ≠ 0 then (mem0, evF e) else if memF m ≠ 0 then (mem0, memF m) else
  if e.Kind = 1 then ({ m with Goal := e.N, Ticks := 0 }, 0)
  else if e.Kind = 2 then if m.Ticks ≥ 2000 then (mem0, 19) else ({ m with Ticks := m.Ticks + 1 }, 0)
  else if e.Kind = 3 then if 0 < m.Asked.length then (mem0, 7) else ({ m with Asked := minusC e.Cells m.Has }, 0)
  else if e.Kind = 4 then if cellsFault (joinC m.Has m.Asked) ≠ 0 then (mem0, 6) else ({ m with Has := joinC m.Has m.Asked, Asked := [] }, 0)
  else if e.Kind = 5 then if withinC e.Cells m.Has = false then (mem0, 4) else ({ m with Has := minusC m.Has e.Cells }, 0)
  else ({ m with Falls := IntKind.i64.wrap (m.Falls + 1) }, 0)
def evB (e : Ev) : List Int := (e.Kind % 256) :: (beBytes e.N 4 ++ cellsB e.Cells)
theorem evF_zero {e : Ev} (h : evF e = 0) : 1 ≤ e.Kind ∧ e.Kind ≤ 6 ∧ 0 ≤ e.N ∧ e.N ≤ 2147483647 ∧ cellsFault e.Cells = 0 := by
  unfold evF at h
  split at h
  · cases h
  split at h
  · cases h
  split at h
  · cases h
  refine ⟨?_, ?_, ?_, ?_, h⟩ <;> omega
theorem evB_length (e : Ev) : (evB e).length = 5 + 2 * e.Cells.length := by
  simp [evB, beBytes_length, cellsB_length]; omega
theorem evB_u8 (e : Ev) : ∀ x ∈ evB e, inU8 x := by
  intro x hx
  unfold evB at hx
  rcases List.mem_cons.1 hx with rfl | hx
  · unfold inU8; omega
  rcases List.mem_append.1 hx with hx | hx
  · exact beBytes_u8 _ _ x hx
  · exact cellsB_u8 _ x hx
theorem minusC_up (a b : List Cell) : Up (minusC a b) := (normC_up a).filter _
theorem minus_fault {a b : List Cell} (h : cellsFault a = 0) : cellsFault (minusC a b) = 0 := by
  obtain ⟨h1, h2, h3⟩ := fault_up h
  refine fault_of ?_ (fun c hc => h2 c ?_) (minusC_up a b)
  · exact Nat.le_trans (List.length_filter_le _ _) (Nat.le_trans (normC_len a) h1)
  · exact (mem_normC a c).1 (List.mem_filter.1 hc).1
theorem memF_zero {m : Mem} : memF m = 0 ↔ 0 ≤ m.Goal ∧ 0 ≤ m.Ticks ∧ 0 ≤ m.Falls ∧ cellsFault m.Asked = 0 ∧ cellsFault m.Has = 0 := by
  unfold memF
  split
  · constructor
    · intro h; cases h
    · intro h; omega
  · split
    · constructor
      · intro h; contradiction
      · intro h; exact absurd h.2.2.2.1 (by assumption)
    · constructor
      · intro h; refine ⟨?_, ?_, ?_, ?_, h⟩ <;> omega
      · intro h; exact h.2.2.2.2
theorem doF_zero {m : Mem} {e : Ev} (h : (doF m e).2 = 0) : evF e = 0 ∧ memF m = 0 := by
  unfold doF at h
  by_cases h1 : evF e ≠ 0
  · rw [if_pos h1] at h; exact absurd h h1
  rw [if_neg h1] at h
  by_cases h2 : memF m ≠ 0
  · rw [if_pos h2] at h; exact absurd h h2
  exact ⟨Decidable.not_not.1 h1, Decidable.not_not.1 h2⟩
end Go.Proofs.Ytpdajkbfemcdlaa
set_option linter.unusedSimpArgs false
set_option linter.unusedVariables false
set_option maxRecDepth 10000
namespace Go.Proofs.Ytpdajkbfemcdlaa
open Go.Ge Go.Sort
def evF1 (e : Ev) : Int := if e.Kind < 1 ∨ e.Kind > 6 then 1 else if e.Kind = 1 ∧ (e.N < 0 ∨ e.N > 2147483647) ∨ e.Kind ≠ 1 ∧ e.N ≠ 0 then 2 else if e.Kind ≠ 3 ∧ e.Kind ≠ 5 ∧ 0 < e.Cells.length then 3 else 0
theorem evF_eq (e : Ev) : evF e = if evF1 e ≠ 0 then evF1 e else cellsFault e.Cells := by
  unfold evF evF1
  repeat' split
  all_goals first | rfl | contradiction | (exfalso; simp_all; done)
theorem FCheck_ok (o : Own) (e : Ev) (ho : Rdo o) (hl : e.Cells.length < 4611686018427387904) (h : List HObj) : ACalls Try.prog F.fall_Check [eventA o e] h (fun v h' => v = .int .i64 (evF e) ∧ h' = h) := by
  rw [evF_eq]
  refine ACalls.of_aw Try.func117 K.fall_Check (by simp [Try.f117]) ?_
  generalize hQ : retQ R.fall_Check _ = Q
  simp (disch := first | assumption | omega) only [C.fall_Check, go_sem, ↓reduceIte, Nat.reduceEqDiff, Nat.reduceLeDiff, reduceIte]
  simp (disch := first | assumption | omega) only [eventA, eventC, go_sem, Nat.reduceAdd, Int.reduceAdd]
  iterate 20 (all_goals (try ((first | refine aopsG_ifn (fun hb => ?_) (fun hb => ?_) | refine condG_ifn (fun hb => ?_) (fun hb => ?_) | refine aopsG_if (fun hb => ?_) (fun hb => ?_) | refine condG_if (fun hb => ?_) (fun hb => ?_) | refine aopsG_split (fun hb => ?_) (fun hb => ?_) | refine condG_split (fun hb => ?_) (fun hb => ?_)) <;> simp (disch := first | assumption | omega) only [hb, go_sem, ↓reduceIte, Nat.reduceEqDiff, Nat.reduceAdd, Nat.reduceLeDiff, Nat.reduceLT, reduceIte, Int.reduceLT, Int.reduceAdd, Int.reduceEq])))
  all_goals (try omega)
  all_goals first
    | (refine callG_ok (gridCheck_ok o e.Cells ho hl _) (by simp (disch := first | assumption | omega) only [go_sem]) ?_
       rintro _ _ ⟨rfl, hhh⟩
       rw [hhh]
       clear hhh
       simp (disch := first | assumption | omega) only [go_sem, ↓reduceIte, reduceIte]
       subst hQ
       simp (disch := first | assumption | omega) only [R.fall_Check, go_sem, ↓reduceIte, reduceIte]
       have : evF1 e = 0 := by unfold evF1; (repeat split) <;> omega
       rw [if_neg (by simp [this])])
    | (subst hQ
       simp (disch := first | assumption | omega) only [R.fall_Check, go_sem, ↓reduceIte, reduceIte]
       refine congrArg (AVal.int .i64) ?_
       have : evF1 e ≠ 0 := by unfold evF1; (repeat split) <;> omega
       rw [if_pos this]
       unfold evF1; (repeat split) <;> omega)
theorem Right_ok (o p : Own) (m : Mem) (ho : Rdo o) (hp : Rdo p) (hl : m.Asked.length < 4611686018427387904) (hl2 : m.Has.length < 4611686018427387904) (h : List HObj) : ACalls Try.prog F.fall_Right [memA o p m] h (fun v h' => v = .int .i64 (memF m) ∧ h' = h) := by
  unfold memF
  refine ACalls.of_aw Try.func120 K.fall_Right (by simp [Try.f120]) ?_
  generalize hQ : retQ R.fall_Right _ = Q
  simp (disch := first | assumption | omega) only [C.fall_Right, go_sem, ↓reduceIte, Nat.reduceEqDiff, Nat.reduceLeDiff, reduceIte]
  simp (disch := first | assumption | omega) only [memA, memC, go_sem, Nat.reduceAdd, Nat.reduceLT, Int.reduceLT, Int.reduceAdd]
  refine condG_if (fun h1 => ?_) fun h1 => ?_
  · simp (disch := first | assumption | omega) only [h1, go_sem]
    subst hQ
    simp (disch := first | assumption | omega) only [R.fall_Right, go_sem, ↓reduceIte, reduceIte]
    rw [if_pos (by omega)]
  simp (disch := first | assumption | omega) only [h1, go_sem, ↓reduceIte, Nat.reduceEqDiff, Nat.reduceAdd, Nat.reduceLeDiff, reduceIte, Int.reduceAdd]
  refine callG_ok (gridCheck_ok o m.Asked ho hl _) (by simp (disch := first | assumption | omega) only [go_sem]) ?_
  rintro _ _ ⟨rfl, hhh⟩
  rw [hhh]
  clear hhh
  simp (disch := first | assumption | omega) only [go_sem, ↓reduceIte, reduceIte]
  refine condG_ifn (fun h2 => ?_) fun h2 => ?_
  · simp (disch := first | assumption | omega) only [h2, go_sem, ↓reduceIte, Nat.reduceEqDiff, reduceIte]
    subst hQ
    simp (disch := first | assumption | omega) only [R.fall_Right, go_sem, ↓reduceIte, reduceIte]
    rw [if_neg (by omega)]
    split
    · rfl
    · rename_i h3; exact absurd h3 (by simp [h2])
  · simp (disch := first | assumption | omega) only [h2, go_sem, ↓reduceIte, Nat.reduceEqDiff, Nat.reduceAdd, Nat.reduceLeDiff, reduceIte, Int.reduceAdd]
    refine callG_ok (gridCheck_ok p m.Has hp hl2 _) (by simp (disch := first | assumption | omega) only [go_sem]) ?_
    rintro _ _ ⟨rfl, hhh⟩
    rw [hhh]
    clear hhh
    simp (disch := first | assumption | omega) only [go_sem, ↓reduceIte, reduceIte]
    subst hQ
    simp (disch := first | assumption | omega) only [R.fall_Right, go_sem, ↓reduceIte, reduceIte]
    rw [if_neg (by omega)]
    split
    · rename_i h3; exact absurd (by simpa using h2) h3
    · rfl
theorem FSame_ok (o1 p1 o2 p2 : Own) (a b : Mem) (h1 : Rdo o1) (k1 : Rdo p1) (h2 : Rdo o2) (k2 : Rdo p2) (l1 : a.Asked.length < 4611686018427387904) (l2 : b.Asked.length < 4611686018427387904) (l3 : a.Has.length < 4611686018427387904) (l4 : b.Has.length < 4611686018427387904) (h : List HObj) :
    ACalls Try.prog F.fall_Same [memA o1 p1 a, memA o2 p2 b] h (fun v h' => v = .bool (decide (a = b)) ∧ h' = h) := by
  refine ACalls.of_aw Try.func115 K.fall_Same (by simp [Try.f115]) ?_
  generalize hQ : retQ R.fall_Same _ = Q
  simp (disch := first | assumption | omega) only [C.fall_Same, go_sem, ↓reduceIte, Nat.reduceEqDiff, reduceCtorEq, Nat.reduceLeDiff, reduceIte]
  simp (disch := first | assumption | omega) only [memA, memC, go_sem, Nat.reduceAdd, Int.reduceAdd]
  by_cases c1 : a.Goal = b.Goal
  case neg =>
    simp (disch := first | assumption | omega) only [c1, go_sem, ↓reduceIte, Nat.reduceEqDiff, reduceIte]
    subst hQ
    simp (disch := first | assumption | omega) only [R.fall_Same, go_sem, ↓reduceIte, reduceIte]
    rw [decide_eq_false (fun e : a = b => c1 (by rw [e]))]
  by_cases c2 : a.Ticks = b.Ticks
  case neg =>
    simp (disch := first | assumption | omega) only [c1, c2, go_sem, ↓reduceIte, Nat.reduceEqDiff, Nat.reduceAdd, Nat.reduceLeDiff, reduceIte, Int.reduceAdd]
    subst hQ
    simp (disch := first | assumption | omega) only [R.fall_Same, go_sem, ↓reduceIte, reduceIte]
    rw [decide_eq_false (fun e : a = b => c2 (by rw [e]))]
  by_cases c3 : a.Falls = b.Falls
  case neg =>
    simp (disch := first | assumption | omega) only [c1, c2, c3, go_sem, ↓reduceIte, Nat.reduceEqDiff, Nat.reduceAdd, Nat.reduceLeDiff, Nat.reduceLT, reduceIte, Int.reduceLT, Int.reduceAdd]
    subst hQ
    simp (disch := first | assumption | omega) only [R.fall_Same, go_sem, ↓reduceIte, reduceIte]
    rw [decide_eq_false (fun e : a = b => c3 (by rw [e]))]
  simp (disch := first | assumption | omega) only [c1, c2, c3, go_sem, ↓reduceIte, Nat.reduceEqDiff, Nat.reduceAdd, Nat.reduceLeDiff, Nat.reduceLT, reduceIte, Int.reduceLT, Int.reduceAdd]
  refine callG_ok (EqualCell_ok o1 o2 a.Asked b.Asked h1 h2 l1 l2 _) (by simp (disch := first | assumption | omega) only [go_sem]) ?_
  rintro _ _ ⟨rfl, hhh⟩
  rw [hhh]
  clear hhh
  by_cases c4 : a.Asked = b.Asked
  case neg =>
    rw [decide_eq_false c4]
    simp (disch := first | assumption | omega) only [go_sem, ↓reduceIte, Nat.reduceEqDiff, reduceIte]
    subst hQ
    simp (disch := first | assumption | omega) only [R.fall_Same, go_sem, ↓reduceIte, reduceIte]
    rw [decide_eq_false (fun e : a = b => c4 (by rw [e]))]
  rw [decide_eq_true c4]
  simp (disch := first | assumption | omega) only [go_sem, ↓reduceIte, Nat.reduceEqDiff, Nat.reduceAdd, Nat.reduceLeDiff, reduceIte, Int.reduceAdd]
  refine callG_ok (EqualCell_ok p1 p2 a.Has b.Has k1 k2 l3 l4 _) (by simp (disch := first | assumption | omega) only [go_sem]) ?_
  rintro _ _ ⟨rfl, hhh⟩
  rw [hhh]
  clear hhh
  simp (disch := first | assumption | omega) only [go_sem, ↓reduceIte, Nat.reduceEqDiff, reduceIte]
  subst hQ
  simp (disch := first | assumption | omega) only [R.fall_Same, go_sem, ↓reduceIte, reduceIte]
  congr 2
  refine propext ⟨?_, ?_⟩
  · intro e
    cases a; cases b
    simp only [Mem.mk.injEq] at *
    exact ⟨c1, c2, c4, e, c3⟩
  · intro e; rw [e]
end Go.Proofs.Ytpdajkbfemcdlaa
set_option linter.unusedSimpArgs false
set_option linter.unusedVariables false
set_option maxRecDepth 10000
namespace Go.Proofs.Ytpdajkbfemcdlaa
open Go.Ge Go.Sort
def DoQ (m : Mem) (e : Ev) (v : AVal) : Prop := ∃ o' p', v = .tup [memA o' p' (doF m e).1, .int .i64 (doF m e).2] ∧ Rdn o' (doF m e).1.Asked ∧ Rdn p' (doF m e).1.Has
theorem DoQ.none {m : Mem} {e : Ev} {x : Int} (h : doF m e = (mem0, x)) : DoQ m e (.tup [.agg [.int .i64 0, .int .i64 0, .lst .nil [], .lst .nil [], .int .i64 0], .int .i64 x]) := by
  unfold DoQ
  rw [h]
  exact ⟨.nil, .nil, rfl, ⟨.inr rfl, fun _ => rfl⟩, ⟨.inr rfl, fun _ => rfl⟩⟩
theorem Do_ok (o p q : Own) (m : Mem) (e : Ev) (ho : Rdn o m.Asked) (hp : Rdn p m.Has) (hq : Rdn q e.Cells) (l1 : m.Asked.length < 4611686018427387904) (l2 : m.Has.length < 4611686018427387904) (l3 : e.Cells.length < 4611686018427387904) (h : List HObj) :
    ACalls Try.prog F.fall_Do [memA o p m, eventA q e] h (fun v h' => DoQ m e v ∧ h' = h) := by
  have ho1 := ho.1
  have hp1 := hp.1
  have hq1 := hq.1
  refine ACalls.of_aw Try.func110 K.fall_Do (by simp [Try.f110]) ?_
  generalize hQ : retQ R.fall_Do _ = Q
  simp (disch := first | assumption | omega) only [C.fall_Do, go_sem, ↓reduceIte, Nat.reduceEqDiff, reduceCtorEq, Nat.reduceLeDiff, reduceIte]
  simp (disch := first | assumption | omega) only [memA, memC, eventA, eventC, go_sem, Nat.reduceAdd, Nat.reduceLeDiff, Int.reduceAdd]
  refine callG_ok (FCheck_ok q e hq1 l3 _) (by simp (disch := first | assumption | omega) only [go_sem]) ?_
  rintro _ _ ⟨rfl, hhh⟩
  rw [hhh]
  clear hhh
  by_cases hc : evF e = 0
  case neg =>
    simp (disch := first | assumption | omega) only [hc, go_sem, ↓reduceIte, Nat.reduceEqDiff, Nat.reduceAdd, Nat.reduceLeDiff, reduceIte, Int.reduceAdd]
    subst hQ
    simp (disch := first | assumption | omega) only [R.fall_Do, go_sem, ↓reduceIte, Nat.reduceEqDiff, Nat.reduceAdd, reduceIte, Int.reduceAdd]
    exact DoQ.none (by unfold doF; rw [if_pos hc])
  simp (disch := first | assumption | omega) only [hc, go_sem, ↓reduceIte, Nat.reduceEqDiff, Nat.reduceAdd, Nat.reduceLeDiff, reduceIte, Int.reduceAdd]
  refine callG_ok (Right_ok o p m ho1 hp1 l1 l2 _) (by simp (disch := first | assumption | omega) only [go_sem]) ?_
  rintro _ _ ⟨rfl, hhh⟩
  rw [hhh]
  clear hhh
  by_cases hr : memF m = 0
  case neg =>
    simp (disch := first | assumption | omega) only [hr, go_sem, ↓reduceIte, Nat.reduceEqDiff, Nat.reduceAdd, Nat.reduceLeDiff, reduceIte, Int.reduceAdd]
    subst hQ
    simp (disch := first | assumption | omega) only [R.fall_Do, go_sem, ↓reduceIte, Nat.reduceEqDiff, Nat.reduceAdd, reduceIte, Int.reduceAdd]
    exact DoQ.none (by unfold doF; rw [if_neg (by simp [hc]), if_pos hr])
  simp (disch := first | assumption | omega) only [hr, go_sem, ↓reduceIte, Nat.reduceEqDiff, Nat.reduceAdd, Nat.reduceLeDiff, reduceIte, Int.reduceAdd]
  have hd : doF m e = (if e.Kind = 1 then ({ m with Goal := e.N, Ticks := 0 }, 0)
    else if e.Kind = 2 then if m.Ticks ≥ 2000 then (mem0, 19) else ({ m with Ticks := m.Ticks + 1 }, 0)
    else if e.Kind = 3 then if 0 < m.Asked.length then (mem0, 7) else ({ m with Asked := minusC e.Cells m.Has }, 0)
    else if e.Kind = 4 then if cellsFault (joinC m.Has m.Asked) ≠ 0 then (mem0, 6) else ({ m with Has := joinC m.Has m.Asked, Asked := [] }, 0)
    else if e.Kind = 5 then if withinC e.Cells m.Has = false then (mem0, 4) else ({ m with Has := minusC m.Has e.Cells }, 0)
    else ({ m with Falls := IntKind.i64.wrap (m.Falls + 1) }, 0)) := by
    conv => lhs; unfold doF
    rw [if_neg (by simp [hc]), if_neg (by simp [hr])]
  obtain ⟨e1, e2, e3, e4, e5⟩ := evF_zero hc
  obtain ⟨m1, m2, m3, m4, m5⟩ := memF_zero.1 hr
  have f1 := (fault_up m4).1
  have f2 := (fault_up m5).1
  have f3 := (fault_up e5).1
  refine callG_ok (CloneCell_ok o m.Asked ho (by unfold reachBytes; omega) _) (by simp (disch := first | assumption | omega) only [go_sem]) ?_
  rintro _ _ ⟨⟨o2, rfl, ho2⟩, hhh⟩
  rw [hhh]
  clear hhh
  have ho3 : o2 = .nil ∨ o2 = .sh ∨ ∃ z, o2 = .app z := by rcases ho2 with ⟨rfl, _⟩ | rfl; exact .inl rfl; exact .inr (.inr ⟨_, rfl⟩)
  obtain ⟨a1, ha1, ha2, ha3, ha4, ha5⟩ := own_rd (cellsA m.Asked) ho3
  simp (disch := first | assumption | omega) only [go_sem, ↓reduceIte, Nat.reduceEqDiff, reduceIte]
  refine callG_ok (CloneCell_ok p m.Has hp (by unfold reachBytes; omega) _) (by simp (disch := first | assumption | omega) only [go_sem]) ?_
  rintro _ _ ⟨⟨p2, rfl, hp2⟩, hhh⟩
  rw [hhh]
  clear hhh
  have hp3 : p2 = .nil ∨ p2 = .sh ∨ ∃ z, p2 = .app z := by rcases hp2 with ⟨rfl, _⟩ | rfl; exact .inl rfl; exact .inr (.inr ⟨_, rfl⟩)
  obtain ⟨b1, hb1, hb2, hb3, hb4, hb5⟩ := own_rd (cellsA m.Has) hp3
  have hA : Rdn a1 m.Asked := ⟨ha1, fun e => by
    rcases ho2 with ⟨_, h⟩ | rfl
    · exact h
    · cases ha2 e⟩
  have hB : Rdn b1 m.Has := ⟨hb1, fun e => by
    rcases hp2 with ⟨_, h⟩ | rfl
    · exact h
    · cases hb2 e⟩
  by_cases k1 : e.Kind = 1
  · rw [if_pos k1] at hd
    simp (disch := first | assumption | omega) only [ha5, hb5, k1, go_sem, ↓reduceIte, Nat.reduceEqDiff, Nat.reduceAdd, Nat.reduceLeDiff, reduceIte, Int.reduceAdd]
    subst hQ
    simp (disch := first | assumption | omega) only [R.fall_Do, go_sem, ↓reduceIte, Nat.reduceEqDiff, Nat.reduceAdd, reduceIte, Int.reduceAdd]
    exact ⟨a1, b1, by rw [hd]; rfl, by rw [hd]; exact hA, by rw [hd]; exact hB⟩
  rw [if_neg k1] at hd
  by_cases k2 : e.Kind = 2
  · rw [if_pos k2] at hd
    by_cases c : m.Ticks ≥ 2000
    · rw [if_pos c] at hd
      simp (disch := first | assumption | omega) only [k2, c, go_sem, ↓reduceIte, Nat.reduceEqDiff, Nat.reduceAdd, Nat.reduceLeDiff, reduceIte, Int.reduceAdd, Int.reduceEq]
      subst hQ
      simp (disch := first | assumption | omega) only [R.fall_Do, go_sem, ↓reduceIte, Nat.reduceEqDiff, Nat.reduceAdd, reduceIte, Int.reduceAdd]
      exact DoQ.none hd
    · rw [if_neg c] at hd
      simp (disch := first | assumption | omega) only [ha5, hb5, k2, c, go_sem, ↓reduceIte, Nat.reduceEqDiff, Nat.reduceAdd, Nat.reduceLeDiff, reduceIte, Int.reduceAdd, Int.reduceEq]
      subst hQ
      simp (disch := first | assumption | omega) only [R.fall_Do, go_sem, ↓reduceIte, Nat.reduceEqDiff, Nat.reduceAdd, reduceIte, Int.reduceAdd]
      exact ⟨a1, b1, by rw [hd]; rfl, by rw [hd]; exact hA, by rw [hd]; exact hB⟩
  rw [if_neg k2] at hd
  by_cases k3 : e.Kind = 3
  · rw [if_pos k3] at hd
    by_cases c : 0 < m.Asked.length
    · rw [if_pos c] at hd
      have c' : (0 : Int) < m.Asked.length := by omega
      simp (disch := first | assumption | omega) only [ha5, k3, c', go_sem, ↓reduceIte, Nat.reduceEqDiff, Nat.reduceAdd, Nat.reduceLeDiff, reduceIte, Int.reduceAdd, Int.reduceEq]
      subst hQ
      simp (disch := first | assumption | omega) only [R.fall_Do, go_sem, ↓reduceIte, Nat.reduceEqDiff, Nat.reduceAdd, reduceIte, Int.reduceAdd]
      exact DoQ.none hd
    · rw [if_neg c] at hd
      have c' : ¬((0 : Int) < m.Asked.length) := by omega
      simp (disch := first | assumption | omega) only [ha5, hb5, k3, c', go_sem, ↓reduceIte, Nat.reduceEqDiff, Nat.reduceAdd, Nat.reduceLeDiff, Nat.reduceLT, reduceIte, Int.reduceLT, Int.reduceAdd, Int.reduceEq]
      refine callG_ok (Minus_ok q b1 e.Cells m.Has hq hB (by omega) _) (by simp (disch := first | assumption | omega) only [go_sem]) ?_
      rintro _ _ ⟨rfl, hhh⟩
      rw [hhh]
      clear hhh
      simp (disch := first | assumption | omega) only [hb5, go_sem, ↓reduceIte, Nat.reduceEqDiff, Nat.reduceAdd, Nat.reduceLeDiff, reduceIte, Int.reduceAdd]
      subst hQ
      simp (disch := first | assumption | omega) only [R.fall_Do, go_sem, ↓reduceIte, Nat.reduceEqDiff, Nat.reduceAdd, reduceIte, Int.reduceAdd]
      exact ⟨.sh, b1, by rw [hd]; rfl, ⟨.inl rfl, fun h => by cases h⟩, by rw [hd]; exact hB⟩
  rw [if_neg k3] at hd
  by_cases k4 : e.Kind = 4
  · rw [if_pos k4] at hd
    simp (disch := first | assumption | omega) only [ha5, hb5, k4, go_sem, ↓reduceIte, Nat.reduceEqDiff, Nat.reduceAdd, Nat.reduceLeDiff, reduceIte, Int.reduceAdd, Int.reduceEq]
    refine callG_ok (Join_ok b1 a1 m.Has m.Asked hB hA (by omega) _) (by simp (disch := first | assumption | omega) only [go_sem]) ?_
    rintro _ _ ⟨rfl, hhh⟩
    rw [hhh]
    clear hhh
    have hjl : (joinC m.Has m.Asked).length ≤ 800 := Nat.le_trans (normC_len _) (by rw [List.length_append]; omega)
    simp (disch := first | assumption | omega) only [go_sem, ↓reduceIte, reduceIte]
    refine callG_ok (gridCheck_ok .sh (joinC m.Has m.Asked) (.inl rfl) (by omega) _) (by simp (disch := first | assumption | omega) only [go_sem]) ?_
    rintro _ _ ⟨rfl, hhh⟩
    rw [hhh]
    clear hhh
    by_cases c : cellsFault (joinC m.Has m.Asked) = 0
    · rw [if_neg (by simp [c])] at hd
      simp (disch := first | assumption | omega) only [c, go_sem, ↓reduceIte, Nat.reduceEqDiff, Nat.reduceAdd, Nat.reduceLeDiff, reduceIte, Int.reduceAdd]
      subst hQ
      simp (disch := first | assumption | omega) only [R.fall_Do, go_sem, ↓reduceIte, Nat.reduceEqDiff, Nat.reduceAdd, reduceIte, Int.reduceAdd]
      exact ⟨.nil, .sh, by rw [hd]; rfl, by rw [hd]; exact ⟨.inr rfl, fun _ => rfl⟩, ⟨.inl rfl, fun h => by cases h⟩⟩
    · rw [if_pos c] at hd
      simp (disch := first | assumption | omega) only [c, go_sem, ↓reduceIte, Nat.reduceEqDiff, Nat.reduceAdd, Nat.reduceLeDiff, reduceIte, Int.reduceAdd]
      subst hQ
      simp (disch := first | assumption | omega) only [R.fall_Do, go_sem, ↓reduceIte, Nat.reduceEqDiff, Nat.reduceAdd, reduceIte, Int.reduceAdd]
      exact DoQ.none hd
  rw [if_neg k4] at hd
  by_cases k5 : e.Kind = 5
  · rw [if_pos k5] at hd
    simp (disch := first | assumption | omega) only [hb5, k5, go_sem, ↓reduceIte, Nat.reduceEqDiff, Nat.reduceAdd, Nat.reduceLeDiff, Nat.reduceLT, reduceIte, Int.reduceLT, Int.reduceAdd, Int.reduceEq]
    refine callG_ok (Within_ok q b1 e.Cells m.Has hq hB (by omega) (by omega) _) (by simp (disch := first | assumption | omega) only [go_sem]) ?_
    rintro _ _ ⟨rfl, hhh⟩
    rw [hhh]
    clear hhh
    by_cases c : withinC e.Cells m.Has = false
    · rw [if_pos c] at hd
      rw [c]
      simp (disch := first | assumption | omega) only [go_sem, ↓reduceIte, Nat.reduceEqDiff, Nat.reduceAdd, Nat.reduceLeDiff, reduceIte, Int.reduceAdd]
      subst hQ
      simp (disch := first | assumption | omega) only [R.fall_Do, go_sem, ↓reduceIte, Nat.reduceEqDiff, Nat.reduceAdd, reduceIte, Int.reduceAdd]
      exact DoQ.none hd
    · rw [if_neg c] at hd
      rw [show withinC e.Cells m.Has = true by simpa using c]
      simp (disch := first | assumption | omega) only [hb5, go_sem, ↓reduceIte, Nat.reduceEqDiff, Nat.reduceAdd, Nat.reduceLeDiff, Nat.reduceLT, reduceIte, Int.reduceLT, Int.reduceAdd]
      refine callG_ok (Minus_ok b1 q m.Has e.Cells hB hq (by omega) _) (by simp (disch := first | assumption | omega) only [go_sem]) ?_
      rintro _ _ ⟨rfl, hhh⟩
      rw [hhh]
      clear hhh
      simp (disch := first | assumption | omega) only [ha5, go_sem, ↓reduceIte, Nat.reduceEqDiff, Nat.reduceAdd, Nat.reduceLeDiff, reduceIte, Int.reduceAdd]
      subst hQ
      simp (disch := first | assumption | omega) only [R.fall_Do, go_sem, ↓reduceIte, Nat.reduceEqDiff, Nat.reduceAdd, reduceIte, Int.reduceAdd]
      exact ⟨a1, .sh, by rw [hd]; rfl, by rw [hd]; exact hA, ⟨.inl rfl, fun h => by cases h⟩⟩
  rw [if_neg k5] at hd
  have k6 : e.Kind = 6 := by omega
  simp (disch := first | assumption | omega) only [ha5, hb5, k6, go_sem, ↓reduceIte, Nat.reduceEqDiff, Nat.reduceAdd, Nat.reduceLeDiff, Nat.reduceLT, reduceIte, Int.reduceLT, Int.reduceAdd, Int.reduceEq]
  subst hQ
  simp (disch := first | assumption | omega) only [R.fall_Do, go_sem, ↓reduceIte, Nat.reduceEqDiff, Nat.reduceAdd, reduceIte, Int.reduceAdd]
  exact ⟨a1, b1, by rw [hd]; rfl, by rw [hd]; exact hA, by rw [hd]; exact hB⟩
end Go.Proofs.Ytpdajkbfemcdlaa
set_option linter.unusedSimpArgs false
set_option linter.unusedVariables false
set_option maxRecDepth 10000
namespace Go.Proofs.Ytpdajkbfemcdlaa
open Go.Ge Go.Sort
theorem shr24i {n : Int} (h0 : 0 ≤ n) : n.fdiv (2 ^ min (Int.toNat 24) 64) = n / 256 / 256 / 256 := by
  rw [show min (Int.toNat 24) 64 = 24 from rfl, fdiv_pow h0]; omega
theorem shr16i {n : Int} (h0 : 0 ≤ n) : n.fdiv (2 ^ min (Int.toNat 16) 64) = n / 256 / 256 := by
  rw [show min (Int.toNat 16) 64 = 16 from rfl, fdiv_pow h0]; omega
def WrQ (e : Ev) (v : AVal) : Prop :=
  evF e ≠ 0 ∧ v = .tup [.lst .nil [], .int .i64 (evF e)] ∨ evF e = 0 ∧ v = .tup [.lst (.app 1) (ints .u8 (evB e)), .int .i64 0]
def headE (e : Ev) : List Int := (e.Kind % 256) :: beBytes e.N 4
theorem FWrite_ok (o : Own) (e : Ev) (ho : Rdo o) (hl : e.Cells.length < 4611686018427387904) (h : List HObj) :
    ACalls Try.prog F.fall_Write [eventA o e] h (fun v h' => WrQ e v ∧ h' = h) := by
  refine ACalls.of_aw Try.func118 K.fall_Write (by simp [Try.f118]) ?_
  generalize hQ : retQ R.fall_Write _ = Q
  simp (disch := first | assumption | omega) only [C.fall_Write, go_sem, ↓reduceIte, Nat.reduceEqDiff, Nat.reduceLeDiff, reduceIte]
  simp (disch := first | assumption | omega) only [eventA, eventC, go_sem, Nat.reduceAdd, Nat.reduceLeDiff, Int.reduceAdd]
  refine callG_ok (FCheck_ok o e ho hl _) (by simp (disch := first | assumption | omega) only [go_sem]) ?_
  rintro _ _ ⟨rfl, hhh⟩
  rw [hhh]
  clear hhh
  by_cases hc : evF e = 0
  · obtain ⟨k1, k2, k3, k4, k5⟩ := evF_zero hc
    obtain ⟨g1, g2, g3⟩ := fault_up k5
    simp (disch := first | assumption | omega) only [hc, wrapU8_mod, shr24i k3, shr16i k3, shr8' k3, go_sem, ↓reduceIte, Nat.reduceEqDiff, Nat.reduceAdd, Nat.reduceLeDiff, Nat.reduceLT, reduceIte, Int.reduceLT, Int.reduceLE, Int.reduceAdd, Int.reduceMul, Nat.reduceMul]
    refine aw_count (fun d S => ∃ (i : Nat), i + d = e.Cells.length ∧ S.env 35 = .int .i64 i ∧ S.env 34 = .int .i64 e.Cells.length ∧ S.env 33 = .lst o (cellsA e.Cells) ∧ S.env 5 = .lst (.app 1) (ints .u8 (headE e ++ cellsB (e.Cells.take i))) ∧ S.heap = h) (n := e.Cells.length)
      ⟨0, by omega, by simp (disch := first | assumption | omega) only [go_sem, ↓reduceIte, reduceIte], by simp (disch := first | assumption | omega) only [go_sem, ↓reduceIte, Nat.reduceEqDiff, reduceIte], by simp (disch := first | assumption | omega) only [go_sem, ↓reduceIte, Nat.reduceEqDiff, reduceIte], by simp (disch := first | assumption | omega) only [headE, cellsB, be4, ints, List.flatMap_nil, go_sem, ↓reduceIte, Nat.reduceEqDiff, reduceIte], by simp (disch := first | assumption | omega) only [go_sem]⟩ ?_
    rintro d S ⟨i, hi, e48, e47, e46, e5, eh⟩
    simp (disch := first | assumption | omega) only [e48, e47, go_sem, ↓reduceIte, reduceIte]
    refine condG_if (fun hlt => ?_) fun hge => ?_
    · have hlt : i < e.Cells.length := by omega
      have hat := at_cells hlt
      have hon := g2 _ (List.getElem_mem hlt)
      unfold onG at hon
      have hst := take_snoc hlt
      have hcl : (headE e).length + (cellsB (e.Cells.take i)).length ≤ 813 := by
        rw [cellsB_length, List.length_take]; simp [headE, beBytes_length]; omega
      simp (disch := first | assumption | omega) only [e48, e47, e46, e5, eh, hat, cellA, hlt, wrapU8_mod, go_sem, ↓reduceIte, Nat.reduceEqDiff, Nat.reduceAdd, Nat.reduceLeDiff, Nat.reduceLT, reduceIte, Int.reduceLT, Int.reduceAdd, Int.reduceMul, Nat.reduceMul]
      refine ⟨by omega, by omega, d - 1, by omega, i + 1, by omega, by simp, ?_⟩
      rw [hst, cellsB_snoc, ← List.append_assoc, ← ints_append _ (cellB _)]
      rfl
    · obtain rfl : i = e.Cells.length := by omega
      rw [List.take_length] at e5
      simp (disch := first | assumption | omega) only [e5, go_sem, ↓reduceIte, Nat.reduceEqDiff, reduceIte]
      subst hQ
      simp (disch := first | assumption | omega) only [R.fall_Write, eh, go_sem, ↓reduceIte, Nat.reduceEqDiff, reduceIte]
      exact .inr ⟨hc, rfl⟩
  · simp (disch := first | assumption | omega) only [hc, go_sem, ↓reduceIte, Nat.reduceEqDiff, reduceIte]
    subst hQ
    simp (disch := first | assumption | omega) only [R.fall_Write, go_sem, ↓reduceIte, Nat.reduceEqDiff, reduceIte]
    exact .inl ⟨hc, rfl⟩
end Go.Proofs.Ytpdajkbfemcdlaa
set_option linter.unusedSimpArgs false
set_option linter.unusedVariables false
set_option maxRecDepth 10000
namespace Go.Proofs.Ytpdajkbfemcdlaa
open Go.Ge Go.Sort
def memRC (o p : Own) (m : Mem) : List AVal := [.int .i64 m.Goal, .int .i64 m.Ticks, .int .i64 m.Falls, .lst o (cellsA m.Asked), .lst p (cellsA m.Has)]
def memRA (o p : Own) (m : Mem) : AVal := .agg (memRC o p m)
theorem MemFault_ok (o p : Own) (m : Mem) (ho : Rdo o) (hp : Rdo p) (hl : m.Asked.length < 4611686018427387904) (hl2 : m.Has.length < 4611686018427387904) (h : List HObj) : ACalls Try.prog F.gantref5_MemFault [memRA o p m] h (fun v h' => v = .int .i64 (memF m) ∧ h' = h) := by
  unfold memF
  refine ACalls.of_aw Try.func121 K.gantref5_MemFault (by simp [Try.f121]) ?_
  generalize hQ : retQ R.gantref5_MemFault _ = Q
  simp (disch := first | assumption | omega) only [C.gantref5_MemFault, go_sem, ↓reduceIte, Nat.reduceEqDiff, Nat.reduceLeDiff, reduceIte]
  simp (disch := first | assumption | omega) only [memRA, memRC, go_sem, Nat.reduceAdd, Int.reduceAdd]
  by_cases h1 : m.Goal < 0
  · simp (disch := first | assumption | omega) only [h1, go_sem, ↓reduceIte, Nat.reduceEqDiff, reduceIte]
    subst hQ
    simp (disch := first | assumption | omega) only [R.gantref5_MemFault, go_sem, ↓reduceIte, reduceIte]
    rw [if_pos (by omega)]
  by_cases h2 : m.Ticks < 0
  · simp (disch := first | assumption | omega) only [h1, h2, go_sem, ↓reduceIte, Nat.reduceEqDiff, Nat.reduceAdd, Nat.reduceLeDiff, reduceIte, Int.reduceAdd]
    subst hQ
    simp (disch := first | assumption | omega) only [R.gantref5_MemFault, go_sem, ↓reduceIte, reduceIte]
    rw [if_pos (by omega)]
  by_cases h3 : m.Falls < 0
  · simp (disch := first | assumption | omega) only [h1, h2, h3, go_sem, ↓reduceIte, Nat.reduceEqDiff, Nat.reduceAdd, Nat.reduceLeDiff, reduceIte, Int.reduceAdd]
    subst hQ
    simp (disch := first | assumption | omega) only [R.gantref5_MemFault, go_sem, ↓reduceIte, reduceIte]
    rw [if_pos (by omega)]
  simp (disch := first | assumption | omega) only [h1, h2, h3, go_sem, ↓reduceIte, Nat.reduceEqDiff, Nat.reduceAdd, Nat.reduceLeDiff, reduceIte, Int.reduceAdd]
  refine callG_ok (CellsFault_ok o m.Asked ho hl _) (by simp (disch := first | assumption | omega) only [go_sem]) ?_
  rintro _ _ ⟨rfl, hhh⟩
  rw [hhh]
  clear hhh
  by_cases h4 : cellsFault m.Asked = 0
  · simp (disch := first | assumption | omega) only [h4, go_sem, ↓reduceIte, Nat.reduceEqDiff, Nat.reduceAdd, Nat.reduceLeDiff, Nat.reduceLT, reduceIte, Int.reduceLT, Int.reduceAdd]
    refine callG_ok (CellsFault_ok p m.Has hp hl2 _) (by simp (disch := first | assumption | omega) only [go_sem]) ?_
    rintro _ _ ⟨rfl, hhh⟩
    rw [hhh]
    clear hhh
    simp (disch := first | assumption | omega) only [go_sem, ↓reduceIte, reduceIte]
    subst hQ
    simp (disch := first | assumption | omega) only [R.gantref5_MemFault, go_sem, ↓reduceIte, reduceIte]
    rw [if_neg (by omega)]
    split
    · rename_i h5; exact absurd h4 h5
    · rfl
  · simp (disch := first | assumption | omega) only [h4, go_sem, ↓reduceIte, Nat.reduceEqDiff, reduceIte]
    subst hQ
    simp (disch := first | assumption | omega) only [R.gantref5_MemFault, go_sem, ↓reduceIte, reduceIte]
    rw [if_neg (by omega), if_pos h4]
theorem EventFault_ok (o : Own) (e : Ev) (ho : Rdo o) (hl : e.Cells.length < 4611686018427387904) (h : List HObj) : ACalls Try.prog F.gantref5_EventFault [.int .i64 e.Kind, .int .i64 e.N, .lst o (cellsA e.Cells)] h (fun v h' => v = .int .i64 (evF e) ∧ h' = h) := by
  rw [evF_eq]
  refine ACalls.of_aw Try.func116 K.gantref5_EventFault (by simp [Try.f116]) ?_
  generalize hQ : retQ R.gantref5_EventFault _ = Q
  simp (disch := first | assumption | omega) only [C.gantref5_EventFault, go_sem, ↓reduceIte, reduceCtorEq, reduceIte]
  iterate 20 (all_goals (try ((first | refine aopsG_ifn (fun hb => ?_) (fun hb => ?_) | refine condG_ifn (fun hb => ?_) (fun hb => ?_) | refine aopsG_if (fun hb => ?_) (fun hb => ?_) | refine condG_if (fun hb => ?_) (fun hb => ?_) | refine aopsG_split (fun hb => ?_) (fun hb => ?_) | refine condG_split (fun hb => ?_) (fun hb => ?_)) <;> simp (disch := first | assumption | omega) only [hb, go_sem, ↓reduceIte, Nat.reduceEqDiff, reduceCtorEq, Nat.reduceLT, reduceIte, Int.reduceLT, Int.reduceEq])))
  all_goals (try omega)
  all_goals first
    | (refine callG_ok (CellsFault_ok o e.Cells ho hl _) (by simp (disch := first | assumption | omega) only [go_sem]) ?_
       rintro _ _ ⟨rfl, hhh⟩
       rw [hhh]
       clear hhh
       simp (disch := first | assumption | omega) only [go_sem, ↓reduceIte, reduceIte]
       subst hQ
       simp (disch := first | assumption | omega) only [R.gantref5_EventFault, go_sem, ↓reduceIte, reduceIte]
       have : evF1 e = 0 := by unfold evF1; (repeat split) <;> omega
       rw [if_neg (by simp [this])])
    | (subst hQ
       simp (disch := first | assumption | omega) only [R.gantref5_EventFault, go_sem, ↓reduceIte, reduceIte]
       refine congrArg (AVal.int .i64) ?_
       have : evF1 e ≠ 0 := by unfold evF1; (repeat split) <;> omega
       rw [if_pos this]
       unfold evF1; (repeat split) <;> omega)
def ents (s : List (Nat × Cell)) : List AEnt := s.map fun p => (p.1, cellA p.2, .bool true)
def inS (s : List (Nat × Cell)) (c : Cell) : Prop := c ∈ s.map (·.2)
instance (s : List (Nat × Cell)) (c : Cell) : Decidable (inS s c) := by unfold inS; exact inferInstance
structure WfS (k : Nat) (s : List (Nat × Cell)) : Prop where
  nd : (s.map (·.2)).Nodup
  st : (s.map (·.1)).Nodup
  lt : ∀ p ∈ s, p.1 < k
theorem keq_cell (a b : Cell) : keq (cellA a) (cellA b) = decide (a = b) := by
  rw [← cell_dec]
  simp only [keq, cellA, AVal.cells, aggEq, scEq, int_beq, Bool.and_true]
theorem keyOk_cell (c : Cell) : keyOk true [.i .i64, .i .i64] (cellA c) := by simp [keyOk, cellA, hasSh]
theorem keyOk_ents (s : List (Nat × Cell)) : ∀ e ∈ ents s, keyOk true [.i .i64, .i .i64] e.2.1 := by
  intro e he
  obtain ⟨p, _, rfl⟩ := List.mem_map.1 he
  exact keyOk_cell _
theorem mget_ents (c : Cell) : ∀ s : List (Nat × Cell), mgetL (cellA c) (ents s) = if inS s c then some (.bool true) else none
  | [] => rfl
  | p :: s => by
    have ih := mget_ents c s
    simp only [ents, List.map_cons, mgetL, keq_cell] at ih ⊢
    by_cases h : c = p.2
    · simp [h, inS]
    · have e : inS (p :: s) c ↔ inS s c := by simp only [inS, List.map_cons, List.mem_cons, h, false_or]
      simp only [h, decide_false, Bool.false_eq_true, if_false, ih, e]
theorem mset_ents (c : Cell) : ∀ s : List (Nat × Cell), msetL (cellA c) (.bool true) (ents s) = if inS s c then some (ents s) else none
  | [] => rfl
  | p :: s => by
    have ih := mset_ents c s
    simp only [ents, List.map_cons, msetL, keq_cell] at ih ⊢
    by_cases h : c = p.2
    · simp [h, inS]
    · have e : inS (p :: s) c ↔ inS s c := by simp only [inS, List.map_cons, List.mem_cons, h, false_or]
      simp only [h, decide_false, Bool.false_eq_true, if_false, ih, e]
      by_cases h2 : inS s c
      · simp only [if_pos h2, Option.map_some]
      · simp only [if_neg h2, Option.map_none]
def addS (k : Nat) (s : List (Nat × Cell)) (c : Cell) : List (Nat × Cell) := if inS s c then s else s ++ [(k, c)]
def addK (k : Nat) (s : List (Nat × Cell)) (c : Cell) : Nat := if inS s c then k else k + 1
theorem mput_ents (k : Nat) (s : List (Nat × Cell)) (c : Cell) : mput k (ents s) (cellA c) (.bool true) = .map (addK k s c) (ents (addS k s c)) := by
  unfold mput addK addS
  rw [mset_ents]
  by_cases h : inS s c
  · simp only [if_pos h]
  · simp only [if_neg h]
    simp [ents]
theorem WfS.add {k : Nat} {s : List (Nat × Cell)} (h : WfS k s) (c : Cell) : WfS (addK k s c) (addS k s c) := by
  unfold addK addS
  by_cases hc : inS s c
  · rw [if_pos hc, if_pos hc]; exact h
  · rw [if_neg hc, if_neg hc]
    refine ⟨?_, ?_, ?_⟩
    · rw [List.map_append, List.nodup_append]
      refine ⟨h.nd, by simp, ?_⟩
      rintro a ha b hb rfl
      simp at hb; subst hb
      exact hc ha
    · rw [List.map_append, List.nodup_append]
      refine ⟨h.st, by simp, ?_⟩
      rintro a ha b hb rfl
      simp at hb; subst hb
      obtain ⟨p, hp, e⟩ := List.mem_map.1 ha
      have := h.lt p hp
      omega
    · intro p hp
      rcases List.mem_append.1 hp with hp | hp
      · have := h.lt p hp; omega
      · simp at hp; subst hp; simp
theorem in_add (k : Nat) (s : List (Nat × Cell)) (c d : Cell) : inS (addS k s c) d ↔ inS s d ∨ d = c := by
  unfold addS
  by_cases hc : inS s c
  · rw [if_pos hc]
    constructor
    · exact .inl
    · rintro (h | rfl)
      · exact h
      · exact hc
  · rw [if_neg hc]; simp [inS]
def delS (c : Cell) : List (Nat × Cell) → List (Nat × Cell)
  | [] => []
  | p :: s => if c = p.2 then s else p :: delS c s
theorem mdel_ents (c : Cell) : ∀ s : List (Nat × Cell), mdelL (cellA c) (ents s) = ents (delS c s)
  | [] => rfl
  | p :: s => by
    have ih := mdel_ents c s
    simp only [ents, List.map_cons, mdelL, keq_cell, delS] at ih ⊢
    by_cases h : c = p.2
    · simp [h]
    · simp [h, ih]
theorem delS_sub (c : Cell) : ∀ s : List (Nat × Cell), (delS c s).Sublist s
  | [] => List.Sublist.refl _
  | p :: s => by
    unfold delS
    split
    · exact List.sublist_cons_self _ _
    · exact (delS_sub c s).cons_cons _
theorem WfS.del {k : Nat} {s : List (Nat × Cell)} (h : WfS k s) (c : Cell) : WfS k (delS c s) :=
  ⟨((delS_sub c s).map _).nodup h.nd, ((delS_sub c s).map _).nodup h.st, fun p hp => h.lt p ((delS_sub c s).subset hp)⟩
theorem in_del {c d : Cell} : ∀ {s : List (Nat × Cell)}, (s.map (·.2)).Nodup → (inS (delS c s) d ↔ inS s d ∧ d ≠ c)
  | [], _ => by simp [delS, inS]
  | p :: s, h => by
    rw [List.map_cons, List.nodup_cons] at h
    have ih := in_del (c := c) (d := d) h.2
    unfold delS
    split
    · rename_i hc
      subst hc
      simp only [inS, List.map_cons, List.mem_cons] at ih ⊢
      constructor
      · intro hd
        exact ⟨.inr hd, fun e => h.1 (e ▸ hd)⟩
      · rintro ⟨rfl | hd, hne⟩
        · exact absurd rfl hne
        · exact hd
    · rename_i hc
      simp only [inS, List.map_cons, List.mem_cons] at ih ⊢
      rw [ih]
      constructor
      · rintro (rfl | ⟨h1, h2⟩)
        · exact ⟨.inl rfl, fun e => hc e.symm⟩
        · exact ⟨.inr h1, h2⟩
      · rintro ⟨rfl | h1, h2⟩
        · exact .inl rfl
        · exact .inr ⟨h1, h2⟩
def ofL (k : Nat) (s : List (Nat × Cell)) : List Cell → Nat × List (Nat × Cell)
  | [] => (k, s)
  | c :: l => ofL (addK k s c) (addS k s c) l
theorem ofL_wf : ∀ {l : List Cell} {k : Nat} {s : List (Nat × Cell)}, WfS k s → WfS (ofL k s l).1 (ofL k s l).2
  | [], k, s, h => h
  | c :: l, k, s, h => ofL_wf (l := l) (h.add c)
theorem ofL_in (d : Cell) : ∀ {l : List Cell} {k : Nat} {s : List (Nat × Cell)}, inS (ofL k s l).2 d ↔ inS s d ∨ d ∈ l
  | [], k, s => by simp [ofL]
  | c :: l, k, s => by
    rw [ofL, ofL_in d (l := l), in_add, List.mem_cons]
    constructor
    · rintro ((h | h) | h)
      · exact .inl h
      · exact .inr (.inl h)
      · exact .inr (.inr h)
    · rintro (h | h | h)
      · exact .inl (.inl h)
      · exact .inl (.inr h)
      · exact .inr h
theorem ofL_snoc : ∀ (l : List Cell) (c : Cell) (k : Nat) (s : List (Nat × Cell)), ofL k s (l ++ [c]) = (addK (ofL k s l).1 (ofL k s l).2 c, addS (ofL k s l).1 (ofL k s l).2 c)
  | [], c, k, s => rfl
  | d :: l, c, k, s => by rw [List.cons_append, ofL, ofL_snoc l c]; rfl
theorem WfS.nil (k : Nat) : WfS k [] := ⟨by simp, by simp, by simp⟩
end Go.Proofs.Ytpdajkbfemcdlaa
set_option linter.unusedSimpArgs false
set_option linter.unusedVariables false
set_option maxRecDepth 10000
namespace Go.Proofs.Ytpdajkbfemcdlaa
open Go.Ge Go.Sort
theorem drV_map {s id : Nat} : drV s (.map id) = .map id := rfl
theorem rdv_map {id : Nat} : rdv (.map id) = .map id := rfl
theorem aw_cutBB {P : Program} {a : ACode} {n m : Nat} {K Pm : AState → Prop} {Q : AExit → AState → Prop} {S : AState} (h : aw (ACalls P) a (AExit.inBlock n (AExit.inBlock m (AExit.then Pm Q))) S) (hk : ∀ S', Pm S' → K S') : aw (ACalls P) a (AExit.inBlock n (AExit.inBlock m (AExit.then K Q))) S :=
  aw_mono (CMono_ACalls P) a (fun e S' h => by
    have key : ∀ e S', AExit.inBlock m (AExit.then Pm Q) e S' → AExit.inBlock m (AExit.then K Q) e S' := fun e S' h => by
      cases e with
      | exit i =>
        simp only [AExit.inBlock] at h ⊢
        split at h
        · rename_i hh; rw [if_pos hh]; exact hk _ h
        · rename_i hh; rw [if_neg hh]; exact h
      | normal => exact hk _ h
      | ret => exact h
    cases e with
    | exit i =>
      simp only [AExit.inBlock] at h ⊢
      split at h
      · rename_i hh; rw [if_pos hh]; exact hk _ h
      · rename_i hh; rw [if_neg hh]; exact key (.exit i) _ h
    | normal => exact hk _ h
    | ret => exact h) h
theorem hend (h : List HObj) (x : HObj) : (h ++ [x])[h.length]? = some x := by simp
theorem hendset (h : List HObj) (x y : HObj) : (h ++ [x]).set h.length y = h ++ [y] := by simp
theorem SetOf_ok (o : Own) (l : List Cell) (ho : Rdo o) (hl : l.length < 4611686018427387904) (h : List HObj) :
    ACalls Try.prog F.gantref5_SetOf [.lst o (cellsA l)] h (fun v h' => v = .map h.length ∧ h' = h ++ [.map (ofL 0 [] l).1 (ents (ofL 0 [] l).2)]) := by
  refine ACalls.of_aw Try.func107 K.gantref5_SetOf (by simp [Try.f107]) ?_
  generalize hQ : retQ R.gantref5_SetOf _ = Q
  simp (disch := first | assumption | omega) only [C.gantref5_SetOf, go_sem, ↓reduceIte, reduceCtorEq, reduceIte]
  refine aw_count (fun n S => ∃ (i : Nat), i + n = l.length ∧ S.env 9 = .int .i64 i ∧ S.env 8 = .int .i64 l.length ∧ S.env 7 = .lst o (cellsA l) ∧ S.env 3 = .map h.length ∧ S.heap = h ++ [.map (ofL 0 [] (l.take i)).1 (ents (ofL 0 [] (l.take i)).2)]) (n := l.length) ⟨0, by omega, by simp (disch := first | assumption | omega) only [go_sem, ↓reduceIte, reduceIte], by simp (disch := first | assumption | omega) only [go_sem, ↓reduceIte, Nat.reduceEqDiff, reduceIte], by simp (disch := first | assumption | omega) only [go_sem, ↓reduceIte, Nat.reduceEqDiff, reduceIte], by simp (disch := first | assumption | omega) only [go_sem, ↓reduceIte, Nat.reduceEqDiff, reduceIte], by simp (disch := first | assumption | omega) only [go_sem]; rfl⟩ ?_
  rintro n S ⟨i, hi, e9, e8, e7, e3, eh⟩
  by_cases hlt : (i : Int) < l.length
  · have hi1 : i < l.length := by omega
    have q1 := at_cells hi1
    have hsn : ofL 0 [] (l.take (i + 1)) = (addK (ofL 0 [] (l.take i)).1 (ofL 0 [] (l.take i)).2 l[i], addS (ofL 0 [] (l.take i)).1 (ofL 0 [] (l.take i)).2 l[i]) := by
      rw [List.take_add_one, List.getElem?_eq_getElem hi1]
      exact ofL_snoc _ _ _ _
    have hk := keyOk_cell l[i]
    have hks := keyOk_ents (ofL 0 [] (l.take i)).2
    have hput := mput_ents (ofL 0 [] (l.take i)).1 (ofL 0 [] (l.take i)).2 l[i]
    unfold cellA at hk hput
    simp (disch := first | assumption | omega) only [e9, e8, e7, e3, eh, hlt, q1, cellA, hend, hput, hendset, drV_map, rdv_map, go_sem, ↓reduceIte, Nat.reduceEqDiff, Nat.reduceAdd, Nat.reduceLeDiff, reduceIte, Int.reduceAdd]
    exact ⟨hk, hks, n - 1, by omega, i + 1, by omega, by simp, by rw [hsn]⟩
  · obtain rfl : i = l.length := by omega
    rw [List.take_length] at eh
    simp (disch := first | assumption | omega) only [e9, e8, e3, hlt, go_sem, ↓reduceIte, Nat.reduceEqDiff, reduceIte]
    subst hQ
    simp (disch := first | assumption | omega) only [R.gantref5_SetOf, eh, go_sem, ↓reduceIte, reduceIte]
def GridQ (s : List (Nat × Cell)) (v : AVal) : Prop := ∃ (L : List Cell) (q : Own), v = .lst q (cellsA L) ∧ (q = .nil ∧ L = [] ∨ q = .app 2) ∧ Up L ∧ ∀ c, c ∈ L ↔ inS s c ∧ onG c.X ∧ onG c.Y
theorem List_ok (id k : Nat) (s : List (Nat × Cell)) (hw : WfS k s) (h : List HObj) (hid : h[id]? = some (.map k (ents s))) :
    ACalls Try.prog F.gantref5_Set_List [.map id] h (fun v h' => GridQ s v ∧ h' = h) := by
  refine ACalls.of_aw Try.func141 K.gantref5_Set_List (by simp [Try.f141]) ?_
  generalize hQ : retQ R.gantref5_Set_List _ = Q
  simp (disch := first | assumption | omega) only [C.gantref5_Set_List, go_sem, Int.reduceNeg]
  refine aw_count (fun n S => ∃ (L : List Cell) (q : Own), n ≤ 128 ∧ S.env 4 = .int .i64 (64 - (n : Int)) ∧ S.env 0 = .map id ∧ S.env 3 = .lst q (cellsA L) ∧ (q = .nil ∧ L = [] ∨ q = .app 2) ∧ Up L ∧ L.length + 128 * n ≤ 16384 ∧ (∀ c : Cell, c ∈ L ↔ inS s c ∧ onG c.X ∧ -64 ≤ c.Y ∧ c.Y < 64 - (n : Int)) ∧ S.heap = h) (n := 128)
    ⟨[], .nil, by omega, by simp (disch := first | assumption | omega) only [go_sem, ↓reduceIte, reduceIte, Int.reduceNeg]; rfl, by simp (disch := first | assumption | omega) only [go_sem, ↓reduceIte, reduceCtorEq, reduceIte, Int.reduceNeg], by simp (disch := first | assumption | omega) only [go_sem, ↓reduceIte, Nat.reduceEqDiff, reduceIte, Int.reduceNeg]; rfl, .inl ⟨rfl, rfl⟩, List.Pairwise.nil, by simp, fun c => ⟨fun h => (by cases h), fun h => (by omega)⟩, by simp (disch := first | assumption | omega) only [go_sem, Int.reduceNeg]⟩ ?_
  rintro n S ⟨L, q, hn, e4, e0, e3, hq, hu, hL, hm, eh⟩
  by_cases hlt : (64 : Int) - n < 64
  · simp (disch := first | assumption | omega) only [e4, hlt, go_sem, ↓reduceIte, reduceIte, Int.reduceNeg]
    refine aw_cutBB (Pm := fun S => ∃ (L : List Cell) (q : Own), S.env 4 = .int .i64 (64 - (n : Int)) ∧ S.env 0 = .map id ∧ S.env 3 = .lst q (cellsA L) ∧ (q = .nil ∧ L = [] ∨ q = .app 2) ∧ Up L ∧ L.length + 128 * (n - 1) ≤ 16384 ∧ (∀ c : Cell, c ∈ L ↔ inS s c ∧ onG c.X ∧ -64 ≤ c.Y ∧ c.Y < 64 - (n : Int) + 1) ∧ S.heap = h) ?_ ?_
    · refine aw_count (fun m S => ∃ (L : List Cell) (q : Own), m ≤ 128 ∧ S.env 5 = .int .i64 (64 - (m : Int)) ∧ S.env 4 = .int .i64 (64 - (n : Int)) ∧ S.env 0 = .map id ∧ S.env 3 = .lst q (cellsA L) ∧ (q = .nil ∧ L = [] ∨ q = .app 2) ∧ Up L ∧ L.length + 128 * (n - 1) + m ≤ 16384 ∧ (∀ c : Cell, c ∈ L ↔ inS s c ∧ onG c.X ∧ -64 ≤ c.Y ∧ (c.Y < 64 - (n : Int) ∨ c.Y = 64 - (n : Int) ∧ c.X < 64 - (m : Int))) ∧ S.heap = h) (n := 128)
        ⟨L, q, by omega, by simp (disch := first | assumption | omega) only [go_sem, ↓reduceIte, reduceIte, Int.reduceNeg]; rfl, by simp (disch := first | assumption | omega) only [e4, go_sem, ↓reduceIte, Nat.reduceEqDiff, reduceIte, Int.reduceNeg], by simp (disch := first | assumption | omega) only [e0, go_sem, ↓reduceIte, reduceCtorEq, reduceIte, Int.reduceNeg], by simp (disch := first | assumption | omega) only [e3, go_sem, ↓reduceIte, Nat.reduceEqDiff, reduceIte, Int.reduceNeg], hq, hu, by omega, fun c => by rw [hm c]; refine and_congr_right fun _ => ?_; unfold onG; omega, by simp (disch := first | assumption | omega) only [eh, go_sem, Int.reduceNeg]⟩ ?_
      clear e4 e0 e3 eh hq hu hL hm
      clear L q
      rintro m S ⟨L, q, hm128, e5, e4, e0, e3, hq, hu, hL, hm, eh⟩
      by_cases hlm : (64 : Int) - m < 64
      · have hk := keyOk_cell ⟨64 - (m : Int), 64 - (n : Int)⟩
        have hks := keyOk_ents s
        have hget := mget_ents ⟨64 - (m : Int), 64 - (n : Int)⟩ s
        unfold cellA at hk hget
        have hks' : (∀ e ∈ ents s, keyOk true [.i .i64, .i .i64] e.2.1) = True := eq_true hks
        by_cases hin : inS s ⟨64 - (m : Int), 64 - (n : Int)⟩
        · rw [if_pos hin] at hget
          simp (disch := first | assumption | omega) only [e5, e4, e0, e3, eh, hlm, mlookV, hid, hk, hget, hks', rdv_map, go_sem, ↓reduceIte, Nat.reduceEqDiff, reduceCtorEq, Nat.reduceAdd, Nat.reduceLeDiff, reduceIte, Int.reduceAdd, Int.reduceMul, Int.reduceNeg, Nat.reduceMul]
          refine ⟨?_, by omega, by omega, m - 1, by omega, L ++ [⟨64 - (m : Int), 64 - (n : Int)⟩], .app 2, by omega, by congr 1; omega, by simp [cellsA, cellA], .inr rfl, ?_, by simp; omega, fun c => ?_⟩
          · rcases hq with ⟨rfl, rfl⟩ | rfl <;> rfl
          · refine List.pairwise_append.2 ⟨hu, List.pairwise_singleton _ _, fun a ha b hb => ?_⟩
            rw [List.mem_singleton.1 hb]
            obtain ⟨_, _, _, h4⟩ := (hm a).1 ha
            exact h4
          · rw [List.mem_append, List.mem_singleton, hm c]
            constructor
            · rintro (⟨h1, h2, h3, h4⟩ | rfl)
              · exact ⟨h1, h2, h3, by omega⟩
              · exact ⟨hin, by unfold onG; simp only []; omega, by simp only []; omega, .inr ⟨rfl, by simp only []; omega⟩⟩
            · rintro ⟨h1, h2, h3, h4⟩
              by_cases hc : c.X = 64 - (m : Int) ∧ c.Y = 64 - (n : Int)
              · right
                cases c
                simp only [Cell.mk.injEq] at *
                exact hc
              · exact .inl ⟨h1, h2, h3, by omega⟩
        · rw [if_neg hin] at hget
          simp (disch := first | assumption | omega) only [e5, e4, e0, e3, eh, hlm, mlookV, hid, hk, hget, hks', rdv_map, go_sem, ↓reduceIte, Nat.reduceEqDiff, reduceCtorEq, Nat.reduceAdd, Nat.reduceLeDiff, reduceIte, Int.reduceAdd, Int.reduceNeg]
          refine ⟨m - 1, by omega, L, q, by omega, by congr 1; omega, rfl, hq, hu, by omega, fun c => ?_⟩
          rw [hm c]
          constructor
          · rintro ⟨h1, h2, h3, h4⟩
            exact ⟨h1, h2, h3, by omega⟩
          · rintro ⟨h1, h2, h3, h4⟩
            refine ⟨h1, h2, h3, ?_⟩
            have hc : ¬(c.X = 64 - (m : Int) ∧ c.Y = 64 - (n : Int)) := fun ⟨e1, e2⟩ => hin (by
              have e : c = ⟨64 - (m : Int), 64 - (n : Int)⟩ := by cases c; simp only [Cell.mk.injEq] at *; exact ⟨e1, e2⟩
              rw [← e]; exact h1)
            omega
      · simp (disch := first | assumption | omega) only [e5, e4, e0, e3, eh, hlm, go_sem, ↓reduceIte, Nat.reduceEqDiff, reduceCtorEq, reduceIte, Int.reduceNeg]
        exact ⟨L, q, rfl, hq, hu, by omega, fun c => by rw [hm c]; refine and_congr_right fun _ => ?_; unfold onG; omega⟩
    · clear e4 e0 e3 eh hq hu hL hm
      clear L q
      rintro S ⟨L, q, e4, e0, e3, hq, hu, hL, hm, eh⟩
      simp (disch := first | assumption | omega) only [e4, e0, e3, eh, go_sem, ↓reduceIte, Nat.reduceEqDiff, reduceCtorEq, reduceIte, Int.reduceNeg]
      exact ⟨n - 1, by omega, L, q, by omega, by congr 1; omega, rfl, hq, hu, hL, fun c => by rw [hm c]; refine and_congr_right fun _ => ?_; unfold onG; omega⟩
  · simp (disch := first | assumption | omega) only [e4, e3, hlt, go_sem, ↓reduceIte, Nat.reduceEqDiff, reduceIte, Int.reduceNeg]
    subst hQ
    simp (disch := first | assumption | omega) only [R.gantref5_Set_List, eh, go_sem, ↓reduceIte, reduceIte]
    exact ⟨L, q, rfl, hq, hu, fun c => by rw [hm c]; refine and_congr_right fun _ => ?_; unfold onG; omega⟩
end Go.Proofs.Ytpdajkbfemcdlaa
set_option linter.unusedSimpArgs false
set_option linter.unusedVariables false
set_option maxRecDepth 10000
namespace Go.Proofs.Ytpdajkbfemcdlaa
open Go.Ge Go.Sort
def zeroM : AVal := .agg [.int .i64 0, .int .i64 0, .lst .nil [], .lst .nil [], .int .i64 0]
def KeepQ (m : Mem) (b : List Int) (e : Ev) (v : AVal) : Prop :=
  (doF m e).2 ≠ 0 ∧ v = .tup [zeroM, .lst .nil [], .int .i64 (doF m e).2] ∨ (doF m e).2 = 0 ∧ ∃ rs, IsScan b rs ∧
    (100000 < (book 0 rs).length + 6 + (evB e).length ∧ v = .tup [zeroM, .lst .nil [], .int .i64 6] ∨ (book 0 rs).length + 6 + (evB e).length ≤ 100000 ∧ ∃ o' p', v = .tup [memA o' p' (doF m e).1, .lst (.app 1) (ints .u8 (book 0 (rs ++ [evB e]))), .int .i64 0] ∧ Rdn o' (doF m e).1.Asked ∧ Rdn p' (doF m e).1.Has)
theorem Keep_ok (o p q r : Own) (m : Mem) (b : List Int) (e : Ev) (ho : Rdn o m.Asked) (hp : Rdn p m.Has) (hq : Rdn q e.Cells) (hr : Rdn r b) (hb : ∀ x ∈ b, inU8 x) (l0 : b.length ≤ 1099511627776) (l1 : m.Asked.length < 4611686018427387904) (l2 : m.Has.length < 4611686018427387904) (l3 : e.Cells.length < 4611686018427387904) (h : List HObj) :
    ACalls Try.prog F.fall_Keep [memA o p m, .lst r (ints .u8 b), eventA q e] h (fun v h' => KeepQ m b e v ∧ h' = h) := by
  have ho1 := ho.1
  have hp1 := hp.1
  have hq1 := hq.1
  have hr1 := hr.1
  refine ACalls.of_aw Try.func113 K.fall_Keep (by simp [Try.f113]) ?_
  generalize hQ : retQ R.fall_Keep _ = Q
  simp (disch := first | assumption | omega) only [C.fall_Keep, go_sem, ↓reduceIte, Nat.reduceEqDiff, reduceCtorEq, Nat.reduceLeDiff, reduceIte]
  simp (disch := first | assumption | omega) only [memA, memC, eventA, eventC, go_sem, Nat.reduceAdd, Nat.reduceLeDiff, Int.reduceAdd]
  refine callG_ok (Do_ok o p q m e ho hp hq l1 l2 l3 _) (by simp (disch := first | assumption | omega) only [go_sem]) ?_
  rintro _ _ ⟨⟨o2, p2, rfl, ho2, hp2⟩, hhh⟩
  rw [hhh]
  clear hhh
  have ho3 := ho2.1
  have hp3 := hp2.1
  by_cases hd : (doF m e).2 = 0
  case neg =>
    simp (disch := first | assumption | omega) only [memA, memC, hd, go_sem, ↓reduceIte, Nat.reduceEqDiff, Nat.reduceAdd, Nat.reduceLeDiff, Nat.reduceLT, reduceIte, Int.reduceLT, Int.reduceAdd]
    subst hQ
    simp (disch := first | assumption | omega) only [R.fall_Keep, go_sem, ↓reduceIte, Nat.reduceEqDiff, Nat.reduceAdd, reduceIte, Int.reduceAdd]
    exact .inl ⟨hd, rfl⟩
  have hev := (doF_zero hd).1
  have hevl := evB_length e
  have hfew := (fault_up (evF_zero hev).2.2.2.2).1
  simp (disch := first | assumption | omega) only [memA, memC, hd, go_sem, ↓reduceIte, Nat.reduceEqDiff, Nat.reduceAdd, Nat.reduceLeDiff, Nat.reduceLT, reduceIte, Int.reduceLT, Int.reduceAdd]
  refine callG_ok (FWrite_ok q e hq1 l3 _) (by simp (disch := first | assumption | omega) only [go_sem]) ?_
  rintro _ _ ⟨hw, hhh⟩
  rw [hhh]
  clear hhh
  rcases hw with ⟨hne, _⟩ | ⟨_, rfl⟩
  · exact absurd hev hne
  simp (disch := first | assumption | omega) only [go_sem, ↓reduceIte, Nat.reduceEqDiff, reduceCtorEq, Nat.reduceAdd, Nat.reduceLT, reduceIte, Int.reduceLT, Int.reduceAdd]
  refine callG_ok (Add_ok r .sh b (evB e) hr ⟨.inl rfl, fun h => by cases h⟩ hb (evB_u8 e) l0 (by omega) _) (by simp (disch := first | assumption | omega) only [go_sem]) ?_
  rintro _ _ ⟨ha, hhh⟩
  rw [hhh]
  clear hhh
  rcases ha with ⟨hlong, _⟩ | ⟨_, rs, hS, ⟨hfull, rfl⟩ | ⟨hroom, rfl⟩⟩
  · omega
  · simp (disch := first | assumption | omega) only [go_sem, ↓reduceIte, Nat.reduceEqDiff, Nat.reduceAdd, Nat.reduceLeDiff, Nat.reduceLT, reduceIte, Int.reduceLT, Int.reduceAdd, Int.reduceEq]
    subst hQ
    simp (disch := first | assumption | omega) only [R.fall_Keep, go_sem, ↓reduceIte, Nat.reduceEqDiff, Nat.reduceAdd, reduceIte, Int.reduceAdd]
    exact .inr ⟨hd, rs, hS, .inl ⟨hfull, rfl⟩⟩
  · simp (disch := first | assumption | omega) only [go_sem, ↓reduceIte, Nat.reduceEqDiff, Nat.reduceAdd, Nat.reduceLeDiff, Nat.reduceLT, reduceIte, Int.reduceLT, Int.reduceAdd]
    subst hQ
    simp (disch := first | assumption | omega) only [R.fall_Keep, go_sem, ↓reduceIte, Nat.reduceEqDiff, Nat.reduceAdd, reduceIte, Int.reduceAdd]
    exact .inr ⟨hd, rs, hS, .inr ⟨hroom, o2, p2, rfl, ho2, hp2⟩⟩
theorem doF_few (m : Mem) (e : Ev) : (doF m e).1.Asked.length ≤ 400 ∧ (doF m e).1.Has.length ≤ 400 := by
  unfold doF
  by_cases hc : evF e = 0
  case neg => rw [if_pos hc]; exact ⟨by simp [mem0], by simp [mem0]⟩
  rw [if_neg (by simp [hc])]
  by_cases hr : memF m = 0
  case neg => rw [if_pos hr]; exact ⟨by simp [mem0], by simp [mem0]⟩
  rw [if_neg (by simp [hr])]
  obtain ⟨e1, e2, e3, e4, e5⟩ := evF_zero hc
  obtain ⟨m1, m2, m3, m4, m5⟩ := memF_zero.1 hr
  have f1 := (fault_up m4).1
  have f2 := (fault_up m5).1
  have f3 := (fault_up e5).1
  have g1 : (minusC e.Cells m.Has).length ≤ 400 := (fault_up (minus_fault e5)).1
  have g2 : (minusC m.Has e.Cells).length ≤ 400 := (fault_up (minus_fault m5)).1
  repeat' split
  all_goals first
    | exact ⟨f1, f2⟩
    | exact ⟨Nat.zero_le _, Nat.zero_le _⟩
    | exact ⟨g1, f2⟩
    | exact ⟨f1, g2⟩
    | (rename_i hj; exact ⟨Nat.zero_le _, (fault_up (Decidable.not_not.1 hj)).1⟩)
end Go.Proofs.Ytpdajkbfemcdlaa
set_option linter.unusedSimpArgs false
set_option linter.unusedVariables false
set_option maxRecDepth 10000
namespace Go.Proofs.Ytpdajkbfemcdlaa
open Go.Ge Go.Sort
def doB (m : Mem) (e : Ev) : Mem × Int :=
  if e.Kind = 1 then ({ m with Goal := e.N, Ticks := 0 }, 0)
  else if e.Kind = 2 then if m.Ticks ≥ 2000 then (mem0, 19) else ({ m with Ticks := m.Ticks + 1 }, 0)
  else if e.Kind = 3 then if 0 < m.Asked.length then (mem0, 7) else ({ m with Asked := minusC e.Cells m.Has }, 0)
  else if e.Kind = 4 then if cellsFault (joinC m.Has m.Asked) ≠ 0 then (mem0, 6) else ({ m with Has := joinC m.Has m.Asked, Asked := [] }, 0)
  else if e.Kind = 5 then if withinC e.Cells m.Has = false then (mem0, 4) else ({ m with Has := minusC m.Has e.Cells }, 0)
  else ({ m with Falls := IntKind.i64.wrap (m.Falls + 1) }, 0)
theorem doF_body {m : Mem} {e : Ev} (h1 : evF e = 0) (h2 : memF m = 0) : doF m e = doB m e := by
  unfold doF
  rw [if_neg (by simp [h1]), if_neg (by simp [h2])]
  rfl
end Go.Proofs.Ytpdajkbfemcdlaa
set_option linter.unusedSimpArgs false
set_option linter.unusedVariables false
set_option maxRecDepth 10000
namespace Go.Proofs.Ytpdajkbfemcdlaa
open Go.Ge Go.Sort
theorem up_nodup {l : List Cell} (h : Up l) : l.Nodup := List.Pairwise.imp (R := cellLt) (S := fun a b => a ≠ b) (fun {a b} hab e => cellLt_irrefl b (by rw [e] at hab; exact hab)) h
theorem nd_inj {α β : Type} (f : α → β) : ∀ {l : List α}, (l.map f).Nodup → ∀ {a b : α}, a ∈ l → b ∈ l → f a = f b → a = b
  | x :: l, h, a, b, ha, hb, e => by
    rw [List.map_cons, List.nodup_cons] at h
    rcases List.mem_cons.1 ha with ea | ha <;> rcases List.mem_cons.1 hb with eb | hb
    · rw [ea, eb]
    · rw [ea] at e; exact absurd (List.mem_map.2 ⟨b, hb, e.symm⟩) h.1
    · rw [eb] at e; exact absurd (List.mem_map.2 ⟨a, ha, e⟩) h.1
    · exact nd_inj f h.2 ha hb e
theorem grid_eq {s : List (Nat × Cell)} {v : AVal} {R : List Cell} (h : GridQ s v) (hR : Up R) (hm : ∀ c, c ∈ R ↔ inS s c) (hg : ∀ c ∈ R, onG c.X ∧ onG c.Y) : ∃ q, v = .lst q (cellsA R) ∧ (q = .nil ∧ R = [] ∨ q = .app 2) := by
  obtain ⟨L, q, rfl, hq, hu, hL⟩ := h
  have e : L = R := up_mem_eq hu hR fun c => by
    rw [hL c, ← hm c]
    exact ⟨fun h => h.1, fun h => ⟨h, hg c h⟩⟩
  subst e
  exact ⟨q, rfl, hq⟩
theorem set_len {s : List (Nat × Cell)} {R : List Cell} (hs : (s.map (·.2)).Nodup) (hR : Up R) (hm : ∀ c, c ∈ R ↔ inS s c) : s.length = R.length := by
  have := (List.perm_ext_iff_of_nodup hs (up_nodup hR)).2 fun c => (hm c).symm
  have := this.length_eq
  simpa using this
theorem find_ents : ∀ {s : List (Nat × Cell)} {p : Nat × Cell}, (s.map (·.1)).Nodup → p ∈ s → (ents s).find? (fun x => x.1 == p.1) = some (p.1, cellA p.2, .bool true)
  | q :: s, p, h, hp => by
    rw [List.map_cons, List.nodup_cons] at h
    simp only [ents, List.map_cons, List.find?_cons]
    rcases List.mem_cons.1 hp with rfl | hp
    · simp
    · have hne : ¬ q.1 = p.1 := fun e => h.1 (e ▸ List.mem_map.2 ⟨p, hp, rfl⟩)
      have hb : (q.1 == p.1) = false := by simpa using hne
      rw [hb]
      exact find_ents h.2 hp
theorem filter_ents (lf : List (Nat × Cell)) (p : Nat × Cell) : (ents lf).filter (fun x => x.1 != p.1) = ents (lf.filter fun q => q.1 != p.1) := by
  unfold ents
  rw [List.filter_map]
  rfl
theorem in_rest {lf : List (Nat × Cell)} {p : Nat × Cell} (h1 : (lf.map (·.1)).Nodup) (h2 : (lf.map (·.2)).Nodup) (hp : p ∈ lf) (c : Cell) : inS (lf.filter fun q => q.1 != p.1) c ↔ inS lf c ∧ c ≠ p.2 := by
  have inj1 : ∀ q ∈ lf, q.1 = p.1 → q = p := fun q hq e => nd_inj _ h1 hq hp e
  have inj2 : ∀ q ∈ lf, q.2 = p.2 → q = p := fun q hq e => nd_inj _ h2 hq hp e
  unfold inS
  simp only [List.mem_map, List.mem_filter, bne_iff_ne, ne_eq]
  constructor
  · rintro ⟨q, ⟨hq, hne⟩, rfl⟩
    exact ⟨⟨q, hq, rfl⟩, fun e => hne (by rw [inj2 q hq e])⟩
  · rintro ⟨⟨q, hq, rfl⟩, hne⟩
    exact ⟨q, ⟨hq, fun e => hne (by rw [inj1 q hq e])⟩, rfl⟩
theorem not_mem_take {l : List Cell} (h : Up l) {i : Nat} (hi : i < l.length) : l[i] ∉ l.take i := by
  intro hm
  obtain ⟨j, hj, e⟩ := List.mem_iff_getElem.1 hm
  rw [List.length_take] at hj
  rw [List.getElem_take] at e
  have := up_at h (i := j) (j := i) (by omega) hi
  rw [e] at this
  exact cellLt_irrefl _ this
theorem mem_minusC (a b : List Cell) (c : Cell) : c ∈ minusC a b ↔ c ∈ a ∧ c ∉ b := by
  unfold minusC
  rw [List.mem_filter, mem_normC]
  simp
section
variable (h : List HObj) (a b c x : HObj)
theorem drV_cell {s : Nat} {k1 k2 : IntKind} {x y : Int} : drV s (.agg [.int k1 x, .int k2 y]) = .agg [.int k1 x, .int k2 y] := rfl
theorem h3_0 : (h ++ [a, b, c])[h.length]? = some a := by simp
theorem h3_1 : (h ++ [a, b, c])[h.length + 1]? = some b := by simp [List.getElem?_append]
theorem h3_2 : (h ++ [a, b, c])[h.length + 2]? = some c := by simp [List.getElem?_append]
theorem h3_s1 : (h ++ [a, b, c]).set (h.length + 1) x = h ++ [a, x, c] := by rw [List.set_append_right _ _ (by omega)]; simp
theorem h3_s2 : (h ++ [a, b, c]).set (h.length + 2) x = h ++ [a, b, x] := by rw [List.set_append_right _ _ (by omega)]; simp
end
def HapQ (m : Mem) (e : Ev) (v : AVal) : Prop := ∃ o' p', v = .tup [memRA o' p' (doF m e).1, .int .i64 (doF m e).2] ∧ Rdn o' (doF m e).1.Asked ∧ Rdn p' (doF m e).1.Has
theorem HapQ.none {m : Mem} {e : Ev} {x : Int} (h : doF m e = (mem0, x)) : HapQ m e (.tup [.agg [.int .i64 0, .int .i64 0, .int .i64 0, .lst .nil [], .lst .nil []], .int .i64 x]) := by
  unfold HapQ
  rw [h]
  exact ⟨.nil, .nil, rfl, ⟨.inr rfl, fun _ => rfl⟩, ⟨.inr rfl, fun _ => rfl⟩⟩
theorem Happens_ok (o p q : Own) (m : Mem) (e : Ev) (he : evF e = 0) (ho : Rdn o m.Asked) (hp : Rdn p m.Has) (hq : Rdn q e.Cells) (l1 : m.Asked.length < 4611686018427387904) (l2 : m.Has.length < 4611686018427387904) (h : List HObj) :
    ACalls Try.prog F.gantref5_Happens [memRA o p m, .int .i64 e.Kind, .int .i64 e.N, .lst q (cellsA e.Cells)] h (fun v h' => HapQ m e v ∧ h' = h) := by
  have ho1 := ho.1
  have hp1 := hp.1
  have hq1 := hq.1
  refine ACalls.gcn (ACalls.of_aw Try.func122 K.gantref5_Happens (by simp [Try.f122]) ?_)
  generalize hQ : retQ R.gantref5_Happens _ = Q
  simp (disch := first | assumption | omega) only [C.gantref5_Happens, go_sem, ↓reduceIte, Nat.reduceEqDiff, Nat.reduceLeDiff, reduceIte]
  simp (disch := first | assumption | omega) only [memRA, memRC, go_sem, Nat.reduceAdd, Nat.reduceLeDiff, Int.reduceAdd]
  refine callG_ok (MemFault_ok o p m ho1 hp1 l1 l2 _) (by simp (disch := first | assumption | omega) only [go_sem]) ?_
  rintro _ _ ⟨rfl, hhh⟩
  rw [hhh]
  clear hhh
  by_cases hr : memF m = 0
  case neg =>
    simp (disch := first | assumption | omega) only [hr, go_sem, ↓reduceIte, Nat.reduceEqDiff, Nat.reduceAdd, Nat.reduceLeDiff, reduceIte, Int.reduceAdd]
    subst hQ
    simp (disch := first | assumption | omega) only [R.gantref5_Happens, go_sem, ↓reduceIte, Nat.reduceEqDiff, Nat.reduceAdd, reduceIte, Int.reduceAdd]
    exact ⟨[], by simp, by simp [AVal.ids, idsL], HapQ.none (by unfold doF; rw [if_neg (by simp [he]), if_pos hr])⟩
  have hd := doF_body he hr
  unfold doB at hd
  obtain ⟨e1, e2, e3, e4, e5⟩ := evF_zero he
  obtain ⟨m1, m2, m3, m4, m5⟩ := memF_zero.1 hr
  obtain ⟨f1, ga, ua⟩ := fault_up m4
  obtain ⟨f2, gh, uh⟩ := fault_up m5
  obtain ⟨f3, gc, uc⟩ := fault_up e5
  simp (disch := first | assumption | omega) only [hr, go_sem, ↓reduceIte, Nat.reduceEqDiff, Nat.reduceAdd, Nat.reduceLeDiff, Nat.reduceLT, reduceIte, Int.reduceLT, Int.reduceAdd]
  refine callG_ok (SetOf_ok p m.Has hp1 l2 _) (by simp (disch := first | assumption | omega) only [go_sem]) ?_
  rintro _ _ ⟨rfl, rfl⟩
  have hw1 := ofL_wf (l := m.Has) (WfS.nil 0)
  have hi1 : ∀ c, inS (ofL 0 [] m.Has).2 c ↔ c ∈ m.Has := fun c => by rw [ofL_in]; simp [inS]
  generalize hS1 : (ofL 0 [] m.Has).2 = s1 at *
  generalize hK1 : (ofL 0 [] m.Has).1 = k1 at *
  by_cases c1 : e.Kind = 1
  · rw [if_pos c1] at hd
    simp (disch := first | assumption | omega) only [c1, go_sem, ↓reduceIte, Nat.reduceEqDiff, reduceCtorEq, Nat.reduceAdd, Nat.reduceLeDiff, reduceIte, Int.reduceAdd]
    subst hQ
    simp (disch := first | assumption | omega) only [R.gantref5_Happens, go_sem, ↓reduceIte, Nat.reduceEqDiff, Nat.reduceAdd, reduceIte, Int.reduceAdd]
    exact ⟨_, rfl, by simp [AVal.ids, idsL, cells_ids], o, p, by rw [hd]; rfl, by rw [hd]; exact ho, by rw [hd]; exact hp⟩
  rw [if_neg c1] at hd
  by_cases c2 : e.Kind = 2
  · rw [if_pos c2] at hd
    by_cases c : m.Ticks ≥ 2000
    · rw [if_pos c] at hd
      have c' : 1999 < m.Ticks := by omega
      simp (disch := first | assumption | omega) only [c2, c', go_sem, ↓reduceIte, Nat.reduceEqDiff, reduceCtorEq, Nat.reduceAdd, Nat.reduceLeDiff, reduceIte, Int.reduceAdd, Int.reduceEq]
      subst hQ
      simp (disch := first | assumption | omega) only [R.gantref5_Happens, go_sem, ↓reduceIte, Nat.reduceEqDiff, Nat.reduceAdd, reduceIte, Int.reduceAdd]
      exact ⟨_, rfl, by simp [AVal.ids, idsL], HapQ.none hd⟩
    · rw [if_neg c] at hd
      have c' : ¬ 1999 < m.Ticks := by omega
      simp (disch := first | assumption | omega) only [c2, c', go_sem, ↓reduceIte, Nat.reduceEqDiff, reduceCtorEq, Nat.reduceAdd, Nat.reduceLeDiff, reduceIte, Int.reduceAdd, Int.reduceEq]
      subst hQ
      simp (disch := first | assumption | omega) only [R.gantref5_Happens, go_sem, ↓reduceIte, Nat.reduceEqDiff, Nat.reduceAdd, reduceIte, Int.reduceAdd]
      exact ⟨_, rfl, by simp [AVal.ids, idsL, cells_ids], o, p, by rw [hd]; rfl, by rw [hd]; exact ho, by rw [hd]; exact hp⟩
  rw [if_neg c2] at hd
  by_cases c3 : e.Kind = 3
  · rw [if_pos c3] at hd
    by_cases c : 0 < m.Asked.length
    · rw [if_pos c] at hd
      have c' : ¬ ((m.Asked.length : Int) = 0) := by omega
      simp (disch := first | assumption | omega) only [c3, c', go_sem, ↓reduceIte, Nat.reduceEqDiff, reduceCtorEq, Nat.reduceAdd, Nat.reduceLeDiff, reduceIte, Int.reduceAdd, Int.reduceEq]
      subst hQ
      simp (disch := first | assumption | omega) only [R.gantref5_Happens, go_sem, ↓reduceIte, Nat.reduceEqDiff, Nat.reduceAdd, reduceIte, Int.reduceAdd]
      exact ⟨_, rfl, by simp [AVal.ids, idsL], HapQ.none hd⟩
    rw [if_neg c] at hd
    have c' : (m.Asked.length : Int) = 0 := by omega
    simp (disch := first | assumption | omega) only [c3, c', go_sem, ↓reduceIte, Nat.reduceEqDiff, reduceCtorEq, Nat.reduceAdd, Nat.reduceLeDiff, reduceIte, Int.reduceAdd, Int.reduceEq]
    refine callG_ok (SetOf_ok q e.Cells hq1 (by omega) _) (by simp (disch := first | assumption | omega) only [go_sem]) ?_
    rintro _ _ ⟨rfl, rfl⟩
    have hw2 := ofL_wf (l := e.Cells) (WfS.nil 0)
    have hi2 : ∀ c, inS (ofL 0 [] e.Cells).2 c ↔ c ∈ e.Cells := fun c => by rw [ofL_in]; simp [inS]
    generalize hS2 : (ofL 0 [] e.Cells).2 = s2 at *
    generalize hK2 : (ofL 0 [] e.Cells).1 = k2 at *
    simp (disch := first | assumption | omega) only [rdv_map, go_sem, ↓reduceIte, Nat.reduceEqDiff, Nat.reduceAdd, reduceIte, Int.reduceAdd]
    refine aw_cutB (Pm := fun S => ∃ (s : List (Nat × Cell)) (cur : HObj), WfS k2 s ∧ (∀ c, inS s c ↔ c ∈ e.Cells ∧ c ∉ m.Has) ∧ S.env 12 = .map (h.length + 1) ∧ S.env 4 = .box 4 0 ∧ S.boxes 4 = some (memRC o p m) ∧ S.env 8 = .box 8 0 ∧ S.boxes 8 = some [.int .i64 0, .int .i64 0, .int .i64 0, .lst .nil [], .lst .nil []] ∧ S.heap = h ++ [.map k1 (ents s1), .map k2 (ents s), cur]) ?_ ?_
    · refine aw_count (fun n S => ∃ (s lf : List (Nat × Cell)) (cur : Option Nat), n = lf.length ∧ lf.Sublist s1 ∧ WfS k2 s ∧ (∀ c, inS s c ↔ c ∈ e.Cells ∧ (¬ inS s1 c ∨ inS lf c)) ∧ S.env 53 = .hp (h.length + 2) 0 ∧ S.env 12 = .map (h.length + 1) ∧ S.env 4 = .box 4 0 ∧ S.boxes 4 = some (memRC o p m) ∧ S.env 8 = .box 8 0 ∧ S.boxes 8 = some [.int .i64 0, .int .i64 0, .int .i64 0, .lst .nil [], .lst .nil []] ∧ S.heap = h ++ [.map k1 (ents s1), .map k2 (ents s), .iter h.length k1 (ents s1) (ents lf) cur]) (n := s1.length)
        ⟨s2, s1, none, rfl, List.Sublist.refl _, hw2, fun c => by rw [hi2]; by_cases hc : inS s1 c <;> simp [hc], by simp (disch := first | assumption | omega) only [go_sem, ↓reduceIte, reduceIte], by simp (disch := first | assumption | omega) only [go_sem, ↓reduceIte, Nat.reduceEqDiff, reduceIte], by simp (disch := first | assumption | omega) only [go_sem, ↓reduceIte, Nat.reduceEqDiff, reduceIte], by simp (disch := first | assumption | omega) only [memRC, go_sem, ↓reduceIte, Nat.reduceEqDiff, reduceIte], by simp (disch := first | assumption | omega) only [go_sem, ↓reduceIte, Nat.reduceEqDiff, reduceIte], by simp (disch := first | assumption | omega) only [go_sem, ↓reduceIte, reduceIte], by simp (disch := first | assumption | omega) only [go_sem]⟩ ?_
      rintro n S ⟨s, lf, cur, rfl, hsub, hws, his, e53, e12, e4, x4, e8, x8, eh⟩
      have hst := (hsub.map (·.1)).nodup hw1.st
      have hnd := (hsub.map (·.2)).nodup hw1.nd
      simp (disch := first | assumption | omega) only [e53, e12, e4, x4, e8, x8, eh, h3_0, h3_1, h3_2, h3_s1, h3_s2, drV_map, rdv_map, go_sem, ↓reduceIte, Nat.reduceEqDiff, Nat.reduceAdd, Nat.reduceLeDiff, Nat.reduceLT, reduceIte, Int.reduceLT, Int.reduceAdd]
      refine ⟨fun hz => ?_, fun x hx => ?_⟩
      · have hlf : lf = [] := by
          cases lf with
          | nil => rfl
          | cons a b => cases hz
        subst hlf
        exact ⟨s, _, hws, fun c => by rw [his c, hi1]; simp [inS], rfl⟩
      · obtain ⟨pr, hpr, rfl⟩ := List.mem_map.1 hx
        have hfind := find_ents hw1.st (hsub.subset hpr)
        have hk := keyOk_cell pr.2
        have hks := keyOk_ents s
        have hdl := mdel_ents pr.2 s
        have hfl := filter_ents lf pr
        have hcd : ∀ c, inS (delS pr.2 s) c ↔ c ∈ e.Cells ∧ (¬ inS s1 c ∨ inS (lf.filter fun q => q.1 != pr.1) c) := fun c => by
          rw [in_del hws.nd, his c, in_rest hst hnd hpr]
          have hs1 : inS s1 pr.2 := List.mem_map.2 ⟨pr, hsub.subset hpr, rfl⟩
          constructor
          · rintro ⟨⟨h1, h2⟩, h3⟩
            exact ⟨h1, h2.imp id fun h4 => ⟨h4, h3⟩⟩
          · rintro ⟨h1, h2 | ⟨h2, h3⟩⟩
            · exact ⟨⟨h1, .inl h2⟩, fun e => h2 (e ▸ hs1)⟩
            · exact ⟨⟨h1, .inr h2⟩, h3⟩
        have hlen : (lf.filter fun q => q.1 != pr.1).length < lf.length := List.length_filter_lt_length_iff_exists.2 ⟨pr, hpr, by simp⟩
        simp only []
        rw [hfind]
        unfold cellA at hk hdl hfind
        simp (disch := first | assumption | omega) only [cellA, drV_cell, fillV, AVal.cells, hdl, hfl, go_sem, Nat.reduceAdd, Nat.reduceLeDiff, Int.reduceAdd]
        exact ⟨hk, hks, _, hlen, delS pr.2 s, lf.filter fun q => q.1 != pr.1, some pr.1, rfl, List.filter_sublist.trans hsub, hws.del _, hcd, rfl⟩
    · rintro S ⟨s, cur, hws, his, e12, e4, x4, e8, x8, eh⟩
      simp (disch := first | assumption | omega) only [e12, rdv_map, go_sem, ↓reduceIte, reduceIte]
      refine callG_ok (List_ok (h.length + 1) k2 s hws _ (by simp (disch := first | assumption | omega) only [eh, h3_1, go_sem])) (by simp (disch := first | assumption | omega) only [go_sem]) ?_
      rintro v _ ⟨hv, hhh⟩
      rw [hhh]
      clear hhh
      obtain ⟨q2, rfl, hq2⟩ := grid_eq hv (minusC_up e.Cells m.Has) (fun c => by rw [mem_minusC, his]) (fun c hc => gc c ((mem_minusC _ _ _).1 hc).1)
      have hq3 : q2 = .nil ∨ q2 = .sh ∨ ∃ z, q2 = .app z := by
        rcases hq2 with ⟨rfl, _⟩ | rfl
        · exact .inl rfl
        · exact .inr (.inr ⟨_, rfl⟩)
      obtain ⟨a1, ha1, ha2, ha3, ha4, ha5⟩ := own_rd (cellsA (minusC e.Cells m.Has)) hq3
      have hA : Rdn a1 (minusC e.Cells m.Has) := ⟨ha1, fun h => by
        rcases hq2 with ⟨_, h⟩ | rfl
        · exact h
        · cases ha2 h⟩
      simp (disch := first | assumption | omega) only [e4, x4, e8, x8, memRC, ha5, go_sem, ↓reduceIte, Nat.reduceEqDiff, Nat.reduceAdd, Nat.reduceLeDiff, reduceIte, Int.reduceAdd]
      subst hQ
      simp (disch := first | assumption | omega) only [R.gantref5_Happens, e8, eh, go_sem, ↓reduceIte, Nat.reduceEqDiff, Nat.reduceAdd, reduceIte, Int.reduceAdd]
      exact ⟨_, rfl, by simp [AVal.ids, idsL, cells_ids], a1, p, by rw [hd]; rfl, by rw [hd]; exact hA, by rw [hd]; exact hp⟩
  rw [if_neg c3] at hd
  by_cases c4 : e.Kind = 4
  · rw [if_pos c4] at hd
    simp (disch := first | assumption | omega) only [c4, rdv_map, go_sem, ↓reduceIte, Nat.reduceEqDiff, reduceCtorEq, Nat.reduceAdd, Nat.reduceLeDiff, reduceIte, Int.reduceAdd, Int.reduceEq]
    refine aw_cutB (Pm := fun S => S.env 11 = .map h.length ∧ S.env 4 = .box 4 0 ∧ S.boxes 4 = some (memRC o p m) ∧ S.env 8 = .box 8 0 ∧ S.boxes 8 = some [.int .i64 0, .int .i64 0, .int .i64 0, .lst .nil [], .lst .nil []] ∧ S.heap = h ++ [.map (ofL k1 s1 m.Asked).1 (ents (ofL k1 s1 m.Asked).2)]) ?_ ?_
    · refine aw_count (fun n S => ∃ (i : Nat), i + n = m.Asked.length ∧ S.env 68 = .int .i64 i ∧ S.env 67 = .int .i64 m.Asked.length ∧ S.env 66 = .lst o (cellsA m.Asked) ∧ S.env 11 = .map h.length ∧ S.env 4 = .box 4 0 ∧ S.boxes 4 = some (memRC o p m) ∧ S.env 8 = .box 8 0 ∧ S.boxes 8 = some [.int .i64 0, .int .i64 0, .int .i64 0, .lst .nil [], .lst .nil []] ∧ S.heap = h ++ [.map (ofL k1 s1 (m.Asked.take i)).1 (ents (ofL k1 s1 (m.Asked.take i)).2)]) (n := m.Asked.length)
        ⟨0, by omega, by simp (disch := first | assumption | omega) only [go_sem, ↓reduceIte, reduceIte], by simp (disch := first | assumption | omega) only [go_sem, ↓reduceIte, Nat.reduceEqDiff, reduceIte], by simp (disch := first | assumption | omega) only [go_sem, ↓reduceIte, Nat.reduceEqDiff, reduceIte], by simp (disch := first | assumption | omega) only [go_sem, ↓reduceIte, Nat.reduceEqDiff, reduceIte], by simp (disch := first | assumption | omega) only [go_sem, ↓reduceIte, Nat.reduceEqDiff, reduceIte], by simp (disch := first | assumption | omega) only [memRC, go_sem, ↓reduceIte, Nat.reduceEqDiff, reduceIte], by simp (disch := first | assumption | omega) only [go_sem, ↓reduceIte, Nat.reduceEqDiff, reduceIte], by simp (disch := first | assumption | omega) only [go_sem, ↓reduceIte, reduceIte], by simp (disch := first | assumption | omega) only [go_sem]; rfl⟩ ?_
      rintro n S ⟨i, hi, e68, e67, e66, e11, e4, x4, e8, x8, eh⟩
      by_cases hlt : (i : Int) < m.Asked.length
      · have hlt1 : i < m.Asked.length := by omega
        have q1 := at_cells hlt1
        have hsn : ofL k1 s1 (m.Asked.take (i + 1)) = (addK (ofL k1 s1 (m.Asked.take i)).1 (ofL k1 s1 (m.Asked.take i)).2 m.Asked[i], addS (ofL k1 s1 (m.Asked.take i)).1 (ofL k1 s1 (m.Asked.take i)).2 m.Asked[i]) := by
          rw [List.take_add_one, List.getElem?_eq_getElem hlt1]
          exact ofL_snoc _ _ _ _
        have hk := keyOk_cell m.Asked[i]
        have hks := keyOk_ents (ofL k1 s1 (m.Asked.take i)).2
        have hput := mput_ents (ofL k1 s1 (m.Asked.take i)).1 (ofL k1 s1 (m.Asked.take i)).2 m.Asked[i]
        unfold cellA at hk hput
        simp (disch := first | assumption | omega) only [e68, e67, e66, e11, e4, x4, e8, x8, eh, hlt, q1, cellA, hend, hput, hendset, drV_map, rdv_map, go_sem, ↓reduceIte, Nat.reduceEqDiff, Nat.reduceAdd, Nat.reduceLeDiff, reduceIte, Int.reduceAdd]
        exact ⟨hk, hks, n - 1, by omega, i + 1, by omega, by simp, by rw [hsn]⟩
      · obtain rfl : i = m.Asked.length := by omega
        rw [List.take_length] at eh
        simp (disch := first | assumption | omega) only [e68, e67, e11, e4, x4, e8, x8, eh, hlt, go_sem, ↓reduceIte, Nat.reduceEqDiff, reduceIte]
    · rintro S ⟨e11, e4, x4, e8, x8, eh⟩
      have hw2 := ofL_wf (l := m.Asked) hw1
      have hi2 : ∀ c, inS (ofL k1 s1 m.Asked).2 c ↔ c ∈ m.Has ∨ c ∈ m.Asked := fun c => by rw [ofL_in, hi1]
      generalize (ofL k1 s1 m.Asked).2 = s at *
      generalize (ofL k1 s1 m.Asked).1 = k at *
      have hjm : ∀ c, c ∈ joinC m.Has m.Asked ↔ inS s c := fun c => by rw [hi2]; unfold joinC; rw [mem_normC, List.mem_append]
      have hju : Up (joinC m.Has m.Asked) := normC_up _
      have hlen := set_len hw2.nd hju hjm
      have hgrid : ∀ c ∈ joinC m.Has m.Asked, onG c.X ∧ onG c.Y := fun c hc => by
        rw [hjm, hi2] at hc
        rcases hc with hc | hc
        · exact gh c hc
        · exact ga c hc
      have hel : (ents s).length = (joinC m.Has m.Asked).length := by rw [← hlen]; simp [ents]
      by_cases c : (joinC m.Has m.Asked).length ≤ 400
      · have hz : cellsFault (joinC m.Has m.Asked) = 0 := fault_of c hgrid hju
        rw [if_neg (by simp [hz])] at hd
        have c' : ¬ (400 : Int) < ((joinC m.Has m.Asked).length : Int) := by omega
        simp (disch := first | assumption | omega) only [e11, eh, hend, hel, c', rdv_map, go_sem, ↓reduceIte, Nat.reduceEqDiff, reduceIte]
        refine callG_ok (List_ok h.length k s hw2 _ (by simp (disch := first | assumption | omega) only [eh, hend, go_sem])) (by simp (disch := first | assumption | omega) only [go_sem]) ?_
        rintro v _ ⟨hv, hhh⟩
        rw [hhh]
        clear hhh
        obtain ⟨q2, rfl, hq2⟩ := grid_eq hv hju hjm hgrid
        have hq3 : q2 = .nil ∨ q2 = .sh ∨ ∃ z, q2 = .app z := by
          rcases hq2 with ⟨rfl, _⟩ | rfl
          · exact .inl rfl
          · exact .inr (.inr ⟨_, rfl⟩)
        obtain ⟨a1, ha1, ha2, ha3, ha4, ha5⟩ := own_rd (cellsA (joinC m.Has m.Asked)) hq3
        have hA : Rdn a1 (joinC m.Has m.Asked) := ⟨ha1, fun h => by
          rcases hq2 with ⟨_, h⟩ | rfl
          · exact h
          · cases ha2 h⟩
        simp (disch := first | assumption | omega) only [e4, x4, e8, x8, memRC, ha5, go_sem, ↓reduceIte, Nat.reduceEqDiff, Nat.reduceAdd, Nat.reduceLeDiff, reduceIte, Int.reduceAdd]
        subst hQ
        simp (disch := first | assumption | omega) only [R.gantref5_Happens, e8, eh, go_sem, ↓reduceIte, Nat.reduceEqDiff, Nat.reduceAdd, reduceIte, Int.reduceAdd]
        exact ⟨_, rfl, by simp [AVal.ids, idsL, cells_ids], .nil, a1, by rw [hd]; rfl, by rw [hd]; exact ⟨.inr rfl, fun _ => rfl⟩, by rw [hd]; exact hA⟩
      · have hz : cellsFault (joinC m.Has m.Asked) ≠ 0 := fun hz => c (fault_up hz).1
        rw [if_pos hz] at hd
        have c' : (400 : Int) < ((joinC m.Has m.Asked).length : Int) := by omega
        simp (disch := first | assumption | omega) only [e11, e8, x8, eh, hend, hel, c', rdv_map, go_sem, ↓reduceIte, Nat.reduceEqDiff, Nat.reduceAdd, Nat.reduceLeDiff, reduceIte, Int.reduceAdd]
        subst hQ
        simp (disch := first | assumption | omega) only [R.gantref5_Happens, e8, eh, go_sem, ↓reduceIte, Nat.reduceEqDiff, Nat.reduceAdd, reduceIte, Int.reduceAdd]
        exact ⟨_, rfl, by simp [AVal.ids, idsL], HapQ.none hd⟩
  rw [if_neg c4] at hd
  by_cases c5 : e.Kind = 5
  · rw [if_pos c5] at hd
    simp (disch := first | assumption | omega) only [c5, rdv_map, go_sem, ↓reduceIte, Nat.reduceEqDiff, reduceCtorEq, reduceIte, Int.reduceEq]
    refine aw_cutB (Pm := fun S => ∃ s : List (Nat × Cell), WfS k1 s ∧ (∀ c, inS s c ↔ c ∈ m.Has ∧ c ∉ e.Cells) ∧ (∀ c ∈ e.Cells, c ∈ m.Has) ∧ S.env 11 = .map h.length ∧ S.env 4 = .box 4 0 ∧ S.boxes 4 = some (memRC o p m) ∧ S.env 8 = .box 8 0 ∧ S.boxes 8 = some [.int .i64 0, .int .i64 0, .int .i64 0, .lst .nil [], .lst .nil []] ∧ S.heap = h ++ [.map k1 (ents s)]) ?_ ?_
    · refine aw_count (fun n S => ∃ (i : Nat) (s : List (Nat × Cell)), i + n = e.Cells.length ∧ WfS k1 s ∧ (∀ c, inS s c ↔ c ∈ m.Has ∧ c ∉ e.Cells.take i) ∧ (∀ c ∈ e.Cells.take i, c ∈ m.Has) ∧ S.env 87 = .int .i64 i ∧ S.env 86 = .int .i64 e.Cells.length ∧ S.env 85 = .lst q (cellsA e.Cells) ∧ S.env 11 = .map h.length ∧ S.env 4 = .box 4 0 ∧ S.boxes 4 = some (memRC o p m) ∧ S.env 8 = .box 8 0 ∧ S.boxes 8 = some [.int .i64 0, .int .i64 0, .int .i64 0, .lst .nil [], .lst .nil []] ∧ S.heap = h ++ [.map k1 (ents s)]) (n := e.Cells.length)
        ⟨0, s1, by omega, hw1, fun c => by rw [hi1]; simp, by simp, by simp (disch := first | assumption | omega) only [go_sem, ↓reduceIte, reduceIte], by simp (disch := first | assumption | omega) only [go_sem, ↓reduceIte, Nat.reduceEqDiff, reduceIte], by simp (disch := first | assumption | omega) only [go_sem, ↓reduceIte, Nat.reduceEqDiff, reduceIte], by simp (disch := first | assumption | omega) only [go_sem, ↓reduceIte, Nat.reduceEqDiff, reduceIte], by simp (disch := first | assumption | omega) only [go_sem, ↓reduceIte, Nat.reduceEqDiff, reduceIte], by simp (disch := first | assumption | omega) only [memRC, go_sem, ↓reduceIte, Nat.reduceEqDiff, reduceIte], by simp (disch := first | assumption | omega) only [go_sem, ↓reduceIte, Nat.reduceEqDiff, reduceIte], by simp (disch := first | assumption | omega) only [go_sem, ↓reduceIte, reduceIte], by simp (disch := first | assumption | omega) only [go_sem]⟩ ?_
      rintro n S ⟨i, s, hi, hws, his, hal, e87, e86, e85, e11, e4, x4, e8, x8, eh⟩
      by_cases hlt : (i : Int) < e.Cells.length
      · have hlt1 : i < e.Cells.length := by omega
        have q1 := at_cells hlt1
        have hfr := not_mem_take uc hlt1
        have htk : ∀ c, c ∈ e.Cells.take (i + 1) ↔ c ∈ e.Cells.take i ∨ c = e.Cells[i] := fun c => by
          rw [List.take_add_one, List.getElem?_eq_getElem hlt1, List.mem_append]; simp
        have hmem := List.getElem_mem hlt1
        generalize e.Cells[i] = x at *
        have hk := keyOk_cell x
        have hks := keyOk_ents s
        have hks' : (∀ y ∈ ents s, keyOk true [.i .i64, .i .i64] y.2.1) = True := eq_true hks
        have hget := mget_ents x s
        have hdl := mdel_ents x s
        unfold cellA at hk hget hdl
        by_cases hin : inS s x
        · rw [if_pos hin] at hget
          simp (disch := first | assumption | omega) only [e87, e86, e85, e11, e4, x4, e8, x8, eh, hlt, q1, cellA, hend, mlookV, hk, hks', hget, hdl, hendset, drV_map, rdv_map, go_sem, ↓reduceIte, Nat.reduceEqDiff, Nat.reduceAdd, Nat.reduceLeDiff, reduceIte, Int.reduceAdd]
          trace_state
          exact ⟨n - 1, by omega, i + 1, delS x s, by omega, hws.del x, fun c => by
            rw [in_del hws.nd, his c, htk]
            constructor
            · rintro ⟨⟨h1, h2⟩, h3⟩
              exact ⟨h1, fun h4 => h4.elim h2 h3⟩
            · rintro ⟨h1, h2⟩
              exact ⟨⟨h1, fun h4 => h2 (.inl h4)⟩, fun h4 => h2 (.inr h4)⟩, fun c hc => by
            rcases (htk c).1 hc with hc | rfl
            · exact hal c hc
            · exact ((his _).1 hin).1, by simp, rfl⟩
        · rw [if_neg hin] at hget
          simp (disch := first | assumption | omega) only [e87, e86, e85, e11, e8, x8, eh, hlt, q1, cellA, hend, mlookV, hk, hks', hget, drV_map, rdv_map, go_sem, ↓reduceIte, Nat.reduceEqDiff, Nat.reduceAdd, Nat.reduceLeDiff, reduceIte, Int.reduceAdd]
          subst hQ
          simp (disch := first | assumption | omega) only [R.gantref5_Happens, e8, eh, go_sem, ↓reduceIte, Nat.reduceEqDiff, Nat.reduceAdd, reduceIte, Int.reduceAdd]
          have hz : withinC e.Cells m.Has = false := by
            unfold withinC
            rw [List.all_eq_false]
            refine ⟨x, hmem, ?_⟩
            have : ¬ x ∈ m.Has := fun h1 => hin ((his x).2 ⟨h1, hfr⟩)
            simp [this]
          rw [if_pos hz] at hd
          exact ⟨_, rfl, by simp [AVal.ids, idsL], HapQ.none hd⟩
      · obtain rfl : i = e.Cells.length := by omega
        rw [List.take_length] at his hal
        simp (disch := first | assumption | omega) only [e87, e86, e11, e4, x4, e8, x8, eh, hlt, go_sem, ↓reduceIte, Nat.reduceEqDiff, reduceIte]
        exact ⟨s, hws, his, hal, rfl⟩
    · rintro S ⟨s, hws, his, hal, e11, e4, x4, e8, x8, eh⟩
      have hz : withinC e.Cells m.Has = true := by
        unfold withinC
        rw [List.all_eq_true]
        intro c hc
        simp [hal c hc]
      rw [if_neg (by simp [hz])] at hd
      simp (disch := first | assumption | omega) only [e11, rdv_map, go_sem, ↓reduceIte, reduceIte]
      refine callG_ok (List_ok h.length k1 s hws _ (by simp (disch := first | assumption | omega) only [eh, hend, go_sem])) (by simp (disch := first | assumption | omega) only [go_sem]) ?_
      rintro v _ ⟨hv, hhh⟩
      rw [hhh]
      clear hhh
      obtain ⟨q2, rfl, hq2⟩ := grid_eq hv (minusC_up m.Has e.Cells) (fun c => by rw [mem_minusC, his]) (fun c hc => gh c ((mem_minusC _ _ _).1 hc).1)
      have hq3 : q2 = .nil ∨ q2 = .sh ∨ ∃ z, q2 = .app z := by
        rcases hq2 with ⟨rfl, _⟩ | rfl
        · exact .inl rfl
        · exact .inr (.inr ⟨_, rfl⟩)
      obtain ⟨a1, ha1, ha2, ha3, ha4, ha5⟩ := own_rd (cellsA (minusC m.Has e.Cells)) hq3
      have hA : Rdn a1 (minusC m.Has e.Cells) := ⟨ha1, fun h => by
        rcases hq2 with ⟨_, h⟩ | rfl
        · exact h
        · cases ha2 h⟩
      simp (disch := first | assumption | omega) only [e4, x4, e8, x8, memRC, ha5, go_sem, ↓reduceIte, Nat.reduceEqDiff, Nat.reduceAdd, Nat.reduceLeDiff, reduceIte, Int.reduceAdd]
      subst hQ
      simp (disch := first | assumption | omega) only [R.gantref5_Happens, e8, eh, go_sem, ↓reduceIte, Nat.reduceEqDiff, Nat.reduceAdd, reduceIte, Int.reduceAdd]
      exact ⟨_, rfl, by simp [AVal.ids, idsL, cells_ids], o, a1, by rw [hd]; rfl, by rw [hd]; exact ho, by rw [hd]; exact hA⟩
  rw [if_neg c5] at hd
  have c6 : e.Kind = 6 := by omega
  simp (disch := first | assumption | omega) only [c6, rdv_map, go_sem, ↓reduceIte, Nat.reduceEqDiff, reduceCtorEq, Nat.reduceAdd, Nat.reduceLeDiff, reduceIte, Int.reduceAdd, Int.reduceEq]
  subst hQ
  simp (disch := first | assumption | omega) only [R.gantref5_Happens, go_sem, ↓reduceIte, Nat.reduceEqDiff, Nat.reduceAdd, reduceIte, Int.reduceAdd]
  exact ⟨_, rfl, by simp [AVal.ids, idsL, cells_ids], o, p, by rw [hd]; rfl, by rw [hd]; exact ho, by rw [hd]; exact hp⟩
end Go.Proofs.Ytpdajkbfemcdlaa
set_option linter.unusedSimpArgs false
set_option linter.unusedVariables false
set_option maxRecDepth 10000
namespace Go.Proofs.Ytpdajkbfemcdlaa
open Go.Ge Go.Sort
def cellX (c : Cell) : List Int := [IntKind.i64.wrap (c.X + 64) % 256, IntKind.i64.wrap (c.Y + 64) % 256]
def evX (e : Ev) : List Int := (e.Kind % 256) :: (beBytes (e.N % 18446744073709551616) 4 ++ e.Cells.flatMap cellX)
theorem cellX_length (l : List Cell) : (l.flatMap cellX).length = 2 * l.length := by
  induction l with
  | nil => rfl
  | cons c l ih => rw [List.flatMap_cons, List.length_append, ih]; simp [cellX]; omega
theorem evX_length (e : Ev) : (evX e).length = 5 + 2 * e.Cells.length := by
  unfold evX
  rw [List.length_cons, List.length_append, beBytes_length, cellX_length]; omega
theorem evX_B {e : Ev} (h : evF e = 0) : evX e = evB e := by
  obtain ⟨h1, h2, h3, h4, h5⟩ := evF_zero h
  obtain ⟨_, g2, _⟩ := fault_up h5
  unfold evX evB
  rw [Int.emod_eq_of_lt h3 (by omega)]
  congr 2
  unfold cellsB
  have key : ∀ l : List Cell, (∀ c ∈ l, onG c.X ∧ onG c.Y) → l.flatMap cellX = l.flatMap cellB := by
    intro l
    induction l with
    | nil => intro _; rfl
    | cons c l ih =>
      intro hl
      rw [List.flatMap_cons, List.flatMap_cons, ih fun c hc => hl c (List.mem_cons_of_mem _ hc)]
      congr 1
      obtain ⟨a1, a2⟩ := hl c List.mem_cons_self
      unfold onG at a1 a2
      unfold cellX cellB
      rw [wrapI64 (by omega) (by omega), wrapI64 (by omega) (by omega)]
  exact key _ g2
theorem EventBytes_ok (o : Own) (e : Ev) (ho : Rdo o) (hl : e.Cells.length ≤ 8796093022208) (h : List HObj) :
    ACalls Try.prog F.gantref5_EventBytes [.int .i64 e.Kind, .int .i64 e.N, .lst o (cellsA e.Cells)] h (fun v h' => v = .lst (.app 1) (ints .u8 (evX e)) ∧ h' = h) := by
  refine ACalls.of_aw Try.func119 K.gantref5_EventBytes (by simp [Try.f119]) ?_
  generalize hQ : retQ R.gantref5_EventBytes _ = Q
  simp (disch := first | assumption | omega) only [C.gantref5_EventBytes, go_sem, ↓reduceIte, Nat.reduceEqDiff, reduceCtorEq, Nat.reduceLeDiff, reduceIte, Int.reduceMul, Nat.reduceMul]
  simp (disch := first | assumption | omega) only [wrapU8_mod, wrapU64_mod, go_sem]
  refine callG_ok (Bytes_app (e.N % 18446744073709551616) 4 (by omega) (by omega) (by omega) _) (by simp (disch := first | assumption | omega) only [go_sem]) ?_
  rintro _ _ ⟨rfl, hhh⟩
  rw [hhh]
  clear hhh
  have hbl := beBytes_length (e.N % 18446744073709551616) 4
  simp (disch := first | assumption | omega) only [hbl, go_sem, ↓reduceIte, Nat.reduceEqDiff, Nat.reduceAdd, Nat.reduceLeDiff, reduceIte, Int.reduceAdd, Int.reduceMul, Nat.reduceMul]
  refine ⟨ints_width _, ?_⟩
  refine aw_count (fun d S => ∃ (i : Nat), i + d = e.Cells.length ∧ S.env 19 = .int .i64 i ∧ S.env 18 = .int .i64 e.Cells.length ∧ S.env 17 = .lst o (cellsA e.Cells) ∧ S.env 7 = .lst (.app 1) (ints .u8 ((e.Kind % 256) :: (beBytes (e.N % 18446744073709551616) 4 ++ (e.Cells.take i).flatMap cellX))) ∧ S.heap = h) (n := e.Cells.length)
    ⟨0, by omega, by simp (disch := first | assumption | omega) only [go_sem, ↓reduceIte, reduceIte], by simp (disch := first | assumption | omega) only [go_sem, ↓reduceIte, Nat.reduceEqDiff, reduceIte], by simp (disch := first | assumption | omega) only [go_sem, ↓reduceIte, Nat.reduceEqDiff, reduceIte], by simp (disch := first | assumption | omega) only [List.take_zero, List.flatMap_nil, List.append_nil, go_sem, ↓reduceIte, Nat.reduceEqDiff, reduceIte]; rfl, by simp (disch := first | assumption | omega) only [go_sem]⟩ ?_
  rintro d S ⟨i, hi, e19, e18, e17, e7, eh⟩
  by_cases hlt : (i : Int) < e.Cells.length
  · have hlt1 : i < e.Cells.length := by omega
    have hat := at_cells hlt1
    have hst := take_snoc hlt1
    have hcl : ((e.Kind % 256) :: (beBytes (e.N % 18446744073709551616) 4 ++ (e.Cells.take i).flatMap cellX)).length ≤ 5 + 2 * e.Cells.length := by
      rw [List.length_cons, List.length_append, hbl, cellX_length, List.length_take]; omega
    generalize hB : (e.Kind % 256) :: (beBytes (e.N % 18446744073709551616) 4 ++ (e.Cells.take i).flatMap cellX) = B at *
    simp (disch := first | assumption | omega) only [e19, e18, e17, e7, eh, hlt, hat, cellA, wrapU8_mod, go_sem, ↓reduceIte, Nat.reduceEqDiff, Nat.reduceAdd, Nat.reduceLeDiff, Nat.reduceLT, reduceIte, Int.reduceLT, Int.reduceAdd, Int.reduceMul, Nat.reduceMul]
    refine ⟨by omega, by omega, d - 1, by omega, i + 1, by omega, by simp, ?_⟩
    rw [hst, List.flatMap_append, ← List.append_assoc, ← List.cons_append, hB, ← ints_append]
    simp [cellX, ints]
  · obtain rfl : i = e.Cells.length := by omega
    rw [List.take_length] at e7
    simp (disch := first | assumption | omega) only [e19, e18, e7, hlt, go_sem, ↓reduceIte, Nat.reduceEqDiff, reduceIte]
    subst hQ
    simp (disch := first | assumption | omega) only [R.gantref5_EventBytes, eh, go_sem, ↓reduceIte, reduceIte]
    rfl
end Go.Proofs.Ytpdajkbfemcdlaa
set_option linter.unusedSimpArgs false
set_option linter.unusedVariables false
set_option maxRecDepth 10000
namespace Go.Proofs.Ytpdajkbfemcdlaa
open Go.Ge
theorem Records_ok (o : Own) (b : List Int) (ho : Rdo o) (hb : ∀ x ∈ b, inU8 x) (hl : b.length ≤ 1099511627776) (h : List HObj) :
    ACalls Try.prog F.gantref5_Records [.lst o (ints .u8 b)] h (fun v h' => (∃ rs x, v = .tup [x, .int .i64 (book 0 rs).length] ∧ Recs rs x ∧ IsScan b rs) ∧ h' = h) := by
  refine ACalls.of_aw Try.func67 K.gantref5_Records (by simp [Try.f67]) ?_
  generalize hQ : retQ R.gantref5_Records _ = Q
  simp (disch := first | assumption | omega) only [C.gantref5_Records, go_sem, ↓reduceIte, Nat.reduceAdd, Nat.reduceLeDiff, reduceIte, Int.reduceAdd, Int.reduceMul, Nat.reduceMul]
  refine aw_count (fun d S => ∃ (rs : List (List Int)) (x : AVal), (book 0 rs).length + d = b.length ∧ S.env 0 = .lst o (ints .u8 b) ∧ S.env 4 = x ∧ S.env 5 = .int .i64 (book 0 rs).length ∧ S.env 6 = .lst .sh (ints .u8 (four (lastOf 0 rs))) ∧ Recs rs x ∧ (∀ r ∈ rs, r.length ≤ 2000) ∧ book 0 rs <+: b ∧ S.heap = h) (n := b.length)
    ⟨[], .lst .nil [], by simp [book], by simp (disch := first | assumption | omega) only [go_sem, ↓reduceIte, reduceCtorEq, reduceIte], by simp (disch := first | assumption | omega) only [go_sem, ↓reduceIte, Nat.reduceEqDiff, reduceIte], by simp (disch := first | assumption | omega) only [book, go_sem, ↓reduceIte, Nat.reduceEqDiff, reduceIte], by simp (disch := first | assumption | omega) only [lastOf, four, be4, go_sem, ↓reduceIte, reduceIte]; rfl, ⟨.nil, [], rfl, rfl, .inl ⟨rfl, rfl⟩⟩, by simp, by simp [book], by simp (disch := first | assumption | omega) only [go_sem]⟩ ?_
  rintro d S ⟨rs, x, hi, e0, e4, e5, e6, hR, hS, hP, eh⟩
  obtain ⟨q, xs, rfl, hE, hq⟩ := hR
  have hlast := lastOf_bd 0 rs (by omega) (by omega)
  have hz : (List.take (b.length - (book 0 rs).length) (List.drop (book 0 rs).length (ints IntKind.u8 b))) = ints .u8 (b.drop (book 0 rs).length) := by
    rw [← ints_drop]
    have := take_all (ints .u8 b) (book 0 rs).length
    rwa [ints_length] at this
  have hzl : (b.drop (book 0 rs).length).length = b.length - (book 0 rs).length := by simp
  have hzu : ∀ x ∈ b.drop (book 0 rs).length, inU8 x := fun x hx => hb x (List.mem_of_mem_drop hx)
  have hno : ∀ r : List Int, book 0 (rs ++ [r]) <+: b → recB (lastOf 0 rs) r <+: b.drop (book 0 rs).length := fun r hr => next_rec hr
  have hyes : ∀ r : List Int, recB (lastOf 0 rs) r <+: b.drop (book 0 rs).length → book 0 (rs ++ [r]) <+: b := fun r hr => next_of hP hr
  generalize hbk : (book 0 rs).length = k at *
  generalize hla : lastOf 0 rs = last at *
  generalize hzd : b.drop k = z at *
  have hb1 := hlast.1
  simp (disch := first | assumption | omega) only [e0, e5, hz, go_sem, ↓reduceIte, Nat.reduceEqDiff, reduceIte]
  refine ⟨⟨by omega, by omega, ints_width b⟩, ?_⟩
  have fin : ∀ S' : AState, (∀ r : List Int, r.length ≤ 2000 → ¬ recB last r <+: z) → S'.env 2 = .lst q xs → S'.env 3 = .int .i64 k → S'.heap = h → Q AExit.ret S' := by
    intro S' hmax f2 f3 fh
    subst hQ
    simp only [retQ_ret, R.gantref5_Records, ress2, resV_t, f2, f3, fh, plainV, true_and, and_true]
    exact ⟨rs, _, by rw [hbk], ⟨q, xs, rfl, hE, hq⟩, hS, hP, fun r hr hp => hmax r hr (hno r hp)⟩
  refine condG_if (fun hlt => ?_) fun hge => ?_
  · have hlt : z.length < 2 := by omega
    rcases hq with ⟨rfl, rfl⟩ | rfl
    · simp (disch := first | assumption | omega) only [e4, e5, go_sem, ↓reduceIte, Nat.reduceEqDiff, reduceIte]
      refine fin _ (fun r _ hp => ?_) (by simp (disch := first | assumption | omega) only [go_sem, ↓reduceIte, Nat.reduceEqDiff, reduceIte]) (by simp (disch := first | assumption | omega) only [go_sem, ↓reduceIte, reduceIte]) (by simp (disch := first | assumption | omega) only [eh, go_sem])
      have := (recB_prefix hp).2.2.2
      omega
    · simp (disch := first | assumption | omega) only [e4, e5, go_sem, ↓reduceIte, Nat.reduceEqDiff, reduceIte]
      refine fin _ (fun r _ hp => ?_) (by simp (disch := first | assumption | omega) only [go_sem, ↓reduceIte, Nat.reduceEqDiff, reduceIte]) (by simp (disch := first | assumption | omega) only [go_sem, ↓reduceIte, reduceIte]) (by simp (disch := first | assumption | omega) only [eh, go_sem])
      have := (recB_prefix hp).2.2.2
      omega
  · have hge : 2 ≤ z.length := by omega
    have hz2 : (z.take 2).length = 2 := by simp; omega
    have hzu2 : ∀ x ∈ z.take 2, inU8 x := fun x hx => hzu x (List.mem_of_mem_take hx)
    have hvb := val_bd4 hzu2 (by omega)
    have ht2 : z.take 2 = beBytes (val (z.take 2)) 2 := (be2_val hz2 hzu2).symm
    have hv2 : val (z.take 2) < 65536 := by
      have := (val_bd _ hzu2).2
      rw [hz2] at this
      exact this
    obtain ⟨n, hn⟩ : ∃ n : Nat, val (z.take 2) = (n : Int) := ⟨(val (z.take 2)).toNat, by omega⟩
    have hn2 : n < 65536 := by omega
    rw [hn] at ht2
    have hrl : ∀ r : List Int, r.length ≤ 2000 → recB last r <+: z → r.length = n := by
      intro r hr hp
      have := be2_inj (m := r.length) (n := n) (by omega) (by omega) (by omega) (by omega) ((recB_prefix hp).1.symm.trans ht2)
      omega
    have htk : List.take (Int.toNat 2) (ints .u8 z) = ints .u8 (z.take 2) := by rw [ints_take]; rfl
    simp (disch := first | assumption | omega) only [htk, go_sem, ↓reduceIte, Nat.reduceEqDiff, reduceIte, Int.reduceLE]
    refine ⟨⟨by omega, ints_width z⟩, ?_⟩
    refine callG_ok (Value_ok .sh (z.take 2) (.inl rfl) hzu2 (by omega) _) (by simp (disch := first | assumption | omega) only [go_sem]) ?_
    rintro _ _ ⟨rfl, hhh⟩
    rw [hhh]
    clear hhh
    rw [hn]
    by_cases hbig : 2000 < (n : Int)
    · rcases hq with ⟨rfl, rfl⟩ | rfl
      · simp (disch := first | assumption | omega) only [e4, e5, hbig, go_sem, ↓reduceIte, Nat.reduceEqDiff, reduceIte]
        refine fin _ (fun r hr hp => ?_) (by simp (disch := first | assumption | omega) only [go_sem, ↓reduceIte, Nat.reduceEqDiff, reduceIte]) (by simp (disch := first | assumption | omega) only [go_sem, ↓reduceIte, reduceIte]) (by simp (disch := first | assumption | omega) only [eh, go_sem])
        have := hrl r hr hp
        omega
      · simp (disch := first | assumption | omega) only [e4, e5, hbig, go_sem, ↓reduceIte, Nat.reduceEqDiff, reduceIte]
        refine fin _ (fun r hr hp => ?_) (by simp (disch := first | assumption | omega) only [go_sem, ↓reduceIte, Nat.reduceEqDiff, reduceIte]) (by simp (disch := first | assumption | omega) only [go_sem, ↓reduceIte, reduceIte]) (by simp (disch := first | assumption | omega) only [eh, go_sem])
        have := hrl r hr hp
        omega
    by_cases hsh : (z.length : Int) < (n : Int) + 6
    · rcases hq with ⟨rfl, rfl⟩ | rfl
      · simp (disch := first | assumption | omega) only [e4, e5, hbig, hsh, go_sem, ↓reduceIte, Nat.reduceEqDiff, reduceIte]
        refine fin _ (fun r hr hp => ?_) (by simp (disch := first | assumption | omega) only [go_sem, ↓reduceIte, Nat.reduceEqDiff, reduceIte]) (by simp (disch := first | assumption | omega) only [go_sem, ↓reduceIte, reduceIte]) (by simp (disch := first | assumption | omega) only [eh, go_sem])
        have := hrl r hr hp
        have := (recB_prefix hp).2.2.2
        omega
      · simp (disch := first | assumption | omega) only [e4, e5, hbig, hsh, go_sem, ↓reduceIte, Nat.reduceEqDiff, reduceIte]
        refine fin _ (fun r hr hp => ?_) (by simp (disch := first | assumption | omega) only [go_sem, ↓reduceIte, Nat.reduceEqDiff, reduceIte]) (by simp (disch := first | assumption | omega) only [go_sem, ↓reduceIte, reduceIte]) (by simp (disch := first | assumption | omega) only [eh, go_sem])
        have := hrl r hr hp
        have := (recB_prefix hp).2.2.2
        omega
    have hhd : List.take (2 + (n : Int)).toNat (ints IntKind.u8 z) = ints .u8 (z.take (2 + n)) := by
      rw [ints_take]; congr 2
    have hrd : List.take ((2 + (n : Int)).toNat - Int.toNat 2) (List.drop (Int.toNat 2) (ints IntKind.u8 z)) = ints .u8 ((z.drop 2).take n) := by
      rw [ints_drop, ints_take]; congr 2; omega
    have hsd : List.take ((6 + (n : Int)).toNat - (2 + (n : Int)).toNat) (List.drop (2 + (n : Int)).toNat (ints IntKind.u8 z)) = ints .u8 ((z.drop (2 + n)).take 4) := by
      rw [ints_drop, ints_take]
      have a1 : (2 + (n : Int)).toNat = 2 + n := by omega
      have a2 : (6 + (n : Int)).toNat - (2 + n) = 4 := by omega
      rw [a1, a2]
    have hsplit : z.take (2 + n) = beBytes n 2 ++ (z.drop 2).take n := by rw [List.take_add, ← ht2]
    have hru : ∀ x ∈ (z.drop 2).take n, inU8 x := fun x hx => hzu x (List.mem_of_mem_drop (List.mem_of_mem_take hx))
    have hs4u : ∀ x ∈ (z.drop (2 + n)).take 4, inU8 x := fun x hx => hzu x (List.mem_of_mem_drop (List.mem_of_mem_take hx))
    have hrlen : ((z.drop 2).take n).length = n := by simp; omega
    have hnext : (z.drop (2 + n)).take 4 = four (logSum last ((z.drop 2).take n)) → recB last ((z.drop 2).take n) <+: z := fun e => recB_of ht2 hn2 (by omega) e
    have hstop : ¬ (z.drop (2 + n)).take 4 = four (logSum last ((z.drop 2).take n)) → ∀ r : List Int, r.length ≤ 2000 → ¬ recB last r <+: z := by
      intro hne r hr hp
      obtain ⟨p1, p2, p3, _⟩ := recB_prefix hp
      rw [hrl r hr hp] at p2 p3
      rw [p2] at hne
      exact hne p3
    have hzt : (z.take (2 + n)).length = 2 + n := by simp; omega
    generalize hrr : (z.drop 2).take n = r at *
    generalize hs4 : (z.drop (2 + n)).take 4 = s4 at *
    generalize hzz : z.take (2 + n) = zz at *
    have hsb := logSum_bd last r
    simp (disch := first | assumption | omega) only [e6, hbig, hsh, hhd, go_sem, ↓reduceIte, Nat.reduceEqDiff, Nat.reduceAdd, Nat.reduceLeDiff, reduceIte, Int.reduceLE, Int.reduceAdd, Int.reduceMul, Nat.reduceMul]
    refine ⟨⟨by omega, by omega, ints_width z⟩, ?_⟩
    refine callG_ok (Concat_byte_ok .sh [four last, zz] _ (.inl rfl) ⟨_, _, rfl, RecOk.sh _, _, _, rfl, RecOk.sh _, rfl⟩ (by simp) (by simp) (by simp [lenSum, four_length]; omega) _) (by simp (disch := first | assumption | omega) only [go_sem]) ?_
    rintro _ _ ⟨rfl, hhh⟩
    rw [hhh]
    clear hhh
    have hf2 : [four last, zz].flatten = four last ++ (beBytes r.length 2 ++ r) := by rw [hsplit, hrlen]; simp
    rw [hf2]
    have hu2 : ∀ x ∈ four last ++ (beBytes r.length 2 ++ r), inU8 x := by
      intro x hx
      simp only [List.mem_append] at hx
      rcases hx with hx | hx | hx
      · exact beBytes_u8 _ _ x hx
      · exact beBytes_u8 _ _ x hx
      · exact hru x hx
    simp (disch := first | assumption | omega) only [go_sem, ↓reduceIte, reduceIte]
    refine callG_ok (Crc_ok .sh (four last ++ (beBytes r.length 2 ++ r)) (.inl rfl) hu2 (by simp [four_length, beBytes_length]; omega) _) (by simp (disch := first | assumption | omega) only [go_sem]) ?_
    rintro _ _ ⟨rfl, hhh⟩
    try rw [hhh]
    clear hhh
    simp (disch := first | assumption | omega) only [go_sem, ↓reduceIte, reduceIte]
    have hlse : iv (crc (four last ++ (beBytes r.length 2 ++ r))) = logSum last r := rfl
    rw [hlse]
    simp (disch := first | assumption | omega) only [go_sem]
    refine callG_ok (Bytes_app (logSum last r) 4 hsb.1 (by omega) (by omega) _) (by simp (disch := first | assumption | omega) only [go_sem]) ?_
    rintro _ _ ⟨rfl, hhh⟩
    rw [hhh]
    clear hhh
    have hseq := str_eq (beBytes_u8 (logSum last r) 4) hs4u
    simp (disch := first | assumption | omega) only [hsd, hseq, go_sem, ↓reduceIte, Nat.reduceEqDiff, reduceIte]
    refine ⟨isByte_ints _, ⟨by omega, by omega, by omega, ints_width z⟩, isByte_ints _, ?_⟩
    by_cases heq : beBytes (logSum last r) 4 = s4
    · have hpre := hyes r (hnext heq.symm)
      have hxl := hE.length
      have hcs := count_size rs
      rw [← book_length 0 rs, hbk] at hcs
      rcases hq with ⟨rfl, rfl⟩ | rfl
      case' inl =>
        have hxs : xs = [] := by simpa [Each2] using hE
        simp (disch := first | assumption | omega) only [e0, e4, e5, eh, heq, hrd, go_sem, ↓reduceIte, Nat.reduceEqDiff, reduceCtorEq, Nat.reduceLeDiff, reduceIte, Int.reduceLE, Int.reduceMul, Nat.reduceMul]
        refine ⟨⟨by omega, by omega, ints_width z⟩, hxs, by omega, by omega, ?_⟩
      case' inr =>
        simp (disch := first | assumption | omega) only [e0, e4, e5, eh, heq, hrd, go_sem, ↓reduceIte, Nat.reduceEqDiff, reduceCtorEq, Nat.reduceLeDiff, reduceIte, Int.reduceLE, Int.reduceMul, Nat.reduceMul]
        refine ⟨⟨by omega, by omega, ints_width z⟩, by omega, by omega, ?_⟩
      all_goals
        refine ⟨d - (6 + n), by omega, _, _, ?_, rfl, ?_, ?_, Recs.add hE (RecOk.sh r), ?_, hpre⟩
        · rw [book_snoc, List.length_append, recB_length, hbk]; omega
        · rw [book_snoc, List.length_append, recB_length, hbk, hrlen]; congr 1; omega
        · rw [lastOf_snoc, hla]; rw [four, heq]
        · intro r' hr'
          rcases List.mem_append.1 hr' with hr' | hr'
          · exact hS r' hr'
          · simp at hr'; subst hr'; omega
    · have hne : ¬ s4 = four (logSum last r) := fun e => heq e.symm
      rcases hq with ⟨rfl, rfl⟩ | rfl
      · simp (disch := first | assumption | omega) only [e4, e5, heq, go_sem, ↓reduceIte, Nat.reduceEqDiff, reduceIte]
        refine fin _ (hstop hne) (by simp (disch := first | assumption | omega) only [go_sem, ↓reduceIte, Nat.reduceEqDiff, reduceIte]) (by simp (disch := first | assumption | omega) only [go_sem, ↓reduceIte, reduceIte]) (by simp (disch := first | assumption | omega) only [eh, go_sem])
      · simp (disch := first | assumption | omega) only [e4, e5, heq, go_sem, ↓reduceIte, Nat.reduceEqDiff, reduceIte]
        refine fin _ (hstop hne) (by simp (disch := first | assumption | omega) only [go_sem, ↓reduceIte, Nat.reduceEqDiff, reduceIte]) (by simp (disch := first | assumption | omega) only [go_sem, ↓reduceIte, reduceIte]) (by simp (disch := first | assumption | omega) only [eh, go_sem])
end Go.Proofs.Ytpdajkbfemcdlaa
set_option linter.unusedSimpArgs false
set_option linter.unusedVariables false
set_option maxRecDepth 10000
namespace Go.Proofs.Ytpdajkbfemcdlaa
open Go.Ge Go.Sort
theorem hello_first {m : Mem} {arm seq clock : Int} (h : memF m = 0) : firstF (helloL m arm seq clock) = msgFault (beatOf arm seq clock) := by
  rw [firstF_hello]
  have h1 := (memF_zero.1 h).2.2.2.1
  by_cases h2 : msgFault (beatOf arm seq clock) = 0
  · rw [if_neg (by simp [h2]), h2, h1]
    have h3 : msgFault (askOf m arm seq clock) = 0 := by
      unfold msgFault beatOf at h2
      unfold msgFault askOf
      simp only [] at h2 ⊢
      repeat' split at h2
      all_goals try omega
      repeat' split
      all_goals omega
    rw [h3]
    simp
  · rw [if_pos h2]
theorem FallKeeps_ok (o p q ob : Own) (m : Mem) (e : Ev) (b : List Int) (arm seq clock : Int) (ho : Rdn o m.Asked) (hp : Rdn p m.Has) (hq : Rdn q e.Cells) (hob : Rdn ob b) (hb : ∀ x ∈ b, inU8 x) (l1 : m.Asked.length * 16 ≤ reachBytes) (l2 : m.Has.length < 4611686018427387904) (l3 : e.Cells.length ≤ 8796093022208) (l4 : b.length ≤ 1099511627776) (h : List HObj) :
    ACalls Try.prog F.gantlaw5_FallKeeps [memA o p m, eventA q e, .lst ob (ints .u8 b), .int .i64 arm, .int .i64 seq, .int .u32 clock] h (fun v h' => v = .bool true ∧ h' = h) := by
  have ho1 := ho.1
  have hp1 := hp.1
  have hq1 := hq.1
  have hob1 := hob.1
  have l1' := l1
  unfold reachBytes at l1'
  refine ACalls.of_aw Try.func30 K.gantlaw5_FallKeeps (by simp [Try.f30]) ?_
  generalize hQ : retQ R.gantlaw5_FallKeeps _ = Q
  simp (disch := first | assumption | omega) only [C.gantlaw5_FallKeeps, go_sem, ↓reduceIte, Nat.reduceEqDiff, reduceCtorEq, reduceIte]
  simp (disch := first | assumption | omega) only [memA, memC, eventA, eventC, go_sem]
  refine callG_ok (Hello_ok .nil .nil ⟨0, 0, [], [], 0⟩ 1 0 0 ⟨.inr rfl, fun _ => rfl⟩ ⟨.inr rfl, fun _ => rfl⟩ (by simp) _) (by simp (disch := first | assumption | omega) only [go_sem]) ?_
  rintro _ _ ⟨⟨qh, xs, rfl, h1, h2⟩, hhh⟩
  rw [hhh]
  clear hhh
  have e1 : firstF (helloL ⟨0, 0, [], [], 0⟩ 1 0 0) = 0 := by decide
  obtain ⟨rfl, h3⟩ := h1 e1
  have e2 : xs.length = 1 := h3.length
  have e3 : (xs.length : Int) = 1 := by omega
  rw [e1]
  simp (disch := first | assumption | omega) only [e3, go_sem, ↓reduceIte, Nat.reduceEqDiff, reduceCtorEq, Nat.reduceAdd, Nat.reduceLeDiff, Nat.reduceLT, reduceIte, Int.reduceLT, Int.reduceAdd]
  refine callG_ok (Keep_ok o p q ob m b e ho hp hq hob hb l4 (by omega) l2 (by omega) _) (by simp (disch := first | assumption | omega) only [go_sem]) ?_
  rintro _ _ ⟨hk, hhh⟩
  rw [hhh]
  clear hhh
  by_cases hc : evF e = 0
  case neg =>
    have hd : doF m e = (mem0, evF e) := by unfold doF; rw [if_pos hc]
    rcases hk with ⟨_, rfl⟩ | ⟨hz, _⟩
    case inr => rw [hd] at hz; exact absurd hz hc
    rw [hd]
    simp (disch := first | assumption | omega) only [zeroM, go_sem, ↓reduceIte, Nat.reduceEqDiff, Nat.reduceAdd, Nat.reduceLeDiff, Nat.reduceLT, reduceIte, Int.reduceLT, Int.reduceAdd]
    refine callG_ok (EventFault_ok q e hq1 (by omega) _) (by simp (disch := first | assumption | omega) only [go_sem]) ?_
    rintro _ _ ⟨rfl, hhh⟩
    rw [hhh]
    clear hhh
    simp (disch := first | assumption | omega) only [hc, go_sem, ↓reduceIte, Nat.reduceEqDiff, reduceCtorEq, Nat.reduceAdd, Nat.reduceLeDiff, Nat.reduceLT, reduceIte, Int.reduceLT, Int.reduceAdd]
    refine callG_ok (Records_ok ob b hob1 hb l4 _) (by simp (disch := first | assumption | omega) only [go_sem]) ?_
    rintro _ _ ⟨⟨rs, x, rfl, ⟨qs, ys, rfl, hE, hqs⟩, hS⟩, hhh⟩
    rw [hhh]
    clear hhh
    have hqs2 : qs = .nil ∨ qs = .sh ∨ ∃ z, qs = .app z := by
      rcases hqs with ⟨rfl, _⟩ | rfl
      · exact .inl rfl
      · exact .inr (.inr ⟨_, rfl⟩)
    obtain ⟨qt, hqt, hqt2, r1, r2, r3⟩ := own_rd ys hqs2
    simp (disch := first | assumption | omega) only [r2, go_sem, ↓reduceIte, Nat.reduceEqDiff, Nat.reduceAdd, Nat.reduceLeDiff, Nat.reduceLT, reduceIte, Int.reduceLT, Int.reduceAdd]
    refine callG_ok (EventBytes_ok q e hq1 l3 _) (by simp (disch := first | assumption | omega) only [go_sem]) ?_
    rintro _ _ ⟨rfl, hhh⟩
    rw [hhh]
    clear hhh
    have hS0 := fun hp => FSame_ok .nil .nil .nil .nil mem0 mem0 (.inr rfl) (.inr rfl) (.inr rfl) (.inr rfl) (by simp [mem0]) (by simp [mem0]) (by simp [mem0]) (by simp [mem0]) hp
    simp (disch := first | assumption | omega) only [hc, go_sem, ↓reduceIte, Nat.reduceEqDiff, Nat.reduceAdd, Nat.reduceLeDiff, reduceIte, Int.reduceAdd]
    refine callG_ok (hS0 _) (by simp (disch := first | assumption | omega) only [go_sem]) ?_
    rintro _ _ ⟨rfl, hhh⟩
    rw [hhh, decide_eq_true rfl]
    clear hhh
    simp (disch := first | assumption | omega) only [go_sem, ↓reduceIte, Nat.reduceEqDiff, reduceIte]
    subst hQ
    simp (disch := first | assumption | omega) only [R.gantlaw5_FallKeeps, go_sem, ↓reduceIte, reduceIte]
  rcases hk with ⟨hne, rfl⟩ | ⟨hz, rs0, hS0, ⟨hfull, rfl⟩ | ⟨hroom, o6, p6, rfl, ho6, hp6⟩⟩
  · simp (disch := first | assumption | omega) only [zeroM, go_sem, ↓reduceIte, Nat.reduceEqDiff, Nat.reduceAdd, Nat.reduceLeDiff, Nat.reduceLT, reduceIte, Int.reduceLT, Int.reduceAdd]
    refine callG_ok (EventFault_ok q e hq1 (by omega) _) (by simp (disch := first | assumption | omega) only [go_sem]) ?_
    rintro _ _ ⟨rfl, hhh⟩
    rw [hhh]
    clear hhh
    simp (disch := first | assumption | omega) only [hc, go_sem, ↓reduceIte, Nat.reduceEqDiff, Nat.reduceAdd, Nat.reduceLeDiff, Nat.reduceLT, reduceIte, Int.reduceLT, Int.reduceAdd]
    refine callG_ok (Happens_ok o p q m e hc ho hp hq (by omega) l2 _) (by simp (disch := first | assumption | omega) only [go_sem]) ?_
    rintro _ _ ⟨⟨o4, p4, rfl, ho4, hp4⟩, hhh⟩
    rw [hhh]
    clear hhh
    have ho5 := ho4.1
    have hp5 := hp4.1
    generalize (doF m e).1 = r at *
    generalize (doF m e).2 = x at *
    simp (disch := first | assumption | omega) only [memRA, memRC, go_sem, ↓reduceIte, Nat.reduceEqDiff, reduceCtorEq, Nat.reduceAdd, Nat.reduceLeDiff, Nat.reduceLT, reduceIte, Int.reduceLT, Int.reduceAdd]
    refine callG_ok (Records_ok ob b hob1 hb l4 _) (by simp (disch := first | assumption | omega) only [go_sem]) ?_
    rintro _ _ ⟨⟨rs, x, rfl, ⟨qs, ys, rfl, hE, hqs⟩, hS⟩, hhh⟩
    rw [hhh]
    clear hhh
    have hqs2 : qs = .nil ∨ qs = .sh ∨ ∃ z, qs = .app z := by
      rcases hqs with ⟨rfl, _⟩ | rfl
      · exact .inl rfl
      · exact .inr (.inr ⟨_, rfl⟩)
    obtain ⟨qt, hqt, hqt2, r1, r2, r3⟩ := own_rd ys hqs2
    simp (disch := first | assumption | omega) only [r2, go_sem, ↓reduceIte, Nat.reduceEqDiff, Nat.reduceAdd, Nat.reduceLeDiff, Nat.reduceLT, reduceIte, Int.reduceLT, Int.reduceAdd]
    refine callG_ok (EventBytes_ok q e hq1 l3 _) (by simp (disch := first | assumption | omega) only [go_sem]) ?_
    rintro _ _ ⟨rfl, hhh⟩
    rw [hhh]
    clear hhh
    have hS0 := fun hp => FSame_ok .nil .nil .nil .nil mem0 mem0 (.inr rfl) (.inr rfl) (.inr rfl) (.inr rfl) (by simp [mem0]) (by simp [mem0]) (by simp [mem0]) (by simp [mem0]) hp
    simp (disch := first | assumption | omega) only [hne, go_sem, ↓reduceIte, Nat.reduceEqDiff, Nat.reduceAdd, Nat.reduceLeDiff, reduceIte, Int.reduceAdd]
    refine callG_ok (hS0 _) (by simp (disch := first | assumption | omega) only [go_sem]) ?_
    rintro _ _ ⟨rfl, hhh⟩
    rw [hhh, decide_eq_true rfl]
    clear hhh
    simp (disch := first | assumption | omega) only [go_sem, ↓reduceIte, Nat.reduceEqDiff, reduceIte]
    subst hQ
    simp (disch := first | assumption | omega) only [R.gantlaw5_FallKeeps, go_sem, ↓reduceIte, reduceIte]
  · simp (disch := first | assumption | omega) only [zeroM, go_sem, ↓reduceIte, Nat.reduceEqDiff, Nat.reduceAdd, Nat.reduceLeDiff, Nat.reduceLT, reduceIte, Int.reduceLT, Int.reduceAdd]
    refine callG_ok (EventFault_ok q e hq1 (by omega) _) (by simp (disch := first | assumption | omega) only [go_sem]) ?_
    rintro _ _ ⟨rfl, hhh⟩
    rw [hhh]
    clear hhh
    simp (disch := first | assumption | omega) only [hc, go_sem, ↓reduceIte, Nat.reduceEqDiff, Nat.reduceAdd, Nat.reduceLeDiff, Nat.reduceLT, reduceIte, Int.reduceLT, Int.reduceAdd]
    refine callG_ok (Happens_ok o p q m e hc ho hp hq (by omega) l2 _) (by simp (disch := first | assumption | omega) only [go_sem]) ?_
    rintro _ _ ⟨⟨o4, p4, rfl, ho4, hp4⟩, hhh⟩
    rw [hhh]
    clear hhh
    have ho5 := ho4.1
    have hp5 := hp4.1
    have hxl := evX_length e
    have hbl := evB_length e
    generalize (doF m e).1 = r at *
    generalize (doF m e).2 = x at *
    subst hz
    simp (disch := first | assumption | omega) only [memRA, memRC, go_sem, ↓reduceIte, Nat.reduceEqDiff, reduceCtorEq, Nat.reduceAdd, Nat.reduceLeDiff, Nat.reduceLT, reduceIte, Int.reduceLT, Int.reduceAdd]
    refine callG_ok (Records_ok ob b hob1 hb l4 _) (by simp (disch := first | assumption | omega) only [go_sem]) ?_
    rintro _ _ ⟨⟨rs, x, rfl, ⟨qs, ys, rfl, hE, hqs⟩, hS⟩, hhh⟩
    rw [hhh]
    clear hhh
    have hqs2 : qs = .nil ∨ qs = .sh ∨ ∃ z, qs = .app z := by
      rcases hqs with ⟨rfl, _⟩ | rfl
      · exact .inl rfl
      · exact .inr (.inr ⟨_, rfl⟩)
    obtain ⟨qt, hqt, hqt2, r1, r2, r3⟩ := own_rd ys hqs2
    have hru := IsScan.unique hS hS0
    subst hru
    simp (disch := first | assumption | omega) only [r2, go_sem, ↓reduceIte, Nat.reduceEqDiff, Nat.reduceAdd, Nat.reduceLeDiff, Nat.reduceLT, reduceIte, Int.reduceLT, Int.reduceAdd]
    refine callG_ok (EventBytes_ok q e hq1 l3 _) (by simp (disch := first | assumption | omega) only [go_sem]) ?_
    rintro _ _ ⟨rfl, hhh⟩
    rw [hhh]
    clear hhh
    have hpl := hS.pre.length_le
    have hbig : (100000 : Int) < ((book 0 rs).length : Int) + 6 + ((evX e).length : Int) := by omega
    have hS0 := fun hp => FSame_ok .nil .nil .nil .nil mem0 mem0 (.inr rfl) (.inr rfl) (.inr rfl) (.inr rfl) (by simp [mem0]) (by simp [mem0]) (by simp [mem0]) (by simp [mem0]) hp
    simp (disch := first | assumption | omega) only [hbig, go_sem, ↓reduceIte, Nat.reduceEqDiff, Nat.reduceAdd, Nat.reduceLeDiff, reduceIte, Int.reduceAdd, Int.reduceEq]
    refine callG_ok (hS0 _) (by simp (disch := first | assumption | omega) only [go_sem]) ?_
    rintro _ _ ⟨rfl, hhh⟩
    rw [hhh, decide_eq_true rfl]
    clear hhh
    simp (disch := first | assumption | omega) only [go_sem, ↓reduceIte, Nat.reduceEqDiff, reduceIte]
    subst hQ
    simp (disch := first | assumption | omega) only [R.gantlaw5_FallKeeps, go_sem, ↓reduceIte, reduceIte]
  · have hxl := evX_length e
    have hbl := evB_length e
    have hfew := (fault_up (evF_zero hc).2.2.2.2).1
    have hma := (doF_zero hz).2
    have hfst := hello_first (arm := arm) (seq := seq) (clock := clock) hma
    have hasked := (memF_zero.1 hma).2.2.2.1
    obtain ⟨la, lh⟩ := doF_few m e
    simp (disch := first | assumption | omega) only [memA, memC, go_sem, ↓reduceIte, Nat.reduceEqDiff, Nat.reduceAdd, Nat.reduceLeDiff, Nat.reduceLT, reduceIte, Int.reduceLT, Int.reduceAdd]
    refine callG_ok (EventFault_ok q e hq1 (by omega) _) (by simp (disch := first | assumption | omega) only [go_sem]) ?_
    rintro _ _ ⟨rfl, hhh⟩
    rw [hhh]
    clear hhh
    simp (disch := first | assumption | omega) only [hc, go_sem, ↓reduceIte, Nat.reduceEqDiff, Nat.reduceAdd, Nat.reduceLeDiff, Nat.reduceLT, reduceIte, Int.reduceLT, Int.reduceAdd]
    refine callG_ok (Happens_ok o p q m e hc ho hp hq (by omega) l2 _) (by simp (disch := first | assumption | omega) only [go_sem]) ?_
    rintro _ _ ⟨⟨o4, p4, rfl, ho4, hp4⟩, hhh⟩
    rw [hhh]
    clear hhh
    have ho5 := ho4.1
    have hp5 := hp4.1
    have ho7 := ho6.1
    have hp7 := hp6.1
    generalize (doF m e).1 = r at *
    generalize (doF m e).2 = x at *
    subst hz
    simp (disch := first | assumption | omega) only [memRA, memRC, go_sem, ↓reduceIte, Nat.reduceEqDiff, reduceCtorEq, Nat.reduceAdd, Nat.reduceLeDiff, Nat.reduceLT, reduceIte, Int.reduceLT, Int.reduceAdd]
    refine callG_ok (Records_ok ob b hob1 hb l4 _) (by simp (disch := first | assumption | omega) only [go_sem]) ?_
    rintro _ _ ⟨⟨rs, x, rfl, ⟨qs, ys, rfl, hE, hqs⟩, hS⟩, hhh⟩
    rw [hhh]
    clear hhh
    have hqs2 : qs = .nil ∨ qs = .sh ∨ ∃ z, qs = .app z := by
      rcases hqs with ⟨rfl, _⟩ | rfl
      · exact .inl rfl
      · exact .inr (.inr ⟨_, rfl⟩)
    obtain ⟨qt, hqt, hqt2, r1, r2, r3⟩ := own_rd ys hqs2
    have hru := IsScan.unique hS hS0
    subst hru
    have hQt : Rdn qt rs := ⟨hqt, fun e => by
      rcases hqs with ⟨_, h⟩ | rfl
      · exact h
      · cases hqt2 e⟩
    simp (disch := first | assumption | omega) only [r2, go_sem, ↓reduceIte, Nat.reduceEqDiff, Nat.reduceAdd, Nat.reduceLeDiff, Nat.reduceLT, reduceIte, Int.reduceLT, Int.reduceAdd]
    refine callG_ok (EventBytes_ok q e hq1 l3 _) (by simp (disch := first | assumption | omega) only [go_sem]) ?_
    rintro _ _ ⟨rfl, hhh⟩
    rw [hhh]
    clear hhh
    have hsmall : ¬ (100000 : Int) < ((book 0 rs).length : Int) + 6 + ((evX e).length : Int) := by omega
    rw [evX_B hc] at hxl hsmall ⊢
    simp (disch := first | assumption | omega) only [hsmall, go_sem, ↓reduceIte, Nat.reduceEqDiff, Nat.reduceAdd, Nat.reduceLeDiff, Nat.reduceLT, reduceIte, Int.reduceLT, Int.reduceAdd]
    refine callG_ok (EqualCell_ok o6 o4 r.Asked r.Asked ho7 ho5 (by omega) (by omega) _) (by simp (disch := first | assumption | omega) only [go_sem]) ?_
    rintro _ _ ⟨rfl, hhh⟩
    rw [hhh, decide_eq_true rfl]
    clear hhh
    simp (disch := first | assumption | omega) only [go_sem, ↓reduceIte, Nat.reduceEqDiff, Nat.reduceAdd, Nat.reduceLeDiff, Nat.reduceLT, reduceIte, Int.reduceLT, Int.reduceAdd]
    refine callG_ok (EqualCell_ok p6 p4 r.Has r.Has hp7 hp5 (by omega) (by omega) _) (by simp (disch := first | assumption | omega) only [go_sem]) ?_
    rintro _ _ ⟨rfl, hhh⟩
    rw [hhh, decide_eq_true rfl]
    clear hhh
    simp (disch := first | assumption | omega) only [go_sem, ↓reduceIte, Nat.reduceEqDiff, reduceIte]
    refine callG_ok (CloneRecs_ok qt rs ys hQt hE (by
      have h1 := hS.pre.length_le
      rw [book_length] at h1
      have h2 : rs.length ≤ sizeOf' rs := by
        unfold sizeOf'
        clear h1 hE hS hqs hQt hroom hsmall hS0
        induction rs with
        | nil => simp
        | cons r rs ih => simp only [List.map_cons, List.sum_cons, List.length_cons]; omega
      omega) _) (by simp (disch := first | assumption | omega) only [go_sem]) ?_
    rintro _ _ ⟨⟨qv, rfl, hqv⟩, hhh⟩
    rw [hhh]
    clear hhh
    have ly := hE.length
    have hE2 : Each2 RecOk (rs ++ [evB e]) (ys ++ [.lst .sh (ints .u8 (evB e))]) := hE.append (Each2.one ⟨.sh, ⟨.inl rfl, fun h => by cases h⟩, rfl⟩)
    have hu2 : ∀ r ∈ rs ++ [evB e], ∀ x ∈ r, inU8 x := fun r hr x hx => by
      rcases List.mem_append.1 hr with hr | hr
      · exact hS.u8 hb r hr x hx
      · rw [List.mem_singleton.1 hr] at hx; exact evB_u8 e x hx
    have hsz : sizeOf' (rs ++ [evB e]) ≤ 100000 := by
      rw [← book_length 0, book_snoc, List.length_append, recB_length]; omega
    have hbl2 : (book 0 (rs ++ [evB e])).length ≤ 100000 := by rw [book_length]; exact hsz
    have hrl : rs.length ≤ 100000 := by
      have h2 : rs.length ≤ sizeOf' rs := by
        unfold sizeOf'
        clear hE hS hqs hqs2 hQt hroom hsmall hS0 hE2 hu2 hsz hbl2 hqv ly
        induction rs with
        | nil => simp
        | cons r rs ih => simp only [List.map_cons, List.sum_cons, List.length_cons]; omega
      rw [← book_length 0] at h2
      omega
    simp (disch := first | assumption | omega) only [go_sem, ↓reduceIte, Nat.reduceEqDiff, Nat.reduceLeDiff, reduceIte, Int.reduceMul, Nat.reduceMul]
    refine ⟨by
      rcases hqv with ⟨rfl, hrs⟩ | rfl
      · rw [hrs] at ly
        exact List.length_eq_zero_iff.1 (ly.trans rfl)
      · rfl, by omega, by omega, ?_⟩
    refine callG_ok (Book_ok .sh (rs ++ [evB e]) _ ⟨.inl rfl, fun h => by cases h⟩ hE2 hu2 (by omega) _) (by simp (disch := first | assumption | omega) only [go_sem]) ?_
    rintro _ _ ⟨⟨qk, rfl, hqk⟩, hhh⟩
    rw [hhh]
    clear hhh
    have hqk2 : qk = .app 1 := by
      rcases hqk with ⟨_, h⟩ | rfl
      · exact absurd h (by simp)
      · rfl
    subst hqk2
    simp (disch := first | assumption | omega) only [go_sem, ↓reduceIte, Nat.reduceEqDiff, reduceIte]
    refine callG_ok (EqualByte_ok .sh .sh _ _ (.inl rfl) (.inl rfl) (by omega) (by omega) _) (by simp (disch := first | assumption | omega) only [go_sem]) ?_
    rintro _ _ ⟨rfl, hhh⟩
    rw [hhh, decide_eq_true rfl]
    clear hhh
    simp (disch := first | assumption | omega) only [go_sem, ↓reduceIte, Nat.reduceEqDiff, reduceCtorEq, Nat.reduceAdd, Nat.reduceLeDiff, reduceIte, Int.reduceAdd]
    refine callG_ok (Hello_ok o p m arm seq clock ho hp l1 _) (by simp (disch := first | assumption | omega) only [go_sem]) ?_
    rintro _ _ ⟨⟨q, ys, rfl, g1, g2⟩, hhh⟩
    rw [hhh]
    clear hhh
    have hB : MsgOk (beatOf arm seq clock) (msgA .nil (beatOf arm seq clock)) := ⟨.nil, ⟨.inr rfl, fun _ => rfl⟩, by simp [beatOf], rfl⟩
    have hK : MsgOk (askOf m arm seq clock) (msgA o (askOf m arm seq clock)) := ⟨o, ho, l1, rfl⟩
    rw [hfst] at g1 g2 ⊢
    generalize hst : AState.put _ _ _ = S
    have f3 := (congrArg (fun s => s.env 3) hst).symm
    have f4 := (congrArg (fun s => s.env 4) hst).symm
    have f5 := (congrArg (fun s => s.env 5) hst).symm
    have f6 := (congrArg (fun s => s.env 6) hst).symm
    have f7 := (congrArg (fun s => s.env 171) hst).symm
    have fb := (congrArg (fun s => s.boxes 6) hst).symm
    have fh := (congrArg (fun s => s.heap) hst).symm
    clear hst
    simp (disch := first | assumption | omega) only [go_sem, ↓reduceIte, Nat.reduceEqDiff, reduceCtorEq, reduceIte] at f3
    simp (disch := first | assumption | omega) only [go_sem, ↓reduceIte, Nat.reduceEqDiff, reduceCtorEq, reduceIte] at f4
    simp (disch := first | assumption | omega) only [go_sem, ↓reduceIte, Nat.reduceEqDiff, reduceCtorEq, reduceIte] at f5
    simp (disch := first | assumption | omega) only [go_sem, ↓reduceIte, Nat.reduceEqDiff, reduceIte] at f6
    simp (disch := first | assumption | omega) only [go_sem, ↓reduceIte, reduceIte] at f7
    simp (disch := first | assumption | omega) only [go_sem, ↓reduceIte, Nat.reduceEqDiff, reduceIte] at fb
    simp (disch := first | assumption | omega) only [go_sem] at fh
    clear h1 h2 h3 hS hE hqs hqv hE2 hu2 hS0
    by_cases hA : msgFault (beatOf arm seq clock) = 0
    · obtain ⟨rfl, g3⟩ := g1 hA
      simp (disch := first | assumption | omega) only [f3, f4, f5, f6, f7, fb, go_sem, ↓reduceIte, Nat.reduceEqDiff, Nat.reduceAdd, Nat.reduceLeDiff, Nat.reduceLT, reduceIte, Int.reduceLT, Int.reduceAdd, Int.reduceMul, Nat.reduceMul]
      refine condG_if (fun h0 => ?_) fun h0 => ?_
      · have h0' : 0 < m.Asked.length := by omega
        have hL : MsgsOk (helloL m arm seq clock) [msgA .nil (beatOf arm seq clock), msgA o (askOf m arm seq clock)] := by
          unfold helloL; rw [if_pos h0']; exact ⟨_, _, rfl, hB, _, _, rfl, hK, rfl⟩
        have hn : (helloL m arm seq clock).length < 4611686018427387904 := by unfold helloL; rw [if_pos h0']; simp
        simp (disch := first | assumption | omega) only [f3, f4, f5, f6, fb, go_sem, ↓reduceIte, Nat.reduceEqDiff, Nat.reduceAdd, Nat.reduceLeDiff, reduceIte, Int.reduceAdd, Int.reduceMul, Nat.reduceMul]
        refine callG_ok (MsgFault_ok .nil (beatOf arm seq clock) (.inr rfl) (by simp [beatOf]) _) (by simp (disch := first | assumption | omega) only [go_sem]) ?_
        rintro _ _ ⟨rfl, hhh⟩
        try rw [hhh]
        clear hhh
        simp (disch := first | assumption | omega) only [hA, f6, fb, go_sem, ↓reduceIte, Nat.reduceEqDiff, Nat.reduceAdd, Nat.reduceLeDiff, reduceIte, Int.reduceAdd]
        refine callG_ok (CellsFault_ok o m.Asked ho1 (by omega) _) (by simp (disch := first | assumption | omega) only [go_sem]) ?_
        rintro _ _ ⟨rfl, hhh⟩
        try rw [hhh]
        clear hhh
        simp (disch := first | assumption | omega) only [hasked, go_sem, ↓reduceIte, Nat.reduceEqDiff, reduceIte]
        refine callG_ok (EqualFunc_ok .sh .sh _ _ ys _ (.inl rfl) (.inl rfl) g3 hL hn hn _) (by simp (disch := first | assumption | omega) only [go_sem]) ?_
        rintro _ _ ⟨rfl, hhh⟩
        try rw [hhh]
        clear hhh
        simp (disch := first | assumption | omega) only [go_sem, ↓reduceIte, Nat.reduceEqDiff, reduceIte]
        subst hQ
        simp (disch := first | assumption | omega) only [R.gantlaw5_FallKeeps, go_sem, ↓reduceIte, reduceIte]
        exact fh
      · have h0' : ¬ 0 < m.Asked.length := by omega
        have hL : MsgsOk (helloL m arm seq clock) [msgA .nil (beatOf arm seq clock)] := by
          unfold helloL; rw [if_neg h0']; exact ⟨_, _, rfl, hB, rfl⟩
        have hn : (helloL m arm seq clock).length < 4611686018427387904 := by unfold helloL; rw [if_neg h0']; simp
        simp (disch := first | assumption | omega) only [go_sem, ↓reduceIte, Nat.reduceEqDiff, Nat.reduceAdd, Nat.reduceLeDiff, reduceIte, Int.reduceAdd]
        refine callG_ok (MsgFault_ok .nil (beatOf arm seq clock) (.inr rfl) (by simp [beatOf]) _) (by simp (disch := first | assumption | omega) only [go_sem]) ?_
        rintro _ _ ⟨rfl, hhh⟩
        try rw [hhh]
        clear hhh
        simp (disch := first | assumption | omega) only [hA, f6, fb, go_sem, ↓reduceIte, Nat.reduceEqDiff, Nat.reduceAdd, Nat.reduceLeDiff, reduceIte, Int.reduceAdd]
        refine callG_ok (CellsFault_ok o m.Asked ho1 (by omega) _) (by simp (disch := first | assumption | omega) only [go_sem]) ?_
        rintro _ _ ⟨rfl, hhh⟩
        try rw [hhh]
        clear hhh
        simp (disch := first | assumption | omega) only [hasked, go_sem, ↓reduceIte, Nat.reduceEqDiff, reduceIte]
        refine callG_ok (EqualFunc_ok .sh .sh _ _ ys _ (.inl rfl) (.inl rfl) g3 hL hn hn _) (by simp (disch := first | assumption | omega) only [go_sem]) ?_
        rintro _ _ ⟨rfl, hhh⟩
        try rw [hhh]
        clear hhh
        simp (disch := first | assumption | omega) only [go_sem, ↓reduceIte, Nat.reduceEqDiff, reduceIte]
        subst hQ
        simp (disch := first | assumption | omega) only [R.gantlaw5_FallKeeps, go_sem, ↓reduceIte, reduceIte]
        exact fh
    · obtain ⟨rfl, rfl⟩ := g2 hA
      simp (disch := first | assumption | omega) only [f3, f4, f5, f6, f7, fb, go_sem, ↓reduceIte, Nat.reduceEqDiff, Nat.reduceAdd, Nat.reduceLeDiff, Nat.reduceLT, reduceIte, Int.reduceLT, Int.reduceAdd, Int.reduceMul, Nat.reduceMul]
      refine condG_if (fun h0 => ?_) fun h0 => ?_
      · simp (disch := first | assumption | omega) only [f3, f4, f5, f6, fb, go_sem, ↓reduceIte, Nat.reduceEqDiff, Nat.reduceAdd, Nat.reduceLeDiff, reduceIte, Int.reduceAdd, Int.reduceMul, Nat.reduceMul]
        refine callG_ok (MsgFault_ok .nil (beatOf arm seq clock) (.inr rfl) (by simp [beatOf]) _) (by simp (disch := first | assumption | omega) only [go_sem]) ?_
        rintro _ _ ⟨rfl, hhh⟩
        try rw [hhh]
        clear hhh
        simp (disch := first | assumption | omega) only [hA, go_sem, ↓reduceIte, Nat.reduceEqDiff, reduceIte]
        subst hQ
        simp (disch := first | assumption | omega) only [R.gantlaw5_FallKeeps, go_sem, ↓reduceIte, reduceIte]
        exact fh
      · simp (disch := first | assumption | omega) only [go_sem, ↓reduceIte, Nat.reduceEqDiff, Nat.reduceAdd, Nat.reduceLeDiff, reduceIte, Int.reduceAdd]
        refine callG_ok (MsgFault_ok .nil (beatOf arm seq clock) (.inr rfl) (by simp [beatOf]) _) (by simp (disch := first | assumption | omega) only [go_sem]) ?_
        rintro _ _ ⟨rfl, hhh⟩
        try rw [hhh]
        clear hhh
        simp (disch := first | assumption | omega) only [hA, go_sem, ↓reduceIte, Nat.reduceEqDiff, reduceIte]
        subst hQ
        simp (disch := first | assumption | omega) only [R.gantlaw5_FallKeeps, go_sem, ↓reduceIte, reduceIte]
        exact fh
end Go.Proofs.Ytpdajkbfemcdlaa
