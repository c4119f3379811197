/- Messages as lists of numbers. -/
import Derived.Test.YtpdajkbfemcdlaaU1
import Derived.Test.YtpdajkbfemcdlaaG1
set_option linter.unusedSimpArgs false
set_option linter.unusedVariables false
namespace Go.Proofs.Ytpdajkbfemcdlaa
open Go.Ge
/-- The number in bytes, the most significant first. -/
def val (l : List Int) : Int := l.foldl (fun n x => 256 * n + x) 0
theorem val_snoc (l : List Int) (x : Int) : val (l ++ [x]) = 256 * val l + x := by simp [val, List.foldl_append]
theorem val_take (l : List Int) (i : Nat) (h : i < l.length) : val (l.take (i + 1)) = 256 * val (l.take i) + l[i] := by
  rw [List.take_add_one, List.getElem?_eq_getElem h]; exact val_snoc _ _
theorem val_bd : ∀ (l : List Int), (∀ x ∈ l, inU8 x) → 0 ≤ val l ∧ val l < 256 ^ l.length := by
  intro l
  induction h : l.length generalizing l with
  | zero =>
    intro _
    obtain rfl := List.eq_nil_of_length_eq_zero h
    simp [val]
  | succ n ih =>
    intro hb
    have hne : l ≠ [] := by rintro rfl; simp at h
    obtain ⟨l', x, rfl⟩ : ∃ l' x, l = l' ++ [x] := ⟨l.dropLast, l.getLast hne, (List.dropLast_concat_getLast hne).symm⟩
    have hl : l'.length = n := by simpa using h
    obtain ⟨h1, h2⟩ := ih l' hl (fun y hy => hb y (by simp [hy]))
    have hx := hb x (by simp)
    unfold inU8 at hx
    rw [val_snoc, Int.pow_succ]
    omega
theorem val_bd4 {l : List Int} (hb : ∀ x ∈ l, inU8 x) (h : l.length ≤ 4) : 0 ≤ val l ∧ val l < 4294967296 := by
  obtain ⟨h1, h2⟩ := val_bd l hb
  refine ⟨h1, Int.lt_of_lt_of_le h2 ?_⟩
  have : ∀ n : Nat, n ≤ 4 → (256 : Int) ^ n ≤ 4294967296 := by
    intro n hn
    match n, hn with
    | 0, _ | 1, _ | 2, _ | 3, _ | 4, _ => decide
  exact this _ h
theorem val_be4 {n : Int} (h0 : 0 ≤ n) (h1 : n < 4294967296) : val (beBytes n 4) = n := by
  rw [be4]; simp only [val, List.foldl_cons, List.foldl_nil]; omega
theorem val_be2 {n : Int} (h0 : 0 ≤ n) (h1 : n < 65536) : val (beBytes n 2) = n := by
  rw [be2]; simp only [val, List.foldl_cons, List.foldl_nil]; omega
theorem be4_val {l : List Int} (hl : l.length = 4) (hb : ∀ x ∈ l, inU8 x) : beBytes (val l) 4 = l := by
  match l, hl with
  | [a, b, c, d], _ =>
    have ha := hb a (by simp)
    have hb' := hb b (by simp)
    have hc := hb c (by simp)
    have hd := hb d (by simp)
    unfold inU8 at *
    rw [be4]; simp only [val, List.foldl_cons, List.foldl_nil, List.cons.injEq, and_true]
    omega
theorem be2_val {l : List Int} (hl : l.length = 2) (hb : ∀ x ∈ l, inU8 x) : beBytes (val l) 2 = l := by
  match l, hl with
  | [a, b], _ =>
    have ha := hb a (by simp)
    have hb' := hb b (by simp)
    unfold inU8 at *
    rw [be2]; simp only [val, List.foldl_cons, List.foldl_nil, List.cons.injEq, and_true]
    omega
/-! ### What is written -/
def cellB (c : Cell) : List Int := [(c.X + 64) % 256, (c.Y + 64) % 256]
def cellsB (l : List Cell) : List Int := l.flatMap cellB
theorem cellsB_length (l : List Cell) : (cellsB l).length = 2 * l.length := by
  induction l with
  | nil => rfl
  | cons c l ih =>
    have e : cellsB (c :: l) = cellB c ++ cellsB l := rfl
    rw [e, List.length_append, ih, List.length_cons]
    simp only [cellB, List.length_cons, List.length_nil]; omega
theorem cellsB_snoc (l : List Cell) (c : Cell) : cellsB (l ++ [c]) = cellsB l ++ cellB c := by simp [cellsB]
def bodyB (m : Msg) : List Int := [m.Kind % 256, m.From % 256, m.To % 256] ++ beBytes m.Seq 4 ++ beBytes m.Clock 4 ++ beBytes m.Cells.length 2 ++ cellsB m.Cells
def frame (m : Msg) : List Int := bodyB m ++ four (iv (crc (bodyB m)))
theorem bodyB_length (m : Msg) : (bodyB m).length = 13 + 2 * m.Cells.length := by simp [bodyB, beBytes_length, cellsB_length]; omega
theorem frame_length (m : Msg) : (frame m).length = 17 + 2 * m.Cells.length := by simp [frame, bodyB_length, four_length]; omega
theorem cellsB_u8 (l : List Cell) : ∀ x ∈ cellsB l, inU8 x := by
  intro x hx
  simp only [cellsB, List.mem_flatMap, cellB, List.mem_cons, List.not_mem_nil, or_false] at hx
  obtain ⟨c, _, rfl | rfl⟩ := hx <;> unfold inU8 <;> omega
theorem bodyB_u8 (m : Msg) : ∀ x ∈ bodyB m, inU8 x := by
  intro x hx
  simp only [bodyB, List.mem_append, List.mem_cons, List.not_mem_nil, or_false] at hx
  rcases hx with (((hx | hx) | hx) | hx) | hx
  · rcases hx with rfl | rfl | rfl <;> unfold inU8 <;> omega
  · exact beBytes_u8 _ _ x hx
  · exact beBytes_u8 _ _ x hx
  · exact beBytes_u8 _ _ x hx
  · exact cellsB_u8 _ x hx
theorem frame_u8 (m : Msg) : ∀ x ∈ frame m, inU8 x := by
  intro x hx
  rcases List.mem_append.1 hx with hx | hx
  · exact bodyB_u8 m x hx
  · exact beBytes_u8 _ _ x hx
/-! ### What is read -/
def cellsOf : List Int → List Cell
  | x :: y :: l => ⟨x - 64, y - 64⟩ :: cellsOf l
  | _ => []
def msg0 : Msg := ⟨0, 0, 0, 0, 0, []⟩
def cnt (b : List Int) : Nat := (val ((b.drop 11).take 2)).toNat
def msgOf (b : List Int) : Msg := ⟨b.getD 0 0, b.getD 1 0, b.getD 2 0, val ((b.drop 3).take 4), val ((b.drop 7).take 4), cellsOf ((b.drop 13).take (2 * cnt b))⟩
/-- The error of bytes, or 0. -/
def unfE (b : List Int) : Int :=
  if b.length < 17 then 14 else if b.length < 17 + 2 * cnt b then 14 else if b.length > 17 + 2 * cnt b then 3
  else if val (b.drop (13 + 2 * cnt b)) ≠ iv (crc (b.take (13 + 2 * cnt b))) then 13 else 0
def readE (b : List Int) : Int := if unfE b ≠ 0 then unfE b else checkF (msgOf b)
def readM (b : List Int) : Msg := if readE b ≠ 0 then msg0 else msgOf b
theorem cellsOf_length : ∀ (n : Nat) (l : List Int), l.length = 2 * n → (cellsOf l).length = n
  | 0, [], _ => rfl
  | n + 1, x :: y :: l, h => by simp [cellsOf, cellsOf_length n l (by simpa using by simp at h; omega)]
  | n + 1, [_], h => by simp at h; omega
  | n + 1, [], h => by simp at h
  | 0, _ :: _, h => by simp at h
theorem cellsOf_B : ∀ (l : List Cell), (∀ c ∈ l, onG c.X ∧ onG c.Y) → cellsOf (cellsB l) = l
  | [], _ => rfl
  | c :: l, h => by
    have hc := h c (by simp)
    unfold onG at hc
    have ih := cellsOf_B l (fun c hc => h c (by simp [hc]))
    simp only [cellsB, List.flatMap_cons, cellB, List.cons_append, List.nil_append, cellsOf] at ih ⊢
    rw [ih]
    congr 1
    cases c; simp only [Cell.mk.injEq] at hc ⊢; omega
end Go.Proofs.Ytpdajkbfemcdlaa
