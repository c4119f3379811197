/- Contracts: messages are written. -/
import Derived.Test.YtpdajkbfemcdlaaV4
import Derived.Test.YtpdajkbfemcdlaaU2
import Derived.Test.YtpdajkbfemcdlaaM3
import Derived.Test.YtpdajkbfemcdlaaCd
set_option linter.unusedSimpArgs false
set_option linter.unusedVariables false
set_option maxRecDepth 10000
namespace Go.Proofs.Ytpdajkbfemcdlaa
open Go.Ge
theorem val_bd3 {l : List Int} (hb : ∀ x ∈ l, inU8 x) (h : l.length ≤ 3) : 0 ≤ val l ∧ val l < 16777216 := by
  obtain ⟨h1, h2⟩ := val_bd l hb
  refine ⟨h1, Int.lt_of_lt_of_le h2 ?_⟩
  have : ∀ n : Nat, n ≤ 3 → (256 : Int) ^ n ≤ 16777216 := by
    intro n hn
    match n, hn with
    | 0, _ | 1, _ | 2, _ | 3, _ => decide
  exact this _ h
theorem or_shl32 (x y : Int) (h0 : 0 ≤ x) (h1 : x < 16777216) (k0 : 0 ≤ y) (k1 : y < 256) : bitsV .or .u32 (IntKind.u32.wrap (x * 2 ^ min (Int.toNat 8) 32)) y = 256 * x + y := by
  obtain ⟨x, rfl⟩ := Int.eq_ofNat_of_zero_le h0
  obtain ⟨y, rfl⟩ := Int.eq_ofNat_of_zero_le k0
  have e : IntKind.u32.wrap ((x : Int) * 2 ^ min (Int.toNat 8) 32) = ((x * 256 : Nat) : Int) := by
    rw [show min (Int.toNat 8) 32 = 8 from rfl, wrapU32 (by omega) (by omega)]; omega
  rw [e]
  show IntKind.u32.wrap ((BitVec.ofInt 32 ((x * 256 : Nat) : Int) ||| BitVec.ofInt 32 (y : Int)).toNat : Int) = _
  rw [BitVec.ofInt_natCast, BitVec.ofInt_natCast, BitVec.toNat_or, BitVec.toNat_ofNat, BitVec.toNat_ofNat, Nat.mod_eq_of_lt (by omega), Nat.mod_eq_of_lt (by omega)]
  have e2 : x * 256 ||| y = x * 256 + y := by
    rw [show x * 256 = 2 ^ 8 * x from by omega, Nat.two_pow_add_eq_or_of_lt (by omega)]
  rw [e2, wrapU32 (by omega) (by omega)]; omega
theorem number_ok (o : Own) (l : List Int) (ho : Rdo o) (hb : ∀ x ∈ l, inU8 x) (hl : l.length ≤ 4) (h : List HObj) :
    ACalls Try.prog F.msg_number [.lst o (ints .u8 l)] h (fun r h' => r = .int .u32 (val l) ∧ h' = h) := by
  refine ACalls.of_aw Try.func159 K.msg_number (by simp [Try.f159]) ?_
  generalize hQ : retQ R.msg_number _ = Q
  simp (disch := first | assumption | omega) only [C.msg_number, go_sem, ↓reduceIte, Nat.reduceEqDiff, reduceCtorEq, Nat.reduceAdd, Nat.reduceLeDiff, Nat.reduceLT, reduceIte, Int.reduceBEq, Int.reduceBNe, Int.reduceLT, Int.reduceLE, Int.reduceAdd, Int.reduceSub, Int.reduceMul, Int.reduceNeg, Int.reduceEq, Int.reduceNe, Nat.reduceMul, Nat.reduceSub]
  refine aw_count (fun d S => ∃ (i : Nat), i + d = l.length ∧ S.env 8 = .int .i64 i ∧ S.env 7 = .int .i64 l.length ∧ S.env 6 = .lst o (ints .u8 l) ∧ S.env 3 = .int .u32 (val (l.take i)) ∧ S.heap = h) (n := l.length) ⟨0, by simp [go_sem, val]⟩ ?_
  rintro d S ⟨i, hi, e8, e7, e6, e3, eh⟩
  simp (disch := first | assumption | omega) only [e8, e7, e6, e3, eh, go_sem, ↓reduceIte, Nat.reduceEqDiff, reduceCtorEq, Nat.reduceAdd, Nat.reduceLeDiff, Nat.reduceLT, reduceIte, Int.reduceBEq, Int.reduceBNe, Int.reduceLT, Int.reduceLE, Int.reduceAdd, Int.reduceSub, Int.reduceMul, Int.reduceNeg, Int.reduceEq, Int.reduceNe, Nat.reduceMul, Nat.reduceSub]
  refine condG_if (fun hlt => ?_) fun hge => ?_
  · have hlt1 : i < l.length := by omega
    have hx := hb _ (List.getElem_mem hlt1)
    unfold inU8 at hx
    have hat := at_ints' (k := .u8) l i hlt1
    rw [getD_get hlt1] at hat
    have hv := val_bd3 (l := l.take i) (fun x hx => hb x (List.mem_of_mem_take hx)) (by simp; omega)
    have hst := val_take l i hlt1
    have hor := or_shl32 (val (l.take i)) l[i] hv.1 hv.2 hx.1 (by omega)
    generalize l[i] = x at *
    simp (disch := first | assumption | omega) only [e8, e7, e6, e3, eh, hat, hlt1, hor, go_sem, ↓reduceIte, Nat.reduceEqDiff, reduceCtorEq, Nat.reduceAdd, Nat.reduceLeDiff, Nat.reduceLT, reduceIte, Int.reduceBEq, Int.reduceBNe, Int.reduceLT, Int.reduceLE, Int.reduceAdd, Int.reduceSub, Int.reduceMul, Int.reduceNeg, Int.reduceEq, Int.reduceNe, Nat.reduceMul, Nat.reduceSub]
    exact ⟨d - 1, by omega, i + 1, by omega, by simp, by rw [hst]⟩
  · obtain rfl : i = l.length := by omega
    rw [List.take_length] at e3
    simp (disch := first | assumption | omega) only [e8, e7, e6, e3, eh, go_sem, ↓reduceIte, Nat.reduceEqDiff, reduceCtorEq, Nat.reduceAdd, Nat.reduceLeDiff, Nat.reduceLT, reduceIte, Int.reduceBEq, Int.reduceBNe, Int.reduceLT, Int.reduceLE, Int.reduceAdd, Int.reduceSub, Int.reduceMul, Int.reduceNeg, Int.reduceEq, Int.reduceNe, Nat.reduceMul, Nat.reduceSub]
    subst hQ
    simp (disch := first | assumption | omega) only [R.msg_number, e8, e7, e6, e3, eh, go_sem, ↓reduceIte, Nat.reduceEqDiff, reduceCtorEq, Nat.reduceAdd, Nat.reduceLeDiff, Nat.reduceLT, reduceIte, Int.reduceBEq, Int.reduceBNe, Int.reduceLT, Int.reduceLE, Int.reduceAdd, Int.reduceSub, Int.reduceMul, Int.reduceNeg, Int.reduceEq, Int.reduceNe, Nat.reduceMul, Nat.reduceSub]
theorem mfour_ok (n : Int) (h0 : 0 ≤ n) (h1 : n < 4294967296) (h : List HObj) :
    ACalls Try.prog F.msg_four [.int .u32 n] h (fun r h' => r = .lst (.app 1) (ints .u8 (four n)) ∧ h' = h) := by
  refine ACalls.of_aw Try.func157 K.msg_four (by simp [Try.f157]) ?_
  generalize hQ : retQ R.msg_four _ = Q
  simp (disch := first | assumption | omega) only [C.msg_four, go_sem, ↓reduceIte, Nat.reduceEqDiff, reduceCtorEq, Nat.reduceAdd, Nat.reduceLeDiff, Nat.reduceLT, reduceIte, Int.reduceBEq, Int.reduceBNe, Int.reduceLT, Int.reduceLE, Int.reduceAdd, Int.reduceSub, Int.reduceMul, Int.reduceNeg, Int.reduceEq, Int.reduceNe, Nat.reduceMul, Nat.reduceSub]
  subst hQ
  simp (disch := first | assumption | omega) only [R.msg_four, shr24 h0, shr16 h0, shr8 h0, wrapU8_mod, go_sem, ↓reduceIte, Nat.reduceEqDiff, reduceCtorEq, Nat.reduceAdd, Nat.reduceLeDiff, Nat.reduceLT, reduceIte, Int.reduceBEq, Int.reduceBNe, Int.reduceLT, Int.reduceLE, Int.reduceAdd, Int.reduceSub, Int.reduceMul, Int.reduceNeg, Int.reduceEq, Int.reduceNe, Nat.reduceMul, Nat.reduceSub]
  simp [four, be4, ints]
theorem cellsF_ok : ∀ (l : List Cell) (p : Option Cell), cellsF p l = 0 → ∀ c ∈ l, onG c.X ∧ onG c.Y
  | [], _, _ => by simp
  | c :: l, p, h => by
    rw [cellsF] at h
    split at h
    · omega
    · rename_i hon
      split at h
      · omega
      · intro x hx
        rcases List.mem_cons.1 hx with rfl | hx
        · unfold onG at *; omega
        · exact cellsF_ok l _ h x hx
theorem cellsFault_ok {l : List Cell} (h : cellsFault l = 0) : l.length ≤ 400 ∧ ∀ c ∈ l, onG c.X ∧ onG c.Y := by
  unfold cellsFault at h
  split at h
  · omega
  · exact ⟨by omega, cellsF_ok l none h⟩
structure Fine (m : Msg) : Prop where
  kind : 0 ≤ m.Kind ∧ m.Kind ≤ 3
  frm : 0 ≤ m.From ∧ m.From ≤ 4
  to : 0 ≤ m.To ∧ m.To ≤ 4
  seq : 0 ≤ m.Seq ∧ m.Seq ≤ 2147483647
  few : m.Cells.length ≤ 400
  on : ∀ c ∈ m.Cells, onG c.X ∧ onG c.Y
theorem fine_of {m : Msg} (h : checkF m = 0) : Fine m := by
  unfold checkF at h
  have h1 : msgFault m = 0 := Classical.byContradiction fun h' => by rw [if_pos h'] at h; exact h' h
  rw [if_neg (by simp [h1])] at h
  obtain ⟨h2, h3⟩ := cellsFault_ok h
  unfold msgFault at h1
  split at h1
  · omega
  · split at h1
    · omega
    · split at h1
      · omega
      · exact ⟨by omega, by omega, by omega, by omega, h2, h3⟩
def headB (m : Msg) : List Int := [m.Kind % 256, m.From % 256, m.To % 256] ++ beBytes m.Seq 4 ++ beBytes m.Clock 4 ++ beBytes m.Cells.length 2
theorem headB_length (m : Msg) : (headB m).length = 13 := by simp [headB, beBytes_length]
theorem bodyB_head (m : Msg) : bodyB m = headB m ++ cellsB m.Cells := rfl
/-- What comes of a message that is written. -/
def WriteQ (m : Msg) (v : AVal) : Prop :=
  checkF m ≠ 0 ∧ v = .tup [.lst .nil [], .int .i64 (checkF m)] ∨ checkF m = 0 ∧ v = .tup [.lst (.app 1) (ints .u8 (frame m)), .int .i64 0]
theorem Write_ok (o : Own) (m : Msg) (ho : Rdo o) (hw : inU32 m.Clock) (hl : m.Cells.length < 4611686018427387904) (h : List HObj) :
    ACalls Try.prog F.msg_Write [msgA o m] h (fun v h' => WriteQ m v ∧ h' = h) := by
  refine ACalls.of_aw Try.func73 K.msg_Write (by simp [Try.f73]) ?_
  generalize hQ : retQ R.msg_Write _ = Q
  simp (disch := first | assumption | omega) only [C.msg_Write, go_sem, ↓reduceIte, Nat.reduceEqDiff, reduceCtorEq, Nat.reduceAdd, Nat.reduceLeDiff, Nat.reduceLT, reduceIte, Int.reduceBEq, Int.reduceBNe, Int.reduceLT, Int.reduceLE, Int.reduceAdd, Int.reduceSub, Int.reduceMul, Int.reduceNeg, Int.reduceEq, Int.reduceNe, Nat.reduceMul, Nat.reduceSub]
  simp (disch := first | assumption | omega) only [msgA, msgC, go_sem, ↓reduceIte, Nat.reduceEqDiff, reduceCtorEq, Nat.reduceAdd, Nat.reduceLeDiff, Nat.reduceLT, reduceIte, Int.reduceBEq, Int.reduceBNe, Int.reduceLT, Int.reduceLE, Int.reduceAdd, Int.reduceSub, Int.reduceMul, Int.reduceNeg, Int.reduceEq, Int.reduceNe, Nat.reduceMul, Nat.reduceSub]
  refine callG_ok (Check_ok o m ho hl _) (by simp (disch := first | assumption | omega) only [msgC, go_sem, ↓reduceIte, Nat.reduceEqDiff, reduceCtorEq, Nat.reduceAdd, Nat.reduceLeDiff, Nat.reduceLT, reduceIte, Int.reduceBEq, Int.reduceBNe, Int.reduceLT, Int.reduceLE, Int.reduceAdd, Int.reduceSub, Int.reduceMul, Int.reduceNeg, Int.reduceEq, Int.reduceNe, Nat.reduceMul, Nat.reduceSub]) ?_
  rintro _ _ ⟨rfl, hhh⟩
  rw [hhh]
  clear hhh
  by_cases hc : checkF m = 0
  · have hf := fine_of hc
    obtain ⟨k1, k2, k3, k4, k5, k6⟩ := hf
    unfold inU32 at hw
    simp (disch := first | assumption | omega) only [hc, msgC, wrapU8_mod, go_sem, ↓reduceIte, Nat.reduceEqDiff, reduceCtorEq, Nat.reduceAdd, Nat.reduceLeDiff, Nat.reduceLT, reduceIte, Int.reduceBEq, Int.reduceBNe, Int.reduceLT, Int.reduceLE, Int.reduceAdd, Int.reduceSub, Int.reduceMul, Int.reduceNeg, Int.reduceEq, Int.reduceNe, Nat.reduceMul, Nat.reduceSub]
    refine callG_ok (mfour_ok m.Seq (by omega) (by omega) _) (by simp (disch := first | assumption | omega) only [go_sem, ↓reduceIte, Nat.reduceEqDiff, reduceCtorEq, Nat.reduceAdd, Nat.reduceLeDiff, Nat.reduceLT, reduceIte, Int.reduceBEq, Int.reduceBNe, Int.reduceLT, Int.reduceLE, Int.reduceAdd, Int.reduceSub, Int.reduceMul, Int.reduceNeg, Int.reduceEq, Int.reduceNe, Nat.reduceMul, Nat.reduceSub]) ?_
    rintro _ _ ⟨rfl, hhh⟩
    rw [hhh]
    clear hhh
    simp (disch := first | assumption | omega) only [hc, msgC, wrapU8_mod, four_length, go_sem, ↓reduceIte, Nat.reduceEqDiff, reduceCtorEq, Nat.reduceAdd, Nat.reduceLeDiff, Nat.reduceLT, reduceIte, Int.reduceBEq, Int.reduceBNe, Int.reduceLT, Int.reduceLE, Int.reduceAdd, Int.reduceSub, Int.reduceMul, Int.reduceNeg, Int.reduceEq, Int.reduceNe, Nat.reduceMul, Nat.reduceSub]
    refine ⟨ints_width _, ?_⟩
    refine callG_ok (mfour_ok m.Clock (by omega) (by omega) _) (by simp (disch := first | assumption | omega) only [go_sem, ↓reduceIte, Nat.reduceEqDiff, reduceCtorEq, Nat.reduceAdd, Nat.reduceLeDiff, Nat.reduceLT, reduceIte, Int.reduceBEq, Int.reduceBNe, Int.reduceLT, Int.reduceLE, Int.reduceAdd, Int.reduceSub, Int.reduceMul, Int.reduceNeg, Int.reduceEq, Int.reduceNe, Nat.reduceMul, Nat.reduceSub]) ?_
    rintro _ _ ⟨rfl, hhh⟩
    rw [hhh]
    clear hhh
    simp (disch := first | assumption | omega) only [hc, msgC, wrapU8_mod, four_length, shr8' (Int.natCast_nonneg m.Cells.length), go_sem, ↓reduceIte, Nat.reduceEqDiff, reduceCtorEq, Nat.reduceAdd, Nat.reduceLeDiff, Nat.reduceLT, reduceIte, Int.reduceBEq, Int.reduceBNe, Int.reduceLT, Int.reduceLE, Int.reduceAdd, Int.reduceSub, Int.reduceMul, Int.reduceNeg, Int.reduceEq, Int.reduceNe, Nat.reduceMul, Nat.reduceSub]
    refine ⟨ints_width _, ?_⟩
    refine aw_count (fun d S => ∃ (i : Nat), i + d = m.Cells.length ∧ S.env 48 = .int .i64 i ∧ S.env 47 = .int .i64 m.Cells.length ∧ S.env 46 = .lst o (cellsA m.Cells) ∧ S.env 5 = .lst (.app 1) (ints .u8 (headB m ++ cellsB (m.Cells.take i))) ∧ S.heap = h) (n := m.Cells.length)
      ⟨0, by omega, by simp (disch := first | assumption | omega) only [go_sem, ↓reduceIte, Nat.reduceEqDiff, reduceCtorEq, Nat.reduceAdd, Nat.reduceLeDiff, Nat.reduceLT, reduceIte, Int.reduceBEq, Int.reduceBNe, Int.reduceLT, Int.reduceLE, Int.reduceAdd, Int.reduceSub, Int.reduceMul, Int.reduceNeg, Int.reduceEq, Int.reduceNe, Nat.reduceMul, Nat.reduceSub], by simp (disch := first | assumption | omega) only [go_sem, ↓reduceIte, Nat.reduceEqDiff, reduceCtorEq, Nat.reduceAdd, Nat.reduceLeDiff, Nat.reduceLT, reduceIte, Int.reduceBEq, Int.reduceBNe, Int.reduceLT, Int.reduceLE, Int.reduceAdd, Int.reduceSub, Int.reduceMul, Int.reduceNeg, Int.reduceEq, Int.reduceNe, Nat.reduceMul, Nat.reduceSub], by simp (disch := first | assumption | omega) only [msgC, go_sem, ↓reduceIte, Nat.reduceEqDiff, reduceCtorEq, Nat.reduceAdd, Nat.reduceLeDiff, Nat.reduceLT, reduceIte, Int.reduceBEq, Int.reduceBNe, Int.reduceLT, Int.reduceLE, Int.reduceAdd, Int.reduceSub, Int.reduceMul, Int.reduceNeg, Int.reduceEq, Int.reduceNe, Nat.reduceMul, Nat.reduceSub], by simp (disch := first | assumption | omega) only [headB, cellsB, four, be4, be2, ints, List.map_append, List.flatMap_nil, go_sem, ↓reduceIte, Nat.reduceEqDiff, reduceCtorEq, Nat.reduceAdd, Nat.reduceLeDiff, Nat.reduceLT, reduceIte, Int.reduceBEq, Int.reduceBNe, Int.reduceLT, Int.reduceLE, Int.reduceAdd, Int.reduceSub, Int.reduceMul, Int.reduceNeg, Int.reduceEq, Int.reduceNe, Nat.reduceMul, Nat.reduceSub], by simp (disch := first | assumption | omega) only [go_sem, ↓reduceIte, Nat.reduceEqDiff, reduceCtorEq, Nat.reduceAdd, Nat.reduceLeDiff, Nat.reduceLT, reduceIte, Int.reduceBEq, Int.reduceBNe, Int.reduceLT, Int.reduceLE, Int.reduceAdd, Int.reduceSub, Int.reduceMul, Int.reduceNeg, Int.reduceEq, Int.reduceNe, Nat.reduceMul, Nat.reduceSub]⟩ ?_
    rintro d S ⟨i, hi, e48, e47, e46, e5, eh⟩
    simp (disch := first | assumption | omega) only [e48, e47, e46, e5, eh, go_sem, ↓reduceIte, Nat.reduceEqDiff, reduceCtorEq, Nat.reduceAdd, Nat.reduceLeDiff, Nat.reduceLT, reduceIte, Int.reduceBEq, Int.reduceBNe, Int.reduceLT, Int.reduceLE, Int.reduceAdd, Int.reduceSub, Int.reduceMul, Int.reduceNeg, Int.reduceEq, Int.reduceNe, Nat.reduceMul, Nat.reduceSub]
    refine condG_if (fun hlt => ?_) fun hge => ?_
    · have hlt : i < m.Cells.length := by omega
      have hat := at_cells hlt
      have hon := k6 _ (List.getElem_mem hlt)
      unfold onG at hon
      have hst := take_snoc hlt
      have hcl : (headB m).length + (cellsB (m.Cells.take i)).length ≤ 813 := by
        rw [headB_length, cellsB_length, List.length_take]; omega
      simp (disch := first | assumption | omega) only [e48, e47, e46, e5, eh, hat, cellA, hlt, wrapU8_mod, go_sem, ↓reduceIte, Nat.reduceEqDiff, reduceCtorEq, Nat.reduceAdd, Nat.reduceLeDiff, Nat.reduceLT, reduceIte, Int.reduceBEq, Int.reduceBNe, Int.reduceLT, Int.reduceLE, Int.reduceAdd, Int.reduceSub, Int.reduceMul, Int.reduceNeg, Int.reduceEq, Int.reduceNe, Nat.reduceMul, Nat.reduceSub]
      refine ⟨by omega, by omega, d - 1, by omega, i + 1, by omega, by simp, ?_⟩
      rw [hst, cellsB_snoc, ← List.append_assoc, ← ints_append _ (cellB _)]
      rfl
    · obtain rfl : i = m.Cells.length := by omega
      rw [List.take_length, ← bodyB_head] at e5
      have hbl := bodyB_length m
      simp (disch := first | assumption | omega) only [e48, e47, e46, e5, eh, go_sem, ↓reduceIte, Nat.reduceEqDiff, reduceCtorEq, Nat.reduceAdd, Nat.reduceLeDiff, Nat.reduceLT, reduceIte, Int.reduceBEq, Int.reduceBNe, Int.reduceLT, Int.reduceLE, Int.reduceAdd, Int.reduceSub, Int.reduceMul, Int.reduceNeg, Int.reduceEq, Int.reduceNe, Nat.reduceMul, Nat.reduceSub]
      refine callG_ok (Sum_ok .sh (bodyB m) (.inl rfl) (bodyB_u8 m) (by omega) _) (by simp (disch := first | assumption | omega) only [go_sem, ↓reduceIte, Nat.reduceEqDiff, reduceCtorEq, Nat.reduceAdd, Nat.reduceLeDiff, Nat.reduceLT, reduceIte, Int.reduceBEq, Int.reduceBNe, Int.reduceLT, Int.reduceLE, Int.reduceAdd, Int.reduceSub, Int.reduceMul, Int.reduceNeg, Int.reduceEq, Int.reduceNe, Nat.reduceMul, Nat.reduceSub]) ?_
      rintro _ _ ⟨rfl, hhh⟩
      rw [hhh]
      clear hhh
      have hib := iv_bd (crc (bodyB m))
      simp (disch := first | assumption | omega) only [e48, e47, e46, e5, eh, go_sem, ↓reduceIte, Nat.reduceEqDiff, reduceCtorEq, Nat.reduceAdd, Nat.reduceLeDiff, Nat.reduceLT, reduceIte, Int.reduceBEq, Int.reduceBNe, Int.reduceLT, Int.reduceLE, Int.reduceAdd, Int.reduceSub, Int.reduceMul, Int.reduceNeg, Int.reduceEq, Int.reduceNe, Nat.reduceMul, Nat.reduceSub]
      refine callG_ok (mfour_ok (iv (crc (bodyB m))) hib.1 hib.2 _) (by simp (disch := first | assumption | omega) only [go_sem, ↓reduceIte, Nat.reduceEqDiff, reduceCtorEq, Nat.reduceAdd, Nat.reduceLeDiff, Nat.reduceLT, reduceIte, Int.reduceBEq, Int.reduceBNe, Int.reduceLT, Int.reduceLE, Int.reduceAdd, Int.reduceSub, Int.reduceMul, Int.reduceNeg, Int.reduceEq, Int.reduceNe, Nat.reduceMul, Nat.reduceSub]) ?_
      rintro _ _ ⟨rfl, hhh⟩
      rw [hhh]
      clear hhh
      simp (disch := first | assumption | omega) only [e48, e47, e46, e5, eh, four_length, go_sem, ↓reduceIte, Nat.reduceEqDiff, reduceCtorEq, Nat.reduceAdd, Nat.reduceLeDiff, Nat.reduceLT, reduceIte, Int.reduceBEq, Int.reduceBNe, Int.reduceLT, Int.reduceLE, Int.reduceAdd, Int.reduceSub, Int.reduceMul, Int.reduceNeg, Int.reduceEq, Int.reduceNe, Nat.reduceMul, Nat.reduceSub]
      refine ⟨ints_width _, by omega, by omega, ?_⟩
      subst hQ
      simp (disch := first | assumption | omega) only [R.msg_Write, e48, e47, e46, e5, eh, go_sem, ↓reduceIte, Nat.reduceEqDiff, reduceCtorEq, Nat.reduceAdd, Nat.reduceLeDiff, Nat.reduceLT, reduceIte, Int.reduceBEq, Int.reduceBNe, Int.reduceLT, Int.reduceLE, Int.reduceAdd, Int.reduceSub, Int.reduceMul, Int.reduceNeg, Int.reduceEq, Int.reduceNe, Nat.reduceMul, Nat.reduceSub]
      rw [ints_append]
      exact .inr ⟨hc, rfl⟩
  · simp (disch := first | assumption | omega) only [hc, go_sem, ↓reduceIte, Nat.reduceEqDiff, reduceCtorEq, Nat.reduceAdd, Nat.reduceLeDiff, Nat.reduceLT, reduceIte, Int.reduceBEq, Int.reduceBNe, Int.reduceLT, Int.reduceLE, Int.reduceAdd, Int.reduceSub, Int.reduceMul, Int.reduceNeg, Int.reduceEq, Int.reduceNe, Nat.reduceMul, Nat.reduceSub]
    subst hQ
    simp (disch := first | assumption | omega) only [R.msg_Write, go_sem, ↓reduceIte, Nat.reduceEqDiff, reduceCtorEq, Nat.reduceAdd, Nat.reduceLeDiff, Nat.reduceLT, reduceIte, Int.reduceBEq, Int.reduceBNe, Int.reduceLT, Int.reduceLE, Int.reduceAdd, Int.reduceSub, Int.reduceMul, Int.reduceNeg, Int.reduceEq, Int.reduceNe, Nat.reduceMul, Nat.reduceSub]
    exact .inl ⟨hc, rfl⟩
end Go.Proofs.Ytpdajkbfemcdlaa
