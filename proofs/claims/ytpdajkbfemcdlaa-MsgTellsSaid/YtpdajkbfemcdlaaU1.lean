/- Logs as lists of numbers; sums that differ. -/
import Derived.Test.YtpdajkbfemcdlaaGeSet
import Derived.Test.YtpdajkbfemcdlaaT1
set_option linter.unusedSimpArgs false
set_option linter.unusedVariables false
namespace Go.Proofs.Ytpdajkbfemcdlaa
open Go.Ge
/-! ### Sums -/
theorem rnd_zero (c : BitVec 32) (h : rnd c = 0#32) : c = 0#32 := by
  rw [rnd_eq] at h
  cases hb : c.getLsbD 0 with
  | true =>
    exfalso
    rw [hb] at h
    have h31 := congrArg (fun x => BitVec.getLsbD x 31) h
    simp only [if_true, BitVec.getLsbD_xor, BitVec.getLsbD_ushiftRight, BitVec.getLsbD_zero] at h31
    have e1 : c.getLsbD (1 + 31) = false := BitVec.getLsbD_of_ge _ _ (by omega)
    rw [e1] at h31
    exact absurd h31 (by decide)
  | false =>
    rw [hb] at h
    simp only [Bool.false_eq_true, if_false, BitVec.xor_zero] at h
    apply BitVec.eq_of_getLsbD_eq
    intro i hi
    rw [BitVec.getLsbD_zero]
    cases i with
    | zero => exact hb
    | succ i =>
      have := congrArg (fun x => BitVec.getLsbD x i) h
      simp only [BitVec.getLsbD_ushiftRight, BitVec.getLsbD_zero] at this
      rw [Nat.add_comm]; exact this
theorem xor_eq_zero' {a b : BitVec 32} (h : a ^^^ b = 0#32) : a = b := by
  have : a ^^^ b ^^^ b = 0#32 ^^^ b := by rw [h]
  rwa [BitVec.xor_assoc, BitVec.xor_self, BitVec.xor_zero, BitVec.zero_xor] at this
theorem rnd_inj {a b : BitVec 32} (h : rnd a = rnd b) : a = b := by
  refine xor_eq_zero' (rnd_zero _ ?_)
  rw [rnd_xor, h, BitVec.xor_self]
theorem rnds_inj : ∀ (n : Nat) {a b : BitVec 32}, rnds n a = rnds n b → a = b
  | 0, _, _, h => h
  | n + 1, _, _, h => rnds_inj n (rnd_inj h)
theorem xor_left_inj' {a b c : BitVec 32} (h : a ^^^ c = b ^^^ c) : a = b := by
  have : a ^^^ c ^^^ c = b ^^^ c ^^^ c := by rw [h]
  rwa [BitVec.xor_assoc, BitVec.xor_assoc, BitVec.xor_self, BitVec.xor_zero, BitVec.xor_zero] at this
theorem sumFrom_inj : ∀ (l : List Int) {a b : BitVec 32}, sumFrom a l = sumFrom b l → a = b
  | [], _, _, h => h
  | x :: l, _, _, h => xor_left_inj' (rnds_inj 8 (sumFrom_inj l h))
theorem bv_inj {x y : Int} (hx : inU8 x) (hy : inU8 y) (h : bv x = bv y) : x = y := by
  unfold inU8 at hx hy
  rw [← iv_bv (x := x) (by omega) (by omega), ← iv_bv (x := y) (by omega) (by omega), h]
/-- One byte changed changes the sum. -/
theorem crc_one {a c : List Int} {x y : Int} (hx : inU8 x) (hy : inU8 y) (h : crc (a ++ x :: c) = crc (a ++ y :: c)) : x = y := by
  unfold crc at h
  have h := xor_left_inj' h
  unfold sumFrom at h
  rw [List.foldl_append, List.foldl_append, List.foldl_cons, List.foldl_cons] at h
  have h := sumFrom_inj c h
  have h := rnds_inj 8 h
  rw [BitVec.xor_comm, BitVec.xor_comm _ (bv y)] at h
  exact bv_inj hx hy (xor_left_inj' h)
/-! ### Bytes of numbers -/
theorem be2 (n : Int) : beBytes n 2 = [n / 256 % 256, n % 256] := by simp [beBytes]
theorem be4 (n : Int) : beBytes n 4 = [n / 256 / 256 / 256 % 256, n / 256 / 256 % 256, n / 256 % 256, n % 256] := by simp [beBytes]
theorem be2_inj {m n : Int} (h0 : 0 ≤ m) (h1 : m < 65536) (k0 : 0 ≤ n) (k1 : n < 65536) (h : beBytes m 2 = beBytes n 2) : m = n := by
  rw [be2, be2] at h
  simp only [List.cons.injEq, and_true] at h
  omega
theorem be4_inj {m n : Int} (h0 : 0 ≤ m) (h1 : m < 4294967296) (k0 : 0 ≤ n) (k1 : n < 4294967296) (h : beBytes m 4 = beBytes n 4) : m = n := by
  rw [be4, be4] at h
  simp only [List.cons.injEq, and_true] at h
  omega
theorem beBytes_u8 (n : Int) : ∀ (m : Nat), ∀ x ∈ beBytes n m, inU8 x := by
  intro m
  induction m generalizing n with
  | zero => simp [beBytes]
  | succ m ih =>
    intro x hx
    simp only [beBytes, List.mem_append, List.mem_singleton] at hx
    rcases hx with hx | rfl
    · exact ih _ x hx
    · unfold inU8; omega
/-! ### Logs -/
def four (n : Int) : List Int := beBytes n 4
theorem four_length (n : Int) : (four n).length = 4 := beBytes_length n 4
def logSum (last : Int) (r : List Int) : Int := iv (crc (four last ++ (beBytes r.length 2 ++ r)))
theorem logSum_bd (last : Int) (r : List Int) : 0 ≤ logSum last r ∧ logSum last r < 4294967296 := iv_bd _
def recB (last : Int) (r : List Int) : List Int := beBytes r.length 2 ++ r ++ four (logSum last r)
theorem recB_length (last : Int) (r : List Int) : (recB last r).length = 6 + r.length := by
  simp [recB, beBytes_length, four_length]; omega
def book : Int → List (List Int) → List Int
  | _, [] => []
  | last, r :: rs => recB last r ++ book (logSum last r) rs
def lastOf : Int → List (List Int) → Int
  | last, [] => last
  | last, r :: rs => lastOf (logSum last r) rs
theorem book_append : ∀ (last : Int) (a b : List (List Int)), book last (a ++ b) = book last a ++ book (lastOf last a) b
  | _, [], _ => rfl
  | last, r :: a, b => by simp [book, lastOf, book_append (logSum last r) a b]
theorem lastOf_append : ∀ (last : Int) (a b : List (List Int)), lastOf last (a ++ b) = lastOf (lastOf last a) b
  | _, [], _ => rfl
  | last, r :: a, b => by simp [lastOf, lastOf_append (logSum last r) a b]
theorem book_snoc (last : Int) (a : List (List Int)) (r : List Int) : book last (a ++ [r]) = book last a ++ recB (lastOf last a) r := by
  rw [book_append]; simp [book]
theorem lastOf_snoc (last : Int) (a : List (List Int)) (r : List Int) : lastOf last (a ++ [r]) = logSum (lastOf last a) r := by
  rw [lastOf_append]; rfl
theorem lastOf_bd : ∀ (last : Int) (a : List (List Int)), 0 ≤ last → last < 4294967296 → 0 ≤ lastOf last a ∧ lastOf last a < 4294967296
  | _, [], h0, h1 => ⟨h0, h1⟩
  | last, r :: a, _, _ => lastOf_bd _ a (logSum_bd last r).1 (logSum_bd last r).2
def sizeOf' (rs : List (List Int)) : Nat := (rs.map fun r => 6 + r.length).sum
theorem book_length : ∀ (last : Int) (rs : List (List Int)), (book last rs).length = sizeOf' rs
  | _, [] => rfl
  | last, r :: rs => by simp [book, sizeOf', recB_length, book_length]
theorem recB_u8 {last : Int} {r : List Int} (h : ∀ x ∈ r, inU8 x) : ∀ x ∈ recB last r, inU8 x := by
  intro x hx
  simp only [recB, four, List.mem_append] at hx
  rcases hx with (hx | hx) | hx
  · exact beBytes_u8 _ _ x hx
  · exact h x hx
  · exact beBytes_u8 _ _ x hx
theorem book_u8 : ∀ (last : Int) (rs : List (List Int)), (∀ r ∈ rs, ∀ x ∈ r, inU8 x) → ∀ x ∈ book last rs, inU8 x
  | _, [], _ => by simp [book]
  | last, r :: rs, h => by
    intro x hx
    simp only [book, List.mem_append] at hx
    rcases hx with hx | hx
    · exact recB_u8 (h r (by simp)) x hx
    · exact book_u8 _ rs (fun r hr => h r (by simp [hr])) x hx
/-- Bytes that begin with a record tell which. -/
theorem recB_prefix {last : Int} {r z : List Int} (h : recB last r <+: z) : z.take 2 = beBytes r.length 2 ∧ (z.drop 2).take r.length = r ∧ (z.drop (2 + r.length)).take 4 = four (logSum last r) ∧ 6 + r.length ≤ z.length := by
  obtain ⟨t, rfl⟩ := h
  have hl : (beBytes (r.length : Int) 2).length = 2 := beBytes_length _ _
  simp only [recB, List.append_assoc]
  refine ⟨?_, ?_, ?_, ?_⟩
  · rw [List.take_append_of_le_length (by omega)]; exact List.take_of_length_le (by omega)
  · rw [List.drop_append_of_le_length (by omega), List.drop_of_length_le (by omega), List.nil_append]
    simp
  · rw [List.drop_append, List.drop_of_length_le (by omega), List.nil_append, hl]
    rw [show 2 + r.length - 2 = r.length from by omega, List.drop_append_of_le_length (by omega), List.drop_length, List.nil_append]
    rw [List.take_append_of_le_length (by rw [four_length]; omega)]
    exact List.take_of_length_le (by rw [four_length]; omega)
  · simp [hl, four_length]; omega
theorem recB_of {last : Int} {z : List Int} {n : Nat} (h1 : z.take 2 = beBytes n 2) (hn : n < 65536) (hz : 6 + n ≤ z.length) (hs : (z.drop (2 + n)).take 4 = four (logSum last ((z.drop 2).take n))) :
    recB last ((z.drop 2).take n) <+: z := by
  have hl : ((z.drop 2).take n).length = n := by simp; omega
  refine ⟨z.drop (6 + n), ?_⟩
  have e1 : recB last ((z.drop 2).take n) = z.take 2 ++ (z.drop 2).take n ++ (z.drop (2 + n)).take 4 := by
    unfold recB; rw [hl, h1, hs]
  rw [e1]
  have e2 : z.drop (2 + n) = (z.drop 2).drop n := by rw [List.drop_drop]
  have e3 : z.drop (6 + n) = ((z.drop 2).drop n).drop 4 := by rw [List.drop_drop, List.drop_drop]; congr 1; omega
  rw [e2, e3]
  simp only [List.append_assoc, List.take_append_drop]
theorem recB_unique {l : Int} {r r' z : List Int} (h : recB l r <+: z) (h' : recB l r' <+: z) (hr : r.length < 65536) (hr' : r'.length < 65536) : r = r' := by
  obtain ⟨a1, a2, _⟩ := recB_prefix h
  obtain ⟨b1, b2, _⟩ := recB_prefix h'
  have : (r.length : Int) = r'.length := be2_inj (by omega) (by omega) (by omega) (by omega) (a1.symm.trans b1)
  have e : r.length = r'.length := by omega
  rw [← a2, ← b2, e]
theorem prefix_cases : ∀ (rs rs' : List (List Int)) (l : Int) (z : List Int), (∀ r ∈ rs, r.length < 65536) → (∀ r ∈ rs', r.length < 65536) → book l rs <+: z → book l rs' <+: z → rs <+: rs' ∨ rs' <+: rs
  | [], rs', _, _, _, _, _, _ => .inl (List.nil_prefix)
  | rs, [], _, _, _, _, _, _ => .inr (List.nil_prefix)
  | r :: rs, r' :: rs', l, z, h1, h2, k1, k2 => by
    simp only [book] at k1 k2
    have q1 : recB l r <+: z := (List.prefix_append _ _).trans k1
    have q2 : recB l r' <+: z := (List.prefix_append _ _).trans k2
    obtain rfl := recB_unique q1 q2 (h1 r (by simp)) (h2 r' (by simp))
    obtain ⟨t, rfl⟩ := q1
    rw [List.prefix_append_right_inj] at k1 k2
    rcases prefix_cases rs rs' _ t (fun r hr => h1 r (by simp [hr])) (fun r hr => h2 r (by simp [hr])) k1 k2 with h | h
    · exact .inl ((List.cons_prefix_cons).2 ⟨rfl, h⟩)
    · exact .inr ((List.cons_prefix_cons).2 ⟨rfl, h⟩)
/-- The records that bytes begin with, all of them. -/
structure IsScan (b : List Int) (rs : List (List Int)) : Prop where
  short : ∀ r ∈ rs, r.length ≤ 2000
  pre : book 0 rs <+: b
  max : ∀ r : List Int, r.length ≤ 2000 → ¬ book 0 (rs ++ [r]) <+: b
theorem IsScan.unique {b : List Int} {rs rs' : List (List Int)} (h : IsScan b rs) (h' : IsScan b rs') : rs = rs' := by
  have key : ∀ {rs rs' : List (List Int)}, IsScan b rs → IsScan b rs' → rs <+: rs' → rs = rs' := by
    rintro rs rs' h h' ⟨t, rfl⟩
    cases t with
    | nil => simp
    | cons r t =>
      exfalso
      refine h.max r (h'.short r (by simp)) ?_
      refine List.IsPrefix.trans ?_ h'.pre
      have e : book 0 (rs ++ r :: t) = book 0 (rs ++ [r]) ++ book (lastOf 0 (rs ++ [r])) t := by rw [← book_append]; simp
      rw [e]
      exact List.prefix_append _ _
  rcases prefix_cases rs rs' 0 b (fun r hr => by have := h.short r hr; omega) (fun r hr => by have := h'.short r hr; omega) h.pre h'.pre with hp | hp
  · exact key h h' hp
  · exact (key h' h hp).symm
theorem IsScan.book {rs : List (List Int)} (h : ∀ r ∈ rs, r.length ≤ 2000) : IsScan (book 0 rs) rs := by
  refine ⟨h, List.prefix_refl _, fun r _ hp => ?_⟩
  have := hp.length_le
  rw [book_snoc, List.length_append, recB_length] at this
  omega
/-- What begins with a log's beginning begins with some of its records. -/
theorem IsScan.cut {b : List Int} {rs rs' : List (List Int)} (h : IsScan b rs) (hb : b <+: Go.Proofs.Ytpdajkbfemcdlaa.book 0 rs') (h' : ∀ r ∈ rs', r.length ≤ 2000) : rs <+: rs' := by
  rcases prefix_cases rs rs' 0 (Go.Proofs.Ytpdajkbfemcdlaa.book 0 rs') (fun r hr => by have := h.short r hr; omega) (fun r hr => by have := h' r hr; omega) (h.pre.trans hb) (List.prefix_refl _) with hp | hp
  · exact hp
  · obtain ⟨t, rfl⟩ := hp
    cases t with
    | nil => simp
    | cons r t =>
      exfalso
      have := (h.pre.trans hb).length_le
      rw [book_append] at this
      simp only [Go.Proofs.Ytpdajkbfemcdlaa.book, List.length_append, recB_length] at this
      omega
theorem IsScan.u8 {b : List Int} {rs : List (List Int)} (h : IsScan b rs) (hb : ∀ x ∈ b, inU8 x) : ∀ r ∈ rs, ∀ x ∈ r, inU8 x := by
  have key : ∀ (l : Int) (rs : List (List Int)) (b : List Int), Go.Proofs.Ytpdajkbfemcdlaa.book l rs <+: b → (∀ x ∈ b, inU8 x) → ∀ r ∈ rs, ∀ x ∈ r, inU8 x := by
    intro l rs
    induction rs generalizing l with
    | nil => intro b _ _ r hr; cases hr
    | cons r rs ih =>
      intro b hp hb r' hr' x hx
      simp only [Go.Proofs.Ytpdajkbfemcdlaa.book] at hp
      obtain ⟨t, rfl⟩ := hp
      rcases List.mem_cons.1 hr' with rfl | hr'
      · exact hb x (by simp [recB, hx])
      · exact ih _ (Go.Proofs.Ytpdajkbfemcdlaa.book (logSum l r) rs) (List.prefix_refl _) (fun y hy => hb y (by simp [hy])) r' hr' x hx
  exact key 0 rs b h.pre hb
theorem sizeOf'_append (a b : List (List Int)) : sizeOf' (a ++ b) = sizeOf' a + sizeOf' b := by simp [sizeOf']
end Go.Proofs.Ytpdajkbfemcdlaa
