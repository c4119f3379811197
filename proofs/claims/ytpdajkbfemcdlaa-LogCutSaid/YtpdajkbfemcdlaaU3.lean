/- A changed byte of a log. -/
import Derived.Test.YtpdajkbfemcdlaaV3
set_option linter.unusedSimpArgs false
set_option linter.unusedVariables false
namespace Go.Proofs.Ytpdajkbfemcdlaa
open Go.Ge
theorem size_at {L : List (List Int)} {c : Nat} (hc : c < sizeOf' L) : ∃ i, i < L.length ∧ sizeOf' (L.take i) ≤ c ∧ c < sizeOf' (L.take (i + 1)) := by
  induction L generalizing c with
  | nil => simp [sizeOf'] at hc
  | cons r L ih =>
    have e : ∀ M, sizeOf' (r :: M) = 6 + r.length + sizeOf' M := fun M => by simp [sizeOf']
    rcases Nat.lt_or_ge c (6 + r.length) with h | h
    · exact ⟨0, by simp, by simp [sizeOf'], by rw [List.take_succ_cons, e]; omega⟩
    · rw [e] at hc
      obtain ⟨i, h1, h2, h3⟩ := ih (c := c - (6 + r.length)) (by omega)
      refine ⟨i + 1, by simpa using h1, ?_, ?_⟩
      · rw [List.take_succ_cons, e]; omega
      · rw [List.take_succ_cons, e]; omega
theorem set_parts {a b : List Int} {j : Nat} {y : Int} (h1 : a.length ≤ j) : (a ++ b).set j y = a ++ b.set (j - a.length) y := List.set_append_right _ _ h1
/-- Records of one length with one sum are not different in one byte. -/
theorem sum_one {last : Int} {r : List Int} {j : Nat} {y : Int} (hj : j < r.length) (hu : ∀ x ∈ r, inU8 x) (hy : inU8 y) (h : logSum last r = logSum last (r.set j y)) : y = r[j] := by
  have e1 : r = r.take j ++ r[j] :: r.drop (j + 1) := by rw [← List.drop_eq_getElem_cons hj, List.take_append_drop]
  have e2 : r.set j y = r.take j ++ y :: r.drop (j + 1) := by rw [List.set_eq_take_append_cons_drop, if_pos hj]
  unfold logSum at h
  rw [List.length_set, iv_inj] at h
  have h1 : crc ((four last ++ beBytes r.length 2 ++ r.take j) ++ r[j] :: r.drop (j + 1)) = crc ((four last ++ beBytes r.length 2 ++ r.take j) ++ y :: r.drop (j + 1)) := by
    rw [e2] at h
    have e3 : four last ++ (beBytes (r.length : Int) 2 ++ r) = (four last ++ beBytes r.length 2 ++ r.take j) ++ r[j] :: r.drop (j + 1) := by
      conv => lhs; rw [e1]
      simp
    rw [e3] at h
    rw [h]; simp
  exact (crc_one (hu _ (List.getElem_mem hj)) hy h1).symm
theorem recB_changed {last : Int} {r t : List Int} {j : Nat} {y : Int} (hr : r.length ≤ 2000) (hu : ∀ x ∈ r, inU8 x) (hy : inU8 y) (h0 : 0 ≤ last) (h1 : last < 4294967296) (hj : 2 ≤ j) (hj2 : j < 6 + r.length) (hne : ∀ x, (recB last r)[j]? = some x → y ≠ x) :
    ∀ r' : List Int, r'.length ≤ 2000 → ¬ recB last r' <+: (recB last r ++ t).set j y := by
  intro r' hr' hp
  obtain ⟨p1, p2, p3, p4⟩ := recB_prefix hp
  have hlb : (beBytes (r.length : Int) 2).length = 2 := beBytes_length _ _
  have hb : (recB last r).length = 6 + r.length := recB_length last r
  have ez : (recB last r ++ t).set j y = beBytes r.length 2 ++ ((r ++ four (logSum last r) ++ t).set (j - 2) y) := by
    have : recB last r ++ t = beBytes r.length 2 ++ (r ++ four (logSum last r) ++ t) := by simp [recB]
    rw [this, set_parts (by omega), hlb]
  rw [ez] at p1 p2 p3
  rw [List.take_append_of_le_length (by omega), List.take_of_length_le (by omega)] at p1
  have hlen : r'.length = r.length := by
    have := be2_inj (m := r.length) (n := r'.length) (by omega) (by omega) (by omega) (by omega) p1
    omega
  rw [List.drop_append_of_le_length (by omega), List.drop_of_length_le (by omega), List.nil_append, hlen] at p2
  rw [hlen, List.drop_append, List.drop_of_length_le (by omega), List.nil_append, hlb, show 2 + r.length - 2 = r.length from by omega] at p3
  rcases Nat.lt_or_ge (j - 2) r.length with hd | hd
  · -- a byte of the record
    have e1 : (r ++ four (logSum last r) ++ t).set (j - 2) y = r.set (j - 2) y ++ (four (logSum last r) ++ t) := by
      rw [List.append_assoc, List.set_append_left _ _ hd]
    rw [e1] at p2 p3
    rw [List.take_append_of_le_length (by simp), List.take_of_length_le (by simp)] at p2
    rw [List.drop_append_of_le_length (by simp), List.drop_of_length_le (by simp), List.nil_append, List.take_append_of_le_length (by simp [four_length]), List.take_of_length_le (by simp [four_length])] at p3
    rw [← p2] at p3
    have hs := be4_inj (logSum_bd last r).1 (logSum_bd last r).2 (logSum_bd last (r.set (j - 2) y)).1 (logSum_bd last (r.set (j - 2) y)).2 p3
    have := sum_one hd hu hy hs
    refine hne r[j - 2] ?_ this
    have : recB last r = beBytes r.length 2 ++ (r ++ four (logSum last r)) := by simp [recB]
    rw [this, List.getElem?_append_right (by omega), hlb, List.getElem?_append_left hd, List.getElem?_eq_getElem hd]
  · -- a byte of the sum
    have e1 : (r ++ four (logSum last r) ++ t).set (j - 2) y = r ++ ((four (logSum last r)).set (j - 2 - r.length) y ++ t) := by
      rw [List.append_assoc, set_parts hd, List.set_append_left _ _ (by rw [four_length]; omega)]
    rw [e1] at p2 p3
    rw [List.take_append_of_le_length (by omega), List.take_of_length_le (by omega)] at p2
    subst p2
    rw [List.drop_append_of_le_length (by omega), List.drop_of_length_le (by omega), List.nil_append, List.take_append_of_le_length (by simp [four_length]), List.take_of_length_le (by simp [four_length])] at p3
    have hlt : j - 2 - r.length < (four (logSum last r)).length := by rw [four_length]; omega
    have e4 : ((four (logSum last r)).set (j - 2 - r.length) y)[j - 2 - r.length]? = some y := by simp [hlt]
    rw [p3] at e4
    refine hne y ?_ rfl
    have : recB last r = beBytes r.length 2 ++ (r ++ four (logSum last r)) := by simp [recB]
    rw [this, List.getElem?_append_right (by omega), hlb, List.getElem?_append_right hd]
    exact e4
theorem cut_changed {L : List (List Int)} (hs : ∀ r ∈ L, r.length ≤ 2000) (hu : ∀ r ∈ L, ∀ x ∈ r, inU8 x) {c : Nat} {x y : Int} (hc : (book 0 L)[c]? = some x) (hno : ∀ j, j < L.length → c ≠ sizeOf' (L.take j) ∧ c ≠ sizeOf' (L.take j) + 1) (hy : inU8 y) (hne : y ≠ x) :
    ∃ i, i < L.length ∧ sizeOf' (L.take i) ≤ c ∧ IsScan ((book 0 L).set c y) (L.take i) := by
  have hlt := (List.getElem?_eq_some_iff.1 hc).1
  rw [book_length] at hlt
  obtain ⟨i, h1, h2, h3⟩ := size_at hlt
  have hl := lastOf_bd 0 (L.take i) (by omega) (by omega)
  have hbl := book_length 0 (L.take i)
  have hn := hno i h1
  have hsplit : book 0 L = book 0 (L.take i) ++ (recB (lastOf 0 (L.take i)) L[i] ++ book (logSum (lastOf 0 (L.take i)) L[i]) (L.drop (i + 1))) := by
    have : L = L.take i ++ (L[i] :: L.drop (i + 1)) := by rw [← List.drop_eq_getElem_cons h1, List.take_append_drop]
    conv => lhs; rw [this]
    rw [book_append]; rfl
  have h4 : sizeOf' (L.take (i + 1)) = sizeOf' (L.take i) + 6 + L[i].length := by rw [take_snoc h1, sizeOf'_append]; simp [sizeOf']; omega
  have hset : (book 0 L).set c y = book 0 (L.take i) ++ (recB (lastOf 0 (L.take i)) L[i] ++ book (logSum (lastOf 0 (L.take i)) L[i]) (L.drop (i + 1))).set (c - sizeOf' (L.take i)) y := by
    rw [hsplit, set_parts (by omega), hbl]
  refine ⟨i, h1, h2, fun r hr => hs r (List.mem_of_mem_take hr), ?_, fun r hr hp => ?_⟩
  · rw [hset]; exact List.prefix_append _ _
  · have hp2 := next_rec hp
    rw [hset, List.drop_append_of_le_length (by omega), List.drop_length, List.nil_append] at hp2
    refine recB_changed (hs _ (List.getElem_mem h1)) (hu _ (List.getElem_mem h1)) hy hl.1 hl.2 (by omega) (by omega) (fun z hz e => ?_) r hr hp2
    rw [hsplit, List.getElem?_append_right (by omega), hbl, List.getElem?_append_left (by rw [recB_length]; omega), hz] at hc
    cases hc; exact hne e
end Go.Proofs.Ytpdajkbfemcdlaa
