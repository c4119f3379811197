/- Reading: what an operand's value is related to. -/
import Derived.Test.YtpdajkbfemcdlaaGeRel
namespace Go.Ge

/-- A value as an operand: addresses of boxes too. -/
def RT (g : Gh) (w : World) (x : AVal) (v : Value) : Prop :=
  match x with
  | .box s off => v = .pointer (some ⟨g.ib s, off, none⟩)
  | x => RI g w x v
theorem RT.of_RI {g : Gh} {w : World} {x : AVal} {v : Value} (h : RI g w x v) : RT g w x v := by
  unfold RT; split
  · simp [RI] at h
  · exact h
theorem RI.of_RT {g : Gh} {w : World} {x : AVal} {v : Value} (hx : noBox x = true) (h : RT g w x v) : RI g w x v := by
  unfold RT at h; split at h
  · simp [noBox] at hx
  · exact h

/-- No right to append, nothing held alone. -/
def flc : AVal → Bool
  | .lst (.app _) _ | .lst (.uniq _ _) _ => false
  | _ => true
theorem RVc.of_RI {g : Gh} {w : World} {o : Ow} {x : AVal} {v : Value} (hf : flc x = true) (h : RI g w x v) : RVc g w o x v := by
  unfold RVc; split
  · simp [flc] at hf
  · simp [flc] at hf
  · exact h
theorem flc_rdc (x : AVal) : flc (rdc x) = true := by
  unfold rdc; split <;> simp_all [flc]
theorem RI_rdc {g : Gh} {w : World} {o : Ow} {x : AVal} {v : Value} (h : RVc g w o x v) : RI g w (rdc x) v := by
  unfold rdc; split
  · simpa [RVc] using h
  · simp [RI]
  · rename_i o' xs h1 h2
    cases o' with
    | sh => simpa [RVc] using h
    | nil => exact absurd rfl (h1)
    | app sz =>
      simp only [RVc] at h
      obtain ⟨A, c, us, e, hl, h, _, hc, _⟩ := h
      simp only [RI]
      exact ⟨A, c, us, e, hl, h, hc, trivial⟩
    | uniq sz c => exact absurd rfl (h2 sz c)
  · simp [RI]
  · simp [RI]
  · unfold RVc at h; split at h
    · simp_all
    · simp_all
    · exact h
theorem RIs_rdc {g : Gh} {w : World} {own : Nat → Ow} : ∀ (xs : List AVal) (i : Nat) (us : List Value), RVs g w own i xs us → RIs g w (xs.map rdc) us
  | [], _, _, h => by simpa [RVs, RIs] using h
  | a :: as, i, us, h => by
    simp only [RVs] at h
    obtain ⟨u, us', e, h1, h2⟩ := h
    simp only [List.map, RIs]
    exact ⟨u, us', e, RI_rdc h1, RIs_rdc as (i + 1) us' h2⟩
theorem RVs.of_RIs {g : Gh} {w : World} {own : Nat → Ow} : ∀ (xs : List AVal) (i : Nat) (us : List Value), (∀ x ∈ xs, flc x = true) → RIs g w xs us → RVs g w own i xs us
  | [], _, _, _, h => by simpa [RVs, RIs] using h
  | a :: as, i, us, hf, h => by
    simp only [RIs] at h
    obtain ⟨u, us', e, h1, h2⟩ := h
    simp only [RVs]
    exact ⟨u, us', e, RVc.of_RI (hf a (by simp)) h1, RVs.of_RIs as (i + 1) us' (fun x hx => hf x (by simp [hx])) h2⟩

def fl1 : AVal → Bool
  | .agg cs => cs.all flc
  | v => flc v
def flv : AVal → Bool
  | .tup vs => vs.all fl1
  | v => fl1 v
theorem RV1.of_RI {g : Gh} {w : World} {own : List Nat → Ow} {x : AVal} {v : Value} (hf : fl1 x = true) (h : RI g w x v) : RV1 g w own x v := by
  unfold RV1; split
  · rename_i cs
    simp only [RI] at h
    obtain ⟨us, e, h⟩ := h
    exact ⟨us, e, RVs.of_RIs _ _ _ (by simpa [fl1] using hf) h⟩
  · rename_i hx
    refine RVc.of_RI ?_ h
    cases x <;> first | exact hf | exact absurd rfl (hx _)
theorem RVt.of_RIs {g : Gh} {w : World} {own : List Nat → Ow} : ∀ (xs : List AVal) (i : Nat) (us : List Value), (∀ x ∈ xs, fl1 x = true) → RIs g w xs us → RVt g w own i xs us
  | [], _, _, _, h => by simpa [RVt, RIs] using h
  | a :: as, i, us, hf, h => by
    simp only [RIs] at h
    obtain ⟨u, us', e, h1, h2⟩ := h
    simp only [RVt]
    exact ⟨u, us', e, RV1.of_RI (hf a (by simp)) h1, RVt.of_RIs as (i + 1) us' (fun x hx => hf x (by simp [hx])) h2⟩
theorem RV.of_RT {g : Gh} {w : World} {own : List Nat → Ow} {x : AVal} {v : Value} (hf : flv x = true) (h : RT g w x v) : RV g w own x v := by
  unfold RV; split
  · rename_i vs
    simp only [RT, RI] at h
    obtain ⟨us, e, h⟩ := h
    exact ⟨us, e, RVt.of_RIs _ _ _ (by simpa [flv] using hf) h⟩
  · simpa [RT] using h
  · rename_i h1 h2
    refine RV1.of_RI (own := own) ?_ ?_
    · cases x <;> first | exact hf | exact absurd rfl (h1 _)
    · unfold RT at h; split at h
      · exact absurd rfl (h2 _ _)
      · exact h
theorem fl1_rd1 (x : AVal) : fl1 (rd1 x) = true := by
  cases x with
  | agg cs => simp only [rd1, fl1, List.all_map, List.all_eq_true]; exact fun x _ => flc_rdc x
  | lst o xs => cases o <;> rfl
  | _ => rfl
theorem flv_rdv (x : AVal) : flv (rdv x) = true := by
  cases x with
  | tup vs => simp only [rdv, flv, List.all_map, List.all_eq_true]; exact fun x _ => fl1_rd1 x
  | lst o xs => cases o <;> rfl
  | agg cs => exact fl1_rd1 (.agg cs)
  | _ => rfl
theorem RI_rd1 {g : Gh} {w : World} {own : List Nat → Ow} {x : AVal} {v : Value} (h : RV1 g w own x v) : RI g w (rd1 x) v := by
  unfold RV1 at h; split at h
  · obtain ⟨us, e, h⟩ := h
    simp only [rd1, RI]
    exact ⟨us, e, RIs_rdc _ _ _ h⟩
  · rename_i hx
    have : rd1 x = rdc x := by cases x <;> first | rfl | exact absurd rfl (hx _)
    rw [this]; exact RI_rdc h
theorem RIs_rd1 {g : Gh} {w : World} {own : List Nat → Ow} : ∀ (xs : List AVal) (i : Nat) (us : List Value), RVt g w own i xs us → RIs g w (xs.map rd1) us
  | [], _, _, h => by simpa [RVt, RIs] using h
  | a :: as, i, us, h => by
    simp only [RVt] at h
    obtain ⟨u, us', e, h1, h2⟩ := h
    simp only [List.map, RIs]
    exact ⟨u, us', e, RI_rd1 h1, RIs_rd1 as (i + 1) us' h2⟩
/-- A slot's value as it is read. -/
theorem RT_rdv {g : Gh} {w : World} {own : List Nat → Ow} {x : AVal} {v : Value} (h : RV g w own x v) : RT g w (rdv x) v := by
  unfold RV at h; split at h
  · obtain ⟨us, e, h⟩ := h
    simp only [rdv, RT, RI]
    exact ⟨us, e, RIs_rd1 _ _ _ h⟩
  · simpa [RT, rdv, rd1, rdc] using h
  · rename_i h1 h2
    have : rdv x = rd1 x := by cases x <;> first | rfl | exact absurd rfl (h1 _)
    rw [this]; exact RT.of_RI (RI_rd1 h)

/-! ### Sizes, parts -/
theorem RIs.length {g : Gh} {w : World} : ∀ {xs : List AVal} {us : List Value}, RIs g w xs us → us.length = xs.length
  | [], us, h => by simp [RIs] at h; simp [h]
  | a :: as, us, h => by
    simp only [RIs] at h
    obtain ⟨u, us', rfl, _, h2⟩ := h
    simp [RIs.length h2]
theorem RIs.get {g : Gh} {w : World} : ∀ {xs : List AVal} {us : List Value}, RIs g w xs us → ∀ (i : Nat) (x : AVal), xs[i]? = some x → ∃ u : Value, us[i]? = some u ∧ RI g w x u
  | [], us, h, i, x, hx => by simp at hx
  | a :: as, us, h, i, x, hx => by
    simp only [RIs] at h
    obtain ⟨u, us', rfl, h1, h2⟩ := h
    cases i with
    | zero => simp at hx; subst hx; exact ⟨u, by simp, h1⟩
    | succ i => simpa using RIs.get h2 i x (by simpa using hx)
theorem RIs.of_get {g : Gh} {w : World} : ∀ {xs : List AVal} {us : List Value}, us.length = xs.length → (∀ (i : Nat) (x : AVal) (u : Value), xs[i]? = some x → us[i]? = some u → RI g w x u) → RIs g w xs us
  | [], us, h, _ => by simp at h; simp [RIs, h]
  | a :: as, us, h, hg => by
    cases us with
    | nil => simp at h
    | cons u us =>
      simp only [RIs]
      exact ⟨u, us, rfl, hg 0 a u (by simp) (by simp), RIs.of_get (by simpa using h) fun i x u' hx hu => hg (i + 1) x u' (by simpa using hx) (by simpa using hu)⟩
theorem RIs.drop {g : Gh} {w : World} (n : Nat) {xs : List AVal} {us : List Value} (h : RIs g w xs us) : RIs g w (xs.drop n) (us.drop n) := by
  have hl := h.length
  refine RIs.of_get (by simp [hl]) fun i x u hx hu => ?_
  rw [List.getElem?_drop] at hx hu
  obtain ⟨u', h1, h2⟩ := h.get _ _ hx
  rw [h1] at hu; cases hu; exact h2
theorem RIs.take {g : Gh} {w : World} (n : Nat) {xs : List AVal} {us : List Value} (h : RIs g w xs us) : RIs g w (xs.take n) (us.take n) := by
  have hl := h.length
  refine RIs.of_get (by simp [hl]) fun i x u hx hu => ?_
  have hi : i < n := by
    rcases Nat.lt_or_ge i n with h' | h'
    · exact h'
    · simp [List.getElem?_take, Nat.not_lt.2 h'] at hx
  rw [List.getElem?_take_of_lt hi] at hx hu
  obtain ⟨u', h1, h2⟩ := h.get _ _ hx
  rw [h1] at hu; cases hu; exact h2
theorem RIs.append {g : Gh} {w : World} {xs ys : List AVal} {us vs : List Value} (h : RIs g w xs us) (k : RIs g w ys vs) : RIs g w (xs ++ ys) (us ++ vs) := by
  have hl := h.length
  refine RIs.of_get (by simp [hl, k.length]) fun i x u hx hu => ?_
  rcases Nat.lt_or_ge i xs.length with h' | h'
  · rw [List.getElem?_append_left h'] at hx
    rw [List.getElem?_append_left (by omega)] at hu
    obtain ⟨u', h1, h2⟩ := h.get _ _ hx
    rw [h1] at hu; cases hu; exact h2
  · rw [List.getElem?_append_right h'] at hx
    rw [List.getElem?_append_right (by omega), hl] at hu
    obtain ⟨u', h1, h2⟩ := k.get _ _ hx
    rw [h1] at hu; cases hu; exact h2
theorem RVs.length {g : Gh} {w : World} {own : Nat → Ow} : ∀ {xs : List AVal} {i : Nat} {us : List Value}, RVs g w own i xs us → us.length = xs.length
  | [], _, us, h => by simp [RVs] at h; simp [h]
  | a :: as, i, us, h => by
    simp only [RVs] at h
    obtain ⟨u, us', rfl, _, h2⟩ := h
    simp [RVs.length h2]
theorem RVs.get {g : Gh} {w : World} {own : Nat → Ow} : ∀ {xs : List AVal} {i : Nat} {us : List Value}, RVs g w own i xs us → ∀ (j : Nat) (x : AVal), xs[j]? = some x → ∃ u : Value, us[j]? = some u ∧ RVc g w (own (i + j)) x u
  | [], _, us, h, j, x, hx => by simp at hx
  | a :: as, i, us, h, j, x, hx => by
    simp only [RVs] at h
    obtain ⟨u, us', rfl, h1, h2⟩ := h
    cases j with
    | zero => simp at hx; subst hx; exact ⟨u, by simp, h1⟩
    | succ j =>
      have := RVs.get h2 j x (by simpa using hx)
      simpa [Nat.add_assoc, Nat.add_comm 1 j] using this
theorem RVs.of_get {g : Gh} {w : World} {own : Nat → Ow} : ∀ {xs : List AVal} {i : Nat} {us : List Value}, us.length = xs.length → (∀ (j : Nat) (x : AVal) (u : Value), xs[j]? = some x → us[j]? = some u → RVc g w (own (i + j)) x u) → RVs g w own i xs us
  | [], _, us, h, _ => by simp at h; simp [RVs, h]
  | a :: as, i, us, h, hg => by
    cases us with
    | nil => simp at h
    | cons u us =>
      simp only [RVs]
      refine ⟨u, us, rfl, hg 0 a u (by simp) (by simp), RVs.of_get (by simpa using h) fun j x u' hx hu => ?_⟩
      have := hg (j + 1) x u' (by simpa using hx) (by simpa using hu)
      simpa [Nat.add_assoc, Nat.add_comm 1 j] using this

/-- A value that is no mark has the cells that it says. -/
theorem RI.width {g : Gh} {w : World} {x : AVal} {v : Value} (h : RI g w x v) (hx : 0 < x.width) : v.cells.size = x.width := by
  cases x <;> simp only [RI] at h <;> try (simp [AVal.width] at hx; done)
  all_goals first
    | (subst h; rfl)
    | (obtain ⟨us, rfl, h⟩ := h; simp [Value.cells, AVal.width, ← h.length]; done)
    | (obtain ⟨us, rfl, h⟩ := h; rfl)
    | (obtain ⟨A, c, us, rfl, _⟩ := h; rfl)
    | (obtain ⟨b, off, us, rfl, _⟩ := h; rfl)
    | (obtain ⟨_, rfl⟩ := h; rfl)
    | (obtain ⟨_, c, _, rfl⟩ := h; rfl)
    | exact h.elim
/-- The cells of a value. -/
theorem RI.cells {g : Gh} {w : World} {x : AVal} {v : Value} (h : RI g w x v) (hx : 0 < x.width) : RIs g w x.cells v.cells.toList := by
  have hs := h.width hx
  cases x with
  | agg cs =>
    simp only [RI] at h
    obtain ⟨us, rfl, h⟩ := h
    simpa [AVal.cells, Value.cells] using h
  | junk => simp [AVal.width] at hx
  | tup vs => simp [AVal.width] at hx
  | _ =>
    simp only [AVal.cells, RIs]
    refine ⟨v, [], ?_, h, rfl⟩
    cases v <;> first
      | rfl
      | (simp only [RI] at h; done)
      | (simp only [RI] at h; first | (cases h; done) | (obtain ⟨_, h, _⟩ := h; cases h; done) | (obtain ⟨_, _, _, h, _⟩ := h; cases h; done) | (obtain ⟨_, h⟩ := h; cases h; done) | (obtain ⟨_, _, _, h⟩ := h; cases h; done))
end Go.Ge
