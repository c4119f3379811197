/- The middle of two clocks is between them, and the latest of close readings is the latest one; what is left to prove of the row, over numbers and lists alone: conditions: the arguments are of their kinds, the list within its reach. -/
import Derived.Test.YtjngdnemappcdaaPClockBetweenx1
namespace Go.Proofs.Ytjngdnemappcdaa.Pure
open Go.RowKit Go.Proofs.Ytjngdnemappcdaa.PClockBetween Go.Proofs.YtjngdnemappcdaaW.PrintWords Go.Proofs.YtjngdnemappcdaaW.PrintLast

theorem u32_wf' {a : Int} (h : (Lit.int .u32 a).wf = true) : 0 ≤ a ∧ a < 4294967296 := by
  simp [Lit.wf, IntKind.min, IntKind.max, IntKind.bits, IntKind.signed] at h
  omega

def modI (x n : Int) : Int := if Int.tmod x n < 0 then Int.tmod x n + n else Int.tmod x n
theorem modI_bd (x n : Int) (hn : 0 < n) : 0 ≤ modI x n ∧ modI x n < n := by
  have h1 := Int.tmod_lt_of_pos x hn
  have h2 : -n < Int.tmod x n := Int.lt_tmod_of_pos x hn
  unfold modI; split <;> omega
theorem below_mod (x n : Int) (hn : 0 < n) (hn2 : n < 4611686018427387904) : gantmake_Below.f x n = some (modI x n) := by
  unfold gantmake_Below.f modI
  have h1 := Int.tmod_lt_of_pos x hn
  have h2 : -n < Int.tmod x n := Int.lt_tmod_of_pos x hn
  rw [if_neg (by omega)]
  by_cases h : Int.tmod x n < 0
  · rw [if_pos h, if_pos h]; congr 1; unfold wrap64; omega
  · rw [if_neg h, if_neg h]

def D (x y : Int) : Int := wrap64 (wrap32 ((x - y) % 4294967296))
theorem diff_D (x y : Int) : clock_Diff.f x y = some (D x y) := rfl

theorem wr (i : Int) (n : Nat) (h0 : 0 ≤ i) (h : i < n) (hn : n ≤ 17592186043904) : wrap64 (i + 1) = i + 1 := by
  unfold wrap64; omega

section
variable (l : List Int) (hn : l.length ≤ 17592186043904)
include hn
theorem l1_good (i v : Int) : ∀ d (j : Nat), j ≤ l.length → l.length - j = d → (∀ j' : Nat, j ≤ j' → j' < l.length → D (rd l j') v ≤ 0) →
    ∃ k, clock_Latest.l1 k l i v true l l.length i l l.length j = some i := by
  intro d
  induction d with
  | zero =>
    intro j h1 h2 _
    refine ⟨1, ?_⟩
    simp only [clock_Latest.l1]
    rw [if_neg (by omega)]; simp
  | succ d ih =>
    intro j h1 h2 h
    obtain ⟨k, hk⟩ := ih (j + 1) (by omega) (by omega) (fun j' hj => h j' (by omega))
    refine ⟨k + 1, ?_⟩
    simp only [clock_Latest.l1]
    rw [if_pos (by omega), if_pos (by omega), if_pos (by omega), diff_D]
    simp only [Option.bind_some, if_true]
    rw [decide_eq_true (h j (by omega) (by omega)), wr j l.length (by omega) (by omega) hn]
    exact hk
theorem l1_bad (i v r : Int) (hnext : ∃ k, clock_Latest.l0 k l l l.length (i + 1) = some r) (hi : wrap64 (i + 1) = i + 1) : ∀ d (j : Nat) (ok : Bool), j ≤ l.length → l.length - j = d →
    (ok = false ∨ ∃ j' : Nat, j ≤ j' ∧ j' < l.length ∧ 0 < D (rd l j') v) →
    ∃ k, clock_Latest.l1 k l i v ok l l.length i l l.length j = some r := by
  intro d
  induction d with
  | zero =>
    intro j ok h1 h2 h
    obtain ⟨k, hk⟩ := hnext
    refine ⟨k + 1, ?_⟩
    simp only [clock_Latest.l1]
    rw [if_neg (by omega)]
    rcases h with rfl | ⟨j', h3, h4, _⟩
    · simp [hi, hk]
    · omega
  | succ d ih =>
    intro j ok h1 h2 h
    cases ok with
    | false =>
      obtain ⟨k, hk⟩ := ih (j + 1) false (by omega) (by omega) (.inl rfl)
      refine ⟨k + 1, ?_⟩
      simp only [clock_Latest.l1]
      rw [if_pos (by omega), if_pos (by omega), if_pos (by omega)]
      simp only [Bool.false_eq_true, if_false]
      rw [wr j l.length (by omega) (by omega) hn]
      exact hk
    | true =>
      obtain ⟨j', h3, h4, h5⟩ : ∃ j' : Nat, j ≤ j' ∧ j' < l.length ∧ 0 < D (rd l j') v := by
        rcases h with h | h
        · cases h
        · exact h
      have : (decide (D (rd l j) v ≤ 0) = false ∨ ∃ j' : Nat, j + 1 ≤ j' ∧ j' < l.length ∧ 0 < D (rd l j') v) := by
        by_cases e : j' = j
        · subst e; left; exact decide_eq_false (by omega)
        · exact .inr ⟨j', by omega, h4, h5⟩
      obtain ⟨k, hk⟩ := ih (j + 1) _ (by omega) (by omega) this
      refine ⟨k + 1, ?_⟩
      simp only [clock_Latest.l1]
      rw [if_pos (by omega), if_pos (by omega), if_pos (by omega), diff_D]
      simp only [Option.bind_some, if_true]
      rw [wr j l.length (by omega) (by omega) hn]
      exact hk
theorem latest (b : Nat) (hb : b < l.length) (good : ∀ j : Nat, j < l.length → D (rd l j) (rd l b) ≤ 0) (bad : ∀ i : Nat, i < b → 0 < D (rd l b) (rd l i)) :
    ∃ k, clock_Latest.f k l = some (b : Int) := by
  have key : ∀ d (i : Nat), i ≤ b → b - i = d → ∃ k, clock_Latest.l0 k l l l.length i = some (b : Int) := by
    intro d
    induction d with
    | zero =>
      intro i h1 h2
      obtain rfl : i = b := by omega
      obtain ⟨k, hk⟩ := l1_good l hn i (rd l i) l.length 0 (by omega) (by omega) (fun j' _ h => good j' h)
      refine ⟨k + 1, ?_⟩
      simp only [clock_Latest.l0]
      rw [if_pos (by omega), if_pos (by omega), if_pos (by omega)]
      exact hk
    | succ d ih =>
      intro i h1 h2
      obtain ⟨k, hk⟩ := l1_bad l hn i (rd l i) b (ih (i + 1) (by omega) (by omega)) (wr i l.length (by omega) (by omega) hn) l.length 0 true (by omega) (by omega)
        (.inr ⟨b, by omega, hb, bad i (by omega)⟩)
      refine ⟨k + 1, ?_⟩
      simp only [clock_Latest.l0]
      rw [if_pos (by omega), if_pos (by omega), if_pos (by omega)]
      exact hk
  exact key b 0 (by omega) (by omega)
end
theorem latest_none : ∃ k, clock_Latest.f k [] = some (-1) := ⟨1, by simp [clock_Latest.f, clock_Latest.l0]⟩

/-- The readings that belong to offsets. -/
def rds (a : Int) (xs : List Int) : List Int := xs.map fun x => (a + modI x 1073741824 % 4294967296) % 4294967296
theorem rds_length (a : Int) (xs : List Int) : (rds a xs).length = xs.length := by simp [rds]
theorem rd_rds (a : Int) (xs : List Int) (j : Nat) (h : j < xs.length) : rd (rds a xs) j = (a + modI (rd xs j) 1073741824 % 4294967296) % 4294967296 := by
  simp [rd, rds, List.getD_eq_getElem?_getD, h]
theorem D_rds (a : Int) (xs : List Int) (i j : Nat) (hi : i < xs.length) (hj : j < xs.length) :
    D (rd (rds a xs) i) (rd (rds a xs) j) = modI (rd xs i) 1073741824 - modI (rd xs j) 1073741824 := by
  rw [rd_rds a xs i hi, rd_rds a xs j hj]
  have h1 := modI_bd (rd xs i) 1073741824 (by omega)
  have h2 := modI_bd (rd xs j) 1073741824 (by omega)
  unfold D wrap64 wrap32; omega

/-- The first of the greatest of the first i. -/
def Best (xs : List Int) (i : Nat) (best most : Int) : Prop :=
  (i = 0 ∧ best = -1 ∧ most = -1) ∨ ∃ b : Nat, b < i ∧ best = b ∧ most = modI (rd xs b) 1073741824 ∧
    (∀ j : Nat, j < i → modI (rd xs j) 1073741824 ≤ most) ∧ ∀ j : Nat, j < b → modI (rd xs j) 1073741824 < most

theorem take_rds (a : Int) (xs : List Int) (i : Nat) (h : i < xs.length) : rds a (xs.take (i + 1)) = rds a (xs.take i) ++ [(a + modI (rd xs i) 1073741824 % 4294967296) % 4294967296] := by
  have e : rd xs i = xs[i] := by simp [rd, List.getD_eq_getElem?_getD, h]
  rw [List.take_succ_eq_append_getElem h, e]
  unfold rds
  rw [List.map_append]; rfl

theorem loop (a : Int) (xs : List Int) (hx : xs.length ≤ 17592186043904) : ∀ d (i : Nat) (best most : Int), i ≤ xs.length → xs.length - i = d → Best xs i best most →
    ∃ k, gantkeep5_ClockBetween.l0 k a (rds a (xs.take i)) best most xs xs.length i = some true := by
  intro d
  induction d with
  | zero =>
    intro i best most h1 h2 hB
    obtain rfl : i = xs.length := by omega
    have : ∃ k, clock_Latest.f k (rds a xs) = some best := by
      rcases hB with ⟨h0, rfl, rfl⟩ | ⟨b, hb, rfl, rfl, hle, hlt⟩
      · obtain rfl : xs = [] := List.eq_nil_of_length_eq_zero h0
        exact latest_none
      · refine latest (rds a xs) (by rw [rds_length]; exact hx) b (by rw [rds_length]; exact hb) (fun j hj => ?_) (fun i hi => ?_)
        · rw [rds_length] at hj
          rw [D_rds a xs j b hj hb]
          have := hle j hj; omega
        · rw [D_rds a xs b i hb (by omega)]
          have := hlt i hi; omega
    obtain ⟨k, hk⟩ := this
    refine ⟨k + 1, ?_⟩
    simp only [gantkeep5_ClockBetween.l0]
    rw [if_neg (by omega), List.take_length, hk]
    simp
  | succ d ih =>
    intro i best most h1 h2 hB
    have hi : i < xs.length := by omega
    have hbd := modI_bd (rd xs i) 1073741824 (by omega)
    have key : ∀ best' most', Best xs (i + 1) best' most' → ∃ k, gantkeep5_ClockBetween.l0 k a (rds a (xs.take i) ++ [(a + modI (rd xs i) 1073741824 % 4294967296) % 4294967296]) best' most' xs xs.length (i + 1) = some true := by
      intro best' most' hb
      have := ih (i + 1) best' most' (by omega) (by omega) hb
      rwa [take_rds a xs i hi] at this
    by_cases hgt : modI (rd xs i) 1073741824 > most
    · obtain ⟨k, hk⟩ := key i (modI (rd xs i) 1073741824) (.inr ⟨i, by omega, rfl, rfl, fun j hj => by
          by_cases e : j = i
          · subst e; omega
          · rcases hB with ⟨h0, _⟩ | ⟨b, _, _, _, hle, _⟩
            · omega
            · have := hle j (by omega); omega,
        fun j hj => by
          rcases hB with ⟨h0, _⟩ | ⟨b, _, _, _, hle, _⟩
          · omega
          · have := hle j (by omega); omega⟩)
      refine ⟨k + 1, ?_⟩
      simp only [gantkeep5_ClockBetween.l0]
      rw [if_pos (by omega), if_pos (by omega), if_pos (by omega), below_mod _ _ (by omega) (by omega)]
      simp only [Option.bind_some, clock_After.f]
      rw [if_pos (by rw [rds_length, List.length_take]; omega)]
      rw [if_pos hgt, wr i xs.length (by omega) (by omega) hx]
      exact hk
    · obtain ⟨k, hk⟩ := key best most (by
        rcases hB with ⟨_, _, rfl⟩ | ⟨b, hb, e1, e2, hle, hlt⟩
        · omega
        · refine .inr ⟨b, by omega, e1, e2, fun j hj => ?_, hlt⟩
          by_cases e : j = i
          · subst e; omega
          · exact hle j (by omega))
      refine ⟨k + 1, ?_⟩
      simp only [gantkeep5_ClockBetween.l0]
      rw [if_pos (by omega), if_pos (by omega), if_pos (by omega), below_mod _ _ (by omega) (by omega)]
      simp only [Option.bind_some, clock_After.f]
      rw [if_pos (by rw [rds_length, List.length_take]; omega)]
      rw [if_neg hgt, wr i xs.length (by omega) (by omega) hx]
      exact hk

theorem ClockBetween : gantkeep5_ClockBetween.Pure := by
  intro a n xs ha _ _ hl _
  obtain ⟨h0, h1⟩ := u32_wf' ha
  have hx : xs.length ≤ 17592186043904 := by omega
  obtain ⟨k, hk⟩ := loop a xs hx xs.length 0 (-1) (-1) (by omega) (by omega) (.inl ⟨rfl, rfl, rfl⟩)
  have hc : gantkeep5_counts.f = some true := by simp [gantkeep5_counts.f, clock_Diff.f, clock_After.f, wrap64, wrap32]
  have hm : clock_Middle.f 10 20 = some 15 := by simp [clock_Middle.f, clock_Diff.f, clock_After.f, wrap64, wrap32]
  have hbd := modI_bd n 2147483648 (by omega)
  refine ⟨k + 1, ?_⟩
  unfold gantkeep5_ClockBetween.f
  rw [hc]; simp only [Option.bind_some, if_true]
  rw [hm]; simp only [Option.bind_some]
  simp only [gantkeep5_ClockBetween.j0]
  rw [if_neg (by decide), below_mod _ _ (by omega) (by omega)]
  simp only [Option.bind_some, clock_After.f, clock_Middle.f, clock_Diff.f]
  generalize modI n 2147483648 = m at hbd
  have e : wrap64 (wrap32 (((a + m % 4294967296) % 4294967296 - a) % 4294967296)) = m := by unfold wrap64 wrap32; omega
  have ht : Int.tdiv m 2 = m / 2 := Int.tdiv_eq_ediv_of_nonneg hbd.1
  rw [e, ht]
  have e2 : wrap64 (m / 2) = m / 2 := by unfold wrap64; omega
  rw [e2, if_pos (by unfold wrap64 wrap32; omega)]
  exact hk

end Go.Proofs.Ytjngdnemappcdaa.Pure
