/- A clock n ticks later is later by n ticks; what is left to prove of the row, over numbers alone: conditions: the three arguments are of their kinds. -/
import Derived.Test.YtjngdnemappcdaaPClockGoesx1
namespace Go.Proofs.Ytjngdnemappcdaa.Pure
open Go.RowKit Go.Proofs.Ytjngdnemappcdaa.PClockGoes Go.Proofs.YtjngdnemappcdaaW.PrintWords Go.Proofs.YtjngdnemappcdaaW.PrintLast

theorem u32_wf {a : Int} (h : (Lit.int .u32 a).wf = true) : 0 ≤ a ∧ a < 4294967296 := by
  simp [Lit.wf, IntKind.min, IntKind.max, IntKind.bits, IntKind.signed] at h
  omega

theorem below_some (x n : Int) (hn : 0 < n) (hn2 : n < 4611686018427387904) : ∃ r, gantmake_Below.f x n = some r ∧ 0 ≤ r ∧ r < n := by
  unfold gantmake_Below.f
  have h1 := Int.tmod_lt_of_pos x hn
  have h2 : -n < Int.tmod x n := Int.lt_tmod_of_pos x hn
  rw [if_neg (by omega)]
  by_cases h : Int.tmod x n < 0
  · rw [if_pos h]; exact ⟨_, rfl, by unfold wrap64; omega, by unfold wrap64; omega⟩
  · rw [if_neg h]; exact ⟨_, rfl, by omega, by omega⟩

/-- YOURS -/
theorem ClockGoes : gantkeep5_ClockGoes.Pure := by
  intro a n k ha _ _
  obtain ⟨h0, h1⟩ := u32_wf ha
  have hc : gantkeep5_counts.f = some true := by simp [gantkeep5_counts.f, clock_Diff.f, clock_After.f, wrap64, wrap32]
  obtain ⟨n1, e1, p1, q1⟩ := below_some n 2147483648 (by omega) (by omega)
  obtain ⟨k1, e2, p2, q2⟩ := below_some k 1073741824 (by omega) (by omega)
  unfold gantkeep5_ClockGoes.f
  rw [hc]; simp only [Option.bind_some, if_true]
  rw [e1]; simp only [Option.bind_some]
  rw [e2]; simp only [Option.bind_some]
  simp only [clock_After.f, clock_Diff.f, Option.bind_some]
  have d1 : wrap64 (wrap32 (((a + n1 % 4294967296) % 4294967296 - a) % 4294967296)) = n1 := by
    unfold wrap64 wrap32; omega
  have d2 : wrap64 (wrap32 ((a - (a + n1 % 4294967296) % 4294967296) % 4294967296)) = wrap64 (-n1) := by
    unfold wrap64 wrap32; omega
  rw [if_pos d1, if_pos d2]
  congr 1
  rw [beq_iff_eq]
  unfold wrap64
  omega

end Go.Proofs.Ytjngdnemappcdaa.Pure
